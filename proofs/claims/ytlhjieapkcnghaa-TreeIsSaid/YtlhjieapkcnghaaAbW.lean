/- The abstract layer, part 10: regions, in the text's order and in any. -/
import Derived.Test.YtlhjieapkcnghaaAbT
import Derived.Orders
import Derived.OrdersIn
namespace Go.Proofs.Ytlhjieapkcnghaa
open Go.RowKit

section
variable {P : Program} {tb : Tbl}
/-! ### calls -/
theorem DRel.weak {G : Gh} {C : Nat → Nat → Prop} {w : World} {d : D} {u : Value} (h : DRel ⟨C, [], []⟩ w d u) (hc : ∀ b o, C b o → G.com b o) : DRel G w d u := by
  induction h with
  | p x u h => exact .p x u (h.mono (Nat.le_refl _) fun b o u h1 h2 => ⟨hc b o h1, h2⟩)
  | ptr nm off b h => simp at h
  | own t e size es u T h1 h2 h3 => simp at h3
  | fn f first cap us vs h1 h2 _ _ ih1 ih2 => exact .fn f first cap us vs h1 h2 ih1 ih2
  | yld t T p h => simp at h
  | sp P u b nm off i e n v h => simp at h
  | agg cs us h1 h2 _ ih => exact .agg cs us h1 h2 ih
  | tup cs us h1 _ ih => exact .tup cs us h1 ih
  | undef => exact .undef
/-- Behind a step that turns nothing below the heap's size: what is new stands for good. -/
theorem below_stp {G : Gh} {s : S} {w w' : World} (hI : Inv G s w) (h : Below w.heap.size w w') :
    Stp G w { G with com := fun b o => G.com b o ∨ (w.heap.size ≤ b ∧ b < w'.heap.size) } w' ∧ Inv { G with com := fun b o => G.com b o ∨ (w.heap.size ≤ b ∧ b < w'.heap.size) } s w' := by
  have hst : Stp G w { G with com := fun b o => G.com b o ∨ (w.heap.size ≤ b ∧ b < w'.heap.size) } w' := by
    refine ⟨⟨h.os, h.tape, h.output, h.size, fun b o u hc hu => ⟨.inl hc, ?_⟩, fun b hb _ _ => h.block b hb, fun b o hc => ?_, fun b hb => .inr hb, fun _ _ h => .inl h, fun b sh hk => by rw [shape_eq (h.block b (shape_lt hk))]; exact hk⟩, fun _ _ h => h, fun t T hT => ⟨T, hT, .refl T, fun _ => ⟨rfl, fun b hb => h.block b (hI.tok t T b hT hb).1⟩⟩⟩
    · rw [h.cell (p := ⟨b, o, none⟩) (hI.com b o hc).1]; exact hu
    · rcases hc with hc | hc
      · exact .inl hc
      · exact .inr (.inl hc.1)
  refine ⟨hst, ⟨fun b o hc => ?_, hI.names, hI.nodup, fun i b cs hb hcs => ?_, hI.live, fun t T b hT hb => ?_, hI.proS hst rfl, hI.glob.mono hst.ext.com⟩⟩
  · rcases hc with hc | hc
    · obtain ⟨h1, h2⟩ := hI.com b o hc
      exact ⟨Nat.lt_of_lt_of_le h1 h.size, h2⟩
    · have key : ∀ T ∈ G.tok, ¬ T.has b := fun T hT hb => by
        obtain ⟨t, ht⟩ := List.getElem?_of_mem hT
        have := (hI.tok t T b ht hb).1; omega
      exact ⟨hc.2, fun hm => by have := name_lt hI b hm; omega, fun T hT => ⟨fun hb => absurd (.inl hb) (key T hT), fun hb => absurd (.inr hb) (key T hT)⟩⟩
  · obtain ⟨us, ty, h1, h2, h3⟩ := hI.var i b cs hb hcs
    refine ⟨us, ty, ?_, h2, fun j c u hc hu => ⟨(h3 j c u hc hu).1, (h3 j c u hc hu).2.mono hst⟩⟩
    rw [h.block b (name_lt hI b (List.mem_of_getElem? hb))]; exact h1
  · obtain ⟨h1, h2⟩ := hI.tok t T b hT hb
    exact ⟨Nat.lt_of_lt_of_le h1 h.size, h2⟩
theorem DRel.lt {C : Nat → Nat → Prop} {w : World} {x : V} {u : Value} (h : VRel C w x u) : VRel (fun b o => C b o ∧ b < w.heap.size) w x u :=
  h.mono (Nat.le_refl _) fun _ _ _ h1 h2 => ⟨⟨h1, cellLt h2⟩, h2⟩
theorem DRel.ltD {C : Nat → Nat → Prop} {w : World} {d : D} {u : Value} (h : DRel ⟨C, [], []⟩ w d u) : DRel ⟨fun b o => C b o ∧ b < w.heap.size, [], []⟩ w d u := by
  induction h with
  | p x u h => exact .p x u (DRel.lt h)
  | ptr nm off b h => simp at h
  | own t e size es u T h1 h2 h3 => simp at h3
  | fn f first cap us vs h1 h2 _ _ ih1 ih2 => exact .fn f first cap us vs h1 h2 ih1 ih2
  | yld t T p h => simp at h
  | sp P u b nm off i e n v h => simp at h
  | agg cs us h1 h2 _ ih => exact .agg cs us h1 h2 ih
  | tup cs us h1 _ ih => exact .tup cs us h1 ih
  | undef => exact .undef
theorem isFn_call {f : FuncId} (h : isFn P f = true) (args : Array Value) (w : World) : (callFunc f args).run P w = .ok (.enter f args) w := by
  unfold isFn at h
  split at h
  · rename_i fn hf
    simp only [Bool.and_eq_true, bne_iff_ne, ne_eq] at h
    obtain ⟨c, hc⟩ := Option.isSome_iff_exists.1 h.2
    simp [callFunc, hf, h.1, hc]
  · cases h
theorem dn_rel {G : Gh} {w : World} {d : D} {u : Value} (h : DRel G w d u) : DRel G w (dn d) u := by
  unfold dn
  split
  · cases h with
    | own _ _ _ _ u T hx => exact .p _ _ hx
  · exact h
/-- Data alone: in whatever memory. -/
theorem PCall.ok {f : FuncId} {xs : List V} {r : D} (h : PCall P f xs r) (s : S) : CallOK P f (xs.map .p) s r s := by
  refine ⟨h.fn, fun G w us hI hs hrel => (h.out G.com w us hI.glob (by simpa using hs) fun j x u hx hu => ?_).mono fun en w' ⟨u, he, hd, hb⟩ => ?_⟩
  · have := hrel j (.p x) u (by rw [List.getElem?_map, hx]; rfl) hu
    cases this with | p _ _ h => exact h
  · obtain ⟨s1, s2⟩ := below_stp hI hb
    exact ⟨u, _, he, s1, s2, hd.ltD.weak fun b o hco => by
      rcases hco with ⟨hco | hco, hlt⟩
      · exact .inl hco
      · exact .inr ⟨hco, hlt⟩⟩
theorem PCall.c {gn : Bool} {f : FuncId} {xs : List V} {r : D} {s : S} (h : PCall P f xs r) : CallC gn P f (xs.map .p) s r s := ⟨h.ok s, fun _ => ⟨rfl, fun _ => h.ok _⟩⟩
/-- The fence of a function's frame; of a round's of loop l. -/
def FW : Option Nat → Fence
  | none => Fence.wide
  | some l => Fence.wide.inRound l
theorem FW_fn (rd : Option Nat) (f : FuncId) : (FW rd).fn f := by cases rd <;> trivial
theorem FW_round (rd : Option Nat) : (FW rd).round = rd := by cases rd <;> rfl
theorem FW_depth (rd : Option Nat) : (FW rd).depth = none := by cases rd <;> rfl
theorem FW_room (rd : Option Nat) (n : Nat) : (FW rd).room n := by cases rd <;> exact room_wide _
theorem FW_calls {rd : Option Nat} {n : Nat} {f : FuncId} {args : Array Value} {w : World} {R : Ending → World → Prop} (h : Calls P f args w R) : CallsIn (FW rd) n P f args w R := by cases rd <;> exact callsIn_wide.2 h
theorem FW_rnd {rd : Option Nat} {l : Nat} {f : FuncId} {tmps : Array Value} {a b : Code} {w : World} {R : Ending → World → Prop} (h : RoundIn Fence.wide 0 P l f tmps a b w R) : RoundIn (FW rd) (0 - 1) P l f tmps a b w R := by cases rd <;> exact h
theorem FW_n {rd : Option Nat} (n : Nat) : (FW rd).depth.isSome = true → 1 ≤ n := fun h => by rw [FW_depth] at h; cases h
theorem wpIn_of {rd : Option Nat} {o : Oper} {a : Act} {w : World} {next : Act → World → Prop} {Q : Exit → Act → World → Prop} (hd : ∀ c, o.op ≠ .defer c) (h : o.uponIn (FW rd) 0 P a next Q ((execOp a.eval o).run P w)) : o.wpIn (FW rd) 0 P a w next Q :=
  ⟨fun _ _ => FW_fn _ _, by rw [Oper.semAt_eq _ _ _ hd]; exact h⟩
/-- A call of yield. -/
theorem aYield_sound {rd : Option Nat} {N : Nat} {G : Gh} {σ : St} {a : Act} {w : World} (hR : Rel N G σ a w) {o : Oper} {c : Call} (hoc : o.op = .call c) {f : Operand} (hc : c.callee = .value f) {t : Nat} {xs : List (List V)} {ds : List D}
    (hf : DRel G w (.yld P t xs) (a.eval f)) (hds : ds.length = c.args.toList.length ∧ ∀ (j : Nat) d u, ds[j]? = some d → (c.args.toList.map a.eval)[j]? = some u → DRel G w d u) {K : D → S → Prop} (h : aYield t xs ds σ.s K)
    {next : Act → World → Prop} {Q : Exit → Act → World → Prop} (hn : ∀ u w' G' d s', Stp G w G' w' → Inv G' s' w' → DRel G' w' d u → K d s' → next (a.put o.dst u) w') : o.wpIn (FW rd) 0 P a w next Q := by
  obtain ⟨k, x, vs, h1, h2, h3, h4, k1, k2⟩ := h
  generalize hfv : a.eval f = fv at hf
  generalize hP : P = P' at hf
  generalize hxs : xs = xs' at hf
  cases hf with
  | yld t T p hT hp =>
    subst hP; subst hxs
    obtain ⟨q, hq, rfl⟩ := Option.map_eq_some_iff.1 hp
    have hI := hR.inv
    have hTm : T ∈ G.tok := List.mem_of_getElem? hT
    have hlt : t < G.tok.length := (List.getElem?_eq_some_iff.1 hT).1
    have hlen : T.len = k := by
      have : (G.tok.map (·.len))[t]? = some T.len := by rw [List.getElem?_map, hT]; rfl
      rw [hI.live, h1] at this
      exact (Option.some.inj this).symm
    have hkx : k < q.p.xs.length := (List.getElem?_eq_some_iff.1 h2).1
    obtain ⟨g1, g2⟩ := hI.pro T hTm
    have hst := g1 q hq
    rw [hlen] at hst
    obtain ⟨e1, e2⟩ := hds
    obtain ⟨u1, u2⟩ := unps_rel (G := G) (w := w) ds vs h3
    obtain ⟨r1, r2⟩ := h4 G.com w (c.args.map a.eval) (by rw [u1, e1]; simp) (fun j x u hx hu => by
      obtain ⟨d, hd, hdx⟩ := u2 j x hx
      exact unp_rel (e2 j d u hd (by simpa using hu)) hdx)
    have hown : ∀ b, q.own b → T.has b := fun b hb => .inr ⟨q, hq, hb⟩
    obtain ⟨fn, tmps, assign, body, hrun, hrnd⟩ := q.p.law k q.own q.rel G.com w x (c.args.map a.eval) hst h2 r1 r2 (fun b o hr => g2 b o ⟨q, hq, hr⟩)
      (fun b o hb => ⟨(hI.com b o hb).1, fun hm => by
        obtain ⟨q', hq', hr⟩ := ((hI.com b o hb).2.2 T hTm).2 ⟨q, hq, hm⟩
        rw [hq] at hq'; cases hq'; exact hr⟩)
      (fun b hb => (hI.tok t T b hT (hown b hb)).1)
    have hrun2 : (execOp a.eval o).run q.p.P w = .ok (.round q.p.l fn tmps assign body) w := by
      unfold execOp
      simp only [hoc]
      simp [resolve, hc, hfv, Deferred.ofValue, invoke, hrun]
    refine wpIn_of (by rw [hoc]; intro c; simp) ?_
    rw [hrun2, Oper.uponIn_round]
    refine ⟨FW_n _, FW_rnd (hrnd.mono fun e w' ⟨k', M', K', he, hst', hy⟩ => ?_)⟩
    have hk' : k < k' ∧ (k' = k + 1 ∨ k' = q.p.xs.length + 1) := by rcases he with ⟨-, rfl⟩ | ⟨-, rfl⟩ <;> omega
    obtain ⟨T', hT'⟩ : ∃ T' : Tok, T' = ⟨k', none, 0, some ⟨M', K', q.p⟩⟩ := ⟨_, rfl⟩
    have hT'o : ∀ b, T'.has b → M' b := fun b hb => by
      subst hT'
      rcases hb with hb | ⟨q', hq', hb⟩
      · cases hb
      · cases hq'; exact hb
    have hMn : ∀ b, q.own b → b ∉ G.name := fun b hb => (hI.tok t T b hT (hown b hb)).2.1
    have hMt : ∀ (t' : Nat) T'' b, G.tok[t']? = some T'' → T''.has b → q.own b → t' = t := fun t' T'' b h' hb hm => (hI.tok t T b hT (hown b hm)).2.2 t' T'' h' hb
    obtain ⟨G', hG'⟩ : ∃ G' : Gh, G' = ⟨K', G.name, G.tok.set t T'⟩ := ⟨_, rfl⟩
    have hset : ∀ (t' : Nat) T'', G'.tok[t']? = some T'' → (t' = t ∧ T'' = T') ∨ (t' ≠ t ∧ G.tok[t']? = some T'') := fun t' T'' h' => by
      subst hG'
      have h' : (G.tok.set t T')[t']? = some T'' := h'
      by_cases htt : t' = t
      · subst htt
        rw [List.getElem?_set_self hlt] at h'
        exact .inl ⟨rfl, (Option.some.inj h').symm⟩
      · rw [List.getElem?_set_ne (fun e => htt e.symm)] at h'
        exact .inr ⟨htt, h'⟩
    have hstp : Stp G w G' w' := by
      refine ⟨⟨hy.os, hy.tape, hy.output, hy.size, fun b o u hb hu => ?_, fun b hb hn ht => hy.old b hb fun hm => ht T hTm (hown b hm), fun b o hb => ?_, fun b hb => ?_, fun b o hb => by subst hG'; exact hy.mono b o hb, hy.shp⟩, fun nm b hb => by subst hG'; exact hb, fun t' T'' h' => ?_⟩
      · subst hG'; exact hy.com b o u hb hu
      · subst hG'
        rcases (hy.new b o hb).2 with h | h | h
        · exact .inl h
        · exact .inr (.inl h)
        · exact .inr (.inr (.inr ⟨T, hTm, hown b h⟩))
      · rcases hb with hb | ⟨T'', hT'', hb⟩
        · subst hG'; exact .inr (.inl hb)
        · obtain ⟨t', ht'⟩ := List.getElem?_of_mem hT''
          rcases hset t' T'' ht' with ⟨-, rfl⟩ | ⟨-, h'⟩
          · rcases (hy.own b (hT'o b hb)).2 with h | h
            · exact .inr (.inr ⟨T, hTm, hown b h⟩)
            · exact .inl h
          · exact .inr (.inr ⟨T'', List.mem_of_getElem? h', hb⟩)
      · by_cases htt : t' = t
        · subst htt
          rw [hT] at h'; cases h'
          refine ⟨T', by subst hG'; exact List.getElem?_set_self hlt, ⟨by subst hT'; show T.len ≤ k'; omega, by subst hT'; simp [hq]⟩, fun e => ?_⟩
          subst hT'
          have e : T.len = k' := e
          omega
        · refine ⟨T'', by subst hG'; show (G.tok.set t T')[t']? = _; rw [List.getElem?_set_ne (fun e => htt e.symm)]; exact h', .refl _, fun _ => ⟨rfl, fun b hb => ?_⟩⟩
          exact hy.old b (hI.tok t' T'' b h' hb).1 fun hm => htt (hMt t' T'' b h' hb hm)
    have hinv : Inv G' ⟨σ.s.heap, σ.s.live.set t k'⟩ w' := by
      refine ⟨fun b o hb => ?_, by subst hG'; exact hI.names, by subst hG'; exact hI.nodup, fun i b cs hb hcs => ?_, ?_, fun t' T'' b h' hb => ?_, fun T'' hT'' => ?_, hR.inv.glob.mono hstp.ext.com⟩
      · have hb0 : K' b o := by subst hG'; exact hb
        obtain ⟨n1, n2⟩ := hy.new b o hb0
        refine ⟨n1, fun hm => ?_, fun T'' hT'' => ?_⟩
        · have hm : b ∈ G.name := by subst hG'; exact hm
          rcases n2 with h | h | h
          · exact (hI.com b o h).2.1 hm
          · have := name_lt hI b hm; omega
          · exact hMn b h hm
        · obtain ⟨t', ht'⟩ := List.getElem?_of_mem hT''
          rcases hset t' T'' ht' with ⟨-, rfl⟩ | ⟨hne, h'⟩
          · subst hT'
            exact ⟨fun h => (nomatch h), fun _ => ⟨_, rfl, hb0⟩⟩
          · rcases n2 with h | h | h
            · exact (hI.com b o h).2.2 T'' (List.mem_of_getElem? h')
            · have key : ¬ T''.has b := fun hh => by have := (hI.tok t' T'' b h' hh).1; omega
              exact ⟨fun hh => absurd (.inl hh) key, fun hh => absurd (.inr hh) key⟩
            · have key : ¬ T''.has b := fun hh => hne (hMt t' T'' b h' hh h)
              exact ⟨fun hh => absurd (.inl hh) key, fun hh => absurd (.inr hh) key⟩
      · have hb : G.name[i]? = some b := by subst hG'; exact hb
        obtain ⟨us, ty, v1, v2, v3⟩ := hI.var i b cs hb hcs
        have hbn : b ∈ G.name := List.mem_of_getElem? hb
        exact ⟨us, ty, by rw [hy.old b (name_lt hI b hbn) fun hm => hMn b hm hbn]; exact v1, v2, fun j c u hc hu => ⟨(v3 j c u hc hu).1, (v3 j c u hc hu).2.mono hstp⟩⟩
      · subst hG'; subst hT'
        show (G.tok.set t _).map (·.len) = _
        rw [List.map_set, hI.live]
      · rcases hset t' T'' h' with ⟨rfl, rfl⟩ | ⟨hne, h0⟩
        · have hm := hT'o b hb
          obtain ⟨o1, o2⟩ := hy.own b hm
          refine ⟨o1, fun hn => ?_, fun t2 T2 ht2 hb2 => ?_⟩
          · have hn : b ∈ G.name := by subst hG'; exact hn
            rcases o2 with h | h
            · exact hMn b h hn
            · have := name_lt hI b hn; omega
          · rcases hset t2 T2 ht2 with ⟨rfl, -⟩ | ⟨hne2, h2'⟩
            · rfl
            · rcases o2 with h | h
              · exact hMt t2 T2 b h2' hb2 h
              · have := (hI.tok t2 T2 b h2' hb2).1; omega
        · obtain ⟨o1, o2, o3⟩ := hI.tok t' T'' b h0 hb
          refine ⟨Nat.lt_of_lt_of_le o1 hy.size, by subst hG'; exact o2, fun t2 T2 ht2 hb2 => ?_⟩
          rcases hset t2 T2 ht2 with ⟨rfl, rfl⟩ | ⟨hne2, h2'⟩
          · rcases (hy.own b (hT'o b hb2)).2 with h | h
            · exact absurd (hMt t' T'' b h0 hb h) hne
            · omega
          · exact o3 t2 T2 h2' hb2
      · obtain ⟨t', ht'⟩ := List.getElem?_of_mem hT''
        rcases hset t' T'' ht' with ⟨rfl, rfl⟩ | ⟨hne, h'⟩
        · subst hT'; subst hG'
          refine ⟨fun q' hq' => ?_, fun b o ⟨q', hq', hr⟩ => ?_⟩
          · cases hq'; exact hst'
          · cases hq'; exact hr
        · have hm := List.mem_of_getElem? h'
          refine ⟨Tok.ok_ext (hI.pro T'' hm) hstp.ext fun b hb => hy.old b (hI.tok t' T'' b h' hb).1 fun hM => hne (hMt t' T'' b h' hb hM), fun b o hr => ?_⟩
          exact hstp.ext.mono b o ((hI.pro T'' hm).2 b o hr)
    rcases he with ⟨rfl, rfl⟩ | ⟨rfl, rfl⟩
    · exact hn _ w' G' _ _ hstp hinv (.p _ _ (.v _ rfl)) k1
    · exact hn _ w' G' _ _ hstp hinv (.p _ _ (.v _ rfl)) k2
theorem aCall_sound {rd : Option Nat} {gn : Bool} {N : Nat} {G : Gh} {σ : St} {a : Act} {w : World} (hR : Rel N G σ a w) {o : Oper} {c : Call} (ho : isCall o.op = some c) {e : Operand → Option D} (hev : ∀ x d, e x = some d → DRel G w d (a.eval x)) {K : D → S → Prop} (h : aCall gn P c e σ.s K)
    {next : Act → World → Prop} {Q : Exit → Act → World → Prop} (hn : ∀ u w' G' d s', Stp G w G' w' → Inv G' s' w' → DRel G' w' d u → K d s' → next (a.put o.dst u) w') : o.wpIn (FW rd) 0 P a w next Q := by
  have hoc : o.op = .call c := by
    cases hop : o.op with
    | call c' =>
      rw [hop] at ho
      simp only [isCall] at ho
      split at ho
      · cases ho; rfl
      · cases ho
    | _ => rw [hop] at ho; cases ho
  unfold aCall at h
  split at h
  · rename_i f hc
    split at h
    · rename_i g first cap ds hf hds
      obtain ⟨r, s', hcall, hK⟩ := h
      have hfv : ∃ us vs, a.eval f = .func (.func g) us vs ∧ us.size = first.length ∧ vs.size = cap.length ∧ (∀ (j : Nat) c u, first[j]? = some c → us[j]? = some u → DRel G w c u) ∧ (∀ (j : Nat) c u, cap[j]? = some c → vs[j]? = some u → DRel G w c u) := by
        have := hev f _ hf
        generalize a.eval f = q at this
        cases this with
        | fn _ _ _ us vs h1 h2 h3 h4 => exact ⟨us, vs, rfl, h1.symm, h2.symm, h3, h4⟩
      obtain ⟨us, vs, hfv, l1, l2, k1, k2⟩ := hfv
      obtain ⟨e1, e2⟩ := evs_rel hev _ _ hds
      have hrun : (execOp a.eval o).run P w = .ok (.enter g (us ++ c.args.map a.eval ++ vs)) w := by
        unfold execOp
        simp only [hoc]
        simp [resolve, hc, hfv, Deferred.ofValue, invoke, isFn_call hcall.ok.fn]
      refine wpIn_of (by rw [hoc]; intro c; simp) ?_
      rw [hrun, Oper.uponIn_enter]
      refine ⟨FW_n _, FW_calls ?_⟩
      refine (hcall.ok.out G w (us ++ c.args.map a.eval ++ vs) hR.inv (by simp [l1, l2, e1]) (fun j d u hd hu => ?_)).mono fun en w' ⟨u, G', he, h1, h2, h3⟩ => ?_
      · rw [List.getElem?_map] at hd
        obtain ⟨d0, hd0, rfl⟩ := Option.map_eq_some_iff.1 hd
        refine dn_rel ?_
        have hsz : (c.args.map a.eval).size = ds.length := by simp [e1]
        by_cases hj : j < first.length + ds.length
        · rw [List.getElem?_append_left (by simpa using hj)] at hd0
          rw [Array.getElem?_append_left (by simp [l1]; simp at hsz; omega)] at hu
          by_cases hj2 : j < first.length
          · rw [List.getElem?_append_left hj2] at hd0
            rw [Array.getElem?_append_left (by omega)] at hu
            exact k1 j d0 u hd0 hu
          · rw [List.getElem?_append_right (by omega)] at hd0
            rw [Array.getElem?_append_right (by omega), l1] at hu
            exact e2 _ d0 u hd0 (by simpa using hu)
        · rw [List.getElem?_append_right (by simp; omega)] at hd0
          rw [Array.getElem?_append_right (by simp [l1]; simp at hsz; omega)] at hu
          simp only [List.length_append] at hd0
          simp only [Array.size_append, l1, hsz] at hu
          exact k2 _ d0 u hd0 hu
      · subst he
        exact hn u w' G' r s' h1 h2 h3 hK
    · rename_i P' t xs ds hf hds
      obtain ⟨-, rfl, hy⟩ := h
      exact aYield_sound hR hoc hc (hev f _ hf) (evs_rel hev _ _ hds) hy hn
    · exact h.elim
  · exact h.elim
theorem aStep_sound (hT : TblOk P tb) {rd : Option Nat} {gn : Bool} {N : Nat} {G : Gh} {σ : St} {a : Act} {w : World} (hR : Rel N G σ a w) {o : Oper} {K : D → S → Prop} (h : aStep gn P tb o.op (ev σ.env) σ.s K)
    {next : Act → World → Prop} {Q : Exit → Act → World → Prop} (hn : ∀ u w' G' d s', Stp G w G' w' → Inv G' s' w' → DRel G' w' d u → K d s' → next (a.put o.dst u) w') : o.wpIn (FW rd) 0 P a w next Q := by
  have hev := ev_rel hR.env
  unfold aStep at h
  split at h
  · rename_i c hc
    exact aCall_sound hR hc hev h hn
  · obtain ⟨u, w', G', d, s', hr, r1, r2, r3, r4⟩ := aOp_sound hT hR.inv hev o h
    refine wpIn_of (fun c hc => ?_) ?_
    · rw [hc] at h; simp [aOp] at h
    rcases hr with hr | ⟨hr, rfl⟩
    · rw [hr]; exact hn u w' G' d s' r1 r2 r3 r4
    · rw [hr]; exact hn undef w' G' d s' r1 r2 r3 r4

/-! ### one operation of a region -/
def isGuard (ops : List Oper) (i : Nat) : Bool := ops.any fun o => match o.guard with | some (j, _) => j == i | none => false
def splitB (g : Bool) (d : D) (k : D → Prop) : Prop :=
  match g, d with
  | true, .p (.v (.bool b)) => (b = true → k (.p (.v (.bool true)))) ∧ (b = false → k (.p (.v (.bool false))))
  | _, d => k d
def putE (N : Nat) (env : Env) (dst : Option Nat) (d : D) (k : Env → Prop) : Prop :=
  match dst with
  | none => k env
  | some t => if t < N then k ((t, d) :: env) else False
def aWant (ops : List Oper) (env : Env) : Option (Nat × Bool) → Option Bool
  | none => some true
  | some (j, want) => match (ops[j]?).bind (·.dst) with
    | some t => match env.lookup t with
      | some (.p (.v (.bool b))) => some (b == want)
      | some .undef => some false
      | _ => none
    | none => none
theorem putE_rel {N : Nat} {G G' : Gh} {σ : St} {a : Act} {w w' : World} (hR : Rel N G σ a w) (hS : Stp G w G' w') {s' : S} (hI : Inv G' s' w') {dst : Option Nat} {d : D} {u : Value} (hd : DRel G' w' d u) {k : Env → Prop} (h : putE N σ.env dst d k) :
    ∃ env', Rel N G' ⟨env', s'⟩ (a.put dst u) w' ∧ k env' := by
  unfold putE at h
  split at h
  · exact ⟨σ.env, ⟨hI, hR.env.mono hS, hR.size⟩, h⟩
  · rename_i t
    split at h
    · rename_i hlt
      refine ⟨_, ⟨hI, fun t' d' h' => ?_, by simp [Act.put, hR.size]⟩, h⟩
      simp only [Act.put, Array.size_setIfInBounds]
      rw [List.lookup_cons] at h'
      by_cases ht : t' = t
      · subst ht
        simp only [beq_self_eq_true, Option.some.injEq] at h'
        subst h'
        have hs : t' < a.tmps.size := by rw [hR.size]; exact hlt
        exact ⟨hs, by simpa [Array.getD_eq_getD_getElem?, hs] using hd⟩
      · have hb : (t' == t) = false := by simpa using ht
        rw [hb] at h'
        obtain ⟨h1, h2⟩ := hR.env t' d' h'
        refine ⟨h1, ?_⟩
        have hne : t ≠ t' := fun e => ht e.symm
        simpa [Array.getD_eq_getD_getElem?, Array.getElem?_setIfInBounds, hne] using h2.mono hS
    · exact h.elim
theorem splitB_elim {g : Bool} {d : D} {k : D → Prop} (h : splitB g d k) : k d := by
  unfold splitB at h
  split at h
  · rename_i b
    cases b
    · exact h.2 rfl
    · exact h.1 rfl
  · exact h
theorem aWant_rel {N : Nat} {G : Gh} {σ : St} {a : Act} {w : World} (hR : Rel N G σ a w) (ops : List Oper) (o : Oper) (b : Bool) (h : aWant ops σ.env o.guard = some b) : Region.wanted o (yielded ops.toArray a.tmps) = b := by
  unfold aWant at h
  split at h
  · rename_i hg
    cases h
    simp [Region.wanted, hg]
  · rename_i j want hg
    split at h
    · rename_i t ht
      split at h
      · rename_i b' hl
        obtain ⟨h1, h2⟩ := hR.env t _ hl
        have hv : a.tmps[t]? = some (.bool b') := by
          rw [Array.getElem?_eq_getElem h1]
          have : a.tmps.getD t undef = a.tmps[t] := by simp [Array.getD_eq_getD_getElem?, h1]
          rw [this] at h2
          generalize a.tmps[t] = q at h2
          cases h2 with | p _ _ h2 => cases h2; rfl
        cases h
        simp only [Region.wanted, hg, yielded, List.getElem?_toArray, ht, Option.bind_some, hv]
        cases b' <;> cases want <;> rfl
      · rename_i hl
        obtain ⟨h1, h2⟩ := hR.env t _ hl
        have hv : a.tmps[t]? = some undef := by
          rw [Array.getElem?_eq_getElem h1]
          have : a.tmps.getD t undef = a.tmps[t] := by simp [Array.getD_eq_getD_getElem?, h1]
          rw [this] at h2
          generalize a.tmps[t] = q at h2
          cases h2; rfl
        cases h
        simp only [Region.wanted, hg, yielded, List.getElem?_toArray, ht, Option.bind_some, hv]
        cases want <;> rfl
      · cases h
    · cases h
end
end Go.Proofs.Ytlhjieapkcnghaa
