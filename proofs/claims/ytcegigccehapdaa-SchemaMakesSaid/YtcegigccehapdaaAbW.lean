/- The abstract layer, part 10: regions, in the text's order and in any. -/
import Derived.Test.YtcegigccehapdaaAbT
import Derived.Orders
namespace Go.Proofs.Ytcegigccehapdaa
open Go.RowKit

section
variable {P : Program} {tb : Tbl}
/-! ### calls -/
theorem DRel.weak {G : Gh} {C : Nat → Nat → Prop} {w : World} {d : D} {u : Value} (h : DRel ⟨C, [], []⟩ w d u) (hc : ∀ b o, C b o → G.com b o) : DRel G w d u := by
  induction h with
  | p x u h => exact .p x u (h.mono fun b o u h1 h2 => ⟨hc b o h1, h2⟩)
  | ptr nm off b h => simp at h
  | own t e size es u T h1 h2 h3 => simp at h3
  | fn f first cap us vs h1 h2 _ _ ih1 ih2 => exact .fn f first cap us vs h1 h2 ih1 ih2
  | agg cs us h1 h2 _ ih => exact .agg cs us h1 h2 ih
  | tup cs us h1 _ ih => exact .tup cs us h1 ih
  | undef => exact .undef
/-- Behind a step that turns nothing below the heap's size: what is new stands for good. -/
theorem below_stp {G : Gh} {s : S} {w w' : World} (hI : Inv G s w) (h : Below w.heap.size w w') :
    Stp G w { G with com := fun b o => G.com b o ∨ (w.heap.size ≤ b ∧ b < w'.heap.size) } w' ∧ Inv { G with com := fun b o => G.com b o ∨ (w.heap.size ≤ b ∧ b < w'.heap.size) } s w' := by
  have hst : Stp G w { G with com := fun b o => G.com b o ∨ (w.heap.size ≤ b ∧ b < w'.heap.size) } w' := by
    refine ⟨⟨h.os, h.tape, h.output, h.size, fun b o u hc hu => ⟨.inl hc, ?_⟩, fun b hb _ _ => h.block b hb, fun b o hc => ?_, fun b hb => .inr hb⟩, fun _ _ h => h, fun t T hT => ⟨T, hT, Nat.le_refl _, fun _ => ⟨rfl, fun b hb => h.block b (hI.tok t T b hT hb).1⟩⟩⟩
    · rw [h.cell (p := ⟨b, o, none⟩) (hI.com b o hc).1]; exact hu
    · rcases hc with hc | hc
      · exact .inl hc
      · exact .inr (.inl hc.1)
  refine ⟨hst, ⟨fun b o hc => ?_, hI.names, hI.nodup, fun i b cs hb hcs => ?_, hI.live, fun t T b hT hb => ?_⟩⟩
  · rcases hc with hc | hc
    · obtain ⟨h1, h2⟩ := hI.com b o hc
      exact ⟨Nat.lt_of_lt_of_le h1 h.size, h2⟩
    · refine ⟨hc.2, fun hm => by have := name_lt hI b hm; omega, fun T hT hb => ?_⟩
      obtain ⟨t, ht⟩ := List.getElem?_of_mem hT
      have := (hI.tok t T b ht hb).1; omega
  · obtain ⟨us, ty, h1, h2, h3⟩ := hI.var i b cs hb hcs
    refine ⟨us, ty, ?_, h2, fun j c u hc hu => ⟨(h3 j c u hc hu).1, (h3 j c u hc hu).2.mono hst⟩⟩
    rw [h.block b (name_lt hI b (List.mem_of_getElem? hb))]; exact h1
  · obtain ⟨h1, h2⟩ := hI.tok t T b hT hb
    exact ⟨Nat.lt_of_lt_of_le h1 h.size, h2⟩
theorem DRel.lt {C : Nat → Nat → Prop} {w : World} {x : V} {u : Value} (h : VRel C w x u) : VRel (fun b o => C b o ∧ b < w.heap.size) w x u :=
  h.mono fun _ _ _ h1 h2 => ⟨⟨h1, cellLt h2⟩, h2⟩
theorem DRel.ltD {C : Nat → Nat → Prop} {w : World} {d : D} {u : Value} (h : DRel ⟨C, [], []⟩ w d u) : DRel ⟨fun b o => C b o ∧ b < w.heap.size, [], []⟩ w d u := by
  induction h with
  | p x u h => exact .p x u (DRel.lt h)
  | ptr nm off b h => simp at h
  | own t e size es u T h1 h2 h3 => simp at h3
  | fn f first cap us vs h1 h2 _ _ ih1 ih2 => exact .fn f first cap us vs h1 h2 ih1 ih2
  | agg cs us h1 h2 _ ih => exact .agg cs us h1 h2 ih
  | tup cs us h1 _ ih => exact .tup cs us h1 ih
  | undef => exact .undef
theorem isFn_call {f : FuncId} (h : isFn P f = true) (args : Array Value) (w : World) : (callFunc f args).run P w = .ok (.enter f args) w := by
  unfold isFn at h
  split at h
  · rename_i fn hf
    simp only [Bool.and_eq_true, bne_iff_ne, ne_eq] at h
    obtain ⟨c, hc⟩ := Option.isSome_iff_exists.1 h.2
    simp [callFunc, hf, h.1, hc]
  · cases h
theorem dn_rel {G : Gh} {w : World} {d : D} {u : Value} (h : DRel G w d u) : DRel G w (dn d) u := by
  unfold dn
  split
  · cases h with
    | own _ _ _ _ u T hx => exact .p _ _ hx
  · exact h
/-- Data alone: in whatever memory. -/
theorem PCall.ok {f : FuncId} {xs : List V} {r : D} (h : PCall P f xs r) (s : S) : CallOK P f (xs.map .p) s r s := by
  refine ⟨h.fn, fun G w us hI hs hrel => (h.out G.com w us (by simpa using hs) fun j x u hx hu => ?_).mono fun en w' ⟨u, he, hd, hb⟩ => ?_⟩
  · have := hrel j (.p x) u (by rw [List.getElem?_map, hx]; rfl) hu
    cases this with | p _ _ h => exact h
  · obtain ⟨s1, s2⟩ := below_stp hI hb
    exact ⟨u, _, he, s1, s2, hd.ltD.weak fun b o hco => by
      rcases hco with ⟨hco | hco, hlt⟩
      · exact .inl hco
      · exact .inr ⟨hco, hlt⟩⟩
theorem PCall.c {gn : Bool} {f : FuncId} {xs : List V} {r : D} {s : S} (h : PCall P f xs r) : CallC gn P f (xs.map .p) s r s := ⟨h.ok s, fun _ => ⟨rfl, fun _ => h.ok _⟩⟩
theorem aCall_sound {gn : Bool} {N : Nat} {G : Gh} {σ : St} {a : Act} {w : World} (hR : Rel N G σ a w) {o : Oper} {c : Call} (ho : isCall o.op = some c) {e : Operand → Option D} (hev : ∀ x d, e x = some d → DRel G w d (a.eval x)) {K : D → S → Prop} (h : aCall gn P c e σ.s K)
    {next : Act → World → Prop} {Q : Exit → Act → World → Prop} (hn : ∀ u w' G' d s', Stp G w G' w' → Inv G' s' w' → DRel G' w' d u → K d s' → next (a.put o.dst u) w') : o.wp P a w next Q := by
  have hoc : o.op = .call c := by
    cases hop : o.op with
    | call c' =>
      rw [hop] at ho
      simp only [isCall] at ho
      split at ho
      · cases ho; rfl
      · cases ho
    | _ => rw [hop] at ho; cases ho
  unfold aCall at h
  split at h
  · rename_i f hc
    split at h
    · rename_i g first cap ds hf hds
      obtain ⟨r, s', hcall, hK⟩ := h
      have hfv : ∃ us vs, a.eval f = .func (.func g) us vs ∧ us.size = first.length ∧ vs.size = cap.length ∧ (∀ (j : Nat) c u, first[j]? = some c → us[j]? = some u → DRel G w c u) ∧ (∀ (j : Nat) c u, cap[j]? = some c → vs[j]? = some u → DRel G w c u) := by
        have := hev f _ hf
        generalize a.eval f = q at this
        cases this with
        | fn _ _ _ us vs h1 h2 h3 h4 => exact ⟨us, vs, rfl, h1.symm, h2.symm, h3, h4⟩
      obtain ⟨us, vs, hfv, l1, l2, k1, k2⟩ := hfv
      obtain ⟨e1, e2⟩ := evs_rel hev _ _ hds
      have hrun : (execOp a.eval o).run P w = .ok (.enter g (us ++ c.args.map a.eval ++ vs)) w := by
        unfold execOp
        simp only [hoc]
        simp [resolve, hc, hfv, Deferred.ofValue, invoke, isFn_call hcall.ok.fn]
      unfold Oper.wp
      rw [hrun, Oper.upon_enter]
      refine (hcall.ok.out G w (us ++ c.args.map a.eval ++ vs) hR.inv (by simp [l1, l2, e1]) (fun j d u hd hu => ?_)).mono fun en w' ⟨u, G', he, h1, h2, h3⟩ => ?_
      · rw [List.getElem?_map] at hd
        obtain ⟨d0, hd0, rfl⟩ := Option.map_eq_some_iff.1 hd
        refine dn_rel ?_
        have hsz : (c.args.map a.eval).size = ds.length := by simp [e1]
        by_cases hj : j < first.length + ds.length
        · rw [List.getElem?_append_left (by simpa using hj)] at hd0
          rw [Array.getElem?_append_left (by simp [l1]; simp at hsz; omega)] at hu
          by_cases hj2 : j < first.length
          · rw [List.getElem?_append_left hj2] at hd0
            rw [Array.getElem?_append_left (by omega)] at hu
            exact k1 j d0 u hd0 hu
          · rw [List.getElem?_append_right (by omega)] at hd0
            rw [Array.getElem?_append_right (by omega), l1] at hu
            exact e2 _ d0 u hd0 (by simpa using hu)
        · rw [List.getElem?_append_right (by simp; omega)] at hd0
          rw [Array.getElem?_append_right (by simp [l1]; simp at hsz; omega)] at hu
          simp only [List.length_append] at hd0
          simp only [Array.size_append, l1, hsz] at hu
          exact k2 _ d0 u hd0 hu
      · subst he
        exact hn u w' G' r s' h1 h2 h3 hK
    · exact h.elim
  · exact h.elim
theorem aStep_sound (hT : TblOk P tb) {gn : Bool} {N : Nat} {G : Gh} {σ : St} {a : Act} {w : World} (hR : Rel N G σ a w) {o : Oper} {K : D → S → Prop} (h : aStep gn P tb o.op (ev σ.env) σ.s K)
    {next : Act → World → Prop} {Q : Exit → Act → World → Prop} (hn : ∀ u w' G' d s', Stp G w G' w' → Inv G' s' w' → DRel G' w' d u → K d s' → next (a.put o.dst u) w') : o.wp P a w next Q := by
  have hev := ev_rel hR.env
  unfold aStep at h
  split at h
  · rename_i c hc
    exact aCall_sound hR hc hev h hn
  · obtain ⟨u, w', G', d, s', hr, r1, r2, r3, r4⟩ := aOp_sound hT hR.inv hev o h
    unfold Oper.wp
    rcases hr with hr | ⟨hr, rfl⟩
    · rw [hr]; exact hn u w' G' d s' r1 r2 r3 r4
    · rw [hr]; exact hn undef w' G' d s' r1 r2 r3 r4

/-! ### one operation of a region -/
def isGuard (ops : List Oper) (i : Nat) : Bool := ops.any fun o => match o.guard with | some (j, _) => j == i | none => false
def splitB (g : Bool) (d : D) (k : D → Prop) : Prop :=
  match g, d with
  | true, .p (.v (.bool b)) => (b = true → k (.p (.v (.bool true)))) ∧ (b = false → k (.p (.v (.bool false))))
  | _, d => k d
def putE (N : Nat) (env : Env) (dst : Option Nat) (d : D) (k : Env → Prop) : Prop :=
  match dst with
  | none => k env
  | some t => if t < N then k ((t, d) :: env) else False
def aWant (ops : List Oper) (env : Env) : Option (Nat × Bool) → Option Bool
  | none => some true
  | some (j, want) => match (ops[j]?).bind (·.dst) with
    | some t => match env.lookup t with
      | some (.p (.v (.bool b))) => some (b == want)
      | some .undef => some false
      | _ => none
    | none => none
def aOne (gn : Bool) (P : Program) (tb : Tbl) (N : Nat) (ops : List Oper) (i : Nat) (σ : St) (K : St → Prop) : Prop :=
  match ops[i]? with
  | none => K σ
  | some o => match aWant ops σ.env o.guard with
    | some true => aStep gn P tb o.op (ev σ.env) σ.s fun d s' => splitB (isGuard ops i) d fun d => putE N σ.env o.dst d fun env' => K ⟨env', s'⟩
    | some false => putE N σ.env o.dst .undef fun env' => K ⟨env', σ.s⟩
    | none => False
def aOps (gn : Bool) (P : Program) (tb : Tbl) (N : Nat) (ops : List Oper) : List Nat → St → (St → Prop) → Prop
  | [], σ, K => K σ
  | i :: r, σ, K => aOne gn P tb N ops i σ fun σ' => aOps gn P tb N ops r σ' K
theorem putE_rel {N : Nat} {G G' : Gh} {σ : St} {a : Act} {w w' : World} (hR : Rel N G σ a w) (hS : Stp G w G' w') {s' : S} (hI : Inv G' s' w') {dst : Option Nat} {d : D} {u : Value} (hd : DRel G' w' d u) {k : Env → Prop} (h : putE N σ.env dst d k) :
    ∃ env', Rel N G' ⟨env', s'⟩ (a.put dst u) w' ∧ k env' := by
  unfold putE at h
  split at h
  · exact ⟨σ.env, ⟨hI, hR.env.mono hS, hR.defers, hR.size⟩, h⟩
  · rename_i t
    split at h
    · rename_i hlt
      refine ⟨_, ⟨hI, fun t' d' h' => ?_, hR.defers, by simp [Act.put, hR.size]⟩, h⟩
      simp only [Act.put, Array.size_setIfInBounds]
      rw [List.lookup_cons] at h'
      by_cases ht : t' = t
      · subst ht
        simp only [beq_self_eq_true, Option.some.injEq] at h'
        subst h'
        have hs : t' < a.tmps.size := by rw [hR.size]; exact hlt
        exact ⟨hs, by simpa [Array.getD_eq_getD_getElem?, hs] using hd⟩
      · have hb : (t' == t) = false := by simpa using ht
        rw [hb] at h'
        obtain ⟨h1, h2⟩ := hR.env t' d' h'
        refine ⟨h1, ?_⟩
        have hne : t ≠ t' := fun e => ht e.symm
        simpa [Array.getD_eq_getD_getElem?, Array.getElem?_setIfInBounds, hne] using h2.mono hS
    · exact h.elim
theorem splitB_elim {g : Bool} {d : D} {k : D → Prop} (h : splitB g d k) : k d := by
  unfold splitB at h
  split at h
  · rename_i b
    cases b
    · exact h.2 rfl
    · exact h.1 rfl
  · exact h
theorem aWant_rel {N : Nat} {G : Gh} {σ : St} {a : Act} {w : World} (hR : Rel N G σ a w) (ops : List Oper) (o : Oper) (b : Bool) (h : aWant ops σ.env o.guard = some b) : Region.wanted o (yielded ops.toArray a.tmps) = b := by
  unfold aWant at h
  split at h
  · rename_i hg
    cases h
    simp [Region.wanted, hg]
  · rename_i j want hg
    split at h
    · rename_i t ht
      split at h
      · rename_i b' hl
        obtain ⟨h1, h2⟩ := hR.env t _ hl
        have hv : a.tmps[t]? = some (.bool b') := by
          rw [Array.getElem?_eq_getElem h1]
          have : a.tmps.getD t undef = a.tmps[t] := by simp [Array.getD_eq_getD_getElem?, h1]
          rw [this] at h2
          generalize a.tmps[t] = q at h2
          cases h2 with | p _ _ h2 => cases h2; rfl
        cases h
        simp only [Region.wanted, hg, yielded, List.getElem?_toArray, ht, Option.bind_some, hv]
        cases b' <;> cases want <;> rfl
      · rename_i hl
        obtain ⟨h1, h2⟩ := hR.env t _ hl
        have hv : a.tmps[t]? = some undef := by
          rw [Array.getElem?_eq_getElem h1]
          have : a.tmps.getD t undef = a.tmps[t] := by simp [Array.getD_eq_getD_getElem?, h1]
          rw [this] at h2
          generalize a.tmps[t] = q at h2
          cases h2; rfl
        cases h
        simp only [Region.wanted, hg, yielded, List.getElem?_toArray, ht, Option.bind_some, hv]
        cases want <;> rfl
      · cases h
    · cases h
theorem aOne_sound (hT : TblOk P tb) {gn : Bool} {N : Nat} {G : Gh} {σ : St} {a : Act} {w : World} (hR : Rel N G σ a w) {ops : List Oper} {i : Nat} {K : St → Prop} (h : aOne gn P tb N ops i σ K)
    {next : Act → World → Prop} {Q : Exit → Act → World → Prop} (hn : ∀ a' w' G' σ', Stp G w G' w' → Rel N G' σ' a' w' → K σ' → next a' w') : wpOp P ops.toArray Q i next a w := by
  unfold aOne at h
  unfold wpOp
  split at h
  · rename_i ho
    simp only [List.getElem?_toArray, ho]
    exact hn a w G σ (.refl G w) hR h
  · rename_i o ho
    simp only [List.getElem?_toArray, ho]
    split at h
    · rename_i hw
      rw [if_pos (aWant_rel hR ops o true hw)]
      refine .inl (aStep_sound hT hR h fun u w' G' d s' r1 r2 r3 r4 => ?_)
      obtain ⟨env', q1, q2⟩ := putE_rel hR r1 r2 r3 (splitB_elim r4)
      exact hn _ _ _ _ r1 q1 q2
    · rename_i hw
      rw [if_neg (by rw [aWant_rel hR ops o false hw]; simp)]
      obtain ⟨env', q1, q2⟩ := putE_rel hR (.refl G w) hR.inv .undef h
      exact hn _ _ _ _ (.refl G w) q1 q2
    · exact h.elim
theorem aOps_sound (hT : TblOk P tb) {gn : Bool} {N : Nat} {ops : List Oper} {Q : Exit → Act → World → Prop} {K : St → Prop} {B : Nat × Nat} {G0 : Gh} {w0 : World} (hQ : ∀ a w G σ, Ex B G0 w0 G w → Rel N G σ a w → K σ → Q .normal a w) :
    ∀ (l : List Nat) (σ : St) (a : Act) (w : World) (G : Gh), Ex B G0 w0 G w → Rel N G σ a w → aOps gn P tb N ops l σ K → wpOps P ops.toArray Q l a w
  | [], σ, a, w, G, hE, hR, h => hQ a w G σ hE hR h
  | i :: r, σ, a, w, G, hE, hR, h => by
    rw [wpOps_cons]
    exact aOne_sound hT hR h fun a' w' G' σ' s1 r1 h1 => aOps_sound hT hQ r σ' a' w' G' (hE.trans (s1.ex B)) r1 h1
end
end Go.Proofs.Ytcegigccehapdaa
