/- The abstract layer, part 24: loops over functions. -/
import Derived.Test.YtlhjieapkcnghaaDcD
import Derived.RangeFuncNested
namespace Go.Proofs.Ytlhjieapkcnghaa
open Go.RowKit

/-! ### what lasts where others work -/
def Gh.has (G : Gh) (b : Nat) : Prop := b ∈ G.name ∨ ∃ T ∈ G.tok, T.has b
theorem Inv.hasLt {G : Gh} {s : S} {w : World} (h : Inv G s w) {b : Nat} (hb : G.has b) : b < w.heap.size := by
  rcases hb with hb | ⟨T, hT, hb⟩
  · exact name_lt h b hb
  · obtain ⟨t, ht⟩ := List.getElem?_of_mem hT
    exact (h.tok t T b ht hb).1
theorem VRel.kept {M : Nat → Prop} {K : Nat → Nat → Prop} {w w' : World} {x : V} {u : Value} (h : VRel K w x u) (k : Kept M K w w') : VRel K w' x u := h.mono k.size fun b o u h1 h2 => ⟨h1, k.cell b o u h1 h2⟩
theorem DRel.kept {G : Gh} {w w' : World} {d : D} {u : Value} (h : DRel G w d u) (k : Kept G.has G.com w w') : DRel G w' d u := by
  induction h with
  | p x u h => exact .p x u (h.kept k)
  | ptr nm off b h => exact .ptr nm off b h
  | own t e size es u T h1 h2 h3 h0 h4 h5 =>
    refine .own t e size es u T (h1.kept k) h2 h3 h0 h4 fun he => ?_
    obtain ⟨a, cap, rfl, h6⟩ := h5 he
    refine ⟨a, cap, rfl, h6.imp (fun h => ⟨h.1, fun ad had => Nat.lt_of_lt_of_le (h.2 ad had) k.size⟩) (Or.imp_left ?_)⟩
    rintro ⟨b, us, T2, ha, g1, g2, g3, g4, g5⟩
    exact ⟨b, us, T2, ha, g1, g2, g3, (k.blk b (.inr ⟨T2, List.mem_of_getElem? g1, .inl g2⟩)).trans g4, g5⟩
  | fn f first cap us vs h1 h2 _ _ ih1 ih2 => exact .fn f first cap us vs h1 h2 ih1 ih2
  | yld t T p h1 h2 => exact .yld t T p h1 h2
  | sp P u b nm off i e n v h1 h2 h3 h4 h5 h6 => exact .sp P u b nm off i e n v h1 (k.shp i _ h2) h3 h4 h5 h6
  | agg cs us h1 h2 _ ih => exact .agg cs us h1 h2 ih
  | tup cs us h1 _ ih => exact .tup cs us h1 ih
  | undef => exact .undef
theorem Inv.kept {G : Gh} {s : S} {w w' : World} (h : Inv G s w) (k : Kept G.has G.com w w') : Inv G s w' := by
  refine ⟨fun b o hc => ?_, h.names, h.nodup, fun i b cs hb hcs => ?_, h.live, fun t T b hT hb => ?_, fun T hT => ⟨fun q hq => ?_, (h.pro T hT).2⟩, h.glob.mono fun b o u h1 h2 => ⟨h1, k.cell b o u h1 h2⟩⟩
  · obtain ⟨h1, h2⟩ := h.com b o hc
    exact ⟨Nat.lt_of_lt_of_le h1 k.size, h2⟩
  · obtain ⟨us, ty, h1, h2, h3⟩ := h.var i b cs hb hcs
    exact ⟨us, ty, (k.blk b (.inl (List.mem_of_getElem? hb))).trans h1, h2, fun j c u hc hu => ⟨(h3 j c u hc hu).1, (h3 j c u hc hu).2.kept k⟩⟩
  · obtain ⟨h1, h2⟩ := h.tok t T b hT hb
    exact ⟨Nat.lt_of_lt_of_le h1 k.size, h2⟩
  · refine q.p.cl _ _ _ _ _ ((h.pro T hT).1 q hq) ⟨k.os, k.tape, k.output, k.size, fun b hb => k.blk b (.inr ⟨T, hT, .inr ⟨q, hq, hb⟩⟩), fun b o u hr hu => k.cell b o u ((h.pro T hT).2 b o ⟨q, hq, hr⟩) hu, k.shp⟩
theorem Rel.kept {N : Nat} {G : Gh} {σ : St} {a : Act} {w w' : World} (h : Rel N G σ a w) (k : Kept G.has G.com w w') : Rel N G σ a w' := ⟨h.inv.kept k, fun t d hd => ⟨(h.env t d hd).1, (h.env t d hd).2.kept k⟩, h.size⟩
/-- As Ex; but block l may turn. -/
structure ExL (l : Nat) (B : Nat × Nat) (G : Gh) (w : World) (G' : Gh) (w' : World) : Prop where
  os : w'.os = w.os
  tape : w'.tape = w.tape
  output : w'.output = w.output
  size : w.heap.size ≤ w'.heap.size
  com : ∀ b o u, G.com b o → w.cell? ⟨b, o, none⟩ = some u → G'.com b o ∧ w'.cell? ⟨b, o, none⟩ = some u
  old : ∀ b, b < w.heap.size → b ≠ l → ¬ G.has b → w'.heap[b]? = w.heap[b]?
  new : ∀ b o, G'.com b o → G.com b o ∨ w.heap.size ≤ b ∨ G.has b
  mine : ∀ b, G'.has b → w.heap.size ≤ b ∨ G.has b
  mono : ∀ b o, G.com b o → G'.com b o
  shp : ShKept w w'
  name : ∀ (nm b : Nat), nm < B.1 → G.name[nm]? = some b → G'.name[nm]? = some b
  tok : ∀ (t : Nat) (T : Tok), t < B.2 → G.tok[t]? = some T → ∃ T', G'.tok[t]? = some T' ∧ T.le T' ∧ (T.len = T'.len → T' = T ∧ ∀ b, T.has b → w'.heap[b]? = w.heap[b]?)
theorem Ex.l {B : Nat × Nat} {G G' : Gh} {w w' : World} (h : Ex B G w G' w') (l : Nat) : ExL l B G w G' w' :=
  ⟨h.ext.os, h.ext.tape, h.ext.output, h.ext.size, h.ext.com, fun b hb _ hn => h.ext.old b hb (fun hm => hn (.inl hm)) (fun T hT hb => hn (.inr ⟨T, hT, hb⟩)), fun b o hc => by
    rcases h.ext.new b o hc with k | k | k | k
    · exact .inl k
    · exact .inr (.inl k)
    · exact .inr (.inr (.inl k))
    · exact .inr (.inr (.inr k)), fun b hb => by
    rcases h.ext.mine b hb with k | k | k
    · exact .inl k
    · exact .inr (.inl k)
    · exact .inr (.inr k), h.ext.mono, h.ext.shp, h.name, h.tok⟩
theorem ExL.trans {l : Nat} {B : Nat × Nat} {G G' G'' : Gh} {w w' w'' : World} (h : ExL l B G w G' w') (k : ExL l B G' w' G'' w'') : ExL l B G w G'' w'' := by
  refine ⟨k.os.trans h.os, k.tape.trans h.tape, k.output.trans h.output, Nat.le_trans h.size k.size, fun b o u hc hu => ?_, fun b hb hl hn => ?_, fun b o hc => ?_, fun b hb => ?_, fun b o hc => k.mono b o (h.mono b o hc), h.shp.trans k.shp, fun nm b hl hb => k.name nm b hl (h.name nm b hl hb), fun t T hl hT => ?_⟩
  · obtain ⟨h1, h2⟩ := h.com b o u hc hu
    exact k.com b o u h1 h2
  · rw [k.old b (Nat.lt_of_lt_of_le hb h.size) hl fun hm => ?_, h.old b hb hl hn]
    rcases h.mine b hm with h1 | h1
    · omega
    · exact hn h1
  · rcases k.new b o hc with h1 | h1 | h1
    · exact h.new b o h1
    · exact .inr (.inl (Nat.le_trans h.size h1))
    · exact .inr (h.mine b h1)
  · rcases k.mine b hb with h1 | h1
    · exact .inl (Nat.le_trans h.size h1)
    · exact h.mine b h1
  · obtain ⟨T', hT', h1, h2⟩ := h.tok t T hl hT
    obtain ⟨T'', hT'', k1, k2⟩ := k.tok t T' hl hT'
    refine ⟨T'', hT'', h1.trans k1, fun he => ?_⟩
    obtain ⟨e1, f1⟩ := h2 (by have := h1.len; have := k1.len; omega)
    obtain ⟨e2, f2⟩ := k2 (by have := h1.len; have := k1.len; omega)
    subst e1
    exact ⟨e2, fun b hb => (f2 b hb).trans (f1 b hb)⟩
/-- Block l, no cells, becomes another. -/
theorem putObj_kept {M : Nat → Prop} {K : Nat → Nat → Prop} {w : World} {l : Nat} {o : Obj} (o' : Obj) (_h : w.heap[l]? = some o) (ho : (∀ i, w.cell? ⟨l, i, none⟩ = none) ∧ w.shape? l = none) (hl : ¬ M l) : Kept M K w (w.putObj l o') :=
  ⟨rfl, rfl, rfl, by simp, fun b hb => World.putObj_heap_other fun e => hl (e ▸ hb), fun b i u _ hu => by
    have hne : b ≠ l := fun e => by rw [e, ho.1] at hu; cases hu
    rw [World.cell?_of_block (w := w) (World.putObj_heap_other hne)]; exact hu, fun b sh hb => by
    have hne : b ≠ l := fun e => by rw [e, ho.2] at hb; cases hb
    rw [shape_eq (w := w) (World.putObj_heap_other hne)]; exact hb⟩
theorem putObj_exl {B : Nat × Nat} {G : Gh} {w : World} {l : Nat} {o : Obj} (o' : Obj) (h : w.heap[l]? = some o) (ho : (∀ i, w.cell? ⟨l, i, none⟩ = none) ∧ w.shape? l = none) (hl : ¬ G.has l) : ExL l B G w G (w.putObj l o') := by
  have k : Kept G.has G.com w (w.putObj l o') := putObj_kept o' h ho hl
  exact ⟨k.os, k.tape, k.output, k.size, fun b i u hc hu => ⟨hc, k.cell b i u hc hu⟩, fun b _ hne _ => World.putObj_heap_other hne, fun _ _ h => .inl h, fun _ h => .inr h, fun _ _ h => h, k.shp, fun _ _ _ h => h, fun t T _ hT => ⟨T, hT, .refl T, fun _ => ⟨rfl, fun b hb => k.blk b (.inr ⟨T, List.mem_of_getElem? hT, hb⟩)⟩⟩⟩
/-- From a world in which l was not yet. -/
theorem Ex.thenL {l : Nat} {B : Nat × Nat} {G G' G'' : Gh} {w w' w'' : World} (h : Ex B G w G' w') (k : ExL l B G' w' G'' w'') (hl : w.heap.size ≤ l) : Ex B G w G'' w'' := by
  have t := (h.l l).trans k
  refine ⟨⟨t.os, t.tape, t.output, t.size, t.com, fun b hb hn ht => t.old b hb (by omega) fun hm => ?_, fun b o hc => ?_, fun b hb => ?_, t.mono, t.shp⟩, t.name, t.tok⟩
  · rcases hm with hm | ⟨T, hT, hm⟩
    · exact hn hm
    · exact ht T hT hm
  · rcases t.new b o hc with k | k | k
    · exact .inl k
    · exact .inr (.inl k)
    · exact .inr (.inr k)
  · exact t.mine b hb
theorem Ex.kept {B : Nat × Nat} {G G' : Gh} {w w' w'' : World} (h : Ex B G w G' w') (k : Kept G'.has G'.com w' w'') (hb : ∀ b, b < w.heap.size → w''.heap[b]? = w'.heap[b]?) : Ex B G w G' w'' := by
  refine ⟨⟨k.os.trans h.ext.os, k.tape.trans h.ext.tape, k.output.trans h.ext.output, Nat.le_trans h.ext.size k.size, fun b o u hc hu => ?_, fun b hlt hn ht => (hb b hlt).trans (h.ext.old b hlt hn ht), h.ext.new, h.ext.mine, h.ext.mono, h.ext.shp.trans k.shp⟩, h.name, fun t T hl hT => ?_⟩
  · obtain ⟨h1, h2⟩ := h.ext.com b o u hc hu
    exact ⟨h1, k.cell b o u h1 h2⟩
  · obtain ⟨T', hT', h1, h2⟩ := h.tok t T hl hT
    refine ⟨T', hT', h1, fun he => ?_⟩
    obtain ⟨rfl, h3⟩ := h2 he
    exact ⟨rfl, fun b hb => (k.blk b (.inr ⟨T', List.mem_of_getElem? hT', hb⟩)).trans (h3 b hb)⟩
theorem Ex.stp {k m : Nat} {G G' : Gh} {w w' : World} (h : Ex (k, m) G w G' w') (h1 : G.name.length ≤ k) (h2 : G.tok.length ≤ m) : Stp G w G' w' :=
  ⟨h.ext, fun nm b hb => h.name nm b (Nat.lt_of_lt_of_le (List.getElem?_eq_some_iff.1 hb).1 h1) hb, fun t T hT => h.tok t T (Nat.lt_of_lt_of_le (List.getElem?_eq_some_iff.1 hT).1 h2) hT⟩
theorem ExL.stays {l : Nat} {B : Nat × Nat} {G G' : Gh} {w w' : World} (h : ExL l B G w G' w') {b : Nat} (hlt : b < w.heap.size) (hl : b ≠ l) (hn : ¬ G.has b) : w'.heap[b]? = w.heap[b]? ∧ ¬ G'.has b :=
  ⟨h.old b hlt hl hn, fun hm => by
    rcases h.mine b hm with k | k
    · omega
    · exact hn k⟩
theorem ExL.not {l : Nat} {B : Nat × Nat} {G G' : Gh} {w w' : World} (h : ExL l B G w G' w') {b : Nat} (hlt : b < w.heap.size) (hn : ¬ G.has b) : ¬ G'.has b := fun hm => by
  rcases h.mine b hm with k | k
  · omega
  · exact hn k
/-- New blocks, of nobody. -/
theorem below_ex {B : Nat × Nat} {G : Gh} {s : S} {w w' : World} (hI : Inv G s w) (h : Below w.heap.size w w') : Ex B G w G w' :=
  ⟨⟨h.os, h.tape, h.output, h.size, fun b o u hc hu => ⟨hc, by rw [h.cell (p := ⟨b, o, none⟩) (hI.com b o hc).1]; exact hu⟩, fun b hb _ _ => h.block b hb, fun _ _ h => .inl h, fun b hb => .inr hb, fun _ _ h => h, fun b sh hk => by rw [shape_eq (h.block b (shape_lt hk))]; exact hk⟩, fun _ _ _ h => h,
    fun t T _ hT => ⟨T, hT, .refl T, fun _ => ⟨rfl, fun b hb => h.block b (hI.tok t T b hT hb).1⟩⟩⟩
theorem below_kept {G : Gh} {s : S} {w w' : World} (hI : Inv G s w) (h : Below w.heap.size w w') : Kept G.has G.com w w' :=
  ⟨h.os, h.tape, h.output, h.size, fun b hb => h.block b (hI.hasLt hb), fun b o u hc hu => by rw [h.cell (p := ⟨b, o, none⟩) (hI.com b o hc).1]; exact hu, fun b sh hk => by rw [shape_eq (h.block b (shape_lt hk))]; exact hk⟩

/-! ### iterators -/
section
variable {P : Program} {tb : Tbl}
/-- As CallOK; what is handed back and what memory becomes hang on more than what is known. -/
structure CallJ (P : Program) (f : FuncId) (args : List D) (s : S) (R : D → S → Prop) : Prop where
  fn : isFn P f = true
  out : ∀ (G : Gh) (w : World) (us : Array Value), Inv G s w → us.size = args.length → (∀ (j : Nat) d u, args[j]? = some d → us[j]? = some u → DRel G w d u) →
    Calls P f us w fun e w' => ∃ u G' r s', e = .returned u ∧ Stp G w G' w' ∧ Inv G' s' w' ∧ DRel G' w' r u ∧ R r s'
/-- A function that hands its loop the elements xs, one after the other, till the loop says no. -/
def IterOK (P : Program) (g : FuncId) (cap : List V) (xs : List (List V)) : Prop :=
  CallJ P g (.yld P 0 xs :: cap.map .p) ⟨[], [0]⟩ fun _ s' => s' = ⟨[], [xs.length]⟩ ∨ s' = ⟨[], [xs.length + 1]⟩
/-- A round's parameters. -/
def putP : List Nat → List V → Env → Env
  | p :: ps, v :: vs, env => putP ps vs ((p, .p v) :: env)
  | _, _, env => env
/-- The rounds of a loop over a list, from memory s. -/
def RL (k m : Nat) (P : Program) (N : Nat) (ps : List Nat) (asn body : Code) (env : Env) (Q : Exit → St → Prop) : List (List V) → S → Prop
  | [], s => Q .normal ⟨env, s⟩
  | x :: r, s => T (k, m) P N asn (fun e σ1 => e = .normal ∧ T (k, m) P N body (fun e σ2 => ∃ s', Le (k, m) N ⟨[], σ2.s⟩ ⟨[], s'⟩ ∧ s'.heap.length = k ∧ s'.live.length = m ∧
      match e with
      | .normal => RL k m P N ps asn body env Q r s'
      | .ret => Q .ret ⟨env, s'⟩
      | .exit i => Q (.exit i) ⟨env, s'⟩
      | _ => False) σ1) ⟨putP ps x env, s⟩
theorem putP_rel {G : Gh} {w : World} : ∀ (ps : List Nat) (x : List V) (us : List Value) (env : Env) (tm : Array Value), us.length = x.length → (∀ (j : Nat) c u, x[j]? = some c → us[j]? = some u → VRel G.com w c u) → (∀ t ∈ ps, t < tm.size) →
    (∀ t d, env.lookup t = some d → t < tm.size ∧ DRel G w d (tm.getD t undef)) →
    ((ps.zip us).foldl (fun t (p, v) => t.setIfInBounds p v) tm).size = tm.size ∧ ∀ t d, (putP ps x env).lookup t = some d → t < tm.size ∧ DRel G w d (((ps.zip us).foldl (fun t (p, v) => t.setIfInBounds p v) tm).getD t undef)
  | [], _, _, env, tm, _, _, _, h => ⟨rfl, by simpa [putP] using h⟩
  | p :: ps, [], us, env, tm, hl, _, _, h => by
    have : us = [] := List.eq_nil_of_length_eq_zero (by simpa using hl)
    subst this
    exact ⟨rfl, by simpa [putP] using h⟩
  | p :: ps, v :: vs, [], env, tm, hl, _, _, h => by simp at hl
  | p :: ps, v :: vs, u :: us, env, tm, hl, hr, hp, h => by
    have hsz : (tm.setIfInBounds p u).size = tm.size := by simp
    obtain ⟨h1, h2⟩ := putP_rel ps vs us ((p, .p v) :: env) (tm.setIfInBounds p u) (by simpa using hl) (fun j c u hc hu => hr (j + 1) c u (by simpa using hc) (by simpa using hu)) (fun t ht => by rw [hsz]; exact hp t (by simp [ht])) (fun t d hd => by
      rw [hsz]
      rw [List.lookup_cons] at hd
      by_cases ht : t = p
      · subst ht
        simp only [beq_self_eq_true, Option.some.injEq] at hd
        subst hd
        have hlt := hp t (by simp)
        exact ⟨hlt, .p _ _ (by simpa [Array.getD_eq_getD_getElem?, hlt] using hr 0 v u rfl rfl)⟩
      · have hb : (t == p) = false := by simpa using ht
        rw [hb] at hd
        obtain ⟨k1, k2⟩ := h t d hd
        have hne : p ≠ t := fun e => ht e.symm
        exact ⟨k1, by simpa [Array.getD_eq_getD_getElem?, Array.getElem?_setIfInBounds, hne] using k2⟩)
    rw [hsz] at h1 h2
    exact ⟨h1, h2⟩
theorem noCells_loop {w : World} {l : Nat} {r : Loop} (h : w.heap[l]? = some (.loop r)) : (∀ i, w.cell? ⟨l, i, none⟩ = none) ∧ w.shape? l = none := ⟨fun i => by simp [World.cell?, h], by simp [World.shape?, h]⟩
theorem noCells_def {w : World} {l : Nat} {r : Option (List Deferred)} (h : w.heap[l]? = some (.deferred r)) : (∀ i, w.cell? ⟨l, i, none⟩ = none) ∧ w.shape? l = none := ⟨fun i => by simp [World.cell?, h], by simp [World.shape?, h]⟩
/-- Entering a loop over a function: its record, and a mark at an outermost one. -/
theorem enter_loop {rd : Option Nat} {lo : Nat} {G : Gh} {a : Act} {w : World} (hF : Fr rd lo G a w) (fn : FuncId) (ps : Array Tmp) (asn body : Code) :
    ∃ (l : Nat) (Ds : List Nat) (w1 : World) (rec : LoopState → Option Code → Loop), (Instr.enterLoop fn a.tmps ps asn body (FW rd).round).run P w = .ok (l, Ds.map markOf) w1 ∧
      (∀ st pe, (rec st pe).state = st ∧ (rec st pe).pending = pe ∧ (rec st pe).fn = fn ∧ (rec st pe).tmps = a.tmps ∧ (rec st pe).params = ps ∧ (rec st pe).assign = asn ∧ (rec st pe).body = body) ∧
      (∀ st pe st' pe', { rec st pe with state := st', pending := pe' } = rec st' pe') ∧
      w1.heap[l]? = some (.loop (rec .ready none)) ∧ w.heap.size ≤ l ∧ Below w.heap.size w w1 ∧ Ds.Nodup ∧ ∀ b ∈ Ds, w.heap.size ≤ b ∧ b ≠ l ∧ w1.heap[b]? = some (.deferred (some [])) := by
  rw [FW_round]
  cases rd with
  | none =>
    refine ⟨_, [w.heap.size], _, fun st pe => { state := st, pending := pe, fn, tmps := a.tmps, params := ps, assign := asn, body, defers := w.heap.size }, run_enterLoop_outer _ _ _ _ _, fun _ _ => ⟨rfl, rfl, rfl, rfl, rfl, rfl, rfl⟩, fun _ _ _ _ => rfl, ?_, by omega, ((Below.refl _ w).alloc (Nat.le_refl _) _).alloc (by simp) _, by simp, fun b hb => ?_⟩
    · have := World.alloc_heap_new (w.alloc (.deferred (some []))) (.loop { state := .ready, pending := none, fn, tmps := a.tmps, params := ps, assign := asn, body, defers := w.heap.size })
      rwa [World.size_alloc] at this
    · simp only [List.mem_singleton] at hb
      subst hb
      exact ⟨Nat.le_refl _, by omega, (Below.heap_alloc _ _ _ (by simp)).trans (World.alloc_heap_new w _)⟩
  | some l0 =>
    obtain ⟨⟨r0, h0⟩, -⟩ := hF.round l0 rfl
    refine ⟨_, [], _, fun st pe => { state := st, pending := pe, fn, tmps := a.tmps, params := ps, assign := asn, body, defers := r0.defers }, run_enterLoop_inner h0 _ _ _ _ _, fun _ _ => ⟨rfl, rfl, rfl, rfl, rfl, rfl, rfl⟩, fun _ _ _ _ => rfl, World.alloc_heap_new w _, Nat.le_refl _, (Below.refl _ w).alloc (Nat.le_refl _) _, List.nodup_nil, fun _ h => (nomatch h)⟩
/-- More cells stand. -/
theorem DRel.com {G : Gh} {C : Nat → Nat → Prop} {w : World} {d : D} {u : Value} (h : DRel G w d u) (hc : ∀ b o, G.com b o → C b o) : DRel ⟨C, G.name, G.tok⟩ w d u := by
  induction h with
  | p x u h => exact .p x u (h.mono (Nat.le_refl _) fun b o u h1 h2 => ⟨hc b o h1, h2⟩)
  | ptr nm off b h => exact .ptr nm off b h
  | own t e size es u T h1 h2 h3 h0 h4 h5 =>
    refine .own t e size es u T (h1.mono (Nat.le_refl _) fun b o u h1 h2 => ⟨hc b o h1, h2⟩) h2 h3 h0 h4 fun he => ?_
    obtain ⟨a, cap, rfl, h6⟩ := h5 he
    exact ⟨a, cap, rfl, h6.imp id (Or.imp_left fun ⟨b, us, T2, ha, g⟩ => ⟨b, us, T2, ha, g⟩)⟩
  | fn f first cap us vs h1 h2 _ _ ih1 ih2 => exact .fn f first cap us vs h1 h2 ih1 ih2
  | yld t T p h1 h2 => exact .yld t T p h1 h2
  | sp P u b nm off i e n v h1 h2 h3 h4 h5 h6 => exact .sp P u b nm off i e n v h1 h2 h3 h4 h5 h6
  | agg cs us h1 h2 _ ih => exact .agg cs us h1 h2 ih
  | tup cs us h1 _ ih => exact .tup cs us h1 ih
  | undef => exact .undef
/-- The state of a loop over a list between two rounds. -/
def LoopSt (P : Program) (N : Nat) (ps : Array Tmp) (asn body : Code) (env : Env) (Q : Exit → St → Prop) (xs : List (List V)) (k0 m0 : Nat) (G0 : Gh) (w0 : World) (sz1 l : Nat) (Ds : List Nat) (rec : LoopState → Option Code → Loop) (k : Nat) (M : Nat → Prop) (K : Nat → Nat → Prop) (W : World) : Prop :=
  ∃ (Gc : Gh) (s : S), (∀ b, M b ↔ b < sz1 ∨ Gc.has b) ∧ (∀ b o, K b o ↔ Gc.com b o) ∧ Ex (k0, m0) G0 w0 Gc W ∧ Inv Gc s W ∧ s.heap.length = k0 ∧ s.live.length = m0 ∧
    (∀ b ∈ Ds, W.heap[b]? = some (.deferred (some [])) ∧ ¬ Gc.has b) ∧ ¬ Gc.has l ∧
    ((k ≤ xs.length ∧ W.heap[l]? = some (.loop (rec .ready none)) ∧ RL k0 m0 P N ps.toList asn body env Q (xs.drop k) s) ∨
     (k = xs.length + 1 ∧ ∃ c e, W.heap[l]? = some (.loop (rec .done (some c))) ∧ (c = .ret ∧ e = .ret ∨ ∃ i, c = .exit i ∧ e = .exit i) ∧ Q e ⟨env, s⟩))
section
variable {N : Nat} {ps : Array Tmp} {asn body : Code} {env : Env} {Q : Exit → St → Prop} {xs : List (List V)} {k0 m0 : Nat} {G0 : Gh} {w0 : World} {sz1 l : Nat} {Ds : List Nat} {rec : LoopState → Option Code → Loop}
theorem LoopSt.cl (h0 : w0.heap.size ≤ sz1) (hl : l < sz1) (hD : ∀ b ∈ Ds, b < sz1) {k : Nat} {M : Nat → Prop} {K : Nat → Nat → Prop} {W W' : World} (h : LoopSt P N ps asn body env Q xs k0 m0 G0 w0 sz1 l Ds rec k M K W) (hk : Kept M K W W') : LoopSt P N ps asn body env Q xs k0 m0 G0 w0 sz1 l Ds rec k M K W' := by
  obtain ⟨Gc, s, h1, h2, h3, h4, h5, h6, h7, h8, h9⟩ := h
  have kk : Kept Gc.has Gc.com W W' := ⟨hk.os, hk.tape, hk.output, hk.size, fun b hb => hk.blk b ((h1 b).2 (.inr hb)), fun b o u hc => hk.cell b o u ((h2 b o).2 hc), hk.shp⟩
  have hlt : ∀ b, b < sz1 → W'.heap[b]? = W.heap[b]? := fun b hb => hk.blk b ((h1 b).2 (.inl hb))
  refine ⟨Gc, s, h1, h2, h3.kept kk fun b hb => hlt b (by omega), h4.kept kk, h5, h6, fun b hb => ⟨by rw [hlt b (hD b hb)]; exact (h7 b hb).1, (h7 b hb).2⟩, h8, ?_⟩
  rw [hlt l hl]
  exact h9
theorem LoopSt.law {a : Act} (hN : a.tmps.size = N) (hrec : ∀ st pe, (rec st pe).state = st ∧ (rec st pe).pending = pe ∧ (rec st pe).tmps = a.tmps ∧ (rec st pe).params = ps ∧ (rec st pe).assign = asn ∧ (rec st pe).body = body)
    (hrec2 : ∀ st pe st' pe', { rec st pe with state := st', pending := pe' } = rec st' pe') (h0 : w0.heap.size ≤ l) (hl : l < sz1) (hD : ∀ b ∈ Ds, b ≠ l) (henv : EnvRel G0 w0 env a) (hk0 : G0.name.length = k0) (hm0 : G0.tok.length = m0)
    (hps : ∀ x ∈ xs, x.length = ps.size) (hpl : ∀ t ∈ ps.toList, t < N) (k : Nat) (M : Nat → Prop) (K C : Nat → Nat → Prop) (W : World) (x : List V) (us : Array Value)
    (hst : LoopSt P N ps asn body env Q xs k0 m0 G0 w0 sz1 l Ds rec k M K W) (hx : xs[k]? = some x) (hus : us.size = x.length) (hrel : ∀ (j : Nat) c u, x[j]? = some c → us[j]? = some u → VRel C W c u) (hKC : ∀ b o, K b o → C b o)
    (hC : ∀ b o, C b o → b < W.heap.size ∧ (M b → K b o)) (hM : ∀ b, M b → b < W.heap.size) : YieldAt Fence.wide 0 P l us W fun e w' =>
      ∃ k' M' K', ((e = .returned (.bool true) ∧ k' = k + 1) ∨ (e = .returned (.bool false) ∧ k' = xs.length + 1)) ∧ LoopSt P N ps asn body env Q xs k0 m0 G0 w0 sz1 l Ds rec k' M' K' w' ∧ Yld M C W M' K' w' := by
  obtain ⟨Gc, s, hM', hK', hE, hI, hs1, hs2, hDs, hlc, hcase⟩ := hst
  have hkx : k < xs.length := (List.getElem?_eq_some_iff.1 hx).1
  obtain ⟨hloop, hRL⟩ : W.heap[l]? = some (.loop (rec .ready none)) ∧ RL k0 m0 P N ps.toList asn body env Q (xs.drop k) s := by
    rcases hcase with ⟨-, h1, h2⟩ | ⟨h1, -⟩
    · exact ⟨h1, h2⟩
    · omega
  have hdrop : xs.drop k = x :: xs.drop (k + 1) := by
    rw [List.drop_eq_getElem_cons hkx]
    congr 1
    exact (List.getElem?_eq_some_iff.1 hx).2
  rw [hdrop] at hRL
  have hRL : T (k0, m0) P N asn (fun e σ1 => e = .normal ∧ T (k0, m0) P N body (fun e σ2 => ∃ s', Le (k0, m0) N ⟨[], σ2.s⟩ ⟨[], s'⟩ ∧ s'.heap.length = k0 ∧ s'.live.length = m0 ∧
      match e with
      | .normal => RL k0 m0 P N ps.toList asn body env Q (xs.drop (k + 1)) s'
      | .ret => Q .ret ⟨env, s'⟩
      | .exit i => Q (.exit i) ⟨env, s'⟩
      | _ => False) σ1) ⟨putP ps.toList x env, s⟩ := hRL
  have hMh : ∀ b, Gc.has b → M b := fun b hb => (hM' b).2 (.inr hb)
  have hcC : ∀ b o, Gc.com b o → C b o := fun b o h => hKC b o ((hK' b o).2 h)
  have hMc : ∀ b o, C b o → M b → Gc.com b o := fun b o hc hm => (hK' b o).1 ((hC b o hc).2 hm)
  obtain ⟨Gr, hGr⟩ : ∃ Gr : Gh, Gr = ⟨C, Gc.name, Gc.tok⟩ := ⟨_, rfl⟩
  have hhas : ∀ b, Gr.has b ↔ Gc.has b := fun b => by subst hGr; exact Iff.rfl
  have hIr : Inv Gr s W := by
    subst hGr
    refine ⟨fun b o hc => ⟨(hC b o hc).1, fun hn => (hI.com b o (hMc b o hc (hMh b (.inl hn)))).2.1 hn, fun T hT => ?_⟩, hI.names, hI.nodup, fun i b cs hb hcs => ?_, hI.live, hI.tok, fun T hT => ⟨(hI.pro T hT).1, fun b o hr => hcC b o ((hI.pro T hT).2 b o hr)⟩, hI.glob.mono fun b o u h1 h2 => ⟨hcC b o h1, h2⟩⟩
    · have key : T.has b → T.may b o := fun hb => (hI.com b o (hMc b o hc (hMh b (.inr ⟨T, hT, hb⟩)))).2.2 T hT
      exact ⟨fun hb => (key (.inl hb)).1 hb, fun hb => (key (.inr hb)).2 hb⟩
    · obtain ⟨vs, ty, v1, v2, v3⟩ := hI.var i b cs hb hcs
      exact ⟨vs, ty, v1, v2, fun j c u hc hu => ⟨(v3 j c u hc hu).1, (v3 j c u hc hu).2.com hcC⟩⟩
  have hEr : Ex (k0, m0) G0 w0 Gr W := by
    subst hGr
    refine ⟨⟨hE.ext.os, hE.ext.tape, hE.ext.output, hE.ext.size, fun b o u hc hu => ⟨hcC b o (hE.ext.com b o u hc hu).1, (hE.ext.com b o u hc hu).2⟩, hE.ext.old, fun b o hc => ?_, hE.ext.mine, fun b o hc => hcC b o (hE.ext.mono b o hc), hE.ext.shp⟩, hE.name, hE.tok⟩
    by_cases hb : w0.heap.size ≤ b
    · exact .inr (.inl hb)
    · exact hE.ext.new b o (hMc b o hc ((hM' b).2 (.inl (by omega))))
  have hlr : ¬ Gr.has l := fun h => hlc ((hhas l).1 h)
  have hlW : l < W.heap.size := (Array.getElem?_eq_some_iff.1 hloop).1
  obtain ⟨r1, r2, r3, r4, r5, r6⟩ := hrec .ready none
  have hy := run_yield (P := P) (args := us) hloop (by rw [r4, hus]; exact hps x (List.mem_of_getElem? hx))
  rw [r3, r4, r5, r6] at hy
  refine ⟨_, _, _, _, hy, roundIn_of_wpIn trivial ?_⟩
  clear hy
  have hfold : (ps.zip us).foldl (fun tmps (t, a) => tmps.setIfInBounds t a) a.tmps = (ps.toList.zip us.toList).foldl (fun t (p, v) => t.setIfInBounds p v) a.tmps := by
    rw [← Array.foldl_toList, Array.toList_zip]
  rw [hfold]
  obtain ⟨p1, p2⟩ := putP_rel (G := Gr) (w := W) ps.toList x us.toList env a.tmps (by simpa using hus) (fun j c u hc hu => by subst hGr; exact hrel j c u hc (by simpa using hu)) (fun t ht => by rw [hN]; exact hpl t ht)
    (fun t d hd => ⟨(henv t d hd).1, (henv t d hd).2.mono (hEr.stp (by omega) (by omega))⟩)
  have hRr : Rel N Gr ⟨putP ps.toList x env, s⟩ { tmps := (ps.toList.zip us.toList).foldl (fun t (p, v) => t.setIfInBounds p v) a.tmps, defers := [] } W := ⟨hIr, fun t d hd => by
    rw [p1]; exact p2 t d hd, by rw [p1]; exact hN⟩
  have hFr : Fr (some l) W.heap.size Gr { tmps := (ps.toList.zip us.toList).foldl (fun t (p, v) => t.setIfInBounds p v) a.tmps, defers := [] } W :=
    ⟨⟨[], rfl, List.nodup_nil, fun _ h => (nomatch h)⟩, fun l' h => by cases h; exact ⟨⟨_, hloop⟩, fun hn => hlr (.inl hn), fun T hT hb => hlr (.inr ⟨T, hT, hb⟩)⟩, Nat.le_refl _⟩
  refine wpIn_mono (hRL.out (some l) W.heap.size Gr _ W hRr hFr) ?_
  rintro e a1 W1 ⟨Ga, σ1, hE1, hR1, hF1, rfl, hbody⟩
  obtain ⟨hloop1, hl1⟩ : W1.heap[l]? = some (.loop (rec .ready none)) ∧ ¬ Ga.has l := by
    obtain ⟨q1, q2, q3⟩ := hE1.ext.stays hloop (fun hn => hlr (.inl hn)) (fun T hT hb => hlr (.inr ⟨T, hT, hb⟩))
    exact ⟨q1, fun h => h.elim q2 fun ⟨T, hT, hb⟩ => q3 T hT hb⟩
  refine ⟨_, run_beginRound hloop1 r1, ?_⟩
  have hbusy : ({ rec .ready none with state := .busy } : Loop) = rec .busy none := by
    have h2 := hrec2 .ready none .busy none
    rw [← h2]
    clear h2
    generalize rec .ready none = rr at r2 ⊢
    cases rr
    simp only at r2 ⊢
    rw [r2]
  rw [hbusy]
  obtain ⟨W2, hW2⟩ : ∃ W2, W1.putObj l (.loop (rec .busy none)) = W2 := ⟨_, rfl⟩
  rw [hW2]
  have hlW1 : l < W1.heap.size := (Array.getElem?_eq_some_iff.1 hloop1).1
  have hloop2 : W2.heap[l]? = some (.loop (rec .busy none)) := by rw [← hW2]; exact World.putObj_heap_same hlW1
  have hX12 : ExL l (k0, m0) Ga W1 Ga W2 := by rw [← hW2]; exact putObj_exl _ hloop1 (noCells_loop hloop1) hl1
  have hR2 : Rel N Ga σ1 a1 W2 := by rw [← hW2]; exact hR1.kept (putObj_kept _ hloop1 (noCells_loop hloop1) hl1)
  have hF2 : Fr (some l) W.heap.size Ga a1 W2 := by
    obtain ⟨Ds', m1, m2, m3⟩ := hF1.marks
    refine ⟨⟨Ds', m1, m2, fun b hb => ?_⟩, fun l' h => by cases h; exact ⟨⟨_, hloop2⟩, fun hn => hl1 (.inl hn), fun T hT hb => hl1 (.inr ⟨T, hT, hb⟩)⟩, Nat.le_trans hF1.size hX12.size⟩
    obtain ⟨g1, g2, g3⟩ := m3 b hb
    refine ⟨g1, ?_, g3⟩
    rw [← hW2, World.putObj_heap_other fun e => ?_]
    · exact g2
    · subst e; rw [hloop1] at g2; cases g2
  refine wpIn_mono (hbody.out (some l) W.heap.size Ga a1 W2 hR2 hF2) ?_
  rintro e a2 W3 ⟨Gb, σ2, hE3, hR3, hF3, s', hle, hs1', hs2', hq⟩
  obtain ⟨Gd, hE4, hR4⟩ := hle.out Gb a2 W3 ⟨hR3.inv, fun t d h => by simp at h, hR3.size⟩
  obtain ⟨hloop3, hlb⟩ : W3.heap[l]? = some (.loop (rec .busy none)) ∧ ¬ Gb.has l := by
    obtain ⟨q1, q2, q3⟩ := hE3.ext.stays hloop2 (fun hn => hl1 (.inl hn)) (fun T hT hb => hl1 (.inr ⟨T, hT, hb⟩))
    exact ⟨q1, fun h => h.elim q2 fun ⟨T, hT, hb⟩ => q3 T hT hb⟩
  have hlW3 : l < W3.heap.size := (Array.getElem?_eq_some_iff.1 hloop3).1
  have hld : ¬ Gd.has l := (hE4.l l).not hlW3 hlb
  have fin : ∀ (k' : Nat) (st : LoopState) (pe : Option Code), ((k' ≤ xs.length ∧ st = .ready ∧ pe = none ∧ RL k0 m0 P N ps.toList asn body env Q (xs.drop k') s') ∨
      (k' = xs.length + 1 ∧ st = .done ∧ ∃ c e, pe = some c ∧ (c = .ret ∧ e = .ret ∨ ∃ i, c = .exit i ∧ e = .exit i) ∧ Q e ⟨env, s'⟩)) →
      LoopSt P N ps asn body env Q xs k0 m0 G0 w0 sz1 l Ds rec k' (fun b => b < sz1 ∨ Gd.has b) Gd.com (W3.putObj l (.loop (rec st pe))) ∧ Yld M C W (fun b => b < sz1 ∨ Gd.has b) Gd.com (W3.putObj l (.loop (rec st pe))) := fun k' st pe hcs => by
    obtain ⟨W4, hW4⟩ : ∃ W4, W3.putObj l (.loop (rec st pe)) = W4 := ⟨_, rfl⟩
    have hloop4 : W4.heap[l]? = some (.loop (rec st pe)) := by rw [← hW4]; exact World.putObj_heap_same hlW3
    have hX34 : ExL l (k0, m0) Gd W3 Gd W4 := by rw [← hW4]; exact putObj_exl _ hloop3 (noCells_loop hloop3) hld
    have hI4 : Inv Gd s' W4 := by rw [← hW4]; exact hR4.inv.kept (putObj_kept _ hloop3 (noCells_loop hloop3) hld)
    rw [hW4]
    have hX : ExL l (k0, m0) Gr W Gd W4 := (hE1.l l).trans (hX12.trans ((hE3.l l).trans ((hE4.l l).trans hX34)))
    refine ⟨⟨Gd, s', fun b => Iff.rfl, fun b o => Iff.rfl, hEr.thenL hX h0, hI4, hs1', hs2', fun b hb => ?_, hld, ?_⟩, ?_⟩
    · obtain ⟨d1, d2⟩ := hDs b hb
      obtain ⟨d3, d4⟩ := hX.stays (Array.getElem?_eq_some_iff.1 d1).1 (hD b hb) (fun h => d2 ((hhas b).1 h))
      exact ⟨d3.trans d1, d4⟩
    · rcases hcs with ⟨c1, rfl, rfl, c2⟩ | ⟨c1, rfl, c, e, rfl, c2, c3⟩
      · exact .inl ⟨c1, hloop4, c2⟩
      · exact .inr ⟨c1, c, e, hloop4, c2, c3⟩
    · refine ⟨hX.os, hX.tape, hX.output, hX.size, fun b hb hm => hX.old b hb (fun e => hm ((hM' b).2 (.inl (e ▸ hl)))) fun h => hm (hMh b ((hhas b).1 h)), fun b hb => ?_, fun b o u hc hu => hX.com b o u (by subst hGr; exact hc) hu, fun b o hc => ⟨(hI4.com b o hc).1, ?_⟩, fun b o hc => hX.mono b o (by subst hGr; exact hc), hX.shp⟩
      · rcases hb with hb | hb
        · have hm := (hM' b).2 (.inl hb)
          exact ⟨Nat.lt_of_lt_of_le (hM b hm) hX.size, .inl hm⟩
        · refine ⟨hI4.hasLt hb, ?_⟩
          rcases hX.mine b hb with h | h
          · exact .inr h
          · exact .inl (hMh b ((hhas b).1 h))
      · rcases hX.new b o hc with h | h | h
        · exact .inl (by subst hGr; exact h)
        · exact .inr (.inl h)
        · exact .inr (.inr (hMh b ((hhas b).1 h)))
  have he := fun jump => run_endRound (P := P) jump hloop3
  cases e with
  | normal =>
    obtain ⟨f1, f2⟩ := fin (k + 1) .ready none (.inl ⟨hkx, rfl, rfl, hq⟩)
    refine ⟨_, _, he none, k + 1, (fun b => b < sz1 ∨ Gd.has b), Gd.com, .inl ⟨rfl, rfl⟩, ?_⟩
    rw [hrec2]
    exact ⟨f1, f2⟩
  | ret =>
    obtain ⟨f1, f2⟩ := fin (xs.length + 1) .done (some .ret) (.inr ⟨rfl, rfl, _, _, rfl, .inl ⟨rfl, rfl⟩, hq⟩)
    refine ⟨_, _, he (some .ret), xs.length + 1, (fun b => b < sz1 ∨ Gd.has b), Gd.com, .inr ⟨rfl, rfl⟩, ?_⟩
    rw [hrec2]
    exact ⟨f1, f2⟩
  | exit i =>
    obtain ⟨f1, f2⟩ := fin (xs.length + 1) .done (some (.exit i)) (.inr ⟨rfl, rfl, _, _, rfl, .inr ⟨i, rfl, rfl⟩, hq⟩)
    refine ⟨_, _, he (some (.exit i)), xs.length + 1, (fun b => b < sz1 ∨ Gd.has b), Gd.com, .inr ⟨rfl, rfl⟩, ?_⟩
    rw [hrec2]
    exact ⟨f1, f2⟩
  | goto t => exact hq.elim
  | panic ch => exact hq.elim
  | outgrown => exact hq.elim
end
set_option maxHeartbeats 4000000 in
/-- A loop over a function that hands it the elements of a list. -/
theorem T_range {B : Nat × Nat} {N : Nat} {gop : Operand} {ps : Array Tmp} {asn body : Code} {Q : Exit → St → Prop} {σ : St} {g : FuncId} {cap : List V} {xs : List (List V)}
    (hg : ev σ.env gop = some (.fn (.func g) [] (cap.map .p))) (hit : IterOK P g cap xs) (hps : ∀ x ∈ xs, x.length = ps.size) (hpl : ps.toList.all (Nat.blt · N) = true) (hB1 : B.1 ≤ σ.s.heap.length) (hB2 : B.2 ≤ σ.s.live.length)
    (hr : RL σ.s.heap.length σ.s.live.length P N ps.toList asn body σ.env Q xs σ.s) : T B P N (.rangeFunc gop ps asn body) Q σ := ⟨fun rd lo G a w hR hF => by
  refine wpIn_rangeFunc ?_
  intro fn hfn
  obtain ⟨l, Ds, w1, rec, h1, hrec, hrec2, hl1, hl0, hbel, hnd, hDs⟩ := enter_loop (P := P) hF fn ps asn body
  have hI := hR.inv
  have hI1 : Inv G σ.s w1 := hI.kept (below_kept hI hbel)
  have hE1 : Ex (σ.s.heap.length, σ.s.live.length) G w G w1 := below_ex hI hbel
  have hnm : G.name.length = σ.s.heap.length := hI.names
  have htk : G.tok.length = σ.s.live.length := by have := congrArg List.length hI.live; simpa using this
  have hlW1 : l < w1.heap.size := (Array.getElem?_eq_some_iff.1 hl1).1
  have hDlt : ∀ b ∈ Ds, b < w1.heap.size := fun b hb => (Array.getElem?_eq_some_iff.1 (hDs b hb).2.2).1
  have hfresh : ∀ b, w.heap.size ≤ b → ¬ G.has b := fun b hb hh => by have := hI.hasLt hh; omega
  have hlt : ∀ t ∈ ps.toList, t < N := all_blt hpl
  obtain ⟨us, hgv, hus, hur⟩ : ∃ us, a.eval gop = .func (.func g) #[] us ∧ us.size = cap.length ∧ ∀ (j : Nat) c u, cap[j]? = some c → us[j]? = some u → VRel G.com w1 c u := by
    have := ev_rel hR.env gop _ hg
    generalize a.eval gop = q at this
    cases this with
    | fn _ _ _ us vs k1 k2 k3 k4 =>
      have : us = #[] := by simpa using k1.symm
      subst this
      refine ⟨vs, rfl, by simpa using k2.symm, fun j c u hc hu => ?_⟩
      have := k4 j (.p c) u (by rw [List.getElem?_map, hc]; rfl) hu
      cases this with | p _ _ h => exact h.kept (below_kept hI hbel)
  obtain ⟨LS, hLS⟩ : ∃ LS, LS = LoopSt P N ps asn body σ.env Q xs σ.s.heap.length σ.s.live.length G w w1.heap.size l Ds rec := ⟨_, rfl⟩
  have hcl : ∀ k M K W W', LS k M K W → Kept M K W W' → LS k M K W' := by
    subst hLS
    exact fun k M K W W' h hk => LoopSt.cl hbel.size hlW1 hDlt h hk
  have hlaw : ∀ k M K C W x (us : Array Value), LS k M K W → xs[k]? = some x → us.size = x.length → (∀ (j : Nat) c u, x[j]? = some c → us[j]? = some u → VRel C W c u) → (∀ b o, K b o → C b o) →
      (∀ b o, C b o → b < W.heap.size ∧ (M b → K b o)) → (∀ b, M b → b < W.heap.size) → YieldAt Fence.wide 0 P l us W fun e w' =>
        ∃ k' M' K', ((e = .returned (.bool true) ∧ k' = k + 1) ∨ (e = .returned (.bool false) ∧ k' = xs.length + 1)) ∧ LS k' M' K' w' ∧ Yld M C W M' K' w' := by
    subst hLS
    intro k M K C W x us h hx hus hrel hKC hC hM
    have hrec' : ∀ st pe, (rec st pe).state = st ∧ (rec st pe).pending = pe ∧ (rec st pe).tmps = a.tmps ∧ (rec st pe).params = ps ∧ (rec st pe).assign = asn ∧ (rec st pe).body = body := fun st pe => by
      obtain ⟨r1, r2, -, r3, r4, r5, r6⟩ := hrec st pe
      exact ⟨r1, r2, r3, r4, r5, r6⟩
    exact LoopSt.law (a := a) hR.size hrec' hrec2 hl0 hlW1 (fun b hb => (hDs b hb).2.1) hR.env hnm htk hps hlt k M K C W x us h hx hus hrel hKC hC hM
  obtain ⟨p, hp1, hp2, hp3, hp4⟩ : ∃ p : Pro, p.P = P ∧ p.l = l ∧ p.xs = xs ∧ p.st = LS := ⟨{ P := P, l := l, xs := xs, st := LS, cl := hcl, law := hlaw }, rfl, rfl, rfl, rfl⟩
  refine ⟨l, Ds.map markOf, w1, { target := .fn (.func g) us, args := #[.func (.yield l) #[] #[]] }, w1, g, #[.func (.yield l) #[] #[]] ++ us, w1, h1, ?_, ?_, ?_, ?_, ?_⟩
  · simp only [resolve, hgv]
    simp [go_sem]
  · exact fun f' _ => FW_fn _ _
  · simp [invoke, go_sem, isFn_call hit.fn]
  · exact FW_n _
  apply FW_calls
  obtain ⟨T0, hT0⟩ : ∃ T0 : Tok, T0 = ⟨0, none, 0, some ⟨fun b => b < w1.heap.size, G.com, p⟩⟩ := ⟨_, rfl⟩
  have hT0h : ∀ b, T0.has b ↔ b < w1.heap.size := fun b => by
    subst hT0
    exact ⟨fun h => h.elim (fun h => (nomatch h)) fun ⟨q, hq, h⟩ => by cases hq; exact h, fun h => .inr ⟨_, rfl, h⟩⟩
  have hst0 : LoopSt P N ps asn body σ.env Q xs σ.s.heap.length σ.s.live.length G w w1.heap.size l Ds rec 0 (fun b => b < w1.heap.size) G.com w1 :=
    ⟨G, σ.s, fun b => ⟨.inl, fun h => h.elim id fun h => Nat.lt_of_lt_of_le (hI.hasLt h) hbel.size⟩, fun b o => Iff.rfl, hE1, hI1, rfl, rfl, fun b hb => ⟨(hDs b hb).2.2, hfresh b (hDs b hb).1⟩, hfresh l hl0, .inl ⟨Nat.zero_le _, hl1, hr⟩⟩
  have hInv : Inv ⟨G.com, [], [T0]⟩ ⟨[], [0]⟩ w1 := by
    refine ⟨fun b o hc => ⟨(hI1.com b o hc).1, by simp, fun T hT => ?_⟩, rfl, by simp, fun i b cs h => by simp at h, by subst hT0; rfl, fun t T b hT hb => ?_, fun T hT => ?_, hI1.glob⟩
    · simp only [List.mem_singleton] at hT
      subst hT; subst hT0
      exact ⟨fun h => (nomatch h), fun _ => ⟨_, rfl, hc⟩⟩
    · have hT' : T = T0 := by have := List.mem_of_getElem? hT; simpa using this
      have ht : t = 0 := by have := (List.getElem?_eq_some_iff.1 hT).1; simpa using this
      subst hT'; subst ht
      refine ⟨(hT0h b).1 hb, by simp, fun t' T' hT' _ => ?_⟩
      have := (List.getElem?_eq_some_iff.1 hT').1
      simpa using this
    · simp only [List.mem_singleton] at hT
      subst hT; subst hT0
      refine ⟨fun q hq => ?_, fun b o ⟨q, hq, h⟩ => ?_⟩
      · cases hq; rw [hp4, hLS]; exact hst0
      · cases hq; exact h
  have hcall := hit.out ⟨G.com, [], [T0]⟩ w1 (#[.func (.yield l) #[] #[]] ++ us) hInv (by simp [hus]; omega) (fun j d u hd hu => by
    cases j with
    | zero =>
      have e1 : d = .yld P 0 xs := by simpa using hd.symm
      have e2 : u = .func (.yield l) #[] #[] := by
        rw [Array.getElem?_append_left (by simp)] at hu
        simpa using hu.symm
      subst e1; subst e2
      rw [← hp1, ← hp2, ← hp3]
      exact .yld 0 T0 p rfl (by subst hT0; rfl)
    | succ j =>
      rw [List.getElem?_cons_succ, List.getElem?_map] at hd
      obtain ⟨c, hc, rfl⟩ := Option.map_eq_some_iff.1 hd
      rw [Array.getElem?_append_right (by simp)] at hu
      exact .p _ _ (hur j c u hc (by simpa using hu)))
  refine hcall.mono ?_
  rintro e w2 ⟨u, Gi, r, s2, he, hS, hI2, -, hs2⟩
  subst he
  obtain ⟨T2, hT2, hle, -⟩ := hS.tok 0 T0 rfl
  have hT2m : T2 ∈ Gi.tok := List.mem_of_getElem? hT2
  obtain ⟨q, hq, hqp⟩ : ∃ q, T2.pro = some q ∧ q.p = p := by
    have := hle.pro
    subst hT0
    obtain ⟨q, hq, hqp⟩ := Option.map_eq_some_iff.1 this
    exact ⟨q, hq, hqp⟩
  have hst := (hI2.pro T2 hT2m).1 q hq
  rw [hqp, hp4, hLS] at hst
  have hlen : T2.len = xs.length ∨ T2.len = xs.length + 1 := by
    have hl2 := hI2.live
    have e1 : (Gi.tok.map (·.len))[0]? = some T2.len := by rw [List.getElem?_map, hT2]; rfl
    rw [hl2] at e1
    rcases hs2 with rfl | rfl
    · exact .inl (by simpa using e1.symm)
    · exact .inr (by simpa using e1.symm)
  obtain ⟨Gc, s3, hM3, hK3, hE3, hI3, hs31, hs32, hD3, hl3, hcase⟩ := hst
  -- behind the iterator: what is common to both ends
  have fin : ∀ (r3 : Loop) (o : Obj) (e : Exit), w2.heap[l]? = some (.loop r3) → Q e ⟨σ.env, s3⟩ → ∃ G' σ', Ex B G w G' (w2.putObj l o) ∧ Rel N G' σ' { a with defers := Ds.map markOf ++ a.defers } (w2.putObj l o) ∧ Fr rd lo G' { a with defers := Ds.map markOf ++ a.defers } (w2.putObj l o) ∧ Q e σ' := fun r3 o e hr3 hq => by
    obtain ⟨w3, hw3⟩ : ∃ w3, w2.putObj l o = w3 := ⟨_, rfl⟩
    have hk3 : Kept Gc.has Gc.com w2 w3 := by rw [← hw3]; exact putObj_kept _ hr3 (noCells_loop hr3) hl3
    have hEE : Ex (σ.s.heap.length, σ.s.live.length) G w Gc w3 := hE3.kept hk3 fun b hb => by rw [← hw3]; exact World.putObj_heap_other (by omega)
    have hSS := hEE.stp (by omega) (by omega)
    rw [hw3]
    refine ⟨Gc, ⟨σ.env, s3⟩, hEE.le hB1 hB2, ⟨hI3.kept hk3, hR.env.mono hSS, hR.size⟩, ⟨?_, fun l' hl' => ?_, Nat.le_trans hF.size hEE.ext.size⟩, hq⟩
    · obtain ⟨Do, m1, m2, m3⟩ := hF.marks
      refine ⟨Ds ++ Do, by rw [List.map_append, m1], ?_, fun b hb => ?_⟩
      · rw [List.nodup_append]
        refine ⟨hnd, m2, fun b hb c hc e => ?_⟩
        subst e
        have := (hDs b hb).1
        have := (Array.getElem?_eq_some_iff.1 (m3 b hc).2.1).1
        omega
      · rcases List.mem_append.1 hb with hb | hb
        · obtain ⟨d1, d2⟩ := hD3 b hb
          refine ⟨by have := (hDs b hb).1; have := hF.size; omega, ?_, fun hn => d2 (.inl hn), fun T hT ht => d2 (.inr ⟨T, hT, ht⟩)⟩
          rw [← hw3, World.putObj_heap_other (hDs b hb).2.1]; exact d1
        · obtain ⟨k1, k2, k3, k4⟩ := m3 b hb
          exact ⟨k1, hEE.ext.stays k2 k3 k4⟩
    · obtain ⟨⟨r, k2⟩, k3, k4⟩ := hF.round l' hl'
      obtain ⟨g1, g2⟩ := hEE.ext.stays k2 k3 k4
      exact ⟨⟨r, g1⟩, g2⟩
  rcases hcase with ⟨hk, hlp, hRL⟩ | ⟨hk, c, e, hlp, hce, hq⟩
  · have hk2 : T2.len = xs.length := by omega
    rw [hk2, List.drop_length] at hRL
    have hRL : Q .normal ⟨σ.env, s3⟩ := hRL
    obtain ⟨o, ho⟩ : ∃ o, (Instr.endLoop l).run P w2 = .ok none (w2.putObj l o) := ⟨_, (run_endLoop (P := P) hlp (by rw [(hrec .ready none).1]; simp)).trans (congrArg (fun z => Result.ok z _) (hrec .ready none).2.1)⟩
    exact ⟨none, _, ho, fin _ o _ hlp hRL⟩
  · obtain ⟨o, ho⟩ : ∃ o, (Instr.endLoop l).run P w2 = .ok (some c) (w2.putObj l o) := ⟨_, (run_endLoop (P := P) hlp (by rw [(hrec .done (some c)).1]; simp)).trans (congrArg (fun z => Result.ok z _) (hrec .done (some c)).2.1)⟩
    refine ⟨some c, _, ho, ?_⟩
    have hf := fin _ o e hlp hq
    rcases hce with ⟨rfl, rfl⟩ | ⟨i, rfl, rfl⟩
    · exact wpIn_ret hf
    · exact wpIn_exit hf⟩
end
end Go.Proofs.Ytlhjieapkcnghaa
