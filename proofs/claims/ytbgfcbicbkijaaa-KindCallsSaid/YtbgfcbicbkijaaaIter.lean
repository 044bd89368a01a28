/-
  Range over a function: what an iterator promises, what a loop over it owes. Ownership by sets of blocks: the loop's own blocks are M (it may write them), S are blocks that neither writes,
  C are blocks that the iterator needs, Cw those among them that it writes.
-/
import Derived.Test.YtbgfcbicbkijaaaKit
import Derived.RangeFuncNested
import Derived.RangeFuncBound
import Derived.RangeFuncCalls
import Derived.RangeFuncLeaves
import Derived.RangeFuncWrites
import Derived.Shelf.Abstract
import Derived.Shelf.RegionOpen
import Derived.OwnWalkIn
import Derived.TacticsInMore
import Derived.LoopNIn
import Derived.LoopIn
namespace Go.Proofs.Ytbgfcbicbkijaaa
open Go.RowKit

/-- W' differs from W at most in blocks that Z allows, and in new ones. -/
structure Chg (Z : Nat → Prop) (w w' : World) : Prop where
  os : w'.os = w.os
  tape : w'.tape = w.tape
  output : w'.output = w.output
  size : w.heap.size ≤ w'.heap.size
  block : ∀ k, k < w.heap.size → ¬ Z k → w'.heap[k]? = w.heap[k]?

theorem Chg.refl (Z : Nat → Prop) (w : World) : Chg Z w w := ⟨rfl, rfl, rfl, Nat.le_refl _, fun _ _ _ => rfl⟩
theorem Chg.mono {Z Z' : Nat → Prop} {w w' : World} (h : Chg Z w w') (hz : ∀ k, k < w.heap.size → Z k → Z' k) : Chg Z' w w' :=
  ⟨h.os, h.tape, h.output, h.size, fun k hk hz' => h.block k hk (fun hzk => hz' (hz k hk hzk))⟩
theorem Chg.trans {Z Z' : Nat → Prop} {a b c : World} (h : Chg Z a b) (k : Chg Z' b c) (hz : ∀ i, i < a.heap.size → Z' i → Z i) : Chg Z a c :=
  ⟨k.os.trans h.os, k.tape.trans h.tape, k.output.trans h.output, Nat.le_trans h.size k.size, fun i hi hn =>
    (k.block i (Nat.lt_of_lt_of_le hi h.size) (fun hz' => hn (hz i hi hz'))).trans (h.block i hi hn)⟩
theorem Chg.of_below {B : Nat} {w w' : World} (h : Below B w w') : Chg (fun k => B ≤ k) w w' :=
  ⟨h.os, h.tape, h.output, h.size, fun k _ hn => h.block k (by omega)⟩
theorem Chg.below {B : Nat} {Z : Nat → Prop} {w w' : World} (h : Chg Z w w') (hB : B ≤ w.heap.size) (hz : ∀ k, Z k → B ≤ k) : Below B w w' :=
  ⟨h.os, h.tape, h.output, h.size, fun k hk => h.block k (by omega) (fun hzk => by have := hz k hzk; omega)⟩
theorem Chg.of_fresh {w w' : World} (h : Below w.heap.size w w') (Z : Nat → Prop) : Chg Z w w' :=
  ⟨h.os, h.tape, h.output, h.size, fun k hk _ => h.block k hk⟩
theorem Chg.alloc {Z : Nat → Prop} {a w : World} (h : Chg Z a w) (o : Obj) : Chg Z a (w.alloc o) :=
  h.trans (Chg.of_fresh ((Below.refl _ w).alloc (Nat.le_refl _) o) Z) (fun _ _ h => h)
theorem Chg.drew {Z : Nat → Prop} {a w : World} (h : Chg Z a w) : Chg Z a w.drew := ⟨h.os, h.tape, h.output, h.size, h.block⟩
theorem Chg.drewN {Z : Nat → Prop} {a w : World} (h : Chg Z a w) (n : Nat) : Chg Z a (w.drewN n) := ⟨h.os, h.tape, h.output, h.size, h.block⟩
theorem Chg.setCell {Z : Nat → Prop} {a w : World} (h : Chg Z a w) {p : Addr} (hp : Z p.block ∨ a.heap.size ≤ p.block) (u : Value) : Chg Z a (w.setCell p u) :=
  ⟨h.os, h.tape, h.output, Nat.le_trans h.size (by simp [World.setCell]), fun k hk hn => by
    rw [Below.heap_setCell w p u k (fun e => by subst e; rcases hp with hp | hp; exact hn hp; omega)]; exact h.block k hk hn⟩
theorem Chg.putObj {Z : Nat → Prop} {a w : World} (h : Chg Z a w) {r : Nat} (hr : Z r ∨ a.heap.size ≤ r) (o : Obj) : Chg Z a (w.putObj r o) :=
  ⟨h.os, h.tape, h.output, Nat.le_trans h.size (by simp), fun k hk hn => by
    rw [World.putObj_heap_other (fun e => by subst e; rcases hr with hr | hr; exact hn hr; omega)]; exact h.block k hk hn⟩
theorem Chg.grown {Z : Nat → Prop} {a w w' : World} {row : Option Nat} (h : Chg Z a w) (hg : w.grownBy w' row) (hr : ∀ k, row = some k → Z k ∨ a.heap.size ≤ k) : Chg Z a w' :=
  ⟨hg.os.trans h.os, hg.tape.trans h.tape, hg.output.trans h.output, Nat.le_trans h.size hg.size, fun k hk hn => by
    rw [hg.block k (Nat.lt_of_lt_of_le hk h.size) (fun e => by rcases hr k e.symm with hz | hz; exact hn hz; omega)]; exact h.block k hk hn⟩
theorem Chg.cell {Z : Nat → Prop} {w w' : World} (h : Chg Z w w') {p : Addr} (hp : p.block < w.heap.size) (hz : ¬ Z p.block) : w'.cell? p = w.cell? p := World.cell?_of_block (w := w) (h.block p.block hp hz)
theorem Chg.frozen {Z : Nat → Prop} {w w' : World} (h : Chg Z w w') {p : Addr} (hp : p.block < w.heap.size) (hz : ¬ Z p.block) : w'.frozen? p = w.frozen? p := World.frozen?_of_block (w := w) (h.block p.block hp hz)

/-- What an iterator promises: the loop gets the elements xs, one after the other, till it says no. -/
def Iter {α : Type} (P : Program) (g : Nat) (cap : Array Value) (encs : α → Array Value) (xs : List α) (C Cw : Nat → Prop) (w : World) : Prop :=
  ∀ (n l : Nat) (S : Nat → Prop) (J : List α → (Nat → Prop) → World → Prop) (Jx : (Nat → Prop) → World → Prop) (M0 : Nat → Prop),
    (∀ k, S k → ¬ Cw k ∧ k < w.heap.size) →
    (∀ k, M0 k → ¬ C k ∧ k < w.heap.size) →
    (∀ pre M W W', J pre M W → Chg (fun k => ¬ M k ∧ ¬ S k) W W' → J pre M W') →
    (∀ M W W', Jx M W → Chg (fun k => ¬ M k ∧ ¬ S k) W W' → Jx M W') →
    (∀ pre x M W, J pre M W → pre ++ [x] <+: xs → (∀ k, M k → k < W.heap.size) → YieldAt Fence.wide (n - 1) P l (encs x) W fun e W' =>
      (e = .returned (.bool true) ∧ ∃ M', J (pre ++ [x]) M' W' ∧ Chg M W W' ∧ (∀ k, M' k → (M k ∨ W.heap.size ≤ k) ∧ k < W'.heap.size)) ∨
      (e = .returned (.bool false) ∧ ∃ M', Jx M' W' ∧ Chg M W W' ∧ (∀ k, M' k → (M k ∨ W.heap.size ≤ k) ∧ k < W'.heap.size))) →
    J [] M0 w →
    CallsIn Fence.wide n P g (#[.func (.yield l) #[] #[]] ++ cap) w fun e W' => (∃ v, e = .returned v) ∧ ((∃ M', J xs M' W') ∨ (∃ M', Jx M' W'))

/-- How a round may end. -/
def roundEnd {α : Type} (I : List α → (Nat → Prop) → World → Prop) (Ix : Code → (Nat → Prop) → World → Prop) (pre : List α) (M : Nat → Prop) (W : World) : Exit → Act → World → Prop
  | .normal, _, W' => ∃ M', I pre M' W' ∧ Chg M W W' ∧ (∀ k, M' k → (M k ∨ W.heap.size ≤ k) ∧ k < W'.heap.size)
  | .ret, _, W' => ∃ M', Ix .ret M' W' ∧ Chg M W W' ∧ (∀ k, M' k → (M k ∨ W.heap.size ≤ k) ∧ k < W'.heap.size)
  | .exit id, _, W' => ∃ M', Ix (.exit id) M' W' ∧ Chg M W W' ∧ (∀ k, M' k → (M k ∨ W.heap.size ≤ k) ∧ k < W'.heap.size)
  | .goto t, _, W' => ∃ M', Ix (.goto t) M' W' ∧ Chg M W W' ∧ (∀ k, M' k → (M k ∨ W.heap.size ≤ k) ∧ k < W'.heap.size)
  | _, _, _ => False

theorem wp_range {P : Program} {n : Nat} {α : Type} {gop : Operand} {ps : Array Tmp} {assign body : Code} {Q : Exit → Act → World → Prop} {a : Act} {w : World}
    {g : Nat} {cap : Array Value} (hg : a.eval gop = .func (.func g) #[] cap) (eg : ∀ args w, (callFunc g args).run P w = .ok (.enter g args) w)
    {encs : α → Array Value} {xs : List α} {C Cw : Nat → Prop} (hit : ∀ W, Chg (fun _ => False) w W → Iter P g cap encs xs C Cw W) (hps : ∀ x, (encs x).size = ps.size)
    (hC : ∀ k, C k → k < w.heap.size)
    (S : Nat → Prop) (hS : ∀ k, S k → ¬ Cw k ∧ k < w.heap.size)
    (I : List α → (Nat → Prop) → World → Prop) (Ix : Code → (Nat → Prop) → World → Prop)
    (hI : ∀ pre M W W', I pre M W → Chg (fun k => ¬ M k ∧ ¬ S k) W W' → I pre M W')
    (hIx : ∀ c M W W', Ix c M W → Chg (fun k => ¬ M k ∧ ¬ S k) W W' → Ix c M W')
    (M0 : Nat → Prop) (hM0 : ∀ k, M0 k → ¬ C k ∧ k < w.heap.size) (h0 : I [] M0 w)
    (hround : ∀ l pre x M W, I pre M W → pre ++ [x] <+: xs → ¬ M l → ¬ S l → l < W.heap.size → (∀ k, M k → k < W.heap.size) → w.heap.size ≤ W.heap.size →
      assign.wpIn (Fence.wide.inRound l) (n - 1 - 1) P (Exit.then (fun a1 W1 => Chg (fun _ => False) W W1 ∧ ∀ W2, Chg (fun k => k = l) W1 W2 → I pre M W2 →
          body.wpIn (Fence.wide.inRound l) (n - 1 - 1) P (roundEnd I Ix (pre ++ [x]) M W2) a1 W2) (fun _ _ _ => False))
        { tmps := (ps.zip (encs x)).foldl (fun t (p, v) => t.setIfInBounds p v) a.tmps, defers := [] } W)
    (hdone : ∀ M W, I xs M W → W.heap[w.heap.size]? = some (.deferred (some [])) → (∀ k, M k → k ≠ w.heap.size) → Q .normal { a with defers := { target := .collected w.heap.size, args := #[] } :: a.defers } W)
    (hstop : ∀ c M W, Ix c M W → W.heap[w.heap.size]? = some (.deferred (some [])) → (∀ k, M k → k ≠ w.heap.size) → c.wpIn Fence.wide n P Q { a with defers := { target := .collected w.heap.size, args := #[] } :: a.defers } W) :
    (Code.rangeFunc gop ps assign body).wpIn Fence.wide n P Q a w := by
  refine wpIn_rangeFunc ?_
  intro fn hfn
  obtain ⟨rec, hrec⟩ : ∃ rec : LoopState → Option Code → Loop, rec = fun st pe => { state := st, pending := pe, fn, tmps := a.tmps, params := ps, assign, body, defers := w.heap.size } := ⟨_, rfl⟩
  obtain ⟨D, hD⟩ : ∃ D, D = w.heap.size := ⟨_, rfl⟩
  obtain ⟨l, hl⟩ : ∃ l, l = w.heap.size + 1 := ⟨_, rfl⟩
  obtain ⟨W1, hW1⟩ : ∃ W1, (w.alloc (.deferred (some []))).alloc (.loop (rec .ready none)) = W1 := ⟨_, rfl⟩
  have hsz : W1.heap.size = w.heap.size + 2 := by rw [← hW1]; simp
  have hL1 : W1.heap[l]? = some (.loop (rec .ready none)) := by
    rw [← hW1, hl]; have := World.alloc_heap_new (w.alloc (.deferred (some []))) (.loop (rec .ready none)); rwa [World.size_alloc] at this
  have hK1 : W1.heap[D]? = some (.deferred (some [])) := by
    rw [← hW1, hD]; exact (Below.heap_alloc _ _ _ (by simp)).trans (World.alloc_heap_new w _)
  have hc1 : ∀ Z, Chg Z w W1 := fun Z => by rw [← hW1]; exact ((Chg.refl _ _).alloc _).alloc _
  refine ⟨l, [{ target := .collected D, args := #[] }], W1, { target := .fn (.func g) cap, args := #[.func (.yield l) #[] #[]] }, W1, g, #[.func (.yield l) #[] #[]] ++ cap, W1, ?_, ?_, ?_, ?_, ?_, ?_⟩
  · rw [← hW1, hrec, hl, hD]; exact run_enterLoop_outer _ _ _ _ _
  · simp only [resolve, hg]
    simp [go_sem]
  · intro f' _; trivial
  · simp [invoke, go_sem, eg]
  · intro h; simp [Fence.wide] at h
  · refine (hit W1 (hc1 _) (n - 1) l S
      (fun pre M' W => ∃ M, (M' = fun k => M k ∨ k = l ∨ k = D) ∧ I pre M W ∧ W.heap[l]? = some (.loop (rec .ready none)) ∧ W.heap[D]? = some (.deferred (some [])) ∧ (∀ k, M k → k < W.heap.size ∧ k ≠ l ∧ k ≠ D))
      (fun M' W => ∃ M c, (M' = fun k => M k ∨ k = l ∨ k = D) ∧ Ix c M W ∧ W.heap[l]? = some (.loop (rec .done (some c))) ∧ W.heap[D]? = some (.deferred (some [])) ∧ (∀ k, M k → k < W.heap.size ∧ k ≠ l ∧ k ≠ D))
      (fun k => M0 k ∨ k = l ∨ k = D) ?_ ?_ ?_ ?_ ?_ ?_).mono ?_
    · exact fun k hk => ⟨(hS k hk).1, by have := (hS k hk).2; omega⟩
    · rintro k (hk | rfl | rfl)
      · exact ⟨(hM0 k hk).1, by have := (hM0 k hk).2; omega⟩
      · exact ⟨fun h => by have := hC _ h; omega, by omega⟩
      · exact ⟨fun h => by have := hC _ h; omega, by omega⟩
    · rintro pre M' W W' ⟨M, rfl, hi, h1, h2, h3⟩ hc
      refine ⟨M, rfl, hI pre M W W' hi (hc.mono fun k _ hk => ⟨fun h => hk.1 (.inl h), hk.2⟩), ?_, ?_, fun k hk => ⟨Nat.lt_of_lt_of_le (h3 k hk).1 hc.size, (h3 k hk).2⟩⟩
      · rw [hc.block l (Array.getElem?_eq_some_iff.1 h1).1 (fun h => h.1 (.inr (.inl rfl)))]; exact h1
      · rw [hc.block D (Array.getElem?_eq_some_iff.1 h2).1 (fun h => h.1 (.inr (.inr rfl)))]; exact h2
    · rintro M' W W' ⟨M, c, rfl, hi, h1, h2, h3⟩ hc
      refine ⟨M, c, rfl, hIx c M W W' hi (hc.mono fun k _ hk => ⟨fun h => hk.1 (.inl h), hk.2⟩), ?_, ?_, fun k hk => ⟨Nat.lt_of_lt_of_le (h3 k hk).1 hc.size, (h3 k hk).2⟩⟩
      · rw [hc.block l (Array.getElem?_eq_some_iff.1 h1).1 (fun h => h.1 (.inr (.inl rfl)))]; exact h1
      · rw [hc.block D (Array.getElem?_eq_some_iff.1 h2).1 (fun h => h.1 (.inr (.inr rfl)))]; exact h2
    · -- one round
      rintro pre x M' W ⟨M, rfl, hi, h1, h2, h3⟩ hpre hM'
      have hlt : l < W.heap.size := (Array.getElem?_eq_some_iff.1 h1).1
      have hltD : D < W.heap.size := (Array.getElem?_eq_some_iff.1 h2).1
      have hSl : ¬ S l := fun h => by have := (hS l h).2; omega
      have hMl : ¬ M l := fun h => (h3 l h).2.1 rfl
      have hMD : ¬ M D := fun h => (h3 D h).2.2 rfl
      have hlD : l ≠ D := by omega
      have hy := run_yield (P := P) (args := encs x) h1 (by rw [hrec]; exact hps x)
      rw [hrec] at hy
      refine ⟨fn, _, assign, body, hy, roundIn_of_wpIn hfn (wpIn_mono (hround l pre x M W hi hpre hMl hSl hlt (fun k hk => (h3 k hk).1) (by omega)) ?_)⟩
      rintro e a1 Wa hq
      cases e with
      | normal =>
        obtain ⟨hca, hbody⟩ := hq
        have hla : Wa.heap[l]? = some (.loop (rec .ready none)) := (hca.block l hlt (fun h => h)).trans h1
        refine ⟨_, run_beginRound hla (by rw [hrec]), ?_⟩
        obtain ⟨W2, hW2⟩ : ∃ W2, Wa.putObj l (.loop { rec .ready none with state := .busy }) = W2 := ⟨_, rfl⟩
        rw [hW2]
        have hlta : l < Wa.heap.size := Nat.lt_of_lt_of_le hlt hca.size
        have hl2 : W2.heap[l]? = some (.loop { rec .ready none with state := .busy }) := by rw [← hW2]; exact World.putObj_heap_same hlta
        have hk2 : W2.heap[D]? = some (.deferred (some [])) := by
          rw [← hW2, World.putObj_heap_other (Ne.symm hlD)]; exact (hca.block D hltD (fun h => h)).trans h2
        have hc2 : Chg (fun k => k = l) Wa W2 := by rw [← hW2]; exact (Chg.refl (fun k => k = l) Wa).putObj (.inl rfl) _
        have hcW2 : Chg (fun k => k = l) W W2 := (hca.mono fun _ _ h => h.elim).trans hc2 (fun _ _ h => h)
        have hi2 : I pre M W2 := hI pre M W W2 hi (hcW2.mono fun k _ hk => by subst hk; exact ⟨hMl, hSl⟩)
        refine wpIn_mono (hbody W2 hc2 hi2) ?_
        have fin : ∀ (jump : Option Code) (W3 : World), Chg M W2 W3 →
            (Instr.endRound l jump).run P W3 = .ok (.bool jump.isNone) (W3.putObj l (.loop (rec (if jump.isNone then .ready else .done) jump))) ∧
            (W3.putObj l (.loop (rec (if jump.isNone then .ready else .done) jump))).heap[l]? = some (.loop (rec (if jump.isNone then .ready else .done) jump)) ∧
            (W3.putObj l (.loop (rec (if jump.isNone then .ready else .done) jump))).heap[D]? = some (.deferred (some [])) := fun jump W3 h23 => by
          have hl3 := (h23.block l (Array.getElem?_eq_some_iff.1 hl2).1 hMl).trans hl2
          have hd3 := (h23.block D (Array.getElem?_eq_some_iff.1 hk2).1 hMD).trans hk2
          have := run_endRound (P := P) jump hl3
          rw [hrec] at this ⊢
          exact ⟨this, World.putObj_heap_same (Array.getElem?_eq_some_iff.1 hl3).1, (World.putObj_heap_other (Ne.symm hlD)).trans hd3⟩
        have tot : ∀ (W3 : World) (o : Obj), Chg M W2 W3 → Chg (fun k => M k ∨ k = l ∨ k = D) W (W3.putObj l o) := fun W3 o h23 =>
          ((hcW2.mono fun k _ hk => Or.inr (.inl hk)).trans h23 (fun _ _ h => .inl h)).putObj (.inl (.inr (.inl rfl))) o
        have keep : ∀ (pre : List α) (M' : Nat → Prop) (W3 : World) (o : Obj), (∀ k, M' k → (M k ∨ W2.heap.size ≤ k) ∧ k < W3.heap.size) → Chg (fun k => ¬ M' k ∧ ¬ S k) W3 (W3.putObj l o) := fun pre M' W3 o hm =>
          (Chg.refl _ _).putObj (.inl ⟨fun h => by rcases (hm l h).1 with h | h; exact hMl h; have := (Array.getElem?_eq_some_iff.1 hl2).1; omega, hSl⟩) o
        have mem : ∀ (M' : Nat → Prop) (W3 : World) (o : Obj), (∀ k, M' k → (M k ∨ W2.heap.size ≤ k) ∧ k < W3.heap.size) → (∀ k, M' k → k < (W3.putObj l o).heap.size ∧ k ≠ l ∧ k ≠ D) := fun M' W3 o hm k hk => by
          have h4 := hm k hk
          have hl2' := (Array.getElem?_eq_some_iff.1 hl2).1
          have hk2' := (Array.getElem?_eq_some_iff.1 hk2).1
          refine ⟨by simpa using h4.2, ?_, ?_⟩
          · rintro rfl; rcases h4.1 with h | h; exact hMl h; omega
          · rintro rfl; rcases h4.1 with h | h; exact hMD h; omega
        have mem2 : ∀ (M' : Nat → Prop) (W3 : World) (o : Obj), W2.heap.size ≤ W3.heap.size → (∀ k, M' k → (M k ∨ W2.heap.size ≤ k) ∧ k < W3.heap.size) → (∀ k, (M' k ∨ k = l ∨ k = D) → ((M k ∨ k = l ∨ k = D) ∨ W.heap.size ≤ k) ∧ k < (W3.putObj l o).heap.size) := fun M' W3 o hle hm k hk => by
          have hs := hcW2.size
          rcases hk with hk | rfl | rfl
          · have h4 := hm k hk
            refine ⟨?_, by simpa using h4.2⟩
            rcases h4.1 with h | h
            · exact .inl (.inl h)
            · exact .inr (by omega)
          · exact ⟨.inl (.inr (.inl rfl)), by simp; omega⟩
          · exact ⟨.inl (.inr (.inr rfl)), by simp; omega⟩
        rintro e a3 W3 hp
        cases e with
        | normal =>
          obtain ⟨M', hi3, h23, hm⟩ := hp
          obtain ⟨hr, hl4, hk4⟩ := fin none W3 h23
          exact ⟨_, _, hr, .inl ⟨rfl, _, ⟨M', rfl, hI _ _ _ _ hi3 (keep pre M' W3 _ hm), hl4, hk4, mem M' W3 _ hm⟩, tot W3 _ h23, mem2 M' W3 _ h23.size hm⟩⟩
        | ret =>
          obtain ⟨M', hi3, h23, hm⟩ := hp
          obtain ⟨hr, hl4, hk4⟩ := fin (some .ret) W3 h23
          exact ⟨_, _, hr, .inr ⟨rfl, _, ⟨M', .ret, rfl, hIx _ _ _ _ hi3 (keep pre M' W3 _ hm), hl4, hk4, mem M' W3 _ hm⟩, tot W3 _ h23, mem2 M' W3 _ h23.size hm⟩⟩
        | exit id =>
          obtain ⟨M', hi3, h23, hm⟩ := hp
          obtain ⟨hr, hl4, hk4⟩ := fin (some (.exit id)) W3 h23
          exact ⟨_, _, hr, .inr ⟨rfl, _, ⟨M', .exit id, rfl, hIx _ _ _ _ hi3 (keep pre M' W3 _ hm), hl4, hk4, mem M' W3 _ hm⟩, tot W3 _ h23, mem2 M' W3 _ h23.size hm⟩⟩
        | goto t =>
          obtain ⟨M', hi3, h23, hm⟩ := hp
          obtain ⟨hr, hl4, hk4⟩ := fin (some (.goto t)) W3 h23
          exact ⟨_, _, hr, .inr ⟨rfl, _, ⟨M', .goto t, rfl, hIx _ _ _ _ hi3 (keep pre M' W3 _ hm), hl4, hk4, mem M' W3 _ hm⟩, tot W3 _ h23, mem2 M' W3 _ h23.size hm⟩⟩
        | panic ch => exact hp.elim
        | outgrown => exact hp.elim
      | _ => exact hq.elim
    · exact ⟨M0, rfl, hI _ _ _ _ h0 (hc1 _), hL1, hK1, fun k hk => by have := (hM0 k hk).2; omega⟩
    · -- behind the iterator
      rintro e W2 ⟨⟨v, rfl⟩, (⟨M', M, rfl, hi, h1, h2, h3⟩ | ⟨M', M, c, rfl, hi, h1, h2, h3⟩)⟩
      · have he := run_endLoop (P := P) h1 (by rw [hrec]; simp)
        rw [hrec] at he
        refine ⟨none, _, he, ?_⟩
        have := hdone M (W2.putObj l (.loop { rec .ready none with state := .exhausted })) (hI _ _ _ _ hi ((Chg.refl _ _).putObj (.inl ⟨fun h => (h3 l h).2.1 rfl, fun h => by have := (hS l h).2; omega⟩) _)) (by rw [← hD, World.putObj_heap_other (by omega)]; exact h2) (fun k hk => by rw [← hD]; exact (h3 k hk).2.2)
        rw [← hD, hrec] at this
        exact this
      · have he := run_endLoop (P := P) h1 (by rw [hrec]; simp)
        rw [hrec] at he
        refine ⟨some c, _, he, ?_⟩
        have := hstop c M (W2.putObj l (.loop { rec .done (some c) with state := .exhausted })) (hIx _ _ _ _ hi ((Chg.refl _ _).putObj (.inl ⟨fun h => (h3 l h).2.1 rfl, fun h => by have := (hS l h).2; omega⟩) _)) (by rw [← hD, World.putObj_heap_other (by omega)]; exact h2) (fun k hk => by rw [← hD]; exact (h3 k hk).2.2)
        rw [← hD, hrec] at this
        exact this

/-- An owned row stays owned where its own block stays. -/
theorem ownsRow_chg {Z : Nat → Prop} {w w' : World} {base : Nat} {e : TypeId} {size : Nat} {v : Value} {n : Nat} {xs : List Value} (h : w.ownsRow base e size v n xs) (hc : Chg Z w w') (hz : ∀ k, v.ownBlock = some k → ¬ Z k) : w'.ownsRow base e size v n xs := by
  refine ⟨h.1, ?_⟩
  rcases h.2 with hn | ⟨g, cap, cur, rfl, hb, hgg, rest⟩
  · exact .inl hn
  · exact .inr ⟨g, cap, cur, rfl, hb, (hc.block g (Array.getElem?_eq_some_iff.1 hgg).1 (hz g rfl)).trans hgg, rest⟩
/-- The block of a row that one append has left: the same, or a new one. -/
theorem Chg.heap {Z : Nat → Prop} {w w' : World} (h : Chg Z w w') {k : Nat} {o : Obj} (ho : w.heap[k]? = some o) (hz : ¬ Z k) : w'.heap[k]? = some o := (h.block k (Array.getElem?_eq_some_iff.1 ho).1 hz).trans ho
end Go.Proofs.Ytbgfcbicbkijaaa
