/- An abstract layer over the walk: values read by what they are, not by where they lie. Part 1: values, relations, how they last. -/
import Derived.Test.YtlhjieapkcnghaaRows
import Derived.WalkKit
import Derived.Below
import Derived.Laws.AppendOwn
import Derived.RangeFuncSeq
namespace Go.Proofs.Ytlhjieapkcnghaa
open Go.RowKit

/-- Data by value: a scalar, a struct's or array's cells, a slice's elements (each a list of cells), a pointer to cells that no one turns. -/
inductive V where
  | v (u : Value)
  | agg (cs : List V)
  | sl (full : Bool) (es : List (List V))
  | ep (cs : List V)
  | opt (b : Bool) (cs : List V)
instance : Inhabited V := ⟨.v (.bool false)⟩

def scal : Value → Bool
  | .bool _ | .int _ _ | .float _ _ | .string _ | .pointer none | .nilFunc | .nilIface | .map none | .chan none => true
  | _ => false

/-- x is what u reads as, by the cells that C allows. -/
inductive VRel (C : Nat → Nat → Prop) (w : World) : V → Value → Prop where
  | v (u : Value) : scal u = true → VRel C w (.v u) u
  | agg (cs : List V) (us : Array Value) : cs.length = us.size → (∀ (j : Nat) c u, cs[j]? = some c → us[j]? = some u → u.oneCell' = true) →
      (∀ (j : Nat) c u, cs[j]? = some c → us[j]? = some u → VRel C w c u) → VRel C w (.agg cs) (.agg us)
  | sl (full : Bool) (es : List (List V)) (a : Option Addr) (cap size b off : Nat) (us : Nat → Value) :
      es.length ≤ cap → cap ≤ maxLen → (full = true → cap = es.length) → (∀ e ∈ es, e.length = size) → (a = none → cap = 0) →
      (∀ (i k : Nat) e c, es[i]? = some e → e[k]? = some c → a = some ⟨b, off, none⟩ ∧ C b (off + i * size + k) ∧ w.cell? ⟨b, off + i * size + k, none⟩ = some (us (i * size + k)) ∧ (us (i * size + k)).oneCell' = true) →
      (∀ (i k : Nat) e c, es[i]? = some e → e[k]? = some c → VRel C w c (us (i * size + k))) → (full = true → ∀ ad, a = some ad → ad.block < w.heap.size) → VRel C w (.sl full es) (.slice a es.length cap)
  | ep (cs : List V) (b off : Nat) (us : Nat → Value) :
      (∀ (k : Nat) c, cs[k]? = some c → C b (off + k) ∧ w.cell? ⟨b, off + k, none⟩ = some (us k) ∧ (us k).oneCell' = true) →
      (∀ (k : Nat) c, cs[k]? = some c → VRel C w c (us k)) → VRel C w (.ep cs) (.pointer (some ⟨b, off, none⟩))
  | opt (b : Bool) (cs : List V) (u : Value) : (b = false → u = .pointer none) → (b = true → VRel C w (.ep cs) u) → VRel C w (.opt b cs) u

/-- The program's own variables that are read: each holds some int, and stands. -/
def globsL : List Nat := [0]
def GlobOk (C : Nat → Nat → Prop) (w : World) : Prop := ∀ b ∈ globsL, ∃ m, C b 0 ∧ w.cell? ⟨b, 0, none⟩ = some (.int .i64 m)
theorem GlobOk.mono {C C' : Nat → Nat → Prop} {w w' : World} (h : GlobOk C w) (hc : ∀ b o u, C b o → w.cell? ⟨b, o, none⟩ = some u → C' b o ∧ w'.cell? ⟨b, o, none⟩ = some u) : GlobOk C' w' := fun b hb => by
  obtain ⟨m, h1, h2⟩ := h b hb
  exact ⟨m, hc b 0 _ h1 h2⟩
theorem VRel.mono {C C' : Nat → Nat → Prop} {w w' : World} {x : V} {u : Value} (h : VRel C w x u) (hz : w.heap.size ≤ w'.heap.size)
    (hc : ∀ b o u, C b o → w.cell? ⟨b, o, none⟩ = some u → C' b o ∧ w'.cell? ⟨b, o, none⟩ = some u) : VRel C' w' x u := by
  induction h with
  | v u h => exact .v u h
  | agg cs us h1 h2 _ ih => exact .agg cs us h1 h2 ih
  | sl full es a cap size b off us h1 h2 h3 h4 h5 h6 _ h8 ih =>
    refine .sl full es a cap size b off us h1 h2 h3 h4 h5 (fun i k e c he hk => ?_) ih (fun hf ad had => Nat.lt_of_lt_of_le (h8 hf ad had) hz)
    obtain ⟨g1, g2, g3, g4⟩ := h6 i k e c he hk
    exact ⟨g1, (hc _ _ _ g2 g3).1, (hc _ _ _ g2 g3).2, g4⟩
  | ep cs b off us h1 _ ih =>
    refine .ep cs b off us (fun k c hk => ?_) ih
    obtain ⟨g2, g3, g4⟩ := h1 k c hk
    exact ⟨(hc _ _ _ g2 g3).1, (hc _ _ _ g2 g3).2, g4⟩
  | opt b cs u h1 _ ih => exact .opt b cs u h1 ih

/-- What a slot, a variable's cell or an argument holds: data; a pointer into a variable of the call's own; a slice that the call may append to (token t, element type e); a function; several values; nothing. -/
inductive D where
  | p (x : V)
  | ptr (nm off : Nat)
  | own (t e size : Nat) (es : List (List V))
  | fn (f : Fn) (first cap : List D)
  | yld (P : Program) (t : Nat) (xs : List (List V))
  | sp (P : Program) (u : Nat) (b : Bool) (nm off : Nat)
  | agg (cs : List D)
  | tup (cs : List D)
  | undef
instance : Inhabited D := ⟨.undef⟩

/-- No row becomes another's, or longer. -/
def ShKept (w w' : World) : Prop := ∀ b sh, w.shape? b = some sh → w'.shape? b = some sh
theorem ShKept.refl (w : World) : ShKept w w := fun _ _ h => h
theorem ShKept.trans {w w' w'' : World} (h : ShKept w w') (k : ShKept w' w'') : ShKept w w'' := fun b sh hb => k b sh (h b sh hb)
theorem shape_lt {w : World} {b : Nat} {sh : TypeId × Nat} (h : w.shape? b = some sh) : b < w.heap.size := by
  unfold World.shape? at h
  cases hb : w.heap[b]? with
  | none => rw [hb] at h; cases h
  | some o => exact (Array.getElem?_eq_some_iff.1 hb).1
theorem shape_eq {w w' : World} {b : Nat} (h : w'.heap[b]? = w.heap[b]?) : w'.shape? b = w.shape? b := by unfold World.shape?; rw [h]
theorem shape_of {w : World} {b : Nat} {us : Array Value} {ty : TypeId} {fr : Nat × Nat} (h : w.heap[b]? = some (.cells us ty fr)) : w.shape? b = some (ty, us.size) := by unfold World.shape?; rw [h]
/-- What lasts for one who leans on the blocks M and the cells K. -/
structure Kept (M : Nat → Prop) (K : Nat → Nat → Prop) (w w' : World) : Prop where
  os : w'.os = w.os
  tape : w'.tape = w.tape
  output : w'.output = w.output
  size : w.heap.size ≤ w'.heap.size
  blk : ∀ b, M b → w'.heap[b]? = w.heap[b]?
  cell : ∀ b o u, K b o → w.cell? ⟨b, o, none⟩ = some u → w'.cell? ⟨b, o, none⟩ = some u
  shp : ShKept w w'
/-- What one round does: the loop's blocks M, the cells K that it leans on, all cells C that stand. -/
structure Yld (M : Nat → Prop) (C : Nat → Nat → Prop) (w : World) (M' : Nat → Prop) (K' : Nat → Nat → Prop) (w' : World) : Prop where
  os : w'.os = w.os
  tape : w'.tape = w.tape
  output : w'.output = w.output
  size : w.heap.size ≤ w'.heap.size
  old : ∀ b, b < w.heap.size → ¬ M b → w'.heap[b]? = w.heap[b]?
  own : ∀ b, M' b → b < w'.heap.size ∧ (M b ∨ w.heap.size ≤ b)
  com : ∀ b o u, C b o → w.cell? ⟨b, o, none⟩ = some u → K' b o ∧ w'.cell? ⟨b, o, none⟩ = some u
  new : ∀ b o, K' b o → b < w'.heap.size ∧ (C b o ∨ w.heap.size ≤ b ∨ M b)
  mono : ∀ b o, C b o → K' b o
  shp : ShKept w w'
/-- What a loop over an iterator promises it: after k elements the loop is in state st k; of the list xs it takes each as it comes, or says no. -/
structure Pro where
  P : Program
  l : Nat
  xs : List (List V)
  st : Nat → (Nat → Prop) → (Nat → Nat → Prop) → World → Prop
  cl : ∀ k M K w w', st k M K w → Kept M K w w' → st k M K w'
  law : ∀ k M K C w x (us : Array Value), st k M K w → xs[k]? = some x → us.size = x.length → (∀ (j : Nat) c u, x[j]? = some c → us[j]? = some u → VRel C w c u) → (∀ b o, K b o → C b o) →
    (∀ b o, C b o → b < w.heap.size ∧ (M b → K b o)) → (∀ b, M b → b < w.heap.size) → YieldAt Fence.wide 0 P l us w fun e w' =>
      ∃ k' M' K', ((e = .returned (.bool true) ∧ k' = k + 1) ∨ (e = .returned (.bool false) ∧ k' = xs.length + 1)) ∧ st k' M' K' w' ∧ Yld M C w M' K' w'
/-- The loop that an iterator serves (own: its blocks; rel: the cells that it leans on). -/
structure PS where
  own : Nat → Prop
  rel : Nat → Nat → Prop
  p : Pro
/-- A row that may grow; or a loop that an iterator serves. -/
structure Tok where
  len : Nat
  blk : Option Nat
  cells : Nat
  pro : Option PS
def Tok.own (T : Tok) (b : Nat) : Prop := ∃ q, T.pro = some q ∧ q.own b
def Tok.rel (T : Tok) (b o : Nat) : Prop := ∃ q, T.pro = some q ∧ q.rel b o
def Tok.has (T : Tok) (b : Nat) : Prop := T.blk = some b ∨ T.own b
def Tok.may (T : Tok) (b o : Nat) : Prop := (T.blk = some b → o < T.cells) ∧ (T.own b → T.rel b o)
def Tok.ok (T : Tok) (w : World) : Prop := ∀ q, T.pro = some q → q.p.st T.len q.own q.rel w
theorem Tok.has_row {n : Nat} {g : Option Nat} {c b : Nat} : (Tok.mk n g c none).has b ↔ g = some b := ⟨fun h => h.elim id fun ⟨_, h, _⟩ => (nomatch h), fun h => Or.inl h⟩
theorem Tok.may_row {n : Nat} {g : Option Nat} {c b o : Nat} : (Tok.mk n g c none).may b o ↔ (g = some b → o < c) := ⟨fun h => h.1, fun h => ⟨h, fun ⟨_, h, _⟩ => (nomatch h)⟩⟩
theorem Tok.has_blk {T : Tok} (h : T.pro = none) {b : Nat} : T.has b ↔ T.blk = some b := ⟨fun k => k.elim id fun ⟨_, k, _⟩ => absurd (h.symm.trans k) (by simp), fun h => Or.inl h⟩
structure Tok.le (T T' : Tok) : Prop where
  len : T.len ≤ T'.len
  pro : T'.pro.map PS.p = T.pro.map PS.p
theorem Tok.le.row {T T' : Tok} (h : T.le T') (k : T.pro = none) : T'.pro = none := by
  have := h.pro
  rw [k] at this
  cases hp : T'.pro with
  | none => rfl
  | some q => rw [hp] at this; cases this
theorem Tok.le.refl (T : Tok) : T.le T := ⟨Nat.le_refl _, rfl⟩
theorem Tok.le.trans {T T' T'' : Tok} (h : T.le T') (k : T'.le T'') : T.le T'' := ⟨Nat.le_trans h.len k.len, k.pro.trans h.pro⟩
/-- The ghost of a walk: which cells stand for good, which block each variable lies in, which row each token may grow. -/
structure Gh where
  com : Nat → Nat → Prop
  name : List Nat
  tok : List Tok

/-- The element type of a token's row; a mark of 1000000 and above: a slice without room, of whose row nothing is said. -/
def rowTy (e : Nat) : Nat := if e < 1000000 then e else e - 1000000
theorem rowTy_lt {e : Nat} (h : e < 1000000) : rowTy e = e := if_pos h
theorem rowTy_add (e : Nat) : rowTy (e + 1000000) = e := by unfold rowTy; rw [if_neg (by omega)]; omega
/-- The slice u of n elements may be appended to by token t. -/
def Own (G : Gh) (w : World) (u : Value) (n t e size : Nat) : Prop :=
  ∃ (a : Option Addr) (cap : Nat), u = .slice a n cap ∧ ((cap = 0 ∧ ∀ ad, a = some ad → ad.block < w.heap.size) ∨ (∃ (b : Nat) (us : Array Value) (T : Tok), a = some ⟨b, 0, none⟩ ∧ G.tok[t]? = some T ∧ T.blk = some b ∧ T.cells = n * size ∧
    w.heap[b]? = some (.cells us (rowTy e) (0, 0)) ∧ us.size = cap * size) ∨ (1000000 ≤ e ∧ cap = n))

inductive DRel (G : Gh) (w : World) : D → Value → Prop where
  | p (x : V) (u : Value) : VRel G.com w x u → DRel G w (.p x) u
  | ptr (nm off b : Nat) : G.name[nm]? = some b → DRel G w (.ptr nm off) (.pointer (some ⟨b, off, none⟩))
  | own (t e size : Nat) (es : List (List V)) (u : Value) (T : Tok) : VRel G.com w (.sl false es) u → (∀ x ∈ es, x.length = size) → G.tok[t]? = some T → T.pro = none → es.length ≤ T.len →
      (es.length = T.len → Own G w u es.length t e size) → DRel G w (.own t e size es) u
  | fn (f : Fn) (first cap : List D) (us vs : Array Value) : first.length = us.size → cap.length = vs.size →
      (∀ (j : Nat) c u, first[j]? = some c → us[j]? = some u → DRel G w c u) → (∀ (j : Nat) c u, cap[j]? = some c → vs[j]? = some u → DRel G w c u) →
      DRel G w (.fn f first cap) (.func f us vs)
  | yld (t : Nat) (T : Tok) (p : Pro) : G.tok[t]? = some T → T.pro.map PS.p = some p → DRel G w (.yld p.P t p.xs) (.func (.yield p.l) #[] #[])
  | sp (P : Program) (u : Nat) (b : Bool) (nm off k e n : Nat) (v : Value) : G.name[nm]? = some k → w.shape? k = some (e, n) → off < n → liesAt P P.depth e (n / P.cellsOf e) off u 1 = true → (b = false → v = .pointer none) → (b = true → v = .pointer (some ⟨k, off, none⟩)) → DRel G w (.sp P u b nm off) v
  | agg (cs : List D) (us : Array Value) : cs.length = us.size → (∀ (j : Nat) c u, cs[j]? = some c → us[j]? = some u → u.oneCell' = true) →
      (∀ (j : Nat) c u, cs[j]? = some c → us[j]? = some u → DRel G w c u) → DRel G w (.agg cs) (.agg us)
  | tup (cs : List D) (us : Array Value) : cs.length = us.size →
      (∀ (j : Nat) c u, cs[j]? = some c → us[j]? = some u → DRel G w c u) → DRel G w (.tup cs) (.tuple us)
  | undef : DRel G w .undef undef

/-- What lasts from one state to a later one: streams; cells that stand for good; blocks that are nobody's. -/
structure Ext (G : Gh) (w : World) (G' : Gh) (w' : World) : Prop where
  os : w'.os = w.os
  tape : w'.tape = w.tape
  output : w'.output = w.output
  size : w.heap.size ≤ w'.heap.size
  com : ∀ b o u, G.com b o → w.cell? ⟨b, o, none⟩ = some u → G'.com b o ∧ w'.cell? ⟨b, o, none⟩ = some u
  old : ∀ b, b < w.heap.size → b ∉ G.name → (∀ T ∈ G.tok, ¬ T.has b) → w'.heap[b]? = w.heap[b]?
  new : ∀ b o, G'.com b o → G.com b o ∨ w.heap.size ≤ b ∨ b ∈ G.name ∨ ∃ T ∈ G.tok, T.has b
  mine : ∀ b, (b ∈ G'.name ∨ ∃ T ∈ G'.tok, T.has b) → w.heap.size ≤ b ∨ b ∈ G.name ∨ ∃ T ∈ G.tok, T.has b
  mono : ∀ b o, G.com b o → G'.com b o
  shp : ShKept w w'

theorem Ext.refl (G : Gh) (w : World) : Ext G w G w :=
  ⟨rfl, rfl, rfl, Nat.le_refl _, fun _ _ _ h k => ⟨h, k⟩, fun _ _ _ _ => rfl, fun _ _ h => .inl h, fun _ h => .inr h, fun _ _ h => h, .refl w⟩
theorem Ext.trans {G G' G'' : Gh} {w w' w'' : World} (h : Ext G w G' w') (k : Ext G' w' G'' w'') : Ext G w G'' w'' := by
  refine ⟨k.os.trans h.os, k.tape.trans h.tape, k.output.trans h.output, Nat.le_trans h.size k.size, fun b o u hc hu => ?_, fun b hb hn ht => ?_, fun b o hc => ?_, fun b hb => ?_, fun b o hc => k.mono b o (h.mono b o hc), h.shp.trans k.shp⟩
  · obtain ⟨h1, h2⟩ := h.com b o u hc hu
    exact k.com b o u h1 h2
  · rw [k.old b (Nat.lt_of_lt_of_le hb h.size) ?_ ?_, h.old b hb hn ht]
    · intro hm
      rcases h.mine b (.inl hm) with h1 | h1 | ⟨T, h1, h2⟩
      · omega
      · exact hn h1
      · exact ht T h1 h2
    · intro T hT hTb
      rcases h.mine b (.inr ⟨T, hT, hTb⟩) with h1 | h1 | ⟨T', h1, h2⟩
      · omega
      · exact hn h1
      · exact ht T' h1 h2
  · rcases k.new b o hc with h1 | h1 | h1 | h1
    · exact h.new b o h1
    · exact .inr (.inl (Nat.le_trans h.size h1))
    · exact .inr (h.mine b (.inl h1))
    · exact .inr (h.mine b (.inr h1))
  · rcases k.mine b hb with h1 | h1 | h1
    · exact .inl (Nat.le_trans h.size h1)
    · exact h.mine b (.inl h1)
    · exact h.mine b (.inr h1)

/-- A step that leaves names where they are and turns no token but by growing it. -/
structure Stp (G : Gh) (w : World) (G' : Gh) (w' : World) : Prop where
  ext : Ext G w G' w'
  name : ∀ (nm b : Nat), G.name[nm]? = some b → G'.name[nm]? = some b
  tok : ∀ (t : Nat) (T : Tok), G.tok[t]? = some T → ∃ T', G'.tok[t]? = some T' ∧ T.le T' ∧
    (T.len = T'.len → T' = T ∧ ∀ b, T.has b → w'.heap[b]? = w.heap[b]?)

theorem Stp.refl (G : Gh) (w : World) : Stp G w G w := ⟨.refl G w, fun _ _ h => h, fun _ T h => ⟨T, h, .refl T, fun _ => ⟨rfl, fun _ _ => rfl⟩⟩⟩
theorem Stp.trans {G G' G'' : Gh} {w w' w'' : World} (h : Stp G w G' w') (k : Stp G' w' G'' w'') : Stp G w G'' w'' := by
  refine ⟨h.ext.trans k.ext, fun nm b hb => k.name nm b (h.name nm b hb), fun t T hT => ?_⟩
  obtain ⟨T', hT', h1, h2⟩ := h.tok t T hT
  obtain ⟨T'', hT'', k1, k2⟩ := k.tok t T' hT'
  refine ⟨T'', hT'', h1.trans k1, fun he => ?_⟩
  obtain ⟨e1, f1⟩ := h2 (by have := k1.len; have := h1.len; omega)
  obtain ⟨e2, f2⟩ := k2 (by have := k1.len; have := h1.len; omega)
  subst e1
  exact ⟨e2, fun b hb => (f2 b hb).trans (f1 b hb)⟩

/-- What a walk keeps: as Ext; the first B.1 variables stay, the first B.2 tokens only grow. -/
structure Ex (B : Nat × Nat) (G : Gh) (w : World) (G' : Gh) (w' : World) : Prop where
  ext : Ext G w G' w'
  name : ∀ (nm b : Nat), nm < B.1 → G.name[nm]? = some b → G'.name[nm]? = some b
  tok : ∀ (t : Nat) (T : Tok), t < B.2 → G.tok[t]? = some T → ∃ T', G'.tok[t]? = some T' ∧ T.le T' ∧
    (T.len = T'.len → T' = T ∧ ∀ b, T.has b → w'.heap[b]? = w.heap[b]?)
theorem Stp.ex {G G' : Gh} {w w' : World} (h : Stp G w G' w') (B : Nat × Nat) : Ex B G w G' w' := ⟨h.ext, fun nm b _ hb => h.name nm b hb, fun t T _ hT => h.tok t T hT⟩
theorem Ex.refl (B : Nat × Nat) (G : Gh) (w : World) : Ex B G w G w := (Stp.refl G w).ex B
theorem Ex.trans {B : Nat × Nat} {G G' G'' : Gh} {w w' w'' : World} (h : Ex B G w G' w') (k : Ex B G' w' G'' w'') : Ex B G w G'' w'' := by
  refine ⟨h.ext.trans k.ext, fun nm b hl hb => k.name nm b hl (h.name nm b hl hb), fun t T hl hT => ?_⟩
  obtain ⟨T', hT', h1, h2⟩ := h.tok t T hl hT
  obtain ⟨T'', hT'', k1, k2⟩ := k.tok t T' hl hT'
  refine ⟨T'', hT'', h1.trans k1, fun he => ?_⟩
  obtain ⟨e1, f1⟩ := h2 (by have := k1.len; have := h1.len; omega)
  obtain ⟨e2, f2⟩ := k2 (by have := k1.len; have := h1.len; omega)
  subst e1
  exact ⟨e2, fun b hb => (f2 b hb).trans (f1 b hb)⟩
theorem DRel.mono {G G' : Gh} {w w' : World} {d : D} {u : Value} (h : DRel G w d u) (k : Stp G w G' w') : DRel G' w' d u := by
  induction h with
  | p x u h => exact .p x u (h.mono k.ext.size k.ext.com)
  | ptr nm off b h => exact .ptr nm off b (k.name nm b h)
  | own t e size es u T h1 h2 h3 h0 h4 h5 =>
    obtain ⟨T', hT', l1, l2⟩ := k.tok t T h3
    refine .own t e size es u T' (h1.mono k.ext.size k.ext.com) h2 hT' (l1.row h0) (Nat.le_trans h4 l1.len) fun he => ?_
    have e1 : T.len = T'.len := by have := l1.len; omega
    obtain ⟨rfl, hb⟩ := l2 e1
    obtain ⟨a, cap, rfl, h6⟩ := h5 he
    refine ⟨a, cap, rfl, h6.imp (fun h => ⟨h.1, fun ad had => Nat.lt_of_lt_of_le (h.2 ad had) k.ext.size⟩) (Or.imp_left ?_)⟩
    rintro ⟨b, us, T2, ha, g1, g2, g3, g4, g5⟩
    have : T2 = T' := by rw [h3] at g1; exact (Option.some.inj g1).symm
    subst this
    exact ⟨b, us, T2, ha, hT', g2, g3, (hb b (.inl g2)).trans g4, g5⟩
  | fn f first cap us vs h1 h2 _ _ ih1 ih2 => exact .fn f first cap us vs h1 h2 ih1 ih2
  | yld t T p h1 h2 =>
    obtain ⟨T', hT', l1, -⟩ := k.tok t T h1
    exact .yld t T' p hT' (l1.pro.trans h2)
  | sp P u b nm off i e n v h1 h2 h3 h4 h5 h6 => exact .sp P u b nm off i e n v (k.name nm i h1) (k.ext.shp i _ h2) h3 h4 h5 h6
  | agg cs us h1 h2 _ ih => exact .agg cs us h1 h2 ih
  | tup cs us h1 _ ih => exact .tup cs us h1 ih
  | undef => exact .undef

/-- Variables (the cells of each) and tokens (the length of each). -/
structure S where
  heap : List (List D)
  live : List Nat

structure Inv (G : Gh) (s : S) (w : World) : Prop where
  com : ∀ b o, G.com b o → b < w.heap.size ∧ b ∉ G.name ∧ ∀ T ∈ G.tok, T.may b o
  names : G.name.length = s.heap.length
  nodup : G.name.Nodup
  var : ∀ (i b : Nat) cs, G.name[i]? = some b → s.heap[i]? = some cs → ∃ us ty, w.heap[b]? = some (.cells us ty (0, 0)) ∧ us.size = cs.length ∧
    ∀ (j : Nat) c u, cs[j]? = some c → us[j]? = some u → u.oneCell' = true ∧ DRel G w c u
  live : G.tok.map (·.len) = s.live
  tok : ∀ (t : Nat) T b, G.tok[t]? = some T → T.has b → b < w.heap.size ∧ b ∉ G.name ∧ ∀ (t' : Nat) T', G.tok[t']? = some T' → T'.has b → t' = t
  pro : ∀ T ∈ G.tok, T.ok w ∧ ∀ b o, T.rel b o → G.com b o
  glob : GlobOk G.com w
theorem Tok.ok_ext {G G' : Gh} {w w' : World} {T : Tok} (h : T.ok w ∧ ∀ b o, T.rel b o → G.com b o) (k : Ext G w G' w') (hb : ∀ b, T.has b → w'.heap[b]? = w.heap[b]?) : T.ok w' := fun q hq =>
  q.p.cl _ _ _ _ _ (h.1 q hq) ⟨k.os, k.tape, k.output, k.size, fun b hm => hb b (.inr ⟨q, hq, hm⟩), fun b o u hr hu => (k.com b o u (h.2 b o ⟨q, hq, hr⟩) hu).2, k.shp⟩

/-- The slots that are known. -/
def EnvRel (G : Gh) (w : World) (env : List (Nat × D)) (a : Act) : Prop := ∀ t d, env.lookup t = some d → t < a.tmps.size ∧ DRel G w d (a.tmps.getD t undef)
theorem EnvRel.mono {G G' : Gh} {w w' : World} {env : List (Nat × D)} {a : Act} (h : EnvRel G w env a) (k : Stp G w G' w') : EnvRel G' w' env a :=
  fun t d hd => ⟨(h t d hd).1, (h t d hd).2.mono k⟩
end Go.Proofs.Ytlhjieapkcnghaa
