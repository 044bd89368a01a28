/-
  Appending to a row that the call owns: the row's new block is the old one, or a new one. (The library's law says all but this.)
-/
import Derived.Test.YtbgfcbicbkijaaaKit
import Derived.OwnWalkIn
import Derived.Maps.AppendAt
import Derived.Test.YtbgfcbicbkijaaaIter
namespace Go.Proofs.Ytbgfcbicbkijaaa
open Go.RowKit

section
variable {P : Program} (w : World)
theorem append_block (base : Nat) (t ty e : TypeId) (i : TypeInfo) (z : Value) (size bytes : Nat) (ht : P.underlying t = some (.slice e)) (hi : P.info? e = some i) (hz : i.zero = some z)
    (hsize : i.size = size) (hby : i.bytes = bytes) (v : Value) (n : Nat) (xs : List Value) (hown : w.ownsRow base e size v n xs)
    (a : Addr) (m c : Nat) (news : List Value) (hl : news.length = m * size) (hnews : ∀ j u, news[j]? = some u → w.cell? (a.add j) = some u) (h1 : ∀ u ∈ news, u.oneCell' = true)
    (h63 : n + m ≤ maxLen) (hbytes : (n + m) * bytes ≤ 140737488355328) (v' : Value) (w' : World)
    (hrun : (Builtin.append_ #[t, t] ty #[v, .slice (some a) m c]).run P w = .ok v' w') (hnil : v' = .slice none 0 0 ↔ v = .slice none 0 0 ∧ m = 0) :
    ∀ g, v'.ownBlock = some g → v.ownBlock = some g ∨ g = w.heap.size := by
  subst hsize hby
  have h64 : n + m ≤ 9223372036854775807 := by simp only [maxLen] at h63; omega
  rcases hown.2 with ⟨rfl, rfl⟩ | ⟨b, cap, cur, rfl, hb, hg, hnc, hcm, hcs, htake⟩
  · by_cases hm : m = 0
    · subst hm
      rw [hnil.2 ⟨rfl, rfl⟩]
      intro g hg; simp [Value.ownBlock] at hg
    · have h2 : m * i.bytes ≤ 281474976710656 := by rw [Nat.zero_add] at hbytes; omega
      have hr := run_append_nil (P := P) w t ty e i z ht hi hz a m c news hl hnews (by omega) (by omega) h2
      rw [hr] at hrun
      cases hrun
      intro g hg; simp [Value.ownBlock] at hg; exact .inr hg.symm
  · by_cases hroom : n + m ≤ cap
    · have hfit : n * i.size + news.length ≤ cur.size := by rw [hl, hcs, ← Nat.add_mul]; exact Nat.mul_le_mul_right _ hroom
      have hr := run_append_room (P := P) w t ty e i ht hi b n cap cur hg a m c news hl hnews h1 hroom hfit
      rw [hr] at hrun
      cases hrun
      intro g hg; exact .inl hg
    · have hr := run_append_grow (P := P) w t ty e i z ht hi hz ⟨b, 0, none⟩ n cap xs hown.1 (hown.cells (g := b) rfl) a m c news hl hnews (by omega) (by omega) (growslice_fits (by omega) hbytes)
      rw [hr] at hrun
      cases hrun
      intro g hg; simp [Value.ownBlock] at hg; exact .inr hg.symm
end

/-- append to a row of the call's own, in a plain walk. -/
theorem wpL_append {P : Program} (w : World) {ops : Array Oper} {rest : List Oper} {o : Oper} {a : Act} {Q : Exit → Act → World → Prop} (hgd : o.guard = none) (s x : Operand) (t : TypeId)
    (ho : o.op = .call { callee := .builtin .append, args := #[s, x], argTypes := #[t, t] })
    (base : Nat) (e : TypeId) (i : TypeInfo) (z : Value) (size bytes : Nat) (ht : P.underlying t = some (.slice e)) (hi : P.info? e = some i) (hz : i.zero = some z)
    (hsize : i.size = size) (hby : i.bytes = bytes) (hzs : z.cells.size = size) (hsz : 0 < size)
    (v : Value) (n : Nat) (xs : List Value) (hs : a.eval s = v) (hown : w.ownsRow base e size v n xs)
    (ad : Addr) (m c : Nat) (news : List Value) (hx : a.eval x = .slice (some ad) m c) (hl : news.length = m * size) (hnews : ∀ j u, news[j]? = some u → w.cell? (ad.add j) = some u) (h1 : ∀ u ∈ news, u.oneCell' = true)
    (h63 : n + m ≤ maxLen) (hbytes : (n + m) * bytes ≤ 140737488355328) (hbase : base ≤ w.heap.size)
    (h : ∀ v' w', w'.ownsRow base e size v' (n + m) (xs ++ news) → w.grownBy w' v.ownBlock → (∀ g, v'.ownBlock = some g → v.ownBlock = some g ∨ g = w.heap.size) → wpList P ops Q rest (a.put o.dst v') w') : wpList P ops Q (o :: rest) a w := by
  refine wpList_plain hgd fun K hK => ?_
  obtain ⟨v', w', hr, h2, h3, h4⟩ := run_append_own (P := P) w base t o.type e i z size bytes ht hi hz hsize hby hzs hsz v n xs hown ad m c news hl hnews h1 h63 hbytes hbase
  have h5 := append_block (P := P) w base t o.type e i z size bytes ht hi hz hsize hby v n xs hown ad m c news hl hnews h1 h63 hbytes v' w' hr h4
  unfold Oper.wp
  simp [execOp, ho, resolve, invoke, builtin, hs, hx, hr, Result.andThen]
  exact hK _ _ (h v' w' h2 h3 h5)

/-- append to a row of the call's own, in a fenced walk. -/
theorem wpLIn_append {F : Fence} {fn : Nat} {P : Program} (w : World) {ops : Array Oper} {rest : List Oper} {o : Oper} {a : Act} {Q : Exit → Act → World → Prop} (hgd : o.guard = none) (s x : Operand) (t : TypeId)
    (ho : o.op = .call { callee := .builtin .append, args := #[s, x], argTypes := #[t, t] })
    (base : Nat) (e : TypeId) (i : TypeInfo) (z : Value) (size bytes : Nat) (ht : P.underlying t = some (.slice e)) (hi : P.info? e = some i) (hz : i.zero = some z)
    (hsize : i.size = size) (hby : i.bytes = bytes) (hzs : z.cells.size = size) (hsz : 0 < size)
    (v : Value) (n : Nat) (xs : List Value) (hs : a.eval s = v) (hown : w.ownsRow base e size v n xs)
    (ad : Addr) (m c : Nat) (news : List Value) (hx : a.eval x = .slice (some ad) m c) (hl : news.length = m * size) (hnews : ∀ j u, news[j]? = some u → w.cell? (ad.add j) = some u) (h1 : ∀ u ∈ news, u.oneCell' = true)
    (h63 : n + m ≤ maxLen) (hbytes : (n + m) * bytes ≤ 140737488355328) (hbase : base ≤ w.heap.size)
    (h : ∀ v' w', w'.ownsRow base e size v' (n + m) (xs ++ news) → w.grownBy w' v.ownBlock → (∀ g, v'.ownBlock = some g → v.ownBlock = some g ∨ g = w.heap.size) → wpListIn F fn P ops Q rest (a.put o.dst v') w') : wpListIn F fn P ops Q (o :: rest) a w := by
  refine wpListIn_plain hgd fun K hK => ?_
  obtain ⟨v', w', hr, h2, h3, h4⟩ := run_append_own (P := P) w base t o.type e i z size bytes ht hi hz hsize hby hzs hsz v n xs hown ad m c news hl hnews h1 h63 hbytes hbase
  have h5 := append_block (P := P) w base t o.type e i z size bytes ht hi hz hsize hby v n xs hown ad m c news hl hnews h1 h63 hbytes v' w' hr h4
  unfold Oper.wpIn
  refine ⟨?_, ?_⟩
  · simp [Oper.about, ho, resolve, Target.leads, Sem.run_pure]
  · rw [Oper.semAt_plain F _ _ (by rw [ho]; intro c hc; cases hc)]
    simp [execOp, ho, resolve, invoke, builtin, hs, hx, hr, Result.andThen]
    exact hK _ _ (h v' w' h2 h3 h5)

/-- A round that appends one element to the row in a captured variable: what it leaves. -/
theorem box_round {W2 w1 : World} {b base n ys_n size : Nat} {v v' : Value} {t e : TypeId} {xs ys : List Value} {o : Obj}
    (h1 : W2.heap[b]? = some (.cells #[v] t)) (hown : W2.ownsRow base e size v n xs) (hb : b < base)
    (hgrow : (W2.alloc o).grownBy w1 v.ownBlock) (hnew : ∀ g, v'.ownBlock = some g → v.ownBlock = some g ∨ g = W2.heap.size + 1) (hown' : w1.ownsRow base e size v' ys_n ys) :
    (w1.setCell ⟨b, 0, none⟩ v').heap[b]? = some (.cells #[v'] t) ∧ (w1.setCell ⟨b, 0, none⟩ v').ownsRow base e size v' ys_n ys ∧
    Chg (fun k => k = b ∨ v.ownBlock = some k) W2 (w1.setCell ⟨b, 0, none⟩ v') ∧
    (∀ k, (k = b ∨ v'.ownBlock = some k) → ((k = b ∨ v.ownBlock = some k) ∨ W2.heap.size ≤ k) ∧ k < (w1.setCell ⟨b, 0, none⟩ v').heap.size) := by
  have hlt : b < W2.heap.size := (Array.getElem?_eq_some_iff.1 h1).1
  have hne : some b ≠ v.ownBlock := fun e => by have := (hown.lt b e.symm).1; omega
  have hb1 : w1.heap[b]? = some (.cells #[v] t) := (hgrow.block b (by simp; omega) hne).trans ((Below.heap_alloc _ _ _ hlt).trans h1)
  have hsz := hgrow.size
  simp only [World.size_alloc] at hsz
  refine ⟨?_, ?_, ?_, ?_⟩
  · have := setCell_row hb1 0 v'
    simpa using this
  · exact ownsRow_setCell_other hown' (fun e => by have := (hown'.lt b e).1; omega) _
  · have hc : Chg (fun k => k = b ∨ v.ownBlock = some k) W2 w1 := ((Chg.refl _ _).alloc o).grown hgrow (fun k hk => .inl (.inr hk))
    exact hc.setCell (.inl (.inl rfl)) _
  · intro k hk
    rw [setCell_size]
    rcases hk with rfl | hk
    · exact ⟨.inl (.inl rfl), by omega⟩
    · refine ⟨?_, (hown'.lt k hk).2⟩
      rcases hnew k hk with h | h
      · exact .inl (.inr h)
      · right; omega
end Go.Proofs.Ytbgfcbicbkijaaa
