/- Steps of printed proofs: loops over functions, and functions that hand elements to a loop. -/
import Derived.Test.YtlhjieapkcnghaaDcB
set_option linter.unusedVariables false
namespace Go.Proofs.Ytlhjieapkcnghaa
open Go.RowKit
theorem RelL.of_le {xs ys : List V} (h : LeL xs ys) : RelL xs ys := fun C w us hu hr => ⟨hu.trans h.1, fun j y u hy hu => by
  obtain ⟨x, hx⟩ := getLen h.1 hy
  exact (hr j x u hx hu).le (h.2 j x y hx hy)⟩
/-- A pointer to cells that stand, or none. -/
noncomputable def oV {α : Type} (c : α → List V) (o : Option α) : V := .opt o.isSome ((o.map c).getD [])
noncomputable def cPt {α : Type} (c : α → List V) (o : Option α) : List V := [oV c o]
theorem st_nilc {R α : Type} {c c' : α → List V} {o : Option α} {f : α → Option R} {r : R} {s : S} {K : D → S → Prop} (h : (o >>= f) = some r) (hc : ∀ x, c x = c' x) (k : ∀ x, o = some x → f x = some r → K (.p (.ep (c' x))) s) : o.isSome = true ∧ K (.p (.ep ((o.map c).getD []))) s := by
  obtain ⟨x, hx, hf⟩ := Option.bind_eq_some_iff.1 h
  subst hx
  refine ⟨rfl, ?_⟩
  have := k x rfl hf
  rw [← hc] at this
  exact this
theorem LeV.optc {α : Type} {c : α → List V} {xs zs : List V} {x : α} (h : c x = zs) (k : LeL xs zs) : LeV (.ep xs) (oV c (some x)) := .opt' (ys := c x) (h ▸ k)
/-- A new row of n elements. -/
def mkL {α : Type} (bytes : Nat) (n : Int) (z : α) : Option (List α) := if 0 ≤ n ∧ n * bytes ≤ 140737488355328 ∧ n ≤ 9223372036854775807 then some (List.replicate n.toNat z) else none
theorem st_mk {α R : Type} {bytes : Nat} {n : Int} {z : α} {c : α → List V} {zs : List V} {f : List α → Option R} {r : R} {sz : Nat} {s : S} {K : D → S → Prop} (h : (mkL bytes n z >>= f) = some r) (hc : zs = c z) (hz : zs.length = sz ∧ 0 < sz) (k : ∀ l, mkL bytes n z = some l → f l = some r → K (.p (.sl true (l.map c))) s) :
    (zs.length = sz ∧ 0 < sz) ∧ (0 ≤ n ∧ n = n ∧ n * bytes ≤ 140737488355328 ∧ n ≤ 9223372036854775807) ∧ K (.p (.sl true (List.replicate n.toNat zs))) s := by
  refine st_bind h fun l hl hf => ?_
  have hk := k l hl hf
  unfold mkL at hl
  split at hl
  · rename_i hn
    cases hl
    refine ⟨hz, ⟨hn.1, rfl, hn.2⟩, ?_⟩
    rw [List.map_replicate, ← hc] at hk
    exact hk
  · cases hl
/-- Bytes as a string. -/
def b2s (l : List Int) : Option (List UInt8) := if l.all (fun n => decide (0 ≤ n ∧ n ≤ 255)) = true then some (l.map fun n => UInt8.ofNat n.toNat) else none
theorem st_b2s {R : Type} {l : List Int} {f : List UInt8 → Option R} {r : R} {lv : List Nat} {K : D → List Nat → Prop} (h : (b2s l >>= f) = some r) (k : ∀ m, b2s l = some m → f m = some r → K (.p (.v (strOf m))) lv) :
    ∃ m : List UInt8, l.map (cNum .u8) = m.map byteV ∧ ∃ d' live, LeD (.p (.v (strOf m))) d' ∧ live = lv ∧ K d' live := by
  refine st_bind h fun m hm hf => ?_
  have hk := k m hm hf
  refine ⟨m, ?_, _, _, .refl _, rfl, hk⟩
  unfold b2s at hm
  split at hm
  · rename_i hl
    cases hm
    rw [List.map_map]
    refine List.map_congr_left fun n hn => ?_
    have := List.all_eq_true.1 hl n hn
    simp only [decide_eq_true_eq] at this
    obtain ⟨N, rfl⟩ : ∃ N : Nat, n = (N : Int) := ⟨n.toNat, by omega⟩
    have hN : N ≤ 255 := by omega
    simp only [Function.comp, cNum, nV, byteV, Int.toNat_natCast, UInt8.toNat_ofNat']
    rw [Nat.mod_eq_of_lt (by omega)]
  · cases hm
/-- A string's bytes as numbers. -/
def s2b (l : List UInt8) : List Int := l.map fun x => (x.toNat : Int)
theorem s2b_cells (a : List Int) (b : List UInt8) : a.map (cNum .u8) ++ b.map byteV = (a ++ s2b b).map (cNum .u8) := by
  rw [List.map_append]
  unfold s2b
  rw [List.map_map]
  rfl
theorem st_appso {R : Type} {bytes : Nat} {a : List Int} {b : List UInt8} {sz tk e : Nat} {f : List Int → Option R} {r : R} {lv : List Nat} {K : D → List Nat → Prop} (h : (appL bytes a (s2b b) >>= f) = some r) (hl : lv[tk]? = some (a.map (cNum .u8)).length)
    (k : ∀ o, appL bytes a (s2b b) = some o → f o = some r → K (.own tk e sz (o.map (cNum .u8))) (lv.set tk (o.map (cNum .u8)).length)) :
    lv[tk]? = some (a.map (cNum .u8)).length ∧ (((a.map (cNum .u8)).length + b.length) * bytes ≤ 140737488355328 ∧ (a.map (cNum .u8)).length + b.length ≤ 9223372036854775807) ∧
      ∃ d' live, LeD (.own tk e sz (a.map (cNum .u8) ++ b.map byteV)) d' ∧ live = lv.set tk (a.map (cNum .u8) ++ b.map byteV).length ∧ K d' live := by
  refine st_bind h fun o ho hf => ?_
  have hk := k o ho hf
  unfold appL at ho
  split at ho
  · rename_i hc
    cases ho
    rw [s2b_cells, List.length_map]
    simp only [s2b, List.length_map] at hc
    exact ⟨by rw [List.length_map] at hl; exact hl, hc, _, _, .refl _, rfl, hk⟩
  · cases ho
theorem st_appsf {R : Type} {bytes : Nat} {a : List Int} {b : List UInt8} {e : Nat} {f : List Int → Option R} {r : R} {lv : List Nat} {K : D → List Nat → Prop} (h : (appL bytes a (s2b b) >>= f) = some r) (hcl : a.length = 0 ∨ 0 < b.length)
    (k : ∀ o, appL bytes a (s2b b) = some o → f o = some r → K (.own lv.length e 1 (o.map (cNum .u8))) (lv ++ [(o.map (cNum .u8)).length])) :
    ((a.map (cNum .u8)).length = 0 ∨ 0 < b.length) ∧ (∀ x ∈ a.map (cNum .u8), x.length = 1) ∧ (((a.map (cNum .u8)).length + b.length) * bytes ≤ 140737488355328 ∧ (a.map (cNum .u8)).length + b.length ≤ 9223372036854775807) ∧
      ∃ d' live, LeD (.own lv.length e 1 (a.map (cNum .u8) ++ b.map byteV)) d' ∧ live = lv ++ [(a.map (cNum .u8) ++ b.map byteV).length] ∧ K d' live := by
  refine st_bind h fun o ho hf => ?_
  have hk := k o ho hf
  unfold appL at ho
  split at ho
  · rename_i hc
    cases ho
    rw [s2b_cells, List.length_map]
    simp only [s2b, List.length_map] at hc
    refine ⟨hcl, fun x hx => ?_, hc, _, _, .refl _, rfl, hk⟩
    obtain ⟨z, -, rfl⟩ := List.mem_map.1 hx
    rfl
  · cases ho
theorem apvB {α : Type} {bytes : Nat} {a : List α} {v : α} {o : List α} {c : α → List V} {vs : List V} (h : appL bytes a [v] = some o) (hv : LeL vs (c v)) : ((a.map c).length + 1) * bytes ≤ 140737488355328 ∧ (a.map c).length + 1 ≤ 9223372036854775807 ∧ LeLL (a.map c ++ [vs]) (o.map c) := by
  unfold appL at h
  split at h
  · rename_i hc
    cases h
    rw [List.length_map]
    refine ⟨hc.1, hc.2, ?_⟩
    rw [List.map_append]
    exact .app (.refl _) (.cons hv .nil)
  · cases h
theorem nojoin {φ : (Exit → St → Prop) → Prop} {G : Exit → St → Prop} {B : Nat × Nat} {N : Nat} (h : φ G) : ∃ M, φ M ∧ ∀ e σ, M e σ → ∃ τ, Le B N σ τ ∧ G e τ := ⟨G, h, fun e σ k => ⟨σ, .refl _ _ _, k⟩⟩
def rgP : Code → List Nat
  | .rangeFunc _ ps _ _ => ps.toList
  | _ => []
def rgA : Code → Code
  | .rangeFunc _ _ a _ => a
  | _ => .skip
def rgB : Code → Code
  | .rangeFunc _ _ _ b => b
  | _ => .skip
section
variable {P : Program}
theorem st_callf {α R : Type} {x : Option α} {f : α → Option R} {r : R} {g : FuncId} {args : List D} {s : S} {base : Nat} (t : α → D) (s' : α → S) {K : D → S → Prop} (h : (x >>= f) = some r) (hok : ∀ y, x = some y → CallF base P g args s (t y) (s' y)) (k : ∀ y, x = some y → f y = some r → K (t y) (s' y)) :
    ∃ r s', CallF base P g args s r s' ∧ K r s' := st_bind h fun y hy hf => ⟨t y, s' y, hok y hy, k y hy hf⟩
theorem CallF.weakL {base : Nat} {f : FuncId} {args args' : List D} {s : S} {r : D} {s' : S} (k : CallF base P f args' s r s') (h : LeC args args') : CallF base P f args s r s' := k.weakC h.get.1.symm h.get.2
theorem rl_cons {k m N : Nat} {ps : List Nat} {asn body : Code} {env : Env} {Q : Exit → St → Prop} {α : Type} {c : α → List V} {x : α} {r : List α} {s : S}
    (h : T (k, m) P N asn (fun e σ1 => e = .normal ∧ T (k, m) P N body (fun e σ2 => ∃ s', Le (k, m) N ⟨[], σ2.s⟩ ⟨[], s'⟩ ∧ s'.heap.length = k ∧ s'.live.length = m ∧
      match e with
      | .normal => RL k m P N ps asn body env Q (r.map c) s'
      | .ret => Q .ret ⟨env, s'⟩
      | .exit i => Q (.exit i) ⟨env, s'⟩
      | _ => False) σ1) ⟨putP ps (c x) env, s⟩) : RL k m P N ps asn body env Q ((x :: r).map c) s := h
theorem rl_nil {k m N : Nat} {ps : List Nat} {asn body : Code} {env : Env} {Q : Exit → St → Prop} {α : Type} {c : α → List V} {s : S} (h : Q .normal ⟨env, s⟩) : RL k m P N ps asn body env Q (([] : List α).map c) s := h
/-- The loop has said no. -/
def Stop (B : Nat × Nat) (N : Nat) (xs : List (List V)) (σ : St) : Prop := ∃ s', Le B N σ ⟨[], s'⟩ ∧ s'.heap.length = B.1 ∧ s'.live.length = B.2 ∧ s'.live[0]? = some (xs.length + 1)
def Qs (B : Nat × Nat) (N : Nat) (xs : List (List V)) (J : Exit → St → Prop) (e : Exit) (σ : St) : Prop := J e σ ∨ (e = .ret ∧ Stop B N xs σ)
theorem env0 {B : Nat × Nat} {N : Nat} {env : Env} {s : S} : Le B N ⟨env, s⟩ ⟨[], s⟩ := ⟨fun G a w hR => ⟨G, .refl B G w, ⟨hR.inv, fun t d h => by simp at h, hR.size⟩⟩⟩
theorem le01 {N : Nat} {σ : St} {n : Nat} (h : σ.s.live[0]? = some n) : Le (0, 1) N σ ⟨[], ⟨[], [n]⟩⟩ := by
  obtain ⟨env, s⟩ := σ
  refine env0.trans (Le.tow 0 1 rfl .nil .nil ?_ (Nat.le_refl _) (Nat.le_refl _) rfl)
  cases hs : s.live with
  | nil => simp [hs] at h
  | cons a l => simp [hs] at h; simp [h]
theorem stop_top {N : Nat} {xs : List (List V)} {σ : St} (h : σ.s.live[0]? = some (xs.length + 1)) : Stop (0, 1) N xs σ := ⟨_, le01 h, rfl, rfl, rfl⟩
theorem st_istop {N : Nat} {xs : List (List V)} {e : Exit} {σ : St} (he : e = .normal ∨ e = .ret) (h : σ.s.live[0]? = some (xs.length + 1)) : ∃ τ, Le (0, 1) N σ τ ∧ IEnd N xs e τ := ⟨_, le01 h, .inr ⟨he, .refl _ _ _⟩⟩
theorem st_iend {α O : Type} {c : α → List V} {N : Nat} {xs pre : List (List V)} {e : Exit} {σ : St} {l : List α} {y o2 : O} (h : some ([], y) = some (l, o2)) (hx : xs = pre ++ (l.map c ++ [])) (he : e = .normal ∨ e = .ret) (hl : σ.s.live[0]? = some pre.length) : ∃ τ, Le (0, 1) N σ τ ∧ IEnd N xs e τ := by
  cases h
  have : xs.length = pre.length := by rw [hx]; simp
  refine ⟨_, le01 hl, .inl ⟨he, ?_⟩⟩
  rw [this]
  exact .refl _ _ _
theorem sndI {α O : Type} {l : List α} {y o2 : O} (h : some (([] : List α), y) = some (l, o2)) : some y = some o2 := by cases h; rfl
theorem liveQ {α O : Type} {c : α → List V} {xs pre gq post : List (List V)} {l : List α} {y o2 : O} {L L' : List Nat} (h : some ([], y) = some (l, o2)) (hx : xs = pre ++ (l.map c ++ post)) (hq : xs = gq ++ post) (hl : L = pre.length :: L') : L = gq.length :: L' := by
  cases h
  have e1 : xs.length = pre.length + post.length := by rw [hx]; simp
  have e2 : xs.length = gq.length + post.length := by rw [hq]; simp
  rw [hl, show pre.length = gq.length by omega]
theorem joinS {B : Nat × Nat} {N : Nat} {xs : List (List V)} {J G : Exit → St → Prop} (k : ∀ e σ, J e σ → ∃ τ, Le B N σ τ ∧ G e τ) (s : ∀ s' : S, s'.heap.length = B.1 → s'.live.length = B.2 → s'.live[0]? = some (xs.length + 1) → G .ret ⟨[], s'⟩) : ∀ e σ, Qs B N xs J e σ → ∃ τ, Le B N σ τ ∧ G e τ := fun e σ h => by
  rcases h with h | ⟨rfl, s', h1, h2, h3, h4⟩
  · exact k e σ h
  · exact ⟨_, h1, s s' h2 h3 h4⟩
theorem st_yld {α O : Type} {c : α → List V} {xs pre post : List (List V)} {x : α} {m : Option (List α × O)} {l : List α} {o2 : O} {t : Nat} {ds : List D} {vs : List V} {s : S} {K : D → S → Prop}
    (h : (m >>= fun q => some (x :: q.1, q.2)) = some (l, o2)) (hx : xs = pre ++ (l.map c ++ post)) (hl : LeL vs (c x)) (hu : unps ds = some vs) (hlive : s.live[t]? = some pre.length)
    (k1 : ∀ l', m = some (l', o2) → xs = (pre ++ [c x]) ++ (l'.map c ++ post) → K (.p (.v (.bool true))) ⟨s.heap, s.live.set t (pre ++ [c x]).length⟩) (k2 : K (.p (.v (.bool false))) ⟨s.heap, s.live.set t (xs.length + 1)⟩) :
    true = true ∧ P = P ∧ aYield t xs ds s K := by
  obtain ⟨q, hm, hq⟩ := Option.bind_eq_some_iff.1 h
  cases hq
  have e : xs = (pre ++ [c x]) ++ (q.1.map c ++ post) := by rw [hx]; simp
  refine ⟨rfl, rfl, pre.length, c x, vs, hlive, ?_, hu, .of_le hl, ?_, k2⟩
  · rw [hx]; simp
  · have := k1 q.1 hm e
    rw [List.length_append] at this
    exact this
theorem st_bindI {α O R : Type} {c : α → List V} {xs pre post : List (List V)} {m : Option (List α × O)} {f : List α × O → Option (List α × R)} {l : List α} {o2 : R} {φ : Prop}
    (h : (m >>= fun o => f o >>= fun q => some (o.1 ++ q.1, q.2)) = some (l, o2)) (hx : xs = pre ++ (l.map c ++ post))
    (k : ∀ o l2 gq, m = some o → f o = some (l2, o2) → xs = pre ++ (o.1.map c ++ (l2.map c ++ post)) → xs = gq ++ (l2.map c ++ post) → φ) : φ := by
  obtain ⟨o, ho, hf⟩ := Option.bind_eq_some_iff.1 h
  obtain ⟨q, hq, he⟩ := Option.bind_eq_some_iff.1 hf
  cases he
  exact k o q.1 (pre ++ o.1.map c) ho hq (by rw [hx]; simp) (by rw [hx]; simp)
/-- All slots forgotten. -/
theorem Le.env0 {B : Nat × Nat} {N : Nat} (σ : St) : Le B N σ ⟨[], σ.s⟩ := ⟨fun G _ w hR => ⟨G, .refl B G w, ⟨hR.inv, fun t d h => by simp at h, hR.size⟩⟩⟩
/-- A cell of an array that is a value, by a place that is reckoned. -/
theorem st_aidx {α R : Type} {l : List α} {n : Int} {len : Nat} {c : α → V} {te : TI} {cs : List V} {f : α → Option R} {r : R} {s : S} {K : D → S → Prop} (h : (idx l n >>= f) = some r) (hc : cs = l.map c) (hl : l.length = len) (hz : te.size = 1) (ha : isAggD te.d = false)
    (k : ∀ x, idx l n = some x → f x = some r → K (.p (c x)) s) : 0 ≤ n ∧ n < (len : Int) ∧ aPart te (.p (.agg cs)) (n.toNat * te.size) s K := by
  refine st_bind h fun x hx hf => ?_
  have hk := k x hx hf
  unfold idx at hx
  split at hx
  · rename_i hi
    have hlt := (List.getElem?_eq_some_iff.1 hx).1
    refine ⟨hi, by omega, ?_⟩
    subst hc
    unfold aPart
    simp only [dcells, ha, hz, Nat.mul_one]
    rw [List.getElem?_map, List.getElem?_map, hx]
    exact hk
  · cases hx
end
end Go.Proofs.Ytlhjieapkcnghaa
