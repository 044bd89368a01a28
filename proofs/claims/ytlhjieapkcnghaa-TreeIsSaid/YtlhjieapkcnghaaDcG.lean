/- The abstract layer, part 25: a region that draws its order and makes two variables side by side. -/
import Derived.Test.YtlhjieapkcnghaaDcE
namespace Go.Proofs.Ytlhjieapkcnghaa
open Go.RowKit

section
variable {P : Program} {tb : Tbl}
/-- Every two operations are in order, or apart; but for p and q. -/
def lexOkX (p q : Nat) (hvl : List Nat) (ops : List Oper) : Bool :=
  let an := ancsGo ops []
  (List.range ops.length).all fun i => match ops[i]? with
    | some o => o.after.toList.all (fun e => !Region.binds .any e || decide (e.on < i)) && (List.range i).all fun a => (a == p && i == q) || (an.getD i []).contains a || indep2 hvl ops a i
    | none => true
theorem lexOkX_spec {p q : Nat} {hvl : List Nat} {ops : List Oper} (h : lexOkX p q hvl ops = true) {i : Nat} {o : Oper} (ho : ops[i]? = some o) : (∀ e ∈ o.after, Region.binds .any e = true → e.on < i) ∧
    ∀ a, a < i → (a = p ∧ i = q) ∨ Reach ops a i ∨ indep2 hvl ops a i = true := by
  unfold lexOkX at h
  rw [List.all_eq_true] at h
  have := h i (List.mem_range.2 (List.getElem?_eq_some_iff.1 ho).1)
  simp only [ho, Bool.and_eq_true, List.all_eq_true, Bool.or_eq_true, List.mem_range, List.contains_iff_mem, beq_iff_eq] at this
  obtain ⟨h1, h2⟩ := this
  refine ⟨fun e he hb => ?_, fun a ha => ?_⟩
  · have := h1 e (by simpa using he)
    simpa [hb] using this
  · rcases h2 a ha with (h | h) | h
    · exact .inl h
    · cases hq : (ancsGo ops [])[i]? with
      | none => simp [List.getD, hq] at h
      | some l =>
        simp [List.getD, hq] at h
        exact .inr (.inl (ancsGo_spec ops [] [] rfl rfl (fun i l a h => by simp at h) i l a hq h))
    · exact .inr (.inr h)
def reachB (p : Nat) (ops : List Oper) : Bool :=
  let an := ancsGo ops []
  (List.range (ops.length - (p + 2))).all fun k => (an.getD (k + (p + 2)) []).contains p
theorem reachB_spec {p : Nat} {ops : List Oper} (h : reachB p ops = true) : ∀ x, p + 2 ≤ x → x < ops.length → Reach ops p x := fun x h1 h2 => by
  unfold reachB at h
  rw [List.all_eq_true] at h
  have := h (x - (p + 2)) (List.mem_range.2 (by omega))
  rw [show x - (p + 2) + (p + 2) = x by omega, List.contains_iff_mem] at this
  cases hq : (ancsGo ops [])[x]? with
  | none => simp [List.getD, hq] at this
  | some l =>
    simp [List.getD, hq] at this
    exact ancsGo_spec ops [] [] rfl rfl (fun i l a h => by simp at h) x l p hq this
theorem dOps_app {base : Nat} {hvl : List Nat} {N : Nat} {ops : List Oper} {K : St → Prop} : ∀ {A B : List Nat} {σ : St}, dOps base hvl P tb N ops (A ++ B) σ K ↔ dOps base hvl P tb N ops A σ (fun τ => dOps base hvl P tb N ops B τ K)
  | [], _, _ => Iff.rfl
  | a :: A, B, σ => by
    show dOne base hvl P tb N ops a σ (fun τ => dOps base hvl P tb N ops (A ++ B) τ K) ↔ dOne base hvl P tb N ops a σ (fun τ => dOps base hvl P tb N ops A τ fun τ => dOps base hvl P tb N ops B τ K)
    have : (fun τ => dOps base hvl P tb N ops (A ++ B) τ K) = (fun τ => dOps base hvl P tb N ops A τ fun τ => dOps base hvl P tb N ops B τ K) := funext fun τ => propext dOps_app
    rw [this]
theorem dOps_mono {base : Nat} {hvl : List Nat} {N : Nat} {ops : List Oper} {K K' : St → Prop} : ∀ {A : List Nat} {σ : St}, base ≤ σ.s.heap.length → (∀ τ, base ≤ τ.s.heap.length → K τ → K' τ) → dOps base hvl P tb N ops A σ K → dOps base hvl P tb N ops A σ K'
  | [], σ, hb, hk, h => hk σ hb h
  | a :: A, σ, hb, hk, h => dOne_mono hb (fun τ h1 h2 => dOps_mono h1 hk h2) h
theorem least_unl (listed : Array Bool) : ∀ n : Nat, (∃ x, x < n ∧ listed.getD x true = false) → ∃ x, x < n ∧ listed.getD x true = false ∧ ∀ y, y < x → listed.getD y true = true
  | 0, ⟨x, h, _⟩ => by omega
  | n + 1, ⟨x, h1, h2⟩ => by
    by_cases h : ∃ x, x < n ∧ listed.getD x true = false
    · obtain ⟨y, h3, h4, h5⟩ := least_unl listed n h
      exact ⟨y, by omega, h4, h5⟩
    · have hall : ∀ y, y < n → listed.getD y true = true := fun y hy => by
        cases hq : listed.getD y true with
        | true => rfl
        | false => exact (h ⟨y, hy, hq⟩).elim
      have hxn : x = n := by
        by_cases hx : x < n
        · rw [hall x hx] at h2; cases h2
        · omega
      subst hxn
      exact ⟨x, by omega, h2, hall⟩
theorem unl_set {n : Nat} {listed : Array Bool} {i : Nat} (hs : listed.size = n) (hi : i < n) {ord A B : List Nat} (hnd : ord.Nodup) (h : (ord.filter fun i => !listed.getD i true) = A ++ i :: B) : (ord.filter fun k => !(listed.setIfInBounds i true).getD k true) = A ++ B := by
  have e1 : (ord.filter fun k => !(listed.setIfInBounds i true).getD k true) = (ord.filter fun k => !listed.getD k true).filter fun k => k != i := by
    rw [List.filter_filter]
    apply List.filter_congr
    intro k hk
    by_cases hki : k = i
    · subst hki
      have hks : k < listed.size := by omega
      simp [Array.getD_eq_getD_getElem?, hks]
    · rw [getD_set_ne true (fun e => hki e.symm)]
      simp [hki]
  rw [e1, h]
  have hnd : (A ++ i :: B).Nodup := by
    rw [← h]; exact List.Pairwise.filter _ hnd
  rw [List.nodup_append] at hnd
  obtain ⟨n1, n2, n3⟩ := hnd
  rw [List.nodup_cons] at n2
  rw [List.filter_append, List.filter_cons]
  simp only [bne_self_eq_false, Bool.false_eq_true, if_false]
  congr 1
  · exact List.filter_eq_self.2 fun x hx => by
      have := n3 x hx i (by simp)
      simpa using this
  · exact List.filter_eq_self.2 fun x hx => by
      have : x ≠ i := fun e => n2.1 (e ▸ hx)
      simpa using this
theorem range_split {n p : Nat} (h : p + 2 ≤ n) : List.range n = List.range p ++ (p :: (p + 1) :: (List.range (n - (p + 2))).map (· + (p + 2))) := by
  apply List.ext_getElem?
  intro k
  by_cases h1 : k < p
  · rw [List.getElem?_append_left (by simpa using h1), List.getElem?_range h1, List.getElem?_range (by omega)]
  · rw [List.getElem?_append_right (by simpa using h1), List.length_range]
    rcases (by omega : k = p ∨ k = p + 1 ∨ p + 2 ≤ k) with rfl | rfl | h2
    · rw [List.getElem?_range (by omega)]; simp
    · rw [List.getElem?_range (by omega), show p + 1 - p = 1 by omega]; rfl
    · obtain ⟨m, rfl⟩ : ∃ m, k = m + (p + 2) := ⟨k - (p + 2), by omega⟩
      rw [show m + (p + 2) - p = m + 1 + 1 by omega, List.getElem?_cons_succ, List.getElem?_cons_succ, List.getElem?_map]
      by_cases h3 : m + (p + 2) < n
      · rw [List.getElem?_range h3, List.getElem?_range (by omega)]; rfl
      · rw [List.getElem?_eq_none (by simpa using h3), List.getElem?_eq_none (by simp; omega)]; rfl
/-- Behind all that stands ahead of p: p, then p + 1; and the other way round. -/
def both (base : Nat) (hvl : List Nat) (P : Program) (tb : Tbl) (N : Nat) (ops : List Oper) (p : Nat) (K : St → Prop) (σ : St) : Prop :=
  base ≤ σ.s.heap.length ∧ dOps base hvl P tb N ops (p :: (p + 1) :: (List.range (ops.length - (p + 2))).map (· + (p + 2))) σ K ∧ dOps base hvl P tb N ops ((p + 1) :: p :: (List.range (ops.length - (p + 2))).map (· + (p + 2))) σ K
theorem both_closed {base : Nat} {hvl : List Nat} {N : Nat} {ops : List Oper} {p : Nat} {K : St → Prop} (hK : Closed K) : Closed (both base hvl P tb N ops p K) := fun σ τ he ⟨h0, h1, h2⟩ =>
  ⟨by rw [← he.2]; exact h0, dOps_eqv hK _ σ τ h0 he h1, dOps_eqv hK _ σ τ h0 he h2⟩
theorem dnx_sound (hT : TblOk P tb) {rd : Option Nat} {base : Nat} {hvl : List Nat} {N : Nat} {ops : List Oper} {p q : Nat} (hl : lexOkX p q hvl ops = true) {Q : Exit → Act → World → Prop} {K : St → Prop} (hK : Closed K) {B : Nat × Nat} {G0 : Gh} {w0 : World} {ds : List Deferred} (hQ : ∀ a w G σ, Ex B G0 w0 G w → Rel N G σ a w → a.defers = ds → K σ → Q .normal a w) :
    ∀ (fuel : Nat) (listed : Array Bool) (σ : St) (a : Act) (w : World) (G : Gh), listed.size = ops.length → Down ops listed → (listed.getD p false = true ∨ listed.getD q false = true) → ((List.range ops.length).filter fun i => !listed.getD i true).length = fuel → Ex B G0 w0 G w → Rel N G σ a w → a.defers = ds → base ≤ σ.s.heap.length →
      dOps base hvl P tb N ops ((List.range ops.length).filter fun i => !listed.getD i true) σ K → wpAnyIn (FW rd) 0 P .any ops.toArray Q fuel listed a w
  | 0, listed, σ, a, w, G, hs, hdn, hpq, hf, hE, hR, hd, hbs, h => by
    have hnil := List.eq_nil_of_length_eq_zero hf
    rw [hnil] at h
    refine ⟨?_, hQ a w G σ hE hR hd h⟩
    apply List.eq_nil_iff_forall_not_mem.2
    intro i hi
    obtain ⟨h1, o, ho, -⟩ := mem_ready.1 hi
    have : i ∈ (List.range ops.length).filter fun i => !listed.getD i true := by
      rw [List.mem_filter, List.mem_range]
      exact ⟨by have := (Array.getElem?_eq_some_iff.1 ho).1; simpa using this, by rw [h1]; rfl⟩
    rw [hnil] at this
    cases this
  | fuel + 1, listed, σ, a, w, G, hs, hdn, hpq, hf, hE, hR, hd, hbs, h => by
    refine ⟨fun hr => ?_, fun i hi => ?_⟩
    · exfalso
      generalize hL : ((List.range ops.length).filter fun i => !listed.getD i true) = L at hf
      cases L with
      | nil => simp at hf
      | cons x r =>
        have hx : x ∈ (List.range ops.length).filter fun i => !listed.getD i true := by rw [hL]; simp
        rw [List.mem_filter, List.mem_range] at hx
        obtain ⟨hx1, hx2⟩ := hx
        have ho : ops[x]? = some ops[x] := List.getElem?_eq_getElem hx1
        have hmem : x ∈ Region.ready .any ops.toArray listed := by
          refine mem_ready.2 ⟨by simpa using hx2, ops[x], by simp, fun e he hb => ?_⟩
          have hlt := (lexOkX_spec hl ho).1 e he hb
          cases hg : listed.getD e.on false
          · exfalso
            have hmm : e.on ∈ (List.range ops.length).filter fun i => !listed.getD i true := by
              rw [List.mem_filter, List.mem_range]
              refine ⟨by omega, ?_⟩
              have hlt2 : e.on < listed.size := by omega
              simp only [Array.getD_eq_getD_getElem?, Array.getElem?_eq_getElem hlt2, Option.getD_some] at hg ⊢
              simp [hg]
            have hsorted : ((List.range ops.length).filter fun i => !listed.getD i true).Pairwise (· < ·) := List.Pairwise.filter _ List.pairwise_lt_range
            rw [hL] at hmm hsorted
            rcases List.mem_cons.1 hmm with h0 | h0
            · omega
            · have := List.rel_of_pairwise_cons hsorted h0; omega
          · rfl
        rw [hr] at hmem
        cases hmem
    · obtain ⟨h1, o, ho, hp⟩ := mem_ready.1 hi
      have ho' : ops[i]? = some o := by simpa using ho
      have hil : i < ops.length := (List.getElem?_eq_some_iff.1 ho').1
      have him : i ∈ (List.range ops.length).filter fun i => !listed.getD i true := by
        rw [List.mem_filter, List.mem_range]; exact ⟨hil, by rw [h1]; rfl⟩
      have hsorted : ((List.range ops.length).filter fun i => !listed.getD i true).Pairwise (· < ·) := List.Pairwise.filter _ List.pairwise_lt_range
      obtain ⟨A, B, hAB⟩ := List.append_of_mem him
      have hA : ∀ x ∈ A, x < i ∧ listed.getD x true = false := fun x hx => by
        refine ⟨?_, ?_⟩
        · rw [hAB] at hsorted
          exact (List.pairwise_append.1 hsorted).2.2 x hx i (by simp)
        · have : x ∈ (List.range ops.length).filter fun i => !listed.getD i true := by rw [hAB]; simp [hx]
          rw [List.mem_filter] at this
          simpa using this.2
      rw [hAB] at h
      have hfront := dOps_front hK A σ hbs (fun x hx => by
        obtain ⟨hx1, hx2⟩ := hA x hx
        rcases (lexOkX_spec hl ho').2 x hx1 with ⟨rfl, rfl⟩ | hre | h0
        · exfalso
          have hlt2 : x < listed.size := by omega
          have hlt3 : i < listed.size := by omega
          simp only [Array.getD_eq_getD_getElem?, Array.getElem?_eq_getElem hlt2, Array.getElem?_eq_getElem hlt3, Option.getD_some] at hx2 h1 hpq
          rcases hpq with h0 | h0
          · rw [hx2] at h0; cases h0
          · rw [h1] at h0; cases h0
        · have := hdn.reach hs hre fun o2 ho2 e he hb => by
            rw [ho'] at ho2
            cases ho2
            exact hp e he hb
          have hlt2 : x < listed.size := by omega
          simp only [Array.getD_eq_getD_getElem?, Array.getElem?_eq_getElem hlt2, Option.getD_some] at this hx2
          rw [this] at hx2; cases hx2
        · exact h0) h
      have hnew : ((List.range ops.length).filter fun k => !(listed.setIfInBounds i true).getD k true) = A ++ B := by
        have e1 : ((List.range ops.length).filter fun k => !(listed.setIfInBounds i true).getD k true) = ((List.range ops.length).filter fun k => !listed.getD k true).filter fun k => k != i := by
          rw [List.filter_filter]
          apply List.filter_congr
          intro k hk
          by_cases hki : k = i
          · subst hki
            have hks : k < listed.size := by omega
            simp [Array.getD_eq_getD_getElem?, hks]
          · rw [getD_set_ne true (fun e => hki e.symm)]
            simp [hki]
        rw [e1, hAB]
        have hnd : (A ++ i :: B).Nodup := by
          rw [← hAB]; exact List.Pairwise.filter _ List.nodup_range
        rw [List.nodup_append] at hnd
        obtain ⟨n1, n2, n3⟩ := hnd
        rw [List.nodup_cons] at n2
        rw [List.filter_append, List.filter_cons]
        simp only [bne_self_eq_false, Bool.false_eq_true, if_false]
        congr 1
        · exact List.filter_eq_self.2 fun x hx => by
            have := n3 x hx i (by simp)
            simpa using this
        · exact List.filter_eq_self.2 fun x hx => by
            have : x ≠ i := fun e => n2.1 (e ▸ hx)
            simpa using this
      refine bOne_sound hT hR (dOne_b hbs (dOne_mono hbs (K' := fun τ => base ≤ τ.s.heap.length ∧ dOps base hvl P tb N ops (A ++ B) τ K) (fun τ h1 h2 => ⟨h1, h2⟩) hfront)) fun a' w' G' σ' s1 r1 d1 k1 => ?_
      have hdn' : Down ops (listed.setIfInBounds i true) := fun k o2 ho2 hk e he hb => by
        refine getD_set_true ?_
        by_cases hki : k = i
        · subst hki
          rw [ho'] at ho2
          cases ho2
          exact hp e he hb
        · rw [getD_set_ne true (fun e => hki e.symm)] at hk
          exact hdn k o2 ho2 hk e he hb
      refine dnx_sound hT hl hK hQ fuel _ σ' a' w' G' (by simp [hs]) hdn' (hpq.imp getD_set_true getD_set_true) ?_ (hE.trans (s1.ex _)) r1 (d1.trans hd) k1.1 ?_
      · rw [hnew]
        rw [hAB] at hf
        simp at hf ⊢; omega
      · rw [hnew]; exact k1.2
theorem dtwo_sound (hT : TblOk P tb) {rd : Option Nat} {base : Nat} {hvl : List Nat} {N : Nat} {ops : List Oper} {p : Nat} (hl : lexOkX p (p + 1) hvl ops = true) (hpn : p + 1 < ops.length) (hRe : ∀ x, p + 2 ≤ x → x < ops.length → Reach ops p x) {Q : Exit → Act → World → Prop} {K : St → Prop} (hK : Closed K) {B : Nat × Nat} {G0 : Gh} {w0 : World} {ds : List Deferred} (hQ : ∀ a w G σ, Ex B G0 w0 G w → Rel N G σ a w → a.defers = ds → K σ → Q .normal a w) :
    ∀ (fuel : Nat) (listed : Array Bool) (σ : St) (a : Act) (w : World) (G : Gh), listed.size = ops.length → Down ops listed → (∀ x, p ≤ x → x < ops.length → listed.getD x true = false) → ((List.range p).filter fun i => !listed.getD i true).length + (ops.length - p) = fuel → Ex B G0 w0 G w → Rel N G σ a w → a.defers = ds → base ≤ σ.s.heap.length →
      dOps base hvl P tb N ops ((List.range p).filter fun i => !listed.getD i true) σ (both base hvl P tb N ops p K) → wpAnyIn (FW rd) 0 P .any ops.toArray Q fuel listed a w
  | 0, listed, σ, a, w, G, hs, hdn, hun, hf, hE, hR, hd, hbs, h => by omega
  | fuel + 1, listed, σ, a, w, G, hs, hdn, hun, hf, hE, hR, hd, hbs, h => by
    refine ⟨fun hr => ?_, fun i hi => ?_⟩
    · exfalso
      obtain ⟨x, hx1, hx2, hx3⟩ := least_unl listed ops.length ⟨p, by omega, hun p (Nat.le_refl _) (by omega)⟩
      have ho : ops[x]? = some ops[x] := List.getElem?_eq_getElem hx1
      have hmem : x ∈ Region.ready .any ops.toArray listed := by
        refine mem_ready.2 ⟨hx2, ops[x], by simp, fun e he hb => ?_⟩
        have hlt := (lexOkX_spec hl ho).1 e he hb
        have h3 := hx3 e.on hlt
        have hlt2 : e.on < listed.size := by omega
        simp only [Array.getD_eq_getD_getElem?, Array.getElem?_eq_getElem hlt2, Option.getD_some] at h3 ⊢
        exact h3
      rw [hr] at hmem
      cases hmem
    · obtain ⟨h1, o, ho, hp⟩ := mem_ready.1 hi
      have ho' : ops[i]? = some o := by simpa using ho
      have hil : i < ops.length := (List.getElem?_eq_some_iff.1 ho').1
      have hdn' : Down ops (listed.setIfInBounds i true) := fun k o2 ho2 hk e he hb => by
        refine getD_set_true ?_
        by_cases hki : k = i
        · subst hki
          rw [ho'] at ho2
          cases ho2
          exact hp e he hb
        · rw [getD_set_ne true (fun e => hki e.symm)] at hk
          exact hdn k o2 ho2 hk e he hb
      have ind : ∀ x, x < i → listed.getD x true = false → (x = p → i = p + 1 → False) → indep2 hvl ops x i = true := fun x hx1 hx2 hne => by
        rcases (lexOkX_spec hl ho').2 x hx1 with ⟨h0, h2⟩ | hre | h0
        · exact (hne h0 h2).elim
        · have := hdn.reach hs hre fun o2 ho2 e he hb => by
            rw [ho'] at ho2
            cases ho2
            exact hp e he hb
          have hlt2 : x < listed.size := by omega
          simp only [Array.getD_eq_getD_getElem?, Array.getElem?_eq_getElem hlt2, Option.getD_some] at this hx2
          rw [this] at hx2; cases hx2
        · exact h0
      have hset : ∀ x, x ≠ i → (listed.setIfInBounds i true).getD x true = listed.getD x true := fun x hx => getD_set_ne true (fun e => hx e.symm)
      have hsetF : (listed.setIfInBounds i true).getD i false = true := by
        have : i < listed.size := by omega
        simp [Array.getD_eq_getD_getElem?, this]
      have hsetT : (listed.setIfInBounds i true).getD i true = true := by
        have : i < listed.size := by omega
        simp [Array.getD_eq_getD_getElem?, this]
      rcases (by omega : i < p ∨ i = p ∨ i = p + 1 ∨ p + 2 ≤ i) with hip | rfl | rfl | hip
      · -- one of those ahead
        have him : i ∈ (List.range p).filter fun i => !listed.getD i true := by
          rw [List.mem_filter, List.mem_range]; exact ⟨hip, by rw [h1]; rfl⟩
        have hsorted : ((List.range p).filter fun i => !listed.getD i true).Pairwise (· < ·) := List.Pairwise.filter _ List.pairwise_lt_range
        obtain ⟨A, B, hAB⟩ := List.append_of_mem him
        have hA : ∀ x ∈ A, x < i ∧ listed.getD x true = false := fun x hx => by
          refine ⟨?_, ?_⟩
          · rw [hAB] at hsorted
            exact (List.pairwise_append.1 hsorted).2.2 x hx i (by simp)
          · have : x ∈ (List.range p).filter fun i => !listed.getD i true := by rw [hAB]; simp [hx]
            rw [List.mem_filter] at this
            simpa using this.2
        rw [hAB] at h
        have hfront := dOps_front (both_closed hK) A σ hbs (fun x hx => ind x (hA x hx).1 (hA x hx).2 fun e _ => by have := (hA x hx).1; omega) h
        have hnew : ((List.range p).filter fun k => !(listed.setIfInBounds i true).getD k true) = A ++ B := unl_set hs hil List.nodup_range hAB
        refine bOne_sound hT hR (dOne_b hbs (dOne_mono hbs (K' := fun τ => base ≤ τ.s.heap.length ∧ dOps base hvl P tb N ops (A ++ B) τ (both base hvl P tb N ops p K)) (fun τ h1 h2 => ⟨h1, h2⟩) hfront)) fun a' w' G' σ' s1 r1 d1 k1 => ?_
        refine dtwo_sound hT hl hpn hRe hK hQ fuel _ σ' a' w' G' (by simp [hs]) hdn' (fun x hx1 hx2 => by rw [hset x (by omega)]; exact hun x hx1 hx2) ?_ (hE.trans (s1.ex _)) r1 (d1.trans hd) k1.1 ?_
        · rw [hnew]
          rw [hAB] at hf
          simp at hf ⊢; omega
        · rw [hnew]; exact k1.2
      · -- the first one
        have h' : dOps base hvl P tb N ops (((List.range i).filter fun k => !listed.getD k true) ++ i :: ((i + 1) :: (List.range (ops.length - (i + 2))).map (· + (i + 2)))) σ K := dOps_app.2 (dOps_mono hbs (fun τ _ hτ => hτ.2.1) h)
        have hfront := dOps_front hK _ σ hbs (fun x hx => by
          rw [List.mem_filter, List.mem_range] at hx
          exact ind x hx.1 (by simpa using hx.2) fun e => by have := hx.1; omega) h'
        have hnew : ((List.range ops.length).filter fun k => !(listed.setIfInBounds i true).getD k true) = ((List.range i).filter fun k => !listed.getD k true) ++ ((i + 1) :: (List.range (ops.length - (i + 2))).map (· + (i + 2))) := by
          rw [range_split (show i + 2 ≤ ops.length by omega), List.filter_append, List.filter_cons, List.filter_cons]
          rw [if_neg (by rw [hsetT]; simp), if_pos (by rw [hset _ (by omega), hun _ (by omega) (by omega)]; rfl)]
          congr 1
          · exact List.filter_congr fun k hk => by rw [hset k (by have := List.mem_range.1 hk; omega)]
          · congr 1
            refine List.filter_eq_self.2 fun k hk => ?_
            obtain ⟨y, hy, rfl⟩ := List.mem_map.1 hk
            have := List.mem_range.1 hy
            rw [hset _ (by omega), hun _ (by omega) (by omega)]; rfl
        refine bOne_sound hT hR (dOne_b hbs (dOne_mono hbs (K' := fun τ => base ≤ τ.s.heap.length ∧ dOps base hvl P tb N ops _ τ K) (fun τ h1 h2 => ⟨h1, h2⟩) hfront)) fun a' w' G' σ' s1 r1 d1 k1 => ?_
        refine dnx_sound hT hl hK hQ fuel _ σ' a' w' G' (by simp [hs]) hdn' (.inl hsetF) ?_ (hE.trans (s1.ex _)) r1 (d1.trans hd) k1.1 ?_
        · rw [hnew]
          simp at hf ⊢; omega
        · rw [hnew]; exact k1.2
      · -- the second one
        have h' : dOps base hvl P tb N ops (((List.range p).filter fun k => !listed.getD k true) ++ (p + 1) :: (p :: (List.range (ops.length - (p + 2))).map (· + (p + 2)))) σ K := dOps_app.2 (dOps_mono hbs (fun τ _ hτ => hτ.2.2) h)
        have hfront := dOps_front hK _ σ hbs (fun x hx => by
          rw [List.mem_filter, List.mem_range] at hx
          exact ind x (by have := hx.1; omega) (by simpa using hx.2) fun e => by have := hx.1; omega) h'
        have hnew : ((List.range ops.length).filter fun k => !(listed.setIfInBounds (p + 1) true).getD k true) = ((List.range p).filter fun k => !listed.getD k true) ++ (p :: (List.range (ops.length - (p + 2))).map (· + (p + 2))) := by
          rw [range_split (show p + 2 ≤ ops.length by omega), List.filter_append, List.filter_cons, List.filter_cons]
          rw [if_pos (by rw [hset _ (by omega), hun _ (by omega) (by omega)]; rfl), if_neg (by rw [hsetT]; simp)]
          congr 1
          · exact List.filter_congr fun k hk => by rw [hset k (by have := List.mem_range.1 hk; omega)]
          · congr 1
            refine List.filter_eq_self.2 fun k hk => ?_
            obtain ⟨y, hy, rfl⟩ := List.mem_map.1 hk
            have := List.mem_range.1 hy
            rw [hset _ (by omega), hun _ (by omega) (by omega)]; rfl
        refine bOne_sound hT hR (dOne_b hbs (dOne_mono hbs (K' := fun τ => base ≤ τ.s.heap.length ∧ dOps base hvl P tb N ops _ τ K) (fun τ h1 h2 => ⟨h1, h2⟩) hfront)) fun a' w' G' σ' s1 r1 d1 k1 => ?_
        refine dnx_sound hT hl hK hQ fuel _ σ' a' w' G' (by simp [hs]) hdn' (.inr hsetF) ?_ (hE.trans (s1.ex _)) r1 (d1.trans hd) k1.1 ?_
        · rw [hnew]
          simp at hf ⊢; omega
        · rw [hnew]; exact k1.2
      · exfalso
        have := hdn.reach hs (hRe i hip hil) fun o2 ho2 e he hb => by
          rw [ho'] at ho2
          cases ho2
          exact hp e he hb
        have h3 := hun p (Nat.le_refl _) (by omega)
        have hlt2 : p < listed.size := by omega
        simp only [Array.getD_eq_getD_getElem?, Array.getElem?_eq_getElem hlt2, Option.getD_some] at this h3
        rw [this] at h3; cases h3
/-! ### variables under other names -/
def permOk (B : Nat × Nat) (I : List Nat) (nh nl : Nat) (hs : List (List D)) (env' : Env) : Bool :=
  nodupB I && I.all (Nat.blt · nh) && hs.all (fun cs => cs.all (D.lt I.length nl)) && env'.all (fun p => p.2.lt I.length nl) && I.take B.1 == List.range B.1 && Nat.ble B.1 I.length && Nat.ble B.2 nl
theorem look_map {f : D → D} : ∀ (l : Env) {t : Nat} {d : D}, l.lookup t = some d → (l.map fun p => (p.1, f p.2)).lookup t = some (f d)
  | [], t, d, h => by simp at h
  | (t0, d0) :: r, t, d, h => by
    rw [List.lookup_cons] at h
    rw [List.map_cons, List.lookup_cons]
    by_cases h1 : t = t0
    · subst h1
      simp only [beq_self_eq_true, Option.some.injEq] at h ⊢
      rw [h]
    · have hb : (t == t0) = false := by simpa using h1
      rw [hb] at h ⊢
      exact look_map r h
theorem Le.perm {B : Nat × Nat} {N : Nat} {env env' : Env} {H hs : List (List D)} {live : List Nat} (I : List Nat) (c : permOk B I H.length live.length hs env' = true) (eH : I.map (H.getD · []) = hs.map fun cs => cs.map (D.ren I (List.range live.length)))
    (eE : env = env'.map fun p => (p.1, p.2.ren I (List.range live.length))) : Le B N ⟨env, ⟨H, live⟩⟩ ⟨env', ⟨hs, live⟩⟩ := ⟨fun G a w hR => by
  unfold permOk at c
  simp only [Bool.and_eq_true, beq_iff_eq] at c
  obtain ⟨⟨⟨⟨⟨⟨c1, c2⟩, c3⟩, c4⟩, c5⟩, c6⟩, c7⟩ := c
  have hN : G.name.length = H.length := hR.inv.names
  have hT : G.tok.length = live.length := by have := congrArg List.length hR.inv.live; simpa using this
  have hI : ∀ i ∈ I, i < G.name.length := fun i hi => by rw [hN]; exact all_blt c2 i hi
  have hJ : ∀ j ∈ List.range live.length, j < G.tok.length := fun j hj => by rw [hT]; exact List.mem_range.1 hj
  have hget : ∀ t, t < live.length → (G.sub I (List.range live.length)).tok[t]? = G.tok[t]? := fun t ht => sub_tok (List.getElem?_range ht) (by omega)
  have hlen : (G.sub I (List.range live.length)).tok.length = live.length := by
    show ((List.range live.length).map _).length = _
    simp
  have hinv := hR.inv.sub (nodupB_spec I c1) List.nodup_range (fun i hi => all_blt c2 i hi) (fun j hj => List.mem_range.1 hj) eH (lv := live) (by
    apply List.ext_getElem?
    intro t
    rw [List.getElem?_map]
    by_cases ht : t < live.length
    · rw [List.getElem?_range ht, Option.map_some, getSome ht 0]
    · rw [List.getElem?_eq_none (by simpa using ht), List.getElem?_eq_none (by omega)]; rfl) (by rw [List.length_range]; exact c3)
  refine ⟨G.sub I (List.range live.length), ⟨⟨rfl, rfl, rfl, Nat.le_refl _, fun _ _ _ h k => ⟨h, k⟩, fun _ _ _ _ => rfl, fun _ _ h => .inl h, fun b hb => ?_, fun _ _ h => h, .refl w⟩, fun nm b hnm hb => ?_, fun t T ht hTt => ?_⟩, ⟨hinv, fun t d hd => ?_, hR.size⟩⟩
  · rcases hb with hb | ⟨T, hTm, hb⟩
    · obtain ⟨i, hi, rfl⟩ := List.mem_map.1 (show b ∈ I.map (G.name.getD · 0) from hb)
      exact .inr (.inl (List.mem_of_getElem? (getSome (hI i hi) 0)))
    · obtain ⟨j, hj, rfl⟩ := List.mem_map.1 (show T ∈ (List.range live.length).map (G.tok.getD · tok0) from hTm)
      exact .inr (.inr ⟨_, List.mem_of_getElem? (getSome (hJ j hj) tok0), hb⟩)
  · have h1 : I[nm]? = some nm := by
      have := congrArg (·[nm]?) c5
      simp only [List.getElem?_take, hnm, if_true, List.getElem?_range hnm] at this
      exact this
    rw [sub_name h1 (hI nm (List.mem_of_getElem? h1))]
    exact hb
  · have htl : t < live.length := Nat.lt_of_lt_of_le ht (Nat.le_of_ble_eq_true c7)
    exact ⟨T, by rw [hget t htl]; exact hTt, .refl T, fun _ => ⟨rfl, fun _ _ => rfl⟩⟩
  · obtain ⟨k1, k2⟩ := hR.env t (d.ren I (List.range live.length)) (by rw [eE]; exact look_map env' hd)
    have hlt := List.all_eq_true.1 c4 (t, d) (mem_lookup _ hd)
    exact ⟨k1, ren_sub hI hJ (by rw [List.length_range]; exact hlt) k2⟩⟩
end
end Go.Proofs.Ytlhjieapkcnghaa
