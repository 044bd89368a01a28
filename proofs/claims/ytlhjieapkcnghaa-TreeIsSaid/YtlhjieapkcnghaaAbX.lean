/- The abstract layer, part 11: what an operation looks at. -/
import Derived.Test.YtlhjieapkcnghaaAbW
namespace Go.Proofs.Ytlhjieapkcnghaa
open Go.RowKit

/-- The outcome does not hang on memory. -/
def Pur (X : S → (D → S → Prop) → Prop) : Prop := ∀ s K, X s K → ∃ d, K d s ∧ ∀ s' K', K' d s' → X s' K'
theorem Pur.false : Pur fun _ _ => False := fun _ _ h => h.elim
theorem Pur.ret (d : D) : Pur fun s K => K d s := fun _ _ h => ⟨d, h, fun _ _ h => h⟩
theorem Pur.and {p : Prop} {X : S → (D → S → Prop) → Prop} (h : p → Pur X) : Pur fun s K => p ∧ X s K := fun s K ⟨hp, hx⟩ =>
  let ⟨d, h1, h2⟩ := h hp s K hx
  ⟨d, h1, fun s' K' hk => ⟨hp, h2 s' K' hk⟩⟩
theorem Pur.ex {α : Type} {X : α → S → (D → S → Prop) → Prop} (h : ∀ x, Pur (X x)) : Pur fun s K => ∃ x, X x s K := fun s K ⟨x, hx⟩ =>
  let ⟨d, h1, h2⟩ := h x s K hx
  ⟨d, h1, fun s' K' hk => ⟨x, h2 s' K' hk⟩⟩
theorem Pur.ite {p : Prop} [Decidable p] {X Y : S → (D → S → Prop) → Prop} (hx : p → Pur X) (hy : ¬ p → Pur Y) : Pur fun s K => if p then X s K else Y s K := by
  by_cases h : p
  · simp only [h, if_true]; exact hx h
  · simp only [h, if_false]; exact hy h

section
variable {tb : Tbl}
theorem aPlace_pur (x : D) (n : Nat) : Pur fun s K => aPlace x n s K := by
  unfold aPlace; split <;> first | exact .false | exact .ret _
theorem aFieldAddr_pur (t : Nat) (x : D) (f : Nat) : Pur fun s K => aFieldAddr tb t x f s K := by
  unfold aFieldAddr
  split
  · split
    · split
      · split
        · exact .ite (fun _ => .false) (fun _ => aPlace_pur _ _)
        · exact .false
      · exact .false
    · exact .false
  · exact .false
theorem aPart_pur (ti : TI) (x : D) (off : Nat) : Pur fun s K => aPart ti x off s K := by
  unfold aPart
  split
  · split
    · exact .ite (fun _ => .ret _) (fun _ => .false)
    · split
      · exact .ret _
      · exact .false
  · exact .false
theorem aField_pur (t : Nat) (x : D) (f : Nat) : Pur fun s K => aField tb t x f s K := by
  unfold aField
  split
  · split
    · split
      · split
        · exact aPart_pur _ _ _
        · exact .false
      · exact .false
    · exact .false
  · exact .false
theorem aIndexAddr_pur (t : Nat) (x i : D) : Pur fun s K => aIndexAddr tb t x i s K := by
  unfold aIndexAddr
  split
  · split
    · split
      · exact .ex fun _ => .and fun _ => .and fun _ => .and fun _ => .and fun _ => .ret _
      · exact .ex fun _ => .and fun _ => .and fun _ => .and fun _ => .and fun _ => .ret _
      · exact .false
    · split
      · exact .and fun _ => .and fun _ => aPlace_pur _ _
      · exact .false
    · exact .false
  · exact .false
theorem aIndex_pur (t : Nat) (x i : D) : Pur fun s K => aIndex tb t x i s K := by
  unfold aIndex
  split
  · split
    · exact .ex fun _ => .and fun _ => .and fun _ => .ret _
    · split
      · exact .and fun _ => .and fun _ => aPart_pur _ _ _
      · exact .false
    · exact .false
  · exact .false
theorem aSlice_pur (t : Nat) (x : D) (lo hi : Option D) : Pur fun s K => aSlice tb t x lo hi s K := by
  unfold aSlice
  split
  · split
    · exact .and fun _ => .ret _
    · split
      · exact .and fun _ => .and fun _ => .ret _
      · exact .false
    · split
      · exact .and fun _ => .and fun _ => .ret _
      · exact .false
    · exact .false
  · exact .false
theorem aBin_pur (op : BinOp) (a b : Value) : Pur fun s K => aBin op a b fun u => K (.p (.v u)) s := by
  unfold aBin
  split <;> first
    | exact .false
    | exact .ret _
    | exact .and fun _ => .ret _
    | exact .ite (fun _ => .ret _) (fun _ => .false)
    | exact .ite (fun _ => .and fun _ => .ret _) (fun _ => .false)
theorem aBinOp0_pur (op : BinOp) (t : Nat) (x y : D) : Pur fun s K => aBinOp0 tb op t x y s K := by
  unfold aBinOp0
  split
  · split
    · split
      · exact .ret _
      · exact .false
    · split
      · exact .ret _
      · exact .false
    · exact .false
  · exact aBin_pur _ _ _
  · exact .false
theorem eqK_pur (op : BinOp) (b : Bool) : Pur fun s (K : D → S → Prop) => eqK op b fun b => K (.p (.v (.bool b))) s := by
  unfold eqK
  split <;> first | exact .ret _ | exact .false
theorem aBinOp_pur (op : BinOp) (t : Nat) (x y : D) : Pur fun s K => aBinOp tb op t x y s K := by
  unfold aBinOp
  split
  · split
    · split
      · split
        · exact .and fun _ => eqK_pur _ _
        · exact .false
      · exact .false
    · exact .false
  · exact .and fun _ => eqK_pur _ _
  · exact .and fun _ => eqK_pur _ _
  · exact .and fun _ => eqK_pur _ _
  · exact aBinOp0_pur _ _ _ _
theorem aUn_pur (op : UnOp) (x : D) : Pur fun s K => aUn op x s K := by
  unfold aUn; split <;> first | exact .false | exact .ret _
theorem aLen_pur (t : Nat) (x : D) : Pur fun s K => aLen tb t x s K := by
  unfold aLen
  split
  · split <;> first | exact .false | exact .ret _
  · exact .false
theorem aMinMax3_pur (m : Bool) (x y z : D) : Pur fun s K => aMinMax3 m x y z s K := by
  unfold aMinMax3; split <;> first | exact .false | exact .ret _
theorem aMinMax_pur (m : Bool) (x y : D) : Pur fun s K => aMinMax m x y s K := by
  unfold aMinMax; split <;> first | exact .false | exact .ret _
theorem aConv_pur (src dst : Nat) (x : D) : Pur fun s K => aConv tb src dst x s K := by
  unfold aConv
  split
  · split
    · exact .ret _
    · exact .ret _
    · split
      · split
        · split
          · exact .ex fun _ => .and fun _ => .ret _
          · exact .false
        · exact .false
      · exact .false
    · split
      · split
        · split
          · exact .ex fun _ => .and fun _ => .ret _
          · exact .false
        · exact .false
      · exact .false
    · split
      · split
        · exact .and fun _ => .ret _
        · exact .false
      · exact .false
    · exact .false
  · exact .false
theorem aExtract_pur (x : D) (i : Nat) : Pur fun s K => aExtract x i s K := by
  unfold aExtract
  split
  · split
    · exact .ret _
    · exact .false
  · exact .false
theorem aMakeFunc_pur (f : Fn) (a b : Option (List D)) : Pur fun s K => aMakeFunc f a b s K := by
  unfold aMakeFunc; split <;> first | exact .false | exact .ret _
theorem aNilCheck_pur (x : D) : Pur fun s K => aNilCheck x s K := by
  unfold aNilCheck; split <;> first | exact .false | exact .ret _ | exact .and fun _ => .ret _
theorem aBuild_pur (t : Nat) (ps : Option (List (Nat × D))) : Pur fun s K => aBuild tb t ps s K := by
  unfold aBuild
  split
  · split
    · split
      · split
        · split
          · split
            · exact .ret _
            · exact .false
          · exact .false
        · split
          · split
            · exact .ret _
            · exact .false
          · exact .false
        · exact .false
      · exact .false
    · exact .false
  · exact .false
theorem aMakeSlice_pur (t : Nat) (l c : D) : Pur fun s K => aMakeSlice tb t l c s K := by
  unfold aMakeSlice
  split
  · split
    · split
      · split
        · split
          · exact .and fun _ => .and fun _ => .ret _
          · exact .false
        · exact .false
      · exact .false
    · exact .false
  · exact .false
theorem aBuildSlice_pur (t n : Nat) (ps : Option (List (Nat × D))) : Pur fun s K => aBuildSlice tb t n ps s K := by
  unfold aBuildSlice
  split
  · split
    · split
      · split
        · split
          · refine .ite (fun _ => ?_) (fun _ => .false)
            split
            · split
              · exact .ret _
              · exact .false
            · exact .false
          · exact .false
        · exact .false
      · exact .false
    · exact .false
  · exact .false
theorem aLoadV_pur (ti : TI) (cs : List V) : Pur fun s K => aLoadV ti cs fun v => K (.p v) s := by
  unfold aLoadV
  split
  · exact .ite (fun _ => .ret _) (fun _ => .false)
  · split
    · exact .ret _
    · exact .false
theorem aLoadD_pur (ti : TI) (cs : List D) : Pur fun s K => aLoadD ti cs fun v => K v s := by
  unfold aLoadD
  split
  · exact .ite (fun _ => .ret _) (fun _ => .false)
  · split
    · exact .ret _
    · exact .false
/-- Does it read variables, turn variables, turn tokens? -/
structure Fl where
  rd : Bool
  wr : Bool
  tk : Bool
def flags : Op → Fl
  | .load _ _ => ⟨true, false, false⟩
  | .alloc _ | .box _ _ | .store _ _ _ => ⟨true, true, false⟩
  | .call c => match c.callee with
    | .builtin .append => ⟨false, false, true⟩
    | .value _ => ⟨true, false, false⟩
    | _ => ⟨false, false, false⟩
  | _ => ⟨false, false, false⟩
/-- The outcome hangs on just the memory that the flags name. -/
def Loc (f : Fl) (X : S → (D → S → Prop) → Prop) : Prop := ∀ s K, X s K → ∃ d s1, K d s1 ∧ (f.wr = false → s1.heap = s.heap) ∧ (f.tk = false → s1.live = s.live) ∧
  ∀ (s' : S) K', (f.rd = true → s'.heap = s.heap) → (f.tk = true → s'.live = s.live) → K' d ⟨if f.wr then s1.heap else s'.heap, if f.tk then s1.live else s'.live⟩ → X s' K'
theorem Pur.loc {X : S → (D → S → Prop) → Prop} (h : Pur X) (rd : Bool) : Loc ⟨rd, Bool.false, Bool.false⟩ X := fun s K hx =>
  let ⟨d, h1, h2⟩ := h s K hx
  ⟨d, s, h1, fun _ => rfl, fun _ => rfl, fun s' K' _ _ hk => h2 s' K' hk⟩
theorem Loc.false (f : Fl) : Loc f fun _ _ => False := fun _ _ h => h.elim
theorem aBox_loc (t : Nat) (d : D) : Loc ⟨true, true, false⟩ fun s K => aBox tb t d s K := by
  unfold aBox
  split
  · intro s K h
    refine ⟨_, _, h, (fun h => by cases h), fun _ => rfl, fun s' K' h1 _ hk => ?_⟩
    have h2 := h1 rfl
    simp only [h2]
    exact hk
  · exact .false _
theorem aAlloc_loc (t : Nat) : Loc ⟨true, true, false⟩ fun s K => aAlloc tb t s K := by
  unfold aAlloc
  split
  · split
    · split
      · intro s K h
        refine ⟨_, _, h, (fun h => by cases h), fun _ => rfl, fun s' K' h1 _ hk => ?_⟩
        have h2 := h1 rfl
        simp only [h2]
        exact hk
      · exact .false _
    · exact .false _
  · exact .false _
theorem aStore_loc (t : Nat) (x y : D) : Loc ⟨true, true, false⟩ fun s K => aStore tb t x y s K := by
  intro s K h
  unfold aStore at h ⊢
  split at h
  · rename_i ti nm off cs ht hy
    split at h
    · rename_i ds hs
      split at h
      · rename_i hc
        refine ⟨_, _, h, (fun h => by cases h), fun _ => rfl, fun s' K' h1 _ hk => ?_⟩
        have h2 := h1 rfl
        rw [← h2] at hs
        simp only [hs]
        rw [if_pos hc, h2]
        exact hk
      · exact h.elim
    · exact h.elim
  · exact h.elim
theorem aApp_loc (t : Nat) (x y : D) : Loc ⟨false, false, true⟩ fun s K => aApp tb t x y s K := by
  intro s K h
  unfold aApp at h ⊢
  split at h
  · rename_i ti full fs ht hy
    split at h
    · rename_i e hd
      split at h
      · rename_i te he
        split at h
        · rename_i hz
          split at h
          · rename_i tk e' sz es
            split at h
            · rename_i he'
              obtain ⟨h1, h2, h3⟩ := h
              refine ⟨_, _, h3, fun _ => rfl, (fun h => by cases h), fun s' K' _ k2 hk => ?_⟩
              have k3 := k2 rfl
              simp only [hz, and_self, if_true, he', k3]
              exact ⟨h1, h2, hk⟩
            · exact h.elim
          · rename_i es
            obtain ⟨h0, h1, h2, h3⟩ := h
            refine ⟨_, _, h3, fun _ => rfl, (fun h => by cases h), fun s' K' _ k2 hk => ?_⟩
            have k3 := k2 rfl
            simp only [hz, and_self, if_true, k3]
            exact ⟨h0, h1, h2, hk⟩
          · exact h.elim
        · exact h.elim
      · exact h.elim
    · exact h.elim
  · exact h.elim
theorem aAppS_loc (t t' : Nat) (x y : D) : Loc ⟨false, false, true⟩ fun s K => aAppS tb t t' x y s K := by
  intro s K h
  unfold aAppS at h ⊢
  split at h
  · rename_i ti tu z ht htu
    split at h
    · rename_i e hd hdu
      split at h
      · rename_i te he
        split at h
        · rename_i hz
          split at h
          · rename_i tk e' sz es
            split at h
            · rename_i he'
              obtain ⟨h1, h2, h3⟩ := h
              refine ⟨_, _, h3, fun _ => rfl, (fun h => by cases h), fun s' K' _ k2 hk => ?_⟩
              have k3 := k2 rfl
              dsimp only
              rw [if_pos hz, if_pos he', k3]
              exact ⟨h1, h2, hk⟩
            · exact h.elim
          · rename_i es
            obtain ⟨h0, h1, h2, h3⟩ := h
            refine ⟨_, _, h3, fun _ => rfl, (fun h => by cases h), fun s' K' _ k2 hk => ?_⟩
            have k3 := k2 rfl
            dsimp only
            rw [if_pos hz, k3]
            exact ⟨h0, h1, h2, hk⟩
          · exact h.elim
        · exact h.elim
      · exact h.elim
    · exact h.elim
  · exact h.elim
theorem aCall_loc {P : Program} (c : Call) (e : Operand → Option D) : Loc ⟨true, false, false⟩ fun s K => aCall false P c e s K := by
  intro s K h
  unfold aCall at h ⊢
  split at h
  · split at h
    · obtain ⟨r, s', hc, hK⟩ := h
      obtain ⟨rfl, hq⟩ := hc.quiet rfl
      refine ⟨r, s', hK, fun _ => rfl, fun _ => rfl, fun s2 K' h1 _ hk => ?_⟩
      have h2 : s2.heap = s'.heap := h1 rfl
      have h3 : s2 = ⟨s'.heap, s2.live⟩ := by rw [← h2]
      refine ⟨r, s2, ⟨by rw [h3]; exact hq _, fun _ => ⟨rfl, fun live => by rw [h2]; exact hq live⟩⟩, hk⟩
    · cases h.1
    · exact h.elim
  · exact h.elim
theorem aStep_loc {P : Program} (o : Op) (e : Operand → Option D) : Loc (flags o) fun s K => aStep false P tb o e s K := by
  unfold aStep
  split
  · rename_i c hc
    have hf : flags o = ⟨true, false, false⟩ := by
      cases o with
      | call c' =>
        simp only [isCall] at hc
        split at hc
        · rename_i f hf; simp [flags, hf]
        · cases hc
      | _ => cases hc
    rw [hf]
    exact aCall_loc c e
  · rename_i hc
    unfold aOp
    split
    · split
      · exact (Pur.ret _).loc _
      · exact .false _
    · split
      · exact (Pur.ret _).loc _
      · exact .false _
    · split
      · split
        · exact (Pur.ret _).loc _
        · exact .false _
      · split
        · exact (Pur.ret _).loc _
        · exact .false _
      · exact .false _
    · exact aAlloc_loc _
    · split
      · exact aBox_loc _ _
      · exact .false _
    · exact (aBuild_pur _ _).loc _
    · exact (aBuildSlice_pur _ _ _).loc _
    · split
      · exact (aMakeSlice_pur _ _ _).loc _
      · exact .false _
    · split
      · exact (aLoadV_pur _ _).loc _
      · intro s K h
        split at h
        · rename_i ds hs
          obtain ⟨d, h1, h2⟩ := aLoadD_pur _ _ s K h
          refine ⟨d, s, h1, fun _ => rfl, fun _ => rfl, fun s' K' k1 _ hk => ?_⟩
          rw [← k1 rfl] at hs
          simp only [hs]
          exact h2 s' K' hk
        · exact h.elim
      · exact .false _
    · split
      · exact aStore_loc _ _ _
      · exact .false _
    · split
      · exact (aNilCheck_pur _).loc _
      · exact .false _
    · split
      · exact (aBinOp_pur _ _ _ _).loc _
      · exact .false _
    · split
      · exact (aUn_pur _ _).loc _
      · exact .false _
    · split
      · exact (aConv_pur _ _ _).loc _
      · exact .false _
    · exact (aMakeFunc_pur _ _ _).loc _
    · split
      · exact (aSlice_pur _ _ _ _).loc _
      · exact .false _
    · split
      · exact (aFieldAddr_pur _ _ _).loc _
      · exact .false _
    · split
      · exact (aField_pur _ _ _).loc _
      · exact .false _
    · split
      · exact (aIndexAddr_pur _ _ _).loc _
      · exact .false _
    · split
      · exact (aIndex_pur _ _ _).loc _
      · exact .false _
    · split
      · exact (aExtract_pur _ _).loc _
      · exact .false _
    · split
      · rename_i hcal _ _
        simp only [flags, hcal]
        exact (aLen_pur _ _).loc _
      · rename_i hcal _ _
        simp only [flags, hcal]
        split
        · exact aApp_loc _ _ _
        · exact aAppS_loc _ _ _ _
      · rename_i hcal _
        simp only [flags, hcal]
        exact (aMinMax_pur _ _ _).loc _
      · rename_i hcal _
        simp only [flags, hcal]
        exact (aMinMax_pur _ _ _).loc _
      · rename_i hcal _
        simp only [flags, hcal]
        exact (aMinMax3_pur _ _ _ _).loc _
      · exact .false _
    · exact .false _
end
end Go.Proofs.Ytlhjieapkcnghaa
