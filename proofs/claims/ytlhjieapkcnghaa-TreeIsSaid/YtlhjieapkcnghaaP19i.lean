/- Chapter 19 in plain terms: law TreeIs. -/
import Derived.Test.YtlhjieapkcnghaaP19g
import Derived.Test.YtlhjieapkcnghaaP02c
namespace Go.Proofs.Ytlhjieapkcnghaa
open Go.RowKit

def rngN (x : api_Node) : Prop := -9223372036854775808 ≤ x.N ∧ x.N ≤ 9223372036854775807
def KeepsN (g : List api_Node → Nat → List api_Node × Nat) : Prop := ∀ (l : List api_Node) (n : Nat), allL rngN l → allL rngN (g l n).1
theorem lightG_rng {g : List api_Node → Nat → List api_Node × Nat} (hg : KeepsN g) : KeepsN (lightG g) := fun l => by
  induction l with
  | nil => intro n _; simp [lightG, allL]
  | cons x r ih =>
    intro n h
    rw [allL, allN_eq] at h
    obtain ⟨⟨hq, h1, h2, h3⟩, h4⟩ := h
    unfold lightG
    split
    · simp [allL]
    · rw [allL, allN_eq]
      exact ⟨⟨hq, hg _ _ h1, hg _ _ h2, hg _ _ h3⟩, ih _ h4⟩
theorem lightP_rng : ∀ d, KeepsN (lightP d)
  | 0 => fun l n _ => by simp [lightP, allL]
  | d + 1 => lightG_rng (lightP_rng d)
theorem okT_light (x : api_Node) (h1 : x.Name.length ≤ 40) (h2 : x.Text.length ≤ 60) (h3 : rngN x) : okT x := by
  refine ⟨by omega, by omega, h3, fun _ => ?_⟩
  obtain ⟨q, q1, q2, -⟩ := quoteBoth x.Text (by omega)
  exact ⟨q, q1, q2⟩
theorem light_ok (l : List api_Node) (h : allL rngN l) : allL okT (lightP 15 l 60).1 := by
  obtain ⟨h1, -, h3⟩ := light_small l
  exact sms_all okT_light 60 _ h1 h3 (lightP_rng 15 l 60 h)
theorem lawTreeIs (l : List api_Node) (s : List UInt8) (h : allL rngN l) (_hs : s.length ≤ 9223372036854775807) : nunciolaw19_TreeIs l s = some true := by
  obtain ⟨h1, h2, -⟩ := light_small l
  have ho := light_ok l h
  obtain ⟨hd, hc⟩ := rDC 60 _ (by omega) h1
  have hcut : cutL s 0 (if 40 < (s.length : Int) then 40 else (s.length : Int)) = some (s.take 40) := cutMin s 40
  have hlen : (s.take 40).length < 9223372036854775807 := by rw [List.length_take]; omega
  rw [nunciolaw19_TreeIs, light_some, hcut]
  simp only [bind_some', tIs _ (by omega : nns (lightP 15 l 60).1 ≤ 800000000) ho, rIs _ (by omega : nns (lightP 15 l 60).1 ≤ 800000000) ho, tDeep _ (by omega : nns (lightP 15 l 60).1 ≤ 900000000), hd, tCount _ (by omega : nns (lightP 15 l 60).1 ≤ 900000000), hc, tName _ hlen, rName _ hlen, beq_self_eq_true, if_true, awake19]
end Go.Proofs.Ytlhjieapkcnghaa
