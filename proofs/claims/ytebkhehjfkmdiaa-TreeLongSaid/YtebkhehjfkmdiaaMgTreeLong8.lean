/- The proof's texts, part 8 of 10: the walks by a logic in which data are by value, the plain laws, and at the end the law, for every input. -/
import Derived.Test.YtebkhehjfkmdiaaMgTreeLong7

section
set_option linter.unusedVariables false
set_option linter.unusedSimpArgs false
namespace Go.Proofs.Ytebkhehjfkmdiaa
open Go.RowKit

set_option maxRecDepth 100000 in
set_option maxHeartbeats 4000000 in
theorem R19_bare_ok : ∀ (p0 : api_Node) (p1 : Bool) (p2 : Bool) (p3 : Bool) (p4 : Bool) (p5 : Bool) (o : Bool), R19_bare p0 p1 p2 p3 p4 p5 = some o → PCall Try.prog 71 [.agg [iV p0.Kind, sV p0.Name, sV p0.Text, iV p0.N, .sl false (p0.L.map c_api_Node), .sl false (p0.Then.map c_api_Node), .sl false (p0.Else.map c_api_Node)], bV p1, bV p2, bV p3, bV p4, bV p5] (t_R19_bare o) := by
  intro p0 p1 p2 p3 p4 p5 o h
  unfold R19_bare at h
  refine PCall.ofB mixed tbOk R19_bare_lv Try.func71 rfl (by kernel_rfl) (Nat.le_of_ble_eq_true rfl) ?_
  refine st_bind h (fun o1 ho hk => ?_)
  refine Exists.intro (JP1 _ _ o1 .normal (R19_bare_J0_0 p0)) (And.intro ?_ (join1 ?_))
  · have h := ho
    refine st_test h (fun hb h => ?_) (fun hb h => ?_)
    · refine bT ?_
      refine st_test h (fun hb h => ?_) (fun hb h => ?_)
      · refine bT ?_
        refine st_test h (fun hb h => ?_) (fun hb h => ?_)
        · refine bT ?_
          refine st_test h (fun hb h => ?_) (fun hb h => ?_)
          · refine bT ?_
            refine st_test h (fun hb h => ?_) (fun hb h => ?_)
            · refine bT ?_
              refine st_test h (fun hb h => ?_) (fun hb h => ?_)
              · refine JP1.a h ?_
                exact Le.tow 1 0 rfl (.cons rfl (.refl _) (.nil)) (.refl _) rfl
              · refine view (lenMap _ _) rfl ?_
                refine JP1.a h ?_
                exact Le.tow 1 0 rfl (.cons rfl (.refl _) (.nil)) (.refl _) rfl
            · refine view (lenMap _ _) rfl ?_
              refine st_test h (fun hb h => ?_) (fun hb h => ?_)
              · refine st_test h (fun hb h => ?_) (fun hb h => ?_)
                · refine JP1.a h ?_
                  exact Le.tow 1 0 rfl (.cons rfl (.refl _) (.nil)) (.refl _) rfl
                · refine view (lenMap _ _) rfl ?_
                  refine JP1.a h ?_
                  exact Le.tow 1 0 rfl (.cons rfl (.refl _) (.nil)) (.refl _) rfl
              · refine JP1.a h ?_
                exact Le.tow 1 0 rfl (.cons rfl (.refl _) (.nil)) (.refl _) rfl
          · refine view (lenMap _ _) rfl ?_
            refine st_test h (fun hb h => ?_) (fun hb h => ?_)
            · refine st_test h (fun hb h => ?_) (fun hb h => ?_)
              · refine bT ?_
                refine st_test h (fun hb h => ?_) (fun hb h => ?_)
                · refine JP1.a h ?_
                  exact Le.tow 1 0 rfl (.cons rfl (.refl _) (.nil)) (.refl _) rfl
                · refine view (lenMap _ _) rfl ?_
                  refine JP1.a h ?_
                  exact Le.tow 1 0 rfl (.cons rfl (.refl _) (.nil)) (.refl _) rfl
              · refine view (lenMap _ _) rfl ?_
                refine st_test h (fun hb h => ?_) (fun hb h => ?_)
                · refine st_test h (fun hb h => ?_) (fun hb h => ?_)
                  · refine JP1.a h ?_
                    exact Le.tow 1 0 rfl (.cons rfl (.refl _) (.nil)) (.refl _) rfl
                  · refine view (lenMap _ _) rfl ?_
                    refine JP1.a h ?_
                    exact Le.tow 1 0 rfl (.cons rfl (.refl _) (.nil)) (.refl _) rfl
                · refine JP1.a h ?_
                  exact Le.tow 1 0 rfl (.cons rfl (.refl _) (.nil)) (.refl _) rfl
            · refine bF ?_
              refine JP1.a h ?_
              exact Le.tow 1 0 rfl (.cons rfl (.refl _) (.nil)) (.refl _) rfl
        · refine st_test h (fun hb h => ?_) (fun hb h => ?_)
          · refine st_test h (fun hb h => ?_) (fun hb h => ?_)
            · refine bT ?_
              refine st_test h (fun hb h => ?_) (fun hb h => ?_)
              · refine bT ?_
                refine st_test h (fun hb h => ?_) (fun hb h => ?_)
                · refine JP1.a h ?_
                  exact Le.tow 1 0 rfl (.cons rfl (.refl _) (.nil)) (.refl _) rfl
                · refine view (lenMap _ _) rfl ?_
                  refine JP1.a h ?_
                  exact Le.tow 1 0 rfl (.cons rfl (.refl _) (.nil)) (.refl _) rfl
              · refine view (lenMap _ _) rfl ?_
                refine st_test h (fun hb h => ?_) (fun hb h => ?_)
                · refine st_test h (fun hb h => ?_) (fun hb h => ?_)
                  · refine JP1.a h ?_
                    exact Le.tow 1 0 rfl (.cons rfl (.refl _) (.nil)) (.refl _) rfl
                  · refine view (lenMap _ _) rfl ?_
                    refine JP1.a h ?_
                    exact Le.tow 1 0 rfl (.cons rfl (.refl _) (.nil)) (.refl _) rfl
                · refine JP1.a h ?_
                  exact Le.tow 1 0 rfl (.cons rfl (.refl _) (.nil)) (.refl _) rfl
            · refine view (lenMap _ _) rfl ?_
              refine st_test h (fun hb h => ?_) (fun hb h => ?_)
              · refine st_test h (fun hb h => ?_) (fun hb h => ?_)
                · refine bT ?_
                  refine st_test h (fun hb h => ?_) (fun hb h => ?_)
                  · refine JP1.a h ?_
                    exact Le.tow 1 0 rfl (.cons rfl (.refl _) (.nil)) (.refl _) rfl
                  · refine view (lenMap _ _) rfl ?_
                    refine JP1.a h ?_
                    exact Le.tow 1 0 rfl (.cons rfl (.refl _) (.nil)) (.refl _) rfl
                · refine view (lenMap _ _) rfl ?_
                  refine st_test h (fun hb h => ?_) (fun hb h => ?_)
                  · refine st_test h (fun hb h => ?_) (fun hb h => ?_)
                    · refine JP1.a h ?_
                      exact Le.tow 1 0 rfl (.cons rfl (.refl _) (.nil)) (.refl _) rfl
                    · refine view (lenMap _ _) rfl ?_
                      refine JP1.a h ?_
                      exact Le.tow 1 0 rfl (.cons rfl (.refl _) (.nil)) (.refl _) rfl
                  · refine JP1.a h ?_
                    exact Le.tow 1 0 rfl (.cons rfl (.refl _) (.nil)) (.refl _) rfl
              · refine bF ?_
                refine JP1.a h ?_
                exact Le.tow 1 0 rfl (.cons rfl (.refl _) (.nil)) (.refl _) rfl
          · refine bF ?_
            refine bF ?_
            refine JP1.a h ?_
            exact Le.tow 1 0 rfl (.cons rfl (.refl _) (.nil)) (.refl _) rfl
      · refine st_test h (fun hb h => ?_) (fun hb h => ?_)
        · refine st_test h (fun hb h => ?_) (fun hb h => ?_)
          · refine bT ?_
            refine st_test h (fun hb h => ?_) (fun hb h => ?_)
            · refine bT ?_
              refine st_test h (fun hb h => ?_) (fun hb h => ?_)
              · refine bT ?_
                refine st_test h (fun hb h => ?_) (fun hb h => ?_)
                · refine JP1.a h ?_
                  exact Le.tow 1 0 rfl (.cons rfl (.refl _) (.nil)) (.refl _) rfl
                · refine view (lenMap _ _) rfl ?_
                  refine JP1.a h ?_
                  exact Le.tow 1 0 rfl (.cons rfl (.refl _) (.nil)) (.refl _) rfl
              · refine view (lenMap _ _) rfl ?_
                refine st_test h (fun hb h => ?_) (fun hb h => ?_)
                · refine st_test h (fun hb h => ?_) (fun hb h => ?_)
                  · refine JP1.a h ?_
                    exact Le.tow 1 0 rfl (.cons rfl (.refl _) (.nil)) (.refl _) rfl
                  · refine view (lenMap _ _) rfl ?_
                    refine JP1.a h ?_
                    exact Le.tow 1 0 rfl (.cons rfl (.refl _) (.nil)) (.refl _) rfl
                · refine JP1.a h ?_
                  exact Le.tow 1 0 rfl (.cons rfl (.refl _) (.nil)) (.refl _) rfl
            · refine view (lenMap _ _) rfl ?_
              refine st_test h (fun hb h => ?_) (fun hb h => ?_)
              · refine st_test h (fun hb h => ?_) (fun hb h => ?_)
                · refine bT ?_
                  refine st_test h (fun hb h => ?_) (fun hb h => ?_)
                  · refine JP1.a h ?_
                    exact Le.tow 1 0 rfl (.cons rfl (.refl _) (.nil)) (.refl _) rfl
                  · refine view (lenMap _ _) rfl ?_
                    refine JP1.a h ?_
                    exact Le.tow 1 0 rfl (.cons rfl (.refl _) (.nil)) (.refl _) rfl
                · refine view (lenMap _ _) rfl ?_
                  refine st_test h (fun hb h => ?_) (fun hb h => ?_)
                  · refine st_test h (fun hb h => ?_) (fun hb h => ?_)
                    · refine JP1.a h ?_
                      exact Le.tow 1 0 rfl (.cons rfl (.refl _) (.nil)) (.refl _) rfl
                    · refine view (lenMap _ _) rfl ?_
                      refine JP1.a h ?_
                      exact Le.tow 1 0 rfl (.cons rfl (.refl _) (.nil)) (.refl _) rfl
                  · refine JP1.a h ?_
                    exact Le.tow 1 0 rfl (.cons rfl (.refl _) (.nil)) (.refl _) rfl
              · refine bF ?_
                refine JP1.a h ?_
                exact Le.tow 1 0 rfl (.cons rfl (.refl _) (.nil)) (.refl _) rfl
          · refine st_test h (fun hb h => ?_) (fun hb h => ?_)
            · refine st_test h (fun hb h => ?_) (fun hb h => ?_)
              · refine bT ?_
                refine st_test h (fun hb h => ?_) (fun hb h => ?_)
                · refine bT ?_
                  refine st_test h (fun hb h => ?_) (fun hb h => ?_)
                  · refine JP1.a h ?_
                    exact Le.tow 1 0 rfl (.cons rfl (.refl _) (.nil)) (.refl _) rfl
                  · refine view (lenMap _ _) rfl ?_
                    refine JP1.a h ?_
                    exact Le.tow 1 0 rfl (.cons rfl (.refl _) (.nil)) (.refl _) rfl
                · refine view (lenMap _ _) rfl ?_
                  refine st_test h (fun hb h => ?_) (fun hb h => ?_)
                  · refine st_test h (fun hb h => ?_) (fun hb h => ?_)
                    · refine JP1.a h ?_
                      exact Le.tow 1 0 rfl (.cons rfl (.refl _) (.nil)) (.refl _) rfl
                    · refine view (lenMap _ _) rfl ?_
                      refine JP1.a h ?_
                      exact Le.tow 1 0 rfl (.cons rfl (.refl _) (.nil)) (.refl _) rfl
                  · refine JP1.a h ?_
                    exact Le.tow 1 0 rfl (.cons rfl (.refl _) (.nil)) (.refl _) rfl
              · refine view (lenMap _ _) rfl ?_
                refine st_test h (fun hb h => ?_) (fun hb h => ?_)
                · refine st_test h (fun hb h => ?_) (fun hb h => ?_)
                  · refine bT ?_
                    refine st_test h (fun hb h => ?_) (fun hb h => ?_)
                    · refine JP1.a h ?_
                      exact Le.tow 1 0 rfl (.cons rfl (.refl _) (.nil)) (.refl _) rfl
                    · refine view (lenMap _ _) rfl ?_
                      refine JP1.a h ?_
                      exact Le.tow 1 0 rfl (.cons rfl (.refl _) (.nil)) (.refl _) rfl
                  · refine view (lenMap _ _) rfl ?_
                    refine st_test h (fun hb h => ?_) (fun hb h => ?_)
                    · refine st_test h (fun hb h => ?_) (fun hb h => ?_)
                      · refine JP1.a h ?_
                        exact Le.tow 1 0 rfl (.cons rfl (.refl _) (.nil)) (.refl _) rfl
                      · refine view (lenMap _ _) rfl ?_
                        refine JP1.a h ?_
                        exact Le.tow 1 0 rfl (.cons rfl (.refl _) (.nil)) (.refl _) rfl
                    · refine JP1.a h ?_
                      exact Le.tow 1 0 rfl (.cons rfl (.refl _) (.nil)) (.refl _) rfl
                · refine bF ?_
                  refine JP1.a h ?_
                  exact Le.tow 1 0 rfl (.cons rfl (.refl _) (.nil)) (.refl _) rfl
            · refine bF ?_
              refine bF ?_
              refine JP1.a h ?_
              exact Le.tow 1 0 rfl (.cons rfl (.refl _) (.nil)) (.refl _) rfl
        · refine bF ?_
          refine bF ?_
          refine bF ?_
          refine JP1.a h ?_
          exact Le.tow 1 0 rfl (.cons rfl (.refl _) (.nil)) (.refl _) rfl
    · refine st_test h (fun hb h => ?_) (fun hb h => ?_)
      · refine st_test h (fun hb h => ?_) (fun hb h => ?_)
        · refine bT ?_
          refine st_test h (fun hb h => ?_) (fun hb h => ?_)
          · refine bT ?_
            refine st_test h (fun hb h => ?_) (fun hb h => ?_)
            · refine bT ?_
              refine st_test h (fun hb h => ?_) (fun hb h => ?_)
              · refine bT ?_
                refine st_test h (fun hb h => ?_) (fun hb h => ?_)
                · refine JP1.a h ?_
                  exact Le.tow 1 0 rfl (.cons rfl (.refl _) (.nil)) (.refl _) rfl
                · refine view (lenMap _ _) rfl ?_
                  refine JP1.a h ?_
                  exact Le.tow 1 0 rfl (.cons rfl (.refl _) (.nil)) (.refl _) rfl
              · refine view (lenMap _ _) rfl ?_
                refine st_test h (fun hb h => ?_) (fun hb h => ?_)
                · refine st_test h (fun hb h => ?_) (fun hb h => ?_)
                  · refine JP1.a h ?_
                    exact Le.tow 1 0 rfl (.cons rfl (.refl _) (.nil)) (.refl _) rfl
                  · refine view (lenMap _ _) rfl ?_
                    refine JP1.a h ?_
                    exact Le.tow 1 0 rfl (.cons rfl (.refl _) (.nil)) (.refl _) rfl
                · refine JP1.a h ?_
                  exact Le.tow 1 0 rfl (.cons rfl (.refl _) (.nil)) (.refl _) rfl
            · refine view (lenMap _ _) rfl ?_
              refine st_test h (fun hb h => ?_) (fun hb h => ?_)
              · refine st_test h (fun hb h => ?_) (fun hb h => ?_)
                · refine bT ?_
                  refine st_test h (fun hb h => ?_) (fun hb h => ?_)
                  · refine JP1.a h ?_
                    exact Le.tow 1 0 rfl (.cons rfl (.refl _) (.nil)) (.refl _) rfl
                  · refine view (lenMap _ _) rfl ?_
                    refine JP1.a h ?_
                    exact Le.tow 1 0 rfl (.cons rfl (.refl _) (.nil)) (.refl _) rfl
                · refine view (lenMap _ _) rfl ?_
                  refine st_test h (fun hb h => ?_) (fun hb h => ?_)
                  · refine st_test h (fun hb h => ?_) (fun hb h => ?_)
                    · refine JP1.a h ?_
                      exact Le.tow 1 0 rfl (.cons rfl (.refl _) (.nil)) (.refl _) rfl
                    · refine view (lenMap _ _) rfl ?_
                      refine JP1.a h ?_
                      exact Le.tow 1 0 rfl (.cons rfl (.refl _) (.nil)) (.refl _) rfl
                  · refine JP1.a h ?_
                    exact Le.tow 1 0 rfl (.cons rfl (.refl _) (.nil)) (.refl _) rfl
              · refine bF ?_
                refine JP1.a h ?_
                exact Le.tow 1 0 rfl (.cons rfl (.refl _) (.nil)) (.refl _) rfl
          · refine st_test h (fun hb h => ?_) (fun hb h => ?_)
            · refine st_test h (fun hb h => ?_) (fun hb h => ?_)
              · refine bT ?_
                refine st_test h (fun hb h => ?_) (fun hb h => ?_)
                · refine bT ?_
                  refine st_test h (fun hb h => ?_) (fun hb h => ?_)
                  · refine JP1.a h ?_
                    exact Le.tow 1 0 rfl (.cons rfl (.refl _) (.nil)) (.refl _) rfl
                  · refine view (lenMap _ _) rfl ?_
                    refine JP1.a h ?_
                    exact Le.tow 1 0 rfl (.cons rfl (.refl _) (.nil)) (.refl _) rfl
                · refine view (lenMap _ _) rfl ?_
                  refine st_test h (fun hb h => ?_) (fun hb h => ?_)
                  · refine st_test h (fun hb h => ?_) (fun hb h => ?_)
                    · refine JP1.a h ?_
                      exact Le.tow 1 0 rfl (.cons rfl (.refl _) (.nil)) (.refl _) rfl
                    · refine view (lenMap _ _) rfl ?_
                      refine JP1.a h ?_
                      exact Le.tow 1 0 rfl (.cons rfl (.refl _) (.nil)) (.refl _) rfl
                  · refine JP1.a h ?_
                    exact Le.tow 1 0 rfl (.cons rfl (.refl _) (.nil)) (.refl _) rfl
              · refine view (lenMap _ _) rfl ?_
                refine st_test h (fun hb h => ?_) (fun hb h => ?_)
                · refine st_test h (fun hb h => ?_) (fun hb h => ?_)
                  · refine bT ?_
                    refine st_test h (fun hb h => ?_) (fun hb h => ?_)
                    · refine JP1.a h ?_
                      exact Le.tow 1 0 rfl (.cons rfl (.refl _) (.nil)) (.refl _) rfl
                    · refine view (lenMap _ _) rfl ?_
                      refine JP1.a h ?_
                      exact Le.tow 1 0 rfl (.cons rfl (.refl _) (.nil)) (.refl _) rfl
                  · refine view (lenMap _ _) rfl ?_
                    refine st_test h (fun hb h => ?_) (fun hb h => ?_)
                    · refine st_test h (fun hb h => ?_) (fun hb h => ?_)
                      · refine JP1.a h ?_
                        exact Le.tow 1 0 rfl (.cons rfl (.refl _) (.nil)) (.refl _) rfl
                      · refine view (lenMap _ _) rfl ?_
                        refine JP1.a h ?_
                        exact Le.tow 1 0 rfl (.cons rfl (.refl _) (.nil)) (.refl _) rfl
                    · refine JP1.a h ?_
                      exact Le.tow 1 0 rfl (.cons rfl (.refl _) (.nil)) (.refl _) rfl
                · refine bF ?_
                  refine JP1.a h ?_
                  exact Le.tow 1 0 rfl (.cons rfl (.refl _) (.nil)) (.refl _) rfl
            · refine bF ?_
              refine bF ?_
              refine JP1.a h ?_
              exact Le.tow 1 0 rfl (.cons rfl (.refl _) (.nil)) (.refl _) rfl
        · refine st_test h (fun hb h => ?_) (fun hb h => ?_)
          · refine st_test h (fun hb h => ?_) (fun hb h => ?_)
            · refine bT ?_
              refine st_test h (fun hb h => ?_) (fun hb h => ?_)
              · refine bT ?_
                refine st_test h (fun hb h => ?_) (fun hb h => ?_)
                · refine bT ?_
                  refine st_test h (fun hb h => ?_) (fun hb h => ?_)
                  · refine JP1.a h ?_
                    exact Le.tow 1 0 rfl (.cons rfl (.refl _) (.nil)) (.refl _) rfl
                  · refine view (lenMap _ _) rfl ?_
                    refine JP1.a h ?_
                    exact Le.tow 1 0 rfl (.cons rfl (.refl _) (.nil)) (.refl _) rfl
                · refine view (lenMap _ _) rfl ?_
                  refine st_test h (fun hb h => ?_) (fun hb h => ?_)
                  · refine st_test h (fun hb h => ?_) (fun hb h => ?_)
                    · refine JP1.a h ?_
                      exact Le.tow 1 0 rfl (.cons rfl (.refl _) (.nil)) (.refl _) rfl
                    · refine view (lenMap _ _) rfl ?_
                      refine JP1.a h ?_
                      exact Le.tow 1 0 rfl (.cons rfl (.refl _) (.nil)) (.refl _) rfl
                  · refine JP1.a h ?_
                    exact Le.tow 1 0 rfl (.cons rfl (.refl _) (.nil)) (.refl _) rfl
              · refine view (lenMap _ _) rfl ?_
                refine st_test h (fun hb h => ?_) (fun hb h => ?_)
                · refine st_test h (fun hb h => ?_) (fun hb h => ?_)
                  · refine bT ?_
                    refine st_test h (fun hb h => ?_) (fun hb h => ?_)
                    · refine JP1.a h ?_
                      exact Le.tow 1 0 rfl (.cons rfl (.refl _) (.nil)) (.refl _) rfl
                    · refine view (lenMap _ _) rfl ?_
                      refine JP1.a h ?_
                      exact Le.tow 1 0 rfl (.cons rfl (.refl _) (.nil)) (.refl _) rfl
                  · refine view (lenMap _ _) rfl ?_
                    refine st_test h (fun hb h => ?_) (fun hb h => ?_)
                    · refine st_test h (fun hb h => ?_) (fun hb h => ?_)
                      · refine JP1.a h ?_
                        exact Le.tow 1 0 rfl (.cons rfl (.refl _) (.nil)) (.refl _) rfl
                      · refine view (lenMap _ _) rfl ?_
                        refine JP1.a h ?_
                        exact Le.tow 1 0 rfl (.cons rfl (.refl _) (.nil)) (.refl _) rfl
                    · refine JP1.a h ?_
                      exact Le.tow 1 0 rfl (.cons rfl (.refl _) (.nil)) (.refl _) rfl
                · refine bF ?_
                  refine JP1.a h ?_
                  exact Le.tow 1 0 rfl (.cons rfl (.refl _) (.nil)) (.refl _) rfl
            · refine st_test h (fun hb h => ?_) (fun hb h => ?_)
              · refine st_test h (fun hb h => ?_) (fun hb h => ?_)
                · refine bT ?_
                  refine st_test h (fun hb h => ?_) (fun hb h => ?_)
                  · refine bT ?_
                    refine st_test h (fun hb h => ?_) (fun hb h => ?_)
                    · refine JP1.a h ?_
                      exact Le.tow 1 0 rfl (.cons rfl (.refl _) (.nil)) (.refl _) rfl
                    · refine view (lenMap _ _) rfl ?_
                      refine JP1.a h ?_
                      exact Le.tow 1 0 rfl (.cons rfl (.refl _) (.nil)) (.refl _) rfl
                  · refine view (lenMap _ _) rfl ?_
                    refine st_test h (fun hb h => ?_) (fun hb h => ?_)
                    · refine st_test h (fun hb h => ?_) (fun hb h => ?_)
                      · refine JP1.a h ?_
                        exact Le.tow 1 0 rfl (.cons rfl (.refl _) (.nil)) (.refl _) rfl
                      · refine view (lenMap _ _) rfl ?_
                        refine JP1.a h ?_
                        exact Le.tow 1 0 rfl (.cons rfl (.refl _) (.nil)) (.refl _) rfl
                    · refine JP1.a h ?_
                      exact Le.tow 1 0 rfl (.cons rfl (.refl _) (.nil)) (.refl _) rfl
                · refine view (lenMap _ _) rfl ?_
                  refine st_test h (fun hb h => ?_) (fun hb h => ?_)
                  · refine st_test h (fun hb h => ?_) (fun hb h => ?_)
                    · refine bT ?_
                      refine st_test h (fun hb h => ?_) (fun hb h => ?_)
                      · refine JP1.a h ?_
                        exact Le.tow 1 0 rfl (.cons rfl (.refl _) (.nil)) (.refl _) rfl
                      · refine view (lenMap _ _) rfl ?_
                        refine JP1.a h ?_
                        exact Le.tow 1 0 rfl (.cons rfl (.refl _) (.nil)) (.refl _) rfl
                    · refine view (lenMap _ _) rfl ?_
                      refine st_test h (fun hb h => ?_) (fun hb h => ?_)
                      · refine st_test h (fun hb h => ?_) (fun hb h => ?_)
                        · refine JP1.a h ?_
                          exact Le.tow 1 0 rfl (.cons rfl (.refl _) (.nil)) (.refl _) rfl
                        · refine view (lenMap _ _) rfl ?_
                          refine JP1.a h ?_
                          exact Le.tow 1 0 rfl (.cons rfl (.refl _) (.nil)) (.refl _) rfl
                      · refine JP1.a h ?_
                        exact Le.tow 1 0 rfl (.cons rfl (.refl _) (.nil)) (.refl _) rfl
                  · refine bF ?_
                    refine JP1.a h ?_
                    exact Le.tow 1 0 rfl (.cons rfl (.refl _) (.nil)) (.refl _) rfl
              · refine bF ?_
                refine bF ?_
                refine JP1.a h ?_
                exact Le.tow 1 0 rfl (.cons rfl (.refl _) (.nil)) (.refl _) rfl
          · refine bF ?_
            refine bF ?_
            refine bF ?_
            refine JP1.a h ?_
            exact Le.tow 1 0 rfl (.cons rfl (.refl _) (.nil)) (.refl _) rfl
      · refine bF ?_
        refine bF ?_
        refine bF ?_
        refine bF ?_
        refine JP1.a h ?_
        exact Le.tow 1 0 rfl (.cons rfl (.refl _) (.nil)) (.refl _) rfl
  · have h := hk
    refine st_ret (t := t_R19_bare) h ?_
    exact .refl _
mutual
noncomputable def R19_expr (p0 : api_Node) : Option (Bool) :=
  if (p0.Kind == 1) then
    R18_Quote p0.Text >>= fun x1 =>
    ( if x1.2 then
        R19_bare p0 false true false false false >>= fun x3 =>
        some x3
      else
        some false : Option (Bool)) >>= fun o2 =>
    some o2
  else
    if (p0.Kind == 2) then
      R19_bare p0 false false true false false >>= fun x4 =>
      some x4
    else
      if (p0.Kind == 3) then
        ( if (p0.N == 0) then
            R19_bare p0 false false true false false >>= fun x6 =>
            some x6
          else
            if (p0.N == 1) then
              R19_bare p0 false false true false false >>= fun x7 =>
              some x7
            else
              some false : Option (Bool)) >>= fun o5 =>
        some o5
      else
        if (p0.Kind == 4) then
          ( R19_Name p0.Name >>= fun x9 =>
            if x9 then
              R19_bare p0 true false false false false >>= fun x10 =>
              some x10
            else
              some false : Option (Bool)) >>= fun o8 =>
          some o8
        else
          if (p0.Kind == 5) then
            ( R18_Word p0.Name >>= fun x12 =>
              if x12 then
                if ((p0.L.length : Int) == 1) then
                  R19_exprs p0.L >>= fun x13 =>
                  if x13 then
                    R19_bare p0 true false false true false >>= fun x14 =>
                    some x14
                  else
                    some false
                else
                  some false
              else
                some false : Option (Bool)) >>= fun o11 =>
            some o11
          else
            if (p0.Kind == 6) then
              ( R19_Name p0.Name >>= fun x16 =>
                if x16 then
                  if (decide ((p0.L.length : Int) ≤ 3)) then
                    R19_exprs p0.L >>= fun x17 =>
                    if x17 then
                      R19_bare p0 true false false true false >>= fun x18 =>
                      some x18
                    else
                      some false
                  else
                    some false
                else
                  some false : Option (Bool)) >>= fun o15 =>
              some o15
            else
              if (p0.Kind == 7) then
                ( R18_Word p0.Name >>= fun x20 =>
                  if x20 then
                    R19_bare p0 true false false false false >>= fun x21 =>
                    some x21
                  else
                    some false : Option (Bool)) >>= fun o19 =>
                some o19
              else
                some false
  partial_fixpoint
noncomputable def R19_exprs (p0 : (List api_Node)) : Option (Bool) :=
  (R19_exprs_L1 p0 0) >>= fun o1 =>
  match o1 with
  | .inl y2 =>
    some true
  | .inr y3 =>
    some false
  partial_fixpoint
noncomputable def R19_exprs_L1 (p0 : (List api_Node)) (v3 : Int) : Option (Unit ⊕ Unit) :=
  if (decide (v3 < (p0.length : Int))) then
    idx p0 v3 >>= fun x4 =>
    R19_expr x4 >>= fun x5 =>
    if (!x5) then
      some (.inr ())
    else
      R19_exprs_L1 p0 (wr (v3 + 1))
  else
    some (.inl ())
  partial_fixpoint
end
set_option maxRecDepth 100000 in
set_option maxHeartbeats 4000000 in
theorem R19_expr_grp : (∀ (p0 : api_Node) (o : Bool), R19_expr p0 = some o → PCall Try.prog 82 [.agg [iV p0.Kind, sV p0.Name, sV p0.Text, iV p0.N, .sl false (p0.L.map c_api_Node), .sl false (p0.Then.map c_api_Node), .sl false (p0.Else.map c_api_Node)]] (t_R19_expr o)) ∧ (∀ (p0 : (List api_Node)) (o : Bool), R19_exprs p0 = some o → PCall Try.prog 69 [.sl false (p0.map c_api_Node)] (t_R19_exprs o)) ∧ (∀ (p0 : (List api_Node)) (v3 : Int) (o1 : Unit ⊕ Unit), R19_exprs_L1 p0 v3 = some o1 → TL (0, 0) Try.prog 16 R19_exprs_L1_c (JP2 (0, 0) 16 o1 (.exit 0) (R19_exprs_L1_x0 p0) .ret (R19_exprs_L1_x1 p0)) (R19_exprs_L1_st p0 v3)) := by
  refine R19_expr.mutual_partial_correctness _ _ _ ?_ ?_ ?_
  · intro R19_exprs' ih_R19_exprs p0 o h
    refine PCall.ofB mixed tbOk R19_expr_lv Try.func82 rfl (by kernel_rfl) (Nat.le_of_ble_eq_true rfl) ?_
    refine st_test h (fun hb h => ?_) (fun hb h => ?_)
    · refine st_call [sV p0.Text] t_R18_Quote h (fun x1 hy => (R18_Quote_ok p0.Text x1 hy)) (fun x1 hy h => ?_)
      refine st_bind h (fun o2 ho hk => ?_)
      refine Exists.intro (JP1 _ _ o2 .normal (R19_expr_J0_0 p0)) (And.intro ?_ (join1 ?_))
      · have h := ho
        refine st_test h (fun hb h => ?_) (fun hb h => ?_)
        · refine st_call [.agg [iV p0.Kind, sV p0.Name, sV p0.Text, iV p0.N, .sl false (p0.L.map c_api_Node), .sl false (p0.Then.map c_api_Node), .sl false (p0.Else.map c_api_Node)], bV false, bV true, bV false, bV false, bV false] t_R19_bare h (fun x3 hy => (R19_bare_ok p0 false true false false false x3 hy)) (fun x3 hy h => ?_)
          refine JP1.a h ?_
          exact Le.tow 1 0 rfl (.cons rfl (.refl _) (.nil)) (.refl _) rfl
        · refine JP1.a h ?_
          exact Le.tow 1 0 rfl (.cons rfl (.refl _) (.nil)) (.refl _) rfl
      · have h := hk
        refine st_ret (t := t_R19_expr) h ?_
        exact .refl _
    · refine st_test h (fun hb h => ?_) (fun hb h => ?_)
      · refine st_call [.agg [iV p0.Kind, sV p0.Name, sV p0.Text, iV p0.N, .sl false (p0.L.map c_api_Node), .sl false (p0.Then.map c_api_Node), .sl false (p0.Else.map c_api_Node)], bV false, bV false, bV true, bV false, bV false] t_R19_bare h (fun x4 hy => (R19_bare_ok p0 false false true false false x4 hy)) (fun x4 hy h => ?_)
        refine st_ret (t := t_R19_expr) h ?_
        exact .refl _
      · refine st_test h (fun hb h => ?_) (fun hb h => ?_)
        · refine st_bind h (fun o5 ho hk => ?_)
          refine Exists.intro (JP1 _ _ o5 .normal (R19_expr_J1_0 p0)) (And.intro ?_ (join1 ?_))
          · have h := ho
            refine st_test h (fun hb h => ?_) (fun hb h => ?_)
            · refine bT ?_
              refine st_call [.agg [iV p0.Kind, sV p0.Name, sV p0.Text, iV p0.N, .sl false (p0.L.map c_api_Node), .sl false (p0.Then.map c_api_Node), .sl false (p0.Else.map c_api_Node)], bV false, bV false, bV true, bV false, bV false] t_R19_bare h (fun x6 hy => (R19_bare_ok p0 false false true false false x6 hy)) (fun x6 hy h => ?_)
              refine JP1.a h ?_
              exact Le.tow 1 0 rfl (.cons rfl (.refl _) (.nil)) (.refl _) rfl
            · refine st_test h (fun hb h => ?_) (fun hb h => ?_)
              · refine st_call [.agg [iV p0.Kind, sV p0.Name, sV p0.Text, iV p0.N, .sl false (p0.L.map c_api_Node), .sl false (p0.Then.map c_api_Node), .sl false (p0.Else.map c_api_Node)], bV false, bV false, bV true, bV false, bV false] t_R19_bare h (fun x7 hy => (R19_bare_ok p0 false false true false false x7 hy)) (fun x7 hy h => ?_)
                refine JP1.a h ?_
                exact Le.tow 1 0 rfl (.cons rfl (.refl _) (.nil)) (.refl _) rfl
              · refine JP1.a h ?_
                exact Le.tow 1 0 rfl (.cons rfl (.refl _) (.nil)) (.refl _) rfl
          · have h := hk
            refine st_ret (t := t_R19_expr) h ?_
            exact .refl _
        · refine st_test h (fun hb h => ?_) (fun hb h => ?_)
          · refine st_bind h (fun o8 ho hk => ?_)
            refine Exists.intro (JP1 _ _ o8 .normal (R19_expr_J2_0 p0)) (And.intro ?_ (join1 ?_))
            · have h := ho
              refine st_call [sV p0.Name] t_R19_Name h (fun x9 hy => (R19_Name_ok p0.Name x9 hy)) (fun x9 hy h => ?_)
              refine st_test h (fun hb h => ?_) (fun hb h => ?_)
              · refine st_call [.agg [iV p0.Kind, sV p0.Name, sV p0.Text, iV p0.N, .sl false (p0.L.map c_api_Node), .sl false (p0.Then.map c_api_Node), .sl false (p0.Else.map c_api_Node)], bV true, bV false, bV false, bV false, bV false] t_R19_bare h (fun x10 hy => (R19_bare_ok p0 true false false false false x10 hy)) (fun x10 hy h => ?_)
                refine JP1.a h ?_
                exact Le.tow 1 0 rfl (.cons rfl (.refl _) (.nil)) (.refl _) rfl
              · refine JP1.a h ?_
                exact Le.tow 1 0 rfl (.cons rfl (.refl _) (.nil)) (.refl _) rfl
            · have h := hk
              refine st_ret (t := t_R19_expr) h ?_
              exact .refl _
          · refine st_test h (fun hb h => ?_) (fun hb h => ?_)
            · refine st_bind h (fun o11 ho hk => ?_)
              refine Exists.intro (JP1 _ _ o11 .normal (R19_expr_J3_0 p0)) (And.intro ?_ (join1 ?_))
              · have h := ho
                refine st_call [sV p0.Name] t_R18_Word h (fun x12 hy => (R18_Word_ok p0.Name x12 hy)) (fun x12 hy h => ?_)
                refine st_test h (fun hb h => ?_) (fun hb h => ?_)
                · refine view (lenMap _ _) rfl ?_
                  refine st_test h (fun hb h => ?_) (fun hb h => ?_)
                  · refine st_call [.sl false (p0.L.map c_api_Node)] t_R19_exprs h (fun x13 hy => (ih_R19_exprs p0.L x13 hy)) (fun x13 hy h => ?_)
                    refine st_test h (fun hb h => ?_) (fun hb h => ?_)
                    · refine st_call [.agg [iV p0.Kind, sV p0.Name, sV p0.Text, iV p0.N, .sl false (p0.L.map c_api_Node), .sl false (p0.Then.map c_api_Node), .sl false (p0.Else.map c_api_Node)], bV true, bV false, bV false, bV true, bV false] t_R19_bare h (fun x14 hy => (R19_bare_ok p0 true false false true false x14 hy)) (fun x14 hy h => ?_)
                      refine JP1.a h ?_
                      exact Le.tow 1 0 rfl (.cons rfl (.refl _) (.nil)) (.refl _) rfl
                    · refine JP1.a h ?_
                      exact Le.tow 1 0 rfl (.cons rfl (.refl _) (.nil)) (.refl _) rfl
                  · refine bF ?_
                    refine JP1.a h ?_
                    exact Le.tow 1 0 rfl (.cons rfl (.refl _) (.nil)) (.refl _) rfl
                · refine bF ?_
                  refine bF ?_
                  refine JP1.a h ?_
                  exact Le.tow 1 0 rfl (.cons rfl (.refl _) (.nil)) (.refl _) rfl
              · have h := hk
                refine st_ret (t := t_R19_expr) h ?_
                exact .refl _
            · refine st_test h (fun hb h => ?_) (fun hb h => ?_)
              · refine st_bind h (fun o15 ho hk => ?_)
                refine Exists.intro (JP1 _ _ o15 .normal (R19_expr_J4_0 p0)) (And.intro ?_ (join1 ?_))
                · have h := ho
                  refine st_call [sV p0.Name] t_R19_Name h (fun x16 hy => (R19_Name_ok p0.Name x16 hy)) (fun x16 hy h => ?_)
                  refine st_test h (fun hb h => ?_) (fun hb h => ?_)
                  · refine view (lenMap _ _) rfl ?_
                    refine st_test h (fun hb h => ?_) (fun hb h => ?_)
                    · refine st_call [.sl false (p0.L.map c_api_Node)] t_R19_exprs h (fun x17 hy => (ih_R19_exprs p0.L x17 hy)) (fun x17 hy h => ?_)
                      refine st_test h (fun hb h => ?_) (fun hb h => ?_)
                      · refine st_call [.agg [iV p0.Kind, sV p0.Name, sV p0.Text, iV p0.N, .sl false (p0.L.map c_api_Node), .sl false (p0.Then.map c_api_Node), .sl false (p0.Else.map c_api_Node)], bV true, bV false, bV false, bV true, bV false] t_R19_bare h (fun x18 hy => (R19_bare_ok p0 true false false true false x18 hy)) (fun x18 hy h => ?_)
                        refine JP1.a h ?_
                        exact Le.tow 1 0 rfl (.cons rfl (.refl _) (.nil)) (.refl _) rfl
                      · refine JP1.a h ?_
                        exact Le.tow 1 0 rfl (.cons rfl (.refl _) (.nil)) (.refl _) rfl
                    · refine bF ?_
                      refine JP1.a h ?_
                      exact Le.tow 1 0 rfl (.cons rfl (.refl _) (.nil)) (.refl _) rfl
                  · refine bF ?_
                    refine bF ?_
                    refine JP1.a h ?_
                    exact Le.tow 1 0 rfl (.cons rfl (.refl _) (.nil)) (.refl _) rfl
                · have h := hk
                  refine st_ret (t := t_R19_expr) h ?_
                  exact .refl _
              · refine st_test h (fun hb h => ?_) (fun hb h => ?_)
                · refine st_bind h (fun o19 ho hk => ?_)
                  refine Exists.intro (JP1 _ _ o19 .normal (R19_expr_J5_0 p0)) (And.intro ?_ (join1 ?_))
                  · have h := ho
                    refine st_call [sV p0.Name] t_R18_Word h (fun x20 hy => (R18_Word_ok p0.Name x20 hy)) (fun x20 hy h => ?_)
                    refine st_test h (fun hb h => ?_) (fun hb h => ?_)
                    · refine st_call [.agg [iV p0.Kind, sV p0.Name, sV p0.Text, iV p0.N, .sl false (p0.L.map c_api_Node), .sl false (p0.Then.map c_api_Node), .sl false (p0.Else.map c_api_Node)], bV true, bV false, bV false, bV false, bV false] t_R19_bare h (fun x21 hy => (R19_bare_ok p0 true false false false false x21 hy)) (fun x21 hy h => ?_)
                      refine JP1.a h ?_
                      exact Le.tow 1 0 rfl (.cons rfl (.refl _) (.nil)) (.refl _) rfl
                    · refine JP1.a h ?_
                      exact Le.tow 1 0 rfl (.cons rfl (.refl _) (.nil)) (.refl _) rfl
                  · have h := hk
                    refine st_ret (t := t_R19_expr) h ?_
                    exact .refl _
                · refine st_ret (t := t_R19_expr) h ?_
                  exact .refl _
  · intro R19_exprs_L1' ih_R19_exprs_L1 p0 o h
    refine PCall.ofB mixed tbOk R19_exprs_lv Try.func69 rfl (by kernel_rfl) (Nat.le_of_ble_eq_true rfl) ?_
    refine st_bind h (fun o1 ho hk => ?_)
    refine Exists.intro (JP2 _ _ o1 (.exit 0) (R19_exprs_L1_x0 p0) .ret (R19_exprs_L1_x1 p0)) (And.intro (T_le (τ := R19_exprs_L1_st p0 0) ?_ (TL.loop (ih_R19_exprs_L1 p0 0 o1 ho))) (join2 (fun y2 hy => ?_) (fun y3 hy => ?_)))
    · exact Le.tow 0 0 rfl (.cons rfl (.refl _) (.cons rfl (.refl _) (.nil))) (.refl _) rfl
    · have h := (by rw [hy] at hk; exact hk)
      refine st_ret (t := t_R19_exprs) h ?_
      exact .refl _
    · have h := (by rw [hy] at hk; exact hk)
      refine st_ret (t := t_R19_exprs) h ?_
      exact .refl _
  · intro R19_expr' R19_exprs_L1' ih_R19_expr ih_R19_exprs_L1 p0 v3 o1 h
    refine TL.round (bwp_sound mixed tbOk (lv := R19_exprs_lv) _ _ _ ?_)
    refine view (lenMap _ _) rfl ?_
    refine st_test h (fun hb h => ?_) (fun hb h => ?_)
    · refine st_idx (l := p0) (c := c_api_Node) (c' := l_api_Node) h c_api_Node_eq (fun _ => rfl) (by decide) (fun x4 hi h => ?_)
      refine st_call [.agg [iV x4.Kind, sV x4.Name, sV x4.Text, iV x4.N, .sl false (x4.L.map c_api_Node), .sl false (x4.Then.map c_api_Node), .sl false (x4.Else.map c_api_Node)]] t_R19_expr h (fun x5 hy => (ih_R19_expr x4 x5 hy)) (fun x5 hy h => ?_)
      refine st_test h (fun hb h => ?_) (fun hb h => ?_)
      · exact JP2.b h (Le.tow 0 0 rfl (.cons rfl (.refl _) (.nil)) (.refl _) rfl)
      · refine TL.le (τ := R19_exprs_L1_st p0 (wr (v3 + 1))) ?_ ((ih_R19_exprs_L1 p0 (wr (v3 + 1)) _ h))
        exact Le.tow 0 0 rfl (.cons rfl (.refl _) (.cons rfl (.refl _) (.nil))) (.refl _) rfl
    · exact JP2.a h (Le.tow 0 0 rfl (.nil) (.refl _) rfl)
theorem R19_exprs_ok : ∀ (p0 : (List api_Node)) (o : Bool), R19_exprs p0 = some o → PCall Try.prog 69 [.sl false (p0.map c_api_Node)] (t_R19_exprs o) := fun p0 o h => R19_expr_grp.2.1 p0 o h
noncomputable def R19_stands_L1 (p0 : (List UInt8)) (p1 : (List UInt8)) (v5 : Int) : Option (Unit ⊕ Unit) :=
  if (decide (v5 < (p0.length : Int))) then
    R01_Begins p0 p1 v5 >>= fun x4 =>
    if x4 then
      some (.inr ())
    else
      R19_stands_L1 p0 p1 (wr (v5 + 1))
  else
    some (.inl ())
  partial_fixpoint
set_option maxRecDepth 100000 in
set_option maxHeartbeats 4000000 in
theorem R19_stands_L1_grp : ∀ (p0 : (List UInt8)) (p1 : (List UInt8)), (∀ (v5 : Int) (o1 : Unit ⊕ Unit), R19_stands_L1 p0 p1 v5 = some o1 → TL (0, 0) Try.prog 16 R19_stands_L1_c (JP2 (0, 0) 16 o1 (.exit 0) (R19_stands_L1_x0 p0 p1) .ret (R19_stands_L1_x1 p0 p1)) (R19_stands_L1_st p0 p1 v5)) := by
  intro p0 p1
  refine R19_stands_L1.partial_correctness p0 p1 _ ?_
  intro R19_stands_L1' ih_R19_stands_L1 v5 o1 h
  refine TL.round (bwp_sound mixed tbOk (lv := R19_stands_lv) _ _ _ ?_)
  refine vrfl ?_
  refine st_test h (fun hb h => ?_) (fun hb h => ?_)
  · refine st_call [sV p0, sV p1, iV v5] t_R01_Begins h (fun x4 hy => (R01_Begins_ok p0 p1 v5 x4 hy)) (fun x4 hy h => ?_)
    refine st_test h (fun hb h => ?_) (fun hb h => ?_)
    · exact JP2.b h (Le.tow 0 0 rfl (.cons rfl (.refl _) (.nil)) (.refl _) rfl)
    · refine TL.le (τ := R19_stands_L1_st p0 p1 (wr (v5 + 1))) ?_ ((ih_R19_stands_L1 (wr (v5 + 1)) _ h))
      exact Le.tow 0 0 rfl (.cons rfl (.refl _) (.cons rfl (.refl _) (.cons rfl (.refl _) (.nil)))) (.refl _) rfl
  · exact JP2.a h (Le.tow 0 0 rfl (.nil) (.refl _) rfl)
theorem R19_stands_L1_ok : ∀ (p0 : (List UInt8)) (p1 : (List UInt8)) (v5 : Int) (o1 : Unit ⊕ Unit), R19_stands_L1 p0 p1 v5 = some o1 → TL (0, 0) Try.prog 16 R19_stands_L1_c (JP2 (0, 0) 16 o1 (.exit 0) (R19_stands_L1_x0 p0 p1) .ret (R19_stands_L1_x1 p0 p1)) (R19_stands_L1_st p0 p1 v5) := fun p0 p1 v5 o1 h => (R19_stands_L1_grp p0 p1) v5 o1 h
noncomputable def R19_stands (p0 : (List UInt8)) (p1 : (List UInt8)) : Option (Bool) :=
  (R19_stands_L1 p0 p1 0) >>= fun o1 =>
  match o1 with
  | .inl y2 =>
    some false
  | .inr y3 =>
    some true
set_option maxRecDepth 100000 in
set_option maxHeartbeats 4000000 in
theorem R19_stands_ok : ∀ (p0 : (List UInt8)) (p1 : (List UInt8)) (o : Bool), R19_stands p0 p1 = some o → PCall Try.prog 70 [sV p0, sV p1] (t_R19_stands o) := by
  intro p0 p1 o h
  unfold R19_stands at h
  refine PCall.ofB mixed tbOk R19_stands_lv Try.func70 rfl (by kernel_rfl) (Nat.le_of_ble_eq_true rfl) ?_
  refine st_bind h (fun o1 ho hk => ?_)
  refine Exists.intro (JP2 _ _ o1 (.exit 0) (R19_stands_L1_x0 p0 p1) .ret (R19_stands_L1_x1 p0 p1)) (And.intro (T_le (τ := R19_stands_L1_st p0 p1 0) ?_ (TL.loop (R19_stands_L1_ok p0 p1 0 o1 ho))) (join2 (fun y2 hy => ?_) (fun y3 hy => ?_)))
  · exact Le.tow 0 0 rfl (.cons rfl (.refl _) (.cons rfl (.refl _) (.cons rfl (.refl _) (.nil)))) (.refl _) rfl
  · have h := (by rw [hy] at hk; exact hk)
    refine st_ret (t := t_R19_stands) h ?_
    exact .refl _
  · have h := (by rw [hy] at hk; exact hk)
    refine st_ret (t := t_R19_stands) h ?_
    exact .refl _
mutual
noncomputable def R19_block (p0 : (List api_Node)) (p1 : Bool) : Option (Bool) :=
  (R19_block_L1 p0 p1 0) >>= fun o1 =>
  match o1 with
  | .inl y2 =>
    some true
  | .inr y3 =>
    some false
  partial_fixpoint
noncomputable def R19_block_L1 (p0 : (List api_Node)) (p1 : Bool) (v5 : Int) : Option (Unit ⊕ Unit) :=
  if (decide (v5 < (p0.length : Int))) then
    idx p0 v5 >>= fun x4 =>
    R19_stmt x4 >>= fun x5 =>
    if (!x5) then
      some (.inr ())
    else
      idx p0 v5 >>= fun x6 =>
      if (x6.Kind != 8) then
        R19_block_L1 p0 p1 (wr (v5 + 1))
      else
        idx p0 v5 >>= fun x7 =>
        ( if (!(v5 == (wr ((p0.length : Int) - 1)))) then
            idx p0 (wr (v5 + 1)) >>= fun x9 =>
            if (x9.Kind == 8) then
              some true
            else
              if (!(v5 == (wr ((p0.length : Int) - 1)))) then
                idx x7.Text (wr ((x7.Text.length : Int) - 1)) >>= fun x10 =>
                some ((x10.toNat : Int) == 123)
              else
                if p1 then
                  idx x7.Text (wr ((x7.Text.length : Int) - 1)) >>= fun x11 =>
                  some ((x11.toNat : Int) == 123)
                else
                  some false
          else
            if (!(v5 == (wr ((p0.length : Int) - 1)))) then
              idx x7.Text (wr ((x7.Text.length : Int) - 1)) >>= fun x12 =>
              some ((x12.toNat : Int) == 123)
            else
              if p1 then
                idx x7.Text (wr ((x7.Text.length : Int) - 1)) >>= fun x13 =>
                some ((x13.toNat : Int) == 123)
              else
                some false : Option (Bool)) >>= fun o8 =>
        if o8 then
          some (.inr ())
        else
          R19_block_L1 p0 p1 (wr (v5 + 1))
  else
    some (.inl ())
  partial_fixpoint
noncomputable def R19_stmt (p0 : api_Node) : Option (Bool) :=
  ( if ((p0.L.length : Int) == 1) then
      R19_exprs p0.L >>= fun x2 =>
      some x2
    else
      some false : Option (Bool)) >>= fun o1 =>
  if (p0.Kind == 8) then
    ( if (!(p0.Text == [])) then
        R19_stands p0.Text [123, 123] >>= fun x4 =>
        if (!x4) then
          R19_bare p0 false true false false false >>= fun x5 =>
          some x5
        else
          some false
      else
        some false : Option (Bool)) >>= fun o3 =>
    some o3
  else
    if (p0.Kind == 9) then
      ( if o1 then
          R19_bare p0 false false false true false >>= fun x7 =>
          some x7
        else
          some false : Option (Bool)) >>= fun o6 =>
      some o6
    else
      if (p0.Kind == 10) then
        ( if o1 then
            R19_block p0.Then true >>= fun x9 =>
            if x9 then
              R19_block p0.Else true >>= fun x10 =>
              if x10 then
                R19_bare p0 false false false true true >>= fun x11 =>
                some x11
              else
                some false
            else
              some false
          else
            some false : Option (Bool)) >>= fun o8 =>
        some o8
      else
        ( if (p0.Kind == 11) then
            some (p0.Kind == 11)
          else
            some (p0.Kind == 12) : Option (Bool)) >>= fun o12 =>
        if o12 then
          ( R19_Name p0.Name >>= fun x14 =>
            if x14 then
              if o1 then
                R19_block p0.Then true >>= fun x15 =>
                if x15 then
                  R19_bare p0 true false false true true >>= fun x16 =>
                  some x16
                else
                  some false
              else
                some false
            else
              some false : Option (Bool)) >>= fun o13 =>
          some o13
        else
          if (p0.Kind == 13) then
            ( R19_Name p0.Name >>= fun x18 =>
              if x18 then
                if o1 then
                  R19_bare p0 true false false true false >>= fun x19 =>
                  some x19
                else
                  some false
              else
                some false : Option (Bool)) >>= fun o17 =>
            some o17
          else
            some false
  partial_fixpoint
end
set_option maxRecDepth 100000 in
set_option maxHeartbeats 4000000 in
theorem R19_block_grp : (∀ (p0 : (List api_Node)) (p1 : Bool) (o : Bool), R19_block p0 p1 = some o → PCall Try.prog 43 [.sl false (p0.map c_api_Node), bV p1] (t_R19_block o)) ∧ (∀ (p0 : (List api_Node)) (p1 : Bool) (v5 : Int) (o1 : Unit ⊕ Unit), R19_block_L1 p0 p1 v5 = some o1 → TL (0, 0) Try.prog 62 R19_block_L1_c (JP2 (0, 0) 62 o1 (.exit 0) (R19_block_L1_x0 p0 p1) .ret (R19_block_L1_x1 p0 p1)) (R19_block_L1_st p0 p1 v5)) ∧ (∀ (p0 : api_Node) (o : Bool), R19_stmt p0 = some o → PCall Try.prog 56 [.agg [iV p0.Kind, sV p0.Name, sV p0.Text, iV p0.N, .sl false (p0.L.map c_api_Node), .sl false (p0.Then.map c_api_Node), .sl false (p0.Else.map c_api_Node)]] (t_R19_stmt o)) := by
  refine R19_block.mutual_partial_correctness _ _ _ ?_ ?_ ?_
  · intro R19_block_L1' ih_R19_block_L1 p0 p1 o h
    refine PCall.ofB mixed tbOk R19_block_lv Try.func43 rfl (by kernel_rfl) (Nat.le_of_ble_eq_true rfl) ?_
    refine st_bind h (fun o1 ho hk => ?_)
    refine Exists.intro (JP2 _ _ o1 (.exit 0) (R19_block_L1_x0 p0 p1) .ret (R19_block_L1_x1 p0 p1)) (And.intro (T_le (τ := R19_block_L1_st p0 p1 0) ?_ (TL.loop (ih_R19_block_L1 p0 p1 0 o1 ho))) (join2 (fun y2 hy => ?_) (fun y3 hy => ?_)))
    · exact Le.tow 0 0 rfl (.cons rfl (.refl _) (.cons rfl (.refl _) (.cons rfl (.refl _) (.nil)))) (.refl _) rfl
    · have h := (by rw [hy] at hk; exact hk)
      refine st_ret (t := t_R19_block) h ?_
      exact .refl _
    · have h := (by rw [hy] at hk; exact hk)
      refine st_ret (t := t_R19_block) h ?_
      exact .refl _
  · intro R19_block_L1' R19_stmt' ih_R19_block_L1 ih_R19_stmt p0 p1 v5 o1 h
    refine TL.round (bwp_sound mixed tbOk (lv := R19_block_lv) _ _ _ ?_)
    refine view (lenMap _ _) rfl ?_
    refine st_test h (fun hb h => ?_) (fun hb h => ?_)
    · refine st_idx (l := p0) (c := c_api_Node) (c' := l_api_Node) h c_api_Node_eq (fun _ => rfl) (by decide) (fun x4 hi h => ?_)
      refine st_call [.agg [iV x4.Kind, sV x4.Name, sV x4.Text, iV x4.N, .sl false (x4.L.map c_api_Node), .sl false (x4.Then.map c_api_Node), .sl false (x4.Else.map c_api_Node)]] t_R19_stmt h (fun x5 hy => (ih_R19_stmt x4 x5 hy)) (fun x5 hy h => ?_)
      refine st_test h (fun hb h => ?_) (fun hb h => ?_)
      · exact JP2.b h (Le.tow 0 0 rfl (.cons rfl (.refl _) (.nil)) (.refl _) rfl)
      · refine st_idx (l := p0) (c := c_api_Node) (c' := l_api_Node) h c_api_Node_eq (fun _ => rfl) (by decide) (fun x6 hi h => ?_)
        refine st_test h (fun hb h => ?_) (fun hb h => ?_)
        · refine TL.le (τ := R19_block_L1_st p0 p1 (wr (v5 + 1))) ?_ ((ih_R19_block_L1 p0 p1 (wr (v5 + 1)) _ h))
          exact Le.tow 0 0 rfl (.cons rfl (.refl _) (.cons rfl (.refl _) (.cons rfl (.refl _) (.nil)))) (.refl _) rfl
        · refine st_idx (l := p0) (c := c_api_Node) (c' := l_api_Node) h c_api_Node_eq (fun _ => rfl) (by decide) (fun x7 hi h => ?_)
          refine view (lenMap _ _) rfl ?_
          refine st_bind h (fun o8 ho hk => ?_)
          refine Exists.intro (JP1 _ _ o8 .normal (R19_block_J0_0 p0 p1 v5)) (And.intro ?_ (join1 ?_))
          · have h := ho
            refine st_test h (fun hb h => ?_) (fun hb h => ?_)
            · refine st_idx (l := p0) (c := c_api_Node) (c' := l_api_Node) h c_api_Node_eq (fun _ => rfl) (by decide) (fun x9 hi h => ?_)
              refine st_test h (fun hb h => ?_) (fun hb h => ?_)
              · refine JP1.a h ?_
                exact Le.tow 0 0 rfl (.cons rfl (.refl _) (.cons rfl (.refl _) (.cons rfl (.refl _) (.cons rfl (.refl _) (.nil))))) (.refl _) rfl
              · refine st_test h (fun hb h => ?_) (fun hb h => ?_)
                · refine bT ?_
                  refine vrfl ?_
                  refine st_sidx h (fun x10 hi h => ?_)
                  refine JP1.a h ?_
                  exact Le.tow 0 0 rfl (.cons rfl (.refl _) (.cons rfl (.refl _) (.cons rfl (.refl _) (.cons rfl (.refl _) (.nil))))) (.refl _) rfl
                · refine st_test h (fun hb h => ?_) (fun hb h => ?_)
                  · refine vrfl ?_
                    refine st_sidx h (fun x11 hi h => ?_)
                    refine JP1.a h ?_
                    exact Le.tow 0 0 rfl (.cons rfl (.refl _) (.cons rfl (.refl _) (.cons rfl (.refl _) (.cons rfl (.refl _) (.nil))))) (.refl _) rfl
                  · refine JP1.a h ?_
                    exact Le.tow 0 0 rfl (.cons rfl (.refl _) (.cons rfl (.refl _) (.cons rfl (.refl _) (.cons rfl (.refl _) (.nil))))) (.refl _) rfl
            · refine bF ?_
              refine st_test h (fun hb h => ?_) (fun hb h => ?_)
              · refine bT ?_
                refine vrfl ?_
                refine st_sidx h (fun x12 hi h => ?_)
                refine JP1.a h ?_
                exact Le.tow 0 0 rfl (.cons rfl (.refl _) (.cons rfl (.refl _) (.cons rfl (.refl _) (.cons rfl (.refl _) (.nil))))) (.refl _) rfl
              · refine st_test h (fun hb h => ?_) (fun hb h => ?_)
                · refine vrfl ?_
                  refine st_sidx h (fun x13 hi h => ?_)
                  refine JP1.a h ?_
                  exact Le.tow 0 0 rfl (.cons rfl (.refl _) (.cons rfl (.refl _) (.cons rfl (.refl _) (.cons rfl (.refl _) (.nil))))) (.refl _) rfl
                · refine JP1.a h ?_
                  exact Le.tow 0 0 rfl (.cons rfl (.refl _) (.cons rfl (.refl _) (.cons rfl (.refl _) (.cons rfl (.refl _) (.nil))))) (.refl _) rfl
          · have h := hk
            refine st_test h (fun hb h => ?_) (fun hb h => ?_)
            · exact JP2.b h (Le.tow 0 0 rfl (.cons rfl (.refl _) (.nil)) (.refl _) rfl)
            · refine TL.le (τ := R19_block_L1_st p0 p1 (wr (v5 + 1))) ?_ ((ih_R19_block_L1 p0 p1 (wr (v5 + 1)) _ h))
              exact Le.tow 0 0 rfl (.cons rfl (.refl _) (.cons rfl (.refl _) (.cons rfl (.refl _) (.nil)))) (.refl _) rfl
    · exact JP2.a h (Le.tow 0 0 rfl (.nil) (.refl _) rfl)
  · intro R19_block' ih_R19_block p0 o h
    refine PCall.ofB mixed tbOk R19_stmt_lv Try.func56 rfl (by kernel_rfl) (Nat.le_of_ble_eq_true rfl) ?_
    refine st_bind h (fun o1 ho hk => ?_)
    refine Exists.intro (JP1 _ _ o1 .normal (R19_stmt_J0_0 p0)) (And.intro ?_ (join1 ?_))
    · have h := ho
      refine view (lenMap _ _) rfl ?_
      refine st_test h (fun hb h => ?_) (fun hb h => ?_)
      · refine st_call [.sl false (p0.L.map c_api_Node)] t_R19_exprs h (fun x2 hy => (R19_exprs_ok p0.L x2 hy)) (fun x2 hy h => ?_)
        refine JP1.a h ?_
        exact Le.tow 1 0 rfl (.cons rfl (.refl _) (.cons rfl (.refl _) (.nil))) (.refl _) rfl
      · refine JP1.a h ?_
        exact Le.tow 1 0 rfl (.cons rfl (.refl _) (.cons rfl (.refl _) (.nil))) (.refl _) rfl
    · have h := hk
      refine st_test h (fun hb h => ?_) (fun hb h => ?_)
      · refine st_bind h (fun o3 ho hk => ?_)
        refine Exists.intro (JP1 _ _ o3 .normal (R19_stmt_J1_0 p0)) (And.intro ?_ (join1 ?_))
        · have h := ho
          refine st_test h (fun hb h => ?_) (fun hb h => ?_)
          · refine st_call [sV p0.Text, sV [123, 123]] t_R19_stands h (fun x4 hy => (R19_stands_ok p0.Text [123, 123] x4 hy)) (fun x4 hy h => ?_)
            refine st_test h (fun hb h => ?_) (fun hb h => ?_)
            · refine st_call [.agg [iV p0.Kind, sV p0.Name, sV p0.Text, iV p0.N, .sl false (p0.L.map c_api_Node), .sl false (p0.Then.map c_api_Node), .sl false (p0.Else.map c_api_Node)], bV false, bV true, bV false, bV false, bV false] t_R19_bare h (fun x5 hy => (R19_bare_ok p0 false true false false false x5 hy)) (fun x5 hy h => ?_)
              refine JP1.a h ?_
              exact Le.tow 1 0 rfl (.cons rfl (.refl _) (.nil)) (.refl _) rfl
            · refine JP1.a h ?_
              exact Le.tow 1 0 rfl (.cons rfl (.refl _) (.nil)) (.refl _) rfl
          · refine bF ?_
            refine JP1.a h ?_
            exact Le.tow 1 0 rfl (.cons rfl (.refl _) (.nil)) (.refl _) rfl
        · have h := hk
          refine st_ret (t := t_R19_stmt) h ?_
          exact .refl _
      · refine st_test h (fun hb h => ?_) (fun hb h => ?_)
        · refine st_bind h (fun o6 ho hk => ?_)
          refine Exists.intro (JP1 _ _ o6 .normal (R19_stmt_J2_0 p0)) (And.intro ?_ (join1 ?_))
          · have h := ho
            refine st_test h (fun hb h => ?_) (fun hb h => ?_)
            · refine st_call [.agg [iV p0.Kind, sV p0.Name, sV p0.Text, iV p0.N, .sl false (p0.L.map c_api_Node), .sl false (p0.Then.map c_api_Node), .sl false (p0.Else.map c_api_Node)], bV false, bV false, bV false, bV true, bV false] t_R19_bare h (fun x7 hy => (R19_bare_ok p0 false false false true false x7 hy)) (fun x7 hy h => ?_)
              refine JP1.a h ?_
              exact Le.tow 1 0 rfl (.cons rfl (.refl _) (.nil)) (.refl _) rfl
            · refine JP1.a h ?_
              exact Le.tow 1 0 rfl (.cons rfl (.refl _) (.nil)) (.refl _) rfl
          · have h := hk
            refine st_ret (t := t_R19_stmt) h ?_
            exact .refl _
        · refine st_test h (fun hb h => ?_) (fun hb h => ?_)
          · refine st_bind h (fun o8 ho hk => ?_)
            refine Exists.intro (JP1 _ _ o8 .normal (R19_stmt_J3_0 p0)) (And.intro ?_ (join1 ?_))
            · have h := ho
              refine st_test h (fun hb h => ?_) (fun hb h => ?_)
              · refine st_call [.sl false (p0.Then.map c_api_Node), bV true] t_R19_block h (fun x9 hy => (ih_R19_block p0.Then true x9 hy)) (fun x9 hy h => ?_)
                refine st_test h (fun hb h => ?_) (fun hb h => ?_)
                · refine st_call [.sl false (p0.Else.map c_api_Node), bV true] t_R19_block h (fun x10 hy => (ih_R19_block p0.Else true x10 hy)) (fun x10 hy h => ?_)
                  refine st_test h (fun hb h => ?_) (fun hb h => ?_)
                  · refine st_call [.agg [iV p0.Kind, sV p0.Name, sV p0.Text, iV p0.N, .sl false (p0.L.map c_api_Node), .sl false (p0.Then.map c_api_Node), .sl false (p0.Else.map c_api_Node)], bV false, bV false, bV false, bV true, bV true] t_R19_bare h (fun x11 hy => (R19_bare_ok p0 false false false true true x11 hy)) (fun x11 hy h => ?_)
                    refine JP1.a h ?_
                    exact Le.tow 1 0 rfl (.cons rfl (.refl _) (.nil)) (.refl _) rfl
                  · refine JP1.a h ?_
                    exact Le.tow 1 0 rfl (.cons rfl (.refl _) (.nil)) (.refl _) rfl
                · refine bF ?_
                  refine JP1.a h ?_
                  exact Le.tow 1 0 rfl (.cons rfl (.refl _) (.nil)) (.refl _) rfl
              · refine bF ?_
                refine bF ?_
                refine JP1.a h ?_
                exact Le.tow 1 0 rfl (.cons rfl (.refl _) (.nil)) (.refl _) rfl
            · have h := hk
              refine st_ret (t := t_R19_stmt) h ?_
              exact .refl _
          · refine st_bind h (fun o12 ho hk => ?_)
            refine Exists.intro (JP1 _ _ o12 .normal (R19_stmt_J4_0 p0 o1)) (And.intro ?_ (join1 ?_))
            · have h := ho
              refine st_test h (fun hb h => ?_) (fun hb h => ?_)
              · refine JP1.a h ?_
                exact Le.tow 1 0 rfl (.cons rfl (.refl _) (.cons rfl (.refl _) (.cons rfl (.refl _) (.cons rfl (.refl _) (.nil))))) (.refl _) rfl
              · refine JP1.a h ?_
                exact Le.tow 1 0 rfl (.cons rfl (.refl _) (.cons rfl (.refl _) (.cons rfl (.refl _) (.cons rfl (.refl _) (.nil))))) (.refl _) rfl
            · have h := hk
              refine st_test h (fun hb h => ?_) (fun hb h => ?_)
              · refine st_bind h (fun o13 ho hk => ?_)
                refine Exists.intro (JP1 _ _ o13 .normal (R19_stmt_J5_0 p0)) (And.intro ?_ (join1 ?_))
                · have h := ho
                  refine st_call [sV p0.Name] t_R19_Name h (fun x14 hy => (R19_Name_ok p0.Name x14 hy)) (fun x14 hy h => ?_)
                  refine st_test h (fun hb h => ?_) (fun hb h => ?_)
                  · refine st_test h (fun hb h => ?_) (fun hb h => ?_)
                    · refine st_call [.sl false (p0.Then.map c_api_Node), bV true] t_R19_block h (fun x15 hy => (ih_R19_block p0.Then true x15 hy)) (fun x15 hy h => ?_)
                      refine st_test h (fun hb h => ?_) (fun hb h => ?_)
                      · refine st_call [.agg [iV p0.Kind, sV p0.Name, sV p0.Text, iV p0.N, .sl false (p0.L.map c_api_Node), .sl false (p0.Then.map c_api_Node), .sl false (p0.Else.map c_api_Node)], bV true, bV false, bV false, bV true, bV true] t_R19_bare h (fun x16 hy => (R19_bare_ok p0 true false false true true x16 hy)) (fun x16 hy h => ?_)
                        refine JP1.a h ?_
                        exact Le.tow 1 0 rfl (.cons rfl (.refl _) (.nil)) (.refl _) rfl
                      · refine JP1.a h ?_
                        exact Le.tow 1 0 rfl (.cons rfl (.refl _) (.nil)) (.refl _) rfl
                    · refine bF ?_
                      refine JP1.a h ?_
                      exact Le.tow 1 0 rfl (.cons rfl (.refl _) (.nil)) (.refl _) rfl
                  · refine bF ?_
                    refine bF ?_
                    refine JP1.a h ?_
                    exact Le.tow 1 0 rfl (.cons rfl (.refl _) (.nil)) (.refl _) rfl
                · have h := hk
                  refine st_ret (t := t_R19_stmt) h ?_
                  exact .refl _
              · refine st_test h (fun hb h => ?_) (fun hb h => ?_)
                · refine st_bind h (fun o17 ho hk => ?_)
                  refine Exists.intro (JP1 _ _ o17 .normal (R19_stmt_J6_0 p0)) (And.intro ?_ (join1 ?_))
                  · have h := ho
                    refine st_call [sV p0.Name] t_R19_Name h (fun x18 hy => (R19_Name_ok p0.Name x18 hy)) (fun x18 hy h => ?_)
                    refine st_test h (fun hb h => ?_) (fun hb h => ?_)
                    · refine st_test h (fun hb h => ?_) (fun hb h => ?_)
                      · refine st_call [.agg [iV p0.Kind, sV p0.Name, sV p0.Text, iV p0.N, .sl false (p0.L.map c_api_Node), .sl false (p0.Then.map c_api_Node), .sl false (p0.Else.map c_api_Node)], bV true, bV false, bV false, bV true, bV false] t_R19_bare h (fun x19 hy => (R19_bare_ok p0 true false false true false x19 hy)) (fun x19 hy h => ?_)
                        refine JP1.a h ?_
                        exact Le.tow 1 0 rfl (.cons rfl (.refl _) (.nil)) (.refl _) rfl
                      · refine JP1.a h ?_
                        exact Le.tow 1 0 rfl (.cons rfl (.refl _) (.nil)) (.refl _) rfl
                    · refine bF ?_
                      refine JP1.a h ?_
                      exact Le.tow 1 0 rfl (.cons rfl (.refl _) (.nil)) (.refl _) rfl
                  · have h := hk
                    refine st_ret (t := t_R19_stmt) h ?_
                    exact .refl _
                · refine st_ret (t := t_R19_stmt) h ?_
                  exact .refl _
theorem R19_block_ok : ∀ (p0 : (List api_Node)) (p1 : Bool) (o : Bool), R19_block p0 p1 = some o → PCall Try.prog 43 [.sl false (p0.map c_api_Node), bV p1] (t_R19_block o) := fun p0 p1 o h => R19_block_grp.1 p0 p1 o h
noncomputable def R19_Is (p0 : (List api_Node)) : Option (Bool) :=
  ( R19_block p0 false >>= fun x2 =>
    if x2 then
      R19_Deep p0 >>= fun x3 =>
      if (decide (x3 ≤ 12)) then
        R19_Count p0 >>= fun x4 =>
        some (decide (x4 ≤ 1024))
      else
        some false
    else
      some false : Option (Bool)) >>= fun o1 =>
  some o1
set_option maxRecDepth 100000 in
set_option maxHeartbeats 4000000 in
theorem R19_Is_ok : ∀ (p0 : (List api_Node)) (o : Bool), R19_Is p0 = some o → PCall Try.prog 23 [.sl false (p0.map c_api_Node)] (t_R19_Is o) := by
  intro p0 o h
  unfold R19_Is at h
  refine PCall.ofB mixed tbOk R19_Is_lv Try.func23 rfl (by kernel_rfl) (Nat.le_of_ble_eq_true rfl) ?_
  refine st_bind h (fun o1 ho hk => ?_)
  refine Exists.intro (JP1 _ _ o1 .normal (R19_Is_J0_0 )) (And.intro ?_ (join1 ?_))
  · have h := ho
    refine st_call [.sl false (p0.map c_api_Node), bV false] t_R19_block h (fun x2 hy => (R19_block_ok p0 false x2 hy)) (fun x2 hy h => ?_)
    refine st_test h (fun hb h => ?_) (fun hb h => ?_)
    · refine st_call [.sl false (p0.map c_api_Node)] t_R19_Deep h (fun x3 hy => (R19_Deep_ok p0 x3 hy)) (fun x3 hy h => ?_)
      refine st_test h (fun hb h => ?_) (fun hb h => ?_)
      · refine st_call [.sl false (p0.map c_api_Node)] t_R19_Count h (fun x4 hy => (R19_Count_ok p0 x4 hy)) (fun x4 hy h => ?_)
        refine JP1.a h ?_
        exact Le.tow 0 0 rfl (.cons rfl (.refl _) (.nil)) (.refl _) rfl
      · refine JP1.a h ?_
        exact Le.tow 0 0 rfl (.cons rfl (.refl _) (.nil)) (.refl _) rfl
    · refine bF ?_
      refine JP1.a h ?_
      exact Le.tow 0 0 rfl (.cons rfl (.refl _) (.nil)) (.refl _) rfl
  · have h := hk
    refine st_ret (t := t_R19_Is) h ?_
    exact .refl _
mutual
noncomputable def R19_Write (p0 : (List api_Node)) : Option ((List UInt8)) :=
  (R19_Write_L1 p0 [] 0) >>= fun o1 =>
  some o1
  partial_fixpoint
noncomputable def R19_Write_L1 (p0 : (List api_Node)) (v3 : (List UInt8)) (v4 : Int) : Option ((List UInt8)) :=
  if (decide (v4 < (p0.length : Int))) then
    idx p0 v4 >>= fun x2 =>
    if (x2.Kind == 8) then
      need (v3.length + x2.Text.length ≤ 9223372036854775807) >>= fun _ =>
      R19_Write_L1 p0 (v3 ++ x2.Text) (wr (v4 + 1))
    else
      if (x2.Kind == 9) then
        need (v3.length + [123, 123, 32].length ≤ 9223372036854775807) >>= fun _ =>
        idx x2.L 0 >>= fun x3 =>
        R19_Expr x3 >>= fun x4 =>
        need ((v3 ++ [123, 123, 32]).length + x4.length ≤ 9223372036854775807) >>= fun _ =>
        need (((v3 ++ [123, 123, 32]) ++ x4).length + [32, 125, 125].length ≤ 9223372036854775807) >>= fun _ =>
        R19_Write_L1 p0 (((v3 ++ [123, 123, 32]) ++ x4) ++ [32, 125, 125]) (wr (v4 + 1))
      else
        if (x2.Kind == 13) then
          need (v3.length + [123, 123, 32, 117, 115, 101, 32].length ≤ 9223372036854775807) >>= fun _ =>
          need ((v3 ++ [123, 123, 32, 117, 115, 101, 32]).length + x2.Name.length ≤ 9223372036854775807) >>= fun _ =>
          need (((v3 ++ [123, 123, 32, 117, 115, 101, 32]) ++ x2.Name).length + [32].length ≤ 9223372036854775807) >>= fun _ =>
          idx x2.L 0 >>= fun x5 =>
          R19_Expr x5 >>= fun x6 =>
          need ((((v3 ++ [123, 123, 32, 117, 115, 101, 32]) ++ x2.Name) ++ [32]).length + x6.length ≤ 9223372036854775807) >>= fun _ =>
          need (((((v3 ++ [123, 123, 32, 117, 115, 101, 32]) ++ x2.Name) ++ [32]) ++ x6).length + [32, 125, 125].length ≤ 9223372036854775807) >>= fun _ =>
          R19_Write_L1 p0 (((((v3 ++ [123, 123, 32, 117, 115, 101, 32]) ++ x2.Name) ++ [32]) ++ x6) ++ [32, 125, 125]) (wr (v4 + 1))
        else
          if (x2.Kind == 10) then
            need (v3.length + [123, 123, 32, 105, 102, 32].length ≤ 9223372036854775807) >>= fun _ =>
            idx x2.L 0 >>= fun x7 =>
            R19_Expr x7 >>= fun x8 =>
            need ((v3 ++ [123, 123, 32, 105, 102, 32]).length + x8.length ≤ 9223372036854775807) >>= fun _ =>
            need (((v3 ++ [123, 123, 32, 105, 102, 32]) ++ x8).length + [32, 125, 125].length ≤ 9223372036854775807) >>= fun _ =>
            R19_Write x2.Then >>= fun x9 =>
            need ((((v3 ++ [123, 123, 32, 105, 102, 32]) ++ x8) ++ [32, 125, 125]).length + x9.length ≤ 9223372036854775807) >>= fun _ =>
            if (decide ((x2.Else.length : Int) > 0)) then
              need (((((v3 ++ [123, 123, 32, 105, 102, 32]) ++ x8) ++ [32, 125, 125]) ++ x9).length + [123, 123, 32, 101, 108, 115, 101, 32, 125, 125].length ≤ 9223372036854775807) >>= fun _ =>
              R19_Write x2.Else >>= fun x10 =>
              need ((((((v3 ++ [123, 123, 32, 105, 102, 32]) ++ x8) ++ [32, 125, 125]) ++ x9) ++ [123, 123, 32, 101, 108, 115, 101, 32, 125, 125]).length + x10.length ≤ 9223372036854775807) >>= fun _ =>
              need (((((((v3 ++ [123, 123, 32, 105, 102, 32]) ++ x8) ++ [32, 125, 125]) ++ x9) ++ [123, 123, 32, 101, 108, 115, 101, 32, 125, 125]) ++ x10).length + [123, 123, 32, 101, 110, 100, 32, 125, 125].length ≤ 9223372036854775807) >>= fun _ =>
              R19_Write_L1 p0 (((((((v3 ++ [123, 123, 32, 105, 102, 32]) ++ x8) ++ [32, 125, 125]) ++ x9) ++ [123, 123, 32, 101, 108, 115, 101, 32, 125, 125]) ++ x10) ++ [123, 123, 32, 101, 110, 100, 32, 125, 125]) (wr (v4 + 1))
            else
              need (((((v3 ++ [123, 123, 32, 105, 102, 32]) ++ x8) ++ [32, 125, 125]) ++ x9).length + [123, 123, 32, 101, 110, 100, 32, 125, 125].length ≤ 9223372036854775807) >>= fun _ =>
              R19_Write_L1 p0 (((((v3 ++ [123, 123, 32, 105, 102, 32]) ++ x8) ++ [32, 125, 125]) ++ x9) ++ [123, 123, 32, 101, 110, 100, 32, 125, 125]) (wr (v4 + 1))
          else
            if (x2.Kind == 11) then
              need (v3.length + [123, 123, 32, 101, 97, 99, 104, 32].length ≤ 9223372036854775807) >>= fun _ =>
              need ((v3 ++ [123, 123, 32, 101, 97, 99, 104, 32]).length + x2.Name.length ≤ 9223372036854775807) >>= fun _ =>
              need (((v3 ++ [123, 123, 32, 101, 97, 99, 104, 32]) ++ x2.Name).length + [32, 105, 110, 32].length ≤ 9223372036854775807) >>= fun _ =>
              idx x2.L 0 >>= fun x11 =>
              R19_Expr x11 >>= fun x12 =>
              need ((((v3 ++ [123, 123, 32, 101, 97, 99, 104, 32]) ++ x2.Name) ++ [32, 105, 110, 32]).length + x12.length ≤ 9223372036854775807) >>= fun _ =>
              need (((((v3 ++ [123, 123, 32, 101, 97, 99, 104, 32]) ++ x2.Name) ++ [32, 105, 110, 32]) ++ x12).length + [32, 125, 125].length ≤ 9223372036854775807) >>= fun _ =>
              R19_Write x2.Then >>= fun x13 =>
              need ((((((v3 ++ [123, 123, 32, 101, 97, 99, 104, 32]) ++ x2.Name) ++ [32, 105, 110, 32]) ++ x12) ++ [32, 125, 125]).length + x13.length ≤ 9223372036854775807) >>= fun _ =>
              need (((((((v3 ++ [123, 123, 32, 101, 97, 99, 104, 32]) ++ x2.Name) ++ [32, 105, 110, 32]) ++ x12) ++ [32, 125, 125]) ++ x13).length + [123, 123, 32, 101, 110, 100, 32, 125, 125].length ≤ 9223372036854775807) >>= fun _ =>
              R19_Write_L1 p0 (((((((v3 ++ [123, 123, 32, 101, 97, 99, 104, 32]) ++ x2.Name) ++ [32, 105, 110, 32]) ++ x12) ++ [32, 125, 125]) ++ x13) ++ [123, 123, 32, 101, 110, 100, 32, 125, 125]) (wr (v4 + 1))
            else
              need (v3.length + [123, 123, 32, 108, 101, 116, 32].length ≤ 9223372036854775807) >>= fun _ =>
              need ((v3 ++ [123, 123, 32, 108, 101, 116, 32]).length + x2.Name.length ≤ 9223372036854775807) >>= fun _ =>
              need (((v3 ++ [123, 123, 32, 108, 101, 116, 32]) ++ x2.Name).length + [32, 61, 32].length ≤ 9223372036854775807) >>= fun _ =>
              idx x2.L 0 >>= fun x14 =>
              R19_Expr x14 >>= fun x15 =>
              need ((((v3 ++ [123, 123, 32, 108, 101, 116, 32]) ++ x2.Name) ++ [32, 61, 32]).length + x15.length ≤ 9223372036854775807) >>= fun _ =>
              need (((((v3 ++ [123, 123, 32, 108, 101, 116, 32]) ++ x2.Name) ++ [32, 61, 32]) ++ x15).length + [32, 125, 125].length ≤ 9223372036854775807) >>= fun _ =>
              R19_Write x2.Then >>= fun x16 =>
              need ((((((v3 ++ [123, 123, 32, 108, 101, 116, 32]) ++ x2.Name) ++ [32, 61, 32]) ++ x15) ++ [32, 125, 125]).length + x16.length ≤ 9223372036854775807) >>= fun _ =>
              need (((((((v3 ++ [123, 123, 32, 108, 101, 116, 32]) ++ x2.Name) ++ [32, 61, 32]) ++ x15) ++ [32, 125, 125]) ++ x16).length + [123, 123, 32, 101, 110, 100, 32, 125, 125].length ≤ 9223372036854775807) >>= fun _ =>
              R19_Write_L1 p0 (((((((v3 ++ [123, 123, 32, 108, 101, 116, 32]) ++ x2.Name) ++ [32, 61, 32]) ++ x15) ++ [32, 125, 125]) ++ x16) ++ [123, 123, 32, 101, 110, 100, 32, 125, 125]) (wr (v4 + 1))
  else
    some v3
  partial_fixpoint
end
set_option maxRecDepth 100000 in
set_option maxHeartbeats 4000000 in
theorem R19_Write_grp : (∀ (p0 : (List api_Node)) (o : (List UInt8)), R19_Write p0 = some o → PCall Try.prog 24 [.sl false (p0.map c_api_Node)] (t_R19_Write o)) ∧ (∀ (p0 : (List api_Node)) (v3 : (List UInt8)) (v4 : Int) (o1 : (List UInt8)), R19_Write_L1 p0 v3 v4 = some o1 → TL (0, 0) Try.prog 116 R19_Write_L1_c (JP1 (0, 0) 116 o1 (.exit 0) (R19_Write_L1_x0 p0)) (R19_Write_L1_st p0 v3 v4)) := by
  refine R19_Write.mutual_partial_correctness _ _ ?_ ?_
  · intro R19_Write_L1' ih_R19_Write_L1 p0 o h
    refine PCall.ofB mixed tbOk R19_Write_lv Try.func24 rfl (by kernel_rfl) (Nat.le_of_ble_eq_true rfl) ?_
    refine st_bind h (fun o1 ho hk => ?_)
    refine Exists.intro (JP1 _ _ o1 (.exit 0) (R19_Write_L1_x0 p0)) (And.intro (T_le (τ := R19_Write_L1_st p0 [] 0) ?_ (TL.loop (ih_R19_Write_L1 p0 [] 0 o1 ho))) (join1 ?_))
    · exact Le.tow 0 0 rfl (.cons rfl (.refl _) (.cons rfl (.refl _) (.cons rfl (.refl _) (.nil)))) (.refl _) rfl
    have h := hk
    refine st_ret (t := t_R19_Write) h ?_
    exact .refl _
  · intro R19_Write' R19_Write_L1' ih_R19_Write ih_R19_Write_L1 p0 v3 v4 o1 h
    refine TL.round (bwp_sound mixed tbOk (lv := R19_Write_lv) _ _ _ ?_)
    refine view (lenMap _ _) rfl ?_
    refine st_test h (fun hb h => ?_) (fun hb h => ?_)
    · refine st_idx (l := p0) (c := c_api_Node) (c' := l_api_Node) h c_api_Node_eq (fun _ => rfl) (by decide) (fun x2 hi h => ?_)
      refine st_test h (fun hb h => ?_) (fun hb h => ?_)
      · refine st_need h (fun h => ?_)
        refine TL.le (τ := R19_Write_L1_st p0 (v3 ++ x2.Text) (wr (v4 + 1))) ?_ ((ih_R19_Write_L1 p0 (v3 ++ x2.Text) (wr (v4 + 1)) _ h))
        exact Le.tow 0 0 rfl (.cons rfl (.refl _) (.cons rfl (.refl _) (.cons rfl (.refl _) (.nil)))) (.refl _) rfl
      · refine st_test h (fun hb h => ?_) (fun hb h => ?_)
        · refine st_need h (fun h => ?_)
          refine st_idx (l := x2.L) (c := c_api_Node) (c' := l_api_Node) h c_api_Node_eq (fun _ => rfl) (by decide) (fun x3 hi h => ?_)
          refine st_call [.agg [iV x3.Kind, sV x3.Name, sV x3.Text, iV x3.N, .sl false (x3.L.map c_api_Node), .sl false (x3.Then.map c_api_Node), .sl false (x3.Else.map c_api_Node)]] t_R19_Expr h (fun x4 hy => (R19_Expr_ok x3 x4 hy)) (fun x4 hy h => ?_)
          refine st_need h (fun h => ?_)
          refine st_need h (fun h => ?_)
          refine TL.le (τ := R19_Write_L1_st p0 (((v3 ++ [123, 123, 32]) ++ x4) ++ [32, 125, 125]) (wr (v4 + 1))) ?_ ((ih_R19_Write_L1 p0 (((v3 ++ [123, 123, 32]) ++ x4) ++ [32, 125, 125]) (wr (v4 + 1)) _ h))
          exact Le.tow 0 0 rfl (.cons rfl (.refl _) (.cons rfl (.refl _) (.cons rfl (.refl _) (.nil)))) (.refl _) rfl
        · refine st_test h (fun hb h => ?_) (fun hb h => ?_)
          · refine And.intro (by decide +kernel) (And.intro rfl ?_)
            refine st_need h (fun h => ?_)
            refine st_need h (fun h => ?_)
            refine st_need h (fun h => ?_)
            refine st_idx (l := x2.L) (c := c_api_Node) (c' := l_api_Node) h c_api_Node_eq (fun _ => rfl) (by decide) (fun x5 hi h => ?_)
            refine st_calld [.agg [iV x5.Kind, sV x5.Name, sV x5.Text, iV x5.N, .sl false (x5.L.map c_api_Node), .sl false (x5.Then.map c_api_Node), .sl false (x5.Else.map c_api_Node)]] t_R19_Expr h (fun x6 hy => (R19_Expr_ok x5 x6 hy)) (fun x6 hy h => ?_)
            refine st_need h (fun h => ?_)
            refine st_need h (fun h => ?_)
            refine TL.le (τ := R19_Write_L1_st p0 (((((v3 ++ [123, 123, 32, 117, 115, 101, 32]) ++ x2.Name) ++ [32]) ++ x6) ++ [32, 125, 125]) (wr (v4 + 1))) ?_ ((ih_R19_Write_L1 p0 (((((v3 ++ [123, 123, 32, 117, 115, 101, 32]) ++ x2.Name) ++ [32]) ++ x6) ++ [32, 125, 125]) (wr (v4 + 1)) _ h))
            exact Le.tow 0 0 rfl (.cons rfl (.refl _) (.cons rfl (.refl _) (.cons rfl (.refl _) (.nil)))) (.refl _) rfl
          · refine st_test h (fun hb h => ?_) (fun hb h => ?_)
            · refine And.intro (by decide +kernel) (And.intro rfl ?_)
              refine st_need h (fun h => ?_)
              refine st_idx (l := x2.L) (c := c_api_Node) (c' := l_api_Node) h c_api_Node_eq (fun _ => rfl) (by decide) (fun x7 hi h => ?_)
              refine st_calld [.agg [iV x7.Kind, sV x7.Name, sV x7.Text, iV x7.N, .sl false (x7.L.map c_api_Node), .sl false (x7.Then.map c_api_Node), .sl false (x7.Else.map c_api_Node)]] t_R19_Expr h (fun x8 hy => (R19_Expr_ok x7 x8 hy)) (fun x8 hy h => ?_)
              refine st_need h (fun h => ?_)
              refine st_need h (fun h => ?_)
              refine st_calld [.sl false (x2.Then.map c_api_Node)] t_R19_Write h (fun x9 hy => (ih_R19_Write x2.Then x9 hy)) (fun x9 hy h => ?_)
              refine st_need h (fun h => ?_)
              refine view (lenMap _ _) rfl ?_
              refine st_test h (fun hb h => ?_) (fun hb h => ?_)
              · refine st_need h (fun h => ?_)
                refine st_call [.sl false (x2.Else.map c_api_Node)] t_R19_Write h (fun x10 hy => (ih_R19_Write x2.Else x10 hy)) (fun x10 hy h => ?_)
                refine st_need h (fun h => ?_)
                refine st_need h (fun h => ?_)
                refine TL.le (τ := R19_Write_L1_st p0 (((((((v3 ++ [123, 123, 32, 105, 102, 32]) ++ x8) ++ [32, 125, 125]) ++ x9) ++ [123, 123, 32, 101, 108, 115, 101, 32, 125, 125]) ++ x10) ++ [123, 123, 32, 101, 110, 100, 32, 125, 125]) (wr (v4 + 1))) ?_ ((ih_R19_Write_L1 p0 (((((((v3 ++ [123, 123, 32, 105, 102, 32]) ++ x8) ++ [32, 125, 125]) ++ x9) ++ [123, 123, 32, 101, 108, 115, 101, 32, 125, 125]) ++ x10) ++ [123, 123, 32, 101, 110, 100, 32, 125, 125]) (wr (v4 + 1)) _ h))
                exact Le.tow 0 0 rfl (.cons rfl (.refl _) (.cons rfl (.refl _) (.cons rfl (.refl _) (.nil)))) (.refl _) rfl
              · refine st_need h (fun h => ?_)
                refine TL.le (τ := R19_Write_L1_st p0 (((((v3 ++ [123, 123, 32, 105, 102, 32]) ++ x8) ++ [32, 125, 125]) ++ x9) ++ [123, 123, 32, 101, 110, 100, 32, 125, 125]) (wr (v4 + 1))) ?_ ((ih_R19_Write_L1 p0 (((((v3 ++ [123, 123, 32, 105, 102, 32]) ++ x8) ++ [32, 125, 125]) ++ x9) ++ [123, 123, 32, 101, 110, 100, 32, 125, 125]) (wr (v4 + 1)) _ h))
                exact Le.tow 0 0 rfl (.cons rfl (.refl _) (.cons rfl (.refl _) (.cons rfl (.refl _) (.nil)))) (.refl _) rfl
            · refine st_test h (fun hb h => ?_) (fun hb h => ?_)
              · refine And.intro (by decide +kernel) (And.intro rfl ?_)
                refine st_need h (fun h => ?_)
                refine st_need h (fun h => ?_)
                refine st_need h (fun h => ?_)
                refine st_idx (l := x2.L) (c := c_api_Node) (c' := l_api_Node) h c_api_Node_eq (fun _ => rfl) (by decide) (fun x11 hi h => ?_)
                refine st_calld [.agg [iV x11.Kind, sV x11.Name, sV x11.Text, iV x11.N, .sl false (x11.L.map c_api_Node), .sl false (x11.Then.map c_api_Node), .sl false (x11.Else.map c_api_Node)]] t_R19_Expr h (fun x12 hy => (R19_Expr_ok x11 x12 hy)) (fun x12 hy h => ?_)
                refine st_need h (fun h => ?_)
                refine st_need h (fun h => ?_)
                refine st_calld [.sl false (x2.Then.map c_api_Node)] t_R19_Write h (fun x13 hy => (ih_R19_Write x2.Then x13 hy)) (fun x13 hy h => ?_)
                refine st_need h (fun h => ?_)
                refine st_need h (fun h => ?_)
                refine TL.le (τ := R19_Write_L1_st p0 (((((((v3 ++ [123, 123, 32, 101, 97, 99, 104, 32]) ++ x2.Name) ++ [32, 105, 110, 32]) ++ x12) ++ [32, 125, 125]) ++ x13) ++ [123, 123, 32, 101, 110, 100, 32, 125, 125]) (wr (v4 + 1))) ?_ ((ih_R19_Write_L1 p0 (((((((v3 ++ [123, 123, 32, 101, 97, 99, 104, 32]) ++ x2.Name) ++ [32, 105, 110, 32]) ++ x12) ++ [32, 125, 125]) ++ x13) ++ [123, 123, 32, 101, 110, 100, 32, 125, 125]) (wr (v4 + 1)) _ h))
                exact Le.tow 0 0 rfl (.cons rfl (.refl _) (.cons rfl (.refl _) (.cons rfl (.refl _) (.nil)))) (.refl _) rfl
              · refine And.intro (by decide +kernel) (And.intro rfl ?_)
                refine st_need h (fun h => ?_)
                refine st_need h (fun h => ?_)
                refine st_need h (fun h => ?_)
                refine st_idx (l := x2.L) (c := c_api_Node) (c' := l_api_Node) h c_api_Node_eq (fun _ => rfl) (by decide) (fun x14 hi h => ?_)
                refine st_calld [.agg [iV x14.Kind, sV x14.Name, sV x14.Text, iV x14.N, .sl false (x14.L.map c_api_Node), .sl false (x14.Then.map c_api_Node), .sl false (x14.Else.map c_api_Node)]] t_R19_Expr h (fun x15 hy => (R19_Expr_ok x14 x15 hy)) (fun x15 hy h => ?_)
                refine st_need h (fun h => ?_)
                refine st_need h (fun h => ?_)
                refine st_calld [.sl false (x2.Then.map c_api_Node)] t_R19_Write h (fun x16 hy => (ih_R19_Write x2.Then x16 hy)) (fun x16 hy h => ?_)
                refine st_need h (fun h => ?_)
                refine st_need h (fun h => ?_)
                refine TL.le (τ := R19_Write_L1_st p0 (((((((v3 ++ [123, 123, 32, 108, 101, 116, 32]) ++ x2.Name) ++ [32, 61, 32]) ++ x15) ++ [32, 125, 125]) ++ x16) ++ [123, 123, 32, 101, 110, 100, 32, 125, 125]) (wr (v4 + 1))) ?_ ((ih_R19_Write_L1 p0 (((((((v3 ++ [123, 123, 32, 108, 101, 116, 32]) ++ x2.Name) ++ [32, 61, 32]) ++ x15) ++ [32, 125, 125]) ++ x16) ++ [123, 123, 32, 101, 110, 100, 32, 125, 125]) (wr (v4 + 1)) _ h))
                exact Le.tow 0 0 rfl (.cons rfl (.refl _) (.cons rfl (.refl _) (.cons rfl (.refl _) (.nil)))) (.refl _) rfl
    · exact JP1.a h (Le.tow 0 0 rfl (.cons rfl (.refl _) (.nil)) (.refl _) rfl)
theorem R19_Write_ok : ∀ (p0 : (List api_Node)) (o : (List UInt8)), R19_Write p0 = some o → PCall Try.prog 24 [.sl false (p0.map c_api_Node)] (t_R19_Write o) := fun p0 o h => R19_Write_grp.1 p0 o h
noncomputable def R19_Print (p0 : (List api_Node)) : Option ((List UInt8) × Bool) :=
  R19_Is p0 >>= fun x1 =>
  if (!x1) then
    some ([], false)
  else
    R19_Write p0 >>= fun x2 =>
    if (decide ((x2.length : Int) > 65536)) then
      some ([], false)
    else
      some (x2, true)
set_option maxRecDepth 100000 in
set_option maxHeartbeats 4000000 in
theorem R19_Print_ok : ∀ (p0 : (List api_Node)) (o : (List UInt8) × Bool), R19_Print p0 = some o → PCall Try.prog 9 [.sl false (p0.map c_api_Node)] (t_R19_Print o) := by
  intro p0 o h
  unfold R19_Print at h
  refine PCall.ofB mixed tbOk R19_Print_lv Try.func9 rfl (by kernel_rfl) (Nat.le_of_ble_eq_true rfl) ?_
  refine st_call [.sl false (p0.map c_api_Node)] t_R19_Is h (fun x1 hy => (R19_Is_ok p0 x1 hy)) (fun x1 hy h => ?_)
  refine st_test h (fun hb h => ?_) (fun hb h => ?_)
  · refine st_ret (t := t_R19_Print) h ?_
    exact .refl _
  · refine st_call [.sl false (p0.map c_api_Node)] t_R19_Write h (fun x2 hy => (R19_Write_ok p0 x2 hy)) (fun x2 hy h => ?_)
    refine vrfl ?_
    refine st_test h (fun hb h => ?_) (fun hb h => ?_)
    · refine st_ret (t := t_R19_Print) h ?_
      exact .refl _
    · refine st_ret (t := t_R19_Print) h ?_
      exact .refl _
noncomputable def internal_stringslite_HasSuffix (p0 : (List UInt8)) (p1 : (List UInt8)) : Option (Bool) :=
  ( if (decide ((p0.length : Int) ≥ (p1.length : Int))) then
      cutL p0 (wr ((p0.length : Int) - (p1.length : Int))) (p0.length : Int) >>= fun x2 =>
      some (x2 == p1)
    else
      some false : Option (Bool)) >>= fun o1 =>
  some o1
set_option maxRecDepth 100000 in
set_option maxHeartbeats 4000000 in
theorem internal_stringslite_HasSuffix_ok : ∀ (p0 : (List UInt8)) (p1 : (List UInt8)) (o : Bool), internal_stringslite_HasSuffix p0 p1 = some o → PCall Try.prog 65 [sV p0, sV p1] (t_internal_stringslite_HasSuffix o) := by
  intro p0 p1 o h
  unfold internal_stringslite_HasSuffix at h
  refine PCall.ofB mixed tbOk internal_stringslite_HasSuffix_lv Try.func65 rfl (by kernel_rfl) (Nat.le_of_ble_eq_true rfl) ?_
  refine st_bind h (fun o1 ho hk => ?_)
  refine Exists.intro (JP1 _ _ o1 .normal (internal_stringslite_HasSuffix_J0_0 )) (And.intro ?_ (join1 ?_))
  · have h := ho
    refine vrfl ?_
    refine vrfl ?_
    refine st_test h (fun hb h => ?_) (fun hb h => ?_)
    · refine vrfl ?_
      refine vrfl ?_
      refine st_cuts (some (wr ((p0.length : Int) - (p1.length : Int)))) none h (fun x2 hi h => ?_)
      refine JP1.a h ?_
      exact Le.tow 0 0 rfl (.cons rfl (.refl _) (.nil)) (.refl _) rfl
    · refine JP1.a h ?_
      exact Le.tow 0 0 rfl (.cons rfl (.refl _) (.nil)) (.refl _) rfl
  · have h := hk
    refine st_ret (t := t_internal_stringslite_HasSuffix) h ?_
    exact .refl _
noncomputable def internal_stringslite_Index (p0 : (List UInt8)) (p1 : (List UInt8)) : Option (Int) :=
  need (p0.length < 4294967281) >>= fun _ =>
  some (Lib.index p0 p1)
set_option maxRecDepth 100000 in
set_option maxHeartbeats 4000000 in
theorem internal_stringslite_Index_ok : ∀ (p0 : (List UInt8)) (p1 : (List UInt8)) (o : Int), internal_stringslite_Index p0 p1 = some o → PCall Try.prog 87 [sV p0, sV p1] (t_internal_stringslite_Index o) := by
  intro p0 p1 o h
  unfold internal_stringslite_Index at h
  obtain ⟨h1, h⟩ := need_some h
  cases h
  exact index_ok _ _ h1
noncomputable def internal_stringslite_IndexByte (p0 : (List UInt8)) (p1 : Int) : Option (Int) :=
  some (Lib.indexByte p0 p1.toNat.toUInt8)
set_option maxRecDepth 100000 in
set_option maxHeartbeats 4000000 in
theorem internal_stringslite_IndexByte_ok : ∀ (p0 : (List UInt8)) (p1 : Int) (o : Int), internal_stringslite_IndexByte p0 p1 = some o → PCall Try.prog 91 [sV p0, nV .u8 p1] (t_internal_stringslite_IndexByte o) := by
  intro p0 p1 o h
  unfold internal_stringslite_IndexByte at h
  cases h
  exact indexByte_ok _ _
noncomputable def lex_Quote_L1 (p0 : (List UInt8)) (v4 : (List Int)) (v18 : Int) : Option ((List Int)) :=
  if (decide (v18 < (p0.length : Int))) then
    idx p0 v18 >>= fun x5 =>
    if ((x5.toNat : Int) == 10) then
      appL 1 v4 (s2b [92, 110]) >>= fun x6 =>
      lex_Quote_L1 p0 x6 (wr (v18 + 1))
    else
      if ((x5.toNat : Int) == 9) then
        appL 1 v4 (s2b [92, 116]) >>= fun x7 =>
        lex_Quote_L1 p0 x7 (wr (v18 + 1))
      else
        ( if ((x5.toNat : Int) == 34) then
            some ((x5.toNat : Int) == 34)
          else
            some ((x5.toNat : Int) == 92) : Option (Bool)) >>= fun o8 =>
        if o8 then
          appL 1 v4 [92, (x5.toNat : Int)] >>= fun x9 =>
          lex_Quote_L1 p0 x9 (wr (v18 + 1))
        else
          appL 1 v4 [(x5.toNat : Int)] >>= fun x10 =>
          lex_Quote_L1 p0 x10 (wr (v18 + 1))
  else
    some v4
  partial_fixpoint
set_option maxRecDepth 100000 in
set_option maxHeartbeats 4000000 in
theorem lex_Quote_L1_grp : ∀ (p0 : (List UInt8)), (∀ (v4 : (List Int)) (v18 : Int) (o4 : (List Int)), lex_Quote_L1 p0 v4 v18 = some o4 → TL (0, 0) Try.prog 49 lex_Quote_L1_c (JP1 (0, 0) 49 o4 (.exit 0) (lex_Quote_L1_x0 p0)) (lex_Quote_L1_st p0 v4 v18)) := by
  intro p0
  refine lex_Quote_L1.partial_correctness p0 _ ?_
  intro lex_Quote_L1' ih_lex_Quote_L1 v4 v18 o4 h
  refine TL.round (bwp_sound mixed tbOk (lv := lex_Quote_lv) _ _ _ ?_)
  refine st_test h (fun hb h => ?_) (fun hb h => ?_)
  · refine st_sidx h (fun x5 hi h => ?_)
    refine st_test h (fun hb h => ?_) (fun hb h => ?_)
    · refine st_appso (a := v4) (b := [92, 110]) h rfl (fun x6 hi h => ?_)
      refine TL.le (τ := lex_Quote_L1_st p0 x6 (wr (v18 + 1))) ?_ ((ih_lex_Quote_L1 x6 (wr (v18 + 1)) _ h))
      exact Le.tow 0 1 rfl (.cons rfl (.refl _) (.cons rfl (.refl _) (.cons rfl (.refl _) (.cons rfl (.refl _) (.nil))))) (.refl _) rfl
    · refine st_test h (fun hb h => ?_) (fun hb h => ?_)
      · refine st_appso (a := v4) (b := [92, 116]) h rfl (fun x7 hi h => ?_)
        refine TL.le (τ := lex_Quote_L1_st p0 x7 (wr (v18 + 1))) ?_ ((ih_lex_Quote_L1 x7 (wr (v18 + 1)) _ h))
        exact Le.tow 0 1 rfl (.cons rfl (.refl _) (.cons rfl (.refl _) (.cons rfl (.refl _) (.cons rfl (.refl _) (.nil))))) (.refl _) rfl
      · refine st_bind h (fun o8 ho hk => ?_)
        refine Exists.intro (JP1 _ _ o8 .normal (lex_Quote_J1_0 p0 v4 v18 x5)) (And.intro ?_ (join1 ?_))
        · have h := ho
          refine st_test h (fun hb h => ?_) (fun hb h => ?_)
          · refine JP1.a h ?_
            exact Le.tow 0 1 rfl (.cons rfl (.refl _) (.cons rfl (.refl _) (.cons rfl (.refl _) (.cons rfl (.refl _) (.cons rfl (.refl _) (.cons rfl (.refl _) (.nil))))))) (.refl _) rfl
          · refine JP1.a h ?_
            exact Le.tow 0 1 rfl (.cons rfl (.refl _) (.cons rfl (.refl _) (.cons rfl (.refl _) (.cons rfl (.refl _) (.cons rfl (.refl _) (.cons rfl (.refl _) (.nil))))))) (.refl _) rfl
        · have h := hk
          refine st_test h (fun hb h => ?_) (fun hb h => ?_)
          · refine st_appo (a := v4) (b := [92, (x5.toNat : Int)]) (c := (cNum .u8)) h (.refl _) (fun _ => rfl) rfl (fun x9 hi h => ?_)
            refine TL.le (τ := lex_Quote_L1_st p0 x9 (wr (v18 + 1))) ?_ ((ih_lex_Quote_L1 x9 (wr (v18 + 1)) _ h))
            exact Le.tow 0 1 rfl (.cons rfl (.refl _) (.cons rfl (.refl _) (.cons rfl (.refl _) (.cons rfl (.refl _) (.nil))))) (.refl _) rfl
          · refine st_appo (a := v4) (b := [(x5.toNat : Int)]) (c := (cNum .u8)) h (.refl _) (fun _ => rfl) rfl (fun x10 hi h => ?_)
            refine TL.le (τ := lex_Quote_L1_st p0 x10 (wr (v18 + 1))) ?_ ((ih_lex_Quote_L1 x10 (wr (v18 + 1)) _ h))
            exact Le.tow 0 1 rfl (.cons rfl (.refl _) (.cons rfl (.refl _) (.cons rfl (.refl _) (.cons rfl (.refl _) (.nil))))) (.refl _) rfl
  · exact JP1.a h (Le.tow 0 1 rfl (.cons rfl (.refl _) (.nil)) (.refl _) rfl)
theorem lex_Quote_L1_ok : ∀ (p0 : (List UInt8)) (v4 : (List Int)) (v18 : Int) (o4 : (List Int)), lex_Quote_L1 p0 v4 v18 = some o4 → TL (0, 0) Try.prog 49 lex_Quote_L1_c (JP1 (0, 0) 49 o4 (.exit 0) (lex_Quote_L1_x0 p0)) (lex_Quote_L1_st p0 v4 v18) := fun p0 v4 v18 o4 h => (lex_Quote_L1_grp p0) v4 v18 o4 h
noncomputable def strings_IndexByte (p0 : (List UInt8)) (p1 : Int) : Option (Int) :=
  internal_stringslite_IndexByte p0 p1 >>= fun x1 =>
  some x1
set_option maxRecDepth 100000 in
set_option maxHeartbeats 4000000 in
theorem strings_IndexByte_ok : ∀ (p0 : (List UInt8)) (p1 : Int) (o : Int), strings_IndexByte p0 p1 = some o → PCall Try.prog 81 [sV p0, nV .u8 p1] (t_strings_IndexByte o) := by
  intro p0 p1 o h
  unfold strings_IndexByte at h
  refine PCall.ofB mixed tbOk strings_IndexByte_lv Try.func81 rfl (by kernel_rfl) (Nat.le_of_ble_eq_true rfl) ?_
  refine st_call [sV p0, nV .u8 p1] t_internal_stringslite_IndexByte h (fun x1 hy => (internal_stringslite_IndexByte_ok p0 p1 x1 hy)) (fun x1 hy h => ?_)
  refine st_ret (t := t_strings_IndexByte) h ?_
  exact .refl _
noncomputable def utf_Is_L1 (x1 : (List UInt8)) (l4 : (List (Int × Int))) : Option (Unit ⊕ Unit) :=
  match l4 with
  | [] =>
    some (.inl ())
  | x2 :: r3 =>
    ( if (x2.1 == 65533) then
        some (x2.2 == 1)
      else
        some false : Option (Bool)) >>= fun o9 =>
    if o9 then
      some (.inr ())
    else
      utf_Is_L1 x1 r3 
  partial_fixpoint
set_option maxRecDepth 100000 in
set_option maxHeartbeats 4000000 in
theorem utf_Is_L1_grp : ∀ (x1 : (List UInt8)), (∀ (l4 : (List (Int × Int))) (o6 : Unit ⊕ Unit), utf_Is_L1 x1 l4 = some o6 → RL 1 0 Try.prog 15 (rgP utf_Is_L1_c) (rgA utf_Is_L1_c) (rgB utf_Is_L1_c) (utf_Is_L1_st x1).env (JP2 (0, 0) 15 o6 .normal (utf_Is_L1_x0 x1) .ret (utf_Is_L1_x1 x1)) (l4.map e_utf_all_1) (utf_Is_L1_st x1).s) := by
  intro x1
  refine utf_Is_L1.partial_correctness x1 _ ?_
  intro utf_Is_L1' ih_utf_Is_L1 l4 o6 h
  cases l4 with
  | nil =>
    refine rl_nil ?_
    exact JP2.a h (Le.tow 1 0 rfl (.cons rfl (.refl _) (.cons rfl (.refl _) (.nil))) (.refl _) rfl)
  | cons x2 r3 =>
    refine rl_cons (bwp_sound mixed tbOk (lv := utf_Is_lv) _ _ _ ?_)
    refine And.intro rfl (bwp_sound mixed tbOk (lv := utf_Is_lv) _ _ _ ?_)
    refine st_bind h (fun o9 ho hk => ?_)
    refine Exists.intro (JP1 _ _ o9 .normal (utf_Is_J0_0 x1 x2)) (And.intro ?_ (join1 ?_))
    · have h := ho
      refine st_test h (fun hb h => ?_) (fun hb h => ?_)
      · refine JP1.a h ?_
        exact Le.tow 1 0 rfl (.cons rfl (.refl _) (.cons rfl (.refl _) (.cons rfl (.refl _) (.cons rfl (.refl _) (.cons rfl (.refl _) (.nil)))))) (.refl _) rfl
      · refine JP1.a h ?_
        exact Le.tow 1 0 rfl (.cons rfl (.refl _) (.cons rfl (.refl _) (.cons rfl (.refl _) (.cons rfl (.refl _) (.cons rfl (.refl _) (.nil)))))) (.refl _) rfl
    · have h := hk
      refine st_test h (fun hb h => ?_) (fun hb h => ?_)
      · exact Exists.intro (⟨[[.p (bV false)]], []⟩ : S) (And.intro (Le.tow 1 0 rfl .nil (.refl _) rfl) (And.intro rfl (And.intro rfl (JP2.b h (Le.tow 1 0 rfl (.cons rfl (.refl _) (.nil)) (.refl _) rfl)))))
      · exact Exists.intro (utf_Is_L1_st x1 ).s (And.intro (Le.tow 1 0 rfl (.nil) (.refl _) rfl) (And.intro rfl (And.intro rfl ((ih_utf_Is_L1 r3 _ h)))))
theorem utf_Is_L1_ok : ∀ (x1 : (List UInt8)) (l4 : (List (Int × Int))) (o6 : Unit ⊕ Unit), utf_Is_L1 x1 l4 = some o6 → RL 1 0 Try.prog 15 (rgP utf_Is_L1_c) (rgA utf_Is_L1_c) (rgB utf_Is_L1_c) (utf_Is_L1_st x1).env (JP2 (0, 0) 15 o6 .normal (utf_Is_L1_x0 x1) .ret (utf_Is_L1_x1 x1)) (l4.map e_utf_all_1) (utf_Is_L1_st x1).s := fun x1 l4 o6 h => (utf_Is_L1_grp x1) l4 o6 h
noncomputable def utf_all (p0 : (List UInt8)) : Option ((List UInt8)) :=
  some p0
set_option maxRecDepth 100000 in
set_option maxHeartbeats 4000000 in
theorem utf_all_ok : ∀ (p0 : (List UInt8)) (o : (List UInt8)), utf_all p0 = some o → PCall Try.prog 90 [sV p0] (t_utf_all o) := by
  intro p0 o h
  unfold utf_all at h
  refine PCall.ofM mixed tbOk utf_all_lv Try.func90 rfl (by kernel_rfl) (Nat.le_of_ble_eq_true rfl) ?_
  refine st_ret (t := t_utf_all) h ?_
  exact .refl _
noncomputable def utf_is (p0 : Int) : Option (Bool) :=
  ( if (decide (p0 ≥ 0)) then
      if (decide (p0 ≤ 1114111)) then
        if (decide (p0 < 55296)) then
          some true
        else
          some (decide (p0 > 57343))
      else
        some false
    else
      some false : Option (Bool)) >>= fun o1 =>
  some o1
set_option maxRecDepth 100000 in
set_option maxHeartbeats 4000000 in
theorem utf_is_ok : ∀ (p0 : Int) (o : Bool), utf_is p0 = some o → PCall Try.prog 105 [nV .i32 p0] (t_utf_is o) := by
  intro p0 o h
  unfold utf_is at h
  refine PCall.ofB mixed tbOk utf_is_lv Try.func105 rfl (by kernel_rfl) (Nat.le_of_ble_eq_true rfl) ?_
  refine st_bind h (fun o1 ho hk => ?_)
  refine Exists.intro (JP1 _ _ o1 .normal (utf_is_J0_0 )) (And.intro ?_ (join1 ?_))
  · have h := ho
    refine st_test h (fun hb h => ?_) (fun hb h => ?_)
    · refine st_test h (fun hb h => ?_) (fun hb h => ?_)
      · refine st_test h (fun hb h => ?_) (fun hb h => ?_)
        · refine JP1.a h ?_
          exact Le.tow 0 0 rfl (.cons rfl (.refl _) (.nil)) (.refl _) rfl
        · refine JP1.a h ?_
          exact Le.tow 0 0 rfl (.cons rfl (.refl _) (.nil)) (.refl _) rfl
      · refine JP1.a h ?_
        exact Le.tow 0 0 rfl (.cons rfl (.refl _) (.nil)) (.refl _) rfl
    · refine bF ?_
      refine JP1.a h ?_
      exact Le.tow 0 0 rfl (.cons rfl (.refl _) (.nil)) (.refl _) rfl
  · have h := hk
    refine st_ret (t := t_utf_is) h ?_
    exact .refl _
noncomputable def utf_tail_L1 (p0 : (List UInt8)) (p2 : Int) (v1 : Int) (v14 : Int) : Option (Int ⊕ Unit) :=
  if (decide (v14 < p2)) then
    idx p0 v14 >>= fun x4 =>
    if ((bits .and .u8 (x4.toNat : Int) 192) != 128) then
      some (.inr ())
    else
      idx p0 v14 >>= fun x5 =>
      utf_tail_L1 p0 p2 (bits .or .i32 (IntKind.i32.wrap (v1 * 2 ^ (min (6 : Int).toNat (IntKind.i32.bits)))) (IntKind.i32.wrap (bits .and .u8 (x5.toNat : Int) 63))) (wr (v14 + 1))
  else
    some (.inl v1)
  partial_fixpoint
set_option maxRecDepth 100000 in
set_option maxHeartbeats 4000000 in
theorem utf_tail_L1_grp : ∀ (p0 : (List UInt8)) (p2 : Int), (∀ (v1 : Int) (v14 : Int) (o1 : Int ⊕ Unit), utf_tail_L1 p0 p2 v1 v14 = some o1 → TL (0, 0) Try.prog 32 utf_tail_L1_c (JP2 (0, 0) 32 o1 (.exit 0) (utf_tail_L1_x0 p0 p2) .ret (utf_tail_L1_x1 p0 p2)) (utf_tail_L1_st p0 p2 v1 v14)) := by
  intro p0 p2
  refine utf_tail_L1.partial_correctness p0 p2 _ ?_
  intro utf_tail_L1' ih_utf_tail_L1 v1 v14 o1 h
  refine TL.round (bwp_sound mixed tbOk (lv := utf_tail_lv) _ _ _ ?_)
  refine st_test h (fun hb h => ?_) (fun hb h => ?_)
  · refine st_sidx h (fun x4 hi h => ?_)
    refine st_test h (fun hb h => ?_) (fun hb h => ?_)
    · exact JP2.b h (Le.tow 0 0 rfl (.cons rfl (.refl _) (.cons rfl (.refl _) (.nil))) (.refl _) rfl)
    · refine And.intro (by decide) ?_
      refine st_sidx h (fun x5 hi h => ?_)
      refine vrfl ?_
      refine TL.le (τ := utf_tail_L1_st p0 p2 (bits .or .i32 (IntKind.i32.wrap (v1 * 2 ^ (min (6 : Int).toNat (IntKind.i32.bits)))) (IntKind.i32.wrap (bits .and .u8 (x5.toNat : Int) 63))) (wr (v14 + 1))) ?_ ((ih_utf_tail_L1 (bits .or .i32 (IntKind.i32.wrap (v1 * 2 ^ (min (6 : Int).toNat (IntKind.i32.bits)))) (IntKind.i32.wrap (bits .and .u8 (x5.toNat : Int) 63))) (wr (v14 + 1)) _ h))
      exact Le.tow 0 0 rfl (.cons rfl (.refl _) (.cons rfl (.refl _) (.cons rfl (.refl _) (.cons rfl (.refl _) (.nil))))) (.refl _) rfl
  · exact JP2.a h (Le.tow 0 0 rfl (.cons rfl (.refl _) (.nil)) (.refl _) rfl)
theorem utf_tail_L1_ok : ∀ (p0 : (List UInt8)) (p2 : Int) (v1 : Int) (v14 : Int) (o1 : Int ⊕ Unit), utf_tail_L1 p0 p2 v1 v14 = some o1 → TL (0, 0) Try.prog 32 utf_tail_L1_c (JP2 (0, 0) 32 o1 (.exit 0) (utf_tail_L1_x0 p0 p2) .ret (utf_tail_L1_x1 p0 p2)) (utf_tail_L1_st p0 p2 v1 v14) := fun p0 p2 v1 v14 o1 h => (utf_tail_L1_grp p0 p2) v1 v14 o1 h
noncomputable def utf_tail (p0 : (List UInt8)) (p1 : Int) (p2 : Int) : Option (Int × Bool) :=
  if (decide ((p0.length : Int) < p2)) then
    some (0, false)
  else
    (utf_tail_L1 p0 p2 p1 0) >>= fun o1 =>
    match o1 with
    | .inl y2 =>
      some (y2, true)
    | .inr y3 =>
      some (0, false)
set_option maxRecDepth 100000 in
set_option maxHeartbeats 4000000 in
theorem utf_tail_ok : ∀ (p0 : (List UInt8)) (p1 : Int) (p2 : Int) (o : Int × Bool), utf_tail p0 p1 p2 = some o → PCall Try.prog 104 [sV p0, nV .i32 p1, iV p2] (t_utf_tail o) := by
  intro p0 p1 p2 o h
  unfold utf_tail at h
  refine PCall.ofB mixed tbOk utf_tail_lv Try.func104 rfl (by kernel_rfl) (Nat.le_of_ble_eq_true rfl) ?_
  refine vrfl ?_
  refine st_test h (fun hb h => ?_) (fun hb h => ?_)
  · refine st_ret (t := t_utf_tail) h ?_
    exact .refl _
  · refine st_bind h (fun o1 ho hk => ?_)
    refine Exists.intro (JP2 _ _ o1 (.exit 0) (utf_tail_L1_x0 p0 p2) .ret (utf_tail_L1_x1 p0 p2)) (And.intro (T_le (τ := utf_tail_L1_st p0 p2 p1 0) ?_ (TL.loop (utf_tail_L1_ok p0 p2 p1 0 o1 ho))) (join2 (fun y2 hy => ?_) (fun y3 hy => ?_)))
    · exact Le.tow 0 0 rfl (.cons rfl (.refl _) (.cons rfl (.refl _) (.cons rfl (.refl _) (.cons rfl (.refl _) (.nil))))) (.refl _) rfl
    · have h := (by rw [hy] at hk; exact hk)
      refine st_ret (t := t_utf_tail) h ?_
      exact .refl _
    · have h := (by rw [hy] at hk; exact hk)
      refine st_ret (t := t_utf_tail) h ?_
      exact .refl _
noncomputable def utf_Next (p0 : (List UInt8)) (p1 : Int) : Option (Int × Int) :=
  ( if (decide (p1 < 0)) then
      some true
    else
      some (decide (p1 ≥ (p0.length : Int))) : Option (Bool)) >>= fun o1 =>
  if o1 then
    some (0, 0)
  else
    idx p0 p1 >>= fun x2 =>
    ( if (decide ((x2.toNat : Int) < 128)) then
        some (.inr (IntKind.i32.wrap (x2.toNat : Int)))
      else
        ( if (decide ((x2.toNat : Int) ≥ 192)) then
            some (decide ((x2.toNat : Int) < 224))
          else
            some false : Option (Bool)) >>= fun o6 =>
        if o6 then
          some (.inl ((IntKind.i32.wrap (bits .and .u8 (x2.toNat : Int) 31)), 128, 1))
        else
          ( if (decide ((x2.toNat : Int) ≥ 224)) then
              some (decide ((x2.toNat : Int) < 240))
            else
              some false : Option (Bool)) >>= fun o7 =>
          if o7 then
            some (.inl ((IntKind.i32.wrap (bits .and .u8 (x2.toNat : Int) 15)), 2048, 2))
          else
            ( if (decide ((x2.toNat : Int) ≥ 240)) then
                some (decide ((x2.toNat : Int) < 248))
              else
                some false : Option (Bool)) >>= fun o8 =>
            if o8 then
              some (.inl ((IntKind.i32.wrap (bits .and .u8 (x2.toNat : Int) 7)), 65536, 3))
            else
              some (.inr 65533) : Option ((Int × Int × Int) ⊕ Int)) >>= fun o3 =>
    match o3 with
    | .inl y4 =>
      cutL p0 (wr (p1 + 1)) (p0.length : Int) >>= fun x9 =>
      utf_tail x9 y4.1 y4.2.2 >>= fun x10 =>
      ( if (!x10.2) then
          some true
        else
          if (decide (x10.1 < y4.2.1)) then
            some true
          else
            utf_is x10.1 >>= fun x12 =>
            some (!x12) : Option (Bool)) >>= fun o11 =>
      if o11 then
        some (65533, 1)
      else
        some (x10.1, (wr (y4.2.2 + 1)))
    | .inr y5 =>
      some (y5, 1)
set_option maxRecDepth 100000 in
set_option maxHeartbeats 4000000 in
theorem utf_Next_ok : ∀ (p0 : (List UInt8)) (p1 : Int) (o : Int × Int), utf_Next p0 p1 = some o → PCall Try.prog 101 [sV p0, iV p1] (t_utf_Next o) := by
  intro p0 p1 o h
  unfold utf_Next at h
  refine PCall.ofB mixed tbOk utf_Next_lv Try.func101 rfl (by kernel_rfl) (Nat.le_of_ble_eq_true rfl) ?_
  refine st_bind h (fun o1 ho hk => ?_)
  refine Exists.intro (JP1 _ _ o1 .normal (utf_Next_J0_0 p0 p1)) (And.intro ?_ (join1 ?_))
  · have h := ho
    refine st_test h (fun hb h => ?_) (fun hb h => ?_)
    · refine JP1.a h ?_
      exact Le.tow 0 0 rfl (.cons rfl (.refl _) (.cons rfl (.refl _) (.cons rfl (.refl _) (.nil)))) (.refl _) rfl
    · refine vrfl ?_
      refine JP1.a h ?_
      exact Le.tow 0 0 rfl (.cons rfl (.refl _) (.cons rfl (.refl _) (.cons rfl (.refl _) (.nil)))) (.refl _) rfl
  · have h := hk
    refine st_test h (fun hb h => ?_) (fun hb h => ?_)
    · refine st_ret (t := t_utf_Next) h ?_
      exact .refl _
    · refine st_sidx h (fun x2 hi h => ?_)
      refine st_bind h (fun o3 ho hk => ?_)
      refine Exists.intro (JP2 _ _ o3 .normal (utf_Next_J1_0 p0 p1) .ret (utf_Next_J1_1 p0 p1)) (And.intro ?_ (join2 (fun y4 hy => ?_) (fun y5 hy => ?_)))
      · have h := ho
        refine st_test h (fun hb h => ?_) (fun hb h => ?_)
        · refine vrfl ?_
          refine JP2.b h ?_
          exact Le.tow 0 0 rfl (.cons rfl (.refl _) (.cons rfl (.refl _) (.nil))) (.refl _) rfl
        · refine st_bind h (fun o6 ho hk => ?_)
          refine Exists.intro (JP1 _ _ o6 .normal (utf_Next_J2_0 p0 p1 x2)) (And.intro ?_ (join1 ?_))
          · have h := ho
            refine st_test h (fun hb h => ?_) (fun hb h => ?_)
            · refine JP1.a h ?_
              exact Le.tow 0 0 rfl (.cons rfl (.refl _) (.cons rfl (.refl _) (.cons rfl (.refl _) (.cons rfl (.refl _) (.nil))))) (.refl _) rfl
            · refine JP1.a h ?_
              exact Le.tow 0 0 rfl (.cons rfl (.refl _) (.cons rfl (.refl _) (.cons rfl (.refl _) (.cons rfl (.refl _) (.nil))))) (.refl _) rfl
          · have h := hk
            refine st_test h (fun hb h => ?_) (fun hb h => ?_)
            · refine vrfl ?_
              refine JP2.a h ?_
              exact Le.tow 0 0 rfl (.cons rfl (.refl _) (.cons rfl (.refl _) (.cons rfl (.refl _) (.cons rfl (.refl _) (.cons rfl (.refl _) (.nil)))))) (.refl _) rfl
            · refine st_bind h (fun o7 ho hk => ?_)
              refine Exists.intro (JP1 _ _ o7 .normal (utf_Next_J3_0 p0 p1 x2)) (And.intro ?_ (join1 ?_))
              · have h := ho
                refine st_test h (fun hb h => ?_) (fun hb h => ?_)
                · refine JP1.a h ?_
                  exact Le.tow 0 0 rfl (.cons rfl (.refl _) (.cons rfl (.refl _) (.cons rfl (.refl _) (.cons rfl (.refl _) (.nil))))) (.refl _) rfl
                · refine JP1.a h ?_
                  exact Le.tow 0 0 rfl (.cons rfl (.refl _) (.cons rfl (.refl _) (.cons rfl (.refl _) (.cons rfl (.refl _) (.nil))))) (.refl _) rfl
              · have h := hk
                refine st_test h (fun hb h => ?_) (fun hb h => ?_)
                · refine vrfl ?_
                  refine JP2.a h ?_
                  exact Le.tow 0 0 rfl (.cons rfl (.refl _) (.cons rfl (.refl _) (.cons rfl (.refl _) (.cons rfl (.refl _) (.cons rfl (.refl _) (.nil)))))) (.refl _) rfl
                · refine st_bind h (fun o8 ho hk => ?_)
                  refine Exists.intro (JP1 _ _ o8 .normal (utf_Next_J4_0 p0 p1 x2)) (And.intro ?_ (join1 ?_))
                  · have h := ho
                    refine st_test h (fun hb h => ?_) (fun hb h => ?_)
                    · refine JP1.a h ?_
                      exact Le.tow 0 0 rfl (.cons rfl (.refl _) (.cons rfl (.refl _) (.cons rfl (.refl _) (.cons rfl (.refl _) (.nil))))) (.refl _) rfl
                    · refine JP1.a h ?_
                      exact Le.tow 0 0 rfl (.cons rfl (.refl _) (.cons rfl (.refl _) (.cons rfl (.refl _) (.cons rfl (.refl _) (.nil))))) (.refl _) rfl
                  · have h := hk
                    refine st_test h (fun hb h => ?_) (fun hb h => ?_)
                    · refine vrfl ?_
                      refine JP2.a h ?_
                      exact Le.tow 0 0 rfl (.cons rfl (.refl _) (.cons rfl (.refl _) (.cons rfl (.refl _) (.cons rfl (.refl _) (.cons rfl (.refl _) (.nil)))))) (.refl _) rfl
                    · refine JP2.b h ?_
                      exact Le.tow 0 0 rfl (.cons rfl (.refl _) (.cons rfl (.refl _) (.nil))) (.refl _) rfl
      · have h := (by rw [hy] at hk; exact hk)
        refine st_cuts (some (wr (p1 + 1))) none h (fun x9 hi h => ?_)
        refine st_call [sV x9, nV .i32 y4.1, iV y4.2.2] t_utf_tail h (fun x10 hy => (utf_tail_ok x9 y4.1 y4.2.2 x10 hy)) (fun x10 hy h => ?_)
        refine st_bind h (fun o11 ho hk => ?_)
        refine Exists.intro (JP1 _ _ o11 .normal (utf_Next_J5_0 y4 x10)) (And.intro ?_ (join1 ?_))
        · have h := ho
          refine st_test h (fun hb h => ?_) (fun hb h => ?_)
          · refine bT ?_
            refine JP1.a h ?_
            exact Le.tow 0 0 rfl (.cons rfl (.refl _) (.cons rfl (.refl _) (.cons rfl (.refl _) (.nil)))) (.refl _) rfl
          · refine st_test h (fun hb h => ?_) (fun hb h => ?_)
            · refine JP1.a h ?_
              exact Le.tow 0 0 rfl (.cons rfl (.refl _) (.cons rfl (.refl _) (.cons rfl (.refl _) (.nil)))) (.refl _) rfl
            · refine st_call [nV .i32 x10.1] t_utf_is h (fun x12 hy => (utf_is_ok x10.1 x12 hy)) (fun x12 hy h => ?_)
              refine JP1.a h ?_
              exact Le.tow 0 0 rfl (.cons rfl (.refl _) (.cons rfl (.refl _) (.cons rfl (.refl _) (.nil)))) (.refl _) rfl
        · have h := hk
          refine st_test h (fun hb h => ?_) (fun hb h => ?_)
          · refine st_ret (t := t_utf_Next) h ?_
            exact .refl _
          · refine st_ret (t := t_utf_Next) h ?_
            exact .refl _
      · have h := (by rw [hy] at hk; exact hk)
        refine st_ret (t := t_utf_Next) h ?_
        exact .refl _
noncomputable def utf_all_1_L1 (p0 : (List UInt8)) (v3 : Int) : Option ((List (Int × Int)) × (Unit)) :=
  if (decide (v3 < (p0.length : Int))) then
    utf_Next p0 v3 >>= fun x3 =>
    ( utf_all_1_L1 p0 (wr (v3 + x3.2))) >>= fun q => some ((x3.1, x3.2) :: q.1, q.2)
  else
    some ([], ())
  partial_fixpoint
set_option maxRecDepth 100000 in
set_option maxHeartbeats 4000000 in
theorem utf_all_1_L1_grp : ∀ (p0 : (List UInt8)), (∀ (v3 : Int) (o2 : (List (Int × Int)) × (Unit)), utf_all_1_L1 p0 v3 = some o2 → ∀ (gxs gp gpost gq1 : List (List V)), gxs = gp ++ (o2.1.map e_utf_all_1 ++ gpost) → gxs = gq1 ++ gpost → TL (0, 1) Try.prog 24 utf_all_1_L1_c (Qs (0, 1) 24 gxs (JP1 (0, 1) 24 o2.2 (.exit 0) (utf_all_1_L1_x0 p0 gxs gq1))) (utf_all_1_L1_st p0 v3 gxs gp)) := by
  intro p0
  refine utf_all_1_L1.partial_correctness p0 _ ?_
  intro utf_all_1_L1' ih_utf_all_1_L1 v3 o2 h
  intro gxs gp gpost gq1 hx hq
  refine TL.round (bwp_sound mixed tbOk (lv := utf_all_1_lv) _ _ _ ?_)
  refine vrfl ?_
  refine st_test h (fun hb h => ?_) (fun hb h => ?_)
  · refine st_call [sV p0, iV v3] t_utf_Next h (fun x3 hy => (utf_Next_ok p0 v3 x3 hy)) (fun x3 hy h => ?_)
    refine st_yld (c := e_utf_all_1) h hx (.refl _) (by exact rfl) (by exact rfl) (fun _ h hx => ?_) ?_
    · refine bF ?_
      refine TL.le (τ := utf_all_1_L1_st p0 (wr (v3 + x3.2)) gxs (gp ++ [e_utf_all_1 (x3.1, x3.2)])) ?_ ((ih_utf_all_1_L1 (wr (v3 + x3.2)) _ h) _ _ _ _ hx hq)
      exact Le.tow 0 1 rfl (.cons rfl (.refl _) (.cons rfl (.refl _) (.cons rfl (.refl _) (.nil)))) (.refl _) rfl
    · refine bT ?_
      exact .inr ⟨rfl, _, (Le.env0 _).trans (Le.tow 0 1 rfl .nil (.refl _) rfl), rfl, rfl, rfl⟩
  · exact .inl (JP1.a (sndI h) (Le.tow 0 1 rfl (.nil) (.refl _) (liveQ h hx hq rfl)))
theorem utf_all_1_L1_ok : ∀ (p0 : (List UInt8)) (v3 : Int) (o2 : (List (Int × Int)) × (Unit)), utf_all_1_L1 p0 v3 = some o2 → ∀ (gxs gp gpost gq1 : List (List V)), gxs = gp ++ (o2.1.map e_utf_all_1 ++ gpost) → gxs = gq1 ++ gpost → TL (0, 1) Try.prog 24 utf_all_1_L1_c (Qs (0, 1) 24 gxs (JP1 (0, 1) 24 o2.2 (.exit 0) (utf_all_1_L1_x0 p0 gxs gq1))) (utf_all_1_L1_st p0 v3 gxs gp) := fun p0 v3 o2 h => (utf_all_1_L1_grp p0) v3 o2 h
noncomputable def utf_all_1 (p0 : (List UInt8)) : Option ((List (Int × Int)) × Unit) :=
  ( utf_all_1_L1 p0 0) >>= fun o2 => (
    some ([], ())) >>= fun q => some (o2.1 ++ q.1, q.2)
set_option maxRecDepth 100000 in
set_option maxHeartbeats 4000000 in
theorem utf_all_1_ok : ∀ (p0 : (List UInt8)) (o : (List (Int × Int)) × Unit), utf_all_1 p0 = some o → ∀ gxs : List (List V), gxs = o.1.map e_utf_all_1 → IterOK Try.prog 100 [.ep [sV p0]] gxs := by
  intro p0 o h
  unfold utf_all_1 at h
  intro gxs hg
  have hx : gxs = [] ++ (o.1.map e_utf_all_1 ++ []) := by simp [hg]
  refine IterOK.ofB mixed tbOk utf_all_1_lv Try.func100 rfl (by kernel_rfl) (Nat.le_of_ble_eq_true rfl) rfl ?_
  refine st_bindI h hx (fun o2 lgq1 gq1 ho hk hxa hjgq1 => ?_)
  refine Exists.intro (Qs _ _ gxs (JP1 _ _ o2.2 (.exit 0) (utf_all_1_L1_x0 p0 gxs gq1))) (And.intro (T_le (τ := utf_all_1_L1_st p0 0 gxs ([] : List (List V))) ?_ (TL.loop ((utf_all_1_L1_ok p0 0 o2 ho) _ _ _ _ hxa hjgq1))) (joinS (join1 ?_) ?_))
  · exact Le.tow 0 1 rfl (.cons rfl (.refl _) (.cons rfl (.refl _) (.cons rfl (.refl _) (.nil)))) (.refl _) rfl
  · have h := hk
    have hx := hjgq1
    exact st_iend h hx (.inl rfl) rfl
  · exact fun s1 h1 h2 hs => st_istop (.inr rfl) hs
noncomputable def utf_Is (p0 : (List UInt8)) : Option (Bool) :=
  utf_all p0 >>= fun x1 =>
  utf_all_1 x1 >>= fun y5 =>
  (utf_Is_L1 x1 y5.1) >>= fun o6 =>
  match o6 with
  | .inl y7 =>
    some true
  | .inr y8 =>
    some false
set_option maxRecDepth 100000 in
set_option maxHeartbeats 4000000 in
theorem utf_Is_ok : ∀ (p0 : (List UInt8)) (o : Bool), utf_Is p0 = some o → PCall Try.prog 80 [sV p0] (t_utf_Is o) := by
  intro p0 o h
  unfold utf_Is at h
  refine PCall.ofB mixed tbOk utf_Is_lv Try.func80 rfl (by kernel_rfl) (Nat.le_of_ble_eq_true rfl) ?_
  refine st_call [sV p0] t_utf_all h (fun x1 hy => (utf_all_ok p0 x1 hy)) (fun x1 hy h => ?_)
  refine st_bind h (fun y5 hy5 h => ?_)
  refine st_bind h (fun o6 ho hk => ?_)
  refine Exists.intro (JP2 _ _ o6 .normal (utf_Is_L1_x0 x1) .ret (utf_Is_L1_x1 x1)) (And.intro (T_le (τ := utf_Is_L1_st x1) ?_ (T_range (g := 100) (cap := [.ep [sV x1]]) rfl ((utf_all_1_ok x1 y5 hy5) _ rfl) (mapSize fun _ => rfl) rfl (Nat.le_of_ble_eq_true rfl) (Nat.le_of_ble_eq_true rfl) (utf_Is_L1_ok x1 y5.1 o6 ho))) (join2 (fun y7 hy => ?_) (fun y8 hy => ?_)))
  · exact Le.tow 1 0 rfl (.cons rfl (.refl _) (.cons rfl (.refl _) (.nil))) (.refl _) rfl
  · have h := (by rw [hy] at hk; exact hk)
    refine st_ret (t := t_utf_Is) h ?_
    exact .refl _
  · have h := (by rw [hy] at hk; exact hk)
    refine st_ret (t := t_utf_Is) h ?_
    exact .refl _
noncomputable def lex_Quote (p0 : (List UInt8)) : Option ((List UInt8) × Bool) :=
  ( utf_Is p0 >>= fun x2 =>
    if (!x2) then
      some true
    else
      strings_IndexByte p0 13 >>= fun x3 =>
      some (decide (x3 ≥ 0)) : Option (Bool)) >>= fun o1 =>
  if o1 then
    some ([], false)
  else
    (lex_Quote_L1 p0 [34] 0) >>= fun o4 =>
    appL 1 o4 [34] >>= fun x11 =>
    b2s x11 >>= fun x12 =>
    some (x12, true)
set_option maxRecDepth 100000 in
set_option maxHeartbeats 4000000 in
theorem lex_Quote_ok : ∀ (p0 : (List UInt8)) (o : (List UInt8) × Bool), lex_Quote p0 = some o → PCall Try.prog 67 [sV p0] (t_lex_Quote o) := by
  intro p0 o h
  unfold lex_Quote at h
  refine PCall.ofB mixed tbOk lex_Quote_lv Try.func67 rfl (by kernel_rfl) (Nat.le_of_ble_eq_true rfl) ?_
  refine st_bind h (fun o1 ho hk => ?_)
  refine Exists.intro (JP1 _ _ o1 .normal (lex_Quote_J0_0 p0)) (And.intro ?_ (join1 ?_))
  · have h := ho
    refine st_call [sV p0] t_utf_Is h (fun x2 hy => (utf_Is_ok p0 x2 hy)) (fun x2 hy h => ?_)
    refine st_test h (fun hb h => ?_) (fun hb h => ?_)
    · refine JP1.a h ?_
      exact Le.tow 0 0 rfl (.cons rfl (.refl _) (.cons rfl (.refl _) (.nil))) (.refl _) rfl
    · refine st_call [sV p0, nV .u8 13] t_strings_IndexByte h (fun x3 hy => (strings_IndexByte_ok p0 13 x3 hy)) (fun x3 hy h => ?_)
      refine JP1.a h ?_
      exact Le.tow 0 0 rfl (.cons rfl (.refl _) (.cons rfl (.refl _) (.nil))) (.refl _) rfl
  · have h := hk
    refine st_test h (fun hb h => ?_) (fun hb h => ?_)
    · refine st_ret (t := t_lex_Quote) h ?_
      exact .refl _
    · refine vrfl ?_
      refine st_bind h (fun o4 ho hk => ?_)
      refine Exists.intro (JP1 _ _ o4 (.exit 0) (lex_Quote_L1_x0 p0)) (And.intro (T_le (τ := lex_Quote_L1_st p0 [34] 0) ?_ (TL.loop (lex_Quote_L1_ok p0 [34] 0 o4 ho))) (join1 ?_))
      · exact Le.trans (τ := ⟨[(0, .p (sV p0)), (4, .p (.sl true ([34].map (cNum .u8)))), (17, .p (iV (p0.length : Int))), (18, .p (iV 0))], ⟨[], []⟩⟩) (Le.tow 0 0 rfl (.cons rfl (.refl _) (.cons rfl (.refl _) (.cons rfl (.refl _) (.cons rfl (.refl _) (.nil))))) (.refl _) rfl) ((Le.ownW 4 5 1 rfl (mapSize fun _ => rfl)).trans (Le.tow 0 1 rfl (.cons rfl (.refl _) (.cons rfl (.refl _) (.cons rfl (.refl _) (.cons rfl (.refl _) (.nil))))) (.refl _) rfl))
      have h := hk
      refine st_appo (a := o4) (b := [34]) (c := (cNum .u8)) h (.refl _) (fun _ => rfl) rfl (fun x11 hi h => ?_)
      refine st_b2s (l := x11) h (fun x12 hi h => ?_)
      refine st_ret (t := t_lex_Quote) h ?_
      exact .refl _
noncomputable def lex_digit (p0 : Int) : Option (Bool) :=
  ( if (decide (p0 ≥ 48)) then
      some (decide (p0 ≤ 57))
    else
      some false : Option (Bool)) >>= fun o1 =>
  some o1
set_option maxRecDepth 100000 in
set_option maxHeartbeats 4000000 in
theorem lex_digit_ok : ∀ (p0 : Int) (o : Bool), lex_digit p0 = some o → PCall Try.prog 99 [nV .u8 p0] (t_lex_digit o) := by
  intro p0 o h
  unfold lex_digit at h
  refine PCall.ofB mixed tbOk lex_digit_lv Try.func99 rfl (by kernel_rfl) (Nat.le_of_ble_eq_true rfl) ?_
  refine st_bind h (fun o1 ho hk => ?_)
  refine Exists.intro (JP1 _ _ o1 .normal (lex_digit_J0_0 )) (And.intro ?_ (join1 ?_))
  · have h := ho
    refine st_test h (fun hb h => ?_) (fun hb h => ?_)
    · refine JP1.a h ?_
      exact Le.tow 0 0 rfl (.cons rfl (.refl _) (.nil)) (.refl _) rfl
    · refine JP1.a h ?_
      exact Le.tow 0 0 rfl (.cons rfl (.refl _) (.nil)) (.refl _) rfl
  · have h := hk
    refine st_ret (t := t_lex_digit) h ?_
    exact .refl _
noncomputable def lex_letter (p0 : Int) : Option (Bool) :=
  ( if (decide (p0 ≥ 97)) then
      if (decide (p0 ≤ 122)) then
        some true
      else
        lex_digit p0 >>= fun x2 =>
        if x2 then
          some true
        else
          some (p0 == 95)
    else
      lex_digit p0 >>= fun x3 =>
      if x3 then
        some true
      else
        some (p0 == 95) : Option (Bool)) >>= fun o1 =>
  some o1
set_option maxRecDepth 100000 in
set_option maxHeartbeats 4000000 in
theorem lex_letter_ok : ∀ (p0 : Int) (o : Bool), lex_letter p0 = some o → PCall Try.prog 88 [nV .u8 p0] (t_lex_letter o) := by
  intro p0 o h
  unfold lex_letter at h
  refine PCall.ofB mixed tbOk lex_letter_lv Try.func88 rfl (by kernel_rfl) (Nat.le_of_ble_eq_true rfl) ?_
  refine st_bind h (fun o1 ho hk => ?_)
  refine Exists.intro (JP1 _ _ o1 .normal (lex_letter_J0_0 )) (And.intro ?_ (join1 ?_))
  · have h := ho
    refine st_test h (fun hb h => ?_) (fun hb h => ?_)
    · refine st_test h (fun hb h => ?_) (fun hb h => ?_)
      · refine bT ?_
        refine JP1.a h ?_
        exact Le.tow 0 0 rfl (.cons rfl (.refl _) (.nil)) (.refl _) rfl
      · refine st_call [nV .u8 p0] t_lex_digit h (fun x2 hy => (lex_digit_ok p0 x2 hy)) (fun x2 hy h => ?_)
        refine st_test h (fun hb h => ?_) (fun hb h => ?_)
        · refine JP1.a h ?_
          exact Le.tow 0 0 rfl (.cons rfl (.refl _) (.nil)) (.refl _) rfl
        · refine JP1.a h ?_
          exact Le.tow 0 0 rfl (.cons rfl (.refl _) (.nil)) (.refl _) rfl
    · refine bF ?_
      refine st_call [nV .u8 p0] t_lex_digit h (fun x3 hy => (lex_digit_ok p0 x3 hy)) (fun x3 hy h => ?_)
      refine st_test h (fun hb h => ?_) (fun hb h => ?_)
      · refine JP1.a h ?_
        exact Le.tow 0 0 rfl (.cons rfl (.refl _) (.nil)) (.refl _) rfl
      · refine JP1.a h ?_
        exact Le.tow 0 0 rfl (.cons rfl (.refl _) (.nil)) (.refl _) rfl
  · have h := hk
    refine st_ret (t := t_lex_letter) h ?_
    exact .refl _
noncomputable def lex_Word_L1 (p0 : (List UInt8)) (v6 : Int) : Option (Unit ⊕ Unit) :=
  if (decide (v6 < (p0.length : Int))) then
    idx p0 v6 >>= fun x4 =>
    lex_letter (x4.toNat : Int) >>= fun x5 =>
    if (!x5) then
      some (.inr ())
    else
      lex_Word_L1 p0 (wr (v6 + 1))
  else
    some (.inl ())
  partial_fixpoint
set_option maxRecDepth 100000 in
set_option maxHeartbeats 4000000 in
theorem lex_Word_L1_grp : ∀ (p0 : (List UInt8)), (∀ (v6 : Int) (o1 : Unit ⊕ Unit), lex_Word_L1 p0 v6 = some o1 → TL (0, 0) Try.prog 27 lex_Word_L1_c (JP2 (0, 0) 27 o1 (.exit 0) (lex_Word_L1_x0 p0) .ret (lex_Word_L1_x1 p0)) (lex_Word_L1_st p0 v6)) := by
  intro p0
  refine lex_Word_L1.partial_correctness p0 _ ?_
  intro lex_Word_L1' ih_lex_Word_L1 v6 o1 h
  refine TL.round (bwp_sound mixed tbOk (lv := lex_Word_lv) _ _ _ ?_)
  refine st_test h (fun hb h => ?_) (fun hb h => ?_)
  · refine st_sidx h (fun x4 hi h => ?_)
    refine st_call [nV .u8 (x4.toNat : Int)] t_lex_letter h (fun x5 hy => (lex_letter_ok (x4.toNat : Int) x5 hy)) (fun x5 hy h => ?_)
    refine st_test h (fun hb h => ?_) (fun hb h => ?_)
    · exact JP2.b h (Le.tow 0 0 rfl (.cons rfl (.refl _) (.nil)) (.refl _) rfl)
    · refine TL.le (τ := lex_Word_L1_st p0 (wr (v6 + 1))) ?_ ((ih_lex_Word_L1 (wr (v6 + 1)) _ h))
      exact Le.tow 0 0 rfl (.cons rfl (.refl _) (.cons rfl (.refl _) (.cons rfl (.refl _) (.nil)))) (.refl _) rfl
  · exact JP2.a h (Le.tow 0 0 rfl (.cons rfl (.refl _) (.nil)) (.refl _) rfl)
theorem lex_Word_L1_ok : ∀ (p0 : (List UInt8)) (v6 : Int) (o1 : Unit ⊕ Unit), lex_Word_L1 p0 v6 = some o1 → TL (0, 0) Try.prog 27 lex_Word_L1_c (JP2 (0, 0) 27 o1 (.exit 0) (lex_Word_L1_x0 p0) .ret (lex_Word_L1_x1 p0)) (lex_Word_L1_st p0 v6) := fun p0 v6 o1 h => (lex_Word_L1_grp p0) v6 o1 h
noncomputable def lex_Word (p0 : (List UInt8)) : Option (Bool) :=
  (lex_Word_L1 p0 0) >>= fun o1 =>
  match o1 with
  | .inl y2 =>
    ( if (!(p0 == [])) then
        if (decide ((p0.length : Int) ≤ 32)) then
          idx p0 0 >>= fun x7 =>
          some (decide ((x7.toNat : Int) ≥ 97))
        else
          some false
      else
        some false : Option (Bool)) >>= fun o6 =>
    some o6
  | .inr y3 =>
    some false
set_option maxRecDepth 100000 in
set_option maxHeartbeats 4000000 in
theorem lex_Word_ok : ∀ (p0 : (List UInt8)) (o : Bool), lex_Word p0 = some o → PCall Try.prog 76 [sV p0] (t_lex_Word o) := by
  intro p0 o h
  unfold lex_Word at h
  refine PCall.ofB mixed tbOk lex_Word_lv Try.func76 rfl (by kernel_rfl) (Nat.le_of_ble_eq_true rfl) ?_
  refine vrfl ?_
  refine st_bind h (fun o1 ho hk => ?_)
  refine Exists.intro (JP2 _ _ o1 (.exit 0) (lex_Word_L1_x0 p0) .ret (lex_Word_L1_x1 p0)) (And.intro (T_le (τ := lex_Word_L1_st p0 0) ?_ (TL.loop (lex_Word_L1_ok p0 0 o1 ho))) (join2 (fun y2 hy => ?_) (fun y3 hy => ?_)))
  · exact Le.tow 0 0 rfl (.cons rfl (.refl _) (.cons rfl (.refl _) (.cons rfl (.refl _) (.nil)))) (.refl _) rfl
  · have h := (by rw [hy] at hk; exact hk)
    refine st_bind h (fun o6 ho hk => ?_)
    refine Exists.intro (JP1 _ _ o6 .normal (lex_Word_J0_0 )) (And.intro ?_ (join1 ?_))
    · have h := ho
      refine st_test h (fun hb h => ?_) (fun hb h => ?_)
      · refine vrfl ?_
        refine st_test h (fun hb h => ?_) (fun hb h => ?_)
        · refine st_sidx h (fun x7 hi h => ?_)
          refine JP1.a h ?_
          exact Le.tow 0 0 rfl (.cons rfl (.refl _) (.nil)) (.refl _) rfl
        · refine JP1.a h ?_
          exact Le.tow 0 0 rfl (.cons rfl (.refl _) (.nil)) (.refl _) rfl
      · refine bF ?_
        refine JP1.a h ?_
        exact Le.tow 0 0 rfl (.cons rfl (.refl _) (.nil)) (.refl _) rfl
    · have h := hk
      refine st_ret (t := t_lex_Word) h ?_
      exact .refl _
  · have h := (by rw [hy] at hk; exact hk)
    refine st_ret (t := t_lex_Word) h ?_
    exact .refl _
noncomputable def nunciolaw19_TreeLong_L1 (p2 : Bool) (v7 : (List Int)) (v8 : Int) : Option ((List Int)) :=
  if (decide (v8 < (v7.length : Int))) then
    idx v7 v8 >>= fun x3 =>
    nunciolaw19_TreeLong_L1 p2 (v7.set v8.toNat 97) (wr (v8 + 1))
  else
    some v7
  partial_fixpoint
set_option maxRecDepth 100000 in
set_option maxHeartbeats 4000000 in
theorem nunciolaw19_TreeLong_L1_grp : ∀ (p2 : Bool), (∀ (v7 : (List Int)) (v8 : Int) (o2 : (List Int)), nunciolaw19_TreeLong_L1 p2 v7 v8 = some o2 → TL (0, 0) Try.prog 67 nunciolaw19_TreeLong_L1_c (JP1 (0, 0) 67 o2 (.exit 0) (nunciolaw19_TreeLong_L1_x0 p2)) (nunciolaw19_TreeLong_L1_st p2 v7 v8)) := by
  intro p2
  refine nunciolaw19_TreeLong_L1.partial_correctness p2 _ ?_
  intro nunciolaw19_TreeLong_L1' ih_nunciolaw19_TreeLong_L1 v7 v8 o2 h
  refine TL.round (bwp_sound mixed tbOk (lv := nunciolaw19_TreeLong_lv) _ _ _ ?_)
  refine And.intro rfl (Exists.intro _ (And.intro (List.length_map _) ?_))
  refine st_test h (fun hb h => ?_) (fun hb h => ?_)
  · refine st_xidx (l := v7) (c := (cNum .u8)) (c' := (cNum .u8)) h rfl (fun _ => rfl) (fun _ => rfl) (by decide) (fun x3 hi h => ?_)
    refine And.intro rfl (And.intro (Nat.le_of_ble_eq_true rfl) (And.intro rfl (And.intro rfl (Exists.intro ((v7.set v8.toNat 97).map (cNum .u8)) (And.intro (setMap (.refl _)) ?_)))))
    refine TL.le (τ := nunciolaw19_TreeLong_L1_st p2 (v7.set v8.toNat 97) (wr (v8 + 1))) ?_ ((ih_nunciolaw19_TreeLong_L1 (v7.set v8.toNat 97) (wr (v8 + 1)) _ h))
    exact Le.trans (τ := ⟨[(2, .p (bV p2)), (7, .x 0 2 (.sl 5 1 ((v7.set v8.toNat 97).map (cNum .u8)))), (8, .p (iV (wr (v8 + 1))))], ⟨[], [2]⟩⟩) (Le.tow 0 1 rfl (.cons rfl (.refl _) (.cons rfl (.refl _) (.cons rfl (.refl _) (.nil)))) (.refl _) rfl) ((Le.ver (.s 7) 0 2 1 rfl rfl rfl rfl).trans (Le.tow 0 1 rfl (.cons rfl (.refl _) (.cons rfl (.refl _) (.cons rfl (.refl _) (.nil)))) (.refl _) rfl))
  · exact JP1.a h (Le.tow 0 1 rfl (.cons rfl (.refl _) (.cons rfl (.refl _) (.nil))) (.refl _) rfl)
theorem nunciolaw19_TreeLong_L1_ok : ∀ (p2 : Bool) (v7 : (List Int)) (v8 : Int) (o2 : (List Int)), nunciolaw19_TreeLong_L1 p2 v7 v8 = some o2 → TL (0, 0) Try.prog 67 nunciolaw19_TreeLong_L1_c (JP1 (0, 0) 67 o2 (.exit 0) (nunciolaw19_TreeLong_L1_x0 p2)) (nunciolaw19_TreeLong_L1_st p2 v7 v8) := fun p2 v7 v8 o2 h => (nunciolaw19_TreeLong_L1_grp p2) v7 v8 o2 h
noncomputable def strings_Builder_Len_2 (h0_0 : Bool) (h0_1 : (List Int)) : Option (Int) :=
  some (h0_1.length : Int)
set_option maxRecDepth 100000 in
set_option maxHeartbeats 4000000 in
theorem strings_Builder_Len_2_ok : ∀ (h0_0 : Bool) (h0_1 : (List Int)) (o : Int), strings_Builder_Len_2 h0_0 h0_1 = some o → CallOK Try.prog 21 [.ptr 0 0] ⟨[[.sp Try.prog 63 h0_0 0 0, .own 0 5 1 (h0_1.map (cNum .u8))]], [(h0_1.map (cNum .u8)).length]⟩ (t_strings_Builder_Len_2 o) ⟨[[.sp Try.prog 63 h0_0 0 0, .own 0 5 1 (h0_1.map (cNum .u8))]], [(h0_1.map (cNum .u8)).length]⟩ := by
  intro h0_0 h0_1 o h
  unfold strings_Builder_Len_2 at h
  refine CallOK.ofB mixed tbOk strings_Builder_Len_2_lv Try.func21 rfl (by kernel_rfl) (Nat.le_of_ble_eq_true rfl) rfl rfl rfl ?_
  refine view (lenMap _ _) rfl ?_
  refine Exists.intro _ (And.intro (Le.refl _ _ _) ?_)
  exact st_retc (t := t_strings_Builder_Len_2) (ss := fun o => ⟨[[.sp Try.prog 63 h0_0 0 0, .own 0 5 1 (h0_1.map (cNum .u8))]], [(h0_1.map (cNum .u8)).length]⟩) h ⟨[0], rfl, .refl _, .refl _, rfl⟩
noncomputable def strings_Builder_String_2 (h0_0 : Bool) (h0_1 : (List Int)) : Option ((List UInt8)) :=
  b2s h0_1
set_option maxRecDepth 100000 in
set_option maxHeartbeats 4000000 in
theorem strings_Builder_String_2_ok : ∀ (h0_0 : Bool) (h0_1 : (List Int)) (o : (List UInt8)), strings_Builder_String_2 h0_0 h0_1 = some o → CallOK Try.prog 22 [.ptr 0 0] ⟨[[.sp Try.prog 63 h0_0 0 0, .own 0 5 1 (h0_1.map (cNum .u8))]], [(h0_1.map (cNum .u8)).length]⟩ (t_strings_Builder_String_2 o) ⟨[[.sp Try.prog 63 h0_0 0 0, .p (.sl false (h0_1.map (cNum .u8)))]], [((h0_1.map (cNum .u8)).length + 1)]⟩ := by
  intro h0_0 h0_1 o h
  unfold strings_Builder_String_2 at h
  exact builderString_ok [[.sp Try.prog 63 h0_0 0 0, .own 0 5 1 (h0_1.map (cNum .u8))]] [(h0_1.map (cNum .u8)).length] 0 0 [.sp Try.prog 63 h0_0 0 0, .own 0 5 1 (h0_1.map (cNum .u8))] (h0_1.map (cNum .u8)) rfl rfl rfl (b2s_cells h)
noncomputable def tree_Count_L1 (x1 : (List api_Node) × Int) (l4 : (List (api_Node × Int))) (h0_0 : Int) : Option (Int) :=
  match l4 with
  | [] =>
    some h0_0
  | x2 :: r3 =>
    tree_Count_L1 x1 r3 (wr (h0_0 + 1))
  partial_fixpoint
set_option maxRecDepth 100000 in
set_option maxHeartbeats 4000000 in
theorem tree_Count_L1_grp : ∀ (x1 : (List api_Node) × Int), (∀ (l4 : (List (api_Node × Int))) (h0_0 : Int) (o6 : Int), tree_Count_L1 x1 l4 h0_0 = some o6 → RL 1 0 Try.prog 11 (rgP tree_Count_L1_c) (rgA tree_Count_L1_c) (rgB tree_Count_L1_c) (tree_Count_L1_st x1 h0_0).env (JP1 (0, 0) 11 o6 .normal (tree_Count_L1_x0 x1)) (l4.map e_tree_all_1) (tree_Count_L1_st x1 h0_0).s) := by
  intro x1
  refine tree_Count_L1.partial_correctness x1 _ ?_
  intro tree_Count_L1' ih_tree_Count_L1 l4 h0_0 o6 h
  cases l4 with
  | nil =>
    refine rl_nil ?_
    exact JP1.a h (Le.tow 1 0 rfl (.cons rfl (.refl _) (.cons rfl (.refl _) (.nil))) (.refl _) rfl)
  | cons x2 r3 =>
    refine rl_cons (bwp_sound mixed tbOk (lv := tree_Count_lv) _ _ _ ?_)
    refine And.intro rfl (bwp_sound mixed tbOk (lv := tree_Count_lv) _ _ _ ?_)
    exact Exists.intro (tree_Count_L1_st x1 (wr (h0_0 + 1))).s (And.intro (Le.tow 1 0 rfl (.nil) (.refl _) rfl) (And.intro rfl (And.intro rfl ((ih_tree_Count_L1 r3 (wr (h0_0 + 1)) _ h)))))
theorem tree_Count_L1_ok : ∀ (x1 : (List api_Node) × Int) (l4 : (List (api_Node × Int))) (h0_0 : Int) (o6 : Int), tree_Count_L1 x1 l4 h0_0 = some o6 → RL 1 0 Try.prog 11 (rgP tree_Count_L1_c) (rgA tree_Count_L1_c) (rgB tree_Count_L1_c) (tree_Count_L1_st x1 h0_0).env (JP1 (0, 0) 11 o6 .normal (tree_Count_L1_x0 x1)) (l4.map e_tree_all_1) (tree_Count_L1_st x1 h0_0).s := fun x1 l4 h0_0 o6 h => (tree_Count_L1_grp x1) l4 h0_0 o6 h
noncomputable def tree_all (p0 : (List api_Node)) (p1 : Int) : Option ((List api_Node) × Int) :=
  some (p0, p1)
set_option maxRecDepth 100000 in
set_option maxHeartbeats 4000000 in
theorem tree_all_ok : ∀ (p0 : (List api_Node)) (p1 : Int) (o : (List api_Node) × Int), tree_all p0 p1 = some o → PCall Try.prog 51 [.sl false (p0.map c_api_Node), iV p1] (t_tree_all o) := by
  intro p0 p1 o h
  unfold tree_all at h
  refine PCall.ofM mixed tbOk tree_all_lv Try.func51 rfl (by kernel_rfl) (Nat.le_of_ble_eq_true rfl) ?_
  refine st_ret (t := t_tree_all) h ?_
  exact .refl _
noncomputable def tree_all_1_L3 (p0 : (List api_Node)) (p1 : Int) (v12 : Int) (x3 : api_Node) (v28 : Int) (x7 : (List api_Node) × Int) (l10 : (List (api_Node × Int))) : Option ((List (api_Node × Int)) × (Unit)) :=
  match l10 with
  | [] =>
    some ([], ())
  | x8 :: r9 =>
    ( tree_all_1_L3 p0 p1 v12 x3 v28 x7 r9 ) >>= fun q => some (((api_Node.mk x8.1.Kind x8.1.Name x8.1.Text x8.1.N x8.1.L x8.1.Then x8.1.Else), x8.2) :: q.1, q.2)
  partial_fixpoint
set_option maxRecDepth 100000 in
set_option maxHeartbeats 4000000 in
theorem tree_all_1_L3_grp : ∀ (p0 : (List api_Node)) (p1 : Int) (v12 : Int) (x3 : api_Node) (v28 : Int) (x7 : (List api_Node) × Int), (∀ (l10 : (List (api_Node × Int))) (o13 : (List (api_Node × Int)) × (Unit)), tree_all_1_L3 p0 p1 v12 x3 v28 x7 l10 = some o13 → ∀ (gxs gp gpost gq12 : List (List V)), gxs = gp ++ (o13.1.map e_tree_all_1 ++ gpost) → gxs = gq12 ++ gpost → RL 2 1 Try.prog 44 (rgP tree_all_1_L3_c) (rgA tree_all_1_L3_c) (rgB tree_all_1_L3_c) (tree_all_1_L3_st p0 p1 v12 x3 v28 x7 gxs gp).env (Qs (0, 1) 44 gxs (JP1 (0, 1) 44 o13.2 .normal (tree_all_1_L3_x0 p0 p1 v12 x3 v28 x7 gxs gq12))) (l10.map e_tree_all_1) (tree_all_1_L3_st p0 p1 v12 x3 v28 x7 gxs gp).s) := by
  intro p0 p1 v12 x3 v28 x7
  refine tree_all_1_L3.partial_correctness p0 p1 v12 x3 v28 x7 _ ?_
  intro tree_all_1_L3' ih_tree_all_1_L3 l10 o13 h
  intro gxs gp gpost gq12 hx hq
  cases l10 with
  | nil =>
    refine rl_nil ?_
    exact .inl (JP1.a (sndI h) (Le.tow 2 1 rfl (.cons rfl (.refl _) (.cons rfl (.refl _) (.cons rfl (.refl _) (.cons rfl (.refl _) (.cons rfl (.refl _) (.cons rfl (.refl _) (.cons rfl (.refl _) (.cons rfl (.refl _) (.nil))))))))) (.refl _) (liveQ h hx hq rfl)))
  | cons x8 r9 =>
    refine rl_cons (bwp_sound mixed tbOk (lv := tree_all_1_lv) _ _ _ ?_)
    refine And.intro rfl (bwp_sound mixed tbOk (lv := tree_all_1_lv) _ _ _ ?_)
    refine st_yld (c := e_tree_all_1) h hx (.refl _) (by exact rfl) (by exact rfl) (fun _ h hx => ?_) ?_
    · refine bF ?_
      exact Exists.intro (tree_all_1_L3_st p0 p1 v12 x3 v28 x7  gxs (gp ++ [e_tree_all_1 ((api_Node.mk x8.1.Kind x8.1.Name x8.1.Text x8.1.N x8.1.L x8.1.Then x8.1.Else), x8.2)])).s (And.intro (Le.tow 2 1 rfl (.nil) (.refl _) rfl) (And.intro rfl (And.intro rfl ((ih_tree_all_1_L3 r9 _ h) _ _ _ _ hx hq))))
    · refine bT ?_
      exact ⟨_, (Le.env0 _).trans (Le.tow 2 1 rfl .nil (.refl _) rfl), rfl, rfl, .inr ⟨rfl, stop_top rfl⟩⟩
theorem tree_all_1_L3_ok : ∀ (p0 : (List api_Node)) (p1 : Int) (v12 : Int) (x3 : api_Node) (v28 : Int) (x7 : (List api_Node) × Int) (l10 : (List (api_Node × Int))) (o13 : (List (api_Node × Int)) × (Unit)), tree_all_1_L3 p0 p1 v12 x3 v28 x7 l10 = some o13 → ∀ (gxs gp gpost gq12 : List (List V)), gxs = gp ++ (o13.1.map e_tree_all_1 ++ gpost) → gxs = gq12 ++ gpost → RL 2 1 Try.prog 44 (rgP tree_all_1_L3_c) (rgA tree_all_1_L3_c) (rgB tree_all_1_L3_c) (tree_all_1_L3_st p0 p1 v12 x3 v28 x7 gxs gp).env (Qs (0, 1) 44 gxs (JP1 (0, 1) 44 o13.2 .normal (tree_all_1_L3_x0 p0 p1 v12 x3 v28 x7 gxs gq12))) (l10.map e_tree_all_1) (tree_all_1_L3_st p0 p1 v12 x3 v28 x7 gxs gp).s := fun p0 p1 v12 x3 v28 x7 l10 o13 h => (tree_all_1_L3_grp p0 p1 v12 x3 v28 x7) l10 o13 h
mutual
noncomputable def tree_all_1 (p0 : (List api_Node)) (p1 : Int) : Option ((List (api_Node × Int)) × Unit) :=
  ( tree_all_1_L1 p0 p1 0) >>= fun o2 => (
    some ([], ())) >>= fun q => some (o2.1 ++ q.1, q.2)
  partial_fixpoint
noncomputable def tree_all_1_L1 (p0 : (List api_Node)) (p1 : Int) (v12 : Int) : Option ((List (api_Node × Int)) × (Unit)) :=
  if (decide (v12 < (p0.length : Int))) then
    idx p0 v12 >>= fun x3 =>
    ( ( tree_all_1_L2 p0 p1 v12 x3 0) >>= fun o5 => (
        tree_all_1_L1 p0 p1 (wr (v12 + 1))) >>= fun q => some (o5.1 ++ q.1, q.2)) >>= fun q => some ((x3, p1) :: q.1, q.2)
  else
    some ([], ())
  partial_fixpoint
noncomputable def tree_all_1_L2 (p0 : (List api_Node)) (p1 : Int) (v12 : Int) (x3 : api_Node) (v28 : Int) : Option ((List (api_Node × Int)) × (Unit)) :=
  if (decide (v28 < 3)) then
    idx ([x3.L, x3.Then, x3.Else] : List (List api_Node)) v28 >>= fun x6 =>
    tree_all x6 (wr (p1 + 1)) >>= fun x7 =>
    tree_all_1 x7.1 x7.2 >>= fun y11 =>
    ( tree_all_1_L3 p0 p1 v12 x3 v28 x7 y11.1) >>= fun o13 => (
      tree_all_1_L2 p0 p1 v12 x3 (wr (v28 + 1))) >>= fun q => some (o13.1 ++ q.1, q.2)
  else
    some ([], ())
  partial_fixpoint
end
set_option maxRecDepth 100000 in
set_option maxHeartbeats 4000000 in
theorem tree_all_1_grp : (∀ (p0 : (List api_Node)) (p1 : Int) (o : (List (api_Node × Int)) × Unit), tree_all_1 p0 p1 = some o → ∀ gxs : List (List V), gxs = o.1.map e_tree_all_1 → IterOK Try.prog 60 [.ep [.sl false (p0.map c_api_Node)], .ep [iV p1]] gxs) ∧ (∀ (p0 : (List api_Node)) (p1 : Int) (v12 : Int) (o2 : (List (api_Node × Int)) × (Unit)), tree_all_1_L1 p0 p1 v12 = some o2 → ∀ (gxs gp gpost gq1 : List (List V)), gxs = gp ++ (o2.1.map e_tree_all_1 ++ gpost) → gxs = gq1 ++ gpost → TL (0, 1) Try.prog 44 tree_all_1_L1_c (Qs (0, 1) 44 gxs (JP1 (0, 1) 44 o2.2 (.exit 0) (tree_all_1_L1_x0 p0 p1 gxs gq1))) (tree_all_1_L1_st p0 p1 v12 gxs gp)) ∧ (∀ (p0 : (List api_Node)) (p1 : Int) (v12 : Int) (x3 : api_Node) (v28 : Int) (o5 : (List (api_Node × Int)) × (Unit)), tree_all_1_L2 p0 p1 v12 x3 v28 = some o5 → ∀ (gxs gp gpost gq4 : List (List V)), gxs = gp ++ (o5.1.map e_tree_all_1 ++ gpost) → gxs = gq4 ++ gpost → TL (0, 1) Try.prog 44 tree_all_1_L2_c (Qs (0, 1) 44 gxs (JP1 (0, 1) 44 o5.2 (.exit 2) (tree_all_1_L2_x0 p0 p1 v12 x3 gxs gq4))) (tree_all_1_L2_st p0 p1 v12 x3 v28 gxs gp)) := by
  refine tree_all_1.mutual_partial_correctness _ _ _ ?_ ?_ ?_
  · intro tree_all_1_L1' ih_tree_all_1_L1 p0 p1 o h
    intro gxs hg
    have hx : gxs = [] ++ (o.1.map e_tree_all_1 ++ []) := by simp [hg]
    refine IterOK.ofB mixed tbOk tree_all_1_lv Try.func60 rfl (by kernel_rfl) (Nat.le_of_ble_eq_true rfl) rfl ?_
    refine view (lenMap _ _) rfl ?_
    refine st_bindI h hx (fun o2 lgq1 gq1 ho hk hxa hjgq1 => ?_)
    refine Exists.intro (Qs _ _ gxs (JP1 _ _ o2.2 (.exit 0) (tree_all_1_L1_x0 p0 p1 gxs gq1))) (And.intro (T_le (τ := tree_all_1_L1_st p0 p1 0 gxs ([] : List (List V))) ?_ (TL.loop ((ih_tree_all_1_L1 p0 p1 0 o2 ho) _ _ _ _ hxa hjgq1))) (joinS (join1 ?_) ?_))
    · exact Le.tow 1 1 rfl (.cons rfl (.refl _) (.cons rfl (.refl _) (.cons rfl (.refl _) (.cons rfl (.refl _) (.cons rfl (.refl _) (.nil)))))) (.refl _) rfl
    · have h := hk
      have hx := hjgq1
      exact st_iend h hx (.inl rfl) rfl
    · exact fun s1 h1 h2 hs => st_istop (.inr rfl) hs
  · intro tree_all_1_L1' tree_all_1_L2' ih_tree_all_1_L1 ih_tree_all_1_L2 p0 p1 v12 o2 h
    intro gxs gp gpost gq1 hx hq
    refine TL.round (bwp_sound mixed tbOk (lv := tree_all_1_lv) _ _ _ ?_)
    refine st_test h (fun hb h => ?_) (fun hb h => ?_)
    · refine st_idx (l := p0) (c := c_api_Node) (c' := l_api_Node) h c_api_Node_eq (fun _ => rfl) (by decide) (fun x3 hi h => ?_)
      refine st_yld (c := e_tree_all_1) h hx (.refl _) (by exact rfl) (by exact rfl) (fun _ h hx => ?_) ?_
      · refine bF ?_
        refine st_bindI h hx (fun o5 lgq4 gq4 ho hk hxa hjgq4 => ?_)
        refine Exists.intro (Qs _ _ gxs (JP1 _ _ o5.2 (.exit 2) (tree_all_1_L2_x0 p0 p1 v12 x3 gxs gq4))) (And.intro (T_le (τ := tree_all_1_L2_st p0 p1 v12 x3 0 gxs (gp ++ [e_tree_all_1 (x3, p1)])) ?_ (TL.loop ((ih_tree_all_1_L2 p0 p1 v12 x3 0 o5 ho) _ _ _ _ hxa hjgq4))) (joinS (join1 ?_) ?_))
        · exact Le.tow 2 1 rfl (.cons rfl (.refl _) (.cons rfl (.refl _) (.cons rfl (.refl _) (.cons rfl (.refl _) (.cons rfl (.refl _) (.cons rfl (.refl _) (.cons rfl (.refl _) (.nil)))))))) (.refl _) rfl
        · have h := hk
          have hx := hjgq4
          refine TL.le (τ := tree_all_1_L1_st p0 p1 (wr (v12 + 1)) gxs gq4) ?_ ((ih_tree_all_1_L1 p0 p1 (wr (v12 + 1)) _ h) _ _ _ _ hx hq)
          exact Le.tow 1 1 rfl (.cons rfl (.refl _) (.cons rfl (.refl _) (.cons rfl (.refl _) (.cons rfl (.refl _) (.cons rfl (.refl _) (.nil)))))) (.refl _) rfl
        · exact fun s1 h1 h2 hs => .inr ⟨rfl, s1, .refl _ _ _, h1, h2, hs⟩
      · refine bT ?_
        exact .inr ⟨rfl, _, (Le.env0 _).trans (Le.tow 0 1 rfl .nil (.refl _) rfl), rfl, rfl, rfl⟩
    · exact .inl (JP1.a (sndI h) (Le.tow 1 1 rfl (.nil) (.refl _) (liveQ h hx hq rfl)))
  · intro tree_all_1' tree_all_1_L2' ih_tree_all_1 ih_tree_all_1_L2 p0 p1 v12 x3 v28 o5 h
    intro gxs gp gpost gq4 hx hq
    refine TL.round (bwp_sound mixed tbOk (lv := tree_all_1_lv) _ _ _ ?_)
    refine st_test h (fun hb h => ?_) (fun hb h => ?_)
    · refine st_aidx (l := ([x3.L, x3.Then, x3.Else] : List (List api_Node))) (c := fun x6 => .sl false (x6.map c_api_Node)) h rfl rfl rfl rfl (fun x6 hi h => ?_)
      refine st_call [.sl false (x6.map c_api_Node), iV (wr (p1 + 1))] t_tree_all h (fun x7 hy => (tree_all_ok x6 (wr (p1 + 1)) x7 hy)) (fun x7 hy h => ?_)
      refine st_bind h (fun y11 hy11 h => ?_)
      refine st_bindI h hx (fun o13 lgq12 gq12 ho hk hxa hjgq12 => ?_)
      refine Exists.intro (Qs _ _ gxs (JP1 _ _ o13.2 .normal (tree_all_1_L3_x0 p0 p1 v12 x3 v28 x7 gxs gq12))) (And.intro (T_le (τ := tree_all_1_L3_st p0 p1 v12 x3 v28 x7 gxs gp) ?_ (T_range (g := 60) (cap := [.ep [.sl false (x7.1.map c_api_Node)], .ep [iV x7.2]]) rfl ((ih_tree_all_1 x7.1 x7.2 y11 hy11) _ rfl) (mapSize fun _ => rfl) rfl (Nat.le_of_ble_eq_true rfl) (Nat.le_of_ble_eq_true rfl) ((tree_all_1_L3_ok p0 p1 v12 x3 v28 x7 y11.1 o13 ho) _ _ _ _ hxa hjgq12))) (joinS (join1 ?_) ?_))
      · exact Le.tow 2 1 rfl (.cons rfl (.refl _) (.cons rfl (.refl _) (.cons rfl (.refl _) (.cons rfl (.refl _) (.cons rfl (.refl _) (.cons rfl (.refl _) (.cons rfl (.refl _) (.cons rfl (.refl _) (.nil))))))))) (.refl _) rfl
      · have h := hk
        have hx := hjgq12
        refine TL.le (τ := tree_all_1_L2_st p0 p1 v12 x3 (wr (v28 + 1)) gxs gq12) ?_ ((ih_tree_all_1_L2 p0 p1 v12 x3 (wr (v28 + 1)) _ h) _ _ _ _ hx hq)
        exact Le.tow 2 1 rfl (.cons rfl (.refl _) (.cons rfl (.refl _) (.cons rfl (.refl _) (.cons rfl (.refl _) (.cons rfl (.refl _) (.cons rfl (.refl _) (.cons rfl (.refl _) (.nil)))))))) (.refl _) rfl
      · exact fun s1 h1 h2 hs => .inr ⟨rfl, s1, .refl _ _ _, h1, h2, hs⟩
    · exact .inl (JP1.a (sndI h) (Le.tow 2 1 rfl (.cons rfl (.refl _) (.cons rfl (.refl _) (.cons rfl (.refl _) (.cons rfl (.refl _) (.cons rfl (.refl _) (.nil)))))) (.refl _) (liveQ h hx hq rfl)))
theorem tree_all_1_ok : ∀ (p0 : (List api_Node)) (p1 : Int) (o : (List (api_Node × Int)) × Unit), tree_all_1 p0 p1 = some o → ∀ gxs : List (List V), gxs = o.1.map e_tree_all_1 → IterOK Try.prog 60 [.ep [.sl false (p0.map c_api_Node)], .ep [iV p1]] gxs := fun p0 p1 o h => tree_all_1_grp.1 p0 p1 o h
noncomputable def tree_Count (p0 : (List api_Node)) : Option (Int) :=
  tree_all p0 1 >>= fun x1 =>
  tree_all_1 x1.1 x1.2 >>= fun y5 =>
  (tree_Count_L1 x1 y5.1 0) >>= fun o6 =>
  some o6
set_option maxRecDepth 100000 in
set_option maxHeartbeats 4000000 in
theorem tree_Count_ok : ∀ (p0 : (List api_Node)) (o : Int), tree_Count p0 = some o → PCall Try.prog 39 [.sl false (p0.map c_api_Node)] (t_tree_Count o) := by
  intro p0 o h
  unfold tree_Count at h
  refine PCall.ofB mixed tbOk tree_Count_lv Try.func39 rfl (by kernel_rfl) (Nat.le_of_ble_eq_true rfl) ?_
  refine st_call [.sl false (p0.map c_api_Node), iV 1] t_tree_all h (fun x1 hy => (tree_all_ok p0 1 x1 hy)) (fun x1 hy h => ?_)
  refine st_bind h (fun y5 hy5 h => ?_)
  refine st_bind h (fun o6 ho hk => ?_)
  refine Exists.intro (JP1 _ _ o6 .normal (tree_Count_L1_x0 x1)) (And.intro (T_le (τ := tree_Count_L1_st x1 0) ?_ (T_range (g := 60) (cap := [.ep [.sl false (x1.1.map c_api_Node)], .ep [iV x1.2]]) rfl ((tree_all_1_ok x1.1 x1.2 y5 hy5) _ rfl) (mapSize fun _ => rfl) rfl (Nat.le_of_ble_eq_true rfl) (Nat.le_of_ble_eq_true rfl) (tree_Count_L1_ok x1 y5.1 0 o6 ho))) (join1 ?_))
  · exact Le.tow 1 0 rfl (.cons rfl (.refl _) (.cons rfl (.refl _) (.nil))) (.refl _) rfl
  have h := hk
  refine st_ret (t := t_tree_Count) h ?_
  exact .refl _
noncomputable def tree_Deep_L1 (x1 : (List api_Node) × Int) (l4 : (List (api_Node × Int))) (h0_0 : Int) : Option (Int) :=
  match l4 with
  | [] =>
    some h0_0
  | x2 :: r3 =>
    tree_Deep_L1 x1 r3 (if x2.2 > h0_0 then x2.2 else h0_0)
  partial_fixpoint
set_option maxRecDepth 100000 in
set_option maxHeartbeats 4000000 in
theorem tree_Deep_L1_grp : ∀ (x1 : (List api_Node) × Int), (∀ (l4 : (List (api_Node × Int))) (h0_0 : Int) (o6 : Int), tree_Deep_L1 x1 l4 h0_0 = some o6 → RL 1 0 Try.prog 14 (rgP tree_Deep_L1_c) (rgA tree_Deep_L1_c) (rgB tree_Deep_L1_c) (tree_Deep_L1_st x1 h0_0).env (JP1 (0, 0) 14 o6 .normal (tree_Deep_L1_x0 x1)) (l4.map e_tree_all_1) (tree_Deep_L1_st x1 h0_0).s) := by
  intro x1
  refine tree_Deep_L1.partial_correctness x1 _ ?_
  intro tree_Deep_L1' ih_tree_Deep_L1 l4 h0_0 o6 h
  cases l4 with
  | nil =>
    refine rl_nil ?_
    exact JP1.a h (Le.tow 1 0 rfl (.cons rfl (.refl _) (.cons rfl (.refl _) (.nil))) (.refl _) rfl)
  | cons x2 r3 =>
    refine rl_cons (bwp_sound mixed tbOk (lv := tree_Deep_lv) _ _ _ ?_)
    refine And.intro rfl (bwp_sound mixed tbOk (lv := tree_Deep_lv) _ _ _ ?_)
    exact Exists.intro (tree_Deep_L1_st x1 (if x2.2 > h0_0 then x2.2 else h0_0)).s (And.intro (Le.tow 1 0 rfl (.nil) (.refl _) rfl) (And.intro rfl (And.intro rfl ((ih_tree_Deep_L1 r3 (if x2.2 > h0_0 then x2.2 else h0_0) _ h)))))
theorem tree_Deep_L1_ok : ∀ (x1 : (List api_Node) × Int) (l4 : (List (api_Node × Int))) (h0_0 : Int) (o6 : Int), tree_Deep_L1 x1 l4 h0_0 = some o6 → RL 1 0 Try.prog 14 (rgP tree_Deep_L1_c) (rgA tree_Deep_L1_c) (rgB tree_Deep_L1_c) (tree_Deep_L1_st x1 h0_0).env (JP1 (0, 0) 14 o6 .normal (tree_Deep_L1_x0 x1)) (l4.map e_tree_all_1) (tree_Deep_L1_st x1 h0_0).s := fun x1 l4 h0_0 o6 h => (tree_Deep_L1_grp x1) l4 h0_0 o6 h
noncomputable def tree_Deep (p0 : (List api_Node)) : Option (Int) :=
  tree_all p0 1 >>= fun x1 =>
  tree_all_1 x1.1 x1.2 >>= fun y5 =>
  (tree_Deep_L1 x1 y5.1 0) >>= fun o6 =>
  some o6
end Go.Proofs.Ytebkhehjfkmdiaa
end
