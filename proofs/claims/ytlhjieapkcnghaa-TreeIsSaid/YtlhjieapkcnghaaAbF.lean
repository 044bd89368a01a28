/- The abstract layer, part 13b: functions that are handed variables, functions, tokens. -/
import Derived.Test.YtlhjieapkcnghaaAbZ
namespace Go.Proofs.Ytlhjieapkcnghaa
open Go.RowKit

def D.lt1 (k m : Nat) : D → Bool
  | .p _ => true
  | .undef => true
  | .ptr nm _ => decide (nm < k)
  | .own t _ _ _ => decide (t < m)
  | .yld _ t _ => decide (t < m)
  | .sp _ _ _ nm _ => decide (nm < k)
  | .fn _ _ _ | .agg _ | .tup _ => false
/-- It names no variable from k on and no token from m on. -/
def D.lt (k m : Nat) : D → Bool
  | .fn _ a b => a.all (D.lt1 k m) && b.all (D.lt1 k m)
  | .agg a => a.all (D.lt1 k m)
  | .tup a => a.all (D.lt1 k m)
  | d => D.lt1 k m d
def Gh.trunc (G : Gh) (k m : Nat) : Gh := ⟨G.com, G.name.take k, G.tok.take m⟩
theorem takeGet {α : Type} {l : List α} {k i : Nat} {x : α} (h : l[i]? = some x) (hi : i < k) : (l.take k)[i]? = some x := by rw [List.getElem?_take, if_pos hi]; exact h
theorem takeGet' {α : Type} {l : List α} {k i : Nat} {x : α} (h : (l.take k)[i]? = some x) : l[i]? = some x ∧ i < k := by
  rw [List.getElem?_take] at h
  split at h
  · exact ⟨h, by assumption⟩
  · cases h
theorem DRel.trunc1 {G : Gh} {w : World} {d : D} {u : Value} {k m : Nat} (h : DRel G w d u) (hl : d.lt1 k m = true) : DRel (G.trunc k m) w d u := by
  cases h with
  | p x u h => exact .p x u h
  | undef => exact .undef
  | ptr nm off b hb => exact .ptr nm off b (takeGet hb (of_decide_eq_true hl))
  | yld t T p h1 h2 => exact .yld t T p (takeGet h1 (of_decide_eq_true hl)) h2
  | sp P u b nm off i e n v h1 h2 h3 h4 h5 h6 => exact .sp P u b nm off i e n _ (takeGet h1 (of_decide_eq_true hl)) h2 h3 h4 h5 h6
  | own t e size es u T h1 h2 h3 h0 h4 h5 =>
    have ht : t < m := of_decide_eq_true hl
    refine .own t e size es u T h1 h2 (takeGet h3 ht) h0 h4 fun he => ?_
    obtain ⟨a, cap, rfl, h6⟩ := h5 he
    refine ⟨a, cap, rfl, h6.imp id (Or.imp_left ?_)⟩
    rintro ⟨b, us, T2, ha, g1, g⟩
    exact ⟨b, us, T2, ha, takeGet g1 ht, g⟩
  | fn f a b us vs => cases hl
  | agg a us => cases hl
  | tup a us => cases hl
theorem DRel.trunc {G : Gh} {w : World} {d : D} {u : Value} {k m : Nat} (h : DRel G w d u) (hl : d.lt k m = true) : DRel (G.trunc k m) w d u := by
  cases h with
  | p x u h => exact .p x u h
  | undef => exact .undef
  | ptr nm off b hb => exact DRel.trunc1 (.ptr nm off b hb) hl
  | yld t T p h1 h2 => exact DRel.trunc1 (.yld t T p h1 h2) hl
  | sp P u b nm off i e n v h1 h2 h3 h4 h5 h6 => exact DRel.trunc1 (.sp P u b nm off i e n _ h1 h2 h3 h4 h5 h6) hl
  | own t e size es u T h1 h2 h3 h0 h4 h5 => exact DRel.trunc1 (.own t e size es u T h1 h2 h3 h0 h4 h5) hl
  | fn f a b us vs h1 h2 h3 h4 =>
    simp only [D.lt, Bool.and_eq_true, List.all_eq_true] at hl
    exact .fn f a b us vs h1 h2 (fun j c u hc hu => (h3 j c u hc hu).trunc1 (hl.1 c (List.mem_of_getElem? hc))) (fun j c u hc hu => (h4 j c u hc hu).trunc1 (hl.2 c (List.mem_of_getElem? hc)))
  | agg a us h1 h2 h3 =>
    simp only [D.lt, List.all_eq_true] at hl
    exact .agg a us h1 h2 (fun j c u hc hu => (h3 j c u hc hu).trunc1 (hl c (List.mem_of_getElem? hc)))
  | tup a us h1 h3 =>
    simp only [D.lt, List.all_eq_true] at hl
    exact .tup a us h1 (fun j c u hc hu => (h3 j c u hc hu).trunc1 (hl c (List.mem_of_getElem? hc)))
theorem Inv.trunc {G : Gh} {s : S} {w : World} (h : Inv G s w) (k m : Nat) (hl : ∀ cs ∈ s.heap.take k, ∀ c ∈ cs, c.lt k m = true) : Inv (G.trunc k m) ⟨s.heap.take k, s.live.take m⟩ w := by
  refine ⟨fun b o hc => ?_, ?_, ?_, fun i b cs hb hcs => ?_, ?_, fun t T b hT hb => ?_, fun T hT => h.pro T (List.mem_of_mem_take hT), h.glob⟩
  · obtain ⟨h1, h2, h3⟩ := h.com b o hc
    exact ⟨h1, fun hm => h2 (List.mem_of_mem_take hm), fun T hT => h3 T (List.mem_of_mem_take hT)⟩
  · show (G.name.take k).length = (s.heap.take k).length
    rw [List.length_take, List.length_take, h.names]
  · exact h.nodup.sublist (List.take_sublist _ _)
  · obtain ⟨hb, hi⟩ := takeGet' hb
    obtain ⟨us, ty, h1, h2, h3⟩ := h.var i b cs hb (takeGet' hcs).1
    exact ⟨us, ty, h1, h2, fun j c u hc hu => ⟨(h3 j c u hc hu).1, (h3 j c u hc hu).2.trunc (hl cs (List.mem_of_getElem? hcs) c (List.mem_of_getElem? hc))⟩⟩
  · show (G.tok.take m).map (·.len) = s.live.take m
    rw [List.map_take, h.live]
  · obtain ⟨hT, ht⟩ := takeGet' hT
    obtain ⟨h1, h2, h3⟩ := h.tok t T b hT hb
    exact ⟨h1, fun hm => h2 (List.mem_of_mem_take hm), fun t' T' hT' hb' => h3 t' T' (takeGet' hT').1 hb'⟩

/-- Slots as they are where they name nothing that goes, else as data. -/
def keepD (k m : Nat) (d : D) : Option D := match d.lt k m with
  | true => some d
  | false => (unp d).map fun x => .p (lessV x)
def keepE (k m : Nat) : Env → Option Env
  | [] => some []
  | (t, d) :: r => match keepD k m d, keepE k m r with
    | some x, some l => some ((t, x) :: l)
    | _, _ => none
theorem keepE_look {k m : Nat} : ∀ (env env' : Env), keepE k m env = some env' → ∀ t d', env'.lookup t = some d' → ∃ d, env.lookup t = some d ∧ keepD k m d = some d'
  | [], env', h, t, d', h' => by simp [keepE] at h; subst h; simp at h'
  | (t0, d) :: r, env', h, t, d', h' => by
    unfold keepE at h
    split at h
    · rename_i x l hx hl
      cases h
      rw [List.lookup_cons] at h' ⊢
      by_cases ht : t = t0
      · subst ht
        simp only [beq_self_eq_true, Option.some.injEq] at h' ⊢
        exact ⟨d, rfl, by rw [hx, h']⟩
      · have hb : (t == t0) = false := by simpa using ht
        rw [hb] at h' ⊢
        exact keepE_look r l hl t d' h'
    · cases h
theorem keepD_rel {G : Gh} {w : World} {k m : Nat} {d d' : D} {u : Value} (h : DRel G w d u) (hd : keepD k m d = some d') : DRel (G.trunc k m) w d' u := by
  unfold keepD at hd
  split at hd
  · rename_i hl; cases hd; exact h.trunc hl
  · obtain ⟨x, hx, rfl⟩ := Option.map_eq_some_iff.1 hd
    exact .p _ _ (lessV_rel (show VRel G.com w x _ from unp_rel h hx))
theorem trunc_ex {G : Gh} {w : World} (k m : Nat) : Ex (k, m) G w (G.trunc k m) w :=
  ⟨⟨rfl, rfl, rfl, Nat.le_refl _, fun _ _ _ h k => ⟨h, k⟩, fun _ _ _ _ => rfl, fun _ _ h => .inl h, fun b hb => by
    rcases hb with hb | ⟨T, hT, hb⟩
    · exact .inr (.inl (List.mem_of_mem_take hb))
    · exact .inr (.inr ⟨T, List.mem_of_mem_take hT, hb⟩), fun _ _ h => h, .refl w⟩, fun nm b hl hb => takeGet hb hl, fun t T hl hT => ⟨T, takeGet hT hl, .refl T, fun _ => ⟨rfl, fun _ _ => rfl⟩⟩⟩
theorem Ex.le {B B' : Nat × Nat} {G G' : Gh} {w w' : World} (h : Ex B G w G' w') (h1 : B'.1 ≤ B.1) (h2 : B'.2 ≤ B.2) : Ex B' G w G' w' :=
  ⟨h.ext, fun nm b hl hb => h.name nm b (by omega) hb, fun t T hl hT => h.tok t T (by omega) hT⟩
/-- The first k variables and m tokens stay, all else is forgotten. -/
theorem Le.to (k m : Nat) {B : Nat × Nat} {N : Nat} {env : Env} {s : S} {τ : St} (h : (keepE k m env).map (fun e => St.mk e ⟨s.heap.take k, s.live.take m⟩) = some τ) (h1 : B.1 ≤ k := by exact Nat.le_of_ble_eq_true rfl) (h2 : B.2 ≤ m := by exact Nat.le_of_ble_eq_true rfl)
    (hl : (s.heap.take k).all (fun cs => cs.all (D.lt k m)) = true := by exact rfl) : Le B N ⟨env, s⟩ τ := ⟨fun G a w hR => by
  obtain ⟨env', he, rfl⟩ := Option.map_eq_some_iff.1 h
  refine ⟨G.trunc k m, (trunc_ex k m).le h1 h2, ⟨hR.inv.trunc k m ?_, fun t d' hd => ?_, hR.size⟩⟩
  · simp only [List.all_eq_true] at hl
    exact hl
  · obtain ⟨d, h1, h2⟩ := keepE_look env env' he t d' hd
    obtain ⟨k1, k2⟩ := hR.env t d h1
    exact ⟨k1, keepD_rel k2 h2⟩⟩

def argsD : List D → Nat → Env
  | [], _ => []
  | x :: r, i => (i, x) :: argsD r (i + 1)
theorem argsD_look : ∀ (xs : List D) (i t : Nat) (d : D), (argsD xs i).lookup t = some d → xs[t - i]? = some d ∧ i ≤ t
  | [], _, _, _, h => by simp [argsD] at h
  | x :: r, i, t, d, h => by
    unfold argsD at h
    rw [List.lookup_cons] at h
    by_cases ht : t = i
    · subst ht
      simp only [beq_self_eq_true, Option.some.injEq] at h
      subst h
      exact ⟨by simp, Nat.le_refl _⟩
    · have hb : (t == i) = false := by simpa using ht
      rw [hb] at h
      obtain ⟨h1, h2⟩ := argsD_look r (i + 1) t d h
      refine ⟨?_, by omega⟩
      rw [show t - i = (t - (i + 1)) + 1 by omega, List.getElem?_cons_succ]; exact h1
/-- What is handed back: data where it can be. -/
def retE (ds : List D) : D := match retD ds with
  | some d => d
  | none => match ds with
    | [d] => d
    | ds => .tup ds
def retR (tb : Tbl) (rs : List ResultVar) (R : D → S → Prop) (e : Exit) (σ : St) : Prop :=
  match e with
  | .normal => resAll tb σ rs fun ds => R (retE ds) σ.s
  | .ret => resAll tb σ rs fun ds => R (retE ds) σ.s
  | _ => False
theorem retE_rel {G : Gh} {w : World} {ds : List D} {us : List Value} (hl : us.length = ds.length) (h : ∀ (j : Nat) d u, ds[j]? = some d → us[j]? = some u → DRel G w d u) :
    DRel G w (retE ds) (if h : us.toArray.size = 1 then us.toArray[0] else .tuple us.toArray) := by
  unfold retE
  split
  · rename_i d hd; exact (retD_rel hl h hd).1
  · split
    · rename_i d
      match us, hl with
      | [u], _ => exact h 0 _ u rfl rfl
    · rename_i hne
      have hsz : ¬ us.toArray.size = 1 := by
        simp only [List.size_toArray, hl]
        intro h1
        match ds, h1 with
        | [d], _ => exact hne d rfl
      rw [dif_neg hsz]
      exact .tup _ _ (by simp [hl]) (fun j c u hc hu => h j c u hc (by simpa using hu))
section
variable {P : Program} {tb : Tbl}
/-- A function that looks at memory alone: it may be called in any order. -/
theorem CallOK.c {f : FuncId} {args : List D} {h : List (List D)} {r : D} (k : ∀ live, CallOK P f args ⟨h, live⟩ r ⟨h, live⟩) {gn : Bool} {live : List Nat} : CallC gn P f args ⟨h, live⟩ r ⟨h, live⟩ := ⟨k live, fun _ => ⟨rfl, k⟩⟩
theorem CallOK.g {f : FuncId} {args : List D} {s s' : S} {r : D} (k : CallOK P f args s r s') : CallC true P f args s r s' := ⟨k, fun h => by cases h⟩
/-- Data alone, out of a call in empty memory. -/
theorem CallOK.p {f : FuncId} {xs : List V} {r : D} (k : CallOK P f (xs.map .p) ⟨[], []⟩ r ⟨[], []⟩) : PCall P f xs r := by
  refine ⟨k.fn, fun C w us hgl hl hrel => (k.out ⟨fun b o => C b o ∧ b < w.heap.size, [], []⟩ w us ⟨fun b o h => ⟨h.2, by simp, by simp⟩, rfl, by simp, fun i b cs h => by simp at h, rfl, fun t T b h => by simp at h, fun T h => by simp at h, hgl.mono fun b o u h1 h2 => ⟨⟨h1, cellLt h2⟩, h2⟩⟩ (by simpa using hl) fun j d u hd hu => ?_).mono fun e w' ⟨u, G', he, hS, hI, hd⟩ => ?_⟩
  · rw [List.getElem?_map] at hd
    obtain ⟨x, hx, rfl⟩ := Option.map_eq_some_iff.1 hd
    exact .p _ _ (DRel.lt (hrel j x u hx hu))
  · have hnm : G'.name = [] := List.eq_nil_of_length_eq_zero hI.names
    have htk : G'.tok = [] := List.eq_nil_of_length_eq_zero (by have := congrArg List.length hI.live; simpa using this)
    refine ⟨u, he, ?_, ⟨hS.ext.os, hS.ext.tape, hS.ext.output, hS.ext.size, fun k hk => hS.ext.old k hk (by simp) (by simp)⟩⟩
    obtain ⟨com, name, tok⟩ := G'
    simp only at hnm htk
    subst hnm; subst htk
    refine hd.weak fun b o hc => ?_
    rcases hS.ext.new b o hc with h | h | h | ⟨T, h, _⟩
    · exact .inl h.1
    · exact .inr h
    · simp at h
    · simp at h
end
end Go.Proofs.Ytlhjieapkcnghaa
