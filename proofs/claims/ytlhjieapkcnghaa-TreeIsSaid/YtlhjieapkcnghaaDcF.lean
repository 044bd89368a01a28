/- The abstract layer, part 22: a call sees but some variables and tokens of its caller's. -/
import Derived.Test.YtlhjieapkcnghaaDcA
namespace Go.Proofs.Ytlhjieapkcnghaa
open Go.RowKit

/-- The callee's names as the caller's. -/
def D.ren1 (I J : List Nat) : D → D
  | .ptr i o => .ptr (I.getD i 0) o
  | .own t e s es => .own (J.getD t 0) e s es
  | .yld P t xs => .yld P (J.getD t 0) xs
  | .sp P u b i o => .sp P u b (I.getD i 0) o
  | d => d
def D.ren (I J : List Nat) : D → D
  | .fn f a b => .fn f (a.map (D.ren1 I J)) (b.map (D.ren1 I J))
  | .agg a => .agg (a.map (D.ren1 I J))
  | .tup a => .tup (a.map (D.ren1 I J))
  | d => D.ren1 I J d
def tok0 : Tok := ⟨0, none, 0, none⟩
def Gh.sub (G : Gh) (I J : List Nat) : Gh := ⟨G.com, I.map (G.name.getD · 0), J.map (G.tok.getD · tok0)⟩
def updL {α : Type} : List α → List Nat → List α → List α
  | H, i :: I, n :: N => updL (H.set i n) I N
  | H, _, _ => H
theorem updL_len {α : Type} : ∀ (I : List Nat) (N H : List α), (updL H I N).length = H.length
  | [], N, H => by cases N <;> rfl
  | i :: I, [], H => rfl
  | i :: I, n :: N, H => by rw [updL, updL_len I N]; simp
theorem updL_out {α : Type} : ∀ (I : List Nat) (N H : List α) (i : Nat), i ∉ I → (updL H I N)[i]? = H[i]?
  | [], N, H, i, _ => by cases N <;> rfl
  | k :: I, [], H, i, _ => rfl
  | k :: I, n :: N, H, i, h => by
    rw [updL, updL_out I N _ i (fun hm => h (by simp [hm])), List.getElem?_set_ne (fun e => h (by simp [e]))]
theorem updL_in {α : Type} : ∀ (I : List Nat) (N H : List α) (k i : Nat) (n : α), I.Nodup → (∀ x ∈ I, x < H.length) → I[k]? = some i → N[k]? = some n → (updL H I N)[i]? = some n
  | [], N, H, k, i, n, _, _, hi, _ => by simp at hi
  | x :: I, [], H, k, i, n, _, _, _, hn => by simp at hn
  | x :: I, m :: N, H, k, i, n, hd, hl, hi, hn => by
    rw [updL]
    cases k with
    | zero =>
      simp at hi hn
      subst hi; subst hn
      rw [updL_out I N _ x (List.nodup_cons.1 hd).1, List.getElem?_set_self (hl x (by simp))]
    | succ k => exact updL_in I N _ k i n (List.nodup_cons.1 hd).2 (fun y hy => by simpa using hl y (by simp [hy])) (by simpa using hi) (by simpa using hn)
theorem nodup_inj {α : Type} {l : List α} (h : l.Nodup) {i j : Nat} {x : α} (hi : l[i]? = some x) (hj : l[j]? = some x) : i = j := by
  obtain ⟨li, ei⟩ := List.getElem?_eq_some_iff.1 hi
  obtain ⟨lj, ej⟩ := List.getElem?_eq_some_iff.1 hj
  have hp := List.pairwise_iff_getElem.1 h
  rcases Nat.lt_trichotomy i j with h1 | h1 | h1
  · exact absurd (ei.trans ej.symm) (hp i j li lj h1)
  · exact h1
  · exact absurd (ej.trans ei.symm) (hp j i lj li h1)
theorem nodup_of {α : Type} {l : List α} (h : ∀ (i j : Nat) x, l[i]? = some x → l[j]? = some x → i = j) : l.Nodup := by
  refine List.pairwise_iff_getElem.2 fun i j hi hj hlt he => ?_
  have := h i j l[i] (List.getElem?_eq_getElem hi) (by rw [he]; exact List.getElem?_eq_getElem hj)
  omega
theorem getDs {α : Type} {l : List α} {i : Nat} {x d : α} (h : l[i]? = some x) : l.getD i d = x := by simp [List.getD, h]
theorem getSome {α : Type} {l : List α} {i : Nat} (h : i < l.length) (d : α) : l[i]? = some (l.getD i d) := by simp [List.getD, h]
section
variable {I J : List Nat}
theorem sub_name {G : Gh} {k i : Nat} (h : I[k]? = some i) (hi : i < G.name.length) : (G.sub I J).name[k]? = G.name[i]? := by
  show (I.map (G.name.getD · 0))[k]? = _
  rw [List.getElem?_map, h, getSome hi 0]; rfl
theorem sub_tok {G : Gh} {k i : Nat} (h : J[k]? = some i) (hi : i < G.tok.length) : (G.sub I J).tok[k]? = G.tok[i]? := by
  show (J.map (G.tok.getD · tok0))[k]? = _
  rw [List.getElem?_map, h, getSome hi tok0]; rfl
theorem ren1_sub {G : Gh} {w : World} {d : D} {u : Value} (hI : ∀ i ∈ I, i < G.name.length) (hJ : ∀ j ∈ J, j < G.tok.length) (hl : d.lt1 I.length J.length = true) (h : DRel G w (d.ren1 I J) u) : DRel (G.sub I J) w d u := by
  cases d with
  | p x => cases h with | p _ _ h => exact .p _ _ h
  | undef => cases h; exact .undef
  | ptr nm off =>
    have hn : nm < I.length := of_decide_eq_true hl
    have hg := getSome hn 0
    cases h with
    | ptr _ _ b hb => exact .ptr _ _ b (by rw [sub_name hg (hI _ (List.mem_of_getElem? hg))]; exact hb)
  | own t e s es =>
    have hn : t < J.length := of_decide_eq_true hl
    have hg := getSome hn 0
    cases h with
    | own _ _ _ _ _ T h1 h2 h3 h0 h4 h5 =>
      have e1 := sub_tok (I := I) hg (hJ _ (List.mem_of_getElem? hg))
      refine .own _ _ _ _ _ T h1 h2 (by rw [e1]; exact h3) h0 h4 fun he => ?_
      obtain ⟨a, cap, rfl, h6⟩ := h5 he
      refine ⟨a, cap, rfl, h6.imp id (Or.imp_left ?_)⟩
      rintro ⟨b, us, T2, ha, g1, g⟩
      exact ⟨b, us, T2, ha, by rw [e1]; exact g1, g⟩
  | yld P t xs =>
    have hn : t < J.length := of_decide_eq_true hl
    have hg := getSome hn 0
    have e1 := sub_tok (I := I) hg (hJ _ (List.mem_of_getElem? hg))
    cases h with
    | yld _ T p h1 h2 => exact .yld t T p (by rw [e1]; exact h1) h2
  | sp P u b nm off =>
    have hn : nm < I.length := of_decide_eq_true hl
    have hg := getSome hn 0
    cases h with
    | sp _ _ _ _ _ i e n _ h1 h2 h3 h4 h5 h6 => exact .sp _ _ _ _ _ i e n _ (by rw [sub_name hg (hI _ (List.mem_of_getElem? hg))]; exact h1) h2 h3 h4 h5 h6
  | fn f a b => cases hl
  | agg a => cases hl
  | tup a => cases hl
theorem ren_sub {G : Gh} {w : World} {d : D} {u : Value} (hI : ∀ i ∈ I, i < G.name.length) (hJ : ∀ j ∈ J, j < G.tok.length) (hl : d.lt I.length J.length = true) (h : DRel G w (d.ren I J) u) : DRel (G.sub I J) w d u := by
  have key : ∀ {l : List D}, l.all (D.lt1 I.length J.length) = true → ∀ {us : Array Value}, (∀ (j : Nat) c u, (l.map (D.ren1 I J))[j]? = some c → us[j]? = some u → DRel G w c u) → ∀ (j : Nat) c u, l[j]? = some c → us[j]? = some u → DRel (G.sub I J) w c u := fun {l} hl us hr j c u hc hu => by
    rw [List.all_eq_true] at hl
    exact ren1_sub hI hJ (hl c (List.mem_of_getElem? hc)) (hr j _ u (by rw [List.getElem?_map, hc]; rfl) hu)
  cases d with
  | p x => exact ren1_sub hI hJ hl h
  | undef => exact ren1_sub hI hJ hl h
  | ptr nm off => exact ren1_sub hI hJ hl h
  | own t e s es => exact ren1_sub hI hJ hl h
  | yld P t xs => exact ren1_sub hI hJ hl h
  | sp P u b nm off => exact ren1_sub hI hJ hl h
  | fn f a b =>
    simp only [D.lt, Bool.and_eq_true] at hl
    cases h with
    | fn _ _ _ us vs h1 h2 h3 h4 => exact .fn _ _ _ us vs (by simpa using h1) (by simpa using h2) (key hl.1 h3) (key hl.2 h4)
  | agg a => cases h with | agg _ us h1 h2 h3 => exact .agg _ us (by simpa using h1) (fun j c u hc hu => h2 j _ u (by rw [List.getElem?_map, hc]; rfl) hu) (key hl h3)
  | tup a => cases h with | tup _ us h1 h3 => exact .tup _ us (by simpa using h1) (key hl h3)
/-- The ghost behind: the callee's tokens among the caller's, new ones at the end. -/
def Gh.back (G Gs : Gh) (J : List Nat) : Gh := ⟨Gs.com, G.name, updL G.tok J Gs.tok ++ Gs.tok.drop J.length⟩
/-- The callee's tokens, new ones too, as the caller's. -/
def moreJ (J : List Nat) (n m : Nat) : List Nat := J ++ (List.range (m - J.length)).map (· + n)
theorem sub_ren1 {Gs : Gh} {nm : List Nat} {tk : List Tok} {w : World} {d : D} {u : Value} (hN : ∀ (k i : Nat), I[k]? = some i → Gs.name[k]? = nm[i]?) (hT : ∀ (k j : Nat), J[k]? = some j → Gs.tok[k]? = tk[j]?) (hl : d.lt1 I.length J.length = true) (h : DRel Gs w d u) : DRel ⟨Gs.com, nm, tk⟩ w (d.ren1 I J) u := by
  cases d with
  | p x => cases h with | p _ _ h => exact .p _ _ h
  | undef => cases h; exact .undef
  | ptr n0 off =>
    have hg := getSome (show n0 < I.length from of_decide_eq_true hl) 0
    cases h with
    | ptr _ _ b hb => exact .ptr _ _ b (by rw [hN _ _ hg] at hb; exact hb)
  | own t e s es =>
    have hg := getSome (show t < J.length from of_decide_eq_true hl) 0
    cases h with
    | own _ _ _ _ _ T h1 h2 h3 h0 h4 h5 =>
      refine .own _ _ _ _ _ T h1 h2 (by rw [← hT _ _ hg]; exact h3) h0 h4 fun he => ?_
      obtain ⟨a, cap, rfl, h6⟩ := h5 he
      refine ⟨a, cap, rfl, h6.imp id (Or.imp_left ?_)⟩
      rintro ⟨b, us, T2, ha, g1, g⟩
      exact ⟨b, us, T2, ha, by rw [← hT _ _ hg]; exact g1, g⟩
  | yld P t xs =>
    have hg := getSome (show t < J.length from of_decide_eq_true hl) 0
    cases h with
    | yld _ T p h1 h2 => exact .yld _ T p (by rw [← hT _ _ hg]; exact h1) h2
  | sp P u b n0 off =>
    have hg := getSome (show n0 < I.length from of_decide_eq_true hl) 0
    cases h with
    | sp _ _ _ _ _ i e n _ h1 h2 h3 h4 h5 h6 => exact .sp _ _ _ _ _ i e n _ (by rw [hN _ _ hg] at h1; exact h1) h2 h3 h4 h5 h6
  | fn f a b => cases hl
  | agg a => cases hl
  | tup a => cases hl
theorem sub_ren {Gs : Gh} {nm : List Nat} {tk : List Tok} {w : World} {d : D} {u : Value} (hN : ∀ (k i : Nat), I[k]? = some i → Gs.name[k]? = nm[i]?) (hT : ∀ (k j : Nat), J[k]? = some j → Gs.tok[k]? = tk[j]?) (hl : d.lt I.length J.length = true) (h : DRel Gs w d u) : DRel ⟨Gs.com, nm, tk⟩ w (d.ren I J) u := by
  have key : ∀ {l : List D}, l.all (D.lt1 I.length J.length) = true → ∀ {us : Array Value}, (∀ (j : Nat) c u, l[j]? = some c → us[j]? = some u → DRel Gs w c u) → ∀ (j : Nat) c u, (l.map (D.ren1 I J))[j]? = some c → us[j]? = some u → DRel ⟨Gs.com, nm, tk⟩ w c u := fun {l} hl us hr j c u hc hu => by
    rw [List.all_eq_true] at hl
    rw [List.getElem?_map] at hc
    obtain ⟨c', hc', rfl⟩ := Option.map_eq_some_iff.1 hc
    exact sub_ren1 hN hT (hl c' (List.mem_of_getElem? hc')) (hr j c' u hc' hu)
  cases d with
  | p x => exact sub_ren1 (d := .p x) hN hT hl h
  | undef => exact sub_ren1 (d := .undef) hN hT hl h
  | ptr n off => exact sub_ren1 (d := .ptr n off) hN hT hl h
  | own t e s es => exact sub_ren1 (d := .own t e s es) hN hT hl h
  | yld P t xs => exact sub_ren1 (d := .yld P t xs) hN hT hl h
  | sp P u b n off => exact sub_ren1 (d := .sp P u b n off) hN hT hl h
  | fn f a b =>
    simp only [D.lt, Bool.and_eq_true] at hl
    cases h with
    | fn _ _ _ us vs h1 h2 h3 h4 => exact .fn _ _ _ us vs (by simpa using h1) (by simpa using h2) (key hl.1 h3) (key hl.2 h4)
  | agg a =>
    cases h with
    | agg _ us h1 h2 h3 =>
      refine .agg _ us (by simpa using h1) (fun j c u hc hu => ?_) (key hl h3)
      rw [List.getElem?_map] at hc
      obtain ⟨c', hc', rfl⟩ := Option.map_eq_some_iff.1 hc
      exact h2 j c' u hc' hu
  | tup a => cases h with | tup _ us h1 h3 => exact .tup _ us (by simpa using h1) (key hl h3)
theorem mem_sub {α : Type} {l : List α} {I : List Nat} {d x : α} (hI : ∀ i ∈ I, i < l.length) (h : x ∈ I.map (l.getD · d)) : x ∈ l := by
  obtain ⟨i, hi, rfl⟩ := List.mem_map.1 h
  exact List.mem_of_getElem? (getSome (hI i hi) d)
theorem Inv.sub {G : Gh} {H : List (List D)} {L : List Nat} {hs : List (List D)} {lv : List Nat} {w : World} (h : Inv G ⟨H, L⟩ w) (nI : I.Nodup) (nJ : J.Nodup) (hI : ∀ i ∈ I, i < H.length) (hJ : ∀ j ∈ J, j < L.length)
    (eH : I.map (H.getD · []) = hs.map fun cs => cs.map (D.ren I J)) (eL : J.map (L.getD · 0) = lv) (hlt : hs.all (fun cs => cs.all (D.lt I.length J.length)) = true) : Inv (G.sub I J) ⟨hs, lv⟩ w := by
  have hN : G.name.length = H.length := h.names
  have hT : G.tok.length = L.length := by have := congrArg List.length h.live; simpa using this
  have hI' : ∀ i ∈ I, i < G.name.length := fun i hi => by rw [hN]; exact hI i hi
  have hJ' : ∀ j ∈ J, j < G.tok.length := fun j hj => by rw [hT]; exact hJ j hj
  have hlen : hs.length = I.length := by have := congrArg List.length eH; simpa using this.symm
  refine ⟨fun b o hc => ?_, ?_, ?_, fun k b cs hb hcs => ?_, ?_, fun t T b ht hb => ?_, fun T hT' => h.pro T (mem_sub hJ' hT'), h.glob⟩
  · obtain ⟨h1, h2, h3⟩ := h.com b o hc
    exact ⟨h1, fun hm => h2 (mem_sub hI' hm), fun T hT' => h3 T (mem_sub hJ' hT')⟩
  · show (I.map _).length = hs.length
    rw [hlen]; simp
  · show (I.map (G.name.getD · 0)).Nodup
    refine nodup_of fun a b x ha hb => ?_
    rw [List.getElem?_map] at ha hb
    obtain ⟨i, hi, rfl⟩ := Option.map_eq_some_iff.1 ha
    obtain ⟨j, hj, he⟩ := Option.map_eq_some_iff.1 hb
    have g1 := getSome (hI' _ (List.mem_of_getElem? hi)) 0
    have g2 := getSome (hI' _ (List.mem_of_getElem? hj)) 0
    rw [he] at g2
    have hii := nodup_inj h.nodup g1 g2
    subst hii
    exact nodup_inj nI hi hj
  · have hk : k < I.length := by rw [← hlen]; exact (List.getElem?_eq_some_iff.1 hcs).1
    have hg := getSome hk 0
    have hil := hI _ (List.mem_of_getElem? hg)
    rw [sub_name hg (by rw [hN]; exact hil)] at hb
    have e := congrArg (·[k]?) eH
    simp only [List.getElem?_map, hg, hcs, Option.map_some, Option.some.injEq] at e
    have hH := getSome hil []
    rw [e] at hH
    obtain ⟨us, ty, h1, h2, h3⟩ := h.var _ b _ hb hH
    refine ⟨us, ty, h1, by rw [h2]; simp, fun j c u hc hu => ?_⟩
    obtain ⟨g1, g2⟩ := h3 j (c.ren I J) u (by rw [List.getElem?_map, hc]; rfl) hu
    rw [List.all_eq_true] at hlt
    have hl := hlt cs (List.mem_of_getElem? hcs)
    rw [List.all_eq_true] at hl
    exact ⟨g1, ren_sub hI' hJ' (hl c (List.mem_of_getElem? hc)) g2⟩
  · show (J.map (G.tok.getD · tok0)).map (·.len) = lv
    rw [← eL, List.map_map]
    refine List.map_congr_left fun j hj => ?_
    have g1 := getSome (hJ' j hj) tok0
    have e := congrArg (·[j]?) h.live
    simp only [List.getElem?_map, g1, Option.map_some] at e
    show (G.tok.getD j tok0).len = L.getD j 0
    exact (getDs e.symm).symm
  · have htl : t < J.length := by have := (List.getElem?_eq_some_iff.1 ht).1; simpa [Gh.sub] using this
    have hg := getSome htl 0
    rw [sub_tok hg (hJ' _ (List.mem_of_getElem? hg))] at ht
    obtain ⟨h1, h2, h3⟩ := h.tok _ T b ht hb
    refine ⟨h1, fun hm => h2 (mem_sub hI' hm), fun t' T' ht' hb' => ?_⟩
    have htl' : t' < J.length := by have := (List.getElem?_eq_some_iff.1 ht').1; simpa [Gh.sub] using this
    have hg' := getSome htl' 0
    rw [sub_tok hg' (hJ' _ (List.mem_of_getElem? hg'))] at ht'
    have e := h3 _ T' ht' hb'
    rw [e] at hg'
    exact nodup_inj nJ hg' hg
/-- A call that sees but the variables I and the tokens J. -/
theorem CallOK.frame {P : Program} {f : FuncId} {args : List D} {hs hs' : List (List D)} {lv lv' : List Nat} {r : D} (k : CallOK P f args ⟨hs, lv⟩ r ⟨hs', lv'⟩) (I J : List Nat) {H : List (List D)} {L : List Nat} (nI : I.Nodup) (nJ : J.Nodup) (hI : ∀ i ∈ I, i < H.length) (hJ : ∀ j ∈ J, j < L.length)
    (eH : I.map (H.getD · []) = hs.map fun cs => cs.map (D.ren I J)) (eL : J.map (L.getD · 0) = lv) (hl' : hs'.length = I.length) (hlv' : J.length ≤ lv'.length)
    (ha : args.all (D.lt I.length J.length) = true) (hlt : hs.all (fun cs => cs.all (D.lt I.length J.length)) = true) (hr : r.lt I.length lv'.length = true) (hlt' : hs'.all (fun cs => cs.all (D.lt I.length lv'.length)) = true) :
    CallOK P f (args.map (D.ren I J)) ⟨H, L⟩ (r.ren I (moreJ J L.length lv'.length)) ⟨updL H I (hs'.map fun cs => cs.map (D.ren I (moreJ J L.length lv'.length))), updL L J lv' ++ lv'.drop J.length⟩ := by
  generalize hJJ : moreJ J L.length lv'.length = JJ
  have lJJ : JJ.length = lv'.length := by rw [← hJJ]; unfold moreJ; simp; omega
  refine ⟨k.fn, fun G w us hInv hs1 hrel => ?_⟩
  have hN : G.name.length = H.length := hInv.names
  have hT : G.tok.length = L.length := by have := congrArg List.length hInv.live; simpa using this
  have hI' : ∀ i ∈ I, i < G.name.length := fun i hi => by rw [hN]; exact hI i hi
  have hJ' : ∀ j ∈ J, j < G.tok.length := fun j hj => by rw [hT]; exact hJ j hj
  have hsub := hInv.sub nI nJ hI hJ eH eL hlt
  rw [List.all_eq_true] at ha
  refine (k.out (G.sub I J) w us hsub (by simpa using hs1) fun j d u hd hu => ren_sub hI' hJ' (ha d (List.mem_of_getElem? hd)) (hrel j _ u (by rw [List.getElem?_map, hd]; rfl) hu)).mono fun e w' ⟨u, Gs, he, hS, hV, hD⟩ => ?_
  have lN : Gs.name.length = I.length := by rw [← hl']; exact hV.names
  have lT : Gs.tok.length = lv'.length := by have := congrArg List.length hV.live; simpa using this
  have eN : ∀ (k i : Nat), I[k]? = some i → Gs.name[k]? = G.name[i]? := fun k i hk => by
    have hil := hI' i (List.mem_of_getElem? hk)
    have := sub_name (J := J) (G := G) hk hil
    rw [getSome hil 0] at this ⊢
    exact hS.name k _ this
  have hNs : ∀ b, b ∈ Gs.name → b ∈ G.name := fun b hb => by
    obtain ⟨k, hk⟩ := List.getElem?_of_mem hb
    have hkl : k < I.length := by rw [← lN]; exact (List.getElem?_eq_some_iff.1 hk).1
    rw [eN k _ (getSome hkl 0)] at hk
    exact List.mem_of_getElem? hk
  have lU : (updL G.tok J Gs.tok).length = L.length := by rw [updL_len]; exact hT
  have bT : ∀ (k j : Nat), JJ[k]? = some j → Gs.tok[k]? = (G.back Gs J).tok[j]? := fun k j hk => by
    have hkl : k < Gs.tok.length := by rw [lT, ← lJJ]; exact (List.getElem?_eq_some_iff.1 hk).1
    rw [← hJJ] at hk
    unfold moreJ at hk
    show _ = (updL G.tok J Gs.tok ++ Gs.tok.drop J.length)[j]?
    by_cases hkJ : k < J.length
    · rw [List.getElem?_append_left hkJ] at hk
      have hj := hJ j (List.mem_of_getElem? hk)
      rw [List.getElem?_append_left (by omega), updL_in J Gs.tok G.tok k j Gs.tok[k] nJ hJ' hk (List.getElem?_eq_getElem hkl), List.getElem?_eq_getElem hkl]
    · rw [List.getElem?_append_right (by omega), List.getElem?_map] at hk
      obtain ⟨z, hz, rfl⟩ := Option.map_eq_some_iff.1 hk
      have hz' : z = k - J.length := by have := (List.getElem?_eq_some_iff.1 hz).2; simpa using this.symm
      rw [List.getElem?_append_right (by omega), List.getElem?_drop]
      congr 1; omega
  have oT : ∀ j, j < L.length → j ∉ J → (G.back Gs J).tok[j]? = G.tok[j]? := fun j hj hm => by
    show (updL G.tok J Gs.tok ++ Gs.tok.drop J.length)[j]? = _
    rw [List.getElem?_append_left (by omega)]
    exact updL_out J Gs.tok G.tok j hm
  have tokCase : ∀ (t : Nat) T, (G.back Gs J).tok[t]? = some T → (∃ k, JJ[k]? = some t ∧ Gs.tok[k]? = some T) ∨ (t ∉ J ∧ G.tok[t]? = some T) := fun t T ht => by
    by_cases hm : t ∈ J
    · obtain ⟨k, hk⟩ := List.getElem?_of_mem hm
      have hk2 : JJ[k]? = some t := by rw [← hJJ]; unfold moreJ; rw [List.getElem?_append_left (List.getElem?_eq_some_iff.1 hk).1]; exact hk
      exact .inl ⟨k, hk2, by rw [bT k t hk2]; exact ht⟩
    · by_cases hlt : t < L.length
      · exact .inr ⟨hm, by rw [← oT t hlt hm]; exact ht⟩
      · have htl : t < (G.back Gs J).tok.length := (List.getElem?_eq_some_iff.1 ht).1
        have htl2 : t < (updL G.tok J Gs.tok ++ Gs.tok.drop J.length).length := htl
        rw [List.length_append, lU, List.length_drop, lT] at htl2
        have hk2 : JJ[J.length + (t - L.length)]? = some t := by
          rw [← hJJ]; unfold moreJ
          rw [List.getElem?_append_right (by omega), List.getElem?_map, List.getElem?_range (by omega)]
          simp; omega
        exact .inl ⟨_, hk2, by rw [bT _ t hk2]; exact ht⟩
  have subBlk : ∀ T ∈ (G.sub I J).tok, T ∈ G.tok := fun T hT' => mem_sub hJ' hT'
  -- where a small token's block comes from
  have blkFrom : ∀ T ∈ Gs.tok, ∀ b, T.has b → w.heap.size ≤ b ∨ b ∈ (G.sub I J).name ∨ ∃ T ∈ (G.sub I J).tok, T.has b := fun T hT' b hb => hS.ext.mine b (.inr ⟨T, hT', hb⟩)
  have stp : Stp G w (G.back Gs J) w' := by
    refine ⟨⟨hS.ext.os, hS.ext.tape, hS.ext.output, hS.ext.size, hS.ext.com, fun b hb hn ht => hS.ext.old b hb (fun hm => hn (mem_sub hI' hm)) (fun T hT' => ht T (subBlk T hT')), fun b o hc => ?_, fun b hb => ?_, hS.ext.mono, hS.ext.shp⟩, fun nm b hb => hb, fun t T ht => ?_⟩
    · rcases hS.ext.new b o hc with h | h | h | ⟨T, h, hb⟩
      · exact .inl h
      · exact .inr (.inl h)
      · exact .inr (.inr (.inl (mem_sub hI' h)))
      · exact .inr (.inr (.inr ⟨T, subBlk T h, hb⟩))
    · rcases hb with hb | ⟨T, hT', hb⟩
      · exact .inr (.inl hb)
      · obtain ⟨t, ht⟩ := List.getElem?_of_mem hT'
        rcases tokCase t T ht with ⟨k, -, hk⟩ | ⟨-, hk⟩
        · rcases blkFrom T (List.mem_of_getElem? hk) b hb with h | h | ⟨T2, h, hb2⟩
          · exact .inl h
          · exact .inr (.inl (mem_sub hI' h))
          · exact .inr (.inr ⟨T2, subBlk T2 h, hb2⟩)
        · exact .inr (.inr ⟨T, List.mem_of_getElem? hk, hb⟩)
    · by_cases hm : t ∈ J
      · obtain ⟨k, hk⟩ := List.getElem?_of_mem hm
        obtain ⟨T', h1, h2⟩ := hS.tok k T (by rw [sub_tok hk (hJ' t hm)]; exact ht)
        have hk2 : JJ[k]? = some t := by rw [← hJJ]; unfold moreJ; rw [List.getElem?_append_left (List.getElem?_eq_some_iff.1 hk).1]; exact hk
        exact ⟨T', by rw [← bT k t hk2]; exact h1, h2⟩
      · refine ⟨T, by rw [oT t (by rw [← hT]; exact (List.getElem?_eq_some_iff.1 ht).1) hm]; exact ht, .refl T, fun _ => ⟨rfl, fun b hb => ?_⟩⟩
        obtain ⟨g1, g2, g3⟩ := hInv.tok t T b ht hb
        refine hS.ext.old b g1 (fun hx => g2 (mem_sub hI' hx)) fun T' hT' hb' => ?_
        obtain ⟨j, hj, rfl⟩ := List.mem_map.1 hT'
        have := g3 j _ (getSome (hJ' j hj) tok0) hb'
        subst this
        exact hm hj
  have inv : Inv (G.back Gs J) ⟨updL H I (hs'.map fun cs => cs.map (D.ren I JJ)), updL L J lv' ++ lv'.drop J.length⟩ w' := by
    refine ⟨fun b o hc => ?_, ?_, hInv.nodup, fun i b cs hb hcs => ?_, ?_, fun t T b ht hb => ?_, fun T hT' => ?_, hV.glob⟩
    rotate_right
    · obtain ⟨t, ht⟩ := List.getElem?_of_mem hT'
      rcases tokCase t T ht with ⟨k, -, hk⟩ | ⟨hm, hk⟩
      · exact hV.pro T (List.mem_of_getElem? hk)
      · have hm' := List.mem_of_getElem? hk
        refine ⟨Tok.ok_ext (hInv.pro T hm') stp.ext fun b hb => ?_, fun b o hr => hS.ext.mono b o ((hInv.pro T hm').2 b o hr)⟩
        obtain ⟨g1, g2, g3⟩ := hInv.tok t T b hk hb
        refine hS.ext.old b g1 (fun hx => g2 (mem_sub hI' hx)) fun T' hT' hb' => ?_
        obtain ⟨j, hj, rfl⟩ := List.mem_map.1 hT'
        have := g3 j _ (getSome (hJ' j hj) tok0) hb'
        subst this
        exact hm hj
    · obtain ⟨g1, g2, g3⟩ := hV.com b o hc
      have hne : ∀ b', b' ∈ (G.sub I J).name → b' ∈ Gs.name := fun b' hb' => by
        obtain ⟨k, hk⟩ := List.getElem?_of_mem hb'
        exact List.mem_of_getElem? (hS.name k b' hk)
      refine ⟨g1, fun hm => ?_, fun T hT' => ?_⟩
      · rcases hS.ext.new b o hc with h | h | h | ⟨T, h, hb⟩
        · exact (hInv.com b o h).2.1 hm
        · have := name_lt hInv b hm; omega
        · exact g2 (hne b h)
        · obtain ⟨j, hj, rfl⟩ := List.mem_map.1 h
          exact (hInv.tok j _ b (getSome (hJ' j hj) tok0) hb).2.1 hm
      · obtain ⟨t, ht⟩ := List.getElem?_of_mem hT'
        rcases tokCase t T ht with ⟨k, -, hk⟩ | ⟨hm, hk⟩
        · exact g3 T (List.mem_of_getElem? hk)
        · have key : T.has b → T.may b o := fun hb => by
            obtain ⟨q1, q2, q3⟩ := hInv.tok t T b hk hb
            rcases hS.ext.new b o hc with h | h | h | ⟨T2, h, hb2⟩
            · exact (hInv.com b o h).2.2 T (List.mem_of_getElem? hk)
            · omega
            · exact absurd (mem_sub hI' h) q2
            · obtain ⟨j, hj, rfl⟩ := List.mem_map.1 h
              have := q3 j _ (getSome (hJ' j hj) tok0) hb2
              subst this
              exact absurd hj hm
          exact ⟨fun hb => (key (.inl hb)).1 hb, fun hb => (key (.inr hb)).2 hb⟩
    · show G.name.length = (updL H I _).length
      rw [updL_len]; exact hN
    · by_cases hm : i ∈ I
      · obtain ⟨k, hk⟩ := List.getElem?_of_mem hm
        have hkl : k < hs'.length := by rw [hl']; exact (List.getElem?_eq_some_iff.1 hk).1
        have hcs' : (updL H I (hs'.map fun cs => cs.map (D.ren I JJ)))[i]? = some (hs'[k].map (D.ren I JJ)) := updL_in I _ H k i _ nI hI hk (by rw [List.getElem?_map, List.getElem?_eq_getElem hkl]; rfl)
        have hcs2 : (updL H I (hs'.map fun cs => cs.map (D.ren I JJ)))[i]? = some cs := hcs
        rw [hcs'] at hcs2
        cases hcs2
        obtain ⟨us', ty, h1, h2, h3⟩ := hV.var k b hs'[k] (by rw [eN k i hk]; exact hb) (List.getElem?_eq_getElem hkl)
        refine ⟨us', ty, h1, by rw [h2]; simp, fun j c u hc hu => ?_⟩
        rw [List.getElem?_map] at hc
        obtain ⟨c', hc', rfl⟩ := Option.map_eq_some_iff.1 hc
        obtain ⟨q1, q2⟩ := h3 j c' u hc' hu
        rw [List.all_eq_true] at hlt'
        have hl2 := hlt' hs'[k] (List.getElem_mem hkl)
        rw [List.all_eq_true] at hl2
        exact ⟨q1, sub_ren (J := JJ) eN bT (by rw [lJJ]; exact hl2 c' (List.mem_of_getElem? hc')) q2⟩
      · have hcs2 : (updL H I (hs'.map fun cs => cs.map (D.ren I JJ)))[i]? = some cs := hcs
        rw [updL_out I _ H i hm] at hcs2
        obtain ⟨us', ty, h1, h2, h3⟩ := hInv.var i b cs hb hcs2
        refine ⟨us', ty, ?_, h2, fun j c u hc hu => ⟨(h3 j c u hc hu).1, (h3 j c u hc hu).2.mono stp⟩⟩
        rw [hS.ext.old b (name_lt hInv b (List.mem_of_getElem? hb)) (fun hx => ?_) (fun T hT' hb' => ?_)]
        · exact h1
        · obtain ⟨j, hj, he⟩ := List.mem_map.1 hx
          have g1 := getSome (hI' j hj) 0
          rw [he] at g1
          have := nodup_inj hInv.nodup g1 hb
          subst this
          exact hm hj
        · obtain ⟨j, hj, rfl⟩ := List.mem_map.1 hT'
          exact (hInv.tok j _ b (getSome (hJ' j hj) tok0) hb').2.1 (List.mem_of_getElem? hb)
    · show (updL G.tok J Gs.tok ++ Gs.tok.drop J.length).map (·.len) = updL L J lv' ++ lv'.drop J.length
      rw [show lv' = Gs.tok.map (·.len) from hV.live.symm, show L = G.tok.map (·.len) from hInv.live.symm]
      have : ∀ (J : List Nat) (A N : List Tok), (updL A J N).map (·.len) = updL (A.map (·.len)) J (N.map (·.len)) := by
        intro J
        induction J with
        | nil => intro A N; cases N <;> rfl
        | cons j J ih =>
          intro A N
          cases N with
          | nil => rfl
          | cons n N => rw [updL, ih, List.map_cons, updL, List.map_set]
      rw [List.map_append, this J G.tok Gs.tok, List.map_drop]
    · rcases tokCase t T ht with ⟨k, hk, hT'⟩ | ⟨hm, hT'⟩
      · obtain ⟨q1, q2, q3⟩ := hV.tok k T b hT' hb
        refine ⟨q1, fun hx => ?_, fun t' T' ht' hb' => ?_⟩
        · rcases blkFrom T (List.mem_of_getElem? hT') b hb with h | h | ⟨T2, h, hb2⟩
          · have := name_lt hInv b hx; omega
          · obtain ⟨k2, hk2⟩ := List.getElem?_of_mem h
            exact q2 (List.mem_of_getElem? (hS.name k2 b hk2))
          · obtain ⟨j, hj, rfl⟩ := List.mem_map.1 h
            exact (hInv.tok j _ b (getSome (hJ' j hj) tok0) hb2).2.1 hx
        · rcases tokCase t' T' ht' with ⟨k', hk', hT2⟩ | ⟨hm', hT2⟩
          · have := q3 k' T' hT2 hb'
            subst this
            exact Option.some.inj (hk'.symm.trans hk)
          · obtain ⟨z1, z2, z3⟩ := hInv.tok t' T' b hT2 hb'
            rcases blkFrom T (List.mem_of_getElem? hT') b hb with h | h | ⟨T2, h, hb2⟩
            · omega
            · exact absurd (mem_sub hI' h) z2
            · obtain ⟨j, hj, rfl⟩ := List.mem_map.1 h
              have := z3 j _ (getSome (hJ' j hj) tok0) hb2
              subst this
              exact absurd hj hm'
      · obtain ⟨z1, z2, z3⟩ := hInv.tok t T b hT' hb
        refine ⟨Nat.lt_of_lt_of_le z1 hS.ext.size, z2, fun t' T' ht' hb' => ?_⟩
        rcases tokCase t' T' ht' with ⟨k', hk', hT2⟩ | ⟨hm', hT2⟩
        · rcases blkFrom T' (List.mem_of_getElem? hT2) b hb' with h | h | ⟨T2, h, hb2⟩
          · omega
          · exact absurd (mem_sub hI' h) z2
          · obtain ⟨j, hj, rfl⟩ := List.mem_map.1 h
            have := z3 j _ (getSome (hJ' j hj) tok0) hb2
            subst this
            exact absurd hj hm
        · exact z3 t' T' hT2 hb'
  exact ⟨u, G.back Gs J, he, stp, inv, sub_ren (J := JJ) eN bT (by rw [lJJ]; exact hr) hD⟩
def nodupB : List Nat → Bool
  | [] => true
  | x :: r => !r.contains x && nodupB r
theorem nodupB_spec : ∀ l : List Nat, nodupB l = true → l.Nodup
  | [], _ => List.nodup_nil
  | x :: r, h => by
    simp only [nodupB, Bool.and_eq_true] at h
    exact List.nodup_cons.2 ⟨by simpa using h.1, nodupB_spec r h.2⟩
def frameOk (I J : List Nat) (nh nl : Nat) (args : List D) (hs hs' : List (List D)) (lv' : List Nat) (r : D) : Bool :=
  nodupB I && nodupB J && I.all (Nat.blt · nh) && J.all (Nat.blt · nl) && hs'.length == I.length && Nat.ble J.length lv'.length && args.all (D.lt I.length J.length) && hs.all (fun cs => cs.all (D.lt I.length J.length)) && r.lt I.length lv'.length && hs'.all (fun cs => cs.all (D.lt I.length lv'.length))
theorem all_blt {I : List Nat} {n : Nat} (h : I.all (Nat.blt · n) = true) : ∀ i ∈ I, i < n := fun i hi => by
  rw [List.all_eq_true] at h
  simpa [Nat.blt_eq] using h i hi
theorem CallOK.fr {P : Program} {f : FuncId} {args : List D} {hs hs' : List (List D)} {lv lv' : List Nat} {r : D} (k : CallOK P f args ⟨hs, lv⟩ r ⟨hs', lv'⟩) (I J : List Nat) {H : List (List D)} {L : List Nat} (c : frameOk I J H.length L.length args hs hs' lv' r = true)
    (eH : I.map (H.getD · []) = hs.map fun cs => cs.map (D.ren I J)) (eL : J.map (L.getD · 0) = lv) : CallOK P f (args.map (D.ren I J)) ⟨H, L⟩ (r.ren I (moreJ J L.length lv'.length)) ⟨updL H I (hs'.map fun cs => cs.map (D.ren I (moreJ J L.length lv'.length))), updL L J lv' ++ lv'.drop J.length⟩ := by
  unfold frameOk at c
  simp only [Bool.and_eq_true] at c
  obtain ⟨⟨⟨⟨⟨⟨⟨⟨⟨c1, c2⟩, c3⟩, c4⟩, c5⟩, c6⟩, c7⟩, c8⟩, c9⟩, c10⟩ := c
  exact k.frame I J (nodupB_spec I c1) (nodupB_spec J c2) (all_blt c3) (all_blt c4) eH eL (by simpa using c5) (Nat.le_of_ble_eq_true c6) c7 c8 c9 c10
theorem updL_same {α : Type} : ∀ (I : List Nat) (N H : List α), I.Nodup → (∀ (k i : Nat) n, I[k]? = some i → N[k]? = some n → H[i]? = some n) → updL H I N = H
  | [], N, H, _, _ => by cases N <;> rfl
  | i :: I, [], H, _, _ => rfl
  | i :: I, n :: N, H, hd, h => by
    have h0 : H[i]? = some n := h 0 i n rfl rfl
    have e : H.set i n = H := by
      apply List.ext_getElem?
      intro j
      by_cases hj : j = i
      · subst hj
        rw [List.getElem?_set_self (List.getElem?_eq_some_iff.1 h0).1, h0]
      · rw [List.getElem?_set_ne (fun e => hj e.symm)]
    rw [updL, e]
    exact updL_same I N H (List.nodup_cons.1 hd).2 fun k j m hk hm => h (k + 1) j m (by simpa using hk) (by simpa using hm)
/-- Known less well, the arguments and what lies in variables. -/
theorem CallOK.weak {P : Program} {f : FuncId} {args args' : List D} {s : S} {r : D} {s' : S} (k : CallOK P f args' s r s') (hl : args.length = args'.length) (h : ∀ (j : Nat) d', args'[j]? = some d' → ∃ d, args[j]? = some d ∧ LeD d d') : CallOK P f args s r s' :=
  ⟨k.fn, fun G w us hI hs hrel => k.out G w us hI (by rw [hs, hl]) fun j d' u hd hu => by
    obtain ⟨d, h1, h2⟩ := h j d' hd
    exact (hrel j d u h1 hu).le h2⟩
end
end Go.Proofs.Ytlhjieapkcnghaa
