/- The abstract layer, part 13: code, loops, functions. -/
import Derived.Test.YtcegigccehapdaaAbY
import Derived.IntWalk
namespace Go.Proofs.Ytcegigccehapdaa
open Go.RowKit

def normE : List Nat → Env → Env
  | [], _ => []
  | t :: r, env => match env.lookup t with
    | some d => (t, d) :: normE r env
    | none => normE r env
/- The state brought into plain form: what is reckoned later stays short. -/
def forceN (n : Nat) (K : Nat → Prop) : Prop := match n with
  | 0 => K 0
  | n + 1 => forceN n fun m => K (m + 1)
def forceD (d : D) (K : D → Prop) : Prop := match d with
  | .p x => K (.p x)
  | .ptr n o => forceN n fun n => K (.ptr n o)
  | d => K d
def forceE (l : Env) (K : Env → Prop) : Prop := match l with
  | [] => K []
  | (t, d) :: r => forceD d fun d => forceE r fun r => K ((t, d) :: r)
def forceH (l : List (List D)) (K : List (List D) → Prop) : Prop := match l with
  | [] => K []
  | d :: r => forceH r fun r => K (d :: r)
def force (σ : St) (K : St → Prop) : Prop := forceE σ.env fun env => forceH σ.s.heap fun heap => K ⟨env, ⟨heap, σ.s.live⟩⟩
theorem forceN_eq : ∀ (n : Nat) (K : Nat → Prop), forceN n K = K n
  | 0, _ => rfl
  | n + 1, K => by rw [forceN, forceN_eq n]
theorem forceD_eq (d : D) (K : D → Prop) : forceD d K = K d := by
  cases d with
  | ptr n o => exact forceN_eq n _
  | _ => rfl
theorem forceE_eq : ∀ (l : Env) (K : Env → Prop), forceE l K = K l
  | [], _ => rfl
  | (t, d) :: r, K => by rw [forceE, forceD_eq, forceE_eq r]
theorem forceH_eq : ∀ (l : List (List D)) (K : List (List D) → Prop), forceH l K = K l
  | [], _ => rfl
  | d :: r, K => by rw [forceH, forceH_eq r]
theorem force_eq (σ : St) (K : St → Prop) : force σ K = K σ := by rw [force, forceE_eq, forceH_eq]
def keep (l : Option (List Nat)) (σ : St) : St := match l with | some l => ⟨normE l σ.env, σ.s⟩ | none => σ
theorem normE_look : ∀ (l : List Nat) (env : Env) (t : Nat) (d : D), (normE l env).lookup t = some d → env.lookup t = some d
  | [], env, t, d, h => by simp [normE] at h
  | x :: r, env, t, d, h => by
    unfold normE at h
    split at h
    · rename_i d' hd
      rw [List.lookup_cons] at h
      by_cases hx : t = x
      · subst hx
        simp only [beq_self_eq_true, Option.some.injEq] at h
        rw [hd, h]
      · have hb : (t == x) = false := by simpa using hx
        rw [hb] at h
        exact normE_look r env t d h
    · exact normE_look r env t d h
theorem normE_congr : ∀ (l : List Nat) {e e' : Env}, (∀ t, e.lookup t = e'.lookup t) → normE l e = normE l e'
  | [], _, _, _ => rfl
  | x :: r, e, e', h => by
    unfold normE
    rw [h x, normE_congr r h]
theorem keep_rel {N : Nat} {G : Gh} {σ : St} {a : Act} {w : World} (h : Rel N G σ a w) (l : Option (List Nat)) : Rel N G (keep l σ) a w := by
  unfold keep
  split
  · exact ⟨h.inv, fun t d hd => h.env t d (normE_look _ _ t d hd), h.defers, h.size⟩
  · exact h

section
variable {P : Program} {tb : Tbl}
/-- From every state that σ describes the code comes to one of Q's. -/
structure T (B : Nat × Nat) (P : Program) (N : Nat) (c : Code) (Q : Exit → St → Prop) (σ : St) : Prop where
  out : ∀ G a w, Rel N G σ a w → c.wp P (fun e a' w' => ∃ G' σ', Ex B G w G' w' ∧ Rel N G' σ' a' w' ∧ Q e σ') a w
def firstReg : Code → Nat
  | .region id _ _ => id
  | .seq a b => min (firstReg a) (firstReg b)
  | .cond _ a b => min (firstReg a) (firstReg b)
  | .block _ b => firstReg b
  | .loop b => firstReg b
  | _ => 1000000
def awp (B : Nat × Nat) (P : Program) (tb : Tbl) (N : Nat) (lv : List (Nat × List Nat)) : Code → (Exit → St → Prop) → St → Prop
  | .skip, Q, σ => Q .normal σ
  | .label _, Q, σ => Q .normal σ
  | .region id ops dr, Q, σ => force σ fun σ => match dr with
    | false => aOps true P tb N ops.toList (List.range ops.toList.length) σ fun σ' => Q .normal (keep (lv.lookup id) σ')
    | true => lexOk ops.toList = true ∧ (lv.lookup id).isSome = true ∧ aOps false P tb N ops.toList (List.range ops.toList.length) σ fun σ' => Q .normal (keep (lv.lookup id) σ')
  | .seq x y, Q, σ => awp B P tb N lv x (fun e σ' => match e with | .normal => awp B P tb N lv y Q σ' | e => Q e σ') σ
  | .cond c x y, Q, σ => match ev σ.env c with
    | some (.p (.v (.bool b))) => (b = true → awp B P tb N lv x Q σ) ∧ (b = false → awp B P tb N lv y Q σ)
    | _ => False
  | .block id b, Q, σ => awp B P tb N lv b (fun e σ' => match e with | .exit i => if i = id then Q .normal σ' else Q (.exit i) σ' | e => Q e σ') σ
  | .exit id, Q, σ => Q (.exit id) σ
  | .ret, Q, σ => Q .ret σ
  | .loop b, Q, σ => T B P N (.loop b) Q (keep (lv.lookup (1000000 + firstReg b)) σ)
  | _, _, _ => False
theorem T_keep {B : Nat × Nat} {N : Nat} {c : Code} {Q : Exit → St → Prop} {σ : St} (l : Option (List Nat)) (h : T B P N c Q (keep l σ)) : T B P N c Q σ := ⟨fun G a w hR => h.out G a w (keep_rel hR l)⟩
theorem awp_sound (hm : P.follows .mixedOrders = true) (hT : TblOk P tb) {B : Nat × Nat} {N : Nat} {lv : List (Nat × List Nat)} : ∀ (c : Code) (Q : Exit → St → Prop) (σ : St), awp B P tb N lv c Q σ → T B P N c Q σ
  | .skip, Q, σ, h => ⟨fun G a w hR => wp_skip ⟨G, σ, .refl B G w, hR, h⟩⟩
  | .label l, Q, σ, h => ⟨fun G a w hR => wp_label ⟨G, σ, .refl B G w, hR, h⟩⟩
  | .exit id, Q, σ, h => ⟨fun G a w hR => wp_exit ⟨G, σ, .refl B G w, hR, h⟩⟩
  | .ret, Q, σ, h => ⟨fun G a w hR => wp_ret ⟨G, σ, .refl B G w, hR, h⟩⟩
  | .region id ops dr, Q, σ, h => .mk fun G a w hR => by
    unfold awp at h
    rw [force_eq] at h
    have hops : ops.toList.toArray = ops := by simp
    cases dr with
    | false =>
      refine wp_region ?_
      have := aOps_sound hT (ops := ops.toList) (Q := fun e a' w' => ∃ G' σ', Ex B G w G' w' ∧ Rel N G' σ' a' w' ∧ Q e σ') (G0 := G) (w0 := w) (fun a' w' G' σ' hE hR' hK => ⟨G', _, hE, keep_rel hR' _, hK⟩) _ σ a w G (.refl B G w) hR h
      rw [hops] at this
      simpa using this
    | true =>
      obtain ⟨h1, h2, h3⟩ := h
      obtain ⟨l, hl⟩ := Option.isSome_iff_exists.1 h2
      refine wp_region_any hm ?_
      have hsz : ops.size = ops.toList.length := by simp
      have hall : ((List.range ops.toList.length).filter fun i => !(Array.replicate ops.size false).getD i true) = List.range ops.toList.length := by
        rw [List.filter_eq_self]
        intro i hi
        have : i < ops.size := by simpa using hi
        simp [Array.getD_eq_getD_getElem?, this]
      have hd : Stp G w G { w with drawn := w.drawn + 1 } := Stp.drewN G w _
      have := any_sound hT (ops := ops.toList) h1 (Q := fun e a' w' => ∃ G' σ', Ex B G w G' w' ∧ Rel N G' σ' a' w' ∧ Q e σ') (K := fun σ' => Q .normal (keep (lv.lookup id) σ')) (fun σ τ he hq => by
          have e : keep (lv.lookup id) σ = keep (lv.lookup id) τ := by
            rw [hl]
            simp only [keep, he.2, normE_congr l he.1]
          show Q .normal (keep (lv.lookup id) τ)
          rw [← e]; exact hq) (G0 := G) (w0 := w) (fun a' w' G' σ' hE hR' hK => ⟨G', _, hE, keep_rel hR' _, hK⟩)
        ops.size (Array.replicate ops.size false) σ a { w with drawn := w.drawn + 1 } G (by simp) (fun i o ho hi => by
          have hlt : i < ops.size := by rw [hsz]; exact (List.getElem?_eq_some_iff.1 ho).1
          simp [Array.getD_eq_getD_getElem?, hlt] at hi) (by rw [hall]; simp) (hd.ex B) ⟨hR.inv.drewN _, hR.env.mono hd, hR.defers, hR.size⟩ (by rw [hall]; exact h3)
      rw [hops] at this
      exact this
  | .seq x y, Q, σ, h => .mk fun G a w hR => by
    refine wp_seq (wp_mono ((awp_sound hm hT x _ σ h).out G a w hR) fun e a' w' ⟨G', σ', hE, hR', hq⟩ => ?_)
    cases e with
    | normal => exact wp_mono ((awp_sound hm hT y _ σ' hq).out G' a' w' hR') fun e a'' w'' ⟨G'', σ'', hE', hR'', hq'⟩ => ⟨G'', σ'', hE.trans hE', hR'', hq'⟩
    | exit id => exact ⟨G', σ', hE, hR', hq⟩
    | goto l => exact ⟨G', σ', hE, hR', hq⟩
    | ret => exact ⟨G', σ', hE, hR', hq⟩
    | panic ch => exact ⟨G', σ', hE, hR', hq⟩
    | outgrown => exact ⟨G', σ', hE, hR', hq⟩
  | .cond c x y, Q, σ, h => .mk fun G a w hR => by
    unfold awp at h
    split at h
    · rename_i b hb
      have hc := ev_rel hR.env c _ hb
      have hv : a.eval c = .bool b := by
        generalize a.eval c = q at hc
        cases hc with | p _ _ hc => cases hc; rfl
      exact wp_cond_split hv (fun hb => (awp_sound hm hT x Q σ (h.1 hb)).out G a w hR) (fun hb => (awp_sound hm hT y Q σ (h.2 hb)).out G a w hR)
    · exact h.elim
  | .block id b, Q, σ, h => .mk fun G a w hR => by
    refine wp_block (wp_mono ((awp_sound hm hT b _ σ h).out G a w hR) fun e a' w' ⟨G', σ', hE, hR', hq⟩ => ?_)
    cases e with
    | normal => exact ⟨G', σ', hE, hR', hq⟩
    | exit i =>
      have hq : if i = id then Q .normal σ' else Q (.exit i) σ' := hq
      show if i = id then _ else _
      split
      · rename_i hi; rw [if_pos hi] at hq; exact ⟨G', σ', hE, hR', hq⟩
      · rename_i hi; rw [if_neg hi] at hq; exact ⟨G', σ', hE, hR', hq⟩
    | goto l => exact ⟨G', σ', hE, hR', hq⟩
    | ret => exact ⟨G', σ', hE, hR', hq⟩
    | panic ch => exact ⟨G', σ', hE, hR', hq⟩
    | outgrown => exact ⟨G', σ', hE, hR', hq⟩
  | .loop b, Q, σ, h => T_keep _ h
  | .rangeFunc _ _ _ _, _, _, h => h.elim
  | .scope _, _, _, h => h.elim
  | .goto _, _, _, h => h.elim
  | .refuse _, _, _, h => h.elim

/-- What is known less well. -/
structure Le (B : Nat × Nat) (N : Nat) (σ τ : St) : Prop where
  out : ∀ G a w, Rel N G σ a w → ∃ G', Ex B G w G' w ∧ Rel N G' τ a w
theorem Le.refl (B : Nat × Nat) (N : Nat) (σ : St) : Le B N σ σ := ⟨fun G _ w hR => ⟨G, .refl B G w, hR⟩⟩
theorem Le.of_eq {B : Nat × Nat} {N : Nat} {σ τ : St} (h : σ = τ) : Le B N σ τ := h ▸ .refl B N σ
theorem Le.trans {B : Nat × Nat} {N : Nat} {σ τ υ : St} (h : Le B N σ τ) (k : Le B N τ υ) : Le B N σ υ := ⟨fun G a w hR => by
  obtain ⟨G1, e1, r1⟩ := h.out G a w hR
  obtain ⟨G2, e2, r2⟩ := k.out G1 a w r1
  exact ⟨G2, e1.trans e2, r2⟩⟩
theorem T_le {B : Nat × Nat} {N : Nat} {c : Code} {Q : Exit → St → Prop} {σ τ : St} (h : Le B N σ τ) (k : T B P N c Q τ) : T B P N c Q σ := ⟨fun G a w hR => by
  obtain ⟨G1, e1, r1⟩ := h.out G a w hR
  exact wp_mono (k.out G1 a w r1) fun e a' w' ⟨G', σ', hE, hR', hq⟩ => ⟨G', σ', e1.trans hE, hR', hq⟩⟩
def lessV : V → V
  | .sl _ es => .sl false es
  | x => x
theorem lessV_rel {C : Nat → Nat → Prop} {w : World} {x : V} {u : Value} (h : VRel C w x u) : VRel C w (lessV x) u := by
  cases h with
  | sl full es a cap size b off us g1 g2 g3 g4 g5 g6 g7 => exact .sl false es a cap size b off us g1 g2 (fun h => by cases h) g4 g5 g6 g7
  | v u h => exact .v u h
  | agg cs us h1 h2 h3 => exact .agg cs us h1 h2 h3
  | ep cs b off us h1 h2 => exact .ep cs b off us h1 h2
/-- All slots as data; variables and tokens are forgotten. -/
def pureE : Env → Option Env
  | [] => some []
  | (t, d) :: r => match unp d, pureE r with
    | some x, some l => some ((t, .p (lessV x)) :: l)
    | _, _ => none
theorem pureE_look : ∀ (env env' : Env), pureE env = some env' → ∀ t d', env'.lookup t = some d' → ∃ d x, env.lookup t = some d ∧ unp d = some x ∧ d' = .p (lessV x)
  | [], env', h, t, d', h' => by simp [pureE] at h; subst h; simp at h'
  | (t0, d) :: r, env', h, t, d', h' => by
    unfold pureE at h
    split at h
    · rename_i x l hx hl
      cases h
      rw [List.lookup_cons] at h' ⊢
      by_cases ht : t = t0
      · subst ht
        simp only [beq_self_eq_true, Option.some.injEq] at h' ⊢
        exact ⟨d, x, rfl, hx, h'.symm⟩
      · have hb : (t == t0) = false := by simpa using ht
        rw [hb] at h' ⊢
        exact pureE_look r l hl t d' h'
    · cases h
theorem Le.pure {N : Nat} {env env' : Env} {s : S} (h : pureE env = some env') : Le (0, 0) N ⟨env, s⟩ ⟨env', ⟨[], []⟩⟩ := ⟨fun G a w hR => by
  refine ⟨⟨G.com, [], []⟩, ⟨⟨rfl, rfl, rfl, Nat.le_refl _, fun _ _ _ h k => ⟨h, k⟩, fun _ _ _ _ => rfl, fun _ _ h => .inl h, fun b hb => ?_⟩, fun nm b h => absurd h (Nat.not_lt_zero _), fun t T h => absurd h (Nat.not_lt_zero _)⟩, ⟨⟨fun b o hc => ⟨(hR.inv.com b o hc).1, by simp, by simp⟩, rfl, by simp, fun i b cs h => by simp at h, rfl, fun t T b h => by simp at h⟩, fun t d' hd => ?_, hR.defers, hR.size⟩⟩
  · simp at hb
  · obtain ⟨d, x, h1, h2, rfl⟩ := pureE_look env env' h t d' hd
    obtain ⟨k1, k2⟩ := hR.env t d h1
    exact ⟨k1, .p _ _ (lessV_rel (show VRel G.com w x _ from unp_rel k2 h2))⟩⟩
def setE : Env → Nat → D → Env
  | [], _, _ => []
  | (t, d) :: r, t', d' => if t = t' then (t, d') :: r else (t, d) :: setE r t' d'
theorem setE_look : ∀ (env : Env) (t : Nat) (d : D) (t' : Nat) (d' : D), (setE env t d).lookup t' = some d' → (env.lookup t' = some d' ∧ t' ≠ t) ∨ (t' = t ∧ d' = d)
  | [], _, _, _, _, h => by simp [setE] at h
  | (t0, d0) :: r, t, d, t', d', h => by
    unfold setE at h
    split at h
    · rename_i ht
      subst ht
      rw [List.lookup_cons] at h ⊢
      by_cases h2 : t' = t0
      · subst h2
        simp only [beq_self_eq_true, Option.some.injEq] at h
        exact .inr ⟨rfl, h.symm⟩
      · have hb : (t' == t0) = false := by simpa using h2
        rw [hb] at h ⊢
        exact .inl ⟨h, h2⟩
    · rename_i ht
      rw [List.lookup_cons] at h ⊢
      by_cases h2 : t' = t0
      · subst h2
        simp only [beq_self_eq_true, Option.some.injEq] at h ⊢
        exact .inl ⟨h, ht⟩
      · have hb : (t' == t0) = false := by simpa using h2
        rw [hb] at h ⊢
        exact setE_look r t d t' d' h
/-- A slice that is nil, or has no room, may be appended to by a token of its own. -/
theorem Le.own {B : Nat × Nat} {N : Nat} {env : Env} {s : S} (t e size : Nat) {es : List (List V)} (h : env.lookup t = some (.p (.sl true es))) (hs : ∀ x ∈ es, x.length = size) :
    Le B N ⟨env, s⟩ ⟨setE env t (.own s.live.length e size es), ⟨s.heap, s.live ++ [es.length]⟩⟩ := ⟨fun G a w hR => by
  obtain ⟨s1, s2⟩ := addTok_stp hR.inv es.length
  refine ⟨_, s1.ex B, ⟨s2, fun t' d' hd => ?_, hR.defers, hR.size⟩⟩
  rcases setE_look _ _ _ _ _ hd with ⟨hd, -⟩ | ⟨rfl, rfl⟩
  · obtain ⟨k1, k2⟩ := hR.env t' d' hd
    exact ⟨k1, k2.mono s1⟩
  · obtain ⟨k1, k2⟩ := hR.env t' _ h
    refine ⟨k1, ?_⟩
    generalize a.tmps.getD t' undef = u at k2
    have hlive : G.tok.length = s.live.length := by rw [← hR.inv.live]; simp
    cases k2 with
    | p _ u hx =>
      obtain ⟨ad, cap, rfl, c1, c2, c3⟩ := hx.isSlice
      have hx' : VRel G.com w (.sl false es) (.slice ad es.length cap) := by
        cases hx with
        | sl _ _ _ _ size b off us g1 g2 g3 g4 g5 g6 g7 => exact .sl false es ad cap size b off us g1 g2 (fun h => by cases h) g4 g5 g6 g7
      exact .own _ _ _ _ _ ⟨es.length, none, 0⟩ hx' hs (by rw [← hlive]; exact List.getElem?_concat_length) (Nat.le_refl _) (fun _ => ⟨ad, cap, rfl, .inl (c3 rfl)⟩)⟩
/-- A loop: the state at a round's head is st x, for some x that H allows; m goes down. -/
theorem T_loop {α : Type} (st : α → St) (H : α → Prop) (m : α → Nat) {B : Nat × Nat} {N : Nat} {c : Code} {Q : Exit → St → Prop} {σ : St} (x : α) (hx : H x) (h0 : Le B N σ (st x))
    (round : ∀ x, H x → T B P N c (fun e σ' => match e with | .normal => ∃ y, H y ∧ m y < m x ∧ Le B N σ' (st y) | e => Q e σ') (st x)) : T B P N (.loop c) Q σ := by
  refine T_le h0 ⟨fun G a w hR b k cs => ?_⟩
  have key : ∀ n x G' a' w', m x = n → H x → Ex B G w G' w' → Rel N G' (st x) a' w' →
      ∃ e a'' w'', (∃ G'' σ', Ex B G w G'' w'' ∧ Rel N G'' σ' a'' w'' ∧ Q e σ') ∧ Arrives P (lone (b.at a' (.code c :: .inLoop c :: k)) cs w') b k cs e a'' w'' := by
    intro n
    induction n using Nat.strongRecOn with
    | _ n ih =>
      intro x G' a' w' hn hH hE hR'
      obtain ⟨e, a₁, w₁, ⟨G₁, σ₁, hE₁, hR₁, hq⟩, harr⟩ := (round x hH).out G' a' w' hR' b (.inLoop c :: k) cs
      cases e with
      | normal =>
        obtain ⟨y, hy, hlt, hle⟩ := hq
        obtain ⟨G₃, e₃, r₃⟩ := hle.out G₁ a₁ w₁ hR₁
        obtain ⟨e₂, a₂, w₂, hq₂, harr₂⟩ := ih (m y) (hn ▸ hlt) y G₃ a₁ w₁ rfl hy ((hE.trans hE₁).trans e₃) r₃
        exact ⟨e₂, a₂, w₂, hq₂, .of_steps (Steps.trans harr (.one step_inLoop)) harr₂⟩
      | exit id => exact ⟨_, a₁, w₁, ⟨G₁, σ₁, hE.trans hE₁, hR₁, hq⟩, .pass (x := .inLoop c) rfl (fun _ _ => .inl (by simp)) harr⟩
      | goto l => exact ⟨_, a₁, w₁, ⟨G₁, σ₁, hE.trans hE₁, hR₁, hq⟩, .pass (x := .inLoop c) rfl (fun _ _ => .inl (by simp)) harr⟩
      | ret => exact ⟨_, a₁, w₁, ⟨G₁, σ₁, hE.trans hE₁, hR₁, hq⟩, .pass (x := .inLoop c) rfl (fun _ _ => .inl (by simp)) harr⟩
      | panic ch => exact ⟨_, a₁, w₁, ⟨G₁, σ₁, hE.trans hE₁, hR₁, hq⟩, .pass (x := .inLoop c) rfl (fun _ _ => .inl (by simp)) harr⟩
      | outgrown => exact ⟨_, a₁, w₁, ⟨G₁, σ₁, hE.trans hE₁, hR₁, hq⟩, .pass (x := .inLoop c) rfl (fun _ _ => .inl (by simp)) harr⟩
  obtain ⟨e, a', w', hq, harr⟩ := key _ x G a w rfl hx (.refl B G w) hR
  exact ⟨e, a', w', hq, .of_steps (.one step_loop) harr⟩

theorem w64 {n : Int} (h1 : -9223372036854775808 ≤ n) (h2 : n ≤ 9223372036854775807) : IntKind.i64.wrap n = n := IntWalk.i64_in n ⟨h1, h2⟩
/-! ### functions -/
def args0 : List V → Nat → Env
  | [], _ => []
  | x :: r, i => (i, .p x) :: args0 r (i + 1)
def resAll (tb : Tbl) (σ : St) : List ResultVar → (List D → Prop) → Prop
  | [], K => K []
  | .tmp t :: r, K => match σ.env.lookup t with
    | some d => resAll tb σ r fun l => K (d :: l)
    | none => False
  | .cell t ty :: r, K => match σ.env.lookup t, tb.lookup ty with
    | some (.ptr nm off), some ti => match σ.s.heap[nm]? with
      | some ds => aLoadD ti (ds.drop off) fun d => resAll tb σ r fun l => K (d :: l)
      | none => False
    | _, _ => False
def retD : List D → Option D
  | [d] => (unp d).map .p
  | ds => (unps ds).map fun xs => .tup (xs.map .p)
def retQ (tb : Tbl) (rs : List ResultVar) (R : D → Prop) (e : Exit) (σ : St) : Prop :=
  match e with
  | .normal => resAll tb σ rs fun ds => match retD ds with | some d => R d | none => False
  | .ret => resAll tb σ rs fun ds => match retD ds with | some d => R d | none => False
  | _ => False
theorem args0_look : ∀ (xs : List V) (i t : Nat) (d : D), (args0 xs i).lookup t = some d → ∃ x, xs[t - i]? = some x ∧ i ≤ t ∧ d = .p x
  | [], _, _, _, h => by simp [args0] at h
  | x :: r, i, t, d, h => by
    unfold args0 at h
    rw [List.lookup_cons] at h
    by_cases ht : t = i
    · subst ht
      simp only [beq_self_eq_true, Option.some.injEq] at h
      exact ⟨x, by simp, Nat.le_refl _, h.symm⟩
    · have hb : (t == i) = false := by simpa using ht
      rw [hb] at h
      obtain ⟨y, h1, h2, h3⟩ := args0_look r (i + 1) t d h
      refine ⟨y, ?_, by omega, h3⟩
      rw [show t - i = (t - (i + 1)) + 1 by omega, List.getElem?_cons_succ]; exact h1
theorem resAll_sound (hT : TblOk P tb) {N : Nat} {G : Gh} {σ : St} {a : Act} {w : World} (hR : Rel N G σ a w) : ∀ (rs : List ResultVar) (K : List D → Prop), resAll tb σ rs K →
    ∃ ds us, (rs.mapM fun (r : ResultVar) => (match r with | .tmp t => pure (a.tmps.getD t undef) | .cell p t => do loadVar t (← asAddr (a.tmps.getD p undef)) : Sem Value)).run P w = .ok us w ∧ us.length = ds.length ∧ (∀ (j : Nat) d u, ds[j]? = some d → us[j]? = some u → DRel G w d u) ∧ K ds
  | [], K, h => ⟨[], [], rfl, rfl, fun j d u h => by simp at h, h⟩
  | .tmp t :: r, K, h => by
    unfold resAll at h
    split at h
    · rename_i d hd
      obtain ⟨ds, us, h1, h2, h3, h4⟩ := resAll_sound hT hR r _ h
      refine ⟨d :: ds, a.tmps.getD t undef :: us, by rw [List.mapM_cons, Sem.run_bind, Sem.run_pure, Result.andThen_ok, Sem.run_bind, h1]; rfl, by simp [h2], fun j d' u hj hu => ?_, h4⟩
      cases j with
      | zero => simp only [List.getElem?_cons_zero, Option.some.injEq] at hj hu; subst hj; subst hu; exact (hR.env t _ hd).2
      | succ j => exact h3 j d' u hj hu
    · exact h.elim
  | .cell t ty :: r, K, h => by
    unfold resAll at h
    split at h
    · rename_i nm off ti hd hti
      split at h
      · rename_i ds0 hs
        have hp := (hR.env t _ hd).2
        obtain ⟨v, d, hr, hdr, hK⟩ := aLoadD_val hT hR.inv hti hp hs h
        obtain ⟨ds, us, h1, h2, h3, h4⟩ := resAll_sound hT hR r _ hK
        have hrun : (do loadVar ty (← asAddr (a.tmps.getD t undef)) : Sem Value).run P w = .ok v w := by
          generalize a.tmps.getD t undef = q at hp hr
          cases hp
          simpa [asAddr, Instr.loadAt, Instr.sureAddr] using hr
        refine ⟨d :: ds, v :: us, ?_, by simp [h2], fun j d' u hj hu => ?_, h4⟩
        · rw [List.mapM_cons, Sem.run_bind, hrun, Result.andThen_ok, Sem.run_bind, h1]
          rfl
        · cases j with
          | zero => simp only [List.getElem?_cons_zero, Option.some.injEq] at hj hu; subst hj; subst hu; exact hdr
          | succ j => exact h3 j d' u hj hu
      · exact h.elim
    · exact h.elim

theorem unp_p {G : Gh} {w : World} {d : D} {u : Value} {x : V} (h : DRel G w d u) (hd : unp d = some x) : DRel G w (.p x) u := .p x u (unp_rel h hd)
theorem retD_rel {G : Gh} {w : World} {ds : List D} {us : List Value} (hl : us.length = ds.length) (h : ∀ (j : Nat) d u, ds[j]? = some d → us[j]? = some u → DRel G w d u) {r : D} (hr : retD ds = some r) :
    DRel G w r (if h : us.toArray.size = 1 then us.toArray[0] else .tuple us.toArray) ∧ ((∃ x, r = .p x) ∨ ∃ xs : List V, r = .tup (xs.map .p)) := by
  unfold retD at hr
  split at hr
  · rename_i d
    obtain ⟨x, hx, rfl⟩ := Option.map_eq_some_iff.1 hr
    match us, hl with
    | [u], _ => exact ⟨unp_p (h 0 d u rfl rfl) hx, .inl ⟨x, rfl⟩⟩
  · rename_i hne
    obtain ⟨xs, hx, rfl⟩ := Option.map_eq_some_iff.1 hr
    obtain ⟨u1, u2⟩ := unps_rel (G := G) (w := w) ds xs hx
    refine ⟨?_, .inr ⟨xs, rfl⟩⟩
    have hsz : ¬ us.toArray.size = 1 := by
      simp only [List.size_toArray, hl]
      intro h1
      match ds, h1 with
      | [d], _ => exact hne d rfl
    rw [dif_neg hsz]
    refine .tup _ _ (by simp [u1, hl]) (fun j c u hc hu => ?_)
    rw [List.getElem?_map] at hc
    obtain ⟨x, hx', rfl⟩ := Option.map_eq_some_iff.1 hc
    obtain ⟨d, hd, hxd⟩ := u2 j x hx'
    exact unp_p (h j d u hd (by simpa using hu)) hxd
/-- A function out of its walk: it begins with nothing but its arguments. -/
theorem PCall.of (hm : P.follows .mixedOrders = true) (hT : TblOk P tb) {f : FuncId} {fn : Func} {c : Code} (lv : List (Nat × List Nat)) (hf : P.funcs[f]? = some fn) (hb : fn.body = some c) (hn : isFn P f = true) {args : List V} (hN : args.length ≤ fn.ntmps) {r : D}
    (h : awp (0, 0) P tb fn.ntmps lv c (retQ tb fn.results.toList fun d => d = r) ⟨args0 args 0, ⟨[], []⟩⟩) : PCall P f args r := by
  refine ⟨hn, fun C w us hl hrel => calls_of_wp hf hb ?_⟩
  have hR : Rel fn.ntmps ⟨fun b o => C b o ∧ b < w.heap.size, [], []⟩ ⟨args0 args 0, ⟨[], []⟩⟩ { tmps := us ++ Array.replicate (fn.ntmps - us.size) undef, defers := [] } w := by
    refine ⟨⟨fun b o h => ⟨h.2, by simp, by simp⟩, rfl, by simp, fun i b cs h => by simp at h, rfl, fun t T b h => by simp at h⟩, fun t d hd => ?_, rfl, by simp; omega⟩
    obtain ⟨x, h1, h2, rfl⟩ := args0_look args 0 t d hd
    have hlt : t < args.length := (List.getElem?_eq_some_iff.1 h1).1
    have hlt2 : t < us.size := by omega
    refine ⟨by simp; omega, .p x _ (DRel.lt ?_)⟩
    refine hrel t x _ h1 ?_
    simp only [Array.getD_eq_getD_getElem?, Array.getElem?_append_left hlt2, Array.getElem?_eq_getElem hlt2, Option.getD_some]
  refine wp_mono ((awp_sound hm hT c _ _ h).out _ _ w hR) fun e a' w' ⟨G', σ', hE, hR', hq⟩ => ?_
  have key : ∀ (hq : resAll tb σ' fn.results.toList fun ds => match retD ds with | some d => d = r | none => False), a'.defers = [] ∧ ∃ v, (results fn a'.tmps).run P w' = .ok v w' ∧
      ∃ u, Ending.returned v = .returned u ∧ DRel ⟨fun b o => C b o ∨ w.heap.size ≤ b, [], []⟩ w' r u ∧ Below w.heap.size w w' := fun hq => by
    refine ⟨hR'.defers, ?_⟩
    obtain ⟨ds, us', h1, h2, h3, h4⟩ := resAll_sound hT hR' _ _ hq
    split at h4
    · rename_i d hd
      subst h4
      obtain ⟨k1, k2⟩ := retD_rel h2 h3 hd
      refine ⟨if h : us'.toArray.size = 1 then us'.toArray[0] else .tuple us'.toArray, ?_, _, rfl, ?_, ⟨hE.ext.os, hE.ext.tape, hE.ext.output, hE.ext.size, fun k hk => hE.ext.old k hk (by simp) (by simp)⟩⟩
      · unfold results
        rw [Sem.run_bind, Array.mapM_eq_mapM_toList, Sem.run_map]
        erw [h1]
        rfl
      · have hcom : ∀ b o, G'.com b o → C b o ∨ w.heap.size ≤ b := fun b o hc => by
          rcases hE.ext.new b o hc with h | h | h | ⟨T, h, _⟩
          · exact .inl h.1
          · exact .inr h
          · simp at h
          · simp at h
        rcases k2 with ⟨x, rfl⟩ | ⟨xs, rfl⟩
        · generalize (if h : us'.toArray.size = 1 then us'.toArray[0] else Value.tuple us'.toArray) = q at k1
          cases k1 with
          | p _ _ k1 => exact .p _ _ (k1.mono fun b o u h1 h2 => ⟨hcom b o h1, h2⟩)
        · generalize (if h : us'.toArray.size = 1 then us'.toArray[0] else Value.tuple us'.toArray) = q at k1
          cases k1 with
          | tup _ vs l1 l2 =>
            refine .tup _ _ l1 (fun j c u hc hu => ?_)
            have := l2 j c u hc hu
            rw [List.getElem?_map] at hc
            obtain ⟨x, -, rfl⟩ := Option.map_eq_some_iff.1 hc
            cases this with
            | p _ _ k1 => exact .p _ _ (k1.mono fun b o u h1 h2 => ⟨hcom b o h1, h2⟩)
    · exact h4.elim
  cases e with
  | normal => exact key hq
  | ret => exact key hq
  | _ => exact hq.elim
end
end Go.Proofs.Ytcegigccehapdaa
