/- The abstract layer, part 13: code, loops, functions. -/
import Derived.Test.YtlhjieapkcnghaaAbY
import Derived.IntWalk
namespace Go.Proofs.Ytlhjieapkcnghaa
open Go.RowKit

def normE : List Nat → Env → Env
  | [], _ => []
  | t :: r, env => match env.lookup t with
    | some d => (t, d) :: normE r env
    | none => normE r env
/- The state brought into plain form: what is reckoned later stays short. -/
def forceN (n : Nat) (K : Nat → Prop) : Prop := match n with
  | 0 => K 0
  | n + 1 => forceN n fun m => K (m + 1)
def forceD (d : D) (K : D → Prop) : Prop := match d with
  | .p x => K (.p x)
  | .ptr n o => forceN n fun n => K (.ptr n o)
  | d => K d
def forceE (l : Env) (K : Env → Prop) : Prop := match l with
  | [] => K []
  | (t, d) :: r => forceD d fun d => forceE r fun r => K ((t, d) :: r)
def forceH (l : List (List D)) (K : List (List D) → Prop) : Prop := match l with
  | [] => K []
  | d :: r => forceH r fun r => K (d :: r)
def force (σ : St) (K : St → Prop) : Prop := forceE σ.env fun env => forceH σ.s.heap fun heap => K ⟨env, ⟨heap, σ.s.live⟩⟩
theorem forceN_eq : ∀ (n : Nat) (K : Nat → Prop), forceN n K = K n
  | 0, _ => rfl
  | n + 1, K => by rw [forceN, forceN_eq n]
theorem forceD_eq (d : D) (K : D → Prop) : forceD d K = K d := by
  cases d with
  | ptr n o => exact forceN_eq n _
  | _ => rfl
theorem forceE_eq : ∀ (l : Env) (K : Env → Prop), forceE l K = K l
  | [], _ => rfl
  | (t, d) :: r, K => by rw [forceE, forceD_eq, forceE_eq r]
theorem forceH_eq : ∀ (l : List (List D)) (K : List (List D) → Prop), forceH l K = K l
  | [], _ => rfl
  | d :: r, K => by rw [forceH, forceH_eq r]
theorem force_eq (σ : St) (K : St → Prop) : force σ K = K σ := by rw [force, forceE_eq, forceH_eq]
def keep (l : Option (List Nat)) (σ : St) : St := match l with | some l => ⟨normE l σ.env, σ.s⟩ | none => σ
theorem normE_look : ∀ (l : List Nat) (env : Env) (t : Nat) (d : D), (normE l env).lookup t = some d → env.lookup t = some d
  | [], env, t, d, h => by simp [normE] at h
  | x :: r, env, t, d, h => by
    unfold normE at h
    split at h
    · rename_i d' hd
      rw [List.lookup_cons] at h
      by_cases hx : t = x
      · subst hx
        simp only [beq_self_eq_true, Option.some.injEq] at h
        rw [hd, h]
      · have hb : (t == x) = false := by simpa using hx
        rw [hb] at h
        exact normE_look r env t d h
    · exact normE_look r env t d h
theorem normE_congr : ∀ (l : List Nat) {e e' : Env}, (∀ t, e.lookup t = e'.lookup t) → normE l e = normE l e'
  | [], _, _, _ => rfl
  | x :: r, e, e', h => by
    unfold normE
    rw [h x, normE_congr r h]
theorem keep_rel {N : Nat} {G : Gh} {σ : St} {a : Act} {w : World} (h : Rel N G σ a w) (l : Option (List Nat)) : Rel N G (keep l σ) a w := by
  unfold keep
  split
  · exact ⟨h.inv, fun t d hd => h.env t d (normE_look _ _ t d hd), h.size⟩
  · exact h

section
variable {P : Program} {tb : Tbl}
/-- The mark of a loop over a function among the deferred calls. -/
def markOf (b : Nat) : Deferred := { target := .collected b, args := #[] }
/-- What the frame leans on: the marks among its deferred calls; the record of the loop whose round it is. -/
structure Fr (rd : Option Nat) (lo : Nat) (G : Gh) (a : Act) (w : World) : Prop where
  marks : ∃ Ds : List Nat, a.defers = Ds.map markOf ∧ Ds.Nodup ∧ ∀ b ∈ Ds, lo ≤ b ∧ w.heap[b]? = some (.deferred (some [])) ∧ b ∉ G.name ∧ ∀ T ∈ G.tok, ¬ T.has b
  round : ∀ l, rd = some l → (∃ r, w.heap[l]? = some (.loop r)) ∧ l ∉ G.name ∧ ∀ T ∈ G.tok, ¬ T.has l
  size : lo ≤ w.heap.size
theorem Ext.stays {G G' : Gh} {w w' : World} (h : Ext G w G' w') {b : Nat} {o : Obj} (hb : w.heap[b]? = some o) (hn : b ∉ G.name) (ht : ∀ T ∈ G.tok, ¬ T.has b) : w'.heap[b]? = some o ∧ b ∉ G'.name ∧ ∀ T ∈ G'.tok, ¬ T.has b := by
  have hlt := (Array.getElem?_eq_some_iff.1 hb).1
  refine ⟨by rw [h.old b hlt hn ht]; exact hb, fun hm => ?_, fun T hT hh => ?_⟩
  · rcases h.mine b (.inl hm) with k | k | ⟨T, k, k2⟩
    · omega
    · exact hn k
    · exact ht T k k2
  · rcases h.mine b (.inr ⟨T, hT, hh⟩) with k | k | ⟨T, k, k2⟩
    · omega
    · exact hn k
    · exact ht T k k2
theorem Fr.ext {rd : Option Nat} {lo : Nat} {G G' : Gh} {a a' : Act} {w w' : World} (h : Fr rd lo G a w) (k : Ext G w G' w') (hd : a'.defers = a.defers) : Fr rd lo G' a' w' := by
  obtain ⟨Ds, h1, h2, h3⟩ := h.marks
  refine ⟨⟨Ds, by rw [hd]; exact h1, h2, fun b hb => ?_⟩, fun l hl => ?_, Nat.le_trans h.size k.size⟩
  · obtain ⟨k1, k2, k3, k4⟩ := h3 b hb
    exact ⟨k1, k.stays k2 k3 k4⟩
  · obtain ⟨⟨r, k2⟩, k3, k4⟩ := h.round l hl
    obtain ⟨g1, g2⟩ := k.stays k2 k3 k4
    exact ⟨⟨r, g1⟩, g2⟩
theorem Fr.none {G : Gh} {a : Act} {w : World} (ha : a.defers = []) : Fr Option.none w.heap.size G a w := ⟨⟨[], ha, List.nodup_nil, fun _ h => (nomatch h)⟩, fun _ h => (nomatch h), Nat.le_refl _⟩
/-- From every state that σ describes the code comes to one of Q's. -/
structure T (B : Nat × Nat) (P : Program) (N : Nat) (c : Code) (Q : Exit → St → Prop) (σ : St) : Prop where
  out : ∀ rd lo G a w, Rel N G σ a w → Fr rd lo G a w → c.wpIn (FW rd) 0 P (fun e a' w' => ∃ G' σ', Ex B G w G' w' ∧ Rel N G' σ' a' w' ∧ Fr rd lo G' a' w' ∧ Q e σ') a w
def firstReg : Code → Nat
  | .region id _ _ => id
  | .seq a b => min (firstReg a) (firstReg b)
  | .cond _ a b => min (firstReg a) (firstReg b)
  | .block _ b => firstReg b
  | .loop b => firstReg b
  | .rangeFunc _ _ a b => min (firstReg a) (firstReg b)
  | _ => 1000000
theorem T_keep {B : Nat × Nat} {N : Nat} {c : Code} {Q : Exit → St → Prop} {σ : St} (l : Option (List Nat)) (h : T B P N c Q (keep l σ)) : T B P N c Q σ := ⟨fun rd lo G a w hR hF => h.out rd lo G a w (keep_rel hR l) hF⟩
/-- What is known less well. -/
structure Le (B : Nat × Nat) (N : Nat) (σ τ : St) : Prop where
  out : ∀ G a w, Rel N G σ a w → ∃ G', Ex B G w G' w ∧ Rel N G' τ a w
theorem Le.refl (B : Nat × Nat) (N : Nat) (σ : St) : Le B N σ σ := ⟨fun G _ w hR => ⟨G, .refl B G w, hR⟩⟩
theorem Le.of_eq {B : Nat × Nat} {N : Nat} {σ τ : St} (h : σ = τ) : Le B N σ τ := h ▸ .refl B N σ
theorem Le.trans {B : Nat × Nat} {N : Nat} {σ τ υ : St} (h : Le B N σ τ) (k : Le B N τ υ) : Le B N σ υ := ⟨fun G a w hR => by
  obtain ⟨G1, e1, r1⟩ := h.out G a w hR
  obtain ⟨G2, e2, r2⟩ := k.out G1 a w r1
  exact ⟨G2, e1.trans e2, r2⟩⟩
theorem T_le {B : Nat × Nat} {N : Nat} {c : Code} {Q : Exit → St → Prop} {σ τ : St} (h : Le B N σ τ) (k : T B P N c Q τ) : T B P N c Q σ := ⟨fun rd lo G a w hR hF => by
  obtain ⟨G1, e1, r1⟩ := h.out G a w hR
  exact wpIn_mono (k.out rd lo G1 a w r1 (hF.ext e1.ext rfl)) fun e a' w' ⟨G', σ', hE, hR', hF', hq⟩ => ⟨G', σ', e1.trans hE, hR', hF', hq⟩⟩
def lessV : V → V
  | .sl _ es => .sl false es
  | x => x
theorem lessV_rel {C : Nat → Nat → Prop} {w : World} {x : V} {u : Value} (h : VRel C w x u) : VRel C w (lessV x) u := by
  cases h with
  | sl full es a cap size b off us g1 g2 g3 g4 g5 g6 g7 g8 => exact .sl false es a cap size b off us g1 g2 (fun h => by cases h) g4 g5 g6 g7 (fun h => by cases h)
  | v u h => exact .v u h
  | agg cs us h1 h2 h3 => exact .agg cs us h1 h2 h3
  | ep cs b off us h1 h2 => exact .ep cs b off us h1 h2
  | opt b cs u h1 h2 => exact .opt b cs u h1 h2
/-- All slots as data; variables and tokens are forgotten. -/
def pureE : Env → Option Env
  | [] => some []
  | (t, d) :: r => match unp d, pureE r with
    | some x, some l => some ((t, .p (lessV x)) :: l)
    | _, _ => none
theorem pureE_look : ∀ (env env' : Env), pureE env = some env' → ∀ t d', env'.lookup t = some d' → ∃ d x, env.lookup t = some d ∧ unp d = some x ∧ d' = .p (lessV x)
  | [], env', h, t, d', h' => by simp [pureE] at h; subst h; simp at h'
  | (t0, d) :: r, env', h, t, d', h' => by
    unfold pureE at h
    split at h
    · rename_i x l hx hl
      cases h
      rw [List.lookup_cons] at h' ⊢
      by_cases ht : t = t0
      · subst ht
        simp only [beq_self_eq_true, Option.some.injEq] at h' ⊢
        exact ⟨d, x, rfl, hx, h'.symm⟩
      · have hb : (t == t0) = false := by simpa using ht
        rw [hb] at h' ⊢
        exact pureE_look r l hl t d' h'
    · cases h
theorem Le.pure {N : Nat} {env env' : Env} {s : S} (h : pureE env = some env') : Le (0, 0) N ⟨env, s⟩ ⟨env', ⟨[], []⟩⟩ := ⟨fun G a w hR => by
  refine ⟨⟨G.com, [], []⟩, ⟨⟨rfl, rfl, rfl, Nat.le_refl _, fun _ _ _ h k => ⟨h, k⟩, fun _ _ _ _ => rfl, fun _ _ h => .inl h, fun b hb => ?_, fun _ _ h => h, .refl w⟩, fun nm b h => absurd h (Nat.not_lt_zero _), fun t T h => absurd h (Nat.not_lt_zero _)⟩, ⟨⟨fun b o hc => ⟨(hR.inv.com b o hc).1, by simp, by simp⟩, rfl, by simp, fun i b cs h => by simp at h, rfl, fun t T b h => by simp at h, fun T h => by simp at h, hR.inv.glob⟩, fun t d' hd => ?_, hR.size⟩⟩
  · simp at hb
  · obtain ⟨d, x, h1, h2, rfl⟩ := pureE_look env env' h t d' hd
    obtain ⟨k1, k2⟩ := hR.env t d h1
    exact ⟨k1, .p _ _ (lessV_rel (show VRel G.com w x _ from unp_rel k2 h2))⟩⟩
def setE : Env → Nat → D → Env
  | [], _, _ => []
  | (t, d) :: r, t', d' => if t = t' then (t, d') :: r else (t, d) :: setE r t' d'
theorem setE_look : ∀ (env : Env) (t : Nat) (d : D) (t' : Nat) (d' : D), (setE env t d).lookup t' = some d' → (env.lookup t' = some d' ∧ t' ≠ t) ∨ (t' = t ∧ d' = d)
  | [], _, _, _, _, h => by simp [setE] at h
  | (t0, d0) :: r, t, d, t', d', h => by
    unfold setE at h
    split at h
    · rename_i ht
      subst ht
      rw [List.lookup_cons] at h ⊢
      by_cases h2 : t' = t0
      · subst h2
        simp only [beq_self_eq_true, Option.some.injEq] at h
        exact .inr ⟨rfl, h.symm⟩
      · have hb : (t' == t0) = false := by simpa using h2
        rw [hb] at h ⊢
        exact .inl ⟨h, h2⟩
    · rename_i ht
      rw [List.lookup_cons] at h ⊢
      by_cases h2 : t' = t0
      · subst h2
        simp only [beq_self_eq_true, Option.some.injEq] at h ⊢
        exact .inl ⟨h, ht⟩
      · have hb : (t' == t0) = false := by simpa using h2
        rw [hb] at h ⊢
        exact setE_look r t d t' d' h
/-- A slice that is nil, or has no room, may be appended to by a token of its own. -/
theorem Le.own {B : Nat × Nat} {N : Nat} {env : Env} {s : S} (t e size : Nat) {es : List (List V)} (h : env.lookup t = some (.p (.sl true es))) (hs : ∀ x ∈ es, x.length = size) (h0 : es = [] := by exact rfl) :
    Le B N ⟨env, s⟩ ⟨setE env t (.own s.live.length e size es), ⟨s.heap, s.live ++ [es.length]⟩⟩ := ⟨fun G a w hR => by
  obtain ⟨s1, s2⟩ := addTok_stp hR.inv es.length
  refine ⟨_, s1.ex B, ⟨s2, fun t' d' hd => ?_, hR.size⟩⟩
  rcases setE_look _ _ _ _ _ hd with ⟨hd, -⟩ | ⟨rfl, rfl⟩
  · obtain ⟨k1, k2⟩ := hR.env t' d' hd
    exact ⟨k1, k2.mono s1⟩
  · obtain ⟨k1, k2⟩ := hR.env t' _ h
    refine ⟨k1, ?_⟩
    generalize a.tmps.getD t' undef = u at k2
    have hlive : G.tok.length = s.live.length := by rw [← hR.inv.live]; simp
    cases k2 with
    | p _ u hx =>
      obtain ⟨ad, cap, rfl, c1, c2, c3, c4⟩ := hx.isSlice
      have hx' : VRel G.com w (.sl false es) (.slice ad es.length cap) := by
        cases hx with
        | sl _ _ _ _ size b off us g1 g2 g3 g4 g5 g6 g7 g8 => exact .sl false es ad cap size b off us g1 g2 (fun h => by cases h) g4 g5 g6 g7 (fun h => by cases h)
      exact .own _ _ _ _ _ ⟨es.length, none, 0, none⟩ hx' hs (by rw [← hlive]; exact List.getElem?_concat_length) rfl (Nat.le_refl _) (fun _ => ⟨ad, cap, rfl, .inl ⟨by rw [c3 rfl, h0]; rfl, c4 rfl⟩⟩)⟩
/-- A slice without room gets a token: of its row nothing is said. -/
theorem Le.ownW {B : Nat × Nat} {N : Nat} {env : Env} {s : S} (t e size : Nat) {es : List (List V)} (h : env.lookup t = some (.p (.sl true es))) (hs : ∀ x ∈ es, x.length = size) :
    Le B N ⟨env, s⟩ ⟨setE env t (.own s.live.length (e + 1000000) size es), ⟨s.heap, s.live ++ [es.length]⟩⟩ := ⟨fun G a w hR => by
  obtain ⟨s1, s2⟩ := addTok_stp hR.inv es.length
  refine ⟨_, s1.ex B, ⟨s2, fun t' d' hd => ?_, hR.size⟩⟩
  rcases setE_look _ _ _ _ _ hd with ⟨hd, -⟩ | ⟨rfl, rfl⟩
  · obtain ⟨k1, k2⟩ := hR.env t' d' hd
    exact ⟨k1, k2.mono s1⟩
  · obtain ⟨k1, k2⟩ := hR.env t' _ h
    refine ⟨k1, ?_⟩
    generalize a.tmps.getD t' undef = u at k2
    have hlive : G.tok.length = s.live.length := by rw [← hR.inv.live]; simp
    cases k2 with
    | p _ u hx =>
      obtain ⟨ad, cap, rfl, c1, c2, c3, c4⟩ := hx.isSlice
      have hx' : VRel G.com w (.sl false es) (.slice ad es.length cap) := by
        cases hx with
        | sl _ _ _ _ size b off us g1 g2 g3 g4 g5 g6 g7 g8 => exact .sl false es ad cap size b off us g1 g2 (fun h => by cases h) g4 g5 g6 g7 (fun h => by cases h)
      exact .own _ _ _ _ _ ⟨es.length, none, 0, none⟩ hx' hs (by rw [← hlive]; exact List.getElem?_concat_length) rfl (Nat.le_refl _) (fun _ => ⟨ad, cap, rfl, .inr (.inr ⟨Nat.le_add_left _ _, c3 rfl⟩)⟩)⟩
theorem w64 {n : Int} (h1 : -9223372036854775808 ≤ n) (h2 : n ≤ 9223372036854775807) : IntKind.i64.wrap n = n := IntWalk.i64_in n ⟨h1, h2⟩
/-! ### functions -/
def args0 : List V → Nat → Env
  | [], _ => []
  | x :: r, i => (i, .p x) :: args0 r (i + 1)
def resAll (tb : Tbl) (σ : St) : List ResultVar → (List D → Prop) → Prop
  | [], K => K []
  | .tmp t :: r, K => match σ.env.lookup t with
    | some d => resAll tb σ r fun l => K (d :: l)
    | none => False
  | .cell t ty :: r, K => match σ.env.lookup t, tb.lookup ty with
    | some (.ptr nm off), some ti => match σ.s.heap[nm]? with
      | some ds => aLoadD ti (ds.drop off) fun d => resAll tb σ r fun l => K (d :: l)
      | none => False
    | _, _ => False
def retD : List D → Option D
  | [d] => (unp d).map .p
  | ds => (unps ds).map fun xs => .tup (xs.map .p)
def retQ (tb : Tbl) (rs : List ResultVar) (R : D → Prop) (e : Exit) (σ : St) : Prop :=
  match e with
  | .normal => resAll tb σ rs fun ds => match retD ds with | some d => R d | none => False
  | .ret => resAll tb σ rs fun ds => match retD ds with | some d => R d | none => False
  | _ => False
theorem args0_look : ∀ (xs : List V) (i t : Nat) (d : D), (args0 xs i).lookup t = some d → ∃ x, xs[t - i]? = some x ∧ i ≤ t ∧ d = .p x
  | [], _, _, _, h => by simp [args0] at h
  | x :: r, i, t, d, h => by
    unfold args0 at h
    rw [List.lookup_cons] at h
    by_cases ht : t = i
    · subst ht
      simp only [beq_self_eq_true, Option.some.injEq] at h
      exact ⟨x, by simp, Nat.le_refl _, h.symm⟩
    · have hb : (t == i) = false := by simpa using ht
      rw [hb] at h
      obtain ⟨y, h1, h2, h3⟩ := args0_look r (i + 1) t d h
      refine ⟨y, ?_, by omega, h3⟩
      rw [show t - i = (t - (i + 1)) + 1 by omega, List.getElem?_cons_succ]; exact h1
theorem resAll_sound (hT : TblOk P tb) {N : Nat} {G : Gh} {σ : St} {a : Act} {w : World} (hR : Rel N G σ a w) : ∀ (rs : List ResultVar) (K : List D → Prop), resAll tb σ rs K →
    ∃ ds us, (rs.mapM fun (r : ResultVar) => (match r with | .tmp t => pure (a.tmps.getD t undef) | .cell p t => do loadVar t (← asAddr (a.tmps.getD p undef)) : Sem Value)).run P w = .ok us w ∧ us.length = ds.length ∧ (∀ (j : Nat) d u, ds[j]? = some d → us[j]? = some u → DRel G w d u) ∧ K ds
  | [], K, h => ⟨[], [], rfl, rfl, fun j d u h => by simp at h, h⟩
  | .tmp t :: r, K, h => by
    unfold resAll at h
    split at h
    · rename_i d hd
      obtain ⟨ds, us, h1, h2, h3, h4⟩ := resAll_sound hT hR r _ h
      refine ⟨d :: ds, a.tmps.getD t undef :: us, by rw [List.mapM_cons, Sem.run_bind, Sem.run_pure, Result.andThen_ok, Sem.run_bind, h1]; rfl, by simp [h2], fun j d' u hj hu => ?_, h4⟩
      cases j with
      | zero => simp only [List.getElem?_cons_zero, Option.some.injEq] at hj hu; subst hj; subst hu; exact (hR.env t _ hd).2
      | succ j => exact h3 j d' u hj hu
    · exact h.elim
  | .cell t ty :: r, K, h => by
    unfold resAll at h
    split at h
    · rename_i nm off ti hd hti
      split at h
      · rename_i ds0 hs
        have hp := (hR.env t _ hd).2
        obtain ⟨v, d, hr, hdr, hK⟩ := aLoadD_val hT hR.inv hti hp hs h
        obtain ⟨ds, us, h1, h2, h3, h4⟩ := resAll_sound hT hR r _ hK
        have hrun : (do loadVar ty (← asAddr (a.tmps.getD t undef)) : Sem Value).run P w = .ok v w := by
          generalize a.tmps.getD t undef = q at hp hr
          cases hp
          simpa [asAddr, Instr.loadAt, Instr.sureAddr] using hr
        refine ⟨d :: ds, v :: us, ?_, by simp [h2], fun j d' u hj hu => ?_, h4⟩
        · rw [List.mapM_cons, Sem.run_bind, hrun, Result.andThen_ok, Sem.run_bind, h1]
          rfl
        · cases j with
          | zero => simp only [List.getElem?_cons_zero, Option.some.injEq] at hj hu; subst hj; subst hu; exact hdr
          | succ j => exact h3 j d' u hj hu
      · exact h.elim
    · exact h.elim

theorem unp_p {G : Gh} {w : World} {d : D} {u : Value} {x : V} (h : DRel G w d u) (hd : unp d = some x) : DRel G w (.p x) u := .p x u (unp_rel h hd)
theorem retD_rel {G : Gh} {w : World} {ds : List D} {us : List Value} (hl : us.length = ds.length) (h : ∀ (j : Nat) d u, ds[j]? = some d → us[j]? = some u → DRel G w d u) {r : D} (hr : retD ds = some r) :
    DRel G w r (if h : us.toArray.size = 1 then us.toArray[0] else .tuple us.toArray) ∧ ((∃ x, r = .p x) ∨ ∃ xs : List V, r = .tup (xs.map .p)) := by
  unfold retD at hr
  split at hr
  · rename_i d
    obtain ⟨x, hx, rfl⟩ := Option.map_eq_some_iff.1 hr
    match us, hl with
    | [u], _ => exact ⟨unp_p (h 0 d u rfl rfl) hx, .inl ⟨x, rfl⟩⟩
  · rename_i hne
    obtain ⟨xs, hx, rfl⟩ := Option.map_eq_some_iff.1 hr
    obtain ⟨u1, u2⟩ := unps_rel (G := G) (w := w) ds xs hx
    refine ⟨?_, .inr ⟨xs, rfl⟩⟩
    have hsz : ¬ us.toArray.size = 1 := by
      simp only [List.size_toArray, hl]
      intro h1
      match ds, h1 with
      | [d], _ => exact hne d rfl
    rw [dif_neg hsz]
    refine .tup _ _ (by simp [u1, hl]) (fun j c u hc hu => ?_)
    rw [List.getElem?_map] at hc
    obtain ⟨x, hx', rfl⟩ := Option.map_eq_some_iff.1 hc
    obtain ⟨d, hd, hxd⟩ := u2 j x hx'
    exact unp_p (h j d u hd (by simpa using hu)) hxd
end
end Go.Proofs.Ytlhjieapkcnghaa
