/- The proof's texts, part 4 of 10: the walks by a logic in which data are by value, the plain laws, and at the end the law, for every input. -/
import Derived.Test.YtagokkpnfceidaaDoorMgFoldLines3

section
namespace Go.Proofs.YtagokkpnfceidaaDoor
open Go.RowKit

def Gh.xset (G : Gh) (t v : Nat) (bk : Option Nat) : Gh := { G with tok := G.tok.set t ⟨v, bk, 0, none⟩ }
/-- A token's row becomes another, seen by the token alone. -/
theorem xset_stp {G : Gh} {s : S} {w w' : World} (hI : Inv G s w) {t : Nat} {T : Tok} (hT : G.tok[t]? = some T) (hp : T.pro = none) {v : Nat} (hv : T.len < v) {bk : Option Nat} (hos : w'.os = w.os) (hta : w'.tape = w.tape) (hou : w'.output = w.output) (hz : w.heap.size ≤ w'.heap.size)
    (hold : ∀ k, k < w.heap.size → bk ≠ some k → w'.heap[k]? = w.heap[k]?) (hw : ∀ g, bk = some g → g < w'.heap.size ∧ (w.heap.size ≤ g ∨ (T.blk = some g ∧ T.cells = 0))) (shp : ShKept w w') :
    Stp G w (G.xset t v bk) w' ∧ Inv (G.xset t v bk) { s with live := s.live.set t v } w' := by
  have hTm : T ∈ G.tok := List.mem_of_getElem? hT
  have hlt : t < G.tok.length := (List.getElem?_eq_some_iff.1 hT).1
  have hgn : ∀ g, bk = some g → g ∉ G.name := fun g hg hm => by
    rcases (hw g hg).2 with h | h
    · have := name_lt hI g hm; omega
    · exact (hI.tok t T g hT (.inl h.1)).2.1 hm
  have hgc : ∀ g o, bk = some g → ¬ G.com g o := fun g o hg hc => by
    obtain ⟨h1, -, h3⟩ := hI.com g o hc
    rcases (hw g hg).2 with h | h
    · omega
    · have := (h3 T hTm).1 h.1; omega
  have hgt : ∀ g, bk = some g → ∀ (t' : Nat) T', G.tok[t']? = some T' → T'.has g → t' = t := fun g hg t' T' h1 h2 => by
    rcases (hw g hg).2 with h | h
    · have := (hI.tok t' T' g h1 h2).1; omega
    · exact (hI.tok t T g hT (.inl h.1)).2.2 t' T' h1 h2
  have oth : ∀ (t' : Nat) T', t' ≠ t → G.tok[t']? = some T' → ∀ b, T'.has b → w'.heap[b]? = w.heap[b]? := fun t' T' hne h b hb =>
    hold b (hI.tok t' T' b h hb).1 fun e => hne (hgt b e t' T' h hb)
  have nam : ∀ b ∈ G.name, w'.heap[b]? = w.heap[b]? := fun b hb => hold b (name_lt hI b hb) fun e => hgn b e hb
  have hst : Stp G w (G.xset t v bk) w' := by
    refine ⟨⟨hos, hta, hou, hz, fun b o u h hu => ⟨h, ?_⟩, fun b h1 h2 h3 => ?_, fun b o h => .inl h, fun b h => ?_, fun _ _ h => h, shp⟩, fun nm b h => h, fun t' T' h => ?_⟩
    · rw [World.cell?_of_block (w := w) (hold b (hI.com b o h).1 fun e => hgc b o e h)]; exact hu
    · refine hold b h1 fun e => ?_
      rcases (hw b e).2 with h | h
      · omega
      · exact h3 T hTm (.inl h.1)
    · rcases h with h | ⟨T', hT', hb⟩
      · exact .inr (.inl h)
      · have hT' : T' ∈ G.tok.set t ⟨v, bk, 0, none⟩ := hT'
        rcases List.mem_or_eq_of_mem_set hT' with h | h
        · exact .inr (.inr ⟨T', h, hb⟩)
        · subst h
          rcases (hw b (Tok.has_row.1 hb)).2 with h | h
          · exact .inl h
          · exact .inr (.inr ⟨T, hTm, .inl h.1⟩)
    · by_cases htt : t' = t
      · subst htt
        rw [hT] at h
        cases h
        exact ⟨⟨v, bk, 0, none⟩, List.getElem?_set_self hlt, ⟨by simp only; omega, by simp [hp]⟩, fun e => by simp only at e; omega⟩
      · refine ⟨T', ?_, .refl T', fun _ => ⟨rfl, oth t' T' htt h⟩⟩
        show (G.tok.set t _)[t']? = _
        rw [List.getElem?_set_ne (fun e => htt e.symm)]; exact h
  have mem' : ∀ T' ∈ G.tok.set t ⟨v, bk, 0, none⟩, (∃ i, i ≠ t ∧ G.tok[i]? = some T') ∨ T' = ⟨v, bk, 0, none⟩ := fun T' hT' => by
    obtain ⟨i, hi⟩ := List.getElem?_of_mem hT'
    by_cases hit : t = i
    · subst hit
      rw [List.getElem?_set_self hlt] at hi
      exact .inr (Option.some.inj hi).symm
    · rw [List.getElem?_set_ne hit] at hi
      exact .inl ⟨i, fun e => hit e.symm, hi⟩
  refine ⟨hst, ⟨fun b o h => ?_, hI.names, hI.nodup, fun i b cs hb hcs => ?_, ?_, fun t' T' b h hb => ?_, fun T' hT' => ?_, hI.glob.mono hst.ext.com⟩⟩
  · obtain ⟨h1, h2, h3⟩ := hI.com b o h
    refine ⟨Nat.lt_of_lt_of_le h1 hz, h2, fun T' hT' => ?_⟩
    rcases mem' T' hT' with ⟨i, -, hi⟩ | rfl
    · exact h3 T' (List.mem_of_getElem? hi)
    · exact Tok.may_row.2 fun hb => absurd h (hgc b o hb)
  · exact (hI.var i b cs hb hcs).mono hst (nam b (List.mem_of_getElem? hb))
  · show (G.tok.set t _).map (·.len) = s.live.set t v
    rw [List.map_set, hI.live]
  · have h : (G.tok.set t ⟨v, bk, 0, none⟩)[t']? = some T' := h
    have uni : ∀ (t'' : Nat) T'', (G.tok.set t ⟨v, bk, 0, none⟩)[t'']? = some T'' → T''.has b → (t'' = t ∧ bk = some b) ∨ (t'' ≠ t ∧ G.tok[t'']? = some T'') := fun t'' T'' h hb => by
      by_cases htt : t'' = t
      · subst htt
        rw [List.getElem?_set_self hlt] at h
        cases h
        exact .inl ⟨rfl, Tok.has_row.1 hb⟩
      · rw [List.getElem?_set_ne (fun e => htt e.symm)] at h
        exact .inr ⟨htt, h⟩
    rcases uni t' T' h hb with ⟨rfl, hg⟩ | ⟨hne, h⟩
    · refine ⟨(hw b hg).1, hgn b hg, fun t'' T'' h'' hb'' => ?_⟩
      rcases uni t'' T'' h'' hb'' with ⟨e, -⟩ | ⟨-, h''⟩
      · exact e
      · exact hgt b hg t'' T'' h'' hb''
    · obtain ⟨h1, h2, h3⟩ := hI.tok t' T' b h hb
      refine ⟨Nat.lt_of_lt_of_le h1 hz, h2, fun t'' T'' h'' hb'' => ?_⟩
      rcases uni t'' T'' h'' hb'' with ⟨e, hg⟩ | ⟨-, h''⟩
      · exact absurd (hgt b hg t' T' h hb) hne
      · exact h3 t'' T'' h'' hb''
  · rcases mem' T' hT' with ⟨i, hit, hi⟩ | rfl
    · have hm := List.mem_of_getElem? hi
      exact ⟨Tok.ok_ext (hI.pro T' hm) hst.ext (oth i T' hit hi), (hI.pro T' hm).2⟩
    · exact ⟨fun q hq => (nomatch hq), fun b o ⟨q, hq, _⟩ => (nomatch hq)⟩
theorem xset_tok {G : Gh} {t v : Nat} {T : Tok} {bk : Option Nat} (hT : G.tok[t]? = some T) : (G.xset t v bk).tok[t]? = some ⟨v, bk, 0, none⟩ := List.getElem?_set_self (List.getElem?_eq_some_iff.1 hT).1
theorem live_get {G : Gh} {s : S} {w : World} (hI : Inv G s w) {t v : Nat} (h : s.live[t]? = some v) : ∃ T, G.tok[t]? = some T ∧ T.len = v := by
  rw [← hI.live, List.getElem?_map] at h
  obtain ⟨T, h1, h2⟩ := Option.map_eq_some_iff.1 h
  exact ⟨T, h1, h2⟩
theorem live_len {G : Gh} {s : S} {w : World} (hI : Inv G s w) : G.tok.length = s.live.length := by rw [← hI.live]; simp

/-- A slot; a cell of a struct in a slot; a variable's cell. -/
inductive Home where
  | no
  | s (t : Nat)
  | a (t j : Nat)
  | h (nm off : Nat)
def Home.get (h : Home) (σ : St) : Option D := match h with
  | .no => none
  | .s t => σ.env.lookup t
  | .a t j => match σ.env.lookup t with
    | some (.agg ds) => ds[j]?
    | _ => none
  | .h nm off => match σ.s.heap[nm]? with
    | some cs => cs[off]?
    | none => none
def Home.set (h : Home) (d : D) (σ : St) : St := match h with
  | .no => σ
  | .s t => ⟨setE σ.env t d, σ.s⟩
  | .a t j => match σ.env.lookup t with
    | some (.agg ds) => ⟨setE σ.env t (.agg (ds.set j d)), σ.s⟩
    | _ => σ
  | .h nm off => match σ.s.heap[nm]? with
    | some cs => ⟨σ.env, ⟨σ.s.heap.set nm (cs.set off d), σ.s.live⟩⟩
    | none => σ
theorem home_rel {N : Nat} {G G' : Gh} {σ : St} {live' : List Nat} {a : Act} {w w' : World} (hR : Rel N G σ a w) (hS : Stp G w G' w') (hI' : Inv G' ⟨σ.s.heap, live'⟩ w') (hn : G'.name = G.name) (hnb : ∀ b ∈ G.name, w'.heap[b]? = w.heap[b]?)
    {hm : Home} {d0 d1 : D} (hg : hm.get σ = some d0) (hup : ∀ u, DRel G w d0 u → DRel G' w' d1 u ∧ u.oneCell' = true) (hnt : ∀ ds, d0 ≠ .tup ds := by exact fun _ h => nomatch h) : Rel N G' (hm.set d1 ⟨σ.env, ⟨σ.s.heap, live'⟩⟩) a w' := by
  have henv := hR.env.mono hS
  cases hm with
  | no => cases hg
  | s t =>
    refine ⟨hI', fun t' d' h' => ?_, hR.size⟩
    rcases setE_look _ _ _ _ _ h' with ⟨h1, -⟩ | ⟨rfl, rfl⟩
    · exact henv t' d' h1
    · obtain ⟨k1, k2⟩ := hR.env t' d0 hg
      exact ⟨k1, (hup _ k2).1⟩
  | a t j =>
    dsimp only [Home.get] at hg
    dsimp only [Home.set]
    split at hg
    · rename_i ds hds
      refine ⟨hI', fun t' d' h' => ?_, hR.size⟩
      rcases setE_look _ _ _ _ _ h' with ⟨h1, -⟩ | ⟨rfl, rfl⟩
      · exact henv t' d' h1
      · obtain ⟨k1, k2⟩ := hR.env t' _ hds
        refine ⟨k1, ?_⟩
        generalize a.tmps.getD t' undef = u at k2
        cases k2 with
        | agg _ us l1 l2 l3 =>
          refine .agg _ us (by simpa using l1) (fun i c u hc hu => ?_) (fun i c u hc hu => ?_)
          all_goals
            by_cases hij : j = i
            · subst hij
              have hlj : j < ds.length := by have := (List.getElem?_eq_some_iff.1 hc).1; simpa using this
              rw [List.getElem?_set_self hlj] at hc
              cases hc
              first
                | exact (hup u (l3 j d0 u hg hu)).2
                | exact (hup u (l3 j d0 u hg hu)).1
            · rw [List.getElem?_set_ne hij] at hc
              first
                | exact l2 i c u hc hu
                | exact (l3 i c u hc hu).mono hS
    · cases hg
  | h nm off =>
    dsimp only [Home.get] at hg
    dsimp only [Home.set]
    split at hg
    · rename_i cs hcs
      refine ⟨⟨hI'.com, by rw [hI'.names]; simp, hI'.nodup, fun i b cs' hb hcs' => ?_, hI'.live, hI'.tok, hI'.pro, hI'.glob⟩, henv, hR.size⟩
      by_cases hi : i = nm
      · subst hi
        have hlt : i < σ.s.heap.length := (List.getElem?_eq_some_iff.1 hcs).1
        rw [List.getElem?_set_self hlt] at hcs'
        cases hcs'
        rw [hn] at hb
        obtain ⟨us, ty, h1, h2, h3⟩ := (hR.inv.var i b cs hb hcs).at hg hnt
        refine .cells us ty ((hnb b (List.mem_of_getElem? hb)).trans h1) (by rw [h2]; simp) fun j c u hj hu => ?_
        by_cases hjo : off = j
        · subst hjo
          have hlj : off < cs.length := (List.getElem?_eq_some_iff.1 hg).1
          rw [List.getElem?_set_self hlj] at hj
          cases hj
          have := hup u (h3 off d0 u hg hu).2
          exact ⟨this.2, this.1⟩
        · rw [List.getElem?_set_ne hjo] at hj
          exact ⟨(h3 j c u hj hu).1, (h3 j c u hj hu).2.mono hS⟩
      · rw [List.getElem?_set_ne (fun e => hi e.symm)] at hcs'
        exact hI'.var i b cs' hb hcs'
    · cases hg

section
variable {P : Program} {tb : Tbl}
/-- What the operation comes to, where the state may turn too. -/
def ResX (N : Nat) (G : Gh) (a : Act) (w : World) (r : Result Next) (K : D → St → Prop) : Prop :=
  ∃ u w' G' d σ', (r = .ok (.value u) w' ∨ (r = .ok .skip w' ∧ u = undef)) ∧ Stp G w G' w' ∧ Rel N G' σ' a w' ∧ DRel G' w' d u ∧ K d σ'
/-- Cells of an element behind a store. -/
def xput (c vs : List V) (off : Nat) : List V := c.take off ++ vs ++ c.drop (off + vs.length)
def xDat (d : D) : Option (List V) := (dcells d).bind unps
/-- A new row, seen by its token alone; in other words. -/
def xNew (e size : Nat) (es : List (List V)) (σ : St) (K : D → St → Prop) : Prop :=
  ∃ es', LeLL es es' ∧ K (.x σ.s.live.length 1 (.sl e size es')) ⟨σ.env, ⟨σ.s.heap, σ.s.live ++ [1]⟩⟩
def xMake (tb : Tbl) (t : Nat) (l c : D) (σ : St) (K : D → St → Prop) : Prop :=
  match tb.lookup t, l, c with
  | some ti, .p (.v (.int _ n)), .p (.v (.int _ m)) => match ti.d with
    | .slice e => match tb.lookup e with
      | some te => match absV te.zero with
        | some x => match xDat (.p x) with
          | some zs => (zs.length = te.size ∧ 0 < te.size) ∧ (0 ≤ n ∧ m = n ∧ n * te.bytes ≤ 140737488355328 ∧ n ≤ 9223372036854775807) ∧ xNew e te.size (List.replicate n.toNat zs) σ K
          | none => False
        | none => False
      | none => False
    | _ => False
  | _, _, _ => False
def xApp (tb : Tbl) (t : Nat) (x y : D) (σ : St) (K : D → St → Prop) : Prop :=
  match tb.lookup t, unp y with
  | some ti, some (.sl _ fs) => match ti.d with
    | .slice e => match tb.lookup e with
      | some te => if te.zero.cells.size = te.size ∧ 0 < te.size then
        match x with
        | .x tk v (.sl e' sz es) => if e' = e ∧ sz = te.size then σ.s.live[tk]? = some v ∧ ((∀ x ∈ fs, x.length = te.size) ∧ (es.length + fs.length) * te.bytes ≤ 140737488355328 ∧ es.length + fs.length ≤ 9223372036854775807) ∧
            ∃ es', LeLL (es ++ fs) es' ∧ K (.x tk (v + 1) (.sl e te.size es')) ⟨σ.env, ⟨σ.s.heap, σ.s.live.set tk (v + 1)⟩⟩ else False
        | .p (.sl true es) => (es.length = 0 ∨ 0 < fs.length) ∧ (∀ x ∈ es, x.length = te.size) ∧ ((∀ x ∈ fs, x.length = te.size) ∧ (es.length + fs.length) * te.bytes ≤ 140737488355328 ∧ es.length + fs.length ≤ 9223372036854775807) ∧
            xNew e te.size (es ++ fs) σ K
        | _ => False
        else False
      | none => False
    | _ => False
  | _, _ => False
def xIndex (tb : Tbl) (t : Nat) (x i : D) (σ : St) (K : D → St → Prop) : Prop :=
  match tb.lookup t, i, x with
  | some ti, .p (.v (.int _ n)), .x tk v (.sl e sz es) => match ti.d with
    | .slice e' => match tb.lookup e' with
      | some te => if sz = te.size then σ.s.live[tk]? = some v ∧ ∃ c, 0 ≤ n ∧ es[n.toNat]? = some c ∧ c.length = te.size ∧ 0 < te.size ∧ K (.x tk v (.el e sz es n.toNat c 0)) σ else False
      | none => False
    | _ => False
  | _, _, _ => False
def xLoad (tb : Tbl) (t : Nat) (x : D) (σ : St) (K : D → St → Prop) : Prop :=
  match tb.lookup t, x with
  | some ti, .x tk v (.el _ _ _ _ c off) => σ.s.live[tk]? = some v ∧ off + ti.size ≤ c.length ∧ aLoadV ti (c.drop off) fun y => K (.p y) σ
  | _, _ => False
def xField (tb : Tbl) (t : Nat) (x : D) (f : Nat) (σ : St) (K : D → St → Prop) : Prop :=
  match tb.lookup t, x with
  | some ti, .x tk v (.el e sz es i c off) => match ti.d with
    | .struct fields => match fields[f]? with
      | some fd => match tb.lookup fd.type with
        | some tf => if tf.size = 0 then False else σ.s.live[tk]? = some v ∧ K (.x tk v (.el e sz es i c (off + fd.offset))) σ
        | none => False
      | none => False
    | _ => False
  | _, _ => False
def xStore (tb : Tbl) (hm : Home) (t : Nat) (x y : D) (σ : St) (K : D → St → Prop) : Prop :=
  match tb.lookup t, x, xDat y with
  | some ti, .x tk v (.el e sz es i c off), some vs => vs.length = ti.size ∧ off + vs.length ≤ c.length ∧ σ.s.live[tk]? = some v ∧ hm.get σ = some (.x tk v (.sl e sz es)) ∧
      ∃ es', LeLL (es.set i (xput c vs off)) es' ∧ K .undef (hm.set (.x tk (v + 1) (.sl e sz es')) ⟨σ.env, ⟨σ.s.heap, σ.s.live.set tk (v + 1)⟩⟩)
  | _, _, _ => False
def xLen (tb : Tbl) (t : Nat) (x : D) (σ : St) (K : D → St → Prop) : Prop :=
  match tb.lookup t, x with
  | some ti, .x tk v (.sl _ _ es) => match ti.d with
    | .slice _ => σ.s.live[tk]? = some v ∧ ∃ n, es.length = n ∧ K (.p (.v (.int .i64 n))) σ
    | _ => False
  | _, _ => False
def xStep (tb : Tbl) (hm : Home) (o : Op) (σ : St) (K : D → St → Prop) : Prop :=
  match o with
  | .makeSlice t x y => match ev σ.env x, ev σ.env y with | some a, some b => xMake tb t a b σ K | _, _ => False
  | .load t x => match ev σ.env x with | some d => xLoad tb t d σ K | none => False
  | .store t x y => match ev σ.env x, ev σ.env y with | some a, some b => xStore tb hm t a b σ K | _, _ => False
  | .nilCheck x => match ev σ.env x with | some (.x tk v (.el e sz es i c off)) => σ.s.live[tk]? = some v ∧ K (.x tk v (.el e sz es i c off)) σ | _ => False
  | .fieldAddr t x f => match ev σ.env x with | some d => xField tb t d f σ K | none => False
  | .indexAddr t x i => match ev σ.env x, ev σ.env i with | some a, some b => xIndex tb t a b σ K | _, _ => False
  | .call c => match c.callee, evs (ev σ.env) c.args.toList, c.argTypes.toList with
    | .builtin .len, some [x], [t] => xLen tb t x σ K
    | .builtin .append, some [x, y], [t, t'] => if t = t' then xApp tb t x y σ K else False
    | _, _, _ => False
  | _ => False

theorem XRow.le {C : Nat → Nat → Prop} {w : World} {T : Tok} {a : Option Addr} {cap e size : Nat} {es es' : List (List V)} (h : XRow C w T a cap e size es) (k : LeLL es es') : XRow C w T a cap e size es' := by
  obtain ⟨h1, h2, h3, h4⟩ := h
  refine ⟨fun x hx => ?_, by rw [← k.1]; exact h2, h3, h4.imp id ?_⟩
  · obtain ⟨i, hi⟩ := List.getElem?_of_mem hx
    obtain ⟨y, hy⟩ := getLen k.1 hi
    rw [← (k.2 i y x hy hi).1]
    exact h1 y (List.mem_of_getElem? hy)
  · rintro ⟨b, us, g1, g2, g3, g4, g5, g6⟩
    refine ⟨b, us, g1, g2, g3, g4, g5, fun i j x c hx hc => ?_⟩
    obtain ⟨y, hy⟩ := getLen k.1 hx
    obtain ⟨z, hz⟩ := getLen (k.2 i y x hy hx).1 hc
    obtain ⟨u, q1, q2, q3⟩ := g6 i j y z hy hz
    exact ⟨u, q1, q2, q3.le ((k.2 i y x hy hx).2 j z c hz hc)⟩
theorem addTok_rel {N : Nat} {G : Gh} {σ : St} {a : Act} {w : World} (hR : Rel N G σ a w) : ∃ G1, Stp G w G1 w ∧ Rel N G1 ⟨σ.env, ⟨σ.s.heap, σ.s.live ++ [0]⟩⟩ a w ∧ G1.tok[σ.s.live.length]? = some ⟨0, none, 0, none⟩ ∧ G1.com = G.com ∧ G1.name = G.name := by
  obtain ⟨s1, s2⟩ := addTok_stp hR.inv 0
  exact ⟨_, s1, ⟨s2, hR.env.mono s1, hR.size⟩, by rw [← live_len hR.inv]; exact List.getElem?_concat_length, rfl, rfl⟩
theorem set_last (l : List Nat) (v : Nat) : (l ++ [0]).set l.length v = l ++ [v] := by
  rw [List.set_append_right _ _ (Nat.le_refl _)]; simp
/-- A new row: a new token sees it. -/
theorem xnew_rel {N : Nat} {G : Gh} {σ : St} {a : Act} {w w' : World} (hR : Rel N G σ a w) {e size cap : Nat} {es es' : List (List V)} {us : Array Value} (hos : w'.os = w.os) (hta : w'.tape = w.tape) (hou : w'.output = w.output) (hz : w.heap.size ≤ w'.heap.size)
    (hold : ∀ k, k < w.heap.size → w'.heap[k]? = w.heap[k]?) (shp : ShKept w w') (hrow : w'.heap[w.heap.size]? = some (.cells us e (0, 0))) (hus : us.size = cap * size) (hc1 : es.length ≤ cap) (hc2 : cap ≤ maxLen) (hs : ∀ x ∈ es, x.length = size)
    (hel : ∀ (i k : Nat) x c, es[i]? = some x → x[k]? = some c → ∃ u, us[i * size + k]? = some u ∧ u.oneCell' = true ∧ VRel G.com w c u) (hle : LeLL es es') :
    ∃ G', Stp G w G' w' ∧ Rel N G' ⟨σ.env, ⟨σ.s.heap, σ.s.live ++ [1]⟩⟩ a w' ∧ DRel G' w' (.x σ.s.live.length 1 (.sl e size es')) (.slice (some ⟨w.heap.size, 0, none⟩) es.length cap) := by
  obtain ⟨G1, s1, r1, t1, c1, n1⟩ := addTok_rel hR
  obtain ⟨s2, i2⟩ := xset_stp r1.inv t1 rfl (Nat.zero_lt_one) (bk := some w.heap.size) hos hta hou hz (fun k hk hne => hold k hk) (fun g hg => by cases hg; exact ⟨(Array.getElem?_eq_some_iff.1 hrow).1, .inl (Nat.le_refl _)⟩) shp
  rw [show (⟨σ.env, ⟨σ.s.heap, σ.s.live ++ [0]⟩⟩ : St).s.live.set σ.s.live.length 1 = σ.s.live ++ [1] from set_last _ _] at i2
  refine ⟨_, s1.trans s2, ⟨i2, r1.env.mono s2, hR.size⟩, ?_⟩
  refine .x _ 1 _ _ ⟨1, some w.heap.size, 0, none⟩ (xset_tok t1) rfl (Nat.le_refl _) rfl fun _ => ?_
  rw [show es.length = es'.length from hle.1]
  refine .sl e size es' _ cap (fun h => by cases h) (XRow.le ?_ hle)
  refine ⟨hs, hc1, hc2, .inr ⟨_, us, rfl, rfl, rfl, hrow, hus, fun i k x c hx hc => ?_⟩⟩
  obtain ⟨u, q1, q2, q3⟩ := hel i k x c hx hc
  refine ⟨u, q1, q2, ?_⟩
  rw [← c1] at q3
  exact q3.mono s2.ext.size s2.ext.com
/-- A slice without room: a new token sees it. -/
theorem xnil_rel {N : Nat} {G : Gh} {σ : St} {a : Act} {w : World} (hR : Rel N G σ a w) {e size : Nat} {es' : List (List V)} {ad : Option Addr} (hle : LeLL [] es') (had : ∀ x, ad = some x → x.block < w.heap.size) :
    ∃ G', Stp G w G' w ∧ Rel N G' ⟨σ.env, ⟨σ.s.heap, σ.s.live ++ [1]⟩⟩ a w ∧ DRel G' w (.x σ.s.live.length 1 (.sl e size es')) (.slice ad 0 0) := by
  obtain ⟨G1, s1, r1, t1, c1, n1⟩ := addTok_rel hR
  obtain ⟨s2, i2⟩ := xset_stp r1.inv t1 rfl (Nat.zero_lt_one) (bk := none) rfl rfl rfl (Nat.le_refl _) (fun k hk hne => rfl) (fun g hg => by cases hg) (.refl w)
  rw [show (⟨σ.env, ⟨σ.s.heap, σ.s.live ++ [0]⟩⟩ : St).s.live.set σ.s.live.length 1 = σ.s.live ++ [1] from set_last _ _] at i2
  refine ⟨_, s1.trans s2, ⟨i2, r1.env.mono s2, hR.size⟩, ?_⟩
  have h0 : es' = [] := List.eq_nil_of_length_eq_zero hle.1.symm
  subst h0
  exact .x _ 1 _ _ ⟨1, none, 0, none⟩ (xset_tok t1) rfl (Nat.le_refl _) rfl fun _ => .sl e size [] ad 0 (fun _ => rfl) ⟨fun x hx => (nomatch hx), Nat.le_refl _, Nat.zero_le _, .inl ⟨rfl, had⟩⟩
theorem Out.resX {N : Nat} {G : Gh} {σ : St} {a : Act} {w : World} (hR : Rel N G σ a w) {sem : Sem Value} {u : Value} (hr : sem.run P w = .ok u w) {d : D} (hd : DRel G w d u) {K : D → St → Prop} (hK : K d σ) : ResX N G a w ((sem >>= fun x => Pure.pure (Next.value x) : Sem Next).run P w) K :=
  ⟨u, w, G, d, σ, .inl (by simp [hr]), .refl G w, hR, hd, hK⟩
theorem xfresh {G : Gh} {s : S} {w : World} (hI : Inv G s w) {t v : Nat} {X : XD} {u : Value} (h : DRel G w (.x t v X) u) (hl : s.live[t]? = some v) : ∃ T, G.tok[t]? = some T ∧ T.pro = none ∧ T.len = v ∧ XRel G.com w T X u := by
  obtain ⟨T1, g1, g2⟩ := live_get hI hl
  cases h with
  | x _ _ _ _ T h1 h0 h2 h3 h4 =>
    rw [h1] at g1
    obtain rfl := Option.some.inj g1
    exact ⟨_, h1, h0, g2, h4 g2.symm⟩
theorem xMake_sound (hT : TblOk P tb) {N : Nat} {G : Gh} {σ : St} {a : Act} {w : World} (hR : Rel N G σ a w) {K : D → St → Prop} {t : Nat} {l c : D} {u v : Value} (hl : DRel G w l u) (hc : DRel G w c v) (h : xMake tb t l c σ K) :
    ResX N G a w ((Instr.makeSlice t u v >>= fun x => Pure.pure (Next.value x) : Sem Next).run P w) K := by
  unfold xMake at h
  split at h
  · rename_i ti k n k' m ht
    have e1 : u = .int k n := by cases hl with | p _ _ h => cases h; rfl
    have e2 : v = .int k' m := by cases hc with | p _ _ h => cases h; rfl
    subst e1; subst e2
    split at h
    · rename_i e hd
      split at h
      · rename_i te he
        split at h
        · rename_i x hx
          split at h
          · rename_i zs hzs
            obtain ⟨⟨z1, z2⟩, ⟨h1, h2, h3, h4⟩, es', hle, hK⟩ := h
            subst h2
            obtain ⟨z, hz, hzu⟩ := Option.bind_eq_some_iff.1 hzs
            have hu := hT.und ht
            rw [hd] at hu
            obtain ⟨_, i, i1, i2, i3, i4, _⟩ := hT e te he
            have hzr : CellsRel G w z te.zero.cells := dcells_rel (.p x _ (absV_rel hx)) hz
            obtain ⟨q1, q2⟩ := unps_rel (G := G) (w := w) z zs hzu
            have hzsz : te.zero.cells.size = te.size := by rw [hzr.1, ← q1]; exact z1
            obtain ⟨M, rfl⟩ : ∃ M : Nat, m = (M : Int) := ⟨m.toNat, by omega⟩
            have hr := run_make (P := P) w t e i te.zero hu i1 i4 k k' (M : Int) (M : Int) h1 (Int.le_refl _) (by rw [i3, Int.mul_comm]; omega) h4
            rw [Int.toNat_natCast, i2] at hr
            rw [Int.toNat_natCast] at hle
            have hlen : (List.replicate M zs).length = M := by simp
            obtain ⟨G', s1, r1, d1⟩ := xnew_rel hR (w' := w.alloc (.cells (madeCells te.zero.cells (M * te.size)) e)) (e := e) (size := te.size) (cap := M) (es := List.replicate M zs) (us := madeCells te.zero.cells (M * te.size)) rfl rfl rfl (by simp) (fun k hk => by rw [heapAlloc, if_neg (by omega)]) (shAlloc w _) (World.alloc_heap_new w _)
              (by simp [madeCells]) (by simp) (by unfold maxLen; omega) (fun y hy => by rw [(List.mem_replicate.1 hy).2]; exact z1) (fun p b y c hy hc => by
                have hy2 : y = zs := (List.mem_replicate.1 (List.mem_of_getElem? hy)).2
                subst hy2
                have ha : p < M := by have := (List.getElem?_eq_some_iff.1 hy).1; simpa using this
                have hb : b < te.size := by rw [← z1]; exact (List.getElem?_eq_some_iff.1 hc).1
                have hlt : p * te.size + b < M * te.size := by
                  have : (p + 1) * te.size ≤ M * te.size := Nat.mul_le_mul_right _ ha
                  rw [Nat.add_mul] at this; omega
                have hmod : (p * te.size + b) % te.size = b := by rw [Nat.mul_comm, Nat.mul_add_mod]; exact Nat.mod_eq_of_lt hb
                have hbs : b < te.zero.cells.size := by omega
                obtain ⟨d, d1, d2⟩ := q2 b c hc
                have hcell := hzr.2 b d te.zero.cells[b] d1 (Array.getElem?_eq_getElem hbs)
                refine ⟨te.zero.cells[b], ?_, hcell.1, unp_rel hcell.2 d2⟩
                unfold madeCells
                rw [Array.getElem?_map, Array.getElem?_range, if_pos hlt]
                simp only [Option.map_some, hzsz, hmod, Option.some.injEq]
                simp [hbs]) hle
            rw [hlen] at d1
            exact ⟨_, _, G', _, _, .inl (by simp [hr]), s1, r1, d1, hK⟩
          · exact h.elim
        · exact h.elim
      · exact h.elim
    · exact h.elim
  · exact h.elim
/-- Cells of two lists of elements, one behind the other. -/
theorem app_cells {C : Nat → Nat → Prop} {w : World} {es fs : List (List V)} {olds news : List Value} {size : Nat} (o1 : olds.length = es.length * size)
    (o2 : ∀ (i k : Nat) e c, es[i]? = some e → e[k]? = some c → ∃ u, olds[i * size + k]? = some u ∧ VRel C w c u) (n2 : ∀ (i k : Nat) e c, fs[i]? = some e → e[k]? = some c → ∃ u, news[i * size + k]? = some u ∧ VRel C w c u)
    (o3 : ∀ u ∈ olds, u.oneCell' = true) (n3 : ∀ u ∈ news, u.oneCell' = true) (i k : Nat) (x : List V) (c : V) (hx : (es ++ fs)[i]? = some x) (hc : x[k]? = some c) : ∃ u, (olds ++ news)[i * size + k]? = some u ∧ u.oneCell' = true ∧ VRel C w c u := by
  by_cases hi : i < es.length
  · rw [List.getElem?_append_left hi] at hx
    obtain ⟨u, h1, h2⟩ := o2 i k x c hx hc
    refine ⟨u, ?_, o3 u (List.mem_of_getElem? h1), h2⟩
    rw [List.getElem?_append_left (List.getElem?_eq_some_iff.1 h1).1]; exact h1
  · rw [List.getElem?_append_right (by omega)] at hx
    obtain ⟨u, h1, h2⟩ := n2 _ k x c hx hc
    refine ⟨u, ?_, n3 u (List.mem_of_getElem? h1), h2⟩
    have e1 : i * size = es.length * size + (i - es.length) * size := by rw [← Nat.add_mul]; congr 1; omega
    rw [List.getElem?_append_right (by rw [o1]; omega), o1, e1, show es.length * size + (i - es.length) * size + k - es.length * size = (i - es.length) * size + k by omega]
    exact h1
theorem xApp_sound (hT : TblOk P tb) {N : Nat} {G : Gh} {σ : St} {a : Act} {w : World} (hR : Rel N G σ a w) {K : D → St → Prop} (ty : TypeId) {t : Nat} {x y : D} {u v : Value} (hx : DRel G w x u) (hy : DRel G w y v) (h : xApp tb t x y σ K) :
    ResX N G a w ((Builtin.append_ #[t, t] ty #[u, v] >>= fun x => Pure.pure (Next.value x) : Sem Next).run P w) K := by
  unfold xApp at h
  split at h
  · rename_i ti fl fs ht hfs
    have hy := unp_rel hy hfs
    obtain ⟨ya, yc, rfl, d1, d2, -⟩ := hy.isSlice
    split at h
    · rename_i e hd
      split at h
      · rename_i te he
        split at h
        · rename_i hz
          obtain ⟨hz, hz0⟩ := hz
          split at h
          · rename_i tk vv e' sz es
            split at h
            · rename_i hes
              obtain ⟨rfl, rfl⟩ := hes
              obtain ⟨hl, ⟨hfl, hby, hmax⟩, es', hle, hK⟩ := h
              obtain ⟨T, t1, t0, t2, hX⟩ := xfresh hR.inv hx hl
              cases hX with
              | sl _ _ _ ad cap hna hrow =>
                obtain ⟨w1, w2, w3, w4⟩ := hrow
                by_cases hm : fs.length = 0
                · have hfs0 : fs = [] := List.eq_nil_of_length_eq_zero hm
                  subst hfs0
                  rw [List.append_nil] at hle
                  have hrun : (Builtin.append_ #[t, t] ty #[.slice ad es.length cap, .slice ya 0 yc]).run P w = .ok (.slice ad es.length cap) w := run_append_zero hT w ty ht hd he ad es.length cap w2 ya yc
                  rcases w4 with ⟨w4, w5⟩ | ⟨b, us, w4, w5, w6, w7, w8, w9⟩
                  · obtain ⟨s2, i2⟩ := xset_stp hR.inv t1 t0 (v := vv + 1) (by omega) (bk := none) rfl rfl rfl (Nat.le_refl _) (fun k hk hne => rfl) (fun g hg => by cases hg) (.refl w)
                    refine ⟨.slice ad es.length cap, w, _, _, ⟨σ.env, ⟨σ.s.heap, σ.s.live.set tk (vv + 1)⟩⟩, .inl (by simp [hrun]), s2, ⟨i2, hR.env.mono s2, hR.size⟩, ?_, hK⟩
                    refine .x _ _ _ _ ⟨vv + 1, none, 0, none⟩ (xset_tok t1) rfl (Nat.le_refl _) rfl fun _ => ?_
                    rw [show es.length = es'.length from hle.1]
                    exact .sl _ _ es' ad cap hna (XRow.le ⟨w1, w2, w3, .inl ⟨w4, w5⟩⟩ hle)
                  · obtain ⟨s2, i2⟩ := xset_stp hR.inv t1 t0 (v := vv + 1) (by omega) (bk := some b) rfl rfl rfl (Nat.le_refl _) (fun k hk hne => rfl) (fun g hg => by cases hg; exact ⟨(hR.inv.tok tk T b t1 (.inl w5)).1, .inr ⟨w5, w6⟩⟩) (.refl w)
                    refine ⟨.slice ad es.length cap, w, _, _, ⟨σ.env, ⟨σ.s.heap, σ.s.live.set tk (vv + 1)⟩⟩, .inl (by simp [hrun]), s2, ⟨i2, hR.env.mono s2, hR.size⟩, ?_, hK⟩
                    refine .x _ _ _ _ ⟨vv + 1, some b, 0, none⟩ (xset_tok t1) rfl (Nat.le_refl _) rfl fun _ => ?_
                    rw [show es.length = es'.length from hle.1]
                    exact .sl _ _ es' ad cap hna (XRow.le ⟨w1, w2, w3, .inr ⟨b, us, w4, rfl, rfl, w7, w8, w9⟩⟩ hle)
                · have hz2 : 0 < te.size := hz0
                  obtain ⟨news, n1, n2, n3, n4⟩ := hy.flat te.size hfl hz0
                  rcases n4 with n4 | ⟨b', off', rfl, n4⟩
                  · exact absurd n4 hm
                  obtain ⟨olds, o1, o2, o3, o4, own, hown, hT1⟩ : ∃ olds : List Value, olds.length = es.length * te.size ∧ (∀ (i k : Nat) e c, es[i]? = some e → e[k]? = some c → ∃ u, olds[i * te.size + k]? = some u ∧ VRel G.com w c u) ∧ (∀ u ∈ olds, u.oneCell' = true) ∧
                      (es.length = 0 ∨ ∃ b off, ad = some ⟨b, off, none⟩ ∧ ∀ (j : Nat) u, olds[j]? = some u → w.cell? ⟨b, off + j, none⟩ = some u) ∧
                      ∃ own : Option Nat, (cap = es.length ∨ ∃ (b : Nat) (us : Array Value), ad = some ⟨b, 0, none⟩ ∧ own = some b ∧ w.heap[b]? = some (.cells us e' (0, 0)) ∧ us.size = cap * te.size) ∧ (∀ g, own = some g → T.blk = some g ∧ T.cells = 0) := by
                    rcases w4 with ⟨w4, w5⟩ | ⟨b, us, w4, w5, w6, w7, w8, w9⟩
                    · have h0 : es = [] := List.eq_nil_of_length_eq_zero (by omega)
                      subst h0
                      exact ⟨[], by simp, fun i k e c h => by simp at h, fun u h => (nomatch h), .inl rfl, none, .inl (by simp [w4]), fun g h => by cases h⟩
                    · have hle2 : es.length * te.size ≤ us.size := by rw [w8]; exact Nat.mul_le_mul_right _ w2
                      have key : ∀ (i k : Nat) e c, es[i]? = some e → e[k]? = some c → i * te.size + k < es.length * te.size := fun i k e c he hc => by
                        have hi := (List.getElem?_eq_some_iff.1 he).1
                        have hk : k < te.size := by rw [← w1 e (List.mem_of_getElem? he)]; exact (List.getElem?_eq_some_iff.1 hc).1
                        have : (i + 1) * te.size ≤ es.length * te.size := Nat.mul_le_mul_right _ hi
                        rw [Nat.add_mul] at this; omega
                      refine ⟨us.toList.take (es.length * te.size), by simp; omega, fun i k e c he hc => ?_, fun u hu => ?_, .inr ⟨b, 0, w4, fun j u hj => ?_⟩, some b, .inr ⟨b, us, w4, rfl, w7, w8⟩, fun g hg => by cases hg; exact ⟨w5, w6⟩⟩
                      · obtain ⟨u, q1, q2, q3⟩ := w9 i k e c he hc
                        refine ⟨u, ?_, q3⟩
                        rw [List.getElem?_take, if_pos (key i k e c he hc)]
                        simpa using q1
                      · obtain ⟨j, hj⟩ := List.getElem?_of_mem hu
                        rw [List.getElem?_take] at hj
                        split at hj
                        · rename_i hjl
                          have h1 : j / te.size < es.length := Nat.div_lt_of_lt_mul (by rw [Nat.mul_comm]; exact hjl)
                          have h2 : j % te.size < (es[j / te.size]).length := by rw [w1 _ (List.getElem_mem h1)]; exact Nat.mod_lt _ hz0
                          obtain ⟨u', q1, q2, q3⟩ := w9 (j / te.size) (j % te.size) _ _ (List.getElem?_eq_getElem h1) (List.getElem?_eq_getElem h2)
                          have e1 : j / te.size * te.size + j % te.size = j := by rw [Nat.mul_comm]; exact Nat.div_add_mod j te.size
                          rw [e1] at q1
                          have : us[j]? = some u := by simpa using hj
                          rw [q1] at this
                          cases this
                          exact q2
                        · cases hj
                      · rw [List.getElem?_take] at hj
                        split at hj
                        · rw [cell_of_row w b _ us e' (0, 0) w7, Nat.zero_add]; simpa using hj
                        · cases hj
                  obtain ⟨g, cap', w', hr, hG⟩ := append_run hT w ty ht hd he hz ad es.length cap olds o1 o4 hna w2 w3 own hown b' off' fs.length yc news n1 (fun j u hj => (n4 j u hj).1) n3 (by omega) (by unfold maxLen; exact hmax) hby
                  obtain ⟨cur, r1, r2, r3⟩ := hG.row
                  have hgw : w.heap.size ≤ g ∨ (T.blk = some g ∧ T.cells = 0) := hG.which.imp (fun h => by omega) (hT1 g)
                  obtain ⟨s2, i2⟩ := xset_stp hR.inv t1 t0 (v := vv + 1) (by omega) (bk := some g) hG.os hG.tape hG.output hG.size_le (fun k hk hne => hG.old k hk fun e => hne (by rw [e])) (fun g' hg' => by cases hg'; exact ⟨(Array.getElem?_eq_some_iff.1 r1).1, hgw⟩) hG.shp
                  refine ⟨.slice (some ⟨g, 0, none⟩) (es.length + fs.length) cap', w', _, _, ⟨σ.env, ⟨σ.s.heap, σ.s.live.set tk (vv + 1)⟩⟩, .inl (by simp [hr]), s2, ⟨i2, hR.env.mono s2, hR.size⟩, ?_, hK⟩
                  refine .x _ _ _ _ ⟨vv + 1, some g, 0, none⟩ (xset_tok t1) rfl (Nat.le_refl _) rfl fun _ => ?_
                  rw [show es.length + fs.length = es'.length by rw [← hle.1, List.length_append]]
                  refine .sl _ _ es' _ cap' (fun h => by cases h) (XRow.le (es := es ++ fs) ⟨fun x hx => (List.mem_append.1 hx).elim (w1 x) (hfl x), by simpa using hG.fits, hG.max, .inr ⟨g, cur, rfl, rfl, rfl, r1, r2, fun i k x c hx' hc => ?_⟩⟩ hle)
                  obtain ⟨u, p1, p2, p3⟩ := app_cells o1 o2 n2 o3 n3 i k x c hx' hc
                  refine ⟨u, ?_, p2, p3.mono s2.ext.size s2.ext.com⟩
                  rw [← r3, List.getElem?_take] at p1
                  split at p1
                  · simpa using p1
                  · cases p1
            · exact h.elim
          · rename_i es
            obtain ⟨hc0, hes, ⟨hfl, hby, hmax⟩, es', hle, hK⟩ := h
            have hx : VRel G.com w (.sl true es) u := by cases hx with | p _ _ hx => exact hx
            obtain ⟨xa, xc, rfl, c1, c2, c3, c4⟩ := hx.isSlice
            by_cases hm : fs.length = 0
            · have hfs0 : fs = [] := List.eq_nil_of_length_eq_zero hm
              have hes0 : es = [] := List.eq_nil_of_length_eq_zero (by omega)
              subst hfs0; subst hes0
              have hxc : xc = 0 := c3 rfl
              subst hxc
              obtain ⟨G', s1, r1, d1⟩ := xnil_rel hR (e := e) (size := te.size) hle (c4 rfl)
              exact ⟨_, w, G', _, _, .inl (by simp [run_append_zero hT w ty ht hd he xa 0 0 (Nat.le_refl _) ya yc]), s1, r1, d1, hK⟩
            · obtain ⟨olds, o1, o2, o3, o4⟩ := hx.flat te.size hes hz0
              obtain ⟨news, n1, n2, n3, n4⟩ := hy.flat te.size hfl hz0
              rcases n4 with n4 | ⟨b', off', rfl, n4⟩
              · exact absurd n4 hm
              have ha : xa = none → xc = 0 := fun h0 => by
                cases hx with
                | sl _ _ _ _ _ _ _ _ _ _ _ _ g5 => exact g5 h0
              obtain ⟨g, cap', w', hr, hG⟩ := append_run hT w ty ht hd he hz xa es.length xc olds o1 (o4.imp id fun ⟨b, off, q1, q2⟩ => ⟨b, off, q1, fun j u hj => (q2 j u hj).1⟩) ha c1 c2 none (.inl (c3 rfl)) b' off' fs.length yc news n1 (fun j u hj => (n4 j u hj).1) n3 (by omega) (by unfold maxLen; exact hmax) hby
              have hg : g = w.heap.size := by rcases hG.which with h | h; exact h; cases h
              subst hg
              obtain ⟨cur, r1, r2, r3⟩ := hG.row
              obtain ⟨G', s1, rr, dd⟩ := xnew_rel hR (e := e) (size := te.size) (cap := cap') (es := es ++ fs) (us := cur) hG.os hG.tape hG.output hG.size_le (fun k hk => hG.old k hk (by omega)) hG.shp r1 r2 (by simpa using hG.fits) hG.max
                (fun x hx => (List.mem_append.1 hx).elim (hes x) (hfl x)) (fun i k x c hx' hc => by
                  obtain ⟨u, p1, p2, p3⟩ := app_cells o1 o2 n2 o3 n3 i k x c hx' hc
                  refine ⟨u, ?_, p2, p3⟩
                  rw [← r3, List.getElem?_take] at p1
                  split at p1
                  · simpa using p1
                  · cases p1) hle
              rw [List.length_append] at dd
              exact ⟨_, w', G', _, _, .inl (by simp [hr]), s1, rr, dd, hK⟩
          · exact h.elim
        · exact h.elim
      · exact h.elim
    · exact h.elim
  · exact h.elim
theorem xIndex_sound (hT : TblOk P tb) {N : Nat} {G : Gh} {σ : St} {a : Act} {w : World} (hR : Rel N G σ a w) {K : D → St → Prop} {t : Nat} {x i : D} {u v : Value} (hx : DRel G w x u) (hi : DRel G w i v) (h : xIndex tb t x i σ K) :
    ResX N G a w ((Instr.indexAt t u v >>= fun x => Pure.pure (Next.value x) : Sem Next).run P w) K := by
  unfold xIndex at h
  split at h
  · rename_i ti k n tk vv e sz es ht
    have hv : v = .int k n := by cases hi with | p x u hi => cases hi; rfl
    subst hv
    split at h
    · rename_i e' hd
      split at h
      · rename_i te he
        split at h
        · rename_i hsz
          subst hsz
          obtain ⟨hl, c, h0, hc, hcl, hz, hK⟩ := h
          obtain ⟨T1, t1, t0, t2, hX⟩ := xfresh hR.inv hx hl
          have hu := hT.und ht
          rw [hd] at hu
          cases hX with
          | sl _ _ _ ad cap hna hrow =>
            have hlt : n < es.length := by have := (List.getElem?_eq_some_iff.1 hc).1; omega
            have hr0 := hrow
            obtain ⟨w1, w2, w3, w4⟩ := hrow
            rcases w4 with ⟨w4, -⟩ | ⟨b, us, rfl, w5, w6, w7, w8, w9⟩
            · omega
            · have hr : (Instr.indexAt t (.slice (some ⟨b, 0, none⟩) es.length cap) (.int k n)).run P w = .ok (.pointer (some ⟨b, n.toNat * te.size, none⟩)) w := by
                simp [Instr.indexAt, run_underlying hu, asIntOf, h0, hlt, hT.sz he, addAt]
              refine Out.resX hR hr ?_ hK
              exact .x _ _ _ _ T1 t1 t0 (by omega) rfl fun _ => .el _ _ es n.toNat c 0 b cap hc hr0
        · exact h.elim
      · exact h.elim
    · exact h.elim
  · exact h.elim
theorem xLoad_sound (hT : TblOk P tb) {N : Nat} {G : Gh} {σ : St} {a : Act} {w : World} (hR : Rel N G σ a w) {K : D → St → Prop} {t : Nat} {x : D} {u : Value} (hx : DRel G w x u) (h : xLoad tb t x σ K) :
    ResX N G a w ((Instr.loadAt t u >>= fun x => Pure.pure (Next.value x) : Sem Next).run P w) K := by
  unfold xLoad at h
  split at h
  · rename_i ti tk vv e sz es i c off ht
    obtain ⟨hl, hlen, h⟩ := h
    obtain ⟨T1, t1, t0, t2, hX⟩ := xfresh hR.inv hx hl
    cases hX with
    | el _ _ _ _ _ _ b cap hc hrow =>
      obtain ⟨w1, w2, w3, w4⟩ := hrow
      have hi := (List.getElem?_eq_some_iff.1 hc).1
      rcases w4 with ⟨w4, -⟩ | ⟨b', us, hb, w5, w6, w7, w8, w9⟩
      · omega
      · cases hb
        have hcs := w1 c (List.mem_of_getElem? hc)
        have cell : ∀ j (hj : j < c.length), ∃ u', us[i * sz + j]? = some u' ∧ u'.oneCell' = true ∧ VRel G.com w c[j] u' := fun j hj => w9 i j c c[j] hc (List.getElem?_eq_getElem hj)
        have hle : i * sz + sz ≤ us.size := by
          have : (i + 1) * sz ≤ cap * sz := Nat.mul_le_mul_right _ (by omega)
          rw [Nat.add_mul] at this; omega
        have hcell : ∀ (j : Nat) u, ((us.toList.drop (i * sz + off)).take (c.length - off))[j]? = some u → w.cell? ⟨b, i * sz + off + j, none⟩ = some u := fun j u hu => by
          rw [cell_of_row w b _ us e (0, 0) w7]
          rw [List.getElem?_take] at hu
          split at hu
          · rw [List.getElem?_drop] at hu; simpa using hu
          · cases hu
        have hll : ((us.toList.drop (i * sz + off)).take (c.length - off)).length = c.length - off := by simp; omega
        have get : ∀ (j : Nat) y u, (c.drop off)[j]? = some y → ((us.toList.drop (i * sz + off)).take (c.length - off))[j]? = some u → u.oneCell' = true ∧ VRel G.com w y u := fun j y u hy hu => by
          rw [List.getElem?_drop] at hy
          obtain ⟨hj, hy⟩ := List.getElem?_eq_some_iff.1 hy
          obtain ⟨u', q1, q2, q3⟩ := cell (off + j) hj
          rw [List.getElem?_take, if_pos (by omega), List.getElem?_drop] at hu
          have hu : us[i * sz + (off + j)]? = some u := by rw [← Nat.add_assoc]; simpa using hu
          rw [q1] at hu
          cases hu
          rw [← hy]
          exact ⟨q2, q3⟩
        obtain ⟨r1, r2⟩ := run_loadAt hT ht w b (i * sz + off) _ hcell
        unfold aLoadV at h
        split at h
        · rename_i ha
          split at h
          · rename_i hl2
            refine Out.resX hR (r1 ha (by rw [hll]; omega)) ?_ h
            refine .p _ _ (.agg _ _ (by simp only [List.length_take, List.size_toArray, hll, List.length_drop]) (fun j y u hc' hu => ?_) (fun j y u hc' hu => ?_))
            all_goals
              rw [List.getElem?_take] at hc'
              split at hc'
              · rename_i hj
                have hu2 : (((us.toList.drop (i * sz + off)).take (c.length - off)).take ti.size)[j]? = some u := by simpa using hu
                rw [List.getElem?_take, if_pos hj] at hu2
                first
                  | exact (get j y u hc' hu2).1
                  | exact (get j y u hc' hu2).2
              · cases hc'
          · exact h.elim
        · rename_i ha
          split at h
          · rename_i y r hy
            have h0 : 0 < c.length - off := by have := congrArg List.length hy; simp at this; omega
            have hlt : 0 < ((us.toList.drop (i * sz + off)).take (c.length - off)).length := by rw [hll]; exact h0
            refine Out.resX hR (r2 ha _ (List.getElem?_eq_getElem hlt)) ?_ h
            exact .p _ _ (get 0 y _ (by rw [hy]; rfl) (List.getElem?_eq_getElem hlt)).2
          · exact h.elim
  · exact h.elim
theorem xField_sound (hT : TblOk P tb) {N : Nat} {G : Gh} {σ : St} {a : Act} {w : World} (hR : Rel N G σ a w) {K : D → St → Prop} {t f : Nat} {x : D} {u : Value} (hx : DRel G w x u) (h : xField tb t x f σ K) :
    ResX N G a w ((Instr.fieldAt t u f >>= fun x => Pure.pure (Next.value x) : Sem Next).run P w) K := by
  unfold xField at h
  split at h
  · rename_i ti tk vv e sz es i c off ht
    split at h
    · rename_i fields hd
      split at h
      · rename_i fd hf
        split at h
        · rename_i tf htf
          split at h
          · exact h.elim
          · rename_i hz
            obtain ⟨hl, h⟩ := h
            obtain ⟨T1, t1, t0, t2, hX⟩ := xfresh hR.inv hx hl
            cases hX with
            | el _ _ _ _ _ _ b cap hc hrow =>
              have hu := hT.und ht
              rw [hd] at hu
              have hr : (Instr.fieldAt t (.pointer (some ⟨b, i * sz + off, none⟩)) f).run P w = .ok (.pointer (some ⟨b, i * sz + (off + fd.offset), none⟩)) w := by
                simp [Instr.fieldAt, run_underlying hu, hf, Instr.sureAddr, fieldPlace, hT.sz htf, hz, addAt, Nat.add_assoc]
              refine Out.resX hR hr ?_ h
              exact .x _ _ _ _ T1 t1 t0 (by omega) rfl fun _ => .el _ _ es i c (off + fd.offset) b cap hc hrow
        · exact h.elim
      · exact h.elim
    · exact h.elim
  · exact h.elim
theorem xLen_sound (hT : TblOk P tb) {N : Nat} {G : Gh} {σ : St} {a : Act} {w : World} (hR : Rel N G σ a w) {K : D → St → Prop} (ty : TypeId) {t : Nat} {x : D} {u : Value} (hx : DRel G w x u) (h : xLen tb t x σ K) :
    ResX N G a w ((Builtin.len_ #[t] ty #[u] >>= fun x => Pure.pure (Next.value x) : Sem Next).run P w) K := by
  unfold xLen at h
  split at h
  · rename_i ti tk vv e sz es ht
    split at h
    · rename_i e' hd
      obtain ⟨hl, n, hn, hK⟩ := h
      obtain ⟨T1, t1, t0, t2, hX⟩ := xfresh hR.inv hx hl
      have hu := hT.und ht
      rw [hd] at hu
      cases hX with
      | sl _ _ _ ad cap hna hrow =>
        have hr : (Builtin.len_ #[t] ty #[.slice ad es.length cap]).run P w = .ok (.int .i64 n) w := by simp [Builtin.len_, run_underlying hu, goInt, hn]
        exact Out.resX hR hr (.p _ _ (.v _ rfl)) hK
    · exact h.elim
  · exact h.elim
theorem xStore_sound (hT : TblOk P tb) {N : Nat} {G : Gh} {σ : St} {a : Act} {w : World} (hR : Rel N G σ a w) {K : D → St → Prop} {hm : Home} {t : Nat} {x y : D} {u v : Value} (hx : DRel G w x u) (hy : DRel G w y v) (h : xStore tb hm t x y σ K) :
    ∃ w' G' σ', (Instr.storeAt t u v).run P w = .ok () w' ∧ Stp G w G' w' ∧ Rel N G' σ' a w' ∧ K .undef σ' := by
  unfold xStore at h
  split at h
  · rename_i ti tk vv e sz es i c off vs ht hvs
    obtain ⟨hvl, hoff, hl, hg, es', hle, hK⟩ := h
    obtain ⟨T1, t1, t0, t2, hX⟩ := xfresh hR.inv hx hl
    cases hX with
    | el _ _ _ _ _ _ b cap hc hrow =>
      obtain ⟨w1, w2, w3, w4⟩ := hrow
      have hi := (List.getElem?_eq_some_iff.1 hc).1
      rcases w4 with ⟨w4, -⟩ | ⟨b', us, hb, w5, w6, w7, w8, w9⟩
      · omega
      · cases hb
        obtain ⟨z, hz, hzu⟩ := Option.bind_eq_some_iff.1 hvs
        have hr := dcells_rel hy hz
        obtain ⟨q1, q2⟩ := unps_rel (G := G) (w := w) z vs hzu
        have hcs := w1 c (List.mem_of_getElem? hc)
        have hlen : v.cells.toList.length = vs.length := by rw [Array.length_toList, hr.1, q1]
        have hle2 : i * sz + sz ≤ us.size := by
          have : (i + 1) * sz ≤ cap * sz := Nat.mul_le_mul_right _ (by omega)
          rw [Nat.add_mul] at this; omega
        have vcell : ∀ (j : Nat) y u, vs[j]? = some y → v.cells[j]? = some u → u.oneCell' = true ∧ VRel G.com w y u := fun j y u hy hu => by
          obtain ⟨d, d1, d2⟩ := q2 j y hy
          have := hr.2 j d u d1 hu
          exact ⟨this.1, unp_rel this.2 d2⟩
        have hst := run_storeCells_at P b (i * sz + off) e v.cells.toList 0 us w w7 (by rw [hlen]; omega) (fun x hx => by
          obtain ⟨j, hj⟩ := List.getElem?_of_mem hx
          have hj2 : j < vs.length := by rw [← hlen]; exact (List.getElem?_eq_some_iff.1 hj).1
          exact (vcell j vs[j] x (List.getElem?_eq_getElem hj2) (by simpa using hj)).1)
        simp only [Nat.add_zero] at hst
        generalize hus' : (us.toList.take (i * sz + off) ++ v.cells.toList ++ us.toList.drop (i * sz + off + v.cells.toList.length)).toArray = us' at hst
        have hus's : us'.size = us.size := by rw [← hus']; simp only [List.size_toArray, List.length_append, List.length_take, List.length_drop, hlen, Array.length_toList]; omega
        have hrun : (Instr.storeAt t (.pointer (some ⟨b, i * sz + off, none⟩)) v).run P w = .ok () (w.setRow b us') := by
          have e : v.cells.size = ti.size := by rw [hr.1, ← q1]; exact hvl
          simp only [Instr.storeAt, Instr.sureAddr, storeVar, Sem.run_bind, Sem.run_pure, Result.andThen_ok, hT.sz ht, e]
          simpa using hst
        obtain ⟨s2, i2⟩ := xset_stp hR.inv (w' := w.setRow b us') t1 t0 (v := vv + 1) (by omega) (bk := some b) rfl rfl rfl (by simp [World.setRow]) (fun k hk hne => setRow_other w b k _ fun e => hne (by rw [e])) (fun g hg => by
          cases hg
          exact ⟨by simp only [World.setRow, Array.size_modify]; exact (Array.getElem?_eq_some_iff.1 w7).1, .inr ⟨w5, w6⟩⟩) (setRow_shp w7 hus's)
        have hnew : (w.setRow b us').heap[b]? = some (.cells us' e (0, 0)) := setRow_heap w b us us' e (0, 0) w7
        have hbn : b ∉ G.name := (hR.inv.tok tk T1 b t1 (.inl w5)).2.1
        have cells' : ∀ (i' k : Nat) x y, (es.set i (xput c vs off))[i']? = some x → x[k]? = some y → ∃ u, us'[i' * sz + k]? = some u ∧ u.oneCell' = true ∧ VRel G.com w y u := fun i' k x y hx' hy' => by
          have hgo : ∀ j, us'[j]? = (us.toList.take (i * sz + off) ++ (v.cells.toList ++ us.toList.drop (i * sz + off + v.cells.toList.length)))[j]? := fun j => by rw [← hus', List.getElem?_toArray, List.append_assoc]
          have t1l : (us.toList.take (i * sz + off)).length = i * sz + off := by simp; omega
          by_cases hii : i' = i
          · subst hii
            rw [List.getElem?_set_self hi] at hx'
            cases hx'
            have hxl : (xput c vs off).length = c.length := by unfold xput; simp only [List.length_append, List.length_take, List.length_drop]; omega
            have hk : k < c.length := by rw [← hxl]; exact (List.getElem?_eq_some_iff.1 hy').1
            have t2 : (c.take off).length = off := by simp; omega
            unfold xput at hy'
            rw [List.append_assoc] at hy'
            by_cases h1 : k < off
            · rw [List.getElem?_append_left (by omega), List.getElem?_take, if_pos h1] at hy'
              obtain ⟨u, p1, p2⟩ := w9 i' k c y hc hy'
              refine ⟨u, ?_, p2⟩
              rw [hgo, List.getElem?_append_left (by omega), List.getElem?_take, if_pos (by omega)]
              simpa using p1
            · rw [List.getElem?_append_right (by omega), t2] at hy'
              by_cases h2 : k - off < vs.length
              · rw [List.getElem?_append_left h2] at hy'
                have hk2 : k - off < v.cells.size := by rw [← Array.length_toList, hlen]; exact h2
                refine ⟨v.cells[k - off], ?_, vcell _ y _ hy' (Array.getElem?_eq_getElem hk2)⟩
                rw [hgo, List.getElem?_append_right (by omega), t1l, show i' * sz + k - (i' * sz + off) = k - off by omega, List.getElem?_append_left (by rw [hlen]; exact h2)]
                simp [hk2]
              · rw [List.getElem?_append_right (by omega), List.getElem?_drop] at hy'
                rw [show off + vs.length + (k - off - vs.length) = k by omega] at hy'
                obtain ⟨u, p1, p2⟩ := w9 i' k c y hc hy'
                refine ⟨u, ?_, p2⟩
                rw [hgo, List.getElem?_append_right (by omega), t1l, List.getElem?_append_right (by rw [hlen]; omega), hlen, List.getElem?_drop, show i' * sz + off + vs.length + (i' * sz + k - (i' * sz + off) - vs.length) = i' * sz + k by omega]
                simpa using p1
          · rw [List.getElem?_set_ne (fun e => hii e.symm)] at hx'
            obtain ⟨u, p1, p2⟩ := w9 i' k x y hx' hy'
            refine ⟨u, ?_, p2⟩
            have hk : k < sz := by rw [← w1 x (List.mem_of_getElem? hx')]; exact (List.getElem?_eq_some_iff.1 hy').1
            rcases Nat.lt_or_gt_of_ne hii with h1 | h1
            · have : (i' + 1) * sz ≤ i * sz := Nat.mul_le_mul_right _ h1
              rw [Nat.add_mul] at this
              rw [hgo, List.getElem?_append_left (by omega), List.getElem?_take, if_pos (by omega)]
              simpa using p1
            · have : (i + 1) * sz ≤ i' * sz := Nat.mul_le_mul_right _ h1
              rw [Nat.add_mul] at this
              rw [hgo, List.getElem?_append_right (by omega), t1l, List.getElem?_append_right (by rw [hlen]; omega), hlen, List.getElem?_drop, show i * sz + off + vs.length + (i' * sz + k - (i * sz + off) - vs.length) = i' * sz + k by omega]
              simpa using p1
        have hrel := home_rel hR s2 (live' := σ.s.live.set tk (vv + 1)) i2 rfl (fun b' hb' => setRow_other w b b' _ fun e => hbn (e ▸ hb')) hg (d1 := .x tk (vv + 1) (.sl e sz es')) (fun u hu => by
          obtain ⟨T2, x1, x0, x2, hX2⟩ := xfresh hR.inv hu hl
          rw [t1] at x1
          obtain rfl := Option.some.inj x1
          cases hX2 with
          | sl _ _ _ ad cap' hna hrow' =>
            obtain ⟨v1, v2, v3, v4⟩ := hrow'
            rcases v4 with ⟨v4, -⟩ | ⟨b2, us2, rfl, v5, v6, v7, v8, v9⟩
            · omega
            · rw [w5] at v5
              cases v5
              rw [w7] at v7
              cases v7
              refine ⟨.x _ _ _ _ ⟨vv + 1, some b, 0, none⟩ (xset_tok t1) rfl (Nat.le_refl _) rfl fun _ => ?_, rfl⟩
              have hlen' : es.length = es'.length := by rw [← hle.1]; simp
              rw [hlen']
              refine .sl e sz es' _ cap' (fun h => by cases h) (XRow.le (es := es.set i (xput c vs off)) ⟨fun x hx => ?_, by simpa using v2, v3, .inr ⟨b, us', rfl, rfl, rfl, hnew, by rw [hus's]; exact v8, fun i' k x y hx hy => ?_⟩⟩ hle)
              · rcases List.mem_or_eq_of_mem_set hx with hx | rfl
                · exact w1 x hx
                · unfold xput; simp only [List.length_append, List.length_take, List.length_drop]; omega
              · obtain ⟨u, p1, p2, p3⟩ := cells' i' k x y hx hy
                exact ⟨u, p1, p2, p3.mono s2.ext.size s2.ext.com⟩)
        exact ⟨_, _, _, hrun, s2, hrel, hK⟩
  · exact h.elim
set_option maxHeartbeats 1000000 in
theorem xStep_sound (hT : TblOk P tb) {N : Nat} {G : Gh} {σ : St} {a : Act} {w : World} (hR : Rel N G σ a w) {hm : Home} {K : D → St → Prop} (o : Oper) (h : xStep tb hm o.op σ K) :
    ResX N G a w ((execOp a.eval o).run P w) K := by
  have hev := ev_rel hR.env
  unfold execOp
  unfold xStep at h
  split at h
  · rename_i t x y ho
    simp only [ho]
    split at h
    · rename_i p q hp hq
      exact xMake_sound hT hR (hev _ _ hp) (hev _ _ hq) h
    · exact h.elim
  · rename_i t x ho
    simp only [ho]
    split at h
    · rename_i d hd
      exact xLoad_sound hT hR (hev _ d hd) h
    · exact h.elim
  · rename_i t x y ho
    simp only [ho]
    split at h
    · rename_i p q hp hq
      obtain ⟨w', G', σ', hr, r1, r2, r3⟩ := xStore_sound hT hR (hev _ _ hp) (hev _ _ hq) h
      exact ⟨undef, w', G', .undef, σ', .inr ⟨by simp [hr], rfl⟩, r1, r2, .undef, r3⟩
    · exact h.elim
  · rename_i x ho
    simp only [ho]
    split at h
    · rename_i tk v e sz es i c off hd
      obtain ⟨hl, h⟩ := h
      have hr := hev _ _ hd
      obtain ⟨T1, t1, t0, t2, hX⟩ := xfresh hR.inv hr hl
      cases hr2 : a.eval x with
      | pointer p =>
        rw [hr2] at hr hX
        cases p with
        | none => cases hX
        | some p => exact ⟨_, w, G, _, σ, .inl rfl, .refl G w, hR, hr, h⟩
      | _ => rw [hr2] at hX; cases hX
    · exact h.elim
  · rename_i t x f ho
    simp only [ho]
    split at h
    · rename_i d hd
      exact xField_sound hT hR (hev _ _ hd) h
    · exact h.elim
  · rename_i t x i ho
    simp only [ho]
    split at h
    · rename_i p q hp hq
      exact xIndex_sound hT hR (hev _ _ hp) (hev _ _ hq) h
    · exact h.elim
  · rename_i c ho
    simp only [ho]
    split at h
    · rename_i x t hc hx ht
      obtain ⟨e1, e2⟩ := evs_rel hev _ _ hx
      have hargs : ∃ x1, c.args = #[x1] := by
        have : c.args.toList.length = 1 := by rw [← e1]; rfl
        match h : c.args.toList, this with
        | [x1], _ => exact ⟨x1, by rw [← Array.toArray_toList (xs := c.args), h]⟩
      obtain ⟨x1, hargs⟩ := hargs
      have htys : c.argTypes = #[t] := by rw [← Array.toArray_toList (xs := c.argTypes), ht]
      have hd := e2 0 x (a.eval x1) rfl (by rw [hargs]; rfl)
      have := xLen_sound hT hR o.type hd h
      simpa [resolve, hc, invoke, builtin, hargs, htys] using this
    · rename_i x y t t' hc hx ht
      split at h
      · rename_i htt
        subst htt
        obtain ⟨e1, e2⟩ := evs_rel hev _ _ hx
        have hargs : ∃ x1 y1, c.args = #[x1, y1] := by
          have : c.args.toList.length = 2 := by rw [← e1]; rfl
          match h : c.args.toList, this with
          | [x1, y1], _ => exact ⟨x1, y1, by rw [← Array.toArray_toList (xs := c.args), h]⟩
        obtain ⟨x1, y1, hargs⟩ := hargs
        have htys : c.argTypes = #[t, t] := by rw [← Array.toArray_toList (xs := c.argTypes), ht]
        have hd := e2 0 x (a.eval x1) rfl (by rw [hargs]; rfl)
        have hd2 := e2 1 y (a.eval y1) rfl (by rw [hargs]; rfl)
        have := xApp_sound hT hR o.type hd hd2 h
        simpa [resolve, hc, invoke, builtin, hargs, htys] using this
      · exact h.elim
    · exact h.elim
  · exact h.elim
/-- An operation of a region, marked. -/
def xOne (tb : Tbl) (N : Nat) (ops : List Oper) (i : Nat) (hm : Home) (σ : St) (K : St → Prop) : Prop :=
  match ops[i]? with
  | none => False
  | some o => match aWant ops σ.env o.guard with
    | some true => xStep tb hm o.op σ fun d σ' => putE N σ'.env o.dst d fun env' => K ⟨env', σ'.s⟩
    | some false => putE N σ.env o.dst .undef fun env' => K ⟨env', σ.s⟩
    | none => False
theorem xOne_sound (hT : TblOk P tb) {rd : Option Nat} {N : Nat} {G : Gh} {σ : St} {a : Act} {w : World} (hR : Rel N G σ a w) {ops : List Oper} {i : Nat} {hm : Home} {K : St → Prop} (h : xOne tb N ops i hm σ K)
    {next : Act → World → Prop} {Q : Exit → Act → World → Prop} (hn : ∀ a' w' G' σ', Stp G w G' w' → Rel N G' σ' a' w' → a'.defers = a.defers → K σ' → next a' w') : wpOpIn (FW rd) 0 P ops.toArray Q i next a w := by
  unfold xOne at h
  unfold wpOpIn
  split at h
  · exact h.elim
  · rename_i o ho
    simp only [List.getElem?_toArray, ho]
    split at h
    · rename_i hw
      rw [if_pos (aWant_rel hR ops o true hw)]
      obtain ⟨u, w', G', d, σ', hr, r1, r2, r3, r4⟩ := xStep_sound hT hR o h
      refine wpIn_of (fun c hc => ?_) ?_
      · rw [hc] at h; simp [xStep] at h
      · obtain ⟨env', q1, q2⟩ := putE_rel r2 (.refl G' w') r2.inv r3 r4
        rcases hr with hr | ⟨hr, rfl⟩
        · rw [hr]; exact hn _ _ _ _ r1 q1 (put_defers _ _ _) q2
        · rw [hr]; exact hn _ _ _ _ r1 q1 (put_defers _ _ _) q2
    · rename_i hw
      rw [if_neg (by rw [aWant_rel hR ops o false hw]; simp)]
      refine ⟨fun f _ => FW_fn _ _, ?_⟩
      obtain ⟨env', q1, q2⟩ := putE_rel hR (.refl G w) hR.inv .undef h
      exact hn _ _ _ _ (.refl G w) q1 (put_defers _ _ _) q2
    · exact h.elim
/-- Reading what the call alone sees. -/
def rOp : Op → Bool
  | .load _ _ | .nilCheck _ | .fieldAddr _ _ _ | .indexAddr _ _ _ => true
  | .call c => match c.callee with | .builtin .len => true | _ => false
  | _ => false
theorem xStep_rd {o : Op} (hr : rOp o = true) {hm : Home} {σ : St} {K : D → St → Prop} (h : xStep tb hm o σ K) : ∃ d, K d σ ∧ ∀ (τ : St) (K' : D → St → Prop), (∀ x ∈ o.operands.toList, ev σ.env x = ev τ.env x) → τ.s.live = σ.s.live → K' d τ → xStep tb hm o τ K' := by
  cases o with
  | load t x =>
    have h : (match ev σ.env x with | some d => xLoad tb t d σ K | none => False) := h
    split at h
    · rename_i d hd
      unfold xLoad at h
      split at h
      · rename_i ti tk v a1 a2 a3 a4 c off hti
        obtain ⟨h1, h2, h3⟩ := h
        obtain ⟨y, h4, h5⟩ := aLoadV_pur ti (c.drop off) σ.s (fun d _ => K d σ) h3
        refine ⟨_, h4, fun τ K' he hl hk => ?_⟩
        show (match ev τ.env x with | some d => xLoad tb t d τ K' | none => False)
        rw [← he x (by simp [Op.operands]), hd]
        simp only [xLoad, hti]
        exact ⟨by rw [hl]; exact h1, h2, h5 σ.s (fun d _ => K' d τ) hk⟩
      · exact h.elim
    · exact h.elim
  | nilCheck x =>
    have h : (match ev σ.env x with | some (.x tk v (.el e sz es i c off)) => σ.s.live[tk]? = some v ∧ K (.x tk v (.el e sz es i c off)) σ | _ => False) := h
    split at h
    · rename_i tk v e sz es i c off hd
      refine ⟨_, h.2, fun τ K' he hl hk => ?_⟩
      show (match ev τ.env x with | some (.x tk v (.el e sz es i c off)) => τ.s.live[tk]? = some v ∧ K' (.x tk v (.el e sz es i c off)) τ | _ => False)
      rw [← he x (by simp [Op.operands]), hd]
      exact ⟨by rw [hl]; exact h.1, hk⟩
    · exact h.elim
  | fieldAddr t x f =>
    have h : (match ev σ.env x with | some d => xField tb t d f σ K | none => False) := h
    split at h
    · rename_i d hd
      unfold xField at h
      split at h
      · rename_i ti tk v e sz es i c off hti
        split at h
        · rename_i fields hfs
          split at h
          · rename_i fd hfd
            split at h
            · rename_i tf htf
              split at h
              · exact h.elim
              · rename_i hz
                refine ⟨_, h.2, fun τ K' he hl hk => ?_⟩
                show (match ev τ.env x with | some d => xField tb t d f τ K' | none => False)
                rw [← he x (by simp [Op.operands]), hd]
                simp only [xField, hti, hfs, hfd, htf]
                rw [if_neg hz]
                exact ⟨by rw [hl]; exact h.1, hk⟩
            · exact h.elim
          · exact h.elim
        · exact h.elim
      · exact h.elim
    · exact h.elim
  | indexAddr t x i =>
    have h : (match ev σ.env x, ev σ.env i with | some a, some b => xIndex tb t a b σ K | _, _ => False) := h
    split at h
    · rename_i da db hda hdb
      unfold xIndex at h
      split at h
      · rename_i ti k n tk v e sz es hti
        split at h
        · rename_i e' he'
          split at h
          · rename_i te hte
            split at h
            · rename_i hz
              obtain ⟨h1, c, h2, h3, h4, h5, h6⟩ := h
              refine ⟨_, h6, fun τ K' he hl hk => ?_⟩
              show (match ev τ.env x, ev τ.env i with | some a, some b => xIndex tb t a b τ K' | _, _ => False)
              rw [← he x (by simp [Op.operands]), ← he i (by simp [Op.operands]), hda, hdb]
              simp only [xIndex, hti, he', hte]
              rw [if_pos hz]
              exact ⟨by rw [hl]; exact h1, c, h2, h3, h4, h5, hk⟩
            · exact h.elim
          · exact h.elim
        · exact h.elim
      · exact h.elim
    · exact h.elim
  | call c =>
    have hr : (match c.callee with | .builtin .len => true | _ => false) = true := hr
    split at hr
    · rename_i hc
      have h : (match c.callee, evs (ev σ.env) c.args.toList, c.argTypes.toList with
        | .builtin .len, some [x], [t] => xLen tb t x σ K
        | .builtin .append, some [x, y], [t, t'] => if t = t' then xApp tb t x y σ K else False
        | _, _, _ => False) := h
      rw [hc] at h
      split at h
      · rename_i x2 ty hcal hx hty
        unfold xLen at h
        split at h
        · rename_i ti tk v a1 a2 es hti
          split at h
          · rename_i e' he'
            obtain ⟨h1, n, h2, h3⟩ := h
            refine ⟨_, h3, fun τ K' he hl hk => ?_⟩
            have e1 := evs_congr (e := ev σ.env) (e' := ev τ.env) c.args.toList fun x hx => he x (by simp [Op.operands, Call.operands, hc]; simpa using hx)
            show (match c.callee, evs (ev τ.env) c.args.toList, c.argTypes.toList with
              | .builtin .len, some [x], [t] => xLen tb t x τ K'
              | .builtin .append, some [x, y], [t, t'] => if t = t' then xApp tb t x y τ K' else False
              | _, _, _ => False)
            rw [hc, ← e1, hx, hty]
            simp only [xLen, hti, he']
            exact ⟨by rw [hl]; exact h1, n, h2, hk⟩
          · exact h.elim
        · exact h.elim
      · rename_i hcal _ _; cases hcal
      · exact h.elim
    · cases hr
  | _ => cases hr
/-- Marks: the operation's number, and where the slice is kept (0: nowhere; 1 s 0: slot s; 2 s j: cell j of the struct in slot s; 3 nm off: a variable's cell). -/
def homeOf : List Nat → Nat → Option Home
  | k :: c :: x :: y :: r, i => if k = i then some (match c with | 0 => .no | 1 => .s x | 2 => .a x y | _ => .h x y) else homeOf r i
  | _, _ => none
def xOps (mk : List Nat) (P : Program) (tb : Tbl) (N : Nat) (ops : List Oper) : List Nat → St → (St → Prop) → Prop
  | [], σ, K => K σ
  | i :: r, σ, K => match homeOf mk i with
    | some hm => xOne tb N ops i hm σ fun σ' => xOps mk P tb N ops r σ' K
    | none => bOne true P tb N ops i σ fun σ' => xOps mk P tb N ops r σ' K
theorem xOps_sound (hT : TblOk P tb) {rd : Option Nat} {mk : List Nat} {N : Nat} {ops : List Oper} {Q : Exit → Act → World → Prop} {K : St → Prop} {B : Nat × Nat} {G0 : Gh} {w0 : World} {ds : List Deferred} (hQ : ∀ a w G σ, Ex B G0 w0 G w → Rel N G σ a w → a.defers = ds → K σ → Q .normal a w) :
    ∀ (l : List Nat) (σ : St) (a : Act) (w : World) (G : Gh), Ex B G0 w0 G w → Rel N G σ a w → a.defers = ds → xOps mk P tb N ops l σ K → wpOpsIn (FW rd) 0 P ops.toArray Q l a w
  | [], σ, a, w, G, hE, hR, hd, h => hQ a w G σ hE hR hd h
  | i :: r, σ, a, w, G, hE, hR, hd, h => by
    rw [wpOpsIn_cons]
    unfold xOps at h
    split at h
    · exact xOne_sound hT hR h fun a' w' G' σ' s1 r1 d1 h1 => xOps_sound hT hQ r σ' a' w' G' (hE.trans (s1.ex B)) r1 (d1.trans hd) h1
    · exact bOne_sound hT hR h fun a' w' G' σ' s1 r1 d1 h1 => xOps_sound hT hQ r σ' a' w' G' (hE.trans (s1.ex B)) r1 (d1.trans hd) h1
end

end Go.Proofs.YtagokkpnfceidaaDoor
end

section
namespace Go.Proofs.YtagokkpnfceidaaDoor
open Go.RowKit

/-- Slots that point into what the region itself makes. -/
def freshGo : List Oper → List Nat → List Nat
  | [], acc => acc
  | o :: r, acc => match o.dst, o.op with
    | some t, .alloc _ => freshGo r (t :: acc)
    | some t, .box _ _ => freshGo r (t :: acc)
    | some t, .fieldAddr _ (.tmp x) _ => freshGo r (if acc.contains x then t :: acc else acc)
    | some t, .indexAddr _ (.tmp x) _ => freshGo r (if acc.contains x then t :: acc else acc)
    | some t, .nilCheck (.tmp x) => freshGo r (if acc.contains x then t :: acc else acc)
    | some t, .move (.tmp x) => freshGo r (if acc.contains x then t :: acc else acc)
    | _, _ => freshGo r acc
def isFr (ops : List Oper) (i : Nat) : Bool := match ops[i]? with
  | some o => match o.op with
    | .load _ (.tmp x) => (freshGo ops []).contains x
    | .store _ (.tmp x) _ => (freshGo ops []).contains x
    | _ => false
  | none => false
/-- Does an operation look but at what the region makes (a call: so the table says). -/
def isFr2 (hvl : List Nat) (ops : List Oper) (i : Nat) : Bool := isFr ops i || hvl.contains (1000 + i)
/-- Does an operation read what the call alone sees. -/
def rMk (hvl : List Nat) (i : Nat) : Bool := hvl.contains (2000 + i)
structure Fl2 where
  rd : Bool
  wr : Bool
  nu : Bool
  tk : Bool
/-- What an operation reads of what was there, writes of it, whether it looks at what is made, at tokens. -/
def flags2 (hv fr : Bool) : Op → Fl2
  | .load _ _ => ⟨!fr, false, fr, false⟩
  | .store _ _ _ => ⟨!fr, !fr, fr, false⟩
  | .alloc _ | .box _ _ => ⟨false, false, true, false⟩
  | .call c => match c.callee with
    | .builtin .append => ⟨false, false, false, true⟩
    | .value _ => if hv && fr then ⟨false, false, true, true⟩ else if fr then ⟨true, false, false, true⟩ else ⟨true, hv, hv, hv⟩
    | _ => ⟨false, false, false, false⟩
  | _ => ⟨false, false, false, false⟩
theorem flags2_wr (hv fr : Bool) (o : Op) (h : (flags2 hv fr o).wr = true) : (flags2 hv fr o).rd = true := by
  revert h
  unfold flags2
  split
  · exact fun h => by cases h
  · exact fun h => h
  · exact fun h => by cases h
  · exact fun h => by cases h
  · split
    · exact fun h => by cases h
    · split
      · exact fun h => by cases h
      · split
        · exact fun h => by cases h
        · exact fun _ => rfl
    · exact fun h => by cases h
  · exact fun h => by cases h
def okP (base : Nat) (fr : Bool) : Option D → Bool
  | some (.ptr nm _) => Nat.ble base nm == fr
  | _ => true
/-- A call that reads but what was there ahead of the region. -/
structure CallD (base : Nat) (P : Program) (f : FuncId) (args : List D) (s : S) (r : D) (s' : S) : Prop where
  eq : s' = s
  quiet : ∀ (heap : List (List D)) live, base ≤ heap.length → heap.take base = s.heap.take base → CallOK P f args ⟨heap, live⟩ r ⟨heap, live⟩
/-- A call that turns but what the region itself has made. -/
structure CallF (base : Nat) (P : Program) (f : FuncId) (args : List D) (s : S) (r : D) (s' : S) : Prop where
  len : base ≤ s'.heap.length
  eq : s'.heap.take base = s.heap.take base
  ok : ∀ (heap : List (List D)), base ≤ heap.length → heap.drop base = s.heap.drop base → CallOK P f args ⟨heap, s.live⟩ r ⟨heap.take base ++ s'.heap.drop base, s'.live⟩
/-- A call that reads but what was there ahead of the region, and whose result may have tokens of its own. -/
structure CallT (base : Nat) (P : Program) (f : FuncId) (args : List D) (s : S) (r : D) (s' : S) : Prop where
  eq : s'.heap = s.heap
  quiet : ∀ (heap : List (List D)), base ≤ heap.length → heap.take base = s.heap.take base → CallOK P f args ⟨heap, s.live⟩ r ⟨heap, s'.live⟩
def aCallD (hv fr : Bool) (base : Nat) (P : Program) (c : Call) (e : Operand → Option D) (s : S) (K : D → S → Prop) : Prop :=
  match c.callee with
  | .value f => match e f, evs e c.args.toList with
    | some (.fn (.func g) first cap), some ds => match hv with
      | true => match fr with
        | true => ∃ r s', CallF base P g ((first ++ ds ++ cap).map dn) s r s' ∧ K r s'
        | false => ∃ r s', CallC true P g ((first ++ ds ++ cap).map dn) s r s' ∧ base ≤ s'.heap.length ∧ K r s'
      | false => match fr with
        | true => ∃ r s', CallT base P g ((first ++ ds ++ cap).map dn) s r s' ∧ K r s'
        | false => ∃ r s', CallD base P g ((first ++ ds ++ cap).map dn) s r s' ∧ K r s'
    | _, _ => False
  | _ => False
def ptrOf : Op → Option Operand
  | .load _ x => some x
  | .store _ x _ => some x
  | _ => none
section
variable {P : Program} {tb : Tbl}
def dStep (base : Nat) (hv fr : Bool) (P : Program) (tb : Tbl) (o : Op) (e : Operand → Option D) (s : S) (K : D → S → Prop) : Prop :=
  match isCall o with
  | some c => aCallD hv fr base P c e s K
  | none => match ptrOf o with
    | some x => match okP base fr (e x) with
      | true => bStep false P tb o e s K
      | false => False
    | none => bStep false P tb o e s K
theorem dStep_b {base : Nat} {hv fr : Bool} {o : Op} {e : Operand → Option D} {s : S} {K : D → S → Prop} (hb : base ≤ s.heap.length) (h : dStep base hv fr P tb o e s K) : bStep true P tb o e s K := by
  have key : isCall o = none → bStep false P tb o e s K → bStep true P tb o e s K := fun hc h => by
    unfold bStep aStep at h ⊢
    rw [hc] at h ⊢
    exact h
  unfold dStep at h
  split at h
  · rename_i c hc
    have hv' : viewed o = false := by
      cases o with
      | call c' =>
        simp only [isCall] at hc
        split at hc
        · rename_i f hf; simp [viewed, hf]
        · cases hc
      | _ => cases hc
    have e1 : ∀ K d (s : S), vw o K d s = K d s := fun K d s => by unfold vw; rw [hv']
    unfold bStep aStep
    rw [hc]
    unfold aCallD at h
    unfold aCall
    split at h
    · rename_i f hf
      split at h
      · rename_i g first cap ds h1 h2
        simp only [hf, h1, h2]
        split at h
        · split at h
          · obtain ⟨r, s', hr, hk⟩ := h
            have := hr.ok s.heap hb rfl
            rw [← hr.eq, List.take_append_drop] at this
            exact ⟨r, s', ⟨this, fun h => by cases h⟩, by rw [e1]; exact hk⟩
          · obtain ⟨r, s', hr, -, hk⟩ := h
            exact ⟨r, s', hr, by rw [e1]; exact hk⟩
        · split at h
          · obtain ⟨r, s', hr, hk⟩ := h
            have := hr.quiet s.heap hb rfl
            have e2 : s' = ⟨s.heap, s'.live⟩ := by rw [← hr.eq]
            exact ⟨r, s', ⟨by rw [e2]; exact this, fun h => by cases h⟩, by rw [e1]; exact hk⟩
          · obtain ⟨r, s', hr, hk⟩ := h
            have := hr.eq
            subst this
            exact ⟨r, s', ⟨hr.quiet s'.heap s'.live hb rfl, fun h => by cases h⟩, by rw [e1]; exact hk⟩
      · exact h.elim
    · exact h.elim
  · rename_i hc
    split at h
    · split at h
      · exact key hc h
      · exact h.elim
    · exact key hc h

def mix (base : Nat) (f : Fl2) (s1 s' : S) : S := ⟨(if f.wr then s1.heap.take base else s'.heap.take base) ++ (if f.nu then s1.heap.drop base else s'.heap.drop base), if f.tk then s1.live else s'.live⟩
theorem takeLen {α : Type} {l : List α} {n : Nat} (h : n ≤ l.length) : (l.take n).length = n := by rw [List.length_take]; omega
theorem mix_take {base : Nat} {f : Fl2} {s1 s' : S} (h1 : base ≤ s1.heap.length) (h2 : base ≤ s'.heap.length) : (mix base f s1 s').heap.take base = if f.wr then s1.heap.take base else s'.heap.take base := by
  unfold mix
  have : (if f.wr then s1.heap.take base else s'.heap.take base).length = base := by split <;> exact takeLen (by assumption)
  simp only
  rw [List.take_append_of_le_length (by omega), List.take_of_length_le (by omega)]
theorem mix_drop {base : Nat} {f : Fl2} {s1 s' : S} (h1 : base ≤ s1.heap.length) (h2 : base ≤ s'.heap.length) : (mix base f s1 s').heap.drop base = if f.nu then s1.heap.drop base else s'.heap.drop base := by
  unfold mix
  have : (if f.wr then s1.heap.take base else s'.heap.take base).length = base := by split <;> exact takeLen (by assumption)
  simp only
  rw [List.drop_append_of_le_length (by omega), List.drop_of_length_le (by omega), List.nil_append]
theorem mix_len {base : Nat} {f : Fl2} {s1 s' : S} (h1 : base ≤ s1.heap.length) (h2 : base ≤ s'.heap.length) : base ≤ (mix base f s1 s').heap.length := by
  unfold mix
  have : (if f.wr then s1.heap.take base else s'.heap.take base).length = base := by split <;> exact takeLen (by assumption)
  simp only [List.length_append]; omega
theorem S.ext2 {base : Nat} {a b : S} (h1 : a.heap.take base = b.heap.take base) (h2 : a.heap.drop base = b.heap.drop base) (h3 : a.live = b.live) : a = b := by
  refine S.ext' ?_ h3
  rw [← List.take_append_drop base a.heap, h1, h2, List.take_append_drop]
def Loc2 (base : Nat) (f : Fl2) (X : S → (D → S → Prop) → Prop) : Prop := ∀ s K, base ≤ s.heap.length → X s K → ∃ d s1, K d s1 ∧ base ≤ s1.heap.length ∧ (f.wr = false → s1.heap.take base = s.heap.take base) ∧ (f.nu = false → s1.heap.drop base = s.heap.drop base) ∧
  (f.tk = false → s1.live = s.live) ∧ ∀ (s' : S) K', base ≤ s'.heap.length → (f.rd = true → s'.heap.take base = s.heap.take base) → (f.nu = true → s'.heap.drop base = s.heap.drop base) → (f.tk = true → s'.live = s.live) → K' d (mix base f s1 s') → X s' K'
theorem Loc2.false (base : Nat) (f : Fl2) : Loc2 base f fun _ _ => False := fun _ _ _ h => h.elim
/-- What hangs on no memory may be said to hang on some. -/
theorem Loc2.pure {base : Nat} {f : Fl2} (hw : f.wr = true → f.rd = true) {X : S → (D → S → Prop) → Prop} (h : Loc ⟨Bool.false, Bool.false, Bool.false⟩ X) : Loc2 base f X := fun s K hb hx => by
  obtain ⟨d, s1, h1, h2, h3, h4⟩ := h s K hx
  have e : s1 = s := S.ext' (h2 rfl) (h3 rfl)
  subst e
  refine ⟨d, s1, h1, hb, fun _ => rfl, fun _ => rfl, fun _ => rfl, fun s' K' hb' e1 e2 e3 hk => h4 s' K' (fun h => by cases h) (fun h => by cases h) ?_⟩
  have e : mix base f s1 s' = s' := by
    refine S.ext2 (base := base) ?_ ?_ ?_
    · rw [mix_take hb hb']; split
      · rename_i h; exact (e1 (hw h)).symm
      · rfl
    · rw [mix_drop hb hb']; split
      · rename_i h; exact (e2 h).symm
      · rfl
    · show (if f.tk then s1.live else s'.live) = s'.live
      split
      · rename_i h; exact (e3 h).symm
      · rfl
  rw [e] at hk
  exact hk
theorem Loc2.live {base : Nat} {X : S → (D → S → Prop) → Prop} (h : Loc ⟨Bool.false, Bool.false, true⟩ X) : Loc2 base ⟨Bool.false, Bool.false, Bool.false, true⟩ X := fun s K hb hx => by
  obtain ⟨d, s1, h1, h2, h3, h4⟩ := h s K hx
  have e : s1.heap = s.heap := h2 rfl
  refine ⟨d, s1, h1, by rw [e]; exact hb, fun _ => by rw [e], fun _ => by rw [e], (fun h => by cases h), fun s' K' hb' e1 e2 e3 hk => h4 s' K' (fun h => by cases h) (fun _ => e3 rfl) ?_⟩
  have e : mix base ⟨Bool.false, Bool.false, Bool.false, true⟩ s1 s' = ⟨s'.heap, s1.live⟩ := by
    unfold mix; simp
  rw [e] at hk
  exact hk
/-- All is looked at. -/
theorem Loc2.all {base : Nat} {X : S → (D → S → Prop) → Prop} (h : ∀ s K, base ≤ s.heap.length → X s K → ∃ d s1, K d s1 ∧ base ≤ s1.heap.length ∧ ∀ K', K' d s1 → X s K') : Loc2 base ⟨true, true, true, true⟩ X := fun s K hb hx => by
  obtain ⟨d, s1, h1, h2, h3⟩ := h s K hb hx
  refine ⟨d, s1, h1, h2, (fun h => by cases h), (fun h => by cases h), (fun h => by cases h), fun s' K' hb' e1 e2 e3 hk => ?_⟩
  have : s' = s := S.ext2 (base := base) (e1 rfl) (e2 rfl) (e3 rfl)
  subst this
  refine h3 K' ?_
  have e : mix base ⟨true, true, true, true⟩ s1 s' = s1 := by unfold mix; simp
  rw [e] at hk
  exact hk
theorem dropGet {α : Type} (l : List α) {base nm : Nat} (h : base ≤ nm) : l[nm]? = (l.drop base)[nm - base]? := by rw [List.getElem?_drop]; congr 1; omega
theorem takeGetE {α : Type} (l : List α) {base nm : Nat} (h : nm < base) : l[nm]? = (l.take base)[nm]? := by rw [List.getElem?_take, if_pos h]
theorem load_loc {base : Nat} {hv fr : Bool} {t : Nat} {x : Operand} {e : Operand → Option D} (hok : okP base fr (e x) = true) : Loc2 base (flags2 hv fr (.load t x)) fun s K => bStep false P tb (.load t x) e s K := by
  intro s K hb h
  have hvw : ∀ (K : D → S → Prop) s' K', (bStep false P tb (.load t x) e s K → bStep false P tb (.load t x) e s' K') = (aOp tb (.load t x) e s K → aOp tb (.load t x) e s' K') := fun _ _ _ => rfl
  have h0 : aOp tb (.load t x) e s K := h
  show ∃ d s1, K d s1 ∧ _ ∧ _ ∧ _ ∧ _ ∧ ∀ (s' : S) K', _ → _ → _ → _ → _ → aOp tb (.load t x) e s' K'
  have hwr : (flags2 hv fr (.load t x)).wr = true → (flags2 hv fr (.load t x)).rd = true := flags2_wr hv fr _
  unfold aOp at h0
  simp only at h0
  split at h0
  · rename_i ti cs ht hx
    refine Loc2.pure (X := fun s K => aOp tb (.load t x) e s K) hwr ?_ s K hb (by unfold aOp; simp only [ht, hx]; exact h0)
    have := (aLoadV_pur ti cs).loc Bool.false
    intro s K h
    unfold aOp at h
    simp only [ht, hx] at h
    obtain ⟨d, s1, a1, a2, a3, a4⟩ := this s K h
    refine ⟨d, s1, a1, a2, a3, fun s' K' q1 q2 hk => ?_⟩
    have := a4 s' K' q1 q2 hk
    unfold aOp
    simp only [ht, hx]
    exact this
  · rename_i ti d ht hx
    refine Loc2.pure (X := fun s K => aOp tb (.load t x) e s K) hwr ?_ s K hb (by unfold aOp; simp only [ht, hx]; exact h0)
    intro s K h
    unfold aOp at h
    simp only [ht, hx] at h
    refine ⟨d, s, h.2, fun _ => rfl, fun _ => rfl, fun s' K' q1 q2 hk => ?_⟩
    unfold aOp
    simp only [ht, hx]
    exact ⟨h.1, hk⟩
  · rename_i ti nm off ht hx
    split at h0
    · rename_i ds hds
      obtain ⟨d, h1, h2⟩ := aLoadD_pur ti (ds.drop off) s K h0
      refine ⟨d, s, h1, hb, fun _ => rfl, fun _ => rfl, fun _ => rfl, fun s' K' hb' e1 e2 e3 hk => ?_⟩
      have hok' : (Nat.ble base nm == fr) = true := by rw [hx] at hok; exact hok
      have hg : s'.heap[nm]? = some ds := by
        by_cases hn : base ≤ nm
        · have hfr : fr = true := by rw [Nat.ble_eq_true_of_le hn] at hok'; simpa using hok'.symm
          subst hfr
          rw [dropGet _ hn, e2 rfl, ← dropGet _ hn]; exact hds
        · have hfr : fr = false := by
            have : Nat.ble base nm = false := by
              cases hq : Nat.ble base nm
              · rfl
              · exact absurd (Nat.le_of_ble_eq_true hq) hn
            rw [this] at hok'; simpa using hok'.symm
          subst hfr
          rw [takeGetE (base := base) (nm := nm) _ (by omega), e1 rfl, ← takeGetE (base := base) (nm := nm) _ (by omega)]; exact hds
      have em : mix base (flags2 hv fr (.load t x)) s s' = s' := by
        refine S.ext2 (base := base) ?_ ?_ ?_
        · rw [mix_take hb hb']; split
          · rename_i h; exact (e1 (hwr h)).symm
          · rfl
        · rw [mix_drop hb hb']; split
          · rename_i h; exact (e2 h).symm
          · rfl
        · rfl
      rw [em] at hk
      unfold aOp
      simp only [ht, hx, hg]
      exact h2 s' K' hk
    · exact h0.elim
  · exact h0.elim
theorem alloc_loc {base : Nat} (l : List (Program × Nat × Nat)) (ds : List D) : Loc2 base ⟨false, false, true, false⟩ fun s K => K (.ptr s.heap.length 0) { s with heap := s.heap ++ [spAt s.heap.length l ds] } := by
  intro s K hb h
  refine ⟨_, _, h, by simp; omega, fun _ => by rw [List.take_append_of_le_length hb], (fun h => by cases h), fun _ => rfl, fun s' K' hb' e1 e2 e3 hk => ?_⟩
  have hl : s'.heap.length = s.heap.length := by
    have := congrArg List.length (e2 rfl)
    simp only [List.length_drop] at this
    omega
  generalize hx : spAt s.heap.length l ds = x at hk ⊢
  have em : mix base ⟨false, false, true, false⟩ ⟨s.heap ++ [x], s.live⟩ s' = ⟨s'.heap ++ [x], s'.live⟩ := by
    refine S.ext2 (base := base) ?_ ?_ rfl
    · rw [mix_take (by simp; omega) hb']; simp only [Bool.false_eq_true, if_false]; rw [List.take_append_of_le_length hb']
    · rw [mix_drop (by simp; omega) hb']; simp only [if_true]; rw [List.drop_append_of_le_length hb, List.drop_append_of_le_length hb', e2 rfl]
  rw [em] at hk
  show K' (.ptr s'.heap.length 0) { s' with heap := s'.heap ++ [spAt s'.heap.length l ds] }
  rw [hl, hx]
  exact hk
theorem box_loc {base : Nat} (t : Nat) (d : D) : Loc2 base ⟨false, false, true, false⟩ fun s K => aBox tb t d s K := by
  unfold aBox
  split
  · exact alloc_loc _ _
  · exact .false _ _
theorem setTake {α : Type} (l : List α) {base nm : Nat} (v : α) (h : nm < base) : (l.set nm v).take base = (l.take base).set nm v ∧ (l.set nm v).drop base = l.drop base := by
  constructor
  · rw [List.take_set]
  · rw [List.drop_set, if_pos h]
theorem setDrop {α : Type} (l : List α) {base nm : Nat} (v : α) (h : base ≤ nm) : (l.set nm v).take base = l.take base ∧ (l.set nm v).drop base = (l.drop base).set (nm - base) v := by
  constructor
  · rw [List.take_set, List.set_eq_of_length_le]; rw [List.length_take]; omega
  · rw [List.drop_set, if_neg (by omega)]
theorem store_loc {base : Nat} {hv fr : Bool} {t : Nat} {x y : Operand} {e : Operand → Option D} (hok : okP base fr (e x) = true) : Loc2 base (flags2 hv fr (.store t x y)) fun s K => bStep false P tb (.store t x y) e s K := by
  intro s K hb h
  have h0 : aOp tb (.store t x y) e s K := h
  show ∃ d s1, K d s1 ∧ _ ∧ _ ∧ _ ∧ _ ∧ ∀ (s' : S) K', _ → _ → _ → _ → _ → aOp tb (.store t x y) e s' K'
  unfold aOp at h0
  simp only at h0
  split at h0
  · rename_i a b ha hbb
    unfold aStore at h0
    split at h0
    · rename_i ti nm off cs ht hcs
      split at h0
      · rename_i ds hds
        split at h0
        rotate_left
        · exact h0.elim
        rename_i hnm
        split at h0
        · rename_i hc
          have hok' : (Nat.ble base nm == fr) = true := by rw [ha] at hok; exact hok
          have hnl : nm < s.heap.length := (List.getElem?_eq_some_iff.1 hds).1
          refine ⟨_, _, h0, by simpa using hb, fun hw => ?_, fun hn => ?_, fun _ => rfl, fun s' K' hb' e1 e2 e3 hk => ?_⟩
          · have hfr : fr = true := by simpa [flags2] using hw
            subst hfr
            have hn : base ≤ nm := Nat.le_of_ble_eq_true (by simpa using hok')
            exact (setDrop _ _ hn).1
          · have hfr : fr = false := by simpa [flags2] using hn
            subst hfr
            have hn : nm < base := by
              have : Nat.ble base nm = false := by simpa using hok'
              exact Nat.lt_of_not_le fun hle => by rw [Nat.ble_eq_true_of_le hle] at this; cases this
            exact (setTake _ _ hn).2
          · by_cases hn : base ≤ nm
            · have hfr : fr = true := by rw [Nat.ble_eq_true_of_le hn] at hok'; simpa using hok'.symm
              subst hfr
              have hg : s'.heap[nm]? = some ds := by rw [dropGet _ hn, e2 rfl, ← dropGet _ hn]; exact hds
              have em : mix base (flags2 hv true (.store t x y)) ⟨s.heap.set nm (keepSp ds (ds.take off ++ cs ++ ds.drop (off + cs.length))), s.live⟩ s' = ⟨s'.heap.set nm (keepSp ds (ds.take off ++ cs ++ ds.drop (off + cs.length))), s'.live⟩ := by
                refine S.ext2 (base := base) ?_ ?_ rfl
                · rw [mix_take (by simpa using hb) hb']
                  simp only [flags2, Bool.not_true, Bool.false_eq_true, if_false]
                  exact (setDrop _ _ hn).1.symm
                · rw [mix_drop (by simpa using hb) hb']
                  simp only [flags2, if_true]
                  rw [(setDrop _ _ hn).2, (setDrop _ _ hn).2, e2 rfl]
              rw [em] at hk
              unfold aOp aStore
              simp only [ha, hbb, ht, hcs, hg, hnm]
              rw [if_pos hc]
              exact hk
            · have hfr : fr = false := by
                have : Nat.ble base nm = false := by
                  cases hq : Nat.ble base nm
                  · rfl
                  · exact absurd (Nat.le_of_ble_eq_true hq) hn
                rw [this] at hok'; simpa using hok'.symm
              subst hfr
              have hg : s'.heap[nm]? = some ds := by rw [takeGetE (base := base) (nm := nm) _ (by omega), e1 rfl, ← takeGetE (base := base) (nm := nm) _ (by omega)]; exact hds
              have em : mix base (flags2 hv false (.store t x y)) ⟨s.heap.set nm (keepSp ds (ds.take off ++ cs ++ ds.drop (off + cs.length))), s.live⟩ s' = ⟨s'.heap.set nm (keepSp ds (ds.take off ++ cs ++ ds.drop (off + cs.length))), s'.live⟩ := by
                refine S.ext2 (base := base) ?_ ?_ rfl
                · rw [mix_take (by simpa using hb) hb']
                  simp only [flags2, Bool.not_false, if_true]
                  rw [(setTake _ _ (by omega)).1, (setTake _ _ (by omega)).1, e1 rfl]
                · rw [mix_drop (by simpa using hb) hb']
                  simp only [flags2, Bool.false_eq_true, if_false]
                  exact (setTake _ _ (by omega)).2.symm
              rw [em] at hk
              unfold aOp aStore
              simp only [ha, hbb, ht, hcs, hg, hnm]
              rw [if_pos hc]
              exact hk
        · exact h0.elim
      · exact h0.elim
    · exact h0.elim
  · exact h0.elim
theorem call_locT {base : Nat} (c : Call) (e : Operand → Option D) : Loc2 base ⟨true, false, false, true⟩ fun s K => aCallD false true base P c e s K := by
  intro s K hb h
  unfold aCallD at h ⊢
  split at h
  · split at h
    · obtain ⟨r, s', hr, hk⟩ := h
      refine ⟨r, s', hk, by rw [hr.eq]; exact hb, fun _ => by rw [hr.eq], fun _ => by rw [hr.eq], (fun h => by cases h), fun s2 K' hb2 e1 e2 e3 hk' => ⟨r, mix base ⟨true, false, false, true⟩ s' s2, ⟨?_, fun heap hl he => ?_⟩, hk'⟩⟩
      · show (if false = true then s'.heap.take base else s2.heap.take base) ++ (if false = true then s'.heap.drop base else s2.heap.drop base) = s2.heap
        simp
      · have := hr.quiet heap hl (he.trans (e1 rfl))
        rw [e3 rfl]
        exact this
    · exact h.elim
  · exact h.elim
theorem call_loc {base : Nat} {hv fr : Bool} (hf : fr = false) (c : Call) (e : Operand → Option D) : Loc2 base ⟨true, hv, hv, hv⟩ fun s K => aCallD hv fr base P c e s K := by
  subst hf
  cases hv with
  | true =>
    refine Loc2.all fun s K hb h => ?_
    unfold aCallD at h ⊢
    split at h
    · split at h
      · obtain ⟨r, s', hr, hl, hk⟩ := h
        exact ⟨r, s', hk, hl, fun K' hk' => ⟨r, s', hr, hl, hk'⟩⟩
      · exact h.elim
    · exact h.elim
  | false =>
    intro s K hb h
    unfold aCallD at h ⊢
    split at h
    · split at h
      · obtain ⟨r, s', hr, hk⟩ := h
        have := hr.eq
        subst this
        refine ⟨r, s', hk, hb, fun _ => rfl, fun _ => rfl, fun _ => rfl, fun s2 K' hb2 e1 e2 e3 hk' => ⟨r, s2, ⟨rfl, fun heap live hl he => hr.quiet heap live hl (he.trans (e1 rfl))⟩, ?_⟩⟩
        have em : mix base ⟨true, false, false, false⟩ s' s2 = s2 := by unfold mix; simp
        rw [em] at hk'
        exact hk'
      · exact h.elim
    · exact h.elim
theorem call_locF {base : Nat} (c : Call) (e : Operand → Option D) : Loc2 base ⟨false, false, true, true⟩ fun s K => aCallD true true base P c e s K := by
  intro s K hb h
  unfold aCallD at h ⊢
  split at h
  · split at h
    · obtain ⟨r, s', hr, hk⟩ := h
      refine ⟨r, s', hk, hr.len, fun _ => hr.eq, (fun h => by cases h), (fun h => by cases h), fun s2 K' hb2 e1 e2 e3 hk' => ⟨r, mix base ⟨false, false, true, true⟩ s' s2, ⟨mix_len hr.len hb2, ?_, fun heap hl he => ?_⟩, hk'⟩⟩
      · rw [mix_take hr.len hb2]; rfl
      · have := hr.ok heap hl (he.trans (e2 rfl))
        rw [mix_drop hr.len hb2, e3 rfl]
        exact this
    · exact h.elim
  · exact h.elim
theorem dStep_loc {base : Nat} {hv fr : Bool} (o : Op) (e : Operand → Option D) : Loc2 base (flags2 hv fr o) fun s K => dStep base hv fr P tb o e s K := by
  have hb0 := bStep_loc (tb := tb) (P := P) o e
  cases o with
  | call c =>
    cases hc : c.callee with
    | value f =>
      have e1 : isCall (.call c) = some c := by simp [isCall, hc]
      unfold dStep
      simp only [e1]
      cases hvf : (hv && fr) with
      | false =>
        cases hfr : fr with
        | false =>
          have e2 : flags2 hv false (.call c) = ⟨true, hv, hv, hv⟩ := by simp [flags2, hc]
          rw [e2]
          exact call_loc rfl c e
        | true =>
          have hv0 : hv = false := by rw [hfr] at hvf; simpa using hvf
          subst hv0
          have e2 : flags2 false true (.call c) = ⟨true, false, false, true⟩ := by simp [flags2, hc]
          rw [e2]
          exact call_locT c e
      | true =>
        have e2 : flags2 hv fr (.call c) = ⟨false, false, true, true⟩ := by simp only [flags2, hc, hvf, if_true]
        rw [e2]
        simp only [Bool.and_eq_true] at hvf
        rw [hvf.1, hvf.2]
        exact call_locF c e
    | invoke r m =>
      have e1 : isCall (.call c) = none := by simp [isCall, hc]
      have e2 : flags2 hv fr (.call c) = ⟨false, false, false, false⟩ := by simp [flags2, hc]
      rw [e2]
      unfold dStep
      simp only [e1, ptrOf]
      refine Loc2.pure (fun h => by cases h) ?_
      have : flags (.call c) = ⟨false, false, false⟩ := by simp [flags, hc]
      rw [this] at hb0
      exact hb0
    | builtin b =>
      have e1 : isCall (.call c) = none := by simp [isCall, hc]
      unfold dStep
      simp only [e1, ptrOf]
      by_cases hb : b = .append
      · subst hb
        have e2 : flags2 hv fr (.call c) = ⟨false, false, false, true⟩ := by simp [flags2, hc]
        have e3 : flags (.call c) = ⟨false, false, true⟩ := by simp [flags, hc]
        rw [e2]
        rw [e3] at hb0
        exact Loc2.live hb0
      · have e2 : flags2 hv fr (.call c) = ⟨false, false, false, false⟩ := by
          cases b <;> first | rfl | (exact absurd rfl hb) | simp [flags2, hc]
        have e3 : flags (.call c) = ⟨false, false, false⟩ := by
          cases b <;> first | rfl | (exact absurd rfl hb) | simp [flags, hc]
        rw [e2]
        rw [e3] at hb0
        exact Loc2.pure (fun h => by cases h) hb0
  | load t x =>
    unfold dStep
    simp only [isCall, ptrOf]
    cases hok : okP base fr (e x) with
    | true => exact load_loc hok
    | false => exact .false _ _
  | store t x y =>
    unfold dStep
    simp only [isCall, ptrOf]
    cases hok : okP base fr (e x) with
    | true => exact store_loc hok
    | false => exact .false _ _
  | alloc t =>
    show Loc2 base ⟨false, false, true, false⟩ fun s K => aAlloc tb t s K
    unfold aAlloc
    split
    · split
      · split
        · exact alloc_loc _ _
        · exact .false _ _
      · exact .false _ _
    · exact .false _ _
  | box t x =>
    show Loc2 base ⟨false, false, true, false⟩ fun s K => match e x with | some d => aBox tb t d s K | none => False
    split
    · exact box_loc _ _
    · exact .false _ _
  | _ => exact Loc2.pure (fun h => by cases h) hb0
theorem dStep_congr {base : Nat} {hv fr : Bool} (o : Op) {e e' : Operand → Option D} (h : ∀ x ∈ o.operands.toList, e x = e' x) (s : S) (K : D → S → Prop) : dStep base hv fr P tb o e s K = dStep base hv fr P tb o e' s K := by
  have hb := bStep_congr (P := P) (tb := tb) (gn := false) o h s K
  cases o with
  | call c =>
    cases hc : c.callee with
    | value f =>
      have h1 : e f = e' f := h f (by simp [Op.operands, Call.operands, hc])
      have h2 := evs_congr (e := e) (e' := e') c.args.toList fun x hx => h x (by simp [Op.operands, Call.operands, hc]; exact .inr (by simpa using hx))
      simp only [dStep, isCall, hc, aCallD, h1, h2]
    | invoke r m => simp only [dStep, isCall, hc, ptrOf, hb]
    | builtin b => simp only [dStep, isCall, hc, ptrOf, hb]
  | load t x =>
    have h1 : e x = e' x := h x (by simp [Op.operands])
    simp only [dStep, isCall, ptrOf, hb, h1]
  | store t x y =>
    have h1 : e x = e' x := h x (by simp [Op.operands])
    simp only [dStep, isCall, ptrOf, hb, h1]
  | _ => exact hb

def fl2At (hvl : List Nat) (ops : List Oper) (i : Nat) : Fl2 := match ops[i]? with | some o => (match rMk hvl i with | true => ⟨false, false, false, true⟩ | false => flags2 (hvl.contains i) (isFr2 hvl ops i) o.op) | none => ⟨false, false, false, false⟩
theorem fl2At_wr (hvl : List Nat) (ops : List Oper) (i : Nat) (h : (fl2At hvl ops i).wr = true) : (fl2At hvl ops i).rd = true := by
  unfold fl2At at h ⊢
  split
  · rename_i o ho
    rw [ho] at h
    cases hm : rMk hvl i with
    | true => rw [hm] at h; cases h
    | false => simp only [hm] at h; exact flags2_wr _ _ _ h
  · rename_i ho; rw [ho] at h; cases h
def indep2 (hvl : List Nat) (ops : List Oper) (i j : Nat) : Bool :=
  (match dstOf ops i with | some t => !(looksAt ops j).contains t | none => true) && (match dstOf ops j with | some t => !(looksAt ops i).contains t | none => true) &&
  (match dstOf ops i, dstOf ops j with | some t, some t' => !(t == t') | _, _ => true) &&
  !((fl2At hvl ops i).wr && (fl2At hvl ops j).rd) && !((fl2At hvl ops j).wr && (fl2At hvl ops i).rd) && !((fl2At hvl ops i).nu && (fl2At hvl ops j).nu) && !((fl2At hvl ops i).tk && (fl2At hvl ops j).tk)
theorem indep2_spec {hvl : List Nat} {ops : List Oper} {i j : Nat} (h : indep2 hvl ops i j = true) : (∀ t, dstOf ops i = some t → t ∉ looksAt ops j) ∧ (∀ t, dstOf ops j = some t → t ∉ looksAt ops i) ∧ (∀ t, dstOf ops i = some t → dstOf ops j ≠ some t) ∧
    ((fl2At hvl ops i).wr = true → (fl2At hvl ops j).rd = false) ∧ ((fl2At hvl ops j).wr = true → (fl2At hvl ops i).rd = false) ∧ ((fl2At hvl ops i).nu = true → (fl2At hvl ops j).nu = false) ∧ ((fl2At hvl ops i).tk = true → (fl2At hvl ops j).tk = false) := by
  unfold indep2 at h
  simp only [Bool.and_eq_true] at h
  obtain ⟨⟨⟨⟨⟨⟨h1, h2⟩, h3⟩, h4⟩, h5⟩, h6⟩, h7⟩ := h
  refine ⟨fun t ht => ?_, fun t ht => ?_, fun t ht ht' => ?_, fun e => ?_, fun e => ?_, fun e => ?_, fun e => ?_⟩
  · rw [ht] at h1; simpa using h1
  · rw [ht] at h2; simpa using h2
  · rw [ht, ht'] at h3; simp at h3
  · rw [e] at h4; simpa using h4
  · rw [e] at h5; simpa using h5
  · rw [e] at h6; simpa using h6
  · rw [e] at h7; simpa using h7
def dOne (base : Nat) (hvl : List Nat) (P : Program) (tb : Tbl) (N : Nat) (ops : List Oper) (i : Nat) (σ : St) (K : St → Prop) : Prop :=
  match ops[i]? with
  | none => K σ
  | some o => match aWant ops σ.env o.guard with
    | some true => match rMk hvl i with
      | true => rOp o.op = true ∧ xStep tb .no o.op σ fun d _ => putE N σ.env o.dst d fun env' => K ⟨env', σ.s⟩
      | false => dStep base (hvl.contains i) (isFr2 hvl ops i) P tb o.op (ev σ.env) σ.s fun d s' => splitB (isGuard ops i) d fun d => putE N σ.env o.dst d fun env' => K ⟨env', s'⟩
    | some false => putE N σ.env o.dst .undef fun env' => K ⟨env', σ.s⟩
    | none => False
def dOps (base : Nat) (hvl : List Nat) (P : Program) (tb : Tbl) (N : Nat) (ops : List Oper) : List Nat → St → (St → Prop) → Prop
  | [], σ, K => K σ
  | i :: r, σ, K => dOne base hvl P tb N ops i σ fun σ' => dOps base hvl P tb N ops r σ' K
theorem dOne_b {base : Nat} {hvl : List Nat} {N : Nat} {ops : List Oper} {i : Nat} {σ : St} {K : St → Prop} (hb : base ≤ σ.s.heap.length) (hm : rMk hvl i = false) (h : dOne base hvl P tb N ops i σ K) : bOne true P tb N ops i σ K := by
  unfold dOne at h
  unfold bOne
  split at h
  · rename_i ho; (try simp only [ho]); exact h
  · rename_i o ho
    try simp only [ho]
    split at h
    · rename_i hw
      simp only [hm] at h
      (try rw [hw])
      exact dStep_b hb h
    · rename_i hw; (try rw [hw]); exact h
    · exact h.elim
theorem dOne_sound (hT : TblOk P tb) {rd : Option Nat} {base : Nat} {hvl : List Nat} {N : Nat} {G : Gh} {σ : St} {a : Act} {w : World} (hR : Rel N G σ a w) {ops : List Oper} {i : Nat} {K : St → Prop} (hb : base ≤ σ.s.heap.length) (h : dOne base hvl P tb N ops i σ K)
    {next : Act → World → Prop} {Q : Exit → Act → World → Prop} (hn : ∀ a' w' G' σ', Stp G w G' w' → Rel N G' σ' a' w' → a'.defers = a.defers → K σ' → next a' w') : wpOpIn (FW rd) 0 P ops.toArray Q i next a w := by
  cases hm : rMk hvl i with
  | false => exact bOne_sound hT hR (dOne_b hb hm h) hn
  | true =>
    cases ho : ops[i]? with
    | none =>
      refine bOne_sound (gn := true) hT hR (K := K) ?_ hn
      unfold dOne at h
      unfold bOne
      simp only [ho] at h ⊢
      exact h
    | some o =>
      refine xOne_sound hT hR (hm := .no) (K := K) ?_ hn
      unfold dOne at h
      unfold xOne
      simp only [ho, hm] at h ⊢
      split at h
      · rename_i hw
        try simp only [hw]
        obtain ⟨d, k1, k2⟩ := xStep_rd h.1 h.2
        exact k2 σ _ (fun _ _ => rfl) rfl k1
      · rename_i hw
        try simp only [hw]
        exact h
      · exact h.elim
theorem dOne_loc {base : Nat} {hvl : List Nat} {N : Nat} {ops : List Oper} {i : Nat} {σ : St} {K : St → Prop} (hb : base ≤ σ.s.heap.length) (h : dOne base hvl P tb N ops i σ K) :
    ∃ d s1, K ⟨fset (dstOf ops i) d σ.env, s1⟩ ∧ base ≤ s1.heap.length ∧ ((fl2At hvl ops i).wr = false → s1.heap.take base = σ.s.heap.take base) ∧ ((fl2At hvl ops i).nu = false → s1.heap.drop base = σ.s.heap.drop base) ∧ ((fl2At hvl ops i).tk = false → s1.live = σ.s.live) ∧
      ∀ (τ : St) (K' : St → Prop), base ≤ τ.s.heap.length → (∀ t ∈ looksAt ops i, σ.env.lookup t = τ.env.lookup t) → ((fl2At hvl ops i).rd = true → τ.s.heap.take base = σ.s.heap.take base) → ((fl2At hvl ops i).nu = true → τ.s.heap.drop base = σ.s.heap.drop base) → ((fl2At hvl ops i).tk = true → τ.s.live = σ.s.live) →
        K' ⟨fset (dstOf ops i) d τ.env, mix base (fl2At hvl ops i) s1 τ.s⟩ → dOne base hvl P tb N ops i τ K' := by
  have self : ∀ (f : Fl2), (f.wr = true → f.rd = true) → ∀ (τ : St), base ≤ τ.s.heap.length → (f.rd = true → τ.s.heap.take base = σ.s.heap.take base) → (f.nu = true → τ.s.heap.drop base = σ.s.heap.drop base) → (f.tk = true → τ.s.live = σ.s.live) → mix base f σ.s τ.s = τ.s := fun f hw τ hb' e1 e2 e3 => by
    refine S.ext2 (base := base) ?_ ?_ ?_
    · rw [mix_take hb hb']; split
      · rename_i h; exact (e1 (hw h)).symm
      · rfl
    · rw [mix_drop hb hb']; split
      · rename_i h; exact (e2 h).symm
      · rfl
    · show (if f.tk then σ.s.live else τ.s.live) = τ.s.live
      split
      · rename_i h; exact (e3 h).symm
      · rfl
  unfold dOne at h ⊢
  cases ho : ops[i]? with
  | none =>
    simp only [ho] at h
    refine ⟨.undef, σ.s, ?_, hb, fun _ => rfl, fun _ => rfl, fun _ => rfl, fun τ K' hb' _ e1 e2 e3 hk => ?_⟩
    · simp only [dstOf, ho, Option.bind_none, fset]; exact h
    · rw [self _ (fl2At_wr hvl ops i) τ hb' e1 e2 e3] at hk
      simp only [dstOf, ho, Option.bind_none, fset] at hk ⊢; exact hk
  | some o =>
    have hd : dstOf ops i = o.dst := by simp [dstOf, ho]
    have hl : looksAt ops i = looks ops o := by simp [looksAt, ho]
    simp only [ho] at h ⊢
    cases hm : rMk hvl i with
    | true =>
      have hf : fl2At hvl ops i = ⟨false, false, false, true⟩ := by simp [fl2At, ho, hm]
      simp only [hm] at h ⊢
      rw [hd, hf, hl]
      split at h
      · rename_i hw
        obtain ⟨hr, hx⟩ := h
        obtain ⟨d, k, hk⟩ := xStep_rd hr hx
        obtain ⟨p1, p2⟩ := putE_iff.1 k
        refine ⟨d, σ.s, p2, hb, fun _ => rfl, fun _ => rfl, fun _ => rfl, fun τ K' hb' e1 e2 e2' e3 hk' => ?_⟩
        rw [self _ (fun h => by cases h) τ hb' e2 e2' e3] at hk'
        rw [← aWant_congr e1, hw]
        exact ⟨hr, hk τ _ (ev_congr e1) (e3 rfl) (putE_iff.2 ⟨p1, hk'⟩)⟩
      · rename_i hw
        obtain ⟨p1, p2⟩ := putE_iff.1 h
        refine ⟨.undef, σ.s, p2, hb, fun _ => rfl, fun _ => rfl, fun _ => rfl, fun τ K' hb' e1 e2 e2' e3 hk' => ?_⟩
        rw [← aWant_congr e1, hw]
        refine putE_iff.2 ⟨p1, ?_⟩
        rw [self _ (fun h => by cases h) τ hb' e2 e2' e3] at hk'
        exact hk'
      · exact h.elim
    | false =>
    have hf : fl2At hvl ops i = flags2 (hvl.contains i) (isFr2 hvl ops i) o.op := by simp [fl2At, ho, hm]
    simp only [hm] at h ⊢
    rw [hd, hf, hl]
    split at h
    · rename_i hw
      obtain ⟨d, s1, hk, h0, h1, h2, h2', h3⟩ := dStep_loc (tb := tb) (P := P) o.op (ev σ.env) σ.s _ hb h
      obtain ⟨k1, k2⟩ := splitB_det hk
      obtain ⟨p1, p2⟩ := putE_iff.1 k1
      refine ⟨d, s1, p2, h0, h1, h2, h2', fun τ K' hb' e1 e2 e2' e3 hk' => ?_⟩
      rw [← aWant_congr e1, hw]
      simp only
      rw [dStep_congr o.op fun x hx => (ev_congr e1 x hx).symm]
      exact h3 τ.s _ hb' e2 e2' e3 (k2 _ (putE_iff.2 ⟨p1, hk'⟩))
    · rename_i hw
      obtain ⟨p1, p2⟩ := putE_iff.1 h
      refine ⟨.undef, σ.s, p2, hb, fun _ => rfl, fun _ => rfl, fun _ => rfl, fun τ K' hb' e1 e2 e2' e3 hk' => ?_⟩
      rw [← aWant_congr e1, hw]
      refine putE_iff.2 ⟨p1, ?_⟩
      rw [self _ (flags2_wr _ _ _) τ hb' e2 e2' e3] at hk'
      exact hk'
    · exact h.elim
theorem dOne_mono {base : Nat} {hvl : List Nat} {N : Nat} {ops : List Oper} {i : Nat} {σ : St} {K K' : St → Prop} (hb : base ≤ σ.s.heap.length) (hK : ∀ τ, base ≤ τ.s.heap.length → K τ → K' τ) (h : dOne base hvl P tb N ops i σ K) : dOne base hvl P tb N ops i σ K' := by
  obtain ⟨d, s1, k, h0, h1, h2, h2', h3⟩ := dOne_loc hb h
  refine h3 σ K' hb (fun _ _ => rfl) (fun _ => rfl) (fun _ => rfl) (fun _ => rfl) ?_
  have e : mix base (fl2At hvl ops i) s1 σ.s = s1 := by
    refine S.ext2 (base := base) ?_ ?_ ?_
    · rw [mix_take h0 hb]; split
      · rfl
      · rename_i hw; exact (h1 (by simpa using hw)).symm
    · rw [mix_drop h0 hb]; split
      · rfl
      · rename_i hw; exact (h2 (by simpa using hw)).symm
    · show (if (fl2At hvl ops i).tk then s1.live else σ.s.live) = s1.live
      split
      · rfl
      · rename_i hw; exact (h2' (by simpa using hw)).symm
  rw [e]; exact hK _ h0 k
theorem dOne_eqv {base : Nat} {hvl : List Nat} {N : Nat} {ops : List Oper} {i : Nat} {σ τ : St} {K : St → Prop} (hb : base ≤ σ.s.heap.length) (hK : Closed K) (he : Eqv σ τ) (h : dOne base hvl P tb N ops i σ K) : dOne base hvl P tb N ops i τ K := by
  obtain ⟨d, s1, k, h0, h1, h2, h2', h3⟩ := dOne_loc hb h
  have hb' : base ≤ τ.s.heap.length := by rw [← he.2]; exact hb
  refine h3 τ K hb' (fun t _ => he.1 t) (fun _ => by rw [he.2]) (fun _ => by rw [he.2]) (fun _ => by rw [he.2]) (hK _ _ ⟨fun t => ?_, ?_⟩ k)
  · simp only [fset_look]; rw [he.1 t]
  · refine S.ext2 (base := base) ?_ ?_ ?_
    · rw [mix_take h0 hb']; split
      · rfl
      · rename_i hw; rw [h1 (by simpa using hw), he.2]
    · rw [mix_drop h0 hb']; split
      · rfl
      · rename_i hw; rw [h2 (by simpa using hw), he.2]
    · show s1.live = if (fl2At hvl ops i).tk then s1.live else τ.s.live
      split
      · rfl
      · rename_i hw; rw [h2' (by simpa using hw), he.2]
/-- As Closed, where the region's base stands. -/
def ClosedB (base : Nat) (K : St → Prop) : Prop := ∀ σ τ, base ≤ σ.s.heap.length → Eqv σ τ → K σ → K τ
theorem dOps_eqv {base : Nat} {hvl : List Nat} {N : Nat} {ops : List Oper} {K : St → Prop} (hK : Closed K) : ∀ l : List Nat, ClosedB base fun σ => dOps base hvl P tb N ops l σ K
  | [], σ, τ, _, he, h => hK σ τ he h
  | i :: r, σ, τ, hb, he, h => by
    have h1 : dOne base hvl P tb N ops i σ fun σ' => dOps base hvl P tb N ops r σ' K := h
    have h2 : dOne base hvl P tb N ops i σ fun σ' => ∃ υ, Eqv υ σ' ∧ base ≤ υ.s.heap.length ∧ dOps base hvl P tb N ops r υ K := dOne_mono hb (fun υ hu hk => ⟨υ, .refl υ, hu, hk⟩) h1
    have h3 := dOne_eqv hb (fun a b hab ⟨υ, k1, k2, k3⟩ => ⟨υ, k1.trans hab, k2, k3⟩) he h2
    exact dOne_mono (by rw [← he.2]; exact hb) (fun υ _ ⟨φ, k1, k2, k3⟩ => dOps_eqv hK r φ υ k2 k1 k3) h3
theorem dOne_swap {base : Nat} {hvl : List Nat} {N : Nat} {ops : List Oper} {i j : Nat} (hi : indep2 hvl ops i j = true) {σ : St} {K : St → Prop} (hb : base ≤ σ.s.heap.length) (hK : ClosedB base K) (h : dOne base hvl P tb N ops i σ fun σ1 => dOne base hvl P tb N ops j σ1 K) :
    dOne base hvl P tb N ops j σ fun σ1 => dOne base hvl P tb N ops i σ1 K := by
  obtain ⟨p1, p2, p3, p4, p5, p6, p7⟩ := indep2_spec hi
  obtain ⟨d, s1, k, h0, h1, h2, h2', h3⟩ := dOne_loc hb h
  obtain ⟨d', s2, k', h0', h1', hn', h2'', h3'⟩ := dOne_loc (σ := ⟨fset (dstOf ops i) d σ.env, s1⟩) h0 k
  have flip : ∀ {a b : Bool}, (a = true → b = false) → b = true → a = false := fun {a b} f hb => by
    cases a
    · rfl
    · rw [f rfl] at hb; cases hb
  refine h3' σ _ hb (fun t ht => ?_) (fun hr => ?_) (fun hr => ?_) (fun ht => ?_) ?_
  · rw [fset_look, if_neg fun e => p1 t e ht]
  · exact (h1 (flip p4 hr)).symm
  · exact (h2 (flip p6 hr)).symm
  · exact (h2' (flip p7 ht)).symm
  have hm2 := mix_len (f := fl2At hvl ops j) h0' hb
  refine h3 _ K hm2 (fun t ht => ?_) (fun hr => ?_) (fun hr => ?_) (fun ht => ?_) ?_
  · rw [fset_look, if_neg fun e => p2 t e ht]
  · rw [mix_take h0' hb, flip p5 hr]; rfl
  · rw [mix_drop h0' hb, p6 hr]; rfl
  · show (if (fl2At hvl ops j).tk then s2.live else σ.s.live) = σ.s.live
    rw [p7 ht]; rfl
  refine hK _ _ h0' ⟨fun t => ?_, S.ext2 (base := base) ?_ ?_ ?_⟩ k'
  · simp only [fset_look]
    by_cases e1 : dstOf ops j = some t
    · have e2 : dstOf ops i ≠ some t := fun e => p3 t e e1
      rw [if_pos e1, if_neg e2, if_pos e1]
    · rw [if_neg e1, if_neg e1]
  · rw [mix_take h0 hm2, mix_take h0' hb]
    cases hwi : (fl2At hvl ops i).wr
    · simp only [Bool.false_eq_true, if_false]
      cases hwj : (fl2At hvl ops j).wr
      · simp only [Bool.false_eq_true, if_false]; rw [h1' hwj]; exact h1 hwi
      · simp only [if_true]
    · simp only [if_true]
      have hwj : (fl2At hvl ops j).wr = false := by
        cases hw : (fl2At hvl ops j).wr
        · rfl
        · have := fl2At_wr hvl ops j hw; rw [p4 hwi] at this; cases this
      exact h1' hwj
  · rw [mix_drop h0 hm2, mix_drop h0' hb]
    cases hwi : (fl2At hvl ops i).nu
    · simp only [Bool.false_eq_true, if_false]
      cases hwj : (fl2At hvl ops j).nu
      · simp only [Bool.false_eq_true, if_false]; rw [hn' hwj]; exact h2 hwi
      · simp only [if_true]
    · simp only [if_true]
      exact hn' (p6 hwi)
  · show s2.live = if (fl2At hvl ops i).tk then s1.live else if (fl2At hvl ops j).tk then s2.live else σ.s.live
    cases hwi : (fl2At hvl ops i).tk
    · cases hwj : (fl2At hvl ops j).tk
      · rw [h2'' hwj]; exact h2' hwi
      · rfl
    · exact h2'' (p7 hwi)
theorem dOps_front {base : Nat} {hvl : List Nat} {N : Nat} {ops : List Oper} {x : Nat} {B : List Nat} {K : St → Prop} (hK : Closed K) : ∀ (A : List Nat) (σ : St), base ≤ σ.s.heap.length → (∀ a ∈ A, indep2 hvl ops a x = true) → dOps base hvl P tb N ops (A ++ x :: B) σ K → dOne base hvl P tb N ops x σ fun σ1 => dOps base hvl P tb N ops (A ++ B) σ1 K
  | [], σ, _, _, h => h
  | a :: A, σ, hb, hA, h => by
    have h1 : dOne base hvl P tb N ops a σ fun σ1 => dOne base hvl P tb N ops x σ1 fun σ2 => dOps base hvl P tb N ops (A ++ B) σ2 K :=
      dOne_mono hb (fun τ hb' hτ => dOps_front hK A τ hb' (fun b hb => hA b (by simp [hb])) hτ) h
    exact dOne_swap (hA a (by simp)) hb (dOps_eqv hK (A ++ B)) h1
/-- Every two operations are in order, or apart. -/
def lexOk2 (hvl : List Nat) (ops : List Oper) : Bool :=
  let an := ancsGo ops []
  (List.range ops.length).all fun i => match ops[i]? with
    | some o => o.after.toList.all (fun e => !Region.binds .any e || decide (e.on < i)) && (List.range i).all fun a => (an.getD i []).contains a || indep2 hvl ops a i
    | none => true
theorem lexOk2_spec {hvl : List Nat} {ops : List Oper} (h : lexOk2 hvl ops = true) {i : Nat} {o : Oper} (ho : ops[i]? = some o) : (∀ e ∈ o.after, Region.binds .any e = true → e.on < i) ∧
    ∀ a, a < i → Reach ops a i ∨ indep2 hvl ops a i = true := by
  unfold lexOk2 at h
  rw [List.all_eq_true] at h
  have := h i (List.mem_range.2 (List.getElem?_eq_some_iff.1 ho).1)
  simp only [ho, Bool.and_eq_true, List.all_eq_true, Bool.or_eq_true, List.mem_range, List.contains_iff_mem] at this
  obtain ⟨h1, h2⟩ := this
  refine ⟨fun e he hb => ?_, fun a ha => ?_⟩
  · have := h1 e (by simpa using he)
    simpa [hb] using this
  · rcases h2 a ha with h | h
    · cases hq : (ancsGo ops [])[i]? with
      | none => simp [List.getD, hq] at h
      | some l =>
        simp [List.getD, hq] at h
        exact .inl (ancsGo_spec ops [] [] rfl rfl (fun i l a h => by simp at h) i l a hq h)
    · exact .inr h
theorem dny_sound (hT : TblOk P tb) {rd : Option Nat} {base : Nat} {hvl : List Nat} {N : Nat} {ops : List Oper} (hl : lexOk2 hvl ops = true) {Q : Exit → Act → World → Prop} {K : St → Prop} (hK : Closed K) {B : Nat × Nat} {G0 : Gh} {w0 : World} {ds : List Deferred} (hQ : ∀ a w G σ, Ex B G0 w0 G w → Rel N G σ a w → a.defers = ds → K σ → Q .normal a w) :
    ∀ (fuel : Nat) (listed : Array Bool) (σ : St) (a : Act) (w : World) (G : Gh), listed.size = ops.length → Down ops listed → ((List.range ops.length).filter fun i => !listed.getD i true).length = fuel → Ex B G0 w0 G w → Rel N G σ a w → a.defers = ds → base ≤ σ.s.heap.length →
      dOps base hvl P tb N ops ((List.range ops.length).filter fun i => !listed.getD i true) σ K → wpAnyIn (FW rd) 0 P .any ops.toArray Q fuel listed a w
  | 0, listed, σ, a, w, G, hs, hdn, hf, hE, hR, hd, hbs, h => by
    have hnil := List.eq_nil_of_length_eq_zero hf
    rw [hnil] at h
    refine ⟨?_, hQ a w G σ hE hR hd h⟩
    apply List.eq_nil_iff_forall_not_mem.2
    intro i hi
    obtain ⟨h1, o, ho, -⟩ := mem_ready.1 hi
    have : i ∈ (List.range ops.length).filter fun i => !listed.getD i true := by
      rw [List.mem_filter, List.mem_range]
      exact ⟨by have := (Array.getElem?_eq_some_iff.1 ho).1; simpa using this, by rw [h1]; rfl⟩
    rw [hnil] at this
    cases this
  | fuel + 1, listed, σ, a, w, G, hs, hdn, hf, hE, hR, hd, hbs, h => by
    refine ⟨fun hr => ?_, fun i hi => ?_⟩
    · exfalso
      generalize hL : ((List.range ops.length).filter fun i => !listed.getD i true) = L at hf
      cases L with
      | nil => simp at hf
      | cons x r =>
        have hx : x ∈ (List.range ops.length).filter fun i => !listed.getD i true := by rw [hL]; simp
        rw [List.mem_filter, List.mem_range] at hx
        obtain ⟨hx1, hx2⟩ := hx
        have ho : ops[x]? = some ops[x] := List.getElem?_eq_getElem hx1
        have hmem : x ∈ Region.ready .any ops.toArray listed := by
          refine mem_ready.2 ⟨by simpa using hx2, ops[x], by simp, fun e he hb => ?_⟩
          have hlt := (lexOk2_spec hl ho).1 e he hb
          cases hg : listed.getD e.on false
          · exfalso
            have hmm : e.on ∈ (List.range ops.length).filter fun i => !listed.getD i true := by
              rw [List.mem_filter, List.mem_range]
              refine ⟨by omega, ?_⟩
              have hlt2 : e.on < listed.size := by omega
              simp only [Array.getD_eq_getD_getElem?, Array.getElem?_eq_getElem hlt2, Option.getD_some] at hg ⊢
              simp [hg]
            have hsorted : ((List.range ops.length).filter fun i => !listed.getD i true).Pairwise (· < ·) := List.Pairwise.filter _ List.pairwise_lt_range
            rw [hL] at hmm hsorted
            rcases List.mem_cons.1 hmm with h0 | h0
            · omega
            · have := List.rel_of_pairwise_cons hsorted h0; omega
          · rfl
        rw [hr] at hmem
        cases hmem
    · obtain ⟨h1, o, ho, hp⟩ := mem_ready.1 hi
      have ho' : ops[i]? = some o := by simpa using ho
      have hil : i < ops.length := (List.getElem?_eq_some_iff.1 ho').1
      have him : i ∈ (List.range ops.length).filter fun i => !listed.getD i true := by
        rw [List.mem_filter, List.mem_range]; exact ⟨hil, by rw [h1]; rfl⟩
      have hsorted : ((List.range ops.length).filter fun i => !listed.getD i true).Pairwise (· < ·) := List.Pairwise.filter _ List.pairwise_lt_range
      obtain ⟨A, B, hAB⟩ := List.append_of_mem him
      have hA : ∀ x ∈ A, x < i ∧ listed.getD x true = false := fun x hx => by
        refine ⟨?_, ?_⟩
        · rw [hAB] at hsorted
          exact (List.pairwise_append.1 hsorted).2.2 x hx i (by simp)
        · have : x ∈ (List.range ops.length).filter fun i => !listed.getD i true := by rw [hAB]; simp [hx]
          rw [List.mem_filter] at this
          simpa using this.2
      rw [hAB] at h
      have hfront := dOps_front hK A σ hbs (fun x hx => by
        obtain ⟨hx1, hx2⟩ := hA x hx
        rcases (lexOk2_spec hl ho').2 x hx1 with hre | h0
        · have := hdn.reach hs hre fun o2 ho2 e he hb => by
            rw [ho'] at ho2
            cases ho2
            exact hp e he hb
          have hlt2 : x < listed.size := by omega
          simp only [Array.getD_eq_getD_getElem?, Array.getElem?_eq_getElem hlt2, Option.getD_some] at this hx2
          rw [this] at hx2; cases hx2
        · exact h0) h
      have hnew : ((List.range ops.length).filter fun k => !(listed.setIfInBounds i true).getD k true) = A ++ B := by
        have e1 : ((List.range ops.length).filter fun k => !(listed.setIfInBounds i true).getD k true) = ((List.range ops.length).filter fun k => !listed.getD k true).filter fun k => k != i := by
          rw [List.filter_filter]
          apply List.filter_congr
          intro k hk
          by_cases hki : k = i
          · subst hki
            have hks : k < listed.size := by omega
            simp [Array.getD_eq_getD_getElem?, hks]
          · rw [getD_set_ne true (fun e => hki e.symm)]
            simp [hki]
        rw [e1, hAB]
        have hnd : (A ++ i :: B).Nodup := by
          rw [← hAB]; exact List.Pairwise.filter _ List.nodup_range
        rw [List.nodup_append] at hnd
        obtain ⟨n1, n2, n3⟩ := hnd
        rw [List.nodup_cons] at n2
        rw [List.filter_append, List.filter_cons]
        simp only [bne_self_eq_false, Bool.false_eq_true, if_false]
        congr 1
        · exact List.filter_eq_self.2 fun x hx => by
            have := n3 x hx i (by simp)
            simpa using this
        · exact List.filter_eq_self.2 fun x hx => by
            have : x ≠ i := fun e => n2.1 (e ▸ hx)
            simpa using this
      refine dOne_sound hT hR hbs ((dOne_mono hbs (K' := fun τ => base ≤ τ.s.heap.length ∧ dOps base hvl P tb N ops (A ++ B) τ K) (fun τ h1 h2 => ⟨h1, h2⟩) hfront)) fun a' w' G' σ' s1 r1 d1 k1 => ?_
      have hdn' : Down ops (listed.setIfInBounds i true) := fun k o2 ho2 hk e he hb => by
        refine getD_set_true ?_
        by_cases hki : k = i
        · subst hki
          rw [ho'] at ho2
          cases ho2
          exact hp e he hb
        · rw [getD_set_ne true (fun e => hki e.symm)] at hk
          exact hdn k o2 ho2 hk e he hb
      refine dny_sound hT hl hK hQ fuel _ σ' a' w' G' (by simp [hs]) hdn' ?_ (hE.trans (s1.ex _)) r1 (d1.trans hd) k1.1 ?_
      · rw [hnew]
        rw [hAB] at hf
        simp at hf ⊢; omega
      · rw [hnew]; exact k1.2
theorem CallOK.fd {base : Nat} {f : FuncId} {args : List D} {hs hs' : List (List D)} {r : D} {lv' : List Nat} (k : CallOK P f args ⟨hs, []⟩ r ⟨hs', lv'⟩) (e : hs' = hs) (e2 : lv' = []) (I : List Nat) {H : List (List D)} {L : List Nat} (c : frameOk I [] base 0 args hs hs' lv' r = true)
    (eH : I.map (H.getD · []) = hs.map fun cs => cs.map (D.ren I [])) : CallD base P f (args.map (D.ren I [])) ⟨H, L⟩ (r.ren I []) ⟨H, L⟩ := by
  subst e; subst e2
  refine ⟨rfl, fun heap live hb he => ?_⟩
  unfold frameOk at c
  simp only [Bool.and_eq_true] at c
  obtain ⟨⟨⟨⟨⟨⟨⟨⟨⟨c1, c2⟩, c3⟩, c4⟩, c5⟩, c6⟩, c7⟩, c8⟩, c9⟩, c10⟩ := c
  have hlt := all_blt c3
  have nI := nodupB_spec I c1
  have eq : ∀ i ∈ I, heap[i]? = H[i]? := fun i hi => by rw [takeGetE _ (hlt i hi), he, ← takeGetE _ (hlt i hi)]
  have eH' : I.map (heap.getD · []) = hs'.map fun cs => cs.map (D.ren I []) := by
    rw [← eH]
    refine List.map_congr_left fun i hi => ?_
    simp only [List.getD, eq i hi]
  have hlen : hs'.length = I.length := by simpa using c5
  have := k.frame I [] (H := heap) (L := live) nI List.nodup_nil (fun i hi => Nat.lt_of_lt_of_le (hlt i hi) hb) (fun j hj => by cases hj) eH' rfl hlen (Nat.le_refl _) c7 c8 c9 c10
  have em : moreJ [] live.length ([] : List Nat).length = [] := rfl
  rw [em] at this
  have el : updL live [] ([] : List Nat) ++ ([] : List Nat).drop ([] : List Nat).length = live := by simp [updL]
  rw [el] at this
  rw [updL_same I _ heap nI fun k i n hk hn => ?_] at this
  · exact this
  · have hi : i < heap.length := Nat.lt_of_lt_of_le (hlt i (List.mem_of_getElem? hk)) hb
    have g := congrArg (·[k]?) eH'
    simp only [List.getElem?_map, hk, Option.map_some] at g
    rw [List.getElem?_map] at hn
    rw [hn] at g
    rw [getSome hi []]
    exact g
theorem CallOK.ft {base : Nat} {f : FuncId} {args : List D} {hs hs' : List (List D)} {r : D} {lv' : List Nat} (k : CallOK P f args ⟨hs, []⟩ r ⟨hs', lv'⟩) (e : hs' = hs) (I : List Nat) {H : List (List D)} {L : List Nat} (c : frameOk I [] base L.length args hs hs' lv' r = true)
    (eH : I.map (H.getD · []) = hs.map fun cs => cs.map (D.ren I [])) (eH2 : I.map (H.getD · []) = hs.map fun cs => cs.map (D.ren I (moreJ [] L.length lv'.length))) : CallT base P f (args.map (D.ren I [])) ⟨H, L⟩ (r.ren I (moreJ [] L.length lv'.length)) ⟨H, L ++ lv'⟩ := by
  subst e
  refine ⟨rfl, fun heap hb he => ?_⟩
  unfold frameOk at c
  simp only [Bool.and_eq_true] at c
  obtain ⟨⟨⟨⟨⟨⟨⟨⟨⟨c1, c2⟩, c3⟩, c4⟩, c5⟩, c6⟩, c7⟩, c8⟩, c9⟩, c10⟩ := c
  have hlt := all_blt c3
  have nI := nodupB_spec I c1
  have eq : ∀ i ∈ I, heap[i]? = H[i]? := fun i hi => by rw [takeGetE _ (hlt i hi), he, ← takeGetE _ (hlt i hi)]
  have eg : I.map (heap.getD · []) = I.map (H.getD · []) := List.map_congr_left fun i hi => by simp only [List.getD, eq i hi]
  have hlen : hs'.length = I.length := by simpa using c5
  have := k.frame I [] (H := heap) (L := L) nI List.nodup_nil (fun i hi => Nat.lt_of_lt_of_le (hlt i hi) hb) (fun j hj => by cases hj) (eg.trans eH) rfl hlen (Nat.le_of_ble_eq_true c6) c7 c8 c9 c10
  have el : updL L [] lv' ++ lv'.drop ([] : List Nat).length = L ++ lv' := by cases lv' <;> rfl
  rw [el] at this
  rw [updL_same I _ heap nI fun k i n hk hn => ?_] at this
  · exact this
  · have hi : i < heap.length := Nat.lt_of_lt_of_le (hlt i (List.mem_of_getElem? hk)) hb
    have g := congrArg (·[k]?) (eg.trans eH2)
    simp only [List.getElem?_map, hk, Option.map_some] at g
    rw [List.getElem?_map] at hn
    rw [hn] at g
    rw [getSome hi []]
    exact g
theorem PCall.d {base : Nat} {f : FuncId} {xs : List V} {r : D} {s : S} (h : PCall P f xs r) : CallD base P f (xs.map .p) s r s := ⟨rfl, fun _ _ _ _ => h.ok _⟩
end
end Go.Proofs.YtagokkpnfceidaaDoor
end
