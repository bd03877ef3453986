/- Part 9 of the proof's ground: What windows tell, row by row, in plain Lean. -/
import Derived.Test.YtfalonfjpihgeaaTide8

/- What windows tell, row by row, in plain Lean. -/
set_option linter.unusedVariables false
namespace Go.Tide

/-- Who goes along a part. -/
structure Tel where
  row : Int
  rank : Int
  dense : Int
  sums : List Int
  some : List Bool
  ahead : Option Line

/-- What one window tells, and what is kept for it: value, sum, whether there is some. -/
def winOne (row rank dense : Int) (ahead : Option Line) (l : Line) (w : Agg) (s : Int) (b : Bool) : Val × Int × Bool :=
  if w.kind = 1 then (Val.ofInt row, s, b) else if w.kind = 2 then (Val.ofInt rank, s, b) else if w.kind = 3 then (Val.ofInt dense, s, b)
  else if w.kind = 5 then ((match ahead with | some a => w.x.eval a.row | none => .null), s, b)
  else
    if (w.x.eval l.row).kind = 3 then (Val.ofInt (IntKind.wrap .i64 (s + (w.x.eval l.row).n)), IntKind.wrap .i64 (s + (w.x.eval l.row).n), true)
    else (if b = true then Val.ofInt s else .null, s, b)

def winAll (row rank dense : Int) (ahead : Option Line) (l : Line) : List Agg → List Int → List Bool → List (Val × Int × Bool)
  | w :: ws, s :: ss, b :: bs => winOne row rank dense ahead l w s b :: winAll row rank dense ahead l ws ss bs
  | _, _, _ => []

def telNew (t : Tel) (l : Line) : Bool := match t.ahead with | none => true | some a => rowCmp a.key l.key != 0

def telRow (t : Tel) : Int := IntKind.wrap .i64 (t.row + 1)
def telRank (t : Tel) (l : Line) : Int := if telNew t l = true then telRow t else t.rank
def telDense (t : Tel) (l : Line) : Int := if telNew t l = true then IntKind.wrap .i64 (t.dense + 1) else t.dense

def telOuts (t : Tel) (ws : List Agg) (l : Line) : List (Val × Int × Bool) := winAll (telRow t) (telRank t l) (telDense t l) t.ahead l ws t.sums t.some

/-- What stands behind a row's telling. -/
def telNext (t : Tel) (ws : List Agg) (l : Line) : Tel :=
  ⟨telRow t, telRank t l, telDense t l, (telOuts t ws l).map (·.2.1), (telOuts t ws l).map (·.2.2), some l⟩

def telTells (t : Tel) (ws : List Agg) (l : Line) : Row := l.row ++ (telOuts t ws l).map (·.1)

theorem winAll_len (row rank dense : Int) (ahead : Option Line) (l : Line) : ∀ (ws : List Agg) (ss : List Int) (bs : List Bool), ss.length = ws.length → bs.length = ws.length → (winAll row rank dense ahead l ws ss bs).length = ws.length
  | [], _, _, _, _ => by simp [winAll]
  | w :: ws, s :: ss, b :: bs, h1, h2 => by
    rw [winAll, List.length_cons, List.length_cons, winAll_len row rank dense ahead l ws ss bs (by simpa using h1) (by simpa using h2)]
  | w :: ws, [], _, h1, _ => by simp at h1
  | w :: ws, s :: ss, [], _, h2 => by simp at h2

theorem winAll_le (row rank dense : Int) (ahead : Option Line) (l : Line) : ∀ (ws : List Agg) (ss : List Int) (bs : List Bool), (winAll row rank dense ahead l ws ss bs).length ≤ ws.length
  | [], _, _ => by simp [winAll]
  | w :: ws, s :: ss, b :: bs => by
    rw [winAll, List.length_cons, List.length_cons]
    have := winAll_le row rank dense ahead l ws ss bs
    omega
  | w :: ws, [], _ => by simp [winAll]
  | w :: ws, s :: ss, [] => by simp [winAll]

theorem winAll_get (row rank dense : Int) (ahead : Option Line) (l : Line) : ∀ (ws : List Agg) (ss : List Int) (bs : List Bool) (i : Nat) (w : Agg) (s : Int) (b : Bool), ws[i]? = some w → ss[i]? = some s → bs[i]? = some b → (winAll row rank dense ahead l ws ss bs)[i]? = some (winOne row rank dense ahead l w s b)
  | w :: ws, s :: ss, b :: bs, 0, _, _, _, h1, h2, h3 => by
    simp at h1 h2 h3
    subst h1; subst h2; subst h3
    simp [winAll]
  | w :: ws, s :: ss, b :: bs, i + 1, _, _, _, h1, h2, h3 => by
    rw [winAll, List.getElem?_cons_succ]
    exact winAll_get row rank dense ahead l ws ss bs i _ _ _ (by simpa using h1) (by simpa using h2) (by simpa using h3)
  | [], _, _, _, _, _, _, h1, _, _ => by simp at h1
  | w :: ws, [], _, _, _, _, _, _, h2, _ => by simp at h2
  | w :: ws, s :: ss, [], _, _, _, _, _, _, h3 => by simp at h3

/-! ### the whole -/

def mkLine (part order : List Expr) (r : ZRow) : Line := ⟨valuesOf part r.row, valuesOf order r.row, r.row⟩
def linesOf (part order : List Expr) (z : ZSet) : List Line := z.flatMap fun r => List.replicate (posW r.w).toNat (mkLine part order r)

def cmpLn (a b : Line) : Int := if rowCmp a.part b.part ≠ 0 then rowCmp a.part b.part else rowCmp a.key b.key
def ltLn (a b : Line) : Bool := decide (cmpLn a b < 0)
theorem cmpLn_ordr : Ordr cmpLn (fun a => (rowBare a.part, rowBare a.key)) := (rowCmp_ordr.comap Line.part).lex (rowCmp_ordr.comap Line.key)
theorem ltLn_sw : SW ltLn := cmpLn_ordr.sw

def telInit (n : Nat) : Tel := ⟨0, 0, 0, List.replicate n 0, List.replicate n false, none⟩

def telAt (n : Nat) (p : Option Line) (t : Tel) (l : Line) : Tel := if (match p with | none => true | some q => rowCmp q.part l.part != 0) = true then telInit n else t

def tellsGo (ws : List Agg) : Option Line → Tel → List Line → ZSet
  | _, _, [] => []
  | p, t, l :: r => ⟨telTells (telAt ws.length p t l) ws l, 1⟩ :: tellsGo ws (some l) (telNext (telAt ws.length p t l) ws l) r

theorem tellsGo_len {ws : List Agg} : ∀ {L : List Line} {p : Option Line} {t : Tel}, (∀ l ∈ L, l.row.length ≤ 8) → ∀ z ∈ tellsGo ws p t L, z.row.length ≤ 8 + ws.length
  | [], _, _, _, z, hz => by cases hz
  | l :: r, p, t, h, z, hz => by
    rw [tellsGo] at hz
    rcases List.mem_cons.1 hz with rfl | hz
    · have h1 := h l (by simp)
      have h2 := winAll_le (telRow (telAt ws.length p t l)) (telRank (telAt ws.length p t l) l) (telDense (telAt ws.length p t l) l) (telAt ws.length p t l).ahead l ws (telAt ws.length p t l).sums (telAt ws.length p t l).some
      dsimp only [telTells, telOuts]
      rw [List.length_append, List.length_map]
      omega
    · exact tellsGo_len (fun l hl => h l (List.mem_cons_of_mem _ hl)) z hz

def windowZ (cols : List Int) (part order : List Expr) (ws : List Agg) (z : ZSet) : ZSet × Int :=
  if 8 < cols.length + ws.length then ([], 5) else if (opsTypes cols part).2 ≠ 0 then ([], (opsTypes cols part).2) else if (opsTypes cols order).2 ≠ 0 then ([], (opsTypes cols order).2)
  else if (winTypes cols ws).2 ≠ 0 then ([], (winTypes cols ws).2) else if opsInput cols z ≠ 0 then ([], opsInput cols z)
  else if 400 < (linesOf part order z).length then ([], 5) else zSum (tellsGo ws none (telInit ws.length) (isort ltLn (linesOf part order z)))

/-! ### what is right once types were told -/

theorem typ_ok (cols : List Int) : ∀ (x : Expr) (n d : Int), (typ cols x n d).2.2 = 0 → x.Ok := by
  intro x
  induction x using Expr.rec (motive_2 := fun l => ∀ n d : Int, (typs cols l n d).2.2 = 0 → ∀ y ∈ l, Expr.Ok y) with
  | mk k v c l ih =>
    intro n d h
    rw [typ] at h
    by_cases g1 : 200 < n + 1 ∨ 20 < d
    · rw [if_pos g1] at h; cases h
    · rw [if_neg g1] at h
      by_cases g2 : kidsN k < 0
      · rw [if_pos g2] at h; cases h
      · rw [if_neg g2] at h
        by_cases g3 : (l.length : Int) ≠ kidsN k
        · rw [if_pos g3] at h; cases h
        · rw [if_neg g3] at h
          dsimp only at h
          by_cases g4 : (typs cols l (n + 1) (d + 1)).2.2 ≠ 0
          · rw [if_pos g4] at h; exact absurd h g4
          · rw [if_neg g4] at h
            refine .mk k v c l (by simpa using g3) (fun hk => ?_) (fun hk => ?_) (ih _ _ (by simpa using g4))
            · subst hk; simp [nodeT] at h; exact h
            · subst hk
              simp only [nodeT, Int.reduceEq, if_false, if_true] at h
              by_cases g5 : c < 0 ∨ (cols.length : Int) ≤ c
              · rw [if_pos g5] at h; cases h
              · omega
  | nil => rename_i hy; cases hy
  | cons x r ihx ihr =>
    rename_i n d h y hy
    rw [typs] at h
    dsimp only at h
    by_cases g1 : (typ cols x n d).2.2 ≠ 0
    · rw [if_pos g1] at h; exact absurd h g1
    · rw [if_neg g1] at h
      by_cases g2 : (typs cols r (typ cols x n d).1 d).2.2 ≠ 0
      · rw [if_pos g2] at h; exact absurd h g2
      · rcases List.mem_cons.1 hy with rfl | hy
        · exact ihx n d (by simpa using g1)
        · exact ihr _ _ (by simpa using g2) y hy

theorem typeOf_ok {cols : List Int} {x : Expr} (h : (typeOf cols x).2 = 0) : x.Ok := by
  unfold typeOf at h
  by_cases g1 : 16 < cols.length
  · rw [if_pos g1] at h; cases h
  · rw [if_neg g1] at h
    by_cases g2 : colsBad cols = true
    · rw [if_pos g2] at h; cases h
    · rw [if_neg g2] at h
      dsimp only at h
      by_cases g3 : (typ cols x 0 1).2.2 ≠ 0
      · rw [if_pos g3] at h; exact absurd h g3
      · exact typ_ok cols x 0 1 (by simpa using g3)

theorem typesGo_ok {cols : List Int} : ∀ {xs : List Expr}, (typesGo cols xs).2 = 0 → ∀ y ∈ xs, y.Ok
  | [], _, y, hy => by cases hy
  | x :: r, h, y, hy => by
    rw [typesGo] at h
    by_cases g1 : (typeOf cols x).2 ≠ 0
    · rw [if_pos g1] at h; exact absurd h g1
    · rw [if_neg g1] at h
      by_cases g2 : (typesGo cols r).2 ≠ 0
      · rw [if_pos g2] at h; exact absurd h g2
      · rcases List.mem_cons.1 hy with rfl | hy
        · exact typeOf_ok (by simpa using g1)
        · exact typesGo_ok (by simpa using g2) y hy

theorem opsTypes_ok {cols : List Int} {xs : List Expr} (h : (opsTypes cols xs).2 = 0) : xs.length ≤ 8 ∧ ∀ y ∈ xs, y.Ok := by
  unfold opsTypes at h
  by_cases g1 : 8 < xs.length
  · rw [if_pos g1] at h; cases h
  · rw [if_neg g1] at h
    exact ⟨by omega, typesGo_ok h⟩

theorem winTypes_ok {cols : List Int} : ∀ {ws : List Agg}, (winTypes cols ws).2 = 0 → ∀ w ∈ ws, 1 ≤ w.kind ∧ w.kind ≤ 5 ∧ (4 ≤ w.kind → w.x.Ok)
  | [], _, y, hy => by cases hy
  | x :: r, h, y, hy => by
    rw [winTypes] at h
    by_cases g1 : (winT cols x).2 ≠ 0
    · rw [if_pos g1] at h; exact absurd h g1
    · rw [if_neg g1] at h
      by_cases g2 : (winTypes cols r).2 ≠ 0
      · rw [if_pos g2] at h; exact absurd h g2
      · rcases List.mem_cons.1 hy with rfl | hy
        · have g1 : (winT cols y).2 = 0 := by simpa using g1
          unfold winT at g1
          by_cases g3 : y.kind = 1 ∨ y.kind = 2 ∨ y.kind = 3
          · omega
          · rw [if_neg g3] at g1
            by_cases g4 : y.kind = 4 ∨ y.kind = 5
            · rw [if_pos g4] at g1
              refine ⟨by omega, by omega, fun _ => typeOf_ok (cols := cols) ?_⟩
              by_cases g5 : (typeOf cols y.x).2 ≠ 0
              · rw [if_pos g5] at g1; exact g1
              · simpa using g5
            · rw [if_neg g4] at g1; cases g1
        · exact winTypes_ok (by simpa using g2) y hy

theorem fitsGo_right : ∀ {r : Row} {cols : List Int}, r.length = cols.length → fitsGo r cols = 0 → r.Right
  | [], _, _, _ => by intro v hv; cases hv
  | v :: r, [], h, _ => by simp at h
  | v :: r, c :: cs, h, hf => by
    rw [fitsGo] at hf
    by_cases g1 : v.wrong ≠ 0
    · rw [if_pos g1] at hf; exact absurd hf g1
    · rw [if_neg g1] at hf
      by_cases g2 : v.kind ≠ 1 ∧ v.kind ≠ c
      · rw [if_pos g2] at hf; cases hf
      · rw [if_neg g2] at hf
        intro u hu
        rcases List.mem_cons.1 hu with rfl | hu
        · have : u.wrong = 0 := by simpa using g1
          exact this
        · exact fitsGo_right (by simpa using h) hf u hu

theorem rowFits_ok {cols : List Int} {r : Row} (h : rowFits cols r = 0) : r.length = cols.length ∧ r.Right := by
  unfold rowFits at h
  by_cases g1 : r.length ≠ cols.length
  · rw [if_pos g1] at h; cases h
  · rw [if_neg g1] at h
    exact ⟨by omega, fitsGo_right (by omega) h⟩

theorem inGo_ok {cols : List Int} : ∀ {z : ZSet}, inGo cols z = 0 → ∀ r ∈ z, r.row.length = cols.length ∧ Row.Right r.row
  | [], _, r, hr => by cases hr
  | a :: q, h, r, hr => by
    rw [inGo] at h
    by_cases g1 : rowFits cols a.row ≠ 0
    · rw [if_pos g1] at h; exact absurd h g1
    · rw [if_neg g1] at h
      rcases List.mem_cons.1 hr with rfl | hr
      · exact rowFits_ok (by simpa using g1)
      · exact inGo_ok h r hr

theorem opsInput_ok {cols : List Int} {z : ZSet} (h : opsInput cols z = 0) : cols.length ≤ 8 ∧ zWrong z = 0 ∧ ∀ r ∈ z, r.row.length = cols.length ∧ Row.Right r.row := by
  unfold opsInput at h
  by_cases g1 : 8 < cols.length
  · rw [if_pos g1] at h; cases h
  · rw [if_neg g1] at h
    by_cases g2 : zWrong z ≠ 0
    · rw [if_pos g2] at h; exact absurd h g2
    · rw [if_neg g2] at h
      exact ⟨by omega, by simpa using g2, inGo_ok h⟩

end Go.Tide

/- Stable sorts of one element type: what each function comes to. -/
set_option linter.unusedVariables false
set_option linter.unusedSimpArgs false
namespace Go.Tide

namespace Sort_P_window_line

abbrev at0 (x : Sto) (d : List Line) : Sto := updS x 0 (some (.row ty_P_window_line 1 (d.map encLn)))

section
variable {x : Sto} {K : List A → Sto → Prop} {cf : Line → Line → Int} {g : Nat} {caps : List A} {lt : Line → Line → Bool}

abbrev Cmp (x : Sto) (cf : Line → Line → Int) (g : Nat) (caps : List A) : Prop := ∀ (a b : Line) (d : List Line) (K : List A → Sto → Prop), K [aI (cf a b)] (at0 x d) → CC g (pLn a :: pLn b :: caps) (at0 x d) K

theorem insertion (sw : SW lt) (hlt : ∀ a b, lt a b = decide (cf a b < 0)) (hcap : ∀ f, A.renL f caps = caps) (hc : Cmp x cf g caps) (p s q : List Line) {n : Nat} (hn : n = (p ++ s ++ q).length) (hlen : (n : Int) ≤ maxI - 100)
    (h : ∀ r, Srt lt r → Stab lt s r → K [] (at0 x (p ++ r ++ q))) :
    CC n_slices_insertionSortCmpFunc__P_window_line [.own (.U 0) 1 n, aI p.length, aI (p.length + s.length : Nat), .fn g caps] (at0 x (p ++ s ++ q)) K := by
  have hmax : maxI = 9223372036854775807 := rfl
  have hn' : n = p.length + s.length + q.length := by rw [hn]; simp; omega
  refine fnc g_slices_insertionSortCmpFunc__P_window_line rfl ?_
  conv => whnf
  try simp only [hcap]
  rw [wrap_i64 (n := (p.length : Int) + 1) ⟨by omega, by omega⟩, show p ++ s ++ q = p ++ s.take 1 ++ s.drop 1 ++ q by rw [List.append_assoc p (s.take 1), List.take_append_drop]]
  refine loop (fun (t : Nat × List Line) => s_slices_insertionSortCmpFunc__P_window_line_l0 (.own (.U 0) 1 n) (aI p.length) (aI (p.length + s.length : Nat)) (.fn g caps) (aI ((p.length : Int) + (t.1 : Int))) (at0 x (p ++ t.2 ++ s.drop t.1 ++ q)))
    (fun t => s.length + 1 - t.1) (fun t => 1 ≤ t.1 ∧ t.1 ≤ s.length + 1 ∧ t.2.length + (s.drop t.1).length = s.length ∧ Srt lt t.2 ∧ Stab lt (s.take t.1) t.2) ?_ (1, s.take 1) ?_
  · rintro ⟨k, r⟩ ⟨hk1, hk2, hkl', hr, hst⟩ ih
    dsimp only at hk1 hk2 hkl' hr hst ih ⊢
    conv => whnf
    try simp only [hcap]
    refine way_dec (fun g1 => ?_) (fun g1 => ?_)
    all_goals conv => whnf
    · have hkl : k < s.length := by omega
      obtain ⟨y, s', e1, e2, _⟩ : ∃ a r, s.drop k = a :: r ∧ s.drop (k + 1) = r ∧ k < s.length := ⟨s[k], s.drop (k + 1), List.drop_eq_getElem_cons hkl, rfl, hkl⟩
      rw [e1]
      try simp only [hcap]
      have hlr : k = r.length := by rw [List.length_drop] at hkl'; omega
      subst hlr
      have hs' : s'.length + r.length + 1 = s.length := by
        have := congrArg List.length e1
        rw [List.length_drop, List.length_cons] at this
        omega
      have hst2 : s.take (r.length + 1) = s.take r.length ++ [y] := by
        rw [List.take_add_one]
        congr 1
        have := List.getElem?_drop (xs := s) (i := r.length) (j := 0)
        rw [e1] at this
        simp at this
        rw [← this]
        rfl
      rw [show p ++ r ++ y :: s' ++ q = p ++ r ++ y :: ([] ++ s' ++ q) by simp]
      refine loop (fun (t : List Line × List Line) => s_slices_insertionSortCmpFunc__P_window_line_l1 (.own (.U 0) 1 n) (aI p.length) (aI (p.length + s.length : Nat)) (.fn g caps) (aI ((p.length : Int) + (r.length : Int))) (aI ((p.length : Int) + (t.1.length : Int))) (at0 x (p ++ t.1 ++ y :: (t.2 ++ s' ++ q))))
        (fun t => t.1.length) (fun t => r = t.1 ++ t.2 ∧ ∀ z ∈ t.2, lt y z = true) ?_ (r, []) ⟨by simp, by simp⟩
      rintro ⟨r1, r2⟩ ⟨hr12, hy2⟩ ih2
      dsimp only at hr12 hy2 ih2 ⊢
      have done_ : (∀ z ∈ r1, lt y z = false) → Srt lt (r1 ++ y :: r2) ∧ Stab lt (s.take (r.length + 1)) (r1 ++ y :: r2) := by
        intro hz
        subst hr12
        refine ⟨hr.left.app (List.pairwise_cons.2 ⟨fun z h => sw.asym _ _ (hy2 z h), hr.right⟩) fun a ha b hb => ?_, ?_⟩
        · rcases List.mem_cons.1 hb with rfl | hb
          · exact hz a ha
          · exact hr.mid a ha b hb
        · rw [hst2]
          have s1 := hst.app (Stab.refl (lt := lt) [y])
          have s2 : Stab lt (r2 ++ [y]) ([y] ++ r2) := Stab.swap sw (fun a ha b hb => by rw [List.mem_singleton.1 hb]; exact hy2 a ha)
          have s3 := (Stab.refl (lt := lt) r1).app s2
          exact s1.trans (by simpa using s3)
      have fin_ : (∀ z ∈ r1, lt y z = false) → Loop (wpc CC i_slices_insertionSortCmpFunc__P_window_line_l0) (blkQ 0 (fnQ i_slices_insertionSortCmpFunc__P_window_line.res K)) (s_slices_insertionSortCmpFunc__P_window_line_l0 (.own (.U 0) 1 n) (aI p.length) (aI (p.length + s.length : Nat)) (.fn g caps) (aI ((p.length : Int) + ((r.length + 1 : Nat) : Int))) (at0 x (p ++ (r1 ++ y :: r2) ++ s.drop (r.length + 1) ++ q))) := by
        intro hz
        obtain ⟨d1, d2⟩ := done_ hz
        refine ih (r.length + 1, r1 ++ y :: r2) ⟨by dsimp only; omega, by dsimp only; omega, ?_, d1, d2⟩ (by dsimp only; omega)
        simp only [List.length_append, List.length_cons, List.length_drop, hr12]
        rw [hr12] at hs' hkl
        simp at hs' hkl
        omega
      have eq_ : p ++ (r1 ++ y :: r2) ++ s.drop (r.length + 1) ++ q = p ++ r1 ++ y :: (r2 ++ s' ++ q) := by rw [e2]; simp
      rw [eq_] at fin_
      have hn2 : n = (p ++ r1 ++ y :: (r2 ++ s' ++ q)).length := by simp [hr12] at hs' ⊢; omega
      conv => whnf
      try simp only [hcap]
      refine way_dec (fun g2 => ?_) (fun g2 => ?_)
      all_goals conv => whnf
      · rcases List.eq_nil_or_concat r1 with rfl | ⟨u, z, rfl⟩
        · simp at g2
        · rw [List.concat_eq_append] at *
          have c1 : (p.length : Int) + ((u ++ [z]).length : Int) = ((p ++ (u ++ [z])).length : Int) := by simp
          have c2 : (p.length : Int) + ((u ++ [z]).length : Int) - 1 = ((p ++ u).length : Int) := by simp; omega
          have c3 : (p.length : Int) + ((u ++ [z]).length : Int) - 1 = (p.length : Int) + (u.length : Int) := by simp; omega
          have d2 : p ++ (u ++ [z]) ++ y :: (r2 ++ s' ++ q) = (p ++ u) ++ z :: y :: (r2 ++ s' ++ q) := by simp
          have hb : (p.length : Int) + ((u ++ [z]).length : Int) < n := by rw [hn2]; simp; omega
          have hw : IntKind.wrap .i64 ((p.length : Int) + ((u ++ [z]).length : Int) - 1) = (p.length : Int) + ((u ++ [z]).length : Int) - 1 := wrap_i64 ⟨by omega, by omega⟩
          have i1 : (0 : Int) ≤ (p.length : Int) + ((u ++ [z]).length : Int) := by omega
          have i2 : (0 : Int) ≤ (p.length : Int) + ((u ++ [z]).length : Int) - 1 := by omega
          have i3 : (p.length : Int) + ((u ++ [z]).length : Int) - 1 < n := by omega
          refine ⟨i1, hb, rfl, ?_⟩
          conv => whnf
          refine ⟨encLn y, len_map hn2, get_at encLn rfl c1, ?_⟩
          conv => whnf
          rw [hw]
          refine ⟨i2, i3, rfl, ?_⟩
          conv => whnf
          refine ⟨encLn z, len_map hn2, get_at encLn d2 c2, ?_⟩
          conv => whnf
          try simp only [hcap]
          refine ⟨_, hc y z _ _ ⟨rfl, rfl⟩, ?_⟩
          conv => whnf
          refine way_dec (fun g3 => ?_) (fun g3 => ?_)
          all_goals conv => whnf
          · have hyz : lt y z = true := by rw [hlt]; exact decide_eq_true g3
            rw [hw]
            refine ⟨i2, i3, rfl, ?_⟩
            conv => whnf
            refine ⟨encLn z, len_map hn2, get_at encLn d2 c2, ?_⟩
            conv => whnf
            refine ⟨i1, hb, rfl, ?_⟩
            conv => whnf
            refine ⟨encLn y, len_map hn2, get_at encLn rfl c1, ?_⟩
            conv => whnf
            refine ⟨i1, hb, rfl, ?_⟩
            conv => whnf
            refine ⟨encLn y, len_map hn2, get_at encLn rfl c1, Nat.le_refl _, ?_⟩
            conv => whnf
            refine ⟨i2, i3, rfl, ?_⟩
            conv => whnf
            refine ⟨encLn z, len_mset hn2, get_set encLn d2 c2 i1 (by omega), Nat.le_refl _, ?_⟩
            conv => whnf
            try simp only [hcap]
            rw [updS_updS, updS_updS, sw_int encLn d2 (by rw [c1]; simp; omega) c2, hw, c3]
            refine ih2 (u, z :: r2) ⟨by rw [hr12]; simp, ?_⟩ (by simp)
            intro w hw2
            rcases List.mem_cons.1 hw2 with rfl | hw2
            · exact hyz
            · exact hy2 w hw2
          · have hyz : lt y z = false := by rw [hlt]; exact decide_eq_false g3
            try simp only [hcap]
            rw [wrap_i64 (n := (p.length : Int) + (r.length : Int) + 1) ⟨by omega, by omega⟩, show (p.length : Int) + (r.length : Int) + 1 = (p.length : Int) + ((r.length + 1 : Nat) : Int) by omega]
            refine fin_ fun w hw2 => ?_
            rcases List.mem_append.1 hw2 with hw2 | hw2
            · refine sw.ntrans _ _ _ hyz ?_
              rw [hr12] at hr
              exact hr.left.mid w hw2 z (by simp)
            · rw [List.mem_singleton.1 hw2]; exact hyz
      · have : r1 = [] := List.eq_nil_of_length_eq_zero (by omega)
        subst this
        try simp only [hcap]
        rw [wrap_i64 (n := (p.length : Int) + (r.length : Int) + 1) ⟨by omega, by omega⟩, show (p.length : Int) + (r.length : Int) + 1 = (p.length : Int) + ((r.length + 1 : Nat) : Int) by omega]
        exact fin_ (by simp)
    · have hd : s.drop k = [] := List.drop_eq_nil_of_le (by omega)
      have ht : s.take k = s := List.take_of_length_le (by omega)
      rw [ht] at hst
      have := h r hr hst
      rw [hd, List.append_nil]
      exact this
  · refine ⟨Nat.le_refl _, by dsimp only; omega, by simp; omega, ?_, Stab.refl _⟩
    dsimp only
    cases s with
    | nil => exact Srt.nil
    | cons a t => exact Srt.one a

theorem swapRange (hcap : ∀ f, A.renL f caps = caps) (P U M V Q : List Line) (hUV : U.length = V.length) {N : Nat} (hN : N = (P ++ U ++ M ++ V ++ Q).length) (hlen : (N : Int) ≤ maxI - 100) {a b n : Int} (ha : a = P.length) (hb : b = (P.length : Int) + U.length + M.length) (hn : n = U.length)
    (h : K [] (at0 x (P ++ V ++ M ++ U ++ Q))) :
    CC n_slices_swapRangeCmpFunc__P_window_line [.own (.U 0) 1 N, aI a, aI b, aI n, .fn g caps] (at0 x (P ++ U ++ M ++ V ++ Q)) K := by
  have hmax : maxI = 9223372036854775807 := rfl
  have hN' : N = P.length + U.length + M.length + V.length + Q.length := by rw [hN]; simp; omega
  subst ha; subst hb; subst hn
  refine fnc g_slices_swapRangeCmpFunc__P_window_line rfl ?_
  conv => whnf
  try simp only [hcap]
  rw [show P ++ U ++ M ++ V ++ Q = P ++ (V.take 0 ++ U.drop 0) ++ M ++ (U.take 0 ++ V.drop 0) ++ Q by simp]
  refine loop (fun (i : Nat) => s_slices_swapRangeCmpFunc__P_window_line_l0 (.own (.U 0) 1 N) (aI P.length) (aI ((P.length : Int) + U.length + M.length)) (aI U.length) (aI (i : Int)) (at0 x (P ++ (V.take i ++ U.drop i) ++ M ++ (U.take i ++ V.drop i) ++ Q)))
    (fun i => U.length - i) (fun i => i ≤ U.length) ?_ 0 (Nat.zero_le _)
  intro i hi ih
  conv => whnf
  refine way_dec (fun g1 => ?_) (fun g1 => ?_)
  all_goals conv => whnf
  · have hu : i < U.length := by omega
    have hv : i < V.length := by omega
    have eu := List.drop_eq_getElem_cons hu
    have ev := List.drop_eq_getElem_cons hv
    have tu : U.take (i + 1) = U.take i ++ [U[i]] := by rw [List.take_add_one, List.getElem?_eq_getElem hu]; rfl
    have tv : V.take (i + 1) = V.take i ++ [V[i]] := by rw [List.take_add_one, List.getElem?_eq_getElem hv]; rfl
    generalize U[i] = xu at eu tu
    generalize V[i] = xv at ev tv
    have d1 : P ++ (V.take i ++ U.drop i) ++ M ++ (U.take i ++ V.drop i) ++ Q = (P ++ V.take i) ++ xu :: (U.drop (i + 1) ++ M ++ U.take i) ++ xv :: (V.drop (i + 1) ++ Q) := by rw [eu, ev]; simp
    have d2 : P ++ (V.take i ++ U.drop i) ++ M ++ (U.take i ++ V.drop i) ++ Q = (P ++ V.take i ++ xu :: (U.drop (i + 1) ++ M ++ U.take i)) ++ xv :: (V.drop (i + 1) ++ Q) := by rw [d1]
    have d3 : P ++ (V.take i ++ U.drop i) ++ M ++ (U.take i ++ V.drop i) ++ Q = (P ++ V.take i) ++ xu :: (U.drop (i + 1) ++ M ++ U.take i ++ xv :: (V.drop (i + 1) ++ Q)) := by rw [d1]; simp
    have lt1 : (V.take i).length = i := by simp; omega
    have lt2 : (U.take i).length = i := by simp; omega
    have c1 : (P.length : Int) + i = ((P ++ V.take i).length : Int) := by rw [List.length_append, lt1]; omega
    have c2 : (P.length : Int) + U.length + M.length + i = ((P ++ V.take i ++ xu :: (U.drop (i + 1) ++ M ++ U.take i)).length : Int) := by
      simp only [List.length_append, List.length_cons, lt1, lt2, List.length_drop]; omega
    have w1 : IntKind.wrap .i64 ((P.length : Int) + i) = (P.length : Int) + i := wrap_i64 ⟨by omega, by omega⟩
    have w2 : IntKind.wrap .i64 ((P.length : Int) + U.length + M.length + i) = (P.length : Int) + U.length + M.length + i := wrap_i64 ⟨by omega, by omega⟩
    have i1 : (0 : Int) ≤ (P.length : Int) + i := by omega
    have i2 : (0 : Int) ≤ (P.length : Int) + U.length + M.length + i := by omega
    have b1 : (P.length : Int) + i < N := by omega
    have b2 : (P.length : Int) + U.length + M.length + i < N := by omega
    have hN2 : N = (P ++ (V.take i ++ U.drop i) ++ M ++ (U.take i ++ V.drop i) ++ Q).length := by
      simp only [List.length_append, List.length_take, List.length_drop]; omega
    rw [w2]
    refine ⟨i2, b2, rfl, ?_⟩
    conv => whnf
    refine ⟨encLn xv, len_map hN2, get_at encLn d2 c2, ?_⟩
    conv => whnf
    rw [w1]
    refine ⟨i1, b1, rfl, ?_⟩
    conv => whnf
    refine ⟨encLn xu, len_map hN2, get_at encLn d3 c1, ?_⟩
    conv => whnf
    refine ⟨i1, b1, rfl, ?_⟩
    conv => whnf
    refine ⟨encLn xu, len_map hN2, get_at encLn d3 c1, Nat.le_refl _, ?_⟩
    conv => whnf
    refine ⟨i2, b2, rfl, ?_⟩
    conv => whnf
    refine ⟨encLn xv, len_mset hN2, get_set encLn d2 c2 i1 (by omega), Nat.le_refl _, ?_⟩
    conv => whnf
    rw [updS_updS, updS_updS, sw_far encLn d1 c1 (by rw [c2]; simp only [List.length_append, List.length_cons]; omega), wrap_i64 (n := (i : Int) + 1) ⟨by omega, by omega⟩]
    have := ih (i + 1) (by omega) (by omega)
    rw [tu, tv, show P ++ (V.take i ++ [xv] ++ U.drop (i + 1)) ++ M ++ (U.take i ++ [xu] ++ V.drop (i + 1)) ++ Q = P ++ V.take i ++ xv :: (U.drop (i + 1) ++ M ++ U.take i) ++ xu :: (V.drop (i + 1) ++ Q) by simp] at this
    exact this
  · have hi' : i = U.length := by omega
    subst hi'
    rw [List.take_length, List.drop_length, hUV, List.take_length, List.drop_length, List.append_nil, List.append_nil]
    exact h

theorem rotate (hcap : ∀ f, A.renL f caps = caps) (P U V Q : List Line) (hU : U ≠ []) (hV : V ≠ []) {N : Nat} (hN : N = (P ++ U ++ V ++ Q).length) (hlen : (N : Int) ≤ maxI - 100) {a m b : Int} (ha : a = P.length) (hm : m = (P.length : Int) + U.length) (hb : b = (P.length : Int) + U.length + V.length)
    (h : K [] (at0 x (P ++ V ++ U ++ Q))) :
    CC n_slices_rotateCmpFunc__P_window_line [.own (.U 0) 1 N, aI a, aI m, aI b, .fn g caps] (at0 x (P ++ U ++ V ++ Q)) K := by
  have hmax : maxI = 9223372036854775807 := rfl
  have hN' : N = P.length + U.length + V.length + Q.length := by rw [hN]; simp; omega
  have hU0 : 0 < U.length := List.length_pos_iff.2 hU
  have hV0 : 0 < V.length := List.length_pos_iff.2 hV
  subst ha; subst hb
  refine fnc g_slices_rotateCmpFunc__P_window_line rfl ?_
  conv => whnf
  try simp only [hcap]
  rw [wrap_i64 (n := m - (P.length : Int)) ⟨by omega, by omega⟩, wrap_i64 (n := (P.length : Int) + U.length + V.length - m) ⟨by omega, by omega⟩, show m - (P.length : Int) = U.length by omega, show (P.length : Int) + U.length + V.length - m = V.length by omega]
  refine loop (fun (t : List Line × List Line × List Line × List Line) => s_slices_rotateCmpFunc__P_window_line_l0 (.own (.U 0) 1 N) (aI m) (.fn g caps) (aI t.2.1.length) (aI t.2.2.1.length) (at0 x (t.1 ++ t.2.1 ++ t.2.2.1 ++ t.2.2.2)))
    (fun t => t.2.1.length + t.2.2.1.length) (fun t => 0 < t.2.1.length ∧ 0 < t.2.2.1.length ∧ (t.1.length : Int) + t.2.1.length = m ∧ N = t.1.length + t.2.1.length + t.2.2.1.length + t.2.2.2.length ∧ t.1 ++ t.2.2.1 ++ t.2.1 ++ t.2.2.2 = P ++ V ++ U ++ Q) ?_ (P, U, V, Q) ⟨hU0, hV0, by dsimp only; omega, hN', rfl⟩
  rintro ⟨p, u, v, q⟩ ⟨hu, hv, hpm, hn, ht⟩ ih
  dsimp only at hu hv hpm hn ht ih ⊢
  conv => whnf
  refine way_ne (fun g1 => ?_) (fun g1 => ?_)
  all_goals conv => whnf
  · refine way_dec (fun g2 => ?_) (fun g2 => ?_)
    all_goals conv => whnf
    · have eu : u = u.take v.length ++ u.drop v.length := (List.take_append_drop _ _).symm
      have l1 : (u.take v.length).length = v.length := by rw [List.length_take]; omega
      have l2 : (u.drop v.length).length = u.length - v.length := by rw [List.length_drop]
      generalize u.take v.length = u1 at eu l1
      generalize u.drop v.length = u2 at eu l2
      subst eu
      rw [List.length_append] at *
      rw [wrap_i64 (n := m - ((u1.length + u2.length : Nat) : Int)) ⟨by omega, by omega⟩]
      try simp only [hcap]
      rw [show p ++ (u1 ++ u2) ++ v ++ q = p ++ u1 ++ u2 ++ v ++ q by simp]
      refine swapRange hcap p u1 u2 v q l1 (by simp; omega) hlen (by omega) (by omega) (by omega) ?_
      refine ⟨fun h => (by cases h), ?_⟩
      conv => whnf
      try simp only [hcap]
      rw [wrap_i64 (n := ((u1.length + u2.length : Nat) : Int) - (v.length : Int)) ⟨by omega, by omega⟩]
      have := ih (p ++ v, u2, u1, q) ⟨by dsimp only; omega, by dsimp only; omega, by dsimp only; rw [List.length_append]; omega, by dsimp only; rw [List.length_append]; omega, by rw [← ht]; simp⟩ (by dsimp only; omega)
      dsimp only at this
      rw [l1] at this
      rw [show ((u1.length + u2.length : Nat) : Int) - (v.length : Int) = (u2.length : Int) by omega]
      exact this
    · have g3 : u.length < v.length := by omega
      have ev : v = v.take (v.length - u.length) ++ v.drop (v.length - u.length) := (List.take_append_drop _ _).symm
      have l1 : (v.take (v.length - u.length)).length = v.length - u.length := by rw [List.length_take]; omega
      have l2 : (v.drop (v.length - u.length)).length = u.length := by rw [List.length_drop]; omega
      generalize v.take (v.length - u.length) = v1 at ev l1
      generalize v.drop (v.length - u.length) = v2 at ev l2
      subst ev
      rw [List.length_append] at *
      rw [wrap_i64 (n := m - (u.length : Int)) ⟨by omega, by omega⟩, wrap_i64 (n := m + ((v1.length + v2.length : Nat) : Int)) ⟨by omega, by omega⟩, wrap_i64 (n := m + ((v1.length + v2.length : Nat) : Int) - (u.length : Int)) ⟨by omega, by omega⟩]
      try simp only [hcap]
      rw [show p ++ u ++ (v1 ++ v2) ++ q = p ++ u ++ v1 ++ v2 ++ q by simp]
      refine swapRange hcap p u v1 v2 q l2.symm (by simp; omega) hlen (by omega) (by omega) (by omega) ?_
      refine ⟨fun h => (by cases h), ?_⟩
      conv => whnf
      try simp only [hcap]
      rw [wrap_i64 (n := ((v1.length + v2.length : Nat) : Int) - (u.length : Int)) ⟨by omega, by omega⟩]
      have := ih (p, v2, v1, u ++ q) ⟨by dsimp only; omega, by dsimp only; omega, by dsimp only; omega, by dsimp only; rw [List.length_append]; omega, by rw [← ht]; simp⟩ (by dsimp only; omega)
      dsimp only at this
      rw [l2, show p ++ v2 ++ v1 ++ (u ++ q) = p ++ v2 ++ v1 ++ u ++ q by simp] at this
      rw [show ((v1.length + v2.length : Nat) : Int) - (u.length : Int) = (v1.length : Int) by omega]
      exact this
  · rw [wrap_i64 (n := m - (u.length : Int)) ⟨by omega, by omega⟩]
    try simp only [hcap]
    rw [show p ++ u ++ v ++ q = p ++ u ++ [] ++ v ++ q by simp]
    refine swapRange hcap p u [] v q (by omega) (by simp; omega) hlen (by omega) (by simp; omega) (by omega) ?_
    refine ⟨fun h => (by cases h), ?_⟩
    conv => whnf
    rw [show p ++ v ++ [] ++ u ++ q = P ++ V ++ U ++ Q by rw [← ht]; simp]
    exact h

theorem symMerge (sw : SW lt) (hlt : ∀ a b, lt a b = decide (cf a b < 0)) (hcap : ∀ f, A.renL f caps = caps) (hc : Cmp x cf g caps) {N : Nat} (hlen : (N : Int) ≤ maxI / 4) : ∀ (k : Nat) (p u v q : List Line) {K : List A → Sto → Prop}, u.length + v.length ≤ k → u ≠ [] → v ≠ [] → Srt lt u → Srt lt v → N = (p ++ u ++ v ++ q).length →
    ∀ {a m b : Int}, a = p.length → m = (p.length : Int) + u.length → b = (p.length : Int) + u.length + v.length →
    (∀ r, Srt lt r → Stab lt (u ++ v) r → K [] (at0 x (p ++ r ++ q))) →
    CC n_slices_symMergeCmpFunc__P_window_line [.own (.U 0) 1 N, aI a, aI m, aI b, .fn g caps] (at0 x (p ++ u ++ v ++ q)) K := by
  intro k
  induction k with
  | zero =>
    intro p u v q K hk hu hv
    exact absurd (List.length_pos_iff.2 hu) (by omega)
  | succ k ih =>
    intro p u v q K hk hu hv hsu hsv hN a m b ha hm hb h
    have hmax : maxI / 4 = 2305843009213693951 := rfl
    have hN' : N = p.length + u.length + v.length + q.length := by rw [hN]; simp; omega
    have hu0 : 0 < u.length := List.length_pos_iff.2 hu
    have hv0 : 0 < v.length := List.length_pos_iff.2 hv
    refine fnc g_slices_symMergeCmpFunc__P_window_line rfl ?_
    conv => whnf
    try simp only [hcap]
    rw [wrap_i64 (n := m - a) ⟨by omega, by omega⟩]
    refine way_eq (fun g1 => ?_) (fun g1 => ?_)
    all_goals conv => whnf
    · obtain ⟨x0, rfl⟩ : ∃ x0, u = [x0] := by
        match u, (by omega : u.length = 1) with
        | [x0], _ => exact ⟨x0, rfl⟩
      try simp only [hcap]
      have hx0 : p ++ [x0] ++ v ++ q = p ++ x0 :: (v ++ q) := by simp
      have hNl := len_map (f := encLn) hN
      rw [show (A.int .i64 m) = aI ((p.length : Int) + 1 + ((0 : Nat) : Int)) by rw [hm]; simp, show (A.int .i64 b) = aI ((p.length : Int) + 1 + (v.length : Int)) by rw [hb]; simp]
      refine loop (fun (t : Nat × Nat) => s_slices_symMergeCmpFunc__P_window_line_l0 (.own (.U 0) 1 N) (aI a) (.fn g caps) (aI ((p.length : Int) + 1 + (t.1 : Int))) (aI ((p.length : Int) + 1 + (t.2 : Int))) (at0 x (p ++ [x0] ++ v ++ q)))
        (fun t => t.2 - t.1) (fun t => t.1 ≤ t.2 ∧ t.2 ≤ v.length ∧ (∀ i y, i < t.1 → v[i]? = some y → lt y x0 = true) ∧ (∀ i y, t.2 ≤ i → v[i]? = some y → lt y x0 = false)) ?_ (0, v.length) ⟨Nat.zero_le _, Nat.le_refl _, fun i y hi => by omega, fun i y hi hy => by
          have := (List.getElem?_eq_some_iff.1 hy).1
          dsimp only at hi
          omega⟩
      rintro ⟨i, j⟩ ⟨hij, hj, hlo, hhi⟩ ih2
      dsimp only at hij hj hlo hhi ih2 ⊢
      conv => whnf
      refine way_dec (fun g3 => ?_) (fun g3 => ?_)
      all_goals conv => whnf
      · try simp only [hcap]
        rw [wrap_i64 (n := (p.length : Int) + 1 + (i : Int) + ((p.length : Int) + 1 + (j : Int))) ⟨by omega, by omega⟩, half (by omega) (by omega), show ((p.length : Int) + 1 + (i : Int) + ((p.length : Int) + 1 + (j : Int))) / 2 = (p.length : Int) + 1 + (((i + j) / 2 : Nat) : Int) by omega]
        have hc2 : (i + j) / 2 < v.length := by omega
        obtain ⟨y, hy⟩ := ex_get hc2
        generalize hcd : (i + j) / 2 = c at hc2 hy ⊢
        refine ⟨by omega, by omega, by trivial, ?_⟩
        conv => whnf
        refine ⟨encLn y, hNl, get_v encLn hy (by simp), ?_⟩
        conv => whnf
        refine ⟨by omega, by omega, rfl, ?_⟩
        conv => whnf
        refine ⟨encLn x0, hNl, get_at encLn hx0 ha, ?_⟩
        conv => whnf
        try simp only [hcap]
        refine ⟨_, hc y x0 _ _ ⟨rfl, rfl⟩, ?_⟩
        conv => whnf
        refine way_dec (fun g4 => ?_) (fun g4 => ?_)
        all_goals conv => whnf
        · have hl : lt y x0 = true := by rw [hlt]; exact decide_eq_true g4
          try simp only [hcap]
          rw [wrap_i64 (n := (p.length : Int) + 1 + (c : Int) + 1) ⟨by omega, by omega⟩, show (p.length : Int) + 1 + (c : Int) + 1 = (p.length : Int) + 1 + ((c + 1 : Nat) : Int) by omega]
          exact ih2 (c + 1, j) ⟨by dsimp only; omega, hj, fun i2 y2 hi2 hy2 => sw.lelt (hsv.get sw (by omega) hy2 hy) hl, hhi⟩ (by dsimp only; omega)
        · have hl : lt y x0 = false := by rw [hlt]; exact decide_eq_false g4
          try simp only [hcap]
          exact ih2 (i, c) ⟨by dsimp only; omega, by dsimp only; omega, hlo, fun i2 y2 hi2 hy2 => sw.ntrans _ _ _ (hsv.get sw hi2 hy hy2) hl⟩ (by dsimp only; omega)
      · have hij2 : i = j := by omega
        subst hij2
        have hv12 : v = v.take i ++ v.drop i := (List.take_append_drop i v).symm
        have m1 : ∀ y ∈ v.take i, lt y x0 = true := fun y hy => by
          obtain ⟨t, h1, h2⟩ := mem_take hy
          exact hlo t y h1 h2
        have m2 : ∀ y ∈ v.drop i, lt y x0 = false := fun y hy => by
          obtain ⟨t, h1, h2⟩ := mem_dropi hy
          exact hhi t y h1 h2
        have lv : (v.take i).length = i := by rw [List.length_take]; omega
        rw [hv12] at hsv
        generalize hv1 : v.take i = v1 at *
        generalize hv2 : v.drop i = v2 at *
        subst hv12
        have fin_ := h (v1 ++ x0 :: v2) (hsv.left.app (List.pairwise_cons.2 ⟨m2, hsv.right⟩) fun y hy z hz => by
            rcases List.mem_cons.1 hz with rfl | hz
            · exact sw.asym _ _ (m1 y hy)
            · exact hsv.mid y hy z hz)
          (by
            have s1 : Stab lt ([x0] ++ v1) (v1 ++ [x0]) := Stab.swap sw (fun a ha b hb => by rw [List.mem_singleton.1 ha]; exact m1 b hb)
            have := s1.app (Stab.refl (lt := lt) v2)
            simpa using this)
        rw [ha, show p ++ [x0] ++ (v1 ++ v2) ++ q = p ++ [] ++ x0 :: (v1 ++ v2 ++ q) by simp, show (A.int .i64 (p.length : Int)) = aI ((p.length : Int) + (([] : List Line).length : Int)) by simp]
        refine loop (fun (t : List Line × List Line) => s_slices_symMergeCmpFunc__P_window_line_l1 (.own (.U 0) 1 N) (aI ((p.length : Int) + 1 + (i : Int))) (aI ((p.length : Int) + (t.1.length : Int))) (at0 x (p ++ t.1 ++ x0 :: (t.2 ++ v2 ++ q))))
          (fun t => t.2.length) (fun t => t.1 ++ t.2 = v1) ?_ ([], v1) rfl
        rintro ⟨s, r⟩ hsr ih3
        dsimp only at hsr ih3 ⊢
        conv => whnf
        rw [wrap_i64 (n := (p.length : Int) + 1 + (i : Int) - 1) ⟨by omega, by omega⟩]
        have hsrl : s.length + r.length = i := by rw [← lv, ← hsr]; simp
        refine way_dec (fun g5 => ?_) (fun g5 => ?_)
        all_goals conv => whnf
        · cases r with
          | nil => simp at hsrl; omega
          | cons y r =>
            rw [List.length_cons] at hsrl
            have d2 : p ++ s ++ x0 :: (y :: r ++ v2 ++ q) = (p ++ s ++ [x0]) ++ y :: (r ++ v2 ++ q) := by simp
            have d3 : p ++ s ++ x0 :: (y :: r ++ v2 ++ q) = (p ++ s) ++ x0 :: [] ++ y :: (r ++ v2 ++ q) := by simp
            have c1 : (p.length : Int) + (s.length : Int) = ((p ++ s).length : Int) := by simp
            have c2 : (p.length : Int) + (s.length : Int) + 1 = ((p ++ s ++ [x0]).length : Int) := by simp; omega
            have hN3 : N = (p ++ s ++ x0 :: (y :: r ++ v2 ++ q)).length := by simp at hN' ⊢; omega
            rw [List.length_append] at hN'
            rw [wrap_i64 (n := (p.length : Int) + (s.length : Int) + 1) ⟨by omega, by omega⟩]
            simp only [List.length_append, List.length_cons, List.length_nil] at hN'
            refine ⟨by omega, by omega, rfl, ?_⟩
            conv => whnf
            refine ⟨encLn y, len_map hN3, get_at encLn d2 c2, ?_⟩
            conv => whnf
            refine ⟨by omega, by omega, rfl, ?_⟩
            conv => whnf
            refine ⟨encLn x0, len_map hN3, get_at encLn rfl c1, ?_⟩
            conv => whnf
            refine ⟨by omega, by omega, rfl, ?_⟩
            conv => whnf
            refine ⟨encLn x0, len_map hN3, get_at encLn rfl c1, Nat.le_refl _, ?_⟩
            conv => whnf
            refine ⟨by omega, by omega, rfl, ?_⟩
            conv => whnf
            refine ⟨encLn y, len_mset hN3, get_set encLn d2 c2 (by omega) (by omega), Nat.le_refl _, ?_⟩
            conv => whnf
            rw [updS_updS, updS_updS, sw_far encLn d3 c1 (by simp), wrap_i64 (n := (p.length : Int) + (s.length : Int) + 1) ⟨by omega, by omega⟩]
            have := ih3 (s ++ [y], r) (by rw [← hsr]; simp) (by simp)
            dsimp only at this
            rw [show p ++ (s ++ [y]) ++ x0 :: (r ++ v2 ++ q) = p ++ s ++ y :: [] ++ x0 :: (r ++ v2 ++ q) by simp, show (p.length : Int) + ((s ++ [y]).length : Int) = (p.length : Int) + (s.length : Int) + 1 by simp; omega] at this
            exact this
        · have hr0 : r = [] := List.eq_nil_of_length_eq_zero (by omega)
          subst hr0
          rw [List.append_nil] at hsr
          subst hsr
          rw [show p ++ s ++ x0 :: ([] ++ v2 ++ q) = p ++ (s ++ x0 :: v2) ++ q by simp]
          exact fin_
    · rw [wrap_i64 (n := b - m) ⟨by omega, by omega⟩]
      refine way_eq (fun g2 => ?_) (fun g2 => ?_)
      all_goals conv => whnf
      · obtain ⟨y0, rfl⟩ : ∃ y0, v = [y0] := by
          match v, (by omega : v.length = 1) with
          | [y0], _ => exact ⟨y0, rfl⟩
        try simp only [hcap]
        have hy0 : p ++ u ++ [y0] ++ q = (p ++ u) ++ y0 :: q := by simp
        have hNl := len_map (f := encLn) hN
        have hmu : m = ((p ++ u).length : Int) := by rw [hm]; simp
        rw [show (A.int .i64 a) = aI ((p.length : Int) + ((0 : Nat) : Int)) by rw [ha]; simp, show (A.int .i64 m) = aI ((p.length : Int) + (u.length : Int)) by rw [hm]]
        refine loop (fun (t : Nat × Nat) => s_slices_symMergeCmpFunc__P_window_line_l2 (.own (.U 0) 1 N) (aI ((p.length : Int) + (u.length : Int))) (.fn g caps) (aI ((p.length : Int) + (t.1 : Int))) (aI ((p.length : Int) + (t.2 : Int))) (at0 x (p ++ u ++ [y0] ++ q)))
          (fun t => t.2 - t.1) (fun t => t.1 ≤ t.2 ∧ t.2 ≤ u.length ∧ (∀ i y, i < t.1 → u[i]? = some y → lt y0 y = false) ∧ (∀ i y, t.2 ≤ i → u[i]? = some y → lt y0 y = true)) ?_ (0, u.length) ⟨Nat.zero_le _, Nat.le_refl _, fun i y hi => by omega, fun i y hi hy => by
            have := (List.getElem?_eq_some_iff.1 hy).1
            dsimp only at hi
            omega⟩
        rintro ⟨i, j⟩ ⟨hij, hj, hlo, hhi⟩ ih2
        dsimp only at hij hj hlo hhi ih2 ⊢
        conv => whnf
        refine way_dec (fun g3 => ?_) (fun g3 => ?_)
        all_goals conv => whnf
        · try simp only [hcap]
          rw [wrap_i64 (n := (p.length : Int) + (i : Int) + ((p.length : Int) + (j : Int))) ⟨by omega, by omega⟩, half (by omega) (by omega), show ((p.length : Int) + (i : Int) + ((p.length : Int) + (j : Int))) / 2 = (p.length : Int) + (((i + j) / 2 : Nat) : Int) by omega]
          have hc2 : (i + j) / 2 < u.length := by omega
          obtain ⟨y, hy⟩ := ex_get hc2
          generalize hcd : (i + j) / 2 = c at hc2 hy ⊢
          refine ⟨by omega, by omega, by trivial, ?_⟩
          conv => whnf
          refine ⟨encLn y0, hNl, get_at encLn hy0 (by simp), ?_⟩
          conv => whnf
          refine ⟨by omega, by omega, by trivial, ?_⟩
          conv => whnf
          refine ⟨encLn y, hNl, get_u encLn hy rfl, ?_⟩
          conv => whnf
          try simp only [hcap]
          refine ⟨_, hc y0 y _ _ ⟨rfl, rfl⟩, ?_⟩
          conv => whnf
          refine way_not ?_
          refine way_dec (fun g4 => ?_) (fun g4 => ?_)
          all_goals conv => whnf
          · have hl : lt y0 y = true := by rw [hlt]; exact decide_eq_true g4
            try simp only [hcap]
            exact ih2 (i, c) ⟨by dsimp only; omega, by dsimp only; omega, hlo, fun i2 y2 hi2 hy2 => sw.ltle hl (hsu.get sw hi2 hy hy2)⟩ (by dsimp only; omega)
          · have hl : lt y0 y = false := by rw [hlt]; exact decide_eq_false g4
            try simp only [hcap]
            rw [wrap_i64 (n := (p.length : Int) + (c : Int) + 1) ⟨by omega, by omega⟩, show (p.length : Int) + (c : Int) + 1 = (p.length : Int) + ((c + 1 : Nat) : Int) by omega]
            exact ih2 (c + 1, j) ⟨by dsimp only; omega, hj, fun i2 y2 hi2 hy2 => sw.ntrans _ _ _ hl (hsu.get sw (by omega) hy2 hy), hhi⟩ (by dsimp only; omega)
        · have hij2 : i = j := by omega
          subst hij2
          have hu12 : u = u.take i ++ u.drop i := (List.take_append_drop i u).symm
          have m1 : ∀ y ∈ u.take i, lt y0 y = false := fun y hy => by
            obtain ⟨t, h1, h2⟩ := mem_take hy
            exact hlo t y h1 h2
          have m2 : ∀ y ∈ u.drop i, lt y0 y = true := fun y hy => by
            obtain ⟨t, h1, h2⟩ := mem_dropi hy
            exact hhi t y h1 h2
          have lu : (u.take i).length = i := by rw [List.length_take]; omega
          rw [hu12] at hsu
          generalize hu1 : u.take i = u1 at *
          generalize hu2 : u.drop i = u2 at *
          subst hu12
          have fin_ := h (u1 ++ y0 :: u2) (hsu.left.app (List.pairwise_cons.2 ⟨fun y hy => sw.asym _ _ (m2 y hy), hsu.right⟩) fun y hy z hz => by
              rcases List.mem_cons.1 hz with rfl | hz
              · exact m1 y hy
              · exact hsu.mid y hy z hz)
            (by
              have s1 : Stab lt (u2 ++ [y0]) ([y0] ++ u2) := Stab.swap sw (fun a ha b hb => by rw [List.mem_singleton.1 hb]; exact m2 a ha)
              have := (Stab.refl (lt := lt) u1).app s1
              simpa using this)
          rw [List.length_append] at hN' hj
          simp only [List.length_append, List.length_cons, List.length_nil] at hN'
          rw [show p ++ (u1 ++ u2) ++ [y0] ++ q = p ++ u1 ++ u2 ++ y0 :: ([] ++ q) by simp, show (p.length : Int) + ((u1 ++ u2).length : Int) = (p.length : Int) + (u1.length : Int) + (u2.length : Int) by simp; omega]
          refine loop (fun (t : List Line × List Line) => s_slices_symMergeCmpFunc__P_window_line_l3 (.own (.U 0) 1 N) (aI ((p.length : Int) + (i : Int))) (aI ((p.length : Int) + (u1.length : Int) + (t.1.length : Int))) (at0 x (p ++ u1 ++ t.1 ++ y0 :: (t.2 ++ q))))
            (fun t => t.1.length) (fun t => t.1 ++ t.2 = u2) ?_ (u2, []) (by simp)
          rintro ⟨s, r⟩ hsr ih3
          dsimp only at hsr ih3 ⊢
          have hsrl : s.length + r.length = u2.length := by rw [← hsr]; simp
          conv => whnf
          refine way_dec (fun g5 => ?_) (fun g5 => ?_)
          all_goals conv => whnf
          · rcases List.eq_nil_or_concat s with rfl | ⟨s, z, rfl⟩
            · simp at g5; omega
            · rw [List.concat_eq_append] at *
              have hsz : ((s ++ [z]).length : Int) = (s.length : Int) + 1 := by simp
              have d2 : p ++ u1 ++ (s ++ [z]) ++ y0 :: (r ++ q) = (p ++ u1 ++ s) ++ z :: y0 :: (r ++ q) := by simp
              have c1 : (p.length : Int) + (u1.length : Int) + ((s ++ [z]).length : Int) = ((p ++ u1 ++ (s ++ [z])).length : Int) := by simp; omega
              have c2 : (p.length : Int) + (u1.length : Int) + ((s ++ [z]).length : Int) - 1 = ((p ++ u1 ++ s).length : Int) := by simp; omega
              have hN3 : N = (p ++ u1 ++ (s ++ [z]) ++ y0 :: (r ++ q)).length := by simp at hsrl ⊢; omega
              have b1 : (p.length : Int) + (u1.length : Int) + ((s ++ [z]).length : Int) < N := by rw [hsz]; simp at hsrl; omega
              have hw : IntKind.wrap .i64 ((p.length : Int) + (u1.length : Int) + ((s ++ [z]).length : Int) - 1) = (p.length : Int) + (u1.length : Int) + ((s ++ [z]).length : Int) - 1 := wrap_i64 ⟨by omega, by omega⟩
              rw [hw]
              refine ⟨by omega, by omega, by trivial, ?_⟩
              conv => whnf
              refine ⟨encLn z, len_map hN3, get_at encLn d2 c2, ?_⟩
              conv => whnf
              refine ⟨by omega, by omega, by trivial, ?_⟩
              conv => whnf
              refine ⟨encLn y0, len_map hN3, get_at encLn rfl c1, ?_⟩
              conv => whnf
              refine ⟨by omega, by omega, by trivial, ?_⟩
              conv => whnf
              refine ⟨encLn y0, len_map hN3, get_at encLn rfl c1, Nat.le_refl _, ?_⟩
              conv => whnf
              refine ⟨by omega, by omega, by trivial, ?_⟩
              conv => whnf
              refine ⟨encLn z, len_mset hN3, get_set encLn d2 c2 (by omega) (by omega), Nat.le_refl _, ?_⟩
              conv => whnf
              rw [updS_updS, updS_updS, sw_int encLn d2 (by rw [c1]; simp; omega) c2, hw, show (p.length : Int) + (u1.length : Int) + ((s ++ [z]).length : Int) - 1 = (p.length : Int) + (u1.length : Int) + (s.length : Int) by omega]
              exact ih3 (s, z :: r) (by rw [← hsr]; simp) (by simp)
          · have hs0 : s = [] := List.eq_nil_of_length_eq_zero (by omega)
            subst hs0
            rw [List.nil_append] at hsr
            subst hsr
            rw [show p ++ u1 ++ [] ++ y0 :: (r ++ q) = p ++ (u1 ++ y0 :: r) ++ q by simp]
            exact fin_
      · rw [wrap_i64 (n := a + b) ⟨by omega, by omega⟩, half (by omega) (by omega)]
        have hmid : ∃ mid : Int, mid = (a + b) / 2 := ⟨_, rfl⟩
        obtain ⟨mid, hmid⟩ := hmid
        rw [← hmid, wrap_i64 (n := mid + m) ⟨by omega, by omega⟩]
        have hNl := len_map (f := encLn) hN
        -- the search, from either start
        have key : ∀ (lo hi : Int), a ≤ lo → lo ≤ hi → hi ≤ m → hi ≤ mid → mid + m - b ≤ lo → (lo = a ∨ lo = mid + m - b) → (hi = m ∨ hi = mid) → ∀ (Q : Ex → St → Prop),
            (∀ (u1 u2 v1 v2 : List Line) (s : Int), u = u1 ++ u2 → v = v1 ++ v2 → s = (p.length : Int) + u1.length → (u1.length : Int) + v1.length = mid - a → (∀ x ∈ u2, ∀ y ∈ v1, lt y x = true) → (∀ x ∈ u1, ∀ y ∈ v2, lt y x = false) →
              Q (.exit 8) (s_slices_symMergeCmpFunc__P_window_line_x8 (.own (.U 0) 1 N) (aI a) (aI m) (aI b) (.fn g caps) (aI mid) (aI (mid + m)) (aI s) (at0 x (p ++ u ++ v ++ q)))) →
            Loop (wpc CC i_slices_symMergeCmpFunc__P_window_line_l4) Q (s_slices_symMergeCmpFunc__P_window_line_l4 (.own (.U 0) 1 N) (aI a) (aI m) (aI b) (.fn g caps) (aI mid) (aI (mid + m)) (aI lo) (aI hi) (aI (mid + m - 1)) (at0 x (p ++ u ++ v ++ q))) := by
          intro lo hi hlo hlh him hid hlb hlo2 hhi2 Q hQ
          refine loop (fun (t : Int × Int) => s_slices_symMergeCmpFunc__P_window_line_l4 (.own (.U 0) 1 N) (aI a) (aI m) (aI b) (.fn g caps) (aI mid) (aI (mid + m)) (aI t.1) (aI t.2) (aI (mid + m - 1)) (at0 x (p ++ u ++ v ++ q)))
            (fun t => (t.2 - t.1).toNat) (fun t => lo ≤ t.1 ∧ t.1 ≤ t.2 ∧ t.2 ≤ hi ∧
              (∀ c : Int, lo ≤ c → c < t.1 → ∀ x y, u[(c - a).toNat]? = some x → v[(mid - 1 - c).toNat]? = some y → lt y x = false) ∧
              (∀ c : Int, t.2 ≤ c → c < hi → ∀ x y, u[(c - a).toNat]? = some x → v[(mid - 1 - c).toNat]? = some y → lt y x = true)) ?_ (lo, hi) ⟨Int.le_refl _, hlh, Int.le_refl _, fun c h1 h2 => by dsimp only at h2; omega, fun c h1 h2 => by dsimp only at h1; omega⟩
          rintro ⟨st, r⟩ ⟨k1, k2, k3, k4, k5⟩ ih2
          dsimp only at k1 k2 k3 k4 k5 ih2 ⊢
          conv => whnf
          refine way_dec (fun g3 => ?_) (fun g3 => ?_)
          all_goals conv => whnf
          · try simp only [hcap]
            rw [wrap_i64 (n := st + r) ⟨by omega, by omega⟩, half (by omega) (by omega)]
            obtain ⟨c, hcd⟩ : ∃ c : Int, c = (st + r) / 2 := ⟨_, rfl⟩
            rw [← hcd, wrap_i64 (n := mid + m - 1 - c) ⟨by omega, by omega⟩]
            have hcu : (c - a).toNat < u.length := by omega
            have hcv : (mid - 1 - c).toNat < v.length := by omega
            obtain ⟨xx, hx⟩ := ex_get hcu
            obtain ⟨yy, hy⟩ := ex_get hcv
            refine ⟨by omega, by omega, by trivial, ?_⟩
            conv => whnf
            refine ⟨encLn yy, hNl, get_v encLn hy (by omega), ?_⟩
            conv => whnf
            refine ⟨by omega, by omega, by trivial, ?_⟩
            conv => whnf
            refine ⟨encLn xx, hNl, get_u encLn hx (by omega), ?_⟩
            conv => whnf
            try simp only [hcap]
            refine ⟨_, hc yy xx _ _ ⟨rfl, rfl⟩, ?_⟩
            conv => whnf
            refine way_not ?_
            refine way_dec (fun g4 => ?_) (fun g4 => ?_)
            all_goals conv => whnf
            · have hl : lt yy xx = true := by rw [hlt]; exact decide_eq_true g4
              try simp only [hcap]
              exact ih2 (st, c) ⟨k1, by dsimp only; omega, by dsimp only; omega, k4, fun c2 h1 h2 x2 y2 hx2 hy2 => sw.ltle (sw.lelt (hsv.get sw (by dsimp only at h1; omega) hy2 hy) hl) (hsu.get sw (by dsimp only at h1; omega) hx hx2)⟩ (by dsimp only; omega)
            · have hl : lt yy xx = false := by rw [hlt]; exact decide_eq_false g4
              try simp only [hcap]
              rw [wrap_i64 (n := c + 1) ⟨by omega, by omega⟩]
              exact ih2 (c + 1, r) ⟨by dsimp only; omega, by dsimp only; omega, k3, fun c2 h1 h2 x2 y2 hx2 hy2 => sw.ntrans _ _ _ (sw.ntrans _ _ _ (hsv.get sw (by dsimp only at h2; omega) hy hy2) hl) (hsu.get sw (by dsimp only at h2; omega) hx2 hx), k5⟩ (by dsimp only; omega)
          · have hsr : st = r := by omega
            subst hsr
            try simp only [hcap]
            have l1 : (u.take (st - a).toNat).length = (st - a).toNat := by rw [List.length_take]; omega
            have l2 : (v.take (mid - st).toNat).length = (mid - st).toNat := by rw [List.length_take]; omega
            refine hQ (u.take (st - a).toNat) (u.drop (st - a).toNat) (v.take (mid - st).toNat) (v.drop (mid - st).toNat) st (List.take_append_drop _ _).symm (List.take_append_drop _ _).symm (by omega) (by omega) ?_ ?_
            · intro x hx y hy
              obtain ⟨i, hi1, hi2⟩ := mem_dropi hx
              obtain ⟨j, hj1, hj2⟩ := mem_take hy
              have hil := (List.getElem?_eq_some_iff.1 hi2).1
              have hcu : (st - a).toNat < u.length := by omega
              have hcv : (mid - 1 - st).toNat < v.length := by omega
              obtain ⟨xx, hxx⟩ := ex_get hcu
              obtain ⟨yy, hyy⟩ := ex_get hcv
              have hl := k5 st (Int.le_refl _) (by omega) xx yy hxx hyy
              exact sw.ltle (sw.lelt (hsv.get sw (by omega) hj2 hyy) hl) (hsu.get sw hi1 hxx hi2)
            · intro x hx y hy
              obtain ⟨i, hi1, hi2⟩ := mem_take hx
              obtain ⟨j, hj1, hj2⟩ := mem_dropi hy
              have hjl := (List.getElem?_eq_some_iff.1 hj2).1
              have hcu : (st - 1 - a).toNat < u.length := by omega
              have hcv : (mid - 1 - (st - 1)).toNat < v.length := by omega
              obtain ⟨xx, hxx⟩ := ex_get hcu
              obtain ⟨yy, hyy⟩ := ex_get hcv
              have hl := k4 (st - 1) (by omega) (by omega) xx yy hxx hyy
              exact sw.ntrans _ _ _ (sw.ntrans _ _ _ (hsv.get sw (by omega) hyy hj2) hl) (hsu.get sw (by omega) hi2 hxx)
        apply way_join
        · intro g5 hR
          have g5 := of_decide_eq_true g5
          conv => whnf
          try simp only [hcap]
          rw [wrap_i64 (n := mid + m - b) ⟨by omega, by omega⟩, wrap_i64 (n := mid + m - 1) ⟨by omega, by omega⟩]
          exact key (mid + m - b) mid (by omega) (by omega) (by omega) (by omega) (by omega) (.inr rfl) (.inr rfl) _ hR.out
        · intro g5 hR
          have g5 := of_decide_eq_false g5
          conv => whnf
          try simp only [hcap]
          rw [wrap_i64 (n := mid + m - 1) ⟨by omega, by omega⟩]
          exact key a m (by omega) (by omega) (by omega) (by omega) (by omega) (.inl rfl) (.inl rfl) _ hR.out
        · intro u1 u2 v1 v2 s hu12 hv12 hs hl12 hA hB
          subst hu12
          subst hv12
          simp only [List.length_append] at hN' hk hb hm hu0 hv0
          conv => whnf
          try simp only [hcap]
          rw [wrap_i64 (n := mid + m - s) ⟨by omega, by omega⟩]
          have hu1 := hsu.left
          have hu2 := hsu.right
          have hv1 := hsv.left
          have hv2 := hsv.right
          apply way_join
          · intro g6 hR
            have g6 := of_decide_eq_true g6
            conv => whnf
            refine way_dec (fun g7 => ?_) (fun g7 => ?_)
            all_goals conv => whnf
            · try simp only [hcap]
              rw [show p ++ (u1 ++ u2) ++ (v1 ++ v2) ++ q = p ++ u1 ++ u2 ++ v1 ++ (v2 ++ q) by simp]
              refine rotate hcap (p ++ u1) u2 v1 (v2 ++ q) (List.length_pos_iff.1 (by omega)) (List.length_pos_iff.1 (by omega)) (by simp; omega) (by omega) (by simp; omega) (by simp; omega) (by simp; omega) ?_
              refine ⟨fun h => (by cases h), ?_⟩
              conv => whnf
              try simp only [hcap]
              exact hR.out
            · have : v1 = [] := List.eq_nil_of_length_eq_zero (by omega)
              try simp only [hcap]
              rw [show p ++ (u1 ++ u2) ++ (v1 ++ v2) ++ q = p ++ u1 ++ v1 ++ u2 ++ (v2 ++ q) by subst this; simp]
              exact hR.out
          · intro g6 hR
            have g6 := of_decide_eq_false g6
            have : u2 = [] := List.eq_nil_of_length_eq_zero (by omega)
            conv => whnf
            try simp only [hcap]
            rw [show p ++ (u1 ++ u2) ++ (v1 ++ v2) ++ q = p ++ u1 ++ v1 ++ u2 ++ (v2 ++ q) by subst this; simp]
            exact hR.out
          · conv => whnf
            apply way_joins (fun r1 => Srt lt r1 ∧ Stab lt (u1 ++ v1) r1)
            · intro g6 hR
              have g6 := of_decide_eq_true g6
              conv => whnf
              refine way_dec (fun g7 => ?_) (fun g7 => ?_)
              all_goals conv => whnf
              · try simp only [hcap]
                rw [show p ++ u1 ++ v1 ++ u2 ++ (v2 ++ q) = p ++ u1 ++ v1 ++ (u2 ++ v2 ++ q) by simp]
                refine ih p u1 v1 (u2 ++ v2 ++ q) (by omega) (List.length_pos_iff.1 (by omega)) (List.length_pos_iff.1 (by omega)) hu1 hv1 (by simp; omega) ha hs (by omega) ?_
                intro r1 hr1 hs1
                refine ⟨fun h => (by cases h), ?_⟩
                conv => whnf
                try simp only [hcap]
                exact hR.out r1 ⟨hr1, hs1⟩
              · have : v1 = [] := List.eq_nil_of_length_eq_zero (by omega)
                try simp only [hcap]
                rw [show p ++ u1 ++ v1 ++ u2 ++ (v2 ++ q) = p ++ (u1 ++ v1) ++ (u2 ++ v2 ++ q) by simp]
                exact hR.out (u1 ++ v1) ⟨by subst this; simpa using hu1, Stab.refl _⟩
            · intro g6 hR
              have g6 := of_decide_eq_false g6
              have : u1 = [] := List.eq_nil_of_length_eq_zero (by omega)
              conv => whnf
              try simp only [hcap]
              rw [show p ++ u1 ++ v1 ++ u2 ++ (v2 ++ q) = p ++ (u1 ++ v1) ++ (u2 ++ v2 ++ q) by simp]
              exact hR.out (u1 ++ v1) ⟨by subst this; simpa using hv1, Stab.refl _⟩
            · rintro r1 ⟨hr1, hs1⟩
              have lr := hs1.len
              rw [List.length_append] at lr
              have joinS : ∀ r2, Srt lt r2 → Stab lt (u2 ++ v2) r2 → Srt lt (r1 ++ r2) ∧ Stab lt (u1 ++ u2 ++ (v1 ++ v2)) (r1 ++ r2) := by
                intro r2 hr2 hs2
                refine ⟨hr1.app hr2 fun y hy z hz => ?_, ?_⟩
                · rcases List.mem_append.1 (hs1.mem.1 hy) with hy | hy <;> rcases List.mem_append.1 (hs2.mem.1 hz) with hz | hz
                  · exact hsu.mid y hy z hz
                  · exact hB y hy z hz
                  · exact sw.asym _ _ (hA z hz y hy)
                  · exact hsv.mid y hy z hz
                · have s1 : Stab lt (u2 ++ v1) (v1 ++ u2) := Stab.swap sw hA
                  have s2 := ((Stab.refl (lt := lt) u1).app s1).app (Stab.refl (lt := lt) v2)
                  have s3 := hs1.app hs2
                  have s4 : Stab lt (u1 ++ u2 ++ (v1 ++ v2)) (u1 ++ v1 ++ (u2 ++ v2)) := by simpa using s2
                  exact s4.trans s3
              conv => whnf
              refine way_dec (fun g6 => ?_) (fun g6 => ?_)
              all_goals conv => whnf
              · refine way_dec (fun g7 => ?_) (fun g7 => ?_)
                all_goals conv => whnf
                · try simp only [hcap]
                  rw [show p ++ r1 ++ (u2 ++ v2 ++ q) = (p ++ r1) ++ u2 ++ v2 ++ q by simp]
                  refine ih (p ++ r1) u2 v2 q (by omega) (List.length_pos_iff.1 (by omega)) (List.length_pos_iff.1 (by omega)) hu2 hv2 (by simp; omega) (by simp; omega) (by simp; omega) (by simp; omega) ?_
                  intro r2 hr2 hs2
                  refine ⟨fun h => (by cases h), ?_⟩
                  conv => whnf
                  obtain ⟨j1, j2⟩ := joinS r2 hr2 hs2
                  have := h (r1 ++ r2) j1 j2
                  rw [show p ++ (r1 ++ r2) ++ q = p ++ r1 ++ r2 ++ q by simp] at this
                  exact this
                · have : v2 = [] := List.eq_nil_of_length_eq_zero (by omega)
                  obtain ⟨j1, j2⟩ := joinS (u2 ++ v2) (by subst this; simpa using hu2) (Stab.refl _)
                  have := h (r1 ++ (u2 ++ v2)) j1 j2
                  rw [show p ++ (r1 ++ (u2 ++ v2)) ++ q = p ++ r1 ++ (u2 ++ v2 ++ q) by simp] at this
                  exact this
              · have : u2 = [] := List.eq_nil_of_length_eq_zero (by omega)
                obtain ⟨j1, j2⟩ := joinS (u2 ++ v2) (by subst this; simpa using hv2) (Stab.refl _)
                have := h (r1 ++ (u2 ++ v2)) j1 j2
                rw [show p ++ (r1 ++ (u2 ++ v2)) ++ q = p ++ r1 ++ (u2 ++ v2 ++ q) by simp] at this
                exact this

theorem stable (sw : SW lt) (hlt : ∀ a b, lt a b = decide (cf a b < 0)) (hcap : ∀ f, A.renL f caps = caps) (hc : Cmp x cf g caps) (d : List Line) {N : Nat} (hN : N = d.length) (hlen : (N : Int) ≤ maxI / 4)
    (h : ∀ r, Srt lt r → Stab lt d r → K [] (at0 x r)) :
    CC n_slices_stableCmpFunc__P_window_line [.own (.U 0) 1 N, aI N, .fn g caps] (at0 x d) K := by
  have hmax : maxI / 4 = 2305843009213693951 := rfl
  have hmax2 : maxI - 100 = 9223372036854775707 := rfl
  refine fnc g_slices_stableCmpFunc__P_window_line rfl ?_
  conv => whnf
  try simp only [hcap]
  -- blocks of 20
  refine loop (fun (t : List (List Line) × List Line) => s_slices_stableCmpFunc__P_window_line_l0 (.own (.U 0) 1 N) (aI N) (.fn g caps) (aI 20) (aI t.1.flatten.length) (aI ((t.1.flatten.length : Int) + 20)) (at0 x (t.1.flatten ++ t.2)))
    (fun t => t.2.length) (fun t => (∀ l ∈ t.1, Srt lt l ∧ l.length = 20) ∧ Stab lt d (t.1.flatten ++ t.2)) ?_ ([], d) ⟨by simp, Stab.refl _⟩
  rintro ⟨D, rest⟩ ⟨hD, hst⟩ ih
  dsimp only at hD hst ih ⊢
  have hl := hst.len
  rw [List.length_append] at hl
  conv => whnf
  try simp only [hcap]
  refine way_dec (fun g1 => ?_) (fun g1 => ?_)
  all_goals conv => whnf
  · have e1 : rest = rest.take 20 ++ rest.drop 20 := (List.take_append_drop _ _).symm
    have l1 : (rest.take 20).length = 20 := by rw [List.length_take]; omega
    generalize rest.take 20 = s at e1 l1
    generalize rest.drop 20 = q at e1
    subst e1
    rw [List.length_append] at hl
    try simp only [hcap]
    rw [show D.flatten ++ (s ++ q) = D.flatten ++ s ++ q by simp, show (A.int .i64 ((D.flatten.length : Int) + 20)) = aI ((D.flatten.length + s.length : Nat) : Int) by rw [l1]; simp]
    refine insertion sw hlt hcap hc D.flatten s q (by simp only [List.length_append]; omega) (by omega) fun r hr hs => ?_
    refine ⟨fun h => (by cases h), ?_⟩
    conv => whnf
    try simp only [hcap]
    have lr := hs.len
    rw [wrap_i64 (n := (D.flatten.length : Int) + 20 + 20) ⟨by omega, by omega⟩]
    have := ih (D ++ [r], q) ⟨?_, ?_⟩ (by simp; omega)
    · dsimp only at this
      rw [List.flatten_append, List.flatten_singleton, List.length_append, lr, l1, show ((D.flatten.length + 20 : Nat) : Int) = (D.flatten.length : Int) + 20 by omega] at this
      exact this
    · intro l hl2
      rcases List.mem_append.1 hl2 with hl2 | hl2
      · exact hD l hl2
      · rw [List.mem_singleton.1 hl2]; exact ⟨hr, by omega⟩
    · refine hst.trans ?_
      have := ((Stab.refl (lt := lt) D.flatten).app hs).app (Stab.refl (lt := lt) q)
      simpa using this
  · try simp only [hcap]
    rw [show D.flatten ++ rest = D.flatten ++ rest ++ [] by simp, show (A.int .i64 (N : Int)) = aI ((D.flatten.length + rest.length : Nat) : Int) by rw [hN, ← hl]]
    refine insertion sw hlt hcap hc D.flatten rest [] (by simp only [List.length_append, List.length_nil]; omega) (by omega) fun r hr hs => ?_
    refine ⟨fun h => (by cases h), ?_⟩
    conv => whnf
    try simp only [hcap]
    have lr := hs.len
    -- ever greater blocks
    rw [show D.flatten ++ r ++ [] = (D ++ [r]).flatten by simp]
    refine loop (fun (t : Nat × List (List Line)) => s_slices_stableCmpFunc__P_window_line_l1 (.own (.U 0) 1 N) (aI ((D.flatten.length + rest.length : Nat) : Int)) (.fn g caps) (aI (t.1 : Int)) (at0 x t.2.flatten))
      (fun t => N - t.1) (fun t => 0 < t.1 ∧ Shape t.1 t.2 ∧ (∀ l ∈ t.2, Srt lt l) ∧ Stab lt d t.2.flatten) ?_ (20, D ++ [r]) ⟨by simp, shape_snoc (by omega) fun l hl => (hD l hl).2, ?_, ?_⟩
    · rintro ⟨k, L⟩ ⟨hk, hsh, hso, hst2⟩ ih2
      dsimp only at hk hsh hso hst2 ih2 ⊢
      have hl2 := hst2.len
      conv => whnf
      try simp only [hcap]
      refine way_dec (fun g2 => ?_) (fun g2 => ?_)
      all_goals conv => whnf
      · try simp only [hcap]
        rw [wrap_i64 (n := 2 * (k : Int)) ⟨by omega, by omega⟩, show (A.int .i64 (2 * (k : Int))) = aI ((([] : List (List Line)).flatten.length : Int) + 2 * (k : Int)) by simp]
        refine loop (fun (t : List (List Line) × List (List Line)) => s_slices_stableCmpFunc__P_window_line_l2 (.own (.U 0) 1 N) (aI ((D.flatten.length + rest.length : Nat) : Int)) (.fn g caps) (aI (k : Int)) (aI t.1.flatten.length) (aI ((t.1.flatten.length : Int) + 2 * (k : Int))) (at0 x (t.1.flatten ++ t.2.flatten)))
          (fun t => t.2.length) (fun t => (∀ l ∈ t.1, Srt lt l ∧ l.length = 2 * k) ∧ Shape k t.2 ∧ (∀ l ∈ t.2, Srt lt l) ∧ Stab lt d (t.1.flatten ++ t.2.flatten)) ?_ ([], L) ⟨by simp, hsh, hso, hst2⟩
        rintro ⟨E, M⟩ ⟨hE, hsM, hoM, hst3⟩ ih3
        dsimp only at hE hsM hoM hst3 ih3 ⊢
        have hl3 := hst3.len
        rw [List.length_append] at hl3
        have next_ : ∀ L', Shape (2 * k) L' → (∀ l ∈ L', Srt lt l) → Stab lt d L'.flatten → Loop (wpc CC i_slices_stableCmpFunc__P_window_line_l1) (blkQ 2 (fnQ i_slices_stableCmpFunc__P_window_line.res K)) (s_slices_stableCmpFunc__P_window_line_l1 (.own (.U 0) 1 N) (aI ((D.flatten.length + rest.length : Nat) : Int)) (.fn g caps) (aI ((2 * k : Nat) : Int)) (at0 x L'.flatten)) := by
          intro L' h1 h2 h3
          exact ih2 (2 * k, L') ⟨by dsimp only; omega, h1, h2, h3⟩ (by dsimp only; omega)
        conv => whnf
        try simp only [hcap]
        refine way_dec (fun g3 => ?_) (fun g3 => ?_)
        all_goals conv => whnf
        · -- two whole ones
          match M, hsM, hoM, hst3, hl3 with
          | [], _, _, _, hl3 => simp only [List.flatten_cons, List.flatten_nil, List.length_append, List.length_nil] at hl3; omega
          | [l], hsM, _, _, hl3 =>
            have := shape_le hsM
            simp only [List.flatten_cons, List.flatten_nil, List.length_append, List.length_nil] at hl3
            omega
          | l1 :: l2 :: M', hsM, hoM, hst3, hl3 =>
            have h1 := shape_head hsM
            have hs2 := shape_tail hsM
            have h2 : l2.length = k := by
              cases M' with
              | nil =>
                have := shape_le hs2
                simp only [List.flatten_cons, List.flatten_nil, List.length_append, List.length_nil] at hl3
                omega
              | cons a r => exact shape_head hs2
            rw [List.flatten_cons, List.flatten_cons, List.length_append, List.length_append] at hl3
            rw [wrap_i64 (n := (E.flatten.length : Int) + (k : Int)) ⟨by omega, by omega⟩]
            try simp only [hcap]
            rw [show E.flatten ++ (l1 :: l2 :: M').flatten = E.flatten ++ l1 ++ l2 ++ M'.flatten by simp]
            refine symMerge sw hlt hcap hc hlen _ E.flatten l1 l2 M'.flatten (Nat.le_refl _) (List.length_pos_iff.1 (by omega)) (List.length_pos_iff.1 (by omega)) (hoM l1 (by simp)) (hoM l2 (by simp)) (by simp only [List.length_append, List.length_nil]; omega) rfl (by omega) (by omega) ?_
            intro r' hr' hs'
            refine ⟨fun h => (by cases h), ?_⟩
            conv => whnf
            try simp only [hcap]
            have lr' := hs'.len
            rw [List.length_append] at lr'
            rw [wrap_i64 (n := 2 * (k : Int)) ⟨by omega, by omega⟩, wrap_i64 (n := (E.flatten.length : Int) + 2 * (k : Int) + 2 * (k : Int)) ⟨by omega, by omega⟩]
            have := ih3 (E ++ [r'], M') ⟨?_, shape_tail hs2, fun l hl => hoM l (by simp [hl]), ?_⟩ (by simp only [List.length_cons]; omega)
            · dsimp only at this
              rw [List.flatten_append, List.flatten_singleton, List.length_append, lr', h1, h2, show ((E.flatten.length + (k + k) : Nat) : Int) = (E.flatten.length : Int) + 2 * (k : Int) by omega] at this
              exact this
            · intro l hl
              rcases List.mem_append.1 hl with hl | hl
              · exact hE l hl
              · rw [List.mem_singleton.1 hl]; exact ⟨hr', by omega⟩
            · refine hst3.trans ?_
              have := ((Stab.refl (lt := lt) E.flatten).app hs').app (Stab.refl (lt := lt) M'.flatten)
              simpa using this
        · -- the rest
          rw [wrap_i64 (n := (E.flatten.length : Int) + (k : Int)) ⟨by omega, by omega⟩]
          refine way_dec (fun g4 => ?_) (fun g4 => ?_)
          all_goals conv => whnf
          · match M, hsM, hoM, hst3, hl3 with
            | [], _, _, _, hl3 => simp only [List.flatten_cons, List.flatten_nil, List.length_append, List.length_nil] at hl3; omega
            | [l], hsM, _, _, hl3 =>
              have := shape_le hsM
              simp only [List.flatten_cons, List.flatten_nil, List.length_append, List.length_nil] at hl3
              omega
            | l1 :: l2 :: M', hsM, hoM, hst3, hl3 =>
              have h1 := shape_head hsM
              have hs2 := shape_tail hsM
              rw [List.flatten_cons, List.flatten_cons, List.length_append, List.length_append] at hl3
              have hM' : M'.flatten = [] := by
                refine List.eq_nil_of_length_eq_zero ?_
                cases M' with
                | nil => rfl
                | cons a r =>
                  have := shape_head hs2
                  omega
              rw [hM', List.length_nil] at hl3
              have h2 := shape_le hs2
              try simp only [hcap]
              rw [show E.flatten ++ (l1 :: l2 :: M').flatten = E.flatten ++ l1 ++ l2 ++ [] by simp [hM']]
              refine symMerge sw hlt hcap hc hlen _ E.flatten l1 l2 [] (Nat.le_refl _) (List.length_pos_iff.1 (by omega)) (List.length_pos_iff.1 (by omega)) (hoM l1 (by simp)) (hoM l2 (by simp)) (by simp only [List.length_append, List.length_nil]; omega) rfl (by omega) (by omega) ?_
              intro r' hr' hs'
              refine ⟨fun h => (by cases h), ?_⟩
              conv => whnf
              try simp only [hcap]
              have lr' := hs'.len
              rw [List.length_append] at lr'
              rw [wrap_i64 (n := (k : Int) * 2) ⟨by omega, by omega⟩, show (k : Int) * 2 = ((2 * k : Nat) : Int) by omega, show E.flatten ++ r' ++ [] = (E ++ [r']).flatten by simp]
              refine next_ _ (shape_snoc (by omega) fun l hl => (hE l hl).2) (fun l hl => ?_) ?_
              · rcases List.mem_append.1 hl with hl | hl
                · exact (hE l hl).1
                · rw [List.mem_singleton.1 hl]; exact hr'
              · refine hst3.trans ?_
                have := (Stab.refl (lt := lt) E.flatten).app hs'
                simpa [hM'] using this
          · try simp only [hcap]
            rw [wrap_i64 (n := (k : Int) * 2) ⟨by omega, by omega⟩, show (k : Int) * 2 = ((2 * k : Nat) : Int) by omega]
            match M, hsM, hoM, hst3, hl3 with
            | [], _, _, hst3, hl3 =>
              rw [show E.flatten ++ ([] : List (List Line)).flatten = E.flatten by simp] at hst3 ⊢
              exact next_ E (shape_full fun l hl => (hE l hl).2) (fun l hl => (hE l hl).1) hst3
            | l1 :: M', hsM, hoM, hst3, hl3 =>
              have hM' : M'.flatten = [] := by
                refine List.eq_nil_of_length_eq_zero ?_
                rw [List.flatten_cons, List.length_append] at hl3
                cases M' with
                | nil => rfl
                | cons a r =>
                  have := shape_head hsM
                  omega
              have e5 : E.flatten ++ (l1 :: M').flatten = (E ++ [l1]).flatten := by simp [hM']
              rw [e5] at hst3 ⊢
              refine next_ _ (shape_snoc (by have := shape_le hsM; omega) fun l hl => (hE l hl).2) (fun l hl => ?_) hst3
              rcases List.mem_append.1 hl with hl | hl
              · exact (hE l hl).1
              · rw [List.mem_singleton.1 hl]; exact hoM l1 (by simp)
      · exact h _ (shape_one hsh hso (by omega) hk) hst2
    · intro l hl2
      rcases List.mem_append.1 hl2 with hl2 | hl2
      · exact (hD l hl2).1
      · rw [List.mem_singleton.1 hl2]; exact hr
    · refine hst.trans ?_
      have := (Stab.refl (lt := lt) D.flatten).app hs
      simpa using this

theorem SortStable (sw : SW lt) (hlt : ∀ a b, lt a b = decide (cf a b < 0)) (hcap : ∀ f, A.renL f caps = caps) (hc : Cmp x cf g caps) (d : List Line) {N : Nat} (hN : N = d.length) (hlen : (N : Int) ≤ maxI / 4)
    (h : K [] (at0 x (isort lt d))) :
    CC n_slices_SortStableFunc__P_window_line [.own (.U 0) 1 N, .fn g caps] (at0 x d) K := by
  refine fnc g_slices_SortStableFunc__P_window_line rfl ?_
  conv => whnf
  intro hl
  conv => whnf
  try simp only [hcap]
  refine stable sw hlt hcap hc d hN hlen fun r hr hs => ?_
  refine ⟨fun h => (by cases h), ?_⟩
  conv => whnf
  rw [sort_is sw hr hs]
  exact h
end
end Sort_P_window_line
end Go.Tide

/- Windows: what each function comes to. -/
set_option linter.unusedVariables false
set_option maxRecDepth 8000
namespace Go.Tide
variable {x : Sto} {K : List A → Sto → Prop}

theorem s_slices_Clone__api_Val (r : Row) (hr : r.length ≤ 1000000) (h : K [.ngs ty_api_Val 3 (r.map encV)] x) : CC n_slices_Clone__api_Val [aR r] x K := by
  have hmaxB : maxB = 140737488355328 := rfl
  have hmax : maxI = 9223372036854775807 := rfl
  refine fnc g_slices_Clone__api_Val rfl ?_
  conv => whnf
  intro b hb
  conv => whnf
  refine way (fun h1 => ?_) (fun h1 => ?_)
  all_goals conv => whnf
  · have h2 : b = true := by cases b <;> first | rfl | cases h1
    have h3 := hb h2
    have : r = [] := by simpa using h3
    subst this
    refine ⟨rfl, ?_⟩
    exact h
  · refine ⟨rfl, rfl, rfl, ?_, by simp only [List.length_map, List.length_nil]; omega, by simp only [List.length_map, List.length_nil]; omega, ?_⟩
    · intro z hz
      obtain ⟨v, _, rfl⟩ := List.mem_map.1 hz
      rfl
    · conv => whnf
      refine ⟨by simp, ?_⟩
      simp only [List.nil_append]
      exact h

/-- Three objects handed in. -/
abbrev st3 (a b c : Ob) : Sto := updS (updS (updS (fun _ => none) 2 (some c)) 1 (some b)) 0 (some a)

theorem st3_0 (a b c a' : Ob) : updS (st3 a b c) 0 (some a') = st3 a' b c := updS_updS _ _ _ _
theorem st3_1 (a b c b' : Ob) : updS (st3 a b c) 1 (some b') = st3 a b' c := by
  funext t
  unfold st3 updS
  match t with
  | 0 => rfl
  | 1 => rfl
  | 2 => rfl
  | _ + 3 => rfl
theorem st3_2 (a b c c' : Ob) : updS (st3 a b c) 2 (some c') = st3 a b c' := by
  funext t
  unfold st3 updS
  match t with
  | 0 => rfl
  | 1 => rfl
  | 2 => rfl
  | _ + 3 => rfl

abbrev oL : Option Line → A
  | none => .nilp
  | some a => pLn a

/-- The teller, as its call has it. -/
abbrev stT (n : Nat) (t : Tel) : Sto := st3 (.row ty_int64 1 (t.sums.map encI)) (.row ty_bool 1 (t.some.map encB)) (.cells [.int .i64 t.row, .int .i64 t.rank, .int .i64 t.dense, .own (.U 0) 1 n, .own (.U 1) 1 n, oL t.ahead])

/-- The teller's loop over windows. -/
theorem tell_loop (R rk dn : Int) (ah : Option Line) (sums : List Int) (some_ : List Bool) (ws : List Agg) (l : Line) {n : Nat} (hn : n = ws.length) (hn8 : n ≤ 1000) (hs : sums.length = ws.length) (hb : some_.length = ws.length)
    (hw : ∀ w ∈ ws, 1 ≤ w.kind ∧ w.kind ≤ 5 ∧ (4 ≤ w.kind → w.x.Ok)) (hl : l.row.Right) (hl8 : l.row.length ≤ 1000) (ha : ∀ a, ah = some a → a.row.Right) (hlw : ((ws.map encG).length : Int) ≤ maxI)
    (h : K [aR (l.row ++ (winAll R rk dn ah l ws sums some_).map (·.1))] (st3 (.row ty_int64 1 (((winAll R rk dn ah l ws sums some_).map (·.2.1)).map encI)) (.row ty_bool 1 (((winAll R rk dn ah l ws sums some_).map (·.2.2)).map encB)) (.cells [.int .i64 R, .int .i64 rk, .int .i64 dn, .own (.U 0) 1 n, .own (.U 1) 1 n, pLn l]))) :
    Loop (wpc CC i_window_teller_tell_l0) (blkQ 0 (thenQ (wpc CC i_window_teller_tell_a0 (fnQ i_window_teller_tell.res K)) (fnQ i_window_teller_tell.res K)))
      (s_window_teller_tell_l0 (.ref (.U 2) 0) (pLn l) (.gs (.L 59) (l.row.map encV)) (.sl (ws.map encG)) (aI (ws.map encG).length) (aI 0) (.tok ty_api_Val 3 (l.row.map encV).length)
        (st3 (.row ty_int64 1 (sums.map encI)) (.row ty_bool 1 (some_.map encB)) (.cells [.int .i64 R, .int .i64 rk, .int .i64 dn, .own (.U 0) 1 n, .own (.U 1) 1 n, oL ah]))) := by
  have hmaxB : maxB = 140737488355328 := rfl
  have hmax : maxI = 9223372036854775807 := rfl
  generalize hO : winAll R rk dn ah l ws sums some_ = outs at h
  have hol : outs.length = ws.length := by rw [← hO]; exact winAll_len _ _ _ _ _ _ _ _ hs hb
  have e0 : l.row = l.row ++ (outs.take 0).map (·.1) := by simp
  have e1 : sums = (outs.take 0).map (·.2.1) ++ sums.drop 0 := by simp
  have e2 : some_ = (outs.take 0).map (·.2.2) ++ some_.drop 0 := by simp
  have key : ∀ i : Nat, i ≤ ws.length → Loop (wpc CC i_window_teller_tell_l0) (blkQ 0 (thenQ (wpc CC i_window_teller_tell_a0 (fnQ i_window_teller_tell.res K)) (fnQ i_window_teller_tell.res K)))
      (s_window_teller_tell_l0 (.ref (.U 2) 0) (pLn l) (.gs (.L 59) ((l.row ++ (outs.take i).map (·.1)).map encV)) (.sl (ws.map encG)) (aI (ws.map encG).length) (aI i) (.tok ty_api_Val 3 ((l.row ++ (outs.take i).map (·.1)).map encV).length)
        (st3 (.row ty_int64 1 (((outs.take i).map (·.2.1) ++ sums.drop i).map encI)) (.row ty_bool 1 (((outs.take i).map (·.2.2) ++ some_.drop i).map encB)) (.cells [.int .i64 R, .int .i64 rk, .int .i64 dn, .own (.U 0) 1 n, .own (.U 1) 1 n, oL ah]))) := by
    refine loop (fun (i : Nat) => s_window_teller_tell_l0 (.ref (.U 2) 0) (pLn l) (.gs (.L 59) ((l.row ++ (outs.take i).map (·.1)).map encV)) (.sl (ws.map encG)) (aI (ws.map encG).length) (aI i) (.tok ty_api_Val 3 ((l.row ++ (outs.take i).map (·.1)).map encV).length)
        (st3 (.row ty_int64 1 (((outs.take i).map (·.2.1) ++ sums.drop i).map encI)) (.row ty_bool 1 (((outs.take i).map (·.2.2) ++ some_.drop i).map encB)) (.cells [.int .i64 R, .int .i64 rk, .int .i64 dn, .own (.U 0) 1 n, .own (.U 1) 1 n, oL ah]))) (fun i => ws.length - i) (fun i => i ≤ ws.length) ?_
    intro i hi ih
    conv => whnf
    refine way_dec (fun g1 => ?_) (fun g1 => ?_)
    all_goals conv => whnf
    · obtain ⟨w, q, f1, f2, hlt⟩ := lt_drop g1
      have gw := get_elem f1
      obtain ⟨s0, gs⟩ := ex_get (l := sums) (i := i) (by omega)
      obtain ⟨b0, gb⟩ := ex_get (l := some_) (i := i) (by omega)
      have go : outs[i]? = some (winOne R rk dn ah l w s0 b0) := by rw [← hO]; exact winAll_get _ _ _ _ _ _ _ _ _ _ _ _ gw gs gb
      have ds : sums.drop i = s0 :: sums.drop (i + 1) := by
        have hi2 : i < sums.length := by omega
        rw [List.drop_eq_getElem_cons hi2]
        congr 1
        rw [List.getElem?_eq_getElem hi2] at gs
        exact Option.some.inj gs
      have db : some_.drop i = b0 :: some_.drop (i + 1) := by
        have hi2 : i < some_.length := by omega
        rw [List.drop_eq_getElem_cons hi2]
        congr 1
        rw [List.getElem?_eq_getElem hi2] at gb
        exact Option.some.inj gb
      have dt : outs.take (i + 1) = outs.take i ++ [winOne R rk dn ah l w s0 b0] := by rw [List.take_add_one, go]; rfl
      have hw1 := hw w (List.mem_of_getElem? gw)
      have lt1 : (outs.take i).length = i := by rw [List.length_take]; omega
      have bnd : ((l.row ++ (outs.take i).map (·.1)).map encV).length ≤ 2000 := by simp; omega
      have nxt : ∀ v s1 b1, winOne R rk dn ah l w s0 b0 = (v, s1, b1) → Loop (wpc CC i_window_teller_tell_l0) (blkQ 0 (thenQ (wpc CC i_window_teller_tell_a0 (fnQ i_window_teller_tell.res K)) (fnQ i_window_teller_tell.res K)))
          (s_window_teller_tell_l0 (.ref (.U 2) 0) (pLn l) (.gs (.L 59) ((l.row ++ (outs.take i).map (·.1) ++ [v]).map encV)) (.sl (ws.map encG)) (aI (ws.map encG).length) (aI ((i + 1 : Nat) : Int)) (.tok ty_api_Val 3 ((l.row ++ (outs.take i).map (·.1) ++ [v]).map encV).length)
            (st3 (.row ty_int64 1 (((outs.take i).map (·.2.1) ++ s1 :: sums.drop (i + 1)).map encI)) (.row ty_bool 1 (((outs.take i).map (·.2.2) ++ b1 :: some_.drop (i + 1)).map encB)) (.cells [.int .i64 R, .int .i64 rk, .int .i64 dn, .own (.U 0) 1 n, .own (.U 1) 1 n, oL ah]))) := by
        intro v s1 b1 hv
        have := ih (i + 1) (by omega) (by omega)
        rw [dt, hv] at this
        simp only [List.map_append, List.map_cons, List.map_nil, List.append_assoc, List.singleton_append] at this
        simp only [List.map_append, List.map_cons, List.map_nil, List.append_assoc, List.singleton_append]
        exact this
      obtain ⟨kd, ⟨ek, ev, ec, el⟩⟩ := w
      refine ⟨encG ⟨kd, .mk ek ev ec el⟩, Int.natCast_nonneg _, at_drop encG f1, rfl, ?_⟩
      conv => whnf
      have hkd : kd = 1 ∨ kd = 2 ∨ kd = 3 ∨ kd = 4 ∨ kd = 5 := by have := hw1.1; have := hw1.2.1; dsimp only at *; omega
      rcases hkd with rfl | rfl | rfl | rfl | rfl
      · conv => whnf
        refine s_vals_Int R ?_
        refine ⟨fun _ => rfl, ?_⟩
        conv => whnf
        refine ⟨rfl, rfl, rfl, sl_one encV 3 (fun _ => rfl) (Val.ofInt R), by simp only [List.length_cons, List.length_nil]; omega, by simp only [List.length_cons, List.length_nil]; omega, ?_⟩
        conv => whnf
        rw [tok_snoc, snoc_map encV _ (Val.ofInt R) rfl, succ_map hlw hlt, ds, db]
        exact nxt _ _ _ rfl
      · conv => whnf
        refine s_vals_Int rk ?_
        refine ⟨fun _ => rfl, ?_⟩
        conv => whnf
        refine ⟨rfl, rfl, rfl, sl_one encV 3 (fun _ => rfl) (Val.ofInt rk), by simp only [List.length_cons, List.length_nil]; omega, by simp only [List.length_cons, List.length_nil]; omega, ?_⟩
        conv => whnf
        rw [tok_snoc, snoc_map encV _ (Val.ofInt rk) rfl, succ_map hlw hlt, ds, db]
        exact nxt _ _ _ rfl
      · conv => whnf
        refine s_vals_Int dn ?_
        refine ⟨fun _ => rfl, ?_⟩
        conv => whnf
        refine ⟨rfl, rfl, rfl, sl_one encV 3 (fun _ => rfl) (Val.ofInt dn), by simp only [List.length_cons, List.length_nil]; omega, by simp only [List.length_cons, List.length_nil]; omega, ?_⟩
        conv => whnf
        rw [tok_snoc, snoc_map encV _ (Val.ofInt dn) rfl, succ_map hlw hlt, ds, db]
        exact nxt _ _ _ rfl
      · conv => whnf
        have hok : (Expr.mk ek ev ec el).Ok := hw1.2.2 (by simp)
        refine s_exprs_Of hok l.row _ _ hl ?_
        refine ⟨fun _ => rfl, ?_⟩
        conv => whnf
        have hw4 : winOne R rk dn ah l ⟨4, .mk ek ev ec el⟩ s0 b0 = if ((Expr.mk ek ev ec el).eval l.row).kind = 3 then (Val.ofInt (IntKind.wrap .i64 (s0 + ((Expr.mk ek ev ec el).eval l.row).n)), IntKind.wrap .i64 (s0 + ((Expr.mk ek ev ec el).eval l.row).n), true) else (if b0 = true then Val.ofInt s0 else .null, s0, b0) := by
          simp [winOne]
        generalize hv : (Expr.mk ek ev ec el).eval l.row = v at hw4 ⊢
        have ls : (i : Int) = (((outs.take i).map (·.2.1)).length : Int) := by rw [List.length_map, lt1]
        have lb : (i : Int) = (((outs.take i).map (·.2.2)).length : Int) := by rw [List.length_map, lt1]
        have ns : n = (((outs.take i).map (·.2.1) ++ sums.drop i).map encI).length := by simp; omega
        have nb : n = (((outs.take i).map (·.2.2) ++ some_.drop i).map encB).length := by simp; omega
        have hin : (i : Int) < (n : Int) := by omega
        rw [ds, db] at *
        refine way_eq (fun g2 => ?_) (fun g2 => ?_)
        all_goals conv => whnf
        · rw [if_pos g2] at hw4
          refine ⟨Int.natCast_nonneg _, hin, rfl, ?_⟩
          conv => whnf
          refine ⟨encI s0, ns, get_at encI rfl ls, ?_⟩
          conv => whnf
          refine ⟨Int.natCast_nonneg _, hin, rfl, ?_⟩
          conv => whnf
          refine ⟨encI s0, ns, get_at encI rfl ls, Nat.le_refl _, ?_⟩
          conv => whnf
          refine ⟨Int.natCast_nonneg _, hin, rfl, ?_⟩
          conv => whnf
          refine ⟨encB b0, nb, get_at encB rfl lb, Nat.le_refl _, ?_⟩
          conv => whnf
          refine s_vals_Null ?_
          refine ⟨fun _ => rfl, ?_⟩
          conv => whnf
          rw [st3_0, st3_1, set_at encI (b := IntKind.wrap .i64 (s0 + v.n)) rfl ls, set_at encB (b := true) rfl lb]
          refine ⟨Int.natCast_nonneg _, hin, rfl, ?_⟩
          conv => whnf
          have nb2 : n = (((outs.take i).map (·.2.2) ++ true :: some_.drop (i + 1)).map encB).length := by simp; omega
          have ns2 : n = (((outs.take i).map (·.2.1) ++ IntKind.wrap .i64 (s0 + v.n) :: sums.drop (i + 1)).map encI).length := by simp; omega
          refine ⟨encB true, nb2, get_at encB rfl lb, ?_⟩
          conv => whnf
          refine ⟨Int.natCast_nonneg _, hin, rfl, ?_⟩
          conv => whnf
          refine ⟨encI (IntKind.wrap .i64 (s0 + v.n)), ns2, get_at encI rfl ls, ?_⟩
          conv => whnf
          refine s_vals_Int (IntKind.wrap .i64 (s0 + v.n)) ?_
          refine ⟨fun _ => rfl, ?_⟩
          conv => whnf
          refine ⟨rfl, rfl, rfl, sl_one encV 3 (fun _ => rfl) (Val.ofInt (IntKind.wrap .i64 (s0 + v.n))), by simp only [List.length_cons, List.length_nil]; omega, by simp only [List.length_cons, List.length_nil]; omega, ?_⟩
          conv => whnf
          rw [tok_snoc, snoc_map encV _ (Val.ofInt (IntKind.wrap .i64 (s0 + v.n))) rfl, succ_map hlw hlt]
          exact nxt _ _ _ hw4
        · rw [if_neg g2] at hw4
          refine s_vals_Null ?_
          refine ⟨fun _ => rfl, ?_⟩
          conv => whnf
          refine ⟨Int.natCast_nonneg _, hin, rfl, ?_⟩
          conv => whnf
          refine ⟨encB b0, nb, get_at encB rfl lb, ?_⟩
          conv => whnf
          refine way (fun g3 => ?_) (fun g3 => ?_)
          all_goals conv => whnf
          · rw [if_pos g3] at hw4
            refine ⟨Int.natCast_nonneg _, hin, rfl, ?_⟩
            conv => whnf
            refine ⟨encI s0, ns, get_at encI rfl ls, ?_⟩
            conv => whnf
            refine s_vals_Int s0 ?_
            refine ⟨fun _ => rfl, ?_⟩
            conv => whnf
            refine ⟨rfl, rfl, rfl, sl_one encV 3 (fun _ => rfl) (Val.ofInt s0), by simp only [List.length_cons, List.length_nil]; omega, by simp only [List.length_cons, List.length_nil]; omega, ?_⟩
            conv => whnf
            rw [tok_snoc, snoc_map encV _ (Val.ofInt s0) rfl, succ_map hlw hlt]
            exact nxt _ _ _ hw4
          · rw [if_neg (by simp [g3])] at hw4
            refine ⟨rfl, rfl, rfl, sl_one encV 3 (fun _ => rfl) (Val.null), by simp only [List.length_cons, List.length_nil]; omega, by simp only [List.length_cons, List.length_nil]; omega, ?_⟩
            conv => whnf
            rw [tok_snoc, snoc_map encV _ (Val.null) rfl, succ_map hlw hlt]
            exact nxt _ _ _ hw4
      · have hok : (Expr.mk ek ev ec el).Ok := hw1.2.2 (by simp)
        cases ah with
        | none =>
          conv => whnf
          refine s_vals_Null ?_
          refine ⟨fun _ => rfl, ?_⟩
          conv => whnf
          intro b hb2
          subst hb2
          conv => whnf
          refine ⟨rfl, rfl, rfl, sl_one encV 3 (fun _ => rfl) (Val.null), by simp only [List.length_cons, List.length_nil]; omega, by simp only [List.length_cons, List.length_nil]; omega, ?_⟩
          conv => whnf
          rw [tok_snoc, snoc_map encV _ (Val.null) rfl, succ_map hlw hlt, ds, db]
          exact nxt _ _ _ rfl
        | some a =>
          conv => whnf
          refine s_vals_Null ?_
          refine ⟨fun _ => rfl, ?_⟩
          conv => whnf
          intro b hb2
          subst hb2
          conv => whnf
          refine s_exprs_Of hok a.row _ _ (ha a rfl) ?_
          refine ⟨fun _ => rfl, ?_⟩
          conv => whnf
          refine ⟨rfl, rfl, rfl, sl_one encV 3 (fun _ => rfl) ((Expr.mk ek ev ec el).eval a.row), by simp only [List.length_cons, List.length_nil]; omega, by simp only [List.length_cons, List.length_nil]; omega, ?_⟩
          conv => whnf
          rw [tok_snoc, snoc_map encV _ ((Expr.mk ek ev ec el).eval a.row) rfl, succ_map hlw hlt, ds, db]
          exact nxt _ _ _ rfl
    · have hi2 : i = ws.length := by rw [List.length_map] at g1; omega
      subst hi2
      rw [st3_2, ← hol, List.take_length]
      rw [List.drop_of_length_le (by omega), List.append_nil, List.drop_of_length_le (by omega), List.append_nil]
      exact h
  have := key 0 (Nat.zero_le _)
  rw [← e0, ← e1, ← e2] at this
  exact this

theorem s_window_teller_tell (t : Tel) (ws : List Agg) (l : Line) {n : Nat} (hn : n = ws.length) (hn8 : n ≤ 1000) (hs : t.sums.length = ws.length) (hb : t.some.length = ws.length)
    (hw : ∀ w ∈ ws, 1 ≤ w.kind ∧ w.kind ≤ 5 ∧ (4 ≤ w.kind → w.x.Ok)) (hl : l.row.Right) (hl8 : l.row.length ≤ 1000) (ha : ∀ a, t.ahead = some a → a.row.Right)
    (h : K [aR (telTells t ws l)] (stT n (telNext t ws l))) : CC n_window_teller_tell [.ref (.U 2) 0, .sl (ws.map encG), pLn l] (stT n t) K := by
  obtain ⟨row, rank, dense, sums, some_, ahead⟩ := t
  cases ahead with
  | none =>
    refine fnc g_window_teller_tell rfl ?_
    conv => whnf
    rw [st3_2, st3_2, st3_2]
    refine s_slices_Clone__api_Val l.row (by omega) ?_
    refine ⟨fun _ => rfl, ?_⟩
    conv => whnf
    intro hlw
    conv => whnf
    exact tell_loop _ _ _ none sums some_ ws l hn hn8 hs hb hw hl hl8 (fun a h => by cases h) hlw h
  | some a =>
    have hT : telNew ⟨row, rank, dense, sums, some_, some a⟩ l = (rowCmp a.key l.key != 0) := rfl
    unfold telTells telNext telOuts telRank telDense at h
    rw [hT] at h
    refine fnc g_window_teller_tell rfl ?_
    conv => whnf
    rw [st3_2]
    refine ⟨_, s_vals_Rows a.key l.key ⟨rfl, rfl⟩, ?_⟩
    conv => whnf
    refine way_ne (fun g => ?_) (fun g => ?_)
    all_goals conv => whnf
    · have hg : (rowCmp a.key l.key != 0) = true := by simpa using g
      rw [hg, if_pos rfl, if_pos rfl] at h
      rw [st3_2, st3_2]
      refine s_slices_Clone__api_Val l.row (by omega) ?_
      refine ⟨fun _ => rfl, ?_⟩
      conv => whnf
      intro hlw
      conv => whnf
      exact tell_loop _ _ _ (some a) sums some_ ws l hn hn8 hs hb hw hl hl8 ha hlw h
    · have hg : (rowCmp a.key l.key != 0) = false := by simpa using g
      rw [hg, if_neg (by simp), if_neg (by simp)] at h
      refine s_slices_Clone__api_Val l.row (by omega) ?_
      refine ⟨fun _ => rfl, ?_⟩
      conv => whnf
      intro hlw
      conv => whnf
      exact tell_loop _ _ _ (some a) sums some_ ws l hn hn8 hs hb hw hl hl8 ha hlw h

theorem winTypes_norm (cols : List Int) (xs : List Agg) : winTypes cols xs = if (winTypes cols xs).2 ≠ 0 then ([], (winTypes cols xs).2) else ((winTypes cols xs).1, 0) := by
  by_cases hz : (winTypes cols xs).2 ≠ 0
  · rw [if_pos hz]
    cases xs with
    | nil => simp [winTypes] at hz
    | cons y r =>
      rw [winTypes] at hz ⊢
      split
      · rfl
      · split
        · rfl
        · rename_i g1 g2; rw [if_neg g1, if_neg g2] at hz; simp at hz
  · rw [if_neg hz]
    have : (winTypes cols xs).2 = 0 := by simpa using hz
    rw [← this]

theorem s_window_Types (cols : List Int) (ws : List Agg) (hn : ws.length ≤ 1000) (h : K [aIs (winTypes cols ws).1, aI (winTypes cols ws).2] x) : CC n_window_Types [aIs cols, .sl (ws.map encG)] x K := by
  have hmaxB : maxB = 140737488355328 := rfl
  have hmax : maxI = 9223372036854775807 := rfl
  refine fnc g_window_Types rfl ?_
  conv => whnf
  intro hl
  conv => whnf
  refine loop (fun (t : Nat × List Int) => s_window_Types_l0 (aIs cols) (.gs (.L 6) (t.2.map encI)) (.sl (ws.map encG)) (aI (ws.map encG).length) (aI t.1) (.tok ty_int 1 (t.2.map encI).length) x) (fun t => ws.length - t.1) (fun t => t.1 ≤ ws.length ∧ t.2.length = t.1 ∧ winTypes cols ws = (if (winTypes cols (ws.drop t.1)).2 ≠ 0 then ([], (winTypes cols (ws.drop t.1)).2) else (t.2 ++ (winTypes cols (ws.drop t.1)).1, 0))) ?_ (0, []) ⟨Nat.zero_le _, rfl, by simpa using winTypes_norm cols ws⟩
  conv => whnf
  rintro ⟨i, out⟩ ⟨hi, ho, hinv⟩ ih
  dsimp only at hi ho hinv ih ⊢
  conv => whnf
  refine way_dec (fun g1 => ?_) (fun g1 => ?_)
  all_goals conv => whnf
  · obtain ⟨w, q, e, e2, hlt⟩ := lt_drop g1
    rw [e, winTypes] at hinv
    have nxt : ∀ t1, winT cols w = (t1, 0) → Loop (wpc CC i_window_Types_l0) (blkQ 0 (thenQ (wpc CC i_window_Types_a0 (fnQ i_window_Types.res K)) (fnQ i_window_Types.res K))) (s_window_Types_l0 (aIs cols) (.gs (.L 6) ((out ++ [t1]).map encI)) (.sl (ws.map encG)) (aI (ws.map encG).length) (aI ((i + 1 : Nat) : Int)) (.tok ty_int 1 ((out ++ [t1]).map encI).length) x) := by
      intro t1 ht
      refine ih (i + 1, out ++ [t1]) ⟨by dsimp only; omega, by simp; omega, ?_⟩ (by dsimp only; omega)
      dsimp only
      rw [e2, hinv, ht]
      by_cases g3 : (winTypes cols q).2 = 0
      · simp [g3]
      · simp [g3]
    have bad : ∀ e1, e1 ≠ 0 → (winT cols w).2 = e1 → K [aIs [], aI e1] x := by
      intro e1 h1 h2
      have : winTypes cols ws = ([], e1) := by rw [hinv]; simp [h2, h1]
      rw [this] at h
      exact h
    obtain ⟨kd, ⟨ek, ev, ec, el⟩⟩ := w
    refine ⟨encG ⟨kd, .mk ek ev ec el⟩, Int.natCast_nonneg _, at_drop encG e, rfl, ?_⟩
    conv => whnf
    by_cases hkd : kd = 1 ∨ kd = 2 ∨ kd = 3 ∨ kd = 4 ∨ kd = 5
    · rcases hkd with rfl | rfl | rfl | rfl | rfl
      · conv => whnf
        refine ⟨rfl, rfl, rfl, sl_one encI 1 (fun _ => rfl) (3), by simp only [List.length_map, List.length_cons, List.length_nil]; omega, by simp only [List.length_map, List.length_cons, List.length_nil]; omega, ?_⟩
        conv => whnf
        rw [tok_snoc, snoc_map encI out (3) rfl, succ_map hl hlt]
        exact nxt 3 rfl
      · conv => whnf
        refine ⟨rfl, rfl, rfl, sl_one encI 1 (fun _ => rfl) (3), by simp only [List.length_map, List.length_cons, List.length_nil]; omega, by simp only [List.length_map, List.length_cons, List.length_nil]; omega, ?_⟩
        conv => whnf
        rw [tok_snoc, snoc_map encI out (3) rfl, succ_map hl hlt]
        exact nxt 3 rfl
      · conv => whnf
        refine ⟨rfl, rfl, rfl, sl_one encI 1 (fun _ => rfl) (3), by simp only [List.length_map, List.length_cons, List.length_nil]; omega, by simp only [List.length_map, List.length_cons, List.length_nil]; omega, ?_⟩
        conv => whnf
        rw [tok_snoc, snoc_map encI out (3) rfl, succ_map hl hlt]
        exact nxt 3 rfl
      · conv => whnf
        refine s_exprs_Type cols (.mk ek ev ec el) ?_
        refine ⟨fun _ => rfl, ?_⟩
        conv => whnf
        have hw4 : winT cols ⟨4, .mk ek ev ec el⟩ = if (typeOf cols (.mk ek ev ec el)).2 ≠ 0 then (0, (typeOf cols (.mk ek ev ec el)).2) else if (typeOf cols (.mk ek ev ec el)).1 ≠ 3 ∧ (typeOf cols (.mk ek ev ec el)).1 ≠ 1 then (0, 9) else (3, 0) := by simp [winT]
        generalize hT : typeOf cols (.mk ek ev ec el) = T at hw4 ⊢
        refine way_ne (fun h2 => ?_) (fun h2 => ?_)
        all_goals conv => whnf
        · rw [if_pos h2] at hw4
          exact bad T.2 h2 (by rw [hw4])
        · rw [if_neg (by simpa using h2)] at hw4
          refine way_ne (fun h3 => ?_) (fun h3 => ?_)
          all_goals conv => whnf
          · refine way_ne (fun h4 => ?_) (fun h4 => ?_)
            all_goals conv => whnf
            · rw [if_pos ⟨h3, h4⟩] at hw4
              exact bad 9 (by simp) (by rw [hw4])
            · rw [if_neg (fun e => e.2 h4)] at hw4
              refine ⟨rfl, rfl, rfl, sl_one encI 1 (fun _ => rfl) (3), by simp only [List.length_map, List.length_cons, List.length_nil]; omega, by simp only [List.length_map, List.length_cons, List.length_nil]; omega, ?_⟩
              conv => whnf
              rw [tok_snoc, snoc_map encI out (3) rfl, succ_map hl hlt]
              exact nxt 3 hw4
          · rw [if_neg (fun e => e.1 h3)] at hw4
            refine ⟨rfl, rfl, rfl, sl_one encI 1 (fun _ => rfl) (3), by simp only [List.length_map, List.length_cons, List.length_nil]; omega, by simp only [List.length_map, List.length_cons, List.length_nil]; omega, ?_⟩
            conv => whnf
            rw [tok_snoc, snoc_map encI out (3) rfl, succ_map hl hlt]
            exact nxt 3 hw4
      · conv => whnf
        refine s_exprs_Type cols (.mk ek ev ec el) ?_
        refine ⟨fun _ => rfl, ?_⟩
        conv => whnf
        have hw4 : winT cols ⟨5, .mk ek ev ec el⟩ = if (typeOf cols (.mk ek ev ec el)).2 ≠ 0 then (0, (typeOf cols (.mk ek ev ec el)).2) else ((typeOf cols (.mk ek ev ec el)).1, 0) := by simp [winT]
        generalize hT : typeOf cols (.mk ek ev ec el) = T at hw4 ⊢
        refine way_ne (fun h2 => ?_) (fun h2 => ?_)
        all_goals conv => whnf
        · rw [if_pos h2] at hw4
          exact bad T.2 h2 (by rw [hw4])
        · rw [if_neg (by simpa using h2)] at hw4
          refine ⟨rfl, rfl, rfl, sl_one encI 1 (fun _ => rfl) (T.1), by simp only [List.length_map, List.length_cons, List.length_nil]; omega, by simp only [List.length_map, List.length_cons, List.length_nil]; omega, ?_⟩
          conv => whnf
          rw [tok_snoc, snoc_map encI out (T.1) rfl, succ_map hl hlt]
          exact nxt T.1 hw4
    · simp only [not_or] at hkd
      refine way_f (by simpa using hkd.1) ?_
      conv => whnf
      refine way_f (by simpa using hkd.2.1) ?_
      conv => whnf
      refine way_f (by simpa using hkd.2.2.1) ?_
      conv => whnf
      refine way_f (by simpa using hkd.2.2.2.1) ?_
      conv => whnf
      refine way_f (by simpa using hkd.2.2.2.2) ?_
      conv => whnf
      exact bad 1 (by simp) (by simp [winT, hkd])
  · obtain ⟨e, hge⟩ := ge_drop g1
    rw [e, winTypes, if_neg (by simp), List.append_nil] at hinv
    rw [hinv] at h
    exact h

theorem s_window_Window_1 (a b : Line) (h : K [aI (if rowCmp a.part b.part ≠ 0 then rowCmp a.part b.part else rowCmp a.key b.key)] x) : CC n_window_Window_1 [pLn a, pLn b] x K := by
  refine fnc g_window_Window_1 rfl ?_
  conv => whnf
  refine ⟨_, s_vals_Rows a.part b.part ⟨rfl, rfl⟩, ?_⟩
  conv => whnf
  refine way_ne (fun h1 => ?_) (fun h1 => ?_)
  all_goals conv => whnf
  · rw [if_pos h1] at h
    exact h
  · rw [if_neg (by simpa using h1)] at h
    refine ⟨_, s_vals_Rows a.key b.key ⟨rfl, rfl⟩, ?_⟩
    conv => whnf
    exact h

theorem linesOf_snoc (part order : List Expr) (z : ZSet) (r : ZRow) : linesOf part order (z ++ [r]) = linesOf part order z ++ List.replicate (posW r.w).toNat (mkLine part order r) := by
  simp [linesOf]

theorem linesOf_le (part order : List Expr) (z : ZSet) (i : Nat) : (linesOf part order (z.take i)).length ≤ (linesOf part order z).length := by
  have : linesOf part order z = linesOf part order (z.take i) ++ linesOf part order (z.drop i) := by
    unfold linesOf
    rw [← List.flatMap_append, List.take_append_drop]
  rw [this, List.length_append]
  omega

abbrev QW (K : List A → Sto → Prop) := fnQ i_window_Window.res K

/-- The teller goes along the lines. -/
theorem window_tells (ws : List Agg) (L : List Line) (hws : ws.length ≤ 8) (hw : ∀ w ∈ ws, 1 ≤ w.kind ∧ w.kind ≤ 5 ∧ (4 ≤ w.kind → w.x.Ok)) (hL : L.length ≤ 400) (hr : ∀ l ∈ L, l.row.Right ∧ l.row.length ≤ 8)
    (h : K [aS (zSum (tellsGo ws none (telInit ws.length) L)).1, aI (zSum (tellsGo ws none (telInit ws.length) L)).2] x) :
    Loop (wpc CC i_window_Window_l3) (blkQ 6 (thenQ (wpc CC i_window_Window_a1 (QW K)) (QW K)))
      ⟨upd (upd (upd (upd (upd (upd (upd (fun _ => .undef) 100 (aI 0)) 99 (aI L.length)) 98 (.own (.L 19) 1 L.length)) 23 .nilp) 22 (.gs (.L 22) [])) 19 (.own (.L 19) 1 L.length)) 3 (.sl (ws.map encG)),
        updS (updS (fun _ => none) 22 (some (.tok ty_api_ZRow 2 0))) 19 (some (.row ty_P_window_line 1 (L.map encLn))), x⟩ := by
  have hmaxB : maxB = 140737488355328 := rfl
  have hmax : maxI = 9223372036854775807 := rfl
  have hlL : L.length = (L.map encLn).length := by simp
  refine loop (fun (t : Nat × ZSet × Option (Tel × Line)) => match t.2.2 with
    | none => ⟨upd (upd (upd (upd (upd (upd (upd (fun _ => .undef) 100 (aI t.1)) 99 (aI L.length)) 98 (.own (.L 19) 1 L.length)) 23 .nilp) 22 (.gs (.L 22) (t.2.1.map encZ))) 19 (.own (.L 19) 1 L.length)) 3 (.sl (ws.map encG)),
        updS (updS (fun _ => none) 22 (some (.tok ty_api_ZRow 2 (t.2.1.map encZ).length))) 19 (some (.row ty_P_window_line 1 (L.map encLn))), x⟩
    | some (m, a) => s_window_Window_l3 (.sl (ws.map encG)) (.own (.L 19) 1 L.length) (.gs (.L 22) (t.2.1.map encZ)) (.ref (.L 130) 0) (.own (.L 19) 1 L.length) (aI L.length) (aI t.1)
        (.row ty_P_window_line 1 (L.map encLn)) (.tok ty_api_ZRow 2 (t.2.1.map encZ).length) (.row ty_int64 1 (m.sums.map encI)) (.row ty_bool 1 (m.some.map encB))
        (.cells [.int .i64 m.row, .int .i64 m.rank, .int .i64 m.dense, .own (.L 125) 1 ws.length, .own (.L 128) 1 ws.length, pLn a]) x)
    (fun t => L.length - t.1) (fun t => t.1 ≤ L.length ∧ t.2.1.length = t.1 ∧ (match t.2.2 with
      | none => t.1 = 0
      | some (m, a) => 0 < t.1 ∧ L[t.1 - 1]? = some a ∧ m.ahead = some a ∧ m.sums.length = ws.length ∧ m.some.length = ws.length ∧ t.2.1 ++ tellsGo ws (some a) m (L.drop t.1) = tellsGo ws none (telInit ws.length) L)) ?_ (0, [], none) ⟨Nat.zero_le _, rfl, rfl⟩
  rintro ⟨i, out, om⟩ ⟨hi, ho, hinv⟩ ih
  dsimp only at hi ho hinv ⊢
  -- behind a line's telling
  have nxt : ∀ (m : Tel) (l : Line), L[i]? = some l → m.sums.length = ws.length → m.some.length = ws.length → out ++ (⟨telTells m ws l, 1⟩ : ZRow) :: tellsGo ws (some l) (telNext m ws l) (L.drop (i + 1)) = tellsGo ws none (telInit ws.length) L →
      Loop (wpc CC i_window_Window_l3) (blkQ 6 (thenQ (wpc CC i_window_Window_a1 (QW K)) (QW K))) (s_window_Window_l3 (.sl (ws.map encG)) (.own (.L 19) 1 L.length) (.gs (.L 22) ((out ++ [(⟨telTells m ws l, 1⟩ : ZRow)]).map encZ)) (.ref (.L 130) 0) (.own (.L 19) 1 L.length) (aI L.length) (aI ((i + 1 : Nat) : Int))
        (.row ty_P_window_line 1 (L.map encLn)) (.tok ty_api_ZRow 2 ((out ++ [(⟨telTells m ws l, 1⟩ : ZRow)]).map encZ).length) (.row ty_int64 1 ((telNext m ws l).sums.map encI)) (.row ty_bool 1 ((telNext m ws l).some.map encB))
        (.cells [.int .i64 (telNext m ws l).row, .int .i64 (telNext m ws l).rank, .int .i64 (telNext m ws l).dense, .own (.L 125) 1 ws.length, .own (.L 128) 1 ws.length, pLn l]) x) := by
    intro m l hl h1 h2 hg
    have hlt : i < L.length := (List.getElem?_eq_some_iff.1 hl).1
    have lo : (telOuts m ws l).length = ws.length := winAll_len _ _ _ _ _ _ _ _ h1 h2
    exact ih (i + 1, out ++ [(⟨telTells m ws l, 1⟩ : ZRow)], some (telNext m ws l, l)) ⟨by dsimp only; omega, by simp; omega, by dsimp only; omega, by dsimp only; simpa using hl, rfl, by simp [telNext, lo], by simp [telNext, lo], by dsimp only; rw [← hg]; simp⟩ (by dsimp only; omega)
  cases om with
  | none =>
    dsimp only at hinv ⊢
    subst hinv
    conv => whnf
    refine way_dec (fun g1 => ?_) (fun g1 => ?_)
    all_goals conv => whnf
    · obtain ⟨l, hl⟩ := ex_get (l := L) (i := 0) (by omega)
      have hd : L.drop 0 = l :: L.drop 1 := by
        cases L with
        | nil => simp at hl
        | cons a r => simp at hl; subst hl; rfl
      have hlr := hr l (List.mem_of_getElem? hl)
      have hrep1 : List.replicate (((ws.map encG).length : Int)).toNat [A.int .i64 0] = (telInit ws.length).sums.map encI := by simp [telInit]
      have hrep2 : List.replicate (((ws.map encG).length : Int)).toNat [A.bool false] = (telInit ws.length).some.map encB := by simp [telInit]
      have hnn : (((ws.map encG).length : Int)).toNat = ws.length := by simp
      refine ⟨Int.natCast_nonneg _, g1, rfl, ?_⟩
      conv => whnf
      refine ⟨encLn l, hlL, at_drop encLn hd, ?_⟩
      conv => whnf
      refine ⟨Int.natCast_nonneg _, by simp only [List.length_map]; omega, by simp only [List.length_map]; omega, ?_⟩
      conv => whnf
      refine ⟨Int.natCast_nonneg _, by simp only [List.length_map]; omega, by simp only [List.length_map]; omega, ?_⟩
      conv => whnf
      rw [hrep1, hrep2, hnn]
      refine s_window_teller_tell (telInit ws.length) ws l rfl (by omega) (by simp [telInit]) (by simp [telInit]) hw hlr.1 (by omega) (fun a h => by cases h) ?_
      refine ⟨fun h => (by cases h), ?_⟩
      conv => whnf
      refine ⟨rfl, rfl, rfl, sl_one encZ 2 (fun _ => rfl) ⟨telTells (telInit ws.length) ws l, 1⟩, by simp only [List.length_map, List.length_cons, List.length_nil]; omega, by simp only [List.length_map, List.length_cons, List.length_nil]; omega, ?_⟩
      conv => whnf
      rw [tok_snoc, snoc_map encZ out ⟨telTells (telInit ws.length) ws l, 1⟩ rfl, wrap_i64 (n := (((0 : Nat) : Int) : Int) + 1) ⟨by omega, by omega⟩]
      exact nxt (telInit ws.length) l hl (by simp [telInit]) (by simp [telInit]) (by rw [List.eq_nil_of_length_eq_zero ho]; cases L with
              | nil => simp at hl
              | cons a r => simp at hl; subst hl; simp [tellsGo, telAt])
    · have hL0 : L = [] := List.eq_nil_of_length_eq_zero (by omega)
      subst hL0
      have hout : out = [] := List.eq_nil_of_length_eq_zero ho
      subst hout
      refine s_zsets_Sum [] (by simp) (by simp) ?_
      refine ⟨fun _ => rfl, ?_⟩
      conv => whnf
      exact h
  | some p =>
    obtain ⟨m, a⟩ := p
    obtain ⟨h0, hpa, hma, hms, hmb, hinv⟩ := hinv
    dsimp only at h0 hpa hma hms hmb hinv ⊢
    conv => whnf
    refine way_dec (fun g1 => ?_) (fun g1 => ?_)
    all_goals conv => whnf
    · obtain ⟨l, hl⟩ := ex_get (l := L) (i := i) (by omega)
      have hd : L.drop i = l :: L.drop (i + 1) := by
        have hi2 : i < L.length := by omega
        rw [List.drop_eq_getElem_cons hi2]
        congr 1
        rw [List.getElem?_eq_getElem hi2] at hl
        exact Option.some.inj hl
      have hlr := hr l (List.mem_of_getElem? hl)
      have hrep1 : List.replicate (((ws.map encG).length : Int)).toNat [A.int .i64 0] = (telInit ws.length).sums.map encI := by simp [telInit]
      have hrep2 : List.replicate (((ws.map encG).length : Int)).toNat [A.bool false] = (telInit ws.length).some.map encB := by simp [telInit]
      have hnn : (((ws.map encG).length : Int)).toNat = ws.length := by simp
      rw [hd, tellsGo] at hinv
      refine ⟨Int.natCast_nonneg _, g1, rfl, ?_⟩
      conv => whnf
      refine ⟨encLn l, hlL, at_drop encLn hd, ?_⟩
      conv => whnf
      refine way_eq (fun g2 => ?_) (fun g2 => ?_)
      all_goals conv => whnf
      · omega
      · rw [wrap_i64 (n := (i : Int) - 1) ⟨by omega, by omega⟩]
        refine ⟨by omega, by omega, rfl, ?_⟩
        conv => whnf
        refine ⟨encLn a, hlL, by rw [show ((i : Int) - 1).toNat = i - 1 by omega, List.getElem?_map, hpa]; rfl, ?_⟩
        conv => whnf
        refine ⟨_, s_vals_Rows a.part l.part ⟨rfl, rfl⟩, ?_⟩
        conv => whnf
        refine way_ne (fun g3 => ?_) (fun g3 => ?_)
        all_goals conv => whnf
        · have hta : telAt ws.length (some a) m l = telInit ws.length := by
            unfold telAt
            rw [if_pos (by simpa using g3)]
          rw [hta] at hinv
          refine ⟨Int.natCast_nonneg _, by simp only [List.length_map]; omega, by simp only [List.length_map]; omega, ?_⟩
          conv => whnf
          refine ⟨Int.natCast_nonneg _, by simp only [List.length_map]; omega, by simp only [List.length_map]; omega, ?_⟩
          conv => whnf
          rw [hrep1, hrep2, hnn]
          refine s_window_teller_tell (telInit ws.length) ws l rfl (by omega) (by simp [telInit]) (by simp [telInit]) hw hlr.1 (by omega) (fun a h => by cases h) ?_
          refine ⟨fun h => (by cases h), ?_⟩
          conv => whnf
          refine ⟨rfl, rfl, rfl, sl_one encZ 2 (fun _ => rfl) ⟨telTells (telInit ws.length) ws l, 1⟩, by simp only [List.length_map, List.length_cons, List.length_nil]; omega, by simp only [List.length_map, List.length_cons, List.length_nil]; omega, ?_⟩
          conv => whnf
          rw [tok_snoc, snoc_map encZ out ⟨telTells (telInit ws.length) ws l, 1⟩ rfl, wrap_i64 (n := ((i : Int) : Int) + 1) ⟨by omega, by omega⟩]
          exact nxt (telInit ws.length) l hl (by simp [telInit]) (by simp [telInit]) hinv
        · have hta : telAt ws.length (some a) m l = m := by
            unfold telAt
            rw [if_neg (by simpa using g3)]
          rw [hta] at hinv
          obtain ⟨mr, mk, md, msu, mso, mah⟩ := m
          dsimp only at hma hms hmb
          subst hma
          refine s_window_teller_tell ⟨mr, mk, md, msu, mso, some a⟩ ws l rfl (by omega) hms hmb hw hlr.1 (by omega) (fun a' h' => by cases h'; exact (hr a (List.mem_of_getElem? hpa)).1) ?_
          refine ⟨fun h => (by cases h), ?_⟩
          conv => whnf
          refine ⟨rfl, rfl, rfl, sl_one encZ 2 (fun _ => rfl) ⟨telTells ⟨mr, mk, md, msu, mso, some a⟩ ws l, 1⟩, by simp only [List.length_map, List.length_cons, List.length_nil]; omega, by simp only [List.length_map, List.length_cons, List.length_nil]; omega, ?_⟩
          conv => whnf
          rw [tok_snoc, snoc_map encZ out ⟨telTells ⟨mr, mk, md, msu, mso, some a⟩ ws l, 1⟩ rfl, wrap_i64 (n := ((i : Int) : Int) + 1) ⟨by omega, by omega⟩]
          exact nxt ⟨mr, mk, md, msu, mso, some a⟩ l hl hms hmb hinv
    · have hi2 : L.drop i = [] := List.drop_of_length_le (by omega)
      rw [hi2, tellsGo, List.append_nil] at hinv
      refine s_zsets_Sum out (fun z hz => by have := tellsGo_len (fun l hl => (hr l hl).2) z (hinv ▸ hz); omega) (by omega) ?_
      refine ⟨fun _ => rfl, ?_⟩
      conv => whnf
      rw [hinv]
      exact h

theorem s_window_Window (cols : List Int) (part order : List Expr) (ws : List Agg) (z : ZSet) (hc : cols.length ≤ 140737488355328) (hws : ws.length ≤ 140737488355328)
    (h : K [aS (windowZ cols part order ws z).1, aI (windowZ cols part order ws z).2] x) : CC n_window_Window [aIs cols, aEs part, aEs order, .sl (ws.map encG), aS z] x K := by
  have hmaxB : maxB = 140737488355328 := rfl
  have hmax : maxI = 9223372036854775807 := rfl
  refine fnc g_window_Window rfl ?_
  conv => whnf
  intro hl0
  conv => whnf
  intro hl1
  conv => whnf
  rw [List.length_map, List.length_map, wrap_i64 (n := (cols.length : Int) + (ws.length : Int)) ⟨by omega, by omega⟩]
  unfold windowZ at h
  refine way_dec (fun h0 => ?_) (fun h0 => ?_)
  all_goals conv => whnf
  · rw [if_pos (by omega)] at h
    exact h
  · rw [if_neg (by omega)] at h
    intro hl2
    conv => whnf
    refine Loop_step (Call_mono Γ Base_mono) ?_
    conv => whnf
    refine ⟨[aEs part], by decide, rfl, rfl, ?_⟩
    conv => whnf
    refine s_ops_Types cols part ?_
    refine ⟨fun _ => rfl, ?_⟩
    conv => whnf
    refine way_ne (fun h1 => ?_) (fun h1 => ?_)
    all_goals conv => whnf
    · rw [if_pos h1] at h
      exact h
    rw [if_neg (by simpa using h1)] at h
    obtain ⟨hp8, hpo⟩ := opsTypes_ok h1
    refine Loop_step (Call_mono Γ Base_mono) ?_
    conv => whnf
    refine ⟨[aEs order], by decide, rfl, rfl, ?_⟩
    conv => whnf
    refine s_ops_Types cols order ?_
    refine ⟨fun _ => rfl, ?_⟩
    conv => whnf
    refine way_ne (fun h2 => ?_) (fun h2 => ?_)
    all_goals conv => whnf
    · rw [if_pos h2] at h
      exact h
    rw [if_neg (by simpa using h2)] at h
    obtain ⟨ho8, hoo⟩ := opsTypes_ok h2
    refine Loop_step (Call_mono Γ Base_mono) ?_
    conv => whnf
    refine s_window_Types cols ws (by omega) ?_
    refine ⟨fun _ => rfl, ?_⟩
    conv => whnf
    refine way_ne (fun h3 => ?_) (fun h3 => ?_)
    all_goals conv => whnf
    · rw [if_pos h3] at h
      exact h
    rw [if_neg (by simpa using h3)] at h
    have hwok := winTypes_ok h3
    refine s_ops_Input cols z ?_
    refine ⟨fun _ => rfl, ?_⟩
    conv => whnf
    refine way_ne (fun h4 => ?_) (fun h4 => ?_)
    all_goals conv => whnf
    · rw [if_pos h4] at h
      exact h
    rw [if_neg (by simpa using h4)] at h
    obtain ⟨hc8, hzw, hzr⟩ := opsInput_ok h4
    have hz400 := zWrong_len hzw
    intro hl3
    conv => whnf
    refine loop (fun (t : Nat × List Line) => s_window_Window_l1 (aEs part) (aEs order) (.sl (ws.map encG)) (.own (.L 19) 1 t.2.length) (aS z) (aI (z.map encZ).length) (aI t.1) (.row ty_P_window_line 1 (t.2.map encLn)) x) (fun t => z.length - t.1) (fun t => t.1 ≤ z.length ∧ t.2 = linesOf part order (z.take t.1) ∧ t.2.length ≤ 400) ?_ (0, []) ⟨Nat.zero_le _, rfl, by simp⟩
    conv => whnf
    rintro ⟨i, all⟩ ⟨hi, hall, hall4⟩ ih
    dsimp only at hi hall hall4 ih ⊢
    conv => whnf
    refine way_dec (fun g1 => ?_) (fun g1 => ?_)
    all_goals conv => whnf
    · obtain ⟨r, q, e, e2, hlt⟩ := lt_drop g1
      have hrr := hzr r (mem_drop e)
      refine ⟨encZ r, Int.natCast_nonneg _, at_drop encZ e, rfl, ?_⟩
      conv => whnf
      refine ⟨rfl, ?_⟩
      conv => whnf
      have hpos : 0 ≤ posW r.w := by unfold posW; split <;> omega
      have hw6 : posW r.w ≤ 1000000 := by
        have := (zWrong_rows hzw r (mem_drop e)).2.2
        simp only [wOk, Bool.and_eq_true, decide_eq_true_eq] at this
        unfold posW
        split <;> omega
      have hlines : linesOf part order (z.take (i + 1)) = all ++ List.replicate (posW r.w).toNat (mkLine part order r) := by rw [take_snoc e, linesOf_snoc, hall]
      refine loop (fun (t : Nat × List Line) => s_window_Window_l2 (aEs part) (aEs order) (.sl (ws.map encG)) (.own (.L 19) 1 t.2.length) (.pim (encZ r) 0) (aS z) (aI (z.map encZ).length) (aI (i : Int)) (aI (posW r.w)) (aI (t.1 : Int)) (.row ty_P_window_line 1 (t.2.map encLn)) x) (fun t => (posW r.w).toNat - t.1) (fun t => t.1 ≤ (posW r.w).toNat ∧ t.2 = all ++ List.replicate t.1 (mkLine part order r) ∧ t.2.length ≤ 400) ?_ (0, all) ⟨Nat.zero_le _, by simp, hall4⟩
      conv => whnf
      rintro ⟨c, al⟩ ⟨hc2, hal, hal4⟩ ih2
      dsimp only at hc2 hal hal4 ih2 ⊢
      conv => whnf
      refine way_dec (fun g2 => ?_) (fun g2 => ?_)
      all_goals conv => whnf
      · intro hl4
        conv => whnf
        refine way_eq (fun g3 => ?_) (fun g3 => ?_)
        all_goals conv => whnf
        · have : 400 < (linesOf part order z).length := by
            have h5 := linesOf_le part order z (i + 1)
            rw [hlines, List.length_append, List.length_replicate] at h5
            rw [hal, List.length_append, List.length_replicate] at g3
            omega
          rw [if_pos this] at h
          exact h
        · refine ⟨_, s_ops_Values part r.row hpo hrr.2 (by omega) ⟨rfl, rfl⟩, ?_⟩
          conv => whnf
          refine ⟨_, s_ops_Values order r.row hoo hrr.2 (by omega) ⟨rfl, rfl⟩, ?_⟩
          conv => whnf
          refine ⟨rfl, rfl, rfl, by simp, sl_one encLn 1 (fun _ => rfl) (mkLine part order r), by simp only [List.length_map, List.length_cons, List.length_nil]; omega, by simp only [List.length_map, List.length_cons, List.length_nil]; omega, ?_⟩
          conv => whnf
          have hsn : al.map encLn ++ [[A.pim [.sl ((valuesOf part r.row).map encV), .sl ((valuesOf order r.row).map encV), .sl (r.row.map encV)] 0]] = (al ++ [mkLine part order r]).map encLn := snoc_map encLn al (mkLine part order r) rfl
          rw [hsn, wrap_i64 (n := (c : Int) + 1) ⟨by omega, by omega⟩, show (al.map encLn).length + [[A.pim [.sl ((valuesOf part r.row).map encV), .sl ((valuesOf order r.row).map encV), .sl (r.row.map encV)] 0]].length = (al ++ [mkLine part order r]).length by simp]
          exact ih2 (c + 1, al ++ [mkLine part order r]) ⟨by dsimp only; omega, by dsimp only; rw [hal, List.append_assoc, ← List.replicate_succ'], by simp; omega⟩ (by dsimp only; omega)
      · rw [succ_map hl3 hlt]
        have hcc : c = (posW r.w).toNat := by omega
        subst hcc
        exact ih (i + 1, al) ⟨by dsimp only; omega, by dsimp only; rw [hlines, hal], hal4⟩ (by dsimp only; omega)
    · have hi2 : z.take i = z := List.take_of_length_le (by rw [List.length_map] at g1; omega)
      rw [hi2] at hall
      rw [if_neg (by rw [← hall]; omega)] at h
      refine Sort_P_window_line.SortStable (x := fun _ => none) ltLn_sw (cf := cmpLn) (fun a b => rfl) (fun f => rfl) (fun a b d K h => s_window_Window_1 a b h) all rfl (by rw [hmax]; omega) ?_
      refine ⟨fun h => (by cases h), ?_⟩
      conv => whnf
      rw [← hall] at h
      have hsl := (isort_srt ltLn_sw all).2
      have hsn := hsl.len
      intro hl4
      conv => whnf
      have hmem : ∀ l ∈ isort ltLn all, l.row.Right ∧ l.row.length ≤ 8 := by
        intro l hl
        rw [hsl.mem, hall] at hl
        obtain ⟨r, hr1, hr2⟩ := List.mem_flatMap.1 hl
        rw [List.eq_of_mem_replicate hr2]
        have := hzr r hr1
        exact ⟨this.2, by show r.row.length ≤ 8; omega⟩
      have := window_tells (x := x) (K := K) ws (isort ltLn all) (by omega) hwok (by omega) hmem h
      rw [hsn] at this
      exact this
end Go.Tide

/- Sets are told by their weights. -/
set_option linter.unusedVariables false
namespace Go.Tide

/-- Weights added up, each times what is said of its row. -/
def lin (f : Row → Int) : ZSet → Int
  | [] => 0
  | x :: t => f (rowBare x.row) * x.w + lin f t

def one (r : Row) (q : Row) : Int := if q = r then 1 else 0
def wt (l : ZSet) (r : Row) : Int := lin (one r) l

theorem lin_app (f : Row → Int) (a b : ZSet) : lin f (a ++ b) = lin f a + lin f b := by
  induction a with
  | nil => simp [lin]
  | cons x t ih => simp [lin, ih]; omega

theorem lin_perm (f : Row → Int) {a b : ZSet} (h : a.Perm b) : lin f a = lin f b := by
  induction h with
  | nil => rfl
  | cons x _ ih => simp [lin, ih]
  | swap x y l => simp [lin]; omega
  | trans _ _ ih1 ih2 => exact ih1.trans ih2

structure Canon (z : ZSet) : Prop where
  srt : z.Pairwise fun a b => rowCmp a.row b.row < 0
  bare : ∀ x ∈ z, rowBare x.row = x.row
  nz : ∀ x ∈ z, x.w ≠ 0

theorem Canon.nil : Canon [] := ⟨List.Pairwise.nil, by simp, by simp⟩
theorem Canon.tail {x : ZRow} {z : ZSet} (h : Canon (x :: z)) : Canon z :=
  ⟨(List.pairwise_cons.1 h.srt).2, fun y hy => h.bare y (List.mem_cons_of_mem _ hy), fun y hy => h.nz y (List.mem_cons_of_mem _ hy)⟩
theorem Canon.cons {x : ZRow} {z : ZSet} (h : Canon z) (hb : rowBare x.row = x.row) (hw : x.w ≠ 0) (hx : ∀ y ∈ z, rowCmp x.row y.row < 0) : Canon (x :: z) :=
  ⟨List.pairwise_cons.2 ⟨hx, h.srt⟩, fun y hy => by rcases List.mem_cons.1 hy with rfl | hy; exact hb; exact h.bare y hy, fun y hy => by rcases List.mem_cons.1 hy with rfl | hy; exact hw; exact h.nz y hy⟩

theorem wt_none {z : ZSet} {r : Row} (h : ∀ x ∈ z, rowBare x.row ≠ r) : wt z r = 0 := by
  induction z with
  | nil => rfl
  | cons x t ih =>
    have h1 := h x (by simp)
    have h2 := ih fun y hy => h y (List.mem_cons_of_mem _ hy)
    simp only [wt, lin, one, if_neg h1] at h2 ⊢
    omega

theorem cmp_ne {a b : Row} (h : rowCmp a b < 0) : rowBare a ≠ rowBare b := fun e => by
  have := (rowCmp_ordr.eq0 a b).2 e
  omega

theorem Canon.wt_head {x : ZRow} {z : ZSet} (h : Canon (x :: z)) : wt (x :: z) x.row = x.w := by
  have h1 := h.bare x (by simp)
  have h2 : wt z x.row = 0 := wt_none fun y hy => by
    have := cmp_ne ((List.pairwise_cons.1 h.srt).1 y hy)
    rw [h1] at this
    exact fun e => this e.symm
  simp only [wt, lin] at h2 ⊢
  rw [h2, h1, one, if_pos rfl]
  omega

/-- There is but one canonical list of given weights. -/
theorem canon_ext : ∀ {a b : ZSet}, Canon a → Canon b → (∀ r, rowBare r = r → wt a r = wt b r) → a = b
  | [], [], _, _, _ => rfl
  | [], y :: t, _, hb, h => by
    have := h y.row (hb.bare y (by simp))
    rw [hb.wt_head] at this
    exact absurd this.symm (hb.nz y (by simp))
  | x :: s, [], ha, _, h => by
    have := h x.row (ha.bare x (by simp))
    rw [ha.wt_head] at this
    exact absurd this (ha.nz x (by simp))
  | x :: s, y :: t, ha, hb, h => by
    have bx := ha.bare x (by simp)
    have by' := hb.bare y (by simp)
    have key : ∀ {u v : ZRow} {q : ZSet}, Canon (v :: q) → rowCmp u.row v.row < 0 → wt (v :: q) (rowBare u.row) = 0 := by
      intro u v q hv hlt
      refine wt_none fun z hz => ?_
      have hlt2 : rowCmp u.row z.row < 0 := by
        rcases List.mem_cons.1 hz with rfl | hz
        · exact hlt
        · have h1 := (List.pairwise_cons.1 hv.srt).1 z hz
          have h2 := rowCmp_ordr.trans u.row v.row z.row (by omega) (by omega)
          have h3 := rowCmp_ordr.trans v.row u.row z.row
          have h4 := rowCmp_ordr.anti u.row v.row
          have h5 := rowCmp_ordr.anti u.row z.row
          have h6 := rowCmp_ordr.anti v.row z.row
          have h7 := rowCmp_ordr.trans z.row u.row v.row
          omega
      exact fun e => cmp_ne hlt2 e.symm
    have hc := rowCmp_ordr.val x.row y.row
    rcases hc with hc | hc | hc
    · have h1 := h x.row bx
      have h2 := key (u := x) hb (by omega)
      rw [bx] at h2
      rw [ha.wt_head, h2] at h1
      exact absurd h1 (ha.nz x (by simp))
    · have e := (rowCmp_ordr.eq0 x.row y.row).1 hc
      rw [bx, by'] at e
      have h1 := h x.row bx
      rw [ha.wt_head, e, hb.wt_head] at h1
      have exy : x = y := by
        cases x; cases y
        simp only at e h1
        rw [e, h1]
      subst exy
      congr 1
      refine canon_ext ha.tail hb.tail fun r hr => ?_
      have := h r hr
      simp only [wt, lin] at this ⊢
      omega
    · have h0 := rowCmp_ordr.anti x.row y.row
      have h1 := h y.row by'
      have h2 := key (u := y) ha (by omega)
      rw [by'] at h2
      rw [hb.wt_head, h2] at h1
      exact absurd h1.symm (hb.nz y (by simp))

/-- All weights together, however signed. -/
def tw : ZSet → Nat
  | [] => 0
  | x :: t => x.w.natAbs + tw t

theorem tw_app (a b : ZSet) : tw (a ++ b) = tw a + tw b := by
  induction a with
  | nil => simp [tw]
  | cons x t ih => simp [tw, ih]; omega

theorem tw_perm {a b : ZSet} (h : a.Perm b) : tw a = tw b := by
  induction h with
  | nil => rfl
  | cons x _ ih => simp [tw, ih]
  | swap x y l => simp [tw]; omega
  | trans _ _ ih1 ih2 => exact ih1.trans ih2

theorem wrap_small {n : Int} (h : n.natAbs ≤ 4611686018427387904) : IntKind.wrap .i64 n = n := by
  rw [IntKind.wrap_i64]
  omega

theorem emitZ_lin (f : Row → Int) (x : ZRow) (l : ZSet) : lin f (emitZ x l) = f (rowBare x.row) * x.w + lin f l := by
  unfold emitZ
  split
  · rfl
  · rename_i h
    have : x.w = 0 := by simpa using h
    rw [this]
    simp

theorem grpZ_ok (f : Row → Int) : ∀ (l : ZSet) (x : ZRow), x.w.natAbs + tw l ≤ 4611686018427387904 → Srt ltZ (x :: l) → (∀ y ∈ x :: l, rowBare y.row = y.row) →
    Canon (grpZ x l) ∧ lin f (grpZ x l) = lin f (x :: l) ∧ ∀ y ∈ grpZ x l, rowCmp x.row y.row ≤ 0
  | [], x, hb, hs, hr => by
    rw [grpZ]
    have h0 := rowCmp_ordr.eq0 x.row x.row
    refine ⟨?_, by rw [emitZ_lin]; rfl, ?_⟩
    · unfold emitZ
      split
      · rename_i h; exact Canon.nil.cons (hr x (by simp)) h (by simp)
      · exact Canon.nil
    · unfold emitZ
      split
      · intro y hy
        rw [List.mem_singleton.1 hy]
        have := h0.2 rfl
        omega
      · simp
  | y :: t, x, hb, hs, hr => by
    rw [grpZ]
    rw [tw] at hb
    have hxy : rowCmp x.row y.row ≤ 0 := by
      have := (List.pairwise_cons.1 hs).1 y (by simp)
      simp only [ltZ, decide_eq_false_iff_not] at this
      have := rowCmp_ordr.anti x.row y.row
      omega
    have bx := hr x (by simp)
    have by' := hr y (by simp)
    by_cases hc : rowCmp y.row x.row = 0
    · rw [if_pos hc]
      have e := (rowCmp_ordr.eq0 y.row x.row).1 hc
      rw [bx, by'] at e
      have hw : IntKind.wrap .i64 (x.w + y.w) = x.w + y.w := wrap_small (by omega)
      rw [hw]
      have hs2 : Srt ltZ ((⟨x.row, x.w + y.w⟩ : ZRow) :: t) := by
        refine List.pairwise_cons.2 ⟨fun z hz => ?_, (List.pairwise_cons.1 (List.pairwise_cons.1 hs).2).2⟩
        exact (List.pairwise_cons.1 hs).1 z (List.mem_cons_of_mem _ hz)
      obtain ⟨g1, g2, g3⟩ := grpZ_ok f t ⟨x.row, x.w + y.w⟩ (by dsimp only; omega) hs2 (fun z hz => by
        rcases List.mem_cons.1 hz with rfl | hz
        · exact bx
        · exact hr z (by simp [hz]))
      refine ⟨g1, ?_, g3⟩
      rw [g2]
      simp only [lin, e]
      rw [Int.mul_add]
      omega
    · rw [if_neg hc]
      have hlt : rowCmp x.row y.row < 0 := by
        have := rowCmp_ordr.anti x.row y.row
        omega
      obtain ⟨g1, g2, g3⟩ := grpZ_ok f t y (by omega) (List.pairwise_cons.1 hs).2 (fun z hz => hr z (List.mem_cons_of_mem _ hz))
      have hlt2 : ∀ z ∈ grpZ y t, rowCmp x.row z.row < 0 := by
        intro z hz
        have h1 := g3 z hz
        have h2 := rowCmp_ordr.trans x.row y.row z.row (by omega) h1
        have h7 := rowCmp_ordr.trans y.row z.row x.row h1
        have h5 := rowCmp_ordr.anti x.row z.row
        have h6 := rowCmp_ordr.anti x.row y.row
        omega
      refine ⟨?_, by rw [emitZ_lin, g2]; rfl, ?_⟩
      · unfold emitZ
        split
        · rename_i h; exact g1.cons bx h hlt2
        · exact g1
      · unfold emitZ
        split
        · intro z hz
          rcases List.mem_cons.1 hz with rfl | hz
          · have := (rowCmp_ordr.eq0 z.row z.row).2 rfl
            omega
          · have := hlt2 z hz; omega
        · intro z hz
          have := hlt2 z hz; omega

theorem lin_bare (f : Row → Int) (l : ZSet) : lin f (l.map zBare) = lin f l := by
  induction l with
  | nil => rfl
  | cons x t ih => simp [lin, zBare, rowBare_bare, ih]

theorem tw_bare (l : ZSet) : tw (l.map zBare) = tw l := by
  induction l with
  | nil => rfl
  | cons x t ih => simp [tw, zBare, ih]

/-- Rows put together: canonical, of the same weights. -/
theorem zTotal_ok {l : ZSet} (hb : tw l ≤ 4611686018427387904) : Canon (zTotal l) ∧ ∀ f, lin f (zTotal l) = lin f l := by
  obtain ⟨h1, h2⟩ := isort_srt ltZ_sw (l.map zBare)
  have hbare : ∀ y ∈ isort ltZ (l.map zBare), rowBare y.row = y.row := by
    intro y hy
    rw [h2.mem] at hy
    obtain ⟨z, _, rfl⟩ := List.mem_map.1 hy
    exact rowBare_bare _
  have htw := tw_perm h2.perm
  rw [tw_bare] at htw
  have hlin := fun f => (lin_perm f h2.perm).trans (lin_bare f l)
  unfold zTotal
  cases hs : isort ltZ (l.map zBare) with
  | nil =>
    rw [hs] at hlin
    exact ⟨Canon.nil, fun f => hlin f⟩
  | cons x t =>
    rw [hs] at h1 hbare htw hlin
    have := fun f => grpZ_ok f t x (by rw [tw] at htw; omega) h1 hbare
    exact ⟨(this (one [])).1, fun f => (this f).2.1.trans (hlin f)⟩

end Go.Tide

/- Windows lose no row; a closed fact of windows. -/
set_option linter.unusedVariables false
namespace Go.Tide

theorem ite_or {α : Type} {p : Prop} [Decidable p] (a b : α) : (if p then a else b) = a ∨ (if p then a else b) = b := by split <;> simp

def vNum (n : Int) : Val := ⟨3, n, bE⟩
def xCol (k : Int) : Expr := .mk 2 ⟨0, 0, bE⟩ k []
def xNone : Expr := .mk 0 ⟨0, 0, bE⟩ 0 []

theorem alive_window : windowZ [3] [] [xCol 0] [⟨1, xNone⟩, ⟨2, xNone⟩] [⟨[vNum 5], 2⟩, ⟨[vNum 7], 1⟩] =
    ([⟨[vNum 5, vNum 1, vNum 1], 1⟩, ⟨[vNum 5, vNum 2, vNum 1], 1⟩, ⟨[vNum 7, vNum 3, vNum 3], 1⟩], 0) := by kernel_rfl

/-! ### what is right, sorted -/

theorem zw_sorted : ∀ {l : ZSet} {p : Option Row}, zwGo p l = 0 → l.Pairwise (fun a b => rowCmp a.row b.row < 0) ∧ ∀ q, p = some q → ∀ x ∈ l, rowCmp q x.row < 0
  | [], p, _ => ⟨List.Pairwise.nil, by simp⟩
  | a :: r, p, h => by
    rw [zwGo_cons] at h
    by_cases h1 : rowWrong a.row ≠ 0
    · rw [if_pos h1] at h; exact absurd h h1
    · rw [if_neg h1] at h
      by_cases h2 : a.w = 0 ∨ wOk a.w = false
      · rw [if_pos h2] at h; cases h
      · rw [if_neg h2] at h
        have h3 : zwGo (some a.row) r = 0 ∧ ∀ q, p = some q → rowCmp q a.row < 0 := by
          cases p with
          | none => exact ⟨by simpa using h, by simp⟩
          | some q =>
            by_cases hq : 0 ≤ rowCmp q a.row
            · simp [hq] at h
            · exact ⟨by simpa [hq] using h, fun q' e => by cases e; omega⟩
        obtain ⟨g1, g2⟩ := zw_sorted h3.1
        refine ⟨List.pairwise_cons.2 ⟨g2 _ rfl, g1⟩, fun q hq x hx => ?_⟩
        have h4 := h3.2 q hq
        rcases List.mem_cons.1 hx with rfl | hx
        · exact h4
        · have h5 := g2 _ rfl x hx
          have t1 := rowCmp_ordr.trans q a.row x.row (by omega) (by omega)
          have t2 := rowCmp_ordr.trans a.row x.row q (by omega)
          have a1 := rowCmp_ordr.anti q a.row
          have a2 := rowCmp_ordr.anti q x.row
          omega

theorem zWrong_sorted {z : ZSet} (h : zWrong z = 0) : z.Pairwise (fun a b => rowCmp a.row b.row < 0) := by
  unfold zWrong at h
  split at h
  · cases h
  · exact (zw_sorted h).1

def linF (g : Row → Int) (f : Int → Int) : ZSet → Int
  | [] => 0
  | x :: t => g (rowBare x.row) * f x.w + linF g f t

theorem rowCmp_bare (a b : Row) : rowCmp (rowBare a) (rowBare b) = rowCmp a b := by
  rw [rowCmp_ordr.congr_l (a := rowBare a) (b := a) _ ((rowCmp_ordr.eq0 _ _).2 (rowBare_bare a))]
  have h1 := rowCmp_ordr.anti (rowBare b) a
  have h2 := rowCmp_ordr.anti b a
  have h3 := rowCmp_ordr.congr_l (a := rowBare b) (b := b) a ((rowCmp_ordr.eq0 _ _).2 (rowBare_bare b))
  omega

theorem eachGo_mem (f : Int → Int) : ∀ {z : ZSet} {y : ZRow}, y ∈ eachGo f z → ∃ x ∈ z, y = ⟨rowBare x.row, f x.w⟩ ∧ f x.w ≠ 0
  | [], y, h => by cases h
  | a :: r, y, h => by
    rw [eachGo] at h
    split at h
    · rename_i h1
      rcases List.mem_cons.1 h with rfl | h
      · exact ⟨a, by simp, rfl, h1⟩
      · obtain ⟨x, hx, e⟩ := eachGo_mem f h
        exact ⟨x, List.mem_cons_of_mem _ hx, e⟩
    · obtain ⟨x, hx, e⟩ := eachGo_mem f h
      exact ⟨x, List.mem_cons_of_mem _ hx, e⟩

theorem eachGo_canon (f : Int → Int) : ∀ {z : ZSet}, z.Pairwise (fun a b => rowCmp a.row b.row < 0) → Canon (eachGo f z) ∧ ∀ g, lin g (eachGo f z) = linF g f z
  | [], _ => ⟨Canon.nil, fun _ => rfl⟩
  | a :: r, h => by
    obtain ⟨h1, h2⟩ := eachGo_canon f (List.pairwise_cons.1 h).2
    rw [eachGo]
    by_cases hf : f a.w ≠ 0
    · rw [if_pos hf]
      refine ⟨h1.cons (rowBare_bare _) hf fun y hy => ?_, fun g => ?_⟩
      · obtain ⟨x, hx, e, _⟩ := eachGo_mem f hy
        rw [e]
        dsimp only
        rw [rowCmp_bare]
        exact (List.pairwise_cons.1 h).1 x hx
      · simp only [lin, linF, rowBare_bare, h2]
    · rw [if_neg hf]
      refine ⟨h1, fun g => ?_⟩
      have : f a.w = 0 := by simpa using hf
      simp only [linF, this, h2]
      omega

theorem emitZ_mem {x y : ZRow} {l : ZSet} (h : y ∈ emitZ x l) : y = x ∨ y ∈ l := by
  unfold emitZ at h
  split at h
  · exact List.mem_cons.1 h
  · exact .inr h

theorem grpZ_mem : ∀ {l : ZSet} {x y : ZRow}, y ∈ grpZ x l → ∃ z ∈ x :: l, y.row = z.row
  | [], x, y, h => by
    rw [grpZ] at h
    rcases emitZ_mem h with rfl | h
    · exact ⟨y, by simp, rfl⟩
    · cases h
  | a :: r, x, y, h => by
    rw [grpZ] at h
    split at h
    · obtain ⟨z, hz, e⟩ := grpZ_mem h
      rcases List.mem_cons.1 hz with rfl | hz
      · exact ⟨x, by simp, e⟩
      · exact ⟨z, by simp [hz], e⟩
    · rcases emitZ_mem h with rfl | h
      · exact ⟨y, by simp, rfl⟩
      · obtain ⟨z, hz, e⟩ := grpZ_mem h
        exact ⟨z, List.mem_cons_of_mem _ hz, e⟩

theorem zTotal_mem {l : ZSet} {y : ZRow} (h : y ∈ zTotal l) : ∃ x ∈ l, y.row = rowBare x.row := by
  unfold zTotal at h
  have hs := (isort_srt ltZ_sw (l.map zBare)).2
  cases hi : isort ltZ (l.map zBare) with
  | nil => rw [hi] at h; cases h
  | cons a r =>
    rw [hi] at h
    obtain ⟨z, hz, e⟩ := grpZ_mem h
    rw [← hi, hs.mem] at hz
    obtain ⟨x, hx, rfl⟩ := List.mem_map.1 hz
    exact ⟨x, hx, e⟩

theorem zFit_ok {z w : ZSet} (h : zFit z = (w, 0)) : w = z ∧ (∀ x ∈ z, wOk x.w = true) ∧ z.length ≤ 400 := by
  unfold zFit at h
  split at h
  · cases h
  · rename_i h1
    split at h
    · cases h
    · refine ⟨(Prod.mk.inj h).1.symm, fun x hx => ?_, by omega⟩
      cases hw : wOk x.w with
      | true => rfl
      | false => exact absurd (List.any_eq_true.2 ⟨x, hx, by simp [hw]⟩) h1

theorem zFit_id {z : ZSet} (h1 : ∀ x ∈ z, wOk x.w = true) (h2 : z.length ≤ 400) : zFit z = (z, 0) := by
  unfold zFit
  rw [if_neg, if_neg (by omega)]
  simp only [List.any_eq_true, not_exists, not_and]
  intro x hx
  simp [h1 x hx]

theorem zFit_err {z : ZSet} (h : (zFit z).2 ≠ 0) : (zFit z).1 = [] := by
  unfold zFit at h ⊢
  split
  · rfl
  · split
    · rfl
    · rename_i h1 h2; rw [if_neg h1, if_neg h2] at h; exact absurd rfl h

/-! ### no row is lost -/

def linL (f : Line → Int) : List Line → Int
  | [] => 0
  | l :: r => f l + linL f r

theorem linL_perm (f : Line → Int) {a b : List Line} (h : a.Perm b) : linL f a = linL f b := by
  induction h with
  | nil => rfl
  | cons x _ ih => simp [linL, ih]
  | swap x y l => simp [linL]; omega
  | trans _ _ ih1 ih2 => exact ih1.trans ih2

theorem linL_app (f : Line → Int) (a b : List Line) : linL f (a ++ b) = linL f a + linL f b := by
  induction a with
  | nil => simp [linL]
  | cons x t ih => simp [linL, ih]; omega

theorem linL_rep (f : Line → Int) (l : Line) (n : Nat) : linL f (List.replicate n l) = f l * n := by
  induction n with
  | zero => simp [linL]
  | succ n ih => rw [List.replicate_succ, linL, ih, Int.natCast_succ, Int.mul_add]; omega

theorem lin_tells (f : Row → Int) (g : Line → Int) (ws : List Agg) : ∀ (L : List Line) (p : Option Line) (t : Tel), (∀ l ∈ L, ∀ t', f (rowBare (telTells t' ws l)) = g l) → lin f (tellsGo ws p t L) = linL g L
  | [], _, _, _ => rfl
  | l :: r, p, t, h => by
    rw [tellsGo, lin, linL, lin_tells f g ws r _ _ fun l hl => h l (List.mem_cons_of_mem _ hl), h l (by simp)]
    dsimp only
    omega

theorem linL_lines (g : Row → Int) (part order : List Expr) : ∀ z : ZSet, linL (fun l => g (rowBare l.row)) (linesOf part order z) = linF g posW z
  | [] => rfl
  | x :: t => by
    have : linesOf part order (x :: t) = List.replicate (posW x.w).toNat (mkLine part order x) ++ linesOf part order t := rfl
    rw [this, linL_app, linL_rep, linL_lines g part order t, linF]
    have hp : ((posW x.w).toNat : Int) = posW x.w := Int.toNat_of_nonneg (by unfold posW; split <;> omega)
    rw [hp]
    rfl

theorem tellsGo_tw (ws : List Agg) : ∀ (L : List Line) (p : Option Line) (t : Tel), tw (tellsGo ws p t L) = L.length
  | [], _, _ => rfl
  | l :: r, p, t => by rw [tellsGo, tw, tellsGo_tw ws r, List.length_cons]; simp; omega

theorem tellsGo_mem (ws : List Agg) : ∀ {L : List Line} {p : Option Line} {t : Tel} {y : ZRow}, y ∈ tellsGo ws p t L → ∃ l ∈ L, ∃ t', y.row = telTells t' ws l ∧ (∃ p' t'', t' = telAt ws.length p' t'' l)
  | [], _, _, y, h => by cases h
  | l :: r, p, t, y, h => by
    rw [tellsGo] at h
    rcases List.mem_cons.1 h with rfl | h
    · exact ⟨l, by simp, _, rfl, _, _, rfl⟩
    · obtain ⟨l', h1, h2⟩ := tellsGo_mem ws h
      exact ⟨l', List.mem_cons_of_mem _ h1, h2⟩

/-- What windows tell is as many values as there are windows. -/
def TelOk (n : Nat) (t : Tel) : Prop := t.sums.length = n ∧ t.some.length = n

theorem telInit_ok (n : Nat) : TelOk n (telInit n) := by simp [TelOk, telInit]
theorem telNext_ok {ws : List Agg} {t : Tel} (h : TelOk ws.length t) (l : Line) : TelOk ws.length (telNext t ws l) := by
  have : (telOuts t ws l).length = ws.length := winAll_len _ _ _ _ _ _ _ _ h.1 h.2
  simp [TelOk, telNext, this]
theorem telAt_or (n : Nat) (p : Option Line) (t : Tel) (l : Line) : telAt n p t l = telInit n ∨ telAt n p t l = t := by
  unfold telAt
  exact ite_or _ _
theorem telAt_ok {n : Nat} {t : Tel} (h : TelOk n t) (p : Option Line) (l : Line) : TelOk n (telAt n p t l) := by
  rcases telAt_or n p t l with e | e
  · rw [e]; exact telInit_ok n
  · rw [e]; exact h

theorem tellsGo_lens (ws : List Agg) : ∀ {L : List Line} {p : Option Line} {t : Tel} {y : ZRow}, TelOk ws.length t → y ∈ tellsGo ws p t L → ∃ l ∈ L, ∃ t', TelOk ws.length t' ∧ y.row = telTells t' ws l
  | [], _, _, y, _, h => by cases h
  | l :: r, p, t, y, ht, h => by
    rw [tellsGo] at h
    rcases List.mem_cons.1 h with rfl | h
    · exact ⟨l, by simp, _, telAt_ok ht p l, rfl⟩
    · obtain ⟨l', h1, h2⟩ := tellsGo_lens ws (telNext_ok (telAt_ok ht p l) l) h
      exact ⟨l', List.mem_cons_of_mem _ h1, h2⟩

theorem telTells_len {ws : List Agg} {t : Tel} (h : TelOk ws.length t) (l : Line) : (telTells t ws l).length = l.row.length + ws.length := by
  have : (telOuts t ws l).length = ws.length := winAll_len _ _ _ _ _ _ _ _ h.1 h.2
  simp [telTells, this]


theorem zwGo_rows' : ∀ {p : Option Row} {l : ZSet}, zwGo p l = 0 → ∀ z ∈ l, wOk z.w = true
  | _, [], _, z, hz => by cases hz
  | p, a :: r, h, z, hz => by
    rw [zwGo_cons] at h
    by_cases h1 : rowWrong a.row ≠ 0
    · rw [if_pos h1] at h; exact absurd h h1
    · rw [if_neg h1] at h
      by_cases h2 : a.w = 0 ∨ wOk a.w = false
      · rw [if_pos h2] at h; cases h
      · rw [if_neg h2] at h
        have h3 : zwGo (some a.row) r = 0 := by
          cases p with
          | none => simpa using h
          | some q =>
            by_cases hq : 0 ≤ rowCmp q a.row
            · simp [hq] at h
            · simpa [hq] using h
        rcases List.mem_cons.1 hz with rfl | hz
        · cases hw : wOk z.w with
          | true => rfl
          | false => exact absurd (.inr hw) h2
        · exact zwGo_rows' h3 z hz

theorem zWrong_rows' {l : ZSet} (h : zWrong l = 0) : ∀ z ∈ l, wOk z.w = true := by
  unfold zWrong at h
  split at h
  · cases h
  · exact zwGo_rows' h

theorem valsWrong_right {r : Row} (h : r.Right) : valsWrong r = 0 := by
  induction r with
  | nil => rfl
  | cons v t ih =>
    rw [valsWrong, if_neg]
    · exact ih fun u hu => h u (List.mem_cons_of_mem _ hu)
    · have : v.wrong = 0 := h v (by simp)
      simp [this]

theorem rowWrong_right {r : Row} (h : r.Right) (hl : r.length ≤ 8) : rowWrong r = 0 := by
  unfold rowWrong
  rw [if_neg (by omega)]
  exact valsWrong_right h

theorem rowBare_right {r : Row} (h : r.Right) : (rowBare r).Right := by
  intro v hv
  obtain ⟨u, hu, rfl⟩ := List.mem_map.1 hv
  exact Val.bare_right (h u hu)

theorem ofWrong_zero {l : ZSet} (h : ∀ z ∈ l, rowWrong z.row = 0 ∧ wOk z.w = true) : ofWrong l = 0 := by
  induction l with
  | nil => rfl
  | cons a r ih =>
    have h1 := h a (by simp)
    rw [ofWrong, if_neg (by simp [h1.1]), if_neg (by simp [h1.2])]
    exact ih fun z hz => h z (List.mem_cons_of_mem _ hz)

/-- What comes of right arguments: rows told, put together. -/
structure WinOk (cols : List Int) (part order : List Expr) (ws : List Agg) (z w : ZSet) : Prop where
  few : cols.length + ws.length ≤ 8
  po : part.length ≤ 8 ∧ ∀ y ∈ part, y.Ok
  oo : order.length ≤ 8 ∧ ∀ y ∈ order, y.Ok
  wo : ∀ w ∈ ws, 1 ≤ w.kind ∧ w.kind ≤ 5 ∧ (4 ≤ w.kind → w.x.Ok)
  inp : opsInput cols z = 0
  zw : zWrong z = 0
  zr : ∀ r ∈ z, r.row.length = cols.length ∧ Row.Right r.row
  lines : (linesOf part order z).length ≤ 400
  is : w = zTotal (tellsGo ws none (telInit ws.length) (isort ltLn (linesOf part order z)))
  wts : ∀ x ∈ w, wOk x.w = true
  len : w.length ≤ 400

theorem windowZ_ok {cols : List Int} {part order : List Expr} {ws : List Agg} {z w : ZSet} (h : windowZ cols part order ws z = (w, 0)) : WinOk cols part order ws z w := by
  unfold windowZ at h
  by_cases g1 : 8 < cols.length + ws.length
  · rw [if_pos g1] at h; cases h
  rw [if_neg g1] at h
  by_cases g2 : (opsTypes cols part).2 ≠ 0
  · rw [if_pos g2] at h; exact absurd (Prod.mk.inj h).2 g2
  rw [if_neg g2] at h
  by_cases g3 : (opsTypes cols order).2 ≠ 0
  · rw [if_pos g3] at h; exact absurd (Prod.mk.inj h).2 g3
  rw [if_neg g3] at h
  by_cases g4 : (winTypes cols ws).2 ≠ 0
  · rw [if_pos g4] at h; exact absurd (Prod.mk.inj h).2 g4
  rw [if_neg g4] at h
  by_cases g5 : opsInput cols z ≠ 0
  · rw [if_pos g5] at h; exact absurd (Prod.mk.inj h).2 g5
  rw [if_neg g5] at h
  by_cases g6 : 400 < (linesOf part order z).length
  · rw [if_pos g6] at h; cases h
  rw [if_neg g6] at h
  have g5' : opsInput cols z = 0 := by simpa using g5
  obtain ⟨h1, h2, h3⟩ := opsInput_ok g5'
  obtain ⟨f1, f2, f3⟩ := zFit_ok h
  subst f1
  exact ⟨by omega, opsTypes_ok (by simpa using g2), opsTypes_ok (by simpa using g3), winTypes_ok (by simpa using g4), g5', h2, h3, by omega, rfl, f2, f3⟩

theorem windowZ_err {cols : List Int} {part order : List Expr} {ws : List Agg} {z : ZSet} (h : (windowZ cols part order ws z).2 ≠ 0) : (windowZ cols part order ws z).1 = [] := by
  unfold windowZ at h ⊢
  by_cases g1 : 8 < cols.length + ws.length
  · rw [if_pos g1]
  rw [if_neg g1] at h ⊢
  by_cases g2 : (opsTypes cols part).2 ≠ 0
  · rw [if_pos g2]
  rw [if_neg g2] at h ⊢
  by_cases g3 : (opsTypes cols order).2 ≠ 0
  · rw [if_pos g3]
  rw [if_neg g3] at h ⊢
  by_cases g4 : (winTypes cols ws).2 ≠ 0
  · rw [if_pos g4]
  rw [if_neg g4] at h ⊢
  by_cases g5 : opsInput cols z ≠ 0
  · rw [if_pos g5]
  rw [if_neg g5] at h ⊢
  by_cases g6 : 400 < (linesOf part order z).length
  · rw [if_pos g6]
  rw [if_neg g6] at h ⊢
  exact zFit_err h

section
variable {cols : List Int} {part order : List Expr} {ws : List Agg} {z w : ZSet}

theorem mem_lines {l : Line} (h : l ∈ linesOf part order z) : ∃ r ∈ z, l = mkLine part order r := by
  obtain ⟨r, h1, h2⟩ := List.mem_flatMap.1 h
  exact ⟨r, h1, List.eq_of_mem_replicate h2⟩

theorem winOne_right {R rk dn : Int} {ah : Option Line} {l : Line} {w : Agg} (s : Int) (b : Bool) (hw : 4 ≤ w.kind → w.x.Ok) (hk : 1 ≤ w.kind ∧ w.kind ≤ 5) (hl : l.row.Right) (ha : ∀ a, ah = some a → a.row.Right) : (winOne R rk dn ah l w s b).1.right := by
  unfold winOne
  by_cases h1 : w.kind = 1
  · rw [if_pos h1]; exact Val.ofInt_right _
  rw [if_neg h1]
  by_cases h2 : w.kind = 2
  · rw [if_pos h2]; exact Val.ofInt_right _
  rw [if_neg h2]
  by_cases h3 : w.kind = 3
  · rw [if_pos h3]; exact Val.ofInt_right _
  rw [if_neg h3]
  by_cases h5 : w.kind = 5
  · rw [if_pos h5]
    cases ah with
    | none => exact Val.null_right
    | some a => exact Expr.eval_right (ha a rfl) (hw (by omega))
  rw [if_neg h5]
  split
  · exact Val.ofInt_right _
  · exact ite_right (Val.ofInt_right _) Val.null_right

theorem winAll_right {R rk dn : Int} {ah : Option Line} {l : Line} (hl : l.row.Right) (ha : ∀ a, ah = some a → a.row.Right) : ∀ (ws : List Agg) (ss : List Int) (bs : List Bool), (∀ w ∈ ws, 1 ≤ w.kind ∧ w.kind ≤ 5 ∧ (4 ≤ w.kind → w.x.Ok)) → ∀ o ∈ winAll R rk dn ah l ws ss bs, o.1.right
  | w :: ws, s :: ss, b :: bs, h, o, ho => by
    rw [winAll] at ho
    have h1 := h w (by simp)
    rcases List.mem_cons.1 ho with rfl | ho
    · exact winOne_right s b h1.2.2 ⟨h1.1, h1.2.1⟩ hl ha
    · exact winAll_right hl ha ws ss bs (fun w hw => h w (List.mem_cons_of_mem _ hw)) o ho
  | [], _, _, _, o, ho => by simp [winAll] at ho
  | w :: ws, [], _, _, o, ho => by simp [winAll] at ho
  | w :: ws, s :: ss, [], _, o, ho => by simp [winAll] at ho

/-- Right rows are told right. -/
theorem tells_right {L : List Line} (hL : ∀ l ∈ L, l.row.Right) (hw : ∀ w ∈ ws, 1 ≤ w.kind ∧ w.kind ≤ 5 ∧ (4 ≤ w.kind → w.x.Ok)) : ∀ {p : Option Line} {t : Tel}, (∀ a, t.ahead = some a → a.row.Right) → ∀ y ∈ tellsGo ws p t L, Row.Right y.row := by
  induction L with
  | nil => intro p t _ y hy; cases hy
  | cons l r ih =>
    intro p t ha y hy
    rw [tellsGo] at hy
    have hl := hL l (by simp)
    have ha2 : ∀ a, (telAt ws.length p t l).ahead = some a → a.row.Right := by
      intro a h
      rcases telAt_or ws.length p t l with e | e
      · rw [e] at h; cases h
      · rw [e] at h; exact ha a h
    rcases List.mem_cons.1 hy with rfl | hy
    · intro v hv
      rcases List.mem_append.1 hv with hv | hv
      · exact hl v hv
      · obtain ⟨o, ho, rfl⟩ := List.mem_map.1 hv
        exact winAll_right hl ha2 ws _ _ hw o ho
    · exact ih (fun l hl => hL l (List.mem_cons_of_mem _ hl)) (fun a h => by cases h; exact hl) y hy

theorem WinOk.rows (h : WinOk cols part order ws z w) : ∀ x ∈ w, x.row.length = cols.length + ws.length ∧ Row.Right x.row ∧ rowBare x.row = x.row := by
  intro x hx
  rw [h.is] at hx
  have hs := (isort_srt ltLn_sw (linesOf part order z)).2
  obtain ⟨y, hy, e⟩ := zTotal_mem hx
  have hLr : ∀ l ∈ isort ltLn (linesOf part order z), l.row.Right ∧ l.row.length = cols.length := by
    intro l hl
    rw [hs.mem] at hl
    obtain ⟨r, hr, rfl⟩ := mem_lines hl
    exact ⟨(h.zr r hr).2, (h.zr r hr).1⟩
  obtain ⟨l, hl, t', ht, e2⟩ := tellsGo_lens ws (telInit_ok _) hy
  have hr := tells_right (fun l hl => (hLr l hl).1) h.wo (fun a h => by cases h) y hy
  rw [e]
  refine ⟨?_, rowBare_right hr, rowBare_bare _⟩
  rw [rowBare, List.length_map, e2, telTells_len ht, (hLr l hl).2]

theorem lin_map (f : Row → Int) (g : ZRow → ZRow) (f' : Row → Int) (hw : ∀ x : ZRow, (g x).w = x.w) (l : ZSet) (hf : ∀ x ∈ l, f (rowBare (g x).row) = f' (rowBare x.row)) : lin f (l.map g) = lin f' l := by
  induction l with
  | nil => rfl
  | cons x t ih => rw [List.map_cons, lin, lin, hw, hf x (by simp), ih fun y hy => hf y (List.mem_cons_of_mem _ hy)]

theorem tw_le {l : ZSet} (h : ∀ x ∈ l, wOk x.w = true) : tw l ≤ 1000000 * l.length := by
  induction l with
  | nil => simp [tw]
  | cons x t ih =>
    have := ih fun y hy => h y (List.mem_cons_of_mem _ hy)
    have h1 := h x (by simp)
    simp only [wOk, Bool.and_eq_true, decide_eq_true_eq] at h1
    rw [tw, List.length_cons]
    omega

def cutZ (n : Nat) (w : ZSet) : ZSet := w.map fun x => ⟨x.row.take n, x.w⟩

/-- NO ROW IS LOST. -/
theorem window_keeps (h : WinOk cols part order ws z w) : zOf (cutZ cols.length w) = (eachGo posW z, 0) := by
  have hrows := h.rows
  have hlen : (cutZ cols.length w).length = w.length := by simp [cutZ]
  have hcw : ∀ x ∈ cutZ cols.length w, rowWrong x.row = 0 ∧ wOk x.w = true := by
    intro x hx
    obtain ⟨y, hy, rfl⟩ := List.mem_map.1 hx
    refine ⟨rowWrong_right (fun v hv => (hrows y hy).2.1 v (List.mem_of_mem_take hv)) ?_, h.wts y hy⟩
    dsimp only
    rw [List.length_take]
    have := h.few
    omega
  have htw : tw (cutZ cols.length w) ≤ 4611686018427387904 := by
    have := tw_le fun x hx => (hcw x hx).2
    have := h.len
    omega
  obtain ⟨c1, c2⟩ := zTotal_ok htw
  obtain ⟨e1, e2⟩ := eachGo_canon posW (zWrong_sorted h.zw)
  have key : zTotal (cutZ cols.length w) = eachGo posW z := by
    refine canon_ext c1 e1 fun r hr => ?_
    unfold wt
    rw [c2, e2]
    have s1 : lin (one r) (cutZ cols.length w) = lin (fun q => one r (rowBare (q.take cols.length))) w := by
      refine lin_map _ (fun x => ⟨x.row.take cols.length, x.w⟩) _ (fun _ => rfl) w fun x hx => ?_
      simp only [rowBare, ← List.map_take, List.map_map, Function.comp_def, bare_bare]
    rw [s1, h.is]
    have hs := (isort_srt ltLn_sw (linesOf part order z)).2
    obtain ⟨_, t2⟩ := zTotal_ok (l := tellsGo ws none (telInit ws.length) (isort ltLn (linesOf part order z))) (by
      rw [tellsGo_tw, hs.len]
      have := h.lines
      omega)
    rw [t2, lin_tells _ (fun l => one r (rowBare l.row)), linL_perm _ hs.perm, linL_lines (one r)]
    intro l hl t'
    rw [hs.mem] at hl
    obtain ⟨q, hq, rfl⟩ := mem_lines hl
    have hl2 : (mkLine part order q).row.length = cols.length := (h.zr q hq).1
    simp only [telTells, rowBare, List.map_append]
    rw [List.take_append_of_le_length (by rw [List.length_map]; omega), List.take_of_length_le (by rw [List.length_map]; omega)]
    simp [Function.comp_def, bare_bare]
  have hz : ∀ x ∈ eachGo posW z, wOk x.w = true := by
    intro x hx
    obtain ⟨y, hy, e, _⟩ := eachGo_mem posW hx
    have := (zWrong_rows' h.zw y hy)
    rw [e]
    simp only [wOk, Bool.and_eq_true, decide_eq_true_eq] at this ⊢
    unfold posW
    split <;> omega
  unfold zOf
  rw [if_neg (by have := h.len; omega), if_neg (by rw [ofWrong_zero hcw]; simp)]
  unfold zSum
  rw [key]
  exact zFit_id hz (by have := eachGo_len posW z; have := zWrong_len h.zw; omega)
end

end Go.Tide
