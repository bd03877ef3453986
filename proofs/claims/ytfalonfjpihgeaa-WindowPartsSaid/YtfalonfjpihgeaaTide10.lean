/- Part 10 of the proof's ground: The statements' own functions, of windows. -/
import Derived.Test.YtfalonfjpihgeaaTide9

/- The statements' own functions, of windows. -/
set_option linter.unusedVariables false
set_option maxRecDepth 8000
namespace Go.Tide
variable {x : Sto} {K : List A → Sto → Prop}

theorem s_tideref2_Same (a : ZSet) (h : K [.bool true] x) : CC n_tideref2_Same [aS a, aS a] x K := by
  have hmax : maxI = 9223372036854775807 := rfl
  refine fnc g_tideref2_Same rfl ?_
  conv => whnf
  intro hl
  conv => whnf
  intro hl2
  conv => whnf
  refine way_f (by simp) ?_
  conv => whnf
  intro hl3
  conv => whnf
  refine loop (fun (i : Nat) => s_tideref2_Same_l0 (aS a) (aS a) (aI (a.map encZ).length) (aI i) x) (fun i => a.length - i) (fun i => i ≤ a.length) ?_ 0 (Nat.zero_le _)
  intro i hi ih
  conv => whnf
  refine way_dec (fun g1 => ?_) (fun g1 => ?_)
  all_goals conv => whnf
  · obtain ⟨z, q, e, e2, hlt⟩ := lt_drop g1
    refine ⟨encZ z, Int.natCast_nonneg _, at_drop encZ e, rfl, ?_⟩
    conv => whnf
    refine ⟨encZ z, Int.natCast_nonneg _, at_drop encZ e, rfl, ?_⟩
    conv => whnf
    refine way_f (by simp) ?_
    conv => whnf
    refine ⟨encZ z, Int.natCast_nonneg _, at_drop encZ e, rfl, ?_⟩
    conv => whnf
    refine ⟨encZ z, Int.natCast_nonneg _, at_drop encZ e, rfl, ?_⟩
    conv => whnf
    refine way_f (by simp) ?_
    conv => whnf
    refine ⟨encZ z, Int.natCast_nonneg _, at_drop encZ e, rfl, ?_⟩
    conv => whnf
    intro hl4
    conv => whnf
    refine loop (fun (k : Nat) => s_tideref2_Same_l1 (aS a) (aS a) (aI i) (aI (a.map encZ).length) (aI i) (aI (z.row.map encV).length) (aI k) x) (fun k => z.row.length - k) (fun k => k ≤ z.row.length) ?_ 0 (Nat.zero_le _)
    intro k hk ih2
    conv => whnf
    refine way_dec (fun g2 => ?_) (fun g2 => ?_)
    all_goals conv => whnf
    · obtain ⟨v, q2, f, f2, hlt2⟩ := lt_drop g2
      refine ⟨encZ z, Int.natCast_nonneg _, at_drop encZ e, rfl, ?_⟩
      conv => whnf
      refine ⟨encV v, Int.natCast_nonneg _, at_drop encV f, rfl, ?_⟩
      conv => whnf
      refine ⟨encZ z, Int.natCast_nonneg _, at_drop encZ e, rfl, ?_⟩
      conv => whnf
      refine ⟨encV v, Int.natCast_nonneg _, at_drop encV f, rfl, ?_⟩
      conv => whnf
      refine way_f (by simp) ?_
      conv => whnf
      rw [succ_map hl4 hlt2]
      exact ih2 (k + 1) (by omega) (by omega)
    · rw [succ_map hl3 hlt]
      exact ih (i + 1) (by omega) (by omega)
  · exact h

theorem s_tidelaw15_num (n : Int) (h : K [aV (vNum n)] x) : CC n_tidelaw15_num [aI n] x K := by
  refine fnc g_tidelaw15_num rfl ?_
  conv => whnf
  exact h

theorem s_tidelaw15_col (k : Int) (h : K [aE (xCol k)] x) : CC n_tidelaw15_col [aI k] x K := by
  refine fnc g_tidelaw15_col rfl ?_
  conv => whnf
  exact h

theorem s_window_Window_is {cols : List Int} {part order : List Expr} {ws : List Agg} {z w : ZSet} {e : Int} (hr : windowZ cols part order ws z = (w, e)) (hc : cols.length ≤ 140737488355328) (hws : ws.length ≤ 140737488355328)
    (h : K [aS w, aI e] x) : CC n_window_Window [aIs cols, aEs part, aEs order, .sl (ws.map encG), aS z] x K := by
  refine s_window_Window cols part order ws z hc hws ?_
  rw [hr]
  exact h

theorem K_bool {b : Bool} (e : b = true) (h : K [.bool true] x) : K [.bool b] x := e ▸ h

theorem alive_rest (v5 v1 v2 v7 v3 : Val) (h1 : v1 = vNum 1) (h2 : v2 = vNum 2) (h3 : v3 = vNum 3)
    (hr : windowZ [3] [] [xCol 0] [⟨1, xNone⟩, ⟨2, xNone⟩] [⟨[vNum 5], 2⟩, ⟨[vNum 7], 1⟩] = ([⟨[v5, v1, v1], 1⟩, ⟨[v5, v2, v1], 1⟩, ⟨[v7, v3, v3], 1⟩], 0))
    (h : K [.bool true] x) : CC n_tidelaw15_alive [] x K := by
  refine fnc g_tidelaw15_alive rfl ?_
  conv => whnf
  refine s_tidelaw15_num 5 ?_
  refine ⟨fun _ => rfl, ?_⟩
  conv => whnf
  refine s_tidelaw15_num 7 ?_
  refine ⟨fun _ => rfl, ?_⟩
  conv => whnf
  refine s_tidelaw15_col 0 ?_
  refine ⟨fun _ => rfl, ?_⟩
  conv => whnf
  refine s_window_Window_is hr (by simp) (by simp) ?_
  refine ⟨fun _ => rfl, ?_⟩
  conv => whnf
  refine ⟨encZ ⟨[v5, v2, v1], 1⟩, by decide, rfl, rfl, ?_⟩
  conv => whnf
  refine ⟨encV v2, by decide, rfl, rfl, ?_⟩
  conv => whnf
  refine ⟨_, s_tidelaw15_num 2 ⟨rfl, rfl⟩, ?_⟩
  conv => whnf
  refine way_t (by simp [vNum, h2]) ?_
  conv => whnf
  refine ⟨encZ ⟨[v5, v2, v1], 1⟩, by decide, rfl, rfl, ?_⟩
  conv => whnf
  refine ⟨encV v1, by decide, rfl, rfl, ?_⟩
  conv => whnf
  refine ⟨_, s_tidelaw15_num 1 ⟨rfl, rfl⟩, ?_⟩
  conv => whnf
  refine way_t (by simp [vNum, h1]) ?_
  conv => whnf
  refine ⟨encZ ⟨[v7, v3, v3], 1⟩, by decide, rfl, rfl, ?_⟩
  conv => whnf
  refine ⟨encV v3, by decide, rfl, rfl, ?_⟩
  conv => whnf
  refine ⟨_, s_tidelaw15_num 3 ⟨rfl, rfl⟩, ?_⟩
  conv => whnf
  refine K_bool ?_ h
  simp [vNum, h3]

theorem s_tidelaw15_alive (h : K [.bool true] x) : CC n_tidelaw15_alive [] x K :=
  alive_rest _ _ _ _ _ rfl rfl rfl alive_window h

theorem positive_win {cols : List Int} {part order : List Expr} {ws : List Agg} {z w : ZSet} (h : WinOk cols part order ws z w) : zPositive z = (eachGo posW z, 0) := by
  unfold zPositive zEach
  rw [if_neg (by rw [h.zw]; simp)]

theorem s_tidelaw15_cut (w : ZSet) {n : Nat} (hw : w.length ≤ 1000000) (hr : ∀ z ∈ w, n ≤ z.row.length) (h : K [aS (zOf (cutZ n w)).1] x) : CC n_tidelaw15_cut [aS w, aI n] x K := by
  have hmaxB : maxB = 140737488355328 := rfl
  have hmax : maxI = 9223372036854775807 := rfl
  refine fnc g_tidelaw15_cut rfl ?_
  conv => whnf
  intro hl
  conv => whnf
  refine loop (fun (t : Nat × ZSet) => s_tidelaw15_cut_l0 (aI n) (.gs (.L 5) (t.2.map encZ)) (aS w) (aI (w.map encZ).length) (aI t.1) (.tok ty_api_ZRow 2 (t.2.map encZ).length) x) (fun t => w.length - t.1) (fun t => t.1 ≤ w.length ∧ t.2 = cutZ n (w.take t.1)) ?_ (0, []) ⟨Nat.zero_le _, rfl⟩
  conv => whnf
  rintro ⟨i, out⟩ ⟨hi, ho⟩ ih
  dsimp only at hi ho ih ⊢
  have hol : out.length = i := by rw [ho, cutZ, List.length_map, List.length_take]; omega
  conv => whnf
  refine way_dec (fun g1 => ?_) (fun g1 => ?_)
  all_goals conv => whnf
  · obtain ⟨z, q, e, e2, hlt⟩ := lt_drop g1
    refine ⟨encZ z, Int.natCast_nonneg _, at_drop encZ e, rfl, ?_⟩
    conv => whnf
    have hz := hr z (mem_drop e)
    refine ⟨Int.natCast_nonneg _, by rw [List.length_map]; omega, ?_, ?_⟩
    · intro u hu
      obtain ⟨v, _, rfl⟩ := List.mem_map.1 hu
      rfl
    conv => whnf
    rw [show ((n : Int)).toNat = n by omega, ← List.map_take]
    refine ⟨rfl, rfl, rfl, sl_one encZ 2 (fun _ => rfl) ⟨z.row.take n, z.w⟩, by simp only [List.length_map, List.length_cons, List.length_nil]; omega, by simp only [List.length_map, List.length_cons, List.length_nil]; omega, ?_⟩
    conv => whnf
    rw [tok_snoc, snoc_map encZ out ⟨z.row.take n, z.w⟩ rfl, succ_map hl hlt]
    exact ih (i + 1, out ++ [⟨z.row.take n, z.w⟩]) ⟨by dsimp only; omega, by dsimp only; rw [take_snoc e, ho]; simp [cutZ]⟩ (by dsimp only; omega)
  · have hi2 : w.take i = w := List.take_of_length_le (by rw [List.length_map] at g1; omega)
    rw [hi2] at ho
    subst ho
    refine s_zsets_Of (cutZ n w) ?_
    refine ⟨fun _ => rfl, ?_⟩
    conv => whnf
    exact h
theorem s_tidelaw15_WindowKeeps (cols : List Int) (part order : List Expr) (ws : List Agg) (z : ZSet) (hc : cols.length ≤ 140737488355328) (hws : ws.length ≤ 140737488355328)
    (h : K [.bool true] x) : CC n_tidelaw15_WindowKeeps [aIs cols, aEs part, aEs order, .sl (ws.map encG), aS z] x K := by
  have hmax : maxI = 9223372036854775807 := rfl
  refine fnc g_tidelaw15_WindowKeeps rfl ?_
  conv => whnf
  refine s_tidelaw15_alive ?_
  refine ⟨fun _ => rfl, ?_⟩
  conv => whnf
  obtain ⟨w, e, hr⟩ : ∃ w e, windowZ cols part order ws z = (w, e) := ⟨_, _, rfl⟩
  obtain ⟨p, pe, hp⟩ : ∃ p e, zPositive z = (p, e) := ⟨_, _, rfl⟩
  refine s_window_Window_is hr hc hws ?_
  refine ⟨fun _ => rfl, ?_⟩
  conv => whnf
  refine s_zsets_Positive z ?_
  refine ⟨fun _ => rfl, ?_⟩
  conv => whnf
  rw [hp]
  conv => whnf
  by_cases he : e = 0
  · subst he
    have hw := windowZ_ok hr
    rw [positive_win hw] at hp
    cases hp
    conv => whnf
    intro hl
    conv => whnf
    refine loop (fun (i : Nat) => s_tidelaw15_WindowKeeps_l0 (aIs cols) (.sl (ws.map encG)) (aS w) (aS (eachGo posW z)) (aS w) (aI (w.map encZ).length) (aI i) x) (fun i => w.length - i) (fun i => i ≤ w.length) ?_ 0 (Nat.zero_le _)
    intro i hi ih
    conv => whnf
    refine way_dec (fun g1 => ?_) (fun g1 => ?_)
    all_goals conv => whnf
    · obtain ⟨r, q, e, e2, hlt⟩ := lt_drop g1
      refine ⟨encZ r, Int.natCast_nonneg _, at_drop encZ e, rfl, ?_⟩
      conv => whnf
      have hrow := (hw.rows r (mem_drop e)).1
      intro l1
      conv => whnf
      intro l2
      conv => whnf
      intro l3
      conv => whnf
      refine way_f ?_ ?_
      · simp only [List.length_map] at *
        rw [wrap_i64 ⟨by omega, by omega⟩]
        simp only [bne, Bool.not_eq_eq_eq_not, Bool.not_false, beq_iff_eq]
        omega
      conv => whnf
      rw [succ_map hl hlt]
      exact ih (i + 1) (by omega) (by omega)
    · intro l1
      conv => whnf
      rw [List.length_map]
      refine s_tidelaw15_cut w (n := cols.length) (by have := hw.len; omega) (fun r hr => by have := (hw.rows r hr).1; omega) ?_
      refine ⟨fun _ => rfl, ?_⟩
      conv => whnf
      rw [window_keeps hw]
      refine s_tideref2_Same (eachGo posW z) ?_
      refine ⟨fun _ => rfl, ?_⟩
      conv => whnf
      exact h
  · have hw : w = [] := by have := windowZ_err (by rw [hr]; exact he); rw [hr] at this; exact this
    subst hw
    refine way_t (by simpa using he) ?_
    conv => whnf
    intro hl
    conv => whnf
    conv => whnf
    exact h
end Go.Tide

/- The document's answer on values: the same order, the same truths. -/
set_option linter.unusedVariables false
namespace Go.Tide

/-- The order of two values, case by case. -/
def rOrd (a b : Val) : Int :=
  if a.kind < b.kind then -1 else if a.kind > b.kind then 1 else if a.kind = 1 then 0
  else if (a.kind = 4 ∧ Op.bytesLess a.text.toList b.text.toList = true) ∨ (a.kind ≠ 4 ∧ a.n < b.n) then -1
  else if (a.kind = 4 ∧ Op.bytesLess b.text.toList a.text.toList = true) ∨ (a.kind ≠ 4 ∧ a.n > b.n) then 1 else 0

theorem bare_kind (v : Val) : v.bare.kind = v.kind := by
  unfold Val.bare
  split
  · rename_i h; exact h.symm
  · split
    · rename_i h; exact h.symm
    · rfl

theorem rOrd_eq (a b : Val) : rOrd a b = a.cmp b := by
  unfold rOrd Val.cmp
  rw [orI_three, bare_kind, bare_kind]
  unfold cmpI
  by_cases h1 : a.kind < b.kind
  · simp [h1]
  · by_cases h2 : b.kind < a.kind
    · simp [h1, h2]
    · have e : b.kind = a.kind := by omega
      have hk : (if a.kind < b.kind then (-1 : Int) else if b.kind < a.kind then 1 else 0) = 0 := by rw [if_neg h1, if_neg h2]
      rw [hk, if_neg h1, if_neg (show ¬ a.kind > b.kind by omega), if_neg (show ¬ (0 : Int) ≠ 0 by simp)]
      by_cases h3 : a.kind = 1
      · rw [if_pos h3]
        have e1 : a.bare = Val.null := by unfold Val.bare; rw [if_pos h3]
        have e2 : b.bare = Val.null := by unfold Val.bare; rw [if_pos (by omega)]
        rw [e1, e2]
        simp [Val.null, (cmpB_ordr.eq0 bE bE).2 rfl]
      · rw [if_neg h3]
        by_cases h4 : a.kind = 4
        · have e1 : a.bare = ⟨4, 0, a.text⟩ := by unfold Val.bare; rw [if_neg h3, if_pos h4]
          have e2 : b.bare = ⟨4, 0, b.text⟩ := by unfold Val.bare; rw [if_neg (by omega), if_pos (by omega)]
          rw [e1, e2]
          simp only [h4, true_and, ne_eq, not_true_eq_false, false_and, or_false, Int.lt_irrefl, if_false]
          unfold cmpB
          by_cases h5 : Op.bytesLess a.text.toList b.text.toList = true
          · rw [if_pos h5, if_pos h5]
          · rw [if_neg h5, if_neg h5]
            by_cases h6 : Op.bytesLess b.text.toList a.text.toList = true
            · rw [if_pos h6]
              have : (a.text.toList == b.text.toList) = false := by
                rw [beq_eq_false_iff_ne]
                intro e
                rw [e, bl_irr] at h6
                cases h6
              rw [this]
              rfl
            · rw [if_neg h6]
              have := bl_total _ _ (by simpa using h5) (by simpa using h6)
              rw [this]
              simp
        · have e1 : a.bare = ⟨a.kind, a.n, bE⟩ := by unfold Val.bare; rw [if_neg h3, if_neg h4]
          have e2 : b.bare = ⟨b.kind, b.n, bE⟩ := by unfold Val.bare; rw [if_neg (by omega), if_neg (by omega)]
          rw [e1, e2]
          simp only [h4, false_and, not_false_eq_true, true_and, false_or, ne_eq]
          have e3 : cmpB bE bE = 0 := (cmpB_ordr.eq0 _ _).2 rfl
          by_cases h5 : a.n < b.n
          · simp [h5]
          · by_cases h6 : b.n < a.n
            · simp [h5, h6]
            · simp [h5, h6, e3]

def isB (v : Val) (b : Bool) : Bool := v.kind == 2 && ((v.n == 1) == b)

def truthOf (cols : List Int) (x : Expr) : Int := if (typeOf cols x).2 = 0 ∧ (typeOf cols x).1 ≠ 2 ∧ (typeOf cols x).1 ≠ 1 then 9 else (typeOf cols x).2

/-- Rows of which something is true. -/
def filterZ (cols : List Int) (x : Expr) (z : ZSet) : ZSet × Int :=
  if truthOf cols x ≠ 0 then ([], truthOf cols x) else if opsInput cols z ≠ 0 then ([], opsInput cols z) else zSum (z.filter fun r => (x.eval r.row).isTrue)

theorem truthOf_ok {cols : List Int} {x : Expr} (h : truthOf cols x = 0) : (typeOf cols x).2 = 0 := by
  unfold truthOf at h
  split at h
  · cases h
  · exact h
end Go.Tide

/- Parts know nothing of each other, in plain Lean. -/
set_option linter.unusedVariables false
namespace Go.Tide

theorem row_bare_get (row : Row) (n : Nat) : (rowBare row)[n]? = row[n]?.map Val.bare := by rw [rowBare, List.getElem?_map]

/-- What an expression comes to hangs on bare values. -/
theorem eval_bare (row : Row) (x : Expr) : x.eval (rowBare row) = x.eval row := by
  induction x using Expr.rec (motive_2 := fun l => Expr.evals (rowBare row) l = Expr.evals row l) with
  | mk k v c l ih =>
    rw [Expr.eval, Expr.eval, ih]
    unfold evalK
    rw [row_bare_get]
    cases row[c.toNat]? with
    | none => rfl
    | some u => simp only [Option.map_some, bare_bare]
  | nil => rfl
  | cons x r h1 h2 => rw [Expr.evals, Expr.evals, h1, h2]

theorem valuesOf_bare (xs : List Expr) (row : Row) : valuesOf xs (rowBare row) = valuesOf xs row := by
  unfold valuesOf
  exact List.map_congr_left fun x _ => eval_bare row x

theorem Srt.filter {α : Type} {lt : α → α → Bool} {l : List α} (h : Srt lt l) (P : α → Bool) : Srt lt (l.filter P) := List.Pairwise.filter P h

theorem filter_isort {α : Type} {lt : α → α → Bool} (sw : SW lt) (P : α → Bool) (l : List α) : (isort lt l).filter P = isort lt (l.filter P) := by
  obtain ⟨h1, h2⟩ := isort_srt sw l
  refine sort_is sw (h1.filter P) ⟨h2.perm.filter P, fun c => ?_⟩
  rw [List.filter_filter, List.filter_filter]
  have := congrArg (List.filter P) (h2.filt c)
  rw [List.filter_filter, List.filter_filter] at this
  simpa only [Bool.and_comm] using this

theorem isort_map {α : Type} {lt : α → α → Bool} (f : α → α) (hf : ∀ a b, lt (f a) (f b) = lt a b) : ∀ l : List α, isort lt (l.map f) = (isort lt l).map f
  | [] => rfl
  | x :: t => by
    rw [List.map_cons, isort, isort, isort_map f hf t]
    generalize isort lt t = s
    induction s with
    | nil => rfl
    | cons y s ih =>
      rw [List.map_cons, insL, insL, hf]
      split
      · rw [ih]; rfl
      · rfl

/-! ### lines of bare rows -/

def bareL (l : Line) : Line := ⟨l.part, l.key, rowBare l.row⟩
def bareT (t : Tel) : Tel := ⟨t.row, t.rank, t.dense, t.sums, t.some, t.ahead.map bareL⟩

theorem mkLine_bare (part order : List Expr) (r : ZRow) : mkLine part order (zBare r) = bareL (mkLine part order r) := by
  simp only [mkLine, zBare, bareL, valuesOf_bare]

theorem linesOf_bare (part order : List Expr) (z : ZSet) : linesOf part order (z.map zBare) = (linesOf part order z).map bareL := by
  induction z with
  | nil => rfl
  | cons x t ih =>
    have e1 : linesOf part order ((x :: t).map zBare) = List.replicate (posW x.w).toNat (mkLine part order (zBare x)) ++ linesOf part order (t.map zBare) := rfl
    have e2 : linesOf part order (x :: t) = List.replicate (posW x.w).toNat (mkLine part order x) ++ linesOf part order t := rfl
    rw [e1, e2, ih, List.map_append, List.map_replicate, mkLine_bare]

theorem linesOf_filter (part order : List Expr) {Q : ZRow → Bool} {R : Line → Bool} : ∀ {z : ZSet}, (∀ r ∈ z, R (mkLine part order r) = Q r) → linesOf part order (z.filter Q) = (linesOf part order z).filter R
  | [], _ => rfl
  | x :: t, h => by
    have e2 : linesOf part order (x :: t) = List.replicate (posW x.w).toNat (mkLine part order x) ++ linesOf part order t := rfl
    have ih := linesOf_filter part order (z := t) fun r hr => h r (List.mem_cons_of_mem _ hr)
    have hx := h x (by simp)
    rw [e2, List.filter_append, ← ih, List.filter_replicate, hx]
    cases hq : Q x with
    | true =>
      rw [List.filter_cons_of_pos hq]
      rfl
    | false =>
      rw [List.filter_cons_of_neg (by simp [hq])]
      rfl

theorem ltLn_bare (a b : Line) : ltLn (bareL a) (bareL b) = ltLn a b := rfl

theorem winAll_bare (R rk dn : Int) (ah : Option Line) (l : Line) : ∀ (ws : List Agg) (ss : List Int) (bs : List Bool), winAll R rk dn (ah.map bareL) (bareL l) ws ss bs = winAll R rk dn ah l ws ss bs
  | [], _, _ => by simp [winAll]
  | w :: ws, [], _ => by simp [winAll]
  | w :: ws, s :: ss, [] => by simp [winAll]
  | w :: ws, s :: ss, b :: bs => by
    rw [winAll, winAll, winAll_bare R rk dn ah l ws ss bs]
    congr 1
    unfold winOne
    cases ah with
    | none => simp only [Option.map_none, bareL, eval_bare]
    | some a => simp only [Option.map_some, bareL, eval_bare]

theorem telNew_bare (t : Tel) (l : Line) : telNew (bareT t) (bareL l) = telNew t l := by
  unfold telNew bareT
  cases t.ahead <;> rfl

theorem telOuts_bare (t : Tel) (ws : List Agg) (l : Line) : telOuts (bareT t) ws (bareL l) = telOuts t ws l := by
  have h1 : telRank (bareT t) (bareL l) = telRank t l := by unfold telRank; rw [telNew_bare]; rfl
  have h2 : telDense (bareT t) (bareL l) = telDense t l := by unfold telDense; rw [telNew_bare]; rfl
  unfold telOuts
  rw [h1, h2]
  exact winAll_bare _ _ _ _ _ _ _ _

theorem telNext_bare (t : Tel) (ws : List Agg) (l : Line) : telNext (bareT t) ws (bareL l) = bareT (telNext t ws l) := by
  have h1 : telRank (bareT t) (bareL l) = telRank t l := by unfold telRank; rw [telNew_bare]; rfl
  have h2 : telDense (bareT t) (bareL l) = telDense t l := by unfold telDense; rw [telNew_bare]; rfl
  unfold telNext
  rw [telOuts_bare, h1, h2]
  rfl

theorem telAt_bare (n : Nat) (p : Option Line) (t : Tel) (l : Line) : telAt n (p.map bareL) (bareT t) (bareL l) = bareT (telAt n p t l) := by
  unfold telAt
  cases p with
  | none => rfl
  | some q =>
    change (if (rowCmp q.part l.part != 0) = true then telInit n else bareT t) = bareT (if (rowCmp q.part l.part != 0) = true then telInit n else t)
    split <;> rfl

theorem tells_bare (f : Row → Int) (ws : List Agg) : ∀ (L : List Line) (p : Option Line) (t : Tel), lin f (tellsGo ws (p.map bareL) (bareT t) (L.map bareL)) = lin f (tellsGo ws p t L)
  | [], _, _ => rfl
  | l :: r, p, t => by
    rw [List.map_cons, tellsGo, tellsGo, telAt_bare, telNext_bare]
    have ih := tells_bare f ws r (some l) (telNext (telAt ws.length p t l) ws l)
    rw [lin, lin, show (some (bareL l)) = (some l).map bareL from rfl, ih]
    have : rowBare (telTells (bareT (telAt ws.length p t l)) ws (bareL l)) = rowBare (telTells (telAt ws.length p t l) ws l) := by
      unfold telTells
      rw [telOuts_bare]
      simp only [rowBare, bareL, List.map_append, List.map_map]
      congr 1
      exact List.map_congr_left fun v _ => bare_bare v
    dsimp only
    rw [this]

/-! ### one part alone -/

/-- What is told of one part is what is told of it alone. -/
theorem tells_part (c : Row) (f g : Row → Int) (ws : List Agg) :
    ∀ (L : List Line) (p : Option Line) (t t' : Tel), (∀ l ∈ L, ∀ t : Tel, g (rowBare (telTells t ws l)) = if rowCmp l.part c = 0 then f (rowBare (telTells t ws l)) else 0) → Srt ltLn L → (∀ q, p = some q → ∀ l ∈ L, rowCmp q.part l.part ≤ 0) →
      lin g (tellsGo ws p t L) = lin f (tellsGo ws (p.filter fun q => rowCmp q.part c == 0) (if (p.any fun q => rowCmp q.part c == 0) = true then t else t') (L.filter fun l => rowCmp l.part c == 0))
  | [], _, _, _, _, _, _ => rfl
  | l :: r, p, t, t', hg, hs, hp => by
    have hlr : ∀ y ∈ r, rowCmp l.part y.part ≤ 0 := by
      intro y hy
      have h1 := (List.pairwise_cons.1 hs).1 y hy
      have h2 : ¬ cmpLn y l < 0 := by simpa [ltLn] using h1
      have h3 := rowCmp_ordr.anti l.part y.part
      have h4 := rowCmp_ordr.anti y.part l.part
      unfold cmpLn at h2
      by_cases h5 : rowCmp y.part l.part ≠ 0
      · rw [if_pos h5] at h2; omega
      · omega
    have ih := tells_part c f g ws r (some l) (telNext (telAt ws.length p t l) ws l) t' (fun y hy => hg y (List.mem_cons_of_mem _ hy)) (List.pairwise_cons.1 hs).2 (fun q e y hy => by cases e; exact hlr y hy)
    rw [tellsGo, lin]
    dsimp only
    rw [hg l (by simp)]
    by_cases hl : rowCmp l.part c = 0
    · rw [if_pos hl, List.filter_cons_of_pos (by simp [hl]), tellsGo, lin]
      have e1 : (some l).filter (fun q => rowCmp q.part c == 0) = some l := by simp [Option.filter, hl]
      have e2 : (some l).any (fun q => rowCmp q.part c == 0) = true := by simp [hl]
      rw [e1, if_pos e2] at ih
      have e3 : telAt ws.length (p.filter fun q => rowCmp q.part c == 0) (if (p.any fun q => rowCmp q.part c == 0) = true then t else t') l = telAt ws.length p t l := by
        cases p with
        | none => rfl
        | some q =>
          by_cases hq : rowCmp q.part c = 0
          · simp [Option.filter, hq]
          · have hne : rowCmp q.part l.part ≠ 0 := fun e => by
              have := rowCmp_ordr.congr_l (a := q.part) (b := l.part) c e
              omega
            simp [Option.filter, hq, telAt, hne]
      rw [e3, ih]
    · rw [if_neg hl, List.filter_cons_of_neg (by simp [hl])]
      have e1 : (some l).filter (fun q => rowCmp q.part c == 0) = none := by simp [Option.filter, hl]
      have e2 : ((some l).any fun q => rowCmp q.part c == 0) = false := by simp [hl]
      rw [e1, e2] at ih
      rw [ih]
      have triv : ∀ t'' : Tel, p.filter (fun q => rowCmp q.part c == 0) = none → (if (p.any fun q => rowCmp q.part c == 0) = true then t else t') = t' := by
        intro _ h
        cases p with
        | none => rfl
        | some q =>
          by_cases hq : rowCmp q.part c = 0
          · simp [Option.filter, hq] at h
          · simp [hq]
      by_cases hn : p.filter (fun q => rowCmp q.part c == 0) = none
      · rw [hn, triv t hn]
        simp
      · have hF : r.filter (fun l => rowCmp l.part c == 0) = [] := by
          rw [List.filter_eq_nil_iff]
          intro y hy
          cases p with
          | none => simp [Option.filter] at hn
          | some q =>
            have hq : rowCmp q.part c = 0 := by
              by_cases hq : rowCmp q.part c = 0
              · exact hq
              · simp [Option.filter, hq] at hn
            have h1 := hp q rfl l (by simp)
            have h2 := hlr y hy
            have h3 := rowCmp_ordr.congr_l (a := q.part) (b := c) l.part hq
            have h4 := rowCmp_ordr.anti c l.part
            have h5 := rowCmp_ordr.anti l.part c
            have h6 : ¬ rowCmp y.part c = 0 := fun e => by
              have := rowCmp_ordr.congr_l (a := y.part) (b := c) l.part e
              have h7 := rowCmp_ordr.anti y.part l.part
              have h8 := rowCmp_ordr.anti l.part y.part
              omega
            simpa using h6
        rw [hF]
        simp [tellsGo, lin]

/-! ### what is filtered is as right as it was -/

theorem zw_of : ∀ {l : ZSet} {p : Option Row}, l.Pairwise (fun a b => rowCmp a.row b.row < 0) → (∀ x ∈ l, rowWrong x.row = 0 ∧ x.w ≠ 0 ∧ wOk x.w = true) → (∀ q, p = some q → ∀ x ∈ l, rowCmp q x.row < 0) → zwGo p l = 0
  | [], _, _, _, _ => by simp [zwGo]
  | a :: r, p, h1, h2, h3 => by
    obtain ⟨g1, g2, g3⟩ := h2 a (by simp)
    have ih := zw_of (l := r) (p := some a.row) (List.pairwise_cons.1 h1).2 (fun x hx => h2 x (List.mem_cons_of_mem _ hx)) (fun q e x hx => by cases e; exact (List.pairwise_cons.1 h1).1 x hx)
    rw [zwGo_cons, if_neg (by simp [g1]), if_neg (by simp [g2, g3])]
    cases p with
    | none => simpa using ih
    | some q =>
      have := h3 q rfl a (by simp)
      rw [ih]
      simp
      omega

theorem zWrong_of {l : ZSet} (h1 : l.Pairwise fun a b => rowCmp a.row b.row < 0) (h2 : ∀ x ∈ l, rowWrong x.row = 0 ∧ x.w ≠ 0 ∧ wOk x.w = true) (h3 : l.length ≤ 400) : zWrong l = 0 := by
  unfold zWrong
  rw [if_neg (by omega)]
  exact zw_of h1 h2 (by simp)

theorem zwGo_nz : ∀ {p : Option Row} {l : ZSet}, zwGo p l = 0 → ∀ z ∈ l, z.w ≠ 0 ∧ rowWrong z.row = 0
  | p, [], _, z, hz => by cases hz
  | p, a :: r, h, z, hz => by
    rw [zwGo_cons] at h
    by_cases h1 : rowWrong a.row ≠ 0
    · rw [if_pos h1] at h; exact absurd h h1
    · rw [if_neg h1] at h
      by_cases h2 : a.w = 0 ∨ wOk a.w = false
      · rw [if_pos h2] at h; cases h
      · rw [if_neg h2] at h
        have h3 : zwGo (some a.row) r = 0 := by
          cases p with
          | none => simpa using h
          | some q =>
            by_cases hq : 0 ≤ rowCmp q a.row
            · simp [hq] at h
            · simpa [hq] using h
        rcases List.mem_cons.1 hz with rfl | hz
        · exact ⟨fun e => h2 (.inl e), by simpa using h1⟩
        · exact zwGo_nz h3 z hz

theorem zWrong_nz {l : ZSet} (h : zWrong l = 0) : ∀ z ∈ l, z.w ≠ 0 ∧ rowWrong z.row = 0 := by
  unfold zWrong at h
  split at h
  · cases h
  · exact zwGo_nz h

theorem inGo_all {cols : List Int} : ∀ {z : ZSet}, inGo cols z = 0 ↔ ∀ r ∈ z, rowFits cols r.row = 0
  | [] => by simp [inGo]
  | a :: r => by
    rw [inGo]
    by_cases h : rowFits cols a.row ≠ 0
    · rw [if_pos h]
      simp [h]
    · rw [if_neg h, inGo_all]
      simp only [List.mem_cons, forall_eq_or_imp]
      simp at h
      simp [h]

theorem fits_bare : ∀ {r : Row} {cols : List Int}, Row.Right r → fitsGo r cols = 0 → fitsGo (rowBare r) cols = 0
  | [], _, _, _ => by simp [rowBare, fitsGo]
  | v :: r, [], _, _ => by simp [rowBare, fitsGo]
  | v :: r, c :: cs, hr, h => by
    rw [rowBare, List.map_cons, fitsGo]
    rw [fitsGo] at h
    have h1 : v.bare.wrong = 0 := Val.bare_right (hr v (by simp))
    have h0 : v.wrong = 0 := hr v (by simp)
    rw [if_neg (by simp [h0])] at h
    rw [if_neg (by simp [h1]), bare_kind]
    split at h
    · cases h
    · rename_i h2
      rw [if_neg h2]
      exact fits_bare (fun u hu => hr u (List.mem_cons_of_mem _ hu)) h

theorem input_sub {cols : List Int} {z : ZSet} (Q : ZRow → Bool) (h : opsInput cols z = 0) : opsInput cols ((z.filter Q).map zBare) = 0 := by
  obtain ⟨i1, i2, i3⟩ := opsInput_ok h
  have hin : inGo cols z = 0 := by
    unfold opsInput at h
    rw [if_neg (by omega), if_neg (by simp [i2])] at h
    exact h
  unfold opsInput
  have hw : zWrong ((z.filter Q).map zBare) = 0 := by
    refine zWrong_of ?_ ?_ ?_
    · rw [List.pairwise_map]
      refine ((zWrong_sorted i2).filter Q).imp fun {a b} hab => ?_
      simp only [zBare, rowCmp_bare]
      exact hab
    · intro x hx
      obtain ⟨y, hy, rfl⟩ := List.mem_map.1 hx
      have hy := (List.mem_filter.1 hy).1
      obtain ⟨n1, n2⟩ := zWrong_nz i2 y hy
      obtain ⟨l1, l2⟩ := i3 y hy
      exact ⟨rowWrong_right (rowBare_right l2) (by rw [zBare]; simp only [rowBare, List.length_map]; omega), n1, zWrong_rows' i2 y hy⟩
    · rw [List.length_map]
      have := List.length_filter_le Q z
      have := zWrong_len i2
      omega
  rw [if_neg (by omega), if_neg (by simp [hw]), inGo_all]
  intro r hr
  obtain ⟨y, hy, rfl⟩ := List.mem_map.1 hr
  have hy := (List.mem_filter.1 hy).1
  have h1 := inGo_all.1 hin y hy
  obtain ⟨l1, l2⟩ := i3 y hy
  unfold rowFits at h1 ⊢
  rw [if_neg (by omega)] at h1
  rw [if_neg (by simp only [zBare, rowBare, List.length_map]; omega)]
  exact fits_bare l2 h1

theorem windowZ_same {cols : List Int} {part order : List Expr} {ws : List Agg} {z w p : ZSet} (h : windowZ cols part order ws z = (w, 0)) (h1 : opsInput cols p = 0) (h2 : (linesOf part order p).length ≤ 400) :
    windowZ cols part order ws p = zSum (tellsGo ws none (telInit ws.length) (isort ltLn (linesOf part order p))) := by
  unfold windowZ at h ⊢
  by_cases g1 : 8 < cols.length + ws.length
  · rw [if_pos g1] at h; cases h
  rw [if_neg g1] at h ⊢
  by_cases g2 : (opsTypes cols part).2 ≠ 0
  · rw [if_pos g2] at h; exact absurd (Prod.mk.inj h).2 g2
  rw [if_neg g2] at h ⊢
  by_cases g3 : (opsTypes cols order).2 ≠ 0
  · rw [if_pos g3] at h; exact absurd (Prod.mk.inj h).2 g3
  rw [if_neg g3] at h ⊢
  by_cases g4 : (winTypes cols ws).2 ≠ 0
  · rw [if_pos g4] at h; exact absurd (Prod.mk.inj h).2 g4
  rw [if_neg g4, if_neg (by simp [h1]), if_neg (by omega)]
end Go.Tide

/- Parts know nothing of each other: the law, in plain Lean. -/
set_option linter.unusedVariables false
namespace Go.Tide

theorem cmp_bare_l (a b : Val) : a.bare.cmp b = a.cmp b := by unfold Val.cmp; rw [bare_bare]
theorem cmp_bare_r (a b : Val) : a.cmp b.bare = a.cmp b := by unfold Val.cmp; rw [bare_bare]

theorem cmp_kind {a b : Val} (h : a.cmp b = 0) : a.kind = b.kind := by
  have := (cmp_ordr.eq0 a b).1 h
  rw [← bare_kind a, this, bare_kind]

theorem eqv_isTrue (a b : Val) (h : b.kind ≠ 1) : (a.eqv b).isTrue = (a.cmp b == 0) := by
  unfold Val.eqv
  by_cases hc : a.cmp b = 0
  · rw [if_pos ⟨cmp_kind hc, by rw [cmp_kind hc]; exact h⟩, hc]
    rfl
  · have : (a.cmp b == 0) = false := by simpa using hc
    rw [this]
    split
    · rfl
    · rfl

theorem eqv_isB (a b : Val) (h : b.kind ≠ 1) : isB (a.eqv b) true = (a.cmp b == 0) := by
  unfold Val.eqv
  by_cases hc : a.cmp b = 0
  · rw [if_pos ⟨cmp_kind hc, by rw [cmp_kind hc]; exact h⟩, hc]
    rfl
  · have : (a.cmp b == 0) = false := by simpa using hc
    rw [this]
    split
    · rfl
    · rfl

/-- A column is something. -/
def isX (key : Int) (v : Val) : Expr := .mk 6 ⟨0, 0, bE⟩ 0 [xCol key, .mk 1 v 0 []]

theorem eval_col (row : Row) (key : Int) {u : Val} (h : row[key.toNat]? = some u) : (xCol key).eval row = u.bare := by
  unfold xCol
  rw [Expr.eval]
  unfold evalK
  rw [if_neg (by omega), if_pos rfl, h]

theorem eval_isX (row : Row) (key : Int) (v : Val) {u : Val} (h : row[key.toNat]? = some u) : (isX key v).eval row = u.bare.eqv v.bare := by
  unfold isX
  rw [Expr.eval, Expr.evals, Expr.evals, Expr.evals, eval_col row key h]
  have : (Expr.mk 1 v 0 []).eval row = v.bare := by rw [Expr.eval]; unfold evalK; rw [if_pos rfl]
  rw [this]
  rfl

theorem rowCmp_one (a b : Val) : rowCmp [a] [b] = a.cmp b := by
  rw [rowCmp, rowCmp]
  split
  · rfl
  · rename_i h
    have : a.cmp b = 0 := by simpa using h
    exact this.symm

theorem Canon.filter {l : ZSet} (h : Canon l) (P : ZRow → Bool) : Canon (l.filter P) :=
  ⟨h.srt.filter P, fun x hx => h.bare x (List.mem_filter.1 hx).1, fun x hx => h.nz x (List.mem_filter.1 hx).1⟩

theorem lin_filter (f : Row → Int) (P : Row → Bool) : ∀ {l : ZSet}, (∀ x ∈ l, rowBare x.row = x.row) → lin f (l.filter fun r => P r.row) = lin (fun q => if P q = true then f q else 0) l
  | [], _ => rfl
  | x :: t, h => by
    have ih := lin_filter f P (l := t) fun y hy => h y (List.mem_cons_of_mem _ hy)
    have hx := h x (by simp)
    rw [lin]
    cases hp : P x.row with
    | true => rw [List.filter_cons_of_pos (by simpa using hp), lin, ih, hx, if_pos hp]
    | false => rw [List.filter_cons_of_neg (by simpa using hp), ih, hx, if_neg (by simp [hp])]; omega

theorem filter_tw (P : ZRow → Bool) (l : ZSet) : tw (l.filter P) ≤ tw l := by
  induction l with
  | nil => exact Nat.le_refl _
  | cons x t ih =>
    rw [tw]
    cases hp : P x with
    | true => rw [List.filter_cons_of_pos hp, tw]; omega
    | false => rw [List.filter_cons_of_neg (by simp [hp])]; omega

/-- Right rows, filtered: what comes of them. -/
theorem total_filter {z : ZSet} (Q : ZRow → Bool) (h : zWrong z = 0) : zTotal (z.filter Q) = (z.filter Q).map zBare := by
  have hw := zWrong_len h
  have htw : tw (z.filter Q) ≤ 4611686018427387904 := by
    have h1 := filter_tw Q z
    have h2 := tw_le fun x hx => zWrong_rows' h x hx
    omega
  obtain ⟨c1, c2⟩ := zTotal_ok htw
  have c3 : Canon ((z.filter Q).map zBare) := by
    refine ⟨?_, ?_, ?_⟩
    · rw [List.pairwise_map]
      refine ((zWrong_sorted h).filter Q).imp fun {a b} hab => ?_
      simp only [zBare, rowCmp_bare]
      exact hab
    · intro x hx
      obtain ⟨y, hy, rfl⟩ := List.mem_map.1 hx
      exact rowBare_bare _
    · intro x hx
      obtain ⟨y, hy, rfl⟩ := List.mem_map.1 hx
      exact (zWrong_nz h y (List.mem_filter.1 hy).1).1
  refine canon_ext c1 c3 fun r _ => ?_
  unfold wt
  rw [c2, lin_bare]

def partB (key : Int) (v : Val) (r : Row) : Bool := isB ((r.getD key.toNat .null).eqv v) true

/-- PARTS KNOW NOTHING OF EACH OTHER. -/
theorem window_parts {cols : List Int} {key : Int} {order : List Expr} {ws : List Agg} {z w p : ZSet} {v : Val} (hk : 0 ≤ key) (hk2 : key < cols.length) (hv : v.kind ≠ 1)
    (hw : windowZ cols [xCol key] order ws z = (w, 0)) (hf : filterZ cols (isX key v) z = (p, 0)) :
    windowZ cols [xCol key] order ws p = (w.filter fun r => partB key v r.row, 0) := by
  have H := windowZ_ok hw
  -- what is filtered
  have hp : p = (z.filter fun r => ((isX key v).eval r.row).isTrue).map zBare := by
    unfold filterZ at hf
    split at hf
    · rename_i g; exact absurd (Prod.mk.inj hf).2 g
    · split at hf
      · rename_i g; exact absurd (Prod.mk.inj hf).2 g
      · rw [(zFit_ok hf).1, total_filter _ H.zw]
  -- the rows of the part
  have hget : ∀ r ∈ z, ∃ u, r.row[key.toNat]? = some u := fun r hr => ⟨r.row[key.toNat]'(by have := (H.zr r hr).1; omega), List.getElem?_eq_getElem _⟩
  have hQ : ∀ r ∈ z, (fun l : Line => rowCmp l.part [v] == 0) (mkLine [xCol key] order r) = ((isX key v).eval r.row).isTrue := by
    intro r hr
    obtain ⟨u, hu⟩ := hget r hr
    have e1 : (mkLine [xCol key] order r).part = [u.bare] := by simp [mkLine, valuesOf, eval_col r.row key hu]
    simp only [e1, rowCmp_one]
    rw [eval_isX r.row key v hu, eqv_isTrue _ _ (by rw [bare_kind]; exact hv), cmp_bare_r]
  have hlines : linesOf [xCol key] order p = ((linesOf [xCol key] order z).filter fun l => rowCmp l.part [v] == 0).map bareL := by
    rw [hp, linesOf_bare, linesOf_filter (R := fun l : Line => rowCmp l.part [v] == 0) _ _ hQ]
  have hsort : isort ltLn (linesOf [xCol key] order p) = ((isort ltLn (linesOf [xCol key] order z)).filter fun l => rowCmp l.part [v] == 0).map bareL := by
    rw [hlines, isort_map bareL ltLn_bare, filter_isort ltLn_sw]
  have hin : opsInput cols p = 0 := by rw [hp]; exact input_sub _ H.inp
  have hfew : (linesOf [xCol key] order p).length ≤ 400 := by
    rw [hlines, List.length_map]
    have := List.length_filter_le (fun l : Line => rowCmp l.part [v] == 0) (linesOf [xCol key] order z)
    have := H.lines
    omega
  rw [windowZ_same hw hin hfew, hsort]
  obtain ⟨hs1, hs2⟩ := isort_srt ltLn_sw (linesOf [xCol key] order z)
  generalize hL : isort ltLn (linesOf [xCol key] order z) = L at hs1 hs2
  have hwis : w = zTotal (tellsGo ws none (telInit ws.length) L) := by rw [← hL]; exact H.is
  obtain ⟨c1, c2⟩ := zTotal_ok (l := tellsGo ws none (telInit ws.length) L) (by
    rw [tellsGo_tw, hs2.len]
    have := H.lines
    omega)
  rw [← hwis] at c1 c2
  obtain ⟨d1, d2⟩ := zTotal_ok (l := tellsGo ws none (telInit ws.length) ((L.filter fun l => rowCmp l.part [v] == 0).map bareL)) (by
    rw [tellsGo_tw, List.length_map]
    have := List.length_filter_le (fun l : Line => rowCmp l.part [v] == 0) L
    have := hs2.len
    have := H.lines
    omega)
  have key' : zTotal (tellsGo ws none (telInit ws.length) ((L.filter fun l => rowCmp l.part [v] == 0).map bareL)) = w.filter fun r => partB key v r.row := by
    refine canon_ext d1 (c1.filter _) fun r _ => ?_
    unfold wt
    rw [lin_filter _ _ c1.bare, d2, c2]
    have e1 := tells_bare (one r) ws (L.filter fun l => rowCmp l.part [v] == 0) none (telInit ws.length)
    have e2 := tells_part [v] (one r) (fun q => if partB key v q = true then one r q else 0) ws L none (telInit ws.length) (telInit ws.length) ?_ hs1 (by simp)
    · rw [show bareT (telInit ws.length) = telInit ws.length from rfl, Option.map_none] at e1
      rw [e1, e2]
      simp [Option.filter]
    · intro l hl t
      rw [hs2.mem] at hl
      obtain ⟨q, hq, rfl⟩ := mem_lines hl
      obtain ⟨u, hu⟩ := hget q hq
      have e1 : (mkLine [xCol key] order q).part = [u.bare] := by simp [mkLine, valuesOf, eval_col q.row key hu]
      have hlt : key.toNat < q.row.length := (List.getElem?_eq_some_iff.1 hu).1
      have e3 : (rowBare (telTells t ws (mkLine [xCol key] order q))).getD key.toNat .null = u.bare := by
        rw [List.getD_eq_getElem?_getD, row_bare_get]
        unfold telTells
        rw [List.getElem?_append_left (by exact hlt)]
        have : (mkLine [xCol key] order q).row[key.toNat]? = some u := hu
        rw [this]
        rfl
      have e4 : partB key v (rowBare (telTells t ws (mkLine [xCol key] order q))) = (u.cmp v == 0) := by
        unfold partB
        rw [e3, eqv_isB _ _ hv, cmp_bare_l]
      simp only [e4, e1, rowCmp_one, cmp_bare_l]
      simp
  unfold zSum
  rw [key']
  refine zFit_id (fun x hx => H.wts x (List.mem_filter.1 hx).1) ?_
  have := List.length_filter_le (fun r : ZRow => partB key v r.row) w
  have := H.len
  omega
end Go.Tide

/- The document's answer on values; rows of which something is true; what windows tell of a part. -/
set_option linter.unusedVariables false
set_option maxRecDepth 8000
namespace Go.Tide
variable {x : Sto} {K : List A → Sto → Prop}

theorem K_is {b c : Bool} (e : c = b) (h : K [.bool b] x) : K [.bool c] x := e ▸ h

theorem s_tideref1_Is (v : Val) (b : Bool) (h : K [.bool (isB v b)] x) : CC n_tideref1_Is [aV v, .bool b] x K := by
  refine fnc g_tideref1_Is rfl ?_
  conv => whnf
  unfold isB at h
  refine way_eq (fun h1 => ?_) (fun h1 => ?_)
  all_goals conv => whnf
  · rw [h1] at h
    refine K_is ?_ h
    cases v.n == 1 <;> cases b <;> rfl
  · refine K_is ?_ h
    simp [h1]

theorem bl_gt (a b : List UInt8) : (!(Op.bytesLess a b || a == b)) = Op.bytesLess b a := by
  cases h1 : Op.bytesLess a b with
  | true => rw [bl_asym _ _ h1]; rfl
  | false =>
    cases h2 : Op.bytesLess b a with
    | true =>
      have : (a == b) = false := by
        rw [beq_eq_false_iff_ne]
        intro e
        rw [e, bl_irr] at h2
        cases h2
      rw [this]
      rfl
    | false =>
      rw [bl_total _ _ h1 h2]
      simp

theorem s_tideref1_Order (a b : Val) (h : K [aI (a.cmp b)] x) : CC n_tideref1_Order [aV a, aV b] x K := by
  rw [← rOrd_eq] at h
  unfold rOrd at h
  refine fnc g_tideref1_Order rfl ?_
  conv => whnf
  refine way_dec (fun h1 => ?_) (fun h1 => ?_)
  all_goals conv => whnf
  · rw [if_pos h1] at h
    exact h
  · rw [if_neg h1] at h
    refine way_dec (fun h2 => ?_) (fun h2 => ?_)
    all_goals conv => whnf
    · rw [if_pos h2] at h
      exact h
    · rw [if_neg (by omega)] at h
      refine way_eq (fun h3 => ?_) (fun h3 => ?_)
      all_goals conv => whnf
      · rw [if_pos h3] at h
        exact h
      · rw [if_neg h3] at h
        refine way_eq (fun h4 => ?_) (fun h4 => ?_)
        all_goals conv => whnf
        · rw [h4] at h
          simp only [true_and, ne_eq, not_true_eq_false, false_and, or_false] at h
          refine way (fun h5 => ?_) (fun h5 => ?_)
          all_goals conv => whnf
          · rw [if_pos (show Op.bytesLess a.text.toList b.text.toList = true from h5)] at h
            exact h
          · rw [if_neg (show ¬ Op.bytesLess a.text.toList b.text.toList = true from by rw [show Op.bytesLess a.text.toList b.text.toList = false from h5]; simp)] at h
            refine way_f (by simp [h4]) ?_
            conv => whnf
            refine way_t (by simp [h4]) ?_
            conv => whnf
            refine way (fun h6 => ?_) (fun h6 => ?_)
            all_goals conv => whnf
            · rw [if_pos ((bl_gt _ _).symm.trans h6)] at h
              exact h
            · rw [if_neg (by rw [(bl_gt _ _).symm.trans h6]; simp)] at h
              refine way_f (by simp [h4]) ?_
              conv => whnf
              exact h
        · simp only [h4, false_and, not_false_eq_true, true_and, false_or, ne_eq] at h
          refine way_t (by simp [h4]) ?_
          conv => whnf
          refine way (fun h5 => ?_) (fun h5 => ?_)
          all_goals conv => whnf
          · rw [if_pos (show a.n < b.n by simpa using h5)] at h
            exact h
          · rw [if_neg (show ¬ a.n < b.n by simpa using h5)] at h
            refine way_f (by simp [h4]) ?_
            conv => whnf
            refine way_t (by simp [h4]) ?_
            conv => whnf
            refine way (fun h6 => ?_) (fun h6 => ?_)
            all_goals conv => whnf
            · rw [if_pos (show a.n > b.n by simpa using h6)] at h
              exact h
            · rw [if_neg (show ¬ a.n > b.n by simpa using h6)] at h
              exact h

theorem s_tideref1_Equal (a b : Val) (h : K [aV (a.eqv b)] x) : CC n_tideref1_Equal [aV a, aV b] x K := by
  unfold Val.eqv at h
  refine fnc g_tideref1_Equal rfl ?_
  conv => whnf
  refine way_ne (fun h1 => ?_) (fun h1 => ?_)
  all_goals conv => whnf
  · rw [if_neg (fun e => h1 e.1)] at h
    refine s_tideref1_Null ?_
    refine ⟨fun _ => rfl, ?_⟩
    conv => whnf
    exact h
  · refine way_eq (fun h2 => ?_) (fun h2 => ?_)
    all_goals conv => whnf
    · rw [if_neg (fun e => e.2 h2)] at h
      refine s_tideref1_Null ?_
      refine ⟨fun _ => rfl, ?_⟩
      conv => whnf
      exact h
    · rw [if_pos ⟨by simpa using h1, h2⟩] at h
      refine s_tideref1_Order a b ?_
      refine ⟨fun _ => rfl, ?_⟩
      conv => whnf
      refine s_tideref1_Truth (a.cmp b == 0) ?_
      refine ⟨fun _ => rfl, ?_⟩
      conv => whnf
      exact h

theorem s_ops_truth (cols : List Int) (y : Expr) (h : K [aI (truthOf cols y)] x) : CC n_ops_truth [aIs cols, aE y] x K := by
  obtain ⟨k, v, c, l⟩ := y
  unfold truthOf at h
  refine fnc g_ops_truth rfl ?_
  conv => whnf
  refine s_exprs_Type cols (.mk k v c l) ?_
  refine ⟨fun _ => rfl, ?_⟩
  conv => whnf
  refine way_eq (fun h1 => ?_) (fun h1 => ?_)
  all_goals conv => whnf
  · refine way (fun h2 => ?_) (fun h2 => ?_)
    all_goals conv => whnf
    · have h2' : (typeOf cols (.mk k v c l)).1 ≠ 2 := by simpa using h2
      refine way (fun h3 => ?_) (fun h3 => ?_)
      all_goals conv => whnf
      · have h3' : (typeOf cols (.mk k v c l)).1 ≠ 1 := by simpa using h3
        conv => whnf
        rw [if_pos ⟨h1, h2', h3'⟩] at h
        exact h
      · have h3' : (typeOf cols (.mk k v c l)).1 = 1 := by simpa using h3
        rw [if_neg (fun e => e.2.2 h3')] at h
        exact h
    · have h2' : (typeOf cols (.mk k v c l)).1 = 2 := by simpa using h2
      rw [if_neg (fun e => e.2.1 h2')] at h
      exact h
  · rw [if_neg (fun e => h1 e.1)] at h
    exact h

theorem s_ops_Filter (cols : List Int) (y : Expr) (z : ZSet) (h : K [aS (filterZ cols y z).1, aI (filterZ cols y z).2] x) : CC n_ops_Filter [aIs cols, aE y, aS z] x K := by
  have hmaxB : maxB = 140737488355328 := rfl
  have hmax : maxI = 9223372036854775807 := rfl
  obtain ⟨k, v, c, l⟩ := y
  unfold filterZ at h
  refine fnc g_ops_Filter rfl ?_
  conv => whnf
  refine s_ops_truth cols (.mk k v c l) ?_
  refine ⟨fun _ => rfl, ?_⟩
  conv => whnf
  refine s_ops_Input cols z ?_
  refine ⟨fun _ => rfl, ?_⟩
  conv => whnf
  refine s_cmp_Or__api_Errno [truthOf cols (.mk k v c l), opsInput cols z] ?_
  refine ⟨fun _ => rfl, ?_⟩
  conv => whnf
  have hor : ∀ a b : Int, orI [a, b] = if a ≠ 0 then a else if b ≠ 0 then b else 0 := fun a b => rfl
  refine way_ne (fun h1 => ?_) (fun h1 => ?_)
  all_goals conv => whnf
  · rw [hor]
    rw [hor] at h1
    by_cases g1 : truthOf cols (.mk k v c l) ≠ 0
    · rw [if_pos g1] at h ⊢
      exact h
    · rw [if_neg g1] at h h1 ⊢
      by_cases g2 : opsInput cols z ≠ 0
      · rw [if_pos g2] at h ⊢
        exact h
      · rw [if_neg g2] at h1
        exact absurd rfl h1
  · rw [hor] at h1
    have g1 : truthOf cols (.mk k v c l) = 0 := by
      by_cases g : truthOf cols (.mk k v c l) = 0
      · exact g
      · rw [if_pos g] at h1; exact h1
    rw [if_neg (by simp [g1])] at h h1
    have g2 : opsInput cols z = 0 := by
      by_cases g : opsInput cols z = 0
      · exact g
      · rw [if_pos g] at h1; exact h1
    rw [if_neg (by simp [g2])] at h
    obtain ⟨i1, i2, i3⟩ := opsInput_ok g2
    have hok := typeOf_ok (truthOf_ok g1)
    have hlen := zWrong_len i2
    intro hl
    conv => whnf
    refine loop (fun (t : Nat × ZSet) => s_ops_Filter_l0 (pE (.mk k v c l)) (.gs (.L 9) (t.2.map encZ)) (aS z) (aI (z.map encZ).length) (aI t.1) (.tok ty_api_ZRow 2 (t.2.map encZ).length) x) (fun t => z.length - t.1) (fun t => t.1 ≤ z.length ∧ t.2 = (z.take t.1).filter fun r => (Expr.eval r.row (.mk k v c l)).isTrue) ?_ (0, []) ⟨Nat.zero_le _, rfl⟩
    conv => whnf
    rintro ⟨i, out⟩ ⟨hi, ho⟩ ih
    dsimp only at hi ho ih ⊢
    have hol : out.length ≤ i := by
      rw [ho]
      refine Nat.le_trans (List.length_filter_le _ _) ?_
      rw [List.length_take]
      omega
    conv => whnf
    refine way_dec (fun h2 => ?_) (fun h2 => ?_)
    all_goals conv => whnf
    · obtain ⟨r, q, e, e2, hlt⟩ := lt_drop h2
      refine ⟨encZ r, Int.natCast_nonneg _, at_drop encZ e, rfl, ?_⟩
      conv => whnf
      refine s_exprs_Of hok r.row _ _ (i3 r (mem_drop e)).2 ?_
      refine ⟨fun _ => rfl, ?_⟩
      conv => whnf
      refine s_vals_True (Expr.eval r.row (.mk k v c l)) ?_
      refine ⟨fun _ => rfl, ?_⟩
      conv => whnf
      refine way (fun h3 => ?_) (fun h3 => ?_)
      all_goals conv => whnf
      · refine ⟨rfl, rfl, rfl, sl_one encZ 2 (fun _ => rfl) r, by simp only [List.length_map, List.length_cons, List.length_nil]; omega, by simp only [List.length_map, List.length_cons, List.length_nil]; omega, ?_⟩
        conv => whnf
        rw [tok_snoc, snoc_map encZ out r rfl, succ_map hl hlt]
        exact ih (i + 1, out ++ [r]) ⟨by dsimp only; omega, by dsimp only; rw [take_snoc e, List.filter_append, ← ho]; simp [show (Expr.eval r.row (.mk k v c l)).isTrue = true from h3]⟩ (by dsimp only; omega)
      · rw [succ_map hl hlt]
        exact ih (i + 1, out) ⟨by dsimp only; omega, by dsimp only; rw [take_snoc e, List.filter_append, ← ho]; simp [show (Expr.eval r.row (.mk k v c l)).isTrue = false from h3]⟩ (by dsimp only; omega)
    · have hi2 : z.take i = z := List.take_of_length_le (by rw [List.length_map] at h2; omega)
      rw [hi2] at ho
      subst ho
      refine s_zsets_Sum (z.filter fun r => (Expr.eval r.row (.mk k v c l)).isTrue) (fun r hr => by have := (i3 r (List.mem_filter.1 hr).1).1; omega) (by omega) ?_
      refine ⟨fun _ => rfl, ?_⟩
      conv => whnf
      exact h

theorem s_tidelaw15_WindowParts (cols : List Int) (key : Int) (order : List Expr) (ws : List Agg) (z : ZSet) (v : Val) (hc : cols.length ≤ 140737488355328) (hws : ws.length ≤ 140737488355328)
    (h : K [.bool true] x) : CC n_tidelaw15_WindowParts [aIs cols, aI key, aEs order, .sl (ws.map encG), aS z, aV v] x K := by
  have hmax : maxI = 9223372036854775807 := rfl
  have hmaxB : maxB = 140737488355328 := rfl
  refine fnc g_tidelaw15_WindowParts rfl ?_
  conv => whnf
  refine s_tidelaw15_alive ?_
  refine ⟨fun _ => rfl, ?_⟩
  conv => whnf
  refine way_dec (fun g1 => ?_) (fun g1 => ?_)
  all_goals conv => whnf
  · exact h
  intro hl
  conv => whnf
  refine way (fun g2 => ?_) (fun g2 => ?_)
  all_goals conv => whnf
  · exact h
  refine way_eq (fun g3 => ?_) (fun g3 => ?_)
  all_goals conv => whnf
  · exact h
  obtain ⟨w, e, hr⟩ : ∃ w e, windowZ cols [xCol key] order ws z = (w, e) := ⟨_, _, rfl⟩
  obtain ⟨p, pe, hp⟩ : ∃ p e, filterZ cols (isX key v) z = (p, e) := ⟨_, _, rfl⟩
  refine ⟨_, s_tidelaw15_col key ⟨rfl, rfl⟩, ?_⟩
  conv => whnf
  refine s_tidelaw15_col key ?_
  refine ⟨fun _ => rfl, ?_⟩
  conv => whnf
  refine s_window_Window_is (part := [xCol key]) hr hc hws ?_
  refine ⟨fun _ => rfl, ?_⟩
  conv => whnf
  refine s_ops_Filter cols (isX key v) z ?_
  refine ⟨fun _ => rfl, ?_⟩
  conv => whnf
  rw [hp]
  conv => whnf
  refine way (fun g4 => ?_) (fun g4 => ?_)
  all_goals conv => whnf
  · exact h
  refine way (fun g5 => ?_) (fun g5 => ?_)
  all_goals conv => whnf
  · exact h
  have he : e = 0 := by simpa using g4
  have hpe : pe = 0 := by simpa using g5
  subst he
  subst hpe
  have H := windowZ_ok hr
  have hk2 : key < cols.length := by
    have : ¬ ((cols.map encI).length : Int) ≤ key := by simpa using g2
    rw [List.length_map] at this
    omega
  have hw2 := window_parts (by omega) hk2 g3 hr hp
  refine s_tidelaw15_col key ?_
  refine ⟨fun _ => rfl, ?_⟩
  conv => whnf
  refine s_window_Window_is (part := [xCol key]) hw2 hc hws ?_
  refine ⟨fun _ => rfl, ?_⟩
  conv => whnf
  intro hl2
  conv => whnf
  refine loop (fun (t : Nat × ZSet) => s_tidelaw15_WindowParts_l0 (aI key) (.pim (encV v) 0) (aI 0) (aS (w.filter fun r => partB key v r.row)) (.gs (.L 19) (t.2.map encZ)) (aS w) (aI (w.map encZ).length) (aI t.1) (.tok ty_api_ZRow 2 (t.2.map encZ).length) x) (fun t => w.length - t.1) (fun t => t.1 ≤ w.length ∧ t.2 = (w.take t.1).filter fun r => partB key v r.row) ?_ (0, []) ⟨Nat.zero_le _, rfl⟩
  conv => whnf
  rintro ⟨i, out⟩ ⟨hi, ho⟩ ih
  dsimp only at hi ho ih ⊢
  have hlen := H.len
  have hol : out.length ≤ i := by
    rw [ho]
    refine Nat.le_trans (List.length_filter_le _ _) ?_
    rw [List.length_take]
    omega
  conv => whnf
  refine way_dec (fun h2 => ?_) (fun h2 => ?_)
  all_goals conv => whnf
  · obtain ⟨r, q, e, e2, hlt⟩ := lt_drop h2
    refine ⟨encZ r, Int.natCast_nonneg _, at_drop encZ e, rfl, ?_⟩
    conv => whnf
    have hrl := (H.rows r (mem_drop e)).1
    obtain ⟨u, hu⟩ : ∃ u, r.row[key.toNat]? = some u := ⟨_, List.getElem?_eq_getElem (by omega)⟩
    refine ⟨encV u, by omega, by rw [List.getElem?_map, hu]; rfl, rfl, ?_⟩
    conv => whnf
    refine ⟨_, s_tideref1_Equal u v ⟨rfl, rfl⟩, ?_⟩
    conv => whnf
    refine ⟨_, s_tideref1_Is (u.eqv v) true ⟨rfl, rfl⟩, ?_⟩
    conv => whnf
    have hb : partB key v r.row = isB (u.eqv v) true := by unfold partB; rw [List.getD_eq_getElem?_getD, hu]; rfl
    refine way (fun h3 => ?_) (fun h3 => ?_)
    all_goals conv => whnf
    · refine ⟨rfl, rfl, rfl, sl_one encZ 2 (fun _ => rfl) r, by simp only [List.length_map, List.length_cons, List.length_nil]; omega, by simp only [List.length_map, List.length_cons, List.length_nil]; omega, ?_⟩
      conv => whnf
      rw [tok_snoc, snoc_map encZ out r rfl, succ_map hl2 hlt]
      exact ih (i + 1, out ++ [r]) ⟨by dsimp only; omega, by dsimp only; rw [take_snoc e, List.filter_append, ← ho]; simp [hb, show isB (u.eqv v) true = true from h3]⟩ (by dsimp only; omega)
    · rw [succ_map hl2 hlt]
      exact ih (i + 1, out) ⟨by dsimp only; omega, by dsimp only; rw [take_snoc e, List.filter_append, ← ho]; simp [hb, show isB (u.eqv v) true = false from h3]⟩ (by dsimp only; omega)
  · have hi2 : w.take i = w := List.take_of_length_le (by rw [List.length_map] at h2; omega)
    rw [hi2] at ho
    subst ho
    refine s_tideref2_Same (w.filter fun r => partB key v r.row) ?_
    refine ⟨fun _ => rfl, ?_⟩
    conv => whnf
    exact h
end Go.Tide
