/- Part 10 of the proof's ground: The statements' own functions, of windows. -/
import Derived.Test.YtfalonfjpihgeaaTide9

/- The statements' own functions, of windows. -/
set_option linter.unusedVariables false
set_option maxRecDepth 8000
namespace Go.Tide
variable {x : Sto} {K : List A → Sto → Prop}

theorem s_tideref2_Same (a : ZSet) (h : K [.bool true] x) : CC n_tideref2_Same [aS a, aS a] x K := by
  have hmax : maxI = 9223372036854775807 := rfl
  refine fnc g_tideref2_Same rfl ?_
  conv => whnf
  intro hl
  conv => whnf
  intro hl2
  conv => whnf
  refine way_f (by simp) ?_
  conv => whnf
  intro hl3
  conv => whnf
  refine loop (fun (i : Nat) => s_tideref2_Same_l0 (aS a) (aS a) (aI (a.map encZ).length) (aI i) x) (fun i => a.length - i) (fun i => i ≤ a.length) ?_ 0 (Nat.zero_le _)
  intro i hi ih
  conv => whnf
  refine way_dec (fun g1 => ?_) (fun g1 => ?_)
  all_goals conv => whnf
  · obtain ⟨z, q, e, e2, hlt⟩ := lt_drop g1
    refine ⟨encZ z, Int.natCast_nonneg _, at_drop encZ e, rfl, ?_⟩
    conv => whnf
    refine ⟨encZ z, Int.natCast_nonneg _, at_drop encZ e, rfl, ?_⟩
    conv => whnf
    refine way_f (by simp) ?_
    conv => whnf
    refine ⟨encZ z, Int.natCast_nonneg _, at_drop encZ e, rfl, ?_⟩
    conv => whnf
    refine ⟨encZ z, Int.natCast_nonneg _, at_drop encZ e, rfl, ?_⟩
    conv => whnf
    refine way_f (by simp) ?_
    conv => whnf
    refine ⟨encZ z, Int.natCast_nonneg _, at_drop encZ e, rfl, ?_⟩
    conv => whnf
    intro hl4
    conv => whnf
    refine loop (fun (k : Nat) => s_tideref2_Same_l1 (aS a) (aS a) (aI i) (aI (a.map encZ).length) (aI i) (aI (z.row.map encV).length) (aI k) x) (fun k => z.row.length - k) (fun k => k ≤ z.row.length) ?_ 0 (Nat.zero_le _)
    intro k hk ih2
    conv => whnf
    refine way_dec (fun g2 => ?_) (fun g2 => ?_)
    all_goals conv => whnf
    · obtain ⟨v, q2, f, f2, hlt2⟩ := lt_drop g2
      refine ⟨encZ z, Int.natCast_nonneg _, at_drop encZ e, rfl, ?_⟩
      conv => whnf
      refine ⟨encV v, Int.natCast_nonneg _, at_drop encV f, rfl, ?_⟩
      conv => whnf
      refine ⟨encZ z, Int.natCast_nonneg _, at_drop encZ e, rfl, ?_⟩
      conv => whnf
      refine ⟨encV v, Int.natCast_nonneg _, at_drop encV f, rfl, ?_⟩
      conv => whnf
      refine way_f (by simp) ?_
      conv => whnf
      rw [succ_map hl4 hlt2]
      exact ih2 (k + 1) (by omega) (by omega)
    · rw [succ_map hl3 hlt]
      exact ih (i + 1) (by omega) (by omega)
  · exact h

theorem s_tidelaw15_num (n : Int) (h : K [aV (vNum n)] x) : CC n_tidelaw15_num [aI n] x K := by
  refine fnc g_tidelaw15_num rfl ?_
  conv => whnf
  exact h

theorem s_tidelaw15_col (k : Int) (h : K [aE (xCol k)] x) : CC n_tidelaw15_col [aI k] x K := by
  refine fnc g_tidelaw15_col rfl ?_
  conv => whnf
  exact h

theorem s_window_Window_is {cols : List Int} {part order : List Expr} {ws : List Agg} {z w : ZSet} {e : Int} (hr : windowZ cols part order ws z = (w, e)) (hc : cols.length ≤ 140737488355328) (hws : ws.length ≤ 140737488355328)
    (h : K [aS w, aI e] x) : CC n_window_Window [aIs cols, aEs part, aEs order, .sl (ws.map encG), aS z] x K := by
  refine s_window_Window cols part order ws z hc hws ?_
  rw [hr]
  exact h

theorem K_bool {b : Bool} (e : b = true) (h : K [.bool true] x) : K [.bool b] x := e ▸ h

theorem alive_rest (v5 v1 v2 v7 v3 : Val) (h1 : v1 = vNum 1) (h2 : v2 = vNum 2) (h3 : v3 = vNum 3)
    (hr : windowZ [3] [] [xCol 0] [⟨1, xNone⟩, ⟨2, xNone⟩] [⟨[vNum 5], 2⟩, ⟨[vNum 7], 1⟩] = ([⟨[v5, v1, v1], 1⟩, ⟨[v5, v2, v1], 1⟩, ⟨[v7, v3, v3], 1⟩], 0))
    (h : K [.bool true] x) : CC n_tidelaw15_alive [] x K := by
  refine fnc g_tidelaw15_alive rfl ?_
  conv => whnf
  refine s_tidelaw15_num 5 ?_
  refine ⟨fun _ => rfl, ?_⟩
  conv => whnf
  refine s_tidelaw15_num 7 ?_
  refine ⟨fun _ => rfl, ?_⟩
  conv => whnf
  refine s_tidelaw15_col 0 ?_
  refine ⟨fun _ => rfl, ?_⟩
  conv => whnf
  refine s_window_Window_is hr (by simp) (by simp) ?_
  refine ⟨fun _ => rfl, ?_⟩
  conv => whnf
  refine ⟨encZ ⟨[v5, v2, v1], 1⟩, by decide, rfl, rfl, ?_⟩
  conv => whnf
  refine ⟨encV v2, by decide, rfl, rfl, ?_⟩
  conv => whnf
  refine ⟨_, s_tidelaw15_num 2 ⟨rfl, rfl⟩, ?_⟩
  conv => whnf
  refine way_t (by simp [vNum, h2]) ?_
  conv => whnf
  refine ⟨encZ ⟨[v5, v2, v1], 1⟩, by decide, rfl, rfl, ?_⟩
  conv => whnf
  refine ⟨encV v1, by decide, rfl, rfl, ?_⟩
  conv => whnf
  refine ⟨_, s_tidelaw15_num 1 ⟨rfl, rfl⟩, ?_⟩
  conv => whnf
  refine way_t (by simp [vNum, h1]) ?_
  conv => whnf
  refine ⟨encZ ⟨[v7, v3, v3], 1⟩, by decide, rfl, rfl, ?_⟩
  conv => whnf
  refine ⟨encV v3, by decide, rfl, rfl, ?_⟩
  conv => whnf
  refine ⟨_, s_tidelaw15_num 3 ⟨rfl, rfl⟩, ?_⟩
  conv => whnf
  refine K_bool ?_ h
  simp [vNum, h3]

theorem s_tidelaw15_alive (h : K [.bool true] x) : CC n_tidelaw15_alive [] x K :=
  alive_rest _ _ _ _ _ rfl rfl rfl alive_window h

theorem positive_win {cols : List Int} {part order : List Expr} {ws : List Agg} {z w : ZSet} (h : WinOk cols part order ws z w) : zPositive z = (eachGo posW z, 0) := by
  unfold zPositive zEach
  rw [if_neg (by rw [h.zw]; simp)]

theorem s_tidelaw15_cut (w : ZSet) {n : Nat} (hw : w.length ≤ 1000000) (hr : ∀ z ∈ w, n ≤ z.row.length) (h : K [aS (zOf (cutZ n w)).1] x) : CC n_tidelaw15_cut [aS w, aI n] x K := by
  have hmaxB : maxB = 140737488355328 := rfl
  have hmax : maxI = 9223372036854775807 := rfl
  refine fnc g_tidelaw15_cut rfl ?_
  conv => whnf
  intro hl
  conv => whnf
  refine loop (fun (t : Nat × ZSet) => s_tidelaw15_cut_l0 (aI n) (.gs (.L 5) (t.2.map encZ)) (aS w) (aI (w.map encZ).length) (aI t.1) (.tok ty_api_ZRow 2 (t.2.map encZ).length) x) (fun t => w.length - t.1) (fun t => t.1 ≤ w.length ∧ t.2 = cutZ n (w.take t.1)) ?_ (0, []) ⟨Nat.zero_le _, rfl⟩
  conv => whnf
  rintro ⟨i, out⟩ ⟨hi, ho⟩ ih
  dsimp only at hi ho ih ⊢
  have hol : out.length = i := by rw [ho, cutZ, List.length_map, List.length_take]; omega
  conv => whnf
  refine way_dec (fun g1 => ?_) (fun g1 => ?_)
  all_goals conv => whnf
  · obtain ⟨z, q, e, e2, hlt⟩ := lt_drop g1
    refine ⟨encZ z, Int.natCast_nonneg _, at_drop encZ e, rfl, ?_⟩
    conv => whnf
    have hz := hr z (mem_drop e)
    refine ⟨Int.natCast_nonneg _, by rw [List.length_map]; omega, ?_, ?_⟩
    · intro u hu
      obtain ⟨v, _, rfl⟩ := List.mem_map.1 hu
      rfl
    conv => whnf
    rw [show ((n : Int)).toNat = n by omega, ← List.map_take]
    refine ⟨rfl, rfl, rfl, sl_one encZ 2 (fun _ => rfl) ⟨z.row.take n, z.w⟩, by simp only [List.length_map, List.length_cons, List.length_nil]; omega, by simp only [List.length_map, List.length_cons, List.length_nil]; omega, ?_⟩
    conv => whnf
    rw [tok_snoc, snoc_map encZ out ⟨z.row.take n, z.w⟩ rfl, succ_map hl hlt]
    exact ih (i + 1, out ++ [⟨z.row.take n, z.w⟩]) ⟨by dsimp only; omega, by dsimp only; rw [take_snoc e, ho]; simp [cutZ]⟩ (by dsimp only; omega)
  · have hi2 : w.take i = w := List.take_of_length_le (by rw [List.length_map] at g1; omega)
    rw [hi2] at ho
    subst ho
    refine s_zsets_Of (cutZ n w) ?_
    refine ⟨fun _ => rfl, ?_⟩
    conv => whnf
    exact h
theorem s_tidelaw15_WindowKeeps (cols : List Int) (part order : List Expr) (ws : List Agg) (z : ZSet) (hc : cols.length ≤ 140737488355328) (hws : ws.length ≤ 140737488355328)
    (h : K [.bool true] x) : CC n_tidelaw15_WindowKeeps [aIs cols, aEs part, aEs order, .sl (ws.map encG), aS z] x K := by
  have hmax : maxI = 9223372036854775807 := rfl
  refine fnc g_tidelaw15_WindowKeeps rfl ?_
  conv => whnf
  refine s_tidelaw15_alive ?_
  refine ⟨fun _ => rfl, ?_⟩
  conv => whnf
  obtain ⟨w, e, hr⟩ : ∃ w e, windowZ cols part order ws z = (w, e) := ⟨_, _, rfl⟩
  obtain ⟨p, pe, hp⟩ : ∃ p e, zPositive z = (p, e) := ⟨_, _, rfl⟩
  refine s_window_Window_is hr hc hws ?_
  refine ⟨fun _ => rfl, ?_⟩
  conv => whnf
  refine s_zsets_Positive z ?_
  refine ⟨fun _ => rfl, ?_⟩
  conv => whnf
  rw [hp]
  conv => whnf
  by_cases he : e = 0
  · subst he
    have hw := windowZ_ok hr
    rw [positive_win hw] at hp
    cases hp
    conv => whnf
    intro hl
    conv => whnf
    refine loop (fun (i : Nat) => s_tidelaw15_WindowKeeps_l0 (aIs cols) (.sl (ws.map encG)) (aS w) (aS (eachGo posW z)) (aS w) (aI (w.map encZ).length) (aI i) x) (fun i => w.length - i) (fun i => i ≤ w.length) ?_ 0 (Nat.zero_le _)
    intro i hi ih
    conv => whnf
    refine way_dec (fun g1 => ?_) (fun g1 => ?_)
    all_goals conv => whnf
    · obtain ⟨r, q, e, e2, hlt⟩ := lt_drop g1
      refine ⟨encZ r, Int.natCast_nonneg _, at_drop encZ e, rfl, ?_⟩
      conv => whnf
      have hrow := (hw.rows r (mem_drop e)).1
      intro l1
      conv => whnf
      intro l2
      conv => whnf
      intro l3
      conv => whnf
      refine way_f ?_ ?_
      · simp only [List.length_map] at *
        rw [wrap_i64 ⟨by omega, by omega⟩]
        simp only [bne, Bool.not_eq_eq_eq_not, Bool.not_false, beq_iff_eq]
        omega
      conv => whnf
      rw [succ_map hl hlt]
      exact ih (i + 1) (by omega) (by omega)
    · intro l1
      conv => whnf
      rw [List.length_map]
      refine s_tidelaw15_cut w (n := cols.length) (by have := hw.len; omega) (fun r hr => by have := (hw.rows r hr).1; omega) ?_
      refine ⟨fun _ => rfl, ?_⟩
      conv => whnf
      rw [window_keeps hw]
      refine s_tideref2_Same (eachGo posW z) ?_
      refine ⟨fun _ => rfl, ?_⟩
      conv => whnf
      exact h
  · have hw : w = [] := by have := windowZ_err (by rw [hr]; exact he); rw [hr] at this; exact this
    subst hw
    refine way_t (by simpa using he) ?_
    conv => whnf
    intro hl
    conv => whnf
    conv => whnf
    exact h
end Go.Tide
