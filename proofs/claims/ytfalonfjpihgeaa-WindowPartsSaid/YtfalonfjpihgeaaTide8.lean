/- Part 8 of the proof's ground: Expressions: what each function comes to. -/
import Derived.Test.YtfalonfjpihgeaaTide7

/- Expressions: what each function comes to. -/
set_option linter.unusedVariables false
namespace Go.Tide
variable {x : Sto} {K : List A → Sto → Prop}

theorem s_exprs_kids (k : Int) (h : K [aI (kidsN k)] x) : CC n_exprs_kids [aI k] x K := by
  refine fnc g_exprs_kids rfl ?_
  conv => whnf
  unfold kidsN at h
  refine way_eq (fun h1 => ?_) (fun h1 => ?_)
  all_goals conv => whnf
  · rw [if_pos (.inl h1)] at h; exact h
  · refine way_eq (fun h2 => ?_) (fun h2 => ?_)
    all_goals conv => whnf
    · rw [if_pos (.inr h2)] at h; exact h
    · rw [if_neg (by omega)] at h
      refine way_eq (fun h3 => ?_) (fun h3 => ?_)
      all_goals conv => whnf
      · rw [if_pos (.inl h3)] at h; exact h
      · refine way_eq (fun h4 => ?_) (fun h4 => ?_)
        all_goals conv => whnf
        · rw [if_pos (.inr h4)] at h; exact h
        · rw [if_neg (by omega)] at h
          refine way_dec (fun h5 => ?_) (fun h5 => ?_)
          all_goals conv => whnf
          · refine way_dec (fun h6 => ?_) (fun h6 => ?_)
            all_goals conv => whnf
            · rw [if_pos (.inl ⟨h5, h6⟩)] at h; exact h
            · refine way_eq (fun h7 => ?_) (fun h7 => ?_)
              all_goals conv => whnf
              · rw [if_pos (.inr h7)] at h; exact h
              · rw [if_neg (by omega)] at h
                refine way_eq (fun h8 => ?_) (fun h8 => ?_)
                all_goals conv => whnf
                · rw [if_pos h8] at h; exact h
                · rw [if_neg h8] at h; exact h
          · refine way_eq (fun h7 => ?_) (fun h7 => ?_)
            all_goals conv => whnf
            · rw [if_pos (.inr h7)] at h; exact h
            · rw [if_neg (by omega)] at h
              refine way_eq (fun h8 => ?_) (fun h8 => ?_)
              all_goals conv => whnf
              · rw [if_pos h8] at h; exact h
              · rw [if_neg h8] at h; exact h

theorem s_exprs_one (a b : Int) (h : K [aI (oneT a b).1, .bool (oneT a b).2] x) : CC n_exprs_one [aI a, aI b] x K := by
  refine fnc g_exprs_one rfl ?_
  conv => whnf
  unfold oneT at h
  refine way_eq (fun h1 => ?_) (fun h1 => ?_)
  all_goals conv => whnf
  · rw [if_pos (.inl h1)] at h; exact h
  · refine way_eq (fun h2 => ?_) (fun h2 => ?_)
    all_goals conv => whnf
    · rw [if_pos (.inr h2)] at h; exact h
    · rw [if_neg (by omega)] at h
      refine way_eq (fun h3 => ?_) (fun h3 => ?_)
      all_goals conv => whnf
      · rw [if_pos h3] at h; exact h
      · rw [if_neg h3] at h; exact h

theorem s_exprs_all (l : List Int) (w : Int) (h : K [.bool (allT w l)] x) : CC n_exprs_all [aIs l, aI w] x K := by
  refine fnc g_exprs_all rfl ?_
  conv => whnf
  intro hl
  conv => whnf
  refine loop (fun (i : Nat) => s_exprs_all_l0 (aI w) (aIs l) (aI (l.map encI).length) (aI i) x) (fun i => l.length - i) (fun i => i ≤ l.length ∧ allT w (l.drop i) = allT w l) ?_ (0) ⟨Nat.zero_le _, rfl⟩
  intro i ⟨hi, hinv⟩ ih
  conv => whnf
  refine way_dec (fun h1 => ?_) (fun h1 => ?_)
  rotate_left
  all_goals conv => whnf
  rotate_left
  rotate_left
  obtain ⟨e, hge⟩ := ge_drop h1
  · rw [← hinv, e] at h
    exact h
  obtain ⟨a, r, e, e2, hlt⟩ := lt_drop h1
  refine ⟨encI a, Int.natCast_nonneg _, at_drop encI e, rfl, ?_⟩
  conv => whnf
  refine s_exprs_one a w ?_
  refine ⟨fun _ => rfl, ?_⟩
  conv => whnf
  refine way_not ?_
  refine way (fun h2 => ?_) (fun h2 => ?_)
  all_goals conv => whnf
  · rw [succ_map hl hlt]
    refine ih (i + 1) ⟨by omega, ?_⟩ (by omega)
    rw [e2, ← hinv, e, allT, if_pos h2]
  · rw [← hinv, e, allT, if_neg (by simp [h2])] at h
    exact h

theorem s_exprs_kind (k : Int) (t : List Int) (hk : 3 ≤ k) (hk16 : k ≠ 16) (hn : (t.length : Int) = kidsN k) (h : K [aI (kindT k t).1, aI (kindT k t).2] x) : CC n_exprs_kind [aI k, aIs t] x K := by
  refine fnc g_exprs_kind rfl ?_
  conv => whnf
  have end_ : ∀ o : Int × Bool, kindO k t = o → K [aI (if o.2 = true then (o.1, 0) else (0, 9) : Int × Int).1, aI (if o.2 = true then (o.1, 0) else (0, 9) : Int × Int).2] x := by
    intro o ho
    rw [← ho]
    exact h
  have two : ∀ a b : Int, t = [a, b] → t.getD 0 0 = a ∧ t.getD 1 0 = b := by intro a b e; subst e; exact ⟨rfl, rfl⟩
  refine way_dec (fun h1 => ?_) (fun h1 => ?_)
  all_goals conv => whnf
  · refine s_exprs_all t 2 ?_
    refine ⟨fun _ => rfl, ?_⟩
    conv => whnf
    refine way_not ?_
    have := end_ (2, allT 2 t) (by rw [kindO, if_pos h1])
    refine way (fun h2 => ?_) (fun h2 => ?_)
    all_goals conv => whnf
    · rw [h2] at this; exact this
    · rw [h2] at this; exact this
  · refine way_dec (fun h2 => ?_) (fun h2 => ?_)
    all_goals conv => whnf
    · have h3 : kidsN k = 2 := by unfold kidsN; rw [if_neg (by omega), if_neg (by omega), if_pos (by omega)]
      obtain ⟨a, b, rfl⟩ : ∃ a b, t = [a, b] := by
        match t, (by omega : t.length = 2) with
        | [a, b], _ => exact ⟨a, b, rfl⟩
      refine ⟨[aI a], by decide, rfl, rfl, ?_⟩
      conv => whnf
      refine ⟨[aI b], by decide, rfl, rfl, ?_⟩
      conv => whnf
      refine ⟨_, s_exprs_one a b ⟨rfl, rfl⟩, ?_⟩
      conv => whnf
      refine way_not ?_
      have := end_ (2, (oneT a b).2) (by rw [kindO, if_neg h1, if_pos h2]; rfl)
      refine way (fun h4 => ?_) (fun h4 => ?_)
      all_goals conv => whnf
      · rw [h4] at this; exact this
      · rw [h4] at this; exact this
    · refine way_dec (fun h3 => ?_) (fun h3 => ?_)
      all_goals conv => whnf
      · refine s_exprs_all t 3 ?_
        refine ⟨fun _ => rfl, ?_⟩
        conv => whnf
        refine way_not ?_
        have := end_ (3, allT 3 t) (by rw [kindO, if_neg h1, if_neg h2, if_pos h3])
        refine way (fun h4 => ?_) (fun h4 => ?_)
        all_goals conv => whnf
        · rw [h4] at this; exact this
        · rw [h4] at this; exact this
      · refine way_eq (fun h4 => ?_) (fun h4 => ?_)
        all_goals conv => whnf
        · refine s_exprs_all t 4 ?_
          refine ⟨fun _ => rfl, ?_⟩
          conv => whnf
          refine way_not ?_
          have := end_ (4, allT 4 t) (by rw [kindO, if_neg h1, if_neg h2, if_neg h3, if_pos h4])
          refine way (fun h5 => ?_) (fun h5 => ?_)
          all_goals conv => whnf
          · rw [h5] at this; exact this
          · rw [h5] at this; exact this
        · refine way_eq (fun h5 => ?_) (fun h5 => ?_)
          all_goals conv => whnf
          · have h6 : kidsN k = 3 := by subst h5; rfl
            obtain ⟨a, b, c, rfl⟩ : ∃ a b c, t = [a, b, c] := by
              match t, (by omega : t.length = 3) with
              | [a, b, c], _ => exact ⟨a, b, c, rfl⟩
            refine ⟨[aI b], by decide, rfl, rfl, ?_⟩
            conv => whnf
            refine ⟨[aI c], by decide, rfl, rfl, ?_⟩
            conv => whnf
            refine ⟨_, s_exprs_one b c ⟨rfl, rfl⟩, ?_⟩
            conv => whnf
            have := end_ ((oneT b c).1, (oneT b c).2 && allT 2 [a]) (by rw [kindO, if_neg h1, if_neg h2, if_neg h3, if_neg h4, if_pos h5]; rfl)
            refine way (fun h7 => ?_) (fun h7 => ?_)
            all_goals conv => whnf
            · rw [h7] at this
              refine ⟨by decide, by simp, by simp [encI], ?_⟩
              conv => whnf
              refine s_exprs_all [a] 2 ?_
              refine ⟨fun _ => rfl, ?_⟩
              conv => whnf
              refine way_not ?_
              refine way (fun h8 => ?_) (fun h8 => ?_)
              all_goals conv => whnf
              · rw [show allT 2 [a] = true from h8] at this; exact this
              · rw [show allT 2 [a] = false from h8] at this; exact this
            · rw [h7] at this
              exact this
          · have h7 : kidsN k = 2 := by
              have := kidsN_cases hn
              omega
            obtain ⟨a, b, rfl⟩ : ∃ a b, t = [a, b] := by
              match t, (by omega : t.length = 2) with
              | [a, b], _ => exact ⟨a, b, rfl⟩
            refine ⟨[aI a], by decide, rfl, rfl, ?_⟩
            conv => whnf
            refine ⟨[aI b], by decide, rfl, rfl, ?_⟩
            conv => whnf
            refine ⟨_, s_exprs_one a b ⟨rfl, rfl⟩, ?_⟩
            conv => whnf
            refine way_not ?_
            have := end_ (oneT a b) (by rw [kindO, if_neg h1, if_neg h2, if_neg h3, if_neg h4, if_neg h5]; rfl)
            refine way (fun h8 => ?_) (fun h8 => ?_)
            all_goals conv => whnf
            · rw [h8] at this; exact this
            · rw [h8] at this; exact this

/-- One object handed in. -/
abbrev st1 (o : Ob) : Sto := updS (fun _ => none) 0 (some o)

theorem typ_le (cols : List Int) : ∀ (x : Expr) (n d : Int), 0 ≤ n → n ≤ 200 → n < (typ cols x n d).1 ∧ (typ cols x n d).1 ≤ 201 ∧ ((typ cols x n d).2.2 = 0 → (typ cols x n d).1 ≤ 200) := by
  intro x
  induction x using Expr.rec (motive_2 := fun l => ∀ n d : Int, 0 ≤ n → n ≤ 200 → n ≤ (typs cols l n d).1 ∧ (typs cols l n d).1 ≤ 201 ∧ ((typs cols l n d).2.2 = 0 → (typs cols l n d).1 ≤ 200)) with
  | mk k v c l ih =>
    intro n d h0 h1
    rw [typ]
    by_cases g1 : 200 < n + 1 ∨ 20 < d
    · rw [if_pos g1]
      exact ⟨by simp; omega, by simp; omega, by simp⟩
    · rw [if_neg g1]
      by_cases g2 : kidsN k < 0
      · rw [if_pos g2]
        exact ⟨by simp; omega, by simp; omega, by simp⟩
      · rw [if_neg g2]
        by_cases g3 : (l.length : Int) ≠ kidsN k
        · rw [if_pos g3]
          exact ⟨by simp; omega, by simp; omega, by simp⟩
        · rw [if_neg g3]
          have := ih (n + 1) (d + 1) (by omega) (by omega)
          dsimp only
          by_cases g4 : (typs cols l (n + 1) (d + 1)).2.2 ≠ 0
          · rw [if_pos g4]
            exact ⟨by simp; omega, by simp; omega, fun h => absurd h g4⟩
          · rw [if_neg g4]
            have := this.2.2 (by simpa using g4)
            exact ⟨by simp; omega, by simp; omega, fun h => by simp; omega⟩
  | nil =>
    rename_i n d h0 h1
    exact ⟨by simp [typs], by simp [typs]; omega, by simp [typs]; omega⟩
  | cons x r ihx ihr =>
    rename_i n d h0 h1
    have := ihx n d h0 h1
    rw [typs]
    dsimp only
    by_cases g1 : (typ cols x n d).2.2 ≠ 0
    · rw [if_pos g1]
      exact ⟨by simp; omega, by simp; omega, fun h => absurd h g1⟩
    · rw [if_neg g1]
      have hx := this.2.2 (by simpa using g1)
      have := ihr (typ cols x n d).1 d (by omega) hx
      by_cases g2 : (typs cols r (typ cols x n d).1 d).2.2 ≠ 0
      · rw [if_pos g2]
        exact ⟨by simp; omega, by simp; omega, fun h => absurd h g2⟩
      · rw [if_neg g2]
        have hr := this.2.2 (by simpa using g2)
        exact ⟨by simp; omega, by simp; omega, fun _ => by simp; omega⟩

theorem lt_dropE {l : List Expr} {i : Nat} (h : (i : Int) < ((encEs l).length : Int)) : ∃ a r, l.drop i = a :: r ∧ l.drop (i + 1) = r ∧ i < l.length := lt_drop (f := encE) (by rw [← encEs_map]; exact h)
theorem ge_dropE {l : List Expr} {i : Nat} (h : ¬ (i : Int) < ((encEs l).length : Int)) : l.drop i = [] ∧ l.length ≤ i := ge_drop (f := encE) (by rw [← encEs_map]; exact h)
theorem at_dropE {l : List Expr} {i : Nat} {a : Expr} {r : List Expr} (h : l.drop i = a :: r) : (encEs l)[((i : Int)).toNat]? = some (encE a) := by rw [encEs_map]; exact at_drop encE h
theorem succ_mapE {l : List Expr} {i : Nat} (hl : ((encEs l).length : Int) ≤ maxI) (h : i < l.length) : IntKind.wrap .i64 ((i : Int) + 1) = ((i + 1 : Nat) : Int) := succ_map (f := encE) (by rw [← encEs_map]; exact hl) h
theorem encE_len (x : Expr) : (encE x).length = 6 := by cases x; rfl

theorem Expr.ind {P : Expr → Prop} (h : ∀ k v c l, (∀ y ∈ l, P y) → P (.mk k v c l)) : ∀ x, P x := by
  intro x
  induction x using Expr.rec (motive_2 := fun l => ∀ y ∈ l, P y) with
  | mk k v c l ih => exact h k v c l ih
  | nil => rename_i hy; cases hy
  | cons x r ihx ihr =>
    rename_i hy
    rcases List.mem_cons.1 hy with rfl | hy
    · exact ihx
    · exact ihr _ hy

def glueT (acc : List Int) (r : Int × List Int × Int) : Int × List Int × Int := (r.1, if r.2.2 ≠ 0 then [] else acc ++ r.2.1, r.2.2)

theorem typs_err (cols : List Int) : ∀ (l : List Expr) (n d : Int), (typs cols l n d).2.2 ≠ 0 → (typs cols l n d).2.1 = []
  | [], n, d, h => rfl
  | x :: r, n, d, h => by
    rw [typs] at h ⊢
    dsimp only at h ⊢
    by_cases g1 : (typ cols x n d).2.2 ≠ 0
    · rw [if_pos g1]
    · rw [if_neg g1]
      by_cases g2 : (typs cols r (typ cols x n d).1 d).2.2 ≠ 0
      · rw [if_pos g2]
      · rw [if_neg g1, if_neg g2] at h
        exact absurd rfl h

theorem typs_len (cols : List Int) : ∀ (l : List Expr) (n d : Int), (typs cols l n d).2.2 = 0 → (typs cols l n d).2.1.length = l.length
  | [], n, d, h => rfl
  | x :: r, n, d, h => by
    rw [typs] at h ⊢
    dsimp only at h ⊢
    by_cases g1 : (typ cols x n d).2.2 ≠ 0
    · rw [if_pos g1] at h; exact absurd h g1
    · rw [if_neg g1] at h ⊢
      by_cases g2 : (typs cols r (typ cols x n d).1 d).2.2 ≠ 0
      · rw [if_pos g2] at h; exact absurd h g2
      · rw [if_neg g2]
        have := typs_len cols r _ _ (Decidable.not_not.1 g2)
        simp [this]

theorem s_exprs_looker_typ (cols : List Int) : ∀ (y : Expr) (n d : Int) {K : List A → Sto → Prop}, 0 ≤ n → n ≤ 200 → 1 ≤ d → d ≤ 21 →
    K [aI (typ cols y n d).2.1, aI (typ cols y n d).2.2] (st1 (.cells [aIs cols, aI (typ cols y n d).1])) →
    CC n_exprs_looker_typ [.ref (.U 0) 0, pE y, aI d] (st1 (.cells [aIs cols, aI n])) K := by
  intro y
  induction y using Expr.ind with
  | h k v c l ih =>
    intro n d K hn0 hn hd0 hd h
    refine fnc g_exprs_looker_typ rfl ?_
    conv => whnf
    rw [wrap_i64 (n := n + 1) ⟨by omega, by omega⟩, updS_updS]
    rw [typ] at h
    refine way_dec (fun h1 => ?_) (fun h1 => ?_)
    all_goals conv => whnf
    · rw [if_pos (.inl h1)] at h
      exact h
    · refine way_dec (fun h2 => ?_) (fun h2 => ?_)
      all_goals conv => whnf
      · rw [if_pos (.inr h2)] at h
        exact h
      · rw [if_neg (by omega)] at h
        refine s_exprs_kids k ?_
        refine ⟨fun _ => rfl, ?_⟩
        conv => whnf
        refine way_dec (fun h3 => ?_) (fun h3 => ?_)
        all_goals conv => whnf
        · rw [if_pos h3] at h
          exact h
        · rw [if_neg h3] at h
          intro hl
          conv => whnf
          refine way_ne (fun h4 => ?_) (fun h4 => ?_)
          all_goals conv => whnf
          · rw [encEs_map, List.length_map] at h4
            rw [if_pos h4] at h
            exact h
          · rw [encEs_map, List.length_map] at h4
            rw [if_neg (by simpa using h4)] at h
            intro hl2
            conv => whnf
            have hk3 : l.length ≤ 3 := by have := kidsN_cases h4; omega
            generalize hR : typs cols l (n + 1) (d + 1) = R at h
            refine loop (fun (p : Nat × List Int × Int) => s_exprs_looker_typ_l0 (.ref (.U 0) 0) (pE (.mk k v c l)) (aI d) (.gs (.L 9) (p.2.1.map encI)) (aI (encEs l).length) (aI p.1) (.tok ty_int 1 (p.2.1.map encI).length) (st1 (.cells [aIs cols, aI p.2.2])))
              (fun p => l.length - p.1) (fun p => p.1 ≤ l.length ∧ p.2.1.length = p.1 ∧ 0 ≤ p.2.2 ∧ p.2.2 ≤ 200 ∧ glueT p.2.1 (typs cols (l.drop p.1) p.2.2 (d + 1)) = R) ?_ (0, [], n + 1) ⟨by simp, rfl, by simp; omega, by simp; omega, by
                simp only [List.drop_zero, hR, glueT]
                obtain ⟨R1, R2, R3⟩ := R
                by_cases g : R3 ≠ 0
                · have := typs_err cols l (n + 1) (d + 1) (by rw [hR]; exact g)
                  rw [hR] at this
                  simp [g]
                  exact this
                · simp [g]⟩
            rintro ⟨i, acc, m⟩ ⟨hi, hlen, hm0, hm, hinv⟩ ih2
            dsimp only at hi hlen hm0 hm hinv ih2 ⊢
            conv => whnf
            refine way_dec (fun g1 => ?_) (fun g1 => ?_)
            all_goals conv => whnf
            · obtain ⟨a, r, e, e2, hlt⟩ := lt_dropE g1
              refine ⟨encE a, Int.natCast_nonneg _, at_dropE e, encE_len a, ?_⟩
              conv => whnf
              rw [wrap_i64 (n := d + 1) ⟨by omega, by omega⟩]
              refine ih a (mem_drop e) m (d + 1) hm0 hm (by omega) (by omega) ?_
              refine ⟨fun h => (by cases h), ?_⟩
              conv => whnf
              have hle := typ_le cols a m (d + 1) hm0 hm
              generalize hT : typ cols a m (d + 1) = T at hle ⊢
              refine way_ne (fun g2 => ?_) (fun g2 => ?_)
              all_goals conv => whnf
              · have : R = (T.1, [], T.2.2) := by
                  rw [← hinv, e, typs, hT]
                  simp [g2, glueT]
                subst this
                dsimp only at h
                rw [if_pos g2] at h
                exact h
              · have g3 := hle.2.2 g2
                refine ⟨rfl, rfl, by simp, by simp, by simp [maxB]; omega, by simp [maxI]; omega, ?_⟩
                conv => whnf
                rw [succ_mapE hl2 hlt, tok_snoc, snoc_map encI acc T.2.1 rfl]
                refine ih2 (i + 1, acc ++ [T.2.1], T.1) ⟨by dsimp only; omega, by simp [hlen], by dsimp only; omega, g3, ?_⟩ (by dsimp only; omega)
                rw [← hinv, e, e2, typs, hT]
                simp only [glueT, g2, ne_eq, not_true_eq_false, if_false]
                by_cases g5 : (typs cols r T.1 (d + 1)).2.2 = 0
                · simp [g5]
                · simp [g5]
            · obtain ⟨e, hge⟩ := ge_dropE g1
              rw [e, typs] at hinv
              simp only [glueT, ne_eq, not_true_eq_false, if_false, List.append_nil] at hinv
              subst hinv
              dsimp only at h
              rw [if_neg (by simp)] at h
              have hi' : i = l.length := by omega
              simp only [nodeT] at h
              refine way_eq (fun k1 => ?_) (fun k1 => ?_)
              all_goals conv => whnf
              · rw [if_pos k1] at h
                refine ⟨_, s_vals_Wrong v ⟨rfl, rfl⟩, ?_⟩
                conv => whnf
                exact h
              · rw [if_neg k1] at h
                refine way_eq (fun k2 => ?_) (fun k2 => ?_)
                all_goals conv => whnf
                · rw [if_pos k2] at h
                  refine way_dec (fun c1 => ?_) (fun c1 => ?_)
                  all_goals conv => whnf
                  · rw [if_pos (.inl c1)] at h
                    exact h
                  · refine way_dec (fun c2 => ?_) (fun c2 => ?_)
                    all_goals conv => whnf
                    · rw [List.length_map] at c2
                      rw [if_pos (.inr c2)] at h
                      exact h
                    · rw [List.length_map] at c2
                      rw [if_neg (by omega)] at h
                      have hc : c.toNat < cols.length := by omega
                      rw [List.getD_eq_getElem?_getD, List.getElem?_eq_getElem hc] at h
                      refine ⟨encI cols[c.toNat], by omega, by simp [hc], rfl, ?_⟩
                      conv => whnf
                      exact h
                · rw [if_neg k2] at h
                  refine way_eq (fun k3 => ?_) (fun k3 => ?_)
                  all_goals conv => whnf
                  · rw [if_pos k3] at h
                    exact h
                  · rw [if_neg k3] at h
                    have := kidsN_cases h4
                    refine s_exprs_kind k acc (by omega) k3 (by omega) ?_
                    refine ⟨fun _ => rfl, ?_⟩
                    conv => whnf
                    exact h

theorem s_exprs_Type (cols : List Int) (y : Expr) (h : K [aI (typeOf cols y).1, aI (typeOf cols y).2] x) : CC n_exprs_Type [aIs cols, aE y] x K := by
  obtain ⟨k, v, c, l⟩ := y
  refine fnc g_exprs_Type rfl ?_
  conv => whnf
  intro hl
  conv => whnf
  rw [List.length_map] at hl
  unfold typeOf at h
  refine way_dec (fun h0 => ?_) (fun h0 => ?_)
  all_goals conv => whnf
  · rw [List.length_map] at h0
    rw [if_pos (by omega)] at h
    exact h
  · rw [List.length_map] at h0
    rw [if_neg (by omega)] at h
    intro hl2
    conv => whnf
    refine loop (fun (i : Nat) => s_exprs_Type_l0 (aIs cols) (pE (.mk k v c l)) (aIs cols) (aI (cols.map encI).length) (aI i) x) (fun i => cols.length - i) (fun i => i ≤ cols.length ∧ colsBad (cols.drop i) = colsBad cols) ?_ (0) ⟨Nat.zero_le _, rfl⟩
    intro i ⟨hi, hinv⟩ ih
    conv => whnf
    refine way_dec (fun h1 => ?_) (fun h1 => ?_)
    rotate_left
    all_goals conv => whnf
    rotate_left
    rotate_left
    obtain ⟨e, hge⟩ := ge_drop h1
    · have hb : colsBad cols = false := by rw [← hinv, e]; rfl
      rw [if_neg (by simp [hb])] at h
      refine s_exprs_looker_typ cols (.mk k v c l) 0 1 (by omega) (by omega) (by omega) (by omega) ?_
      refine ⟨fun h => (by cases h), ?_⟩
      conv => whnf
      dsimp only at h
      refine way_ne (fun g => ?_) (fun g => ?_)
      all_goals conv => whnf
      · rw [if_pos g] at h
        exact h
      · rw [if_neg (by simpa using g)] at h
        exact h
    obtain ⟨a, r, e, e2, hlt⟩ := lt_drop h1
    refine ⟨encI a, Int.natCast_nonneg _, at_drop encI e, rfl, ?_⟩
    conv => whnf
    refine way_dec (fun h2 => ?_) (fun h2 => ?_)
    all_goals conv => whnf
    · rw [if_pos (by rw [← hinv, e, colsBad, if_pos (Or.inl h2)])] at h
      exact h
    · refine way_dec (fun h3 => ?_) (fun h3 => ?_)
      all_goals conv => whnf
      · rw [if_pos (by rw [← hinv, e, colsBad, if_pos (Or.inr h3)])] at h
        exact h
      · rw [succ_map hl2 hlt]
        refine ih (i + 1) ⟨by omega, ?_⟩ (by omega)
        rw [e2, ← hinv, e, colsBad, if_neg (by omega)]

/-- What the two closures of an expression's kids come to. -/
theorem s_exprs_compared (k : Int) (a b : Val) (h : K [aV (compared k a b)] x) : CC n_exprs_compared [aI k, aV a, aV b] x K := by
  refine fnc g_exprs_compared rfl ?_
  conv => whnf
  unfold compared at h
  refine way_eq (fun h1 => ?_) (fun h1 => ?_)
  all_goals conv => whnf
  · rw [if_pos h1] at h
    refine s_vals_Equal a b ?_
    refine ⟨fun _ => rfl, ?_⟩
    conv => whnf
    exact h
  · rw [if_neg h1] at h
    refine way_eq (fun h2 => ?_) (fun h2 => ?_)
    all_goals conv => whnf
    · rw [if_pos h2] at h
      refine s_vals_Equal a b ?_
      refine ⟨fun _ => rfl, ?_⟩
      conv => whnf
      refine s_vals_Not (a.eqv b) ?_
      refine ⟨fun _ => rfl, ?_⟩
      conv => whnf
      exact h
    · rw [if_neg h2] at h
      refine way_eq (fun h3 => ?_) (fun h3 => ?_)
      all_goals conv => whnf
      · rw [if_pos h3] at h
        refine s_vals_Less a b ?_
        refine ⟨fun _ => rfl, ?_⟩
        conv => whnf
        exact h
      · rw [if_neg h3] at h
        refine way_eq (fun h4 => ?_) (fun h4 => ?_)
        all_goals conv => whnf
        · rw [if_pos h4] at h
          refine s_vals_Less b a ?_
          refine ⟨fun _ => rfl, ?_⟩
          conv => whnf
          refine s_vals_Not (b.less a) ?_
          refine ⟨fun _ => rfl, ?_⟩
          conv => whnf
          exact h
        · rw [if_neg h4] at h
          refine way_eq (fun h5 => ?_) (fun h5 => ?_)
          all_goals conv => whnf
          · rw [if_pos h5] at h
            refine s_vals_Less b a ?_
            refine ⟨fun _ => rfl, ?_⟩
            conv => whnf
            exact h
          · rw [if_neg h5] at h
            refine s_vals_Less a b ?_
            refine ⟨fun _ => rfl, ?_⟩
            conv => whnf
            refine s_vals_Not (a.less b) ?_
            refine ⟨fun _ => rfl, ?_⟩
            conv => whnf
            exact h

/-- What an expression says, of rows of right values. -/
def OfSpec (y : Expr) : Prop := ∀ (row : Row) (x : Sto) (K : List A → Sto → Prop), row.Right → K [aV (y.eval row)] x → CC n_exprs_Of [pE y, aR row] x K

theorem s_exprs_Of_1 (k : Int) (v : Val) (c : Int) (l : List Expr) (row : Row) (hr : row.Right) (i : Nat) (y : Expr) (hy : l[i]? = some y) (hs : OfSpec y) (h : K [aV (y.eval row)] x) :
    CC n_exprs_Of_1 [aI i, .pim [pE (.mk k v c l)] 0, .pim [aR row] 0] x K := by
  refine fnc g_exprs_Of_1 rfl ?_
  conv => whnf
  refine ⟨encE y, Int.natCast_nonneg _, by simp [encEs_map, hy], encE_len y, ?_⟩
  conv => whnf
  refine ⟨_, hs row _ _ hr ⟨rfl, rfl⟩, ?_⟩
  conv => whnf
  exact h

theorem s_exprs_Of {y : Expr} (ok : y.Ok) : OfSpec y := by
  induction ok with
  | mk k v c l hl hv hc hk ih =>
    intro row x K hr h
    have kid : ∀ (i : Nat) (y : Expr) {x : Sto} {K : List A → Sto → Prop}, l[i]? = some y → K [aV (y.eval row)] x → CC n_exprs_Of_1 [aI i, .pim [pE (.mk k v c l)] 0, .pim [aR row] 0] x K :=
      fun i y x K hy h => s_exprs_Of_1 k v c l row hr i y hy (ih y (List.mem_of_getElem? hy)) h
    rcases kidsN_cases hl with ⟨hn, hk'⟩ | ⟨hn, hk'⟩ | ⟨hn, hk'⟩ | ⟨hn, hk'⟩
    · have := List.eq_nil_of_length_eq_zero hn
      subst this
      rcases hk' with rfl | rfl
      · refine fnc g_exprs_Of rfl ?_
        conv => whnf
        refine s_vals_Bare v ?_
        refine ⟨fun _ => rfl, ?_⟩
        conv => whnf
        exact h
      · refine fnc g_exprs_Of rfl ?_
        conv => whnf
        refine way_dec (fun h1 => ?_) (fun h1 => ?_)
        all_goals conv => whnf
        · refine s_vals_Null ?_
          refine ⟨fun _ => rfl, ?_⟩
          conv => whnf
          rw [List.length_map] at h1
          rw [Expr.eval, evalK] at h
          simp only [Int.reduceEq, if_false, if_true] at h
          rw [List.getElem?_eq_none (by omega)] at h
          exact h
        · rw [List.length_map] at h1
          have hi := hc rfl
          have hlt : c.toNat < row.length := by omega
          refine ⟨encV row[c.toNat], hi, by simp [hlt], rfl, ?_⟩
          conv => whnf
          refine ⟨_, s_vals_Bare row[c.toNat] ⟨rfl, rfl⟩, ?_⟩
          conv => whnf
          rw [Expr.eval, evalK] at h
          simp only [Int.reduceEq, if_false, if_true] at h
          rw [List.getElem?_eq_getElem hlt] at h
          exact h
    · obtain ⟨a, rfl⟩ : ∃ a, l = [a] := by
        match l, hn with
        | [a], _ => exact ⟨a, rfl⟩
      rcases hk' with rfl | rfl
      · refine fnc g_exprs_Of rfl ?_
        conv => whnf
        refine kid 0 a rfl ?_
        refine ⟨fun _ => rfl, ?_⟩
        conv => whnf
        refine s_vals_Not (a.eval row) ?_
        refine ⟨fun _ => rfl, ?_⟩
        conv => whnf
        exact h
      · refine fnc g_exprs_Of rfl ?_
        conv => whnf
        refine kid 0 a rfl ?_
        refine ⟨fun _ => rfl, ?_⟩
        conv => whnf
        refine s_vals_Bool ((a.eval row).kind == 1) ?_
        refine ⟨fun _ => rfl, ?_⟩
        conv => whnf
        exact h
    · obtain ⟨a, b, rfl⟩ : ∃ a b, l = [a, b] := by
        match l, hn with
        | [a, b], _ => exact ⟨a, b, rfl⟩
      have ra := Expr.eval_right hr (hk a (by simp))
      have rb := Expr.eval_right hr (hk b (by simp))
      rcases hk' with rfl | rfl | rfl | rfl | rfl | rfl | rfl | rfl | rfl | rfl | rfl | rfl | rfl
      · refine fnc g_exprs_Of rfl ?_
        conv => whnf
        refine kid 0 a rfl ?_
        refine ⟨fun _ => rfl, ?_⟩
        conv => whnf
        refine kid 1 b rfl ?_
        refine ⟨fun _ => rfl, ?_⟩
        conv => whnf
        refine s_vals_And (a.eval row) (b.eval row) ?_
        refine ⟨fun _ => rfl, ?_⟩
        conv => whnf
        exact h
      · refine fnc g_exprs_Of rfl ?_
        conv => whnf
        refine kid 0 a rfl ?_
        refine ⟨fun _ => rfl, ?_⟩
        conv => whnf
        refine kid 1 b rfl ?_
        refine ⟨fun _ => rfl, ?_⟩
        conv => whnf
        refine s_vals_Or (a.eval row) (b.eval row) ?_
        refine ⟨fun _ => rfl, ?_⟩
        conv => whnf
        exact h
      · refine fnc g_exprs_Of rfl ?_
        conv => whnf
        refine ⟨_, kid 0 a rfl ⟨rfl, rfl⟩, ?_⟩
        conv => whnf
        refine ⟨_, kid 1 b rfl ⟨rfl, rfl⟩, ?_⟩
        conv => whnf
        refine ⟨_, s_exprs_compared 6 (a.eval row) (b.eval row) ⟨rfl, rfl⟩, ?_⟩
        conv => whnf
        exact h
      · refine fnc g_exprs_Of rfl ?_
        conv => whnf
        refine ⟨_, kid 0 a rfl ⟨rfl, rfl⟩, ?_⟩
        conv => whnf
        refine ⟨_, kid 1 b rfl ⟨rfl, rfl⟩, ?_⟩
        conv => whnf
        refine ⟨_, s_exprs_compared 7 (a.eval row) (b.eval row) ⟨rfl, rfl⟩, ?_⟩
        conv => whnf
        exact h
      · refine fnc g_exprs_Of rfl ?_
        conv => whnf
        refine ⟨_, kid 0 a rfl ⟨rfl, rfl⟩, ?_⟩
        conv => whnf
        refine ⟨_, kid 1 b rfl ⟨rfl, rfl⟩, ?_⟩
        conv => whnf
        refine ⟨_, s_exprs_compared 8 (a.eval row) (b.eval row) ⟨rfl, rfl⟩, ?_⟩
        conv => whnf
        exact h
      · refine fnc g_exprs_Of rfl ?_
        conv => whnf
        refine ⟨_, kid 0 a rfl ⟨rfl, rfl⟩, ?_⟩
        conv => whnf
        refine ⟨_, kid 1 b rfl ⟨rfl, rfl⟩, ?_⟩
        conv => whnf
        refine ⟨_, s_exprs_compared 9 (a.eval row) (b.eval row) ⟨rfl, rfl⟩, ?_⟩
        conv => whnf
        exact h
      · refine fnc g_exprs_Of rfl ?_
        conv => whnf
        refine ⟨_, kid 0 a rfl ⟨rfl, rfl⟩, ?_⟩
        conv => whnf
        refine ⟨_, kid 1 b rfl ⟨rfl, rfl⟩, ?_⟩
        conv => whnf
        refine ⟨_, s_exprs_compared 10 (a.eval row) (b.eval row) ⟨rfl, rfl⟩, ?_⟩
        conv => whnf
        exact h
      · refine fnc g_exprs_Of rfl ?_
        conv => whnf
        refine ⟨_, kid 0 a rfl ⟨rfl, rfl⟩, ?_⟩
        conv => whnf
        refine ⟨_, kid 1 b rfl ⟨rfl, rfl⟩, ?_⟩
        conv => whnf
        refine ⟨_, s_exprs_compared 11 (a.eval row) (b.eval row) ⟨rfl, rfl⟩, ?_⟩
        conv => whnf
        exact h
      · refine fnc g_exprs_Of rfl ?_
        conv => whnf
        refine ⟨[.int .i32 43], by decide, rfl, rfl, ?_⟩
        conv => whnf
        refine ⟨_, kid 0 a rfl ⟨rfl, rfl⟩, ?_⟩
        conv => whnf
        refine ⟨_, kid 1 b rfl ⟨rfl, rfl⟩, ?_⟩
        conv => whnf
        refine ⟨_, s_vals_Reckon 43 (a.eval row) (b.eval row) ra rb ⟨rfl, rfl⟩, ?_⟩
        conv => whnf
        exact h
      · refine fnc g_exprs_Of rfl ?_
        conv => whnf
        refine ⟨[.int .i32 45], by decide, rfl, rfl, ?_⟩
        conv => whnf
        refine ⟨_, kid 0 a rfl ⟨rfl, rfl⟩, ?_⟩
        conv => whnf
        refine ⟨_, kid 1 b rfl ⟨rfl, rfl⟩, ?_⟩
        conv => whnf
        refine ⟨_, s_vals_Reckon 45 (a.eval row) (b.eval row) ra rb ⟨rfl, rfl⟩, ?_⟩
        conv => whnf
        exact h
      · refine fnc g_exprs_Of rfl ?_
        conv => whnf
        refine ⟨[.int .i32 42], by decide, rfl, rfl, ?_⟩
        conv => whnf
        refine ⟨_, kid 0 a rfl ⟨rfl, rfl⟩, ?_⟩
        conv => whnf
        refine ⟨_, kid 1 b rfl ⟨rfl, rfl⟩, ?_⟩
        conv => whnf
        refine ⟨_, s_vals_Reckon 42 (a.eval row) (b.eval row) ra rb ⟨rfl, rfl⟩, ?_⟩
        conv => whnf
        exact h
      · refine fnc g_exprs_Of rfl ?_
        conv => whnf
        refine kid 0 a rfl ?_
        refine ⟨fun _ => rfl, ?_⟩
        conv => whnf
        refine kid 1 b rfl ?_
        refine ⟨fun _ => rfl, ?_⟩
        conv => whnf
        refine s_vals_Join (a.eval row) (b.eval row) ra rb ?_
        refine ⟨fun _ => rfl, ?_⟩
        conv => whnf
        exact h
      · refine fnc g_exprs_Of rfl ?_
        conv => whnf
        refine kid 0 a rfl ?_
        refine ⟨fun _ => rfl, ?_⟩
        conv => whnf
        rw [Expr.eval, evalK] at h
        simp only [Int.reduceEq, if_false, if_true, Expr.evals, List.getD_cons_zero, List.getD_cons_succ] at h
        refine way_ne (fun h1 => ?_) (fun h1 => ?_)
        all_goals conv => whnf
        · rw [if_pos h1] at h
          exact h
        · rw [if_neg (by simpa using h1)] at h
          refine kid 1 b rfl ?_
          refine ⟨fun _ => rfl, ?_⟩
          conv => whnf
          exact h
    · obtain ⟨a, b, c', rfl⟩ : ∃ a b c, l = [a, b, c] := by
        match l, hn with
        | [a, b, c], _ => exact ⟨a, b, c, rfl⟩
      subst hk'
      refine fnc g_exprs_Of rfl ?_
      conv => whnf
      refine kid 0 a rfl ?_
      refine ⟨fun _ => rfl, ?_⟩
      conv => whnf
      refine s_vals_True (a.eval row) ?_
      refine ⟨fun _ => rfl, ?_⟩
      conv => whnf
      rw [Expr.eval, evalK] at h
      simp only [Int.reduceEq, if_false, if_true, Expr.evals, List.getD_cons_zero, List.getD_cons_succ] at h
      refine way (fun h1 => ?_) (fun h1 => ?_)
      all_goals conv => whnf
      · rw [if_pos h1] at h
        refine kid 1 b rfl ?_
        refine ⟨fun _ => rfl, ?_⟩
        conv => whnf
        exact h
      · rw [if_neg (by simp [h1])] at h
        refine kid 2 c' rfl ?_
        refine ⟨fun _ => rfl, ?_⟩
        conv => whnf
        exact h

end Go.Tide

/- The order of values and of rows. -/
set_option linter.unusedVariables false
namespace Go.Tide

/-- What tells an order, up to a key. -/
structure Ordr {α β : Type} (c : α → α → Int) (key : α → β) : Prop where
  val : ∀ a b, c a b = -1 ∨ c a b = 0 ∨ c a b = 1
  anti : ∀ a b, c b a = - c a b
  trans : ∀ a b d, c a b ≤ 0 → c b d ≤ 0 → c a d ≤ 0
  eq0 : ∀ a b, c a b = 0 ↔ key a = key b

theorem Ordr.congr_l {α β : Type} {c : α → α → Int} {key : α → β} (h : Ordr c key) {a b : α} (d : α) (e : c a b = 0) : c a d = c b d := by
  have e2 := h.anti a b
  have t1 := h.trans a b d
  have t2 := h.trans b a d
  have t3 := h.trans d b a
  have t4 := h.trans d a b
  have a1 := h.anti a d
  have a2 := h.anti b d
  have v1 := h.val a d
  have v2 := h.val b d
  omega

theorem Ordr.lex {α β γ : Type} {c1 c2 : α → α → Int} {k1 : α → β} {k2 : α → γ} (h1 : Ordr c1 k1) (h2 : Ordr c2 k2) : Ordr (fun a b => if c1 a b ≠ 0 then c1 a b else c2 a b) (fun a => (k1 a, k2 a)) := by
  refine ⟨fun a b => ?_, fun a b => ?_, fun a b d => ?_, fun a b => ?_⟩
  · have := h1.val a b
    have := h2.val a b
    split <;> omega
  · have := h1.anti a b
    have := h2.anti a b
    split <;> split <;> omega
  · have t1 := h1.trans a b d
    have t2 := h2.trans a b d
    have t3 := h1.trans d a b
    have t4 := h1.trans b d a
    have a1 := h1.anti a b
    have a2 := h1.anti b d
    have a3 := h1.anti a d
    have c1 := @Ordr.congr_l _ _ _ _ h1 a b d
    have c3 := @Ordr.congr_l _ _ _ _ h1 d b a
    split <;> split <;> split <;> omega
  · have e1 := h1.eq0 a b
    have e2 := h2.eq0 a b
    rw [Prod.mk.injEq, ← e1, ← e2]
    split <;> omega

theorem Ordr.comap {α β γ : Type} {c : α → α → Int} {key : α → β} (h : Ordr c key) (f : γ → α) : Ordr (fun a b => c (f a) (f b)) (fun a => key (f a)) :=
  ⟨fun a b => h.val _ _, fun a b => h.anti _ _, fun a b d => h.trans _ _ _, fun a b => h.eq0 _ _⟩

theorem Ordr.rekey {α β γ : Type} {c : α → α → Int} {k : α → β} {k' : α → γ} (h : Ordr c k) (e : ∀ a b, k a = k b ↔ k' a = k' b) : Ordr c k' :=
  ⟨h.val, h.anti, h.trans, fun a b => (h.eq0 a b).trans (e a b)⟩

theorem cmpI_ordr : Ordr cmpI id := by
  refine ⟨fun a b => ?_, fun a b => ?_, fun a b d => ?_, fun a b => ?_⟩ <;> simp only [cmpI, id] <;> repeat' split
  all_goals omega

theorem bl_irr : ∀ (l : List UInt8), Op.bytesLess l l = false
  | [] => rfl
  | a :: r => by simp [Op.bytesLess, bl_irr r]

theorem bl_asym : ∀ (x y : List UInt8), Op.bytesLess x y = true → Op.bytesLess y x = false
  | [], [], h => by simp [Op.bytesLess] at h
  | [], b :: y, h => by simp [Op.bytesLess]
  | a :: x, [], h => by simp [Op.bytesLess] at h
  | a :: x, b :: y, h => by
    simp only [Op.bytesLess, Bool.or_eq_true, Bool.and_eq_true, beq_iff_eq, decide_eq_true_eq] at h
    simp only [Op.bytesLess, Bool.or_eq_false_iff, Bool.and_eq_false_iff, decide_eq_false_iff_not, beq_eq_false_iff_ne]
    rcases h with h | ⟨h1, h2⟩
    · refine ⟨fun h3 => ?_, .inl fun h3 => ?_⟩
      · simp only [UInt8.lt_iff_toNat_lt] at *; omega
      · subst h3; simp only [UInt8.lt_iff_toNat_lt] at *; omega
    · subst h1
      exact ⟨by simp only [UInt8.lt_iff_toNat_lt]; omega, .inr (bl_asym x y h2)⟩

theorem bl_total : ∀ (x y : List UInt8), Op.bytesLess x y = false → Op.bytesLess y x = false → x = y
  | [], [], _, _ => rfl
  | [], b :: y, h, _ => by simp [Op.bytesLess] at h
  | a :: x, [], _, h => by simp [Op.bytesLess] at h
  | a :: x, b :: y, h1, h2 => by
    simp only [Op.bytesLess, Bool.or_eq_false_iff, Bool.and_eq_false_iff, decide_eq_false_iff_not, beq_eq_false_iff_ne] at h1 h2
    have e : a = b := by
      apply UInt8.toNat_inj.1
      simp only [UInt8.lt_iff_toNat_lt] at h1 h2
      omega
    subst e
    rw [bl_total x y (h1.2.resolve_left (by simp)) (h2.2.resolve_left (by simp))]

theorem bl_trans : ∀ (x y z : List UInt8), Op.bytesLess x y = true → Op.bytesLess y z = true → Op.bytesLess x z = true
  | x, y, [], _, h => by cases y <;> simp [Op.bytesLess] at h
  | x, [], c :: z, h, _ => by cases x <;> simp [Op.bytesLess] at h
  | [], b :: y, c :: z, _, _ => by simp [Op.bytesLess]
  | a :: x, b :: y, c :: z, h1, h2 => by
    simp only [Op.bytesLess, Bool.or_eq_true, Bool.and_eq_true, beq_iff_eq, decide_eq_true_eq] at h1 h2 ⊢
    rcases h1 with h1 | ⟨rfl, h1⟩ <;> rcases h2 with h2 | ⟨rfl, h2⟩
    · left; simp only [UInt8.lt_iff_toNat_lt] at *; omega
    · exact .inl h1
    · exact .inl h2
    · exact .inr ⟨rfl, bl_trans x y z h1 h2⟩

theorem toList_inj {a b : ByteArray} (h : a.toList = b.toList) : a = b := ByteArray.ext (by simpa [ByteArray.toList_eq] using h)

theorem cmpB_ordr : Ordr cmpB id := by
  have val : ∀ a b, cmpB a b = -1 ∨ cmpB a b = 0 ∨ cmpB a b = 1 := by
    intro a b; unfold cmpB; split
    · simp
    · split <;> simp
  have neg : ∀ a b, cmpB a b = -1 ↔ Op.bytesLess a.toList b.toList = true := by
    intro a b; unfold cmpB; split
    · simp [*]
    · split <;> simp [*]
  have zero : ∀ a b, cmpB a b = 0 ↔ a = b := by
    intro a b; unfold cmpB; split
    · rename_i h
      constructor
      · intro h2; cases h2
      · rintro rfl; rw [bl_irr] at h; cases h
    · split
      · rename_i h
        exact ⟨fun _ => toList_inj (by simpa using h), fun _ => rfl⟩
      · rename_i h
        exact ⟨fun h2 => absurd h2 (by decide), fun h2 => absurd (by rw [h2]; simp) h⟩
  have one : ∀ a b, cmpB a b = 1 ↔ Op.bytesLess b.toList a.toList = true := by
    intro a b
    constructor
    · intro h
      cases hb : Op.bytesLess b.toList a.toList with
      | true => rfl
      | false =>
        have h1 : Op.bytesLess a.toList b.toList = false := by
          cases ha : Op.bytesLess a.toList b.toList with
          | false => rfl
          | true => rw [(neg a b).2 ha] at h; cases h
        have := (zero a b).2 (toList_inj (bl_total _ _ h1 hb))
        rw [this] at h; cases h
    · intro h
      rcases val a b with h2 | h2 | h2
      · rw [bl_asym _ _ ((neg a b).1 h2)] at h; cases h
      · rw [(zero a b).1 h2, bl_irr] at h; cases h
      · exact h2
  refine ⟨val, fun a b => ?_, fun a b d h1 h2 => ?_, zero⟩
  · rcases val a b with h | h | h
    · rw [h]; exact (one b a).2 ((neg a b).1 h)
    · rw [h]; exact (zero b a).2 ((zero a b).1 h).symm
    · rw [h]; exact (neg b a).2 ((one a b).1 h)
  · rcases val a b with h | h | h
    · rcases val b d with g | g | g
      · have := (neg a d).2 (bl_trans _ _ _ ((neg a b).1 h) ((neg b d).1 g)); omega
      · rw [← (zero b d).1 g]; omega
      · omega
    · rw [(zero a b).1 h]; exact h2
    · omega

theorem orI_three (a b c : Int) : orI [a, b, c] = if a ≠ 0 then a else (if b ≠ 0 then b else c) := by
  simp only [orI]
  by_cases h1 : a = 0 <;> by_cases h2 : b = 0 <;> by_cases h3 : c = 0 <;> simp [h1, h2, h3]

theorem bare_bare (v : Val) : v.bare.bare = v.bare := by
  unfold Val.bare
  by_cases h1 : v.kind = 1
  · simp [h1, Val.null]
  · by_cases h2 : v.kind = 4
    · simp [h2]
    · simp [h1, h2]

theorem cmp_ordr : Ordr Val.cmp Val.bare := by
  have h := (cmpI_ordr.comap (fun v : Val => v.bare.kind)).lex ((cmpI_ordr.comap (fun v : Val => v.bare.n)).lex (cmpB_ordr.comap (fun v : Val => v.bare.text)))
  have e : (fun a b : Val => if cmpI a.bare.kind b.bare.kind ≠ 0 then cmpI a.bare.kind b.bare.kind else if cmpI a.bare.n b.bare.n ≠ 0 then cmpI a.bare.n b.bare.n else cmpB a.bare.text b.bare.text) = Val.cmp := by
    funext a b
    rw [Val.cmp, orI_three]
  rw [← e]
  refine h.rekey fun a b => ?_
  simp only [id, Prod.mk.injEq]
  constructor
  · rintro ⟨h1, h2, h3⟩
    cases ha : a.bare; cases hb : b.bare
    simp only [ha, hb] at h1 h2 h3
    rw [h1, h2, h3]
  · intro h; rw [h]; exact ⟨rfl, rfl, rfl⟩

/-- A row without what its values have not. -/
def rowBare (r : Row) : Row := r.map Val.bare

theorem rowBare_bare (r : Row) : rowBare (rowBare r) = rowBare r := by
  simp [rowBare, Function.comp_def, bare_bare]

theorem rowCmp_ordr : Ordr rowCmp rowBare := by
  have val : ∀ a b, rowCmp a b = -1 ∨ rowCmp a b = 0 ∨ rowCmp a b = 1 := by
    intro a
    induction a with
    | nil => intro b; cases b <;> simp [rowCmp]
    | cons u r ih =>
      intro b
      cases b with
      | nil => simp [rowCmp]
      | cons v s =>
        have := cmp_ordr.val u v
        have := ih s
        rw [rowCmp]; split <;> omega
  have anti : ∀ a b, rowCmp b a = - rowCmp a b := by
    intro a
    induction a with
    | nil => intro b; cases b <;> simp [rowCmp]
    | cons u r ih =>
      intro b
      cases b with
      | nil => simp [rowCmp]
      | cons v s =>
        have := cmp_ordr.anti u v
        have := ih s
        rw [rowCmp, rowCmp]; split <;> split <;> omega
  have eq0 : ∀ a b, rowCmp a b = 0 ↔ rowBare a = rowBare b := by
    intro a
    induction a with
    | nil => intro b; cases b <;> simp [rowCmp, rowBare]
    | cons u r ih =>
      intro b
      cases b with
      | nil => simp [rowCmp, rowBare]
      | cons v s =>
        have h1 := cmp_ordr.eq0 u v
        have h2 := ih s
        simp only [rowBare, List.map_cons, List.cons.injEq] at h2 ⊢
        rw [rowCmp, ← h1, ← h2]
        split <;> omega
  refine ⟨val, anti, ?_, eq0⟩
  intro a
  induction a with
  | nil => intro b d h1 h2; cases d <;> simp [rowCmp]
  | cons u r ih =>
    intro b d h1 h2
    cases b with
    | nil => simp [rowCmp] at h1
    | cons v s =>
      cases d with
      | nil => simp [rowCmp] at h2
      | cons w t =>
        rw [rowCmp] at h1 h2 ⊢
        have t1 := cmp_ordr.trans u v w
        have t3 := cmp_ordr.trans w u v
        have t4 := cmp_ordr.trans v w u
        have a1 := cmp_ordr.anti u v
        have a2 := cmp_ordr.anti v w
        have a3 := cmp_ordr.anti u w
        have t2 := ih s t
        have c1 := @Ordr.congr_l _ _ _ _ cmp_ordr u v w
        have c3 := @Ordr.congr_l _ _ _ _ cmp_ordr w v u
        split at h1 <;> split at h2 <;> split <;> omega

/-- The strict order that a comparison tells. -/
theorem Ordr.sw {α β : Type} {c : α → α → Int} {key : α → β} (h : Ordr c key) : SW (fun a b => decide (c a b < 0)) := by
  refine ⟨fun a b h1 => ?_, fun a b d h1 h2 => ?_⟩
  · have h1 := of_decide_eq_true h1
    have := h.anti a b
    exact decide_eq_false (by omega)
  · have h1 := of_decide_eq_false h1
    have h2 := of_decide_eq_false h2
    have a1 := h.anti a b
    have a2 := h.anti b d
    have a3 := h.anti a d
    have := h.trans d b a
    exact decide_eq_false (by omega)

end Go.Tide

/- Sets with weights, in plain Lean: what the functions come to. -/
set_option linter.unusedVariables false
namespace Go.Tide

def valsWrong : Row → Int
  | [] => 0
  | v :: r => if v.wrong ≠ 0 then v.wrong else valsWrong r

def rowWrong (r : Row) : Int := if 8 < r.length then 5 else valsWrong r

def wOk (w : Int) : Bool := decide (w ≤ 1000000) && decide (-1000000 ≤ w)

def zwGo : Option Row → ZSet → Int
  | _, [] => 0
  | p, z :: r => if rowWrong z.row ≠ 0 then rowWrong z.row else if z.w = 0 ∨ wOk z.w = false then 3 else
    if (match p with | some q => decide (0 ≤ rowCmp q z.row) | none => false) = true then 2 else zwGo (some z.row) r

theorem zwGo_cons (p : Option Row) (z : ZRow) (r : ZSet) : zwGo p (z :: r) = if rowWrong z.row ≠ 0 then rowWrong z.row else if z.w = 0 ∨ wOk z.w = false then 3 else
    if (match p with | some q => decide (0 ≤ rowCmp q z.row) | none => false) = true then 2 else zwGo (some z.row) r := by cases p <;> rfl

def zWrong (z : ZSet) : Int := if 400 < z.length then 5 else zwGo none z

def zWrongs : List ZSet → Int
  | [] => 0
  | z :: r => if zWrong z ≠ 0 then zWrong z else zWrongs r

def zBare (z : ZRow) : ZRow := ⟨rowBare z.row, z.w⟩

def ltZ (a b : ZRow) : Bool := decide (rowCmp a.row b.row < 0)

theorem ltZ_sw : SW ltZ := (rowCmp_ordr.comap ZRow.row).sw

def emitZ (x : ZRow) (l : ZSet) : ZSet := if x.w ≠ 0 then x :: l else l

/-- Rows one behind the other that are the same are put together. -/
def grpZ (x : ZRow) : ZSet → ZSet
  | [] => emitZ x []
  | y :: t => if rowCmp y.row x.row = 0 then grpZ ⟨x.row, IntKind.wrap .i64 (x.w + y.w)⟩ t else emitZ x (grpZ y t)

def groupZ : ZSet → ZSet
  | [] => []
  | x :: t => grpZ x t

def zTotal (l : ZSet) : ZSet := groupZ (isort ltZ (l.map zBare))

/-- If nothing is too large. -/
def zFit (z : ZSet) : ZSet × Int := if z.any (fun x => !wOk x.w) = true then ([], 3) else if 400 < z.length then ([], 5) else (z, 0)

def zSum (l : ZSet) : ZSet × Int := zFit (zTotal l)

def ofWrong : ZSet → Int
  | [] => 0
  | z :: r => if rowWrong z.row ≠ 0 then rowWrong z.row else if wOk z.w = false then 3 else ofWrong r

def zOf (l : ZSet) : ZSet × Int := if 1600 < l.length then ([], 5) else if ofWrong l ≠ 0 then ([], ofWrong l) else zSum l

def eachGo (f : Int → Int) : ZSet → ZSet
  | [] => []
  | z :: r => if f z.w ≠ 0 then ⟨rowBare z.row, f z.w⟩ :: eachGo f r else eachGo f r

def zEach (z : ZSet) (f : Int → Int) : ZSet × Int := if zWrong z ≠ 0 then ([], zWrong z) else (eachGo f z, 0)

def posW (w : Int) : Int := if 0 > w then 0 else w

def zPositive (z : ZSet) : ZSet × Int := zEach z posW

theorem eachGo_len (f : Int → Int) : ∀ z : ZSet, (eachGo f z).length ≤ z.length
  | [] => Nat.le_refl _
  | z :: r => by
    have := eachGo_len f r
    rw [eachGo]
    split
    · rw [List.length_cons, List.length_cons]; omega
    · rw [List.length_cons]; omega

theorem zWrong_len {z : ZSet} (h : zWrong z = 0) : z.length ≤ 400 := by
  unfold zWrong at h
  split at h
  · omega
  · omega

end Go.Tide

/- Stable sorts of one element type: what each function comes to. -/
set_option linter.unusedVariables false
set_option linter.unusedSimpArgs false
namespace Go.Tide

namespace Sort_api_ZRow

abbrev at0 (x : Sto) (d : List ZRow) : Sto := updS x 0 (some (.row ty_api_ZRow 2 (d.map encZ)))

section
variable {x : Sto} {K : List A → Sto → Prop} {cf : ZRow → ZRow → Int} {g : Nat} {caps : List A} {lt : ZRow → ZRow → Bool}

abbrev Cmp (x : Sto) (cf : ZRow → ZRow → Int) (g : Nat) (caps : List A) : Prop := ∀ (a b : ZRow) (d : List ZRow) (K : List A → Sto → Prop), K [aI (cf a b)] (at0 x d) → CC g (aZ a :: aZ b :: caps) (at0 x d) K

theorem insertion (sw : SW lt) (hlt : ∀ a b, lt a b = decide (cf a b < 0)) (hcap : ∀ f, A.renL f caps = caps) (hc : Cmp x cf g caps) (p s q : List ZRow) {n : Nat} (hn : n = (p ++ s ++ q).length) (hlen : (n : Int) ≤ maxI - 100)
    (h : ∀ r, Srt lt r → Stab lt s r → K [] (at0 x (p ++ r ++ q))) :
    CC n_slices_insertionSortCmpFunc__api_ZRow [.own (.U 0) 2 n, aI p.length, aI (p.length + s.length : Nat), .fn g caps] (at0 x (p ++ s ++ q)) K := by
  have hmax : maxI = 9223372036854775807 := rfl
  have hn' : n = p.length + s.length + q.length := by rw [hn]; simp; omega
  refine fnc g_slices_insertionSortCmpFunc__api_ZRow rfl ?_
  conv => whnf
  try simp only [hcap]
  rw [wrap_i64 (n := (p.length : Int) + 1) ⟨by omega, by omega⟩, show p ++ s ++ q = p ++ s.take 1 ++ s.drop 1 ++ q by rw [List.append_assoc p (s.take 1), List.take_append_drop]]
  refine loop (fun (t : Nat × List ZRow) => s_slices_insertionSortCmpFunc__api_ZRow_l0 (.own (.U 0) 2 n) (aI p.length) (aI (p.length + s.length : Nat)) (.fn g caps) (aI ((p.length : Int) + (t.1 : Int))) (at0 x (p ++ t.2 ++ s.drop t.1 ++ q)))
    (fun t => s.length + 1 - t.1) (fun t => 1 ≤ t.1 ∧ t.1 ≤ s.length + 1 ∧ t.2.length + (s.drop t.1).length = s.length ∧ Srt lt t.2 ∧ Stab lt (s.take t.1) t.2) ?_ (1, s.take 1) ?_
  · rintro ⟨k, r⟩ ⟨hk1, hk2, hkl', hr, hst⟩ ih
    dsimp only at hk1 hk2 hkl' hr hst ih ⊢
    conv => whnf
    try simp only [hcap]
    refine way_dec (fun g1 => ?_) (fun g1 => ?_)
    all_goals conv => whnf
    · have hkl : k < s.length := by omega
      obtain ⟨y, s', e1, e2, _⟩ : ∃ a r, s.drop k = a :: r ∧ s.drop (k + 1) = r ∧ k < s.length := ⟨s[k], s.drop (k + 1), List.drop_eq_getElem_cons hkl, rfl, hkl⟩
      rw [e1]
      try simp only [hcap]
      have hlr : k = r.length := by rw [List.length_drop] at hkl'; omega
      subst hlr
      have hs' : s'.length + r.length + 1 = s.length := by
        have := congrArg List.length e1
        rw [List.length_drop, List.length_cons] at this
        omega
      have hst2 : s.take (r.length + 1) = s.take r.length ++ [y] := by
        rw [List.take_add_one]
        congr 1
        have := List.getElem?_drop (xs := s) (i := r.length) (j := 0)
        rw [e1] at this
        simp at this
        rw [← this]
        rfl
      rw [show p ++ r ++ y :: s' ++ q = p ++ r ++ y :: ([] ++ s' ++ q) by simp]
      refine loop (fun (t : List ZRow × List ZRow) => s_slices_insertionSortCmpFunc__api_ZRow_l1 (.own (.U 0) 2 n) (aI p.length) (aI (p.length + s.length : Nat)) (.fn g caps) (aI ((p.length : Int) + (r.length : Int))) (aI ((p.length : Int) + (t.1.length : Int))) (at0 x (p ++ t.1 ++ y :: (t.2 ++ s' ++ q))))
        (fun t => t.1.length) (fun t => r = t.1 ++ t.2 ∧ ∀ z ∈ t.2, lt y z = true) ?_ (r, []) ⟨by simp, by simp⟩
      rintro ⟨r1, r2⟩ ⟨hr12, hy2⟩ ih2
      dsimp only at hr12 hy2 ih2 ⊢
      have done_ : (∀ z ∈ r1, lt y z = false) → Srt lt (r1 ++ y :: r2) ∧ Stab lt (s.take (r.length + 1)) (r1 ++ y :: r2) := by
        intro hz
        subst hr12
        refine ⟨hr.left.app (List.pairwise_cons.2 ⟨fun z h => sw.asym _ _ (hy2 z h), hr.right⟩) fun a ha b hb => ?_, ?_⟩
        · rcases List.mem_cons.1 hb with rfl | hb
          · exact hz a ha
          · exact hr.mid a ha b hb
        · rw [hst2]
          have s1 := hst.app (Stab.refl (lt := lt) [y])
          have s2 : Stab lt (r2 ++ [y]) ([y] ++ r2) := Stab.swap sw (fun a ha b hb => by rw [List.mem_singleton.1 hb]; exact hy2 a ha)
          have s3 := (Stab.refl (lt := lt) r1).app s2
          exact s1.trans (by simpa using s3)
      have fin_ : (∀ z ∈ r1, lt y z = false) → Loop (wpc CC i_slices_insertionSortCmpFunc__api_ZRow_l0) (blkQ 0 (fnQ i_slices_insertionSortCmpFunc__api_ZRow.res K)) (s_slices_insertionSortCmpFunc__api_ZRow_l0 (.own (.U 0) 2 n) (aI p.length) (aI (p.length + s.length : Nat)) (.fn g caps) (aI ((p.length : Int) + ((r.length + 1 : Nat) : Int))) (at0 x (p ++ (r1 ++ y :: r2) ++ s.drop (r.length + 1) ++ q))) := by
        intro hz
        obtain ⟨d1, d2⟩ := done_ hz
        refine ih (r.length + 1, r1 ++ y :: r2) ⟨by dsimp only; omega, by dsimp only; omega, ?_, d1, d2⟩ (by dsimp only; omega)
        simp only [List.length_append, List.length_cons, List.length_drop, hr12]
        rw [hr12] at hs' hkl
        simp at hs' hkl
        omega
      have eq_ : p ++ (r1 ++ y :: r2) ++ s.drop (r.length + 1) ++ q = p ++ r1 ++ y :: (r2 ++ s' ++ q) := by rw [e2]; simp
      rw [eq_] at fin_
      have hn2 : n = (p ++ r1 ++ y :: (r2 ++ s' ++ q)).length := by simp [hr12] at hs' ⊢; omega
      conv => whnf
      try simp only [hcap]
      refine way_dec (fun g2 => ?_) (fun g2 => ?_)
      all_goals conv => whnf
      · rcases List.eq_nil_or_concat r1 with rfl | ⟨u, z, rfl⟩
        · simp at g2
        · rw [List.concat_eq_append] at *
          have c1 : (p.length : Int) + ((u ++ [z]).length : Int) = ((p ++ (u ++ [z])).length : Int) := by simp
          have c2 : (p.length : Int) + ((u ++ [z]).length : Int) - 1 = ((p ++ u).length : Int) := by simp; omega
          have c3 : (p.length : Int) + ((u ++ [z]).length : Int) - 1 = (p.length : Int) + (u.length : Int) := by simp; omega
          have d2 : p ++ (u ++ [z]) ++ y :: (r2 ++ s' ++ q) = (p ++ u) ++ z :: y :: (r2 ++ s' ++ q) := by simp
          have hb : (p.length : Int) + ((u ++ [z]).length : Int) < n := by rw [hn2]; simp; omega
          have hw : IntKind.wrap .i64 ((p.length : Int) + ((u ++ [z]).length : Int) - 1) = (p.length : Int) + ((u ++ [z]).length : Int) - 1 := wrap_i64 ⟨by omega, by omega⟩
          have i1 : (0 : Int) ≤ (p.length : Int) + ((u ++ [z]).length : Int) := by omega
          have i2 : (0 : Int) ≤ (p.length : Int) + ((u ++ [z]).length : Int) - 1 := by omega
          have i3 : (p.length : Int) + ((u ++ [z]).length : Int) - 1 < n := by omega
          refine ⟨i1, hb, rfl, ?_⟩
          conv => whnf
          refine ⟨encZ y, len_map hn2, get_at encZ rfl c1, ?_⟩
          conv => whnf
          rw [hw]
          refine ⟨i2, i3, rfl, ?_⟩
          conv => whnf
          refine ⟨encZ z, len_map hn2, get_at encZ d2 c2, ?_⟩
          conv => whnf
          try simp only [hcap]
          refine ⟨_, hc y z _ _ ⟨rfl, rfl⟩, ?_⟩
          conv => whnf
          refine way_dec (fun g3 => ?_) (fun g3 => ?_)
          all_goals conv => whnf
          · have hyz : lt y z = true := by rw [hlt]; exact decide_eq_true g3
            rw [hw]
            refine ⟨i2, i3, rfl, ?_⟩
            conv => whnf
            refine ⟨encZ z, len_map hn2, get_at encZ d2 c2, ?_⟩
            conv => whnf
            refine ⟨i1, hb, rfl, ?_⟩
            conv => whnf
            refine ⟨encZ y, len_map hn2, get_at encZ rfl c1, ?_⟩
            conv => whnf
            refine ⟨i1, hb, rfl, ?_⟩
            conv => whnf
            refine ⟨encZ y, len_map hn2, get_at encZ rfl c1, Nat.le_refl _, ?_⟩
            conv => whnf
            refine ⟨i2, i3, rfl, ?_⟩
            conv => whnf
            refine ⟨encZ z, len_mset hn2, get_set encZ d2 c2 i1 (by omega), Nat.le_refl _, ?_⟩
            conv => whnf
            try simp only [hcap]
            rw [updS_updS, updS_updS, sw_int encZ d2 (by rw [c1]; simp; omega) c2, hw, c3]
            refine ih2 (u, z :: r2) ⟨by rw [hr12]; simp, ?_⟩ (by simp)
            intro w hw2
            rcases List.mem_cons.1 hw2 with rfl | hw2
            · exact hyz
            · exact hy2 w hw2
          · have hyz : lt y z = false := by rw [hlt]; exact decide_eq_false g3
            try simp only [hcap]
            rw [wrap_i64 (n := (p.length : Int) + (r.length : Int) + 1) ⟨by omega, by omega⟩, show (p.length : Int) + (r.length : Int) + 1 = (p.length : Int) + ((r.length + 1 : Nat) : Int) by omega]
            refine fin_ fun w hw2 => ?_
            rcases List.mem_append.1 hw2 with hw2 | hw2
            · refine sw.ntrans _ _ _ hyz ?_
              rw [hr12] at hr
              exact hr.left.mid w hw2 z (by simp)
            · rw [List.mem_singleton.1 hw2]; exact hyz
      · have : r1 = [] := List.eq_nil_of_length_eq_zero (by omega)
        subst this
        try simp only [hcap]
        rw [wrap_i64 (n := (p.length : Int) + (r.length : Int) + 1) ⟨by omega, by omega⟩, show (p.length : Int) + (r.length : Int) + 1 = (p.length : Int) + ((r.length + 1 : Nat) : Int) by omega]
        exact fin_ (by simp)
    · have hd : s.drop k = [] := List.drop_eq_nil_of_le (by omega)
      have ht : s.take k = s := List.take_of_length_le (by omega)
      rw [ht] at hst
      have := h r hr hst
      rw [hd, List.append_nil]
      exact this
  · refine ⟨Nat.le_refl _, by dsimp only; omega, by simp; omega, ?_, Stab.refl _⟩
    dsimp only
    cases s with
    | nil => exact Srt.nil
    | cons a t => exact Srt.one a

theorem swapRange (hcap : ∀ f, A.renL f caps = caps) (P U M V Q : List ZRow) (hUV : U.length = V.length) {N : Nat} (hN : N = (P ++ U ++ M ++ V ++ Q).length) (hlen : (N : Int) ≤ maxI - 100) {a b n : Int} (ha : a = P.length) (hb : b = (P.length : Int) + U.length + M.length) (hn : n = U.length)
    (h : K [] (at0 x (P ++ V ++ M ++ U ++ Q))) :
    CC n_slices_swapRangeCmpFunc__api_ZRow [.own (.U 0) 2 N, aI a, aI b, aI n, .fn g caps] (at0 x (P ++ U ++ M ++ V ++ Q)) K := by
  have hmax : maxI = 9223372036854775807 := rfl
  have hN' : N = P.length + U.length + M.length + V.length + Q.length := by rw [hN]; simp; omega
  subst ha; subst hb; subst hn
  refine fnc g_slices_swapRangeCmpFunc__api_ZRow rfl ?_
  conv => whnf
  try simp only [hcap]
  rw [show P ++ U ++ M ++ V ++ Q = P ++ (V.take 0 ++ U.drop 0) ++ M ++ (U.take 0 ++ V.drop 0) ++ Q by simp]
  refine loop (fun (i : Nat) => s_slices_swapRangeCmpFunc__api_ZRow_l0 (.own (.U 0) 2 N) (aI P.length) (aI ((P.length : Int) + U.length + M.length)) (aI U.length) (aI (i : Int)) (at0 x (P ++ (V.take i ++ U.drop i) ++ M ++ (U.take i ++ V.drop i) ++ Q)))
    (fun i => U.length - i) (fun i => i ≤ U.length) ?_ 0 (Nat.zero_le _)
  intro i hi ih
  conv => whnf
  refine way_dec (fun g1 => ?_) (fun g1 => ?_)
  all_goals conv => whnf
  · have hu : i < U.length := by omega
    have hv : i < V.length := by omega
    have eu := List.drop_eq_getElem_cons hu
    have ev := List.drop_eq_getElem_cons hv
    have tu : U.take (i + 1) = U.take i ++ [U[i]] := by rw [List.take_add_one, List.getElem?_eq_getElem hu]; rfl
    have tv : V.take (i + 1) = V.take i ++ [V[i]] := by rw [List.take_add_one, List.getElem?_eq_getElem hv]; rfl
    generalize U[i] = xu at eu tu
    generalize V[i] = xv at ev tv
    have d1 : P ++ (V.take i ++ U.drop i) ++ M ++ (U.take i ++ V.drop i) ++ Q = (P ++ V.take i) ++ xu :: (U.drop (i + 1) ++ M ++ U.take i) ++ xv :: (V.drop (i + 1) ++ Q) := by rw [eu, ev]; simp
    have d2 : P ++ (V.take i ++ U.drop i) ++ M ++ (U.take i ++ V.drop i) ++ Q = (P ++ V.take i ++ xu :: (U.drop (i + 1) ++ M ++ U.take i)) ++ xv :: (V.drop (i + 1) ++ Q) := by rw [d1]
    have d3 : P ++ (V.take i ++ U.drop i) ++ M ++ (U.take i ++ V.drop i) ++ Q = (P ++ V.take i) ++ xu :: (U.drop (i + 1) ++ M ++ U.take i ++ xv :: (V.drop (i + 1) ++ Q)) := by rw [d1]; simp
    have lt1 : (V.take i).length = i := by simp; omega
    have lt2 : (U.take i).length = i := by simp; omega
    have c1 : (P.length : Int) + i = ((P ++ V.take i).length : Int) := by rw [List.length_append, lt1]; omega
    have c2 : (P.length : Int) + U.length + M.length + i = ((P ++ V.take i ++ xu :: (U.drop (i + 1) ++ M ++ U.take i)).length : Int) := by
      simp only [List.length_append, List.length_cons, lt1, lt2, List.length_drop]; omega
    have w1 : IntKind.wrap .i64 ((P.length : Int) + i) = (P.length : Int) + i := wrap_i64 ⟨by omega, by omega⟩
    have w2 : IntKind.wrap .i64 ((P.length : Int) + U.length + M.length + i) = (P.length : Int) + U.length + M.length + i := wrap_i64 ⟨by omega, by omega⟩
    have i1 : (0 : Int) ≤ (P.length : Int) + i := by omega
    have i2 : (0 : Int) ≤ (P.length : Int) + U.length + M.length + i := by omega
    have b1 : (P.length : Int) + i < N := by omega
    have b2 : (P.length : Int) + U.length + M.length + i < N := by omega
    have hN2 : N = (P ++ (V.take i ++ U.drop i) ++ M ++ (U.take i ++ V.drop i) ++ Q).length := by
      simp only [List.length_append, List.length_take, List.length_drop]; omega
    rw [w2]
    refine ⟨i2, b2, rfl, ?_⟩
    conv => whnf
    refine ⟨encZ xv, len_map hN2, get_at encZ d2 c2, ?_⟩
    conv => whnf
    rw [w1]
    refine ⟨i1, b1, rfl, ?_⟩
    conv => whnf
    refine ⟨encZ xu, len_map hN2, get_at encZ d3 c1, ?_⟩
    conv => whnf
    refine ⟨i1, b1, rfl, ?_⟩
    conv => whnf
    refine ⟨encZ xu, len_map hN2, get_at encZ d3 c1, Nat.le_refl _, ?_⟩
    conv => whnf
    refine ⟨i2, b2, rfl, ?_⟩
    conv => whnf
    refine ⟨encZ xv, len_mset hN2, get_set encZ d2 c2 i1 (by omega), Nat.le_refl _, ?_⟩
    conv => whnf
    rw [updS_updS, updS_updS, sw_far encZ d1 c1 (by rw [c2]; simp only [List.length_append, List.length_cons]; omega), wrap_i64 (n := (i : Int) + 1) ⟨by omega, by omega⟩]
    have := ih (i + 1) (by omega) (by omega)
    rw [tu, tv, show P ++ (V.take i ++ [xv] ++ U.drop (i + 1)) ++ M ++ (U.take i ++ [xu] ++ V.drop (i + 1)) ++ Q = P ++ V.take i ++ xv :: (U.drop (i + 1) ++ M ++ U.take i) ++ xu :: (V.drop (i + 1) ++ Q) by simp] at this
    exact this
  · have hi' : i = U.length := by omega
    subst hi'
    rw [List.take_length, List.drop_length, hUV, List.take_length, List.drop_length, List.append_nil, List.append_nil]
    exact h

theorem rotate (hcap : ∀ f, A.renL f caps = caps) (P U V Q : List ZRow) (hU : U ≠ []) (hV : V ≠ []) {N : Nat} (hN : N = (P ++ U ++ V ++ Q).length) (hlen : (N : Int) ≤ maxI - 100) {a m b : Int} (ha : a = P.length) (hm : m = (P.length : Int) + U.length) (hb : b = (P.length : Int) + U.length + V.length)
    (h : K [] (at0 x (P ++ V ++ U ++ Q))) :
    CC n_slices_rotateCmpFunc__api_ZRow [.own (.U 0) 2 N, aI a, aI m, aI b, .fn g caps] (at0 x (P ++ U ++ V ++ Q)) K := by
  have hmax : maxI = 9223372036854775807 := rfl
  have hN' : N = P.length + U.length + V.length + Q.length := by rw [hN]; simp; omega
  have hU0 : 0 < U.length := List.length_pos_iff.2 hU
  have hV0 : 0 < V.length := List.length_pos_iff.2 hV
  subst ha; subst hb
  refine fnc g_slices_rotateCmpFunc__api_ZRow rfl ?_
  conv => whnf
  try simp only [hcap]
  rw [wrap_i64 (n := m - (P.length : Int)) ⟨by omega, by omega⟩, wrap_i64 (n := (P.length : Int) + U.length + V.length - m) ⟨by omega, by omega⟩, show m - (P.length : Int) = U.length by omega, show (P.length : Int) + U.length + V.length - m = V.length by omega]
  refine loop (fun (t : List ZRow × List ZRow × List ZRow × List ZRow) => s_slices_rotateCmpFunc__api_ZRow_l0 (.own (.U 0) 2 N) (aI m) (.fn g caps) (aI t.2.1.length) (aI t.2.2.1.length) (at0 x (t.1 ++ t.2.1 ++ t.2.2.1 ++ t.2.2.2)))
    (fun t => t.2.1.length + t.2.2.1.length) (fun t => 0 < t.2.1.length ∧ 0 < t.2.2.1.length ∧ (t.1.length : Int) + t.2.1.length = m ∧ N = t.1.length + t.2.1.length + t.2.2.1.length + t.2.2.2.length ∧ t.1 ++ t.2.2.1 ++ t.2.1 ++ t.2.2.2 = P ++ V ++ U ++ Q) ?_ (P, U, V, Q) ⟨hU0, hV0, by dsimp only; omega, hN', rfl⟩
  rintro ⟨p, u, v, q⟩ ⟨hu, hv, hpm, hn, ht⟩ ih
  dsimp only at hu hv hpm hn ht ih ⊢
  conv => whnf
  refine way_ne (fun g1 => ?_) (fun g1 => ?_)
  all_goals conv => whnf
  · refine way_dec (fun g2 => ?_) (fun g2 => ?_)
    all_goals conv => whnf
    · have eu : u = u.take v.length ++ u.drop v.length := (List.take_append_drop _ _).symm
      have l1 : (u.take v.length).length = v.length := by rw [List.length_take]; omega
      have l2 : (u.drop v.length).length = u.length - v.length := by rw [List.length_drop]
      generalize u.take v.length = u1 at eu l1
      generalize u.drop v.length = u2 at eu l2
      subst eu
      rw [List.length_append] at *
      rw [wrap_i64 (n := m - ((u1.length + u2.length : Nat) : Int)) ⟨by omega, by omega⟩]
      try simp only [hcap]
      rw [show p ++ (u1 ++ u2) ++ v ++ q = p ++ u1 ++ u2 ++ v ++ q by simp]
      refine swapRange hcap p u1 u2 v q l1 (by simp; omega) hlen (by omega) (by omega) (by omega) ?_
      refine ⟨fun h => (by cases h), ?_⟩
      conv => whnf
      try simp only [hcap]
      rw [wrap_i64 (n := ((u1.length + u2.length : Nat) : Int) - (v.length : Int)) ⟨by omega, by omega⟩]
      have := ih (p ++ v, u2, u1, q) ⟨by dsimp only; omega, by dsimp only; omega, by dsimp only; rw [List.length_append]; omega, by dsimp only; rw [List.length_append]; omega, by rw [← ht]; simp⟩ (by dsimp only; omega)
      dsimp only at this
      rw [l1] at this
      rw [show ((u1.length + u2.length : Nat) : Int) - (v.length : Int) = (u2.length : Int) by omega]
      exact this
    · have g3 : u.length < v.length := by omega
      have ev : v = v.take (v.length - u.length) ++ v.drop (v.length - u.length) := (List.take_append_drop _ _).symm
      have l1 : (v.take (v.length - u.length)).length = v.length - u.length := by rw [List.length_take]; omega
      have l2 : (v.drop (v.length - u.length)).length = u.length := by rw [List.length_drop]; omega
      generalize v.take (v.length - u.length) = v1 at ev l1
      generalize v.drop (v.length - u.length) = v2 at ev l2
      subst ev
      rw [List.length_append] at *
      rw [wrap_i64 (n := m - (u.length : Int)) ⟨by omega, by omega⟩, wrap_i64 (n := m + ((v1.length + v2.length : Nat) : Int)) ⟨by omega, by omega⟩, wrap_i64 (n := m + ((v1.length + v2.length : Nat) : Int) - (u.length : Int)) ⟨by omega, by omega⟩]
      try simp only [hcap]
      rw [show p ++ u ++ (v1 ++ v2) ++ q = p ++ u ++ v1 ++ v2 ++ q by simp]
      refine swapRange hcap p u v1 v2 q l2.symm (by simp; omega) hlen (by omega) (by omega) (by omega) ?_
      refine ⟨fun h => (by cases h), ?_⟩
      conv => whnf
      try simp only [hcap]
      rw [wrap_i64 (n := ((v1.length + v2.length : Nat) : Int) - (u.length : Int)) ⟨by omega, by omega⟩]
      have := ih (p, v2, v1, u ++ q) ⟨by dsimp only; omega, by dsimp only; omega, by dsimp only; omega, by dsimp only; rw [List.length_append]; omega, by rw [← ht]; simp⟩ (by dsimp only; omega)
      dsimp only at this
      rw [l2, show p ++ v2 ++ v1 ++ (u ++ q) = p ++ v2 ++ v1 ++ u ++ q by simp] at this
      rw [show ((v1.length + v2.length : Nat) : Int) - (u.length : Int) = (v1.length : Int) by omega]
      exact this
  · rw [wrap_i64 (n := m - (u.length : Int)) ⟨by omega, by omega⟩]
    try simp only [hcap]
    rw [show p ++ u ++ v ++ q = p ++ u ++ [] ++ v ++ q by simp]
    refine swapRange hcap p u [] v q (by omega) (by simp; omega) hlen (by omega) (by simp; omega) (by omega) ?_
    refine ⟨fun h => (by cases h), ?_⟩
    conv => whnf
    rw [show p ++ v ++ [] ++ u ++ q = P ++ V ++ U ++ Q by rw [← ht]; simp]
    exact h

theorem symMerge (sw : SW lt) (hlt : ∀ a b, lt a b = decide (cf a b < 0)) (hcap : ∀ f, A.renL f caps = caps) (hc : Cmp x cf g caps) {N : Nat} (hlen : (N : Int) ≤ maxI / 4) : ∀ (k : Nat) (p u v q : List ZRow) {K : List A → Sto → Prop}, u.length + v.length ≤ k → u ≠ [] → v ≠ [] → Srt lt u → Srt lt v → N = (p ++ u ++ v ++ q).length →
    ∀ {a m b : Int}, a = p.length → m = (p.length : Int) + u.length → b = (p.length : Int) + u.length + v.length →
    (∀ r, Srt lt r → Stab lt (u ++ v) r → K [] (at0 x (p ++ r ++ q))) →
    CC n_slices_symMergeCmpFunc__api_ZRow [.own (.U 0) 2 N, aI a, aI m, aI b, .fn g caps] (at0 x (p ++ u ++ v ++ q)) K := by
  intro k
  induction k with
  | zero =>
    intro p u v q K hk hu hv
    exact absurd (List.length_pos_iff.2 hu) (by omega)
  | succ k ih =>
    intro p u v q K hk hu hv hsu hsv hN a m b ha hm hb h
    have hmax : maxI / 4 = 2305843009213693951 := rfl
    have hN' : N = p.length + u.length + v.length + q.length := by rw [hN]; simp; omega
    have hu0 : 0 < u.length := List.length_pos_iff.2 hu
    have hv0 : 0 < v.length := List.length_pos_iff.2 hv
    refine fnc g_slices_symMergeCmpFunc__api_ZRow rfl ?_
    conv => whnf
    try simp only [hcap]
    rw [wrap_i64 (n := m - a) ⟨by omega, by omega⟩]
    refine way_eq (fun g1 => ?_) (fun g1 => ?_)
    all_goals conv => whnf
    · obtain ⟨x0, rfl⟩ : ∃ x0, u = [x0] := by
        match u, (by omega : u.length = 1) with
        | [x0], _ => exact ⟨x0, rfl⟩
      try simp only [hcap]
      have hx0 : p ++ [x0] ++ v ++ q = p ++ x0 :: (v ++ q) := by simp
      have hNl := len_map (f := encZ) hN
      rw [show (A.int .i64 m) = aI ((p.length : Int) + 1 + ((0 : Nat) : Int)) by rw [hm]; simp, show (A.int .i64 b) = aI ((p.length : Int) + 1 + (v.length : Int)) by rw [hb]; simp]
      refine loop (fun (t : Nat × Nat) => s_slices_symMergeCmpFunc__api_ZRow_l0 (.own (.U 0) 2 N) (aI a) (.fn g caps) (aI ((p.length : Int) + 1 + (t.1 : Int))) (aI ((p.length : Int) + 1 + (t.2 : Int))) (at0 x (p ++ [x0] ++ v ++ q)))
        (fun t => t.2 - t.1) (fun t => t.1 ≤ t.2 ∧ t.2 ≤ v.length ∧ (∀ i y, i < t.1 → v[i]? = some y → lt y x0 = true) ∧ (∀ i y, t.2 ≤ i → v[i]? = some y → lt y x0 = false)) ?_ (0, v.length) ⟨Nat.zero_le _, Nat.le_refl _, fun i y hi => by omega, fun i y hi hy => by
          have := (List.getElem?_eq_some_iff.1 hy).1
          dsimp only at hi
          omega⟩
      rintro ⟨i, j⟩ ⟨hij, hj, hlo, hhi⟩ ih2
      dsimp only at hij hj hlo hhi ih2 ⊢
      conv => whnf
      refine way_dec (fun g3 => ?_) (fun g3 => ?_)
      all_goals conv => whnf
      · try simp only [hcap]
        rw [wrap_i64 (n := (p.length : Int) + 1 + (i : Int) + ((p.length : Int) + 1 + (j : Int))) ⟨by omega, by omega⟩, half (by omega) (by omega), show ((p.length : Int) + 1 + (i : Int) + ((p.length : Int) + 1 + (j : Int))) / 2 = (p.length : Int) + 1 + (((i + j) / 2 : Nat) : Int) by omega]
        have hc2 : (i + j) / 2 < v.length := by omega
        obtain ⟨y, hy⟩ := ex_get hc2
        generalize hcd : (i + j) / 2 = c at hc2 hy ⊢
        refine ⟨by omega, by omega, by trivial, ?_⟩
        conv => whnf
        refine ⟨encZ y, hNl, get_v encZ hy (by simp), ?_⟩
        conv => whnf
        refine ⟨by omega, by omega, rfl, ?_⟩
        conv => whnf
        refine ⟨encZ x0, hNl, get_at encZ hx0 ha, ?_⟩
        conv => whnf
        try simp only [hcap]
        refine ⟨_, hc y x0 _ _ ⟨rfl, rfl⟩, ?_⟩
        conv => whnf
        refine way_dec (fun g4 => ?_) (fun g4 => ?_)
        all_goals conv => whnf
        · have hl : lt y x0 = true := by rw [hlt]; exact decide_eq_true g4
          try simp only [hcap]
          rw [wrap_i64 (n := (p.length : Int) + 1 + (c : Int) + 1) ⟨by omega, by omega⟩, show (p.length : Int) + 1 + (c : Int) + 1 = (p.length : Int) + 1 + ((c + 1 : Nat) : Int) by omega]
          exact ih2 (c + 1, j) ⟨by dsimp only; omega, hj, fun i2 y2 hi2 hy2 => sw.lelt (hsv.get sw (by omega) hy2 hy) hl, hhi⟩ (by dsimp only; omega)
        · have hl : lt y x0 = false := by rw [hlt]; exact decide_eq_false g4
          try simp only [hcap]
          exact ih2 (i, c) ⟨by dsimp only; omega, by dsimp only; omega, hlo, fun i2 y2 hi2 hy2 => sw.ntrans _ _ _ (hsv.get sw hi2 hy hy2) hl⟩ (by dsimp only; omega)
      · have hij2 : i = j := by omega
        subst hij2
        have hv12 : v = v.take i ++ v.drop i := (List.take_append_drop i v).symm
        have m1 : ∀ y ∈ v.take i, lt y x0 = true := fun y hy => by
          obtain ⟨t, h1, h2⟩ := mem_take hy
          exact hlo t y h1 h2
        have m2 : ∀ y ∈ v.drop i, lt y x0 = false := fun y hy => by
          obtain ⟨t, h1, h2⟩ := mem_dropi hy
          exact hhi t y h1 h2
        have lv : (v.take i).length = i := by rw [List.length_take]; omega
        rw [hv12] at hsv
        generalize hv1 : v.take i = v1 at *
        generalize hv2 : v.drop i = v2 at *
        subst hv12
        have fin_ := h (v1 ++ x0 :: v2) (hsv.left.app (List.pairwise_cons.2 ⟨m2, hsv.right⟩) fun y hy z hz => by
            rcases List.mem_cons.1 hz with rfl | hz
            · exact sw.asym _ _ (m1 y hy)
            · exact hsv.mid y hy z hz)
          (by
            have s1 : Stab lt ([x0] ++ v1) (v1 ++ [x0]) := Stab.swap sw (fun a ha b hb => by rw [List.mem_singleton.1 ha]; exact m1 b hb)
            have := s1.app (Stab.refl (lt := lt) v2)
            simpa using this)
        rw [ha, show p ++ [x0] ++ (v1 ++ v2) ++ q = p ++ [] ++ x0 :: (v1 ++ v2 ++ q) by simp, show (A.int .i64 (p.length : Int)) = aI ((p.length : Int) + (([] : List ZRow).length : Int)) by simp]
        refine loop (fun (t : List ZRow × List ZRow) => s_slices_symMergeCmpFunc__api_ZRow_l1 (.own (.U 0) 2 N) (aI ((p.length : Int) + 1 + (i : Int))) (aI ((p.length : Int) + (t.1.length : Int))) (at0 x (p ++ t.1 ++ x0 :: (t.2 ++ v2 ++ q))))
          (fun t => t.2.length) (fun t => t.1 ++ t.2 = v1) ?_ ([], v1) rfl
        rintro ⟨s, r⟩ hsr ih3
        dsimp only at hsr ih3 ⊢
        conv => whnf
        rw [wrap_i64 (n := (p.length : Int) + 1 + (i : Int) - 1) ⟨by omega, by omega⟩]
        have hsrl : s.length + r.length = i := by rw [← lv, ← hsr]; simp
        refine way_dec (fun g5 => ?_) (fun g5 => ?_)
        all_goals conv => whnf
        · cases r with
          | nil => simp at hsrl; omega
          | cons y r =>
            rw [List.length_cons] at hsrl
            have d2 : p ++ s ++ x0 :: (y :: r ++ v2 ++ q) = (p ++ s ++ [x0]) ++ y :: (r ++ v2 ++ q) := by simp
            have d3 : p ++ s ++ x0 :: (y :: r ++ v2 ++ q) = (p ++ s) ++ x0 :: [] ++ y :: (r ++ v2 ++ q) := by simp
            have c1 : (p.length : Int) + (s.length : Int) = ((p ++ s).length : Int) := by simp
            have c2 : (p.length : Int) + (s.length : Int) + 1 = ((p ++ s ++ [x0]).length : Int) := by simp; omega
            have hN3 : N = (p ++ s ++ x0 :: (y :: r ++ v2 ++ q)).length := by simp at hN' ⊢; omega
            rw [List.length_append] at hN'
            rw [wrap_i64 (n := (p.length : Int) + (s.length : Int) + 1) ⟨by omega, by omega⟩]
            simp only [List.length_append, List.length_cons, List.length_nil] at hN'
            refine ⟨by omega, by omega, rfl, ?_⟩
            conv => whnf
            refine ⟨encZ y, len_map hN3, get_at encZ d2 c2, ?_⟩
            conv => whnf
            refine ⟨by omega, by omega, rfl, ?_⟩
            conv => whnf
            refine ⟨encZ x0, len_map hN3, get_at encZ rfl c1, ?_⟩
            conv => whnf
            refine ⟨by omega, by omega, rfl, ?_⟩
            conv => whnf
            refine ⟨encZ x0, len_map hN3, get_at encZ rfl c1, Nat.le_refl _, ?_⟩
            conv => whnf
            refine ⟨by omega, by omega, rfl, ?_⟩
            conv => whnf
            refine ⟨encZ y, len_mset hN3, get_set encZ d2 c2 (by omega) (by omega), Nat.le_refl _, ?_⟩
            conv => whnf
            rw [updS_updS, updS_updS, sw_far encZ d3 c1 (by simp), wrap_i64 (n := (p.length : Int) + (s.length : Int) + 1) ⟨by omega, by omega⟩]
            have := ih3 (s ++ [y], r) (by rw [← hsr]; simp) (by simp)
            dsimp only at this
            rw [show p ++ (s ++ [y]) ++ x0 :: (r ++ v2 ++ q) = p ++ s ++ y :: [] ++ x0 :: (r ++ v2 ++ q) by simp, show (p.length : Int) + ((s ++ [y]).length : Int) = (p.length : Int) + (s.length : Int) + 1 by simp; omega] at this
            exact this
        · have hr0 : r = [] := List.eq_nil_of_length_eq_zero (by omega)
          subst hr0
          rw [List.append_nil] at hsr
          subst hsr
          rw [show p ++ s ++ x0 :: ([] ++ v2 ++ q) = p ++ (s ++ x0 :: v2) ++ q by simp]
          exact fin_
    · rw [wrap_i64 (n := b - m) ⟨by omega, by omega⟩]
      refine way_eq (fun g2 => ?_) (fun g2 => ?_)
      all_goals conv => whnf
      · obtain ⟨y0, rfl⟩ : ∃ y0, v = [y0] := by
          match v, (by omega : v.length = 1) with
          | [y0], _ => exact ⟨y0, rfl⟩
        try simp only [hcap]
        have hy0 : p ++ u ++ [y0] ++ q = (p ++ u) ++ y0 :: q := by simp
        have hNl := len_map (f := encZ) hN
        have hmu : m = ((p ++ u).length : Int) := by rw [hm]; simp
        rw [show (A.int .i64 a) = aI ((p.length : Int) + ((0 : Nat) : Int)) by rw [ha]; simp, show (A.int .i64 m) = aI ((p.length : Int) + (u.length : Int)) by rw [hm]]
        refine loop (fun (t : Nat × Nat) => s_slices_symMergeCmpFunc__api_ZRow_l2 (.own (.U 0) 2 N) (aI ((p.length : Int) + (u.length : Int))) (.fn g caps) (aI ((p.length : Int) + (t.1 : Int))) (aI ((p.length : Int) + (t.2 : Int))) (at0 x (p ++ u ++ [y0] ++ q)))
          (fun t => t.2 - t.1) (fun t => t.1 ≤ t.2 ∧ t.2 ≤ u.length ∧ (∀ i y, i < t.1 → u[i]? = some y → lt y0 y = false) ∧ (∀ i y, t.2 ≤ i → u[i]? = some y → lt y0 y = true)) ?_ (0, u.length) ⟨Nat.zero_le _, Nat.le_refl _, fun i y hi => by omega, fun i y hi hy => by
            have := (List.getElem?_eq_some_iff.1 hy).1
            dsimp only at hi
            omega⟩
        rintro ⟨i, j⟩ ⟨hij, hj, hlo, hhi⟩ ih2
        dsimp only at hij hj hlo hhi ih2 ⊢
        conv => whnf
        refine way_dec (fun g3 => ?_) (fun g3 => ?_)
        all_goals conv => whnf
        · try simp only [hcap]
          rw [wrap_i64 (n := (p.length : Int) + (i : Int) + ((p.length : Int) + (j : Int))) ⟨by omega, by omega⟩, half (by omega) (by omega), show ((p.length : Int) + (i : Int) + ((p.length : Int) + (j : Int))) / 2 = (p.length : Int) + (((i + j) / 2 : Nat) : Int) by omega]
          have hc2 : (i + j) / 2 < u.length := by omega
          obtain ⟨y, hy⟩ := ex_get hc2
          generalize hcd : (i + j) / 2 = c at hc2 hy ⊢
          refine ⟨by omega, by omega, by trivial, ?_⟩
          conv => whnf
          refine ⟨encZ y0, hNl, get_at encZ hy0 (by simp), ?_⟩
          conv => whnf
          refine ⟨by omega, by omega, by trivial, ?_⟩
          conv => whnf
          refine ⟨encZ y, hNl, get_u encZ hy rfl, ?_⟩
          conv => whnf
          try simp only [hcap]
          refine ⟨_, hc y0 y _ _ ⟨rfl, rfl⟩, ?_⟩
          conv => whnf
          refine way_not ?_
          refine way_dec (fun g4 => ?_) (fun g4 => ?_)
          all_goals conv => whnf
          · have hl : lt y0 y = true := by rw [hlt]; exact decide_eq_true g4
            try simp only [hcap]
            exact ih2 (i, c) ⟨by dsimp only; omega, by dsimp only; omega, hlo, fun i2 y2 hi2 hy2 => sw.ltle hl (hsu.get sw hi2 hy hy2)⟩ (by dsimp only; omega)
          · have hl : lt y0 y = false := by rw [hlt]; exact decide_eq_false g4
            try simp only [hcap]
            rw [wrap_i64 (n := (p.length : Int) + (c : Int) + 1) ⟨by omega, by omega⟩, show (p.length : Int) + (c : Int) + 1 = (p.length : Int) + ((c + 1 : Nat) : Int) by omega]
            exact ih2 (c + 1, j) ⟨by dsimp only; omega, hj, fun i2 y2 hi2 hy2 => sw.ntrans _ _ _ hl (hsu.get sw (by omega) hy2 hy), hhi⟩ (by dsimp only; omega)
        · have hij2 : i = j := by omega
          subst hij2
          have hu12 : u = u.take i ++ u.drop i := (List.take_append_drop i u).symm
          have m1 : ∀ y ∈ u.take i, lt y0 y = false := fun y hy => by
            obtain ⟨t, h1, h2⟩ := mem_take hy
            exact hlo t y h1 h2
          have m2 : ∀ y ∈ u.drop i, lt y0 y = true := fun y hy => by
            obtain ⟨t, h1, h2⟩ := mem_dropi hy
            exact hhi t y h1 h2
          have lu : (u.take i).length = i := by rw [List.length_take]; omega
          rw [hu12] at hsu
          generalize hu1 : u.take i = u1 at *
          generalize hu2 : u.drop i = u2 at *
          subst hu12
          have fin_ := h (u1 ++ y0 :: u2) (hsu.left.app (List.pairwise_cons.2 ⟨fun y hy => sw.asym _ _ (m2 y hy), hsu.right⟩) fun y hy z hz => by
              rcases List.mem_cons.1 hz with rfl | hz
              · exact m1 y hy
              · exact hsu.mid y hy z hz)
            (by
              have s1 : Stab lt (u2 ++ [y0]) ([y0] ++ u2) := Stab.swap sw (fun a ha b hb => by rw [List.mem_singleton.1 hb]; exact m2 a ha)
              have := (Stab.refl (lt := lt) u1).app s1
              simpa using this)
          rw [List.length_append] at hN' hj
          simp only [List.length_append, List.length_cons, List.length_nil] at hN'
          rw [show p ++ (u1 ++ u2) ++ [y0] ++ q = p ++ u1 ++ u2 ++ y0 :: ([] ++ q) by simp, show (p.length : Int) + ((u1 ++ u2).length : Int) = (p.length : Int) + (u1.length : Int) + (u2.length : Int) by simp; omega]
          refine loop (fun (t : List ZRow × List ZRow) => s_slices_symMergeCmpFunc__api_ZRow_l3 (.own (.U 0) 2 N) (aI ((p.length : Int) + (i : Int))) (aI ((p.length : Int) + (u1.length : Int) + (t.1.length : Int))) (at0 x (p ++ u1 ++ t.1 ++ y0 :: (t.2 ++ q))))
            (fun t => t.1.length) (fun t => t.1 ++ t.2 = u2) ?_ (u2, []) (by simp)
          rintro ⟨s, r⟩ hsr ih3
          dsimp only at hsr ih3 ⊢
          have hsrl : s.length + r.length = u2.length := by rw [← hsr]; simp
          conv => whnf
          refine way_dec (fun g5 => ?_) (fun g5 => ?_)
          all_goals conv => whnf
          · rcases List.eq_nil_or_concat s with rfl | ⟨s, z, rfl⟩
            · simp at g5; omega
            · rw [List.concat_eq_append] at *
              have hsz : ((s ++ [z]).length : Int) = (s.length : Int) + 1 := by simp
              have d2 : p ++ u1 ++ (s ++ [z]) ++ y0 :: (r ++ q) = (p ++ u1 ++ s) ++ z :: y0 :: (r ++ q) := by simp
              have c1 : (p.length : Int) + (u1.length : Int) + ((s ++ [z]).length : Int) = ((p ++ u1 ++ (s ++ [z])).length : Int) := by simp; omega
              have c2 : (p.length : Int) + (u1.length : Int) + ((s ++ [z]).length : Int) - 1 = ((p ++ u1 ++ s).length : Int) := by simp; omega
              have hN3 : N = (p ++ u1 ++ (s ++ [z]) ++ y0 :: (r ++ q)).length := by simp at hsrl ⊢; omega
              have b1 : (p.length : Int) + (u1.length : Int) + ((s ++ [z]).length : Int) < N := by rw [hsz]; simp at hsrl; omega
              have hw : IntKind.wrap .i64 ((p.length : Int) + (u1.length : Int) + ((s ++ [z]).length : Int) - 1) = (p.length : Int) + (u1.length : Int) + ((s ++ [z]).length : Int) - 1 := wrap_i64 ⟨by omega, by omega⟩
              rw [hw]
              refine ⟨by omega, by omega, by trivial, ?_⟩
              conv => whnf
              refine ⟨encZ z, len_map hN3, get_at encZ d2 c2, ?_⟩
              conv => whnf
              refine ⟨by omega, by omega, by trivial, ?_⟩
              conv => whnf
              refine ⟨encZ y0, len_map hN3, get_at encZ rfl c1, ?_⟩
              conv => whnf
              refine ⟨by omega, by omega, by trivial, ?_⟩
              conv => whnf
              refine ⟨encZ y0, len_map hN3, get_at encZ rfl c1, Nat.le_refl _, ?_⟩
              conv => whnf
              refine ⟨by omega, by omega, by trivial, ?_⟩
              conv => whnf
              refine ⟨encZ z, len_mset hN3, get_set encZ d2 c2 (by omega) (by omega), Nat.le_refl _, ?_⟩
              conv => whnf
              rw [updS_updS, updS_updS, sw_int encZ d2 (by rw [c1]; simp; omega) c2, hw, show (p.length : Int) + (u1.length : Int) + ((s ++ [z]).length : Int) - 1 = (p.length : Int) + (u1.length : Int) + (s.length : Int) by omega]
              exact ih3 (s, z :: r) (by rw [← hsr]; simp) (by simp)
          · have hs0 : s = [] := List.eq_nil_of_length_eq_zero (by omega)
            subst hs0
            rw [List.nil_append] at hsr
            subst hsr
            rw [show p ++ u1 ++ [] ++ y0 :: (r ++ q) = p ++ (u1 ++ y0 :: r) ++ q by simp]
            exact fin_
      · rw [wrap_i64 (n := a + b) ⟨by omega, by omega⟩, half (by omega) (by omega)]
        have hmid : ∃ mid : Int, mid = (a + b) / 2 := ⟨_, rfl⟩
        obtain ⟨mid, hmid⟩ := hmid
        rw [← hmid, wrap_i64 (n := mid + m) ⟨by omega, by omega⟩]
        have hNl := len_map (f := encZ) hN
        -- the search, from either start
        have key : ∀ (lo hi : Int), a ≤ lo → lo ≤ hi → hi ≤ m → hi ≤ mid → mid + m - b ≤ lo → (lo = a ∨ lo = mid + m - b) → (hi = m ∨ hi = mid) → ∀ (Q : Ex → St → Prop),
            (∀ (u1 u2 v1 v2 : List ZRow) (s : Int), u = u1 ++ u2 → v = v1 ++ v2 → s = (p.length : Int) + u1.length → (u1.length : Int) + v1.length = mid - a → (∀ x ∈ u2, ∀ y ∈ v1, lt y x = true) → (∀ x ∈ u1, ∀ y ∈ v2, lt y x = false) →
              Q (.exit 8) (s_slices_symMergeCmpFunc__api_ZRow_x8 (.own (.U 0) 2 N) (aI a) (aI m) (aI b) (.fn g caps) (aI mid) (aI (mid + m)) (aI s) (at0 x (p ++ u ++ v ++ q)))) →
            Loop (wpc CC i_slices_symMergeCmpFunc__api_ZRow_l4) Q (s_slices_symMergeCmpFunc__api_ZRow_l4 (.own (.U 0) 2 N) (aI a) (aI m) (aI b) (.fn g caps) (aI mid) (aI (mid + m)) (aI lo) (aI hi) (aI (mid + m - 1)) (at0 x (p ++ u ++ v ++ q))) := by
          intro lo hi hlo hlh him hid hlb hlo2 hhi2 Q hQ
          refine loop (fun (t : Int × Int) => s_slices_symMergeCmpFunc__api_ZRow_l4 (.own (.U 0) 2 N) (aI a) (aI m) (aI b) (.fn g caps) (aI mid) (aI (mid + m)) (aI t.1) (aI t.2) (aI (mid + m - 1)) (at0 x (p ++ u ++ v ++ q)))
            (fun t => (t.2 - t.1).toNat) (fun t => lo ≤ t.1 ∧ t.1 ≤ t.2 ∧ t.2 ≤ hi ∧
              (∀ c : Int, lo ≤ c → c < t.1 → ∀ x y, u[(c - a).toNat]? = some x → v[(mid - 1 - c).toNat]? = some y → lt y x = false) ∧
              (∀ c : Int, t.2 ≤ c → c < hi → ∀ x y, u[(c - a).toNat]? = some x → v[(mid - 1 - c).toNat]? = some y → lt y x = true)) ?_ (lo, hi) ⟨Int.le_refl _, hlh, Int.le_refl _, fun c h1 h2 => by dsimp only at h2; omega, fun c h1 h2 => by dsimp only at h1; omega⟩
          rintro ⟨st, r⟩ ⟨k1, k2, k3, k4, k5⟩ ih2
          dsimp only at k1 k2 k3 k4 k5 ih2 ⊢
          conv => whnf
          refine way_dec (fun g3 => ?_) (fun g3 => ?_)
          all_goals conv => whnf
          · try simp only [hcap]
            rw [wrap_i64 (n := st + r) ⟨by omega, by omega⟩, half (by omega) (by omega)]
            obtain ⟨c, hcd⟩ : ∃ c : Int, c = (st + r) / 2 := ⟨_, rfl⟩
            rw [← hcd, wrap_i64 (n := mid + m - 1 - c) ⟨by omega, by omega⟩]
            have hcu : (c - a).toNat < u.length := by omega
            have hcv : (mid - 1 - c).toNat < v.length := by omega
            obtain ⟨xx, hx⟩ := ex_get hcu
            obtain ⟨yy, hy⟩ := ex_get hcv
            refine ⟨by omega, by omega, by trivial, ?_⟩
            conv => whnf
            refine ⟨encZ yy, hNl, get_v encZ hy (by omega), ?_⟩
            conv => whnf
            refine ⟨by omega, by omega, by trivial, ?_⟩
            conv => whnf
            refine ⟨encZ xx, hNl, get_u encZ hx (by omega), ?_⟩
            conv => whnf
            try simp only [hcap]
            refine ⟨_, hc yy xx _ _ ⟨rfl, rfl⟩, ?_⟩
            conv => whnf
            refine way_not ?_
            refine way_dec (fun g4 => ?_) (fun g4 => ?_)
            all_goals conv => whnf
            · have hl : lt yy xx = true := by rw [hlt]; exact decide_eq_true g4
              try simp only [hcap]
              exact ih2 (st, c) ⟨k1, by dsimp only; omega, by dsimp only; omega, k4, fun c2 h1 h2 x2 y2 hx2 hy2 => sw.ltle (sw.lelt (hsv.get sw (by dsimp only at h1; omega) hy2 hy) hl) (hsu.get sw (by dsimp only at h1; omega) hx hx2)⟩ (by dsimp only; omega)
            · have hl : lt yy xx = false := by rw [hlt]; exact decide_eq_false g4
              try simp only [hcap]
              rw [wrap_i64 (n := c + 1) ⟨by omega, by omega⟩]
              exact ih2 (c + 1, r) ⟨by dsimp only; omega, by dsimp only; omega, k3, fun c2 h1 h2 x2 y2 hx2 hy2 => sw.ntrans _ _ _ (sw.ntrans _ _ _ (hsv.get sw (by dsimp only at h2; omega) hy hy2) hl) (hsu.get sw (by dsimp only at h2; omega) hx2 hx), k5⟩ (by dsimp only; omega)
          · have hsr : st = r := by omega
            subst hsr
            try simp only [hcap]
            have l1 : (u.take (st - a).toNat).length = (st - a).toNat := by rw [List.length_take]; omega
            have l2 : (v.take (mid - st).toNat).length = (mid - st).toNat := by rw [List.length_take]; omega
            refine hQ (u.take (st - a).toNat) (u.drop (st - a).toNat) (v.take (mid - st).toNat) (v.drop (mid - st).toNat) st (List.take_append_drop _ _).symm (List.take_append_drop _ _).symm (by omega) (by omega) ?_ ?_
            · intro x hx y hy
              obtain ⟨i, hi1, hi2⟩ := mem_dropi hx
              obtain ⟨j, hj1, hj2⟩ := mem_take hy
              have hil := (List.getElem?_eq_some_iff.1 hi2).1
              have hcu : (st - a).toNat < u.length := by omega
              have hcv : (mid - 1 - st).toNat < v.length := by omega
              obtain ⟨xx, hxx⟩ := ex_get hcu
              obtain ⟨yy, hyy⟩ := ex_get hcv
              have hl := k5 st (Int.le_refl _) (by omega) xx yy hxx hyy
              exact sw.ltle (sw.lelt (hsv.get sw (by omega) hj2 hyy) hl) (hsu.get sw hi1 hxx hi2)
            · intro x hx y hy
              obtain ⟨i, hi1, hi2⟩ := mem_take hx
              obtain ⟨j, hj1, hj2⟩ := mem_dropi hy
              have hjl := (List.getElem?_eq_some_iff.1 hj2).1
              have hcu : (st - 1 - a).toNat < u.length := by omega
              have hcv : (mid - 1 - (st - 1)).toNat < v.length := by omega
              obtain ⟨xx, hxx⟩ := ex_get hcu
              obtain ⟨yy, hyy⟩ := ex_get hcv
              have hl := k4 (st - 1) (by omega) (by omega) xx yy hxx hyy
              exact sw.ntrans _ _ _ (sw.ntrans _ _ _ (hsv.get sw (by omega) hyy hj2) hl) (hsu.get sw (by omega) hi2 hxx)
        apply way_join
        · intro g5 hR
          have g5 := of_decide_eq_true g5
          conv => whnf
          try simp only [hcap]
          rw [wrap_i64 (n := mid + m - b) ⟨by omega, by omega⟩, wrap_i64 (n := mid + m - 1) ⟨by omega, by omega⟩]
          exact key (mid + m - b) mid (by omega) (by omega) (by omega) (by omega) (by omega) (.inr rfl) (.inr rfl) _ hR.out
        · intro g5 hR
          have g5 := of_decide_eq_false g5
          conv => whnf
          try simp only [hcap]
          rw [wrap_i64 (n := mid + m - 1) ⟨by omega, by omega⟩]
          exact key a m (by omega) (by omega) (by omega) (by omega) (by omega) (.inl rfl) (.inl rfl) _ hR.out
        · intro u1 u2 v1 v2 s hu12 hv12 hs hl12 hA hB
          subst hu12
          subst hv12
          simp only [List.length_append] at hN' hk hb hm hu0 hv0
          conv => whnf
          try simp only [hcap]
          rw [wrap_i64 (n := mid + m - s) ⟨by omega, by omega⟩]
          have hu1 := hsu.left
          have hu2 := hsu.right
          have hv1 := hsv.left
          have hv2 := hsv.right
          apply way_join
          · intro g6 hR
            have g6 := of_decide_eq_true g6
            conv => whnf
            refine way_dec (fun g7 => ?_) (fun g7 => ?_)
            all_goals conv => whnf
            · try simp only [hcap]
              rw [show p ++ (u1 ++ u2) ++ (v1 ++ v2) ++ q = p ++ u1 ++ u2 ++ v1 ++ (v2 ++ q) by simp]
              refine rotate hcap (p ++ u1) u2 v1 (v2 ++ q) (List.length_pos_iff.1 (by omega)) (List.length_pos_iff.1 (by omega)) (by simp; omega) (by omega) (by simp; omega) (by simp; omega) (by simp; omega) ?_
              refine ⟨fun h => (by cases h), ?_⟩
              conv => whnf
              try simp only [hcap]
              exact hR.out
            · have : v1 = [] := List.eq_nil_of_length_eq_zero (by omega)
              try simp only [hcap]
              rw [show p ++ (u1 ++ u2) ++ (v1 ++ v2) ++ q = p ++ u1 ++ v1 ++ u2 ++ (v2 ++ q) by subst this; simp]
              exact hR.out
          · intro g6 hR
            have g6 := of_decide_eq_false g6
            have : u2 = [] := List.eq_nil_of_length_eq_zero (by omega)
            conv => whnf
            try simp only [hcap]
            rw [show p ++ (u1 ++ u2) ++ (v1 ++ v2) ++ q = p ++ u1 ++ v1 ++ u2 ++ (v2 ++ q) by subst this; simp]
            exact hR.out
          · conv => whnf
            apply way_joins (fun r1 => Srt lt r1 ∧ Stab lt (u1 ++ v1) r1)
            · intro g6 hR
              have g6 := of_decide_eq_true g6
              conv => whnf
              refine way_dec (fun g7 => ?_) (fun g7 => ?_)
              all_goals conv => whnf
              · try simp only [hcap]
                rw [show p ++ u1 ++ v1 ++ u2 ++ (v2 ++ q) = p ++ u1 ++ v1 ++ (u2 ++ v2 ++ q) by simp]
                refine ih p u1 v1 (u2 ++ v2 ++ q) (by omega) (List.length_pos_iff.1 (by omega)) (List.length_pos_iff.1 (by omega)) hu1 hv1 (by simp; omega) ha hs (by omega) ?_
                intro r1 hr1 hs1
                refine ⟨fun h => (by cases h), ?_⟩
                conv => whnf
                try simp only [hcap]
                exact hR.out r1 ⟨hr1, hs1⟩
              · have : v1 = [] := List.eq_nil_of_length_eq_zero (by omega)
                try simp only [hcap]
                rw [show p ++ u1 ++ v1 ++ u2 ++ (v2 ++ q) = p ++ (u1 ++ v1) ++ (u2 ++ v2 ++ q) by simp]
                exact hR.out (u1 ++ v1) ⟨by subst this; simpa using hu1, Stab.refl _⟩
            · intro g6 hR
              have g6 := of_decide_eq_false g6
              have : u1 = [] := List.eq_nil_of_length_eq_zero (by omega)
              conv => whnf
              try simp only [hcap]
              rw [show p ++ u1 ++ v1 ++ u2 ++ (v2 ++ q) = p ++ (u1 ++ v1) ++ (u2 ++ v2 ++ q) by simp]
              exact hR.out (u1 ++ v1) ⟨by subst this; simpa using hv1, Stab.refl _⟩
            · rintro r1 ⟨hr1, hs1⟩
              have lr := hs1.len
              rw [List.length_append] at lr
              have joinS : ∀ r2, Srt lt r2 → Stab lt (u2 ++ v2) r2 → Srt lt (r1 ++ r2) ∧ Stab lt (u1 ++ u2 ++ (v1 ++ v2)) (r1 ++ r2) := by
                intro r2 hr2 hs2
                refine ⟨hr1.app hr2 fun y hy z hz => ?_, ?_⟩
                · rcases List.mem_append.1 (hs1.mem.1 hy) with hy | hy <;> rcases List.mem_append.1 (hs2.mem.1 hz) with hz | hz
                  · exact hsu.mid y hy z hz
                  · exact hB y hy z hz
                  · exact sw.asym _ _ (hA z hz y hy)
                  · exact hsv.mid y hy z hz
                · have s1 : Stab lt (u2 ++ v1) (v1 ++ u2) := Stab.swap sw hA
                  have s2 := ((Stab.refl (lt := lt) u1).app s1).app (Stab.refl (lt := lt) v2)
                  have s3 := hs1.app hs2
                  have s4 : Stab lt (u1 ++ u2 ++ (v1 ++ v2)) (u1 ++ v1 ++ (u2 ++ v2)) := by simpa using s2
                  exact s4.trans s3
              conv => whnf
              refine way_dec (fun g6 => ?_) (fun g6 => ?_)
              all_goals conv => whnf
              · refine way_dec (fun g7 => ?_) (fun g7 => ?_)
                all_goals conv => whnf
                · try simp only [hcap]
                  rw [show p ++ r1 ++ (u2 ++ v2 ++ q) = (p ++ r1) ++ u2 ++ v2 ++ q by simp]
                  refine ih (p ++ r1) u2 v2 q (by omega) (List.length_pos_iff.1 (by omega)) (List.length_pos_iff.1 (by omega)) hu2 hv2 (by simp; omega) (by simp; omega) (by simp; omega) (by simp; omega) ?_
                  intro r2 hr2 hs2
                  refine ⟨fun h => (by cases h), ?_⟩
                  conv => whnf
                  obtain ⟨j1, j2⟩ := joinS r2 hr2 hs2
                  have := h (r1 ++ r2) j1 j2
                  rw [show p ++ (r1 ++ r2) ++ q = p ++ r1 ++ r2 ++ q by simp] at this
                  exact this
                · have : v2 = [] := List.eq_nil_of_length_eq_zero (by omega)
                  obtain ⟨j1, j2⟩ := joinS (u2 ++ v2) (by subst this; simpa using hu2) (Stab.refl _)
                  have := h (r1 ++ (u2 ++ v2)) j1 j2
                  rw [show p ++ (r1 ++ (u2 ++ v2)) ++ q = p ++ r1 ++ (u2 ++ v2 ++ q) by simp] at this
                  exact this
              · have : u2 = [] := List.eq_nil_of_length_eq_zero (by omega)
                obtain ⟨j1, j2⟩ := joinS (u2 ++ v2) (by subst this; simpa using hv2) (Stab.refl _)
                have := h (r1 ++ (u2 ++ v2)) j1 j2
                rw [show p ++ (r1 ++ (u2 ++ v2)) ++ q = p ++ r1 ++ (u2 ++ v2 ++ q) by simp] at this
                exact this

theorem stable (sw : SW lt) (hlt : ∀ a b, lt a b = decide (cf a b < 0)) (hcap : ∀ f, A.renL f caps = caps) (hc : Cmp x cf g caps) (d : List ZRow) {N : Nat} (hN : N = d.length) (hlen : (N : Int) ≤ maxI / 4)
    (h : ∀ r, Srt lt r → Stab lt d r → K [] (at0 x r)) :
    CC n_slices_stableCmpFunc__api_ZRow [.own (.U 0) 2 N, aI N, .fn g caps] (at0 x d) K := by
  have hmax : maxI / 4 = 2305843009213693951 := rfl
  have hmax2 : maxI - 100 = 9223372036854775707 := rfl
  refine fnc g_slices_stableCmpFunc__api_ZRow rfl ?_
  conv => whnf
  try simp only [hcap]
  -- blocks of 20
  refine loop (fun (t : List (List ZRow) × List ZRow) => s_slices_stableCmpFunc__api_ZRow_l0 (.own (.U 0) 2 N) (aI N) (.fn g caps) (aI 20) (aI t.1.flatten.length) (aI ((t.1.flatten.length : Int) + 20)) (at0 x (t.1.flatten ++ t.2)))
    (fun t => t.2.length) (fun t => (∀ l ∈ t.1, Srt lt l ∧ l.length = 20) ∧ Stab lt d (t.1.flatten ++ t.2)) ?_ ([], d) ⟨by simp, Stab.refl _⟩
  rintro ⟨D, rest⟩ ⟨hD, hst⟩ ih
  dsimp only at hD hst ih ⊢
  have hl := hst.len
  rw [List.length_append] at hl
  conv => whnf
  try simp only [hcap]
  refine way_dec (fun g1 => ?_) (fun g1 => ?_)
  all_goals conv => whnf
  · have e1 : rest = rest.take 20 ++ rest.drop 20 := (List.take_append_drop _ _).symm
    have l1 : (rest.take 20).length = 20 := by rw [List.length_take]; omega
    generalize rest.take 20 = s at e1 l1
    generalize rest.drop 20 = q at e1
    subst e1
    rw [List.length_append] at hl
    try simp only [hcap]
    rw [show D.flatten ++ (s ++ q) = D.flatten ++ s ++ q by simp, show (A.int .i64 ((D.flatten.length : Int) + 20)) = aI ((D.flatten.length + s.length : Nat) : Int) by rw [l1]; simp]
    refine insertion sw hlt hcap hc D.flatten s q (by simp only [List.length_append]; omega) (by omega) fun r hr hs => ?_
    refine ⟨fun h => (by cases h), ?_⟩
    conv => whnf
    try simp only [hcap]
    have lr := hs.len
    rw [wrap_i64 (n := (D.flatten.length : Int) + 20 + 20) ⟨by omega, by omega⟩]
    have := ih (D ++ [r], q) ⟨?_, ?_⟩ (by simp; omega)
    · dsimp only at this
      rw [List.flatten_append, List.flatten_singleton, List.length_append, lr, l1, show ((D.flatten.length + 20 : Nat) : Int) = (D.flatten.length : Int) + 20 by omega] at this
      exact this
    · intro l hl2
      rcases List.mem_append.1 hl2 with hl2 | hl2
      · exact hD l hl2
      · rw [List.mem_singleton.1 hl2]; exact ⟨hr, by omega⟩
    · refine hst.trans ?_
      have := ((Stab.refl (lt := lt) D.flatten).app hs).app (Stab.refl (lt := lt) q)
      simpa using this
  · try simp only [hcap]
    rw [show D.flatten ++ rest = D.flatten ++ rest ++ [] by simp, show (A.int .i64 (N : Int)) = aI ((D.flatten.length + rest.length : Nat) : Int) by rw [hN, ← hl]]
    refine insertion sw hlt hcap hc D.flatten rest [] (by simp only [List.length_append, List.length_nil]; omega) (by omega) fun r hr hs => ?_
    refine ⟨fun h => (by cases h), ?_⟩
    conv => whnf
    try simp only [hcap]
    have lr := hs.len
    -- ever greater blocks
    rw [show D.flatten ++ r ++ [] = (D ++ [r]).flatten by simp]
    refine loop (fun (t : Nat × List (List ZRow)) => s_slices_stableCmpFunc__api_ZRow_l1 (.own (.U 0) 2 N) (aI ((D.flatten.length + rest.length : Nat) : Int)) (.fn g caps) (aI (t.1 : Int)) (at0 x t.2.flatten))
      (fun t => N - t.1) (fun t => 0 < t.1 ∧ Shape t.1 t.2 ∧ (∀ l ∈ t.2, Srt lt l) ∧ Stab lt d t.2.flatten) ?_ (20, D ++ [r]) ⟨by simp, shape_snoc (by omega) fun l hl => (hD l hl).2, ?_, ?_⟩
    · rintro ⟨k, L⟩ ⟨hk, hsh, hso, hst2⟩ ih2
      dsimp only at hk hsh hso hst2 ih2 ⊢
      have hl2 := hst2.len
      conv => whnf
      try simp only [hcap]
      refine way_dec (fun g2 => ?_) (fun g2 => ?_)
      all_goals conv => whnf
      · try simp only [hcap]
        rw [wrap_i64 (n := 2 * (k : Int)) ⟨by omega, by omega⟩, show (A.int .i64 (2 * (k : Int))) = aI ((([] : List (List ZRow)).flatten.length : Int) + 2 * (k : Int)) by simp]
        refine loop (fun (t : List (List ZRow) × List (List ZRow)) => s_slices_stableCmpFunc__api_ZRow_l2 (.own (.U 0) 2 N) (aI ((D.flatten.length + rest.length : Nat) : Int)) (.fn g caps) (aI (k : Int)) (aI t.1.flatten.length) (aI ((t.1.flatten.length : Int) + 2 * (k : Int))) (at0 x (t.1.flatten ++ t.2.flatten)))
          (fun t => t.2.length) (fun t => (∀ l ∈ t.1, Srt lt l ∧ l.length = 2 * k) ∧ Shape k t.2 ∧ (∀ l ∈ t.2, Srt lt l) ∧ Stab lt d (t.1.flatten ++ t.2.flatten)) ?_ ([], L) ⟨by simp, hsh, hso, hst2⟩
        rintro ⟨E, M⟩ ⟨hE, hsM, hoM, hst3⟩ ih3
        dsimp only at hE hsM hoM hst3 ih3 ⊢
        have hl3 := hst3.len
        rw [List.length_append] at hl3
        have next_ : ∀ L', Shape (2 * k) L' → (∀ l ∈ L', Srt lt l) → Stab lt d L'.flatten → Loop (wpc CC i_slices_stableCmpFunc__api_ZRow_l1) (blkQ 2 (fnQ i_slices_stableCmpFunc__api_ZRow.res K)) (s_slices_stableCmpFunc__api_ZRow_l1 (.own (.U 0) 2 N) (aI ((D.flatten.length + rest.length : Nat) : Int)) (.fn g caps) (aI ((2 * k : Nat) : Int)) (at0 x L'.flatten)) := by
          intro L' h1 h2 h3
          exact ih2 (2 * k, L') ⟨by dsimp only; omega, h1, h2, h3⟩ (by dsimp only; omega)
        conv => whnf
        try simp only [hcap]
        refine way_dec (fun g3 => ?_) (fun g3 => ?_)
        all_goals conv => whnf
        · -- two whole ones
          match M, hsM, hoM, hst3, hl3 with
          | [], _, _, _, hl3 => simp only [List.flatten_cons, List.flatten_nil, List.length_append, List.length_nil] at hl3; omega
          | [l], hsM, _, _, hl3 =>
            have := shape_le hsM
            simp only [List.flatten_cons, List.flatten_nil, List.length_append, List.length_nil] at hl3
            omega
          | l1 :: l2 :: M', hsM, hoM, hst3, hl3 =>
            have h1 := shape_head hsM
            have hs2 := shape_tail hsM
            have h2 : l2.length = k := by
              cases M' with
              | nil =>
                have := shape_le hs2
                simp only [List.flatten_cons, List.flatten_nil, List.length_append, List.length_nil] at hl3
                omega
              | cons a r => exact shape_head hs2
            rw [List.flatten_cons, List.flatten_cons, List.length_append, List.length_append] at hl3
            rw [wrap_i64 (n := (E.flatten.length : Int) + (k : Int)) ⟨by omega, by omega⟩]
            try simp only [hcap]
            rw [show E.flatten ++ (l1 :: l2 :: M').flatten = E.flatten ++ l1 ++ l2 ++ M'.flatten by simp]
            refine symMerge sw hlt hcap hc hlen _ E.flatten l1 l2 M'.flatten (Nat.le_refl _) (List.length_pos_iff.1 (by omega)) (List.length_pos_iff.1 (by omega)) (hoM l1 (by simp)) (hoM l2 (by simp)) (by simp only [List.length_append, List.length_nil]; omega) rfl (by omega) (by omega) ?_
            intro r' hr' hs'
            refine ⟨fun h => (by cases h), ?_⟩
            conv => whnf
            try simp only [hcap]
            have lr' := hs'.len
            rw [List.length_append] at lr'
            rw [wrap_i64 (n := 2 * (k : Int)) ⟨by omega, by omega⟩, wrap_i64 (n := (E.flatten.length : Int) + 2 * (k : Int) + 2 * (k : Int)) ⟨by omega, by omega⟩]
            have := ih3 (E ++ [r'], M') ⟨?_, shape_tail hs2, fun l hl => hoM l (by simp [hl]), ?_⟩ (by simp only [List.length_cons]; omega)
            · dsimp only at this
              rw [List.flatten_append, List.flatten_singleton, List.length_append, lr', h1, h2, show ((E.flatten.length + (k + k) : Nat) : Int) = (E.flatten.length : Int) + 2 * (k : Int) by omega] at this
              exact this
            · intro l hl
              rcases List.mem_append.1 hl with hl | hl
              · exact hE l hl
              · rw [List.mem_singleton.1 hl]; exact ⟨hr', by omega⟩
            · refine hst3.trans ?_
              have := ((Stab.refl (lt := lt) E.flatten).app hs').app (Stab.refl (lt := lt) M'.flatten)
              simpa using this
        · -- the rest
          rw [wrap_i64 (n := (E.flatten.length : Int) + (k : Int)) ⟨by omega, by omega⟩]
          refine way_dec (fun g4 => ?_) (fun g4 => ?_)
          all_goals conv => whnf
          · match M, hsM, hoM, hst3, hl3 with
            | [], _, _, _, hl3 => simp only [List.flatten_cons, List.flatten_nil, List.length_append, List.length_nil] at hl3; omega
            | [l], hsM, _, _, hl3 =>
              have := shape_le hsM
              simp only [List.flatten_cons, List.flatten_nil, List.length_append, List.length_nil] at hl3
              omega
            | l1 :: l2 :: M', hsM, hoM, hst3, hl3 =>
              have h1 := shape_head hsM
              have hs2 := shape_tail hsM
              rw [List.flatten_cons, List.flatten_cons, List.length_append, List.length_append] at hl3
              have hM' : M'.flatten = [] := by
                refine List.eq_nil_of_length_eq_zero ?_
                cases M' with
                | nil => rfl
                | cons a r =>
                  have := shape_head hs2
                  omega
              rw [hM', List.length_nil] at hl3
              have h2 := shape_le hs2
              try simp only [hcap]
              rw [show E.flatten ++ (l1 :: l2 :: M').flatten = E.flatten ++ l1 ++ l2 ++ [] by simp [hM']]
              refine symMerge sw hlt hcap hc hlen _ E.flatten l1 l2 [] (Nat.le_refl _) (List.length_pos_iff.1 (by omega)) (List.length_pos_iff.1 (by omega)) (hoM l1 (by simp)) (hoM l2 (by simp)) (by simp only [List.length_append, List.length_nil]; omega) rfl (by omega) (by omega) ?_
              intro r' hr' hs'
              refine ⟨fun h => (by cases h), ?_⟩
              conv => whnf
              try simp only [hcap]
              have lr' := hs'.len
              rw [List.length_append] at lr'
              rw [wrap_i64 (n := (k : Int) * 2) ⟨by omega, by omega⟩, show (k : Int) * 2 = ((2 * k : Nat) : Int) by omega, show E.flatten ++ r' ++ [] = (E ++ [r']).flatten by simp]
              refine next_ _ (shape_snoc (by omega) fun l hl => (hE l hl).2) (fun l hl => ?_) ?_
              · rcases List.mem_append.1 hl with hl | hl
                · exact (hE l hl).1
                · rw [List.mem_singleton.1 hl]; exact hr'
              · refine hst3.trans ?_
                have := (Stab.refl (lt := lt) E.flatten).app hs'
                simpa [hM'] using this
          · try simp only [hcap]
            rw [wrap_i64 (n := (k : Int) * 2) ⟨by omega, by omega⟩, show (k : Int) * 2 = ((2 * k : Nat) : Int) by omega]
            match M, hsM, hoM, hst3, hl3 with
            | [], _, _, hst3, hl3 =>
              rw [show E.flatten ++ ([] : List (List ZRow)).flatten = E.flatten by simp] at hst3 ⊢
              exact next_ E (shape_full fun l hl => (hE l hl).2) (fun l hl => (hE l hl).1) hst3
            | l1 :: M', hsM, hoM, hst3, hl3 =>
              have hM' : M'.flatten = [] := by
                refine List.eq_nil_of_length_eq_zero ?_
                rw [List.flatten_cons, List.length_append] at hl3
                cases M' with
                | nil => rfl
                | cons a r =>
                  have := shape_head hsM
                  omega
              have e5 : E.flatten ++ (l1 :: M').flatten = (E ++ [l1]).flatten := by simp [hM']
              rw [e5] at hst3 ⊢
              refine next_ _ (shape_snoc (by have := shape_le hsM; omega) fun l hl => (hE l hl).2) (fun l hl => ?_) hst3
              rcases List.mem_append.1 hl with hl | hl
              · exact (hE l hl).1
              · rw [List.mem_singleton.1 hl]; exact hoM l1 (by simp)
      · exact h _ (shape_one hsh hso (by omega) hk) hst2
    · intro l hl2
      rcases List.mem_append.1 hl2 with hl2 | hl2
      · exact (hD l hl2).1
      · rw [List.mem_singleton.1 hl2]; exact hr
    · refine hst.trans ?_
      have := (Stab.refl (lt := lt) D.flatten).app hs
      simpa using this

theorem SortStable (sw : SW lt) (hlt : ∀ a b, lt a b = decide (cf a b < 0)) (hcap : ∀ f, A.renL f caps = caps) (hc : Cmp x cf g caps) (d : List ZRow) {N : Nat} (hN : N = d.length) (hlen : (N : Int) ≤ maxI / 4)
    (h : K [] (at0 x (isort lt d))) :
    CC n_slices_SortStableFunc__api_ZRow [.own (.U 0) 2 N, .fn g caps] (at0 x d) K := by
  refine fnc g_slices_SortStableFunc__api_ZRow rfl ?_
  conv => whnf
  intro hl
  conv => whnf
  try simp only [hcap]
  refine stable sw hlt hcap hc d hN hlen fun r hr hs => ?_
  refine ⟨fun h => (by cases h), ?_⟩
  conv => whnf
  rw [sort_is sw hr hs]
  exact h
end
end Sort_api_ZRow
end Go.Tide

/- Sets with weights: what each function comes to. -/
set_option linter.unusedVariables false
namespace Go.Tide
variable {x : Sto} {K : List A → Sto → Prop}

theorem s_zsets_row (r : Row) (h : K [aI (rowWrong r)] x) : CC n_zsets_row [aR r] x K := by
  refine fnc g_zsets_row rfl ?_
  conv => whnf
  intro hl0
  conv => whnf
  unfold rowWrong at h
  refine way_dec (fun h0 => ?_) (fun h0 => ?_)
  all_goals conv => whnf
  · rw [List.length_map] at h0
    rw [if_pos (by omega)] at h
    exact h
  · rw [List.length_map] at h0
    rw [if_neg (by omega)] at h
    intro hl
    conv => whnf
    refine loop (fun (i : Nat) => s_zsets_row_l0 (aR r) (aI (r.map encV).length) (aI i) x) (fun i => r.length - i) (fun i => i ≤ r.length ∧ valsWrong (r.drop i) = valsWrong r) ?_ (0) ⟨Nat.zero_le _, rfl⟩
    intro i ⟨hi, hinv⟩ ih
    conv => whnf
    refine way_dec (fun h1 => ?_) (fun h1 => ?_)
    rotate_left
    all_goals conv => whnf
    rotate_left
    rotate_left
    obtain ⟨e, hge⟩ := ge_drop h1
    · rw [← hinv, e] at h
      exact h
    obtain ⟨v, q, e, e2, hlt⟩ := lt_drop h1
    refine ⟨encV v, Int.natCast_nonneg _, at_drop encV e, rfl, ?_⟩
    conv => whnf
    refine s_vals_Wrong v ?_
    refine ⟨fun _ => rfl, ?_⟩
    conv => whnf
    refine way_ne (fun h2 => ?_) (fun h2 => ?_)
    all_goals conv => whnf
    · rw [← hinv, e, valsWrong, if_pos h2] at h
      exact h
    · rw [succ_map hl hlt]
      refine ih (i + 1) ⟨by omega, ?_⟩ (by omega)
      rw [e2, ← hinv, e, valsWrong, if_neg (by simpa using h2)]

theorem s_zsets_weight (w : Int) (h : K [.bool (wOk w)] x) : CC n_zsets_weight [aI w] x K := by
  refine fnc g_zsets_weight rfl ?_
  conv => whnf
  unfold wOk at h
  refine way_dec (fun h1 => ?_) (fun h1 => ?_)
  all_goals conv => whnf
  · rw [decide_eq_true h1] at h
    exact h
  · rw [decide_eq_false h1] at h
    exact h

theorem s_zsets_Wrong (z : ZSet) (h : K [aI (zWrong z)] x) : CC n_zsets_Wrong [aS z] x K := by
  refine fnc g_zsets_Wrong rfl ?_
  conv => whnf
  intro hl0
  conv => whnf
  unfold zWrong at h
  refine way_dec (fun h0 => ?_) (fun h0 => ?_)
  all_goals conv => whnf
  · rw [List.length_map] at h0
    rw [if_pos (by omega)] at h
    exact h
  · rw [List.length_map] at h0
    rw [if_neg (by omega)] at h
    intro hl
    conv => whnf
    refine loop (fun (i : Nat) => s_zsets_Wrong_l0 (aS z) (aS z) (aI (z.map encZ).length) (aI i) x) (fun i => z.length - i) (fun i => i ≤ z.length ∧ zwGo (if i = 0 then none else (z[i - 1]?).map (·.row)) (z.drop i) = zwGo none z) ?_ (0) ⟨Nat.zero_le _, rfl⟩
    intro i ⟨hi, hinv⟩ ih
    conv => whnf
    refine way_dec (fun h1 => ?_) (fun h1 => ?_)
    rotate_left
    all_goals conv => whnf
    rotate_left
    rotate_left
    obtain ⟨e, hge⟩ := ge_drop h1
    · rw [e, zwGo] at hinv
      rw [← hinv] at h
      exact h
    obtain ⟨a, q, e, e2, hlt⟩ := lt_drop h1
    refine ⟨encZ a, Int.natCast_nonneg _, at_drop encZ e, rfl, ?_⟩
    conv => whnf
    refine s_zsets_row a.row ?_
    refine ⟨fun _ => rfl, ?_⟩
    conv => whnf
    rw [e, zwGo_cons] at hinv
    refine way_ne (fun h2 => ?_) (fun h2 => ?_)
    all_goals conv => whnf
    · rw [if_pos h2] at hinv
      rw [← hinv] at h
      exact h
    · rw [if_neg (by simpa using h2)] at hinv
      refine way_eq (fun h3 => ?_) (fun h3 => ?_)
      all_goals conv => whnf
      · rw [if_pos (.inl h3)] at hinv
        rw [← hinv] at h
        exact h
      · refine s_zsets_weight a.w ?_
        refine ⟨fun _ => rfl, ?_⟩
        conv => whnf
        refine way_not ?_
        refine way (fun h4 => ?_) (fun h4 => ?_)
        all_goals conv => whnf
        · rw [if_neg (by simp [h3, h4])] at hinv
          have nx : zwGo (some a.row) q = zwGo none z → zwGo (if i + 1 = 0 then none else (z[i + 1 - 1]?).map (·.row)) (z.drop (i + 1)) = zwGo none z := by
            intro hg
            have ha : z[i]? = some a := by
              have := List.getElem?_drop (xs := z) (i := i) (j := 0)
              rw [e] at this
              simpa using this.symm
            rw [e2]
            simp only [Nat.add_one_ne_zero, if_false, Nat.add_sub_cancel, ha]
            exact hg
          refine way_dec (fun h5 => ?_) (fun h5 => ?_)
          all_goals conv => whnf
          · obtain ⟨p, hp⟩ : ∃ p, z[i - 1]? = some p := ⟨z[i - 1], List.getElem?_eq_getElem (by omega)⟩
            have hi0 : i ≠ 0 := by omega
            rw [if_neg hi0, hp] at hinv
            rw [wrap_i64 (n := (i : Int) - 1) ⟨by omega, by simp [maxI] at hl; omega⟩]
            refine ⟨encZ p, by omega, ?_, rfl, ?_⟩
            conv => whnf
            · rw [show ((i : Int) - 1).toNat = i - 1 by omega, List.getElem?_map, hp]; rfl
            refine ⟨_, s_vals_Rows p.row a.row ⟨rfl, rfl⟩, ?_⟩
            conv => whnf
            refine way_dec (fun h6 => ?_) (fun h6 => ?_)
            all_goals conv => whnf
            · simp only [Option.map_some, decide_eq_true h6, if_true] at hinv
              rw [← hinv] at h
              exact h
            · simp only [Option.map_some, decide_eq_false h6, if_false, Bool.false_eq_true] at hinv
              rw [succ_map hl hlt]
              exact ih (i + 1) ⟨by omega, nx hinv⟩ (by omega)
          · have hi0 : i = 0 := by omega
            rw [if_pos hi0] at hinv
            simp only [Bool.false_eq_true, if_false] at hinv
            rw [succ_map hl hlt]
            exact ih (i + 1) ⟨by omega, nx hinv⟩ (by omega)
        · rw [if_pos (.inr h4)] at hinv
          rw [← hinv] at h
          exact h

theorem s_zsets_right (l : List ZSet) (h : K [aI (zWrongs l)] x) : CC n_zsets_right [.sl (l.map encS)] x K := by
  refine fnc g_zsets_right rfl ?_
  conv => whnf
  intro hl
  conv => whnf
  refine loop (fun (i : Nat) => s_zsets_right_l0 (.sl (l.map encS)) (aI (l.map encS).length) (aI i) x) (fun i => l.length - i) (fun i => i ≤ l.length ∧ zWrongs (l.drop i) = zWrongs l) ?_ (0) ⟨Nat.zero_le _, rfl⟩
  intro i ⟨hi, hinv⟩ ih
  conv => whnf
  refine way_dec (fun h1 => ?_) (fun h1 => ?_)
  rotate_left
  all_goals conv => whnf
  rotate_left
  rotate_left
  obtain ⟨e, hge⟩ := ge_drop h1
  · rw [← hinv, e] at h
    exact h
  obtain ⟨a, r, e, e2, hlt⟩ := lt_drop h1
  refine ⟨encS a, Int.natCast_nonneg _, at_drop encS e, rfl, ?_⟩
  conv => whnf
  refine s_zsets_Wrong a ?_
  refine ⟨fun _ => rfl, ?_⟩
  conv => whnf
  refine way_ne (fun h2 => ?_) (fun h2 => ?_)
  all_goals conv => whnf
  · rw [← hinv, e, zWrongs, if_pos h2] at h
    exact h
  · rw [succ_map hl hlt]
    refine ih (i + 1) ⟨by omega, ?_⟩ (by omega)
    rw [e2, ← hinv, e, zWrongs, if_neg (by simpa using h2)]

theorem s_zsets_bare (r : Row) (hb : r.length ≤ 1000) (h : K [.nrow ty_api_Val 3 ((rowBare r).map encV)] x) : CC n_zsets_bare [aR r] x K := by
  have hmax : maxI = 9223372036854775807 := rfl
  refine fnc g_zsets_bare rfl ?_
  conv => whnf
  intro hl
  conv => whnf
  refine ⟨Int.natCast_nonneg _, by simp only [List.length_map, maxB]; omega, hl, ?_⟩
  conv => whnf
  intro hl2
  conv => whnf
  have e0 : List.replicate (((r.map encV).length : Int)).toNat [A.int .i64 0, A.int .i64 0, A.str ⟨#[]⟩] = ((r.take 0).map Val.bare ++ List.replicate (r.length - 0) (⟨0, 0, bE⟩ : Val)).map encV := by
    rw [Int.toNat_natCast, List.length_map]
    simp
  have e1 : (((r.map encV).length : Int)).toNat = r.length := by simp
  rw [e0, e1]
  refine loop (fun (i : Nat) => s_zsets_bare_l0 (.own (.L 8) 3 r.length) (aR r) (aI (r.map encV).length) (aI i) (.row ty_api_Val 3 (((r.take i).map Val.bare ++ List.replicate (r.length - i) (⟨0, 0, bE⟩ : Val)).map encV)) x) (fun i => r.length - i) (fun i => i ≤ r.length ∧ True) ?_ (0) ⟨Nat.zero_le _, trivial⟩
  intro i ⟨hi, hinv⟩ ih
  conv => whnf
  refine way_dec (fun h1 => ?_) (fun h1 => ?_)
  rotate_left
  all_goals conv => whnf
  rotate_left
  rotate_left
  obtain ⟨e, hge⟩ := ge_drop h1
  · have hi' : i = r.length := by omega
    subst hi'
    rw [List.take_length, Nat.sub_self, List.replicate_zero, List.append_nil]
    refine ⟨by simp, ?_⟩
    exact h
  obtain ⟨v, q, e, e2, hlt⟩ := lt_drop h1
  refine ⟨encV v, Int.natCast_nonneg _, at_drop encV e, rfl, ?_⟩
  conv => whnf
  refine s_vals_Bare v ?_
  refine ⟨fun _ => rfl, ?_⟩
  conv => whnf
  refine ⟨Int.natCast_nonneg _, by omega, rfl, ?_⟩
  conv => whnf
  have hd : (r.take i).map Val.bare ++ List.replicate (r.length - i) (⟨0, 0, bE⟩ : Val) = (r.take i).map Val.bare ++ ⟨0, 0, bE⟩ :: List.replicate (r.length - (i + 1)) (⟨0, 0, bE⟩ : Val) := by
    rw [show r.length - i = (r.length - (i + 1)) + 1 by omega, List.replicate_succ]
  have hlen : (i : Int) = (((r.take i).map Val.bare).length : Int) := by simp; omega
  refine ⟨encV ⟨0, 0, bE⟩, by simp; omega, get_at encV hd hlen, Nat.le_refl _, ?_⟩
  conv => whnf
  rw [set_at encV hd hlen, succ_map hl2 hlt]
  have := ih (i + 1) ⟨by omega, trivial⟩ (by omega)
  have hv : r.take (i + 1) = r.take i ++ [v] := by
    have hg : r[i]? = some v := by
      have := List.getElem?_drop (xs := r) (i := i) (j := 0)
      rw [e] at this
      simpa using this.symm
    rw [List.take_add_one, hg]; rfl
  rw [show (r.take (i + 1)).map Val.bare = (r.take i).map Val.bare ++ [v.bare] by rw [hv]; simp, List.append_assoc, List.singleton_append] at this
  exact this

theorem s_zsets_Total_1 (a b : ZRow) (h : K [aI (rowCmp a.row b.row)] x) : CC n_zsets_Total_1 [aZ a, aZ b] x K := by
  refine fnc g_zsets_Total_1 rfl ?_
  conv => whnf
  refine s_vals_Rows a.row b.row ?_
  refine ⟨fun _ => rfl, ?_⟩
  conv => whnf
  exact h

theorem s_zsets_Total (l : ZSet) (hr : ∀ z ∈ l, z.row.length ≤ 1000) (hn : l.length ≤ 4000000000) (h : K [aS (zTotal l)] x) : CC n_zsets_Total [aS l] x K := by
  have hmax : maxI = 9223372036854775807 := rfl
  have hmaxB : maxB = 140737488355328 := rfl
  refine fnc g_zsets_Total rfl ?_
  conv => whnf
  intro hl
  conv => whnf
  refine ⟨Int.natCast_nonneg _, by simp only [List.length_map]; omega, hl, ?_⟩
  conv => whnf
  intro hl2
  conv => whnf
  have e0 : List.replicate (((l.map encZ).length : Int)).toNat [A.sl [], A.int .i64 0] = ((l.take 0).map zBare ++ List.replicate (l.length - 0) (⟨[], 0⟩ : ZRow)).map encZ := by
    rw [Int.toNat_natCast, List.length_map]
    simp
  have e1 : (((l.map encZ).length : Int)).toNat = l.length := by simp
  rw [e0, e1]
  refine loop (fun (i : Nat) => s_zsets_Total_l0 (.own (.L 11) 2 l.length) (aS l) (aI (l.map encZ).length) (aI i) (.row ty_api_ZRow 2 (((l.take i).map zBare ++ List.replicate (l.length - i) (⟨[], 0⟩ : ZRow)).map encZ)) x) (fun i => l.length - i) (fun i => i ≤ l.length ∧ True) ?_ (0) ⟨Nat.zero_le _, trivial⟩
  intro i ⟨hi, hinv⟩ ih
  conv => whnf
  refine way_dec (fun h1 => ?_) (fun h1 => ?_)
  rotate_left
  all_goals conv => whnf
  rotate_left
  rotate_left
  obtain ⟨e, hge⟩ := ge_drop h1
  · have hi' : i = l.length := by omega
    subst hi'
    rw [List.take_length, Nat.sub_self, List.replicate_zero, List.append_nil]
    have ls : (l.map zBare).length = l.length := by simp
    unfold zTotal at h
    refine Sort_api_ZRow.SortStable (x := fun _ => none) ltZ_sw (cf := fun a b => rowCmp a.row b.row) (fun a b => rfl) (fun f => rfl) (fun a b d K h => s_zsets_Total_1 a b h) (l.map zBare) ls.symm (by rw [hmax]; omega) ?_
    refine ⟨fun h => (by cases h), ?_⟩
    conv => whnf
    have lq : (isort ltZ (l.map zBare)).length = l.length := by rw [((isort_srt ltZ_sw _).2).len, ls]
    generalize isort ltZ (l.map zBare) = s at h lq ⊢
    refine loop (fun (t : Nat × ZSet) => s_zsets_Total_l1 (.own (.L 11) 2 l.length) (.gs (.L 6) (t.2.map encZ)) (aI t.1) (.tok ty_api_ZRow 2 (t.2.map encZ).length) (.row ty_api_ZRow 2 (s.map encZ)) x) (fun t => l.length - t.1) (fun t => t.1 ≤ l.length ∧ t.2.length ≤ t.1 ∧ t.2 ++ groupZ (s.drop t.1) = groupZ s) ?_ (0, []) ⟨Nat.zero_le _, Nat.le_refl _, rfl⟩
    conv => whnf
    rintro ⟨i, out⟩ ⟨hi, ho, hinv⟩ ih2
    dsimp only at hi ho hinv ih2 ⊢
    conv => whnf
    intro hl3
    conv => whnf
    refine way_dec (fun g1 => ?_) (fun g1 => ?_)
    all_goals conv => whnf
    · obtain ⟨a, q, e, e2, hlt⟩ : ∃ a r, s.drop i = a :: r ∧ s.drop (i + 1) = r ∧ i < s.length := ⟨s[i]'(by omega), s.drop (i + 1), List.drop_eq_getElem_cons (by omega), rfl, by omega⟩
      have nl : l.length = (s.map encZ).length := by simp [lq]
      refine ⟨Int.natCast_nonneg _, g1, rfl, ?_⟩
      conv => whnf
      refine ⟨encZ a, nl, at_drop encZ e, ?_⟩
      conv => whnf
      rw [succ_map (f := encZ) (l := s) (by simp; omega) hlt]
      rw [e, groupZ] at hinv
      refine loop (fun (t : Nat × Int) => s_zsets_Total_l2 (.own (.L 11) 2 l.length) (.gs (.L 6) (out.map encZ)) (aI t.1) (.ref (.L 8) 0) (.tok ty_api_ZRow 2 (out.map encZ).length) (.cells [.sl (a.row.map encV), .int .i64 t.2]) (.row ty_api_ZRow 2 (s.map encZ)) x) (fun t => l.length - t.1) (fun t => i < t.1 ∧ t.1 ≤ l.length ∧ out ++ grpZ ⟨a.row, t.2⟩ (s.drop t.1) = groupZ s) ?_ (i + 1, a.w) ⟨Nat.lt_succ_self _, by omega, by dsimp only; rw [e2]; exact hinv⟩
      conv => whnf
      rintro ⟨j, w⟩ ⟨hij, hj, hinv2⟩ ih3
      dsimp only at hij hj hinv2 ih3 ⊢
      -- behind the inner loop
      have fin_ : (grpZ ⟨a.row, w⟩ (s.drop j) = emitZ ⟨a.row, w⟩ (groupZ (s.drop j))) → ∀ g : Prop, True := fun _ _ => trivial
      conv => whnf
      refine way_dec (fun g2 => ?_) (fun g2 => ?_)
      all_goals conv => whnf
      · obtain ⟨b, q2, f1, f2, hlt2⟩ : ∃ a r, s.drop j = a :: r ∧ s.drop (j + 1) = r ∧ j < s.length := ⟨s[j]'(by omega), s.drop (j + 1), List.drop_eq_getElem_cons (by omega), rfl, by omega⟩
        rw [f1, grpZ] at hinv2
        refine ⟨Int.natCast_nonneg _, g2, rfl, ?_⟩
        conv => whnf
        refine ⟨encZ b, nl, at_drop encZ f1, ?_⟩
        conv => whnf
        refine ⟨_, s_vals_Rows b.row a.row ⟨rfl, rfl⟩, ?_⟩
        conv => whnf
        refine way_eq (fun g3 => ?_) (fun g3 => ?_)
        all_goals conv => whnf
        · rw [if_pos g3] at hinv2
          refine ⟨Int.natCast_nonneg _, g2, rfl, ?_⟩
          conv => whnf
          refine ⟨encZ b, nl, at_drop encZ f1, ?_⟩
          conv => whnf
          rw [succ_map (f := encZ) (l := s) (by simp; omega) hlt2]
          exact ih3 (j + 1, IntKind.wrap .i64 (w + b.w)) ⟨by dsimp only; omega, by dsimp only; omega, by dsimp only; rw [f2]; exact hinv2⟩ (by dsimp only; omega)
        · rw [if_neg g3] at hinv2
          refine way_ne (fun g4 => ?_) (fun g4 => ?_)
          all_goals conv => whnf
          · rw [emitZ, if_pos g4] at hinv2
            refine ⟨rfl, rfl, rfl, sl_one encZ 2 (fun _ => rfl) ⟨a.row, w⟩, by simp only [List.length_map, List.length_cons, List.length_nil]; omega, by simp only [List.length_map, List.length_cons, List.length_nil]; omega, ?_⟩
            conv => whnf
            rw [tok_snoc, snoc_map encZ out ⟨a.row, w⟩ rfl]
            exact ih2 (j, out ++ [⟨a.row, w⟩]) ⟨by dsimp only; omega, by simp; omega, by dsimp only; rw [f1, ← hinv2, groupZ]; simp⟩ (by dsimp only; omega)
          · rw [emitZ, if_neg (by simpa using g4)] at hinv2
            exact ih2 (j, out) ⟨by dsimp only; omega, by dsimp only; omega, by dsimp only; rw [f1, groupZ]; exact hinv2⟩ (by dsimp only; omega)
      · have hj2 : s.drop j = [] := List.drop_eq_nil_of_le (by omega)
        rw [hj2, grpZ] at hinv2
        refine way_ne (fun g4 => ?_) (fun g4 => ?_)
        all_goals conv => whnf
        · rw [emitZ, if_pos g4] at hinv2
          refine ⟨rfl, rfl, rfl, sl_one encZ 2 (fun _ => rfl) ⟨a.row, w⟩, by simp only [List.length_map, List.length_cons, List.length_nil]; omega, by simp only [List.length_map, List.length_cons, List.length_nil]; omega, ?_⟩
          conv => whnf
          rw [tok_snoc, snoc_map encZ out ⟨a.row, w⟩ rfl]
          exact ih2 (j, out ++ [⟨a.row, w⟩]) ⟨by dsimp only; omega, by simp; omega, by dsimp only; rw [hj2, ← hinv2, groupZ]; simp⟩ (by dsimp only; omega)
        · rw [emitZ, if_neg (by simpa using g4)] at hinv2
          exact ih2 (j, out) ⟨by dsimp only; omega, by dsimp only; omega, by dsimp only; rw [hj2, groupZ]; exact hinv2⟩ (by dsimp only; omega)
    · have hj2 : s.drop i = [] := List.drop_eq_nil_of_le (by omega)
      rw [hj2, groupZ, List.append_nil] at hinv
      rw [← hinv] at h
      exact h
  obtain ⟨z, q, e, e2, hlt⟩ := lt_drop h1
  refine ⟨encZ z, Int.natCast_nonneg _, at_drop encZ e, rfl, ?_⟩
  conv => whnf
  refine ⟨_, s_zsets_bare z.row (hr z (mem_drop e)) ⟨rfl, rfl⟩, ?_⟩
  conv => whnf
  refine ⟨Int.natCast_nonneg _, by omega, rfl, ?_⟩
  conv => whnf
  have hd : (l.take i).map zBare ++ List.replicate (l.length - i) (⟨[], 0⟩ : ZRow) = (l.take i).map zBare ++ ⟨[], 0⟩ :: List.replicate (l.length - (i + 1)) (⟨[], 0⟩ : ZRow) := by
    rw [show l.length - i = (l.length - (i + 1)) + 1 by omega, List.replicate_succ]
  have hlen : (i : Int) = (((l.take i).map zBare).length : Int) := by simp; omega
  refine ⟨encZ ⟨[], 0⟩, by simp; omega, get_at encZ hd hlen, Nat.le_refl _, ?_⟩
  conv => whnf
  rw [set_at encZ (b := ⟨rowBare z.row, z.w⟩) hd hlen, succ_map hl2 hlt]
  have := ih (i + 1) ⟨by omega, trivial⟩ (by omega)
  rw [show (l.take (i + 1)).map zBare = (l.take i).map zBare ++ [zBare z] by rw [take_snoc e]; simp, List.append_assoc, List.singleton_append] at this
  exact this

theorem s_zsets_Fit_1 (z : ZRow) (h : K [.bool (!wOk z.w)] x) : CC n_zsets_Fit_1 [aZ z] x K := by
  refine fnc g_zsets_Fit_1 rfl ?_
  conv => whnf
  refine s_zsets_weight z.w ?_
  refine ⟨fun _ => rfl, ?_⟩
  conv => whnf
  exact h

/-- Where something is so first. -/
def idxP (p : ZRow → Bool) : ZSet → Nat → Int
  | [], _ => -1
  | z :: r, i => if p z = true then i else idxP p r (i + 1)

theorem idxP_any (p : ZRow → Bool) : ∀ (z : ZSet) (i : Nat), decide (0 ≤ idxP p z i) = z.any p
  | [], i => rfl
  | z :: r, i => by
    rw [idxP, List.any_cons]
    cases hp : p z with
    | true => simp
    | false => simp only [Bool.false_eq_true, if_false, Bool.false_or]; exact idxP_any p r (i + 1)

theorem s_slices_IndexFunc__api_ZRow (z : ZSet) (p : ZRow → Bool) (g : Nat) (hg : ∀ (a : ZRow) (x : Sto) (K : List A → Sto → Prop), K [.bool (p a)] x → CC g [aZ a] x K) (h : K [aI (idxP p z 0)] x) : CC n_slices_IndexFunc__api_ZRow [aS z, .fn g []] x K := by
  refine fnc g_slices_IndexFunc__api_ZRow rfl ?_
  conv => whnf
  intro hl
  conv => whnf
  refine loop (fun (i : Nat) => s_slices_IndexFunc__api_ZRow_l0 (aS z) (.fn g []) (aI (z.map encZ).length) (aI i) x) (fun i => z.length - i) (fun i => i ≤ z.length ∧ idxP p (z.drop i) i = idxP p z 0) ?_ (0) ⟨Nat.zero_le _, rfl⟩
  intro i ⟨hi, hinv⟩ ih
  conv => whnf
  refine way_dec (fun h1 => ?_) (fun h1 => ?_)
  rotate_left
  all_goals conv => whnf
  rotate_left
  rotate_left
  obtain ⟨e, hge⟩ := ge_drop h1
  · rw [← hinv, e] at h
    exact h
  obtain ⟨a, r, e, e2, hlt⟩ := lt_drop h1
  refine ⟨encZ a, Int.natCast_nonneg _, at_drop encZ e, rfl, ?_⟩
  conv => whnf
  refine hg a _ _ ?_
  refine ⟨fun _ => rfl, ?_⟩
  conv => whnf
  rw [e, idxP] at hinv
  refine way (fun h2 => ?_) (fun h2 => ?_)
  all_goals conv => whnf
  · rw [if_pos h2] at hinv
    rw [← hinv] at h
    exact h
  · rw [if_neg (by simp [h2])] at hinv
    rw [succ_map hl hlt]
    refine ih (i + 1) ⟨by omega, ?_⟩ (by omega)
    rw [e2]
    exact hinv

theorem s_slices_ContainsFunc__api_ZRow (z : ZSet) (p : ZRow → Bool) (g : Nat) (hg : ∀ (a : ZRow) (x : Sto) (K : List A → Sto → Prop), K [.bool (p a)] x → CC g [aZ a] x K) (h : K [.bool (z.any p)] x) : CC n_slices_ContainsFunc__api_ZRow [aS z, .fn g []] x K := by
  refine fnc g_slices_ContainsFunc__api_ZRow rfl ?_
  conv => whnf
  refine s_slices_IndexFunc__api_ZRow z p g hg ?_
  refine ⟨fun _ => rfl, ?_⟩
  conv => whnf
  rw [idxP_any]
  exact h

theorem s_zsets_Fit (z : ZSet) (h : K [aS (zFit z).1, aI (zFit z).2] x) : CC n_zsets_Fit [aS z] x K := by
  refine fnc g_zsets_Fit rfl ?_
  conv => whnf
  refine s_slices_ContainsFunc__api_ZRow z (fun x => !wOk x.w) n_zsets_Fit_1 (fun a x K h => s_zsets_Fit_1 a h) ?_
  refine ⟨fun _ => rfl, ?_⟩
  conv => whnf
  unfold zFit at h
  refine way (fun h1 => ?_) (fun h1 => ?_)
  all_goals conv => whnf
  · rw [if_pos h1] at h
    exact h
  · rw [if_neg (by rw [h1]; simp)] at h
    intro hl
    conv => whnf
    refine way_dec (fun h2 => ?_) (fun h2 => ?_)
    all_goals conv => whnf
    · rw [List.length_map] at h2
      rw [if_pos (by omega)] at h
      exact h
    · rw [List.length_map] at h2
      rw [if_neg (by omega)] at h
      exact h

theorem s_zsets_Sum (l : ZSet) (hr : ∀ z ∈ l, z.row.length ≤ 1000) (hn : l.length ≤ 4000000000) (h : K [aS (zSum l).1, aI (zSum l).2] x) : CC n_zsets_Sum [aS l] x K := by
  refine fnc g_zsets_Sum rfl ?_
  conv => whnf
  refine s_zsets_Total l hr hn ?_
  refine ⟨fun _ => rfl, ?_⟩
  conv => whnf
  refine s_zsets_Fit (zTotal l) ?_
  refine ⟨fun _ => rfl, ?_⟩
  conv => whnf
  exact h

theorem rowWrong_len {r : Row} (h : rowWrong r = 0) : r.length ≤ 8 := by
  unfold rowWrong at h
  split at h
  · omega
  · omega

theorem ofWrong_len : ∀ {l : ZSet}, ofWrong l = 0 → ∀ z ∈ l, z.row.length ≤ 8
  | [], _, z, hz => by cases hz
  | a :: r, h, z, hz => by
    rw [ofWrong] at h
    split at h
    · rename_i h1; exact absurd h h1
    · rename_i h1
      split at h
      · omega
      · rcases List.mem_cons.1 hz with rfl | hz
        · exact rowWrong_len (by simpa using h1)
        · exact ofWrong_len h z hz

theorem s_zsets_Of (l : ZSet) (h : K [aS (zOf l).1, aI (zOf l).2] x) : CC n_zsets_Of [aS l] x K := by
  refine fnc g_zsets_Of rfl ?_
  conv => whnf
  intro hl0
  conv => whnf
  unfold zOf at h
  refine way_dec (fun h0 => ?_) (fun h0 => ?_)
  all_goals conv => whnf
  · rw [List.length_map] at h0
    rw [if_pos (by omega)] at h
    exact h
  · rw [List.length_map] at h0
    rw [if_neg (by omega)] at h
    intro hl
    conv => whnf
    refine loop (fun (i : Nat) => s_zsets_Of_l0 (aS l) (aS l) (aI (l.map encZ).length) (aI i) x) (fun i => l.length - i) (fun i => i ≤ l.length ∧ ofWrong (l.drop i) = ofWrong l) ?_ (0) ⟨Nat.zero_le _, rfl⟩
    intro i ⟨hi, hinv⟩ ih
    conv => whnf
    refine way_dec (fun h1 => ?_) (fun h1 => ?_)
    rotate_left
    all_goals conv => whnf
    rotate_left
    rotate_left
    obtain ⟨e, hge⟩ := ge_drop h1
    · rw [e, ofWrong] at hinv
      rw [if_neg (by rw [← hinv]; simp)] at h
      refine s_zsets_Sum l (fun z hz => by have := ofWrong_len hinv.symm z hz; omega) (by omega) ?_
      refine ⟨fun _ => rfl, ?_⟩
      conv => whnf
      exact h
    obtain ⟨a, r, e, e2, hlt⟩ := lt_drop h1
    refine ⟨encZ a, Int.natCast_nonneg _, at_drop encZ e, rfl, ?_⟩
    conv => whnf
    refine s_zsets_row a.row ?_
    refine ⟨fun _ => rfl, ?_⟩
    conv => whnf
    rw [e, ofWrong] at hinv
    refine way_ne (fun h2 => ?_) (fun h2 => ?_)
    all_goals conv => whnf
    · rw [if_pos h2] at hinv
      rw [← hinv, if_pos h2] at h
      exact h
    · rw [if_neg (by simpa using h2)] at hinv
      refine s_zsets_weight a.w ?_
      refine ⟨fun _ => rfl, ?_⟩
      conv => whnf
      refine way_not ?_
      refine way (fun h4 => ?_) (fun h4 => ?_)
      all_goals conv => whnf
      · rw [if_neg (by simp [h4])] at hinv
        rw [succ_map hl hlt]
        refine ih (i + 1) ⟨by omega, ?_⟩ (by omega)
        rw [e2]
        exact hinv
      · rw [if_pos h4] at hinv
        rw [← hinv, if_pos (by decide)] at h
        exact h

theorem valsWrong_or_len {r : Row} (h : rowWrong r = 0) : valsWrong r = 0 := by
  unfold rowWrong at h
  split at h
  · cases h
  · exact h

theorem zwGo_rows : ∀ {p : Option Row} {l : ZSet}, zwGo p l = 0 → ∀ z ∈ l, rowWrong z.row = 0 ∧ z.w ≠ 0 ∧ wOk z.w = true
  | _, [], _, z, hz => by cases hz
  | p, a :: r, h, z, hz => by
    rw [zwGo_cons] at h
    split at h
    · rename_i h1; exact absurd h h1
    · rename_i h1
      split at h
      · omega
      · rename_i h2
        have h3 : zwGo (some a.row) r = 0 := by
          cases p with
          | none => simpa using h
          | some q =>
            by_cases hq : 0 ≤ rowCmp q a.row
            · simp [hq] at h
            · simpa [hq] using h
        · rcases List.mem_cons.1 hz with rfl | hz
          · refine ⟨by simpa using h1, fun e => h2 (.inl e), ?_⟩
            cases hw : wOk z.w with
            | true => rfl
            | false => exact absurd (.inr hw) h2
          · exact zwGo_rows h3 z hz

theorem zWrong_rows {l : ZSet} (h : zWrong l = 0) : ∀ z ∈ l, rowWrong z.row = 0 ∧ z.w ≠ 0 ∧ wOk z.w = true := by
  unfold zWrong at h
  split at h
  · omega
  · exact zwGo_rows h

theorem s_zsets_each (z : ZSet) (f : Int → Int) (g : Nat) (hg : ∀ (w : Int) (x : Sto) (K : List A → Sto → Prop), K [aI (f w)] x → CC g [aI w] x K) (h : K [aS (zEach z f).1, aI (zEach z f).2] x) : CC n_zsets_each [aS z, .fn g []] x K := by
  have hmaxB : maxB = 140737488355328 := rfl
  have hmax : maxI = 9223372036854775807 := rfl
  refine fnc g_zsets_each rfl ?_
  conv => whnf
  refine s_zsets_right [z] ?_
  refine ⟨fun _ => rfl, ?_⟩
  conv => whnf
  unfold zEach at h
  refine way_ne (fun h0 => ?_) (fun h0 => ?_)
  all_goals conv => whnf
  · have e0 : zWrongs [z] = zWrong z := by
      simp only [zWrongs]
      by_cases hz : zWrong z = 0 <;> simp [hz]
    rw [e0] at h0 ⊢
    rw [if_pos h0] at h
    exact h
  · have e0 : zWrong z = 0 := by
      simp only [zWrongs] at h0
      by_cases hz : zWrong z = 0
      · exact hz
      · simp [hz] at h0
    rw [if_neg (by simpa using e0)] at h
    have hzl := zWrong_len e0
    have hzr := zWrong_rows e0
    intro hl
    conv => whnf
    refine loop (fun (t : Nat × ZSet) => s_zsets_each_l0 (.fn g []) (.gs (.L 7) (t.2.map encZ)) (aS z) (aI (z.map encZ).length) (aI t.1) (.tok ty_api_ZRow 2 (t.2.map encZ).length) x) (fun t => z.length - t.1) (fun t => t.1 ≤ z.length ∧ t.2.length ≤ t.1 ∧ t.2 ++ eachGo f (z.drop t.1) = eachGo f z) ?_ (0, []) ⟨Nat.zero_le _, Nat.le_refl _, rfl⟩
    conv => whnf
    rintro ⟨i, out⟩ ⟨hi, ho, hinv⟩ ih
    dsimp only at hi ho hinv ih ⊢
    conv => whnf
    refine way_dec (fun g1 => ?_) (fun g1 => ?_)
    all_goals conv => whnf
    · obtain ⟨a, q, e, e2, hlt⟩ := lt_drop g1
      refine ⟨encZ a, Int.natCast_nonneg _, at_drop encZ e, rfl, ?_⟩
      conv => whnf
      refine hg a.w _ _ ?_
      refine ⟨fun _ => rfl, ?_⟩
      conv => whnf
      rw [e, eachGo] at hinv
      refine way_ne (fun h2 => ?_) (fun h2 => ?_)
      all_goals conv => whnf
      · rw [if_pos h2] at hinv
        refine s_zsets_bare a.row (by have := rowWrong_len (hzr a (mem_drop e)).1; omega) ?_
        refine ⟨fun _ => rfl, ?_⟩
        conv => whnf
        refine ⟨rfl, rfl, rfl, sl_one encZ 2 (fun _ => rfl) ⟨rowBare a.row, f a.w⟩, by simp only [List.length_map, List.length_cons, List.length_nil]; omega, by simp only [List.length_map, List.length_cons, List.length_nil]; omega, ?_⟩
        conv => whnf
        rw [tok_snoc, snoc_map encZ out ⟨rowBare a.row, f a.w⟩ rfl, succ_map hl hlt]
        exact ih (i + 1, out ++ [⟨rowBare a.row, f a.w⟩]) ⟨by dsimp only; omega, by simp; omega, by dsimp only; rw [e2, ← hinv]; simp⟩ (by dsimp only; omega)
      · rw [if_neg (by simpa using h2)] at hinv
        rw [succ_map hl hlt]
        exact ih (i + 1, out) ⟨by dsimp only; omega, by dsimp only; omega, by dsimp only; rw [e2]; exact hinv⟩ (by dsimp only; omega)
    · obtain ⟨e, hge⟩ := ge_drop g1
      rw [e, eachGo, List.append_nil] at hinv
      rw [← hinv] at h
      exact h

theorem s_zsets_Positive_1 (w : Int) (h : K [aI (posW w)] x) : CC n_zsets_Positive_1 [aI w] x K := by
  refine fnc g_zsets_Positive_1 rfl ?_
  conv => whnf
  refine ⟨rfl, ?_⟩
  exact h

theorem s_zsets_Positive (z : ZSet) (h : K [aS (zPositive z).1, aI (zPositive z).2] x) : CC n_zsets_Positive [aS z] x K := by
  refine fnc g_zsets_Positive rfl ?_
  conv => whnf
  refine s_zsets_each z posW n_zsets_Positive_1 (fun w x K h => s_zsets_Positive_1 w h) ?_
  refine ⟨fun _ => rfl, ?_⟩
  conv => whnf
  exact h
end Go.Tide

/- Rows of a window's parts, and groups, told as cells. -/
set_option linter.unusedVariables false
namespace Go.Tide

/-- A row that stands in a part. -/
structure Line where
  part : Row
  key : Row
  row : Row
  deriving Inhabited

abbrev pLn (l : Line) : A := .pim [.sl (l.part.map encV), .sl (l.key.map encV), .sl (l.row.map encV)] 0
abbrev encLn (l : Line) : List A := [pLn l]

/-- Rows with the same key. -/
structure Grp where
  key : Row
  rows : ZSet
  deriving Inhabited

abbrev encGr (g : Grp) : List A := [.sl (g.key.map encV), .sl (g.rows.map encZ)]
abbrev aGr (g : Grp) : A := .agg (encGr g)
end Go.Tide

/- What is done with sets, in plain Lean: types, rows that fit, values. -/
set_option linter.unusedVariables false
namespace Go.Tide

def fitsGo : Row → List Int → Int
  | v :: r, c :: cs => if v.wrong ≠ 0 then v.wrong else if v.kind ≠ 1 ∧ v.kind ≠ c then 9 else fitsGo r cs
  | _, _ => 0

def rowFits (cols : List Int) (r : Row) : Int := if r.length ≠ cols.length then 8 else fitsGo r cols

def typesGo (cols : List Int) : List Expr → List Int × Int
  | [] => ([], 0)
  | x :: r => if (typeOf cols x).2 ≠ 0 then ([], (typeOf cols x).2) else if (typesGo cols r).2 ≠ 0 then ([], (typesGo cols r).2) else ((typeOf cols x).1 :: (typesGo cols r).1, 0)

def opsTypes (cols : List Int) (xs : List Expr) : List Int × Int := if 8 < xs.length then ([], 5) else typesGo cols xs

def inGo (cols : List Int) : ZSet → Int
  | [] => 0
  | z :: r => if rowFits cols z.row ≠ 0 then rowFits cols z.row else inGo cols r

def opsInput (cols : List Int) (z : ZSet) : Int := if 8 < cols.length then 5 else if zWrong z ≠ 0 then zWrong z else inGo cols z

def valuesOf (xs : List Expr) (row : Row) : Row := xs.map (Expr.eval row)

/-- The type of what a window tells, and what is wrong. -/
def winT (cols : List Int) (w : Agg) : Int × Int :=
  if w.kind = 1 ∨ w.kind = 2 ∨ w.kind = 3 then (3, 0)
  else if w.kind = 4 ∨ w.kind = 5 then
    (if (typeOf cols w.x).2 ≠ 0 then (0, (typeOf cols w.x).2) else if w.kind = 4 ∧ (typeOf cols w.x).1 ≠ 3 ∧ (typeOf cols w.x).1 ≠ 1 then (0, 9)
      else (if w.kind = 5 then (typeOf cols w.x).1 else 3, 0))
  else (0, 1)

def winTypes (cols : List Int) : List Agg → List Int × Int
  | [] => ([], 0)
  | w :: r => if (winT cols w).2 ≠ 0 then ([], (winT cols w).2) else if (winTypes cols r).2 ≠ 0 then ([], (winTypes cols r).2) else ((winT cols w).1 :: (winTypes cols r).1, 0)

end Go.Tide

/- What is done with sets: what each function comes to. -/
set_option linter.unusedVariables false
namespace Go.Tide
variable {x : Sto} {K : List A → Sto → Prop}

theorem s_exprs_Fits (cols : List Int) (r : Row) (h : K [aI (rowFits cols r)] x) : CC n_exprs_Fits [aIs cols, aR r] x K := by
  refine fnc g_exprs_Fits rfl ?_
  conv => whnf
  intro hl0
  conv => whnf
  intro hl1
  conv => whnf
  unfold rowFits at h
  refine way_ne (fun h0 => ?_) (fun h0 => ?_)
  all_goals conv => whnf
  · rw [List.length_map, List.length_map] at h0
    rw [if_pos (by omega)] at h
    exact h
  · rw [List.length_map, List.length_map] at h0
    have h00 : r.length = cols.length := by omega
    rw [if_neg (by omega)] at h
    intro hl
    conv => whnf
    refine loop (fun (i : Nat) => s_exprs_Fits_l0 (aIs cols) (aR r) (aI (r.map encV).length) (aI i) x) (fun i => r.length - i) (fun i => i ≤ r.length ∧ fitsGo (r.drop i) (cols.drop i) = fitsGo r cols) ?_ (0) ⟨Nat.zero_le _, rfl⟩
    intro i ⟨hi, hinv⟩ ih
    conv => whnf
    refine way_dec (fun h1 => ?_) (fun h1 => ?_)
    rotate_left
    all_goals conv => whnf
    rotate_left
    rotate_left
    obtain ⟨e, hge⟩ := ge_drop h1
    · rw [e, fitsGo] at hinv
      · rw [← hinv] at h
        exact h
      · simp
    obtain ⟨v, q, e, e2, hlt⟩ := lt_drop h1
    obtain ⟨c, cs, f, f2, hlt2⟩ : ∃ a r, cols.drop i = a :: r ∧ cols.drop (i + 1) = r ∧ i < cols.length := ⟨cols[i]'(by omega), cols.drop (i + 1), List.drop_eq_getElem_cons (by omega), rfl, by omega⟩
    rw [e, f, fitsGo] at hinv
    refine ⟨encV v, Int.natCast_nonneg _, at_drop encV e, rfl, ?_⟩
    conv => whnf
    refine s_vals_Wrong v ?_
    refine ⟨fun _ => rfl, ?_⟩
    conv => whnf
    refine way_ne (fun h2 => ?_) (fun h2 => ?_)
    all_goals conv => whnf
    · rw [if_pos h2] at hinv
      rw [← hinv] at h
      exact h
    · rw [if_neg (by simpa using h2)] at hinv
      refine way_ne (fun h3 => ?_) (fun h3 => ?_)
      all_goals conv => whnf
      · refine ⟨encI c, Int.natCast_nonneg _, at_drop encI f, rfl, ?_⟩
        conv => whnf
        refine way_ne (fun h4 => ?_) (fun h4 => ?_)
        all_goals conv => whnf
        · rw [if_pos ⟨h3, h4⟩] at hinv
          rw [← hinv] at h
          exact h
        · rw [if_neg (fun e => e.2 h4)] at hinv
          rw [succ_map hl hlt]
          refine ih (i + 1) ⟨by omega, ?_⟩ (by omega)
          rw [e2, f2]
          exact hinv
      · rw [if_neg (fun e => e.1 h3)] at hinv
        rw [succ_map hl hlt]
        refine ih (i + 1) ⟨by omega, ?_⟩ (by omega)
        rw [e2, f2]
        exact hinv

theorem typesGo_norm (cols : List Int) (xs : List Expr) : typesGo cols xs = if (typesGo cols xs).2 ≠ 0 then ([], (typesGo cols xs).2) else ((typesGo cols xs).1, 0) := by
  by_cases hz : (typesGo cols xs).2 ≠ 0
  · rw [if_pos hz]
    cases xs with
    | nil => simp [typesGo] at hz
    | cons y r =>
      rw [typesGo] at hz ⊢
      split
      · rfl
      · split
        · rfl
        · rename_i g1 g2; rw [if_neg g1, if_neg g2] at hz; simp at hz
  · rw [if_neg hz]
    have : (typesGo cols xs).2 = 0 := by simpa using hz
    rw [← this]

theorem s_ops_Types (cols : List Int) (xs : List Expr) (h : K [aIs (opsTypes cols xs).1, aI (opsTypes cols xs).2] x) : CC n_ops_Types [aIs cols, aEs xs] x K := by
  have hmaxB : maxB = 140737488355328 := rfl
  have hmax : maxI = 9223372036854775807 := rfl
  refine fnc g_ops_Types rfl ?_
  conv => whnf
  intro hl0
  conv => whnf
  unfold opsTypes at h
  rw [encEs_map] at *
  refine way_dec (fun h0 => ?_) (fun h0 => ?_)
  all_goals conv => whnf
  · rw [List.length_map] at h0
    rw [if_pos (by omega)] at h
    exact h
  · rw [List.length_map] at h0
    rw [if_neg (by omega)] at h
    intro hl
    conv => whnf
    rw [encEs_map] at *
    refine loop (fun (t : Nat × List Int) => s_ops_Types_l0 (aIs cols) (.gs (.L 6) (t.2.map encI)) (.sl (xs.map encE)) (aI (xs.map encE).length) (aI t.1) (.tok ty_int 1 (t.2.map encI).length) x) (fun t => xs.length - t.1) (fun t => t.1 ≤ xs.length ∧ t.2.length = t.1 ∧ typesGo cols xs = (if (typesGo cols (xs.drop t.1)).2 ≠ 0 then ([], (typesGo cols (xs.drop t.1)).2) else (t.2 ++ (typesGo cols (xs.drop t.1)).1, 0))) ?_ (0, []) ⟨Nat.zero_le _, rfl, by simpa using typesGo_norm cols xs⟩
    conv => whnf
    rintro ⟨i, out⟩ ⟨hi, ho, hinv⟩ ih
    dsimp only at hi ho hinv ih ⊢
    conv => whnf
    refine way_dec (fun g1 => ?_) (fun g1 => ?_)
    all_goals conv => whnf
    · obtain ⟨y, q, e, e2, hlt⟩ := lt_drop g1
      obtain ⟨k, v, c, l⟩ := y
      refine ⟨encE (.mk k v c l), Int.natCast_nonneg _, at_drop encE e, rfl, ?_⟩
      conv => whnf
      refine s_exprs_Type cols (.mk k v c l) ?_
      refine ⟨fun _ => rfl, ?_⟩
      conv => whnf
      rw [e, typesGo] at hinv
      generalize hT : typeOf cols (.mk k v c l) = T at hinv ⊢
      refine way_ne (fun h2 => ?_) (fun h2 => ?_)
      all_goals conv => whnf
      · have hv : typesGo cols xs = ([], T.2) := by rw [hinv]; simp [h2]
        rw [hv] at h
        exact h
      · refine ⟨rfl, rfl, rfl, sl_one encI 1 (fun _ => rfl) T.1, by simp only [List.length_map, List.length_cons, List.length_nil]; omega, by simp only [List.length_map, List.length_cons, List.length_nil]; omega, ?_⟩
        conv => whnf
        rw [tok_snoc, snoc_map encI out T.1 rfl, succ_map hl hlt]
        refine ih (i + 1, out ++ [T.1]) ⟨by dsimp only; omega, by simp; omega, ?_⟩ (by dsimp only; omega)
        dsimp only
        rw [e2, hinv]
        by_cases g3 : (typesGo cols q).2 = 0
        · simp [g3, h2]
        · simp [g3, h2]
    · obtain ⟨e, hge⟩ := ge_drop g1
      rw [e, typesGo, if_neg (by simp), List.append_nil] at hinv
      rw [hinv] at h
      exact h

theorem s_ops_Input (cols : List Int) (z : ZSet) (h : K [aI (opsInput cols z)] x) : CC n_ops_Input [aIs cols, aS z] x K := by
  refine fnc g_ops_Input rfl ?_
  conv => whnf
  intro hl0
  conv => whnf
  unfold opsInput at h
  refine way_dec (fun h0 => ?_) (fun h0 => ?_)
  all_goals conv => whnf
  · rw [List.length_map] at h0
    rw [if_pos (by omega)] at h
    exact h
  · rw [List.length_map] at h0
    rw [if_neg (by omega)] at h
    refine s_zsets_Wrong z ?_
    refine ⟨fun _ => rfl, ?_⟩
    conv => whnf
    refine way_ne (fun h2 => ?_) (fun h2 => ?_)
    all_goals conv => whnf
    · rw [if_pos h2] at h
      exact h
    · rw [if_neg (by simpa using h2)] at h
      intro hl
      conv => whnf
      refine loop (fun (i : Nat) => s_ops_Input_l0 (aIs cols) (aS z) (aI (z.map encZ).length) (aI i) x) (fun i => z.length - i) (fun i => i ≤ z.length ∧ inGo cols (z.drop i) = inGo cols z) ?_ (0) ⟨Nat.zero_le _, rfl⟩
      intro i ⟨hi, hinv⟩ ih
      conv => whnf
      refine way_dec (fun h1 => ?_) (fun h1 => ?_)
      rotate_left
      all_goals conv => whnf
      rotate_left
      rotate_left
      obtain ⟨e, hge⟩ := ge_drop h1
      · rw [← hinv, e] at h
        exact h
      obtain ⟨a, r, e, e2, hlt⟩ := lt_drop h1
      refine ⟨encZ a, Int.natCast_nonneg _, at_drop encZ e, rfl, ?_⟩
      conv => whnf
      refine s_exprs_Fits cols a.row ?_
      refine ⟨fun _ => rfl, ?_⟩
      conv => whnf
      refine way_ne (fun h4 => ?_) (fun h4 => ?_)
      all_goals conv => whnf
      · rw [← hinv, e, inGo, if_pos h4] at h
        exact h
      · rw [succ_map hl hlt]
        refine ih (i + 1) ⟨by omega, ?_⟩ (by omega)
        rw [e2, ← hinv, e, inGo, if_neg (by simpa using h4)]

theorem s_ops_Values (xs : List Expr) (row : Row) (hx : ∀ y ∈ xs, y.Ok) (hr : row.Right) (hn : xs.length ≤ 1000) (h : K [aR (valuesOf xs row)] x) : CC n_ops_Values [aEs xs, aR row] x K := by
  have hmaxB : maxB = 140737488355328 := rfl
  have hmax : maxI = 9223372036854775807 := rfl
  refine fnc g_ops_Values rfl ?_
  conv => whnf
  intro hl
  conv => whnf
  rw [encEs_map] at *
  refine loop (fun (t : Nat × Row) => s_ops_Values_l0 (.sl (xs.map encE)) (aR row) (.gs (.L 5) (t.2.map encV)) (aI (xs.map encE).length) (aI t.1) (.tok ty_api_Val 3 (t.2.map encV).length) x) (fun t => xs.length - t.1) (fun t => t.1 ≤ xs.length ∧ t.2 = (xs.take t.1).map (Expr.eval row)) ?_ (0, []) ⟨Nat.zero_le _, rfl⟩
  conv => whnf
  rintro ⟨i, out⟩ ⟨hi, hinv⟩ ih
  dsimp only at hi hinv ih ⊢
  have ho : out.length = i := by rw [hinv]; simp; omega
  conv => whnf
  refine way_dec (fun g1 => ?_) (fun g1 => ?_)
  all_goals conv => whnf
  · obtain ⟨y, q, e, e2, hlt⟩ := lt_drop g1
    refine ⟨encE y, Int.natCast_nonneg _, at_drop encE e, encE_len y, ?_⟩
    conv => whnf
    refine s_exprs_Of (hx y (mem_drop e)) row _ _ hr ?_
    refine ⟨fun _ => rfl, ?_⟩
    conv => whnf
    refine ⟨rfl, rfl, rfl, sl_one encV 3 (fun _ => rfl) (y.eval row), by simp only [List.length_map, List.length_cons, List.length_nil]; omega, by simp only [List.length_map, List.length_cons, List.length_nil]; omega, ?_⟩
    conv => whnf
    rw [tok_snoc, snoc_map encV out (y.eval row) rfl, succ_map hl hlt]
    exact ih (i + 1, out ++ [y.eval row]) ⟨by dsimp only; omega, by dsimp only; rw [take_snoc e, hinv]; simp⟩ (by dsimp only; omega)
  · obtain ⟨e, hge⟩ := ge_drop g1
    rw [List.take_of_length_le hge] at hinv
    rw [valuesOf, ← hinv] at h
    exact h
end Go.Tide
