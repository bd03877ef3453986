/- Part 4 of the proof's ground: Working with the abstract semantics: code, loops, calls. -/
import Derived.ChangeArms
import GoSem.ClaimDataLaid
import Derived.Test.YtfalonfjpihgeaaTide3

/- Working with the abstract semantics: code, loops, calls. -/
set_option linter.unusedSimpArgs false
set_option linter.unusedVariables false
namespace Go.Tide

section
variable {C C' : CallSem}

theorem semD_mono (hC : CMono C C') {op : IOp} {d : Nat} {s : St} {K K' : A → St → Prop} (hK : ∀ x s, K x s → K' x s) (h : semD C op d s K) : semD C' op d s K' := by
  cases op
  case isnil ptr neg x =>
    simp only [semD] at h ⊢
    split at h
    · exact hK _ _ h
    · exact h.elim
  case len str x =>
    cases str with
    | false => simp only [semD] at h ⊢; split at h <;> first | exact h.elim | exact hK _ _ h
    | true => simp only [semD] at h ⊢; split at h <;> first | exact h.elim | exact hK _ _ h
  case call f args foot ro take =>
    cases ro with
    | false => simp only [semD] at h ⊢; exact sem_mono hC hK h
    | true =>
      simp only [semD] at h ⊢
      split at h
      · rw [evL_iff] at h ⊢
        cases foot with
        | none =>
          simp only [callD] at h ⊢
          obtain ⟨rs, h1, h2⟩ := h
          exact ⟨rs, hC _ _ _ _ _ (fun _ _ h => h) h1, takeK_mono (fun _ _ => hK _ _) h2⟩
        | some ids =>
          simp only [callD] at h ⊢
          refine footS_mono (fun x h => ?_) h
          obtain ⟨rs, h1, h2⟩ := h
          exact ⟨rs, hC _ _ _ _ _ (fun _ _ h => h) h1, footR_mono (takeK_mono (fun _ _ => hK _ _)) h2⟩
      · exact h.elim
  all_goals (simp only [semD] at h ⊢; exact sem_mono hC hK h)

theorem fin_mono {g : GOp} {K K' : St → Prop} (hK : ∀ s, K s → K' s) (x : A) (s : St) (h : g.fin K x s) : g.fin K' x s := by
  unfold GOp.fin at h ⊢
  cases hd : g.dst with
  | none => rw [hd] at h; exact hK _ h
  | some d =>
    rw [hd] at h
    obtain ⟨e, l, xx⟩ := s
    simp only [forceA_iff] at h ⊢
    exact hK _ h

theorem wp_mono_op (hC : CMono C C') {g : GOp} {K K' : St → Prop} (hK : ∀ s, K s → K' s) {s : St} (h : g.wp C K s) : g.wp C' K' s := by
  cases hg : g.guard with
  | none =>
    simp only [GOp.wp_eq, GOp.wp0, hg] at h ⊢
    exact sem_mono hC (fin_mono hK) h
  | some p =>
    obtain ⟨r, want⟩ := p
    simp only [GOp.wp_eq, GOp.wp0, hg] at h ⊢
    split at h
    · rename_i b hb
      cases hbw : b == want with
      | true => rw [hbw] at h; simp only [cond_true] at h ⊢; exact sem_mono hC (fin_mono hK) h
      | false => rw [hbw] at h; simp only [cond_false] at h ⊢; exact fin_mono hK _ _ h
    · exact fin_mono hK _ _ h
    · exact h

theorem wpD_mono_op (hC : CMono C C') {g : GOp} {K K' : St → Prop} (hK : ∀ s, K s → K' s) {s : St} (h : g.wpD C K s) : g.wpD C' K' s := by
  cases hg : g.guard with
  | none =>
    simp only [GOp.wpD_eq, GOp.wpD0, hg] at h ⊢
    exact semD_mono hC (fin_mono hK) h
  | some p =>
    obtain ⟨r, want⟩ := p
    simp only [GOp.wpD_eq, GOp.wpD0, hg] at h ⊢
    split at h
    · rename_i b hb
      cases hbw : b == want with
      | true => rw [hbw] at h; simp only [cond_true] at h ⊢; exact semD_mono hC (fin_mono hK) h
      | false => rw [hbw] at h; simp only [cond_false] at h ⊢; exact fin_mono hK _ _ h
    · exact fin_mono hK _ _ h
    · exact h

theorem wpo_mono (hC : CMono C C') : ∀ (ops : List GOp) (K K' : St → Prop) (s : St), (∀ s, K s → K' s) → wpo C ops K s → wpo C' ops K' s
  | [], K, K', s, hK, h => hK _ h
  | g :: r, K, K', s, hK, h => wp_mono_op hC (fun s => wpo_mono hC r K K' s hK) h

theorem wpd_mono (hC : CMono C C') : ∀ (ops : List GOp) (K K' : St → Prop) (s : St), (∀ s, K s → K' s) → wpd C ops K s → wpd C' ops K' s
  | [], K, K', s, hK, h => hK _ h
  | g :: r, K, K', s, hK, h => wpD_mono_op hC (fun s => wpd_mono hC r K K' s hK) h

theorem keepK_mono {ts os : List Nat} {s : St} {k k' : St → Prop} (h : ∀ s, k s → k' s) (hs : keepK ts os s k) : keepK ts os s k' := by
  rw [keepK_iff] at hs ⊢
  exact h _ hs

theorem frzK_mono {m : Nat} {ts os : List Nat} {s : St} {k k' : St → Prop} (h : ∀ s, k s → k' s) (hs : frzK m ts os s k) : frzK m ts os s k' := by
  obtain ⟨e, l, x⟩ := s
  unfold frzK at hs ⊢
  dsimp only at hs ⊢
  split at hs
  · cases hb : os.any (Nat.beq m) with
    | true => rw [hb] at hs; exact hs
    | false =>
      rw [hb] at hs
      simp only [cond_false] at hs ⊢
      rw [keepE_iff, keepS_iff] at hs ⊢
      exact h _ hs
  · exact hs

theorem wpc_mono (hC : CMono C C') : ∀ (c : IC) (Q Q' : Ex → St → Prop) (s : St), (∀ e s, Q e s → Q' e s) → wpc C c Q s → wpc C' c Q' s := by
  intro c
  induction c with
  | skip => intro Q Q' s hQ h; exact hQ _ _ h
  | seq a b iha ihb =>
    intro Q Q' s hQ h
    refine iha _ _ s (fun e s' h => ?_) h
    cases e with
    | normal => exact ihb _ _ s' hQ h
    | exit i => exact hQ _ _ h
    | ret => exact hQ _ _ h
  | reg ops => intro Q Q' s hQ h; exact wpo_mono hC ops _ _ s (hQ .normal) h
  | dreg ops => intro Q Q' s hQ h; exact wpd_mono hC ops _ _ s (hQ .normal) h
  | cond x a b iha ihb =>
    intro Q Q' s hQ h
    simp only [wpc] at h ⊢
    split at h
    · rename_i t ht
      cases t
      · exact ihb _ _ _ hQ h
      · exact iha _ _ _ hQ h
    · exact h
  | block id c ih =>
    intro Q Q' s hQ h
    refine ih _ _ s (fun e s' h => ?_) h
    cases e with
    | normal => exact hQ _ _ h
    | exit i =>
      cases hb : Nat.beq i id with
      | true => simp only [blkQ, hb, cond_true] at h ⊢; exact hQ _ _ h
      | false => simp only [blkQ, hb, cond_false] at h ⊢; exact hQ _ _ h
    | ret => exact hQ _ _ h
  | loop c ih =>
    intro Q Q' s hQ h
    simp only [wpc] at h ⊢
    unfold Loop at h ⊢
    intro I hI
    refine h I fun s hs => hI s (ih _ _ s (fun e s' h => ?_) hs)
    cases e with
    | normal => exact h
    | exit i => exact hQ _ _ h
    | ret => exact hQ _ _ h
  | exit id => intro Q Q' s hQ h; exact hQ _ _ h
  | ret => intro Q Q' s hQ h; exact hQ _ _ h
  | keep ts os => intro Q Q' s hQ h; exact keepK_mono (hQ .normal) h
  | frz i ts os => intro Q Q' s hQ h; exact frzK_mono (hQ .normal) h

theorem CMono.refl_of (h : ∀ f as x (K K' : List A → Sto → Prop), (∀ rs t, K rs t → K' rs t) → C f as x K → C f as x K') : CMono C C := h

/-- One round of a loop. -/
theorem Loop_step (hC : CMono C C) {c : IC} {Q : Ex → St → Prop} {s : St} (h : wpc C c (thenQ (Loop (wpc C c) Q) Q) s) : Loop (wpc C c) Q s := by
  unfold Loop
  intro I hI
  refine hI s (wpc_mono hC c _ _ s (fun e s' h => ?_) h)
  cases e with
  | normal =>
    unfold Loop at h
    exact h I hI
  | exit i => exact h
  | ret => exact h

theorem retA_mono {own : Bool} {s : St} {x : A} {k k' : A → St → Prop} (h : ∀ a s, k a s → k' a s) (hs : retA own s x k) : retA own s x k' := by
  revert hs
  unfold retA
  split
  · cases own with
    | false => exact h _ _
    | true =>
      simp only
      split
      · exact fun hs => ⟨hs.1, h _ _ hs.2⟩
      · exact id
  · split
    · exact fun hs => ⟨hs.1, h _ _ hs.2⟩
    · exact id
  · split
    · rw [forceL_iff, forceL_iff]; exact h _ _
    · exact id
  · rw [forceA_iff, forceA_iff]; exact h _ _

theorem resK_mono : ∀ (rs : List Res) (s : St) (k k' : List A → St → Prop), (∀ l s, k l s → k' l s) → resK s rs k → resK s rs k'
  | [], s, k, k', h, hs => h _ _ hs
  | .tmp t own :: r, s, k, k', h, hs => retA_mono (fun _ _ => resK_mono r _ _ _ (fun _ _ => h _ _)) hs
  | .cell t n :: r, s, k, k', h, hs => loadK_mono (fun _ => retA_mono (fun _ _ => resK_mono r _ _ _ (fun _ _ => h _ _))) hs

theorem Body_mono (hC : CMono C C') {Γ : Nat → Option IFn} {f : Nat} {as : List A} {x : Sto} {K K' : List A → Sto → Prop} (hK : ∀ rs t, K rs t → K' rs t) (h : Body Γ C f as x K) : Body Γ C' f as x K' := by
  unfold Body at h ⊢
  split at h
  · refine ⟨h.1, wpc_mono hC _ _ _ _ (fun e s hs => ?_) h.2⟩
    cases e with
    | normal => exact resK_mono _ _ _ _ (fun _ _ => hK _ _) hs
    | ret => exact resK_mono _ _ _ _ (fun _ _ => hK _ _) hs
    | exit i => exact hs
  · exact h

/-- Calls hold of more, for more. -/
theorem Call_mono (Γ : Nat → Option IFn) {B : CallSem} (hB : CMono B B) : CMono (Call Γ B) (Call Γ B) := by
  intro f as x K K' hK h
  have key : ∀ K', (∀ rs t, K rs t → K' rs t) → Call Γ B f as x K' := by
    unfold Call at h
    refine h (fun f as x K => ∀ K', (∀ rs t, K rs t → K' rs t) → Call Γ B f as x K') fun f as x K h K' hK => ?_
    unfold Call
    intro C hC
    refine hC f as x K' (h.imp (fun h => hB _ _ _ _ _ hK h) fun h => ?_)
    refine Body_mono (fun f as x K K' hK h => ?_) hK h
    have := h K' hK
    unfold Call at this
    exact this C hC
  exact key K' hK

/-- A call is entered. -/
theorem Call_body {Γ : Nat → Option IFn} {B : CallSem} {f : Nat} {as : List A} {x : Sto} {K : List A → Sto → Prop} (hB : CMono B B) (h : Body Γ (Call Γ B) f as x K) : Call Γ B f as x K := by
  unfold Call
  intro C hC
  refine hC f as x K (.inr (Body_mono (fun f as x K K' hK h => ?_) (fun _ _ h => h) h))
  have := Call_mono Γ hB f as x K K' hK h
  unfold Call at this
  exact this C hC

theorem Call_base {Γ : Nat → Option IFn} {B : CallSem} {f : Nat} {as : List A} {x : Sto} {K : List A → Sto → Prop} (h : B f as x K) : Call Γ B f as x K := by
  unfold Call
  exact fun C hC => hC f as x K (.inl h)
end
end Go.Tide

/- What a statement's reading says of its arguments: plain data, of the shape of its type. -/
set_option linter.unusedSimpArgs false
set_option linter.unusedVariables false
namespace Go.Tide

/-- The cells of a value of a type, told by what they lead to. -/
inductive Ty (P : Program) : TypeId → List A → Prop
  | bool {t : TypeId} (b : Bool) : P.underlying t = some .bool → Ty P t [.bool b]
  | int {t : TypeId} {k : IntKind} (n : Int) : P.underlying t = some (.int k) → (Lit.int k n).wf = true → Ty P t [.int k n]
  | str {t : TypeId} (s : ByteArray) : P.underlying t = some .string → s.size ≤ maxLen → Ty P t [.str s]
  | slice {t e : TypeId} (xs : List (List A)) : P.underlying t = some (.slice e) → (∀ x ∈ xs, Ty P e x) → Ty P t [.sl xs]
  | struct {t : TypeId} {fs : Array Field} (parts : List (List A)) : P.underlying t = some (.struct fs) → parts.length = fs.size → (∀ (j : Nat) (f : Field) (p : List A), fs[j]? = some f → parts[j]? = some p → Ty P f.type p) → Ty P t parts.flatten

/-- Types of plain data alone, closed under what they hold. -/
def closedT (P : Program) (T : List TypeId) : Bool :=
  T.all fun t => match P.underlying t with
    | some .bool => true
    | some (.int _) => true
    | some .string => true
    | some (.slice e) => T.contains e && decide (0 < P.cellsOf e)
    | some (.struct fs) => fs.toList.all (fun f => T.contains f.type) && P.cellsOf t == (fs.toList.map fun f => P.cellsOf f.type).sum &&
        (List.range fs.toList.length).all fun j => match fs.toList[j]? with | some f => f.offset == ((fs.toList.take j).map fun f => P.cellsOf f.type).sum | none => true
    | _ => false

theorem cells?_get {w : World} {base : Nat} {a : Addr} {n : Nat} {cs : List Value} (h : w.cells? base a n = some cs) : cs.length = n ∧ ∀ i, i < n → w.cell? (a.add i) = cs[i]? := by
  unfold World.cells? at h
  split at h
  · exact ⟨by simpa using mapM_some_length h, fun i hi => mapM_some_get h i i (by simp [hi])⟩
  · cases h

theorem add_spot {w : World} {a : Addr} {n : Nat} {v : Value} (h : w.cell? (a.add n) = some v) : w.cell? ⟨a.block, a.off + n, none⟩ = some v := by
  unfold Addr.add at h
  split at h
  · rename_i h0
    subst h0
    unfold World.cell? at h ⊢
    split at h
    · rename_i c t f hc
      split at h
      · cases h
      · simp only [hc]
        simpa using h
    · cases h
  · exact h

def noZone : Zone := fun _ _ => False

/-- Cells told one by one. -/
def RL (w : World) (as : List A) (cs : List Value) : Prop :=
  as.length = cs.length ∧ ∀ (j : Nat) (y : A) (v : Value), as[j]? = some y → cs[j]? = some v → Imm w noZone y v ∧ v.oneCell' = true

theorem RL.one {w : World} {y : A} {v : Value} (h : Imm w noZone y v) (ho : v.oneCell' = true) : RL w [y] [v] := by
  refine ⟨rfl, fun j y' v' hy hv => ?_⟩
  cases j with
  | zero => simp at hy hv; subst hy; subst hv; exact ⟨h, ho⟩
  | succ j => simp at hy

theorem RL.append {w : World} {as bs : List A} {cs ds : List Value} (h : RL w as cs) (k : RL w bs ds) : RL w (as ++ bs) (cs ++ ds) := by
  refine ⟨by simp [h.1, k.1], fun j y v hy hv => ?_⟩
  rw [List.getElem?_append] at hy hv
  rw [← h.1] at hv
  split at hy
  · rename_i hj
    rw [if_pos hj] at hv
    exact h.2 j y v hy hv
  · rename_i hj
    rw [if_neg hj] at hv
    exact k.2 _ y v hy hv

theorem parts_rel {P : Program} {w : World} {cs : List Value} : ∀ (fs : List Field) (o : Nat), (∀ (j : Nat) (f : Field), fs[j]? = some f → f.offset = o + ((fs.take j).map fun f => P.cellsOf f.type).sum) → o + (fs.map fun f => P.cellsOf f.type).sum = cs.length →
    (∀ (j : Nat) (f : Field), fs[j]? = some f → ∃ p, Ty P f.type p ∧ RL w p ((cs.drop f.offset).take (P.cellsOf f.type))) →
    ∃ parts : List (List A), parts.length = fs.length ∧ (∀ (j : Nat) (f : Field) (p : List A), fs[j]? = some f → parts[j]? = some p → Ty P f.type p) ∧ RL w parts.flatten (cs.drop o)
  | [], o, _, hl, _ => ⟨[], rfl, by simp, by
      simp at hl
      rw [List.flatten_nil, List.drop_eq_nil_of_le (by omega)]
      exact ⟨rfl, by simp⟩⟩
  | f :: r, o, ho, hl, h => by
    have h0 := ho 0 f (by simp)
    simp only [List.take_zero, List.map_nil, List.sum_nil, Nat.add_zero] at h0
    obtain ⟨p, hp, hr⟩ := h 0 f (by simp)
    simp only [List.map_cons, List.sum_cons] at hl
    obtain ⟨parts, h1, h2, h3⟩ := parts_rel r (o + P.cellsOf f.type) (fun j g hg => by
      have := ho (j + 1) g (by simpa using hg)
      simp only [List.take_succ_cons, List.map_cons, List.sum_cons] at this
      omega) (by omega) (fun j g hg => h (j + 1) g (by simpa using hg))
    refine ⟨p :: parts, by simp [h1], fun j g q hg hq => ?_, ?_⟩
    · cases j with
      | zero => simp at hg hq; subst hg; subst hq; exact hp
      | succ j => exact h2 j g q (by simpa using hg) (by simpa using hq)
    · rw [h0] at hr
      have e : cs.drop o = (cs.drop o).take (P.cellsOf f.type) ++ cs.drop (o + P.cellsOf f.type) := by
        rw [← List.drop_drop, List.take_append_drop]
      rw [e, List.flatten_cons]
      exact hr.append h3

theorem list_of {Pp : Nat → List A → Prop} : ∀ n : Nat, (∀ i, i < n → ∃ x, Pp i x) → ∃ xs : List (List A), xs.length = n ∧ ∀ (i : Nat) (x : List A), xs[i]? = some x → Pp i x
  | 0, _ => ⟨[], rfl, by simp⟩
  | n + 1, h => by
    obtain ⟨xs, h1, h2⟩ := list_of n (fun i hi => h i (by omega))
    obtain ⟨x, hx⟩ := h n (by omega)
    refine ⟨xs ++ [x], by simp [h1], fun i y hy => ?_⟩
    rw [List.getElem?_append] at hy
    split at hy
    · exact h2 i y hy
    · rename_i hi
      have hlt : i - xs.length < 1 := (List.getElem?_eq_some_iff.1 hy).1
      have e : i = n := by omega
      subst e
      rw [h1, Nat.sub_self] at hy
      simp at hy
      subst hy
      exact hx

/-- A reading is plain data. -/
theorem trod_imm {H : Type} {enc : TypeId × Value → H} {P : Program} {w : World} {spare : Nat → Bool} {held : Bool} {T : List TypeId} (hT : closedT P T = true) : ∀ (fuel : Nat) (t : TypeId) (cs : List Value) (x : DataW H × List MemPlace), T.contains t = true →
    DataW.trod enc P w 0 spare held fuel t cs = some x → ∃ as, Ty P t as ∧ RL w as cs := by
  intro fuel
  induction fuel with
  | zero => intro t cs x _ h; simp [DataW.trod] at h
  | succ fuel ih =>
    intro t cs x ht h
    have hc := List.all_eq_true.1 hT t (by simpa using ht)
    cases hu : P.underlying t with
    | none => rw [hu] at hc; cases hc
    | some k =>
      rw [hu] at hc
      cases k <;> simp only [Bool.false_eq_true] at hc
      case bool =>
        obtain ⟨b, rfl, _⟩ := DataW.trod_bool hu h
        exact ⟨_, .bool b hu, .one (.bool b) rfl⟩
      case int k =>
        obtain ⟨n, rfl, _, hwf⟩ := DataW.trod_int hu h
        exact ⟨_, .int n hu hwf, .one (.int k n) rfl⟩
      case string =>
        obtain ⟨b, rfl, _, hl⟩ := DataW.trod_string hu h
        exact ⟨_, .str b hu hl, .one (.str b (by simp only [maxLen] at hl; simp only [maxI]; omega)) rfl⟩
      case slice e =>
        simp only [Bool.and_eq_true, decide_eq_true_eq] at hc
        rcases DataW.trod_slice hu h with ⟨rfl, _⟩ | ⟨a, len, cap, elems, rest, n, hn, rfl, _, _, hlc, hcm, hel, hget, _, _⟩
        · exact ⟨_, .slice [] hu (by simp), .one (Imm.nil _ _) rfl⟩
        · cases hn
          have each : ∀ i, i < len → ∃ y, Ty P e y ∧ ∃ ci, RL w y ci ∧ ci.length = P.cellsOf e ∧ ∀ j, j < P.cellsOf e → w.cell? ((a.add (i * P.cellsOf e)).add j) = ci[j]? := by
            intro i hi
            have h1 := hget i hi
            rw [List.getElem?_eq_getElem (by omega), Option.bind_eq_some_iff] at h1
            obtain ⟨ci, h2, h3⟩ := h1
            obtain ⟨y, hy, hr⟩ := ih e ci _ hc.1 h3
            exact ⟨y, hy, ci, hr, cells?_get h2⟩
          obtain ⟨xs, hxl, hxs⟩ := list_of len each
          -- where it lies
          have spot : 0 < len → a.spot = none := by
            intro h0
            obtain ⟨y, hy, ci, hr, hcl, hcell⟩ := each 0 h0
            have h1 := hcell 0 hc.2
            rw [List.getElem?_eq_getElem (by omega)] at h1
            simp only [Nat.zero_mul, Addr.add, if_true] at h1
            unfold World.cell? at h1
            split at h1
            · split at h1
              · cases h1
              · rename_i hs
                simpa using hs
            · cases h1
          have addr : a.spot = none → ∀ k j, (a.add k).add j = ⟨a.block, a.off + (k + j), none⟩ := by
            intro hs k j
            obtain ⟨b, o, sp⟩ := a
            simp only at hs
            subst hs
            unfold Addr.add
            split <;> split <;> simp_all
            all_goals omega
          refine ⟨_, .slice xs hu (fun y hy => ?_), .one (v := .slice (some a) len cap) ?_ rfl⟩
          · obtain ⟨i, hi⟩ := List.getElem?_of_mem hy
            exact (hxs i y hi).1
          · subst hxl
            have vals : ∀ i y, xs[i]? = some y → y.length = P.cellsOf e ∧ ∀ j, j < P.cellsOf e → ∃ v z, w.cell? ⟨a.block, a.off + (i * P.cellsOf e + j), none⟩ = some v ∧ y[j]? = some z ∧ Imm w noZone z v ∧ v.oneCell' = true := by
              intro i y hi
              obtain ⟨_, ci, hr, hcl, hcell⟩ := hxs i y hi
              have hlt : i < xs.length := (List.getElem?_eq_some_iff.1 hi).1
              refine ⟨hr.1.trans hcl, fun j hj => ?_⟩
              have h1 := hcell j hj
              rw [addr (spot (by omega)), List.getElem?_eq_getElem (by omega)] at h1
              have hyl : j < y.length := by rw [hr.1, hcl]; exact hj
              have h2 := hr.2 j _ _ (List.getElem?_eq_getElem hyl) (List.getElem?_eq_getElem (by omega : j < ci.length))
              exact ⟨_, _, h1, List.getElem?_eq_getElem hyl, h2.1, h2.2⟩
            refine Imm.sl xs (some a) cap (P.cellsOf e) (fun i j => if i < xs.length ∧ j < P.cellsOf e then (w.cell? ⟨a.block, a.off + (i * P.cellsOf e + j), none⟩).getD (.bool false) else .bool false) hlc hcm (fun i y hi => (vals i y hi).1) (fun h0 => ⟨a.block, a.off, ?_, fun i hi j hj => ⟨fun hz => hz.elim, ?_⟩⟩) (fun h => by cases h) (fun i j => ?_) (fun i y hi j z hz => ?_)
            · have := spot h0
              obtain ⟨b, o, sp⟩ := a
              simp only at this
              subst this
              rfl
            · obtain ⟨v, z, h1, _⟩ := (vals i _ (List.getElem?_eq_getElem hi)).2 j hj
              simp [hi, hj, h1]
            · by_cases hij : i < xs.length ∧ j < P.cellsOf e
              · obtain ⟨v, z, h1, _, _, h2⟩ := (vals i _ (List.getElem?_eq_getElem hij.1)).2 j hij.2
                simp only [if_pos hij, h1, Option.getD_some]
                exact h2
              · simp only [if_neg hij]
                rfl
            · have hi' : i < xs.length := (List.getElem?_eq_some_iff.1 hi).1
              have hj : j < P.cellsOf e := by
                have := (List.getElem?_eq_some_iff.1 hz).1
                rw [(vals i y hi).1] at this
                exact this
              obtain ⟨v, z', h1, h2, h3, _⟩ := (vals i y hi).2 j hj
              rw [hz] at h2
              cases h2
              simp only [hi', hj, and_self, if_true, h1, Option.getD_some]
              exact h3
      case struct fs =>
        simp only [Bool.and_eq_true, beq_iff_eq] at hc
        obtain ⟨⟨h1, h2⟩, h3⟩ := hc
        obtain ⟨xs, n, hn, _, hl, hxl, hget⟩ := DataW.trod_struct hu h
        cases hn
        have off : ∀ (j : Nat) (f : Field), fs.toList[j]? = some f → f.offset = 0 + ((fs.toList.take j).map fun f => P.cellsOf f.type).sum := by
          intro j f hf
          have hj : j < fs.toList.length := (List.getElem?_eq_some_iff.1 hf).1
          have := List.all_eq_true.1 h3 j (List.mem_range.2 hj)
          rw [hf] at this
          simpa using this
        obtain ⟨parts, g1, g2, g3⟩ := parts_rel (P := P) (w := w) (cs := cs) fs.toList 0 off (by rw [hl, h2]; simp) (fun j f hf => by
          have hf' : fs[j]? = some f := by simpa using hf
          have hlt : j < xs.length := by
            rw [hxl]
            exact (Array.getElem?_eq_some_iff.1 hf').1
          have h4 := hget j f hf'
          rw [List.getElem?_eq_getElem hlt] at h4
          have h5 : T.contains f.type = true := List.all_eq_true.1 h1 f (List.mem_of_getElem? hf)
          exact ih f.type _ _ h5 h4)
        exact ⟨_, .struct parts hu (by simpa using g1) (fun j f p hf hp => g2 j f p (by simpa using hf) hp), by simpa using g3⟩
end Go.Tide

/- A law's call: told of plain data, it answers true and leaves all as it was. -/
set_option linter.unusedSimpArgs false
set_option linter.unusedVariables false
namespace Go.Tide
open Go.RowKit

/-- Arguments of one cell each (or structs), and what they lead to. -/
def Args (w : World) : List A → List Value → Prop
  | [], [] => True
  | y :: ys, v :: vs => Imm w noZone y v ∧ Args w ys vs
  | _, _ => False

theorem Args.len {w : World} : ∀ {ys : List A} {vs : List Value}, Args w ys vs → ys.length = vs.length
  | [], [], _ => rfl
  | _ :: _, _ :: _, h => by simp [Args.len h.2]
  | [], _ :: _, h => h.elim
  | _ :: _, [], h => h.elim

theorem Args.get {w : World} : ∀ {ys : List A} {vs : List Value}, Args w ys vs → ∀ (j : Nat) (y : A), ys[j]? = some y → ∃ v, vs[j]? = some v ∧ Imm w noZone y v
  | y :: ys, v :: vs, h, j, z, hz => by
    cases j with
    | zero => simp at hz; subst hz; exact ⟨v, rfl, h.1⟩
    | succ j => simpa using Args.get h.2 j z (by simpa using hz)
  | [], [], _, j, z, hz => by simp at hz
  | [], _ :: _, h, _, _, _ => h.elim
  | _ :: _, [], h, _, _, _ => h.elim

theorem law_enters {P : Program} {f : Nat} {as : List A} {b : Bool} (h : CSem P f as (fun _ => none) fun rs _ => rs = [.bool b]) {vals : Array Value} {w : World} (ha : Args w as vals.toList) :
    Enters P f vals w fun v w' => v = .bool b ∧ Below w.heap.size w w' := by
  have hin : InRel w noZone (fun _ => none) (fun _ => .tuple #[]) as vals := by
    refine ⟨fun _ _ h => h.elim, ⟨fun i o h => ?_, fun i j o p h => ?_, fun i o b off h => ?_, fun n o h => by cases h⟩, by simpa using ha.len.symm, fun j y hy => ?_⟩
    · cases i <;> cases h
    · cases i <;> cases h
    · cases i <;> cases h
    · obtain ⟨v, hv, hi⟩ := ha.get j y hy
      have : vals.getD j undef = v := by
        have hv' : vals[j]? = some v := by simpa using hv
        simp [Array.getD_eq_getD_getElem?, hv']
      rw [this]
      refine .imm _ _ (hi.step (fun b off hz => ?_) (fun _ _ _ _ h => h))
      rcases hz with hz | ⟨i, o, h, _⟩
      · exact .inl hz
      · cases i <;> cases h
  refine (h vals w noZone _ hin).mono fun v w' ⟨rs, x', σ, κ', vs, hk, out⟩ => ?_
  subst hk
  have hsz : vs.size = 1 := out.size
  have hr := out.res 0 (.bool b) rfl
  have hv := out.val
  rw [dif_pos hsz] at hv
  have e : vs.getD 0 undef = vs[0] := by
    have : 0 < vs.size := by omega
    simp [Array.getD_eq_getD_getElem?, this]
  rw [e] at hr
  have hb := VR.bool_inv (show VR _ _ _ _ (.bool b) _ from hr)
  refine ⟨by rw [hv, hb], ⟨out.frame.os, out.frame.tape, out.frame.output, out.frame.size, fun k hk => out.frame.block k hk fun off hx => ?_⟩⟩
  obtain ⟨n, o, h, _⟩ := hx
  cases h

/-- The same of a function with a body. -/
theorem law_calls {P : Program} {f : Nat} {as : List A} {b : Bool} (h : CSem P f as (fun _ => none) fun rs _ => rs = [.bool b]) {vals : Array Value} {w : World} (ha : Args w as vals.toList)
    (hrun : (callFunc f vals).run P w = .ok (.enter f vals) w) : Calls P f vals w fun e w' => e = .returned (.bool b) ∧ Below w.heap.size w w' := by
  have := law_enters h ha
  unfold Enters at this
  rw [hrun] at this
  exact Calls.mono this fun e w' ⟨v, h1, h2, h3⟩ => ⟨by rw [h1, h2], h3⟩
end Go.Tide

/- Working with the abstract semantics: tables of functions, loops by induction, ways parted. -/
set_option linter.unusedSimpArgs false
set_option linter.unusedVariables false
namespace Go.Tide

/-- A table of functions. -/
def look : List (Nat × IFn) → Nat → Option IFn
  | [], _ => none
  | p :: r, f => bif Nat.beq p.1 f then some p.2 else look r f

theorem look_mem : ∀ {l : List (Nat × IFn)} {f : Nat} {i : IFn}, look l f = some i → (f, i) ∈ l
  | [], _, _, h => by cases h
  | p :: r, f, i, h => by
    unfold look at h
    cases hb : Nat.beq p.1 f with
    | true =>
      rw [hb] at h
      simp only [cond_true, Option.some.injEq] at h
      have := Nat.eq_of_beq_eq_true hb
      subst this
      subst h
      exact .head _
    | false =>
      rw [hb] at h
      exact .tail _ (look_mem h)

theorem look_ok {P : Program} {D : Array Oper → List GOp → Bool} {l : List (Nat × IFn)} (h : l.all (fun p => okFn P D p.1 p.2) = true) : ∀ f i, look l f = some i → okFn P D f i = true :=
  fun f i hf => List.all_eq_true.1 h _ (look_mem hf)

section
variable {Γ : Nat → Option IFn} {B : CallSem}

/-- A function's call, by its code. -/
theorem Call_fn (hB : CMono B B) {f : Nat} {fn : IFn} (hf : Γ f = some fn) {as : List A} {x : Sto} {K : List A → Sto → Prop} (hn : as.length = fn.nargs)
    (h : wpc (Call Γ B) fn.code (fnQ fn.res K) ⟨initE as 0, fun _ => none, x⟩) : Call Γ B f as x K := by
  refine Call_body hB ?_
  unfold Body
  rw [hf]
  exact ⟨hn, h⟩

/-- A loop, by what holds of its states, and falls. -/
theorem Loop_rec (hB : CMono B B) {c : IC} {Q : Ex → St → Prop} {ι : Type} (S : ι → St) (μ : ι → Nat) (I : ι → Prop)
    (step : ∀ i, I i → (∀ j, I j → μ j < μ i → Loop (wpc (Call Γ B) c) Q (S j)) → wpc (Call Γ B) c (thenQ (Loop (wpc (Call Γ B) c) Q) Q) (S i)) :
    ∀ i, I i → Loop (wpc (Call Γ B) c) Q (S i) := by
  have key : ∀ n i, μ i < n → I i → Loop (wpc (Call Γ B) c) Q (S i) := by
    intro n
    induction n with
    | zero => intro i h; omega
    | succ n ih =>
      intro i h hi
      exact Loop_step (Call_mono Γ hB) (step i hi fun j hj hlt => ih j (by omega) hj)
  exact fun i hi => key _ i (Nat.lt_succ_self _) hi
end

/-- Two ways, by a truth. -/
theorem way {b : Bool} {P Q : Prop} (h1 : b = true → P) (h2 : b = false → Q) : cond b P Q := by
  cases b
  · exact h2 rfl
  · exact h1 rfl

/-- What two ways come to. -/
structure Joint (R : Prop) : Prop where
  out : R

theorem way_join {b : Bool} {P Q R : Prop} (h1 : b = true → Joint R → P) (h2 : b = false → Joint R → Q) (h : R) : cond b P Q :=
  way (fun e => h1 e ⟨h⟩) (fun e => h2 e ⟨h⟩)

theorem way_joins {α : Type} {b : Bool} (I : α → Prop) {P Q : Prop} {R : α → Prop} (h1 : b = true → Joint (∀ r, I r → R r) → P) (h2 : b = false → Joint (∀ r, I r → R r) → Q) (h : ∀ r, I r → R r) : cond b P Q :=
  way (fun e => h1 e ⟨h⟩) (fun e => h2 e ⟨h⟩)

theorem way_eq {a b : Int} {P Q : Prop} (h1 : a = b → P) (h2 : a ≠ b → Q) : cond (a == b) P Q :=
  way (fun h => h1 (eq_of_beq h)) (fun h => h2 (ne_of_beq_false h))
theorem way_ne {a b : Int} {P Q : Prop} (h1 : a ≠ b → P) (h2 : a = b → Q) : cond (a != b) P Q :=
  way (fun h => h1 (by simpa using h)) (fun h => h2 (by simpa using h))
theorem way_dec {p : Prop} [Decidable p] {P Q : Prop} (h1 : p → P) (h2 : ¬ p → Q) : cond (decide p) P Q :=
  way (fun h => h1 (of_decide_eq_true h)) (fun h => h2 (of_decide_eq_false h))
theorem way_seq {a b : ByteArray} {P Q : Prop} (h1 : a = b → P) (h2 : a ≠ b → Q) : cond (a.toList == b.toList) P Q :=
  way (fun h => h1 (by have := eq_of_beq h; exact ByteArray.ext (by simpa [ByteArray.toList_eq] using this))) (fun h => h2 (fun e => by subst e; simp at h))
theorem way_not {b : Bool} {P Q : Prop} (h : cond b Q P) : cond (!b) P Q := by cases b <;> exact h
theorem way_t {b : Bool} {P Q : Prop} (h : b = true) (h1 : P) : cond b P Q := by subst h; exact h1
theorem way_f {b : Bool} {P Q : Prop} (h : b = false) (h1 : Q) : cond b P Q := by subst h; exact h1
end Go.Tide
