/- Part 3 of the proof's ground: A call does what the abstract one says. -/
import Derived.Test.YtfalonfjpihgeaaTide2

/- A call does what the abstract one says. -/
set_option linter.unusedSimpArgs false
set_option linter.unusedVariables false
namespace Go.Tide

theorem eqb_iff {a b : Id} : a.eqb b = true ↔ a = b := by
  cases a <;> cases b <;> simp [Id.eqb, Nat.beq_eq]

theorem go_some {i u : Id} : ∀ {ids : List Id} {j : Nat}, footF.go ids i j = some u → ∃ n, ids[n]? = some i ∧ u = .U (j + n)
  | [], j, h => by simp [footF.go] at h
  | x :: r, j, h => by
    rw [footF.go] at h
    cases hb : x.eqb i with
    | true =>
      simp [hb] at h
      exact ⟨0, by simp [eqb_iff.1 hb], h.symm⟩
    | false =>
      simp [hb] at h
      obtain ⟨n, h1, h2⟩ := go_some h
      exact ⟨n + 1, by simpa using h1, by rw [h2]; congr 1; omega⟩

theorem footS_iff (s : St) (f : Id → Option Id) : ∀ (ids : List Id) (j : Nat) (k : Sto → Prop), footS s ids f j k →
    ∃ x, k x ∧ (∀ n, n < j → x n = none) ∧ (∀ n, x (j + n) = (ids[n]?).bind fun i => (s.ob i).map (Ob.ren f)) ∧ ∀ i ∈ ids, ∃ o, s.ob i = some o
  | [], j, k, h => ⟨fun _ => none, h, fun _ _ => rfl, fun n => by simp, by simp⟩
  | i :: r, j, k, h => by
    rw [footS] at h
    split at h
    · rename_i o ho
      rw [forceO_iff] at h
      obtain ⟨x, hk, h1, h2, h3⟩ := footS_iff s f r (j + 1) _ h
      refine ⟨_, hk, fun n hn => ?_, fun n => ?_, fun i' hi' => ?_⟩
      · rw [updS_at, if_neg (by omega)]
        exact h1 n (by omega)
      · rw [updS_at]
        cases n with
        | zero => simp [ho]
        | succ n =>
          rw [if_neg (by omega), show j + (n + 1) = j + 1 + n by omega, h2 n]
          simp
      · rcases List.mem_cons.1 hi' with e | e
        · exact ⟨o, by rw [e]; exact ho⟩
        · exact h3 i' e
    · exact h.elim

def finOb (i : Id) (o : Ob) : Ob := match i with | .L _ => o | .U _ => o.ren (clip [])

theorem backS_iff (f : Id → Option Id) (t : Sto) : ∀ (ids : List Id) (s : St) (j : Nat) (k : St → Prop), ids.Nodup → backS s t ids f j k →
    ∃ s', k s' ∧ s'.env = s.env ∧ (∀ i, i ∉ ids → s'.ob i = s.ob i) ∧ ∀ n i, ids[n]? = some i → ∃ o p, t (j + n) = some o ∧ s.ob i = some p ∧ s'.ob i = some (finOb i (o.ren f))
  | [], s, j, k, _, h => ⟨s, h, rfl, fun _ _ => rfl, fun n i h => by simp at h⟩
  | i :: r, s, j, k, hnd, h => by
    rw [backS] at h
    split at h
    · rename_i o ho
      obtain ⟨s1, p, h1, hp, he, hs1⟩ := s.set_iff _ _ _ h
      have hnd' := List.nodup_cons.1 hnd
      obtain ⟨s', hk, he', h2, h3⟩ := backS_iff f t r s1 (j + 1) k hnd'.2 h1
      refine ⟨s', hk, he'.trans he, fun i' hi' => ?_, fun n i' hn => ?_⟩
      · simp only [List.mem_cons, not_or] at hi'
        rw [h2 i' hi'.2, hs1]
        simp [hi'.1]
      · cases n with
        | zero =>
          simp only [List.getElem?_cons_zero, Option.some.injEq] at hn
          subst hn
          refine ⟨o, p, by simpa using ho, hp, ?_⟩
          rw [h2 i hnd'.1, hs1]
          cases i <;> simp [finOb]
        | succ n =>
          have hn' : r[n]? = some i' := by simpa using hn
          obtain ⟨o', p', h4, h5, h6⟩ := h3 n i' hn'
          have hne : i' ≠ i := fun e => hnd'.1 (e ▸ List.mem_of_getElem? hn')
          refine ⟨o', p', by rw [← h4]; congr 1; omega, ?_, h6⟩
          rw [hs1] at h5
          simpa [hne] using h5
    · exact h.elim

theorem footR_iff (s : St) (f b : Id → Option Id) (k : Prop) : ∀ (ids : List Id), footR s ids f b k → k ∧ ∀ i ∈ ids, ∃ o, s.ob i = some o ∧ (o.ren f).ren b = o
  | [], h => ⟨h, by simp⟩
  | i :: r, h => by
    rw [footR] at h
    split at h
    · rename_i o ho
      obtain ⟨h1, h2⟩ := footR_iff s f b k r h.2
      refine ⟨h1, fun i' hi' => ?_⟩
      rcases List.mem_cons.1 hi' with e | e
      · exact ⟨o, by rw [e]; exact ho, h.1⟩
      · exact h2 i' e
    · exact h.elim

theorem nodup_inj {ids : List Id} (h : ids.Nodup) {n m : Nat} {i : Id} (hn : ids[n]? = some i) (hm : ids[m]? = some i) : n = m := by
  obtain ⟨h1, h2⟩ := List.getElem?_eq_some_iff.1 hn
  obtain ⟨h3, h4⟩ := List.getElem?_eq_some_iff.1 hm
  rcases Nat.lt_trichotomy n m with hlt | e | hlt
  · exact absurd (h2.trans h4.symm) (List.pairwise_iff_getElem.1 h n m h1 h3 hlt)
  · exact e
  · exact absurd (h4.trans h2.symm) (List.pairwise_iff_getElem.1 h m n h3 h1 hlt)

theorem restZone_all {Z0 : Zone} {σ : Id → Option Ob} {κ : Conc} {ψ : Nat → Option Id} {x : Sto} {κx : Conc} (kx : ∀ n i, ψ n = some i → κx (.U n) = κ i)
    (there : ∀ n o', x n = some o' → ∃ i o, ψ n = some i ∧ σ i = some o ∧ Same o o') : ∀ b off, Zof (restZone Z0 σ κ ψ) (xob x) κx b off → Zof Z0 σ κ b off := by
  intro b off hz
  rcases hz with (hz | ⟨i, o, _, h1, h2⟩) | ⟨l, o, h1, h2⟩
  · exact .inl hz
  · exact .inr ⟨i, o, h1, h2⟩
  · cases l with
    | L n => cases h1
    | U n =>
      obtain ⟨i, o', h3, h4, h5⟩ := there n o h1
      rw [kx n i h3] at h2
      exact .inr ⟨i, o', h4, (h5.zone _ _ _).2 h2⟩

section
variable {P : Program} {c : Cx} {s : St} {a : Act} {w : World} {κ : Conc}

/-- How a call begins. -/
theorem call_in (h : RS c s a w κ) {ψ : Nat → Option Id} {x : Sto} {κx : Conc} {φ : Id → Option Id} (inj : ∀ n m i, ψ n = some i → ψ m = some i → n = m) (kx : ∀ n i, ψ n = some i → κx (.U n) = κ i)
    (there : ∀ n o', x n = some o' → ∃ i o, ψ n = some i ∧ s.ob i = some o ∧ Same o o')
    (like : ∀ i j, φ i = some j → LikeAt (s.ob i) (xob x j) (κ i) (κx j))
    (hob : ∀ n o', x n = some o' → OB w (Zof c.Z0 s.ob κ) (xob x) κx (κx (.U n)) o')
    {as : List A} {vals : Array Value} (hsz : vals.size = as.length) (has : ∀ (j : Nat) (y : A), as[j]? = some y → ∃ z, y = z.ren φ ∧ VR w (Zof c.Z0 s.ob κ) s.ob κ z (vals.getD j undef)) :
    InRel w (restZone c.Z0 s.ob κ ψ) x κx as vals := by
  have hZ := restZone_all (Z0 := c.Z0) kx there
  have hZ' : ∀ b off, Zof (restZone c.Z0 s.ob κ ψ) (xob x) κx b off → Zof c.Z0 s.ob κ b off ∨ w.heap.size ≤ b := fun b off hz => .inl (hZ b off hz)
  have obs : ∀ i o, xob x i = some o → OB w (Zof (restZone c.Z0 s.ob κ ψ) (xob x) κx) (xob x) κx (κx i) o := by
    intro i o hi
    cases i with
    | L n => cases hi
    | U n => exact (hob n o hi).step hZ' (fun _ _ _ _ h => h) (fun _ => LikeAt.refl _ _) (fun _ _ => rfl)
  refine ⟨fun b off hz => ?_, ⟨obs, fun i j o p hi hj hij b hb hbj => ?_, fun i o b off hi hz hz0 => ?_, fun n o hi => ?_⟩, hsz, fun j y hy => ?_⟩
  · rcases hz with hz | ⟨i, o, _, h1, h2⟩
    · exact Nat.lt_of_lt_of_le (c.low b off hz) h.frame.size
    · exact h.ob_lt h1 h2.1
  · cases i with
    | L n => cases hi
    | U n =>
      cases j with
      | L m => cases hj
      | U m =>
        obtain ⟨i', o', h1, h2, _⟩ := there n o hi
        obtain ⟨j', p', h3, h4, _⟩ := there m p hj
        rw [kx n i' h1] at hb
        rw [kx m j' h3] at hbj
        refine h.apart i' j' o' p' h2 h4 (fun e => hij ?_) b hb hbj
        rw [inj n m i' h1 (e ▸ h3)]
  · cases i with
    | L n => cases hi
    | U n =>
      obtain ⟨i', o', h1, h2, h3⟩ := there n o hi
      rw [kx n i' h1] at hz
      rcases hz0 with hz0 | ⟨l, p, h4, h5, h6⟩
      · exact h.zone0 i' o' b off h2 ((h3.zone _ _ _).2 hz) hz0
      · exact h.apart i' l o' p h2 h5 (fun e => h4 n (e ▸ h1)) b hz.1 h6.1
  · have : exOb (xob x) = xob x := by funext i; cases i <;> rfl
    rw [this]
    exact obs (.U n) o hi
  · obtain ⟨z, rfl, hz⟩ := has j y hy
    exact hz.map φ hZ' (fun _ _ _ _ h => h) like

theorem enters_upon {o : Oper} {g : Nat} {vals : Array Value} {R : Value → World → Prop} {next : Act → World → Prop} {Q : Exit → Act → World → Prop} (h : Enters P g vals w R) (hr : (execOp a.eval o).run P w = (callFunc g vals).run P w)
    (hn : ∀ v w', R v w' → next (a.put o.dst v) w') : o.wp P a w next Q := by
  unfold Oper.wp
  rw [hr]
  unfold Enters at h
  split at h
  · rename_i v w' e
    rw [e, Oper.upon_value]
    exact hn _ _ h
  · rename_i g' as' w' e
    rw [e, Oper.upon_enter]
    refine Calls.mono h fun e w'' ⟨v, he, h1⟩ => ?_
    subst he
    exact hn _ _ h1
  · rename_i r as' w' e
    rw [e, Oper.upon_row]
    exact Rows.mono h fun v w'' h1 => hn _ _ h1
  · exact h.elim

theorem wrap_rel {w : World} {Z : Zone} {σ : Id → Option Ob} {κ : Conc} {l : List A} {vs : Array Value} (hl : vs.size = l.length) (h : ∀ (j : Nat) (z : A), l[j]? = some z → VR w Z σ κ z (vs.getD j undef)) :
    VR w Z σ κ (wrapRes l) (if h : vs.size = 1 then vs[0] else .tuple vs) := by
  match l, hl with
  | [], hl => rw [dif_neg (by rw [hl]; simp)]; exact .tup _ _ hl (by simp)
  | [z], hl =>
    rw [dif_pos (by simpa using hl)]
    have := h 0 z (by simp)
    have h0 : 0 < vs.size := by rw [hl]; simp
    simpa [wrapRes, Array.getD_eq_getD_getElem?, h0] using this
  | y :: z :: r, hl =>
    rw [dif_neg (by rw [hl]; simp)]
    exact .tup _ _ hl h

/-- What is asked of a call's list of objects. -/
def okFoot (foot : Option (List Id)) (ro : Bool) : Bool :=
  match foot with
  | none => true
  | some ids => decide ids.Nodup && (!ro || ids.all fun i => match i with | .L _ => true | .U _ => false)

theorem snd_call {o : Oper} {K : A → St → Prop} {next : Act → World → Prop} {Q : Exit → Act → World → Prop} {d : Nat} (h : RS c s a w κ) (hn : Leaves c a o.dst K next) {cl : Go.Call} {f : Operand} {f' : X} {xs' : List X} {foot : Option (List Id)} {ro : Bool} {take : List Take}
    (ho : o.op = .call cl) (hc : cl.callee = .value f) (hf : okX f f' = true) (hxs : okXs cl.args.toList xs' = true) (hfoot : okFoot foot ro = true)
    (hs : sem (CSem P) (.call f' xs' foot ro take) d s K) : o.wp P a w next Q := by
  have hfr := okX_rel h hf
  simp only [sem] at hs
  split at hs
  · rename_i g caps he
    rw [he] at hfr
    obtain ⟨cv, hv, hcl, hcr⟩ := hfr.fn_inv
    rw [evL_iff] at hs
    have hxl := okXs_len hxs
    -- the arguments
    have vsz : ((cl.args.map a.eval) ++ cv).size = (xs'.map (fun x => (x.ev s.env).ren (footF foot)) ++ A.renL (footF foot) caps).length := by
      simp [renL_length, hcl] at hxl ⊢
      exact hxl
    have args : ∀ (j : Nat) (y : A), (xs'.map (fun x => (x.ev s.env).ren (footF foot)) ++ A.renL (footF foot) caps)[j]? = some y →
        ∃ z, y = z.ren (footF foot) ∧ VR w (Zof c.Z0 s.ob κ) s.ob κ z (((cl.args.map a.eval) ++ cv).getD j undef) := by
      intro j y hy
      rw [List.getElem?_append] at hy
      split at hy
      · rename_i hj
        simp only [List.getElem?_map, Option.map_eq_some_iff] at hy
        obtain ⟨x, hx, rfl⟩ := hy
        obtain ⟨u, hu, hr⟩ := okXs_rel h hxs j x hx
        refine ⟨_, rfl, ?_⟩
        have hj' : j < cl.args.size := by simpa using (List.getElem?_eq_some_iff.1 hu).1
        have hu' : cl.args[j]? = some u := by simpa using hu
        have : ((cl.args.map a.eval) ++ cv).getD j undef = a.eval u := by
          rw [Array.getD_eq_getD_getElem?, Array.getElem?_append_left (by simpa using hj')]
          simp [hu']
        rw [this]
        exact hr
      · rename_i hj
        obtain ⟨z, hz, rfl⟩ := renL_inv hy
        refine ⟨z, rfl, ?_⟩
        have hj' : (cl.args.map a.eval).size ≤ j := by simp at hj hxl ⊢; omega
        have : ((cl.args.map a.eval) ++ cv).getD j undef = cv.getD (j - (xs'.map (fun x => (x.ev s.env).ren (footF foot))).length) (.tuple #[]) := by
          rw [Array.getD_eq_getD_getElem?, Array.getElem?_append_right hj', Array.getD_eq_getD_getElem?]
          have : (cl.args.map a.eval).size = (xs'.map (fun x => (x.ev s.env).ren (footF foot))).length := by simp at hxl ⊢; exact hxl
          rw [this]
          rfl
        rw [this]
        exact hcr _ _ hz
    have hr : (execOp a.eval o).run P w = (callFunc g ((cl.args.map a.eval) ++ cv)).run P w := by
      simp [execOp, ho, resolve, hc, hv, Deferred.ofValue, invoke]
    cases foot with
    | none =>
      simp only [callK] at hs
      have hψ : ∀ n i, (fun n => some (Id.U n) : Nat → Option Id) n = some i → i = .U n := fun n i h => (Option.some.inj h).symm
      have inj : ∀ n m i, (fun n => some (Id.U n) : Nat → Option Id) n = some i → (fun n => some (Id.U n) : Nat → Option Id) m = some i → n = m := by
        intro n m i h1 h2
        rw [hψ n i h1] at h2
        cases h2
        rfl
      have there : ∀ n o', s.ext n = some o' → ∃ i o, (fun n => some (Id.U n) : Nat → Option Id) n = some i ∧ s.ob i = some o ∧ Same o o' := fun n o' h => ⟨.U n, o', rfl, h, Same.refl _⟩
      have back : ∀ n i o, (fun n => some (Id.U n) : Nat → Option Id) n = some i → s.ob i = some o → ∃ o', s.ext n = some o' ∧ Same o o' := by
        intro n i o h1 h2
        rw [hψ n i h1] at h2
        exact ⟨o, h2, Same.refl _⟩
      have hin := call_in h (ψ := fun n => some (.U n)) (x := s.ext) (κx := κ) (φ := footF none) inj (fun n i h => by rw [hψ n i h]) there (fun i j hij => by
        cases i with
        | L n => cases hij
        | U n => cases hij; exact LikeAt.refl _ _) (fun n o' hx => by
          have := h.exts n o' hx
          have e : extOb s = xob s.ext := by funext i; cases i <;> rfl
          rwa [e] at this) vsz args
      refine enters_upon (hs _ _ _ _ hin) hr fun v w' ⟨rs, x', σ, κ', vs, ⟨hro, hK⟩, out⟩ => ?_
      have hK' : takeK d ⟨s.env, s.loc, x'⟩ 0 take (A.renL (footB none) rs) fun l s' => K (wrapRes l) s' := by
        cases ro with
        | false => exact hK
        | true => rw [hro rfl]; exact hK
      have hcd := fun hob => call_done (s0 := ⟨s.env, s.loc, x'⟩) (fb := footB none) h inj (fun n i h => by rw [hψ n i h]) there back (fun i j hij => by
          cases i with
          | L n => cases hij
          | U n => cases hij; exact ⟨n, rfl, rfl⟩) out rfl (fun i hi => by
          cases i with
          | L m => rfl
          | U m => exact absurd rfl (hi m)) (fun n m h => by cases h) (fun n i hni => by
          rw [hψ n i hni]
          exact ⟨fun o ho => ⟨o, by rw [out.ext]; exact ho, Same.refl _⟩, fun o' ho' => ⟨o', by rw [out.ext] at ho'; exact ho', Same.refl _⟩⟩) hob hK'
      obtain ⟨l, s', κ1, hk, rs', hl, hv'⟩ := hcd (by
        intro s2 κ2 hp hz hlb n i o1 o' hni h1 h2 hob
        have hni' := hψ n i hni
        subst hni'
        obtain ⟨e1, e2⟩ := hp n _ rfl
        have h3 : x' n = some o1 := h1
        rw [out.ext, h3] at h2
        cases h2
        rw [e1]
        have hl2 : ∀ i, LikeAt (exOb σ i) (s2.ob i) (κ' i) (κ2 i) := by
          intro i
          cases i with
          | L m => exact trivial
          | U m =>
            obtain ⟨e3, e4⟩ := hp m _ rfl
            rw [e3, e4]
            show LikeAt (σ (.U m)) (x' m) _ _
            rw [out.ext]
            exact LikeAt.refl _ _
        refine ⟨hob.step (fun b off h => .inl (hz b off h)) (fun _ _ _ _ h => h) hl2 (fun _ _ => rfl), fun m hm => ?_⟩
        refine hob.step (fun b off h => .inl (hz b off h)) (fun _ _ _ _ h => h) (fun i => ?_) (fun _ _ => rfl)
        cases i with
        | L m => exact trivial
        | U m => exact hl2 (.U m))
      have hvv := wrap_rel (by rw [out.size, hl]) hv'
      rw [← out.val] at hvv
      exact hn _ _ _ _ _ hk rs' hvv
    | some ids =>
      simp only [okFoot, Bool.and_eq_true, decide_eq_true_eq, Bool.or_eq_true, Bool.not_eq_true'] at hfoot
      obtain ⟨hnd, hroL⟩ := hfoot
      simp only [callK] at hs
      obtain ⟨x, hs, _, hx, hex⟩ := footS_iff _ _ _ _ _ hs
      simp only [Nat.zero_add] at hx
      have inj : ∀ n m i, (fun n => ids[n]? : Nat → Option Id) n = some i → (fun n => ids[n]? : Nat → Option Id) m = some i → n = m := fun n m i h1 h2 => nodup_inj hnd h1 h2
      have there : ∀ n o', x n = some o' → ∃ i o, (fun n => ids[n]? : Nat → Option Id) n = some i ∧ s.ob i = some o ∧ Same o o' := by
        intro n o' h1
        rw [hx n, Option.bind_eq_some_iff] at h1
        obtain ⟨i, h2, h3⟩ := h1
        rw [Option.map_eq_some_iff] at h3
        obtain ⟨o, h4, rfl⟩ := h3
        exact ⟨i, o, h2, h4, Same.ren _ _⟩
      have back : ∀ n i o, (fun n => ids[n]? : Nat → Option Id) n = some i → s.ob i = some o → ∃ o', x n = some o' ∧ Same o o' := by
        intro n i o h1 h2
        have h1' : ids[n]? = some i := h1
        exact ⟨o.ren (footF (some ids)), by rw [hx n, h1']; simp [h2], Same.ren _ _⟩
      let κx : Conc := fun i => match i with | .U n => (match ids[n]? with | some i => κ i | none => .tuple #[]) | .L n => .tuple #[]
      have hkx : ∀ n i, (fun n => ids[n]? : Nat → Option Id) n = some i → κx (.U n) = κ i := by
        intro n i h1
        have h1' : ids[n]? = some i := h1
        show (match ids[n]? with | some i => κ i | none => .tuple #[]) = _
        rw [h1']
      have hlike : ∀ i j, footF (some ids) i = some j → LikeAt (s.ob i) (xob x j) (κ i) (κx j) := by
        intro i j hij
        obtain ⟨n, h1, rfl⟩ := go_some hij
        rw [Nat.zero_add, hkx n i h1]
        show LikeAt _ (x n) _ _
        rw [hx n, h1]
        exact like_ren _ _ _
      have hin := call_in h (ψ := fun n => ids[n]?) (x := x) (κx := κx) (φ := footF (some ids)) inj hkx there hlike (fun n o' h1 => by
        obtain ⟨i, o, h2, h3, _⟩ := there n o' h1
        have h2' : ids[n]? = some i := h2
        rw [hx n, h2'] at h1
        simp [h3] at h1
        subst h1
        rw [hkx n i h2]
        exact (h.obs i o h3).map _ (fun _ _ h => .inl h) hlike) vsz args
      refine enters_upon (hs _ _ _ _ hin) hr fun v w' ⟨rs, x', σ, κ', vs, ⟨hro, hK⟩, out⟩ => ?_
      have hfb : ∀ i j, footB (some ids) i = some j → ∃ n, i = .U n ∧ (fun n => ids[n]? : Nat → Option Id) n = some j := by
        intro i j hij
        cases i with
        | L n => cases hij
        | U n => exact ⟨n, rfl, hij⟩
      cases ro with
      | false =>
        obtain ⟨s0, hK, henv, hrest, hpass⟩ := backS_iff _ _ _ _ _ _ hnd hK
        simp only [Nat.zero_add] at hpass
        have hcd := fun hob => call_done (s0 := s0) (fb := footB (some ids)) h inj hkx there back hfb out henv (fun i hi => hrest i fun hm => by
            obtain ⟨n, hn⟩ := List.getElem?_of_mem hm
            exact hi n hn) (fun n m hm => by
            obtain ⟨o, p, _, h2, h3⟩ := hpass n _ hm
            have e2 : s.loc m = some p := h2
            have e3 : s0.loc m = some _ := h3
            rw [e2, e3]
            exact ⟨by simp, by simp⟩) (fun n i hni => by
            obtain ⟨o, p, h1, h2, h3⟩ := hpass n i hni
            have hsame : Same o (finOb i (o.ren (footB (some ids)))) := by
              cases i with
              | L m => exact Same.ren _ _
              | U m => exact (Same.ren _ _).trans (Same.ren _ _)
            refine ⟨fun q hq => ?_, fun q hq => ?_⟩
            · rw [h3] at hq
              cases hq
              exact ⟨o, by rw [out.ext]; exact h1, hsame⟩
            · rw [out.ext, h1] at hq
              cases hq
              exact ⟨_, h3, hsame⟩) hob hK
        obtain ⟨l, s', κ1, hk, rs', hl, hv'⟩ := hcd (by
          intro s2 κ2 hp hz hlb n i o1 o' hni h1 h2 hob
          obtain ⟨o, p, h3, h4, h5⟩ := hpass n i hni
          rw [out.ext, h3] at h2
          cases h2
          rw [h5] at h1
          cases h1
          obtain ⟨e1, e2⟩ := hp n i hni
          rw [e1]
          have first := hob.map (footB (some ids)) (fun b off h => .inl (hz b off h)) hlb
          have clipLike : ∀ (σ2 : Id → Option Ob), (∀ n, σ2 (.U n) = s2.ob (.U n)) → ∀ i j, clip [] i = some j → LikeAt (s2.ob i) (σ2 j) (κ2 i) (κ2 j) := by
            intro σ2 h2 i j hij
            cases i with
            | L m => simp [clip] at hij
            | U m => simp [clip] at hij; subst hij; rw [h2]; exact LikeAt.refl _ _
          cases i with
          | L m => exact ⟨first, fun m hm => by cases hm⟩
          | U m =>
            exact ⟨first.map (clip []) (fun _ _ h => .inl h) (clipLike _ fun _ => rfl), fun m' hm => first.map (clip []) (fun _ _ h => .inl h) (clipLike _ fun _ => rfl)⟩)
        have hvv := wrap_rel (by rw [out.size, hl]) hv'
        rw [← out.val] at hvv
        exact hn _ _ _ _ _ hk rs' hvv
      | true =>
        have hx' := hro rfl
        obtain ⟨hK, hren⟩ := footR_iff _ _ _ _ _ hK
        have hL : ∀ i ∈ ids, ∃ m, i = .L m := by
          intro i hi
          rcases hroL with h1 | h1
          · cases h1
          · have := List.all_eq_true.1 h1 i hi
            cases i with
            | L m => exact ⟨m, rfl⟩
            | U m => cases this
        have hσ : ∀ n i o, ids[n]? = some i → s.ob i = some o → σ (.U n) = some (o.ren (footF (some ids))) := by
          intro n i o h1 h2
          rw [out.ext, hx', hx n, h1]
          simp [h2]
        have hcd := fun hob => call_done (s0 := s) (fb := footB (some ids)) h inj hkx there back hfb out rfl (fun i hi => rfl) (fun n m hm => by
            obtain ⟨o, h1⟩ := hex _ (List.mem_of_getElem? hm)
            have h1' : s.loc m = some o := h1
            rw [h1']
            exact ⟨by simp, by simp⟩) (fun n i hni => by
            obtain ⟨o, h1⟩ := hex _ (List.mem_of_getElem? hni)
            have h2 := hσ n i o hni h1
            refine ⟨fun q hq => ?_, fun q hq => ?_⟩
            · rw [h1] at hq
              cases hq
              exact ⟨_, h2, (Same.ren _ _).symm⟩
            · rw [h2] at hq
              cases hq
              exact ⟨_, h1, (Same.ren _ _).symm⟩) hob hK
        obtain ⟨l, s', κ1, hk, rs', hl, hv'⟩ := hcd (by
          intro s2 κ2 hp hz hlb n i o1 o' hni h1 h2 hob
          have h3 := hσ n i o1 hni h1
          rw [h3] at h2
          cases h2
          obtain ⟨e1, e2⟩ := hp n i hni
          rw [e1]
          have first := hob.map (footB (some ids)) (fun b off h => .inl (hz b off h)) hlb
          obtain ⟨o2, h4, h5⟩ := hren i (List.mem_of_getElem? hni)
          rw [h1] at h4
          cases h4
          rw [h5] at first
          obtain ⟨m, rfl⟩ := hL i (List.mem_of_getElem? hni)
          exact ⟨first, fun m hm => by cases hm⟩)
        have hvv := wrap_rel (by rw [out.size, hl]) hv'
        rw [← out.val] at hvv
        exact hn _ _ _ _ _ hk rs' hvv
  · exact hs.elim
end
end Go.Tide

/- Every operation does what its abstract one says: the check and the law. -/
set_option linter.unusedSimpArgs false
set_option linter.unusedVariables false
namespace Go.Tide

def sameX : Operand → Operand → Bool
  | .tmp a, .tmp b => a == b
  | .const (.int k n), .const (.int k' n') => k == k' && n == n'
  | _, _ => false

theorem sameX_eq {x y : Operand} (h : sameX x y = true) : x = y := by
  unfold sameX at h
  split at h
  · rw [eq_of_beq h]
  · simp only [Bool.and_eq_true, beq_iff_eq] at h
    rw [h.1, h.2]
  · cases h

def negOp (neg : Bool) : BinOp := if neg then .neq else .eql

def okIOp (P : Program) (op : Op) (dst : Option Tmp) : IOp → Bool
  | .mov x' => match op with | .move x => okX x x' | .assign x => okX x x' | _ => false
  | .ntok el sz => match op with | .move (.const (.slice none 0 0)) => true | .assign (.const (.slice none 0 0)) => true | .buildSlice t 0 ⟨[]⟩ => okNone P t el sz | _ => false
  | .nrow _ _ => match op with | .move (.const (.slice none 0 0)) => true | .assign (.const (.slice none 0 0)) => true | _ => false
  | .pick c' a' b' => match op with | .pick c a b => okX c c' && okX a a' && okX b b' | _ => false
  | .alloc cs => match op with | .alloc t => (match zeroOf P t with | some vs => okVs vs cs | none => false) | _ => false
  | .box x' => match op with | .box _ x => okX x x' | _ => false
  | .ibox x' => match op with | .box _ x => okX x x' | _ => false
  | .build z ps' => match op with | .build t ps => okBuild P t z ps.toList ps' | _ => false
  | .lit el sz n z ps' _ => match op with | .buildSlice t n' ps => n' == n && okLit P t el sz n z ps.toList ps' | _ => false
  | .load x' n => match op with | .load t x => okX x x' && okN P t n | _ => false
  | .store x' v' n => match op with | .store t x v => okX x x' && okX v v' && okN P t n && dst == none | _ => false
  | .nilchk x' => match op with | .nilCheck x => okX x x' | _ => false
  | .bin bo x' y' => match op with | .binOp bo' _ x y _ => bo' == bo && okX x x' && okX y y' && bo != .shl | _ => false
  | .beq neg x' y' => match op with | .binOp bo t x y _ => bo == negOp neg && okX x x' && okX y y' && (match P.underlying t with | some .bool => true | _ => false) | _ => false
  | .eqs neg ks x' y' => match op with | .binOp bo t x y _ => bo == negOp neg && okX x x' && okX y y' && okEqs P t ks | _ => false
  | .isnil ptr neg x' => match op with | .binOp bo t x y _ => bo == negOp neg && okX x x' && okNil P t ptr y | _ => false
  | .not x' => match op with | .unOp .not _ x => okX x x' | _ => false
  | .neg x' => match op with | .unOp .neg _ x => okX x x' | _ => false
  | .conv k x' => match op with | .convert src dst x => okX x x' && okConv P src dst k | _ => false
  | .mkfn f caps => match op with | .makeFunc (.func g) first xs => g == f && first.isEmpty && okXs xs.toList caps | _ => false
  | .mkrow el sz bytes z x' => match op with | .makeSlice t x y => sameX x y && okX x x' && okMake P t el sz bytes z | _ => false
  | .fieldp x' off _ => match op with | .fieldAddr t x j => okX x x' && okField P t j off | _ => false
  | .field x' off n => match op with
    | .field t x j => okX x x' && (match P.underlying t with | some (.struct fs) => (match fs[j]? with | some f => f.offset == off && okN P f.type n | none => false) | _ => false)
    | _ => false
  | .idxp x' y' sz => match op with | .indexAddr t x y => okX x x' && okX y y' && okIdx P t sz | _ => false
  | .idxa x' y' len sz => match op with | .indexAddr t x y => okX x x' && okX y y' && okIdxA P t len sz | _ => false
  | .ext x' k => match op with | .extract x k' => k' == k && okX x x' | _ => false
  | .len str x' => match op with
    | .call { callee := .builtin .len, args := ⟨[x]⟩, argTypes := ⟨[t]⟩ } => okX x x' && okLen P t str
    | _ => false
  | .app x' y' el sz bytes => match op with
    | .call { callee := .builtin .append, args := ⟨[x, y]⟩, argTypes := ⟨[t, t']⟩ } => t == t' && okX x x' && okX y y' && okApp P t el sz bytes
    | _ => false
  | .minmax mx x' y' => match op with
    | .call { callee := .builtin .max, args := ⟨[x, y]⟩, argTypes := _ } => mx && okX x x' && okX y y'
    | .call { callee := .builtin .min, args := ⟨[x, y]⟩, argTypes := _ } => !mx && okX x x' && okX y y'
    | _ => false
  | .slice x' lo' hi' sz => match op with | .slice t x lo hi none => okX x x' && okXo lo lo' && okXo hi hi' && okIdx P t sz | _ => false
  | .call f' xs' foot ro _ => match op with
    | .call cl => (match cl.callee with | .value f => okX f f' && okXs cl.args.toList xs' && okFoot foot ro | _ => false)
    | _ => false

section
variable {P : Program} {c : Cx} {s : St} {a : Act} {w : World} {κ : Conc} {o : Oper} {K : A → St → Prop} {next : Act → World → Prop} {Q : Exit → Act → World → Prop} {d : Nat}

theorem snd_op (h : RS c s a w κ) (hn : Leaves c a o.dst K next) {i : IOp} (ok : okIOp P o.op o.dst i = true) (hs : sem (CSem P) i d s K) : o.wp P a w next Q := by
  generalize hop : o.op = op at ok
  cases i <;> simp only [okIOp] at ok
  case mov => split at ok <;> first | exact snd_mov h hn (.inl hop) ok hs | exact snd_mov h hn (.inr hop) ok hs | cases ok
  case ntok =>
    split at ok
    · exact snd_ntok h hn (Grew.refl w) (by simp [execOp, hop, Act.eval]) (.inl rfl) hs
    · exact snd_ntok h hn (Grew.refl w) (by simp [execOp, hop, Act.eval]) (.inl rfl) hs
    · obtain ⟨w', g, hr⟩ := run_empty (a := a) (w := w) hop ok
      exact snd_ntok h hn g hr (.inr ⟨_, _, rfl⟩) hs
    · cases ok
  case nrow =>
    split at ok
    · exact snd_nrow (al := none) h hn (Grew.refl w) (by simp [execOp, hop, Act.eval]) hs
    · exact snd_nrow (al := none) h hn (Grew.refl w) (by simp [execOp, hop, Act.eval]) hs
    · cases ok
  case ibox =>
    split at ok
    · exact snd_ibox h hn hop ok hs
    · cases ok
  case pick =>
    split at ok
    · simp only [Bool.and_eq_true] at ok
      exact snd_pick h hn hop ok.1.1 ok.1.2 ok.2 hs
    · cases ok
  case alloc =>
    split at ok
    · exact snd_alloc h hn hop ok hs
    · cases ok
  case box =>
    split at ok
    · exact snd_box h hn hop ok hs
    · cases ok
  case build =>
    split at ok
    · exact snd_build h hn hop ok hs
    · cases ok
  case lit =>
    split at ok
    · simp only [Bool.and_eq_true, beq_iff_eq] at ok
      obtain ⟨rfl, ok⟩ := ok
      exact snd_lit h hn hop ok hs
    · cases ok
  case load =>
    split at ok
    · simp only [Bool.and_eq_true] at ok
      exact snd_load h hn hop ok.1 ok.2 hs
    · cases ok
  case store =>
    split at ok
    · simp only [Bool.and_eq_true, beq_iff_eq] at ok
      obtain ⟨⟨⟨h1, h2⟩, h3⟩, h4⟩ := ok
      rw [h4] at hn
      exact snd_store h hn hop h1 h2 h3 hs h4
    · cases ok
  case nilchk =>
    split at ok
    · exact snd_nilchk h hn hop ok hs
    · cases ok
  case bin =>
    split at ok
    · simp only [Bool.and_eq_true, beq_iff_eq, bne_iff_ne] at ok
      obtain ⟨⟨⟨rfl, h2⟩, h3⟩, h4⟩ := ok
      exact snd_bin h hn hop h2 h3 h4 hs
    · cases ok
  case beq =>
    split at ok
    · simp only [Bool.and_eq_true, beq_iff_eq] at ok
      obtain ⟨⟨⟨rfl, h2⟩, h3⟩, h4⟩ := ok
      exact snd_beq h hn hop h2 h3 h4 hs
    · cases ok
  case eqs =>
    split at ok
    · simp only [Bool.and_eq_true, beq_iff_eq] at ok
      obtain ⟨⟨⟨rfl, h2⟩, h3⟩, h4⟩ := ok
      exact snd_eqs h hn hop h2 h3 h4 hs
    · cases ok
  case isnil =>
    split at ok
    · simp only [Bool.and_eq_true, beq_iff_eq] at ok
      obtain ⟨⟨rfl, h2⟩, h3⟩ := ok
      exact snd_isnil h hn hop h2 h3 hs
    · cases ok
  case not =>
    split at ok
    · exact snd_not h hn hop ok hs
    · cases ok
  case neg =>
    split at ok
    · exact snd_neg h hn hop ok hs
    · cases ok
  case conv =>
    split at ok
    · simp only [Bool.and_eq_true] at ok
      exact snd_conv h hn hop ok.1 ok.2 hs
    · cases ok
  case mkfn =>
    split at ok
    · simp only [Bool.and_eq_true, beq_iff_eq] at ok
      obtain ⟨⟨rfl, h2⟩, h3⟩ := ok
      have h2 := Array.isEmpty_iff.1 h2
      subst h2
      exact snd_mkfn h hn hop h3 hs
    · cases ok
  case mkrow =>
    split at ok
    · simp only [Bool.and_eq_true] at ok
      have e := sameX_eq ok.1.1
      subst e
      exact snd_mkrow h hn hop ok.1.2 ok.2 hs
    · cases ok
  case fieldp =>
    split at ok
    · simp only [Bool.and_eq_true] at ok
      exact snd_fieldp h hn hop ok.1 ok.2 hs
    · cases ok
  case field =>
    split at ok
    · rw [Bool.and_eq_true] at ok
      exact snd_field h hn hop ok.1 ok.2 hs
    · cases ok
  case idxp =>
    split at ok
    · simp only [Bool.and_eq_true] at ok
      exact snd_idxp h hn hop ok.1.1 ok.1.2 ok.2 hs
    · cases ok
  case idxa =>
    split at ok
    · simp only [Bool.and_eq_true] at ok
      exact snd_idxa h hn hop ok.1.1 ok.1.2 ok.2 hs
    · cases ok
  case ext =>
    split at ok
    · simp only [Bool.and_eq_true, beq_iff_eq] at ok
      obtain ⟨rfl, ok⟩ := ok
      exact snd_ext h hn hop ok hs
    · cases ok
  case len =>
    split at ok
    · simp only [Bool.and_eq_true] at ok
      exact snd_len h hn hop ok.1 ok.2 hs
    · cases ok
  case app =>
    split at ok
    · simp only [Bool.and_eq_true, beq_iff_eq] at ok
      obtain ⟨⟨⟨rfl, h2⟩, h3⟩, h4⟩ := ok
      exact snd_app h hn hop h2 h3 h4 hs
    · cases ok
  case minmax mx x' y' =>
    split at ok
    · simp only [Bool.and_eq_true] at ok
      obtain ⟨⟨rfl, h2⟩, h3⟩ := ok
      exact snd_minmax (mx := true) h hn hop h2 h3 hs
    · simp only [Bool.and_eq_true, Bool.not_eq_true'] at ok
      obtain ⟨⟨rfl, h2⟩, h3⟩ := ok
      exact snd_minmax (mx := false) h hn hop h2 h3 hs
    · cases ok
  case slice =>
    split at ok
    · simp only [Bool.and_eq_true] at ok
      exact snd_slice h hn hop ok.1.1.1 ok.1.1.2 ok.1.2 ok.2 hs
    · cases ok
  case call =>
    split at ok
    · split at ok
      · rename_i hc
        simp only [Bool.and_eq_true] at ok
        exact snd_call h hn hop hc ok.1.1 ok.1.2 ok.2 hs
      · cases ok
    · cases ok
end
end Go.Tide

/- Regions with their order, code, and whole functions. -/
set_option linter.unusedSimpArgs false
set_option linter.unusedVariables false
namespace Go.Tide

/-- One operation held against its abstract one ('ops': the region, for the guard; 'N': how many slots). -/
def okG (P : Program) (N : Nat) (ops : Array Oper) (o : Oper) (g : GOp) : Bool :=
  (match o.dst, g.dst with | none, none => true | some d, some d' => d == d' && decide (d < N) | _, _ => false) &&
  (match o.guard, g.guard with
    | none, none => true
    | some (j, want), some (r, want') => want == want' && decide (r < N) && (match ops[j]? with | some q => q.dst == some r | none => false)
    | _, _ => false) &&
  okIOp P o.op o.dst g.op

/-- What is so of the state behind. -/
def Reach (c : Cx) (K : St → Prop) (a : Act) (w : World) : Prop := ∃ s κ, RS c s a w κ ∧ K s

section
variable {P : Program} {c : Cx} {s : St} {a : Act} {w : World} {κ : Conc} {Q : Exit → Act → World → Prop}

theorem fin_leaves {g : GOp} {dst : Option Tmp} {N : Nat} (hN : N ≤ c.N) (hd : (match dst, g.dst with | none, none => true | some d, some d' => d == d' && decide (d < N) | _, _ => false) = true) {K : St → Prop} (defers : a.defers = a.defers) :
    ∀ x s' κ' v w', g.fin K x s' → RS c s' a w' κ' → VR w' (Zof c.Z0 s'.ob κ') s'.ob κ' x v → Reach c K (a.put dst v) w' := by
  intro x s' κ' v w' hK hrs hv
  unfold GOp.fin at hK
  split at hd
  · rename_i hg
    rw [hg] at hK
    exact ⟨s', κ', hrs, hK⟩
  · rename_i d d' hg
    simp only [Bool.and_eq_true, beq_iff_eq, decide_eq_true_eq] at hd
    obtain ⟨rfl, hd⟩ := hd
    rw [hg] at hK
    obtain ⟨e, l, xx⟩ := s'
    simp only [forceA_iff] at hK
    exact ⟨_, κ', hrs.put d (Nat.lt_of_lt_of_le hd hN) hv, hK⟩
  · cases hd

theorem gop_sound (h : RS c s a w κ) {N : Nat} (hN : N ≤ c.N) {ops : Array Oper} {o : Oper} {g : GOp} (ok : okG P N ops o g = true) {K : St → Prop} (hs : g.wp (CSem P) K s) :
    if Region.wanted o (yielded ops a.tmps) then o.wp P a w (Reach c K) Q else Reach c K (a.put o.dst undef) w := by
  simp only [okG, Bool.and_eq_true] at ok
  obtain ⟨⟨hd, hg⟩, hop⟩ := ok
  have leaves : Leaves c a o.dst (g.fin K) (Reach c K) := fin_leaves hN hd rfl
  rw [GOp.wp_eq] at hs
  unfold GOp.wp0 at hs
  split at hg
  · rename_i h1 h2
    rw [h2] at hs
    simp only [Region.wanted, h1, if_true]
    exact snd_op h leaves hop hs
  · rename_i j want r want' h1 h2
    rw [h2] at hs
    simp only [Bool.and_eq_true, beq_iff_eq, decide_eq_true_eq] at hg
    obtain ⟨⟨rfl, hr⟩, hq⟩ := hg
    have hlt : r < a.tmps.size := Nat.lt_of_lt_of_le (Nat.lt_of_lt_of_le hr hN) h.size
    have hy : yielded ops a.tmps j = match a.tmps[r]? with | some (.bool b) => some b | _ => none := by
      unfold yielded
      split at hq
      · rename_i q hq1
        have hq2 := eq_of_beq hq
        simp only [hq1, hq2, Option.bind_some]
        rfl
      · cases hq
    have hv := h.env r
    simp only [Region.wanted, h1]
    simp only at hs
    split at hs
    · rename_i b hb
      rw [hb] at hv
      have hv := hv.bool_inv
      have : a.tmps[r]? = some (.bool b) := by
        rw [Array.getD_eq_getD_getElem?, Array.getElem?_eq_getElem hlt] at hv
        rw [Array.getElem?_eq_getElem hlt]
        exact congrArg some hv
      rw [hy, this]
      cases hbw : b == want with
      | true =>
        rw [hbw] at hs
        have e := eq_of_beq hbw
        subst e
        simp only [beq_self_eq_true, if_true]
        exact snd_op h leaves hop hs
      | false =>
        rw [hbw] at hs
        have : (some b == some want) = false := by simpa using hbw
        simp only [this]
        exact leaves _ _ _ _ _ hs h (.imm _ _ (.tup [] #[] rfl (by simp)))
    · rename_i hb
      rw [hb] at hv
      obtain ⟨vs, hv, _⟩ := hv.tup_inv
      have : a.tmps[r]? = some (.tuple vs) := by
        rw [Array.getD_eq_getD_getElem?, Array.getElem?_eq_getElem hlt] at hv
        rw [Array.getElem?_eq_getElem hlt]
        exact congrArg some hv
      rw [hy, this]
      have : ((none : Option Bool) == some want) = false := rfl
      simp only [this]
      exact leaves _ _ _ _ _ hs h (.imm _ _ (.tup [] #[] rfl (by simp)))
    · exact hs.elim
  · cases hg

def okGs (P : Program) (N : Nat) (ops : Array Oper) : List Oper → List GOp → Bool
  | [], [] => true
  | o :: os, g :: gs => okG P N ops o g && okGs P N ops os gs
  | _, _ => false

theorem wpo_sound {N : Nat} (hN : N ≤ c.N) {ops : Array Oper} {K : St → Prop} (hK : ∀ a w, Reach c K a w → Q .normal a w) : ∀ (os : List Oper) (gs : List GOp) (i : Nat) (a : Act) (w : World), okGs P N ops os gs = true → (∀ j, os[j]? = ops[i + j]?) →
    Reach c (wpo (CSem P) gs K) a w → wpOps P ops Q (List.range' i os.length) a w
  | [], [], i, a, w, _, _, h => hK _ _ h
  | o :: os, g :: gs, i, a, w, ok, hos, ⟨s, κ, h, hs⟩ => by
    simp only [okGs, Bool.and_eq_true] at ok
    have h0 : ops[i]? = some o := by simpa using (hos 0).symm
    rw [List.length_cons, List.range'_succ, wpOps_cons]
    unfold wpOp
    simp only [h0]
    have h1 := gop_sound (Q := Q) h hN ok.1 hs
    have rest : ∀ a w, Reach c (wpo (CSem P) gs K) a w → wpOps P ops Q (List.range' (i + 1) os.length) a w := fun a w hr =>
      wpo_sound hN hK os gs (i + 1) a w ok.2 (fun j => by have := hos (j + 1); simpa [Nat.add_assoc, Nat.add_comm 1 j] using this) hr
    split
    · rename_i hw
      rw [if_pos hw] at h1
      exact .inl (Oper.wp_mono rest h1)
    · rename_i hw
      rw [if_neg hw] at h1
      exact rest _ _ h1
  | [], _ :: _, _, _, _, ok, _, _ => by simp [okGs] at ok
  | _ :: _, [], _, _, _, ok, _, _ => by simp [okGs] at ok

/-- A region in its one order. -/
theorem reg_sound (h : RS c s a w κ) {N : Nat} (hN : N ≤ c.N) {id : Nat} {ops : Array Oper} {gs : List GOp} (ok : okGs P N ops ops.toList gs = true) {K : St → Prop} (hK : ∀ a w, Reach c K a w → Q .normal a w) (hs : wpo (CSem P) gs K s) :
    (Code.region id ops false).wp P Q a w := by
  refine wp_region ?_
  have := wpo_sound (Q := Q) hN hK ops.toList gs 0 a w ok (fun j => by simp) ⟨s, κ, h, hs⟩
  rwa [List.range_eq_range', ← Array.length_toList]
end

/-- What an end of a piece of code says. -/
def Ends (c : Cx) (Q : Ex → St → Prop) : Exit → Act → World → Prop
  | .normal => Reach c (Q .normal)
  | .exit i => Reach c (Q (.exit i))
  | .ret => Reach c (Q .ret)
  | _ => fun _ _ => False

def okCode (P : Program) (N : Nat) (D : Array Oper → List GOp → Bool) : Code → IC → Bool
  | k, .seq (.keep _ _) b => okCode P N D k b
  | k, .seq (.frz _ _ _) b => okCode P N D k b
  | k, .seq a (.keep _ _) => okCode P N D k a
  | k, .seq a (.frz _ _ _) => okCode P N D k a
  | .seq x y, .seq a b => okCode P N D x a && okCode P N D y b
  | .skip, .skip => true
  | .region _ ops draw, .reg gs => !draw && okGs P N ops ops.toList gs
  | .region _ ops draw, .dreg gs => draw && okGs P N ops ops.toList gs && D ops gs
  | .cond x a b, .cond x' a' b' => okX x x' && okCode P N D a a' && okCode P N D b b'
  | .block i k, .block i' k' => i == i' && okCode P N D k k'
  | .loop k, .loop k' => okCode P N D k k'
  | .exit i, .exit i' => i == i'
  | .ret, .ret => true
  | _, _ => false

section
variable {P : Program} {c : Cx}

/-- What is asked of regions that draw their order (shown in the next text). -/
def DSound (P : Program) (N : Nat) (D : Array Oper → List GOp → Bool) : Prop :=
  ∀ (c : Cx) (s : St) (a : Act) (w : World) (κ : Conc) (id : Nat) (ops : Array Oper) (gs : List GOp) (K : St → Prop) (Q : Exit → Act → World → Prop), N ≤ c.N → okGs P N ops ops.toList gs = true → D ops gs = true → RS c s a w κ → (∀ a w, Reach c K a w → Q .normal a w) →
    wpd (CSem P) gs K s → (Code.region id ops true).wp P Q a w

theorem Ends.mono {Q Q' : Ex → St → Prop} (h : ∀ e s, Q e s → Q' e s) : ∀ e a w, Ends c Q e a w → Ends c Q' e a w := by
  intro e a w he
  cases e <;> first | exact he.elim | (obtain ⟨s, κ, h1, h2⟩ := he; exact ⟨s, κ, h1, h _ _ h2⟩)

theorem code_sound {N : Nat} (hN : N ≤ c.N) {D : Array Oper → List GOp → Bool} (hD : DSound P N D) : ∀ (i : IC) (k : Code) (Q : Ex → St → Prop) (s : St) (a : Act) (w : World) (κ : Conc), okCode P N D k i = true → RS c s a w κ → wpc (CSem P) i Q s →
    k.wp P (Ends c Q) a w := by
  intro i
  induction i with
  | skip =>
    intro k Q s a w κ ok h hs
    cases k <;> simp [okCode] at ok
    exact wp_skip ⟨s, κ, h, hs⟩
  | reg gs =>
    intro k Q s a w κ ok h hs
    cases k <;> simp [okCode] at ok
    obtain ⟨rfl, ok⟩ := ok
    exact reg_sound h hN ok (fun _ _ h => h) hs
  | dreg gs =>
    intro k Q s a w κ ok h hs
    cases k <;> simp [okCode] at ok
    obtain ⟨⟨rfl, ok⟩, hd⟩ := ok
    exact hD c s a w κ _ _ gs _ _ hN ok hd h (fun _ _ h => h) hs
  | cond x b1 b2 ih1 ih2 =>
    intro k Q s a w κ ok h hs
    cases k <;> simp [okCode] at ok
    obtain ⟨⟨hx, h1⟩, h2⟩ := ok
    have hv := okX_rel h hx
    simp only [wpc] at hs
    split at hs
    · rename_i t ht
      rw [ht] at hv
      refine wp_cond hv.bool_inv ?_
      cases t
      · simp only [cond_false, setX_eq ht] at hs
        exact ih2 _ Q s a w κ h2 h hs
      · simp only [cond_true, setX_eq ht] at hs
        exact ih1 _ Q s a w κ h1 h hs
    · exact hs.elim
  | block id b ih =>
    intro k Q s a w κ ok h hs
    cases k <;> simp [okCode] at ok
    obtain ⟨rfl, ok⟩ := ok
    refine wp_block (wp_mono (ih _ _ s a w κ ok h hs) fun e a' w' he => ?_)
    cases e with
    | normal => exact he
    | exit j =>
      simp only [Exit.inBlock]
      obtain ⟨s', κ', h1, h2⟩ := he
      split
      · rename_i e
        subst e
        simp only [blkQ, beq_self, cond_true] at h2
        exact ⟨s', κ', h1, h2⟩
      · rename_i e
        simp only [blkQ, beq_ne e, cond_false] at h2
        exact ⟨s', κ', h1, h2⟩
    | ret => exact he
    | goto l => exact he.elim
    | panic ch => exact he.elim
    | outgrown => exact he.elim
  | loop b ih =>
    intro k Q s a w κ ok h hs
    cases k <;> simp [okCode] at ok
    rename_i code
    intro fb kk cs
    have key : ∀ (s : St), Loop (wpc (CSem P) b) Q s → ∀ a w κ, RS c s a w κ → ∃ e a' w', Ends c Q e a' w' ∧ Arrives P (lone (fb.at a (.code code :: .inLoop code :: kk)) cs w) fb kk cs e a' w' := by
      intro s hl
      unfold Loop at hl
      refine hl (fun s => ∀ a w κ, RS c s a w κ → ∃ e a' w', Ends c Q e a' w' ∧ Arrives P (lone (fb.at a (.code code :: .inLoop code :: kk)) cs w) fb kk cs e a' w') fun s hb a w κ h => ?_
      obtain ⟨e, a1, w1, hq, harr⟩ := ih code _ s a w κ ok h hb fb (.inLoop code :: kk) cs
      cases e with
      | normal =>
        obtain ⟨s', κ', h1, h2⟩ := hq
        obtain ⟨e2, a2, w2, hq2, harr2⟩ := h2 a1 w1 κ' h1
        exact ⟨e2, a2, w2, hq2, .of_steps (Steps.trans harr (.one step_inLoop)) harr2⟩
      | exit id => exact ⟨.exit id, a1, w1, hq, .pass (x := .inLoop code) rfl (fun _ _ => .inl (by simp)) harr⟩
      | ret => exact ⟨.ret, a1, w1, hq, .pass (x := .inLoop code) rfl (fun _ _ => .inl (by simp)) harr⟩
      | goto l => exact hq.elim
      | panic ch => exact hq.elim
      | outgrown => exact hq.elim
    obtain ⟨e, a', w', hq, harr⟩ := key s hs a w κ h
    exact ⟨e, a', w', hq, .of_steps (.one step_loop) harr⟩
  | exit id =>
    intro k Q s a w κ ok h hs
    cases k <;> simp [okCode] at ok
    subst ok
    exact wp_exit ⟨s, κ, h, hs⟩
  | ret =>
    intro k Q s a w κ ok h hs
    cases k <;> simp [okCode] at ok
    exact wp_ret ⟨s, κ, h, hs⟩
  | keep ts os =>
    intro k Q s a w κ ok h hs
    cases k <;> simp [okCode] at ok
  | frz j ts os =>
    intro k Q s a w κ ok h hs
    cases k <;> simp [okCode] at ok
  | seq x y ihx ihy =>
    intro k Q s a w κ ok h hs
    have go : ∀ (u v : Code), k = .seq u v → okCode P N D u x = true → okCode P N D v y = true → k.wp P (Ends c Q) a w := by
      intro u v hk h1 h2
      subst hk
      simp only [wpc] at hs
      refine wp_seq (wp_mono (ihx u _ s a w κ h1 h hs) fun e a' w' he => ?_)
      cases e with
      | normal =>
        obtain ⟨s', κ', g1, g2⟩ := he
        exact ihy v Q s' a' w' κ' h2 g1 g2
      | exit j => exact he
      | ret => exact he
      | goto l => exact he.elim
      | panic ch => exact he.elim
      | outgrown => exact he.elim
    have behind : ∀ ts os, y = .keep ts os → okCode P N D k x = true → k.wp P (Ends c Q) a w := by
      intro ts os hy h1
      subst hy
      simp only [wpc] at hs
      refine wp_mono (ihx k _ s a w κ h1 h hs) fun e a' w' he => ?_
      cases e with
      | normal =>
        obtain ⟨s', κ', g1, g2⟩ := he
        obtain ⟨s2, g3, g4⟩ := keep_sound g1 g2
        exact ⟨s2, κ', g4, g3⟩
      | exit j => exact he
      | ret => exact he
      | goto l => exact he.elim
      | panic ch => exact he.elim
      | outgrown => exact he.elim
    have behind2 : ∀ j ts os, y = .frz j ts os → okCode P N D k x = true → k.wp P (Ends c Q) a w := by
      intro j ts os hy h1
      subst hy
      simp only [wpc] at hs
      refine wp_mono (ihx k _ s a w κ h1 h hs) fun e a' w' he => ?_
      cases e with
      | normal =>
        obtain ⟨s', κ', g1, g2⟩ := he
        obtain ⟨s2, g3, g4⟩ := frz_sound g1 g2
        exact ⟨s2, κ', g4, g3⟩
      | exit j => exact he
      | ret => exact he
      | goto l => exact he.elim
      | panic ch => exact he.elim
      | outgrown => exact he.elim
    unfold okCode at ok
    split at ok
    · rename_i heq
      cases heq
      simp only [wpc] at hs
      obtain ⟨s2, g1, g2⟩ := keep_sound h hs
      exact ihy _ Q s2 a w κ ok g2 g1
    · rename_i heq
      cases heq
      simp only [wpc] at hs
      obtain ⟨s2, g1, g2⟩ := frz_sound h hs
      exact ihy _ Q s2 a w κ ok g2 g1
    · rename_i heq
      cases heq
      exact behind _ _ rfl ok
    · rename_i heq
      cases heq
      exact behind2 _ _ _ rfl ok
    · rename_i heq
      cases heq
      simp only [Bool.and_eq_true] at ok
      exact go _ _ rfl ok.1 ok.2
    all_goals first | (rename_i heq; cases heq; done) | cases ok
end
end Go.Tide

/- A function's results, its body, and the meaning of calls. -/
set_option linter.unusedSimpArgs false
set_option linter.unusedVariables false
namespace Go.Tide

theorem mapM_run {α β : Type} {P : Program} {w : World} (f : α → Sem β) (arr : Array α) (g : α → β) (hf : ∀ x ∈ arr.toList, (f x).run P w = .ok (g x) w) : (arr.mapM f).run P w = .ok (arr.map g) w := by
  have key : ∀ l : List α, (∀ x ∈ l, (f x).run P w = .ok (g x) w) → (l.mapM f).run P w = .ok (l.map g) w := by
    intro l
    induction l with
    | nil => intro _; simp
    | cons x r ih =>
      intro h
      have h0 := h x (by simp)
      have h1 := ih (fun y hy => h y (by simp [hy]))
      simp [List.mapM_cons, h0, h1]
  have e : arr = arr.toList.toArray := by simp
  rw [e, List.mapM_toArray]
  have := key arr.toList hf
  simp only [Sem.run_bind, Sem.run_pure, this, Result.andThen_ok, map_eq_pure_bind]
  congr 1
  apply Array.toList_inj.1
  rw [Array.toList_map]

section
variable {P : Program} {c : Cx} {s : St} {a : Act} {w : World} {κ : Conc}

theorem loadK_sound (h : RS c s a w κ) {t : TypeId} {n : Option Nat} {x : A} {u : Value} (h1 : VR w (Zof c.Z0 s.ob κ) s.ob κ x u) (hN : okN P t n = true) {k : A → Prop} {l : Sto} (hl : ∀ i o, l i = some o → s.loc i = some o) (hs : loadK ⟨s.env, l, s.ext⟩ n x k) :
    ∃ y v, k y ∧ (Instr.loadAt t u).run P w = .ok v w ∧ VR w (Zof c.Z0 s.ob κ) s.ob κ y v ∧ ∃ ad, u = .pointer (some ad) := by
  have hob' : ∀ i o, (⟨s.env, l, s.ext⟩ : St).ob i = some o → s.ob i = some o := fun i o hi => by
    cases i with
    | L m => exact hl m o hi
    | U m => exact hi
  unfold loadK at hs
  split at hs
  · rename_i i off
    obtain ⟨b, e1, hk, cs, hc⟩ := h1.ref_inv
    split at hs
    · rename_i cs' hc'
      have := hob' _ _ hc'
      rw [hc] at this
      cases this
      split at hs
      · rename_i v hp
        have hob := h.obs i _ hc
        rw [hk] at hob
        obtain ⟨b', arr, t', hb, hh, hl, hone, hr⟩ := hob
        cases hb
        obtain ⟨u', hrun, hv⟩ := load_run (P := P) (w := w) hN hp b 0 (fun j => arr.getD j (.tuple #[])) (fun j hj => by
          have : j < arr.size := by omega
          simp [World.cell?, hh, Array.getD_eq_getD_getElem?, this]) (fun j hj => by
          have : j < arr.size := by omega
          simp only [Array.getD_eq_getD_getElem?, Array.getElem?_eq_getElem this, Option.getD_some]
          exact hone _ (Array.getElem_mem_toList this)) hr
        rw [Nat.zero_add] at hrun
        exact ⟨v, u', hs, by rw [e1]; exact hrun, hv, _, e1⟩
      · exact hs.elim
    · exact hs.elim
  · rename_i i m j off
    obtain ⟨b, p, e1, e, sz, xs, h2, h3, h4⟩ := h1.rref_inv
    split at hs
    · rename_i _ _ _ hc'
      have := hob' _ _ hc'
      rw [h2] at this
      cases this
      obtain ⟨cs, hm, hj, hs⟩ := hs
      split at hs
      · rename_i v hp
        subst hm
        have hlt : j < xs.length := (List.getElem?_eq_some_iff.1 hj).1
        obtain ⟨rfl, k, hk⟩ := h4 rfl hlt
        have hob := h.obs i _ h2
        rw [hk] at hob
        obtain ⟨cur, f, hh, hl, hle, hcell, hr⟩ := row_cells hob hj
        obtain ⟨u', hrun, hv⟩ := load_run (P := P) (w := w) (Z := Zof c.Z0 s.ob κ) (σ := s.ob) (κ := κ) hN hp b (j * sz) f (fun jj hjj => by
          have := (hcell jj hjj).1
          simpa [World.cell?, hh] using this) (fun jj hjj => (hcell jj hjj).2) (fun jj y hy => .imm _ _ (hr jj y hy))
        exact ⟨v, u', hs, by rw [e1]; exact hrun, hv, _, e1⟩
      · exact hs.elim
    · exact hs.elim
  · rename_i cs off
    obtain ⟨b, p, vs, e1, h2, h3, h4⟩ := h1.pim_inv.pim_inv
    split at hs
    · rename_i v hp
      obtain ⟨u', hrun, hv⟩ := load_run (P := P) (w := w) (Z := Zof c.Z0 s.ob κ) (σ := s.ob) (κ := κ) hN hp b p vs (fun j hj => (h2 j hj).2) (fun j _ => h3 j) (fun j y hy => .imm _ _ (h4 j y hy))
      exact ⟨v, u', hs, by rw [e1]; exact hrun, hv, _, e1⟩
    · exact hs.elim
  · exact hs.elim

def okRess (P : Program) : List ResultVar → List Res → Bool
  | [], [] => true
  | .tmp t :: r, .tmp t' _ :: r' => t == t' && okRess P r r'
  | .cell t ty :: r, .cell t' n :: r' => t == t' && okN P ty n && okRess P r r'
  | _, _ => false

/-- A result as it leaves, told in the state at the end (μ: whose object it takes along). -/
def RM (w : World) (Z : Zone) (s : St) (κ : Conc) (μ : Option Nat) (y : A) (v : Value) : Prop :=
  match y with
  | .nrow e sz xs => ∃ i, μ = some i ∧ s.loc i = some (.row e sz xs) ∧ κ (.L i) = v
  | .ngs e sz xs => ∃ i, μ = some i ∧ s.loc i = some (.tok e sz xs.length) ∧ κ (.L i) = v ∧ Imm w Z (.sl xs) v ∧ ∀ x ∈ xs, x.length = sz
  | .nvar cs => ∃ i cs0, μ = some i ∧ s.loc i = some (.cells cs0) ∧ cs = A.renL (clip []) cs0 ∧ κ (.L i) = v
  | y => ∃ z, y = z.ren (clip []) ∧ VR w Z s.ob κ z v

theorem RM.plain {Z : Zone} {μ : Option Nat} {z : A} {v : Value} (h : VR w Z s.ob κ z v) : RM w Z s κ μ (z.ren (clip [])) v := by
  cases z with
  | nrow e sz xs => cases h with | imm _ _ h => cases h
  | ngs e sz xs => cases h with | imm _ _ h => cases h
  | nvar cs => cases h with | imm _ _ h => cases h
  | gs t xs => simp only [A.ren]; cases hh : clip [] t <;> exact ⟨.gs t xs, by simp [A.ren, hh], h⟩
  | own t z n => simp only [A.ren]; cases hh : clip [] t <;> exact ⟨.own t z n, by simp [A.ren, hh], h⟩
  | ref t z => simp only [A.ren]; cases hh : clip [] t <;> exact ⟨.ref t z, by simp [A.ren, hh], h⟩
  | rref t n j z => simp only [A.ren]; cases hh : clip [] t <;> exact ⟨.rref t n j z, by simp [A.ren, hh], h⟩
  | fn f cs => rw [A.ren]; exact ⟨.fn f cs, by rw [A.ren], h⟩
  | agg cs => rw [A.ren]; exact ⟨.agg cs, by rw [A.ren], h⟩
  | tup cs => rw [A.ren]; exact ⟨.tup cs, by rw [A.ren], h⟩
  | _ => simp only [A.ren]; exact ⟨_, by simp only [A.ren], h⟩

/-- One result. -/
theorem ret_sound (h : RS c s a w κ) {own : Bool} {x : A} {v : Value} (hx : VR w (Zof c.Z0 s.ob κ) s.ob κ x v) {l : Sto} (hl : ∀ i o, l i = some o → s.loc i = some o) {k : A → St → Prop} (hs : retA own ⟨s.env, l, s.ext⟩ x k) :
    ∃ y l' μ, k y ⟨s.env, l', s.ext⟩ ∧ (∀ i o, l' i = some o → l i = some o) ∧ (∀ i, μ = some i → l i ≠ none ∧ l' i = none) ∧ RM w (Zof c.Z0 s.ob κ) s κ μ y v := by
  have del : ∀ t, (∀ i o, updS l t none i = some o → l i = some o) := fun t i o hi => by
    rw [updS_at] at hi
    split at hi
    · cases hi
    · exact hi
  have plain : forceA (x.ren (clip [])) (fun a => k a ⟨s.env, l, s.ext⟩) → ∃ y l' μ, k y ⟨s.env, l', s.ext⟩ ∧ (∀ i o, l' i = some o → l i = some o) ∧ (∀ i, μ = some i → l i ≠ none ∧ l' i = none) ∧ RM w (Zof c.Z0 s.ob κ) s κ μ y v := fun hs => by
    rw [forceA_iff] at hs
    exact ⟨_, l, none, hs, fun _ _ h => h, fun _ h => (by cases h), RM.plain hx⟩
  unfold retA at hs
  split at hs
  · rename_i t xs
    cases own with
    | false =>
      refine ⟨_, l, none, hs, fun _ _ h => h, fun _ h => (by cases h), ⟨.sl xs, by simp [A.ren], .imm _ _ hx.gs_inv⟩⟩
    | true =>
      simp only at hs
      split at hs
      · rename_i e sz n ht
        obtain ⟨hn, hs⟩ := hs
        have ht' := hl _ _ ht
        refine ⟨_, _, some t, hs, del t, fun i hi => ?_, t, rfl, by rw [ht', hn], ?_, hx.gs_inv, ?_⟩
        · cases hi
          have ht2 : l t = some _ := ht
          exact ⟨by rw [ht2]; simp, by simp [updS_at]⟩
        · cases hx with
          | imm _ _ h => cases h
          | gs _ _ _ _ hh =>
            obtain ⟨e', sz', n', h1, h2, h3, h4⟩ := hh
            have h1' : s.loc t = some _ := h1
            rw [ht'] at h1'
            cases h1'
            exact h3 hn
        · cases hx with
          | imm _ _ h => cases h
          | gs _ _ _ _ hh =>
            obtain ⟨e', sz', n', h1, h2, h3, h4⟩ := hh
            have h1' : s.loc t = some _ := h1
            rw [ht'] at h1'
            cases h1'
            exact h4
      · exact hs.elim
  · rename_i i sz0 n
    split at hs
    · rename_i e sz xs ht
      obtain ⟨hn, hs⟩ := hs
      have ht' := hl _ _ ht
      obtain ⟨al, cp, e1, _, ⟨e5, xs5, h3, h4, h5⟩, _⟩ := hx.own_inv
      have h3' : s.loc i = some _ := h3
      rw [ht'] at h3'
      cases h3'
      refine ⟨_, _, some i, hs, del i, fun i' hi => ?_, i, rfl, ht', h5 hn⟩
      cases hi
      have ht2 : l i = some _ := ht
      exact ⟨by rw [ht2]; simp, by simp [updS_at]⟩
    · exact hs.elim
  · rename_i i off
    split at hs
    · rename_i cs ht
      have ht' := hl _ _ ht
      rw [forceL_iff] at hs
      obtain ⟨b, e1, hk, _⟩ := hx.ref_inv
      refine ⟨_, _, some i, hs, del i, fun i' hi => ?_, i, cs, rfl, ht', rfl, by rw [hk, e1]⟩
      cases hi
      have ht2 : l i = some _ := ht
      exact ⟨by rw [ht2]; simp, by simp [updS_at]⟩
    · exact hs.elim
  · exact plain hs

/-- A result read at the end. -/
def resV (a : Act) (x : ResultVar) : Sem Value :=
  match x with
  | .tmp t => pure (a.tmps.getD t undef)
  | .cell b t => do loadVar t (← asAddr (a.tmps.getD b undef))

def resG (P : Program) (w : World) (a : Act) (x : ResultVar) : Value :=
  match (resV a x).run P w with
  | .ok v _ => v
  | .halt _ _ => .tuple #[]

theorem res_sound (h : RS c s a w κ) : ∀ (rv : List ResultVar) (is : List Res) (l : Sto) (k : List A → St → Prop), okRess P rv is = true → (∀ i o, l i = some o → s.loc i = some o) → resK ⟨s.env, l, s.ext⟩ is k →
    ∃ (as : List A) (l' : Sto) (μ : Nat → Option Nat), k as ⟨s.env, l', s.ext⟩ ∧ as.length = rv.length ∧
      (∀ i o, l' i = some o → l i = some o) ∧ (∀ j i, μ j = some i → l i ≠ none ∧ l' i = none) ∧ (∀ j j' i, μ j = some i → μ j' = some i → j = j') ∧
      (∀ x ∈ rv, (resV a x).run P w = .ok (resG P w a x) w) ∧
      ∀ (j : Nat) (y : A) (x : ResultVar), as[j]? = some y → rv[j]? = some x → RM w (Zof c.Z0 s.ob κ) s κ (μ j) y (resG P w a x)
  | [], [], l, k, _, hl, hs => ⟨[], l, fun _ => none, hs, rfl, fun _ _ h => h, fun _ _ h => (by cases h), fun _ _ _ h => (by cases h), by simp, by simp⟩
  | x :: r, i :: r', l, k, ok, hl, hs => by
    -- the first, whatever it is
    have first : ∃ (own : Bool) (y : A) (v : Value), VR w (Zof c.Z0 s.ob κ) s.ob κ y v ∧ okRess P r r' = true ∧ retA own ⟨s.env, l, s.ext⟩ y (fun a s' => resK s' r' fun l => k (a :: l)) ∧ (resV a x).run P w = .ok v w := by
      cases x with
      | tmp t =>
        cases i with
        | tmp t' own =>
          simp only [okRess, Bool.and_eq_true, beq_iff_eq] at ok
          obtain ⟨rfl, ok⟩ := ok
          exact ⟨own, _, _, h.env t, ok, hs, by simp [resV]⟩
        | cell t' n => simp [okRess] at ok
      | cell t ty =>
        cases i with
        | tmp t' own => simp [okRess] at ok
        | cell t' n =>
          simp only [okRess, Bool.and_eq_true, beq_iff_eq] at ok
          obtain ⟨⟨rfl, hN⟩, ok⟩ := ok
          obtain ⟨y, v, h1, h2, h3, ad, h4⟩ := loadK_sound (P := P) h (h.env t) hN hl hs
          refine ⟨false, y, v, h3, ok, h1, ?_⟩
          rw [h4] at h2
          simp only [resV, h4, asAddr]
          simpa [Instr.loadAt, Instr.sureAddr] using h2
    obtain ⟨own, y, v, hy, ok', hs, hrun⟩ := first
    have hg : resG P w a x = v := by simp [resG, hrun]
    obtain ⟨y', l1, μ0, hk, hl1, hμ0, hm⟩ := ret_sound h hy hl hs
    obtain ⟨as, l', μ, hk2, hlen, hl2, hμ, hinj, hrun2, hm2⟩ := res_sound h r r' l1 _ ok' (fun i o hi => hl i o (hl1 i o hi)) hk
    have gone : ∀ i, l i = none → l1 i = none := fun i hi => by
      cases h1 : l1 i with
      | none => rfl
      | some o => have := hl1 i o h1; rw [hi] at this; cases this
    have gone2 : ∀ i, l1 i = none → l' i = none := fun i hi => by
      cases h1 : l' i with
      | none => rfl
      | some o => have := hl2 i o h1; rw [hi] at this; cases this
    refine ⟨y' :: as, l', fun j => match j with | 0 => μ0 | j + 1 => μ j, hk2, by simp [hlen], fun i o hi => hl1 i o (hl2 i o hi), fun j i hj => ?_, fun j j' i hj hj' => ?_, fun x' hx' => ?_, fun j z x' hz hx' => ?_⟩
    · cases j with
      | zero => exact ⟨(hμ0 i hj).1, gone2 i (hμ0 i hj).2⟩
      | succ j => exact ⟨fun e => (hμ j i hj).1 (gone i e), (hμ j i hj).2⟩
    · cases j with
      | zero =>
        cases j' with
        | zero => rfl
        | succ j' => exact absurd (hμ0 i hj).2 (hμ j' i hj').1
      | succ j =>
        cases j' with
        | zero => exact absurd (hμ0 i hj').2 (hμ j i hj).1
        | succ j' => rw [hinj j j' i hj hj']
    · rcases List.mem_cons.1 hx' with e | e
      · rw [e, hg]; exact hrun
      · exact hrun2 x' e
    · cases j with
      | zero =>
        simp only [List.getElem?_cons_zero, Option.some.injEq] at hz hx'
        subst hz
        subst hx'
        rw [hg]
        exact hm
      | succ j => exact hm2 j z x' (by simpa using hz) (by simpa using hx')
  | [], _ :: _, _, _, ok, _, _ => by simp [okRess] at ok
  | x :: _, [], _, _, ok, _, _ => by cases x <;> simp [okRess] at ok
end
end Go.Tide

/- A function's body, and what calls come to. -/
set_option linter.unusedSimpArgs false
set_option linter.unusedVariables false
namespace Go.Tide

def okFn (P : Program) (D : Array Oper → List GOp → Bool) (f : Nat) (i : IFn) : Bool :=
  match P.funcs[f]? with
  | some fn => fn.name != "runtime.NumGoroutine" && (match fn.body with | some k => okCode P fn.ntmps D k i.code | none => false) && okRess P fn.results.toList i.res
  | none => false

theorem initE_get : ∀ (as : List A) (j t : Nat), initE as j t = if j ≤ t then (as[t - j]?).getD .undef else .undef
  | [], j, t => by simp [initE]
  | x :: r, j, t => by
    rw [initE, upd_at, initE_get r (j + 1) t]
    by_cases e : t = j
    · subst e; simp
    · rw [if_neg e]
      by_cases h : j ≤ t
      · rw [if_pos h, if_pos (by omega)]
        have : t - j = (t - (j + 1)) + 1 := by omega
        rw [this]
        simp
      · rw [if_neg h, if_neg (by omega)]

section
variable {P : Program} {c : Cx} {s : St} {a : Act} {w : World} {κ : Conc}

/-- Whose object a name at the end stands for. -/
def origin (μ : Nat → Option Nat) : Id → Option Id
  | .U n => some (.U n)
  | .L j => (μ j).map .L

def outσ (s : St) (μ : Nat → Option Nat) : Id → Option Ob
  | .U n => s.ext n
  | .L j => (μ j).bind fun i => (s.loc i).map (Ob.ren (clip []))

def outκ (κ : Conc) (μ : Nat → Option Nat) : Conc
  | .U n => κ (.U n)
  | .L j => match μ j with | some i => κ (.L i) | none => .tuple #[]

theorem out_from {s : St} {κ : Conc} {μ : Nat → Option Nat} {i : Id} {o : Ob} (h : outσ s μ i = some o) : ∃ i' o', origin μ i = some i' ∧ s.ob i' = some o' ∧ Same o' o ∧ outκ κ μ i = κ i' := by
  cases i with
  | U n => exact ⟨.U n, o, rfl, h, Same.refl _, rfl⟩
  | L j =>
    simp only [outσ, Option.bind_eq_some_iff, Option.map_eq_some_iff] at h
    obtain ⟨i, hm, o', ho, rfl⟩ := h
    exact ⟨.L i, o', by simp [origin, hm], ho, Same.ren _ _, by simp [outκ, hm]⟩

theorem origin_inj {μ : Nat → Option Nat} (hinj : ∀ j j' i, μ j = some i → μ j' = some i → j = j') {i j k : Id} (h1 : origin μ i = some k) (h2 : origin μ j = some k) : i = j := by
  cases i <;> cases j <;> simp [origin] at h1 h2
  · obtain ⟨x, hx, rfl⟩ := h1
    obtain ⟨y, hy, e⟩ := h2
    cases e
    rw [hinj _ _ _ hx hy]
  · obtain ⟨x, hx, rfl⟩ := h1
    cases h2
  · obtain ⟨x, hx, rfl⟩ := h2
    cases h1
  · subst h1
    cases h2
    rfl

theorem out_rel (h : RS c s a w κ) {x : Sto} {κ0 : Conc} (hX : c.X0 = ozone x κ0) (hx0 : c.x0 = x) (hκ0 : ∀ n, c.κ0 n = κ0 (.U n)) {rs : List A} {μ : Nat → Option Nat} {vs : Array Value} {v : Value} (hinj : ∀ j j' i, μ j = some i → μ j' = some i → j = j')
    (hsz : vs.size = rs.length) (hv : v = if h : vs.size = 1 then vs[0] else .tuple vs) (hres : ∀ (j : Nat) (y : A), rs[j]? = some y → RM w (Zof c.Z0 s.ob κ) s κ (μ j) y (vs.getD j undef)) :
    OutRel c.w0 c.Z0 x κ0 rs s.ext v w (outσ s μ) (outκ κ μ) vs := by
  have zone : ∀ b off, Zof c.Z0 (outσ s μ) (outκ κ μ) b off → Zof c.Z0 s.ob κ b off := by
    intro b off hz
    rcases hz with hz | ⟨i, o, hi, hz⟩
    · exact .inl hz
    · obtain ⟨i', o', _, h2, h3, h4⟩ := out_from (κ := κ) hi
      rw [h4] at hz
      exact .inr ⟨i', o', h2, (h3.zone _ _ _).2 hz⟩
  have hZ : ∀ b off, Zof c.Z0 (outσ s μ) (outκ κ μ) b off → Zof c.Z0 s.ob κ b off ∨ w.heap.size ≤ b := fun b off hz => .inl (zone b off hz)
  have ext : ∀ (σ : Id → Option Ob), (∀ n, σ (.U n) = s.ext n) → ∀ n o, s.ext n = some o → OB w (Zof c.Z0 (outσ s μ) (outκ κ μ)) σ (outκ κ μ) (κ (.U n)) o := by
    intro σ hσ n o ho
    refine (h.exts n o ho).step hZ (fun _ _ _ _ h => h) (fun i => ?_) (fun _ _ => rfl)
    cases i with
    | L m => exact trivial
    | U m =>
      rw [hσ]
      exact LikeAt.refl _ _
  have cl : ∀ (σ : Id → Option Ob), (∀ n, σ (.U n) = s.ext n) → ∀ i j, clip [] i = some j → LikeAt (s.ob i) (σ j) (κ i) (outκ κ μ j) := by
    intro σ hσ i j hij
    cases i with
    | L m => simp [clip] at hij
    | U m =>
      simp [clip] at hij
      subst hij
      rw [hσ]
      exact LikeAt.refl _ _
  have obL : ∀ (σ : Id → Option Ob), (∀ n, σ (.U n) = s.ext n) → ∀ i o, s.loc i = some o → OB w (Zof c.Z0 (outσ s μ) (outκ κ μ)) σ (outκ κ μ) (κ (.L i)) (o.ren (clip [])) := fun σ hσ i o ho =>
    (h.obs (.L i) o ho).map (clip []) hZ (cl σ hσ)
  refine ⟨fun _ => rfl, ⟨fun i o hi => ?_, fun i j o p hi hj hij b hb hbj => ?_, fun i o b off hi hz => ?_, fun n o hi => ?_⟩, fun i o b off hi hz => ?_, ?_, fun n => ?_, hsz, hv, fun j y hy => ?_⟩
  · cases i with
    | U n => exact ext _ (fun _ => rfl) n o hi
    | L j =>
      simp only [outσ, Option.bind_eq_some_iff, Option.map_eq_some_iff] at hi
      obtain ⟨i, hm, o', ho, rfl⟩ := hi
      have e : outκ κ μ (.L j) = κ (.L i) := by simp [outκ, hm]
      rw [e]
      exact obL _ (fun _ => rfl) i o' ho
  · obtain ⟨i', o', h1, h2, _, h4⟩ := out_from (κ := κ) hi
    obtain ⟨j', p', k1, k2, _, k4⟩ := out_from (κ := κ) hj
    rw [h4] at hb
    rw [k4] at hbj
    exact h.apart i' j' o' p' h2 k2 (fun e => hij (origin_inj hinj h1 (e ▸ k1))) b hb hbj
  · obtain ⟨i', o', h1, h2, h3, h4⟩ := out_from (κ := κ) hi
    rw [h4] at hz
    exact h.zone0 i' o' b off h2 ((h3.zone _ _ _).2 hz)
  · exact ext _ (fun _ => rfl) n o hi
  · obtain ⟨i', o', h1, h2, h3, h4⟩ := out_from (κ := κ) hi
    rw [h4] at hz
    have := h.mine i' o' b off h2 ((h3.zone _ _ _).2 hz)
    rwa [hX] at this
  · have := h.frame
    rwa [hX] at this
  · have := h.ext n
    rw [hx0, hκ0] at this
    exact this
  · have hr := hres j y hy
    cases y
    case nrow e sz xs =>
      obtain ⟨i, hm, h1, h2⟩ := hr
      exact ⟨by simp [outσ, hm, h1, Ob.ren], by simp [outκ, hm, h2]⟩
    case ngs e sz xs =>
      obtain ⟨i, hm, h1, h2, h3, h4⟩ := hr
      exact ⟨by simp [outσ, hm, h1, Ob.ren], by simp [outκ, hm, h2], h3.step hZ (fun _ _ _ _ h => h), h4⟩
    case nvar cs =>
      obtain ⟨i, cs0, hm, h1, rfl, h2⟩ := hr
      refine ⟨by simp [outσ, hm, h1, Ob.ren], by simp [outκ, hm, h2], ?_⟩
      have := obL (exOb (outσ s μ)) (fun _ => rfl) i _ h1
      rw [h2] at this
      exact this
    all_goals
      obtain ⟨z, hz, hv⟩ := hr
      show VR _ _ _ _ _ _
      rw [hz]
      exact hv.map (clip []) hZ (fun _ _ _ _ h => h) (cl _ fun _ => rfl)

/-- A body, once calls inside come to what they should. -/
theorem body_sound {D : Array Oper → List GOp → Bool} (hD : ∀ N, DSound P N D) {Γ : Nat → Option IFn} (hΓ : ∀ f i, Γ f = some i → okFn P D f i = true) {f : Nat} {as : List A} {x : Sto} {K : List A → Sto → Prop}
    (h : Body Γ (CSem P) f as x K) : CSem P f as x K := by
  intro vals w Z κ hin
  unfold Body at h
  split at h
  · rename_i ifn hi
    have ok := hΓ f ifn hi
    obtain ⟨hlen, hs⟩ := h
    unfold okFn at ok
    split at ok
    · rename_i fn hf
      simp only [Bool.and_eq_true, bne_iff_ne] at ok
      obtain ⟨⟨hname, hcode⟩, hress⟩ := ok
      split at hcode
      · rename_i k hb
        let c : Cx := { Z0 := Z, X0 := ozone x κ, w0 := w, N := fn.ntmps, x0 := x, κ0 := fun n => κ (.U n), low := hin.low }
        have hrun : (callFunc f vals).run P w = .ok (.enter f vals) w := by
          simp [callFunc, go_sem, hf, hname, hb]
        unfold Enters
        rw [hrun]
        refine calls_of_wp hf hb ?_
        have hob : (⟨initE as 0, fun _ => none, x⟩ : St).ob = xob x := by funext i; cases i <;> rfl
        have hrs : RS c ⟨initE as 0, fun _ => none, x⟩ { tmps := vals ++ Array.replicate (fn.ntmps - vals.size) undef, defers := [] } w κ := by
          refine ⟨rfl, ?_, fun t => ?_, ?_, ?_, ?_, fun i o b off hi hz => ?_, Frame.refl _ _, fun n => LikeAt.refl _ _, fun n o hi => ?_⟩
          · show fn.ntmps ≤ _
            simp
            omega
          · rw [hob]
            show VR w (Zof Z (xob x) κ) (xob x) κ (initE as 0 t) ((vals ++ Array.replicate (fn.ntmps - vals.size) undef).getD t undef)
            rw [initE_get]
            simp only [Nat.zero_le, if_true, Nat.sub_zero]
            cases ht : as[t]? with
            | none => exact .imm _ _ (.undef _)
            | some y =>
              have h1 := hin.args t y ht
              have hlt : t < vals.size := by
                rw [hin.size]
                exact (List.getElem?_eq_some_iff.1 ht).1
              have : (vals ++ Array.replicate (fn.ntmps - vals.size) undef).getD t undef = vals.getD t undef := by
                simp only [Array.getD_eq_getD_getElem?]
                rw [Array.getElem?_append_left hlt]
              simp only [Option.getD_some]
              rw [this]
              exact h1
          · rw [hob]; exact hin.hold.obs
          · rw [hob]; exact hin.hold.apart
          · rw [hob]; exact hin.hold.zone0
          · rw [hob] at hi
            cases i with
            | L n => cases hi
            | U n => exact .inl ⟨n, o, hi, hz⟩
          · rw [hob]
            have := hin.hold.exts n o hi
            have e : extOb ⟨initE as 0, fun _ => none, x⟩ = exOb (xob x) := by funext i; cases i <;> rfl
            rw [e]
            exact this
        have hw := code_sound (c := c) (Nat.le_refl _) (hD fn.ntmps) ifn.code k _ _ _ _ _ hcode hrs hs
        have fin : ∀ (a' : Act) (w' : World), Reach c (fun s => resK s ifn.res fun rs s' => K rs s'.ext) a' w' → a'.defers = [] ∧ ∃ v, (results fn a'.tmps).run P w' = .ok v w' ∧ ∃ v', Ending.returned v = .returned v' ∧ ∃ rs x' σ κ' vs, K rs x' ∧ OutRel w Z x κ rs x' v' w' σ κ' vs := by
          intro a' w' ⟨s', κ', h1, h2⟩
          obtain ⟨as', l', μ, hk, hl, _, _, hinj, hrun, hm⟩ := res_sound h1 fn.results.toList ifn.res s'.loc _ hress (fun _ _ h => h) h2
          have hvs := mapM_run (P := P) (w := w') (resV a') fn.results (resG P w' a') hrun
          have hsz : (fn.results.map (resG P w' a')).size = as'.length := by rw [hl]; simp
          refine ⟨h1.defers, _, ?_, _, rfl, as', s'.ext, outσ s' μ, outκ κ' μ, fn.results.map (resG P w' a'), hk, out_rel (c := c) h1 rfl rfl (fun _ => rfl) hinj hsz rfl fun j y hy => ?_⟩
          · have e : results fn a'.tmps = (do let vs ← fn.results.mapM (resV a'); pure (if h : vs.size = 1 then vs[0] else .tuple vs)) := by
              unfold results
              congr 2
            rw [e, Sem.run_bind, hvs, Result.andThen_ok, Sem.run_pure]
          · have hj : j < fn.results.size := by
              have := (List.getElem?_eq_some_iff.1 hy).1
              rw [hl] at this
              simpa using this
            have hx : fn.results.toList[j]? = some fn.results[j] := by simp [hj]
            have := hm j y _ hy hx
            have e : (fn.results.map (resG P w' a')).getD j undef = resG P w' a' fn.results[j] := by
              simp [Array.getD_eq_getD_getElem?, hj]
            rw [e]
            exact this
        refine wp_mono hw fun e a' w' he => ?_
        cases e with
        | normal => exact fin a' w' he
        | ret => exact fin a' w' he
        | exit j =>
          obtain ⟨_, _, _, h3⟩ := he
          exact h3
        | goto l => exact he.elim
        | panic ch => exact he.elim
        | outgrown => exact he.elim
      · cases hcode
    · cases ok
  · exact h.elim

/-- What the abstract semantics says of a call holds of the real one. -/
theorem call_sound {D : Array Oper → List GOp → Bool} (hD : ∀ N, DSound P N D) {Γ : Nat → Option IFn} (hΓ : ∀ f i, Γ f = some i → okFn P D f i = true) {B : CallSem} (hB : ∀ f as x K, B f as x K → CSem P f as x K)
    {f : Nat} {as : List A} {x : Sto} {K : List A → Sto → Prop} (h : Call Γ B f as x K) : CSem P f as x K := by
  unfold Call at h
  exact h (CSem P) fun f as x K h => h.elim (hB f as x K) (body_sound hD hΓ)
end
end Go.Tide

/- Operations that may come in any order: what each reads and leaves. -/
set_option linter.unusedSimpArgs false
set_option linter.unusedVariables false
namespace Go.Tide

def X.slots : X → List Nat
  | .t n => [n]
  | .c _ => []

def IOp.xs : IOp → List X
  | .mov x => [x]
  | .ntok _ _ => []
  | .nrow _ _ => []
  | .pick c a b => [c, a, b]
  | .alloc _ => []
  | .box x => [x]
  | .ibox x => [x]
  | .build _ ps => ps.map (·.2.2)
  | .lit _ _ _ _ ps _ => ps.map (·.2)
  | .load x _ => [x]
  | .store x v _ => [x, v]
  | .nilchk x => [x]
  | .bin _ x y => [x, y]
  | .beq _ x y => [x, y]
  | .eqs _ _ x y => [x, y]
  | .isnil _ _ x => [x]
  | .not x => [x]
  | .neg x => [x]
  | .conv _ x => [x]
  | .mkfn _ caps => caps
  | .mkrow _ _ _ _ n => [n]
  | .fieldp x _ _ => [x]
  | .field x _ _ => [x]
  | .idxp x i _ => [x, i]
  | .idxa x i _ _ => [x, i]
  | .ext x _ => [x]
  | .len _ x => [x]
  | .app x y _ _ _ => [x, y]
  | .minmax _ x y => [x, y]
  | .slice x lo hi _ => x :: (lo.toList ++ hi.toList)
  | .call f args _ _ _ => f :: args

inductive Cls where
  | pure | load | new | call | write | mutc
  deriving DecidableEq

def IOp.cls : IOp → Cls
  | .ntok _ _ => .new
  | .nrow _ _ => .new
  | .alloc _ => .new
  | .box _ => .new
  | .lit _ _ _ _ _ own => if own then .new else .pure
  | .load _ _ => .load
  | .store _ _ _ => .write
  | .mkrow _ _ _ _ _ => .new
  | .app _ _ _ _ _ => .write
  | .call _ _ _ ro _ => if ro then .call else .mutc
  | _ => .pure

section
variable {C : CallSem} {s : St} {K : A → St → Prop} {d : Nat}

theorem map_ev {α β : Type} (ps : List α) (f : α → X) (g : α → A → β) {e e2 : Env} (h : ∀ x ∈ ps.map f, x.ev e2 = x.ev e) : ps.map (fun p => g p ((f p).ev e2)) = ps.map fun p => g p ((f p).ev e) :=
  List.map_congr_left fun p hp => by rw [h (f p) (List.mem_map.2 ⟨p, hp, rfl⟩)]

/-- What reads no memory and makes nothing. -/
theorem pure_one {op : IOp} (hc : op.cls = .pure) (hs : semD C op d s K) : ∃ x, K x s ∧ ∀ s2 : St, (∀ x ∈ op.xs, x.ev s2.env = x.ev s.env) → ∀ K2 : A → St → Prop, K2 x s2 → semD C op d s2 K2 := by
  cases op <;> simp only [IOp.cls, reduceCtorEq] at hc <;> simp only [semD, sem] at hs
  case mov x => exact ⟨_, hs, fun s2 h K2 hk => by simp only [semD, sem, h x (by simp [IOp.xs])]; exact hk⟩
  case pick c a b =>
    split at hs
    · rename_i t ht
      split at hs
      · rename_i u v hu hv
        exact ⟨_, hs, fun s2 h K2 hk => by simp only [semD, sem, h c (by simp [IOp.xs]), h a (by simp [IOp.xs]), h b (by simp [IOp.xs]), ht, hu, hv]; exact hk⟩
      · rename_i hne
        refine ⟨_, hs, fun s2 h K2 hk => ?_⟩
        simp only [semD, sem, h c (by simp [IOp.xs]), h a (by simp [IOp.xs]), h b (by simp [IOp.xs]), ht]
        exact hk
    · exact hs.elim
  case ibox x =>
    split at hs
    · rename_i vs hv
      rw [forceL_iff] at hs
      exact ⟨_, hs, fun s2 h K2 hk => by simp only [semD, sem, h x (by simp [IOp.xs]), hv, forceL_iff]; exact hk⟩
    · exact hs.elim
  case build z ps =>
    split at hs
    · rename_i cs hcs
      rw [forceL_iff] at hs
      refine ⟨_, hs, fun s2 h K2 hk => ?_⟩
      simp only [semD, sem]
      rw [map_ev ps (·.2.2) (fun p a => (p.1, p.2.1, a)) h, hcs]
      simp only [forceL_iff]
      exact hk
    · exact hs.elim
  case lit el sz n z ps own =>
    cases own with
    | true => simp at hc
    | false =>
      split at hs
      · rename_i xs hxs
        simp only [forceR_iff] at hs
        refine ⟨_, hs, fun s2 h K2 hk => ?_⟩
        simp only [semD, sem, forceR_iff]
        rw [map_ev ps (·.2) (fun p a => (p.1, a)) h, hxs]
        exact hk
      · exact hs.elim
  case nilchk x =>
    split at hs <;> first | exact hs.elim | skip
    all_goals
      rename_i hx
      exact ⟨_, hs, fun s2 h K2 hk => by simp only [semD, sem, h x (by simp [IOp.xs]), hx]; exact hk⟩
  case bin op x y =>
    rw [binK_eq] at hs
    split at hs
    · rename_i v hv
      exact ⟨_, hs, fun s2 h K2 hk => by simp only [semD, sem, binK_eq, h x (by simp [IOp.xs]), h y (by simp [IOp.xs]), hv]; exact hk⟩
    · exact hs.elim
  case beq neg x y =>
    split at hs
    · rename_i a b ha hb
      exact ⟨_, hs, fun s2 h K2 hk => by simp only [semD, sem, h x (by simp [IOp.xs]), h y (by simp [IOp.xs]), ha, hb]; exact hk⟩
    · exact hs.elim
  case eqs neg ks x y =>
    split at hs
    · rename_i a b ha hb
      split at hs
      · rename_i t ht
        exact ⟨_, hs, fun s2 h K2 hk => by simp only [semD, sem, h x (by simp [IOp.xs]), h y (by simp [IOp.xs]), ha, hb, ht]; exact hk⟩
      · exact hs.elim
    · exact hs.elim
  case isnil ptr neg x =>
    split at hs
    · rename_i b hb
      exact ⟨_, hs, fun s2 h K2 hk => by simp only [semD, sem, h x (by simp [IOp.xs]), hb]; exact hk⟩
    · exact hs.elim
  case not x =>
    split at hs
    · rename_i b hb
      exact ⟨_, hs, fun s2 h K2 hk => by simp only [semD, sem, h x (by simp [IOp.xs]), hb]; exact hk⟩
    · exact hs.elim
  case neg x =>
    split at hs
    · rename_i k n hb
      exact ⟨_, hs, fun s2 h K2 hk => by simp only [semD, sem, h x (by simp [IOp.xs]), hb]; exact hk⟩
    · exact hs.elim
  case conv k x =>
    split at hs
    · rename_i k n hb
      exact ⟨_, hs, fun s2 h K2 hk => by simp only [semD, sem, h x (by simp [IOp.xs]), hb]; exact hk⟩
    · exact hs.elim
  case mkfn f caps =>
    rw [evL_iff] at hs
    refine ⟨_, hs, fun s2 h K2 hk => ?_⟩
    simp only [semD, sem, evL_iff]
    rw [show (caps.map fun x => (x.ev s2.env).ren some) = caps.map fun x => (x.ev s.env).ren some from List.map_congr_left fun x hx => by rw [h x hx]]
    exact hk
  case fieldp x off n =>
    split at hs
    · rename_i hx
      exact ⟨_, hs, fun s2 h K2 hk => by simp only [semD, sem, h x (by simp [IOp.xs]), hx]; exact hk⟩
    · rename_i hx
      exact ⟨_, hs, fun s2 h K2 hk => by simp only [semD, sem, h x (by simp [IOp.xs]), hx]; exact hk⟩
    · rename_i hx
      rw [subP_eq] at hs
      split at hs
      · rename_i q hq
        exact ⟨_, hs, fun s2 h K2 hk => by simp only [semD, sem, h x (by simp [IOp.xs]), hx, subP_eq, hq]; exact hk⟩
      · exact hs.elim
    · exact hs.elim
  case field x off n =>
    split at hs
    · rename_i cs hx
      split at hs
      · rename_i v hv
        exact ⟨_, hs, fun s2 h K2 hk => by simp only [semD, sem, h x (by simp [IOp.xs]), hx, hv]; exact hk⟩
      · exact hs.elim
    · exact hs.elim
  case idxp x i sz =>
    split at hs
    · rename_i k j hi
      split at hs
      · rename_i xs hx
        obtain ⟨cs, h1, h2, h3, hs⟩ := hs
        exact ⟨_, hs, fun s2 h K2 hk => by simp only [semD, sem, h x (by simp [IOp.xs]), h i (by simp [IOp.xs]), hx, hi]; exact ⟨cs, h1, h2, h3, hk⟩⟩
      · rename_i t xs hx
        obtain ⟨cs, h1, h2, h3, hs⟩ := hs
        exact ⟨_, hs, fun s2 h K2 hk => by simp only [semD, sem, h x (by simp [IOp.xs]), h i (by simp [IOp.xs]), hx, hi]; exact ⟨cs, h1, h2, h3, hk⟩⟩
      · rename_i o z n hx
        obtain ⟨h1, h2, h3, hs⟩ := hs
        exact ⟨_, hs, fun s2 h K2 hk => by simp only [semD, sem, h x (by simp [IOp.xs]), h i (by simp [IOp.xs]), hx, hi]; exact ⟨h1, h2, h3, hk⟩⟩
      · exact hs.elim
    · exact hs.elim
  case idxa x i len sz =>
    split at hs
    · rename_i k j hi
      split at hs <;> first | exact hs.elim | skip
      all_goals
        rename_i hx
        obtain ⟨h1, h2, hs⟩ := hs
        exact ⟨_, hs, fun s2 h K2 hk => by simp only [semD, sem, h x (by simp [IOp.xs]), h i (by simp [IOp.xs]), hx, hi]; exact ⟨h1, h2, hk⟩⟩
    · exact hs.elim
  case ext x k =>
    split at hs
    · rename_i vs hx
      split at hs
      · rename_i v hv
        exact ⟨_, hs, fun s2 h K2 hk => by simp only [semD, sem, h x (by simp [IOp.xs]), hx, hv]; exact hk⟩
      · exact hs.elim
    · exact hs.elim
  case len str x =>
    cases str with
    | false =>
      simp only at hs
      split at hs <;> first | exact hs.elim | skip
      all_goals
        rename_i hx
        exact ⟨_, hs, fun s2 h K2 hk => by simp only [semD, sem, h x (by simp [IOp.xs]), hx]; exact hk⟩
    | true =>
      simp only at hs
      split at hs <;> first | exact hs.elim | skip
      all_goals
        rename_i hx
        exact ⟨_, hs, fun s2 h K2 hk => by simp only [semD, sem, h x (by simp [IOp.xs]), hx]; exact hk⟩
  case minmax mx x y =>
    split at hs
    · rename_i k a k' b ha hb
      obtain ⟨h1, hs⟩ := hs
      exact ⟨_, hs, fun s2 h K2 hk => by simp only [semD, sem, h x (by simp [IOp.xs]), h y (by simp [IOp.xs]), ha, hb]; exact ⟨h1, hk⟩⟩
    · exact hs.elim
  case slice x lo hi sz =>
    have hlo : ∀ s2 : St, (∀ y ∈ IOp.xs (.slice x lo hi sz), y.ev s2.env = y.ev s.env) → x.ev s2.env = x.ev s.env ∧ (lo.map (X.ev s2.env)) = (lo.map (X.ev s.env)) ∧ (hi.map (X.ev s2.env)) = (hi.map (X.ev s.env)) := by
      intro s2 h
      refine ⟨h x (by simp [IOp.xs]), ?_, ?_⟩
      · cases lo with
        | none => rfl
        | some y => exact congrArg some (h y (by simp [IOp.xs]))
      · cases hi with
        | none => rfl
        | some y => exact congrArg some (h y (by simp [IOp.xs]))
    split at hs
    · rename_i h1 h2 h3
      obtain ⟨g1, g2, g3, hs⟩ := hs
      refine ⟨_, hs, fun s2 h K2 hk => ?_⟩
      obtain ⟨e1, e2, e3⟩ := hlo s2 h
      simp only [semD, sem, e1, e2, e3, h1, h2, h3]
      exact ⟨g1, g2, g3, hk⟩
    · rename_i h1 h2 h3
      obtain ⟨g1, g2, g3, hs⟩ := hs
      refine ⟨_, hs, fun s2 h K2 hk => ?_⟩
      obtain ⟨e1, e2, e3⟩ := hlo s2 h
      simp only [semD, sem, e1, e2, e3, h1, h2, h3]
      exact ⟨g1, g2, g3, hk⟩
    · exact hs.elim
  case call f args foot ro take => cases ro <;> simp at hc

def plus (l δ : Sto) : Sto := fun m => match δ m with | some o => some o | none => l m

theorem plus_none (l : Sto) : plus l (fun _ => none) = l := rfl

theorem plus_upd (l : Sto) (d : Nat) (o : Ob) : plus l (updS (fun _ => none) d (some o)) = updS l d (some o) := by
  funext m
  simp only [plus, updS_at]
  by_cases e : m = d
  · simp [e]
  · simp [e]

theorem St.new_mk {s : St} {n : Nat} {o : Ob} {k : St → Prop} (h : s.loc n = none) (hk : k ⟨s.env, updS s.loc n (some o), s.ext⟩) : s.new n o k := by
  obtain ⟨e, l, x⟩ := s
  unfold St.new
  have h' : l n = none := h
  dsimp only
  rw [h']
  simp only [forceO_iff]
  exact hk

/-- What makes an object, and reads none. -/
theorem new_one {op : IOp} (hc : op.cls = .new) (hs : semD C op d s K) : ∃ x o, K x ⟨s.env, updS s.loc d (some o), s.ext⟩ ∧ s.loc d = none ∧
    ∀ s2 : St, (∀ x ∈ op.xs, x.ev s2.env = x.ev s.env) → s2.loc d = none → ∀ K2 : A → St → Prop, K2 x ⟨s2.env, updS s2.loc d (some o), s2.ext⟩ → semD C op d s2 K2 := by
  cases op <;> simp only [IOp.cls, reduceCtorEq] at hc <;> simp only [semD, sem] at hs
  case ntok el sz =>
    obtain ⟨h1, h2⟩ := St.new_iff _ _ _ _ hs
    exact ⟨_, _, h2, h1, fun s2 h h3 K2 hk => by simp only [semD, sem]; exact St.new_mk h3 hk⟩
  case nrow el sz =>
    obtain ⟨h1, h2⟩ := St.new_iff _ _ _ _ hs
    exact ⟨_, _, h2, h1, fun s2 h h3 K2 hk => by simp only [semD, sem]; exact St.new_mk h3 hk⟩
  case alloc cs =>
    obtain ⟨h1, h2⟩ := St.new_iff _ _ _ _ hs
    exact ⟨_, _, h2, h1, fun s2 h h3 K2 hk => by simp only [semD, sem]; exact St.new_mk h3 hk⟩
  case box x =>
    split at hs
    · rename_i vs hv
      obtain ⟨h1, h2⟩ := St.new_iff _ _ _ _ hs
      exact ⟨_, _, h2, h1, fun s2 h h3 K2 hk => by simp only [semD, sem, h x (by simp [IOp.xs]), hv]; exact St.new_mk h3 hk⟩
    · exact hs.elim
  case lit el sz n z ps own =>
    cases own with
    | false => simp at hc
    | true =>
      split at hs
      · rename_i xs hxs
        obtain ⟨h1, h2⟩ := St.new_iff _ _ _ _ hs
        refine ⟨_, _, h2, h1, fun s2 h h3 K2 hk => ?_⟩
        simp only [semD, sem]
        rw [map_ev ps (·.2) (fun p a => (p.1, a)) h, hxs]
        exact St.new_mk h3 hk
      · exact hs.elim
  case mkrow el sz bytes z n =>
    split at hs
    · rename_i m hm
      obtain ⟨g1, g2, g3, hs⟩ := hs
      obtain ⟨h1, h2⟩ := St.new_iff _ _ _ _ hs
      exact ⟨_, _, h2, h1, fun s2 h h3 K2 hk => by simp only [semD, sem, h n (by simp [IOp.xs]), hm]; exact ⟨g1, g2, g3, St.new_mk h3 hk⟩⟩
    · exact hs.elim
  case call f args foot ro take => cases ro <;> simp at hc

/-- The object that a pointer is to. -/
def top : A → Option Id
  | .ref i _ => some i
  | .rref i _ _ _ => some i
  | _ => none

theorem load_one {x : X} {n : Option Nat} (hs : semD C (.load x n) d s K) : ∃ y, K y s ∧
    ∀ s2 : St, x.ev s2.env = x.ev s.env → (∀ i o, top (x.ev s.env) = some i → s.ob i = some o → s2.ob i = some o) → ∀ K2 : A → St → Prop, K2 y s2 → semD C (.load x n) d s2 K2 := by
  simp only [semD, sem] at hs
  unfold loadK at hs
  split at hs
  · rename_i i off he
    split at hs
    · rename_i cs hc
      split at hs
      · rename_i v hv
        refine ⟨_, hs, fun s2 h1 h2 K2 hk => ?_⟩
        simp only [semD, sem]
        unfold loadK
        rw [h1, he]
        simp only [h2 i _ (by rw [he]; rfl) hc, hv]
        exact hk
      · exact hs.elim
    · exact hs.elim
  · rename_i i m j off he
    split at hs
    · rename_i e sz xs hc
      obtain ⟨cs, g1, g2, hs⟩ := hs
      split at hs
      · rename_i v hv
        refine ⟨_, hs, fun s2 h1 h2 K2 hk => ?_⟩
        simp only [semD, sem]
        unfold loadK
        rw [h1, he]
        simp only [h2 i _ (by rw [he]; rfl) hc]
        exact ⟨cs, g1, g2, by rw [hv]; exact hk⟩
      · exact hs.elim
    · exact hs.elim
  · rename_i cs off he
    split at hs
    · rename_i v hv
      refine ⟨_, hs, fun s2 h1 h2 K2 hk => ?_⟩
      simp only [semD, sem]
      unfold loadK
      rw [h1, he]
      simp only [hv]
      exact hk
    · exact hs.elim
  · exact hs.elim

theorem takeK_one : ∀ (rs : List A) (s : St) (j : Nat) (ts : List Take) (k : List A → St → Prop), takeK d s j ts rs k → ∃ l δ, k l ⟨s.env, plus s.loc δ, s.ext⟩ ∧ (∀ m, δ m ≠ none → s.loc m = none ∧ ∃ i, j ≤ i ∧ m = 1000 * i + d) ∧
    ∀ (s2 : St) (k2 : List A → St → Prop), (∀ m, δ m ≠ none → s2.loc m = none) → k2 l ⟨s2.env, plus s2.loc δ, s2.ext⟩ → takeK d s2 j ts rs k2
  | [], s, j, ts, k, h => ⟨[], fun _ => none, h, fun m hm => absurd rfl hm, fun s2 k2 _ hk => hk⟩
  | r :: rr, s, j, ts, k, h => by
    rw [takeK] at h
    split at h
    · rename_i o ho
      split at h
      · rename_i ht
        obtain ⟨h1, h2⟩ := St.new_iff _ _ _ _ h
        obtain ⟨l, δ, g1, g2, g3⟩ := takeK_one rr _ _ _ _ h2
        have hnone : δ (1000 * j + d) = none := by
          cases hd : δ (1000 * j + d) with
          | none => rfl
          | some o =>
            obtain ⟨_, i, h3, h4⟩ := g2 (1000 * j + d) (by rw [hd]; simp)
            omega
        have comp : ∀ l : Sto, plus (updS l (1000 * j + d) (some o)) δ = plus l (updS δ (1000 * j + d) (some o)) := by
          intro l
          funext m
          simp only [plus, updS_at]
          by_cases e : m = 1000 * j + d
          · subst e; simp [hnone]
          · simp [e]
        refine ⟨nameOf (1000 * j + d) r :: l, updS δ (1000 * j + d) (some o), ?_, fun m hm => ?_, fun s2 k2 hf hk => ?_⟩
        · rw [← comp]; exact g1
        · rw [updS_at] at hm
          by_cases e : m = 1000 * j + d
          · subst e; exact ⟨h1, j, Nat.le_refl _, rfl⟩
          · rw [if_neg e] at hm
            obtain ⟨h3, i, h4, h5⟩ := g2 m hm
            refine ⟨?_, i, by omega, h5⟩
            simpa [updS_at, e] using h3
        · rw [takeK]
          simp only [ho, ht]
          refine St.new_mk (hf _ (by simp [updS_at])) (g3 _ _ (fun m hm => ?_) ?_)
          · have e : m ≠ 1000 * j + d := fun e => hm (e ▸ hnone)
            have := hf m (by rw [updS_at, if_neg e]; exact hm)
            simpa [updS_at, e] using this
          · rw [← comp] at hk; exact hk
      · rename_i ht
        obtain ⟨l, δ, g1, g2, g3⟩ := takeK_one rr _ _ _ _ h
        refine ⟨asData r :: l, δ, g1, fun m hm => ?_, fun s2 k2 hf hk => ?_⟩
        · obtain ⟨h3, i, h4, h5⟩ := g2 m hm
          exact ⟨h3, i, by omega, h5⟩
        · rw [takeK]
          simp only [ho, ht]
          exact g3 _ _ hf hk
    · rename_i ho
      obtain ⟨l, δ, g1, g2, g3⟩ := takeK_one rr _ _ _ _ h
      refine ⟨r :: l, δ, g1, fun m hm => ?_, fun s2 k2 hf hk => ?_⟩
      · obtain ⟨h3, i, h4, h5⟩ := g2 m hm
        exact ⟨h3, i, by omega, h5⟩
      · rw [takeK]
        simp only [ho]
        exact g3 _ _ hf hk

theorem footS_one (f : Id → Option Id) : ∀ (ids : List Id) (j : Nat) (k : Sto → Prop), footS s ids f j k → ∃ x, k x ∧ ∀ (s2 : St) (k2 : Sto → Prop), (∀ i ∈ ids, ∀ o, s.ob i = some o → s2.ob i = some o) → k2 x → footS s2 ids f j k2
  | [], j, k, h => ⟨_, h, fun _ _ _ hk => hk⟩
  | i :: r, j, k, h => by
    rw [footS] at h
    split at h
    · rename_i o ho
      rw [forceO_iff] at h
      obtain ⟨x, h1, h2⟩ := footS_one f r (j + 1) _ h
      refine ⟨_, h1, fun s2 k2 hf hk => ?_⟩
      rw [footS, hf i (by simp) o ho]
      simp only [forceO_iff]
      exact h2 s2 _ (fun i' hi' => hf i' (by simp [hi'])) hk
    · exact h.elim

theorem footR_one (f b : Id → Option Id) (k : Prop) : ∀ (ids : List Id), footR s ids f b k → k ∧ ∀ (s2 : St) (k2 : Prop), (∀ i ∈ ids, ∀ o, s.ob i = some o → s2.ob i = some o) → k2 → footR s2 ids f b k2
  | [], h => ⟨h, fun _ _ _ hk => hk⟩
  | i :: r, h => by
    rw [footR] at h
    split at h
    · rename_i o ho
      obtain ⟨h1, h2⟩ := footR_one f b k r h.2
      refine ⟨h1, fun s2 k2 hf hk => ?_⟩
      rw [footR, hf i (by simp) o ho]
      exact ⟨h.1, h2 s2 k2 (fun i' hi' => hf i' (by simp [hi'])) hk⟩
    · exact h.elim

/-- A call that leaves what it is handed as it was. -/
theorem call_one {f : X} {args : List X} {foot : Option (List Id)} {take : List Take} (hs : semD C (.call f args foot true take) d s K) : ∃ x δ, K x ⟨s.env, plus s.loc δ, s.ext⟩ ∧ (∀ m, δ m ≠ none → s.loc m = none ∧ ∃ i, m = 1000 * i + d) ∧
    ∀ s2 : St, (∀ x ∈ f :: args, x.ev s2.env = x.ev s.env) → s2.ext = s.ext → (∀ ids, foot = some ids → ∀ i ∈ ids, ∀ o, s.ob i = some o → s2.ob i = some o) → (∀ m, δ m ≠ none → s2.loc m = none) →
      ∀ K2 : A → St → Prop, K2 x ⟨s2.env, plus s2.loc δ, s2.ext⟩ → semD C (.call f args foot true take) d s2 K2 := by
  simp only [semD] at hs
  split at hs
  · rename_i g caps he
    rw [evL_iff] at hs
    have hargs : ∀ s2 : St, (∀ x ∈ f :: args, x.ev s2.env = x.ev s.env) → (args.map fun x => (x.ev s2.env).ren (footF foot)) = args.map fun x => (x.ev s.env).ren (footF foot) := fun s2 h =>
      List.map_congr_left fun x hx => by rw [h x (by simp [hx])]
    cases foot with
    | none =>
      simp only [callD] at hs
      obtain ⟨rs, h1, h2⟩ := hs
      obtain ⟨l, δ, g1, g2, g3⟩ := takeK_one _ _ _ _ _ h2
      refine ⟨_, δ, g1, fun m hm => ⟨(g2 m hm).1, (g2 m hm).2.imp fun i h => h.2⟩, fun s2 ha hx _ hf K2 hk => ?_⟩
      simp only [semD, ha f (by simp), he, evL_iff, hargs s2 ha, callD]
      exact ⟨rs, by rw [hx]; exact h1, g3 _ _ hf hk⟩
    | some ids =>
      simp only [callD] at hs
      obtain ⟨x, h1, h2⟩ := footS_one _ _ _ _ hs
      obtain ⟨rs, h3, h4⟩ := h1
      obtain ⟨h5, h6⟩ := footR_one _ _ _ _ h4
      obtain ⟨l, δ, g1, g2, g3⟩ := takeK_one _ _ _ _ _ h5
      refine ⟨_, δ, g1, fun m hm => ⟨(g2 m hm).1, (g2 m hm).2.imp fun i h => h.2⟩, fun s2 ha hx ho hf K2 hk => ?_⟩
      simp only [semD, ha f (by simp), he, evL_iff, hargs s2 ha, callD]
      exact h2 s2 _ (ho ids rfl) ⟨rs, h3, h6 s2 _ (ho ids rfl) (g3 _ _ hf hk)⟩
  · exact hs.elim

theorem set_one {i : Id} {o : Ob} {k : St → Prop} (h : s.set i o k) : ∃ l' x', k ⟨s.env, l', x'⟩ ∧ ∀ (e2 : Env) (k2 : St → Prop), k2 ⟨e2, l', x'⟩ → St.set ⟨e2, s.loc, s.ext⟩ i o k2 := by
  obtain ⟨e, l, x⟩ := s
  cases i with
  | L n =>
    have h' : setS l n o (fun l' => k ⟨e, l', x⟩) := h
    obtain ⟨hp, hk⟩ := (setS_iff _ _ _ _).1 h'
    exact ⟨_, _, hk, fun e2 k2 hk2 => (setS_iff l n o (fun l' => k2 ⟨e2, l', x⟩)).2 ⟨hp, hk2⟩⟩
  | U n =>
    have h' : setS x n (o.ren (clip [])) (fun x' => k ⟨e, l, x'⟩) := h
    obtain ⟨hp, hk⟩ := (setS_iff _ _ _ _).1 h'
    exact ⟨_, _, hk, fun e2 k2 hk2 => (setS_iff x n _ (fun x' => k2 ⟨e2, l, x'⟩)).2 ⟨hp, hk2⟩⟩

theorem ob_env (e e2 : Env) (l x : Sto) : (⟨e, l, x⟩ : St).ob = (⟨e2, l, x⟩ : St).ob := by funext i; cases i <;> rfl

theorem listOf_env (e e2 : Env) (l x : Sto) (a : A) : listOf ⟨e, l, x⟩ a = listOf ⟨e2, l, x⟩ a := by
  cases a <;> simp only [listOf]
  rw [ob_env e e2]

/-- What writes: of the slots, only those that it looks at matter. -/
theorem write_one {op : IOp} (hc : op.cls = .write) (hs : semD C op d s K) : ∃ x l' x', K x ⟨s.env, l', x'⟩ ∧ ∀ e2 : Env, (∀ x ∈ op.xs, x.ev e2 = x.ev s.env) → ∀ K2 : A → St → Prop, K2 x ⟨e2, l', x'⟩ → semD C op d ⟨e2, s.loc, s.ext⟩ K2 := by
  obtain ⟨e, l, x⟩ := s
  cases op <;> simp only [IOp.cls, reduceCtorEq] at hc <;> simp only [semD, sem] at hs
  case lit el sz n z ps own => cases own <;> simp at hc
  case store p v n =>
    unfold storeK at hs
    split at hs
    · exact hs.elim
    · rename_i vs hvs
      cases g0 : Nat.beq vs.length (n.getD 1) with
      | false => rw [g0] at hs; exact hs.elim
      | true =>
      rw [g0] at hs
      simp only [cond_true] at hs
      split at hs
      · rename_i i off he
        split at hs
        · rename_i cs hcs
          cases g1 : Nat.ble (off + vs.length) cs.length with
          | false => rw [g1] at hs; exact hs.elim
          | true =>
          rw [g1] at hs
          simp only [cond_true] at hs
          obtain ⟨l', x', h1, h2⟩ := set_one hs
          refine ⟨_, l', x', h1, fun e2 ha K2 hk => ?_⟩
          simp only [semD, sem, ha p (by simp [IOp.xs]), ha v (by simp [IOp.xs])]
          unfold storeK
          rw [hvs, he]
          rw [ob_env e e2] at hcs
          simp only [hcs, g0, g1, cond_true]
          exact h2 e2 _ hk
        · exact hs.elim
      · rename_i i m j off he
        split at hs
        · rename_i e0 sz xs hcs
          obtain ⟨cs, g1, g2, g3, hs⟩ := hs
          rw [forceL_iff] at hs
          obtain ⟨l', x', h1, h2⟩ := set_one hs
          refine ⟨_, l', x', h1, fun e2 ha K2 hk => ?_⟩
          simp only [semD, sem, ha p (by simp [IOp.xs]), ha v (by simp [IOp.xs])]
          unfold storeK
          rw [hvs, he]
          rw [ob_env e e2] at hcs
          simp only [hcs]
          simp only [g0, cond_true]
          exact ⟨cs, g1, g2, g3, (forceL_iff _ _).2 (h2 e2 _ hk)⟩
        · exact hs.elim
      · exact hs.elim
  case app p y el sz bytes =>
    split at hs
    · rename_i ys hys
      split at hs
      · rename_i t xs he
        split at hs
        · rename_i el' sz' n hob
          obtain ⟨g1, g2, g3, g4, g5, g6, hs⟩ := hs
          obtain ⟨l', x', h1, h2⟩ := set_one hs
          refine ⟨_, l', x', h1, fun e2 ha K2 hk => ?_⟩
          simp only [semD, sem, ha p (by simp [IOp.xs]), ha y (by simp [IOp.xs])]
          rw [listOf_env e e2] at hys
          rw [ob_env e e2] at hob
          simp only [hys, he, hob]
          exact ⟨g1, g2, g3, g4, g5, g6, h2 e2 _ hk⟩
        · exact hs.elim
      · rename_i i z n he
        split at hs
        · rename_i el' sz' xs hob
          obtain ⟨g1, g2, g3, g4, g5, g6, g7, hs⟩ := hs
          obtain ⟨l', x', h1, h2⟩ := set_one hs
          refine ⟨_, l', x', h1, fun e2 ha K2 hk => ?_⟩
          simp only [semD, sem, ha p (by simp [IOp.xs]), ha y (by simp [IOp.xs])]
          rw [listOf_env e e2] at hys
          rw [ob_env e e2] at hob
          simp only [hys, he, hob]
          exact ⟨g1, g2, g3, g4, g5, g6, g7, h2 e2 _ hk⟩
        · exact hs.elim
      · exact hs.elim
    · exact hs.elim
  case call f args foot ro take => cases ro <;> simp at hc
end
end Go.Tide

/- Regions that draw their order: an operation may come before others that it has nothing to do with. -/
set_option linter.unusedSimpArgs false
set_option linter.unusedVariables false
namespace Go.Tide

def GOp.looks (g : GOp) : List Nat := g.op.xs.flatMap X.slots ++ (match g.guard with | some (r, _) => [r] | none => [])

def GOp.foot (g : GOp) : List Id := match g.op with | .call _ _ (some ids) _ _ => ids | _ => []

def Cls.add : Cls → Bool
  | .pure => true
  | .load => true
  | .new => true
  | .call => true
  | _ => false

def Cls.makes : Cls → Bool
  | .new => true
  | .call => true
  | _ => false

/-- A name that an operation may give. -/
def nm (g : GOp) (m : Nat) : Prop := g.op.cls.makes = true ∧ m % 1000 = g.dst.getD 0 % 1000

def eff (es : Nat → Option A) (δ : Sto) (s : St) : St := ⟨fun t => (es t).getD (s.env t), plus s.loc δ, s.ext⟩

def esOf (g : GOp) (x : A) : Nat → Option A := fun t => match g.dst with | some d => if t = d then some x else none | none => none

theorem fin_eff (g : GOp) (K : St → Prop) (x : A) (δ : Sto) (s : St) : g.fin K x ⟨s.env, plus s.loc δ, s.ext⟩ ↔ K (eff (esOf g x) δ s) := by
  unfold GOp.fin eff esOf
  cases h : g.dst with
  | none => simp
  | some d =>
    simp only [forceA_iff]
    have : upd s.env d x = fun t => ((if t = d then some x else none : Option A)).getD (s.env t) := by
      funext t
      rw [upd_at]
      split <;> rfl
    rw [this]

theorem ev_agree {g : GOp} {e e2 : Env} (h : ∀ t ∈ g.looks, e2 t = e t) : ∀ x ∈ g.op.xs, x.ev e2 = x.ev e := by
  intro x hx
  cases x with
  | c a => rfl
  | t n => exact h n (List.mem_append_left _ (List.mem_flatMap.2 ⟨.t n, hx, by simp [X.slots]⟩))

section
variable {C : CallSem} {s : St}

theorem sem_one {op : IOp} {d : Nat} {K : A → St → Prop} {foot : List Id} (hfoot : foot = (match op with | .call _ _ (some ids) _ _ => ids | _ => [])) (hc : op.cls.add = true) (hs : semD C op d s K) : ∃ x δ, K x ⟨s.env, plus s.loc δ, s.ext⟩ ∧ (∀ m, δ m ≠ none → s.loc m = none ∧ op.cls.makes = true ∧ m % 1000 = d % 1000) ∧
    ∀ s2 : St, (∀ x ∈ op.xs, x.ev s2.env = x.ev s.env) → (op.cls ≠ .pure → s2.ext = s.ext ∧ ∀ i o, s.ob i = some o → ((∃ x ∈ op.xs, top (x.ev s.env) = some i) ∨ i ∈ foot) → s2.ob i = some o) → (∀ m, δ m ≠ none → s2.loc m = none) →
      ∀ K2 : A → St → Prop, K2 x ⟨s2.env, plus s2.loc δ, s2.ext⟩ → semD C op d s2 K2 := by
  cases hcl : op.cls with
  | pure =>
    obtain ⟨x, h1, h2⟩ := pure_one hcl hs
    exact ⟨x, fun _ => none, h1, fun m hm => absurd rfl hm, fun s2 ha _ _ K2 hk => h2 s2 ha K2 hk⟩
  | load =>
    cases op <;> simp only [IOp.cls, reduceCtorEq] at hcl
    case lit el sz n z ps own => cases own <;> simp at hcl
    case load x n =>
      obtain ⟨y, h1, h2⟩ := load_one hs
      refine ⟨y, fun _ => none, h1, fun m hm => absurd rfl hm, fun s2 ha hm _ K2 hk => h2 s2 (ha x (by simp [IOp.xs])) (fun i o hi ho => ?_) K2 hk⟩
      exact (hm (by simp)).2 i o ho (.inl ⟨x, by simp [IOp.xs], hi⟩)
    case call f args foot ro take => cases ro <;> simp at hcl
  | new =>
    obtain ⟨x, o, h1, h2, h3⟩ := new_one hcl hs
    refine ⟨x, updS (fun _ => none) d (some o), by rw [plus_upd]; exact h1, fun m hm => ?_, fun s2 ha _ hf K2 hk => h3 s2 ha (hf d (by simp [updS_at])) K2 (by rw [← plus_upd]; exact hk)⟩
    rw [updS_at] at hm
    by_cases e : m = d
    · subst e; exact ⟨h2, rfl, rfl⟩
    · simp [e] at hm
  | call =>
    cases op <;> simp only [IOp.cls, reduceCtorEq] at hcl
    case lit el sz n z ps own => cases own <;> simp at hcl
    case call f args fo ro take =>
      cases ro with
      | false => simp at hcl
      | true =>
        obtain ⟨x, δ, h1, h2, h3⟩ := call_one hs
        refine ⟨x, δ, h1, fun m hm => ?_, fun s2 ha hm hf K2 hk => h3 s2 ha (hm (by simp)).1 (fun ids hids i hi o ho => (hm (by simp)).2 i o ho (.inr ?_)) hf K2 hk⟩
        · obtain ⟨h4, i, h5⟩ := h2 m hm
          exact ⟨h4, rfl, by rw [h5]; omega⟩
        · subst hids
          rw [hfoot]
          exact hi
  | write => rw [hcl] at hc; cases hc
  | mutc => rw [hcl] at hc; cases hc

/-- One operation with its guard: what it leaves, and that it leaves the same elsewhere. -/
theorem gone {g : GOp} {K : St → Prop} (hc : g.op.cls.add = true) (hs : g.wpD C K s) : ∃ es δ, K (eff es δ s) ∧ (∀ t, es t ≠ none → g.dst = some t) ∧ (∀ m, δ m ≠ none → s.loc m = none ∧ nm g m) ∧
    ∀ s2 : St, (∀ t ∈ g.looks, s2.env t = s.env t) → (g.op.cls ≠ .pure → s2.ext = s.ext ∧ ∀ i o, s.ob i = some o → ((∃ x ∈ g.op.xs, top (x.ev s.env) = some i) ∨ i ∈ g.foot) → s2.ob i = some o) → (∀ m, δ m ≠ none → s2.loc m = none) →
      ∀ K2 : St → Prop, K2 (eff es δ s2) → g.wpD C K2 s2 := by
  have hes : ∀ x t, esOf g x t ≠ none → g.dst = some t := by
    intro x t h
    unfold esOf at h
    split at h
    · rename_i d hd
      by_cases e : t = d
      · rw [hd, e]
      · simp [e] at h
    · exact absurd rfl h
  have doit : semD C g.op (g.dst.getD 0) s (g.fin K) → ∃ es δ, K (eff es δ s) ∧ (∀ t, es t ≠ none → g.dst = some t) ∧ (∀ m, δ m ≠ none → s.loc m = none ∧ nm g m) ∧
    ∀ s2 : St, (∀ t ∈ g.looks, s2.env t = s.env t) → (g.op.cls ≠ .pure → s2.ext = s.ext ∧ ∀ i o, s.ob i = some o → ((∃ x ∈ g.op.xs, top (x.ev s.env) = some i) ∨ i ∈ g.foot) → s2.ob i = some o) → (∀ m, δ m ≠ none → s2.loc m = none) →
      ∀ K2 : St → Prop, K2 (eff es δ s2) → semD C g.op (g.dst.getD 0) s2 (g.fin K2) := by
    intro h
    obtain ⟨x, δ, h1, h2, h3⟩ := sem_one (foot := g.foot) rfl hc h
    exact ⟨esOf g x, δ, (fin_eff g K x δ s).1 h1, hes x, fun m hm => ⟨(h2 m hm).1, (h2 m hm).2.1, (h2 m hm).2.2⟩, fun s2 ha hm hf K2 hk => h3 s2 (ev_agree ha) hm hf _ ((fin_eff g K2 x δ s2).2 hk)⟩
  have skip : g.fin K (.tup []) s → ∃ es, K (eff es (fun _ => none) s) ∧ (∀ t, es t ≠ none → g.dst = some t) ∧ ∀ (s2 : St) (K2 : St → Prop), K2 (eff es (fun _ => none) s2) → g.fin K2 (.tup []) s2 := fun h =>
    ⟨esOf g (.tup []), (fin_eff g K _ _ s).1 h, hes _, fun s2 K2 hk => (fin_eff g K2 _ _ s2).2 hk⟩
  rw [GOp.wpD_eq] at hs
  unfold GOp.wpD0 at hs
  split at hs
  · rename_i hg
    obtain ⟨es, δ, h1, h2, h3, h4⟩ := doit hs
    refine ⟨es, δ, h1, h2, h3, fun s2 ha hm hf K2 hk => ?_⟩
    rw [GOp.wpD_eq]
    unfold GOp.wpD0
    rw [hg]
    exact h4 s2 ha hm hf K2 hk
  · rename_i r want hg
    have hr : r ∈ g.looks := List.mem_append_right _ (by rw [hg]; simp)
    split at hs
    · rename_i b hb
      cases hbw : b == want with
      | true =>
        rw [hbw] at hs
        obtain ⟨es, δ, h1, h2, h3, h4⟩ := doit hs
        refine ⟨es, δ, h1, h2, h3, fun s2 ha hm hf K2 hk => ?_⟩
        rw [GOp.wpD_eq]
        unfold GOp.wpD0
        rw [hg]
        simp only [ha r hr, hb, hbw, cond_true]
        exact h4 s2 ha hm hf K2 hk
      | false =>
        rw [hbw] at hs
        obtain ⟨es, h1, h2, h3⟩ := skip hs
        refine ⟨es, _, h1, h2, fun m hm => absurd rfl hm, fun s2 ha hm hf K2 hk => ?_⟩
        rw [GOp.wpD_eq]
        unfold GOp.wpD0
        rw [hg]
        simp only [ha r hr, hb, hbw, cond_false]
        exact h3 s2 K2 hk
    · rename_i hb
      obtain ⟨es, h1, h2, h3⟩ := skip hs
      refine ⟨es, _, h1, h2, fun m hm => absurd rfl hm, fun s2 ha hm hf K2 hk => ?_⟩
      rw [GOp.wpD_eq]
      unfold GOp.wpD0
      rw [hg]
      simp only [ha r hr, hb]
      exact h3 s2 K2 hk
    · exact hs.elim

theorem wpd_append : ∀ (pre post : List GOp) (K : St → Prop) (s : St), wpd C (pre ++ post) K s = wpd C pre (wpd C post K) s
  | [], post, K, s => rfl
  | g :: r, post, K, s => by
    have : (wpd C (r ++ post) K) = wpd C r (wpd C post K) := funext fun s => wpd_append r post K s
    rw [List.cons_append, wpd, wpd, this]

/-- Several of them in a row. -/
theorem prerun : ∀ (pre : List GOp) (s : St) (K : St → Prop), (∀ g ∈ pre, g.op.cls.add = true) → wpd C pre K s → ∃ es δ, K (eff es δ s) ∧ (∀ t, es t ≠ none → ∃ g ∈ pre, g.dst = some t) ∧ (∀ m, δ m ≠ none → s.loc m = none ∧ ∃ g ∈ pre, nm g m) ∧
    ∀ s2 : St, (∀ g ∈ pre, ∀ t ∈ g.looks, s2.env t = s.env t) → (∀ g ∈ pre, g.op.cls ≠ .pure → s2.ext = s.ext ∧ ∀ i o, s.ob i = some o → s2.ob i = some o) → (∀ g ∈ pre, ∀ m, nm g m → s.loc m = none → s2.loc m = none) →
      ∀ K2 : St → Prop, K2 (eff es δ s2) → wpd C pre K2 s2
  | [], s, K, _, h => ⟨fun _ => none, fun _ => none, h, fun _ h => absurd rfl h, fun _ h => absurd rfl h, fun s2 _ _ _ K2 hk => hk⟩
  | g :: r, s, K, ha, h => by
    obtain ⟨es1, δ1, h1, h2, h3, h4⟩ := gone (ha g (by simp)) h
    obtain ⟨es', δ', g1, g2, g3, g4⟩ := prerun r _ K (fun g hg => ha g (by simp [hg])) h1
    have comp : ∀ s : St, (∀ m, δ' m ≠ none → δ1 m = none) → eff es' δ' (eff es1 δ1 s) = eff (fun t => (es' t).or (es1 t)) (plus δ1 δ') s := by
      intro s hd
      unfold eff
      simp only
      congr 1
      · funext t
        cases es' t <;> rfl
      · funext m
        simp only [plus]
        cases δ' m <;> rfl
    have hd : ∀ m, δ' m ≠ none → δ1 m = none ∧ s.loc m = none := by
      intro m hm
      have := (g3 m hm).1
      simp only [eff, plus] at this
      cases h5 : δ1 m with
      | some o => rw [h5] at this; cases this
      | none => rw [h5] at this; exact ⟨rfl, this⟩
    refine ⟨fun t => (es' t).or (es1 t), plus δ1 δ', by rw [← comp s fun m hm => (hd m hm).1]; exact g1, fun t ht => ?_, fun m hm => ?_, fun s2 a1 a2 a3 K2 hk => ?_⟩
    · cases h5 : es' t with
      | some x =>
        obtain ⟨g', hg', h6⟩ := g2 t (by rw [h5]; simp)
        exact ⟨g', by simp [hg'], h6⟩
      | none =>
        simp only [h5, Option.none_or] at ht
        exact ⟨g, by simp, h2 t ht⟩
    · simp only [plus] at hm
      cases h5 : δ' m with
      | some o =>
        obtain ⟨_, g', hg', h6⟩ := g3 m (by rw [h5]; simp)
        exact ⟨(hd m (by rw [h5]; simp)).2, g', by simp [hg'], h6⟩
      | none =>
        rw [h5] at hm
        exact ⟨(h3 m hm).1, g, by simp, (h3 m hm).2⟩
    · show g.wpD C (wpd C r K2) s2
      refine h4 s2 (a1 g (by simp)) (fun hp => ⟨(a2 g (by simp) hp).1, fun i o ho _ => (a2 g (by simp) hp).2 i o ho⟩) (fun m hm => a3 g (by simp) m (h3 m hm).2 (h3 m hm).1) _ ?_
      refine g4 (eff es1 δ1 s2) (fun g' hg' t ht => ?_) (fun g' hg' hp => ?_) (fun g' hg' m hm hn => ?_) K2 ?_
      · simp only [eff]
        rw [a1 g' (by simp [hg']) t ht]
      · obtain ⟨e1, e2⟩ := a2 g' (by simp [hg']) hp
        refine ⟨e1, fun i o ho => ?_⟩
        cases i with
        | U n =>
          have ho' : s.ob (.U n) = some o := ho
          exact e2 (.U n) o ho'
        | L n =>
          have ho' : plus s.loc δ1 n = some o := ho
          show plus s2.loc δ1 n = some o
          simp only [plus] at ho' ⊢
          cases h5 : δ1 n with
          | some p => rw [h5] at ho'; exact ho'
          | none =>
            rw [h5] at ho'
            exact e2 (.L n) o ho'
      · have hn' : plus s.loc δ1 m = none := hn
        show plus s2.loc δ1 m = none
        simp only [plus] at hn' ⊢
        cases h5 : δ1 m with
        | some p => rw [h5] at hn'; cases hn'
        | none =>
          rw [h5] at hn'
          exact a3 g' (by simp [hg']) m hm hn'
      · rw [comp s2 fun m hm => (hd m hm).1]
        exact hk
end
end Go.Tide

/- Regions that draw their order: one order says it for all. -/
set_option linter.unusedSimpArgs false
set_option linter.unusedVariables false
namespace Go.Tide

/-- Operations that have nothing to do with each other ('p' stands first, 'g' may come before it). -/
def Apart (p g : GOp) : Prop :=
  (∀ t, p.dst = some t → t ∉ g.looks) ∧ (∀ t, g.dst = some t → t ∉ p.looks) ∧ (∀ t, p.dst = some t → g.dst ≠ some t) ∧ (∀ m, nm p m → ¬ nm g m) ∧ (∀ n, Id.L n ∈ g.foot → ¬ nm p n)

theorem vr_top {w : World} {Z : Zone} {σ : Id → Option Ob} {κ : Conc} {x : A} {v : Value} {i : Id} (h : VR w Z σ κ x v) (ht : top x = some i) : ∃ o, σ i = some o := by
  cases x <;> simp [top] at ht
  · subst ht
    obtain ⟨_, _, _, cs, h1⟩ := h.ref_inv
    exact ⟨_, h1⟩
  · subst ht
    obtain ⟨_, _, _, e, sz, xs, h1, _⟩ := h.rref_inv
    exact ⟨_, h1⟩

section
variable {C : CallSem} {c : Cx} {s : St} {a : Act} {w : World} {κ : Conc} {K : St → Prop} {g : GOp} {pre post : List GOp}

theorem hoist_add (h : RS c s a w κ) (hg : g.op.cls.add = true) (hpre : ∀ p ∈ pre, p.op.cls.add = true) (hap : ∀ p ∈ pre, Apart p g) (htop : ∀ x ∈ g.op.xs, ∀ a, x = .c a → top a = none) (hs : wpd C (pre ++ g :: post) K s) :
    g.wpD C (wpd C (pre ++ post) K) s := by
  rw [wpd_append] at hs
  obtain ⟨es, δ, h1, h2, h3, h4⟩ := prerun pre s _ hpre hs
  obtain ⟨es', δ', g1, g2, g3, g4⟩ := gone hg h1
  have env : ∀ t ∈ g.looks, (eff es δ s).env t = s.env t := by
    intro t ht
    simp only [eff]
    cases h5 : es t with
    | none => rfl
    | some x =>
      obtain ⟨p, hp, h6⟩ := h2 t (by rw [h5]; simp)
      exact absurd ht ((hap p hp).1 t h6)
  refine g4 s (fun t ht => (env t ht).symm) (fun _ => ⟨rfl, fun i o ho hacc => ?_⟩) (fun m hm => ?_) _ ?_
  · cases i with
    | U n => exact ho
    | L n =>
      have ho' : plus s.loc δ n = some o := ho
      simp only [plus] at ho'
      cases h5 : δ n with
      | none => rw [h5] at ho'; exact ho'
      | some q =>
        obtain ⟨h6, p, hp, h7⟩ := h3 n (by rw [h5]; simp)
        rcases hacc with ⟨x, hx, ht⟩ | hf
        · cases x with
          | c b =>
            have ht' : top b = some (.L n) := ht
            rw [htop _ hx b rfl] at ht'
            cases ht'
          | t r =>
            have hr : r ∈ g.looks := List.mem_append_left _ (List.mem_flatMap.2 ⟨.t r, hx, by simp [X.slots]⟩)
            have ht' : top ((eff es δ s).env r) = some (.L n) := ht
            rw [env r hr] at ht'
            obtain ⟨q', hq'⟩ := vr_top (h.env r) ht'
            have : s.loc n = some q' := hq'
            rw [h6] at this
            cases this
        · exact absurd h7 ((hap p hp).2.2.2.2 n hf)
  · have := (g3 m hm).1
    simp only [eff, plus] at this
    cases h5 : δ m with
    | none => rw [h5] at this; exact this
    | some q => rw [h5] at this; cases this
  · rw [wpd_append]
    have fresh' : ∀ m, δ' m ≠ none → s.loc m = none := by
      intro m hm
      have := (g3 m hm).1
      simp only [eff, plus] at this
      cases h5 : δ m with
      | none => rw [h5] at this; exact this
      | some q => rw [h5] at this; cases this
    refine h4 (eff es' δ' s) (fun p hp t ht => ?_) (fun p hp _ => ⟨rfl, fun i o ho => ?_⟩) (fun p hp m hm hn => ?_) _ ?_
    · simp only [eff]
      cases h5 : es' t with
      | none => rfl
      | some x => exact absurd ht ((hap p hp).2.1 t (g2 t (by rw [h5]; simp)))
    · cases i with
      | U n => exact ho
      | L n =>
        have ho' : s.loc n = some o := ho
        show plus s.loc δ' n = some o
        simp only [plus]
        cases h5 : δ' n with
        | none => exact ho'
        | some q => rw [fresh' n (by rw [h5]; simp)] at ho'; cases ho'
    · show plus s.loc δ' m = none
      simp only [plus]
      cases h5 : δ' m with
      | none => exact hn
      | some q => exact absurd (g3 m (by rw [h5]; simp)).2 ((hap p hp).2.2.2.1 m hm)
    · have e : eff es δ (eff es' δ' s) = eff es' δ' (eff es δ s) := by
        unfold eff
        simp only
        congr 1
        · funext t
          cases h5 : es t with
          | none => simp
          | some x =>
            cases h6 : es' t with
            | none => rfl
            | some y =>
              obtain ⟨p, hp, h7⟩ := h2 t (by rw [h5]; simp)
              exact absurd (g2 t (by rw [h6]; simp)) ((hap p hp).2.2.1 t h7)
        · funext m
          simp only [plus]
          cases h5 : δ m with
          | none => simp
          | some x =>
            cases h6 : δ' m with
            | none => rfl
            | some y =>
              have := (g3 m (by rw [h6]; simp)).1
              simp only [eff, plus, h5] at this
              cases this
      rw [e]
      exact g1

theorem gone_write (hc : g.op.cls = .write) (hs : g.wpD C K s) : ∃ (es : Nat → Option A) (l' x' : Sto), K ⟨fun t => (es t).getD (s.env t), l', x'⟩ ∧ (∀ t, es t ≠ none → g.dst = some t) ∧
    ∀ e2 : Env, (∀ t ∈ g.looks, e2 t = s.env t) → ∀ K2 : St → Prop, K2 ⟨fun t => (es t).getD (e2 t), l', x'⟩ → g.wpD C K2 ⟨e2, s.loc, s.ext⟩ := by
  have hes : ∀ x t, esOf g x t ≠ none → g.dst = some t := by
    intro x t h
    unfold esOf at h
    split at h
    · rename_i d hd
      by_cases e : t = d
      · rw [hd, e]
      · simp [e] at h
    · exact absurd rfl h
  have fe : ∀ (K : St → Prop) (x : A) (e : Env) (l' x' : Sto), g.fin K x ⟨e, l', x'⟩ ↔ K ⟨fun t => (esOf g x t).getD (e t), l', x'⟩ := fun K x e l' x' => fin_eff g K x (fun _ => none) ⟨e, l', x'⟩
  have doit : semD C g.op (g.dst.getD 0) s (g.fin K) → ∃ (es : Nat → Option A) (l' x' : Sto), K ⟨fun t => (es t).getD (s.env t), l', x'⟩ ∧ (∀ t, es t ≠ none → g.dst = some t) ∧
      ∀ e2 : Env, (∀ t ∈ g.looks, e2 t = s.env t) → ∀ K2 : St → Prop, K2 ⟨fun t => (es t).getD (e2 t), l', x'⟩ → semD C g.op (g.dst.getD 0) ⟨e2, s.loc, s.ext⟩ (g.fin K2) := by
    intro h
    obtain ⟨x, l', x', h1, h2⟩ := write_one hc h
    exact ⟨esOf g x, l', x', (fe _ _ _ _ _).1 h1, hes x, fun e2 ha K2 hk => h2 e2 (ev_agree ha) _ ((fe _ _ _ _ _).2 hk)⟩
  have skip : g.fin K (.tup []) s → ∃ (es : Nat → Option A), K ⟨fun t => (es t).getD (s.env t), s.loc, s.ext⟩ ∧ (∀ t, es t ≠ none → g.dst = some t) ∧ ∀ (e2 : Env) (K2 : St → Prop), K2 ⟨fun t => (es t).getD (e2 t), s.loc, s.ext⟩ → g.fin K2 (.tup []) ⟨e2, s.loc, s.ext⟩ := fun h =>
    ⟨esOf g (.tup []), (fe _ _ _ _ _).1 h, hes _, fun e2 K2 hk => (fe _ _ _ _ _).2 hk⟩
  rw [GOp.wpD_eq] at hs
  unfold GOp.wpD0 at hs
  split at hs
  · rename_i hg
    obtain ⟨es, l', x', h1, h2, h3⟩ := doit hs
    refine ⟨es, l', x', h1, h2, fun e2 ha K2 hk => ?_⟩
    rw [GOp.wpD_eq]
    unfold GOp.wpD0
    rw [hg]
    exact h3 e2 ha K2 hk
  · rename_i r want hg
    have hr : r ∈ g.looks := List.mem_append_right _ (by rw [hg]; simp)
    split at hs
    · rename_i b hb
      cases hbw : b == want with
      | true =>
        rw [hbw] at hs
        obtain ⟨es, l', x', h1, h2, h3⟩ := doit hs
        refine ⟨es, l', x', h1, h2, fun e2 ha K2 hk => ?_⟩
        rw [GOp.wpD_eq]
        unfold GOp.wpD0
        rw [hg]
        simp only [ha r hr, hb, hbw, cond_true]
        exact h3 e2 ha K2 hk
      | false =>
        rw [hbw] at hs
        obtain ⟨es, h1, h2, h3⟩ := skip hs
        refine ⟨es, _, _, h1, h2, fun e2 ha K2 hk => ?_⟩
        rw [GOp.wpD_eq]
        unfold GOp.wpD0
        rw [hg]
        simp only [ha r hr, hb, hbw, cond_false]
        exact h3 e2 K2 hk
    · rename_i hb
      obtain ⟨es, h1, h2, h3⟩ := skip hs
      refine ⟨es, _, _, h1, h2, fun e2 ha K2 hk => ?_⟩
      rw [GOp.wpD_eq]
      unfold GOp.wpD0
      rw [hg]
      simp only [ha r hr, hb]
      exact h3 e2 K2 hk
    · exact hs.elim

theorem hoist_write (hg : g.op.cls = .write) (hpre : ∀ p ∈ pre, p.op.cls = .pure) (hap : ∀ p ∈ pre, Apart p g) (hs : wpd C (pre ++ g :: post) K s) : g.wpD C (wpd C (pre ++ post) K) s := by
  rw [wpd_append] at hs
  obtain ⟨es, δ, h1, h2, h3, h4⟩ := prerun pre s _ (fun p hp => by rw [hpre p hp]; rfl) hs
  have hδ : δ = fun _ => none := by
    funext m
    cases h5 : δ m with
    | none => rfl
    | some o =>
      obtain ⟨_, p, hp, h6, _⟩ := h3 m (by rw [h5]; simp)
      rw [hpre p hp] at h6
      cases h6
  subst hδ
  obtain ⟨es', l', x', g1, g2, g3⟩ := gone_write hg h1
  have env : ∀ t ∈ g.looks, (eff es (fun _ => none) s).env t = s.env t := by
    intro t ht
    simp only [eff]
    cases h5 : es t with
    | none => rfl
    | some x =>
      obtain ⟨p, hp, h6⟩ := h2 t (by rw [h5]; simp)
      exact absurd ht ((hap p hp).1 t h6)
  obtain ⟨e, l, x⟩ := s
  refine g3 e (fun t ht => (env t ht).symm) _ ?_
  rw [wpd_append]
  refine h4 ⟨fun t => (es' t).getD (e t), l', x'⟩ (fun p hp t ht => ?_) (fun p hp hn => absurd (hpre p hp) hn) (fun p hp m hm _ => ?_) _ ?_
  · show (es' t).getD (e t) = e t
    cases h5 : es' t with
    | none => rfl
    | some y => exact absurd ht ((hap p hp).2.1 t (g2 t (by rw [h5]; simp)))
  · have := hm.1
    rw [hpre p hp] at this
    cases this
  · have e2 : eff es (fun _ => none) ⟨fun t => (es' t).getD (e t), l', x'⟩ = ⟨fun t => (es' t).getD ((eff es (fun _ => none) ⟨e, l, x⟩).env t), l', x'⟩ := by
      unfold eff
      simp only [plus_none]
      congr 1
      funext t
      cases h5 : es t with
      | none => simp
      | some y =>
        cases h6 : es' t with
        | none => simp
        | some z =>
          obtain ⟨p, hp, h7⟩ := h2 t (by rw [h5]; simp)
          exact absurd (g2 t (by rw [h6]; simp)) ((hap p hp).2.2.1 t h7)
    rw [e2]
    exact g1
end
end Go.Tide

/- Regions that draw their order: the check, and that it is enough. -/
set_option linter.unusedSimpArgs false
set_option linter.unusedVariables false
namespace Go.Tide

theorem in_false {l : Array Bool} {i : Nat} (h : l.getD i true = false) : l.getD i false = false := by
  by_cases hi : i < l.size
  · simp [hi] at h ⊢; exact h
  · simp [hi] at h

theorem all_false (m j : Nat) : (Array.replicate m false).getD j false = false := by
  by_cases h : j < m <;> simp [h]

theorem all_false' {m j : Nat} (h : j < m) : (Array.replicate m false).getD j true = false := by simp [h]

def preds (o : Oper) : List Nat := (o.after.toList.filter (Region.binds .any)).map (·.on)

def ancOf (acc : List (List Nat)) (ps : List Nat) : List Nat := ps.foldl (fun r p => if r.contains p then r else p :: (acc.getD p [] ++ r)) []

def ancs (ops : List Oper) : List (List Nat) := ops.foldl (fun acc o => acc ++ [ancOf acc (preds o)]) []

def apartB (p g : GOp) : Bool :=
  (match p.dst with | some t => !g.looks.contains t && g.dst != some t | none => true) &&
  (match g.dst with | some t => !p.looks.contains t | none => true) &&
  (!p.op.cls.makes || ((!g.op.cls.makes || p.dst.getD 0 % 1000 != g.dst.getD 0 % 1000) && g.foot.all fun i => match i with | .L n => n % 1000 != p.dst.getD 0 % 1000 | .U _ => true))

def compatB (p g : GOp) : Bool := apartB p g && ((p.op.cls.add && g.op.cls.add) || (decide (p.op.cls = .pure) && decide (g.op.cls = .write)))

def topB : X → Bool
  | .t _ => true
  | .c a => (top a).isNone

def okD (ops : Array Oper) (gs : List GOp) : Bool :=
  let anc := ancs ops.toList
  ((List.range ops.size).all fun i => match ops[i]? with | some o => (preds o).all fun j => decide (j < i) | none => true) &&
  ((List.range ops.size).all fun i => (List.range i).all fun j => (anc.getD i []).contains j || (match gs[j]?, gs[i]? with | some p, some g => compatB p g | _, _ => true)) &&
  gs.all fun g => g.op.xs.all topB

theorem apartB_spec {p g : GOp} (h : apartB p g = true) : Apart p g := by
  simp only [apartB, Bool.and_eq_true] at h
  obtain ⟨⟨h1, h2⟩, h3⟩ := h
  refine ⟨fun t ht => ?_, fun t ht => ?_, fun t ht => ?_, fun m hp hg => ?_, fun n hn hp => ?_⟩
  · rw [ht] at h1
    simp only [Bool.and_eq_true, Bool.not_eq_true', bne_iff_ne] at h1
    simpa using h1.1
  · rw [ht] at h2
    simpa using h2
  · rw [ht] at h1
    simp only [Bool.and_eq_true, Bool.not_eq_true', bne_iff_ne] at h1
    exact h1.2
  · rw [hp.1] at h3
    simp only [Bool.not_true, Bool.false_or, Bool.and_eq_true, hg.1, bne_iff_ne] at h3
    exact h3.1 (hp.2.symm.trans hg.2)
  · rw [hp.1] at h3
    simp only [Bool.not_true, Bool.false_or, Bool.and_eq_true] at h3
    have := List.all_eq_true.1 h3.2 _ hn
    simp only [bne_iff_ne] at this
    exact this hp.2

/-- Comes before, by edges that bind. -/
inductive Anc (ops : Array Oper) : Nat → Nat → Prop
  | one {i j : Nat} {o : Oper} : ops[i]? = some o → j ∈ preds o → Anc ops j i
  | step {i j k : Nat} : Anc ops j k → Anc ops k i → Anc ops j i

theorem ancOf_mem (acc : List (List Nat)) (j : Nat) : ∀ (ps : List Nat) (r : List Nat), j ∈ ps.foldl (fun r p => if r.contains p then r else p :: (acc.getD p [] ++ r)) r → j ∈ r ∨ j ∈ ps ∨ ∃ p ∈ ps, j ∈ acc.getD p []
  | [], r, h => .inl h
  | p :: ps, r, h => by
    rw [List.foldl_cons] at h
    rcases ancOf_mem acc j ps _ h with h1 | h1 | ⟨q, hq, h1⟩
    · split at h1
      · exact .inl h1
      · rcases List.mem_cons.1 h1 with e | h2
        · exact .inr (.inl (by simp [e]))
        · rcases List.mem_append.1 h2 with h3 | h3
          · exact .inr (.inr ⟨p, by simp, h3⟩)
          · exact .inl h3
    · exact .inr (.inl (by simp [h1]))
    · exact .inr (.inr ⟨q, by simp [hq], h1⟩)

theorem ancs_spec (ops : Array Oper) : ∀ (os : List Oper) (acc : List (List Nat)), (∀ j, os[j]? = ops[acc.length + j]?) → (∀ i j, j ∈ acc.getD i [] → Anc ops j i) → ∀ i j, j ∈ (os.foldl (fun acc o => acc ++ [ancOf acc (preds o)]) acc).getD i [] → Anc ops j i
  | [], acc, _, h => h
  | o :: os, acc, ho, h => by
    rw [List.foldl_cons]
    refine ancs_spec ops os _ (fun j => ?_) (fun i j hj => ?_)
    · have := ho (j + 1)
      simp only [List.getElem?_cons_succ] at this
      rw [this, List.length_append]
      congr 1
      simp
      omega
    · rw [List.getD_eq_getElem?_getD, List.getElem?_append] at hj
      split at hj
      · exact h i j (by rw [List.getD_eq_getElem?_getD]; exact hj)
      · rename_i hi
        by_cases e : i = acc.length
        · subst e
          simp only [Nat.sub_self, List.getElem?_cons_zero, Option.getD_some] at hj
          have h0 : ops[acc.length]? = some o := by simpa using (ho 0).symm
          rcases ancOf_mem acc j (preds o) [] hj with h1 | h1 | ⟨p, hp, h1⟩
          · cases h1
          · exact .one h0 h1
          · exact .step (h p j h1) (.one h0 hp)
        · have : [ancOf acc (preds o)][i - acc.length]? = none := by
            rw [List.getElem?_eq_none_iff]
            simp
            omega
          rw [this] at hj
          simp at hj

/-- What is still to come, in the order of the text. -/
def remF (listed : Array Bool) : Nat → List GOp → List (Nat × GOp)
  | _, [] => []
  | k, g :: r => if listed.getD k true then remF listed (k + 1) r else (k, g) :: remF listed (k + 1) r

theorem remF_same (listed : Array Bool) (i : Nat) : ∀ (gs : List GOp) (k : Nat), i < k → remF (listed.setIfInBounds i true) k gs = remF listed k gs
  | [], k, h => rfl
  | g :: r, k, h => by
    rw [remF, remF, remF_same listed i r (k + 1) (by omega), getD_set_ne true (by omega)]

theorem rem_split (listed : Array Bool) (i : Nat) (hi : listed.getD i true = false) : ∀ (gs : List GOp) (k : Nat) (g : GOp), k ≤ i → gs[i - k]? = some g →
    ∃ pre post, remF listed k gs = pre ++ (i, g) :: post ∧ remF (listed.setIfInBounds i true) k gs = pre ++ post ∧ ∀ p ∈ pre, k ≤ p.1 ∧ p.1 < i ∧ listed.getD p.1 true = false ∧ gs[p.1 - k]? = some p.2
  | [], k, g, _, h => by simp at h
  | x :: r, k, g, hk, h => by
    by_cases e : i = k
    · subst e
      simp only [Nat.sub_self, List.getElem?_cons_zero, Option.some.injEq] at h
      subst h
      have hlt : i < listed.size := by
        rcases Nat.lt_or_ge i listed.size with h' | h'
        · exact h'
        · simp [Array.getElem?_eq_none h'] at hi
      refine ⟨[], remF listed (i + 1) r, by rw [remF, hi]; rfl, ?_, by simp⟩
      rw [remF, remF_same _ _ _ _ (by omega)]
      have : (listed.setIfInBounds i true).getD i true = true := by simp [hlt]
      rw [this]
      rfl
    · have h' : r[i - (k + 1)]? = some g := by
        have e2 : i - k = (i - (k + 1)) + 1 := by omega
        rw [e2] at h
        simpa using h
      obtain ⟨pre, post, h1, h2, h3⟩ := rem_split listed i hi r (k + 1) g (by omega) h'
      have conv : ∀ p : Nat × GOp, k + 1 ≤ p.1 → r[p.1 - (k + 1)]? = some p.2 → (x :: r)[p.1 - k]? = some p.2 := by
        intro p hp h4
        have e2 : p.1 - k = (p.1 - (k + 1)) + 1 := by omega
        rw [e2]
        simpa using h4
      cases hl : listed.getD k true with
      | true =>
        refine ⟨pre, post, by rw [remF, hl]; exact h1, by rw [remF, getD_set_ne true e, hl]; exact h2, fun p hp => ?_⟩
        obtain ⟨g1, g2, g3, g4⟩ := h3 p hp
        exact ⟨by omega, g2, g3, conv p g1 g4⟩
      | false =>
        refine ⟨(k, x) :: pre, post, by rw [remF, hl]; simp [h1], by rw [remF, getD_set_ne true e, hl]; simp [h2], fun p hp => ?_⟩
        rcases List.mem_cons.1 hp with e3 | h4
        · subst e3
          exact ⟨Nat.le_refl _, by simp only; omega, hl, by simp⟩
        · obtain ⟨g1, g2, g3, g4⟩ := h3 p h4
          exact ⟨by omega, g2, g3, conv p g1 g4⟩

theorem rem_done (listed : Array Bool) : ∀ (gs : List GOp) (k : Nat), (∀ i, k ≤ i → i < k + gs.length → listed.getD i true = true) → remF listed k gs = []
  | [], k, _ => rfl
  | x :: r, k, h => by
    rw [remF, h k (Nat.le_refl _) (by simp)]
    exact rem_done listed r (k + 1) (fun i h1 h2 => h i (by omega) (by simp; omega))

section
variable {P : Program} {c : Cx}

theorem semD_sem {op : IOp} {d : Nat} {s : St} {K : A → St → Prop} (h : semD (CSem P) op d s K) : sem (CSem P) op d s K := by
  cases op
  case isnil ptr neg x =>
    simp only [semD, sem] at h ⊢
    split at h
    · rename_i b hb
      have : ∃ p, isNilA ptr (x.ev s.env) = some p ∧ ∀ b', p b' → b' = b := by
        unfold isNilD at hb
        split at hb <;> simp only [Option.some.injEq, reduceCtorEq] at hb <;> subst hb
        all_goals simp_all [isNilA]
      obtain ⟨p, h1, h2⟩ := this
      rw [h1]
      intro b' hb'
      rw [h2 b' hb']
      exact h
    · exact h.elim
  case len str x =>
    simp only [semD, sem] at h ⊢
    cases str with
    | false =>
      simp only at h ⊢
      split at h <;> first | exact fun _ => h | exact h.elim
    | true =>
      simp only at h ⊢
      split at h <;> first | exact fun _ => h | exact h.elim
  case call f args foot ro take =>
    cases ro with
    | false => exact h
    | true =>
      simp only [semD, sem] at h ⊢
      split at h
      · rw [evL_iff] at h ⊢
        cases foot with
        | none =>
          simp only [callD, callK] at h ⊢
          obtain ⟨rs, h1, h2⟩ := h
          exact CSem.mono h1 fun rs' x' ⟨e1, e2⟩ => ⟨fun _ => e2, by subst e1; exact h2⟩
        | some ids =>
          simp only [callD, callK] at h ⊢
          obtain ⟨x, h1, h2⟩ := footS_one _ _ _ _ h
          refine h2 s _ (fun _ _ _ h => h) ?_
          obtain ⟨rs, h3, h4⟩ := h1
          exact CSem.mono h3 fun rs' x' ⟨e1, e2⟩ => ⟨fun _ => e2, by subst e1; exact h4⟩
      · exact h.elim
  all_goals exact h

theorem wpD_wp {g : GOp} {K : St → Prop} {s : St} (h : g.wpD (CSem P) K s) : g.wp (CSem P) K s := by
  cases hg : g.guard with
  | none =>
    simp only [GOp.wpD_eq, GOp.wpD0, hg] at h
    simp only [GOp.wp_eq, GOp.wp0, hg]
    exact semD_sem h
  | some p =>
    obtain ⟨r, want⟩ := p
    simp only [GOp.wpD_eq, GOp.wpD0, hg] at h
    simp only [GOp.wp_eq, GOp.wp0, hg]
    split at h
    · rename_i b hb
      cases hbw : b == want with
      | true =>
        rw [hbw] at h
        simp only [cond_true] at h ⊢
        exact semD_sem h
      | false =>
        rw [hbw] at h
        simp only [cond_false] at h ⊢
        exact h
    · exact h
    · exact h.elim

theorem okGs_get {N : Nat} {ops : Array Oper} : ∀ {os : List Oper} {gs : List GOp}, okGs P N ops os gs = true → os.length = gs.length ∧ ∀ (i : Nat) (o : Oper) (g : GOp), os[i]? = some o → gs[i]? = some g → okG P N ops o g = true
  | [], [], _ => ⟨rfl, by simp⟩
  | o :: os, g :: gs, h => by
    simp only [okGs, Bool.and_eq_true] at h
    obtain ⟨h1, h2⟩ := okGs_get h.2
    refine ⟨by simp [h1], fun i o' g' ho hg => ?_⟩
    cases i with
    | zero => simp at ho hg; subst ho; subst hg; exact h.1
    | succ i => exact h2 i o' g' (by simpa using ho) (by simpa using hg)
  | [], _ :: _, h => by simp [okGs] at h
  | _ :: _, [], h => by simp [okGs] at h

theorem any_sound {N : Nat} (hN : N ≤ c.N) {ops : Array Oper} {gs : List GOp} (ok : okGs P N ops ops.toList gs = true) (hD : okD ops gs = true) {K : St → Prop} {Q : Exit → Act → World → Prop} (hK : ∀ a w, Reach c K a w → Q .normal a w) :
    ∀ (fuel : Nat) (listed : Array Bool) (a : Act) (w : World), listed.size = ops.size → (∀ i o, ops[i]? = some o → listed.getD i false = true → ∀ j ∈ preds o, listed.getD j false = true) → (remF listed 0 gs).length ≤ fuel →
      Reach c (wpd (CSem P) ((remF listed 0 gs).map (·.2)) K) a w → wpAny P .any ops Q fuel listed a w := by
  simp only [okD, Bool.and_eq_true] at hD
  obtain ⟨⟨hback, hcomp⟩, htop⟩ := hD
  obtain ⟨hlen, hok⟩ := okGs_get ok
  have hlen' : gs.length = ops.size := by rw [← hlen]; simp
  have hanc : ∀ i j, j ∈ (ancs ops.toList).getD i [] → Anc ops j i := ancs_spec ops ops.toList [] (fun j => by simp) (fun i j h => by simp at h)
  have ready_preds : ∀ {listed : Array Bool} {i : Nat}, i ∈ Region.ready .any ops listed ↔ listed.getD i true = false ∧ ∃ o, ops[i]? = some o ∧ ∀ j ∈ preds o, listed.getD j false = true := by
    intro listed i
    rw [mem_ready]
    refine and_congr_right fun _ => exists_congr fun o => and_congr_right fun _ => ⟨fun h j hj => ?_, fun h e he hb => ?_⟩
    · simp only [preds, List.mem_map, List.mem_filter] at hj
      obtain ⟨e, ⟨he, hb⟩, rfl⟩ := hj
      exact h e (by simpa using he) hb
    · exact h e.on (List.mem_map.2 ⟨e, List.mem_filter.2 ⟨by simpa using he, hb⟩, rfl⟩)
  -- nothing is ready only when all has been
  have prog : ∀ listed : Array Bool, listed.size = ops.size → Region.ready .any ops listed = [] → remF listed 0 gs = [] := by
    intro listed hsz hr
    refine rem_done listed gs 0 fun i _ hi => ?_
    rw [Nat.zero_add, hlen'] at hi
    induction i using Nat.strongRecOn with
    | _ i ih =>
      cases hl : listed.getD i true with
      | true => rfl
      | false =>
        have hio : ops[i]? = some ops[i] := Array.getElem?_eq_getElem hi
        have : i ∈ Region.ready .any ops listed := ready_preds.2 ⟨hl, ops[i], hio, fun j hj => ?_⟩
        · rw [hr] at this; cases this
        · have h1 := List.all_eq_true.1 hback i (List.mem_range.2 hi)
          rw [hio] at h1
          have h2 : j < i := by simpa using List.all_eq_true.1 h1 j hj
          have h3 := ih j h2 (Nat.zero_le _) (by omega)
          have hjs : j < listed.size := by omega
          simpa [hjs] using h3
  intro fuel
  induction fuel with
  | zero =>
    intro listed a w hsz hcl hf hreach
    have h0 : remF listed 0 gs = [] := List.eq_nil_of_length_eq_zero (by omega)
    rw [h0] at hreach
    refine ⟨?_, hK _ _ hreach⟩
    cases hr : Region.ready .any ops listed with
    | nil => rfl
    | cons i r =>
      have hi : i ∈ Region.ready .any ops listed := by rw [hr]; simp
      obtain ⟨h1, o, ho, _⟩ := ready_preds.1 hi
      have hlt : i < gs.length := by rw [hlen']; exact (Array.getElem?_eq_some_iff.1 ho).1
      obtain ⟨pre, post, h2, _⟩ := rem_split listed i h1 gs 0 gs[i] (Nat.zero_le _) (by simp [hlt])
      rw [h0] at h2
      simp at h2
  | succ fuel ih =>
    intro listed a w hsz hcl hf hreach
    refine ⟨fun hr => ?_, fun i hi => ?_⟩
    · rw [prog listed hsz hr] at hreach
      exact hK _ _ hreach
    · obtain ⟨h1, o, ho, hp⟩ := ready_preds.1 hi
      have hlo : i < ops.size := (Array.getElem?_eq_some_iff.1 ho).1
      have hlt : i < gs.length := by rw [hlen']; exact hlo
      have hgi : gs[i]? = some gs[i] := List.getElem?_eq_getElem hlt
      generalize gs[i] = g at hgi
      obtain ⟨pre, post, h2, h3, h4⟩ := rem_split listed i h1 gs 0 g (Nat.zero_le _) (by simpa using hgi)
      obtain ⟨s, κ, hrs, hs⟩ := hreach
      rw [h2, List.map_append, List.map_cons] at hs
      -- what stands before it and has not come has nothing to do with it
      have hcl2 : ∀ j k, Anc ops j k → (listed.getD k false = true ∨ k = i) → listed.getD j false = true := by
        intro j k hj
        induction hj with
        | one ho' hj' =>
          intro hk
          rcases hk with hk | rfl
          · exact hcl _ _ ho' hk _ hj'
          · rw [ho] at ho'
            cases ho'
            exact hp _ hj'
        | step _ _ ih1 ih2 => exact fun hk => ih1 (.inl (ih2 hk))
      have comp : ∀ p ∈ pre.map (·.2), compatB p g = true := by
        intro p hp'
        obtain ⟨⟨j, p'⟩, hj, rfl⟩ := List.mem_map.1 hp'
        obtain ⟨_, g1, g2, g3⟩ := h4 _ hj
        have h5 := List.all_eq_true.1 (List.all_eq_true.1 hcomp i (List.mem_range.2 hlo)) j (List.mem_range.2 g1)
        simp only [Nat.sub_zero] at g3
        rw [g3, hgi] at h5
        rcases Bool.or_eq_true _ _ ▸ h5 with h6 | h6
        · have := hcl2 j i (hanc i j (by simpa using h6)) (.inr rfl)
          rw [in_false g2] at this
          cases this
        · exact h6
      have hst : g.wpD (CSem P) (wpd (CSem P) (pre.map (·.2) ++ post.map (·.2)) K) s := by
        have hap : ∀ p ∈ pre.map (·.2), Apart p g := fun p hp' => by
          have := comp p hp'
          simp only [compatB, Bool.and_eq_true] at this
          exact apartB_spec this.1
        have htop' : ∀ x ∈ g.op.xs, ∀ b, x = .c b → top b = none := by
          intro x hx b hb
          have := List.all_eq_true.1 (List.all_eq_true.1 htop g (List.mem_of_getElem? hgi)) x hx
          rw [hb] at this
          simpa [topB] using this
        cases hpre : pre.map (·.2) with
        | nil => rw [hpre] at hs; exact hs
        | cons p r =>
          rw [← hpre]
          have h6 : ∀ p ∈ pre.map (·.2), (p.op.cls.add = true ∧ g.op.cls.add = true) ∨ (p.op.cls = .pure ∧ g.op.cls = .write) := by
            intro p hp'
            have := comp p hp'
            simp only [compatB, Bool.and_eq_true, Bool.or_eq_true, decide_eq_true_eq] at this
            exact this.2
          rcases h6 p (by rw [hpre]; simp) with h7 | h7
          · exact hoist_add hrs h7.2 (fun q hq => by
              rcases h6 q hq with h8 | h8
              · exact h8.1
              · rw [h8.1]; rfl) hap htop' hs
          · exact hoist_write h7.2 (fun q hq => by
              rcases h6 q hq with h8 | h8
              · rw [h7.2] at h8; exact absurd h8.2 (by simp [Cls.add])
              · exact h8.1) hap hs
      have hsound := gop_sound (Q := Q) hrs hN (hok i o g (by simpa using ho) hgi) (wpD_wp hst)
      have next : ∀ a w, Reach c (wpd (CSem P) (pre.map (·.2) ++ post.map (·.2)) K) a w → wpAny P .any ops Q fuel (listed.setIfInBounds i true) a w := by
        intro a w hr
        refine ih _ a w (by simpa using hsz) (fun k o' ho' hk j hj => ?_) ?_ ?_
        · by_cases e : i = k
          · subst e
            rw [ho] at ho'
            cases ho'
            exact getD_set_true (hp j hj)
          · rw [getD_set_ne false e] at hk
            exact getD_set_true (hcl k o' ho' hk j hj)
        · rw [h3]
          rw [h2] at hf
          simp only [List.length_append, List.length_cons] at hf ⊢
          omega
        · rw [h3, List.map_append]
          exact hr
      unfold wpOp
      simp only [ho]
      split
      · rename_i hw
        rw [if_pos hw] at hsound
        exact .inl (Oper.wp_mono next hsound)
      · rename_i hw
        rw [if_neg hw] at hsound
        exact next _ _ hsound
end

theorem remF_all : ∀ (gs : List GOp) (n k : Nat), k + gs.length ≤ n → (remF (Array.replicate n false) k gs).map (·.2) = gs
  | [], n, k, _ => rfl
  | g :: r, n, k, h => by
    have : (Array.replicate n false).getD k true = false := all_false' (by simp at h; omega)
    rw [remF, this]
    simp only [Bool.false_eq_true, if_false, List.map_cons]
    rw [remF_all r n (k + 1) (by simp at h; omega)]

theorem dsound {P : Program} (hm : P.follows .mixedOrders = true) (N : Nat) : DSound P N okD := by
  intro c s a w κ id ops gs K Q hN ok hD h hK hs
  refine wp_region_any hm ?_
  obtain ⟨hlen, _⟩ := okGs_get ok
  have hlen' : gs.length = ops.size := by rw [← hlen]; simp
  have hall := remF_all gs ops.size 0 (by omega)
  refine any_sound hN ok hD hK _ _ _ _ (by simp) (fun i o _ hl => by rw [all_false] at hl; cases hl) ?_ ⟨s, κ, h.same_heap rfl rfl rfl rfl, by rw [hall]; exact hs⟩
  have := congrArg List.length hall
  simp only [List.length_map] at this
  omega
end Go.Tide

/- Working with the abstract semantics: monotone, unrolled, entered. -/
set_option linter.unusedSimpArgs false
set_option linter.unusedVariables false
namespace Go.Tide

/-- A meaning of calls that holds of more, for more. -/
def CMono (C C' : CallSem) : Prop := ∀ f as x (K K' : List A → Sto → Prop), (∀ rs t, K rs t → K' rs t) → C f as x K → C' f as x K'

section
variable {C C' : CallSem}

theorem set_mono {s : St} {i : Id} {o : Ob} {k k' : St → Prop} (h : ∀ s, k s → k' s) (hs : s.set i o k) : s.set i o k' := by
  obtain ⟨l', x', h1, h2⟩ := set_one hs
  obtain ⟨e, l, x⟩ := s
  exact h2 e k' (h _ h1)

theorem new_mono {s : St} {n : Nat} {o : Ob} {k k' : St → Prop} (h : ∀ s, k s → k' s) (hs : s.new n o k) : s.new n o k' := by
  obtain ⟨h1, h2⟩ := St.new_iff _ _ _ _ hs
  exact St.new_mk h1 (h _ h2)

theorem takeK_mono {d : Nat} {s : St} {j : Nat} {ts : List Take} {rs : List A} {k k' : List A → St → Prop} (h : ∀ l s, k l s → k' l s) (hs : takeK d s j ts rs k) : takeK d s j ts rs k' := by
  obtain ⟨l, δ, g1, g2, g3⟩ := takeK_one _ _ _ _ _ hs
  exact g3 s k' (fun m hm => (g2 m hm).1) (h _ _ g1)

theorem footS_mono {s : St} {f : Id → Option Id} {ids : List Id} {j : Nat} {k k' : Sto → Prop} (h : ∀ x, k x → k' x) (hs : footS s ids f j k) : footS s ids f j k' := by
  obtain ⟨x, h1, h2⟩ := footS_one _ _ _ _ hs
  exact h2 s k' (fun _ _ _ h => h) (h _ h1)

theorem footR_mono {s : St} {f b : Id → Option Id} {ids : List Id} {k k' : Prop} (h : k → k') (hs : footR s ids f b k) : footR s ids f b k' := by
  obtain ⟨h1, h2⟩ := footR_one _ _ _ _ hs
  exact h2 s k' (fun _ _ _ h => h) (h h1)

theorem backS_mono (f : Id → Option Id) (t : Sto) : ∀ (ids : List Id) (s : St) (j : Nat) (k k' : St → Prop), (∀ s, k s → k' s) → backS s t ids f j k → backS s t ids f j k'
  | [], s, j, k, k', h, hs => h _ hs
  | i :: r, s, j, k, k', h, hs => by
    rw [backS] at hs ⊢
    split at hs
    · exact set_mono (fun s => backS_mono f t r s (j + 1) k k' h) hs
    · exact hs

theorem callK_mono (hC : CMono C C') {g : Nat} {as caps : List A} {foot : Option (List Id)} {ro : Bool} {take : List Take} {d : Nat} {s : St} {K K' : A → St → Prop} (hK : ∀ x s, K x s → K' x s) (h : callK C g as caps foot ro take d s K) : callK C' g as caps foot ro take d s K' := by
  cases foot with
  | none =>
    simp only [callK] at h ⊢
    refine hC _ _ _ _ _ (fun rs x' ⟨h1, h2⟩ => ⟨h1, ?_⟩) h
    cases ro
    · exact takeK_mono (fun _ _ => hK _ _) h2
    · exact takeK_mono (fun _ _ => hK _ _) h2
  | some ids =>
    simp only [callK] at h ⊢
    refine footS_mono (fun x h => ?_) h
    refine hC _ _ _ _ _ (fun rs x' ⟨h1, h2⟩ => ⟨h1, ?_⟩) h
    cases ro
    · exact backS_mono _ _ _ _ _ _ _ (fun _ => takeK_mono (fun _ _ => hK _ _)) h2
    · exact footR_mono (takeK_mono (fun _ _ => hK _ _)) h2

theorem loadK_mono {s : St} {n : Option Nat} {x : A} {k k' : A → Prop} (h : ∀ x, k x → k' x) (hs : loadK s n x k) : loadK s n x k' := by
  cases x with
  | ref i off =>
    simp only [loadK] at hs ⊢
    cases ho : s.ob i with
    | none => rw [ho] at hs; exact hs
    | some o =>
      rw [ho] at hs
      cases o with
      | cells cs =>
        simp only at hs ⊢
        cases hp : partA cs off n with
        | none => rw [hp] at hs; exact hs
        | some v => rw [hp] at hs; exact h v hs
      | row e sz xs => exact hs
      | tok e sz n => exact hs
  | rref i m j off =>
    simp only [loadK] at hs ⊢
    cases ho : s.ob i with
    | none => rw [ho] at hs; exact hs
    | some o =>
      rw [ho] at hs
      cases o with
      | cells cs => exact hs
      | row e sz xs =>
        obtain ⟨cs, h1, h2, hs⟩ := hs
        refine ⟨cs, h1, h2, ?_⟩
        cases hp : partA cs off n with
        | none => rw [hp] at hs; exact hs
        | some v => rw [hp] at hs; exact h v hs
      | tok e sz n => exact hs
  | pim cs off =>
    simp only [loadK] at hs ⊢
    cases hp : partA cs off n with
    | none => rw [hp] at hs; exact hs
    | some v => rw [hp] at hs; exact h v hs
  | _ => exact hs.elim

theorem sem_mono (hC : CMono C C') {op : IOp} {d : Nat} {s : St} {K K' : A → St → Prop} (hK : ∀ x s, K x s → K' x s) (h : sem C op d s K) : sem C' op d s K' := by
  cases hcl : op.cls with
  | pure =>
    cases op <;> simp only [IOp.cls, reduceCtorEq] at hcl <;> simp only [sem] at h ⊢
    case mov => exact hK _ _ h
    case isnil ptr neg x =>
      split
      · rename_i p hp
        rw [hp] at h
        exact fun b hb => hK _ _ (h b hb)
      · rename_i hp
        rw [hp] at h
        exact h
    case len str x =>
      cases str with
      | false => simp only at h ⊢; split at h <;> first | exact h.elim | exact fun hh => hK _ _ (h hh)
      | true => simp only at h ⊢; split at h <;> first | exact h.elim | exact fun hh => hK _ _ (h hh)
    case mkfn f caps =>
      rw [evL_iff] at h ⊢
      exact hK _ _ h
    case bin op x y => rw [binK_eq] at h ⊢; split at h <;> first | exact h.elim | exact hK _ _ h
    case fieldp x off n =>
      split at h
      · exact hK _ _ h
      · exact hK _ _ h
      · rw [subP_eq] at h ⊢
        split at h <;> first | exact h.elim | exact hK _ _ h
      · exact h.elim
    case ibox x => split at h <;> first | exact h.elim | (rw [forceL_iff] at h ⊢; exact hK _ _ h)
    case build z ps =>
      split at h
      · rw [forceL_iff] at h ⊢; exact hK _ _ h
      · exact h.elim
    case call f args foot ro take => cases ro <;> simp at hcl
    case lit el sz n z ps own =>
      cases own with
      | true => simp at hcl
      | false => split at h <;> first | exact h.elim | (simp only [forceR_iff] at h ⊢; exact hK _ _ h)
    case idxp x i sz =>
      split at h
      · split at h
        · obtain ⟨cs, h1, h2, h3, h4⟩ := h; exact ⟨cs, h1, h2, h3, hK _ _ h4⟩
        · obtain ⟨cs, h1, h2, h3, h4⟩ := h; exact ⟨cs, h1, h2, h3, hK _ _ h4⟩
        · obtain ⟨h1, h2, h3, h4⟩ := h; exact ⟨h1, h2, h3, hK _ _ h4⟩
        · exact h.elim
      · exact h.elim
    case idxa x i len sz =>
      split at h
      · split at h
        · obtain ⟨h1, h2, h4⟩ := h; exact ⟨h1, h2, hK _ _ h4⟩
        · obtain ⟨h1, h2, h4⟩ := h; exact ⟨h1, h2, hK _ _ h4⟩
        · exact h.elim
      · exact h.elim
    case minmax mx x y =>
      split at h
      · exact ⟨h.1, hK _ _ h.2⟩
      · exact h.elim
    case slice x lo hi sz =>
      split at h
      · obtain ⟨h1, h2, h3, h4⟩ := h; exact ⟨h1, h2, h3, hK _ _ h4⟩
      · obtain ⟨h1, h2, h3, h4⟩ := h; exact ⟨h1, h2, h3, hK _ _ h4⟩
      · exact h.elim
    case pick c a b =>
      split at h
      · split at h
        · exact hK _ _ h
        · exact hK _ _ h
      · exact h.elim
    case eqs neg ks x y =>
      split at h
      · split at h
        · exact hK _ _ h
        · exact h.elim
      · exact h.elim
    case field x off n =>
      split at h
      · split at h
        · exact hK _ _ h
        · exact h.elim
      · exact h.elim
    case ext x k =>
      split at h
      · split at h
        · exact hK _ _ h
        · exact h.elim
      · exact h.elim
    all_goals (split at h <;> first | exact h.elim | exact hK _ _ h)
  | load =>
    cases op <;> simp only [IOp.cls, reduceCtorEq] at hcl
    case lit el sz n z ps own => cases own <;> simp at hcl
    case load x n =>
      simp only [sem] at h ⊢
      exact loadK_mono (fun _ => hK _ _) h
    case call f args foot ro take => cases ro <;> simp at hcl
  | new =>
    cases op <;> simp only [IOp.cls, reduceCtorEq] at hcl <;> simp only [sem] at h ⊢
    case ntok => exact new_mono (hK _) h
    case nrow => exact new_mono (hK _) h
    case alloc => exact new_mono (hK _) h
    case box => split at h <;> first | exact h.elim | exact new_mono (hK _) h
    case lit el sz n z ps own =>
      cases own with
      | false => simp at hcl
      | true => split at h <;> first | exact h.elim | exact new_mono (hK _) h
    case mkrow el sz bytes z n =>
      split at h
      · exact ⟨h.1, h.2.1, h.2.2.1, new_mono (hK _) h.2.2.2⟩
      · exact h.elim
    case call f args foot ro take => cases ro <;> simp at hcl
  | write =>
    have : semD C op d s K' := by
      have hd : semD C op d s K := by
        cases op <;> simp only [IOp.cls, reduceCtorEq] at hcl
        case lit el sz n z ps own => cases own <;> simp at hcl
        case store => exact h
        case app => exact h
        case call f args foot ro take => cases ro <;> simp at hcl
      obtain ⟨x, l', x', h1, h2⟩ := write_one hcl hd
      obtain ⟨e, l, xx⟩ := s
      exact h2 e (fun _ _ => rfl) K' (hK _ _ h1)
    cases op <;> simp only [IOp.cls, reduceCtorEq] at hcl
    case lit el sz n z ps own => cases own <;> simp at hcl
    case store => exact this
    case app => exact this
    case call f args foot ro take => cases ro <;> simp at hcl
  | call =>
    cases op <;> simp only [IOp.cls, reduceCtorEq] at hcl
    case lit el sz n z ps own => cases own <;> simp at hcl
    case call f args foot ro take =>
      simp only [sem] at h ⊢
      split at h
      · rw [evL_iff] at h ⊢; exact callK_mono hC hK h
      · exact h.elim
  | mutc =>
    cases op <;> simp only [IOp.cls, reduceCtorEq] at hcl
    case lit el sz n z ps own => cases own <;> simp at hcl
    case call f args foot ro take =>
      simp only [sem] at h ⊢
      split at h
      · rw [evL_iff] at h ⊢; exact callK_mono hC hK h
      · exact h.elim
end
end Go.Tide
