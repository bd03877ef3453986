/- WindowKeeps: for every input the law answers true, and its arguments read as before. -/
import Derived.Test.YtfalonfjpihgeaaRows
import Derived.WalkKit
import Derived.ProofKit
import Derived.OpenShut
import Derived.ShutString
import Derived.ChangeOld
import Derived.Below
import Derived.SizedLaws
import Derived.Test.YtfalonfjpihgeaaTide11
set_option linter.unusedVariables false
namespace Go.Proofs.Ytfalonfjpihgeaa.windowKeeps
open Go.ChangeShapes Go.WideShapes Go.ChangeAt Go.RowKit Go.Tide
open Go.ChangeMaps (open_string shut_string)

theorem own : ownKnob Try.prog.godebug = none := by kernel_rfl
theorem laidOut : laidOutB Try.prog = true := by kernel_rfl
def api : Api := { int64 := 2, int := 3, str := 9, ints := 22, val := 30, vals := 37, zrow := 39, zset := 24, expr := 32, exprs := 23, win := 34, wins := 35 }
def types : List TypeId := [2, 3, 9, 22, 30, 37, 39, 24, 32, 23, 34, 35]
theorem api_ok : apiOk Try.prog api = true := by kernel_rfl
theorem types_ok : closedT Try.prog types = true := by kernel_rfl

set_option maxRecDepth 100000 in
theorem sound {f : Nat} {ys : List A} {x : Sto} {K : List A → Sto → Prop} (h : CC f ys x K) : CSem Try.prog f ys x K :=
  call_sound (dsound (by kernel_rfl)) (look_ok tbl_ok) (base_sound Try.func98 (by kernel_rfl) (by kernel_rfl) (by kernel_rfl) (by kernel_rfl)) h

set_option maxRecDepth 100000 in
theorem lifted (os : Os) (started : os.Started) (H : Type) (enc : TypeId × Value → H) :
    ReturnsInHanded {} Try.checked os 5 .any (Rows.windowKeepsSpec.pre6 enc Try.prog Try.f5 Rows.windowKeepsRow.domain false) (Rows.windowKeepsSpec.post enc Try.prog Try.f5 false true false false) := by
  refine returnsInHanded_of_change_sized (C := Try.checked) own started (by kernel_rfl) Try.func5
    (ChangeSpec.witness6 (enc := enc) (C := Try.checked) false ⟨#[], #[.slice none 0 0, .slice none 0 0, .slice none 0 0, .slice none 0 0, .slice none 0 0], []⟩ 8 (by kernel_rfl) (by kernel_rfl) (by kernel_rfl) (by kernel_rfl)) ?_
  intro W base args ds gs before hval0 hW hcnd hsz0 _
  have hsz : (DataW.weightsEach Try.prog (Try.f5.params.toList ++ Rows.windowKeepsSpec.plain.varTypes Try.prog) (ds ++ gs)).all (· ≤ reachBytes) = true := hsz0
  have hval : ∀ (j : Nat) t v, Try.f5.params[j]? = some t → args[j]? = some v → Value.okWide Try.prog W .any base t v := hval0
  have hW' := hW
  obtain ⟨p, q, hA0, hV, rfl, hfz, hnd⟩ := hW
  have hA : DataW.TrodAll enc Try.prog W 0 (fun _ => true) true Try.f5.params.toList args.toList ds p := hA0
  rw [Try.params5] at hA hval hsz
  obtain ⟨v0, vs0, d0, ds0, p0, q0, hargs, rfl, rfl, h0, r0⟩ := trodAll_cons hA
  obtain ⟨v1, vs1, d1, ds1, p1, q1, rfl, rfl, rfl, h1, r1⟩ := trodAll_cons r0
  obtain ⟨v2, vs2, d2, ds2, p2, q2, rfl, rfl, rfl, h2, r2⟩ := trodAll_cons r1
  obtain ⟨v3, vs3, d3, ds3, p3, q3, rfl, rfl, rfl, h3, r3⟩ := trodAll_cons r2
  obtain ⟨v4, vs4, d4, ds4, p4, q4, rfl, rfl, rfl, h4, r4⟩ := trodAll_cons r3
  obtain ⟨rfl, rfl, rfl⟩ := trodAll_nil r4
  obtain rfl : args = #[v0, v1, v2, v3, v4] := by cases args; simp_all
  obtain ⟨rfl, rfl⟩ := trodVars_none hV
  have lt0 : ∀ x ∈ p0, x.block < W.heap.size := by obtain ⟨m, hm⟩ := h0; exact DataW.trod_lt m _ _ _ hm
  have lt1 : ∀ x ∈ p1, x.block < W.heap.size := by obtain ⟨m, hm⟩ := h1; exact DataW.trod_lt m _ _ _ hm
  have lt2 : ∀ x ∈ p2, x.block < W.heap.size := by obtain ⟨m, hm⟩ := h2; exact DataW.trod_lt m _ _ _ hm
  have lt3 : ∀ x ∈ p3, x.block < W.heap.size := by obtain ⟨m, hm⟩ := h3; exact DataW.trod_lt m _ _ _ hm
  have lt4 : ∀ x ∈ p4, x.block < W.heap.size := by obtain ⟨m, hm⟩ := h4; exact DataW.trod_lt m _ _ _ hm
  obtain ⟨x0, t0, i0, b0⟩ := arg_row types_ok Try.underlying22 (by kernel_rfl) h0 (okWide_slice Try.underlying22 (hval 0 22 v0 rfl rfl)) (fun es sp e => sized_slice hsz (j := 0) rfl (by rw [e]; rfl) Try.underlying22)
  obtain ⟨x1, t1, i1, b1⟩ := arg_row types_ok Try.underlying23 (by kernel_rfl) h1 (okWide_slice Try.underlying23 (hval 1 23 v1 rfl rfl)) (fun es sp e => sized_slice hsz (j := 1) rfl (by rw [e]; rfl) Try.underlying23)
  obtain ⟨x2, t2, i2, b2⟩ := arg_row types_ok Try.underlying23 (by kernel_rfl) h2 (okWide_slice Try.underlying23 (hval 2 23 v2 rfl rfl)) (fun es sp e => sized_slice hsz (j := 2) rfl (by rw [e]; rfl) Try.underlying23)
  obtain ⟨x3, t3, i3, b3⟩ := arg_row types_ok Try.underlying35 (by kernel_rfl) h3 (okWide_slice Try.underlying35 (hval 3 35 v3 rfl rfl)) (fun es sp e => sized_slice hsz (j := 3) rfl (by rw [e]; rfl) Try.underlying35)
  obtain ⟨x4, t4, i4, b4⟩ := arg_row types_ok Try.underlying24 (by kernel_rfl) h4 (okWide_slice Try.underlying24 (hval 4 24 v4 rfl rfl)) (fun es sp e => sized_slice hsz (j := 4) rfl (by rw [e]; rfl) Try.underlying24)
  rw [show Try.prog.bytesOf 3 = 8 by kernel_rfl] at b0
  rw [show Try.prog.bytesOf 34 = 80 by kernel_rfl] at b3
  obtain ⟨c0, e0⟩ := ty_ints api_ok t0
  obtain ⟨c1, e1⟩ := ty_exprs api_ok t1
  obtain ⟨c2, e2⟩ := ty_exprs api_ok t2
  obtain ⟨c3, e3⟩ := ty_wins api_ok t3
  obtain ⟨c4, e4⟩ := ty_zset api_ok t4
  simp only [List.cons.injEq, A.sl.injEq, and_true] at e0 e1 e2 e3 e4
  subst e0 e1 e2 e3 e4
  simp only [reachBytes, List.length_map] at b0 b3
  clear hA0 hval0 hsz0 hsz
  refine (law_calls (sound (s_tidelaw15_WindowKeeps c0 c1 c2 c3 c4 (by omega) (by omega) rfl)) (vals := #[v0, v1, v2, v3, v4]) ⟨i0, i1, i2, i3, i4, trivial⟩ (run_enters Try.func5 (by kernel_rfl) (by kernel_rfl) _ _)).mono fun e W' ⟨he, bel⟩ => ?_
  subst he
  exact ⟨_, rfl, _, _, _, [], _, [], hW', trodAll_mk1 (shut_bool Try.underlying4 _),
    trodAll_cons_mk (bel.trod laidOut (by kernel_rfl) (of_decide_eq_true (by kernel_rfl)) h0 lt0) (trodAll_cons_mk (bel.trod laidOut (by kernel_rfl) (of_decide_eq_true (by kernel_rfl)) h1 lt1) (trodAll_cons_mk (bel.trod laidOut (by kernel_rfl) (of_decide_eq_true (by kernel_rfl)) h2 lt2) (trodAll_cons_mk (bel.trod laidOut (by kernel_rfl) (of_decide_eq_true (by kernel_rfl)) h3 lt3) (trodAll_cons_mk (bel.trod laidOut (by kernel_rfl) (of_decide_eq_true (by kernel_rfl)) h4 lt4) trodAll_mk0)))), rfl, bel.frame _, fun h => by cases h⟩

theorem over : Rows.windowKeepsRow.holds Try.pinned (OpenSpec.ofChange Rows.windowKeepsSpec) :=
  OpenClaim.holds_of_wide 5 Try.f5 rfl rfl rfl rfl rfl rfl rfl ⟨rfl, rfl, rfl, rfl, rfl⟩ rfl rfl rfl rfl rfl (by kernel_rfl) Try.func5 (by kernel_rfl)
    (of_decide_eq_true (by kernel_rfl)) (by unfold Func.isWrapper; first | (rw [if_pos (by decide +kernel)]; kernel_rfl) | (rw [if_neg (by decide +kernel)]; exact ⟨rfl, rfl⟩))
    (fun os started H enc _ => lifted os started H enc)
end Go.Proofs.Ytfalonfjpihgeaa.windowKeeps
namespace Go.Proofs.Ytfalonfjpihgeaa
/-- No row is lost: true of every input. -/
theorem windowKeeps_holds : Rows.WindowKeepsSaid := windowKeeps.over
#print axioms windowKeeps_holds
end Go.Proofs.Ytfalonfjpihgeaa
