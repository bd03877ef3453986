/- WindowParts: for every input the law answers true, and its arguments read as before. -/
import Derived.Test.YtfalonfjpihgeaaRows
import Derived.WalkKit
import Derived.ProofKit
import Derived.OpenShut
import Derived.ShutString
import Derived.ChangeOld
import Derived.Below
import Derived.SizedLaws
import Derived.Test.YtfalonfjpihgeaaTide11
set_option linter.unusedVariables false
namespace Go.Proofs.Ytfalonfjpihgeaa.windowParts
open Go.ChangeShapes Go.WideShapes Go.ChangeAt Go.RowKit Go.Tide
open Go.ChangeMaps (open_string shut_string)

theorem own : ownKnob Try.prog.godebug = none := by kernel_rfl
theorem laidOut : laidOutB Try.prog = true := by kernel_rfl
def api : Api := { int64 := 2, int := 3, str := 9, ints := 22, val := 30, vals := 37, zrow := 39, zset := 24, expr := 32, exprs := 23, win := 34, wins := 35 }
def types : List TypeId := [2, 3, 9, 22, 30, 37, 39, 24, 32, 23, 34, 35]
theorem api_ok : apiOk Try.prog api = true := by kernel_rfl
theorem types_ok : closedT Try.prog types = true := by kernel_rfl

set_option maxRecDepth 100000 in
theorem sound {f : Nat} {ys : List A} {x : Sto} {K : List A → Sto → Prop} (h : CC f ys x K) : CSem Try.prog f ys x K :=
  call_sound (dsound (by kernel_rfl)) (look_ok tbl_ok) (base_sound Try.func98 (by kernel_rfl) (by kernel_rfl) (by kernel_rfl) (by kernel_rfl)) h

set_option maxRecDepth 100000 in
theorem lifted (os : Os) (started : os.Started) (H : Type) (enc : TypeId × Value → H) :
    ReturnsInHanded {} Try.checked os 4 .any (Rows.windowPartsSpec.pre6 enc Try.prog Try.f4 Rows.windowPartsRow.domain false) (Rows.windowPartsSpec.post enc Try.prog Try.f4 false true false false) := by
  refine returnsInHanded_of_change_sized (C := Try.checked) own started (by kernel_rfl) Try.func4
    (ChangeSpec.witness6 (enc := enc) (C := Try.checked) false ⟨#[], #[.slice none 0 0, .int .i64 0, .slice none 0 0, .slice none 0 0, .slice none 0 0, .agg #[.int .i64 0, .int .i64 0, .string ByteArray.empty]], []⟩ 8 (by kernel_rfl) (by kernel_rfl) (by kernel_rfl) (by kernel_rfl)) ?_
  intro W base args ds gs before hval0 hW hcnd hsz0 _
  have hsz : (DataW.weightsEach Try.prog (Try.f4.params.toList ++ Rows.windowPartsSpec.plain.varTypes Try.prog) (ds ++ gs)).all (· ≤ reachBytes) = true := hsz0
  have hval : ∀ (j : Nat) t v, Try.f4.params[j]? = some t → args[j]? = some v → Value.okWide Try.prog W .any base t v := hval0
  have hW' := hW
  obtain ⟨p, q, hA0, hV, rfl, hfz, hnd⟩ := hW
  have hA : DataW.TrodAll enc Try.prog W 0 (fun _ => true) true Try.f4.params.toList args.toList ds p := hA0
  rw [Try.params4] at hA hval hsz
  obtain ⟨v0, vs0, d0, ds0, p0, q0, hargs, rfl, rfl, h0, r0⟩ := trodAll_cons hA
  obtain ⟨v1, vs1, d1, ds1, p1, q1, rfl, rfl, rfl, h1, r1⟩ := trodAll_cons r0
  obtain ⟨v2, vs2, d2, ds2, p2, q2, rfl, rfl, rfl, h2, r2⟩ := trodAll_cons r1
  obtain ⟨v3, vs3, d3, ds3, p3, q3, rfl, rfl, rfl, h3, r3⟩ := trodAll_cons r2
  obtain ⟨v4, vs4, d4, ds4, p4, q4, rfl, rfl, rfl, h4, r4⟩ := trodAll_cons r3
  obtain ⟨v5, vs5, d5, ds5, p5, q5, rfl, rfl, rfl, h5, r5⟩ := trodAll_cons r4
  obtain ⟨rfl, rfl, rfl⟩ := trodAll_nil r5
  obtain rfl : args = #[v0, v1, v2, v3, v4, v5] := by cases args; simp_all
  obtain ⟨rfl, rfl⟩ := trodVars_none hV
  have lt0 : ∀ x ∈ p0, x.block < W.heap.size := by obtain ⟨m, hm⟩ := h0; exact DataW.trod_lt m _ _ _ hm
  have lt1 : ∀ x ∈ p1, x.block < W.heap.size := by obtain ⟨m, hm⟩ := h1; exact DataW.trod_lt m _ _ _ hm
  have lt2 : ∀ x ∈ p2, x.block < W.heap.size := by obtain ⟨m, hm⟩ := h2; exact DataW.trod_lt m _ _ _ hm
  have lt3 : ∀ x ∈ p3, x.block < W.heap.size := by obtain ⟨m, hm⟩ := h3; exact DataW.trod_lt m _ _ _ hm
  have lt4 : ∀ x ∈ p4, x.block < W.heap.size := by obtain ⟨m, hm⟩ := h4; exact DataW.trod_lt m _ _ _ hm
  have lt5 : ∀ x ∈ p5, x.block < W.heap.size := by obtain ⟨m, hm⟩ := h5; exact DataW.trod_lt m _ _ _ hm
  obtain ⟨x0, t0, i0, b0⟩ := arg_row types_ok Try.underlying22 (by kernel_rfl) h0 (okWide_slice Try.underlying22 (hval 0 22 v0 rfl rfl)) (fun es sp e => sized_slice hsz (j := 0) rfl (by rw [e]; rfl) Try.underlying22)
  obtain ⟨c1, e1⟩ := okWide_int Try.underlying3 (hval 1 3 v1 rfl rfl)
  obtain ⟨x2, t2, i2, b2⟩ := arg_row types_ok Try.underlying23 (by kernel_rfl) h2 (okWide_slice Try.underlying23 (hval 2 23 v2 rfl rfl)) (fun es sp e => sized_slice hsz (j := 2) rfl (by rw [e]; rfl) Try.underlying23)
  obtain ⟨x3, t3, i3, b3⟩ := arg_row types_ok Try.underlying35 (by kernel_rfl) h3 (okWide_slice Try.underlying35 (hval 3 35 v3 rfl rfl)) (fun es sp e => sized_slice hsz (j := 3) rfl (by rw [e]; rfl) Try.underlying35)
  obtain ⟨x4, t4, i4, b4⟩ := arg_row types_ok Try.underlying24 (by kernel_rfl) h4 (okWide_slice Try.underlying24 (hval 4 24 v4 rfl rfl)) (fun es sp e => sized_slice hsz (j := 4) rfl (by rw [e]; rfl) Try.underlying24)
  obtain ⟨x5, t5, i5⟩ := arg_agg types_ok (by kernel_rfl) h5 (okWide_struct Try.underlying30 (hval 5 30 v5 rfl rfl))
  rw [show Try.prog.bytesOf 3 = 8 by kernel_rfl] at b0
  rw [show Try.prog.bytesOf 32 = 72 by kernel_rfl] at b2
  rw [show Try.prog.bytesOf 34 = 80 by kernel_rfl] at b3
  rw [show Try.prog.bytesOf 39 = 32 by kernel_rfl] at b4
  obtain ⟨c0, e0⟩ := ty_ints api_ok t0
  obtain ⟨c2, e2⟩ := ty_exprs api_ok t2
  obtain ⟨c3, e3⟩ := ty_wins api_ok t3
  obtain ⟨c4, e4⟩ := ty_zset api_ok t4
  obtain ⟨c5, e5⟩ := ty_val api_ok t5
  simp only [List.cons.injEq, A.sl.injEq, and_true] at e0 e2 e3 e4
  subst e0 e1 e2 e3 e4 e5
  simp only [reachBytes, List.length_map, encEs_map] at b0 b2 b3 b4
  clear hA0 hval0 hsz0 hsz
  refine (law_calls (sound (s_tidelaw15_WindowParts c0 c1 c2 c3 c4 c5 (by omega) (by omega) rfl)) (vals := #[v0, .int .i64 c1, v2, v3, v4, v5]) ⟨i0, Imm.int _ _, i2, i3, i4, i5, trivial⟩ (run_enters Try.func4 (by kernel_rfl) (by kernel_rfl) _ _)).mono fun e W' ⟨he, bel⟩ => ?_
  subst he
  exact ⟨_, rfl, _, _, _, [], _, [], hW', trodAll_mk1 (shut_bool Try.underlying4 _), (trodAll_cons_mk (bel.trod laidOut (by kernel_rfl) (of_decide_eq_true (by kernel_rfl)) h0 lt0) (trodAll_cons_mk (bel.trod laidOut (by kernel_rfl) (of_decide_eq_true (by kernel_rfl)) h1 lt1) (trodAll_cons_mk (bel.trod laidOut (by kernel_rfl) (of_decide_eq_true (by kernel_rfl)) h2 lt2) (trodAll_cons_mk (bel.trod laidOut (by kernel_rfl) (of_decide_eq_true (by kernel_rfl)) h3 lt3) (trodAll_cons_mk (bel.trod laidOut (by kernel_rfl) (of_decide_eq_true (by kernel_rfl)) h4 lt4) (trodAll_cons_mk (bel.trod laidOut (by kernel_rfl) (of_decide_eq_true (by kernel_rfl)) h5 lt5) trodAll_mk0)))))), rfl, bel.frame _, fun h => by cases h⟩

theorem over : Rows.windowPartsRow.holds Try.pinned (OpenSpec.ofChange Rows.windowPartsSpec) :=
  OpenClaim.holds_of_wide 4 Try.f4 rfl rfl rfl rfl rfl rfl rfl ⟨rfl, rfl, rfl, rfl, rfl⟩ rfl rfl rfl rfl rfl (by kernel_rfl) Try.func4 (by kernel_rfl)
    (of_decide_eq_true (by kernel_rfl)) (by unfold Func.isWrapper; first | (rw [if_pos (by decide +kernel)]; kernel_rfl) | (rw [if_neg (by decide +kernel)]; exact ⟨rfl, rfl⟩))
    (fun os started H enc _ => lifted os started H enc)
end Go.Proofs.Ytfalonfjpihgeaa.windowParts
namespace Go.Proofs.Ytfalonfjpihgeaa
/-- The law, for every input. -/
theorem windowParts_holds : Rows.WindowPartsSaid := windowParts.over
#print axioms windowParts_holds
end Go.Proofs.Ytfalonfjpihgeaa

