/- Part 2 of the proof's ground: New rows, stores, appends do what their abstract ones say. -/
import Derived.Test.YtfalonfjpihgeaaTide1

/- New rows, stores, appends do what their abstract ones say. -/
set_option linter.unusedSimpArgs false
set_option linter.unusedVariables false
namespace Go.Tide
section
variable {P : Program} {c : Cx} {s : St} {a : Act} {w : World} {κ : Conc} {o : Oper} {K : A → St → Prop} {next : Act → World → Prop} {Q : Exit → Act → World → Prop} {C : CallSem} {d : Nat}

theorem zone_new (h : RS c s a w κ) (d : Nat) (o : Ob) (k : Value) (hk : ∀ b, blk k = some b → w.heap.size ≤ b) :
    ∀ b off, Zof c.Z0 (⟨s.env, updS s.loc d (some o), s.ext⟩ : St).ob (kset κ (.L d) k) b off → Zof c.Z0 s.ob κ b off ∨ w.heap.size ≤ b := by
  intro b off hz
  rcases hz with hz | ⟨i, p, hi, hz⟩
  · exact .inl (.inl hz)
  · rw [s.ob_new] at hi
    by_cases e : i = .L d
    · subst e
      simp only [kset, if_pos] at hz
      exact .inr (hk b hz.1)
    · simp only [kset, if_neg e] at hi hz
      exact .inl (.inr ⟨i, p, hi, hz⟩)

/-- Nothing yet, to be appended to. -/
theorem snd_ntok (h : RS c s a w κ) (hn : Leaves c a o.dst K next) {el sz : Nat} {al : Option Addr} {w' : World} (g : Grew w w') (hr : (execOp a.eval o).run P w = .ok (.value (.slice al 0 0)) w') (hal : al = none ∨ ∃ b p, al = some ⟨b, p, none⟩) (hs : sem C (.ntok el sz) d s K) : o.wp P a w next Q := by
  simp only [sem] at hs
  obtain ⟨hd, hK⟩ := s.new_iff d _ _ hs
  unfold Oper.wp
  rw [hr, Oper.upon_value]
  refine hn _ _ _ _ _ hK (h.new d hd (.tok el sz 0) (.slice al 0 0) g (fun b hb => by cases al <;> simp [blk] at hb) ⟨[], .inl ⟨rfl, rfl, al, rfl⟩⟩) ?_
  refine .gs _ _ _ ?_ ⟨el, sz, 0, by rw [s.ob_new]; simp, by simp, fun _ => by simp [kset], by simp⟩
  exact Imm.sl [] al 0 0 (fun _ _ => .bool false) (Nat.le_refl _) (by simp [maxLen]) (by simp) (fun h => absurd h (by simp)) (by simp) (fun _ _ => rfl) (by simp)

theorem snd_nrow (h : RS c s a w κ) (hn : Leaves c a o.dst K next) {el sz : Nat} {al : Option Addr} {w' : World} (g : Grew w w') (hr : (execOp a.eval o).run P w = .ok (.value (.slice al 0 0)) w') (hs : sem C (.nrow el sz) d s K) : o.wp P a w next Q := by
  simp only [sem] at hs
  obtain ⟨hd, hK⟩ := s.new_iff d _ _ hs
  unfold Oper.wp
  rw [hr, Oper.upon_value]
  refine hn _ _ _ _ _ hK (h.new d hd (.row el sz []) (.slice al 0 0) g (fun b hb => by cases al <;> simp [blk] at hb) ⟨[], .inl ⟨rfl, rfl, al, rfl⟩, by simp, by simp, by simp⟩) ?_
  exact .own _ _ _ _ _ (by simp [maxLen]) ⟨el, [], by rw [s.ob_new]; simp, by simp, fun _ => by simp [kset]⟩ (fun h => absurd h (by simp))

def okNone (P : Program) (t : TypeId) (el sz : Nat) : Bool :=
  (match P.underlying t with | some (.slice e) => e == el | _ => false) && (match P.info? el with | some i => i.size == sz | none => false)

theorem run_empty {P : Program} {o : Oper} {a : Act} {w : World} {t : TypeId} {el sz : Nat} (ho : o.op = .buildSlice t 0 ⟨[]⟩) (hm : okNone P t el sz = true) : ∃ w', Grew w w' ∧ (execOp a.eval o).run P w = .ok (.value (.slice (some ⟨w.heap.size, 0, none⟩) 0 0)) w' := by
  simp only [okNone, Bool.and_eq_true] at hm
  obtain ⟨hm1, hm2⟩ := hm
  split at hm1 <;> try (cases hm1; done)
  rename_i e hu
  have := eq_of_beq hm1
  subst this
  split at hm2 <;> try (cases hm2; done)
  rename_i i hi
  refine ⟨w.alloc (.cells #[] e), Grew.alloc w _, ?_⟩
  simp [execOp, ho, Instr.buildSlice, Sem.run_bind, run_underlying hu, Result.andThen_ok, sizeOf, typeInfo, run_program, hi, Sem.run_pure, newRow, Instr.fill, Array.range_zero']

/-- A struct laid into memory that nothing writes to. -/
theorem snd_ibox (h : RS c s a w κ) (hn : Leaves c a o.dst K next) {t : TypeId} {x : Operand} {x' : X} (ho : o.op = .box t x) (hx : okX x x' = true) (hs : sem C (.ibox x') d s K) : o.wp P a w next Q := by
  have h1 := okX_rel h hx
  simp only [sem] at hs
  split at hs
  · rename_i cs hc
    rw [forceL_iff] at hs
    have hf := cells_rel h1 hc
    unfold Oper.wp
    have hr : (execOp a.eval o).run P w = .ok (.value (.pointer (some ⟨w.heap.size, 0, none⟩))) (w.alloc (.cells (a.eval x).cells t)) := by
      simp [execOp, ho, Instr.box, newVar, newRow]
    rw [hr, Oper.upon_value]
    have g := Grew.alloc w (.cells (a.eval x).cells t)
    have h' := h.grew g
    generalize hrr : (a.eval x).cells = r at hf g h' ⊢
    have hlt : ∀ b off, Zof c.Z0 s.ob κ b off → b < w.heap.size := by
      intro b off hz
      rcases hz with hz | ⟨i, p, hi, hz⟩
      · exact Nat.lt_of_lt_of_le (c.low b off hz) h.frame.size
      · exact h.ob_lt hi hz.1
    have himm : Imm (w.alloc (.cells r t)) (Zof c.Z0 s.ob κ) (.pim (cs.map A.strip) 0) (.pointer (some ⟨w.heap.size, 0, none⟩)) := by
      refine Imm.pim (cs.map A.strip) 0 w.heap.size 0 (fun j => r.getD j (.bool false)) (fun j hj => ⟨fun hz => ?_, ?_⟩) (fun j => ?_) (fun j y hy => ?_)
      · have := hlt _ _ hz
        omega
      · rw [List.length_map, ← hf.len] at hj
        have hh := heap_alloc_new w (.cells r t)
        rw [Nat.zero_add]
        unfold World.cell?
        simp only [hh]
        simp [Array.getD_eq_getD_getElem?, hj]
      · by_cases hin : j < r.size
        · simp only [Array.getD_eq_getD_getElem?, Array.getElem?_eq_getElem hin, Option.getD_some]
          exact hf.one _ (Array.getElem_mem_toList hin)
        · simp [Array.getD_eq_getD_getElem?, hin, Value.oneCell']
      · simp only [List.getElem?_map, Option.map_eq_some_iff] at hy
        obtain ⟨y', hy', rfl⟩ := hy
        obtain ⟨u, hu', hr'⟩ := hf.get hy'
        have := (hr'.strip).step (w' := w.alloc (.cells r t)) (Z' := Zof c.Z0 s.ob κ) (fun _ _ h => .inl h) (fun b o v _ hv => g.cell hv)
        simpa [Array.getD_eq_getD_getElem?, hu'] using this
    exact hn _ _ _ _ _ hs h' (.imm _ _ himm)
  · exact hs.elim

def okMake (P : Program) (t : TypeId) (el sz bytes : Nat) (z : List A) : Bool :=
  (match P.underlying t with | some (.slice e) => e == el | _ => false) && (match P.info? el with | some i => i.size == sz && i.bytes == bytes | none => false) && (match zeroOf P el with | some vs => okVs vs z | none => false) && z.length == sz

theorem mul_succ_lt {i sz n j : Nat} (hi : i < n) (hj : j < sz) : i * sz + j < n * sz := by
  have h1 : (i + 1) * sz ≤ n * sz := Nat.mul_le_mul_right _ hi
  rw [Nat.add_mul] at h1
  omega

theorem snd_mkrow (h : RS c s a w κ) (hn : Leaves c a o.dst K next) {t : TypeId} {el sz bytes : Nat} {z : List A} {x : Operand} {x' : X} (ho : o.op = .makeSlice t x x) (hx : okX x x' = true) (hm : okMake P t el sz bytes z = true) (hs : sem C (.mkrow el sz bytes z x') d s K) : o.wp P a w next Q := by
  have h1 := okX_rel h hx
  simp only [okMake, Bool.and_eq_true] at hm
  obtain ⟨⟨⟨hm1, hm2⟩, hm3⟩, hzs⟩ := hm
  have hzs := eq_of_beq hzs
  split at hm1 <;> try (cases hm1; done)
  rename_i e hu
  have := eq_of_beq hm1
  subst this
  split at hm2 <;> try (cases hm2; done)
  rename_i i hi
  simp only [Bool.and_eq_true, beq_iff_eq] at hm2
  obtain ⟨hsz, hby⟩ := hm2
  split at hm3 <;> try (cases hm3; done)
  rename_i vs hv
  simp only [zeroOf, Option.map_eq_some_iff, Option.bind_eq_some_iff] at hv
  obtain ⟨zv, ⟨i', hi', hiz⟩, rfl⟩ := hv
  rw [hi] at hi'
  cases hi'
  simp only [sem] at hs
  split at hs
  · rename_i m he
    rw [he] at h1
    have e1 := h1.int_inv
    obtain ⟨h0, hb, hmx, hnew⟩ := hs
    obtain ⟨hd, hK⟩ := s.new_iff d _ _ hnew
    obtain ⟨n, rfl⟩ := Int.eq_ofNat_of_zero_le h0
    simp only [Int.toNat_natCast] at hK
    have hmaxI : (n : Int) ≤ 9223372036854775807 := hmx
    have hbytes : (i.bytes : Int) * (n : Int) ≤ 281474976710656 := by
      rw [hby, Int.mul_comm]
      have : ((n : Int) * (bytes : Int)) ≤ (maxB : Int) := hb
      have h2 : (maxB : Int) = 140737488355328 := rfl
      omega
    have hrun := run_make (P := P) w t e i zv hu hi hiz .i64 .i64 n n h0 (Int.le_refl _) hbytes hmaxI
    simp only [Int.toNat_natCast] at hrun
    unfold Oper.wp
    have hr : (execOp a.eval o).run P w = .ok (.value (.slice (some ⟨w.heap.size, 0, none⟩) n n)) (w.alloc (.cells (madeCells zv.cells (n * i.size)) e)) := by
      simp only [execOp, ho, e1, hrun, Sem.run_bind, Result.andThen_ok, Sem.run_pure]
    rw [hr, Oper.upon_value]
    obtain ⟨hzl, hzo, hzr⟩ := okVs_rel (w := w.alloc (.cells (madeCells zv.cells (n * i.size)) e)) (Z := Zof c.Z0 (⟨s.env, updS s.loc d (some (.row e sz (List.replicate n z))), s.ext⟩ : St).ob (kset κ (.L d) (.slice (some ⟨w.heap.size, 0, none⟩) n n))) hm3
    have hcs : zv.cells.size = sz := by simpa [hzs] using hzl
    have made : ∀ k, k < n * sz → ∃ v, (madeCells zv.cells (n * i.size))[k]? = some v ∧ zv.cells[k % sz]? = some v := by
      intro k hk
      have hpos : 0 < sz := Nat.pos_of_ne_zero (fun h0 => by simp [h0] at hk)
      have hmod := Nat.mod_lt k hpos
      have hlt : k % sz < zv.cells.size := by omega
      refine ⟨zv.cells[k % sz], ?_, Array.getElem?_eq_getElem hlt⟩
      have hk' : k < n * i.size := by rw [hsz]; exact hk
      simp [madeCells, hk', hcs, getElem!_pos zv.cells (k % sz) hlt]
    refine hn _ _ _ _ _ hK (h.new d hd _ (.slice (some ⟨w.heap.size, 0, none⟩) n n) (Grew.alloc w _) (fun b hb => by cases n <;> simp [blk] at hb; omega) ?_) ?_
    · refine ⟨(madeCells zv.cells (n * i.size)).toList, ?_, ?_, ?_, ?_⟩
      · rw [List.length_replicate]
        cases n with
        | zero => exact .inl ⟨rfl, by simp [madeCells], _, rfl⟩
        | succ n =>
          refine .inr ⟨w.heap.size, n, _, rfl, heap_alloc_new w _, Nat.le_refl _, by simp only [maxLen]; omega, by rw [size_madeCells, hsz], ?_⟩
          rw [List.take_of_length_le]
          simp [size_madeCells, hsz]
      · intro v hv
        obtain ⟨k, hk, rfl⟩ := List.getElem_of_mem hv
        have hk' : k < n * sz := by simpa [size_madeCells, hsz] using hk
        obtain ⟨u, hu, hz⟩ := made k hk'
        have : (madeCells zv.cells (n * i.size)).toList[k]? = some u := by simpa using hu
        rw [List.getElem?_eq_getElem hk] at this
        rw [Option.some.inj this]
        exact hzo u (by rw [Array.mem_toList_iff]; exact Array.mem_of_getElem? hz)
      · intro j x hj
        have := List.eq_of_mem_replicate (List.mem_of_getElem? hj)
        rw [this, hzs]
      · intro r x hr j y hy
        have hx' := List.eq_of_mem_replicate (List.mem_of_getElem? hr)
        subst hx'
        have hrn : r < n := by have := (List.getElem?_eq_some_iff.1 hr).1; simpa using this
        have hj : j < sz := by have := (List.getElem?_eq_some_iff.1 hy).1; omega
        obtain ⟨u, hu, hz⟩ := made (r * sz + j) (mul_succ_lt hrn hj)
        obtain ⟨v, hv, hi⟩ := hzr j y hy
        have hmod : (r * sz + j) % sz = j := by rw [Nat.mul_comm, Nat.mul_add_mod, Nat.mod_eq_of_lt hj]
        rw [hmod] at hz
        have : u = v := by
          have h3 : zv.cells[j]? = some v := by simpa using hv
          rw [hz] at h3
          exact Option.some.inj h3
        subst this
        simpa [List.getD_eq_getElem?_getD, hu] using hi
    · exact .own _ _ _ _ _ (by simp only [maxLen]; omega) ⟨e, List.replicate n z, by rw [s.ob_new]; simp, by simp, fun _ => by simp [kset]⟩ (fun _ => ⟨_, _, rfl⟩)
  · exact hs.elim

/-! ### slice literals -/

theorem flatten_get {α : Type} (sz : Nat) : ∀ (xs : List (List α)) (i j : Nat), (∀ x ∈ xs, x.length = sz) → j < sz → xs.flatten[i * sz + j]? = (xs[i]?).bind (·[j]?)
  | [], i, j, _, _ => by simp
  | x :: xs, 0, j, h, hj => by
    have hx := h x (by simp)
    simp only [List.flatten_cons, Nat.zero_mul, Nat.zero_add]
    rw [List.getElem?_append, if_pos (by omega)]
    simp
  | x :: xs, i + 1, j, h, hj => by
    have hx := h x (by simp)
    have ih := flatten_get sz xs i j (fun y hy => h y (by simp [hy])) hj
    simp only [List.flatten_cons]
    rw [List.getElem?_append, if_neg (by rw [hx, Nat.add_mul]; omega), hx]
    have e : (i + 1) * sz + j - sz = i * sz + j := by rw [Nat.add_mul]; omega
    rw [e, ih]
    simp

theorem flatten_len {α : Type} (sz : Nat) : ∀ (xs : List (List α)), (∀ x ∈ xs, x.length = sz) → xs.flatten.length = xs.length * sz
  | [], _ => by simp
  | x :: xs, h => by
    simp only [List.flatten_cons, List.length_append, List.length_cons, h x (by simp), flatten_len sz xs (fun y hy => h y (by simp [hy])), Nat.add_mul]
    omega

theorem flatten_set (sz : Nat) (xs : List (List A)) (i : Nat) (vs : List A) (h : ∀ x ∈ xs, x.length = sz) (hv : vs.length = sz) (hi : i < xs.length) : (xs.set i vs).flatten = setPart xs.flatten (i * sz) vs := by
  have hset : ∀ x ∈ xs.set i vs, x.length = sz := by
    intro x hx
    rcases List.mem_or_eq_of_mem_set hx with h1 | h1
    · exact h x h1
    · rw [h1]; exact hv
  have hl : i * sz + vs.length ≤ xs.flatten.length := by
    rw [flatten_len sz xs h, hv]
    have : (i + 1) * sz ≤ xs.length * sz := Nat.mul_le_mul_right _ hi
    rw [Nat.add_mul] at this
    omega
  apply List.ext_getElem?
  intro k
  rw [setPart_get _ _ _ hl]
  rcases Nat.eq_zero_or_pos sz with h0 | hp
  · subst h0
    have e1 : (xs.set i vs).flatten = [] := List.eq_nil_of_length_eq_zero (by rw [flatten_len 0 _ hset]; simp)
    have e2 : xs.flatten = [] := List.eq_nil_of_length_eq_zero (by rw [flatten_len 0 _ h]; simp)
    rw [e1, e2, if_neg (by omega)]
  · have hk : k = (k / sz) * sz + k % sz := by rw [Nat.mul_comm]; exact (Nat.div_add_mod k sz).symm
    have hm := Nat.mod_lt k hp
    rw [hk, flatten_get sz _ _ _ hset hm, flatten_get sz _ _ _ h hm, List.getElem?_set]
    by_cases e : i = k / sz
    · subst e
      rw [if_pos rfl, if_pos hi, if_pos ⟨by omega, by omega⟩]
      simp only [Option.bind_some]
      congr 1
      omega
    · rw [if_neg e, if_neg]
      intro hc
      apply e
      have h1 : i ≤ k / sz := (Nat.le_div_iff_mul_le hp).2 (by omega)
      have h2 : k / sz < i + 1 := (Nat.div_lt_iff_lt_mul hp).2 (by rw [Nat.add_mul]; omega)
      omega

def okElems : List (Nat × Operand) → List (Nat × X) → Bool
  | [], [] => true
  | (i, x) :: r, (j, y) :: r' => i == j && okX x y && okElems r r'
  | _, _ => false

theorem fillE_rel (h : RS c s a w κ) {sz : Nat} : ∀ {ps : List (Nat × Operand)} {ps' : List (Nat × X)} {xs : List (List A)} {arr : Array Value} {out : List (List A)},
    okElems ps ps' = true → (∀ x ∈ xs, x.length = sz) → Flat w (Zof c.Z0 s.ob κ) s.ob κ xs.flatten arr → fillE xs sz (ps'.map fun p => (p.1, p.2.ev s.env)) = some out →
    ∃ r, Instr.fill (fun i => some (i * sz, sz)) arr (ps.map fun p => (p.1, a.eval p.2)) = some r ∧ Flat w (Zof c.Z0 s.ob κ) s.ob κ out.flatten r ∧ (∀ x ∈ out, x.length = sz) ∧ out.length = xs.length
  | [], [], xs, arr, out, _, hz, hf, ho => by
    simp [fillE] at ho
    subst ho
    exact ⟨arr, rfl, hf, hz, rfl⟩
  | (i, x) :: r, (j, y) :: r', xs, arr, out, hok, hz, hf, ho => by
    simp only [okElems, Bool.and_eq_true, beq_iff_eq] at hok
    obtain ⟨⟨rfl, hx⟩, hrest⟩ := hok
    simp only [List.map_cons, fillE] at ho
    split at ho
    · rename_i vs hv
      split at ho
      · rename_i hc
        have hfl := cells_rel (okX_rel h hx) hv
        have hlen := flatten_len sz xs hz
        have hle : i * sz + sz ≤ xs.flatten.length := by
          rw [hlen]
          have : (i + 1) * sz ≤ xs.length * sz := Nat.mul_le_mul_right _ hc.2
          rw [Nat.add_mul] at this
          omega
        have h2 := hf.over hfl (off := i * sz) (by omega)
        rw [← flatten_set sz xs i vs hz hc.1 hc.2] at h2
        have hz' : ∀ x ∈ xs.set i vs, x.length = sz := by
          intro x hx
          rcases List.mem_or_eq_of_mem_set hx with h1 | h1
          · exact hz x h1
          · rw [h1]; exact hc.1
        obtain ⟨q, hq, hfq, hzq, hlq⟩ := fillE_rel h hrest hz' h2 ho
        refine ⟨q, ?_, hfq, hzq, by simpa using hlq⟩
        simp only [List.map_cons]
        rw [fill_step (off := i * sz) (size := sz) rfl (by rw [hfl.len]; exact hc.1) (by rw [hf.len]; exact hle)]
        exact hq
      · cases ho
    · cases ho
  | [], _ :: _, _, _, _, h, _, _, _ => by simp [okElems] at h
  | _ :: _, [], _, _, _, h, _, _, _ => by simp [okElems] at h

def okLit (P : Program) (t : TypeId) (el sz n : Nat) (z : List A) (ps : List (Nat × Operand)) (ps' : List (Nat × X)) : Bool :=
  (match P.underlying t with | some (.slice e) => e == el | _ => false) && (match P.info? el with | some i => i.size == sz | none => false) && (match zeroOf P el with | some vs => okVs vs z | none => false) && z.length == sz && decide (n * sz ≤ 16777216) && decide (n ≤ 16777216) && okElems ps ps'

theorem Flat.strip {Z : Zone} {σ : Id → Option Ob} {cs : List A} {arr : Array Value} (h : Flat w Z σ κ cs arr) {j : Nat} {y : A} (hj : cs[j]? = some y) : Imm w Z y.strip (arr.getD j (.tuple #[])) := (h.rel j y hj).strip

theorem strip_get {xs : List (List A)} {i : Nat} {x : List A} (h : (xs.map (·.map A.strip))[i]? = some x) : ∃ y, xs[i]? = some y ∧ x = y.map A.strip := by
  simp only [List.getElem?_map, Option.map_eq_some_iff] at h
  obtain ⟨y, hy, rfl⟩ := h
  exact ⟨y, hy, rfl⟩

theorem snd_lit (h : RS c s a w κ) (hn : Leaves c a o.dst K next) {t : TypeId} {el sz n : Nat} {z : List A} {ps : Array (Nat × Operand)} {ps' : List (Nat × X)} {own : Bool} (ho : o.op = .buildSlice t n ps) (hm : okLit P t el sz n z ps.toList ps' = true) (hs : sem C (.lit el sz n z ps' own) d s K) : o.wp P a w next Q := by
  simp only [okLit, Bool.and_eq_true, decide_eq_true_eq] at hm
  obtain ⟨⟨⟨⟨⟨⟨hm1, hm2⟩, hm3⟩, hzs⟩, hbig⟩, hnbig⟩, hps⟩ := hm
  have hzs := eq_of_beq hzs
  split at hm1 <;> try (cases hm1; done)
  rename_i e hu
  have := eq_of_beq hm1
  subst this
  split at hm2 <;> try (cases hm2; done)
  rename_i i hi
  have hsz := eq_of_beq hm2
  split at hm3 <;> try (cases hm3; done)
  rename_i vs hv
  simp only [zeroOf, Option.map_eq_some_iff, Option.bind_eq_some_iff] at hv
  obtain ⟨zv, ⟨i', hi', hiz⟩, rfl⟩ := hv
  rw [hi] at hi'
  cases hi'
  have hf0 : Flat w (Zof c.Z0 s.ob κ) s.ob κ z zv.cells := by simpa using Flat.of_zero (w := w) (κ := κ) (Z := Zof c.Z0 s.ob κ) (σ := s.ob) hm3
  have hcs : zv.cells.size = sz := by rw [hf0.len, hzs]
  have hrep : ∀ x ∈ List.replicate n z, x.length = sz := fun x hx => by rw [List.eq_of_mem_replicate hx, hzs]
  have hbase : Flat w (Zof c.Z0 s.ob κ) s.ob κ (List.replicate n z).flatten ((Array.range (n * sz)).map (zv.cells[· % zv.cells.size]!)) := by
    refine .of_get (by rw [flatten_len sz _ hrep]; simp) fun k y hk => ?_
    have hk' : k < n * sz := by
      have := (List.getElem?_eq_some_iff.1 hk).1
      rw [flatten_len sz _ hrep] at this
      simpa using this
    have hpos : 0 < sz := Nat.pos_of_ne_zero (fun h0 => by simp [h0] at hk')
    have hmod := Nat.mod_lt k hpos
    have hsplit : k = (k / sz) * sz + k % sz := by rw [Nat.mul_comm]; exact (Nat.div_add_mod k sz).symm
    have hget := hk
    rw [hsplit, flatten_get sz _ _ _ hrep hmod] at hget
    simp only [Option.bind_eq_some_iff] at hget
    obtain ⟨x, hx, hy⟩ := hget
    have hxe := List.eq_of_mem_replicate (List.mem_of_getElem? hx)
    subst hxe
    obtain ⟨u, hu', hr⟩ := hf0.get hy
    have hlt : k % sz < zv.cells.size := by omega
    have hu2 : zv.cells[k % sz] = u := by
      rw [Array.getElem?_eq_getElem hlt] at hu'
      exact Option.some.inj hu'
    exact ⟨u, by simp [hk', hcs, getElem!_pos zv.cells (k % sz) hlt, hu2], one_of hf0 hu', hr⟩
  simp only [sem] at hs
  split at hs
  · rename_i xs hxs
    obtain ⟨r, hr, hfr, hzr, hlr⟩ := fillE_rel h hps hrep hbase hxs
    rw [List.length_replicate] at hlr
    have hrl : r.size = n * sz := by rw [hfr.len, flatten_len sz _ hzr, hlr]
    have hrun : (execOp a.eval o).run P w = .ok (.value (.slice (some ⟨w.heap.size, 0, none⟩) n n)) (w.alloc (.cells r e)) := by
      have e1 : (ps.map fun (i, x) => (i, a.eval x)).toList = ps.toList.map fun p => (p.1, a.eval p.2) := by simp
      have hb : ¬ n * i.size > 2 ^ 24 := by rw [hsz]; omega
      simp only [execOp, ho, Instr.buildSlice, Sem.run_bind, run_underlying hu, Result.andThen_ok, sizeOf, typeInfo, run_program, hi, Sem.run_pure, if_neg hb, e1]
      by_cases h0 : n * sz = 0
      · rw [h0, Array.range_zero'] at hr
        simp only [Array.map_empty] at hr
        simp [h0, hsz, hr, newRow, Array.range_zero']
      · simp [h0, hsz, zeroValue, typeInfo, hi, hiz, hr, newRow]
    have rows : ∀ (i : Nat) (x : List A), xs[i]? = some x → ∀ (j : Nat) (y : A), x[j]? = some y → xs.flatten[i * sz + j]? = some y := by
      intro i x hx j y hy
      have hj : j < sz := by have := (List.getElem?_eq_some_iff.1 hy).1; rw [hzr x (List.mem_of_getElem? hx)] at this; exact this
      rw [flatten_get sz _ _ _ hzr hj, hx]
      exact hy
    unfold Oper.wp
    rw [hrun, Oper.upon_value]
    cases own with
    | false =>
      simp only [forceR_iff] at hs
      have g := Grew.alloc w (.cells r e)
      have h' := h.grew g
      have himm : Imm (w.alloc (.cells r e)) (Zof c.Z0 s.ob κ) (.sl (xs.map (·.map A.strip))) (.slice (some ⟨w.heap.size, 0, none⟩) n n) := by
        have hl : (xs.map (·.map A.strip)).length = n := by simp [hlr]
        have key := Imm.sl (w := w.alloc (.cells r e)) (Z := Zof c.Z0 s.ob κ) (xs.map (·.map A.strip)) (some ⟨w.heap.size, 0, none⟩) n sz (fun i j => r.getD (i * sz + j) (.bool false)) (by rw [hl]; exact Nat.le_refl _) (by
            simp only [maxLen]
            omega) (fun i x hx => by
            obtain ⟨y, hy, rfl⟩ := strip_get hx
            rw [List.length_map]
            exact hzr y (List.mem_of_getElem? hy)) (fun _ => ⟨w.heap.size, 0, rfl, fun i hi j hj => ⟨fun hz => ?_, ?_⟩⟩) (fun h => by cases h) (fun i j => ?_) (fun i x hx j y hy => ?_)
        · rw [hl] at key; exact key
        · have hlt : ∀ b off, Zof c.Z0 s.ob κ b off → b < w.heap.size := by
            intro b off hz
            rcases hz with hz | ⟨i, p, hi, hz⟩
            · exact Nat.lt_of_lt_of_le (c.low b off hz) h.frame.size
            · exact h.ob_lt hi hz.1
          have := hlt _ _ hz
          omega
        · have hin : i * sz + j < r.size := by rw [hrl]; exact mul_succ_lt (by rw [hl] at hi; exact hi) hj
          have hh := heap_alloc_new w (.cells r e)
          rw [Nat.zero_add]
          unfold World.cell?
          simp only [hh]
          simp [Array.getD_eq_getD_getElem?, hin]
        · by_cases hin : i * sz + j < r.size
          · simp only [Array.getD_eq_getD_getElem?, Array.getElem?_eq_getElem hin, Option.getD_some]
            exact hfr.one _ (Array.getElem_mem_toList hin)
          · simp [Array.getD_eq_getD_getElem?, hin, Value.oneCell']
        · obtain ⟨x', hx', rfl⟩ := strip_get hx
          simp only [List.getElem?_map, Option.map_eq_some_iff] at hy
          obtain ⟨y', hy', rfl⟩ := hy
          obtain ⟨u, hu', hr'⟩ := hfr.get (rows i x' hx' j y' hy')
          have := (hr'.strip).step (w' := w.alloc (.cells r e)) (Z' := Zof c.Z0 s.ob κ) (fun _ _ h => .inl h) (fun b o v _ hv => g.cell hv)
          simpa [Array.getD_eq_getD_getElem?, hu'] using this
      exact hn _ _ _ _ _ hs h' (.imm _ _ himm)
    | true =>
      obtain ⟨hd, hK⟩ := s.new_iff d _ _ hs
      refine hn _ _ _ _ _ hK (h.new d hd _ (.slice (some ⟨w.heap.size, 0, none⟩) n n) (Grew.alloc w _) (fun b hb => by cases n <;> simp [blk] at hb; omega) ?_) ?_
      · refine ⟨r.toList, ?_, hfr.one, ?_, ?_⟩
        · rw [List.length_map, hlr]
          cases n with
          | zero => exact .inl ⟨rfl, by simpa using hrl, _, rfl⟩
          | succ n =>
            refine .inr ⟨w.heap.size, n, _, rfl, heap_alloc_new w _, Nat.le_refl _, ?_, hrl, ?_⟩
            · simp only [maxLen]; omega
            · rw [List.take_of_length_le]
              simp [hrl]
        · intro j x hj
          obtain ⟨y, hy, rfl⟩ := strip_get hj
          rw [List.length_map]
          exact hzr y (List.mem_of_getElem? hy)
        · intro i x hx j y hy
          obtain ⟨x', hx', rfl⟩ := strip_get hx
          simp only [List.getElem?_map, Option.map_eq_some_iff] at hy
          obtain ⟨y', hy', rfl⟩ := hy
          obtain ⟨u, hu', hr'⟩ := hfr.get (rows i x' hx' j y' hy')
          have := (hr'.strip).step (w' := w.alloc (.cells r e)) (zone_new h d (.row e sz (xs.map (·.map A.strip))) (.slice (some ⟨w.heap.size, 0, none⟩) n n) (fun b hb => by cases n <;> simp [blk] at hb; omega)) (fun b o v _ hv => (Grew.alloc w (.cells r e)).cell hv)
          simpa [List.getD_eq_getElem?_getD, hu'] using this
      · refine .own _ _ _ _ _ ?_ ⟨e, xs.map (·.map A.strip), by rw [s.ob_new]; simp, by simp [hlr], fun _ => by simp [kset]⟩ (fun _ => ⟨_, _, rfl⟩)
        simp only [maxLen]
        omega
  · exact hs.elim
end
end Go.Tide

/- Stores and appends do what their abstract ones say. -/
set_option linter.unusedSimpArgs false
set_option linter.unusedVariables false
namespace Go.Tide
section
variable {P : Program} {c : Cx} {s : St} {a : Act} {w : World} {κ : Conc} {o : Oper} {K : A → St → Prop} {next : Act → World → Prop} {Q : Exit → Act → World → Prop} {C : CallSem} {d : Nat}

/-- Cells over others, as storing them one by one does. -/
theorem over_list (arr : Array Value) (off : Nat) (us : Array Value) (h : off + us.size ≤ arr.size) : (arr.toList.take off ++ us.toList ++ arr.toList.drop (off + us.size)).toArray = over arr off us := by
  obtain ⟨h1, h2⟩ := over_spec arr off us
  apply Array.ext_getElem?
  intro k
  rw [h2 k]
  simp only [List.getElem?_toArray, List.append_assoc, List.getElem?_append, List.length_take, Array.length_toList, List.getElem?_take, List.getElem?_drop, Array.getElem?_toList]
  have hm : min off arr.size = off := by omega
  rw [hm]
  split
  · rename_i h3
    rw [if_neg (by omega)]
    try rw [if_pos h3]
  · rename_i h3
    split
    · rename_i h4
      rw [if_pos (by omega)]
    · rename_i h4
      rw [if_neg (by omega)]
      congr 1
      omega

theorem run_storeAt {t : TypeId} {i : TypeInfo} (hi : P.info? t = some i) {b p : Nat} {v : Value} {cur : Array Value} {te : TypeId} (hb : w.heap[b]? = some (.cells cur te (0, 0))) (hs : v.cells.size = i.size) (hl : p + v.cells.size ≤ cur.size) (h1 : ∀ u ∈ v.cells.toList, u.oneCell' = true) :
    (Instr.storeAt t (.pointer (some ⟨b, p, none⟩)) v).run P w = .ok () (w.setRow b (over cur p v.cells)) := by
  have hst := run_storeCells_at (P := P) b p te v.cells.toList 0 cur w hb (by simpa using hl) h1
  simp only [Nat.add_zero, Array.length_toList] at hst
  rw [over_list cur p v.cells hl] at hst
  simp [Instr.storeAt, Instr.sureAddr, storeVar, sizeOf, typeInfo, hi, hs, hst]

theorem setRow_grew {b : Nat} {cur : Array Value} (w : World) : (w.setRow b cur).os = w.os ∧ (w.setRow b cur).tape = w.tape ∧ (w.setRow b cur).output = w.output ∧ (w.setRow b cur).heap.size = w.heap.size := by
  simp [World.setRow]

theorem cell_setRow {w : World} {b : Nat} {cur new : Array Value} {te : TypeId} (hb : w.heap[b]? = some (.cells cur te (0, 0))) {b' off : Nat} {v : Value} (hne : b' ≠ b) (h : w.cell? ⟨b', off, none⟩ = some v) : (w.setRow b new).cell? ⟨b', off, none⟩ = some v := by
  rw [cell_same (setRow_other w b b' new hne)]
  exact h

def okStore (P : Program) (t : TypeId) (n : Option Nat) : Bool := okN P t n

theorem okN_size {t : TypeId} {n : Option Nat} (h : okN P t n = true) : ∃ i, P.info? t = some i ∧ i.size = n.getD 1 := by
  cases hi : P.info? t with
  | none =>
    unfold okN at h
    simp only [hi, Option.map_none] at h
    split at h <;> simp_all
  | some i =>
    refine ⟨i, rfl, ?_⟩
    unfold okN at h
    simp only [hi, Option.map_some] at h
    split at h <;> simp_all

theorem stripU {w : World} {Z : Zone} {σ : Id → Option Ob} {κ : Conc} {cs : List A} {arr : Array Value} (h : Flat w Z σ κ cs arr) {σ' : Id → Option Ob} (f : Id → Option Id) (H : ∀ i j, f i = some j → LikeAt (σ i) (σ' j) (κ i) (κ j)) : Flat w Z σ' κ (A.renL f cs) arr := by
  refine .of_get (by rw [renL_length, h.len]) fun j y hj => ?_
  obtain ⟨x, hx, rfl⟩ := renL_inv hj
  obtain ⟨v, hv, hr⟩ := h.get hx
  exact ⟨v, hv, one_of h hv, hr.map f (fun _ _ h => .inl h) (fun _ _ _ _ h => h) H⟩

/-- An object's cells are written. -/
theorem snd_store (h : RS c s a w κ) (hn : Leaves c a none K next) {t : TypeId} {n : Option Nat} {x y : Operand} {x' y' : X} (ho : o.op = .store t x y) (hx : okX x x' = true) (hy : okX y y' = true) (hN : okN P t n = true) (hs : sem C (.store x' y' n) d s K) (hdst : o.dst = none) : o.wp P a w next Q := by
  have h1 := okX_rel h hx
  have h2 := okX_rel h hy
  obtain ⟨ti, hti, htn⟩ := okN_size hN
  simp only [sem] at hs
  unfold storeK at hs
  split at hs
  · exact hs.elim
  · rename_i vs hvs
    cases hlb : Nat.beq vs.length (n.getD 1) with
    | false => rw [hlb] at hs; exact hs.elim
    | true =>
    rw [hlb] at hs
    simp only [cond_true] at hs
    have hlen := beq_true hlb
    have hfl := cells_rel h2 hvs
    have hsize : (a.eval y).cells.size = ti.size := by rw [hfl.len, hlen, htn]
    -- the state of objects behind the store
    split at hs
    · rename_i i off he
      rw [he] at h1
      obtain ⟨b, e1, hk, cs, hcs⟩ := h1.ref_inv
      rw [hcs] at hs
      simp only at hs
      cases hbl : Nat.ble (off + vs.length) cs.length with
      | false => rw [hbl] at hs; exact hs.elim
      | true =>
      rw [hbl] at hs
      simp only [cond_true] at hs
      have hle := Nat.le_of_ble_eq_true hbl
      have hset := hs
      obtain ⟨s', p, hK, hp, henv, hob⟩ := s.set_iff i _ _ hset
      have hobi := h.obs i _ hcs
      rw [hk] at hobi
      obtain ⟨b', arr, te, hb', hh, hl, hone, hr⟩ := hobi
      cases hb'
      have hflat : Flat w (Zof c.Z0 s.ob κ) s.ob κ cs arr := ⟨hl, hone, hr⟩
      have hov := hflat.over hfl hle
      have hrun := run_storeAt (P := P) hti hh hsize (by rw [hfl.len, hl]; exact hle) hfl.one
      obtain ⟨g1, g2, g3, g4⟩ := setRow_grew (b := b) (cur := over arr off (a.eval y).cells) w
      have hosz := (over_spec arr off (a.eval y).cells).1
      unfold Oper.wp
      have hrr : (execOp a.eval o).run P w = .ok .skip (w.setRow b (over arr off (a.eval y).cells)) := by
        simp only [execOp, ho, e1, Sem.run_bind, hrun, Result.andThen_ok, Sem.run_pure]
      rw [hrr, Oper.upon_skip, hdst]
      -- the new object
      have hcell : ∀ bb oo v, ¬ obZone (κ i) (.cells cs) bb oo → w.cell? ⟨bb, oo, none⟩ = some v → (w.setRow b (over arr off (a.eval y).cells)).cell? ⟨bb, oo, none⟩ = some v := by
        intro bb oo v hz hv
        refine cell_setRow hh (fun e => hz ⟨by rw [hk, e]; rfl, trivial⟩) hv
      have fin : ∀ cs' : List A, Flat (w.setRow b (over arr off (a.eval y).cells)) (Zof c.Z0 s'.ob (kset κ i (κ i))) s'.ob (kset κ i (κ i)) cs' (over arr off (a.eval y).cells) →
          (∀ n, i = .U n → Flat (w.setRow b (over arr off (a.eval y).cells)) (Zof c.Z0 s'.ob (kset κ i (κ i))) (extOb s') (kset κ i (κ i)) cs' (over arr off (a.eval y).cells)) →
          s'.ob = (fun j => if j = i then some (.cells cs') else s.ob j) →
          next (a.put none undef) (w.setRow b (over arr off (a.eval y).cells)) := by
        intro cs' hf hfU hob
        refine hn _ _ _ undef _ hK (h.set (o' := .cells cs') (k' := κ i) hcs henv hob ⟨cs', rfl, rfl⟩ g1 g2 g3 (by rw [g4]; exact Nat.le_refl _) hcell (fun bb _ hne => setRow_other w b bb _ (fun e => hne (by rw [hk, e]; rfl))) (fun bb oo hz => .inl ⟨hz.1, trivial⟩) (fun bb hb => .inl hb) ?_ ?_) (.imm _ _ (.tup [] #[] rfl (by simp)))
        · exact ⟨b, _, te, hk, setRow_heap w b arr _ te _ hh, hf.len, hf.one, hf.rel⟩
        · intro n hn'
          have hf' := hfU n hn'
          exact ⟨b, _, te, hk, setRow_heap w b arr _ te _ hh, hf'.len, hf'.one, hf'.rel⟩
      -- what the cells say in the new state
      have hZ : ∀ cs', s'.ob = (fun j => if j = i then some (.cells cs') else s.ob j) → ∀ bb oo, Zof c.Z0 s'.ob (kset κ i (κ i)) bb oo → Zof c.Z0 s.ob κ bb oo ∨ w.heap.size ≤ bb := by
        intro cs' hob bb oo hz
        rcases hz with hz | ⟨j, q, hj, hz⟩
        · exact .inl (.inl hz)
        · rw [hob] at hj
          by_cases e : j = i
          · subst e
            simp only [kset, if_pos] at hz
            exact .inl (.inr ⟨j, _, hcs, hz.1, trivial⟩)
          · simp only [kset, if_neg e] at hj hz
            exact .inl (.inr ⟨j, q, hj, hz⟩)
      have hL : ∀ cs', s'.ob = (fun j => if j = i then some (.cells cs') else s.ob j) → ∀ j, LikeAt (s.ob j) (s'.ob j) (κ j) (kset κ i (κ i) j) := by
        intro cs' hob j
        rw [hob]
        by_cases e : j = i
        · subst e; simp only [if_pos, kset, hcs]; exact ⟨cs', rfl, rfl⟩
        · simp only [if_neg e, kset]; exact LikeAt.refl _ _
      have hC : ∀ bb oo v, ¬ Zof c.Z0 s.ob κ bb oo → w.cell? ⟨bb, oo, none⟩ = some v → (w.setRow b (over arr off (a.eval y).cells)).cell? ⟨bb, oo, none⟩ = some v := fun bb oo v hz hv => hcell bb oo v (fun h' => hz (.inr ⟨i, _, hcs, h'⟩)) hv
      cases i with
      | L m =>
        refine fin _ (.of_get (by rw [hov.len]) fun j z hj => ?_) (fun n hn' => by cases hn') hob
        obtain ⟨v, hv, hr⟩ := hov.get hj
        exact ⟨v, hv, one_of hov hv, hr.step (hZ _ hob) hC (hL _ hob)⟩
      | U m =>
        have hU : ∀ i1 j1, clip [] i1 = some j1 → i1 = j1 ∧ ∃ n, i1 = .U n := fun i1 j1 hij => by
          cases i1 with
          | U n => simp [clip] at hij; exact ⟨hij, n, rfl⟩
          | L n => simp [clip] at hij
        refine fin _ (.of_get (by rw [renL_length, hov.len]) fun j z hj => ?_) (fun n hn' => .of_get (by rw [renL_length, hov.len]) fun j z hj => ?_) hob
        · obtain ⟨z', hz', rfl⟩ := renL_inv hj
          obtain ⟨v, hv, hr⟩ := hov.get hz'
          refine ⟨v, hv, one_of hov hv, hr.map _ (hZ _ hob) hC (fun i1 j1 hij => ?_)⟩
          obtain ⟨rfl, _⟩ := hU i1 j1 hij
          exact hL _ hob i1
        · obtain ⟨z', hz', rfl⟩ := renL_inv hj
          obtain ⟨v, hv, hr⟩ := hov.get hz'
          refine ⟨v, hv, one_of hov hv, hr.map _ (hZ _ hob) hC (fun i1 j1 hij => ?_)⟩
          obtain ⟨rfl, n', rfl⟩ := hU i1 j1 hij
          exact hL _ hob (.U n')
    · rename_i i m j off he
      rw [he] at h1
      obtain ⟨b, p, e1, e, sz, xs, hcs, h3, h4⟩ := h1.rref_inv
      rw [hcs] at hs
      obtain ⟨cs, hm, hj, hle, hset⟩ := hs
      rw [forceL_iff] at hset
      subst hm
      have hlt : j < xs.length := (List.getElem?_eq_some_iff.1 hj).1
      obtain ⟨rfl, k, hk⟩ := h4 rfl hlt
      obtain ⟨s', q, hK, hq, henv, hob⟩ := s.set_iff i _ _ hset
      have hob' : s'.ob = fun l => if l = i then some (.row e sz (xs.set j (setPart cs off (vs.map A.strip)))) else s.ob l := by
        rw [hob]
        cases i <;> rfl
      have hobi := h.obs i _ hcs
      rw [hk] at hobi
      obtain ⟨us, hown, hone, hz, hr⟩ := hobi
      have hownl := hown.length
      rcases hown with ⟨h0, _⟩ | ⟨g, cap, cur, hg, hh, hn1, hcap, hsz, htake⟩
      · omega
      · cases hg
        have hcsl := hz j cs hj
        have hxl : j * sz + sz ≤ xs.length * sz := by
          have : (j + 1) * sz ≤ xs.length * sz := Nat.mul_le_mul_right _ hlt
          rw [Nat.add_mul] at this
          omega
        have hnl : xs.length * sz ≤ cur.size := by rw [hsz]; exact Nat.mul_le_mul_right _ hn1
        have hrun := run_storeAt (P := P) hti hh hsize (p := j * sz + off) (by rw [hfl.len]; omega) hfl.one
        obtain ⟨g1, g2, g3, g4⟩ := setRow_grew (b := b) (cur := over cur (j * sz + off) (a.eval y).cells) w
        obtain ⟨hosz, hov⟩ := over_spec cur (j * sz + off) (a.eval y).cells
        unfold Oper.wp
        have hrr : (execOp a.eval o).run P w = .ok .skip (w.setRow b (over cur (j * sz + off) (a.eval y).cells)) := by
          simp only [execOp, ho, e1, Sem.run_bind, hrun, Result.andThen_ok, Sem.run_pure]
        rw [hrr, Oper.upon_skip, hdst]
        have hblk : blk (κ i) = some b := by rw [hk]; rfl
        have hcell : ∀ bb oo v, ¬ obZone (κ i) (.row e sz xs) bb oo → w.cell? ⟨bb, oo, none⟩ = some v → (w.setRow b (over cur (j * sz + off) (a.eval y).cells)).cell? ⟨bb, oo, none⟩ = some v := by
          intro bb oo v hz hv
          exact cell_setRow hh (fun e => hz ⟨by rw [hblk, e], trivial⟩) hv
        have hC : ∀ bb oo v, ¬ Zof c.Z0 s.ob κ bb oo → w.cell? ⟨bb, oo, none⟩ = some v → (w.setRow b (over cur (j * sz + off) (a.eval y).cells)).cell? ⟨bb, oo, none⟩ = some v := fun bb oo v hz hv => hcell bb oo v (fun h' => hz (.inr ⟨i, _, hcs, h'⟩)) hv
        have hZ : ∀ bb oo, Zof c.Z0 s'.ob (kset κ i (κ i)) bb oo → Zof c.Z0 s.ob κ bb oo ∨ w.heap.size ≤ bb := by
          intro bb oo hz
          rcases hz with hz | ⟨l, q, hl, hz⟩
          · exact .inl (.inl hz)
          · rw [hob'] at hl
            by_cases e : l = i
            · subst e
              simp only [kset, if_pos] at hz
              exact .inl (.inr ⟨l, _, hcs, hz.1, trivial⟩)
            · simp only [kset, if_neg e] at hl hz
              exact .inl (.inr ⟨l, q, hl, hz⟩)
        refine hn _ _ _ undef _ hK (h.setR (fun _ => by simp) (k' := κ i) hcs henv hob' ⟨_, rfl, by simp, fun _ => rfl⟩ g1 g2 g3 (by rw [g4]; exact Nat.le_refl _) hcell (fun bb _ hne => setRow_other w b bb _ (fun e => hne (by rw [hblk, e]))) (fun bb oo hz => .inl ⟨hz.1, trivial⟩) (fun bb hb => .inl hb) ?_) (.imm _ _ (.tup [] #[] rfl (by simp)))
        have hcur' : ∀ k, k < xs.length * sz → ∃ v, (over cur (j * sz + off) (a.eval y).cells)[k]? = some v := fun k hk => ⟨_, Array.getElem?_eq_getElem (by rw [hosz]; omega)⟩
        have rowlen : ∀ (l : Nat) (x : List A), (xs.set j (setPart cs off (vs.map A.strip)))[l]? = some x → x.length = sz := by
          intro l x hl
          rw [List.getElem?_set] at hl
          by_cases e : j = l
          · rw [if_pos e] at hl
            subst e
            rw [if_pos hlt] at hl
            cases hl
            rw [setPart_length _ _ _ (by rw [List.length_map]; exact hle)]
            exact hcsl
          · rw [if_neg e] at hl
            exact hz l x hl
        have hold : ∀ k, k < xs.length * sz → cur[k]? = us[k]? := by
          intro k hk
          rw [← htake, List.getElem?_take, if_pos hk, Array.getElem?_toList]
        refine ⟨(over cur (j * sz + off) (a.eval y).cells).toList.take (xs.length * sz), ?_, ?_, ?_, ?_⟩
        · rw [List.length_set]
          exact .inr ⟨b, cap, _, hk, setRow_heap w b cur _ e _ hh, hn1, hcap, by rw [hosz, hsz], rfl⟩
        · intro v hv
          obtain ⟨k, hkl, rfl⟩ := List.getElem_of_mem hv
          have hkn : k < xs.length * sz := by
            rw [List.length_take] at hkl
            omega
          rw [List.getElem_take]
          have hovk := hov k
          have hks : k < (over cur (j * sz + off) (a.eval y).cells).size := by rw [hosz]; omega
          rw [Array.getElem?_eq_getElem hks] at hovk
          have hgoal : ∀ v, some (over cur (j * sz + off) (a.eval y).cells)[k] = some v → v.oneCell' = true → (over cur (j * sz + off) (a.eval y).cells).toList[k].oneCell' = true := by
            intro v hv ho
            rw [Array.getElem_toList]
            rw [Option.some.inj hv]
            exact ho
          split at hovk
          · rename_i hin
            have : k - (j * sz + off) < (a.eval y).cells.size := by omega
            rw [Array.getElem?_eq_getElem this] at hovk
            exact hgoal _ hovk (hfl.one _ (Array.getElem_mem_toList this))
          · rw [hold k hkn] at hovk
            have : k < us.length := by omega
            rw [List.getElem?_eq_getElem this] at hovk
            exact hgoal _ hovk (hone _ (List.getElem_mem this))
        · exact rowlen
        · intro l x hl jj z hjj
          have hlx : l < xs.length := by
            have := (List.getElem?_eq_some_iff.1 hl).1
            simpa using this
          have hxz : x.length = sz := rowlen l x hl
          have hjjs : jj < sz := by have := (List.getElem?_eq_some_iff.1 hjj).1; omega
          have hidx := mul_succ_lt hlx hjjs
          have goal : ∀ v, (over cur (j * sz + off) (a.eval y).cells)[l * sz + jj]? = some v → Imm (w.setRow b (over cur (j * sz + off) (a.eval y).cells)) (Zof c.Z0 s'.ob (kset κ i (κ i))) z v → Imm (w.setRow b (over cur (j * sz + off) (a.eval y).cells)) (Zof c.Z0 s'.ob (kset κ i (κ i))) z (((over cur (j * sz + off) (a.eval y).cells).toList.take (xs.length * sz)).getD (l * sz + jj) (.tuple #[])) := by
            intro v hv hi
            simpa [List.getD_eq_getElem?_getD, List.getElem?_take, hidx, hv] using hi
          have hovk := hov (l * sz + jj)
          rw [List.getElem?_set] at hl
          by_cases e : j = l
          · subst e
            rw [if_pos rfl, if_pos hlt] at hl
            cases hl
            rw [setPart_get _ _ _ (by rw [List.length_map]; exact hle), List.length_map] at hjj
            split at hjj
            · rename_i hin
              simp only [List.getElem?_map, Option.map_eq_some_iff] at hjj
              obtain ⟨z', hz', rfl⟩ := hjj
              obtain ⟨v, hv, hr'⟩ := hfl.get hz'
              rw [if_pos (by rw [hfl.len]; omega)] at hovk
              have e2 : j * sz + jj - (j * sz + off) = jj - off := by omega
              rw [e2, hv] at hovk
              exact goal v hovk ((hr'.strip).step hZ hC)
            · rename_i hin
              rw [if_neg (by rw [hfl.len]; omega), hold _ hidx] at hovk
              have hlt2 : j * sz + jj < us.length := by omega
              rw [List.getElem?_eq_getElem hlt2] at hovk
              refine goal _ hovk ?_
              have := hr j cs hj jj z hjj
              simp only [List.getD_eq_getElem?_getD, List.getElem?_eq_getElem hlt2, Option.getD_some] at this
              exact this.step hZ hC
          · rw [if_neg e] at hl
            have hout : ¬ (j * sz + off ≤ l * sz + jj ∧ l * sz + jj < j * sz + off + (a.eval y).cells.size ∧ l * sz + jj < cur.size) := by
              rintro ⟨q1, q2, _⟩
              rw [hfl.len] at q2
              rcases Nat.lt_or_gt_of_ne e with h5 | h5
              · have : (j + 1) * sz ≤ l * sz := Nat.mul_le_mul_right _ h5
                rw [Nat.add_mul] at this
                omega
              · have : (l + 1) * sz ≤ j * sz := Nat.mul_le_mul_right _ h5
                rw [Nat.add_mul] at this
                omega
            rw [if_neg hout, hold _ hidx] at hovk
            have hlt2 : l * sz + jj < us.length := by omega
            rw [List.getElem?_eq_getElem hlt2] at hovk
            refine goal _ hovk ?_
            have := hr l x hl jj z hjj
            simp only [List.getD_eq_getElem?_getD, List.getElem?_eq_getElem hlt2, Option.getD_some] at this
            exact this.step hZ hC
    · exact hs.elim
end
end Go.Tide

/- Appends do what their abstract ones say. -/
set_option linter.unusedSimpArgs false
set_option linter.unusedVariables false
namespace Go.Tide

/-- Behind an append: a slice, its block, what was there. -/
structure Appended (w w' : World) (e sz : Nat) (v v' : Value) (n m : Nat) (vs news : List Value) : Prop where
  own : Owns w' e sz v' (n + m) (vs ++ news)
  os : w'.os = w.os
  tape : w'.tape = w.tape
  output : w'.output = w.output
  size : w.heap.size ≤ w'.heap.size
  place : ∀ b, blk v' = some b → blk v = some b ∨ w.heap.size ≤ b
  block : ∀ b, b < w.heap.size → blk v ≠ some b → w'.heap[b]? = w.heap[b]?
  pre : ∀ b off u, (blk v = some b → off < n * sz) → w.cell? ⟨b, off, none⟩ = some u → w'.cell? ⟨b, off, none⟩ = some u
  zero : m = 0 → v' = v
  shape : ∃ a cap, v' = .slice a (n + m) cap ∧ n + m ≤ cap ∧ (0 < n + m → ∃ b, a = some ⟨b, 0, none⟩ ∧ cap ≠ 0)

section
variable {P : Program} {w : World}

theorem owns_shape {w : World} {e sz n : Nat} {v : Value} {vs : List Value} (h : Owns w e sz v n vs) : ∃ a cap, v = .slice a n cap ∧ n ≤ cap ∧ (0 < n → ∃ b, a = some ⟨b, 0, none⟩ ∧ cap ≠ 0) := by
  rcases h with ⟨rfl, _, a, rfl⟩ | ⟨g, cap, cur, rfl, _, h1, _⟩
  · exact ⟨a, 0, rfl, Nat.le_refl _, fun h => absurd h (by omega)⟩
  · exact ⟨_, _, rfl, h1, fun _ => ⟨g, rfl, by omega⟩⟩

theorem run_app_zero {t ty e : TypeId} {i : TypeInfo} (ht : P.underlying t = some (.slice e)) (hi : P.info? e = some i) (a : Option Addr) (n cap : Nat) (hc : n ≤ cap) (x : Option Addr) (c : Nat) :
    (Builtin.append_ #[t, t] ty #[.slice a n cap, .slice x 0 c]).run P w = .ok (.slice a n cap) w := by
  have hc' : ¬ cap < n := by omega
  cases x <;> cases a <;> simp [Builtin.append_, run_underlying ht, sizeOf, typeInfo, hi, Builtin.lenOf, Builtin.firstCells, loadCells, loadCellsFrom, hc, storeCells]

theorem run_app {t ty e : TypeId} {i : TypeInfo} {z : Value} {sz bytes : Nat} (ht : P.underlying t = some (.slice e)) (hi : P.info? e = some i) (hz : i.zero = some z) (hsz : i.size = sz) (hby : i.bytes = bytes) (hzs : z.cells.size = sz) (hpos : 0 < sz)
    {v : Value} {n : Nat} {vs : List Value} (hown : Owns w e sz v n vs) {x : Option Addr} {m cx : Nat} {news : List Value} (hl : news.length = m * sz) (hx : m = 0 ∨ ∃ ad, x = some ad ∧ ∀ j u, news[j]? = some u → w.cell? (ad.add j) = some u)
    (h1 : ∀ u ∈ news, u.oneCell' = true) (hmax : n + m ≤ maxLen) (hbytes : (n + m) * bytes ≤ maxB) :
    ∃ v' w', (Builtin.append_ #[t, t] ty #[v, .slice x m cx]).run P w = .ok v' w' ∧ Appended w w' e sz v v' n m vs news := by
  subst hsz
  subst hby
  rcases Nat.eq_zero_or_pos m with rfl | hm
  · obtain ⟨a, cap, rfl, hc, _⟩ := owns_shape hown
    obtain rfl : news = [] := List.eq_nil_of_length_eq_zero (by simpa using hl)
    refine ⟨_, w, run_app_zero ht hi a n cap hc x cx, ⟨by simpa using hown, rfl, rfl, rfl, Nat.le_refl _, fun b hb => .inl hb, fun _ _ _ => rfl, fun _ _ _ _ h => h, fun _ => rfl, ?_⟩⟩
    simpa using owns_shape hown
  · obtain ⟨ad, rfl, hnews⟩ : ∃ ad, x = some ad ∧ ∀ j u, news[j]? = some u → w.cell? (ad.add j) = some u := by
      rcases hx with h | h
      · omega
      · exact h
    have hsmall : ((n + m : Nat) : Int) ≤ 9223372036854775807 := by simp only [maxLen] at hmax; omega
    have hvl := hown.length
    have hb' : (n + m) * i.bytes ≤ 140737488355328 := hbytes
    -- a new block
    have grown : ∀ (old : Nat), old < n + m → Appended w (w.drew.alloc (.cells (vs.toArray ++ news.toArray ++ Builtin.zeroCells z.cells (grownCap w (n + m) old e - (n + m))) e)) e i.size v
        (.slice (some ⟨w.heap.size, 0, none⟩) (n + m) (grownCap w (n + m) old e)) n m vs news := by
      intro old ho
      have hge := grownCap_ge w (n + m) old e
      have hcm : grownCap w (n + m) old e ≤ maxLen := grownCap_le_maxLen w (n + m) old e hmax
      obtain ⟨k, hk⟩ : ∃ k, grownCap w (n + m) old e = k + 1 := ⟨grownCap w (n + m) old e - 1, by omega⟩
      refine ⟨?_, rfl, rfl, rfl, by simp, fun b hb => ?_, fun b hb _ => heap_alloc_old w.drew _ b hb, fun b off u _ hu => ?_, fun h => by omega, ?_⟩
      · rw [hk] at hge hcm ⊢
        refine .inr ⟨w.heap.size, k, _, rfl, heap_alloc_new w.drew _, hge, hcm, ?_, ?_⟩
        · simp only [Array.size_append, List.size_toArray, size_zeroCells, hzs, hvl, hl, ← Nat.add_mul]
          congr 1
          omega
        · simp only [Array.toList_append, List.append_assoc]
          rw [← List.append_assoc]
          have : (n + m) * i.size = (vs ++ news).length := by rw [List.length_append, hvl, hl, Nat.add_mul]
          rw [this]
          exact List.take_left
      · rw [hk] at hb
        simp [blk] at hb
        exact .inr (by omega)
      · rw [cell_same (w := w) (heap_alloc_old w.drew _ b (cell_lt hu))]
        exact hu
      · exact ⟨_, _, rfl, hge, fun _ => ⟨_, rfl, by omega⟩⟩
    rcases hown with ⟨rfl, rfl, a, rfl⟩ | ⟨g, cap, cur, rfl, hg, hnc, hcm, hcs, htake⟩
    · cases a with
      | none =>
        have hr := run_append_nil (P := P) w t ty e i z ht hi hz ad m cx news hl hnews hm (by omega) (by simp only [Nat.zero_add] at hb'; omega)
        have hgr := grown 0 (by omega)
        simp only [Nat.zero_add] at hgr hr ⊢
        refine ⟨_, _, hr, ?_⟩
        have e1 : (([] : List Value).toArray ++ news.toArray) = news.toArray := by simp
        rw [e1] at hgr
        exact hgr
      | some b =>
        have hr := run_append_grow (P := P) w t ty e i z ht hi hz b 0 0 [] (by simp) (by simp) ad m cx news hl hnews (by omega) hsmall (growslice_fits (by omega) hb')
        exact ⟨_, _, hr, grown 0 (by omega)⟩
    · by_cases hroom : n + m ≤ cap + 1
      · have hfit : n * i.size + news.length ≤ cur.size := by rw [hl, hcs, ← Nat.add_mul]; exact Nat.mul_le_mul_right _ hroom
        have hr := run_append_room (P := P) w t ty e i ht hi g n (cap + 1) cur hg ad m cx news hl hnews h1 hroom hfit
        refine ⟨_, _, hr, ⟨.inr ⟨g, cap, _, rfl, setRow_heap w g cur _ e _ hg, hroom, hcm, ?_, ?_⟩, rfl, rfl, rfl, by simp [World.setRow], fun b hb => .inl (by simpa [blk] using hb), fun b _ hne => setRow_other w g b _ (fun e => hne (by simp [blk, e])), fun b off u hoff hu => ?_, fun h => by omega, ⟨_, _, rfl, hroom, fun _ => ⟨_, rfl, by omega⟩⟩⟩⟩
        · simp only [List.size_toArray, List.length_append, List.length_take, List.length_drop, Array.length_toList]
          omega
        · rw [htake]
          have : (n + m) * i.size = (vs ++ news).length := by rw [List.length_append, hvl, hl, Nat.add_mul]
          rw [this]
          exact List.take_left
        · by_cases e2 : b = g
          · subst e2
            have ho := hoff (by simp [blk])
            have hc : cur[off]? = some u := by simpa [World.cell?, hg] using hu
            have hh := setRow_heap w b cur ((cur.toList.take (n * i.size) ++ news ++ cur.toList.drop (n * i.size + news.length)).toArray) e _ hg
            unfold World.cell?
            simp only [hh]
            have hlo : off < (cur.toList.take (n * i.size)).length := by
              rw [List.length_take, Array.length_toList]
              have := (Array.getElem?_eq_some_iff.1 hc).1
              omega
            simp only [Option.isSome_none, Bool.false_eq_true, if_false, List.getElem?_toArray, List.append_assoc]
            rw [List.getElem?_append, if_pos hlo, List.getElem?_take, if_pos ho, Array.getElem?_toList]
            exact hc
          · rw [cell_same (setRow_other w g b _ e2)]
            exact hu
      · have holds : ∀ j u, vs[j]? = some u → w.cell? ((⟨g, 0, none⟩ : Addr).add j) = some u := by
          intro j u hj
          rw [add_at, Nat.zero_add]
          rw [← htake, List.getElem?_take] at hj
          split at hj
          · simpa [World.cell?, hg] using hj
          · cases hj
        have hr := run_append_grow (P := P) w t ty e i z ht hi hz ⟨g, 0, none⟩ n (cap + 1) vs hvl holds ad m cx news hl hnews (by omega) hsmall (growslice_fits (by omega) hb')
        exact ⟨_, _, hr, grown (cap + 1) (by omega)⟩

/-- A list out of a slice that is owned: nothing owned lies among its cells. -/
theorem Imm.of_owns {Z : Zone} {e sz n : Nat} {v : Value} {vs : List Value} (h : Owns w e sz v n vs) (hn : n ≤ maxLen) (hZ : ∀ k, k < n * sz → ∀ b, blk v = some b → ¬ Z b k) (hone : ∀ u ∈ vs, u.oneCell' = true) {xs : List (List A)} (hl : xs.length = n)
    (hxz : ∀ x ∈ xs, x.length = sz) (hr : ∀ (i : Nat) (x : List A), xs[i]? = some x → ∀ (j : Nat) (y : A), x[j]? = some y → Imm w Z y (vs.getD (i * sz + j) (.tuple #[]))) : Imm w Z (.sl xs) v := by
  have hvl := h.length
  have look : ∀ k, k < n * sz → ∃ u, vs[k]? = some u := fun k hk => ⟨_, List.getElem?_eq_getElem (by omega)⟩
  have hr' : ∀ (i : Nat) (x : List A), xs[i]? = some x → ∀ (j : Nat) (y : A), x[j]? = some y → Imm w Z y (vs.getD (i * sz + j) (.bool false)) := by
    intro i x hx j y hy
    have hi : i < n := by rw [← hl]; exact (List.getElem?_eq_some_iff.1 hx).1
    have hj : j < sz := by
      have := (List.getElem?_eq_some_iff.1 hy).1
      rw [hxz x (List.mem_of_getElem? hx)] at this
      exact this
    obtain ⟨u, hu⟩ := look _ (mul_succ_lt hi hj)
    have := hr i x hx j y hy
    simpa [List.getD_eq_getElem?_getD, hu] using this
  have hone' : ∀ i j, (vs.getD (i * sz + j) (.bool false)).oneCell' = true := by
    intro i j
    by_cases hk : i * sz + j < vs.length
    · rw [List.getD_eq_getElem?_getD, List.getElem?_eq_getElem hk]
      exact hone _ (List.getElem_mem hk)
    · rw [List.getD_eq_getElem?_getD, List.getElem?_eq_none (by omega)]
      rfl
  subst hl
  rcases h with ⟨h0, rfl, a, rfl⟩ | ⟨g, cap, cur, rfl, hh, h1, h2, h3, h4⟩
  · obtain rfl : xs = [] := List.eq_nil_of_length_eq_zero h0
    exact Imm.sl [] a 0 sz (fun _ _ => .bool false) (Nat.le_refl _) (by simp [maxLen]) (by simp) (fun h => absurd h (by simp)) (by simp) (fun _ _ => rfl) (by simp)
  · refine Imm.sl xs _ (cap + 1) sz (fun i j => vs.getD (i * sz + j) (.bool false)) h1 h2 (fun i x hx => hxz x (List.mem_of_getElem? hx)) (fun _ => ⟨g, 0, rfl, fun i hi j hj => ?_⟩) (fun h => by cases h) hone' hr'
    have hk := mul_succ_lt hi hj
    refine ⟨by rw [Nat.zero_add]; exact hZ _ hk g rfl, ?_⟩
    obtain ⟨u, hu⟩ := look _ hk
    have hc : cur[i * sz + j]? = some u := by
      rw [← h4, List.getElem?_take, if_pos hk] at hu
      simpa using hu
    simp [World.cell?, hh, hc, List.getD_eq_getElem?_getD, hu]

/-- The cells of a list that is read: for an append's source. -/
theorem src_reads {Z : Zone} {v : Value} {ys : List (List A)} (h : Reads w Z v ys) {sz : Nat} (hsz : ∀ z ∈ ys, z.length = sz) (hpos : 0 < sz) :
    ∃ (x : Option Addr) (cx : Nat) (news : List Value), v = .slice x ys.length cx ∧ news.length = ys.length * sz ∧ (ys.length = 0 ∨ ∃ ad, x = some ad ∧ ∀ j u, news[j]? = some u → w.cell? (ad.add j) = some u) ∧ (∀ u ∈ news, u.oneCell' = true) ∧ ys.length ≤ maxLen ∧
      ∀ (i : Nat) (x : List A), ys[i]? = some x → ∀ (j : Nat) (y : A), x[j]? = some y → Imm w Z y (news.getD (i * sz + j) (.tuple #[])) := by
  obtain ⟨a, cap, rfl, hm, _, _, hr⟩ := h
  rcases hr with rfl | ⟨b, o, sz', vs, rfl, hone, hz, hc, hr⟩
  · exact ⟨a, cap, [], rfl, by simp, .inl rfl, by simp, hm, by simp⟩
  · have getk : ∀ k, k < ys.length * sz → ((List.range (ys.length * sz)).map fun k => vs (k / sz) (k % sz))[k]? = some (vs (k / sz) (k % sz)) := by
      intro k hk
      simp [hk]
    refine ⟨_, cap, (List.range (ys.length * sz)).map fun k => vs (k / sz) (k % sz), rfl, by simp, ?_, ?_, hm, ?_⟩
    · rcases Nat.eq_zero_or_pos ys.length with h0 | h0
      · exact .inl h0
      · refine .inr ⟨_, rfl, fun j u hu => ?_⟩
        have hj : j < ys.length * sz := by
          have := (List.getElem?_eq_some_iff.1 hu).1
          simpa using this
        rw [getk j hj] at hu
        cases hu
        have hi : j / sz < ys.length := (Nat.div_lt_iff_lt_mul hpos).2 hj
        have hzs : sz' = sz := by
          have h2 := hz (j / sz) _ (List.getElem?_eq_getElem hi)
          rw [← h2]
          exact hsz _ (List.getElem_mem hi)
        subst hzs
        have := (hc (j / sz') hi (j % sz') (Nat.mod_lt _ hpos)).2
        have e : j / sz' * sz' + j % sz' = j := by rw [Nat.mul_comm]; exact Nat.div_add_mod j sz'
        rw [e] at this
        rw [add_at]
        exact this
    · intro u hu
      simp only [List.mem_map] at hu
      obtain ⟨k, _, rfl⟩ := hu
      exact hone _ _
    · intro i x hx j y hy
      have hi : i < ys.length := (List.getElem?_eq_some_iff.1 hx).1
      have hj : j < sz := by
        have := (List.getElem?_eq_some_iff.1 hy).1
        rw [hsz x (List.mem_of_getElem? hx)] at this
        exact this
      rw [List.getD_eq_getElem?_getD, getk _ (mul_succ_lt hi hj)]
      have e1 : (i * sz + j) / sz = i := by rw [Nat.mul_comm, Nat.mul_add_div hpos, Nat.div_eq_of_lt hj, Nat.add_zero]
      have e2 : (i * sz + j) % sz = j := by rw [Nat.mul_comm, Nat.mul_add_mod, Nat.mod_eq_of_lt hj]
      rw [e1, e2]
      exact hr i x hx j y hy

variable {c : Cx} {s : St} {a : Act} {κ : Conc} {o : Oper} {K : A → St → Prop} {next : Act → World → Prop} {Q : Exit → Act → World → Prop} {C : CallSem} {d : Nat}

/-- An own row, read. -/
theorem own_reads (h : RS c s a w κ) {i : Id} {sz n : Nat} {v : Value} {e : Nat} {xs : List (List A)} (hv : VR w (Zof c.Z0 s.ob κ) s.ob κ (.own i sz n) v) (hi : s.ob i = some (.row e sz xs)) (hn : xs.length = n) :
    ∃ (x : Option Addr) (cx : Nat) (news : List Value), v = .slice x xs.length cx ∧ news.length = xs.length * sz ∧ (xs.length = 0 ∨ ∃ ad, x = some ad ∧ ∀ j u, news[j]? = some u → w.cell? (ad.add j) = some u) ∧ (∀ u ∈ news, u.oneCell' = true) ∧ xs.length ≤ maxLen ∧
      ∀ (i : Nat) (x : List A), xs[i]? = some x → ∀ (j : Nat) (y : A), x[j]? = some y → Imm w (Zof c.Z0 s.ob κ) y (news.getD (i * sz + j) (.tuple #[])) := by
  subst hn
  obtain ⟨al, cap, rfl, hm, ⟨e', xs', h3, h4, h5⟩, h6⟩ := hv.own_inv
  rw [hi] at h3
  cases h3
  have hk := h5 rfl
  obtain ⟨vs, hown, hone, hz, hr⟩ := h.obs i _ hi
  refine ⟨al, cap, vs, rfl, hown.length, ?_, hone, hm, hr⟩
  rw [hk] at hown
  rcases hown with ⟨h0, _⟩ | ⟨g, cp, cur, hg, hh, h7, _, h8, h9⟩
  · exact .inl h0
  · cases hg
    refine .inr ⟨_, rfl, fun j u hu => ?_⟩
    rw [add_at, Nat.zero_add]
    rw [← h9, List.getElem?_take] at hu
    split at hu
    · simpa [World.cell?, hh] using hu
    · cases hu

theorem listOf_reads (h : RS c s a w κ) {x : A} {v : Value} (hv : VR w (Zof c.Z0 s.ob κ) s.ob κ x v) {ys : List (List A)} (hl : listOf s x = some ys) {sz : Nat} (hsz : ∀ z ∈ ys, z.length = sz) (hpos : 0 < sz) :
    ∃ (x : Option Addr) (cx : Nat) (news : List Value), v = .slice x ys.length cx ∧ news.length = ys.length * sz ∧ (ys.length = 0 ∨ ∃ ad, x = some ad ∧ ∀ j u, news[j]? = some u → w.cell? (ad.add j) = some u) ∧ (∀ u ∈ news, u.oneCell' = true) ∧ ys.length ≤ maxLen ∧
      ∀ (i : Nat) (x : List A), ys[i]? = some x → ∀ (j : Nat) (y : A), x[j]? = some y → Imm w (Zof c.Z0 s.ob κ) y (news.getD (i * sz + j) (.tuple #[])) := by
  unfold listOf at hl
  split at hl
  · cases hl
    exact src_reads hv.sl_inv.reads hsz hpos
  · cases hl
    exact src_reads hv.gs_inv.reads hsz hpos
  · rename_i i z n
    split at hl
    · rename_i e z' xs hi
      split at hl
      · rename_i hn
        cases hl
        obtain ⟨al, cap, e1, hm, ⟨e', xs', h3, h4, h5⟩, h6⟩ := hv.own_inv
        rw [hi] at h3
        cases h3
        have hr := own_reads h hv hi hn
        obtain ⟨x, cx, news, h1, h2, h3, h4, h5, h6⟩ := hr
        rcases Nat.eq_zero_or_pos ys.length with h0 | h0
        · have hy : ys = [] := List.eq_nil_of_length_eq_zero h0
          subst hy
          exact ⟨x, cx, [], h1, by simp, .inl rfl, by simp, h5, by simp⟩
        · have hzz : z = sz := by
            obtain ⟨vs, hown, hone, hz, hr⟩ := h.obs i _ hi
            rw [← hz 0 _ (List.getElem?_eq_getElem h0)]
            exact hsz _ (List.getElem_mem h0)
          subst hzz
          exact ⟨x, cx, news, h1, h2, h3, h4, h5, h6⟩
      · cases hl
    · cases hl
  · cases hl

theorem getD_append_left {vs news : List Value} {k : Nat} (h : k < vs.length) (d : Value) : (vs ++ news).getD k d = vs.getD k d := by
  simp [List.getD_eq_getElem?_getD, List.getElem?_append, h]
theorem getD_append_right {vs news : List Value} {k : Nat} (h : vs.length ≤ k) (d : Value) : (vs ++ news).getD k d = news.getD (k - vs.length) d := by
  have : ¬ k < vs.length := by omega
  simp [List.getD_eq_getElem?_getD, List.getElem?_append, this]

/-- Two lists' cells, one behind the other. -/
theorem rel_append {w : World} {Z : Zone} {xs ys : List (List A)} {vs news : List Value} {sz : Nat} (hx : ∀ z ∈ xs, z.length = sz) (hy : ∀ z ∈ ys, z.length = sz) (hv : vs.length = xs.length * sz)
    (h1 : ∀ (i : Nat) (x : List A), xs[i]? = some x → ∀ (j : Nat) (y : A), x[j]? = some y → Imm w Z y (vs.getD (i * sz + j) (.tuple #[])))
    (h2 : ∀ (i : Nat) (x : List A), ys[i]? = some x → ∀ (j : Nat) (y : A), x[j]? = some y → Imm w Z y (news.getD (i * sz + j) (.tuple #[]))) :
    ∀ (i : Nat) (x : List A), (xs ++ ys)[i]? = some x → ∀ (j : Nat) (y : A), x[j]? = some y → Imm w Z y ((vs ++ news).getD (i * sz + j) (.tuple #[])) := by
  intro i x hi j y hj
  rw [List.getElem?_append] at hi
  split at hi
  · rename_i hlt
    have hj' : j < sz := by
      have := (List.getElem?_eq_some_iff.1 hj).1
      rw [hx x (List.mem_of_getElem? hi)] at this
      exact this
    rw [getD_append_left (by rw [hv]; exact mul_succ_lt hlt hj')]
    exact h1 i x hi j y hj
  · rename_i hge
    have hle : xs.length * sz ≤ i * sz := Nat.mul_le_mul_right _ (by omega)
    rw [getD_append_right (by rw [hv]; omega)]
    have e : i * sz + j - vs.length = (i - xs.length) * sz + j := by rw [hv, Nat.sub_mul]; omega
    rw [e]
    exact h2 _ x hi j y hj

def okApp (P : Program) (t : TypeId) (el sz bytes : Nat) : Bool :=
  (match P.underlying t with | some (.slice e) => e == el | _ => false) && (match P.info? el with | some i => i.size == sz && i.bytes == bytes && (match i.zero with | some z => z.cells.size == sz | none => false) | none => false) && decide (0 < sz)

theorem snd_app (h : RS c s a w κ) (hn : Leaves c a o.dst K next) {t : TypeId} {el sz bytes : Nat} {x y : Operand} {x' y' : X} (ho : o.op = .call { callee := .builtin .append, args := #[x, y], argTypes := #[t, t] }) (hx : okX x x' = true) (hy : okX y y' = true) (hm : okApp P t el sz bytes = true) (hs : sem C (.app x' y' el sz bytes) d s K) : o.wp P a w next Q := by
  have h1 := okX_rel h hx
  have h2 := okX_rel h hy
  simp only [okApp, Bool.and_eq_true, decide_eq_true_eq] at hm
  obtain ⟨⟨hm1, hm2⟩, hpos⟩ := hm
  split at hm1 <;> try (cases hm1; done)
  rename_i e hu
  have := eq_of_beq hm1
  subst this
  split at hm2 <;> try (cases hm2; done)
  rename_i i hi
  simp only [Bool.and_eq_true, beq_iff_eq] at hm2
  obtain ⟨⟨hsz, hby⟩, hm3⟩ := hm2
  split at hm3 <;> try (cases hm3; done)
  rename_i z hz
  have hzs := eq_of_beq hm3
  simp only [sem] at hs
  split at hs
  · rename_i ys hys
    split at hs
    · -- onto a token
      rename_i tk xs he
      rw [he] at h1
      split at hs
      · rename_i el' sz' n htok
        obtain ⟨rfl, rfl, rfl, hyz, hbytes, hmax, hset⟩ := hs
        obtain ⟨s', p, hK, hp, henv, hob⟩ := s.set_iff _ _ _ hset
        have hob' : s'.ob = fun j => if j = tk then some (.tok el' sz' (xs.length + ys.length)) else s.ob j := by
          rw [hob]
          cases tk <;> rfl
        obtain ⟨himm, hk, hxz⟩ : Imm w (Zof c.Z0 s.ob κ) (.sl xs) (a.eval x) ∧ κ tk = a.eval x ∧ ∀ x ∈ xs, x.length = sz' := by
          cases h1 with
          | imm _ _ h => cases h
          | gs _ _ _ h ht =>
            obtain ⟨e2, sz2, n2, h3, h4, h5, h6⟩ := ht
            rw [htok] at h3
            cases h3
            exact ⟨h, h5 rfl, h6⟩
        obtain ⟨sx, cx, news, e2, hnl, hnews, hone, hml, hrel⟩ := listOf_reads h h2 hys hyz hpos
        obtain ⟨vs, hown⟩ := h.obs tk _ htok
        rw [hk] at hown
        have hmax' : xs.length + ys.length ≤ maxLen := by simp only [maxI] at hmax; simp only [maxLen]; omega
        obtain ⟨v', w', hrun, hA⟩ := run_app (P := P) (ty := o.type) (cx := cx) hu hi hz hsz hby hzs hpos hown hnl hnews hone hmax' hbytes
        unfold Oper.wp
        have hr : (execOp a.eval o).run P w = .ok (.value v') w' := by
          simp only [execOp, ho, resolve, invoke, builtin, Sem.run_bind, Sem.run_pure, Result.andThen_ok, e2]
          have e3 : (#[x, y].map a.eval) = #[a.eval x, .slice sx ys.length cx] := by simp [e2]
          simp only [e3, hrun, Result.andThen_ok]
        rw [hr, Oper.upon_value]
        have hblkv : ∀ b off, ¬ obZone (κ tk) (.tok el' sz' xs.length) b off → (blk (a.eval x) = some b → off < xs.length * sz') := by
          intro b off hz hb
          rcases Nat.lt_or_ge off (xs.length * sz') with h5 | h5
          · exact h5
          · exact absurd ⟨by rw [hk]; exact hb, h5⟩ hz
        have hcell : ∀ b off u, ¬ obZone (κ tk) (.tok el' sz' xs.length) b off → w.cell? ⟨b, off, none⟩ = some u → w'.cell? ⟨b, off, none⟩ = some u := fun b off u hz hu => hA.pre b off u (hblkv b off hz) hu
        have hzone : ∀ b off, obZone v' (.tok el' sz' (xs.length + ys.length)) b off → obZone (κ tk) (.tok el' sz' xs.length) b off ∨ w.heap.size ≤ b := by
          rintro b off ⟨hb, ho⟩
          rcases hA.place b hb with h5 | h5
          · refine .inl ⟨by rw [hk]; exact h5, ?_⟩
            have : xs.length * sz' ≤ (xs.length + ys.length) * sz' := Nat.mul_le_mul_right _ (by omega)
            simp only at ho
            exact Nat.le_trans this ho
          · exact .inr h5
        have hRS := h.setR (fun _ => by simp) (s' := s') (k' := v') htok henv hob' ⟨_, rfl, by omega, fun he => by rw [hk]; exact hA.zero (by omega)⟩ hA.os hA.tape hA.output hA.size hcell (fun b hb hne => hA.block b hb (by rw [← hk]; exact hne)) hzone (fun b hb => by rw [hk]; exact hA.place b hb) ⟨_, hA.own⟩
        refine hn _ _ _ _ _ hK hRS ?_
        -- what the new slice says
        have hZ : ∀ b off, Zof c.Z0 s'.ob (kset κ tk v') b off → Zof c.Z0 s.ob κ b off ∨ w.heap.size ≤ b := by
          intro b off hz
          rcases hz with hz | ⟨j, q, hj, hz⟩
          · exact .inl (.inl hz)
          · rw [hob'] at hj
            by_cases e : j = tk
            · subst e
              simp only [if_pos, kset, Option.some.injEq] at hj hz
              subst hj
              rcases hzone b off hz with h5 | h5
              · exact .inl (.inr ⟨j, _, htok, h5⟩)
              · exact .inr h5
            · simp only [if_neg e, kset] at hj hz
              exact .inl (.inr ⟨j, q, hj, hz⟩)
        have hC : ∀ b off u, ¬ Zof c.Z0 s.ob κ b off → w.cell? ⟨b, off, none⟩ = some u → w'.cell? ⟨b, off, none⟩ = some u := fun b off u hz hu => hcell b off u (fun h' => hz (.inr ⟨tk, _, htok, h'⟩)) hu
        have hallz : ∀ z ∈ xs ++ ys, z.length = sz' := by
          intro z hz
          rcases List.mem_append.1 hz with h5 | h5
          · exact hxz z h5
          · exact hyz z h5
        refine .gs tk _ v' ?_ ⟨el', sz', xs.length + ys.length, by rw [hob']; simp, by simp, fun _ => by simp [kset], hallz⟩
        -- the old part's cells
        have hvl := hown.length
        have old : (∀ u ∈ vs, u.oneCell' = true) ∧ (∀ k, k < xs.length * sz' → ∀ b, blk (a.eval x) = some b → ¬ Zof c.Z0 s.ob κ b k) ∧ ∀ (i : Nat) (x : List A), xs[i]? = some x → ∀ (j : Nat) (y : A), x[j]? = some y → Imm w (Zof c.Z0 s.ob κ) y (vs.getD (i * sz' + j) (.tuple #[])) := by
          obtain ⟨al, cap, e4, _, _, _, hr⟩ := himm.reads
          rcases hr with h0 | ⟨b, p, sz2, fn, rfl, hone2, hz2, hc2, hr2⟩
          · have hv0 : vs = [] := List.eq_nil_of_length_eq_zero (by rw [hvl, h0]; simp)
            rw [hv0, h0]
            exact ⟨by simp, by simp, by simp⟩
          · rcases Nat.eq_zero_or_pos xs.length with h0 | h0
            · have hx0 : xs = [] := List.eq_nil_of_length_eq_zero h0
              have hv0 : vs = [] := List.eq_nil_of_length_eq_zero (by rw [hvl, h0]; simp)
              rw [hv0, hx0]
              exact ⟨by simp, by simp, by simp⟩
            · have hzz : sz2 = sz' := by
                rw [← hz2 0 _ (List.getElem?_eq_getElem h0)]
                exact hxz _ (List.getElem_mem h0)
              subst hzz
              rcases hown with ⟨h6, _⟩ | ⟨g, cp, cur, hg, hh, h6, _, h7, h8⟩
              · omega
              · rw [e4] at hg
                cases hg
                have dec : ∀ k, k < xs.length * sz2 → k / sz2 < xs.length ∧ k % sz2 < sz2 ∧ k / sz2 * sz2 + k % sz2 = k := fun k hk => ⟨(Nat.div_lt_iff_lt_mul hpos).2 hk, Nat.mod_lt _ hpos, by rw [Nat.mul_comm]; exact Nat.div_add_mod k sz2⟩
                have val : ∀ k, k < xs.length * sz2 → vs[k]? = some (fn (k / sz2) (k % sz2)) := by
                  intro k hk
                  obtain ⟨d1, d2, d3⟩ := dec k hk
                  have := (hc2 _ d1 _ d2).2
                  rw [d3, Nat.zero_add] at this
                  rw [← h8, List.getElem?_take, if_pos hk, Array.getElem?_toList]
                  simpa [World.cell?, hh] using this
                refine ⟨fun u hu => ?_, fun k hk b hb => ?_, fun i x hx j y hy => ?_⟩
                · obtain ⟨k, hk, rfl⟩ := List.getElem_of_mem hu
                  have hk' : k < xs.length * sz2 := by omega
                  have := val k hk'
                  rw [List.getElem?_eq_getElem hk] at this
                  rw [Option.some.inj this]
                  exact hone2 _ _
                · rw [e4] at hb
                  simp [blk] at hb
                  subst hb
                  obtain ⟨d1, d2, d3⟩ := dec k hk
                  have := (hc2 _ d1 _ d2).1
                  rw [d3, Nat.zero_add] at this
                  exact this
                · have hi : i < xs.length := (List.getElem?_eq_some_iff.1 hx).1
                  have hj : j < sz2 := by
                    have := (List.getElem?_eq_some_iff.1 hy).1
                    rw [hxz x (List.mem_of_getElem? hx)] at this
                    exact this
                  rw [List.getD_eq_getElem?_getD, val _ (mul_succ_lt hi hj)]
                  have e5 : (i * sz2 + j) / sz2 = i := by rw [Nat.mul_comm, Nat.mul_add_div hpos, Nat.div_eq_of_lt hj, Nat.add_zero]
                  have e6 : (i * sz2 + j) % sz2 = j := by rw [Nat.mul_comm, Nat.mul_add_mod, Nat.mod_eq_of_lt hj]
                  rw [e5, e6]
                  exact hr2 i x hx j y hy
        obtain ⟨hvone, hZold, hold⟩ := old
        refine Imm.of_owns hA.own hmax' (fun k hkk b hb hz => ?_) (fun u hu => ?_) (by simp) hallz (rel_append hxz hyz hvl (fun i x hx j y hy => (hold i x hx j y hy).step hZ hC) (fun i x hx j y hy => (hrel i x hx j y hy).step hZ hC))
        · rcases hz with hz | ⟨j, q, hj, hz⟩
          · rcases hA.place b hb with h5 | h5
            · rcases Nat.lt_or_ge k (xs.length * sz') with h6 | h6
              · exact hZold k h6 b h5 (.inl hz)
              · exact h.zone0 tk _ b k htok ⟨by rw [hk]; exact h5, h6⟩ hz
            · have h6 := c.low b k hz
              have h7 := h.frame.size
              omega
          · rw [hob'] at hj
            by_cases e : j = tk
            · subst e
              simp only [if_pos, kset, Option.some.injEq] at hj hz
              subst hj
              have := hz.2
              simp only at this
              omega
            · simp only [if_neg e, kset] at hj hz
              rcases hA.place b hb with h5 | h5
              · exact h.apart j tk q _ hj htok e b hz.1 (by rw [hk]; exact h5)
              · have := h.ob_lt hj hz.1
                omega
        · rcases List.mem_append.1 hu with h5 | h5
          · exact hvone u h5
          · exact hone u h5
      · exact hs.elim
    · -- onto a row of one's own
      rename_i i1 zz n he
      rw [he] at h1
      split at hs
      · rename_i el' sz' xs hrow
        obtain ⟨rfl, rfl, rfl, rfl, hyz, hbytes, hmax, hset⟩ := hs
        obtain ⟨s', p, hK, hp, henv, hob⟩ := s.set_iff _ _ _ hset
        have hob' : s'.ob = fun j => if j = i1 then some (.row el' zz (xs ++ ys)) else s.ob j := by
          rw [hob]
          cases i1 <;> rfl
        have hk : κ i1 = a.eval x := by
          obtain ⟨al, cap, e4, _, ⟨e5, xs5, h3, h4, h5⟩, _⟩ := h1.own_inv
          rw [hrow] at h3
          cases h3
          exact h5 rfl
        obtain ⟨sx, cx, news, e2, hnl, hnews, hone, hml, hrel⟩ := listOf_reads h h2 hys hyz hpos
        obtain ⟨vs, hown, hvone, hxz, hold⟩ := h.obs i1 _ hrow
        rw [hk] at hown
        have hmax' : xs.length + ys.length ≤ maxLen := by simp only [maxI] at hmax; simp only [maxLen]; omega
        obtain ⟨v', w', hrun, hA⟩ := run_app (P := P) (ty := o.type) (cx := cx) hu hi hz hsz hby hzs hpos hown hnl hnews hone hmax' hbytes
        unfold Oper.wp
        have hr : (execOp a.eval o).run P w = .ok (.value v') w' := by
          simp only [execOp, ho, resolve, invoke, builtin, Sem.run_bind, Sem.run_pure, Result.andThen_ok, e2]
          have e3 : (#[x, y].map a.eval) = #[a.eval x, .slice sx ys.length cx] := by simp [e2]
          simp only [e3, hrun, Result.andThen_ok]
        rw [hr, Oper.upon_value]
        have hcell : ∀ b off u, ¬ obZone (κ i1) (.row el' zz xs) b off → w.cell? ⟨b, off, none⟩ = some u → w'.cell? ⟨b, off, none⟩ = some u := fun b off u hz hu => hA.pre b off u (fun hb => absurd ⟨by rw [hk]; exact hb, trivial⟩ hz) hu
        have hzone : ∀ b off, obZone v' (.row el' zz (xs ++ ys)) b off → obZone (κ i1) (.row el' zz xs) b off ∨ w.heap.size ≤ b := by
          rintro b off ⟨hb, _⟩
          rcases hA.place b hb with h5 | h5
          · exact .inl ⟨by rw [hk]; exact h5, trivial⟩
          · exact .inr h5
        have hZ : ∀ b off, Zof c.Z0 s'.ob (kset κ i1 v') b off → Zof c.Z0 s.ob κ b off ∨ w.heap.size ≤ b := by
          intro b off hz
          rcases hz with hz | ⟨j, q, hj, hz⟩
          · exact .inl (.inl hz)
          · rw [hob'] at hj
            by_cases e : j = i1
            · subst e
              simp only [if_pos, kset, Option.some.injEq] at hj hz
              subst hj
              rcases hzone b off hz with h5 | h5
              · exact .inl (.inr ⟨j, _, hrow, h5⟩)
              · exact .inr h5
            · simp only [if_neg e, kset] at hj hz
              exact .inl (.inr ⟨j, q, hj, hz⟩)
        have hC : ∀ b off u, ¬ Zof c.Z0 s.ob κ b off → w.cell? ⟨b, off, none⟩ = some u → w'.cell? ⟨b, off, none⟩ = some u := fun b off u hz hu => hcell b off u (fun h' => hz (.inr ⟨i1, _, hrow, h'⟩)) hu
        have hxz' : ∀ x ∈ xs, x.length = zz := fun x hx => by
          obtain ⟨i, hi⟩ := List.getElem?_of_mem hx
          exact hxz i x hi
        refine hn _ _ _ _ _ hK (h.setR (fun _ => by simp) (s' := s') (k' := v') hrow henv hob' ⟨_, rfl, by simp, fun he => by rw [hk]; exact hA.zero (by simp at he; simp [he])⟩ hA.os hA.tape hA.output hA.size hcell (fun b hb hne => hA.block b hb (by rw [← hk]; exact hne)) hzone (fun b hb => by rw [hk]; exact hA.place b hb) ⟨vs ++ news, by rw [List.length_append]; exact hA.own, ?_, ?_, ?_⟩) ?_
        · intro u hu
          rcases List.mem_append.1 hu with h5 | h5
          · exact hvone u h5
          · exact hone u h5
        · intro i x hx
          rcases List.mem_append.1 (List.mem_of_getElem? hx) with h5 | h5
          · exact hxz' x h5
          · exact hyz x h5
        · exact rel_append hxz' hyz hown.length (fun i x hx j y hy => (hold i x hx j y hy).step hZ hC) (fun i x hx j y hy => (hrel i x hx j y hy).step hZ hC)
        · obtain ⟨al, cap, e6, h6, h7⟩ := hA.shape
          rw [e6]
          refine .own _ _ _ _ _ hmax' ⟨el', xs ++ ys, by rw [hob']; simp, by simp, fun _ => by simp [kset, e6]⟩ (fun h0 => ?_)
          obtain ⟨b, hb, _⟩ := h7 h0
          exact ⟨b, 0, hb⟩
      · exact hs.elim
    · exact hs.elim
  · exact hs.elim
end
end Go.Tide

/- Parts of lists; what is kept and forgotten of a state; objects that become data. -/
set_option linter.unusedSimpArgs false
set_option linter.unusedVariables false
namespace Go.Tide
section
variable {P : Program} {c : Cx} {s : St} {a : Act} {w : World} {κ : Conc} {o : Oper} {K : A → St → Prop} {next : Act → World → Prop} {Q : Exit → Act → World → Prop} {C : CallSem} {d : Nat}

theorem Imm.drop {Z : Zone} {xs : List (List A)} {al : Option Addr} {cap sz l : Nat} (h : Imm w Z (.sl xs) (.slice al xs.length cap)) (hl : l ≤ xs.length) (hz : ∀ z ∈ xs, z.length = sz) :
    Imm w Z (.sl (xs.drop l)) (.slice (if cap = l then al else al.map (·.add (l * sz))) (xs.length - l) (cap - l)) := by
  cases h with
  | sl _ _ _ sz' vs hc hm hz' ha hn ho hr =>
    have e : xs.length - l = (xs.drop l).length := by simp
    rw [e]
    refine Imm.sl _ _ _ sz' (fun i j => vs (l + i) j) (by simp; omega) (by omega) (fun i x hx => hz' (l + i) x (by simpa [List.getElem?_drop] using hx)) (fun hp => ?_) (fun hnone => ?_) (fun i j => ho _ _) (fun i x hx j y hy => hr (l + i) x (by simpa [List.getElem?_drop] using hx) j y hy)
    · have hp' : l < xs.length := by simp at hp; omega
      obtain ⟨b, p, rfl, hcell⟩ := ha (by omega)
      have hzz : sz' = sz := by
        rw [← hz' l _ (List.getElem?_eq_getElem hp')]
        exact hz _ (List.getElem_mem hp')
      subst hzz
      rw [if_neg (by omega)]
      refine ⟨b, p + l * sz', by simp [add_at], fun i hi j hj => ?_⟩
      have hi' : l + i < xs.length := by simp at hi; omega
      have := hcell (l + i) hi' j hj
      have e2 : p + ((l + i) * sz' + j) = p + l * sz' + (i * sz' + j) := by rw [Nat.add_mul]; omega
      rwa [e2] at this
    · split at hnone
      · subst hnone
        obtain ⟨rfl, rfl⟩ := hn rfl
        exact ⟨by simp, by omega⟩
      · cases al with
        | none =>
          obtain ⟨rfl, rfl⟩ := hn rfl
          exact ⟨by simp, by omega⟩
        | some _ => simp at hnone

theorem Imm.take {Z : Zone} {xs : List (List A)} {al : Option Addr} {cap n : Nat} (h : Imm w Z (.sl xs) (.slice al xs.length cap)) (hl : n ≤ xs.length) : Imm w Z (.sl (xs.take n)) (.slice al n cap) := by
  cases h with
  | sl _ _ _ sz vs hc hm hz ha hn ho hr =>
    have e : n = (xs.take n).length := by simp; omega
    have hg : ∀ (i : Nat) (x : List A), (xs.take n)[i]? = some x → xs[i]? = some x := by
      intro i x hx
      rw [List.getElem?_take] at hx
      split at hx
      · exact hx
      · cases hx
    have key := Imm.sl (w := w) (Z := Z) (xs.take n) al cap sz vs (by simp; omega) hm (fun i x hx => hz i x (hg i x hx)) (fun hp => by
      obtain ⟨b, p, rfl, hcell⟩ := ha (by simp at hp; omega)
      exact ⟨b, p, rfl, fun i hi j hj => hcell i (by simp at hi; omega) j hj⟩) (fun hnone => by
      obtain ⟨rfl, rfl⟩ := hn hnone
      exact ⟨by simp, rfl⟩) ho (fun i x hx j y hy => hr i x (hg i x hx) j y hy)
    rwa [← e] at key

def okXo : Option Operand → Option X → Bool
  | none, none => true
  | some x, some y => okX x y
  | _, _ => false

theorem snd_slice (h : RS c s a w κ) (hn : Leaves c a o.dst K next) {t : TypeId} {sz : Nat} {x : Operand} {x' : X} {lo hi : Option Operand} {lo' hi' : Option X} (ho : o.op = .slice t x lo hi none) (hx : okX x x' = true) (hlo : okXo lo lo' = true) (hhi : okXo hi hi' = true) (hf : okIdx P t sz = true) (hs : sem C (.slice x' lo' hi' sz) d s K) : o.wp P a w next Q := by
  have h1 := okX_rel h hx
  unfold okIdx at hf
  split at hf
  · rename_i e hu
    split at hf
    · rename_i i hi2
      have hsz : i.size = sz := by simpa using hf
      simp only [sem] at hs
      split at hs
      · rename_i xs k l he elo ehi
        rw [he] at h1
        obtain ⟨al, cap, e1, hm, hcap, _⟩ := h1.sl_inv.reads
        obtain ⟨h0, hle, hz, hK⟩ := hs
        cases hi' with
        | some _ => simp at ehi
        | none =>
          cases hi with
          | some _ => simp [okXo] at hhi
          | none =>
            cases lo' with
            | none => simp at elo
            | some lo' =>
              cases lo with
              | none => simp [okXo] at hlo
              | some lo =>
                have h2 := okX_rel h (x := lo) (y := lo') hlo
                simp only [Option.map_some, Option.some.injEq] at elo
                rw [elo] at h2
                have e2 := h2.int_inv
                obtain ⟨n, rfl⟩ := Int.eq_ofNat_of_zero_le h0
                have himm := h1.sl_inv
                rw [e1] at himm
                have hd := himm.drop (l := n) (by omega) hz
                refine wp_value h hn (v := .slice (if cap = n then al else al.map (·.add (n * sz))) (xs.length - n) (cap - n)) (w' := w) ?_ h hK (.imm _ _ (by simpa using hd))
                have hb1 : ((n : Int) ≤ (xs.length : Int)) := hle
                simp [execOp, ho, e1, e2, Instr.sliceAt, run_underlying hu, Instr.slice, Instr.sliceBounds, Instr.sliceBound, asIntOf, sizeOf, typeInfo, hi2, hsz, hb1]
                intro hc
                omega
      · rename_i xs k n he elo ehi
        rw [he] at h1
        obtain ⟨al, cap, e1, hm, hcap, _⟩ := h1.sl_inv.reads
        obtain ⟨h0, hle, hz, hK⟩ := hs
        cases lo' with
        | some _ => simp at elo
        | none =>
          cases lo with
          | some _ => simp [okXo] at hlo
          | none =>
            cases hi' with
            | none => simp at ehi
            | some hi' =>
              cases hi with
              | none => simp [okXo] at hhi
              | some hi =>
                have h2 := okX_rel h (x := hi) (y := hi') hhi
                simp only [Option.map_some, Option.some.injEq] at ehi
                rw [ehi] at h2
                have e2 := h2.int_inv
                obtain ⟨n, rfl⟩ := Int.eq_ofNat_of_zero_le h0
                have himm := h1.sl_inv
                rw [e1] at himm
                have hd := himm.take (n := n) (by omega)
                refine wp_value h hn (v := .slice al n cap) (w' := w) ?_ h hK (.imm _ _ (by simpa using hd))
                have hb1 : ((n : Int) ≤ (cap : Int)) := by omega
                have hadd : (al.map fun x => x.add 0) = al := by cases al <;> simp [Addr.add]
                simp [execOp, ho, e1, e2, Instr.sliceAt, run_underlying hu, Instr.slice, Instr.sliceBounds, Instr.sliceBound, asIntOf, sizeOf, typeInfo, hi2, hsz, hb1, hadd]
                intro hc
                omega
      · exact hs.elim
    · cases hf
  · cases hf
end
end Go.Tide

/- What is kept and forgotten of a state; objects that become data. -/
set_option linter.unusedSimpArgs false
set_option linter.unusedVariables false
namespace Go.Tide

theorem keepE_iff (f : A → A) (e : Env) : ∀ (ts : List Nat) (k : Env → Prop), keepE f e k ts ↔ k (fun t => if t ∈ ts then f (e t) else .undef)
  | [], k => by simp [keepE]
  | t :: r, k => by
    rw [keepE, forceA_iff, keepE_iff f e r]
    have : upd (fun u => if u ∈ r then f (e u) else .undef) t (f (e t)) = fun u => if u ∈ t :: r then f (e u) else .undef := by
      funext u
      rw [upd_at]
      by_cases h : u = t
      · subst h; simp
      · simp [h]
    rw [this]

theorem keepS_iff (f : Id → Option Id) (s : Sto) : ∀ (os : List Nat) (k : Sto → Prop), keepS f s k os ↔ k (fun i => if i ∈ os then (s i).map (Ob.ren f) else none)
  | [], k => by simp [keepS]
  | i :: r, k => by
    rw [keepS]
    cases h : s i with
    | none =>
      simp only [keepS_iff f s r]
      have : (fun j => if j ∈ r then (s j).map (Ob.ren f) else none) = fun j => if j ∈ i :: r then (s j).map (Ob.ren f) else none := by
        funext j
        by_cases e : j = i
        · subst e; simp [h]
        · simp [e]
      rw [this]
    | some o =>
      simp only [forceO_iff, keepS_iff f s r]
      have : updS (fun j => if j ∈ r then (s j).map (Ob.ren f) else none) i (some (o.ren f)) = fun j => if j ∈ i :: r then (s j).map (Ob.ren f) else none := by
        funext j
        rw [updS_at]
        by_cases e : j = i
        · subst e; simp [h]
        · simp [e]
      rw [this]

theorem clip_eq {os : List Nat} {i j : Id} (h : clip os i = some j) : j = i ∧ ∀ n, i = .L n → n ∈ os := by
  cases i with
  | U n => simp [clip] at h; exact ⟨h.symm, fun _ h => by cases h⟩
  | L n =>
    unfold clip at h
    cases hb : os.any (Nat.beq n) with
    | false => simp [hb] at h
    | true =>
      simp [hb] at h
      refine ⟨h.symm, fun m hm => ?_⟩
      cases hm
      obtain ⟨x, hx, hxe⟩ := List.any_eq_true.1 hb
      rw [beq_true hxe]
      exact hx

theorem like_ren (o : Option Ob) (f : Id → Option Id) (k : Value) : LikeAt o (o.map (Ob.ren f)) k k := by
  cases o with
  | none => exact trivial
  | some o =>
    cases o with
    | cells cs => exact ⟨_, rfl, rfl⟩
    | row e z xs => exact ⟨xs, rfl, Nat.le_refl _, fun _ => rfl⟩
    | tok e z n => exact ⟨n, rfl, Nat.le_refl _, fun _ => rfl⟩

theorem obZone_ren (k : Value) (o : Ob) (f : Id → Option Id) (b off : Nat) : obZone k (o.ren f) b off ↔ obZone k o b off := by
  cases o <;> exact Iff.rfl

theorem OB.map {w : World} {Z Z' : Zone} {σ σ' : Id → Option Ob} {κ κ' : Conc} {k : Value} {o : Ob} (f : Id → Option Id) (hZ : ∀ b o, Z' b o → Z b o ∨ w.heap.size ≤ b)
    (H : ∀ i j, f i = some j → LikeAt (σ i) (σ' j) (κ i) (κ' j)) (h : OB w Z σ κ k o) : OB w Z' σ' κ' k (o.ren f) := by
  cases o with
  | cells cs =>
    obtain ⟨b, arr, t, rfl, hh, hl, ho, hr⟩ := h
    refine ⟨b, arr, t, rfl, hh, by rw [renL_length]; exact hl, ho, fun j y hy => ?_⟩
    obtain ⟨x, hx, rfl⟩ := renL_inv hy
    exact (hr j x hx).map f hZ (fun _ _ _ _ h => h) H
  | row e sz xs =>
    obtain ⟨vs, ho, h1, hz, hr⟩ := h
    exact ⟨vs, ho, h1, hz, fun i x hx j y hy => (hr i x hx j y hy).step hZ (fun _ _ _ _ h => h)⟩
  | tok e sz n => exact h

/-- A state of which slots and objects are kept. -/
def kept (f : A → A) (ts os : List Nat) (s : St) : St :=
  ⟨fun t => if t ∈ ts then f (s.env t) else .undef, fun i => if i ∈ os then (s.loc i).map (Ob.ren (clip os)) else none, s.ext⟩

theorem keepK_iff (ts os : List Nat) (s : St) (k : St → Prop) : keepK ts os s k ↔ k (kept (A.ren (clip os)) ts os s) := by
  obtain ⟨e, l, x⟩ := s
  unfold keepK
  dsimp only
  rw [keepE_iff, keepS_iff]
  exact Iff.rfl

section
variable {c : Cx} {s : St} {a : Act} {w : World} {κ : Conc}

theorem kept_ob (f : A → A) (ts os : List Nat) (s : St) : (kept f ts os s).ob = fun i => match i with
    | .U n => s.ob (.U n)
    | .L n => if n ∈ os then (s.ob (.L n)).map (Ob.ren (clip os)) else none := by
  funext i
  cases i <;> rfl

theorem kept_like (f : A → A) (ts os : List Nat) (s : St) (κ : Conc) : ∀ i j, clip os i = some j → LikeAt (s.ob i) ((kept f ts os s).ob j) (κ i) (κ j) := by
  intro i j hij
  obtain ⟨rfl, hin⟩ := clip_eq hij
  rw [kept_ob]
  cases j with
  | U n => exact LikeAt.refl _ _
  | L n => simp only [if_pos (hin n rfl)]; exact like_ren _ _ _

theorem kept_back {f : A → A} {ts os : List Nat} {s : St} : ∀ {i o}, (kept f ts os s).ob i = some o → (∀ n, i = .L n → n ∈ os) ∧ ∃ p, s.ob i = some p ∧ (o = p ∧ (∃ n, i = .U n) ∨ o = p.ren (clip os)) := by
  intro i o hi
  rw [kept_ob] at hi
  cases i with
  | U n => exact ⟨fun _ h => (by cases h), o, hi, .inl ⟨rfl, n, rfl⟩⟩
  | L n =>
    simp only at hi
    split at hi
    · rename_i hn
      simp only [Option.map_eq_some_iff] at hi
      obtain ⟨p, hp, rfl⟩ := hi
      exact ⟨fun m h => (by cases h; exact hn), p, hp, .inr rfl⟩
    · cases hi

theorem kept_zone {f : A → A} {ts os : List Nat} {s : St} {w : World} {Z0 : Zone} {κ : Conc} : ∀ b off, Zof Z0 (kept f ts os s).ob κ b off → Zof Z0 s.ob κ b off ∨ w.heap.size ≤ b := by
  intro b off hz
  rcases hz with hz | ⟨i, o, hi, hz⟩
  · exact .inl (.inl hz)
  · obtain ⟨_, p, hp, h1⟩ := kept_back hi
    refine .inl (.inr ⟨i, p, hp, ?_⟩)
    rcases h1 with ⟨rfl, _⟩ | rfl
    · exact hz
    · exact (obZone_ren _ _ _ _ _).1 hz

theorem RS.kept (h : RS c s a w κ) {f : A → A} {ts os : List Nat} (hf : ∀ t, t ∈ ts → VR w (Zof c.Z0 (kept f ts os s).ob κ) (kept f ts os s).ob κ (f (s.env t)) (a.tmps.getD t undef)) : RS c (kept f ts os s) a w κ := by
  refine h.drop (fun t => ?_) (fun i o hi => ?_) rfl
  · show VR _ _ _ _ (if t ∈ ts then f (s.env t) else .undef) _
    split
    · exact hf t (by assumption)
    · exact .imm _ _ (.undef _)
  · obtain ⟨_, p, hp, h1⟩ := kept_back hi
    refine ⟨p, hp, ?_, ?_⟩
    · intro b off hz
      rcases h1 with ⟨rfl, _⟩ | rfl
      · exact hz
      · exact (obZone_ren _ _ _ _ _).1 hz
    · rcases h1 with ⟨rfl, n, rfl⟩ | rfl
      · -- what came in names nothing of this call's own
        have hx := h.exts n o hp
        refine hx.step kept_zone (fun _ _ _ _ h => h) (fun i => ?_) (fun _ _ => rfl)
        cases i with
        | U m =>
          rw [kept_ob]
          exact LikeAt.refl _ _
        | L m => exact trivial
      · exact (h.obs i p hp).map (clip os) kept_zone (kept_like _ _ _ _ _)

theorem keep_sound (h : RS c s a w κ) {ts os : List Nat} {k : St → Prop} (hk : keepK ts os s k) : ∃ s', k s' ∧ RS c s' a w κ := by
  rw [keepK_iff] at hk
  exact ⟨_, hk, h.kept fun t _ => (h.env t).map (clip os) kept_zone (fun _ _ _ _ h => h) (kept_like _ _ _ _ _)⟩

theorem frz_sound (h : RS c s a w κ) {m : Nat} {ts os : List Nat} {k : St → Prop} (hk : frzK m ts os s k) : ∃ s', k s' ∧ RS c s' a w κ := by
  have hk' : ∃ o, s.loc m = some o ∧ m ∉ os ∧ k (kept (fun a => (frzA m o a).ren (clip os)) ts os s) := by
    obtain ⟨e, l, x⟩ := s
    unfold frzK at hk
    dsimp only at hk ⊢
    split at hk
    · rename_i o ho
      cases hb : os.any (Nat.beq m) with
      | true => simp [hb] at hk
      | false =>
        simp only [hb, cond_false] at hk
        rw [keepE_iff, keepS_iff] at hk
        refine ⟨o, ho, fun hm => ?_, hk⟩
        have : os.any (Nat.beq m) = true := List.any_eq_true.2 ⟨m, hm, beq_self m⟩
        rw [this] at hb
        cases hb
    · exact hk.elim
  obtain ⟨o, ho, hmo, hk⟩ := hk'
  refine ⟨_, hk, h.kept fun t _ => ?_⟩
  have hom : s.ob (.L m) = some o := ho
  generalize hs' : Tide.kept (fun a => (frzA m o a).ren (clip os)) ts os s = s'
  have like : ∀ i j, clip os i = some j → LikeAt (s.ob i) (s'.ob j) (κ i) (κ j) := by rw [← hs']; exact kept_like _ _ _ _ _
  have hZ : ∀ b off, Zof c.Z0 s'.ob κ b off → Zof c.Z0 s.ob κ b off ∨ w.heap.size ≤ b := by rw [← hs']; exact kept_zone
  -- its own cells are forbidden no more
  have free : ∀ b off, obZone (κ (.L m)) o b off → ¬ Zof c.Z0 s'.ob κ b off := by
    intro b off hz hz'
    rcases hz' with hz' | ⟨i, q, hi, hz'⟩
    · exact h.zone0 _ _ b off hom hz hz'
    · rw [← hs'] at hi
      obtain ⟨hin, p, hp, _⟩ := kept_back hi
      exact h.apart i (.L m) p o hp hom (fun e => hmo (hin m e)) b hz'.1 hz.1
  have hC : ∀ b off v, ¬ Zof c.Z0 s.ob κ b off → w.cell? ⟨b, off, none⟩ = some v → w.cell? ⟨b, off, none⟩ = some v := fun _ _ _ _ h => h
  have hobm := h.obs _ _ hom
  have hv := h.env t
  generalize s.env t = x at hv ⊢
  generalize a.tmps.getD t undef = v at hv ⊢
  have plain : frzA m o x = x → VR w (Zof c.Z0 s'.ob κ) s'.ob κ ((frzA m o x).ren (clip os)) v := fun e => by
    rw [e]
    exact hv.map (clip os) hZ hC like
  cases o with
  | tok e sz n => exact plain rfl
  | cells cs =>
    cases x with
    | ref i off =>
      cases i with
      | U n => exact plain rfl
      | L n =>
        by_cases e : n = m
        · subst e
          simp only [frzA, beq_self, cond_true]
          have e1 : (A.pim (cs.map A.strip) off).ren (clip os) = .pim (cs.map A.strip) off := by simp [A.ren]
          rw [e1]
          obtain ⟨b, rfl, hkk, _⟩ := hv.ref_inv
          rw [hkk] at hobm
          obtain ⟨b', arr, t', hb', hh, hl, hone, hr⟩ := hobm
          cases hb'
          refine .imm _ _ ?_
          have hnz : ∀ j, ¬ Zof c.Z0 s'.ob κ b j := fun j => free b j ⟨by rw [hkk]; rfl, trivial⟩
          have := Imm.pim (w := w) (Z := Zof c.Z0 s'.ob κ) (cs.map A.strip) off b 0 (fun j => if j < arr.size then arr.getD j (.tuple #[]) else .bool false) (fun j hj => by
            rw [List.length_map] at hj
            refine ⟨hnz _, ?_⟩
            have hj' : j < arr.size := by omega
            simp [World.cell?, hh, hj', Array.getD_eq_getD_getElem?]) (fun j => by
              by_cases hj : j < arr.size
              · simp only [if_pos hj, Array.getD_eq_getD_getElem?, Array.getElem?_eq_getElem hj, Option.getD_some]
                exact hone _ (Array.getElem_mem_toList hj)
              · simp [if_neg hj]; rfl) (fun j y hy => by
                rw [List.getElem?_map, Option.map_eq_some_iff] at hy
                obtain ⟨y', hy', rfl⟩ := hy
                have hj : j < arr.size := by rw [hl]; exact (List.getElem?_eq_some_iff.1 hy').1
                simp only [if_pos hj]
                exact (hr j y' hy').strip.step hZ hC)
          simpa using this
        · refine plain ?_
          simp [frzA, beq_ne e]
    | _ => exact plain rfl
  | row e sz xs =>
    cases x with
    | own i z n =>
      cases i with
      | U n => exact plain rfl
      | L q =>
        by_cases e : q = m
        · subst e
          simp only [frzA, beq_self, cond_true]
          by_cases hn : n = xs.length
          · have e1 : (A.sl xs).ren (clip os) = .sl xs := by simp [A.ren]
            rw [if_pos hn, e1]
            subst hn
            obtain ⟨al, cp, e4, hmax, ⟨e5, xs5, h3, h4, h5⟩, _⟩ := hv.own_inv
            rw [hom] at h3
            cases h3
            rw [h5 rfl] at hobm
            obtain ⟨vs, hown, hone, hz, hr⟩ := hobm
            refine .imm _ _ (Imm.of_owns hown hmax (fun k _ b hb => free b k ⟨by rw [h5 rfl]; exact hb, trivial⟩) hone rfl (fun x hx => ?_) (fun i x hx j y hy => (hr i x hx j y hy).step hZ hC))
            obtain ⟨i, hi⟩ := List.getElem?_of_mem hx
            exact hz i x hi
          · have e1 : A.undef.ren (clip os) = .undef := by simp [A.ren]
            rw [if_neg hn, e1]
            exact .imm _ _ (.undef _)
        · refine plain ?_
          simp [frzA, beq_ne e]
    | _ => exact plain rfl
end
end Go.Tide

/- Calls: what is handed over, what comes back, and the state behind them. -/
set_option linter.unusedSimpArgs false
set_option linter.unusedVariables false
namespace Go.Tide

/-- Two tellings of one object. -/
def Same (o o' : Ob) : Prop :=
  match o, o' with
  | .cells _, .cells _ => True
  | .row e sz xs, .row e' sz' xs' => e = e' ∧ sz = sz' ∧ xs = xs'
  | .tok e sz n, .tok e' sz' n' => e = e' ∧ sz = sz' ∧ n = n'
  | _, _ => False

theorem Same.refl (o : Ob) : Same o o := by cases o <;> simp [Same]
theorem Same.symm {o p : Ob} (h : Same o p) : Same p o := by
  cases o <;> cases p <;> simp [Same] at h ⊢
  all_goals exact ⟨h.1.symm, h.2.1.symm, h.2.2.symm⟩
theorem Same.trans {o p q : Ob} (h : Same o p) (k : Same p q) : Same o q := by
  cases o <;> cases p <;> cases q <;> simp [Same] at h k ⊢
  all_goals exact ⟨h.1.trans k.1, h.2.1.trans k.2.1, h.2.2.trans k.2.2⟩
theorem Same.ren (o : Ob) (f : Id → Option Id) : Same o (o.ren f) := by cases o <;> simp [Same, Ob.ren]
theorem Same.zone {o p : Ob} (h : Same o p) (k : Value) (b off : Nat) : obZone k o b off ↔ obZone k p b off := by
  cases o <;> cases p <;> simp [Same] at h
  · exact Iff.rfl
  · exact Iff.rfl
  · obtain ⟨_, rfl, rfl⟩ := h; exact Iff.rfl
theorem Same.like {o p : Ob} (h : Same o p) (k : Value) : LikeAt (some o) (some p) k k := by
  cases o <;> cases p <;> simp [Same] at h
  · exact ⟨_, rfl, rfl⟩
  · obtain ⟨rfl, rfl, rfl⟩ := h; exact LikeAt.refl _ _
  · obtain ⟨rfl, rfl, rfl⟩ := h; exact LikeAt.refl _ _

def exOb (σ : Id → Option Ob) : Id → Option Ob
  | .U n => σ (.U n)
  | .L _ => none

theorem extOb_eq (s : St) : extOb s = exOb s.ob := by funext i; cases i <;> rfl

def xob (x : Sto) : Id → Option Ob
  | .U n => x n
  | .L _ => none

/-- Objects, each with its own cells, that data does not lead to. -/
structure Hold (Z0 : Zone) (σ : Id → Option Ob) (κ : Conc) (w : World) : Prop where
  obs : ∀ i o, σ i = some o → OB w (Zof Z0 σ κ) σ κ (κ i) o
  apart : ∀ i j o p, σ i = some o → σ j = some p → i ≠ j → ∀ b, blk (κ i) = some b → blk (κ j) ≠ some b
  zone0 : ∀ i o b off, σ i = some o → obZone (κ i) o b off → ¬ Z0 b off
  exts : ∀ n o, σ (.U n) = some o → OB w (Zof Z0 σ κ) (exOb σ) κ (κ (.U n)) o

def ozone (x : Sto) (κ : Conc) : Zone := fun b off => ∃ n o, x n = some o ∧ obZone (κ (.U n)) o b off

/-- How a call begins. -/
structure InRel (w : World) (Z : Zone) (x : Sto) (κ : Conc) (as : List A) (vals : Array Value) : Prop where
  low : ∀ b off, Z b off → b < w.heap.size
  hold : Hold Z (xob x) κ w
  size : vals.size = as.length
  args : ∀ (j : Nat) (y : A), as[j]? = some y → VR w (Zof Z (xob x) κ) (xob x) κ y (vals.getD j undef)

/-- A result: data, or an object of the caller's from now on. -/
def RR (w : World) (Z : Zone) (σ : Id → Option Ob) (κ : Conc) (j : Nat) (y : A) (v : Value) : Prop :=
  match y with
  | .nrow e sz xs => σ (.L j) = some (.row e sz xs) ∧ κ (.L j) = v
  | .ngs e sz xs => σ (.L j) = some (.tok e sz xs.length) ∧ κ (.L j) = v ∧ Imm w Z (.sl xs) v ∧ ∀ x ∈ xs, x.length = sz
  | .nvar cs => σ (.L j) = some (.cells cs) ∧ κ (.L j) = v ∧ OB w Z (exOb σ) κ v (.cells cs)
  | y => VR w Z (exOb σ) κ y v

/-- How a call ends. -/
structure OutRel (w : World) (Z : Zone) (x : Sto) (κ : Conc) (rs : List A) (x' : Sto) (v : Value) (w' : World) (σ : Id → Option Ob) (κ' : Conc) (vs : Array Value) : Prop where
  ext : ∀ n, σ (.U n) = x' n
  hold : Hold Z σ κ' w'
  mine : ∀ i o b off, σ i = some o → obZone (κ' i) o b off → ozone x κ b off ∨ w.heap.size ≤ b
  frame : Frame (ozone x κ) w w'
  like : ∀ n, LikeAt (x n) (x' n) (κ (.U n)) (κ' (.U n))
  size : vs.size = rs.length
  val : v = if h : vs.size = 1 then vs[0] else .tuple vs
  res : ∀ (j : Nat) (y : A), rs[j]? = some y → RR w' (Zof Z σ κ') σ κ' j y (vs.getD j undef)

/-- A function is entered, or runs here and now. -/
def Enters (P : Program) (f : Nat) (vals : Array Value) (w : World) (R : Value → World → Prop) : Prop :=
  match (callFunc f vals).run P w with
  | .ok (.value v) w' => R v w'
  | .ok (.enter g as) w' => Calls P g as w' fun e w'' => ∃ v, e = .returned v ∧ R v w''
  | .ok (.row r as) w' => Rows P r as w' fun v w'' => R v w''
  | _ => False

theorem Enters.mono {P : Program} {f : Nat} {vals : Array Value} {w : World} {R R' : Value → World → Prop} (h : Enters P f vals w R) (hr : ∀ v w', R v w' → R' v w') : Enters P f vals w R' := by
  unfold Enters at *
  split at h
  · exact hr _ _ h
  · exact Calls.mono h fun e w' ⟨v, he, h1⟩ => ⟨v, he, hr _ _ h1⟩
  · exact Rows.mono h fun v w' h1 => hr _ _ h1
  · exact h.elim

/-- What a call comes to, of the real program. -/
def CSem (P : Program) : CallSem := fun f as x K => ∀ (vals : Array Value) (w : World) (Z : Zone) (κ : Conc), InRel w Z x κ as vals →
  Enters P f vals w fun v w' => ∃ rs x' σ κ' vs, K rs x' ∧ OutRel w Z x κ rs x' v w' σ κ' vs

theorem CSem.mono {P : Program} {f : Nat} {as : List A} {x : Sto} {K K' : List A → Sto → Prop} (h : CSem P f as x K) (hk : ∀ rs x', K rs x' → K' rs x') : CSem P f as x K' :=
  fun vals w Z κ hin => (h vals w Z κ hin).mono fun v w' ⟨rs, x', σ, κ', vs, h1, h2⟩ => ⟨rs, x', σ, κ', vs, hk _ _ h1, h2⟩

/-! ### behind a call -/

/-- A cell that an object surely has for itself. -/
theorem obZone_far (k : Value) (o : Ob) {b : Nat} (h : blk k = some b) : ∃ n, ∀ off, n ≤ off → obZone k o b off := by
  cases o with
  | cells cs => exact ⟨0, fun _ _ => ⟨h, trivial⟩⟩
  | row e sz xs => exact ⟨0, fun _ _ => ⟨h, trivial⟩⟩
  | tok e sz n => exact ⟨n * sz, fun _ hn => ⟨h, hn⟩⟩

/-- Objects that are not handed over, with what is forbidden at all. -/
def restZone (Z0 : Zone) (σ : Id → Option Ob) (κ : Conc) (ψ : Nat → Option Id) : Zone := fun b off => Z0 b off ∨ ∃ i o, (∀ n, ψ n ≠ some i) ∧ σ i = some o ∧ obZone (κ i) o b off

/-- A call has come back: which objects were handed over (ψ), and under which names its results' objects are kept (τ). -/
structure After (c : Cx) (s : St) (a : Act) (w : World) (κ : Conc) (ψ : Nat → Option Id) (x : Sto) (κx : Conc) (w' : World) (σ : Id → Option Ob) (κ' : Conc) (τ : Nat → Option Nat) (s' : St) (κ1 : Conc) : Prop where
  rs : RS c s a w κ
  inj : ∀ n m i, ψ n = some i → ψ m = some i → n = m
  kx : ∀ n i, ψ n = some i → κx (.U n) = κ i
  there : ∀ n o', x n = some o' → ∃ i o, ψ n = some i ∧ s.ob i = some o ∧ Same o o'
  back : ∀ n i o, ψ n = some i → s.ob i = some o → ∃ o', x n = some o' ∧ Same o o'
  hold : Hold (restZone c.Z0 s.ob κ ψ) σ κ' w'
  mine : ∀ i o b off, σ i = some o → obZone (κ' i) o b off → ozone x κx b off ∨ w.heap.size ≤ b
  frame : Frame (ozone x κx) w w'
  like : ∀ n, LikeAt (x n) (σ (.U n)) (κx (.U n)) (κ' (.U n))
  env : s'.env = s.env
  fresh : ∀ m j, τ m = some j → s.loc m = none
  tinj : ∀ m n j, τ m = some j → τ n = some j → m = n
  free : ∀ m, τ m ≠ none → ∀ n, ψ n ≠ some (.L m)
  kept : ∀ m j, τ m = some j → ∃ o o', σ (.L j) = some o ∧ s'.ob (.L m) = some o' ∧ Same o o' ∧ κ1 (.L m) = κ' (.L j)
  rest : ∀ i, (∀ n, ψ n ≠ some i) → (∀ m, i = .L m → τ m = none) → s'.ob i = s.ob i ∧ κ1 i = κ i
  pass : ∀ n i, ψ n = some i → κ1 i = κ' (.U n) ∧ ∀ o, s'.ob i = some o → ∃ o', σ (.U n) = some o' ∧ Same o' o
  passS : ∀ n i o, ψ n = some i → σ (.U n) = some o → ∃ o', s'.ob i = some o' ∧ Same o o'

section
variable {c : Cx} {s s' : St} {a : Act} {w w' : World} {κ κx κ' κ1 : Conc} {ψ : Nat → Option Id} {x : Sto} {σ : Id → Option Ob} {τ : Nat → Option Nat}

/-- Where an object of the state behind comes from. -/
theorem After.cases (h : After c s a w κ ψ x κx w' σ κ' τ s' κ1) {i : Id} {o : Ob} (hi : s'.ob i = some o) :
    ((∀ n, ψ n ≠ some i) ∧ s.ob i = some o ∧ κ1 i = κ i) ∨ ∃ l p, σ l = some p ∧ Same p o ∧ κ1 i = κ' l ∧ ((∃ n, l = .U n ∧ ψ n = some i) ∨ ∃ m j, i = .L m ∧ l = .L j ∧ τ m = some j ∧ ∀ n, ψ n ≠ some i) := by
  by_cases hp : ∃ n, ψ n = some i
  · obtain ⟨n, hn⟩ := hp
    obtain ⟨h1, h3⟩ := h.pass n i hn
    obtain ⟨o', ho', hs⟩ := h3 o hi
    exact .inr ⟨.U n, o', ho', hs, h1, .inl ⟨n, rfl, hn⟩⟩
  · have hp' : ∀ n, ψ n ≠ some i := fun n hn => hp ⟨n, hn⟩
    by_cases ht : ∀ m, i = .L m → τ m = none
    · obtain ⟨h1, h2⟩ := h.rest i hp' ht
      exact .inl ⟨hp', h1 ▸ hi, h2⟩
    · simp only [Classical.not_forall] at ht
      obtain ⟨m, rfl, hm⟩ := ht
      obtain ⟨j, hj⟩ := Option.ne_none_iff_exists'.1 hm
      obtain ⟨p, o', h1, h2, h3, h4⟩ := h.kept m j hj
      rw [hi] at h2
      cases h2
      exact .inr ⟨.L j, p, h1, h3, h4, .inr ⟨m, j, rfl, rfl, hj, hp'⟩⟩

/-- Nothing is forbidden but what was, and new blocks. -/
theorem After.zone (h : After c s a w κ ψ x κx w' σ κ' τ s' κ1) : ∀ b off, Zof c.Z0 s'.ob κ1 b off → Zof c.Z0 s.ob κ b off ∨ w.heap.size ≤ b := by
  intro b off hz
  rcases hz with hz | ⟨i, o, hi, hz⟩
  · exact .inl (.inl hz)
  · rcases h.cases hi with ⟨_, h1, h2⟩ | ⟨l, p, h1, h2, h3, _⟩
    · rw [h2] at hz
      exact .inl (.inr ⟨i, o, h1, hz⟩)
    · rw [h3] at hz
      rcases h.mine l p b off h1 ((h2.zone _ _ _).2 hz) with ⟨n, o', hn, hz'⟩ | h5
      · obtain ⟨i', q, hq, hs, hsame⟩ := h.there n o' hn
        rw [h.kx n i' hq] at hz'
        exact .inl (.inr ⟨i', q, hs, (hsame.zone _ _ _).2 hz'⟩)
      · exact .inr h5

/-- .. and all of that is forbidden to the call's results. -/
theorem After.zone' (h : After c s a w κ ψ x κx w' σ κ' τ s' κ1) : ∀ b off, Zof c.Z0 s'.ob κ1 b off → Zof (restZone c.Z0 s.ob κ ψ) σ κ' b off := by
  intro b off hz
  rcases hz with hz | ⟨i, o, hi, hz⟩
  · exact .inl (.inl hz)
  · rcases h.cases hi with ⟨h0, h1, h2⟩ | ⟨l, p, h1, h2, h3, _⟩
    · rw [h2] at hz
      exact .inl (.inr ⟨i, o, h0, h1, hz⟩)
    · rw [h3] at hz
      exact .inr ⟨l, p, h1, (h2.zone _ _ _).2 hz⟩

theorem After.cell (h : After c s a w κ ψ x κx w' σ κ' τ s' κ1) : ∀ b off v, ¬ Zof c.Z0 s.ob κ b off → w.cell? ⟨b, off, none⟩ = some v → w'.cell? ⟨b, off, none⟩ = some v := by
  intro b off v hz hc
  refine h.frame.cell b off v (fun hx => hz ?_) hc
  obtain ⟨n, o', hn, hz'⟩ := hx
  obtain ⟨i, o, hi, ho, hs⟩ := h.there n o' hn
  rw [h.kx n i hi] at hz'
  exact .inr ⟨i, o, ho, (hs.zone _ _ _).2 hz'⟩

theorem After.likes (h : After c s a w κ ψ x κx w' σ κ' τ s' κ1) : ∀ i, LikeAt (s.ob i) (s'.ob i) (κ i) (κ1 i) := by
  intro i
  by_cases hp : ∃ n, ψ n = some i
  · obtain ⟨n, hn⟩ := hp
    cases ho : s.ob i with
    | none => exact trivial
    | some o =>
      obtain ⟨o1, hx, hs⟩ := h.back n i o hn ho
      have hl := h.like n
      rw [hx, h.kx n i hn] at hl
      have h1 := (hs.like (κ i)).trans hl
      obtain ⟨hk, h3⟩ := h.pass n i hn
      rw [hk]
      cases hσ : σ (.U n) with
      | none =>
        rw [hσ] at h1
        unfold LikeAt at h1
        cases o <;> simp at h1
      | some o2 =>
        obtain ⟨o3, h4, h5⟩ := h.passS n i o2 hn hσ
        rw [h4]
        rw [hσ] at h1
        exact h1.trans (h5.like _)
  · have hp' : ∀ n, ψ n ≠ some i := fun n hn => hp ⟨n, hn⟩
    by_cases ht : ∀ m, i = .L m → τ m = none
    · obtain ⟨h1, h2⟩ := h.rest i hp' ht
      rw [h1, h2]
      exact LikeAt.refl _ _
    · simp only [Classical.not_forall] at ht
      obtain ⟨m, rfl, hm⟩ := ht
      obtain ⟨j, hj⟩ := Option.ne_none_iff_exists'.1 hm
      have : s.ob (.L m) = none := h.fresh m j hj
      rw [this]
      exact trivial

/-- The state behind a call, once what it says of the objects handed over and of its results holds. -/
theorem After.state (h : After c s a w κ ψ x κx w' σ κ' τ s' κ1)
    (hob : ∀ i o l p, s'.ob i = some o → σ l = some p → κ1 i = κ' l → ((∃ n, l = .U n ∧ ψ n = some i) ∨ ∃ m j, i = .L m ∧ l = .L j ∧ τ m = some j) → OB w' (Zof c.Z0 s'.ob κ1) s'.ob κ1 (κ1 i) o)
    (hex : ∀ n m o, ψ n = some (.U m) → s'.ob (.U m) = some o → OB w' (Zof c.Z0 s'.ob κ1) (extOb s') κ1 (κ1 (.U m)) o) : RS c s' a w' κ1 := by
  have hblk : ∀ i o b, s.ob i = some o → (∀ n, ψ n ≠ some i) → blk (κ i) = some b → w'.heap[b]? = w.heap[b]? := by
    intro i o b ho hp hb
    refine h.frame.block b (h.rs.ob_lt ho hb) fun off hx => ?_
    obtain ⟨n, o', hn, hz⟩ := hx
    obtain ⟨i', q, hq, hs, hsame⟩ := h.there n o' hn
    rw [h.kx n i' hq] at hz
    exact h.rs.apart i i' o q ho hs (fun e => hp n (e ▸ hq)) b hb hz.1
  have hsz := h.frame.size
  refine ⟨h.rs.defers, h.rs.size, fun t => ?_, fun i o hi => ?_, fun i j o p hi hj hij b hb hbj => ?_, fun i o b off hi hz => ?_, fun i o b off hi hz => ?_, ?_, fun n => ?_, fun n o hi => ?_⟩
  · rw [h.env]
    exact (h.rs.env t).step h.zone h.cell h.likes
  · rcases h.cases hi with ⟨h0, h1, h2⟩ | ⟨l, p, h1, h2, h3, h4⟩
    · rw [h2]
      exact (h.rs.obs i o h1).step h.zone h.cell h.likes (fun b hb => hblk i o b h1 h0 hb)
    · refine hob i o l p hi h1 h3 (h4.imp id fun ⟨m, j, e1, e2, e3, _⟩ => ⟨m, j, e1, e2, e3⟩)
  · -- each has its own block
    rcases h.cases hi with ⟨h0, h1, h2⟩ | ⟨l, p1, h1, h2, h3, h4⟩
    · rw [h2] at hb
      rcases h.cases hj with ⟨k0, k1, k2⟩ | ⟨l', p2, k1, k2, k3, k4⟩
      · rw [k2] at hbj
        exact h.rs.apart i j o p h1 k1 hij b hb hbj
      · rw [k3] at hbj
        obtain ⟨n1, hn1⟩ := obZone_far (κ i) o hb
        obtain ⟨n2, hn2⟩ := obZone_far (κ' l') p2 hbj
        exact h.hold.zone0 l' p2 b (max n1 n2) k1 (hn2 _ (Nat.le_max_right _ _)) (.inr ⟨i, o, h0, h1, hn1 _ (Nat.le_max_left _ _)⟩)
    · rw [h3] at hb
      rcases h.cases hj with ⟨k0, k1, k2⟩ | ⟨l', p2, k1, k2, k3, k4⟩
      · rw [k2] at hbj
        obtain ⟨n1, hn1⟩ := obZone_far (κ j) p hbj
        obtain ⟨n2, hn2⟩ := obZone_far (κ' l) p1 hb
        exact h.hold.zone0 l p1 b (max n1 n2) h1 (hn2 _ (Nat.le_max_right _ _)) (.inr ⟨j, p, k0, k1, hn1 _ (Nat.le_max_left _ _)⟩)
      · rw [k3] at hbj
        refine h.hold.apart l l' p1 p2 h1 k1 (fun e => hij ?_) b hb hbj
        rcases h4 with ⟨n, e1, e2⟩ | ⟨m, jj, e1, e2, e3, _⟩ <;> rcases k4 with ⟨n', e1', e2'⟩ | ⟨m', jj', e1', e2', e3', _⟩
        · rw [e1, e1'] at e
          cases e
          exact Option.some.inj (e2.symm.trans e2')
        · rw [e1, e2'] at e
          cases e
        · rw [e2, e1'] at e
          cases e
        · rw [e2, e2'] at e
          cases e
          rw [e1, e1', h.tinj m m' jj e3 e3']
  · rcases h.cases hi with ⟨h0, h1, h2⟩ | ⟨l, p, h1, h2, h3, h4⟩
    · rw [h2] at hz
      exact h.rs.zone0 i o b off h1 hz
    · rw [h3] at hz
      exact fun hz0 => h.hold.zone0 l p b off h1 ((h2.zone _ _ _).2 hz) (.inl hz0)
  · rcases h.cases hi with ⟨h0, h1, h2⟩ | ⟨l, p, h1, h2, h3, h4⟩
    · rw [h2] at hz
      exact h.rs.mine i o b off h1 hz
    · rw [h3] at hz
      rcases h.mine l p b off h1 ((h2.zone _ _ _).2 hz) with ⟨n, o', hn, hz'⟩ | h5
      · obtain ⟨i', q, hq, hs, hsame⟩ := h.there n o' hn
        rw [h.kx n i' hq] at hz'
        exact h.rs.mine i' q b off hs ((hsame.zone _ _ _).2 hz')
      · exact .inr (Nat.le_trans h.rs.frame.size h5)
  · refine h.rs.frame.trans h.frame fun b off hx => ?_
    obtain ⟨n, o', hn, hz'⟩ := hx
    obtain ⟨i', q, hq, hs, hsame⟩ := h.there n o' hn
    rw [h.kx n i' hq] at hz'
    exact h.rs.mine i' q b off hs ((hsame.zone _ _ _).2 hz')
  · exact (h.rs.ext n).trans (h.likes (.U n))
  · have hi' : s'.ob (.U n) = some o := hi
    rcases h.cases hi' with ⟨h0, h1, h2⟩ | ⟨l, p, h1, h2, h3, h4⟩
    · rw [h2]
      refine (h.rs.exts n o h1).step (σ' := extOb s') h.zone h.cell (fun i => ?_) (fun b hb => hblk _ o b h1 h0 hb)
      cases i with
      | U m => exact h.likes (.U m)
      | L m => exact trivial
    · rcases h4 with ⟨m, e1, e2⟩ | ⟨m, j, e1, _⟩
      · exact hex m n o e2 hi'
      · cases e1
end
end Go.Tide

/- A call's results as they are taken; what is handed over. -/
set_option linter.unusedSimpArgs false
set_option linter.unusedVariables false
namespace Go.Tide

/-- How results were taken: under which names (τ), and as what. -/
structure Taken (d : Nat) (s : St) (rs : List A) (j : Nat) (l : List A) (s' : St) (τ : Nat → Option Nat) : Prop where
  env : s'.env = s.env
  ext : s'.ext = s.ext
  new : ∀ m i, τ m = some i → m = 1000 * i + d ∧ j ≤ i ∧ s.loc m = none ∧ ∃ y o, rs[i - j]? = some y ∧ newOb y = some o ∧ s'.loc m = some o
  old : ∀ m, τ m = none → s'.loc m = s.loc m
  len : l.length = rs.length
  res : ∀ i y, rs[i]? = some y → ∃ z, l[i]? = some z ∧ ((newOb y = none ∧ z = y) ∨
    (∃ o, newOb y = some o ∧ τ (1000 * (j + i) + d) = some (j + i) ∧ z = nameOf (1000 * (j + i) + d) y) ∨
    (∃ o, newOb y = some o ∧ τ (1000 * (j + i) + d) = none ∧ z = asData y))

theorem takeK_taken (d : Nat) : ∀ (rs : List A) (s : St) (j : Nat) (ts : List Take) (k : List A → St → Prop), takeK d s j ts rs k → ∃ l s' τ, k l s' ∧ Taken d s rs j l s' τ
  | [], s, j, ts, k, h => ⟨[], s, fun _ => none, h, rfl, rfl, fun _ _ h => (by cases h), fun _ _ => rfl, rfl, fun i y h => (by simp at h)⟩
  | r :: rr, s, j, ts, k, h => by
    -- the rest, and one result before it that makes no object
    have plain : ∀ z, (newOb r = none ∧ z = r) ∨ (∃ o, newOb r = some o ∧ z = asData r) → takeK d s (j + 1) (takeTl ts) rr (fun l => k (z :: l)) → ∃ l s' τ, k l s' ∧ Taken d s (r :: rr) j l s' τ := by
      intro z hz h
      obtain ⟨l, s', τ, hk, ht⟩ := takeK_taken d rr s (j + 1) (takeTl ts) _ h
      refine ⟨z :: l, s', τ, hk, ht.env, ht.ext, fun m i hm => ?_, ht.old, by simp [ht.len], fun i y hy => ?_⟩
      · obtain ⟨h1, h2, h3, y, o, h4, h5⟩ := ht.new m i hm
        refine ⟨h1, by omega, h3, y, o, ?_, h5⟩
        have : i - j = (i - (j + 1)) + 1 := by omega
        rw [this]
        simpa using h4
      · cases i with
        | zero =>
          simp only [List.getElem?_cons_zero, Option.some.injEq] at hy
          subst hy
          refine ⟨z, by simp, ?_⟩
          rcases hz with h1 | ⟨o, h1, h2⟩
          · exact .inl h1
          · refine .inr (.inr ⟨o, h1, ?_, h2⟩)
            cases hτ : τ (1000 * (j + 0) + d) with
            | none => rfl
            | some i =>
              obtain ⟨h3, h4, _⟩ := ht.new _ i hτ
              omega
        | succ i =>
          obtain ⟨z', h1, h2⟩ := ht.res i y (by simpa using hy)
          refine ⟨z', by simpa using h1, ?_⟩
          have e1 : j + (i + 1) = j + 1 + i := by omega
          rw [e1]
          exact h2
    rw [takeK] at h
    split at h
    · rename_i o ho
      split at h
      · obtain ⟨hfree, h⟩ := St.new_iff _ _ _ _ h
        obtain ⟨l, s', τ, hk, ht⟩ := takeK_taken d rr _ (j + 1) (takeTl ts) _ h
        have hne : ∀ i, τ (1000 * j + d) ≠ some i := fun i hi => by
          obtain ⟨h3, h4, _⟩ := ht.new _ i hi
          omega
        have hnone : τ (1000 * j + d) = none := by
          cases hτ : τ (1000 * j + d) with
          | none => rfl
          | some i => exact absurd hτ (hne i)
        refine ⟨_, s', fun m => if m = 1000 * j + d then some j else τ m, hk, ht.env, ht.ext, fun m i hm => ?_, fun m hm => ?_, by simp [ht.len], fun i y hy => ?_⟩
        · change (if m = 1000 * j + d then some j else τ m) = some i at hm
          split at hm
          · rename_i e
            subst e
            cases hm
            refine ⟨rfl, Nat.le_refl _, hfree, r, o, by simp, ho, ?_⟩
            rw [ht.old _ hnone]
            simp [updS_at]
          · rename_i e
            obtain ⟨h1, h2, h3, y, o', h4, h5⟩ := ht.new m i hm
            refine ⟨h1, by omega, ?_, y, o', ?_, h5⟩
            · simpa [updS_at, e] using h3
            · have : i - j = (i - (j + 1)) + 1 := by omega
              rw [this]
              simpa using h4
        · change (if m = 1000 * j + d then some j else τ m) = none at hm
          split at hm
          · cases hm
          · rename_i e
            rw [ht.old m hm]
            simp [updS_at, e]
        · cases i with
          | zero =>
            simp only [List.getElem?_cons_zero, Option.some.injEq] at hy
            subst hy
            exact ⟨nameOf (1000 * j + d) r, rfl, .inr (.inl ⟨o, ho, by simp, by simp⟩)⟩
          | succ i =>
            obtain ⟨z', h1, h2⟩ := ht.res i y (by simpa using hy)
            refine ⟨z', by simpa using h1, ?_⟩
            have e1 : j + (i + 1) = j + 1 + i := by omega
            have e2 : ¬ 1000 * (j + 1 + i) + d = 1000 * j + d := by omega
            rw [e1]
            simp only [if_neg e2]
            exact h2
      · exact plain _ (.inr ⟨o, ho, rfl⟩) h
    · rename_i ho
      exact plain _ (.inl ⟨ho, rfl⟩) h


theorem newOb_ren (y : A) (f : Id → Option Id) : newOb (y.ren f) = (newOb y).map (Ob.ren f) := by
  cases y with
  | gs t xs => simp only [A.ren]; cases f t <;> rfl
  | own i z n => simp only [A.ren]; cases f i <;> rfl
  | ref i o => simp only [A.ren]; cases f i <;> rfl
  | rref i n j o => simp only [A.ren]; cases f i <;> rfl
  | _ => simp [A.ren, newOb, Ob.ren]

theorem RR.ob {w : World} {Z : Zone} {σ : Id → Option Ob} {κ : Conc} {j : Nat} {y : A} {v : Value} (h : RR w Z σ κ j y v) {o : Ob} (ho : newOb y = some o) : σ (.L j) = some o ∧ κ (.L j) = v := by
  cases y <;> simp [newOb] at ho <;> subst ho
  · exact ⟨h.1, h.2.1⟩
  · exact ⟨h.1, h.2⟩
  · exact ⟨h.1, h.2.1⟩

theorem RR.data {w : World} {Z : Zone} {σ : Id → Option Ob} {κ : Conc} {j : Nat} {y : A} {v : Value} (h : RR w Z σ κ j y v) (ho : newOb y = none) : VR w Z (exOb σ) κ y v := by
  cases y <;> simp [newOb] at ho <;> exact h

theorem Owns.len_le {w : World} {e sz n : Nat} {k : Value} {vs : List Value} (h : Owns w e sz k n vs) : n ≤ maxLen := by
  rcases h with ⟨rfl, _⟩ | ⟨g, cap, cur, _, _, h1, h2, _⟩
  · exact Nat.zero_le _
  · omega

theorem owns_slice {w : World} {e sz n : Nat} {k : Value} {vs : List Value} (h : Owns w e sz k n vs) : ∃ al cp, k = .slice al n cp ∧ (0 < n → ∃ b p, al = some ⟨b, p, none⟩) := by
  rcases h with ⟨rfl, _, al, e⟩ | ⟨g, cap, cur, e, _⟩
  · exact ⟨al, 0, e, fun h => by omega⟩
  · exact ⟨_, _, e, fun _ => ⟨g, 0, rfl⟩⟩

mutual
theorem A.strip_ren (f : Id → Option Id) : ∀ y : A, (y.ren f).ren (fun _ => none) = y.ren fun _ => none
  | .undef => by simp [A.ren]
  | .int _ _ => by simp [A.ren]
  | .bool _ => by simp [A.ren]
  | .str _ => by simp [A.ren]
  | .nilp => by simp [A.ren]
  | .sl _ => by simp [A.ren]
  | .gs t _ => by cases h : f t <;> simp [A.ren, h]
  | .own t _ _ => by cases h : f t <;> simp [A.ren, h]
  | .ref t _ => by cases h : f t <;> simp [A.ren, h]
  | .rref t _ _ _ => by cases h : f t <;> simp [A.ren, h]
  | .pim _ _ => by simp [A.ren]
  | .fn _ cs => by rw [A.ren, A.ren, A.ren, A.strip_renL f cs]
  | .agg cs => by rw [A.ren, A.ren, A.ren, A.strip_renL f cs]
  | .tup cs => by rw [A.ren, A.ren, A.ren, A.strip_renL f cs]
  | .nvar cs => by rw [A.ren, A.ren, A.ren, A.strip_renL f cs]
  | .nrow _ _ _ => by simp [A.ren]
  | .ngs _ _ _ => by simp [A.ren]
theorem A.strip_renL (f : Id → Option Id) : ∀ l : List A, A.renL (fun _ => none) (A.renL f l) = A.renL (fun _ => none) l
  | [] => rfl
  | x :: r => by rw [A.renL, A.renL, A.renL, A.strip_ren f x, A.strip_renL f r]
end

theorem ren_strip {w : World} {Z Z1 : Zone} {σ : Id → Option Ob} {κ : Conc} (fb : Id → Option Id) {y : A} {v : Value} (h : VR w Z σ κ y v) (hZ : ∀ b off, Z1 b off → Z b off ∨ w.heap.size ≤ b) : Imm w Z1 ((y.ren fb).strip) v := by
  unfold A.strip
  rw [A.strip_ren]
  exact h.strip.step hZ (fun _ _ _ _ h => h)

/-- A result's object, under its new name. -/
theorem named_res {w : World} {Z Z1 : Zone} {σ σ1 : Id → Option Ob} {κ κ1 : Conc} {j m : Nat} {y : A} {v : Value} {o : Ob} (fb : Id → Option Id) (hr : RR w Z σ κ j y v) (hy : newOb y = some o) (hob : OB w Z σ κ (κ (.L j)) o)
    (hs : σ1 (.L m) = some (o.ren fb)) (hk : κ1 (.L m) = κ (.L j)) (hZ : ∀ b off, Z1 b off → Z b off) : VR w Z1 σ1 κ1 (nameOf m (y.ren fb)) v := by
  obtain ⟨h1, h2⟩ := hr.ob hy
  rw [h2] at hob hk
  cases y <;> simp [newOb] at hy <;> subst hy
  · rename_i cs
    obtain ⟨b, arr, t, rfl, _⟩ := hob
    exact .ref _ _ _ ⟨_, hs⟩ hk
  · rename_i e sz xs
    obtain ⟨us, hown, _⟩ := hob
    obtain ⟨al, cp, rfl, hal⟩ := owns_slice hown
    exact .own _ _ _ _ _ hown.len_le ⟨e, xs, hs, Nat.le_refl _, fun _ => hk⟩ hal
  · rename_i e sz xs
    exact .gs _ _ _ (hr.2.2.1.step (fun b off hz => .inl (hZ b off hz)) (fun _ _ _ _ h => h)) ⟨e, sz, xs.length, hs, Nat.le_refl _, fun _ => hk, hr.2.2.2⟩

/-- A result's object that nobody writes any more. -/
theorem data_res {w : World} {Z Z1 : Zone} {σ σ1 : Id → Option Ob} {κ κ1 : Conc} {j : Nat} {y : A} {v : Value} {o : Ob} (fb : Id → Option Id) (hr : RR w Z σ κ j y v) (hy : newOb y = some o) (hob : OB w Z (exOb σ) κ (κ (.L j)) o)
    (hfree : ∀ b off, obZone (κ (.L j)) o b off → ¬ Z1 b off) (hZ : ∀ b off, Z1 b off → Z b off) : VR w Z1 σ1 κ1 (asData (y.ren fb)) v := by
  obtain ⟨h1, h2⟩ := hr.ob hy
  rw [h2] at hob hfree
  have hZ' : ∀ b off, Z1 b off → Z b off ∨ w.heap.size ≤ b := fun b off hz => .inl (hZ b off hz)
  refine .imm _ _ ?_
  cases y <;> simp [newOb] at hy <;> subst hy
  · rename_i cs
    simp only [A.ren, asData]
    obtain ⟨b, arr, t, rfl, hh, hl, hone, hc⟩ := hob
    have := Imm.pim (w := w) (Z := Z1) ((A.renL fb cs).map A.strip) 0 b 0 (fun j => if j < arr.size then arr.getD j (.tuple #[]) else .bool false) (fun j hj => by
      rw [List.length_map, renL_length] at hj
      refine ⟨hfree _ _ ⟨rfl, trivial⟩, ?_⟩
      have hj' : j < arr.size := by omega
      simp [World.cell?, hh, hj', Array.getD_eq_getD_getElem?]) (fun j => by
        by_cases hj : j < arr.size
        · simp only [if_pos hj, Array.getD_eq_getD_getElem?, Array.getElem?_eq_getElem hj, Option.getD_some]
          exact hone _ (Array.getElem_mem_toList hj)
        · simp [if_neg hj]; rfl) (fun j y hy => by
          rw [List.getElem?_map, Option.map_eq_some_iff] at hy
          obtain ⟨y', hy', rfl⟩ := hy
          obtain ⟨y2, hy2, rfl⟩ := renL_inv hy'
          have hj : j < arr.size := by rw [hl]; exact (List.getElem?_eq_some_iff.1 hy2).1
          simp only [if_pos hj]
          exact ren_strip fb (hc j y2 hy2) hZ')
    simpa using this
  · rename_i e sz xs
    simp only [A.ren, asData]
    obtain ⟨us, hown, hone, hz, hc⟩ := hob
    refine Imm.of_owns hown hown.len_le (fun k _ b hb => hfree b k ⟨hb, trivial⟩) hone rfl (fun x hx => ?_) (fun i x hx j y hy => (hc i x hx j y hy).step hZ' (fun _ _ _ _ h => h))
    obtain ⟨i, hi⟩ := List.getElem?_of_mem hx
    exact hz i x hi
  · rename_i e sz xs
    simp only [A.ren, asData]
    exact hr.2.2.1.step hZ' (fun _ _ _ _ h => h)

section
variable {c : Cx} {s s0 s' : St} {a : Act} {w w' : World} {κ κx κ' : Conc} {ψ : Nat → Option Id} {x x' : Sto} {σ : Id → Option Ob}

open Classical in
/-- What stands for each name behind a call. -/
noncomputable def κafter (κ κ' : Conc) (ψ : Nat → Option Id) (τ : Nat → Option Nat) : Conc := fun i =>
  if h : ∃ n, ψ n = some i then κ' (.U h.choose) else match i with
    | .L m => match τ m with
      | some j => κ' (.L j)
      | none => κ (.L m)
    | .U m => κ (.U m)

/-- The state behind a call, and its results. -/
theorem call_done {fb : Id → Option Id} {rs : List A} {v : Value} {vs : Array Value} {d : Nat} {take : List Take} {K : List A → St → Prop}
    (h : RS c s a w κ) (inj : ∀ n m i, ψ n = some i → ψ m = some i → n = m) (kx : ∀ n i, ψ n = some i → κx (.U n) = κ i)
    (there : ∀ n o', x n = some o' → ∃ i o, ψ n = some i ∧ s.ob i = some o ∧ Same o o')
    (back : ∀ n i o, ψ n = some i → s.ob i = some o → ∃ o', x n = some o' ∧ Same o o')
    (hfb : ∀ i j, fb i = some j → ∃ n, i = .U n ∧ ψ n = some j)
    (out : OutRel w (restZone c.Z0 s.ob κ ψ) x κx rs x' v w' σ κ' vs)
    (env : s0.env = s.env) (rest : ∀ i, (∀ n, ψ n ≠ some i) → s0.ob i = s.ob i)
    (local_ : ∀ n m, ψ n = some (.L m) → s.loc m ≠ none ∧ s0.loc m ≠ none)
    (pass : ∀ n i, ψ n = some i → (∀ o, s0.ob i = some o → ∃ o', σ (.U n) = some o' ∧ Same o' o) ∧ ∀ o', σ (.U n) = some o' → ∃ o, s0.ob i = some o ∧ Same o' o)
    (hob : ∀ (s' : St) (κ1 : Conc), (∀ n i, ψ n = some i → κ1 i = κ' (.U n) ∧ s'.ob i = s0.ob i) → (∀ b off, Zof c.Z0 s'.ob κ1 b off → Zof (restZone c.Z0 s.ob κ ψ) σ κ' b off) →
      (∀ i j, fb i = some j → LikeAt (exOb σ i) (s'.ob j) (κ' i) (κ1 j)) →
      ∀ n i o o', ψ n = some i → s0.ob i = some o → σ (.U n) = some o' → OB w' (Zof (restZone c.Z0 s.ob κ ψ) σ κ') (exOb σ) κ' (κ' (.U n)) o' →
        OB w' (Zof c.Z0 s'.ob κ1) s'.ob κ1 (κ1 i) o ∧ (∀ m, i = .U m → OB w' (Zof c.Z0 s'.ob κ1) (extOb s') κ1 (κ1 i) o))
    (hk : takeK d s0 0 take (A.renL fb rs) K) :
    ∃ l s' κ1, K l s' ∧ RS c s' a w' κ1 ∧ l.length = rs.length ∧ ∀ (j : Nat) (z : A), l[j]? = some z → VR w' (Zof c.Z0 s'.ob κ1) s'.ob κ1 z (vs.getD j undef) := by
  obtain ⟨l, s', τ, hK, ht⟩ := takeK_taken _ _ _ _ _ _ hk
  have hτ : ∀ m j, τ m = some j → ∀ n, ψ n ≠ some (.L m) := fun m j hm n hn => (local_ n m hn).2 (ht.new m j hm).2.2.1
  have hsob : ∀ i, (∀ m, i = .L m → τ m = none) → s'.ob i = s0.ob i := by
    intro i hi
    cases i with
    | L m => exact ht.old m (hi m rfl)
    | U m => show s'.ext m = s0.ext m; rw [ht.ext]
  have hψτ : ∀ n i, ψ n = some i → ∀ m, i = .L m → τ m = none := by
    intro n i hn m e
    subst e
    cases hm : τ m with
    | none => rfl
    | some j => exact absurd hn (hτ m j hm n)
  generalize hκ1 : κafter κ κ' ψ τ = κ1
  have k1 : ∀ n i, ψ n = some i → κ1 i = κ' (.U n) := by
    intro n i hn
    have hex : ∃ n, ψ n = some i := ⟨n, hn⟩
    rw [← hκ1, κafter, dif_pos hex, inj _ n i hex.choose_spec hn]
  have k2 : ∀ m j, τ m = some j → κ1 (.L m) = κ' (.L j) := by
    intro m j hm
    have hex : ¬ ∃ n, ψ n = some (.L m) := fun ⟨n, hn⟩ => hτ m j hm n hn
    rw [← hκ1, κafter, dif_neg hex]
    simp [hm]
  have k3 : ∀ i, (∀ n, ψ n ≠ some i) → (∀ m, i = .L m → τ m = none) → κ1 i = κ i := by
    intro i hi hm
    have hex : ¬ ∃ n, ψ n = some i := fun ⟨n, hn⟩ => hi n hn
    rw [← hκ1, κafter, dif_neg hex]
    cases i with
    | L m => simp [hm m rfl]
    | U m => rfl
  -- the results' objects
  have hres : ∀ m j, τ m = some j → ∃ y o, rs[j]? = some y ∧ newOb y = some o ∧ σ (.L j) = some o ∧ κ' (.L j) = vs.getD j undef ∧ s'.ob (.L m) = some (o.ren fb) := by
    intro m j hm
    obtain ⟨h1, _, h3, y, o, h4, h5, h6⟩ := ht.new m j hm
    obtain ⟨y', hy', rfl⟩ := renL_inv (by simpa using h4)
    rw [newOb_ren, Option.map_eq_some_iff] at h5
    obtain ⟨o', ho', rfl⟩ := h5
    have hr := out.res j y' hy'
    obtain ⟨g1, g2⟩ := hr.ob ho'
    exact ⟨y', o', hy', ho', g1, g2, h6⟩
  have aft : After c s a w κ ψ x κx w' σ κ' τ s' κ1 := by
    refine ⟨h, inj, kx, there, back, out.hold, out.mine, out.frame, fun n => by rw [out.ext]; exact out.like n, ht.env.trans env, fun m j hm => ?_, fun m n j hm hn => ?_, fun m hm => ?_, fun m j hm => ?_, fun i hi hm => ⟨(hsob i hm).trans (rest i hi), k3 i hi hm⟩, fun n i hn => ⟨k1 n i hn, ?_⟩, fun n i o hn ho => ?_⟩
    · have h0 := (ht.new m j hm).2.2.1
      have h1 : s0.ob (.L m) = s.ob (.L m) := rest (.L m) (hτ m j hm)
      exact h1.symm.trans h0
    · have h1 := (ht.new m j hm).1
      have h2 := (ht.new n j hn).1
      omega
    · obtain ⟨j, hj⟩ := Option.ne_none_iff_exists'.1 hm
      exact hτ m j hj
    · obtain ⟨y, o, _, _, h1, _, h2⟩ := hres m j hm
      exact ⟨o, _, h1, h2, Same.ren o fb, k2 m j hm⟩
    · have e := hsob i (hψτ n i hn)
      rw [e]
      exact (pass n i hn).1
    · have e := hsob i (hψτ n i hn)
      rw [e]
      exact (pass n i hn).2 o ho
  have zone := aft.zone'
  have likeb : ∀ i j, fb i = some j → LikeAt (exOb σ i) (s'.ob j) (κ' i) (κ1 j) := by
    intro i j hij
    obtain ⟨n, rfl, hn⟩ := hfb i j hij
    show LikeAt (σ (.U n)) _ _ _
    cases hσ : σ (.U n) with
    | none => exact trivial
    | some o =>
      obtain ⟨o', h1, h2⟩ := aft.passS n j o hn hσ
      rw [h1, k1 n j hn]
      exact h2.like _
  have hpo := hob s' κ1 (fun n i hn => ⟨k1 n i hn, hsob i (hψτ n i hn)⟩) zone likeb
  have hZ : ∀ b off, Zof c.Z0 s'.ob κ1 b off → Zof (restZone c.Z0 s.ob κ ψ) σ κ' b off ∨ w'.heap.size ≤ b := fun b off hz => .inl (zone b off hz)
  have obres : ∀ j y o, rs[j]? = some y → newOb y = some o → OB w' (Zof (restZone c.Z0 s.ob κ ψ) σ κ') (exOb σ) κ' (κ' (.L j)) o := by
    intro j y o hy ho
    have hr := out.res j y hy
    obtain ⟨g1, g2⟩ := hr.ob ho
    have hh := out.hold.obs _ _ g1
    cases o with
    | cells cs =>
      cases y <;> simp [newOb] at ho
      subst ho
      rw [hr.2.1]
      exact hr.2.2
    | row e sz xs => exact hh.indep (by simp)
    | tok e sz n => exact hh.indep (by simp)
  have rs' : RS c s' a w' κ1 := by
    refine aft.state (fun i o l p hi hp hkl hl => ?_) (fun n m o hn ho => ?_)
    · rcases hl with ⟨n, rfl, hn⟩ | ⟨m, j, rfl, rfl, hm⟩
      · rw [hsob i (hψτ n i hn)] at hi
        exact (hpo n i o p hn hi hp (out.hold.exts n p hp)).1
      · obtain ⟨y, o', hy, ho', h1, h2, h3⟩ := hres m j hm
        rw [hi] at h3
        cases h3
        rw [k2 m j hm]
        exact (obres j y o' hy ho').map fb hZ likeb
    · rw [hsob (.U m) (fun _ e => by cases e)] at ho
      obtain ⟨o', ho', _⟩ := (pass n (.U m) hn).1 o ho
      exact (hpo n (.U m) o o' hn ho ho' (out.hold.exts n o' ho')).2 m rfl
  refine ⟨l, s', κ1, hK, rs', by rw [ht.len, renL_length], fun j z hz => ?_⟩
  have hj : j < rs.length := by
    have := (List.getElem?_eq_some_iff.1 hz).1
    rw [ht.len, renL_length] at this
    exact this
  have hy : rs[j]? = some rs[j] := List.getElem?_eq_getElem hj
  generalize rs[j] = y at hy
  have hyr : (A.renL fb rs)[j]? = some (y.ren fb) := by rw [renL_get, hy]; rfl
  obtain ⟨z', hz', hcase⟩ := ht.res j _ hyr
  rw [hz] at hz'
  cases hz'
  have hr := out.res j y hy
  simp only [Nat.zero_add] at hcase
  rcases hcase with ⟨h1, rfl⟩ | ⟨o, h1, h2, rfl⟩ | ⟨o, h1, h2, rfl⟩
  · rw [newOb_ren, Option.map_eq_none_iff] at h1
    exact (hr.data h1).map fb hZ (fun _ _ _ _ h => h) likeb
  · obtain ⟨y1, o1, g1, g2, g3, g4, g5⟩ := hres _ _ h2
    rw [hy] at g1
    cases g1
    exact named_res fb hr g2 (out.hold.obs _ _ g3) g5 (k2 _ _ h2) zone
  · obtain ⟨o1, g1⟩ : ∃ o1, newOb y = some o1 := by
      rw [newOb_ren, Option.map_eq_some_iff] at h1
      exact ⟨_, h1.choose_spec.1⟩
    obtain ⟨g3, g4⟩ := hr.ob g1
    refine data_res fb hr g1 (obres _ _ _ hy g1) (fun b off hz hz1 => ?_) zone
    rcases hz1 with hz1 | ⟨i, p, hi, hz1⟩
    · exact out.hold.zone0 _ _ b off g3 hz (.inl hz1)
    · rcases aft.cases hi with ⟨e0, e1, e2⟩ | ⟨l', q, e1, e2, e3, e4⟩
      · rw [e2] at hz1
        exact out.hold.zone0 _ _ b off g3 hz (.inr ⟨i, p, e0, e1, hz1⟩)
      · rw [e3] at hz1
        refine out.hold.apart _ _ _ _ g3 e1 (fun e => ?_) b hz.1 hz1.1
        rcases e4 with ⟨n, e5, _⟩ | ⟨m, j', e5, e6, e7, _⟩
        · rw [e5] at e; cases e
        · rw [e6] at e
          cases e
          rw [(ht.new m j e7).1] at e7
          rw [e7] at h2
          cases h2
end
end Go.Tide
