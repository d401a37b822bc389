/-
  Go's package slices over any element type: Insert, Delete, Concat, Grow, IndexFunc, Reverse. Nothing of a program is in this text.
-/
import Derived.Test.YtomggfibpbaodaaGreatDoorR3
import Derived.Lib.Overlaps
import Derived.Laws.Small
namespace Go.V
open Go
section
variable {P : Program} {w : World} {t e : TypeId} {sz by' n : Nat} {z : List Value} {K : Value → World → Prop}
instance [h : SliceT P t e sz] {ty : TypeId} {a : Option Addr} {l c : Nat} : Rn P (Builtin.cap_ #[t] ty #[.slice a l c]) w (.int .i64 (c : Int)) w := ⟨by
  simp [Builtin.cap_, run_underlying h.under, goInt]⟩
/-- `x[l:h]` of a slice of a block. -/
theorem slcB_run [hS : SliceT P t e sz] {b o len cap l h : Nat} {k k' : IntKind} (h1 : l ≤ h) (h2 : h ≤ cap) (h3 : l < cap) :
    (Instr.sliceAt t (.slice (some ⟨b, o, none⟩) len cap) (some (.int k (l : Int))) (some (.int k' (h : Int))) none).run P w = .ok (.slice (some ⟨b, o + l * sz, none⟩) (h - l) (cap - l)) w := by
  rw [slc_run (bounds_lh h1 h2)]
  simp only [sliced, if_neg (show ¬ cap = l by omega), Option.map_some, addr_add]
theorem slcB_l [hS : SliceT P t e sz] {b o len cap l : Nat} {k : IntKind} (h1 : l ≤ len) (h3 : l < cap) :
    (Instr.sliceAt t (.slice (some ⟨b, o, none⟩) len cap) (some (.int k (l : Int))) none none).run P w = .ok (.slice (some ⟨b, o + l * sz, none⟩) (len - l) (cap - l)) w := by
  rw [slc_run (bounds_l h1)]
  simp only [sliced, if_neg (show ¬ cap = l by omega), Option.map_some, addr_add]
theorem slcB_h [hS : SliceT P t e sz] {a : Option Addr} {len cap h : Nat} {k' : IntKind} (h2 : h ≤ cap) :
    (Instr.sliceAt t (.slice a len cap) none (some (.int k' (h : Int))) none).run P w = .ok (.slice a h cap) w := by
  rw [slc_run (bounds_h h2)]
  unfold sliced
  cases a with
  | none => simp
  | some ad => simp [Addr.add]
theorem bounds_lhm {k k' k'' : IntKind} {len cap l h m : Nat} (h1 : l ≤ h) (h2 : h ≤ m) (h3 : m ≤ cap) : (Instr.sliceBounds true len cap (some (.int k (l : Int))) (some (.int k' (h : Int))) (some (.int k'' (m : Int)))).run P w = .ok (l, h, m) w := by
  simp [Instr.sliceBounds, bound_run (P := P) (w := w) h1, bound_run (P := P) (w := w) h2, bound_run (P := P) (w := w) h3]
theorem zeros_made (hz : 0 < z.length) (n : Nat) : Builtin.zeroCells z.toArray n = ((List.replicate n z).flatten).toArray := made_rep hz n
/-- `append(s, make([]T, n)...)` where it grows. -/
theorem appendZ_run [hS : SliceT P t e sz] [hE : ElemT P e sz by'] [hZ : Zero P e z] {tn ty : TypeId} {kn k : IntKind} (htn : P.underlying tn = some (.int kn)) {v : Value} {a : Option Addr} {m cap : Nat} {xs : List Value}
    (hv : v = .slice a m cap) (hs : Sl w v sz m xs) (hg : cap < m + n) (hb : (m + n) * by' ≤ 140737488355328) (h63 : m + n ≤ maxLen) :
    ∃ c w1, (Builtin.append_ #[t, tn] ty #[v, .int k (n : Int)]).run P w = .ok (.slice (some ⟨w.heap.size, 0, none⟩) (m + n) c) w1 ∧
      Own w1 (.slice (some ⟨w.heap.size, 0, none⟩) (m + n) c) e sz (m + n) (xs ++ (List.replicate n z).flatten) ∧ Fr no w w1 := by
  subst hv
  obtain ⟨i, z', hi, hz, hsize, hby, hzs, hpos⟩ := hE.row
  obtain ⟨v0, hv0, hvc⟩ := hZ.run w
  have hv' : v0 = z' := by
    simp only [zeroValue, typeInfo, Sem.run_bind] at hv0
    simp [hi, hz] at hv0
    exact hv0.symm
  subst hv'
  have hzl : z.length = sz := by rw [← hzs, hvc]; simp
  have hs0 : 0 < z.length := by omega
  obtain ⟨hl, a', cap', hva, hc, hnil, hcell⟩ := hs
  cases hva
  have h63' : m + n ≤ 9223372036854775807 := by simp only [maxLen] at h63; omega
  have hn : ¬ (m + n ≤ cap) := by omega
  have hw : IntKind.i64.wrap (n : Int) = n := by rw [IntKind.wrap_i64]; omega
  have h63'' : ¬ (9223372036854775807 < ((m : Int) + (n : Int))) := by omega
  have hfit := growslice_fits (need := m + n) (old := cap) (bytes := i.bytes) hg (by rw [hby]; exact hb)
  have h48' : ¬ (281474976710656 < Builtin.nextslicecap (m + n) cap * i.bytes) := by omega
  have hnb : n * by' ≤ 140737488355328 := Nat.le_trans (Nat.mul_le_mul_right _ (by omega)) hb
  have h48i : ¬ (281474976710656 < (n : Int) * (i.bytes : Int)) := by
    rw [← Int.natCast_mul, hby]
    omega
  have hneg : ¬ ((n : Int) < 0) := by omega
  have hns : ¬ (n * i.size = 0) := by
    rw [hsize]
    exact Nat.mul_ne_zero (by omega) (by omega)
  have hns1 : ¬ n = 0 := by omega
  have hns2 : ¬ i.size = 0 := by omega
  have hfo1 : (Builtin.firstCells i.size m (.slice a m cap)).run P w.drew = .ok xs.toArray w.drew := by
    cases a with
    | none =>
      have := (hnil rfl).1
      subst this
      have hx : xs = [] := List.eq_nil_of_length_eq_zero (by simpa using hl)
      subst hx
      simp [Builtin.firstCells]
    | some ad => exact run_firstCells_some (P := P) w.drew i.size m ad m cap xs (by rw [hsize]; exact hl) (fun j u hu => by have := hcell ad rfl j u hu; simpa using this)
  have hge := grownCap_ge w (m + n) cap e
  have hcm := grownCap_le_maxLen w (m + n) cap e h63
  have hr : (Builtin.append_ #[t, tn] ty #[.slice a m cap, .int k (n : Int)]).run P w = .ok (.slice (some ⟨w.heap.size, 0, none⟩) (m + n) (grownCap w (m + n) cap e))
      (w.drew.alloc (.cells (xs.toArray ++ Builtin.zeroCells z.toArray n ++ Builtin.zeroCells z.toArray (grownCap w (m + n) cap e - (m + n))) e)) := by
    simp [Builtin.append_, run_underlying hS.under, run_underlying htn, sizeOf, typeInfo, zeroValue, hi, hz, hvc, asInt, asIntOf, hw, hn, hneg, h63'', h48', h48i, Question.forced, hfo1, newRow, grownCap]
    intro h0
    exact absurd h0 hns
  refine ⟨_, _, hr, ⟨?_, .inr ⟨w.heap.size, _, _, rfl, Nat.zero_le _, heap_alloc_new w.drew _, hge, hcm, ?_, ?_⟩⟩, ?_⟩
  · rw [List.length_append, rep_len, hl, hzl, ← Nat.add_mul]
  · simp only [Array.size_append, List.size_toArray, size_zeroCells, hl, hzl]
    rw [← Nat.add_mul, ← Nat.add_mul]
    congr 1
    omega
  · simp only [Array.toList_append, zeros_made hs0]
    apply List.take_left'
    simp only [List.length_append, rep_len, hl, hzl]
    rw [← Nat.add_mul]
  · exact (Fr.dw w).trans (Fr.alloc _ _) (by intro i hi; cases hi)
theorem ins_take {cs xs ys : List Value} {a m s : Nat} (h1 : cs.take m = xs) (h2 : xs.length = m) (h3 : ys.length = s) (ha : a ≤ m) (hc : m + s ≤ cs.length) :
    (spl (spl cs (a + s) (xs.drop a)) a ys).take (m + s) = xs.take a ++ ys ++ xs.drop a := by
  have ea : cs.take a = xs.take a := by rw [← h1, List.take_take, Nat.min_eq_left ha]
  have l1 : (cs.take (a + s)).length = a + s := by simp; omega
  have l2 : (cs.take a).length = a := by simp; omega
  have hin : spl cs (a + s) (xs.drop a) = cs.take (a + s) ++ (xs.drop a ++ cs.drop (m + s)) := by
    unfold spl
    rw [List.append_assoc, List.length_drop, h2, show a + s + (m - a) = m + s by omega]
  have e1 : (cs.take (a + s) ++ (xs.drop a ++ cs.drop (m + s))).take a = xs.take a := by
    rw [List.take_append_of_le_length (by omega), List.take_take, Nat.min_eq_left (by omega), ea]
  rw [hin]
  unfold spl
  rw [h3, e1, List.drop_left' l1, ← List.append_assoc]
  apply List.take_left'
  simp
  omega
theorem ins_take2 {cs xs ys : List Value} {a m s : Nat} (h1 : cs.take a = xs.take a) (h2 : xs.length = m) (h3 : ys.length = s) (ha : a ≤ m) (hc : m + s ≤ cs.length) :
    (spl (spl cs a ys) (a + s) (xs.drop a)).take (m + s) = xs.take a ++ ys ++ xs.drop a := by
  have l2 : (cs.take a).length = a := by simp; omega
  have l3 : (cs.take a ++ ys).length = a + s := by rw [List.length_append, l2, h3]
  have hin : spl cs a ys = (cs.take a ++ ys) ++ cs.drop (a + s) := by unfold spl; rw [h3]
  rw [hin]
  unfold spl
  rw [List.take_left' l3, h1]
  apply List.take_left'
  simp
  omega

theorem frozen_bk {b o : Nat} {t : TypeId} {cs : List Value} (h : Bk w b t cs) : w.frozen? ⟨b, o, none⟩ = false := by
  unfold Bk at h
  simp [World.frozen?, h]
theorem shape_bk {b : Nat} {t : TypeId} {cs : List Value} (h : Bk w b t cs) : w.shape? b = some (t, cs.length) := by
  unfold Bk at h
  simp [World.shape?, h]
theorem Bk.slz {b o m cap : Nat} {tb : TypeId} {cs : List Value} (h : Bk w b tb cs) (hm : o + m * sz ≤ cs.length) (hc : m ≤ cap) : Sl w (.slice (some ⟨b, o, none⟩) m cap) sz m ((cs.drop o).take (m * sz)) :=
  ⟨by rw [List.length_take, List.length_drop]; omega, _, cap, rfl, hc, fun h => (by cases h), fun ad had j u hu => by
    cases had
    have hj : j < m * sz := by
      have := (List.getElem?_eq_some_iff.1 hu).1
      rw [List.length_take] at this; omega
    rw [List.getElem?_take_of_lt hj, List.getElem?_drop] at hu
    rw [addr_add, h.cell, hu]⟩
/-- slices.Insert. -/
def insertF (P : Program) (t ti : TypeId) (ov rr : FuncId) (R : Value → World → Prop) (v0 v1 v2 : Value) (w : World) : Prop :=
  px P (Instr.sliceAt t v0 (some v1) none none) w fun _ w =>
  px P (Builtin.len_ #[t] ti #[v2]) w fun v14 w =>
  px P (bin true .eql ti v14 (.int .i64 0)) w fun v16 w =>
  cnd v16 (
    R v0 w) <|
  px P (Builtin.len_ #[t] ti #[v0]) w fun v19 w =>
  px P (bin false .eql ti v1 v19) w fun v22 w =>
  cnd v22 (
    px P (Builtin.append_ #[t, t] t #[v0, v2]) w fun v25 w =>
    R v25 w) <|
  px P (bin false .add ti v19 v14) w fun v28 w =>
  px P (Builtin.cap_ #[t] ti #[v0]) w fun v30 w =>
  px P (bin false .gtr ti v28 v30) w fun v31 w =>
  cnd v31 (
    px P (Instr.sliceAt t v0 none (some v1) none) w fun v34 w =>
    px P (bin false .add ti v19 v14) w fun v37 w =>
    px P (bin false .sub ti v37 v1) w fun v39 w =>
    px P (Builtin.append_ #[t, ti] t #[v34, v39]) w fun v40 w =>
    px P (Instr.sliceAt t v40 (some v1) none none) w fun v43 w =>
    px P (Builtin.copy_ #[t, t] ti #[v43, v2]) w fun _ w =>
    dr w fun w =>
    py P (fun _ => True) (bin false .add ti v1 v14) fun v49 =>
    py P (fun _ => True) (Instr.sliceAt t v40 (some v49) none none) fun v50 =>
    py P (fun _ => True) (Instr.sliceAt t v0 (some v1) none none) fun v53 =>
    px P (Builtin.copy_ #[t, t] ti #[v50, v53]) w fun _ w =>
    R v40 w) <|
  px P (bin false .add ti v19 v14) w fun v59 w =>
  px P (Instr.sliceAt t v0 none (some v59) none) w fun v60 w =>
  px P (bin false .add ti v1 v14) w fun v65 w =>
  px P (Instr.sliceAt t v60 (some v65) none none) w fun v66 w =>
  cl P ov #[v2, v66] w fun v67 w =>
  px P (Op.unary .not v67) w fun v68 w =>
  cnd v68 (
    dr w fun w =>
    py P (fun _ => True) (bin false .add ti v1 v14) fun v72 =>
    py P (fun _ => True) (Instr.sliceAt t v60 (some v72) none none) fun v73 =>
    py P (fun _ => True) (Instr.sliceAt t v60 (some v1) none none) fun v76 =>
    px P (Builtin.copy_ #[t, t] ti #[v73, v76]) w fun _ w =>
    px P (Instr.sliceAt t v60 (some v1) none none) w fun v80 w =>
    px P (Builtin.copy_ #[t, t] ti #[v80, v2]) w fun _ w =>
    R v60 w) <|
  px P (Instr.sliceAt t v60 (some v19) none none) w fun v86 w =>
  px P (Builtin.copy_ #[t, t] ti #[v86, v2]) w fun _ w =>
  px P (Instr.sliceAt t v60 (some v1) none none) w fun v91 w =>
  cl P rr #[v91, v14] w fun _ w =>
  R v60 w
theorem insert_k [hS : SliceT P t e sz] [hE : ElemT P e sz by'] [hZ : Zero P e z] {ti tR : TypeId} {ov rr : FuncId} (hti : P.underlying ti = some (.int .i64))
    (hov : ∀ args w, (callFunc ov args).run P w = ((Extern.SlicesOverlaps.overlaps #[t, t] #[tR] args).run P w).andThen fun v w' => .ok (.value v) w')
    {v x : Value} {i : Nat} {xs ys : List Value} (hv : Own w v e sz n xs) (hx : Own w x e sz 1 ys) (hd : ∀ b, v.ownBlock = some b → x.ownBlock ≠ some b) (hi : i ≤ n) (hax : Atoms xs) (hay : Atoms ys)
    (hb : (n + 1) * by' ≤ 100000000000) (hn : n ≤ 1000000000)
    (k : ∀ v' w1, Own w1 v' e sz (n + 1) (xs.take (i * sz) ++ ys ++ xs.drop (i * sz)) → Fr (fun b => v.ownBlock = some b) w w1 → (∀ b, v'.ownBlock = some b → v.ownBlock = some b ∨ w.heap.size ≤ b) → K v' w1) :
    insertF P t ti ov rr K v (.int .i64 (i : Int)) x w := by
  obtain ⟨ie, z', _, _, hsize, hby, hzs, hpos⟩ := hE.row
  have hylen : ys.length = sz := by have := hx.1; omega
  have hxlen := hv.1
  unfold insertF
  refine slc_l (P := P) i rfl hv.sl hi fun _ _ _ => ?_
  obtain ⟨gx, capx, csx, rfl, hbx, hcx1, hcx2, hcx3, hcx4⟩ := hx.bk (by omega)
  refine px_run ?_
  refine px_run ?_
  refine cnd_false ?_
  by_cases hin : i = n
  · subst hin
    obtain ⟨_, av, cv', rfl, _⟩ := id hv.sl
    refine px_run ?_
    refine px_run ?_
    simp only [decide_true]
    refine cnd_true ?_
    refine append_k (P := P) hv hx.sl hay (by unfold maxLen; omega) (by omega) fun v' w1 h1 h2 h3 => k v' w1 ?_ h2 h3
    rw [List.take_of_length_le (by omega), List.drop_of_length_le (by omega), List.append_nil]
    exact h1
  obtain ⟨g, cap, cs, rfl, hbg, hc1, hc2, hc3, hc4⟩ := hv.bk (by omega)
  have hg : g ≠ gx := fun e => hd g rfl (by rw [e]; rfl)
  refine px_run ?_
  refine px_run ?_
  have hne : ¬ ((i : Int) = (n : Int)) := by omega
  simp only [hne, decide_false]
  refine cnd_false ?_
  haveI : Fits .i64 ((n : Int) + ((1 : Nat) : Int)) := fits_i64 (by omega) (by omega)
  haveI : Fits .i64 ((i : Int) + ((1 : Nat) : Int)) := fits_i64 (by omega) (by omega)
  refine px_run ?_
  refine px_run ?_
  refine px_run ?_
  have hisz : i * sz ≤ n * sz := Nat.mul_le_mul_right _ hi
  have hi1 : (i + 1) * sz = i * sz + sz := by rw [Nat.add_mul, Nat.one_mul]
  have hn1 : (n + 1) * sz = n * sz + sz := by rw [Nat.add_mul, Nat.one_mul]
  have hncap : n * sz ≤ cap * sz := Nat.mul_le_mul_right _ hc1
  refine cnd_dec (fun hgrow => ?_) (fun hroom => ?_)
  · have hcap : cap < n + 1 := by omega
    refine px_of (slcB_h (h := i) (by omega)) ?_
    refine px_run ?_
    haveI : Fits .i64 ((n : Int) + ((1 : Nat) : Int) - (i : Int)) := fits_i64 (by omega) (by omega)
    refine px_run ?_
    have hsi : Sl w (.slice (some ⟨g, 0, none⟩) i cap) sz i (xs.take (i * sz)) := by
      have := hv.sl.part (lo := 0) (Nat.zero_le i) hi (by omega) (Nat.le_refl cap)
      simp only [Nat.zero_mul, List.drop_zero, Nat.sub_zero] at this
      simpa [sliced, Addr.add] using this
    have hcast : ((n : Int) + ((1 : Nat) : Int) - (i : Int)) = ((n + 1 - i : Nat) : Int) := by omega
    rw [hcast]
    have htot : i + (n + 1 - i) = n + 1 := by omega
    obtain ⟨c, w1, hr, ho1, hf1⟩ := appendZ_run (P := P) (t := t) (ty := t) (k := .i64) (n := n + 1 - i) (z := z) hti rfl hsi (by omega) (by rw [htot]; omega) (by unfold maxLen; omega)
    refine px_of hr ?_
    rw [htot] at ho1 ⊢
    obtain ⟨g', cap', cs', hv', hb1, hd1, hd2, hd3, hd4⟩ := ho1.bk (by omega)
    simp only [Value.slice.injEq, Option.some.injEq, Addr.mk.injEq, and_true, true_and] at hv'
    obtain ⟨rfl, rfl⟩ := hv'
    have hcap1 : (n + 1) * sz ≤ c * sz := Nat.mul_le_mul_right _ hd1
    refine px_of (slcB_l (by omega) (by omega)) ?_
    have hbx1 := hx.fr0 hf1
    have hm1 : Nat.min 1 (n + 1 - i) = 1 := Nat.min_eq_left (by omega)
    refine copy_k (P := P) (n := sz) hb1 hbx1.sl (fun y hy => hay y (List.mem_of_mem_take hy)) (by rw [hm1]; omega) fun w2 hb2 hf2 => ?_
    rw [hm1, Nat.one_mul, List.take_of_length_le (by omega), Nat.zero_add] at hb2
    have hgw : g < w.heap.size := hbg.lt
    have hv2 := (hv.fr0 hf1).fr hf2 (fun b hb' e => by cases hb'; have e' : g = w.heap.size := e; omega)
    refine dr_of ?_
    refine py_run ?_
    refine py_of (fun w' _ => slcB_l (P := P) (l := i + 1) (by omega) (by omega)) ?_
    refine py_of (fun w' _ => slcB_l (P := P) (l := i) (by omega) (by omega)) ?_
    have hsd : Sl (dw w2) (.slice (some ⟨g, 0 + i * sz, none⟩) (n - i) (cap - i)) sz (n - i) (xs.drop (i * sz)) := by
      have := (hv2.fr0 (Fr.dw w2)).sl.part (lo := i) hi (Nat.le_refl n) hc1 (Nat.le_refl cap)
      rw [List.take_of_length_le (by rw [List.length_drop, hxlen, Nat.sub_mul]; exact Nat.le_refl _)] at this
      simpa [sliced, show ¬ cap = i by omega, addr_add] using this
    have hm2 : Nat.min (n - i) (n + 1 - (i + 1)) = n - i := Nat.min_eq_left (by omega)
    have hni : (n - i) * sz = n * sz - i * sz := Nat.sub_mul _ _ _
    have hl1 : (spl cs' (i * sz) ys).length = cs'.length := spl_length (by omega)
    refine copy_k (P := P) (n := sz) (hb2.fr0 (Fr.dw w2)) hsd (fun y hy => hax y (List.mem_of_mem_drop (List.mem_of_mem_take hy))) (by rw [hm2, hl1]; omega) fun w3 hb3 hf3 => ?_
    have hf23 := (hf1.new (hf2.then (Fr.dw w2)) (fun b hb' => by omega)).new hf3 (fun b hb' => by omega)
    refine k _ w3 ⟨?_, .inr ⟨w.heap.size, c, (spl (spl cs' (i * sz) ys) (i * sz + sz) (xs.drop (i * sz))).toArray, rfl, Nat.zero_le _, ?_, hd1, hd2, ?_, ?_⟩⟩ (hf23.mono fun _ h => by cases h) fun b hb' => .inr (by cases hb'; exact Nat.le_refl _)
    · simp only [List.length_append, List.length_take, List.length_drop]; omega
    · rw [hm2, List.take_of_length_le (by rw [List.length_drop]; omega), Nat.zero_add, hi1] at hb3
      exact hb3
    · simp only [List.size_toArray]
      rw [spl_length (by rw [List.length_drop, hl1]; omega), hl1]
      exact hd3
    · have hta : cs'.take (i * sz) = xs.take (i * sz) := by
        have : (cs'.take ((n + 1) * sz)).take (i * sz) = cs'.take (i * sz) := by rw [List.take_take, Nat.min_eq_left (by omega)]
        rw [← this, hd4, List.take_append_of_le_length (by rw [List.length_take]; omega), List.take_take, Nat.min_self]
      simp only [hn1]
      exact ins_take2 hta hxlen hylen hisz (by omega)
  · have hcap : n + 1 ≤ cap := by omega
    have hcap1 : (n + 1) * sz ≤ cap * sz := Nat.mul_le_mul_right _ hcap
    have hn1c : ((n : Int) + ((1 : Nat) : Int)) = ((n + 1 : Nat) : Int) := by omega
    have hi1c : ((i : Int) + ((1 : Nat) : Int)) = ((i + 1 : Nat) : Int) := by omega
    refine px_run ?_
    rw [hn1c]
    refine px_of (slcB_h (h := n + 1) (by omega)) ?_
    refine px_run ?_
    rw [hi1c]
    refine px_of (slcB_l (l := i + 1) (by omega) (by omega)) ?_
    have hkB : cs.length ≠ 0 := by
      have : 0 < cap * sz := Nat.mul_pos (by omega) hpos
      omega
    refine cl_ext (v := .bool false) (w' := w) ?_ ?_
    · rw [hov, Lib.run_overlaps_apart w t tR e hS.under sz (fun w => SliceT.sizeOf (P := P) (t := t)) ⟨gx, 0, none⟩ ⟨g, 0 + (i + 1) * sz, none⟩ 1 capx _ _ (fun e => hg e.symm) e e csx.length cs.length (shape_bk hbx) (shape_bk hbg) hkB (frozen_bk hbx) (frozen_bk hbx)]
      rfl
    refine px_run ?_
    refine cnd_true ?_
    refine dr_of ?_
    refine py_run ?_
    rw [hi1c]
    refine py_of (fun w' _ => slcB_l (P := P) (l := i + 1) (by omega) (by omega)) ?_
    refine py_of (fun w' _ => slcB_l (P := P) (l := i) (by omega) (by omega)) ?_
    have hbg1 := hbg.fr0 (Fr.dw w)
    have hsrc := Bk.slz (sz := sz) (o := 0 + i * sz) (m := n + 1 - i) (cap := cap - i) hbg1 (by rw [Nat.sub_mul]; omega) (by omega)
    have hm2 : Nat.min (n + 1 - i) (n + 1 - (i + 1)) = n - i := by rw [show n + 1 - (i + 1) = n - i by omega]; exact Nat.min_eq_right (by omega)
    have hni : (n - i) * sz = n * sz - i * sz := Nat.sub_mul _ _ _
    have hsrc2 : ((cs.drop (0 + i * sz)).take ((n + 1 - i) * sz)).take ((n - i) * sz) = xs.drop (i * sz) := by
      rw [List.take_take, Nat.min_eq_left (by rw [Nat.sub_mul (n + 1)]; omega), Nat.zero_add, hni, ← List.drop_take, hc4]
    refine copy_k (P := P) (n := sz) hbg1 hsrc (by rw [hm2, hsrc2]; exact fun y hy => hax y (List.mem_of_mem_drop hy)) (by rw [hm2]; omega) fun w2 hb2 hf2 => ?_
    rw [hm2, hsrc2, Nat.zero_add, hi1] at hb2
    have hbx2 := (hx.fr0 (Fr.dw w)).fr hf2 (fun b hb' e => by cases hb'; exact hg e.symm)
    refine px_of (slcB_l (l := i) (by omega) (by omega)) ?_
    have hm1 : Nat.min 1 (n + 1 - i) = 1 := Nat.min_eq_left (by omega)
    have hl1 : (spl cs (i * sz + sz) (xs.drop (i * sz))).length = cs.length := spl_length (by rw [List.length_drop]; omega)
    refine copy_k (P := P) (n := sz) hb2 hbx2.sl (fun y hy => hay y (List.mem_of_mem_take hy)) (by rw [hm1, hl1]; omega) fun w3 hb3 hf3 => ?_
    rw [hm1, Nat.one_mul, List.take_of_length_le (by omega), Nat.zero_add] at hb3
    refine k _ w3 ⟨?_, .inr ⟨g, cap, (spl (spl cs (i * sz + sz) (xs.drop (i * sz))) (i * sz) ys).toArray, rfl, Nat.zero_le _, hb3, hcap, hc2, ?_, ?_⟩⟩ ?_ fun b hb' => .inl (by cases hb'; rfl)
    · simp only [List.length_append, List.length_take, List.length_drop]; omega
    · simp only [List.size_toArray]
      rw [spl_length (by omega), hl1]
      exact hc3
    · simp only [hn1]
      exact ins_take hc4 hxlen hylen hisz (by omega)
    · exact (((Fr.dw w).of hf2).two hf3).mono fun b hb' => by rw [hb']; rfl

theorem clear_unfold {t ty : TypeId} {a : Addr} {m c : Nat} (hm : m ≠ 0) {e : TypeId} (hS : P.underlying t = some (.slice e)) : (Builtin.clear_ #[t] ty #[.slice (some a) m c]).run P w =
    ((zeroValue e).run P w).andThen fun zv w1 => ((storeCells a (Builtin.zeroCells zv.cells m).toList).run P w1).andThen fun _ w2 => .ok (.tuple #[]) w2 := by
  cases m with
  | zero => exact absurd rfl hm
  | succ m => simp [Builtin.clear_, run_underlying hS]
theorem clear_k [hS : SliceT P t e sz] [hZ : Zero P e z] {ty : TypeId} {b o m c : Nat} {tb : TypeId} {cs : List Value} (hz : Atoms z) (hzl : z.length = sz) (hpos : 0 < sz) (hb : Bk w b tb cs) (hm : m ≠ 0) (ho : o + m * sz ≤ cs.length)
    (k : ∀ w1, Bk w1 b tb (spl cs o (List.replicate m z).flatten) → Fr (fun i => i = b) w w1 → K (.tuple #[]) w1) :
    px P (Builtin.clear_ #[t] ty #[.slice (some ⟨b, o, none⟩) m c]) w K := by
  obtain ⟨zv, hzr, hzc⟩ := hZ.run w
  have hat : Atoms (List.replicate m z).flatten := fun x hx => by
    obtain ⟨l, hl, hxl⟩ := List.mem_flatten.1 hx
    rw [List.eq_of_mem_replicate hl] at hxl
    exact hz x hxl
  have hst := storeCells_run (P := P) (o := o) (List.replicate m z).flatten 0 w cs hb hat (by rw [rep_len, hzl]; omega)
  refine px_of (v := .tuple #[]) ?_ (k _ (Bk.put hb.lt _ _) (Fr.put w b _ rfl))
  rw [clear_unfold hm hS.under, hzr, Result.andThen_ok, hzc, zeros_made (by omega), hst]
  rfl
/-- slices.Delete. -/
def deleteF (P : Program) (t ti t0 : TypeId) (R : Value → World → Prop) (v0 v1 v2 : Value) (w : World) : Prop :=
  px P (Builtin.len_ #[t] ti #[v0]) w fun v12 w =>
  px P (Instr.sliceAt t v0 (some v1) (some v2) (some v12)) w fun _ w =>
  px P (bin false .eql ti v1 v2) w fun v16 w =>
  cnd v16 (
    R v0 w) <|
  px P (Builtin.len_ #[t] ti #[v0]) w fun v19 w =>
  dr w fun w =>
  py P (fun _ => True) (Instr.sliceAt t v0 none (some v1) none) fun v22 =>
  py P (fun _ => True) (Instr.sliceAt t v0 (some v2) none none) fun v25 =>
  px P (Builtin.append_ #[t, t] t #[v22, v25]) w fun v26 w =>
  px P (Builtin.len_ #[t] ti #[v26]) w fun v29 w =>
  px P (Instr.sliceAt t v26 (some v29) (some v19) none) w fun v31 w =>
  px P (Builtin.clear_ #[t] t0 #[v31]) w fun _ w =>
  R v26 w
theorem delete_k [hS : SliceT P t e sz] [hE : ElemT P e sz by'] [hZ : Zero P e z] {ti t0 : TypeId} (hz : Atoms z) (hzl : z.length = sz)
    {v : Value} {i j : Nat} {xs : List Value} (hv : Own w v e sz n xs) (hi : i < j) (hj : j ≤ n) (hax : Atoms xs)
    (k : ∀ v' w1, Own w1 v' e sz (n - (j - i)) (xs.take (i * sz) ++ xs.drop (j * sz)) → Fr (fun b => v.ownBlock = some b) w w1 → (∀ b, v'.ownBlock = some b → v.ownBlock = some b) → K v' w1) :
    deleteF P t ti t0 K v (.int .i64 (i : Int)) (.int .i64 (j : Int)) w := by
  obtain ⟨ie, z', hie, _, hsize, hby, hzs, hpos⟩ := hE.row
  have hxlen := hv.1
  obtain ⟨g, cap, cs, rfl, hbg, hc1, hc2, hc3, hc4⟩ := hv.bk (by omega)
  have hisz : i * sz ≤ j * sz := Nat.mul_le_mul_right _ (by omega)
  have hjsz : j * sz ≤ n * sz := Nat.mul_le_mul_right _ hj
  have hncap : n * sz ≤ cap * sz := Nat.mul_le_mul_right _ hc1
  unfold deleteF
  refine px_run ?_
  refine px_of (slc_run (bounds_lhm (by omega) hj hc1)) ?_
  refine px_run ?_
  have hne : ¬ ((i : Int) = (j : Int)) := by omega
  simp only [hne, decide_false]
  refine cnd_false ?_
  refine px_run ?_
  refine dr_of ?_
  refine py_of (fun w' _ => slcB_h (P := P) (h := i) (by omega)) ?_
  refine py_of (fun w' _ => slc_run (P := P) (bounds_l (P := P) hj)) ?_
  have hbg1 := hbg.fr0 (Fr.dw w)
  have hsx : Sl (dw w) (sliced (some ⟨g, 0, none⟩) j n cap sz) sz (n - j) (xs.drop (j * sz)) := by
    have := (hv.fr0 (Fr.dw w)).sl.part (lo := j) hj (Nat.le_refl n) hc1 (Nat.le_refl cap)
    rwa [List.take_of_length_le (by rw [List.length_drop, hxlen, Nat.sub_mul]; exact Nat.le_refl _)] at this
  have hx : ∃ ad c, sliced (some ⟨g, 0, none⟩) j n cap sz = .slice (some ad) (n - j) c := by
    unfold sliced
    split
    · exact ⟨_, _, rfl⟩
    · exact ⟨_, _, rfl⟩
  obtain ⟨ad, c, hx⟩ := hx
  rw [hx] at hsx ⊢
  obtain ⟨hl5, ad', c', hva, hc5, hn5, hcell5⟩ := hsx
  cases hva
  have hnj : (n - j) * sz = n * sz - j * sz := Nat.sub_mul _ _ _
  have hr := run_append_room (P := P) (dw w) t t e ie hS.under hie g i cap cs.toArray hbg1 ad (n - j) c (xs.drop (j * sz)) (by rw [hsize]; exact hl5) (hcell5 ad rfl) (Atoms.one fun y hy => hax y (List.mem_of_mem_drop hy)) (by omega)
    (by rw [hsize, hl5]; simp only [List.size_toArray]; omega)
  rw [hsize] at hr
  refine px_of hr ?_
  have hb1 : Bk ((dw w).setRow g (cs.take (i * sz) ++ xs.drop (j * sz) ++ cs.drop (i * sz + (xs.drop (j * sz)).length)).toArray) g e (spl cs (i * sz) (xs.drop (j * sz))) := setRow_heap (dw w) g cs.toArray _ e _ hbg1
  have hf1 : Fr (fun b => b = g) (dw w) ((dw w).setRow g (cs.take (i * sz) ++ xs.drop (j * sz) ++ cs.drop (i * sz + (xs.drop (j * sz)).length)).toArray) :=
    ⟨rfl, rfl, rfl, by simp, fun k _ hk => setRow_other (dw w) g k _ (fun e => hk e)⟩
  generalize (dw w).setRow g (cs.take (i * sz) ++ xs.drop (j * sz) ++ cs.drop (i * sz + (xs.drop (j * sz)).length)).toArray = w1 at hb1 hf1
  refine px_run ?_
  have hnn : i + (n - j) = n - (j - i) := by omega
  rw [hnn]
  refine px_of (slcB_run (l := n - (j - i)) (h := n) (by omega) (by omega) (by omega)) ?_
  have hl1 : (spl cs (i * sz) (xs.drop (j * sz))).length = cs.length := spl_length (by rw [hl5]; omega)
  have hnm : (n - (j - i)) * sz = i * sz + (n * sz - j * sz) := by rw [← hnn, Nat.add_mul, hnj]
  have hlast : n - (n - (j - i)) = j - i := by omega
  have hji : (j - i) * sz = j * sz - i * sz := Nat.sub_mul _ _ _
  rw [hlast, Nat.zero_add]
  refine clear_k (P := P) hz hzl hpos hb1 (by omega) (by rw [hl1]; omega) fun w2 hb2 hf2 => ?_
  refine k _ w2 ⟨?_, .inr ⟨g, cap, (spl (spl cs (i * sz) (xs.drop (j * sz))) ((n - (j - i)) * sz) (List.replicate (j - i) z).flatten).toArray, rfl, Nat.zero_le _, hb2, by omega, hc2, ?_, ?_⟩⟩ (((Fr.dw w).of hf1 |>.two hf2).mono fun b hb' => by rw [hb']; rfl) fun b hb' => by cases hb'; rfl
  · rw [List.length_append, hl5, List.length_take]; omega
  · simp only [List.size_toArray]
    rw [spl_length (by rw [rep_len, hzl, hl1]; omega), hl1]
    exact hc3
  · have h1 : (spl cs (i * sz) (xs.drop (j * sz))).take ((n - (j - i)) * sz) = xs.take (i * sz) ++ xs.drop (j * sz) := by
      unfold spl
      have : cs.take (i * sz) = xs.take (i * sz) := by rw [← hc4, List.take_take, Nat.min_eq_left (by omega)]
      rw [this]
      apply List.take_left'
      rw [List.length_append, hl5, List.length_take]; omega
    simp only [spl]
    rw [List.append_assoc, List.take_append_of_le_length (by rw [List.length_take]; have := hl1; simp only [spl] at this; rw [this]; omega), List.take_take, Nat.min_self]
    exact h1

/-- slices.Grow. -/
def growF (P : Program) (t ti tb : TypeId) (msg : Value) (R : Value → World → Prop) (v0 v1 : Value) (w : World) : Prop :=
  px P (bin true .lss ti v1 (.int .i64 0)) w fun v6 w =>
  cut (fun J1 =>
    cnd v6 (
      px P (Instr.makeInterface tb msg) w fun _ _ =>
      False) (
      J1 [] w)) fun _ w =>
  px P (Builtin.cap_ #[t] ti #[v0]) w fun v10 w =>
  px P (Builtin.len_ #[t] ti #[v0]) w fun v12 w =>
  px P (bin false .sub ti v10 v12) w fun v13 w =>
  px P (bin false .sub ti v1 v13) w fun v14 w =>
  px P (bin true .gtr ti v14 (.int .i64 0)) w fun v16 w =>
  cut (fun J2 =>
    cnd v16 (
      px P (Builtin.cap_ #[t] ti #[v0]) w fun v19 w =>
      px P (Instr.sliceAt t v0 none (some v19) none) w fun v20 w =>
      px P (Builtin.append_ #[t, ti] t #[v20, v14]) w fun v22 w =>
      px P (Builtin.len_ #[t] ti #[v0]) w fun v24 w =>
      px P (Instr.sliceAt t v22 none (some v24) none) w fun v25 w =>
      J2 [v25] w) (
      J2 [v0] w)) fun vs2 w =>
  R (g0 vs2) w
theorem grow_nil_k [hS : SliceT P t e sz] [hE : ElemT P e sz by'] [hZ : Zero P e z] {ti tb : TypeId} {msg : Value} (hti : P.underlying ti = some (.int .i64)) (hb : n * by' ≤ 140737488355328) (hn : n ≤ 1000000000)
    (k : ∀ v' w1, Own w1 v' e sz 0 [] → Fr no w w1 → (∀ b, v'.ownBlock = some b → w.heap.size ≤ b) → K v' w1) :
    growF P t ti tb msg K (.slice none 0 0) (.int .i64 (n : Int)) w := by
  unfold growF
  have hneg : ¬ ((n : Int) < 0) := by omega
  refine px_run ?_
  simp only [hneg, decide_false]
  refine cut_of (fun _ w' => w' = w) (cnd_false rfl) ?_
  rintro _ w' rfl
  refine px_run ?_
  refine px_run ?_
  haveI : Fits .i64 ((((0 : Nat) : Int)) - ((0 : Nat) : Int)) := fits_i64 (by omega) (by omega)
  haveI : Fits .i64 ((n : Int) - (((0 : Nat) : Int) - ((0 : Nat) : Int))) := fits_i64 (by omega) (by omega)
  refine px_run ?_
  refine px_run ?_
  have hn0 : ((n : Int) - (((0 : Nat) : Int) - ((0 : Nat) : Int))) = (n : Int) := by omega
  rw [hn0]
  refine px_run ?_
  refine cut_of (fun vs w1 => ∃ v', vs = [v'] ∧ Own w1 v' e sz 0 [] ∧ Fr no w' w1 ∧ (∀ b, v'.ownBlock = some b → w'.heap.size ≤ b)) ?_ ?_
  · refine cnd_dec (fun hpos => ?_) (fun _ => ⟨_, rfl, ⟨by simp, .inl ⟨rfl, rfl⟩⟩, Fr.refl _ _, fun b hb => by cases hb⟩)
    refine px_run ?_
    refine px_of (slcB_h (h := 0) (Nat.le_refl _)) ?_
    obtain ⟨c, w1, hr, ho, hf⟩ := appendZ_run (P := P) (w := w') (t := t) (ty := t) (k := .i64) (n := n) (z := z) (m := 0) (cap := 0) (xs := []) hti rfl ⟨by simp, none, 0, rfl, Nat.le_refl _, fun _ => ⟨rfl, rfl⟩, fun _ h => by cases h⟩ (by omega) (by rw [Nat.zero_add]; exact hb) (by unfold maxLen; omega)
    refine px_of hr ?_
    refine px_run ?_
    refine px_of (slcB_h (h := 0) (Nat.zero_le _)) ?_
    obtain ⟨_, hs⟩ := ho
    rcases hs with ⟨h1, _⟩ | ⟨g, cap, cur, hv, _, hg, h1, h2, h3, h4⟩
    · cases h1
    · simp only [Value.slice.injEq, Option.some.injEq, Addr.mk.injEq, and_true] at hv
      obtain ⟨rfl, _, rfl⟩ := hv
      exact ⟨_, rfl, ⟨by simp, .inr ⟨_, c, cur, rfl, Nat.zero_le _, hg, Nat.zero_le _, h2, h3, by simp⟩⟩, hf, fun b hb => by cases hb; exact Nat.le_refl _⟩
  · rintro vs w1 ⟨v', rfl, h1, h2, h3⟩
    simp only [g0_cons]
    exact k v' w1 h1 h2 h3
/-- slices.Concat. -/
def concatF (P : Program) (t tt ti tb : TypeId) (gr : FuncId) (msg : Value) (R : Value → World → Prop) (v0 : Value) (w : World) : Prop :=
  px P (Builtin.len_ #[tt] ti #[v0]) w fun v10 w =>
  lp [(.int .i64 0), (.int .i64 0)] w fun again1 vs1 w =>
  px P (bin false .lss ti (g1 vs1) v10) w fun v12 w =>
  cnd v12 (
    px P (Instr.indexAt tt v0 (g1 vs1)) w fun v13 w =>
    px P (Instr.loadAt t v13) w fun v14 w =>
    px P (Builtin.len_ #[t] ti #[v14]) w fun v17 w =>
    px P (bin false .add ti (g0 vs1) v17) w fun v18 w =>
    px P (bin true .lss ti v18 (.int .i64 0)) w fun v20 w =>
    cut (fun J2 =>
      cnd v20 (
        px P (Instr.makeInterface tb msg) w fun _ _ =>
        False) (
        J2 [] w)) fun _ w =>
    px P (bin true .add ti (g1 vs1) (.int .i64 1)) w fun v22 w =>
    again1 [v18, v22] w) (
    cl P gr #[(.slice none 0 0), (g0 vs1)] w fun v24 w =>
    px P (Builtin.len_ #[tt] ti #[v0]) w fun v26 w =>
    lp [v24, (.int .i64 0)] w fun again3 vs3 w =>
    px P (bin false .lss ti (g1 vs3) v26) w fun v28 w =>
    cnd v28 (
      px P (Instr.indexAt tt v0 (g1 vs3)) w fun v29 w =>
      px P (Instr.loadAt t v29) w fun v30 w =>
      px P (Builtin.append_ #[t, t] t #[(g0 vs3), v30]) w fun v33 w =>
      px P (bin true .add ti (g1 vs3) (.int .i64 1)) w fun v34 w =>
      again3 [v33, v34] w) (
      R (g0 vs3) w))
abbrev Part := Value × Nat × List Value
def totN (ps : List Part) : Nat := (ps.map (·.2.1)).sum
def totX (ps : List Part) : List Value := ps.flatMap (·.2.2)
theorem totN_append (a b : List Part) : totN (a ++ b) = totN a + totN b := by unfold totN; rw [List.map_append, List.sum_append]
theorem totX_append (a b : List Part) : totX (a ++ b) = totX a ++ totX b := by unfold totX; rw [List.flatMap_append]
theorem totN_one (p : Part) : totN [p] = p.2.1 := by simp [totN]
theorem totX_one (p : Part) : totX [p] = p.2.2 := by simp [totX]
theorem totN_take {ps : List Part} {i : Nat} (h : i < ps.length) : totN (ps.take (i + 1)) = totN (ps.take i) + ps[i].2.1 := by
  rw [List.take_succ_eq_append_getElem h, totN_append, totN_one]
theorem totX_take {ps : List Part} {i : Nat} (h : i < ps.length) : totX (ps.take (i + 1)) = totX (ps.take i) ++ ps[i].2.2 := by
  rw [List.take_succ_eq_append_getElem h, totX_append, totX_one]
theorem totN_le {ps : List Part} (i : Nat) : totN (ps.take i) ≤ totN ps := by
  have h : totN (ps.take i ++ ps.drop i) = totN (ps.take i) + totN (ps.drop i) := totN_append _ _
  rw [List.take_append_drop] at h
  omega
theorem flatGet {α : Type} {f : α → List Value} {sz : Nat} : ∀ (l : List α) (j q : Nat), (∀ p ∈ l, (f p).length = sz) → (hj : j < l.length) → q < sz → (l.flatMap f)[j * sz + q]? = (f l[j])[q]?
  | [], j, q, _, hj, _ => by simp at hj
  | p :: l, 0, q, h, _, hq => by
    have := h p (.head _)
    simp only [List.flatMap_cons, Nat.zero_mul, Nat.zero_add, List.getElem_cons_zero]
    rw [List.getElem?_append_left (by omega)]
  | p :: l, j + 1, q, h, hj, hq => by
    have hp := h p (.head _)
    have ih := flatGet l j q (fun x hx => h x (.tail _ hx)) (by simpa using hj) hq
    simp only [List.flatMap_cons, List.getElem_cons_succ]
    rw [List.getElem?_append_right (by rw [hp, Nat.add_mul]; omega), hp, show (j + 1) * sz + q - sz = j * sz + q by rw [Nat.add_mul]; omega]
    exact ih
theorem concat_k {tt : TypeId} [hS : SliceT P t e sz] [hT : SliceT P tt t 1] [hPl : Plain P t] [hE : ElemT P e sz by'] {ti tb : TypeId} {gr : FuncId} {msg v : Value} {ps : List Part}
    (hv : Sl w v 1 ps.length (ps.map (·.1))) (hp : ∀ p ∈ ps, Sl w p.1 sz p.2.1 p.2.2 ∧ Atoms p.2.2) (hb : totN ps * by' ≤ 100000000000) (hn : totN ps ≤ 1000000000) (hl : ps.length ≤ 1000000000)
    (hgr : ∀ (K' : Value → World → Prop), (∀ v' w1, Own w1 v' e sz 0 [] → Fr no w w1 → (∀ b, v'.ownBlock = some b → w.heap.size ≤ b) → K' v' w1) → cl P gr #[.slice none 0 0, .int .i64 (totN ps : Int)] w K')
    (k : ∀ v' w1, Own w1 v' e sz (totN ps) (totX ps) → Fr no w w1 → (∀ b, v'.ownBlock = some b → w.heap.size ≤ b) → K v' w1) : concatF P t tt ti tb gr msg K v w := by
  unfold concatF
  obtain ⟨_, av, cv', rfl, _⟩ := id hv
  refine px_run ?_
  refine lp_of (fun vs w' => ∃ i : Nat, vs = [.int .i64 (totN (ps.take i) : Int), .int .i64 (i : Int)] ∧ w' = w ∧ i ≤ ps.length)
    (fun vs _ => (match vs with | [_, .int _ m] => (ps.length - m).toNat | _ => 0)) ⟨0, rfl, rfl, Nat.zero_le _⟩ ?_
  rintro vs w' ⟨i, rfl, rfl, hi⟩
  simp only [g0_cons, g1_cons]
  refine px_run ?_
  refine cnd_dec (fun hlt => ?_) (fun hge => ?_)
  · have hi' : i < ps.length := by omega
    have hsl := (hp _ (List.getElem_mem hi')).1
    have ht := totN_take hi'
    have hle := totN_le (ps := ps) (i + 1)
    refine idx_s (P := P) hv (by omega) i rfl hi' fun b o _ hcell => ?_
    have hc0 := hcell 0 (by omega)
    rw [Nat.mul_one, Nat.add_zero, Nat.add_zero, List.getElem?_map, List.getElem?_eq_getElem hi'] at hc0
    refine ld1 (P := P) hc0 ?_
    generalize hpe : ps[i] = p at hsl ht
    obtain ⟨pv, pn, px'⟩ := p
    obtain ⟨_, ap, cp, hpv, _⟩ := id hsl
    simp only at hpv hsl ht ⊢
    subst hpv
    refine px_run ?_
    haveI : Fits .i64 ((totN (ps.take i) : Int) + (pn : Int)) := fits_i64 (by omega) (by omega)
    haveI : Fits .i64 ((i : Int) + 1) := fits_i64 (by omega) (by omega)
    refine px_run ?_
    refine px_run ?_
    have hneg : ¬ (((totN (ps.take i) : Int) + (pn : Int)) < 0) := by omega
    simp only [hneg, decide_false]
    refine cut_of (fun _ w1 => w1 = w') (cnd_false rfl) ?_
    rintro _ w1 rfl
    refine px_run ?_
    refine ⟨⟨i + 1, by rw [ht]; rfl, rfl, by omega⟩, ?_⟩
    show ((ps.length : Int) - ((i : Int) + 1)).toNat < ((ps.length : Int) - i).toNat
    omega
  · have hieq : i = ps.length := by omega
    subst hieq
    rw [List.take_length]
    refine cl_k (hgr _ fun v' w1 h1 h2 h3 => ?_) (fun v w h => h)
    refine px_run ?_
    refine lp_of (fun vs w2 => ∃ (i : Nat) (v2 : Value), vs = [v2, .int .i64 (i : Int)] ∧ i ≤ ps.length ∧ Own w2 v2 e sz (totN (ps.take i)) (totX (ps.take i)) ∧ Fr no w' w2 ∧ (∀ b, v2.ownBlock = some b → w'.heap.size ≤ b))
      (fun vs _ => (match vs with | [_, .int _ m] => (ps.length - m).toNat | _ => 0)) ⟨0, v', rfl, Nat.zero_le _, h1, h2, h3⟩ ?_
    rintro vs w2 ⟨i, v2, rfl, hi, ho, hf, hnew⟩
    simp only [g0_cons, g1_cons]
    refine px_run ?_
    refine cnd_dec (fun hlt => ?_) (fun hge => ?_)
    · have hi' : i < ps.length := by omega
      have hsl := (hp _ (List.getElem_mem hi'))
      have ht := totN_take hi'
      have htx := totX_take hi'
      have hle := totN_le (ps := ps) (i + 1)
      refine idx_s (P := P) (hv.fr0 hf) (by omega) i rfl hi' fun b o _ hcell => ?_
      have hc0 := hcell 0 (by omega)
      rw [Nat.mul_one, Nat.add_zero, Nat.add_zero, List.getElem?_map, List.getElem?_eq_getElem hi'] at hc0
      refine ld1 (P := P) hc0 ?_
      have hbb : (totN (ps.take i) + ps[i].2.1) * by' ≤ 140737488355328 := by
        rw [← ht]
        exact Nat.le_trans (Nat.mul_le_mul_right _ hle) (by omega)
      refine append_k (P := P) ho (hsl.1.fr0 hf) hsl.2 (by unfold maxLen; omega) hbb fun v3 w3 ho3 hf3 hown3 => ?_
      haveI : Fits .i64 ((i : Int) + 1) := fits_i64 (by omega) (by omega)
      refine px_run ?_
      refine ⟨⟨i + 1, v3, rfl, by omega, by rw [ht, htx]; exact ho3, hf.new hf3 (fun b hb' => hnew b hb'), fun b hb' => ?_⟩, ?_⟩
      · rcases hown3 b hb' with h4 | h4
        · exact hnew b h4
        · have := hf.size; omega
      · show ((ps.length : Int) - ((i : Int) + 1)).toNat < ((ps.length : Int) - i).toNat
        omega
    · have hieq : i = ps.length := by omega
      subst hieq
      rw [List.take_length] at ho
      exact k v2 w2 ho hf hnew
/-- slices.IndexFunc, the element a value. -/
def indexF (P : Program) (t ti te : TypeId) (R : Value → World → Prop) (v0 v1 : Value) (w : World) : Prop :=
  px P (Builtin.len_ #[t] ti #[v0]) w fun v7 w =>
  lp [(.int .i64 0)] w fun again1 vs1 w =>
  px P (bin false .lss ti (g0 vs1) v7) w fun v9 w =>
  cnd v9 (
    px P (Instr.indexAt t v0 (g0 vs1)) w fun v14 w =>
    px P (Instr.loadAt te v14) w fun v15 w =>
    cv P v1 #[v15] w fun v16 w =>
    cnd v16 (
      R (g0 vs1) w) <|
    px P (bin true .add ti (g0 vs1) (.int .i64 1)) w fun v18 w =>
    again1 [v18] w) (
    R (.int .i64 (-1)) w)
/-- The first index at which a test is met. -/
def fidx {α : Type} (q : α → Bool) : List α → Int
  | [] => -1
  | a :: l => if q a then 0 else (if fidx q l = -1 then -1 else fidx q l + 1)
theorem fidx_cons {α : Type} (q : α → Bool) (a : α) (l : List α) : fidx q (a :: l) = if q a then 0 else (if fidx q l = -1 then -1 else fidx q l + 1) := rfl
theorem fidx_ge {α : Type} {q : α → Bool} : ∀ {l : List α}, -1 ≤ fidx q l ∧ fidx q l < l.length
  | [] => by simp [fidx]
  | a :: l => by
    have := fidx_ge (q := q) (l := l)
    unfold fidx
    simp only [List.length_cons]
    split
    · omega
    · split <;> omega
theorem index_k {α : Type} [hS : SliceT P t e sz] {ti te : TypeId} {v : Value} {l : List α} {enc : α → List Value} {ev : α → Value} {q : α → Bool} {g : FuncId} {cap : Array Value} {Inv : World → Prop}
    (hv : Sl w v sz l.length (l.flatMap enc)) (hpos : 0 < sz) (hl : l.length ≤ 1000000000) (henc : ∀ a ∈ l, (enc a).length = sz)
    (hld : ∀ a ∈ l, ∀ (b o : Nat) (w' : World) (K' : Value → World → Prop), (∀ r, r < sz → w'.cell? ⟨b, o + r, none⟩ = (enc a)[r]?) → K' (ev a) w' → px P (Instr.loadAt te (.pointer (some ⟨b, o, none⟩))) w' K')
    (hi0 : Inv w) (hq : ∀ a ∈ l, ∀ w1 (K' : Value → World → Prop), Inv w1 → Fr no w w1 → (∀ w2, Inv w2 → Fr no w1 w2 → K' (.bool (q a)) w2) → cl P g ((#[] ++ #[ev a]) ++ cap) w1 K')
    (k : ∀ w1, Inv w1 → Fr no w w1 → K (.int .i64 (fidx q l)) w1) : indexF P t ti te K v (.func (.func g) #[] cap) w := by
  unfold indexF
  obtain ⟨_, av, cv', rfl, _⟩ := id hv
  refine px_run ?_
  refine lp_of (fun vs w' => ∃ i : Nat, vs = [.int .i64 (i : Int)] ∧ i ≤ l.length ∧ Inv w' ∧ Fr no w w' ∧ (fidx q l = if fidx q (l.drop i) = -1 then -1 else fidx q (l.drop i) + i))
    (fun vs _ => (match vs with | [.int _ m] => (l.length - m).toNat | _ => 0)) ⟨0, rfl, Nat.zero_le _, hi0, Fr.refl _ _, by simp⟩ ?_
  rintro vs w1 ⟨i, rfl, hi, hinv, hf, hfi⟩
  simp only [g0_cons]
  refine px_run ?_
  refine cnd_dec (fun hlt => ?_) (fun hge => ?_)
  · have hi' : i < l.length := by omega
    have hdrop : l.drop i = l[i] :: l.drop (i + 1) := List.drop_eq_getElem_cons hi'
    rw [hdrop] at hfi
    refine idx_s (P := P) (hv.fr0 hf) hpos i rfl hi' fun b o _ hcell => ?_
    have hfl : ∀ r, r < sz → (l.flatMap enc)[i * sz + r]? = (enc l[i])[r]? := fun r hr => flatGet l i r henc hi' hr
    refine hld l[i] (List.getElem_mem hi') b o w1 _ (fun r hr => by rw [hcell r hr, hfl r hr]) ?_
    refine cv_k ?_
    refine hq l[i] (List.getElem_mem hi') w1 _ hinv hf fun w2 hi2 hf2 => ?_
    have hf12 := hf.trans hf2 (fun _ h => by cases h)
    rw [fidx_cons] at hfi
    refine cnd_of (fun hqt => ?_) (fun hqf => ?_)
    · have : fidx q l = (i : Int) := by
        simp only [hqt, if_true] at hfi
        rw [hfi, if_neg (by omega)]; omega
      rw [← this]
      exact k w2 hi2 hf12
    · haveI : Fits .i64 ((i : Int) + 1) := fits_i64 (by omega) (by omega)
      refine px_run ?_
      refine ⟨⟨i + 1, rfl, by omega, hi2, hf12, ?_⟩, ?_⟩
      · simp only [hqf, Bool.false_eq_true, if_false] at hfi
        have := (fidx_ge (q := q) (l := l.drop (i + 1))).1
        by_cases h5 : fidx q (l.drop (i + 1)) = -1
        · rw [if_pos h5, if_pos rfl] at hfi
          rw [if_pos h5]; exact hfi
        · rw [if_neg h5, if_neg (by omega)] at hfi
          rw [if_neg h5, hfi]
          omega
      · show ((l.length : Int) - ((i : Int) + 1)).toNat < ((l.length : Int) - i).toNat
        omega
  · have hieq : i = l.length := by omega
    subst hieq
    rw [List.drop_length] at hfi
    have : fidx q l = -1 := by rw [hfi]; simp [fidx]
    rw [← this]
    exact k w1 hinv hf
end
theorem Own.atom {w : World} {v : Value} {e : TypeId} {sz n : Nat} {xs : List Value} (h : Own w v e sz n xs) : ∃ a c, v = .slice a n c := by
  obtain ⟨_, a, c, rfl, _⟩ := h.sl
  exact ⟨a, c, rfl⟩
theorem Own.frb {w w' : World} {v : Value} {e t : TypeId} {sz n b : Nat} {xs cs : List Value} (h : Own w v e sz n xs) (f : Fr (fun i => i = b) w w') (hb : Bk w b t cs) (ht : t ≠ e) : Own w' v e sz n xs :=
  h.fr f fun _ hb' e' => h.ne_bk hb ht (e' ▸ hb')
theorem Bk.frb {w w' : World} {t : TypeId} {b b' : Nat} {cs : List Value} (h : Bk w b t cs) (f : Fr (fun i => i = b') w w') (hn : b ≠ b') : Bk w' b t cs := h.fr f hn

/-! ### Slices of some parts -/
section
variable {P : Program} {w : World} {t e : TypeId} {sz n : Nat} {z : List Value} {K : Value → World → Prop}
theorem bslice_run [hS : SliceT P t e sz] [hZ : Zero P e z] {parts : List (Nat × Value)} {xs : List Value} (hz : z.length = sz) (hpos : 0 < sz) (hn : 0 < n) (hmax : n * sz ≤ 16777216)
    (hf : Instr.fill (fun i => some (i * sz, sz)) (List.replicate n z).flatten.toArray parts = some xs.toArray) :
    (Instr.buildSlice t n parts.toArray).run P w = .ok (.slice (some ⟨w.heap.size, 0, none⟩) n n) (w.alloc (.cells xs.toArray e)) := by
  obtain ⟨zv, hzr, hzc⟩ := hZ.run w
  have hr := made_rep (z := z) (by omega) n
  rw [hz] at hr
  unfold madeCells at hr
  have hne : ¬ n * sz = 0 := Nat.mul_ne_zero (by omega) (by omega)
  have hmx : ¬ (16777216 < n * sz) := by omega
  simp only [Instr.buildSlice, Sem.run_bind, run_underlying hS.under, Result.andThen_ok, SliceT.sizeOf (P := P) (t := t)]
  rw [if_neg (by simpa using hmx)]
  simp only [if_neg hne, Sem.run_bind, hzr, Result.andThen_ok, Sem.run_pure, hzc, hr, hf]
  rfl
theorem bslice_own {xs : List Value} (hx : xs.length = n * sz) (hn : n ≤ maxLen) : Own (w.alloc (.cells xs.toArray e)) (.slice (some ⟨w.heap.size, 0, none⟩) n n) e sz n xs :=
  ⟨hx, .inr ⟨w.heap.size, n, xs.toArray, rfl, Nat.zero_le _, heap_alloc_new w _, Nat.le_refl _, hn, by simp [hx], by simp; exact List.take_of_length_le (by omega)⟩⟩
end

section
variable {P : Program} {w : World} {t e : TypeId} {sz n : Nat}
theorem slcY_h [hS : SliceT P t e sz] {C : World → Prop} {K : Value → Prop} {v : Value} {xs : List Value} {k' : IntKind} {h : Int} (hi : Nat) (hh : h = (hi : Int)) (hv : Sl w v sz n xs) (h2 : hi ≤ n)
    (K1 : ∀ v', Sl w v' sz hi (xs.take (hi * sz)) → (∀ b, v'.ownBlock = some b → v.ownBlock = some b) → K v') :
    py P C (Instr.sliceAt t v none (some (.int k' h)) none) K := by
  subst hh
  obtain ⟨hx, a, cap, rfl, hc, r⟩ := id hv
  have := hv.part (lo := 0) (Nat.zero_le hi) h2 (by omega) (Nat.le_refl cap)
  simp only [Nat.zero_mul, List.drop_zero, Nat.sub_zero] at this
  exact py_of (fun w' _ => slc_run (bounds_h (by omega))) (K1 _ this fun b => sliced_own)
theorem slcY_l [hS : SliceT P t e sz] {C : World → Prop} {K : Value → Prop} {v : Value} {xs : List Value} {k' : IntKind} {l : Int} (lo : Nat) (hh : l = (lo : Int)) (hv : Sl w v sz n xs) (h2 : lo ≤ n)
    (K1 : ∀ v', Sl w v' sz (n - lo) (xs.drop (lo * sz)) → (∀ b, v'.ownBlock = some b → v.ownBlock = some b) → K v') :
    py P C (Instr.sliceAt t v (some (.int k' l)) none none) K := by
  subst hh
  obtain ⟨hx, a, cap, rfl, hc, r⟩ := id hv
  have := hv.part (lo := lo) h2 (Nat.le_refl n) (by omega) (Nat.le_refl cap)
  rw [List.take_of_length_le (by rw [List.length_drop, hx, Nat.sub_mul]; exact Nat.le_refl _)] at this
  exact py_of (fun w' _ => slc_run (bounds_l (by omega))) (K1 _ this fun b => sliced_own)
instance {ts : Array TypeId} {t : TypeId} {k k' : IntKind} {x y : Int} : Rn P (Builtin.min_ ts t #[.int k x, .int k' y]) w (.int k (if y < x then y else x)) w := ⟨run_min_int2 w ts t k k' x y⟩
instance {ts : Array TypeId} {t : TypeId} {k k' : IntKind} {x y : Int} : Rn P (Builtin.max_ ts t #[.int k x, .int k' y]) w (.int k (if y > x then y else x)) w := ⟨run_max_int2 w ts t k k' x y⟩
theorem neg_run {n : Int} : (Op.unary .neg (.int .i64 n)).run P w = .ok (.int .i64 (IntKind.i64.wrap (0 - n))) w := rfl
end
end Go.V
