/-
  Rules for the conditions of V.lean, third part: strings (as lists of bytes), copy. Nothing of a program is in this text.
-/
import Derived.Test.YtomggfibpbaodaaGreatDoorR2
import Derived.Lib.AppendStr
import Derived.Laws.BytesArg
import Derived.Laws.Concat
import Derived.Laws.Strings
import Derived.Laws.Strings2
import Derived.Laws.Strings3
import Derived.Laws.Slices
namespace Go.V
open Go

abbrev Str := List UInt8
/-- A string's value. -/
def sv (l : Str) : Value := .string ⟨l.toArray⟩
def bs (l : List UInt8) : List Value := l.map fun c => .int .u8 (c.toNat : Int)
instance {l : Str} : Atom (sv l) := inferInstanceAs (Atom (.string _))
theorem bs_length (l : List UInt8) : (bs l).length = l.length := by simp [bs]
theorem bs_append (a b : List UInt8) : bs (a ++ b) = bs a ++ bs b := by simp [bs]
theorem bs_take (a : List UInt8) (n : Nat) : (bs a).take n = bs (a.take n) := by simp [bs, List.map_take]
theorem bs_drop (a : List UInt8) (n : Nat) : (bs a).drop n = bs (a.drop n) := by simp [bs, List.map_drop]
theorem atoms_bs (l : List UInt8) : Atoms (bs l) := fun x hx => by
  obtain ⟨c, _, rfl⟩ := List.mem_map.1 hx
  exact inferInstance
theorem bs_spl (cs ys : List UInt8) (o : Nat) : spl (bs cs) o (bs ys) = bs (cs.take o ++ ys ++ cs.drop (o + ys.length)) := by
  simp [spl, bs, List.map_take, List.map_drop]
theorem sv_ba (s : ByteArray) : Value.string s = sv s.data.toList := by simp [sv]
theorem sv_inj {a b : Str} (h : sv a = sv b) : a = b := by
  simp only [sv, Value.string.injEq, ByteArray.mk.injEq] at h
  simpa using h
/-- The order of strings. -/
def ltS (a b : Str) : Bool := Op.bytesLess a b
theorem ltS_irrefl : ∀ a : Str, ltS a a = false
  | [] => rfl
  | a :: l => by simp [ltS, Op.bytesLess]; exact ltS_irrefl l
theorem ltS_trans : ∀ {a b c : Str}, ltS a b = true → ltS b c = true → ltS a c = true
  | _, [], _, h, _ => by simp [ltS, Op.bytesLess] at h
  | _, _ :: _, [], _, h => by simp [ltS, Op.bytesLess] at h
  | [], _ :: _, _ :: _, _, _ => rfl
  | a :: x, b :: y, c :: z, h, k => by
    simp only [ltS, Op.bytesLess, Bool.or_eq_true, decide_eq_true_eq, Bool.and_eq_true, beq_iff_eq] at h k ⊢
    rcases h with h | ⟨rfl, h⟩
    · rcases k with k | ⟨rfl, k⟩
      · exact .inl (UInt8.lt_trans h k)
      · exact .inl h
    · rcases k with k | ⟨rfl, k⟩
      · exact .inl k
      · exact .inr ⟨rfl, ltS_trans h k⟩
theorem ltS_tri : ∀ (a b : Str), ltS a b = true ∨ a = b ∨ ltS b a = true
  | [], [] => .inr (.inl rfl)
  | [], _ :: _ => .inl rfl
  | _ :: _, [] => .inr (.inr rfl)
  | a :: x, b :: y => by
    simp only [ltS, Op.bytesLess, Bool.or_eq_true, decide_eq_true_eq, Bool.and_eq_true, beq_iff_eq]
    rcases Nat.lt_trichotomy a.toNat b.toNat with h | h | h
    · exact .inl (.inl h)
    · have : a = b := UInt8.toNat_inj.1 h
      subst this
      rcases ltS_tri x y with h | rfl | h
      · exact .inl (.inr ⟨rfl, h⟩)
      · exact .inr (.inl rfl)
      · exact .inr (.inr (.inr ⟨rfl, h⟩))
    · exact .inr (.inr (.inl h))
theorem ltS_asymm {a b : Str} (h : ltS a b = true) : ltS b a = false := by
  cases h2 : ltS b a
  · rfl
  · have := ltS_trans h h2; rw [ltS_irrefl] at this; cases this
theorem leS_eq (a b : Str) : (ltS a b || decide (a = b)) = !ltS b a := by
  rcases ltS_tri a b with h | rfl | h
  · simp [h, ltS_asymm h]
  · simp [ltS_irrefl]
  · have h2 : a ≠ b := fun e => by subst e; rw [ltS_irrefl] at h; cases h
    simp [h, ltS_asymm h, h2]

class StrT (P : Program) (t : TypeId) : Prop where
  under : P.underlying t = some .string
section
variable {P : Program} {w : World} {t : TypeId} {c : Bool} {a b : Str}
theorem toList_mk (l : Str) : (ByteArray.mk l.toArray).toList = l := by rw [ByteArray.toList_eq]
theorem beqS : (a == b) = decide (a = b) := by
  by_cases h : a = b <;> simp [h]
instance [StrT P t] : Rn P (bin c .eql t (sv a) (sv b)) w (.bool (decide (a = b))) w := ⟨by
  refine bin_of _ _ _ (by cases c <;> rfl) ?_
  simp only [sv, binOp, Op.stringOp, toList_mk, beqS]; rfl⟩
instance [StrT P t] : Rn P (bin c .neq t (sv a) (sv b)) w (.bool (decide (a ≠ b))) w := ⟨by
  refine bin_of _ _ _ (by cases c <;> rfl) ?_
  simp only [sv, binOp, Op.stringOp, toList_mk, beqS, decide_not]; rfl⟩
instance : Rn P (bin c .lss t (sv a) (sv b)) w (.bool (ltS a b)) w := ⟨by
  refine bin_of _ _ _ (by cases c <;> rfl) ?_
  simp only [sv, binOp, Op.stringOp, toList_mk]; rfl⟩
instance : Rn P (bin c .geq t (sv a) (sv b)) w (.bool (!ltS a b)) w := ⟨by
  refine bin_of _ _ _ (by cases c <;> rfl) ?_
  simp only [sv, binOp, Op.stringOp, toList_mk]; rfl⟩
instance : Rn P (bin c .leq t (sv a) (sv b)) w (.bool (!ltS b a)) w := ⟨by
  refine bin_of _ _ _ (by cases c <;> rfl) ?_
  have := leS_eq a b
  unfold ltS at this
  simp only [sv, binOp, Op.stringOp, toList_mk, beqS, this]; rfl⟩
instance : Rn P (bin c .gtr t (sv a) (sv b)) w (.bool (ltS b a)) w := ⟨by
  refine bin_of _ _ _ (by cases c <;> rfl) ?_
  have := leS_eq a b
  unfold ltS at this
  simp only [sv, binOp, Op.stringOp, toList_mk, beqS, this, Bool.not_not]; rfl⟩
theorem addS_run (h : a.length + b.length ≤ 9223372036854775807) : (bin c .add t (sv a) (sv b)).run P w = .ok (sv (a ++ b)) w := by
  refine bin_of _ _ _ (by cases c <;> rfl) ?_
  have := run_string_add_sum (P := P) w ⟨a.toArray⟩ ⟨b.toArray⟩ (by simpa [ByteArray.size] using h)
  simp only [sv, binOp]
  rw [this]
  congr 2
instance [h : StrT P t] {ty : TypeId} : Rn P (Builtin.len_ #[t] ty #[sv a]) w (.int .i64 (a.length : Int)) w := ⟨by
  unfold sv
  rw [run_len_string w t ty _ h.under]
  simp [goInt, ByteArray.size]⟩
theorem sls_run [h : StrT P t] {kl kh : IntKind} {i j : Int} (h0 : 0 ≤ i) (h1 : i ≤ j) (h2 : j ≤ (a.length : Int)) :
    (Instr.sliceAt t (sv a) (some (.int kl i)) (some (.int kh j)) none).run P w = .ok (sv ((a.drop i.toNat).take (j.toNat - i.toNat))) w := by
  unfold sv
  rw [run_sliceAt_string w t _ _ _ _ h.under, run_slice_string w t _ kl kh i j h.under h0 h1 (by simpa [ByteArray.size] using h2), ByteArray.extract_mk]
theorem sls_to_run [h : StrT P t] {kh : IntKind} {j : Int} (h1 : 0 ≤ j) (h2 : j ≤ (a.length : Int)) :
    (Instr.sliceAt t (sv a) none (some (.int kh j)) none).run P w = .ok (sv (a.take j.toNat)) w := by
  unfold sv
  rw [run_sliceAt_string w t _ _ _ _ h.under, run_slice_string_h w t _ h.under kh j h1 (by simpa [ByteArray.size] using h2), ByteArray.extract_mk]
  rw [List.drop_zero, Nat.sub_zero]
theorem sls_from_run [h : StrT P t] {kh : IntKind} {j : Int} (h1 : 0 ≤ j) (h2 : j ≤ (a.length : Int)) :
    (Instr.sliceAt t (sv a) (some (.int kh j)) none none).run P w = .ok (sv (a.drop j.toNat)) w := by
  unfold sv
  rw [run_sliceAt_string w t _ _ _ _ h.under, run_slice_string_l w t _ h.under kh j h1 (by simpa [ByteArray.size] using h2), ByteArray.extract_mk]
  congr 4
  apply List.take_of_length_le
  simp [ByteArray.size]
end

/-! ### Bytes as a string -/
class ByteT (P : Program) (t e : TypeId) : Prop where
  under : P.underlying t = some (.slice e)
  elem : P.underlying e = some (.int .u8)
section
variable {P : Program} {w : World} {t u e : TypeId} {K : Value → World → Prop}
theorem strOfNums_bs (l : List UInt8) : Value.string (strOfNums (l.map fun c => (c.toNat : Int))) = sv l := by
  unfold sv
  congr 1
  apply ByteArray.ext
  apply Array.toList_inj.1
  rw [strOfNums_data, List.map_map]
  conv => rhs; rw [← List.map_id l]
  apply List.map_congr_left
  intro x _
  simp
theorem convS_run (ht : P.underlying t = some (.slice e)) (he : P.underlying e = some (.int .u8)) [hu : StrT P u] {v : Value} {n : Nat} {l : List UInt8} (h : Sl w v 1 n (bs l)) :
    (convert t u v).run P w = .ok (sv l) w := by
  obtain ⟨hl, a, cap, rfl, hc, hnil, hcell⟩ := h
  rw [bs_length, Nat.mul_one] at hl
  cases a with
  | none =>
    have : l = [] := List.eq_nil_of_length_eq_zero (by rw [hl]; exact (hnil rfl).1)
    subst this
    exact run_convert_bytes_nil (P := P) w t e ht he n cap u hu.under
  | some ad =>
    by_cases h0 : n = 0
    · subst h0
      have : l = [] := List.eq_nil_of_length_eq_zero hl
      subst this
      rw [run_convert_bytes_string w t u e _ _ _ ht he hu.under, run_bytesToString w ad 0 cap [] (by simp [loadCells, loadCellsFrom])]
      rfl
    · have hx : ∃ b o, ad = ⟨b, o, none⟩ := by
        obtain ⟨b, o, _, hv, _⟩ := Sl.addr (w := w) (v := .slice (some ad) n cap) (sz := 1) (n := n) (xs := bs l) ⟨by rw [bs_length, hl, Nat.mul_one], some ad, cap, rfl, hc, hnil, hcell⟩ (by omega) (by omega)
        simp only [Value.slice.injEq, Option.some.injEq] at hv
        exact ⟨b, o, hv.1⟩
      obtain ⟨b, o, rfl⟩ := hx
      rw [run_convert_bytes_arg (P := P) w t e ht he b o n cap (l.map fun c => (c.toNat : Int)) (by simpa using hl) (fun i hi => by
        have := hcell _ rfl i (.int .u8 ((l[i]'(by omega)).toNat : Int)) (by simp [bs, hl, hi])
        rw [addr_add] at this
        rw [this]
        simp [List.getD, hl, hi]) u hu.under, strOfNums_bs]
theorem append_str_run [hS : SliceT P t e 1] [hu : StrT P u] {i : TypeInfo} (hi : P.info? e = some i) (hz : i.zero = some (.int .u8 0)) (hsize : i.size = 1) (hby : i.bytes = 1)
    {s : Value} {n : Nat} {xs : List Value} {l : Str} {ty : TypeId} (hs : Own w s e 1 n xs) (h63 : n + l.length ≤ maxLen) (hb : n + l.length ≤ 140737488355328) :
    ∃ v' w1, (Builtin.append_ #[t, u] ty #[s, sv l]).run P w = .ok v' w1 ∧ Own w1 v' e 1 (n + l.length) (xs ++ bs l) ∧ Fr (fun b => s.ownBlock = some b) w w1 ∧
      (∀ b, v'.ownBlock = some b → s.ownBlock = some b ∨ w.heap.size ≤ b) := by
  have hsz : (ByteArray.mk l.toArray).size = l.length := by simp [ByteArray.size]
  have hcl : Lib.strCells ⟨l.toArray⟩ = bs l := by simp [Lib.strCells, bs]
  have low : ∀ {w1 : World} {v' : Value} {m : Nat} {zs : List Value}, w1.ownsRow w.heap.size e 1 v' m zs → Own w1 v' e 1 m zs ∧ ∀ b, v'.ownBlock = some b → w.heap.size ≤ b := fun {w1 v' m zs} h =>
    ⟨⟨h.1, h.2.imp id fun ⟨g, c, cur, h1, _, h2⟩ => ⟨g, c, cur, h1, Nat.zero_le _, h2⟩⟩, fun b hb => (World.ownsRow.lt h b hb).1⟩
  rcases hs.2 with ⟨rfl, rfl⟩ | ⟨g, cap', cur, rfl, _, hg, hn, hm, hcs, htake⟩
  · obtain ⟨v', w1, hr, ho, hgr, _⟩ := Lib.run_append_own_string (P := P) w w.heap.size t u ty e i hS.under hu.under hi hz hsize hby (.slice none 0 0) 0 xs ⟨hs.1, .inl ⟨rfl, rfl⟩⟩ ⟨l.toArray⟩ (by rw [hsz]; exact h63) (by rw [hsz]; exact hb) (Nat.le_refl _)
    rw [hsz, hcl] at ho
    obtain ⟨h2, h3⟩ := low ho
    exact ⟨v', w1, hr, h2, grownBy_fr hgr, fun b hb => .inr (h3 b hb)⟩
  · obtain ⟨v', w1, hr, ho, hgr, _⟩ := Lib.run_append_own_string (P := P) w 0 t u ty e i hS.under hu.under hi hz hsize hby _ n xs hs ⟨l.toArray⟩ (by rw [hsz]; exact h63) (by rw [hsz]; exact hb) (Nat.zero_le _)
    rw [hsz, hcl] at ho
    by_cases hroom : n + l.length ≤ cap'
    · have hr2 := Lib.run_append_room_string (P := P) w t u ty e i hS.under hu.under hi hsize g n cap' cur hg ⟨l.toArray⟩ (by rw [hsz]; exact hroom) (by rw [hsz]; omega)
      rw [hr2] at hr
      cases hr
      refine ⟨_, _, hr2, ?_, grownBy_fr hgr, fun b hb => .inl hb⟩
      rw [hsz]; exact ho
    · have hr2 := Lib.run_append_grow_string (P := P) w t u ty e i (.int .u8 0) hS.under hu.under hi hz ⟨g, 0, none⟩ n cap' xs (by rw [hsize]; exact hs.1) (World.ownsRow.cells hs rfl) ⟨l.toArray⟩ (by rw [hsz]; omega) (by rw [hsz]; simp only [maxLen] at h63; omega) (by rw [hby, hsz]; exact growslice_fits (by omega) (by omega))
      rw [hr2] at hr
      cases hr
      refine ⟨_, _, hr2, ?_, grownBy_fr hgr, fun b hb => .inr (by cases hb; exact Nat.le_refl _)⟩
      rw [hsz]; exact ho
end

class ByteE (P : Program) (e : TypeId) : Prop where
  row : ∃ i, P.info? e = some i ∧ i.zero = some (.int .u8 0) ∧ i.size = 1 ∧ i.bytes = 1
  under : P.underlying e = some (.int .u8)
section
variable {P : Program} {w : World} {t u e : TypeId} {K : Value → World → Prop}
theorem convS_k [hS : SliceT P t e 1] [hE : ByteE P e] [hu : StrT P u] {v : Value} {n : Nat} {l : List UInt8} (h : Sl w v 1 n (bs l)) (k : K (sv l) w) : px P (convert t u v) w K :=
  px_of (convS_run hS.under hE.under h) k
theorem append_str_k [hS : SliceT P t e 1] [hE : ByteE P e] [hu : StrT P u] {s : Value} {n : Nat} {xs : List Value} {l : Str} {ty : TypeId} (hs : Own w s e 1 n xs) (h63 : n + l.length ≤ 140737488355328)
    (k : ∀ v' w1, Own w1 v' e 1 (n + l.length) (xs ++ bs l) → Fr (fun b => s.ownBlock = some b) w w1 → (∀ b, v'.ownBlock = some b → s.ownBlock = some b ∨ w.heap.size ≤ b) → K v' w1) :
    px P (Builtin.append_ #[t, u] ty #[s, sv l]) w K := by
  obtain ⟨i, hi, hz, hsize, hby⟩ := hE.row
  obtain ⟨v', w1, hr, h1, h2, h3⟩ := append_str_run (P := P) (t := t) (u := u) (ty := ty) hi hz hsize hby hs (by unfold maxLen; omega) h63
  exact px_of hr (k v' w1 h1 h2 h3)
/-! ### copy -/
theorem Sl.loads {v : Value} {sz n m : Nat} {xs : List Value} (h : Sl w v sz n xs) (hm : m ≤ n) : (Builtin.firstCells sz m v).run P w = .ok (xs.take (m * sz)).toArray w := by
  obtain ⟨hl, a, cap, rfl, hc, hnil, hcell⟩ := h
  have hml : m * sz ≤ xs.length := by rw [hl]; exact Nat.mul_le_mul_right _ hm
  cases a with
  | none =>
    have h0 := (hnil rfl).1
    subst h0
    have : m = 0 := by omega
    subst this
    simp [Builtin.firstCells]
  | some ad =>
    have := run_loadCells_list (P := P) w ad (xs.take (m * sz)) (fun j v hj => by
      have hlt : j < m * sz := by
        have := (List.getElem?_eq_some_iff.1 hj).1
        simp at this; omega
      rw [List.getElem?_take_of_lt hlt] at hj
      exact hcell ad rfl j v hj)
    rw [List.length_take, Nat.min_eq_left hml] at this
    simpa [Builtin.firstCells] using this
theorem copy_unfold {t u' ty : TypeId} {a : Addr} {dl cap : Nat} {x : Value} : Builtin.copy_ #[t, u'] ty #[.slice (some a) dl cap, x] = (do
    let d ← underlying t
    match d with
    | .slice elem => do
      let l ← Builtin.lenOf x
      let sz ← sizeOf elem
      let cells ← Builtin.firstCells sz (Nat.min l dl) x
      storeCells a cells.toList
      pure (goInt (Nat.min l dl))
    | _ => stuck "copy: slice type expected") := rfl
theorem copy_run {n : Nat} [hS : SliceT P t e n] {ty b o dl cap m : Nat} {tb : TypeId} {cs ys : List Value} {x : Value} (hb : Bk w b tb cs) (hx : Sl w x n m ys) (ha : Atoms (ys.take (Nat.min m dl * n))) (ho : o + Nat.min m dl * n ≤ cs.length) {u' : TypeId} :
    (Builtin.copy_ #[t, u'] ty #[.slice (some ⟨b, o, none⟩) dl cap, x]).run P w = .ok (.int .i64 (Nat.min m dl : Nat)) (putB w b (.cells (spl cs o (ys.take (Nat.min m dl * n))).toArray tb (0, 0))) := by
  have hl := hx.1
  have hld := Sl.loads (P := P) hx (Nat.min_le_left m dl)
  obtain ⟨_, a, cap', rfl, _⟩ := id hx
  have hln : (Builtin.lenOf (.slice a m cap')).run P w = .ok m w := rfl
  have hst := storeCells_run (P := P) (o := o) (ys.take (Nat.min m dl * n)) 0 w cs hb ha (by rw [List.length_take]; omega)
  rw [copy_unfold]
  simp only [run_underlying hS.under, Sem.run_bind, Result.andThen_ok, hln, SliceT.sizeOf (P := P) (t := t), hld, Sem.run_pure]
  have hst' := hst
  simp only [Nat.add_zero] at hst'
  rw [hst']
  rfl
theorem copyS_run [hS : SliceT P t e 1] {ty b o dl cap : Nat} {tb : TypeId} {cs : List Value} {l : Str} (hb : Bk w b tb cs) (ho : o + Nat.min l.length dl ≤ cs.length) {u' : TypeId} :
    (Builtin.copy_ #[t, u'] ty #[.slice (some ⟨b, o, none⟩) dl cap, sv l]).run P w = .ok (.int .i64 (Nat.min l.length dl : Nat)) (putB w b (.cells (spl cs o (bs (l.take (Nat.min l.length dl)))).toArray tb (0, 0))) := by
  have hst := storeCells_run (P := P) (o := o) (bs (l.take (Nat.min l.length dl))) 0 w cs hb (atoms_bs _) (by rw [bs_length, List.length_take]; have := Nat.min_le_left l.length dl; omega)
  have hsz : (ByteArray.mk l.toArray).size = l.length := by simp [ByteArray.size]
  have hln : (Builtin.lenOf (sv l)).run P w = .ok l.length w := by
    rw [← hsz]; rfl
  have hld : (Builtin.firstCells 1 (Nat.min l.length dl) (sv l)).run P w = .ok (bs (l.take (Nat.min l.length dl))).toArray w := by
    simp only [sv, Builtin.firstCells, Sem.run_pure, ByteArray.extract_mk]
    simp [bs]
  rw [copy_unfold]
  simp only [run_underlying hS.under, Sem.run_bind, Result.andThen_ok, hln, SliceT.sizeOf (P := P) (t := t), hld, Sem.run_pure]
  have hst' := hst
  simp only [Nat.add_zero] at hst'
  rw [hst']
  rfl
theorem copy_k {n : Nat} [hS : SliceT P t e n] {ty b o dl cap m : Nat} {tb : TypeId} {cs ys : List Value} {x : Value} {u' : TypeId} (hb : Bk w b tb cs) (hx : Sl w x n m ys) (ha : Atoms (ys.take (Nat.min m dl * n))) (ho : o + Nat.min m dl * n ≤ cs.length)
    (k : ∀ w1, Bk w1 b tb (spl cs o (ys.take (Nat.min m dl * n))) → Fr (fun i => i = b) w w1 → K (.int .i64 (Nat.min m dl : Nat)) w1) :
    px P (Builtin.copy_ #[t, u'] ty #[.slice (some ⟨b, o, none⟩) dl cap, x]) w K := px_of (copy_run hb hx ha ho) (k _ (Bk.put hb.lt _ _) (Fr.put w b _ rfl))
theorem copyS_k [hS : SliceT P t e 1] {ty b o dl cap : Nat} {tb : TypeId} {cs : List Value} {l : Str} {u' : TypeId} (hb : Bk w b tb cs) (ho : o + Nat.min l.length dl ≤ cs.length)
    (k : ∀ w1, Bk w1 b tb (spl cs o (bs (l.take (Nat.min l.length dl)))) → Fr (fun i => i = b) w w1 → K (.int .i64 (Nat.min l.length dl : Nat)) w1) :
    px P (Builtin.copy_ #[t, u'] ty #[.slice (some ⟨b, o, none⟩) dl cap, sv l]) w K := px_of (copyS_run hb ho) (k _ (Bk.put hb.lt _ _) (Fr.put w b _ rfl))
end

/-! ### Parts of slices -/
section
variable {P : Program} {w : World} {t e : TypeId} {sz n : Nat} {K : Value → World → Prop}
theorem Sl.part {a : Option Addr} {cap lo hi m : Nat} {xs : List Value} (h : Sl w (.slice a n cap) sz n xs) (h1 : lo ≤ hi) (h2 : hi ≤ n) (h3 : hi ≤ m) (h4 : m ≤ cap) :
    Sl w (sliced a lo hi m sz) sz (hi - lo) ((xs.drop (lo * sz)).take ((hi - lo) * sz)) := by
  obtain ⟨hl, a', cap', hv, hc, hnil, hcell⟩ := h
  cases hv
  have hle : hi * sz ≤ n * sz := Nat.mul_le_mul_right _ h2
  have hlo : lo * sz ≤ hi * sz := Nat.mul_le_mul_right _ h1
  have hsub : (hi - lo) * sz = hi * sz - lo * sz := Nat.sub_mul _ _ _
  refine ⟨by rw [List.length_take, List.length_drop, hl, hsub]; omega, _, m - lo, rfl, by omega, ?_, ?_⟩
  · intro hn
    have : a = none := by
      split at hn
      · exact hn
      · cases a
        · rfl
        · cases hn
    have := (hnil this)
    omega
  · intro ad had j u hu
    have hj : j < (hi - lo) * sz := by
      have := (List.getElem?_eq_some_iff.1 hu).1
      rw [List.length_take] at this; omega
    rw [List.getElem?_take_of_lt hj, List.getElem?_drop] at hu
    split at had
    · rename_i hml
      subst hml
      have : hi - m = 0 := by omega
      rw [this] at hj
      omega
    · cases a with
      | none => cases had
      | some ad0 =>
        cases had
        have := hcell ad0 rfl (lo * sz + j) u hu
        rw [Addr.add_add]
        exact this
theorem sliced_own {a : Option Addr} {l h m s b : Nat} {x y : Nat} (hb : (sliced a l h m s).ownBlock = some b) : (Value.slice a x y).ownBlock = some b := by
  unfold sliced at hb
  cases a with
  | none => split at hb <;> cases hb
  | some ad =>
    split at hb
    · exact hb
    · simp only [Option.map_some, Value.ownBlock, Addr.add, Option.some.injEq] at hb ⊢
      split at hb <;> exact hb
theorem bound_run {k : IntKind} {i y : Nat} {c : BoundsCode} (h : i ≤ y) : (Instr.sliceBound (.int k (i : Int)) y c).run P w = .ok i w := by
  simp [Instr.sliceBound, asIntOf]
  omega
theorem slc_run [hS : SliceT P t e sz] {a : Option Addr} {len cap : Nat} {lo hi mx : Option Value} {l h m : Nat} (hb : (Instr.sliceBounds true len cap lo hi mx).run P w = .ok (l, h, m) w) :
    (Instr.sliceAt t (.slice a len cap) lo hi mx).run P w = .ok (sliced a l h m sz) w := by
  have hel : P.elem t = e := by simp [Program.elem, hS.under]
  rw [run_sliceAt_slice w t _ _ _ _ (by rw [hel]; exact hS.under)]
  simp only [Instr.slice, Sem.run_bind, run_underlying hS.under, Result.andThen_ok, hb, SliceT.sizeOf (P := P) (t := t), Sem.run_pure]
  rfl
theorem bounds_lh {k k' : IntKind} {len cap l h : Nat} (h1 : l ≤ h) (h2 : h ≤ cap) : (Instr.sliceBounds true len cap (some (.int k (l : Int))) (some (.int k' (h : Int))) none).run P w = .ok (l, h, cap) w := by
  simp [Instr.sliceBounds, bound_run (P := P) (w := w) h1, bound_run (P := P) (w := w) h2]
theorem bounds_h {k' : IntKind} {len cap h : Nat} (h2 : h ≤ cap) : (Instr.sliceBounds true len cap none (some (.int k' (h : Int))) none).run P w = .ok (0, h, cap) w := by
  simp [Instr.sliceBounds, bound_run (P := P) (w := w) h2]
theorem bounds_l {k : IntKind} {len cap l : Nat} (h1 : l ≤ len) : (Instr.sliceBounds true len cap (some (.int k (l : Int))) none none).run P w = .ok (l, len, cap) w := by
  simp [Instr.sliceBounds, bound_run (P := P) (w := w) h1]
theorem bounds_hm {k k' : IntKind} {len cap h m : Nat} (h1 : h ≤ m) (h2 : m ≤ cap) : (Instr.sliceBounds true len cap none (some (.int k (h : Int))) (some (.int k' (m : Int)))).run P w = .ok (0, h, m) w := by
  simp [Instr.sliceBounds, bound_run (P := P) (w := w) h1, bound_run (P := P) (w := w) h2]
/-- `x[lo:hi]` of a slice that is read. -/
theorem slc_lh [hS : SliceT P t e sz] {v : Value} {xs : List Value} {k k' : IntKind} {l h : Int} (lo hi : Nat) (hl : l = (lo : Int)) (hh : h = (hi : Int)) (hv : Sl w v sz n xs) (h1 : lo ≤ hi) (h2 : hi ≤ n)
    (K1 : ∀ v', Sl w v' sz (hi - lo) ((xs.drop (lo * sz)).take ((hi - lo) * sz)) → (∀ b, v'.ownBlock = some b → v.ownBlock = some b) → K v' w) :
    px P (Instr.sliceAt t v (some (.int k l)) (some (.int k' h)) none) w K := by
  subst hl hh
  obtain ⟨hx, a, cap, rfl, hc, r⟩ := id hv
  exact px_of (slc_run (bounds_lh h1 (by omega))) (K1 _ (hv.part h1 h2 (by omega) (Nat.le_refl _)) fun b => sliced_own)
theorem slc_h [hS : SliceT P t e sz] {v : Value} {xs : List Value} {k' : IntKind} {h : Int} (hi : Nat) (hh : h = (hi : Int)) (hv : Sl w v sz n xs) (h2 : hi ≤ n)
    (K1 : ∀ v', Sl w v' sz hi (xs.take (hi * sz)) → (∀ b, v'.ownBlock = some b → v.ownBlock = some b) → K v' w) :
    px P (Instr.sliceAt t v none (some (.int k' h)) none) w K := by
  subst hh
  obtain ⟨hx, a, cap, rfl, hc, r⟩ := id hv
  have := hv.part (lo := 0) (Nat.zero_le hi) h2 (by omega) (Nat.le_refl cap)
  simp only [Nat.zero_mul, List.drop_zero, Nat.sub_zero] at this
  exact px_of (slc_run (bounds_h (by omega))) (K1 _ this fun b => sliced_own)
theorem slc_l [hS : SliceT P t e sz] {v : Value} {xs : List Value} {k' : IntKind} {l : Int} (lo : Nat) (hh : l = (lo : Int)) (hv : Sl w v sz n xs) (h2 : lo ≤ n)
    (K1 : ∀ v', Sl w v' sz (n - lo) (xs.drop (lo * sz)) → (∀ b, v'.ownBlock = some b → v.ownBlock = some b) → K v' w) :
    px P (Instr.sliceAt t v (some (.int k' l)) none none) w K := by
  subst hh
  obtain ⟨hx, a, cap, rfl, hc, r⟩ := id hv
  have := hv.part (lo := lo) h2 (Nat.le_refl n) (by omega) (Nat.le_refl cap)
  rw [List.take_of_length_le (by rw [List.length_drop, hx, Nat.sub_mul]; exact Nat.le_refl _)] at this
  exact px_of (slc_run (bounds_l (by omega))) (K1 _ this fun b => sliced_own)
theorem slc_hm [hS : SliceT P t e sz] {v : Value} {xs : List Value} {k k' : IntKind} {h h' : Int} (hi : Nat) (hh : h = (hi : Int)) (hh' : h' = (hi : Int)) (hv : Sl w v sz n xs) (h2 : hi ≤ n)
    (K1 : ∀ v', Sl w v' sz hi (xs.take (hi * sz)) → (∀ b, v'.ownBlock = some b → v.ownBlock = some b) → K v' w) :
    px P (Instr.sliceAt t v none (some (.int k h)) (some (.int k' h'))) w K := by
  subst hh hh'
  obtain ⟨hx, a, cap, rfl, hc, r⟩ := id hv
  have := hv.part (lo := 0) (Nat.zero_le hi) h2 (Nat.le_refl hi) (by omega)
  simp only [Nat.zero_mul, List.drop_zero, Nat.sub_zero] at this
  exact px_of (slc_run (bounds_hm (Nat.le_refl _) (by omega))) (K1 _ this fun b => sliced_own)
end
end Go.V
