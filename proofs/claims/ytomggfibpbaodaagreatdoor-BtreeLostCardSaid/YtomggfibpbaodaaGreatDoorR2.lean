/-
  Rules for the conditions of V.lean, second part: slices that are read, slices that are owned, append, make. Nothing of a program is in this text.
-/
import Derived.Test.YtomggfibpbaodaaGreatDoorR
import Derived.Laws.AppendOwn
import Derived.Laws.AppendOwnNone
import Derived.Laws.MakeOwn
import Derived.Laws.OwnMore
import Derived.ArgAppend
import Derived.Lib.SliceRun
import Derived.Laws.StructEq
namespace Go.V
open Go

/-- A slice that reads as these cells: n elements, each of so many. -/
structure Sl (w : World) (v : Value) (sz n : Nat) (xs : List Value) : Prop where
  len : xs.length = n * sz
  val : ∃ a cap, v = .slice a n cap ∧ n ≤ cap ∧ (a = none → n = 0 ∧ cap = 0) ∧ ∀ ad, a = some ad → ∀ j u, xs[j]? = some u → w.cell? (ad.add j) = some u
/-- A slice whose cells are nobody else's: nil, or at the head of a block. -/
def Own (w : World) (v : Value) (e : TypeId) (sz n : Nat) (xs : List Value) : Prop := w.ownsRow 0 e sz v n xs
theorem Own.sl {w : World} {v : Value} {e : TypeId} {sz n : Nat} {xs : List Value} (h : Own w v e sz n xs) : Sl w v sz n xs := by
  refine ⟨h.1, ?_⟩
  rcases h.2 with ⟨rfl, rfl⟩ | ⟨g, cap, cur, rfl, _, hg, hn, _, _, _⟩
  · exact ⟨none, 0, rfl, Nat.le_refl _, fun _ => ⟨rfl, rfl⟩, fun _ h => by cases h⟩
  · exact ⟨_, cap, rfl, hn, fun h => (by cases h), fun ad had => by cases had; exact World.ownsRow.cells h rfl⟩
theorem grownBy_fr {w w' : World} {row : Option Nat} (h : w.grownBy w' row) : Fr (fun b => row = some b) w w' :=
  ⟨h.os, h.tape, h.output, h.size, fun k hk hf => h.block k hk (fun e => hf e.symm)⟩
theorem fr_grownBy {w w' : World} (h : Fr no w w') (row : Option Nat) : w.grownBy w' row := ⟨h.os, h.tape, h.output, h.size, fun k hk _ => h.same k hk id⟩
theorem Own.nil (w : World) (e : TypeId) (sz : Nat) : Own w (.slice none 0 0) e sz 0 [] := World.ownsRow_nil w 0 e sz
theorem Own.lt {w : World} {v : Value} {e : TypeId} {sz n : Nat} {xs : List Value} (h : Own w v e sz n xs) {b : Nat} (hb : v.ownBlock = some b) : b < w.heap.size := (World.ownsRow.lt h b hb).2
theorem Own.fr {F : Nat → Prop} {w w' : World} {v : Value} {e : TypeId} {sz n : Nat} {xs : List Value} (h : Own w v e sz n xs) (f : Fr F w w') (hF : ∀ b, v.ownBlock = some b → ¬ F b) : Own w' v e sz n xs := by
  refine ⟨h.1, ?_⟩
  rcases h.2 with hn | ⟨g, cap, cur, rfl, hb, hg, r⟩
  · exact .inl hn
  · refine .inr ⟨g, cap, cur, rfl, hb, ?_, r⟩
    rw [f.same g (Array.getElem?_eq_some_iff.1 hg).1 (hF g rfl)]
    exact hg
theorem Own.fr0 {w w' : World} {v : Value} {e : TypeId} {sz n : Nat} {xs : List Value} (h : Own w v e sz n xs) (f : Fr no w w') : Own w' v e sz n xs := h.fr f fun _ _ => id
theorem cell_fr {F : Nat → Prop} {w w' : World} {a : Addr} {v : Value} (h : w.cell? a = some v) (f : Fr F w w') (hF : ¬ F a.block) : w'.cell? a = some v :=
  (World.cell?_of_block (w := w) (f.same a.block (block_lt_of_cell h) hF)).trans h
theorem add_block (a : Addr) (j : Nat) : (a.add j).block = a.block := by
  unfold Addr.add
  split <;> rfl
theorem Sl.fr {F : Nat → Prop} {w w' : World} {v : Value} {sz n : Nat} {xs : List Value} (h : Sl w v sz n xs) (f : Fr F w w') (hF : ∀ b, v.ownBlock = some b → ¬ F b) : Sl w' v sz n xs := by
  obtain ⟨h1, a, cap, rfl, h2, h3, h4⟩ := h
  exact ⟨h1, a, cap, rfl, h2, h3, fun ad had j u hu => cell_fr (h4 ad had j u hu) f (by rw [add_block]; exact hF _ (by rw [had]; rfl))⟩
theorem Sl.fr0 {w w' : World} {v : Value} {sz n : Nat} {xs : List Value} (h : Sl w v sz n xs) (f : Fr no w w') : Sl w' v sz n xs := h.fr f fun _ _ => id

/-- An element type's row of the table. -/
class ElemT (P : Program) (e : TypeId) (sz : outParam Nat) (bytes : outParam Nat) : Prop where
  row : ∃ i z, P.info? e = some i ∧ i.zero = some z ∧ i.size = sz ∧ i.bytes = bytes ∧ z.cells.size = sz ∧ 0 < sz
def elemB (P : Program) (e : TypeId) (sz bytes : Nat) : Bool :=
  match P.info? e with
  | some i => (match i.zero with
    | some z => i.size == sz && i.bytes == bytes && z.cells.size == sz && Nat.blt 0 sz
    | none => false)
  | none => false
theorem ElemT.of {P : Program} {e : TypeId} {sz bytes : Nat} (h : elemB P e sz bytes = true) : ElemT P e sz bytes := by
  unfold elemB at h
  split at h
  · rename_i i hi
    split at h
    · rename_i z hz
      simp only [Bool.and_eq_true, beq_iff_eq, Nat.blt_eq] at h
      exact ⟨i, z, hi, hz, h.1.1.1, h.1.1.2, h.1.2, h.2⟩
    · cases h
  · cases h
theorem Atoms.one {xs : List Value} (h : Atoms xs) : ∀ u ∈ xs, u.oneCell' = true := fun u hu => by
  have := h u hu
  cases u <;> first | exact absurd rfl (this.notAgg _) | exact absurd rfl (this.notTuple _) | rfl

section
variable {P : Program} {w : World} {t e : TypeId} {sz by' : Nat} {K : Value → World → Prop}
theorem append_run [hS : SliceT P t e sz] [hE : ElemT P e sz by'] {s x : Value} {n m : Nat} {xs ys : List Value} {ty : TypeId} (hs : Own w s e sz n xs) (hx : Sl w x sz m ys) (ha : Atoms ys)
    (h63 : n + m ≤ maxLen) (hb : (n + m) * by' ≤ 140737488355328) :
    ∃ v' w1, (Builtin.append_ #[t, t] ty #[s, x]).run P w = .ok v' w1 ∧ Own w1 v' e sz (n + m) (xs ++ ys) ∧ Fr (fun b => s.ownBlock = some b) w w1 ∧
      (∀ b, v'.ownBlock = some b → s.ownBlock = some b ∨ w.heap.size ≤ b) := by
  obtain ⟨i, z, hi, hz, hsize, hby, hzs, hpos⟩ := hE.row
  obtain ⟨hlen, a, cap, rfl, hcap, hnil, hcells⟩ := hx
  have low : ∀ {w1 : World} {v' : Value}, w1.ownsRow w.heap.size e sz v' (n + m) (xs ++ ys) → Own w1 v' e sz (n + m) (xs ++ ys) ∧ ∀ b, v'.ownBlock = some b → w.heap.size ≤ b := fun {w1 v'} h =>
    ⟨⟨h.1, h.2.imp id fun ⟨g, c, cur, h1, _, h2⟩ => ⟨g, c, cur, h1, Nat.zero_le _, h2⟩⟩, fun b hb => (World.ownsRow.lt h b hb).1⟩
  cases a with
  | none =>
    obtain ⟨rfl, rfl⟩ := hnil rfl
    have hy : ys = [] := List.eq_nil_of_length_eq_zero (by simpa using hlen)
    subst hy
    obtain ⟨hr, _⟩ : (Builtin.append_ #[t, t] ty #[s, .slice none 0 0]).run P w = .ok s w ∧ True := by
      refine ⟨?_, trivial⟩
      rcases hs.2 with ⟨rfl, rfl⟩ | ⟨g, cap, cur, rfl, _, hg, hn, _⟩
      · simp [Builtin.append_, run_underlying hS.under, sizeOf, typeInfo, hi, Builtin.lenOf, Builtin.firstCells]
      · simp [Builtin.append_, run_underlying hS.under, sizeOf, typeInfo, hi, Builtin.lenOf, Builtin.firstCells, hn, storeCells]
    exact ⟨s, w, hr, by simpa using hs, Fr.refl _ _, fun b hb => .inl hb⟩
  | some ad =>
    have hc := hcells ad rfl
    have h1 := ha.one
    rcases hs.2 with ⟨rfl, rfl⟩ | ⟨g, cap', cur, rfl, _, hg, hn, hm, hcs, htake⟩
    · obtain ⟨v', w1, hr, ho, hgr, _⟩ := run_append_own (P := P) w w.heap.size t ty e i z sz by' hS.under hi hz hsize hby hzs hpos (.slice none 0 0) 0 xs ⟨hs.1, .inl ⟨rfl, rfl⟩⟩ ad m cap ys hlen hc h1 h63 hb (Nat.le_refl _)
      obtain ⟨h2, h3⟩ := low ho
      exact ⟨v', w1, hr, h2, grownBy_fr hgr, fun b hb => .inr (h3 b hb)⟩
    · by_cases hroom : n + m ≤ cap'
      · obtain ⟨v', w1, hr, ho, hgr, _⟩ := run_append_own (P := P) w 0 t ty e i z sz by' hS.under hi hz hsize hby hzs hpos _ n xs hs ad m cap ys hlen hc h1 h63 hb (Nat.zero_le _)
        have hr2 := run_append_room (P := P) w t ty e i hS.under hi g n cap' cur hg ad m cap ys (by rw [hsize]; exact hlen) hc h1 hroom (by rw [hsize, hlen, hcs, ← Nat.add_mul]; exact Nat.mul_le_mul_right _ hroom)
        rw [hr2] at hr
        cases hr
        exact ⟨_, _, hr2, ho, grownBy_fr hgr, fun b hb => .inl hb⟩
      · obtain ⟨v', w1, hr, ho, hgr⟩ := run_append_arg_grows (P := P) w t ty e i z sz by' hS.under hi hz hsize hby hzs hpos ⟨g, 0, none⟩ n cap' xs hs.1 (World.ownsRow.cells hs rfl) ad m cap ys hlen hc (by omega) h63 hb
        obtain ⟨h2, h3⟩ := low ho
        exact ⟨v', w1, hr, h2, (grownBy_fr hgr).mono (fun _ h => (by cases h)), fun b hb => .inr (h3 b hb)⟩
theorem append_k [SliceT P t e sz] [ElemT P e sz by'] {s x : Value} {n m : Nat} {xs ys : List Value} {ty : TypeId} (hs : Own w s e sz n xs) (hx : Sl w x sz m ys) (ha : Atoms ys)
    (h63 : n + m ≤ maxLen) (hb : (n + m) * by' ≤ 140737488355328)
    (k : ∀ v' w1, Own w1 v' e sz (n + m) (xs ++ ys) → Fr (fun b => s.ownBlock = some b) w w1 → (∀ b, v'.ownBlock = some b → s.ownBlock = some b ∨ w.heap.size ≤ b) → K v' w1) :
    px P (Builtin.append_ #[t, t] ty #[s, x]) w K := by
  obtain ⟨v', w1, hr, h1, h2, h3⟩ := append_run (P := P) (t := t) (ty := ty) hs hx ha h63 hb
  exact px_of hr (k v' w1 h1 h2 h3)
end

/-! ### Elements of a slice that is read -/
section
variable {P : Program} {w : World} {t e : TypeId} {sz n : Nat} {K : Value → World → Prop}
theorem idx_s [hS : SliceT P t e sz] {v : Value} {xs : List Value} (h : Sl w v sz n xs) (hpos : 0 < sz) {kk : IntKind} {i : Int} (j : Nat) (hi : i = (j : Int)) (hj : j < n)
    (k : ∀ b o, v.ownBlock = some b → (∀ q, q < sz → w.cell? ⟨b, o + q, none⟩ = xs[j * sz + q]?) → K (.pointer (some ⟨b, o, none⟩)) w) : px P (Instr.indexAt t v (.int kk i)) w K := by
  obtain ⟨hl, a, cap, rfl, hc, hn, hcell⟩ := h
  cases a with
  | none => have := (hn rfl).1; omega
  | some ad =>
    have hlt : j * sz < xs.length := by rw [hl]; exact Nat.mul_lt_mul_of_pos_right hj hpos
    have h0 := hcell ad rfl 0 (xs[0]'(by omega)) (List.getElem?_eq_getElem (by omega))
    have hspot : ad.spot = none := by
      have ha : ad.add 0 = ad := by simp [Addr.add]
      rw [ha] at h0
      unfold World.cell? at h0
      split at h0
      · split at h0
        · cases h0
        · rename_i hs; simpa using hs
      · cases h0
    obtain ⟨b, o, sp⟩ := ad
    simp only at hspot
    subst hspot
    refine px_of (idx_run (P := P) hi hj) (k b (o + j * sz) rfl fun q hq => ?_)
    have hlt2 : j * sz + q < xs.length := by
      rw [hl]
      calc j * sz + q < j * sz + sz := by omega
        _ = (j + 1) * sz := by rw [Nat.add_mul, Nat.one_mul]
        _ ≤ n * sz := Nat.mul_le_mul_right _ hj
    have := hcell _ rfl (j * sz + q) _ (List.getElem?_eq_getElem hlt2)
    rw [addr_add] at this
    rw [List.getElem?_eq_getElem hlt2, ← this, Nat.add_assoc]
/-- A whole variable of several cells, cell by cell. -/
theorem ldC [Agg P t n] {b o : Nat} {xs : List Value} (hn : xs.length = n) (h : ∀ q, q < n → w.cell? ⟨b, o + q, none⟩ = xs[q]?) (k : K (.agg xs.toArray) w) : px P (Instr.loadAt t (.pointer (some ⟨b, o, none⟩))) w K := by
  refine px_of ?_ k
  have hl : (loadCells ⟨b, o, none⟩ xs.length).run P w = .ok xs.toArray w := run_loadCells_list (P := P) w ⟨b, o, none⟩ xs (fun j v hv => by
    have hj := (List.getElem?_eq_some_iff.1 hv).1
    rw [addr_add, h j (by omega), hv])
  simp only [Instr.loadAt, Instr.sureAddr, Sem.run_bind, Sem.run_pure, Result.andThen_ok, loadVar, Agg.isAgg]
  simp [Agg.sizeOf (P := P) (t := t), ← hn, hl]
theorem ld1 [Plain P t] {a : Addr} {v : Value} (h : w.cell? a = some v) (k : K v w) : px P (Instr.loadAt t (.pointer (some a))) w K := px_of (ld_run h) k
end

/-! ### Maps with int keys -/
def Mp (w : World) (m : Nat) (es : List (Int × Value)) : Prop :=
  ∃ (en : List MapEntry) (clock : Nat), w.heap[m]? = some (.map en.toArray clock) ∧ en.map (fun e => (e.key, e.val)) = es.map (fun p => (Value.int .i64 p.1, p.2)) ∧
    (es.map (·.1)).Nodup ∧ (en.map (·.born)).Nodup ∧ ∀ e ∈ en, e.born < clock
class MapT (P : Program) (t : TypeId) (e : outParam TypeId) (z : outParam Value) : Prop where
  row : ∃ k, P.underlying t = some (.map k e) ∧ P.underlying k = some (.int .i64)
  zero : ∀ w, (zeroValue e).run P w = .ok z w
def alk (es : List (Int × Value)) (k : Int) : Option Value :=
  match es with
  | [] => none
  | (a, v) :: es => if a = k then some v else alk es k
def aput (es : List (Int × Value)) (k : Int) (v : Value) : List (Int × Value) :=
  match es with
  | [] => [(k, v)]
  | (a, u) :: es => if a = k then (k, v) :: es else (a, u) :: aput es k v
def adel (es : List (Int × Value)) (k : Int) : List (Int × Value) :=
  match es with
  | [] => []
  | (a, u) :: es => if a = k then es else (a, u) :: adel es k
theorem mem_aput {es : List (Int × Value)} {k : Int} {v : Value} {x : Int} : x ∈ (aput es k v).map (·.1) ↔ x = k ∨ x ∈ es.map (·.1) := by
  induction es with
  | nil => simp [aput]
  | cons p es ih =>
    obtain ⟨a, u⟩ := p
    simp only [aput]
    split
    · rename_i h; subst h; simp
    · simp only [List.map_cons, List.mem_cons, ih]
      constructor
      · rintro (h | h | h) <;> simp [h]
      · rintro (h | h | h) <;> simp [h]
theorem nodup_aput {es : List (Int × Value)} {k : Int} {v : Value} (h : (es.map (·.1)).Nodup) : ((aput es k v).map (·.1)).Nodup := by
  induction es with
  | nil => simp [aput]
  | cons p es ih =>
    obtain ⟨a, u⟩ := p
    simp only [List.map_cons, List.nodup_cons] at h
    simp only [aput]
    split
    · rename_i he; subst he; simpa using h
    · rename_i he
      simp only [List.map_cons, List.nodup_cons, mem_aput, not_or]
      exact ⟨⟨he, h.1⟩, ih h.2⟩
theorem mem_adel {es : List (Int × Value)} {k : Int} {x : Int} (hx : x ∈ (adel es k).map (·.1)) : x ∈ es.map (·.1) := by
  induction es with
  | nil => simp [adel] at hx
  | cons p es ih =>
    obtain ⟨a, u⟩ := p
    simp only [adel] at hx
    split at hx
    · exact .tail _ hx
    · simp only [List.map_cons, List.mem_cons] at hx ⊢
      rcases hx with h | h
      · exact .inl h
      · exact .inr (ih h)
theorem nodup_adel {es : List (Int × Value)} {k : Int} (h : (es.map (·.1)).Nodup) : ((adel es k).map (·.1)).Nodup := by
  induction es with
  | nil => simp [adel]
  | cons p es ih =>
    obtain ⟨a, u⟩ := p
    simp only [List.map_cons, List.nodup_cons] at h
    simp only [adel]
    split
    · exact h.2
    · simp only [List.map_cons, List.nodup_cons]
      exact ⟨fun hm => h.1 (mem_adel hm), ih h.2⟩
/-- Where a key's entry stands. -/
def afind (es : List (Int × Value)) (k : Int) : Option Nat :=
  match es with
  | [] => none
  | (a, _) :: es => if a = k then some 0 else (afind es k).map (· + 1)
theorem findNow_of {k : Int} : ∀ (en : List MapEntry) (es : List (Int × Value)) (i : Nat), en.map (fun e => (e.key, e.val)) = es.map (fun p => (Value.int .i64 p.1, p.2)) →
    Instr.findNow (.int .i64) (.int .i64 k) en i = some ((afind es k).bind fun j => (alk es k).map fun v => (i + j, v))
  | [], es, i, h => by
    cases es with
    | nil => simp [Instr.findNow, afind]
    | cons p es => simp at h
  | e :: en, es, i, h => by
    cases es with
    | nil => simp at h
    | cons p es =>
      obtain ⟨a, u⟩ := p
      simp only [List.map_cons, List.cons.injEq, Prod.mk.injEq] at h
      obtain ⟨⟨hk, hv⟩, ht⟩ := h
      have ih := findNow_of (k := k) en es (i + 1) ht
      simp only [Instr.findNow, hk, Instr.sameNow, if_true, afind, alk]
      by_cases hka : a = k
      · subst hka
        simp [hv]
      · have : (k == a) = false := by simp; exact fun h => hka h.symm
        simp only [this, hka, if_false]
        rw [ih]
        cases afind es k with
        | none => simp
        | some j =>
          cases alk es k with
          | none => simp
          | some v => simp; omega
theorem afind_alk (es : List (Int × Value)) (k : Int) : (afind es k).isSome = (alk es k).isSome := by
  induction es with
  | nil => rfl
  | cons p es ih =>
    obtain ⟨a, u⟩ := p
    simp only [afind, alk]
    split
    · rfl
    · simpa using ih
theorem modify_aput {k : Int} {v : Value} : ∀ (en : List MapEntry) (es : List (Int × Value)) (j : Nat), en.map (fun e => (e.key, e.val)) = es.map (fun p => (Value.int .i64 p.1, p.2)) → afind es k = some j →
    (en.modify j fun e => { e with key := .int .i64 k, val := v }).map (fun e => (e.key, e.val)) = (aput es k v).map (fun p => (Value.int .i64 p.1, p.2))
  | [], es, j, h, hj => by
    cases es with
    | nil => simp [afind] at hj
    | cons p es => simp at h
  | e :: en, es, j, h, hj => by
    cases es with
    | nil => simp at h
    | cons p es =>
      obtain ⟨a, u⟩ := p
      simp only [List.map_cons, List.cons.injEq] at h
      simp only [afind] at hj
      simp only [aput]
      split at hj
      · rename_i ha
        cases hj
        simp [ha, h.2]
      · rename_i ha
        cases hf : afind es k with
        | none => rw [hf] at hj; simp at hj
        | some i =>
          rw [hf] at hj
          simp at hj
          subst hj
          have := modify_aput (v := v) en es i h.2 hf
          simp only [if_neg ha, List.modify_succ_cons, List.map_cons, List.cons.injEq]
          exact ⟨h.1, this⟩
theorem aput_none {es : List (Int × Value)} {k : Int} {v : Value} (h : afind es k = none) : aput es k v = es ++ [(k, v)] := by
  induction es with
  | nil => rfl
  | cons p es ih =>
    obtain ⟨a, u⟩ := p
    simp only [afind] at h
    split at h
    · cases h
    · rename_i ha
      simp only [aput, if_neg ha, List.cons_append, List.cons.injEq, true_and]
      exact ih (by simpa using h)
section
variable {P : Program} {w : World} {t e : TypeId} {z : Value} {K : Value → World → Prop}
theorem checkKey_int {b : Bool} {n : Nat} {kt : TypeId} {k : Int} (hk : P.underlying kt = some (.int .i64)) : (Instr.checkKey b (n + 1) kt (.int .i64 k)).run P w = .ok () w := by
  simp [Instr.checkKey, run_underlying hk]
theorem findKey_int {kt : TypeId} {k : Int} (hk : P.underlying kt = some (.int .i64)) {en : List MapEntry} {es : List (Int × Value)} (h : en.map (fun e => (e.key, e.val)) = es.map (fun p => (Value.int .i64 p.1, p.2))) :
    (Instr.findKey kt (.int .i64 k) en).run P w = .ok ((afind es k).bind fun j => (alk es k).map fun v => (j, v)) w := by
  have := findNow_of (k := k) en es 0 h
  simp only [Nat.zero_add] at this
  simp [Instr.findKey, run_underlying hk, this]
theorem lookup_run [hM : MapT P t e z] {m : Nat} {es : List (Int × Value)} (h : Mp w m es) (k : Int) (c : Bool) :
    (Instr.lookup t (.map (some m)) (.int .i64 k) c).run P w = .ok (if c then .tuple #[(alk es k).getD z, .bool (alk es k).isSome] else (alk es k).getD z) w := by
  obtain ⟨kt, h1, h2⟩ := hM.row
  obtain ⟨en, clock, hm, hen, _⟩ := h
  have hg : (getObj m).run P w = .ok (.map en.toArray clock) w := by simp [getObj, Sem.run, hm]
  have hf := findKey_int (P := P) (w := w) (k := k) h2 hen
  have hs := afind_alk es k
  simp only [Instr.lookup, Sem.run_bind, run_underlying h1, Result.andThen_ok, hg, Sem.run_pure]
  rw [show (10000 : Nat) = 9999 + 1 from rfl, checkKey_int h2]
  simp only [Result.andThen_ok, hf]
  cases hA : afind es k with
  | none =>
    rw [hA] at hs
    have hl : alk es k = none := by cases hq : alk es k <;> simp_all
    simp [hl, hM.zero]
  | some j =>
    rw [hA] at hs
    obtain ⟨v, hl⟩ : ∃ v, alk es k = some v := by cases hq : alk es k <;> simp_all
    simp [hl]
theorem sameBits_int (k : Int) : Instr.sameBits 10000 (.int .i64 k) (.int .i64 k) = true := by
  simp [Instr.sameBits]
theorem update_run [hM : MapT P t e z] {m : Nat} {es : List (Int × Value)} (h : Mp w m es) (k : Int) (v : Value) :
    ∃ w1, (Instr.mapUpdate t (.map (some m)) (.int .i64 k) v).run P w = .ok () w1 ∧ Mp w1 m (aput es k v) ∧ Fr (fun b => b = m) w w1 := by
  obtain ⟨kt, h1, h2⟩ := hM.row
  obtain ⟨en, clock, hm, hen, hnd, hb, hc⟩ := h
  have hlt : m < w.heap.size := (Array.getElem?_eq_some_iff.1 hm).1
  have hg : (getObj m).run P w = .ok (.map en.toArray clock) w := by simp [getObj, Sem.run, hm]
  have hf := findKey_int (P := P) (w := w) (k := k) h2 hen
  have hs := afind_alk es k
  have hset : ∀ o, (setObj m o).run P w = .ok () (putB w m o) := fun o => by simp [setObj, Sem.run, hm, putB]
  have fr : ∀ o, Fr (fun b => b = m) w (putB w m o) := fun o => Fr.put w m o rfl
  cases hA : afind es k with
  | none =>
    refine ⟨putB w m (.map (en ++ [({ key := .int .i64 k, val := v, born := clock } : MapEntry)]).toArray (clock + 1)), ?_, ⟨_, _, heap_putB_eq hlt, ?_, nodup_aput hnd, ?_, ?_⟩, fr _⟩
    · simp only [Instr.mapUpdate, Sem.run_bind, run_underlying h1, Result.andThen_ok, hg]
      rw [show (10000 : Nat) = 9999 + 1 from rfl, checkKey_int h2]
      simp [Result.andThen_ok, hf, hA, hset]
    · rw [aput_none hA]; simp [hen]
    · rw [List.map_append, List.nodup_append]
      refine ⟨hb, by simp, ?_⟩
      intro x hx y hy
      obtain ⟨e, he, rfl⟩ := List.mem_map.1 hx
      have := hc e he
      simp at hy
      omega
    · intro e he
      rcases List.mem_append.1 he with he | he
      · have := hc e he; omega
      · simp at he; subst he; simp
  | some j =>
    have hkey : (en.toArray[j]?).map (·.key) = some (.int .i64 k) := by
      have : ∀ (en : List MapEntry) (es : List (Int × Value)) (j : Nat), en.map (fun e => (e.key, e.val)) = es.map (fun p => (Value.int .i64 p.1, p.2)) → afind es k = some j → (en[j]?).map (·.key) = some (.int .i64 k) := by
        intro en
        induction en with
        | nil => intro es j h hj; cases es <;> simp_all [afind]
        | cons e en ih =>
          intro es j h hj
          cases es with
          | nil => simp at h
          | cons p es =>
            obtain ⟨a, u⟩ := p
            simp only [List.map_cons, List.cons.injEq, Prod.mk.injEq] at h
            simp only [afind] at hj
            split at hj
            · rename_i ha; cases hj; simp [h.1.1, ha]
            · cases hq : afind es k with
              | none => rw [hq] at hj; simp at hj
              | some i => rw [hq] at hj; simp at hj; subst hj; simpa using ih es i h.2 hq
      simpa using this en es j hen hA
    rw [hA] at hs
    obtain ⟨old, hl⟩ : ∃ v, alk es k = some v := by cases hq : alk es k <;> simp_all
    refine ⟨putB w m (.map (en.modify j fun e => { e with key := .int .i64 k, val := v }).toArray clock), ?_, ⟨_, _, heap_putB_eq hlt, modify_aput en es j hen hA, nodup_aput hnd, ?_, ?_⟩, fr _⟩
    · simp only [Instr.mapUpdate, Sem.run_bind, run_underlying h1, Result.andThen_ok, hg]
      rw [show (10000 : Nat) = 9999 + 1 from rfl, checkKey_int h2]
      simp only [Result.andThen_ok, hf, hA, hl, Option.map_some, Option.bind_some, hkey, Option.getD_some, Sem.run_bind]
      have hks : (Instr.keyThatStays (.int .i64 k) (.int .i64 k)).run P w = .ok (.int .i64 k) w := by simp [Instr.keyThatStays, sameBits_int]
      simp only [hks, Result.andThen_ok, hset]
      simp
    · have : (en.modify j fun e => { e with key := .int .i64 k, val := v }).map (·.born) = en.map (·.born) := by
        apply List.ext_getElem?
        intro i
        simp only [List.getElem?_map, List.getElem?_modify]
        cases en[i]? <;> simp
        split <;> rfl
      rw [this]; exact hb
    · intro e he
      obtain ⟨i, hi, rfl⟩ := List.getElem_of_mem he
      rw [List.getElem_modify]
      have hi' : i < en.length := by simpa using hi
      have := hc en[i] (List.getElem_mem hi')
      split <;> exact this
theorem Mp.fr {F : Nat → Prop} {w w' : World} {m : Nat} {es : List (Int × Value)} (h : Mp w m es) (f : Fr F w w') (hF : ¬ F m) : Mp w' m es := by
  obtain ⟨en, clock, hm, r⟩ := h
  exact ⟨en, clock, by rw [f.same m (Array.getElem?_eq_some_iff.1 hm).1 hF]; exact hm, r⟩
theorem Mp.lt {w : World} {m : Nat} {es : List (Int × Value)} (h : Mp w m es) : m < w.heap.size := let ⟨_, _, hm, _⟩ := h; (Array.getElem?_eq_some_iff.1 hm).1
theorem makeMap_k (k : ∀ m w1, m = w.heap.size → Mp w1 m [] → Fr no w w1 → K (.map (some m)) w1) : px P (Instr.makeMap t none) w K := by
  refine px_of (w' := w.alloc (.map #[] 0)) rfl (k _ _ rfl ⟨[], 0, heap_alloc_new w _, rfl, by simp, by simp, by simp⟩ (Fr.alloc _ _))
theorem update_k [MapT P t e z] {m : Nat} {es : List (Int × Value)} {K : World → Prop} (h : Mp w m es) {i : Int} {v : Value} (k : ∀ w1, Mp w1 m (aput es i v) → Fr (fun b => b = m) w w1 → K w1) :
    pu P (Instr.mapUpdate t (.map (some m)) (.int .i64 i) v) w K := by
  obtain ⟨w1, hr, h1, h2⟩ := update_run (P := P) (t := t) h i v
  exact pu_of hr (k w1 h1 h2)
theorem lookup2_k [MapT P t e z] {m : Nat} {es : List (Int × Value)} (h : Mp w m es) {i : Int} (k : K (.tuple #[(alk es i).getD z, .bool (alk es i).isSome]) w) :
    px P (Instr.lookup t (.map (some m)) (.int .i64 i) true) w K := px_of (lookup_run (P := P) h i true) k
theorem lookup1_k [MapT P t e z] {m : Nat} {es : List (Int × Value)} (h : Mp w m es) {i : Int} (k : K ((alk es i).getD z) w) :
    px P (Instr.lookup t (.map (some m)) (.int .i64 i) false) w K := px_of (lookup_run (P := P) h i false) k
end

/-! ### Slices against nil; clones; arrays as slices -/
section
variable {P : Program} {w : World} {t e : TypeId} {sz n by' : Nat} {K : Value → World → Prop}
instance [h : SliceT P t e sz] {c : Bool} {a : Option Addr} {n c' : Nat} : Rn P (bin c .eql t (.slice a n c') (.slice none 0 0)) w (.bool a.isNone) w :=
  ⟨bin_of _ _ _ (by cases c <;> rfl) (Lib.run_eql_slice_nil w t e a n c' 0 0 h.under)⟩
theorem build0_k [h : SliceT P t e sz] (k : ∀ b w1, b = w.heap.size → Own w1 (.slice (some ⟨b, 0, none⟩) 0 0) e sz 0 [] → Fr no w w1 → K (.slice (some ⟨b, 0, none⟩) 0 0) w1) : px P (Instr.buildSlice t 0 #[]) w K := by
  have hr : (Instr.buildSlice t 0 #[]).run P w = .ok (.slice (some ⟨w.heap.size, 0, none⟩) 0 0) (w.alloc (.cells #[] e)) := by
    simp [Instr.buildSlice, run_underlying h.under, SliceT.sizeOf (t := t), Instr.fill, newRow, newObj, Sem.run]
    rw [Array.eq_empty_of_size_eq_zero (xs := Array.map _ (Array.range 0)) (by simp)]
  refine px_of hr (k _ _ rfl ⟨by simp, .inr ⟨w.heap.size, 0, #[], rfl, Nat.zero_le _, heap_alloc_new w _, Nat.le_refl _, Nat.zero_le _, by simp, by simp⟩⟩ (Fr.alloc _ _))
def cloneF (P : Program) (t : TypeId) (R : Value → World → Prop) (v0 : Value) (w : World) : Prop :=
  px P (bin true .eql t v0 (.slice none 0 0)) w fun v4 w =>
  cnd v4 (
    R (.slice none 0 0) w) <|
  px P (Instr.buildSlice t 0 #[]) w fun v5 w =>
  px P (Builtin.append_ #[t, t] t #[v5, v0]) w fun v7 w =>
  R v7 w
theorem clone_k [SliceT P t e sz] [ElemT P e sz by'] {v : Value} {xs : List Value} (h : Sl w v sz n xs) (ha : Atoms xs) (h63 : n ≤ maxLen) (hb : n * by' ≤ 140737488355328)
    (k : ∀ v' w1, Own w1 v' e sz n xs → Fr no w w1 → (∀ b, v'.ownBlock = some b → w.heap.size ≤ b) → K v' w1) : cloneF P t K v w := by
  unfold cloneF
  obtain ⟨hl, a, cap, rfl, hc, hn, hcell⟩ := h
  refine px_run ?_
  refine cnd_of (fun hnil => ?_) (fun hnn => ?_)
  · have ha : a = none := by cases a <;> simp_all
    obtain ⟨rfl, rfl⟩ := hn ha
    have hx : xs = [] := List.eq_nil_of_length_eq_zero (by simpa using hl)
    subst hx
    exact k _ _ (Own.nil w e sz) (Fr.refl _ _) (fun b hb => by cases hb)
  · refine build0_k fun b w1 hbs ho hf => ?_
    have hs : Sl w1 (.slice a n cap) sz n xs := Sl.fr0 ⟨hl, a, cap, rfl, hc, hn, hcell⟩ hf
    refine append_k ho hs ha (by omega) (by simpa using hb) fun v' w2 ho2 hf2 hown => ?_
    simp only [Nat.zero_add, List.nil_append] at ho2
    refine k v' w2 ho2 (hf.trans hf2 fun i hi => .inr ?_) fun b' hb' => ?_
    · simp [Value.ownBlock] at hi; omega
    · rcases hown b' hb' with h | h
      · simp [Value.ownBlock] at h; omega
      · have := hf.size; omega
/-- The type is an array of so many one-cell elements. -/
class ArrT (P : Program) (t : TypeId) (e : outParam TypeId) (len : outParam Nat) : Prop where
  under : P.underlying t = some (.array len e)
  size : ∀ w, (sizeOf e).run P w = .ok 1 w
theorem sliceArr_run [h : ArrT P t e n] {b o : Nat} : (Instr.sliceAt t (.pointer (some ⟨b, o, none⟩)) none none none).run P w = .ok (.slice (some ⟨b, o, none⟩) n n) w := by
  by_cases hn : n = 0
  · simp [Instr.sliceAt, run_underlying h.under, Instr.sureAddr, Instr.sliceBounds, h.size, hn]
  · simp [Instr.sliceAt, run_underlying h.under, Instr.sureAddr, Instr.sliceBounds, h.size, Addr.add]
theorem sliceArr2_run [h : ArrT P t e n] {b o : Nat} {k1 k2 : IntKind} {lo hi : Int} {i j : Nat} (h1 : lo = (i : Int)) (h2 : hi = (j : Int)) (hij : i ≤ j) (hj : j ≤ n) (hlt : i < n) :
    (Instr.sliceAt t (.pointer (some ⟨b, o, none⟩)) (some (.int k1 lo)) (some (.int k2 hi)) none).run P w = .ok (.slice (some ⟨b, o + i, none⟩) (j - i) (n - i)) w := by
  subst h1; subst h2
  have e1 : (0 : Int) ≤ (j : Int) ∧ (j : Int) ≤ (n : Int) := ⟨by omega, by omega⟩
  have e2 : (0 : Int) ≤ (i : Int) ∧ (i : Int) ≤ (j : Int) := ⟨by omega, by omega⟩
  have e3 : ¬ n = i := by omega
  simp [Instr.sliceAt, run_underlying h.under, Instr.sureAddr, Instr.sliceBounds, Instr.sliceBound, asIntOf, h.size, e3, addr_add, hij, hj]
instance [ArrT P t e n] {b o : Nat} : Rn P (Instr.sliceAt t (.pointer (some ⟨b, o, none⟩)) none none none) w (.slice (some ⟨b, o, none⟩) n n) w := ⟨sliceArr_run⟩
theorem Bk.sl {b o n cap : Nat} {tb : TypeId} {cs xs : List Value} (h : Bk w b tb cs) (hx : ∀ j, j < xs.length → cs[o + j]? = xs[j]?) (hn : xs.length = n) (hc : n ≤ cap) : Sl w (.slice (some ⟨b, o, none⟩) n cap) 1 n xs :=
  ⟨by omega, _, cap, rfl, hc, fun h => (by cases h), fun ad had j u hu => by
    cases had
    rw [addr_add, h.cell, hx j (List.getElem?_eq_some_iff.1 hu).1, hu]⟩
end

/-! ### Stores, the world behind them with a name -/
section
variable {P : Program} {w : World} {t tb : TypeId} {b o n : Nat} {cs xs : List Value} {v : Value} {K : World → Prop}
theorem stB_k [Plain P t] [Atom v] (h : Bk w b tb cs) (ho : o < cs.length) (k : ∀ w1, Bk w1 b tb (cs.set o v) → Fr (fun i => i = b) w w1 → K w1) : pu P (Instr.storeAt t (.pointer (some ⟨b, o, none⟩)) v) w K :=
  stB h ho (k _ (Bk.put h.lt _ _) (Fr.put w b _ rfl))
theorem stA_k [Agg P t n] (h : Bk w b tb cs) (ha : Atoms xs) (hn : xs.length = n) (ho : o + n ≤ cs.length) (k : ∀ w1, Bk w1 b tb (spl cs o xs) → Fr (fun i => i = b) w w1 → K w1) :
    pu P (Instr.storeAt t (.pointer (some ⟨b, o, none⟩)) (.agg xs.toArray)) w K :=
  stA h ha hn ho (k _ (Bk.put h.lt _ _) (Fr.put w b _ rfl))
theorem spl_all {cs xs : List Value} (h : cs.length = xs.length) : spl cs 0 xs = xs := by simp [spl, ← h]
theorem Fr.new {G : Nat → Prop} {a b c : World} (h : Fr no a b) (k : Fr G b c) (hg : ∀ i, G i → a.heap.size ≤ i) : Fr no a c := h.trans k fun i hi => .inr (hg i hi)
end
theorem part_run {P : Program} {t : TypeId} [Plain P t] {w : World} {cs : Array Value} {off : Nat} {v : Value} (h : cs[off]? = some v) : (part t cs off).run P w = .ok v w := by
  simp [part, Plain.isAgg, h]

theorem Own.ne_bk {w : World} {v : Value} {e t : TypeId} {sz n b : Nat} {xs cs : List Value} (h : Own w v e sz n xs) (hb : Bk w b t cs) (ht : t ≠ e) : v.ownBlock ≠ some b := fun hv => by
  rcases h.2 with ⟨rfl, _⟩ | ⟨g, cap, cur, rfl, _, hg, _⟩
  · cases hv
  · simp only [Value.ownBlock, Option.some.injEq] at hv
    subst hv
    unfold Bk at hb
    rw [hg] at hb
    injection hb with hb
    injection hb with _ hb
    exact ht hb.symm
theorem Own.ne_own {w : World} {v v' : Value} {e e' : TypeId} {sz n sz' n' : Nat} {xs xs' : List Value} (h : Own w v e sz n xs) (h' : Own w v' e' sz' n' xs') (ht : e ≠ e') : ∀ b, v.ownBlock = some b → v'.ownBlock ≠ some b := fun b hv hv' => by
  rcases h.2 with ⟨rfl, _⟩ | ⟨g, cap, cur, rfl, _, hg, _⟩
  · cases hv
  · rcases h'.2 with ⟨rfl, _⟩ | ⟨g', cap', cur', rfl, _, hg', _⟩
    · cases hv'
    · simp only [Value.ownBlock, Option.some.injEq] at hv hv'
      subst hv
      subst hv'
      rw [hg] at hg'
      injection hg' with hg'
      injection hg' with _ hg'
      exact ht hg'
theorem Mp.ne_bk {w : World} {m b : Nat} {t : TypeId} {es : List (Int × Value)} {cs : List Value} (h : Mp w m es) (hb : Bk w b t cs) : m ≠ b := fun e => by
  subst e
  obtain ⟨en, c, hm, _⟩ := h
  unfold Bk at hb
  rw [hm] at hb
  cases hb
theorem Mp.ne_own {w : World} {m sz n : Nat} {v : Value} {e : TypeId} {es : List (Int × Value)} {xs : List Value} (h : Mp w m es) (ho : Own w v e sz n xs) : v.ownBlock ≠ some m := fun hv => by
  obtain ⟨en, c, hm, _⟩ := h
  rcases ho.2 with ⟨rfl, _⟩ | ⟨g, cap, cur, rfl, _, hg, _⟩
  · cases hv
  · simp only [Value.ownBlock, Option.some.injEq] at hv
    subst hv
    rw [hm] at hg
    cases hg

/-! ### Reading in regions that draw -/
section
variable {P : Program} {w : World} {t tb e : TypeId} {b o n sz : Nat} {cs xs : List Value} {v : Value} {K : Value → Prop}
theorem Bk.ext {w' : World} (h : Bk w b tb cs) (f : Ext w w') : Bk w' b tb cs := (f.2 b h.lt).trans h
theorem ldY [Plain P t] (h : Bk w b tb cs) (hv : cs[o]? = some v) (k : K v) : py P (Ext w) (Instr.loadAt t (.pointer (some ⟨b, o, none⟩))) K :=
  py_of (fun _ f => ld_run (((h.ext f).cell o).trans hv)) k
theorem ldAY [Agg P t n] (h : Bk w b tb cs) (hx : ∀ j, j < xs.length → cs[o + j]? = xs[j]?) (hn : xs.length = n) (k : K (.agg xs.toArray)) : py P (Ext w) (Instr.loadAt t (.pointer (some ⟨b, o, none⟩))) K :=
  py_of (fun _ f => lda_run (h.ext f) hx hn) k
theorem idxY [SliceT P t e sz] {C : World → Prop} {len cap : Nat} {k : IntKind} {i : Int} (j : Nat) (hi : i = (j : Int)) (hj : j < len) (kk : K (.pointer (some ⟨b, o + j * sz, none⟩))) :
    py P C (Instr.indexAt t (.slice (some ⟨b, o, none⟩) len cap) (.int k i)) K := py_of (fun _ _ => idx_run hi hj) kk
end
/-! ### Stores into a slice that is owned -/
theorem spl_take {cs ys : List Value} {o m : Nat} (h : o + ys.length ≤ m) : (spl cs o ys).take m = spl (cs.take m) o ys ∨ cs.length < m := by
  rcases Nat.lt_or_ge cs.length m with hm | hm
  · exact .inr hm
  · left
    unfold spl
    have h1 : (cs.take o).length = o := by simp; omega
    rw [List.append_assoc, List.take_append, List.take_of_length_le (l := cs.take o) (by rw [h1]; omega), h1, List.take_append, List.take_of_length_le (l := ys) (by omega), List.take_take, show min o m = o by omega, List.drop_take, List.append_assoc]
    congr 3
    omega
section
variable {P : Program} {w : World} {t e : TypeId} {g n cap sz : Nat} {xs ys : List Value} {K : World → Prop}
theorem Own.bk {v : Value} (h : Own w v e sz n xs) (hn : 0 < n) : ∃ g cap cs, v = .slice (some ⟨g, 0, none⟩) n cap ∧ Bk w g e cs ∧ n ≤ cap ∧ cap ≤ maxLen ∧ cs.length = cap * sz ∧ cs.take (n * sz) = xs := by
  rcases h.2 with ⟨_, rfl⟩ | ⟨g, cap, cur, rfl, _, hg, h1, h2, h3, h4⟩
  · omega
  · exact ⟨g, cap, cur.toList, rfl, by simpa [Bk] using hg, h1, h2, by simpa using h3, h4⟩
theorem own_stA_k [Agg P t sz] {j : Nat} (h : Own w (.slice (some ⟨g, 0, none⟩) n cap) e sz n xs) (hj : j < n) (ha : Atoms ys) (hy : ys.length = sz)
    (k : ∀ w1, Own w1 (.slice (some ⟨g, 0, none⟩) n cap) e sz n (spl xs (j * sz) ys) → Fr (fun i => i = g) w w1 → K w1) :
    pu P (Instr.storeAt t (.pointer (some ⟨g, j * sz, none⟩)) (.agg ys.toArray)) w K := by
  obtain ⟨g', cap', cs, hv, hb, h1, h2, h3, h4⟩ := h.bk (by omega)
  simp only [Value.slice.injEq, Option.some.injEq, Addr.mk.injEq, and_true, true_and] at hv
  obtain ⟨rfl, rfl⟩ := hv
  have hjm : j * sz + sz ≤ n * sz := by rw [← Nat.succ_mul]; exact Nat.mul_le_mul_right _ hj
  have hnm : n * sz ≤ cap * sz := Nat.mul_le_mul_right _ h1
  refine stA_k hb ha hy (by omega) fun w1 hb1 hf1 => k w1 ⟨?_, .inr ⟨g, cap, (spl cs (j * sz) ys).toArray, rfl, Nat.zero_le _, hb1, h1, h2, ?_, ?_⟩⟩ hf1
  · rw [spl_length (by rw [h.1, hy]; exact hjm)]; exact h.1
  · simp only [List.size_toArray]; rw [spl_length (by omega)]; exact h3
  · rcases spl_take (cs := cs) (ys := ys) (o := j * sz) (m := n * sz) (by omega) with h5 | h5
    · rw [← h4]; exact h5
    · omega
end

/-! ### Structs and slices made of parts -/
theorem zipFold (off : Nat) : ∀ (xs : List Value) (i : Nat) (cs : List Value), off + i + xs.length ≤ cs.length →
    (xs.zipIdx i).foldl (fun (a : Array Value) (p : Value × Nat) => a.setIfInBounds (off + p.2) p.1) cs.toArray = (spl cs (off + i) xs).toArray
  | [], i, cs, _ => by simp [spl_nil]
  | x :: xs, i, cs, h => by
    simp only [List.length_cons] at h
    simp only [List.zipIdx_cons, List.foldl_cons]
    have hset : cs.toArray.setIfInBounds (off + i) x = (cs.set (off + i) x).toArray := by simp
    rw [hset, zipFold off xs (i + 1) _ (by rw [List.length_set]; omega), show off + (i + 1) = off + i + 1 by omega, spl_cons (by omega)]
theorem fill_cons {place : Nat → Option (Nat × Nat)} {cs xs : List Value} {i off size : Nat} {v : Value} {rest : List (Nat × Value)} (hp : place i = some (off, size)) (hv : v.cells = xs.toArray) (hs : xs.length = size) (ho : off + size ≤ cs.length) :
    Instr.fill place cs.toArray ((i, v) :: rest) = Instr.fill place (spl cs off xs).toArray rest := by
  have h1 : ¬ (xs.toArray.size ≠ size ∨ off + xs.toArray.size > cs.toArray.size) := by simp; omega
  simp only [Instr.fill, hp, hv]
  rw [if_neg (by simpa using h1)]
  congr 1
  have := zipFold off xs 0 cs (by omega)
  rw [Nat.add_zero] at this
  rw [← this, ← Array.foldl_toList, Array.toList_zipIdx]
theorem fill_nil {place : Nat → Option (Nat × Nat)} {cs : Array Value} : Instr.fill place cs [] = some cs := rfl
theorem zeroRange {e : Nat} {z : List Value} (h : z.length = e) : ((Array.range e).map (z.toArray[· % z.toArray.size]!)) = z.toArray := by
  apply Array.ext
  · simp [h]
  · intro i h1 h2
    have hi : i < z.length := by simpa using h2
    simp [Nat.mod_eq_of_lt hi, hi]
section
variable {P : Program} {w : World} {t e : TypeId} {sz : Nat} {K : Value → World → Prop}
theorem bslice1_run [hS : SliceT P t e sz] {z : List Value} [hZ : Zero P e z] {v : Value} {xs : List Value} (hv : v.cells = xs.toArray) (hx : xs.length = sz) (hz : z.length = sz) (hpos : 0 < sz) (hmax : sz ≤ 16777216) :
    (Instr.buildSlice t 1 #[(0, v)]).run P w = .ok (.slice (some ⟨w.heap.size, 0, none⟩) 1 1) (w.alloc (.cells xs.toArray e)) := by
  obtain ⟨zv, hzr, hzc⟩ := hZ.run w
  have hr := zeroRange (e := sz) (z := z) hz
  have hf : Instr.fill (fun i => some (i * sz, sz)) z.toArray [(0, v)] = some xs.toArray := by
    rw [fill_cons (off := 0) (size := sz) (by simp) hv hx (by omega), fill_nil, spl_all (by omega)]
  have hne : ¬ sz = 0 := by omega
  have hmx : ¬ (16777216 < sz) := by omega
  simp only [Instr.buildSlice, Sem.run_bind, run_underlying hS.under, Result.andThen_ok, SliceT.sizeOf (P := P) (t := t), Nat.one_mul]
  rw [if_neg (by simpa using hmx)]
  simp only [if_neg hne, Sem.run_bind, hzr, Result.andThen_ok, Sem.run_pure, hzc, hr, hf]
  rfl
theorem bslice1_k [hS : SliceT P t e sz] {z : List Value} [hZ : Zero P e z] {v : Value} {xs : List Value} (hv : v.cells = xs.toArray) (hx : xs.length = sz) (hz : z.length = sz) (hpos : 0 < sz) (hmax : sz ≤ 16777216)
    (k : ∀ b w1, b = w.heap.size → Own w1 (.slice (some ⟨b, 0, none⟩) 1 1) e sz 1 xs → Fr no w w1 → K (.slice (some ⟨b, 0, none⟩) 1 1) w1) : px P (Instr.buildSlice t 1 #[(0, v)]) w K :=
  px_of (bslice1_run hv hx hz hpos hmax) (k _ _ rfl ⟨by omega, .inr ⟨w.heap.size, 1, xs.toArray, rfl, Nat.zero_le _, heap_alloc_new w _, Nat.le_refl _, (by unfold maxLen; omega), by simp; omega, by simp; exact List.take_of_length_le (by omega)⟩⟩ (Fr.alloc _ _))
theorem bslice1_g [hS : SliceT P t e sz] {z : List Value} [hZ : Zero P e z] {v : Value} {xs : List Value} (hv : v.cells = xs.toArray) (hx : xs.length = sz) (hz : z.length = sz) (hpos : 0 < sz) (hmax : sz ≤ 16777216)
    (k : ∀ b w1, b = w.heap.size → Own w1 (.slice (some ⟨b, 0, none⟩) 1 1) e sz 1 xs → Fr no w w1 → K (.slice (some ⟨b, 0, none⟩) 1 1) w1) : pg P (Instr.buildSlice t 1 #[(0, v)]) w K :=
  pg_of (bslice1_run hv hx hz hpos hmax) (Fr.alloc w _).ext (k _ _ rfl ⟨by omega, .inr ⟨w.heap.size, 1, xs.toArray, rfl, Nat.zero_le _, heap_alloc_new w _, Nat.le_refl _, (by unfold maxLen; omega), by simp; omega, by simp; exact List.take_of_length_le (by omega)⟩⟩ (Fr.alloc _ _))
theorem cell_ext {w' : World} {a : Addr} {v : Value} (h : w.cell? a = some v) (f : Ext w w') : w'.cell? a = some v := (World.cell?_of_block (w := w) (f.2 a.block (block_lt_of_cell h))).trans h
theorem ldCY [Agg P t sz] {b o : Nat} {xs : List Value} {K : Value → Prop} (hn : xs.length = sz) (h : ∀ q, q < sz → w.cell? ⟨b, o + q, none⟩ = xs[q]?) (k : K (.agg xs.toArray)) : py P (Ext w) (Instr.loadAt t (.pointer (some ⟨b, o, none⟩))) K := by
  refine py_of (fun w' f => ?_) k
  have hl : (loadCells ⟨b, o, none⟩ xs.length).run P w' = .ok xs.toArray w' := run_loadCells_list (P := P) w' ⟨b, o, none⟩ xs (fun j v hv => by
    have hj := (List.getElem?_eq_some_iff.1 hv).1
    rw [addr_add]
    exact cell_ext (by rw [h j (by omega), hv]) f)
  simp only [Instr.loadAt, Instr.sureAddr, Sem.run_bind, Sem.run_pure, Result.andThen_ok, loadVar, Agg.isAgg]
  simp [Agg.sizeOf (P := P) (t := t), ← hn, hl]
/-- A slice that is not empty: its address. -/
theorem Sl.addr {v : Value} {n : Nat} {xs : List Value} (h : Sl w v sz n xs) (hn : 0 < n) (hs : 0 < sz) : ∃ b o cap, v = .slice (some ⟨b, o, none⟩) n cap ∧ n ≤ cap ∧ ∀ q, q < n * sz → w.cell? ⟨b, o + q, none⟩ = xs[q]? := by
  obtain ⟨hl, a, cap, rfl, hc, hnil, hcell⟩ := h
  cases a with
  | none => have := (hnil rfl).1; omega
  | some ad =>
    have hpos : 0 < xs.length := by rw [hl]; exact Nat.mul_pos hn hs
    have h0 := hcell ad rfl 0 (xs[0]'hpos) (List.getElem?_eq_getElem hpos)
    have ha : ad.add 0 = ad := by simp [Addr.add]
    rw [ha] at h0
    have hspot : ad.spot = none := by
      unfold World.cell? at h0
      split at h0
      · split at h0
        · cases h0
        · rename_i hs; simpa using hs
      · cases h0
    obtain ⟨b, o, sp⟩ := ad
    simp only at hspot
    subst hspot
    refine ⟨b, o, cap, rfl, hc, fun q hq => ?_⟩
    have hq' : q < xs.length := by rw [hl]; exact hq
    have := hcell _ rfl q _ (List.getElem?_eq_getElem hq')
    rw [addr_add] at this
    rw [this, List.getElem?_eq_getElem hq']
end

/-- A struct's fields: where each begins, how many cells it has. -/
class StructT (P : Program) (t : TypeId) (places : outParam (List (Nat × Nat))) : Prop where
  under : P.underlying t = some (.struct (P.fieldsOf t))
  run : ∀ w, ((P.fieldsOf t).mapM fun f => do pure (f.offset, ← sizeOf f.type) : Sem (Array (Nat × Nat))).run P w = .ok places.toArray w
theorem build_run {P : Program} {w : World} {t : TypeId} {places : List (Nat × Nat)} {z : List Value} [hS : StructT P t places] [hZ : Zero P t z] {parts : List (Nat × Value)} {xs : List Value}
    (h : Instr.fill (fun i => places[i]?) z.toArray parts = some xs.toArray) : (Instr.build t parts.toArray).run P w = .ok (.agg xs.toArray) w := by
  obtain ⟨zv, hzr, hzc⟩ := hZ.run w
  have h' : Instr.fill (fun i => places.toArray[i]?) z.toArray parts = some xs.toArray := by simpa using h
  simp only [Instr.build, Sem.run_bind, hzr, Result.andThen_ok, run_underlying hS.under, hS.run, hzc, h', Sem.run_pure]

theorem Mp.fr0' {w w' : World} {m : Nat} {es : List (Int × Value)} (h : Mp w m es) (f : Fr no w w') : Mp w' m es := h.fr f id
theorem Fr.two' {F G : Nat → Prop} {a b c : World} (h : Fr F a b) (k : Fr G b c) : Fr (fun i => F i ∨ G i) a c := (h.mono fun _ h => .inl h).two (k.mono fun _ h => .inr h)

/-! ### make -/
theorem rep_get (z : List Value) (hz : 0 < z.length) : ∀ (n i : Nat), i < n * z.length → (List.replicate n z).flatten[i]? = z[i % z.length]?
  | 0, i, h => by simp at h
  | n + 1, i, h => by
    rw [List.replicate_succ, List.flatten_cons]
    by_cases hi : i < z.length
    · rw [List.getElem?_append_left hi, Nat.mod_eq_of_lt hi]
    · rw [List.getElem?_append_right (by omega), rep_get z hz n _ (by rw [Nat.succ_mul] at h; omega), ← Nat.mod_eq_sub_mod (show i ≥ z.length by omega)]
theorem rep_len (z : List Value) (n : Nat) : (List.replicate n z).flatten.length = n * z.length := by simp
theorem made_rep {z : List Value} (hz : 0 < z.length) (n : Nat) : madeCells z.toArray (n * z.length) = ((List.replicate n z).flatten).toArray := by
  apply Array.ext
  · rw [size_madeCells]; simp
  · intro i h1 h2
    have hi : i < n * z.length := by rw [size_madeCells] at h1; exact h1
    have hm : i % z.length < z.length := Nat.mod_lt _ hz
    have := rep_get z hz n i hi
    have h3 : i < (List.replicate n z).flatten.length := by rw [rep_len]; exact hi
    rw [List.getElem?_eq_getElem h3, List.getElem?_eq_getElem hm] at this
    have h4 := Option.some.inj this
    simp only [madeCells, List.getElem_toArray]
    rw [h4]
    simp [hm]
theorem make_k {P : Program} {w : World} {t e : TypeId} {sz by' : Nat} {z : List Value} [hS : SliceT P t e sz] [hE : ElemT P e sz by'] [hZ : Zero P e z] {kl kc : IntKind} {n : Nat} {l : Int} {K : Value → World → Prop}
    (hl : l = (n : Int)) (hb : by' * n ≤ 281474976710656) (h63 : n ≤ maxLen)
    (k : ∀ b w1, b = w.heap.size → Own w1 (.slice (some ⟨b, 0, none⟩) n n) e sz n (List.replicate n z).flatten → Fr no w w1 → K (.slice (some ⟨b, 0, none⟩) n n) w1) :
    px P (Instr.makeSlice t (.int kl l) (.int kc l)) w K := by
  subst hl
  obtain ⟨i, z', hi, hz, rfl, rfl, hzs, hpos⟩ := hE.row
  obtain ⟨v, hv, hvc⟩ := hZ.run w
  have hv' : v = z' := by
    simp only [zeroValue, typeInfo, Sem.run_bind] at hv
    simp [hi, hz] at hv
    exact hv.symm
  subst hv'
  have hzl : z.length = i.size := by rw [← hzs, hvc]; simp
  have h63' : (n : Int) ≤ 9223372036854775807 := by simp [maxLen] at h63; omega
  have hb' : (i.bytes : Int) * (n : Int) ≤ 281474976710656 := by
    have h : ((i.bytes * n : Nat) : Int) ≤ 281474976710656 := by omega
    rwa [Int.natCast_mul] at h
  have hr := run_make (P := P) w t e i v hS.under hi hz kl kc n n (by omega) (Int.le_refl _) hb' h63'
  simp only [Int.toNat_natCast, hvc, ← hzl] at hr
  rw [made_rep (by omega)] at hr
  refine px_of hr (k _ _ rfl ⟨by rw [rep_len, hzl], .inr ⟨w.heap.size, n, ((List.replicate n z).flatten).toArray, rfl, Nat.zero_le _, heap_alloc_new w _, Nat.le_refl _, h63, by simp [hzl], by rw [← hzl]; exact List.take_of_length_le (by rw [rep_len]; exact Nat.le_refl _)⟩⟩ (Fr.alloc _ _))
end Go.V
