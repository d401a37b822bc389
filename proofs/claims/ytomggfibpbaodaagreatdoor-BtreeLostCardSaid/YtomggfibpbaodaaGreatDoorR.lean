/-
  Rules for the conditions of V.lean: what single operations do, as instances that are found by their operands' shapes ('Rn'), and as lemmas. Nothing of a program is in this text.
-/
import Derived.Test.YtomggfibpbaodaaGreatDoorV
import Derived.Laws.World
import Derived.Laws.Rows
import Derived.IntWalk
import Derived.Laws.Pointers
namespace Go.V
open Go

/-! ### Numbers, truth values -/
section
variable {P : Program} {w : World} {t : TypeId} {c : Bool} {k : IntKind} {a b : Int}
instance : Rn P (bin c .lss t (.int k a) (.int k b)) w (.bool (decide (a < b))) w := ⟨by cases k <;> rfl⟩
instance : Rn P (bin c .leq t (.int k a) (.int k b)) w (.bool (decide (a ≤ b))) w := ⟨by cases k <;> rfl⟩
instance : Rn P (bin c .gtr t (.int k a) (.int k b)) w (.bool (decide (a > b))) w := ⟨by cases k <;> rfl⟩
instance : Rn P (bin c .geq t (.int k a) (.int k b)) w (.bool (decide (a ≥ b))) w := ⟨by cases k <;> rfl⟩
theorem bin_eql : (bin c .eql t (.int k a) (.int k b)).run P w = .ok (.bool (decide (a = b))) w := by
  have : (a == b) = decide (a = b) := by rfl
  cases c <;> cases k <;> simp [bin, eqg, eqGuard, binOp, Op.intCmp, this]
theorem bin_neq : (bin c .neq t (.int k a) (.int k b)).run P w = .ok (.bool (decide (a ≠ b))) w := by
  have : (a != b) = decide (a ≠ b) := by simp [bne, decide_not]; rfl
  cases c <;> cases k <;> simp [bin, eqg, eqGuard, binOp, Op.intCmp, this]
instance : Rn P (bin c .eql t (.int k a) (.int k b)) w (.bool (decide (a = b))) w := ⟨bin_eql⟩
instance : Rn P (bin c .neq t (.int k a) (.int k b)) w (.bool (decide (a ≠ b))) w := ⟨bin_neq⟩
/-- A number is of a kind. -/
class Fits (k : IntKind) (n : Int) : Prop where
  out : k.wrap n = n
theorem add_run : (bin c .add t (.int k a) (.int k b)).run P w = .ok (.int k (k.wrap (a + b))) w := by cases c <;> cases k <;> rfl
theorem sub_run : (bin c .sub t (.int k a) (.int k b)).run P w = .ok (.int k (k.wrap (a - b))) w := by cases c <;> cases k <;> rfl
theorem mul_run : (bin c .mul t (.int k a) (.int k b)).run P w = .ok (.int k (k.wrap (a * b))) w := by cases c <;> cases k <;> rfl
instance (priority := 50) : Rn P (bin c .add t (.int k a) (.int k b)) w (.int k (k.wrap (a + b))) w := ⟨add_run⟩
instance (priority := 50) : Rn P (bin c .sub t (.int k a) (.int k b)) w (.int k (k.wrap (a - b))) w := ⟨sub_run⟩
instance (priority := 50) : Rn P (bin c .mul t (.int k a) (.int k b)) w (.int k (k.wrap (a * b))) w := ⟨mul_run⟩
instance [h : Fits k (a + b)] : Rn P (bin c .add t (.int k a) (.int k b)) w (.int k (a + b)) w := ⟨by rw [add_run, h.out]⟩
instance [h : Fits k (a - b)] : Rn P (bin c .sub t (.int k a) (.int k b)) w (.int k (a - b)) w := ⟨by rw [sub_run, h.out]⟩
instance [h : Fits k (a * b)] : Rn P (bin c .mul t (.int k a) (.int k b)) w (.int k (a * b)) w := ⟨by rw [mul_run, h.out]⟩
theorem wrap_i64 {n : Int} (h1 : -9223372036854775808 ≤ n) (h2 : n ≤ 9223372036854775807) : IntKind.i64.wrap n = n := by
  simp only [IntKind.wrap, IntKind.signed, IntKind.bits]
  simp
  omega
theorem fits_i64 {n : Int} (h1 : -9223372036854775808 ≤ n) (h2 : n ≤ 9223372036854775807) : Fits .i64 n := ⟨wrap_i64 h1 h2⟩
instance {x : Bool} : Rn P (Op.unary .not (.bool x)) w (.bool (!x)) w := ⟨rfl⟩
end

/-! ### Tuples, values made -/
section
variable {P : Program} {w : World}
instance {a b : Value} : Rn P (Instr.extract (.tuple #[a, b]) 0) w a w := ⟨rfl⟩
instance {a b : Value} : Rn P (Instr.extract (.tuple #[a, b]) 1) w b w := ⟨rfl⟩
instance {a b c : Value} : Rn P (Instr.extract (.tuple #[a, b, c]) 0) w a w := ⟨rfl⟩
instance {a b c : Value} : Rn P (Instr.extract (.tuple #[a, b, c]) 1) w b w := ⟨rfl⟩
instance {a b c : Value} : Rn P (Instr.extract (.tuple #[a, b, c]) 2) w c w := ⟨rfl⟩
instance {fn : Fn} {x y : Array Value} : Rn P (Instr.makeFunc fn x y) w (.func fn x y) w := ⟨rfl⟩
end

/-! ### Types -/
def plainB (P : Program) (t : TypeId) : Bool :=
  match P.underlying t, P.info? t with
  | some (.struct _), _ => false
  | some (.array _ _), _ => false
  | some _, some i => i.size == 1
  | _, _ => false
/-- A variable of the type is one cell. -/
class Plain (P : Program) (t : TypeId) : Prop where
  ok : plainB P t = true
def aggB (P : Program) (t : TypeId) (n : Nat) : Bool :=
  match P.underlying t, P.info? t with
  | some (.struct _), some i => i.size == n
  | some (.array _ _), some i => i.size == n
  | _, _ => false
/-- A variable of the type is so many cells. -/
class Agg (P : Program) (t : TypeId) (n : outParam Nat) : Prop where
  ok : aggB P t n = true
/-- The type is a slice of e, an element of it so many cells. -/
class SliceT (P : Program) (t : TypeId) (e : outParam TypeId) (n : outParam Nat) : Prop where
  under : P.underlying t = some (.slice e)
  size : P.cellsOf e = n
  info : (P.info? e).isSome = true
section
variable {P : Program} {w : World} {t : TypeId}
theorem Plain.isAgg [h : Plain P t] : (isAgg t).run P w = .ok false w := by
  have := h.ok
  unfold plainB at this
  unfold Go.isAgg
  cases hu : P.underlying t with
  | none => rw [hu] at this; simp at this
  | some d =>
    rw [hu] at this
    cases d <;> simp_all [underlying, program, Sem.run]
theorem Plain.sizeOf [h : Plain P t] : (sizeOf t).run P w = .ok 1 w := by
  have := h.ok
  unfold plainB at this
  cases hi : P.info? t with
  | none => rw [hi] at this; split at this <;> simp_all
  | some i =>
    have hs : i.size = 1 := by
      rw [hi] at this
      split at this <;> simp_all
    simp [Go.sizeOf, typeInfo, program, Sem.run, hi, hs]
theorem Agg.isAgg {n : Nat} [h : Agg P t n] : (isAgg t).run P w = .ok true w := by
  have := h.ok
  unfold aggB at this
  unfold Go.isAgg
  cases hu : P.underlying t with
  | none => rw [hu] at this; simp at this
  | some d =>
    rw [hu] at this
    cases d <;> simp_all [underlying, program, Sem.run]
theorem Agg.sizeOf {n : Nat} [h : Agg P t n] : (sizeOf t).run P w = .ok n w := by
  have := h.ok
  unfold aggB at this
  cases hi : P.info? t with
  | none => rw [hi] at this; split at this <;> simp_all
  | some i =>
    have hs : i.size = n := by
      rw [hi] at this
      split at this <;> simp_all
    simp [Go.sizeOf, typeInfo, program, Sem.run, hi, hs]
theorem SliceT.sizeOf {e : TypeId} {n : Nat} [h : SliceT P t e n] : (sizeOf e).run P w = .ok n w := by
  have h1 := h.size
  have h2 := h.info
  unfold Program.cellsOf at h1
  cases hi : P.info? e with
  | none => rw [hi] at h2; cases h2
  | some i =>
    rw [hi] at h1
    simp at h1
    simp [Go.sizeOf, typeInfo, program, Sem.run, hi, h1]
theorem SliceT.und {e : TypeId} {n : Nat} [h : SliceT P t e n] : (underlying t).run P w = .ok (.slice e) w := by
  simp [underlying, program, Sem.run, h.under]
end

/-! ### Memory, block by block -/
/-- A block of cells. -/
def Bk (w : World) (b : Nat) (t : TypeId) (cs : List Value) : Prop := w.heap[b]? = some (.cells cs.toArray t (0, 0))
def putB (w : World) (b : Nat) (o : Obj) : World := { w with heap := w.heap.setIfInBounds b o }
theorem Bk.lt {w : World} {b : Nat} {t : TypeId} {cs : List Value} (h : Bk w b t cs) : b < w.heap.size := (Array.getElem?_eq_some_iff.1 h).1
theorem Bk.cell {w : World} {b : Nat} {t : TypeId} {cs : List Value} (h : Bk w b t cs) (o : Nat) : w.cell? ⟨b, o, none⟩ = cs[o]? := by
  unfold Bk at h
  simp [World.cell?, h]
theorem Bk.frozen {w : World} {b : Nat} {t : TypeId} {cs : List Value} (h : Bk w b t cs) (o : Nat) : w.frozen? ⟨b, o, none⟩ = false := by
  unfold Bk at h
  simp [World.frozen?, h]
theorem Bk.setCell {w : World} {b : Nat} {t : TypeId} {cs : List Value} (h : Bk w b t cs) (o : Nat) (v : Value) : w.setCell ⟨b, o, none⟩ v = putB w b (.cells (cs.set o v).toArray t (0, 0)) := by
  unfold Bk at h
  have hlt := (Array.getElem?_eq_some_iff.1 h).1
  have hget : w.heap[b] = .cells cs.toArray t (0, 0) := (Array.getElem?_eq_some_iff.1 h).2
  simp only [World.setCell, putB]
  congr 1
  apply Array.ext
  · simp
  · intro i h1 h2
    rw [Array.getElem_modify]
    split
    · rename_i hi
      subst hi
      simp [hget]
    · rename_i hi
      rw [Array.getElem_setIfInBounds_ne _ hi]
theorem Bk.put {w : World} {b : Nat} (hlt : b < w.heap.size) (t : TypeId) (cs : List Value) : Bk (putB w b (.cells cs.toArray t (0, 0))) b t cs := by
  unfold Bk putB
  simp [hlt]
theorem heap_putB_ne {w : World} {b k : Nat} {o : Obj} (h : k ≠ b) : (putB w b o).heap[k]? = w.heap[k]? := by
  unfold putB
  exact Array.getElem?_setIfInBounds_ne (fun e => h e.symm)
theorem heap_putB_eq {w : World} {b : Nat} {o : Obj} (h : b < w.heap.size) : (putB w b o).heap[b]? = some o := by
  unfold putB
  simp [h]
theorem putB_putB (w : World) (b : Nat) (o o' : Obj) : putB (putB w b o) b o' = putB w b o' := by
  unfold putB
  simp

/-- What is not of F is as it was; what lies outside memory, too. -/
structure Fr (F : Nat → Prop) (w w' : World) : Prop where
  os : w'.os = w.os
  tape : w'.tape = w.tape
  output : w'.output = w.output
  size : w.heap.size ≤ w'.heap.size
  same : ∀ k, k < w.heap.size → ¬ F k → w'.heap[k]? = w.heap[k]?
def no : Nat → Prop := fun _ => False
theorem Fr.refl (F : Nat → Prop) (w : World) : Fr F w w := ⟨rfl, rfl, rfl, Nat.le_refl _, fun _ _ _ => rfl⟩
theorem Fr.trans {F G : Nat → Prop} {a b c : World} (h : Fr F a b) (k : Fr G b c) (hg : ∀ i, G i → F i ∨ a.heap.size ≤ i) : Fr F a c :=
  ⟨k.os.trans h.os, k.tape.trans h.tape, k.output.trans h.output, Nat.le_trans h.size k.size, fun i hi hf => by
    rw [k.same i (Nat.lt_of_lt_of_le hi h.size) (fun hgi => by rcases hg i hgi with h | h; exact hf h; omega), h.same i hi hf]⟩
theorem Fr.mono {F G : Nat → Prop} {a b : World} (h : Fr F a b) (hg : ∀ i, F i → G i) : Fr G a b := ⟨h.os, h.tape, h.output, h.size, fun i hi hn => h.same i hi (fun hf => hn (hg i hf))⟩
theorem Fr.two {F : Nat → Prop} {a b c : World} (h : Fr F a b) (k : Fr F b c) : Fr F a c := h.trans k fun _ h => .inl h
theorem Fr.then {F : Nat → Prop} {a b c : World} (h : Fr F a b) (k : Fr no b c) : Fr F a c := h.trans k fun _ h => h.elim
theorem Fr.of {F : Nat → Prop} {a b c : World} (h : Fr no a b) (k : Fr F b c) : Fr F a c := (h.mono fun _ h => h.elim).two k
theorem Fr.ext {w w' : World} (h : Fr no w w') : Ext w w' := ⟨h.size, fun k hk => h.same k hk id⟩
theorem Fr.dw (w : World) : Fr no w (dw w) := ⟨rfl, rfl, rfl, Nat.le_refl _, fun _ _ _ => rfl⟩
theorem Fr.alloc (w : World) (o : Obj) : Fr no w (w.alloc o) := ⟨rfl, rfl, rfl, by simp, fun k hk _ => heap_alloc_old w o k hk⟩
theorem Fr.put {F : Nat → Prop} (w : World) (b : Nat) (o : Obj) (hb : F b) : Fr F w (putB w b o) :=
  ⟨rfl, rfl, rfl, by simp [putB], fun k _ hf => heap_putB_ne (fun e => hf (e ▸ hb))⟩
theorem Bk.fr {F : Nat → Prop} {w w' : World} {b : Nat} {t : TypeId} {cs : List Value} (h : Bk w b t cs) (f : Fr F w w') (hb : ¬ F b) : Bk w' b t cs := (f.same b h.lt hb).trans h
theorem Bk.fr0 {w w' : World} {b : Nat} {t : TypeId} {cs : List Value} (h : Bk w b t cs) (f : Fr no w w') : Bk w' b t cs := h.fr f id
theorem Bk.new (w : World) (t : TypeId) (cs : List Value) : Bk (w.alloc (.cells cs.toArray t (0, 0))) w.heap.size t cs := heap_alloc_new w _
theorem Bk.ne {w : World} {b b' : Nat} {t t' : TypeId} {cs cs' : List Value} (h : Bk w b t cs) (h' : Bk w b' t' cs') (ht : t ≠ t') : b ≠ b' := fun e => by
  subst e
  unfold Bk at h h'
  rw [h] at h'
  injection h' with h'
  injection h' with _ h'
  exact ht h'

/-- A value that is one cell. -/
class Atom (v : Value) : Prop where
  cells : v.cells = #[v]
  notAgg : ∀ cs, v ≠ .agg cs
  notTuple : ∀ cs, v ≠ .tuple cs
instance {b : Bool} : Atom (.bool b) := ⟨rfl, by simp, by simp⟩
instance {k : IntKind} {n : Int} : Atom (.int k n) := ⟨rfl, by simp, by simp⟩
instance {s : ByteArray} : Atom (.string s) := ⟨rfl, by simp, by simp⟩
instance {a : Option Addr} : Atom (.pointer a) := ⟨rfl, by simp, by simp⟩
instance {a : Option Addr} {n c : Nat} : Atom (.slice a n c) := ⟨rfl, by simp, by simp⟩
instance {r : Option Nat} : Atom (.map r) := ⟨rfl, by simp, by simp⟩
instance {f : Fn} {x y : Array Value} : Atom (.func f x y) := ⟨rfl, by simp, by simp⟩

section
variable {P : Program} {w : World} {t : TypeId} {a : Addr} {v old : Value}
theorem ld_run [Plain P t] (h : w.cell? a = some v) : (Instr.loadAt t (.pointer (some a))).run P w = .ok v w := by
  simp only [Instr.loadAt, Instr.sureAddr, Sem.run_bind, Sem.run_pure, Result.andThen_ok, loadVar, Plain.isAgg]
  simp [load, Sem.run, h]
theorem st_run [Plain P t] [hv : Atom v] (h : w.cell? a = some old) (hf : w.frozen? a = false) : (Instr.storeAt t (.pointer (some a)) v).run P w = .ok () (w.setCell a v) := by
  have h1 := hv.cells
  simp only [Instr.storeAt, Instr.sureAddr, Sem.run_bind, Sem.run_pure, Result.andThen_ok, storeVar, Plain.sizeOf, h1]
  have ha : a.add 0 = a := by simp [Addr.add]
  have : (storeCells a [v]).run P w = .ok () (w.setCell a v) := by
    simp only [storeCells, Sem.run_bind, store, ha]
    have hrun : (Sem.store Mode.plain a v (Sem.pure ())).run P w = .ok () (w.setCell a v) := by
      cases v <;> first | exact absurd rfl (hv.notAgg _) | exact absurd rfl (hv.notTuple _) | simp [Sem.run, h, hf]
    simp [hrun]
  simpa using this
variable {b o : Nat} {cs : List Value} {tb : TypeId} {K : Value → World → Prop}
theorem ldB [Plain P t] (h : Bk w b tb cs) (hv : cs[o]? = some v) (k : K v w) : px P (Instr.loadAt t (.pointer (some ⟨b, o, none⟩))) w K :=
  px_of (ld_run ((h.cell o).trans hv)) k
theorem ldBy [Plain P t] {C : World → Prop} {K : Value → Prop} (h : ∀ w, C w → w.cell? a = some v) (k : K v) : py P C (Instr.loadAt t (.pointer (some a))) K :=
  py_of (fun w hw => ld_run (h w hw)) k
theorem stB [Plain P t] [Atom v] {K : World → Prop} (h : Bk w b tb cs) (ho : o < cs.length) (k : K (putB w b (.cells (cs.set o v).toArray tb (0, 0)))) :
    pu P (Instr.storeAt t (.pointer (some ⟨b, o, none⟩)) v) w K :=
  pu_of (by rw [st_run (old := cs[o]) ((h.cell o).trans (by simp [ho])) (h.frozen o), h.setCell]) k
end

/-! ### Rows of cells -/
theorem addr_add (b o i : Nat) : (⟨b, o, none⟩ : Addr).add i = ⟨b, o + i, none⟩ := by
  unfold Addr.add
  split
  · rename_i h; simp [h]
  · rfl
def spl (cs : List Value) (o : Nat) (xs : List Value) : List Value := cs.take o ++ xs ++ cs.drop (o + xs.length)
theorem spl_nil (cs : List Value) (o : Nat) : spl cs o [] = cs := by simp [spl]
theorem spl_length {cs : List Value} {o : Nat} {xs : List Value} (h : o + xs.length ≤ cs.length) : (spl cs o xs).length = cs.length := by
  simp [spl]; omega
theorem spl_cons {cs : List Value} {o : Nat} {x : Value} {xs : List Value} (h : o < cs.length) : spl (cs.set o x) (o + 1) xs = spl cs o (x :: xs) := by
  have hl : (cs.take o).length = o := by simp; omega
  unfold spl
  rw [List.set_eq_take_append_cons_drop, if_pos h]
  have h1 : (cs.take o ++ x :: cs.drop (o + 1)).take (o + 1) = cs.take o ++ [x] := by
    rw [List.take_append, hl, show o + 1 - o = 1 by omega, List.take_of_length_le (by rw [hl]; omega)]
    rfl
  have h2 : (cs.take o ++ x :: cs.drop (o + 1)).drop (o + 1 + xs.length) = cs.drop (o + (xs.length + 1)) := by
    rw [List.drop_append, hl, List.drop_of_length_le (by rw [hl]; omega), show o + 1 + xs.length - o = xs.length + 1 by omega, List.drop_succ_cons, List.drop_drop]
    simp only [List.nil_append]
    congr 1
    omega
  rw [h1, h2]
  simp
def Atoms (xs : List Value) : Prop := ∀ x ∈ xs, Atom x
theorem storeCells_run {P : Program} {b o : Nat} {t : TypeId} : ∀ (xs : List Value) (i : Nat) (w : World) (cs : List Value), Bk w b t cs → Atoms xs → o + i + xs.length ≤ cs.length →
    (storeCells ⟨b, o, none⟩ xs i).run P w = .ok () (putB w b (.cells (spl cs (o + i) xs).toArray t (0, 0)))
  | [], i, w, cs, h, _, _ => by
    have hp : putB w b (.cells cs.toArray t (0, 0)) = w := by
      unfold putB
      obtain ⟨hlt, hg⟩ := Array.getElem?_eq_some_iff.1 h
      cases w
      simp only [World.mk.injEq, and_self, and_true]
      apply Array.ext
      · simp
      · intro k h1 h2
        rw [Array.getElem_setIfInBounds]
        split
        · rename_i hk; subst hk; exact hg.symm
        · rfl
    rw [spl_nil, hp]
    rfl
  | x :: xs, i, w, cs, h, ha, hl => by
    simp only [List.length_cons] at hl
    have hx := ha x (.head _)
    have hrun : (store ((⟨b, o, none⟩ : Addr).add i) x).run P w = .ok () (putB w b (.cells (cs.set (o + i) x).toArray t (0, 0))) := by
      rw [addr_add, ← h.setCell]
      have hlt : o + i < cs.length := by omega
      have h1 := (h.cell (o + i)).trans (List.getElem?_eq_getElem hlt)
      have h2 := h.frozen (o + i)
      unfold store
      cases x <;> first | exact absurd rfl (hx.notAgg _) | exact absurd rfl (hx.notTuple _) | simp [Sem.run, h1, h2]
    have hn : Bk (putB w b (.cells (cs.set (o + i) x).toArray t (0, 0))) b t (cs.set (o + i) x) := Bk.put h.lt _ _
    have ih := storeCells_run (P := P) (o := o) xs (i + 1) _ (cs.set (o + i) x) hn (fun y hy => ha y (.tail _ hy)) (by rw [List.length_set]; omega)
    simp only [storeCells, Sem.run_bind, hrun, Result.andThen_ok]
    rw [ih, putB_putB, show o + (i + 1) = o + i + 1 by omega, spl_cons (by omega)]
theorem loadCells_run {P : Program} {b o : Nat} {t : TypeId} {w : World} {cs xs : List Value} (h : Bk w b t cs) (hx : ∀ j, j < xs.length → cs[o + j]? = xs[j]?) :
    (loadCells ⟨b, o, none⟩ xs.length).run P w = .ok xs.toArray w :=
  run_loadCells_list (P := P) w ⟨b, o, none⟩ xs (fun j v hv => by
    rw [addr_add, h.cell, hx j (List.getElem?_eq_some_iff.1 hv).1, hv])

section
variable {P : Program} {w : World} {t tb : TypeId} {b o n : Nat} {cs xs : List Value} {K : Value → World → Prop}
theorem lda_run [Agg P t n] (h : Bk w b tb cs) (hx : ∀ j, j < xs.length → cs[o + j]? = xs[j]?) (hn : xs.length = n) : (Instr.loadAt t (.pointer (some ⟨b, o, none⟩))).run P w = .ok (.agg xs.toArray) w := by
  simp only [Instr.loadAt, Instr.sureAddr, Sem.run_bind, Sem.run_pure, Result.andThen_ok, loadVar, Agg.isAgg]
  simp [Agg.sizeOf (P := P) (t := t), ← hn, loadCells_run h hx]
theorem lva_run [Agg P t n] (h : Bk w b tb cs) (hx : ∀ j, j < xs.length → cs[o + j]? = xs[j]?) (hn : xs.length = n) : (loadVar t ⟨b, o, none⟩).run P w = .ok (.agg xs.toArray) w := by
  simp only [Sem.run_bind, Result.andThen_ok, loadVar, Agg.isAgg]
  simp [Agg.sizeOf (P := P) (t := t), ← hn, loadCells_run h hx]
theorem ldA [Agg P t n] (h : Bk w b tb cs) (hx : ∀ j, j < xs.length → cs[o + j]? = xs[j]?) (hn : xs.length = n) (k : K (.agg xs.toArray) w) : px P (Instr.loadAt t (.pointer (some ⟨b, o, none⟩))) w K :=
  px_of (lda_run h hx hn) k
theorem sta_run [Agg P t n] (h : Bk w b tb cs) (ha : Atoms xs) (hn : xs.length = n) (ho : o + n ≤ cs.length) :
    (Instr.storeAt t (.pointer (some ⟨b, o, none⟩)) (.agg xs.toArray)).run P w = .ok () (putB w b (.cells (spl cs o xs).toArray tb (0, 0))) := by
  simp only [Instr.storeAt, Instr.sureAddr, Sem.run_bind, Sem.run_pure, Result.andThen_ok, storeVar, Agg.sizeOf, Value.cells]
  have := storeCells_run (P := P) (o := o) xs 0 w cs h ha (by omega)
  simp [hn, this]
theorem stA [Agg P t n] {K : World → Prop} (h : Bk w b tb cs) (ha : Atoms xs) (hn : xs.length = n) (ho : o + n ≤ cs.length) (k : K (putB w b (.cells (spl cs o xs).toArray tb (0, 0)))) :
    pu P (Instr.storeAt t (.pointer (some ⟨b, o, none⟩)) (.agg xs.toArray)) w K := pu_of (sta_run h ha hn ho) k
end

/-! ### New blocks -/
/-- The zero value of a type, as cells. -/
class Zero (P : Program) (t : TypeId) (z : outParam (List Value)) : Prop where
  run : ∀ w, ∃ v, (zeroValue t).run P w = .ok v w ∧ v.cells = z.toArray
section
variable {P : Program} {w : World} {t : TypeId} {K : Value → World → Prop}
theorem alloc_run {z : List Value} [h : Zero P t z] : (Instr.alloc t true (.tuple #[])).run P w = .ok (.pointer (some ⟨w.heap.size, 0, none⟩)) (w.alloc (.cells z.toArray t (0, 0))) := by
  obtain ⟨v, h1, h2⟩ := h.run w
  simp only [Instr.alloc, Sem.run_bind, h1, Result.andThen_ok]
  rw [newVar, h2]
  rfl
theorem box_run {v : Value} : (Instr.box t v).run P w = .ok (.pointer (some ⟨w.heap.size, 0, none⟩)) (w.alloc (.cells v.cells t (0, 0))) := by
  rfl
/-- A new variable: its block, and the world behind it, get names. -/
theorem alloc_k {z : List Value} [Zero P t z] (k : ∀ b w1, b = w.heap.size → Bk w1 b t z → Fr no w w1 → K (.pointer (some ⟨b, 0, none⟩)) w1) : px P (Instr.alloc t true (.tuple #[])) w K :=
  px_of alloc_run (k _ _ rfl (Bk.new w t z) (Fr.alloc _ _))
theorem box_k {v : Value} [hv : Atom v] (k : ∀ b w1, b = w.heap.size → Bk w1 b t [v] → Fr no w w1 → K (.pointer (some ⟨b, 0, none⟩)) w1) : px P (Instr.box t v) w K :=
  px_of box_run (k _ _ rfl (by rw [hv.cells]; exact Bk.new w t [v]) (Fr.alloc _ _))
theorem boxA_k {xs : List Value} (k : ∀ b w1, b = w.heap.size → Bk w1 b t xs → Fr no w w1 → K (.pointer (some ⟨b, 0, none⟩)) w1) : px P (Instr.box t (.agg xs.toArray)) w K :=
  px_of box_run (k _ _ rfl (Bk.new w t xs) (Fr.alloc _ _))
end

/-! ### Slices -/
section
variable {P : Program} {w : World} {t e : TypeId} {n : Nat} {K : Value → World → Prop}
theorem idx_run [SliceT P t e n] {b o len cap : Nat} {k : IntKind} {i : Int} {j : Nat} (hi : i = (j : Int)) (hj : j < len) :
    (Instr.indexAt t (.slice (some ⟨b, o, none⟩) len cap) (.int k i)).run P w = .ok (.pointer (some ⟨b, o + j * n, none⟩)) w := by
  subst hi
  simp only [Instr.indexAt, asIntOf, Sem.run_bind, Sem.run_pure, Result.andThen_ok, SliceT.und]
  have hc : (0 : Int) ≤ (j : Int) ∧ (j : Int) < (len : Int) := ⟨by omega, by omega⟩
  rw [if_pos hc]
  simp [SliceT.sizeOf (t := t), addr_add]
theorem idx_k [SliceT P t e n] {b o len cap : Nat} {k : IntKind} {i : Int} (j : Nat) (hi : i = (j : Int)) (hj : j < len) (kk : K (.pointer (some ⟨b, o + j * n, none⟩)) w) :
    px P (Instr.indexAt t (.slice (some ⟨b, o, none⟩) len cap) (.int k i)) w K := px_of (idx_run hi hj) kk
theorem len_run [SliceT P t e n] {a : Option Addr} {len cap : Nat} {ty : TypeId} : (Builtin.len_ #[t] ty #[.slice a len cap]).run P w = .ok (.int .i64 len) w := by
  simp only [Builtin.len_]
  simp [SliceT.und, goInt]
instance [SliceT P t e n] {a : Option Addr} {len cap : Nat} {ty : TypeId} : Rn P (Builtin.len_ #[t] ty #[.slice a len cap]) w (.int .i64 len) w := ⟨len_run⟩
end

/-! ### Pointers against nil -/
class PtrT (P : Program) (t : TypeId) : Prop where
  row : P.underlying t = some (.pointer (P.pointee t))
section
variable {P : Program} {w : World} {t : TypeId} {c : Bool}
theorem bin_of (op : BinOp) (a b : Value) {v : Value} (hg : (eqg c op t a b).run P w = .ok () w) (h : (binOp op t a b).run P w = .ok v w) : (bin c op t a b).run P w = .ok v w := by
  simp only [bin, Sem.run_bind, hg, Result.andThen_ok, h]
theorem eqp_run [h : PtrT P t] (a : Option Addr) : (bin c .eql t (.pointer a) (.pointer none)).run P w = .ok (.bool a.isNone) w :=
  bin_of _ _ _ (by cases c <;> rfl) (run_eql_pointer_nil w t a h.row)
theorem nep_run [h : PtrT P t] (a : Option Addr) : (bin c .neq t (.pointer a) (.pointer none)).run P w = .ok (.bool (!a.isNone)) w :=
  bin_of _ _ _ (by cases c <;> rfl) (run_neq_pointer_nil w t a h.row)
instance [PtrT P t] {a : Addr} : Rn P (bin c .eql t (.pointer (some a)) (.pointer none)) w (.bool false) w := ⟨eqp_run _⟩
instance [PtrT P t] : Rn P (bin c .eql t (.pointer none) (.pointer none)) w (.bool true) w := ⟨eqp_run _⟩
instance [PtrT P t] {a : Addr} : Rn P (bin c .neq t (.pointer (some a)) (.pointer none)) w (.bool true) w := ⟨nep_run _⟩
instance [PtrT P t] : Rn P (bin c .neq t (.pointer none) (.pointer none)) w (.bool false) w := ⟨nep_run _⟩
end
end Go.V
