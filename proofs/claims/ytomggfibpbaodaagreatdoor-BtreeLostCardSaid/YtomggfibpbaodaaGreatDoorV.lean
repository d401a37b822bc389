/-
  A verification-condition generator over the model's code: 'vc' reads a function's code once, with the operands' values in place of the slots, and gives a proposition in continuation form; 'cl_of_vc': that proposition entails the contract of the call. Nothing of a program is in this text.
-/
import Derived.Orders
import Derived.OrdersHeld
import Derived.Scope
import Derived.Tactics
import Derived.KernelRfl
namespace Go.V

abbrev Env := Nat → Option Value

def upd (n : Nat) (e : Env) (d : Option Nat) (v : Option Value) : Env :=
  match d with
  | none => e
  | some d => fun t => match Nat.beq t d with
    | true => (match Nat.blt d n with | true => v | false => none)
    | false => e t

structure Rel (n : Nat) (e : Env) (a : Act) : Prop where
  size : a.tmps.size = n
  defers : a.defers = []
  at_ : ∀ t v, e t = some v → a.tmps[t]? = some v

def ev (e : Env) : Operand → Option Value
  | .tmp t => e t
  | .const v => some v
  | .global g => some (.pointer (some ⟨g, 0, none⟩))
  | .func f => some (.func (.func f) #[] #[])

theorem Rel.eval {n : Nat} {e : Env} {a : Act} (h : Rel n e a) {x : Operand} {v : Value} (hx : ev e x = some v) : a.eval x = v := by
  cases x with
  | tmp t => have := h.at_ t v hx; simp [Act.eval, this]
  | const c => simpa [ev, Act.eval] using hx
  | global g => simpa [ev, Act.eval] using hx
  | func f => simpa [ev, Act.eval] using hx

theorem Rel.put {n : Nat} {e : Env} {a : Act} (h : Rel n e a) (d : Option Nat) (v : Value) (ov : Option Value) (hv : ∀ u, ov = some u → u = v) : Rel n (upd n e d ov) (a.put d v) := by
  cases d with
  | none => exact h
  | some d =>
    refine ⟨by simp [Act.put, h.size], by simp [Act.put, h.defers], fun t u hu => ?_⟩
    simp only [upd] at hu
    by_cases htd : t = d
    · subst htd
      simp only [Nat.beq_refl] at hu
      cases hb : Nat.blt t n with
      | false => rw [hb] at hu; cases hu
      | true =>
        rw [hb] at hu
        have hlt : t < n := by simpa [Nat.blt_eq] using hb
        have := hv u hu
        subst this
        simp [Act.put, h.size, hlt]
    · have hb : Nat.beq t d = false := by
        cases hq : Nat.beq t d with
        | false => rfl
        | true => exact absurd (Nat.eq_of_beq_eq_true hq) htd
      rw [hb] at hu
      have := h.at_ t u hu
      simp only [Act.put]
      rw [Array.getElem?_setIfInBounds_ne (fun e => htd e.symm)]
      exact this

/-! ### The pieces of a condition -/
/-- One operation that yields a value. -/
def px (P : Program) (s : Sem Value) (w : World) (K : Value → World → Prop) : Prop :=
  match s.run P w with
  | .ok v w' => K v w'
  | .halt _ _ => False
/-- One operation that yields none. -/
def pu (P : Program) (s : Sem Unit) (w : World) (K : World → Prop) : Prop :=
  match s.run P w with
  | .ok _ w' => K w'
  | .halt _ _ => False
/-- What stood in memory stands there as it did. -/
def Ext (w w' : World) : Prop := w.heap.size ≤ w'.heap.size ∧ ∀ k, k < w.heap.size → w'.heap[k]? = w.heap[k]?
theorem Ext.refl (w : World) : Ext w w := ⟨Nat.le_refl _, fun _ _ => rfl⟩
theorem Ext.trans {a b c : World} (h : Ext a b) (k : Ext b c) : Ext a c :=
  ⟨Nat.le_trans h.1 k.1, fun i hi => (k.2 i (Nat.lt_of_lt_of_le hi h.1)).trans (h.2 i hi)⟩
/-- The same, and what stood in memory stands there as it did. -/
def pg (P : Program) (s : Sem Value) (w : World) (K : Value → World → Prop) : Prop :=
  match s.run P w with
  | .ok v w' => Ext w w' ∧ K v w'
  | .halt _ _ => False
/-- An operation that yields one value in every world of a class, and leaves that world. -/
def py (P : Program) (C : World → Prop) (s : Sem Value) (K : Value → Prop) : Prop := ∃ v, (∀ w, C w → s.run P w = .ok v w) ∧ K v
def Callable (P : Program) (f : FuncId) : Prop := ∀ (args : Array Value) (w : World), (callFunc f args).run P w = .ok (.enter f args) w
/-- A call of a function. -/
def cl (P : Program) (f : FuncId) (args : Array Value) (w : World) (K : Value → World → Prop) : Prop :=
  (Callable P f ∧ Calls P f args w fun e w' => ∃ v, e = .returned v ∧ K v w') ∨ (∃ v w', (callFunc f args).run P w = .ok (.value v) w' ∧ K v w')
/-- A call of a function value. -/
def cv (P : Program) (f : Value) (args : Array Value) (w : World) (K : Value → World → Prop) : Prop :=
  match f with
  | .func (.func f) first captured => cl P f ((first ++ args) ++ captured) w K
  | _ => False
def okNil : Value → Bool
  | .pointer (some _) | .func (.func _) _ _ | .iface _ _ => true
  | _ => false
def nc (v : Value) (w : World) (K : Value → World → Prop) : Prop := okNil v = true ∧ K v w
def ny (v : Value) (K : Value → Prop) : Prop := okNil v = true ∧ K v
def bsel (b : Bool) (x y : Value) : Value := match b with | true => x | false => y
def pk (c x y : Value) (w : World) (K : Value → World → Prop) : Prop := ∃ b, c = .bool b ∧ K (bsel b x y) w
def pky (c x y : Value) (K : Value → Prop) : Prop := ∃ b, c = .bool b ∧ K (bsel b x y)
def gd (g : Value) (want : Bool) (w : World) (p : (Value → World → Prop) → Prop) (K : Value → World → Prop) : Prop :=
  match g with
  | .bool b => (match b == want with | true => p K | false => K undef w)
  | .tuple _ => K undef w
  | _ => False
def gy (g : Value) (want : Bool) (p : (Value → Prop) → Prop) (K : Value → Prop) : Prop :=
  match g with
  | .bool b => (match b == want with | true => p K | false => K undef)
  | .tuple _ => K undef
  | _ => False
def cnd (c : Value) (A B : Prop) : Prop :=
  match c with
  | .bool true => A
  | .bool false => B
  | _ => False
/-- Ways that meet again: what holds where they meet is the prover's to say. -/
def cut (B : (List Value → World → Prop) → Prop) (R : List Value → World → Prop) : Prop :=
  ∃ J : List Value → World → Prop, (∀ vs w, J vs w → R vs w) ∧ B J
/-- A loop: its invariant and its measure are the prover's to say. -/
def lp (init : List Value) (w : World) (body : (List Value → World → Prop) → List Value → World → Prop) : Prop :=
  ∃ (I : List Value → World → Prop) (μ : List Value → World → Nat), I init w ∧ ∀ vs w, I vs w → body (fun vs' w' => I vs' w' ∧ μ vs' w' < μ vs w) vs w
def conj : List Prop → Prop
  | [] => True
  | [p] => p
  | p :: q :: r => p ∧ conj (q :: r)
theorem conj_all {l : List Prop} (h : conj l) : ∀ p ∈ l, p := by
  induction l with
  | nil => simp
  | cons a l ih =>
    cases l with
    | nil => intro p hp; rw [List.mem_singleton.1 hp]; exact h
    | cons b l =>
      intro p hp
      rcases List.mem_cons.1 hp with rfl | hp
      · exact h.1
      · exact ih h.2 p hp

/-! ### One operation -/
def evs (e : Env) : List Operand → Option (List Value)
  | [] => some []
  | x :: xs => match ev e x with
    | none => none
    | some v => match evs e xs with
      | none => none
      | some vs => some (v :: vs)
def evp (e : Env) : List (Nat × Operand) → Option (List (Nat × Value))
  | [] => some []
  | (i, x) :: xs => match ev e x with
    | none => none
    | some v => match evp e xs with
      | none => none
      | some vs => some ((i, v) :: vs)
def evo (e : Env) : Option Operand → Option (Option Value)
  | none => some none
  | some x => match ev e x with
    | none => none
    | some v => some (some v)
theorem evs_eval {n : Nat} {e : Env} {a : Act} (h : Rel n e a) : ∀ {l : List Operand} {vs : List Value}, evs e l = some vs → l.map a.eval = vs
  | [], vs, hl => by simpa [evs] using hl
  | x :: xs, vs, hl => by
    simp only [evs] at hl
    split at hl
    · cases hl
    · rename_i v hx
      split at hl
      · cases hl
      · rename_i us hxs
        have := evs_eval h hxs
        have hv := h.eval hx
        cases hl
        simp [this, hv]
theorem evp_eval {n : Nat} {e : Env} {a : Act} (h : Rel n e a) : ∀ {l : List (Nat × Operand)} {vs : List (Nat × Value)}, evp e l = some vs → l.map (fun p => (p.1, a.eval p.2)) = vs
  | [], vs, hl => by simpa [evp] using hl
  | (i, x) :: xs, vs, hl => by
    simp only [evp] at hl
    split at hl
    · cases hl
    · rename_i v hx
      split at hl
      · cases hl
      · rename_i us hxs
        have := evp_eval h hxs
        have hv := h.eval hx
        cases hl
        simp [this, hv]
theorem evo_eval {n : Nat} {e : Env} {a : Act} (h : Rel n e a) {x : Option Operand} {v : Option Value} (hx : evo e x = some v) : x.map a.eval = v := by
  cases x with
  | none => simpa [evo] using hx
  | some x =>
    simp only [evo] at hx
    split at hx
    · cases hx
    · rename_i u hu
      cases hx
      simp [h.eval hu]

def isK : Operand → Bool
  | .const _ => true
  | _ => false
/-- '==' and its kin: whether an operand is a literal is all that the guard asks of the operands' text. -/
def eqg (c : Bool) (op : BinOp) (t : TypeId) (a b : Value) : Sem Unit := eqGuard op t (match c with | true => .const a | false => .tmp 0) (.tmp 0) a b
theorem eqg_eq (op : BinOp) (t : TypeId) (x y : Operand) (a b : Value) : eqGuard op t x y a b = eqg (isK x || isK y) op t a b := by
  unfold eqg eqGuard
  cases x <;> cases y <;> simp [isK] <;> rfl
def bin (c : Bool) (op : BinOp) (t : TypeId) (a b : Value) : Sem Value := do eqg c op t a b; binOp op t a b

/-- The operations that yield a value and enter no function: what they do, of the operands' values. -/
def semOf (e : Env) (o : Oper) : Option (Sem Value) :=
  match o.op with
  | .alloc t => some (Instr.alloc t true (.tuple #[]))
  | .box t x => match ev e x with | some v => some (Instr.box t v) | none => none
  | .build t ps => match evp e ps.toList with | some l => some (Instr.build t l.toArray) | none => none
  | .buildSlice t len ps => match evp e ps.toList with | some l => some (Instr.buildSlice t len l.toArray) | none => none
  | .load t x => match ev e x with | some v => some (Instr.loadAt t v) | none => none
  | .binOp op t x y _ => match ev e x with
    | none => none
    | some a => match ev e y with
      | none => none
      | some b => some (bin (isK x || isK y) op t a b)
  | .unOp op _ x => match ev e x with | some v => some (Op.unary op v) | none => none
  | .convert s d x => match ev e x with | some v => some (convert s d v) | none => none
  | .sliceToArrayPointer t x => match ev e x with | some v => some (Instr.arrayAt t v) | none => none
  | .makeInterface t x => match ev e x with | some v => some (Instr.makeInterface t v) | none => none
  | .makeFunc fn first captured => match evs e first.toList with
    | none => none
    | some l => match evs e captured.toList with
      | none => none
      | some m => some (Instr.makeFunc fn l.toArray m.toArray)
  | .makeMap t r => match evo e r with | some v => some (Instr.makeMap t v) | none => none
  | .makeSlice t l c => match ev e l with
    | none => none
    | some a => match ev e c with
      | none => none
      | some b => some (Instr.makeSlice t a b)
  | .slice t x lo hi mx => match ev e x with
    | none => none
    | some v => match evo e lo with
      | none => none
      | some l => match evo e hi with
        | none => none
        | some h => match evo e mx with
          | none => none
          | some m => some (Instr.sliceAt t v l h m)
  | .fieldAddr s x f => match ev e x with | some v => some (Instr.fieldAt s v f) | none => none
  | .field t x f => match ev e x with | some v => some (Instr.field t v f) | none => none
  | .indexAddr t x i => match ev e x with
    | none => none
    | some a => match ev e i with
      | none => none
      | some b => some (Instr.indexAt t a b)
  | .index t x i => match ev e x with
    | none => none
    | some a => match ev e i with
      | none => none
      | some b => some (Instr.index t a b)
  | .lookup t x i ok => match ev e x with
    | none => none
    | some a => match ev e i with
      | none => none
      | some b => some (Instr.lookup t a b ok)
  | .mapEntry t m k => match ev e m with
    | none => none
    | some a => match ev e k with
      | none => none
      | some b => some (Instr.mapEntry t a b)
  | .range t x => match ev e x with | some v => some (Instr.range t v) | none => none
  | .next x s => match ev e x with | some v => some (Instr.next v s o.type) | none => none
  | .entry x => match ev e x with | some v => some (Instr.entry v) | none => none
  | .extract x i => match ev e x with | some v => some (Instr.extract v i) | none => none
  | .call c => match c.callee with
    | .builtin b => match evs e c.args.toList with
      | none => none
      | some l => match b with
        | .append => some (Builtin.append_ c.argTypes o.type l.toArray)
        | .cap => some (Builtin.cap_ c.argTypes o.type l.toArray)
        | .clear => some (Builtin.clear_ c.argTypes o.type l.toArray)
        | .copy => some (Builtin.copy_ c.argTypes o.type l.toArray)
        | .delete => some (Builtin.delete_ c.argTypes o.type l.toArray)
        | .len => some (Builtin.len_ c.argTypes o.type l.toArray)
        | .max => some (Builtin.max_ c.argTypes o.type l.toArray)
        | .min => some (Builtin.min_ c.argTypes o.type l.toArray)
        | _ => none
    | _ => none
  | _ => none

theorem run_value {P : Program} (s : Sem Value) (w : World) : (do pure (Next.value (← s)) : Sem Next).run P w = match s.run P w with | .ok v w' => .ok (.value v) w' | .halt h w' => .halt h w' := by
  simp
  cases s.run P w <;> simp
theorem map_toArray (f : Operand → Value) (a : Array Operand) : a.map f = (a.toList.map f).toArray := by
  rw [← Array.toList_map]
theorem map_toArray2 (f : Operand → Value) (a : Array (Nat × Operand)) : (a.map fun (i, x) => (i, f x)) = (a.toList.map (fun p => (p.1, f p.2))).toArray := by
  rw [← Array.toList_map]

theorem execOp_semOf {P : Program} {n : Nat} {e : Env} {a : Act} (h : Rel n e a) {o : Oper} {s : Sem Value} (hs : semOf e o = some s) (w : World) :
    (execOp a.eval o).run P w = match s.run P w with | .ok v w' => .ok (.value v) w' | .halt x w' => .halt x w' := by
  obtain ⟨dst, op, type, pos, after, guard⟩ := o
  cases op <;> simp only [semOf] at hs <;> simp only [execOp]
  case call c =>
    obtain ⟨callee, args, argTypes⟩ := c
    cases callee <;> simp only at hs
    case builtin b =>
      split at hs
      · cases hs
      · rename_i l hl
        have hl' := evs_eval h hl
        have hm : args.map a.eval = l.toArray := by rw [map_toArray, hl']
        cases b <;> simp only at hs <;> first | (cases hs; done) | (cases hs; simp only [resolve, hm]; exact run_value _ w)
    all_goals cases hs
  case build t ps =>
    split at hs
    · rename_i l hl
      cases hs
      rw [map_toArray2, evp_eval h hl]
      exact run_value _ w
    · cases hs
  case buildSlice t m ps =>
    split at hs
    · rename_i l hl
      cases hs
      rw [map_toArray2, evp_eval h hl]
      exact run_value _ w
    · cases hs
  case makeFunc fn first captured =>
    split at hs
    · cases hs
    · rename_i l hl
      split at hs
      · cases hs
      · rename_i m hm
        cases hs
        rw [map_toArray, map_toArray, evs_eval h hl, evs_eval h hm]
        exact run_value _ w
  case makeMap t r =>
    split at hs
    · rename_i l hl
      cases hs
      rw [evo_eval h hl]
      exact run_value _ w
    · cases hs
  case slice t x lo hi mx =>
    repeat' (split at hs)
    all_goals first | (cases hs; done) | skip
    rename_i v hx _ l hl _ hh hhi _ m hm
    cases hs
    rw [h.eval hx, evo_eval h hl, evo_eval h hhi, evo_eval h hm]
    exact run_value _ w
  case binOp op t x y _ =>
    repeat' (split at hs)
    all_goals first | (cases hs; done) | skip
    rename_i u hx _ v hy
    cases hs
    rw [h.eval hx, h.eval hy, eqg_eq]
    exact run_value _ w
  all_goals
    repeat' (split at hs)
    all_goals first | (cases hs; done) | skip
    all_goals
      first
        | (rename_i u hx _ v hy
           cases hs
           rw [h.eval hx, h.eval hy]
           exact run_value _ w)
        | (rename_i u hx
           cases hs
           rw [h.eval hx]
           exact run_value _ w)
        | (cases hs; exact run_value _ w)

/-- One operation, whatever it is: 'K' gets what its slot holds behind it ('none': not known). -/
def vop (P : Program) (e : Env) (o : Oper) (w : World) (K : Option Value → World → Prop) : Prop :=
  match o.op with
  | .move x | .assign x => K (ev e x) w
  | .pick c x y => match ev e c with
    | none => False
    | some c => match ev e x with
      | none => False
      | some x => match ev e y with
        | none => False
        | some y => pk c x y w (fun v w => K (some v) w)
  | .nilCheck x => match ev e x with
    | none => False
    | some v => nc v w (fun v w => K (some v) w)
  | .store t x y => match ev e x with
    | none => False
    | some x => match ev e y with
      | none => False
      | some y => pu P (Instr.storeAt t x y) w (fun w => K (some undef) w)
  | .mapUpdate t m k x | .insert t m k x => match ev e m with
    | none => False
    | some m => match ev e k with
      | none => False
      | some k => match ev e x with
        | none => False
        | some x => pu P (Instr.mapUpdate t m k x) w (fun w => K (some undef) w)
  | .entryStore t m k x => match ev e m with
    | none => False
    | some m => match ev e k with
      | none => False
      | some k => match ev e x with
        | none => False
        | some x => pu P (Instr.entryStore t m k x) w (fun w => K (some undef) w)
  | .call c => match c.callee with
    | .value (.func f) => match evs e c.args.toList with
      | none => False
      | some l => cl P f l.toArray w (fun v w => K (some v) w)
    | .value x => match ev e x with
      | none => False
      | some f => match evs e c.args.toList with
        | none => False
        | some l => cv P f l.toArray w (fun v w => K (some v) w)
    | _ => match semOf e o with
      | none => False
      | some s => px P s w (fun v w => K (some v) w)
  | _ => match semOf e o with
    | none => False
    | some s => px P s w (fun v w => K (some v) w)

theorem callFunc_captured {P : Program} {f : FuncId} {args : Array Value} {w : World} (h : Callable P f) : (callFunc f args).run P w = .ok (.enter f args) w := h args w

theorem px_upon {P : Program} {n : Nat} {e : Env} {a : Act} (h : Rel n e a) {o : Oper} {s : Sem Value} (hs : semOf e o = some s) {w : World} {K : Option Value → World → Prop}
    {next : Act → World → Prop} {Q : Exit → Act → World → Prop} (hk : ∀ v w', K (some v) w' → next (a.put o.dst v) w') (hx : px P s w (fun v w => K (some v) w)) : o.wp P a w next Q := by
  unfold px at hx
  unfold Oper.wp
  rw [execOp_semOf h hs]
  split at hx
  · exact hk _ _ hx
  · exact hx.elim

/-- What 'vop' says, the model does. -/
theorem vop_sound {P : Program} {n : Nat} {e : Env} {a : Act} (h : Rel n e a) {o : Oper} {w : World} {K : Option Value → World → Prop}
    {next : Act → World → Prop} {Q : Exit → Act → World → Prop} (hk : ∀ ov v w', (∀ u, ov = some u → u = v) → K ov w' → next (a.put o.dst v) w') (hx : vop P e o w K) : o.wp P a w next Q := by
  have hk' : ∀ v w', K (some v) w' → next (a.put o.dst v) w' := fun v w' => hk (some v) v w' (fun u hu => (Option.some.inj hu).symm)
  have gen : ∀ s, semOf e o = some s → px P s w (fun v w => K (some v) w) → o.wp P a w next Q := fun s hs => px_upon h hs hk'
  have mv : ∀ x, o.op = .move x ∨ o.op = .assign x → K (ev e x) w → o.wp P a w next Q := fun x ho hK => by
    have : (execOp a.eval o).run P w = .ok (.value (a.eval x)) w := by rcases ho with ho | ho <;> (unfold execOp; rw [ho]; rfl)
    unfold Oper.wp
    rw [this]
    exact hk _ _ _ (fun u hu => (h.eval hu).symm) hK
  have calls : ∀ (c : Call) f l (A : Array Value), o.op = .call c → c.callee = .value f → evs e c.args.toList = some l → ∀ (g : FuncId) (first cap : Array Value), a.eval f = .func (.func g) first cap → A = (first ++ l.toArray) ++ cap →
      cl P g A w (fun v w => K (some v) w) → o.wp P a w next Q := fun c f l A ho hc hl g first cap hf hA hcl => by
    have hm : c.args.map a.eval = l.toArray := by rw [map_toArray, evs_eval h hl]
    rcases hcl with ⟨hcall, hcalls⟩ | ⟨rv, rw', hrun, hKv⟩
    case inr =>
      have : (execOp a.eval o).run P w = .ok (.value rv) rw' := by
        unfold execOp
        rw [ho]
        simp only [resolve, hc, hm, hf, Deferred.ofValue, invoke]
        rw [hA] at hrun
        simp only [pure_bind, hrun]
      unfold Oper.wp
      rw [this]
      exact hk' _ _ hKv
    have : (execOp a.eval o).run P w = .ok (.enter g A) w := by
      unfold execOp
      rw [ho]
      simp only [resolve, hc, hm, hf, Deferred.ofValue, invoke]
      have := hcall ((first ++ l.toArray) ++ cap) w
      simp only [pure_bind, this, hA]
    unfold Oper.wp
    rw [this]
    refine Calls.mono hcalls fun e' w' ⟨v, he, hK⟩ => ?_
    subst he
    exact hk' _ _ hK
  obtain ⟨dst, op, type, pos, after, guard⟩ := o
  unfold vop at hx
  cases op <;> simp only at hx
  case move x => exact mv x (.inl rfl) hx
  case assign x => exact mv x (.inr rfl) hx
  case pick c x y =>
    split at hx
    · exact hx.elim
    · rename_i cv hc
      split at hx
      · exact hx.elim
      · rename_i xv hxv
        split at hx
        · exact hx.elim
        · rename_i yv hyv
          obtain ⟨b, rfl, hK⟩ := hx
          have : (execOp a.eval { dst, op := .pick c x y, type, pos, after, guard }).run P w = .ok (.value (bsel b xv yv)) w := by
            simp only [execOp, h.eval hc, h.eval hxv, h.eval hyv, asBool]
            cases b <;> rfl
          unfold Oper.wp
          rw [this]
          exact hk' _ _ hK
  case nilCheck x =>
    split at hx
    · exact hx.elim
    · rename_i v hv
      obtain ⟨hok, hK⟩ := hx
      have : (execOp a.eval { dst, op := .nilCheck x, type, pos, after, guard }).run P w = .ok (.value v) w := by
        simp only [execOp, h.eval hv]
        cases v <;> simp only [okNil] at hok <;> try cases hok
        · rename_i p; cases p <;> simp only at hok <;> first | (cases hok; done) | rfl
        · rename_i fn _ _; cases fn <;> simp only at hok <;> first | (cases hok; done) | rfl
        · rfl
      unfold Oper.wp
      rw [this]
      exact hk' _ _ hK
  case store t x y =>
    split at hx
    · exact hx.elim
    · rename_i xv hxv
      split at hx
      · exact hx.elim
      · rename_i yv hyv
        unfold pu at hx
        unfold Oper.wp
        simp only [execOp, h.eval hxv, h.eval hyv]
        split at hx
        · rename_i w' hr
          simp only [Sem.run_bind, hr, Result.andThen_ok, Sem.run_pure]
          exact hk' _ _ hx
        · exact hx.elim
  case mapUpdate t m k x =>
    repeat' (split at hx)
    all_goals first | exact hx.elim | skip
    rename_i mv hm _ kv hkk _ xv hxv
    unfold pu at hx
    unfold Oper.wp
    simp only [execOp, h.eval hm, h.eval hkk, h.eval hxv]
    split at hx
    · rename_i w' hr
      simp only [Sem.run_bind, hr, Result.andThen_ok, Sem.run_pure]
      exact hk' _ _ hx
    · exact hx.elim
  case insert t m k x =>
    repeat' (split at hx)
    all_goals first | exact hx.elim | skip
    rename_i mv hm _ kv hkk _ xv hxv
    unfold pu at hx
    unfold Oper.wp
    simp only [execOp, h.eval hm, h.eval hkk, h.eval hxv]
    split at hx
    · rename_i w' hr
      simp only [Sem.run_bind, hr, Result.andThen_ok, Sem.run_pure]
      exact hk' _ _ hx
    · exact hx.elim
  case entryStore t m k x =>
    repeat' (split at hx)
    all_goals first | exact hx.elim | skip
    rename_i mv hm _ kv hkk _ xv hxv
    unfold pu at hx
    unfold Oper.wp
    simp only [execOp, h.eval hm, h.eval hkk, h.eval hxv]
    split at hx
    · rename_i w' hr
      simp only [Sem.run_bind, hr, Result.andThen_ok, Sem.run_pure]
      exact hk' _ _ hx
    · exact hx.elim
  case call c =>
    split at hx
    · rename_i f hc
      split at hx
      · exact hx.elim
      · rename_i l hl
        refine calls c _ l l.toArray rfl hc hl f #[] #[] rfl ?_ hx
        simp
    · rename_i x _ hc
      split at hx
      · exact hx.elim
      · rename_i fv hf
        split at hx
        · exact hx.elim
        · rename_i l hl
          unfold cv at hx
          split at hx
          · rename_i g first cap
            exact calls c _ l _ rfl hc hl g first cap (h.eval hf) rfl hx
          · exact hx.elim
    · split at hx
      · exact hx.elim
      · rename_i s hs
        exact gen s hs hx
  all_goals
    split at hx
    · exact hx.elim
    · rename_i s hs
      exact gen s hs hx

theorem px_mono {P : Program} {s : Sem Value} {w : World} {K K' : Value → World → Prop} (h : ∀ v w, K v w → K' v w) (hx : px P s w K) : px P s w K' := by
  unfold px at *
  split at hx
  · exact h _ _ hx
  · exact hx.elim
theorem pg_mono {P : Program} {s : Sem Value} {w : World} {K K' : Value → World → Prop} (h : ∀ v w, K v w → K' v w) (hx : pg P s w K) : pg P s w K' := by
  unfold pg at *
  split at hx
  · exact ⟨hx.1, h _ _ hx.2⟩
  · exact hx.elim
theorem pu_mono {P : Program} {s : Sem Unit} {w : World} {K K' : World → Prop} (h : ∀ w, K w → K' w) (hx : pu P s w K) : pu P s w K' := by
  unfold pu at *
  split at hx
  · exact h _ hx
  · exact hx.elim
theorem cl_mono {P : Program} {f : FuncId} {args : Array Value} {w : World} {K K' : Value → World → Prop} (h : ∀ v w, K v w → K' v w) (hx : cl P f args w K) : cl P f args w K' :=
  hx.imp (fun hx => ⟨hx.1, Calls.mono hx.2 fun _ _ ⟨v, he, hk⟩ => ⟨v, he, h _ _ hk⟩⟩) fun ⟨v, w', hr, hk⟩ => ⟨v, w', hr, h _ _ hk⟩
theorem cv_mono {P : Program} {f : Value} {args : Array Value} {w : World} {K K' : Value → World → Prop} (h : ∀ v w, K v w → K' v w) (hx : cv P f args w K) : cv P f args w K' := by
  unfold cv at *
  split at hx
  · exact cl_mono h hx
  · exact hx.elim
theorem nc_mono {v : Value} {w : World} {K K' : Value → World → Prop} (h : ∀ v w, K v w → K' v w) (hx : nc v w K) : nc v w K' := ⟨hx.1, h _ _ hx.2⟩
theorem pk_mono {c x y : Value} {w : World} {K K' : Value → World → Prop} (h : ∀ v w, K v w → K' v w) (hx : pk c x y w K) : pk c x y w K' :=
  let ⟨b, hb, hk⟩ := hx; ⟨b, hb, h _ _ hk⟩
theorem gd_mono {g : Value} {want : Bool} {w : World} {p p' : (Value → World → Prop) → Prop} {K K' : Value → World → Prop} (hp : p K → p' K') (h : ∀ v w, K v w → K' v w) (hx : gd g want w p K) : gd g want w p' K' := by
  unfold gd at *
  split at hx
  · split at hx
    · exact hp hx
    · exact h _ _ hx
  · exact h _ _ hx
  · exact hx.elim

theorem vop_mono {P : Program} {e : Env} {o : Oper} {w : World} {K K' : Option Value → World → Prop} (h : ∀ v w, K v w → K' v w) (hx : vop P e o w K) : vop P e o w K' := by
  obtain ⟨dst, op, type, pos, after, guard⟩ := o
  unfold vop at *
  cases op <;> simp only at hx ⊢
  case move x => exact h _ _ hx
  case assign x => exact h _ _ hx
  case call c =>
    split at hx
    · split at hx
      · exact hx.elim
      · exact cl_mono (fun _ _ => h _ _) hx
    · split at hx
      · exact hx.elim
      · split at hx
        · exact hx.elim
        · exact cv_mono (fun _ _ => h _ _) hx
    · split at hx
      · exact hx.elim
      · exact px_mono (fun _ _ => h _ _) hx
  all_goals
    repeat' (split at hx)
    all_goals first
      | exact hx.elim
      | exact px_mono (fun _ _ => h _ _) hx
      | exact pu_mono (fun _ => h _ _) hx
      | exact nc_mono (fun _ _ => h _ _) hx
      | exact pk_mono (fun _ _ => h _ _) hx

def gval (e : Env) (ops : List Oper) (j : Nat) : Option Value :=
  match ops[j]? with
  | none => none
  | some o => match o.dst with
    | none => none
    | some d => e d
def kn (k : Value → World → Prop) : Option Value → World → Prop := fun ov w => match ov with
  | some v => k v w
  | none => False
/-- The operations of a region in the order of the text. -/
def vops (P : Program) (n : Nat) (all : List Oper) : List Oper → Env → World → (Env → World → Prop) → Prop
  | [], e, w, K => K e w
  | o :: rest, e, w, K => match o.guard with
    | none => vop P e o w (fun ov w' => vops P n all rest (upd n e o.dst ov) w' K)
    | some (j, want) => match gval e all j with
      | none => False
      | some g => gd g want w (fun k => vop P e o w (kn k)) (fun v w' => vops P n all rest (upd n e o.dst (some v)) w' K)

theorem yielded_of_gval {n : Nat} {e : Env} {a : Act} (h : Rel n e a) {ops : Array Oper} {j : Nat} {b : Bool} (hg : gval e ops.toList j = some (.bool b)) : yielded ops a.tmps j = some b := by
  unfold gval at hg
  unfold yielded
  split at hg
  · cases hg
  · rename_i o ho
    split at hg
    · cases hg
    · rename_i d hd
      have ho' : ops[j]? = some o := by simpa using ho
      simp [ho', hd, h.at_ d _ hg]

theorem yielded_none {n : Nat} {e : Env} {a : Act} (h : Rel n e a) {ops : Array Oper} {j : Nat} {x : Array Value} (hg : gval e ops.toList j = some (.tuple x)) : yielded ops a.tmps j = none := by
  unfold gval at hg
  unfold yielded
  split at hg
  · cases hg
  · rename_i o ho
    split at hg
    · cases hg
    · rename_i d hd
      have ho' : ops[j]? = some o := by simpa using ho
      simp [ho', hd, h.at_ d _ hg]
theorem vops_sound {P : Program} {n : Nat} {ops : Array Oper} {K : Env → World → Prop} {Q : Exit → Act → World → Prop} (hK : ∀ e a w, Rel n e a → K e w → Q .normal a w) :
    ∀ (l : List Oper) (e : Env) (a : Act) (w : World), Rel n e a → vops P n ops.toList l e w K → wpList P ops Q l a w
  | [], e, a, w, h, hx => hK e a w h hx
  | o :: rest, e, a, w, h, hx => by
    simp only [vops] at hx
    simp only [wpList]
    split at hx
    · rename_i hg
      rw [if_pos (by simp [Region.wanted, hg])]
      exact .inl (vop_sound h (fun ov v w' hv hk => vops_sound hK rest _ _ _ (h.put o.dst v ov hv) hk) hx)
    · rename_i j want hg
      split at hx
      · exact hx.elim
      · rename_i g hgv
        unfold gd at hx
        split at hx
        · rename_i b
          have hy := yielded_of_gval h hgv
          split at hx
          · rename_i hb
            rw [if_pos (by simp only [Region.wanted, hg, hy]; simpa using hb)]
            refine .inl (vop_sound h (fun ov v w' hv hk => ?_) hx)
            cases ov with
            | none => exact hk.elim
            | some u =>
              have := hv u rfl
              subst this
              exact vops_sound hK rest _ _ _ (h.put o.dst u (some u) (fun _ hu => (Option.some.inj hu).symm)) hk
          · rename_i hb
            rw [if_neg (by simp only [Region.wanted, hg, hy]; simpa using hb)]
            exact vops_sound hK rest _ _ _ (h.put o.dst undef (some undef) (fun _ hu => (Option.some.inj hu).symm)) hx
        · rename_i x
          have hy := yielded_none h hgv
          rw [if_neg (by simp only [Region.wanted, hg, hy]; exact Bool.false_ne_true)]
          exact vops_sound hK rest _ _ _ (h.put o.dst undef (some undef) (fun _ hu => (Option.some.inj hu).symm)) hx
        · exact hx.elim

def dsts (l : List Oper) : List Nat := l.filterMap (·.dst)
def Agree (ws : List Nat) (e e' : Env) : Prop := ∀ t, t ∉ ws → e' t = e t
theorem upd_other {n : Nat} {e : Env} {d : Option Nat} {v : Option Value} {t : Nat} (h : d ≠ some t) : upd n e d v t = e t := by
  cases d with
  | none => rfl
  | some d =>
    have hne : t ≠ d := fun he => h (by rw [he])
    have hb : Nat.beq t d = false := by
      cases hq : Nat.beq t d with
      | false => rfl
      | true => exact absurd (Nat.eq_of_beq_eq_true hq) hne
    simp [upd, hb]
theorem mem_dsts {l : List Oper} {t : Nat} : t ∈ dsts l ↔ ∃ o ∈ l, o.dst = some t := by simp [dsts]
theorem vops_mono {P : Program} {n : Nat} {all : List Oper} {K K' : Env → World → Prop} : ∀ (l : List Oper) (e : Env) (w : World), (∀ e w, K e w → K' e w) → vops P n all l e w K → vops P n all l e w K'
| [], e, w, h, hx => h _ _ hx
| o :: rest, e, w, h, hx => by
  simp only [vops] at hx ⊢
  split at hx
  · exact vop_mono (fun ov w' hk => vops_mono rest _ _ h hk) hx
  · split at hx
    · exact hx.elim
    · exact gd_mono (fun hp => vop_mono (fun ov w' hk => by cases ov <;> first | exact hk.elim | exact vops_mono rest _ _ h hk) hp) (fun v w' hk => vops_mono rest _ _ h hk) hx
theorem vops_agree {P : Program} {n : Nat} {all : List Oper} {K : Env → World → Prop} :
    ∀ (l : List Oper) (e : Env) (w : World), vops P n all l e w K → vops P n all l e w (fun e' w' => Agree (dsts l) e e' ∧ K e' w')
  | [], e, w, hx => ⟨fun _ _ => rfl, hx⟩
  | o :: rest, e, w, hx => by
    have step : ∀ (ov : Option Value) (w' : World), vops P n all rest (upd n e o.dst ov) w' K → vops P n all rest (upd n e o.dst ov) w' (fun e' w' => Agree (dsts (o :: rest)) e e' ∧ K e' w') := fun ov w' hk => by
      have := vops_agree rest _ _ hk
      refine vops_mono rest _ _ (fun e' w' ⟨ha, hk⟩ => ⟨fun t ht => ?_, hk⟩) this
      have h1 : t ∉ dsts rest := fun hm => ht (by rw [mem_dsts] at *; obtain ⟨o', ho', hd⟩ := hm; exact ⟨o', .tail _ ho', hd⟩)
      rw [ha t h1]
      exact upd_other fun hd => ht (mem_dsts.2 ⟨o, .head _, hd⟩)
    simp only [vops] at hx ⊢
    split at hx
    · exact vop_mono (fun ov w' => step ov w') hx
    · split at hx
      · exact hx.elim
      · exact gd_mono (fun hp => vop_mono (fun ov w' hk => by cases ov <;> first | exact hk.elim | exact step _ _ hk) hp) (fun v w' => step (some v) w') hx

/-! ### Regions that draw their order -/
section
variable {P : Program} {ops : Array Oper} {Q : Exit → Act → World → Prop}
/-- Whatever order is picked from here on, and what 'G' says of each operation that is carried out. -/
def wpAnyG (P : Program) (ops : Array Oper) (Q : Exit → Act → World → Prop) (G : Oper → Bool) : Nat → Array Bool → Act → World → Prop
  | 0, listed, a, w => Region.ready .any ops listed = [] ∧ Q .normal a w
  | fuel + 1, listed, a, w =>
    (Region.ready .any ops listed = [] → Q .normal a w) ∧
    ∀ i ∈ Region.ready .any ops listed, wpOp P ops Q i (fun a' w' => ((∀ o, ops[i]? = some o → G o = true → Ext w w')) ∧ wpAnyG P ops Q G fuel (listed.setIfInBounds i true) a' w') a w
theorem wpAny_of_G {G : Oper → Bool} : ∀ (fuel : Nat) (listed : Array Bool) (a : Act) (w : World), wpAnyG P ops Q G fuel listed a w → wpAny P .any ops Q fuel listed a w
  | 0, _, _, _, h => h
  | fuel + 1, _, _, _, h => ⟨h.1, fun i hi => wpOp_mono (fun a' w' h' => wpAny_of_G fuel _ a' w' h'.2) (h.2 i hi)⟩

/-- Each of those that stand behind 'ok' wait for nobody but 'ok'. -/
def predsIn (o : Oper) (ok : Nat → Bool) : Bool := o.after.toList.all fun e => !Region.binds .any e || ok e.on
/-- 'R' holds all that can come up ahead of number i. -/
def closedR (ops : Array Oper) (listed : Array Bool) (R : List Nat) (i : Nat) : Bool :=
  (List.range ops.size).all fun k => k == i || listed.getD k true || R.contains k || !(match ops[k]? with
    | some o => predsIn o (fun p => listed.getD p false || R.contains p)
    | none => false)
theorem closedR_spec {listed : Array Bool} {R : List Nat} {i : Nat} (h : closedR ops listed R i = true) {listed' : Array Bool}
    (hsub : ∀ k, listed'.getD k false = true → listed.getD k false = true ∨ k ∈ R) (hmono : ∀ k, listed'.getD k true = false → listed.getD k true = false)
    {j : Nat} (hj : j ∈ Region.ready .any ops listed') (hne : j ≠ i) : j ∈ R := by
  obtain ⟨hun, oj, hoj, hall⟩ := mem_ready.1 hj
  have hlt : j < ops.size := (Array.getElem?_eq_some_iff.1 hoj).1
  have h1 := (List.all_eq_true.1 h) j (List.mem_range.2 hlt)
  simp only [hoj, Bool.or_eq_true, beq_iff_eq, hne, false_or, hmono j hun, Bool.false_eq_true, Bool.not_eq_true', List.contains_iff_mem] at h1
  rcases h1 with h1 | h1
  · exact h1
  · exfalso
    have : predsIn oj (fun p => listed.getD p false || R.contains p) = true := by
      unfold predsIn
      rw [List.all_eq_true]
      intro e he
      simp only [Bool.or_eq_true, Bool.not_eq_true', List.contains_iff_mem]
      cases hb : Region.binds .any e
      · exact .inl rfl
      · exact .inr (hsub _ (hall e (by simpa using he) hb))
    rw [this] at h1
    cases h1

theorem getD_set_sub {listed : Array Bool} {j k : Nat} (h : (listed.setIfInBounds j true).getD k false = true) : listed.getD k false = true ∨ k = j := by
  by_cases hjk : j = k
  · exact .inr hjk.symm
  · rw [getD_set_ne false hjk] at h; exact .inl h
theorem getD_set_un {listed : Array Bool} {j k : Nat} (h : (listed.setIfInBounds j true).getD k true = false) : listed.getD k true = false := by
  by_cases hjk : j = k
  · subst hjk
    rcases Nat.lt_or_ge j listed.size with h' | h'
    · simp [h'] at h
    · simp at h
  · rw [getD_set_ne true hjk] at h; exact h

/-- An operation that may come up now may be taken first. -/
theorem wpAnyG_first {G : Oper → Bool} {C : World → World → Prop} (hC : ∀ a b c, C a b → C b c → C a c) (hCr : ∀ a, C a a) (J : Oper → Bool) (hJ : ∀ o w w', J o = true → (G o = true → Ext w w') → C w w')
    {i : Nat} {oi : Oper} {v : Value} (hi : ops[i]? = some oi) (hsel : ∀ (j : Nat) (o : Oper) cs b, ops[j]? = some o → o.op ≠ .select cs b)
    (hQ : ∀ c a w, ¬ Q (.panic c) a w) {listed0 : Array Bool} {R : List Nat} (hR : closedR ops listed0 R i = true)
    (hA : ∀ j ∈ R, ∀ oj, ops[j]? = some oj → oi.apart ops oj = true ∧ J oj = true) :
    ∀ (fuel : Nat) (listed : Array Bool) (a : Act) (w : World),
      (∀ k, listed.getD k false = true → listed0.getD k false = true ∨ k ∈ R) → (∀ k, listed.getD k true = false → listed0.getD k true = false) →
      i ∈ Region.ready .any ops listed → YieldsIf P ops (C w) oi v a →
      wpAnyG P ops Q G fuel (listed.setIfInBounds i true) (a.put oi.dst v) w → wpAnyG P ops Q G (fuel + 1) listed a w := by
  intro fuel
  induction fuel with
  | zero =>
    intro listed a w _ _ hr hy H
    refine ⟨fun h => (by rw [h] at hr; cases hr), fun j hj => ?_⟩
    by_cases hji : j = i
    · subst hji; exact hy.wpOp hi (hCr w) ⟨fun _ _ _ => Ext.refl _, H⟩
    · have := ready_mono hj hji
      rw [H.1] at this
      cases this
  | succ fuel ih =>
    intro listed a w hsub hmono hr hy H
    refine ⟨fun h => (by rw [h] at hr; cases hr), fun j hj => ?_⟩
    by_cases hji : j = i
    · subst hji; exact hy.wpOp hi (hCr w) ⟨fun _ _ _ => Ext.refl _, H⟩
    · have h1 := H.2 j (ready_mono hj hji)
      have hjR := closedR_spec hR hsub hmono hj hji
      obtain ⟨hjun, oj, hoj, hall⟩ := mem_ready.1 hj
      obtain ⟨hap, hJj⟩ := hA j hjR oj hoj
      have h2 := wpOp_putIf (S := C w) hoj hap (fun cs b => hsel i oi cs b hi) (fun cs b => hsel j oj cs b hoj) (fun c a w h => absurd h (hQ _ _ _)) hy h1
      refine wpOp_mono (fun a' w' h3 => ⟨h3.2.1, ih (listed.setIfInBounds j true) a' w' (fun k hk => ?_) (fun k hk => hmono k (getD_set_un hk)) (ready_mono hr (Ne.symm hji)) ?_ ?_⟩) h2
      · rcases getD_set_sub hk with hk | rfl
        · exact hsub k hk
        · exact .inr hjR
      · have hcw : C w w' := hJ oj w w' hJj (h3.2.1 oj hoj)
        exact h3.1.imp (fun ⟨hw, hv⟩ => ⟨hw, fun w2 h => hv w2 (hC _ _ _ hcw h)⟩) id
      · rw [Array.setIfInBounds_comm _ _ hji]
        exact h3.2.2
end

def isMap (P : Program) (t : TypeId) : Bool :=
  match P.underlying t with
  | some (.map _ _) => true
  | _ => false
def isInt (P : Program) (t : TypeId) : Bool :=
  match P.underlying t with
  | some (.int _) => true
  | _ => false
/-- What it yields hangs on its operands alone. -/
def staticK (P : Program) (o : Oper) : Bool :=
  match o.op with
  | .move _ | .assign _ | .pick .. | .nilCheck _ | .fieldAddr .. | .field .. | .extract .. | .unOp .. | .makeFunc .. | .makeInterface .. | .indexAddr .. | .index .. | .slice .. | .build ..
  | .sliceToArrayPointer .. | .binOp .. => true
  | .convert s d _ => isInt P s && isInt P d
  | .call c => match c.callee with
    | .builtin .len => !isMap P (c.argTypes.toList.headD 0)
    | .builtin .cap | .builtin .min | .builtin .max => true
    | _ => false
  | _ => false
/-- What it yields hangs on its operands and on memory; it writes nothing. -/
def calmK (P : Program) (o : Oper) : Bool :=
  match o.op with
  | .load .. | .lookup .. => true
  | .call c => match c.callee with
    | .builtin .len => isMap P (c.argTypes.toList.headD 0)
    | _ => false
  | _ => false
/-- It lays new blocks at most. -/
def newK (o : Oper) : Bool :=
  match o.op with
  | .alloc _ | .box .. | .buildSlice .. | .makeMap .. | .makeSlice .. => true
  | _ => false
def growK (P : Program) (o : Oper) : Bool := staticK P o || calmK P o || newK o

def reachGo (i : Nat) (listed : Array Bool) : Nat → List Oper → List Nat → List Nat
  | _, [], R => R
  | k, o :: rest, R => match Nat.beq k i || listed.getD k true with
    | true => reachGo i listed (k + 1) rest R
    | false => match predsIn o (fun p => listed.getD p false || R.contains p) with
      | true => reachGo i listed (k + 1) rest (k :: R)
      | false => reachGo i listed (k + 1) rest R
/-- May number i be taken first? -/
def mayTake (P : Program) (ops : Array Oper) (listed : Array Bool) (i : Nat) (oi : Oper) (calm : Bool) : Bool :=
  let R := reachGo i listed 0 ops.toList []
  closedR ops listed R i && R.all fun j => match ops[j]? with
    | some oj => oi.apart ops oj && (!calm || growK P oj)
    | none => true
/-- Which one is taken first; and whether it reads memory. -/
def pickGo (P : Program) (ops : Array Oper) (listed : Array Bool) : List Nat → Option (Nat × Bool)
  | [] => none
  | i :: rest => match ops[i]? with
    | none => pickGo P ops listed rest
    | some o => match staticK P o && mayTake P ops listed i o false with
      | true => some (i, false)
      | false => match calmK P o && mayTake P ops listed i o true with
        | true => some (i, true)
        | false => pickGo P ops listed rest
theorem pickGo_spec {P : Program} {ops : Array Oper} {listed : Array Bool} : ∀ {l : List Nat} {i : Nat} {c : Bool}, pickGo P ops listed l = some (i, c) → i ∈ l ∧ ∃ o, ops[i]? = some o ∧ mayTake P ops listed i o c = true
  | [], i, c, h => by cases h
  | k :: rest, i, c, h => by
    simp only [pickGo] at h
    have on : pickGo P ops listed rest = some (i, c) → i ∈ k :: rest ∧ ∃ o, ops[i]? = some o ∧ mayTake P ops listed i o c = true := fun h =>
      let ⟨h1, h2⟩ := pickGo_spec h; ⟨.tail _ h1, h2⟩
    split at h
    · exact on h
    · rename_i o ho
      split at h
      · rename_i hb; cases h; exact ⟨.head _, o, ho, (Bool.and_eq_true _ _ ▸ hb).2⟩
      · split at h
        · rename_i hb; cases h; exact ⟨.head _, o, ho, (Bool.and_eq_true _ _ ▸ hb).2⟩
        · exact on h

def vtop (P : Program) (C : World → Prop) (e : Env) (o : Oper) (K : Option Value → Prop) : Prop :=
  match o.op with
  | .move x | .assign x => K (ev e x)
  | .pick c x y => match ev e c with
    | none => False
    | some c => match ev e x with
      | none => False
      | some x => match ev e y with
        | none => False
        | some y => pky c x y (fun v => K (some v))
  | .nilCheck x => match ev e x with
    | none => False
    | some v => ny v (fun v => K (some v))
  | _ => match semOf e o with
    | none => False
    | some s => py P C s (fun v => K (some v))
def kny (k : Value → Prop) : Option Value → Prop := fun ov => match ov with
  | some v => k v
  | none => False
def vtake (P : Program) (C : World → Prop) (e : Env) (all : List Oper) (o : Oper) (K : Option Value → Prop) : Prop :=
  match o.guard with
  | none => vtop P C e o K
  | some (j, want) => match gval e all j with
    | none => False
    | some g => gy g want (fun k => vtop P C e o (kny k)) (fun v => K (some v))
/-- An operation that is not taken first, in a region that draws. -/
def vbop (P : Program) (e : Env) (o : Oper) (w : World) (K : Option Value → World → Prop) : Prop :=
  match growK P o with
  | false => vop P e o w K
  | true => match o.op with
    | .move _ | .assign _ | .pick .. | .nilCheck _ => vop P e o w K
    | _ => match semOf e o with
      | none => False
      | some s => pg P s w (fun v w => K (some v) w)
def vbranch (P : Program) (e : Env) (all : List Oper) (o : Oper) (w : World) (K : Option Value → World → Prop) : Prop :=
  match o.guard with
  | none => vbop P e o w K
  | some (j, want) => match gval e all j with
    | none => False
    | some g => gd g want w (fun k => vbop P e o w (kn k)) (fun v w' => K (some v) w')
def vdraw (P : Program) (n : Nat) (ops : Array Oper) : Nat → Array Bool → Env → World → (Env → World → Prop) → Prop
  | 0, listed, e, w, K => match Region.ready .any ops listed with
    | [] => K e w
    | _ => False
  | f + 1, listed, e, w, K =>
    match Region.ready .any ops listed with
    | [] => K e w
    | rs => match pickGo P ops listed rs with
      | some (i, calm) => match ops[i]? with
        | none => False
        | some o => vtake P (match calm with | true => Ext w | false => fun _ => True) e ops.toList o (fun ov => vdraw P n ops f (listed.setIfInBounds i true) (upd n e o.dst ov) w K)
      | none => conj (rs.map fun i => match ops[i]? with
        | none => False
        | some o => vbranch P e ops.toList o w (fun ov w' => vdraw P n ops f (listed.setIfInBounds i true) (upd n e o.dst ov) w' K))

theorem vtop_sound {P : Program} {C : World → Prop} {n : Nat} {e : Env} {a : Act} (h : Rel n e a) {o : Oper} {K : Option Value → Prop} (hx : vtop P C e o K) :
    ∃ ov v, (∀ u, ov = some u → u = v) ∧ K ov ∧ ∀ w, C w → (execOp a.eval o).run P w = .ok (.value v) w := by
  have gen : ∀ s, semOf e o = some s → py P C s (fun v => K (some v)) → ∃ ov v, (∀ u, ov = some u → u = v) ∧ K ov ∧ ∀ w, C w → (execOp a.eval o).run P w = .ok (.value v) w := fun s hs hp => by
    obtain ⟨v, hv, hk⟩ := hp
    exact ⟨some v, v, fun u hu => (Option.some.inj hu).symm, hk, fun w hw => by rw [execOp_semOf h hs, hv w hw]⟩
  obtain ⟨dst, op, type, pos, after, guard⟩ := o
  unfold vtop at hx
  cases op <;> simp only at hx
  case move x => exact ⟨_, a.eval x, fun u hu => (h.eval hu).symm, hx, fun w _ => rfl⟩
  case assign x => exact ⟨_, a.eval x, fun u hu => (h.eval hu).symm, hx, fun w _ => rfl⟩
  case pick c x y =>
    repeat' (split at hx)
    all_goals first | exact hx.elim | skip
    rename_i cv hc _ xv hxv _ yv hyv
    obtain ⟨b, rfl, hK⟩ := hx
    refine ⟨_, bsel b xv yv, fun u hu => (Option.some.inj hu).symm, hK, fun w _ => ?_⟩
    simp only [execOp, h.eval hc, h.eval hxv, h.eval hyv, asBool]
    cases b <;> rfl
  case nilCheck x =>
    split at hx
    · exact hx.elim
    · rename_i v hv
      obtain ⟨hok, hK⟩ := hx
      refine ⟨_, v, fun u hu => (Option.some.inj hu).symm, hK, fun w _ => ?_⟩
      simp only [execOp, h.eval hv]
      cases v <;> simp only [okNil] at hok <;> try cases hok
      · rename_i p; cases p <;> simp only at hok <;> first | (cases hok; done) | rfl
      · rename_i fn _ _; cases fn <;> simp only at hok <;> first | (cases hok; done) | rfl
      · rfl
  all_goals
    split at hx
    · exact hx.elim
    · rename_i s hs
      exact gen s hs hx

theorem wanted_of {n : Nat} {e : Env} {a : Act} (h : Rel n e a) {ops : Array Oper} {o : Oper} {j : Nat} {want b : Bool} (hg : o.guard = some (j, want)) (hv : gval e ops.toList j = some (.bool b)) :
    Region.wanted o (yielded ops a.tmps) = (b == want) := by
  simp only [Region.wanted, hg, yielded_of_gval h hv]
  cases b <;> cases want <;> rfl

theorem vtake_sound {P : Program} {C : World → Prop} {n : Nat} {e : Env} {a : Act} (h : Rel n e a) {ops : Array Oper} {o : Oper} {K : Option Value → Prop} (hx : vtake P C e ops.toList o K) :
    ∃ ov v, (∀ u, ov = some u → u = v) ∧ K ov ∧ YieldsIf P ops C o v a := by
  unfold vtake at hx
  split at hx
  · rename_i hg
    obtain ⟨ov, v, h1, h2, h3⟩ := vtop_sound h hx
    exact ⟨ov, v, h1, h2, .inl ⟨by simp [Region.wanted, hg], h3⟩⟩
  · rename_i j want hg
    split at hx
    · exact hx.elim
    · rename_i g hgv
      unfold gy at hx
      split at hx
      · rename_i b
        have hw := wanted_of h hg hgv
        split at hx
        · rename_i hb
          obtain ⟨ov, v, h1, h2, h3⟩ := vtop_sound h hx
          cases ov with
          | none => exact h2.elim
          | some u => exact ⟨some u, v, h1, h2, .inl ⟨by rw [hw, hb], h3⟩⟩
        · rename_i hb
          exact ⟨some undef, undef, fun u hu => (Option.some.inj hu).symm, hx, .inr ⟨by rw [hw, hb], rfl⟩⟩
      · have hy := yielded_none h hgv
        exact ⟨some undef, undef, fun u hu => (Option.some.inj hu).symm, hx, .inr ⟨by simp only [Region.wanted, hg, hy]; rfl, rfl⟩⟩
      · exact hx.elim

theorem vbop_sound {P : Program} {n : Nat} {e : Env} {a : Act} (h : Rel n e a) {o : Oper} {w : World} {K : Option Value → World → Prop}
    {next : Act → World → Prop} {Q : Exit → Act → World → Prop} (hk : ∀ ov v w', (∀ u, ov = some u → u = v) → (growK P o = true → Ext w w') → K ov w' → next (a.put o.dst v) w')
    (hx : vbop P e o w K) : o.wp P a w next Q := by
  unfold vbop at hx
  split at hx
  · rename_i hg
    exact vop_sound h (fun ov v w' h1 h2 => hk ov v w' h1 (fun h => by rw [hg] at h; cases h) h2) hx
  · have stay : vop P e o w (fun ov w' => w' = w ∧ K ov w') → o.wp P a w next Q := fun hx =>
      vop_sound h (fun ov v w' h1 h2 => hk ov v w' h1 (fun _ => by rw [h2.1]; exact Ext.refl _) h2.2) hx
    have gen : ∀ s, semOf e o = some s → pg P s w (fun v w => K (some v) w) → o.wp P a w next Q := fun s hs hp => by
      unfold pg at hp
      unfold Oper.wp
      rw [execOp_semOf h hs]
      split at hp
      · exact hk _ _ _ (fun u hu => (Option.some.inj hu).symm) (fun _ => hp.1) hp.2
      · exact hp.elim
    have rest : (match semOf e o with
      | none => False
      | some s => pg P s w (fun v w => K (some v) w)) → o.wp P a w next Q := fun hx => by
      split at hx
      · exact hx.elim
      · rename_i s hs
        exact gen s hs hx
    obtain ⟨dst, op, type, pos, after, guard⟩ := o
    cases op <;> simp only at hx
    case move x => exact stay ⟨rfl, hx⟩
    case assign x => exact stay ⟨rfl, hx⟩
    case pick c x y =>
      refine stay ?_
      unfold vop at hx ⊢
      simp only at hx ⊢
      repeat' (split at hx)
      all_goals first | exact hx.elim | skip
      obtain ⟨b, hb, hK⟩ := hx
      exact ⟨b, hb, rfl, hK⟩
    case nilCheck x =>
      refine stay ?_
      unfold vop at hx ⊢
      simp only at hx ⊢
      split at hx
      · exact hx.elim
      · exact ⟨hx.1, rfl, hx.2⟩
    all_goals exact rest hx

theorem vbranch_sound {P : Program} {n : Nat} {e : Env} {a : Act} (h : Rel n e a) {ops : Array Oper} {i : Nat} {o : Oper} (ho : ops[i]? = some o) {w : World} {K : Option Value → World → Prop}
    {next : Act → World → Prop} {Q : Exit → Act → World → Prop} (hk : ∀ ov v w', (∀ u, ov = some u → u = v) → (growK P o = true → Ext w w') → K ov w' → next (a.put o.dst v) w')
    (hx : vbranch P e ops.toList o w K) : wpOp P ops Q i next a w := by
  unfold wpOp
  simp only [ho]
  unfold vbranch at hx
  split at hx
  · rename_i hg
    rw [if_pos (by simp [Region.wanted, hg])]
    exact .inl (vbop_sound h hk hx)
  · rename_i j want hg
    split at hx
    · exact hx.elim
    · rename_i g hgv
      unfold gd at hx
      split at hx
      · rename_i b
        have hw := wanted_of h hg hgv
        split at hx
        · rename_i hb
          rw [if_pos (by rw [hw, hb])]
          refine .inl (vbop_sound h (fun ov v w' h1 h2 h3 => ?_) hx)
          cases ov with
          | none => exact h3.elim
          | some u => exact hk (some u) v w' h1 h2 h3
        · rename_i hb
          rw [if_neg (by rw [hw, hb]; exact Bool.false_ne_true)]
          exact hk (some undef) undef w (fun u hu => (Option.some.inj hu).symm) (fun _ => Ext.refl _) hx
      · have hy := yielded_none h hgv
        rw [if_neg (by simp only [Region.wanted, hg, hy]; exact Bool.false_ne_true)]
        exact hk (some undef) undef w (fun u hu => (Option.some.inj hu).symm) (fun _ => Ext.refl _) hx
      · exact hx.elim

theorem vdraw_sound {P : Program} {n : Nat} {ops : Array Oper} {K : Env → World → Prop} {Q : Exit → Act → World → Prop} (hs : Region.noSelect ops = true) (hQ : ∀ c a w, ¬ Q (.panic c) a w)
    (hK : ∀ e a w, Rel n e a → K e w → Q .normal a w) :
    ∀ (f : Nat) (listed : Array Bool) (e : Env) (a : Act) (w : World), Rel n e a → vdraw P n ops f listed e w K → wpAnyG P ops Q (growK P) f listed a w
  | 0, listed, e, a, w, h, hx => by
    simp only [vdraw] at hx
    split at hx
    · rename_i hr
      exact ⟨hr, hK e a w h hx⟩
    · exact hx.elim
  | f + 1, listed, e, a, w, h, hx => by
    simp only [vdraw] at hx
    split at hx
    · rename_i hr
      exact ⟨fun _ => hK e a w h hx, by rw [hr]; simp⟩
    · rename_i hne
      split at hx
      · rename_i i calm hp
        obtain ⟨hmem, o, ho, hmay⟩ := pickGo_spec hp
        simp only [ho] at hx
        obtain ⟨ov, v, h1, h2, hy⟩ := vtake_sound (ops := ops) h hx
        have ih := vdraw_sound hs hQ hK f (listed.setIfInBounds i true) _ _ w (h.put o.dst v ov h1) h2
        unfold mayTake at hmay
        simp only [Bool.and_eq_true, List.all_eq_true] at hmay
        obtain ⟨hR, hall⟩ := hmay
        cases calm with
        | false =>
          refine wpAnyG_first (C := fun _ _ => True) (fun _ _ _ _ _ => trivial) (fun _ => trivial) (fun _ => true) (fun _ _ _ _ _ => trivial) ho (Region.noSelect_spec hs) hQ hR (fun j hj oj hoj => ?_) f listed a w (fun k hk => .inl hk) (fun k hk => hk) hmem hy ih
          have := hall j hj
          simp only [hoj] at this
          exact ⟨(Bool.and_eq_true _ _ ▸ this).1, rfl⟩
        | true =>
          refine wpAnyG_first (C := Ext) (fun _ _ _ => Ext.trans) Ext.refl (growK P) (fun o w w' hj hg => hg hj) ho (Region.noSelect_spec hs) hQ hR (fun j hj oj hoj => ?_) f listed a w (fun k hk => .inl hk) (fun k hk => hk) hmem hy ih
          have := hall j hj
          simp only [hoj] at this
          simpa using this
      · refine ⟨fun hr => absurd hr hne, fun i hi => ?_⟩
        have := conj_all hx _ (List.mem_map.2 ⟨i, hi, rfl⟩)
        obtain ⟨_, o, ho, _⟩ := mem_ready.1 hi
        simp only [ho] at this
        exact vbranch_sound h ho (fun ov v w' h1 h2 h3 => ⟨fun o' ho' hg => by rw [ho] at ho'; cases ho'; exact h2 hg, vdraw_sound hs hQ hK f _ _ _ _ (h.put o.dst v ov h1) h3⟩) this

theorem vbop_mono {P : Program} {e : Env} {o : Oper} {w : World} {K K' : Option Value → World → Prop} (h : ∀ v w, K v w → K' v w) (hx : vbop P e o w K) : vbop P e o w K' := by
  unfold vbop at *
  split at hx
  · exact vop_mono h hx
  · obtain ⟨dst, op, type, pos, after, guard⟩ := o
    cases op <;> simp only at hx ⊢
    case move x => exact vop_mono h hx
    case assign x => exact vop_mono h hx
    case pick => exact vop_mono h hx
    case nilCheck => exact vop_mono h hx
    all_goals
      split at hx
      · exact hx.elim
      · exact pg_mono (fun _ _ => h _ _) hx
theorem vbranch_mono {P : Program} {e : Env} {all : List Oper} {o : Oper} {w : World} {K K' : Option Value → World → Prop} (h : ∀ v w, K v w → K' v w) (hx : vbranch P e all o w K) : vbranch P e all o w K' := by
  unfold vbranch at *
  split at hx
  · exact vbop_mono h hx
  · split at hx
    · exact hx.elim
    · exact gd_mono (fun hp => vbop_mono (fun ov w' hk => by cases ov <;> first | exact hk.elim | exact h _ _ hk) hp) (fun v w' => h _ _) hx
theorem vtop_mono {P : Program} {C : World → Prop} {e : Env} {o : Oper} {K K' : Option Value → Prop} (h : ∀ v, K v → K' v) (hx : vtop P C e o K) : vtop P C e o K' := by
  obtain ⟨dst, op, type, pos, after, guard⟩ := o
  unfold vtop at *
  cases op <;> simp only at hx ⊢
  case move x => exact h _ hx
  case assign x => exact h _ hx
  case pick c x y =>
    repeat' (split at hx)
    all_goals first | exact hx.elim | skip
    obtain ⟨b, hb, hK⟩ := hx
    exact ⟨b, hb, h _ hK⟩
  case nilCheck x =>
    split at hx
    · exact hx.elim
    · exact ⟨hx.1, h _ hx.2⟩
  all_goals
    split at hx
    · exact hx.elim
    · obtain ⟨v, hv, hk⟩ := hx
      exact ⟨v, hv, h _ hk⟩
theorem vtake_mono {P : Program} {C : World → Prop} {e : Env} {all : List Oper} {o : Oper} {K K' : Option Value → Prop} (h : ∀ v, K v → K' v) (hx : vtake P C e all o K) : vtake P C e all o K' := by
  unfold vtake at *
  split at hx
  · exact vtop_mono h hx
  · split at hx
    · exact hx.elim
    · unfold gy at *
      split at hx
      · split at hx
        · exact vtop_mono (fun ov hk => by cases ov <;> first | exact hk.elim | exact h _ hk) hx
        · exact h _ hx
      · exact h _ hx
      · exact hx.elim
theorem conj_mono {α : Type} {l : List α} {f g : α → Prop} (h : ∀ x ∈ l, f x → g x) (hx : conj (l.map f)) : conj (l.map g) := by
  induction l with
  | nil => exact hx
  | cons a l ih =>
    cases l with
    | nil => exact h a (.head _) hx
    | cons b l => exact ⟨h a (.head _) hx.1, ih (fun x hm => h x (.tail _ hm)) hx.2⟩
theorem vdraw_mono {P : Program} {n : Nat} {ops : Array Oper} {K K' : Env → World → Prop} (h : ∀ e w, K e w → K' e w) :
    ∀ (f : Nat) (listed : Array Bool) (e : Env) (w : World), vdraw P n ops f listed e w K → vdraw P n ops f listed e w K'
  | 0, listed, e, w, hx => by
    simp only [vdraw] at hx ⊢
    split at hx
    · exact h _ _ hx
    · exact hx.elim
  | f + 1, listed, e, w, hx => by
    simp only [vdraw] at hx ⊢
    split at hx
    · exact h _ _ hx
    · split at hx
      · split at hx
        · exact hx.elim
        · exact vtake_mono (fun ov hk => vdraw_mono h f _ _ _ hk) hx
      · refine conj_mono (fun i _ hp => ?_) hx
        split at hp
        · exact hp.elim
        · exact vbranch_mono (fun ov w' hk => vdraw_mono h f _ _ _ hk) hp
theorem vdraw_agree {P : Program} {n : Nat} {ops : Array Oper} {K : Env → World → Prop} (e0 : Env) :
    ∀ (f : Nat) (listed : Array Bool) (e : Env) (w : World), Agree (dsts ops.toList) e0 e → vdraw P n ops f listed e w K → vdraw P n ops f listed e w (fun e' w' => Agree (dsts ops.toList) e0 e' ∧ K e' w')
  | 0, listed, e, w, ha, hx => by
    simp only [vdraw] at hx ⊢
    split at hx
    · exact ⟨ha, hx⟩
    · exact hx.elim
  | f + 1, listed, e, w, ha, hx => by
    have step : ∀ (i : Nat) (o : Oper), ops[i]? = some o → ∀ ov, Agree (dsts ops.toList) e0 (upd n e o.dst ov) := fun i o ho ov t ht => by
      rw [upd_other fun hd => ht (mem_dsts.2 ⟨o, by simpa using Array.mem_of_getElem? ho, hd⟩)]
      exact ha t ht
    simp only [vdraw] at hx ⊢
    split at hx
    · exact ⟨ha, hx⟩
    · split at hx
      · split at hx
        · exact hx.elim
        · rename_i o ho
          exact vtake_mono (fun ov hk => vdraw_agree e0 f _ _ _ (step _ o ho ov) hk) hx
      · refine conj_mono (fun i _ hp => ?_) hx
        split at hp
        · exact hp.elim
        · rename_i o ho
          exact vbranch_mono (fun ov w' hk => vdraw_agree e0 f _ _ _ (step _ o ho ov) hk) hp

/-! ### Regions that draw, in the mode 'held': a condition on the world that the prover names, shown behind each operation that is carried out -/
section
variable {P : Program} {ops : Array Oper} {Q : Exit → Act → World → Prop}
def wpAnyS (P : Program) (ops : Array Oper) (Q : Exit → Act → World → Prop) (G : Oper → Bool) (S : World → Prop) : Nat → Array Bool → Act → World → Prop
  | 0, listed, a, w => Region.ready .any ops listed = [] ∧ Q .normal a w
  | fuel + 1, listed, a, w =>
    (Region.ready .any ops listed = [] → Q .normal a w) ∧
    ∀ i ∈ Region.ready .any ops listed, wpOp P ops Q i (fun a' w' => ((∀ o, ops[i]? = some o → G o = true → Ext w w') ∧ S w') ∧ wpAnyS P ops Q G S fuel (listed.setIfInBounds i true) a' w') a w
theorem wpAny_of_S {G : Oper → Bool} {S : World → Prop} : ∀ (fuel : Nat) (listed : Array Bool) (a : Act) (w : World), wpAnyS P ops Q G S fuel listed a w → wpAny P .any ops Q fuel listed a w
  | 0, _, _, _, h => h
  | fuel + 1, _, _, _, h => ⟨h.1, fun i hi => wpOp_mono (fun a' w' h' => wpAny_of_S fuel _ a' w' h'.2) (h.2 i hi)⟩
theorem wpAnyS_first {G : Oper → Bool} {S : World → Prop} {C : World → World → Prop} (hC : ∀ a b c, C a b → C b c → C a c) (J : Oper → Bool) (hJ : ∀ o w w', J o = true → (G o = true → Ext w w') → S w' → C w w' ∧ C w' w')
    {i : Nat} {oi : Oper} {v : Value} (hi : ops[i]? = some oi) (hsel : ∀ (j : Nat) (o : Oper) cs b, ops[j]? = some o → o.op ≠ .select cs b)
    (hQ : ∀ c a w, ¬ Q (.panic c) a w) {listed0 : Array Bool} {R : List Nat} (hR : closedR ops listed0 R i = true)
    (hA : ∀ j ∈ R, ∀ oj, ops[j]? = some oj → oi.apart ops oj = true ∧ J oj = true) :
    ∀ (fuel : Nat) (listed : Array Bool) (a : Act) (w : World),
      (∀ k, listed.getD k false = true → listed0.getD k false = true ∨ k ∈ R) → (∀ k, listed.getD k true = false → listed0.getD k true = false) →
      i ∈ Region.ready .any ops listed → S w → C w w → YieldsIf P ops (C w) oi v a →
      wpAnyS P ops Q G S fuel (listed.setIfInBounds i true) (a.put oi.dst v) w → wpAnyS P ops Q G S (fuel + 1) listed a w := by
  intro fuel
  induction fuel with
  | zero =>
    intro listed a w _ _ hr hS hCw hy H
    refine ⟨fun h => (by rw [h] at hr; cases hr), fun j hj => ?_⟩
    by_cases hji : j = i
    · subst hji; exact hy.wpOp hi hCw ⟨⟨fun _ _ _ => Ext.refl _, hS⟩, H⟩
    · have := ready_mono hj hji
      rw [H.1] at this
      cases this
  | succ fuel ih =>
    intro listed a w hsub hmono hr hS hCw hy H
    refine ⟨fun h => (by rw [h] at hr; cases hr), fun j hj => ?_⟩
    by_cases hji : j = i
    · subst hji; exact hy.wpOp hi hCw ⟨⟨fun _ _ _ => Ext.refl _, hS⟩, H⟩
    · have h1 := H.2 j (ready_mono hj hji)
      have hjR := closedR_spec hR hsub hmono hj hji
      obtain ⟨hjun, oj, hoj, hall⟩ := mem_ready.1 hj
      obtain ⟨hap, hJj⟩ := hA j hjR oj hoj
      have h2 := wpOp_putIf (S := C w) hoj hap (fun cs b => hsel i oi cs b hi) (fun cs b => hsel j oj cs b hoj) (fun c a w h => absurd h (hQ _ _ _)) hy h1
      refine wpOp_mono (fun a' w' h3 => ?_) h2
      obtain ⟨hcw, hcw'⟩ := hJ oj w w' hJj (h3.2.1.1 oj hoj) h3.2.1.2
      refine ⟨h3.2.1, ih (listed.setIfInBounds j true) a' w' (fun k hk => ?_) (fun k hk => hmono k (getD_set_un hk)) (ready_mono hr (Ne.symm hji)) h3.2.1.2 hcw' ?_ ?_⟩
      · rcases getD_set_sub hk with hk | rfl
        · exact hsub k hk
        · exact .inr hjR
      · exact h3.1.imp (fun ⟨hw, hv⟩ => ⟨hw, fun w2 h => hv w2 (hC _ _ _ hcw h)⟩) id
      · rw [Array.setIfInBounds_comm _ _ hji]
        exact h3.2.2
end

/-- Which one is taken first: 0: of its operands alone; 1: it reads memory, and none that may come ahead of it writes; 2: it reads memory that is held. -/
def pickH (P : Program) (ops : Array Oper) (listed : Array Bool) : List Nat → Option (Nat × Nat)
  | [] => none
  | i :: rest => match ops[i]? with
    | none => pickH P ops listed rest
    | some o => match staticK P o && mayTake P ops listed i o false with
      | true => some (i, 0)
      | false => match calmK P o && mayTake P ops listed i o true with
        | true => some (i, 1)
        | false => match calmK P o && mayTake P ops listed i o false with
          | true => some (i, 2)
          | false => pickH P ops listed rest
theorem pickH_spec {P : Program} {ops : Array Oper} {listed : Array Bool} : ∀ {l : List Nat} {i : Nat} {c : Nat}, pickH P ops listed l = some (i, c) → i ∈ l ∧ ∃ o, ops[i]? = some o ∧ mayTake P ops listed i o (c == 1) = true
  | [], i, c, h => by cases h
  | k :: rest, i, c, h => by
    simp only [pickH] at h
    have on : pickH P ops listed rest = some (i, c) → i ∈ k :: rest ∧ ∃ o, ops[i]? = some o ∧ mayTake P ops listed i o (c == 1) = true := fun h =>
      let ⟨h1, h2⟩ := pickH_spec h; ⟨.tail _ h1, h2⟩
    split at h
    · exact on h
    · rename_i o ho
      split at h
      · rename_i hb; cases h; exact ⟨.head _, o, ho, (Bool.and_eq_true _ _ ▸ hb).2⟩
      · split at h
        · rename_i hb; cases h; exact ⟨.head _, o, ho, (Bool.and_eq_true _ _ ▸ hb).2⟩
        · split at h
          · rename_i hb; cases h; exact ⟨.head _, o, ho, (Bool.and_eq_true _ _ ▸ hb).2⟩
          · exact on h
def classOf (S : World → Prop) (w : World) : Nat → World → Prop
  | 0 => fun _ => True
  | 1 => Ext w
  | _ => S
/-- Behind an operation: what is held holds. -/
def hs (S : World → Prop) (w : World) (p : Prop) : Prop := S w ∧ p
def held (w : World) (B : (World → Prop) → Prop) : Prop := ∃ S : World → Prop, S w ∧ B S
def vdrawH (P : Program) (n : Nat) (ops : Array Oper) (S : World → Prop) : Nat → Array Bool → Env → World → (Env → World → Prop) → Prop
  | 0, listed, e, w, K => match Region.ready .any ops listed with
    | [] => K e w
    | _ => False
  | f + 1, listed, e, w, K =>
    match Region.ready .any ops listed with
    | [] => K e w
    | rs => match pickH P ops listed rs with
      | some (i, c) => match ops[i]? with
        | none => False
        | some o => vtake P (classOf S w c) e ops.toList o (fun ov => vdrawH P n ops S f (listed.setIfInBounds i true) (upd n e o.dst ov) w K)
      | none => conj (rs.map fun i => match ops[i]? with
        | none => False
        | some o => vbranch P e ops.toList o w (fun ov w' => hs S w' (vdrawH P n ops S f (listed.setIfInBounds i true) (upd n e o.dst ov) w' K)))
theorem vdrawH_sound {P : Program} {n : Nat} {ops : Array Oper} {S : World → Prop} {K : Env → World → Prop} {Q : Exit → Act → World → Prop} (hsel : Region.noSelect ops = true) (hQ : ∀ c a w, ¬ Q (.panic c) a w)
    (hK : ∀ e a w, Rel n e a → K e w → Q .normal a w) :
    ∀ (f : Nat) (listed : Array Bool) (e : Env) (a : Act) (w : World), Rel n e a → S w → vdrawH P n ops S f listed e w K → wpAnyS P ops Q (growK P) S f listed a w
  | 0, listed, e, a, w, h, _, hx => by
    simp only [vdrawH] at hx
    split at hx
    · rename_i hr
      exact ⟨hr, hK e a w h hx⟩
    · exact hx.elim
  | f + 1, listed, e, a, w, h, hS, hx => by
    simp only [vdrawH] at hx
    split at hx
    · rename_i hr
      exact ⟨fun _ => hK e a w h hx, by rw [hr]; simp⟩
    · rename_i hne
      split at hx
      · rename_i i c hp
        obtain ⟨hmem, o, ho, hmay⟩ := pickH_spec hp
        simp only [ho] at hx
        obtain ⟨ov, v, h1, h2, hy⟩ := vtake_sound (ops := ops) h hx
        have ih := vdrawH_sound hsel hQ hK f (listed.setIfInBounds i true) _ _ w (h.put o.dst v ov h1) hS h2
        unfold mayTake at hmay
        simp only [Bool.and_eq_true, List.all_eq_true] at hmay
        obtain ⟨hR, hall⟩ := hmay
        have hap : ∀ j ∈ reachGo i listed 0 ops.toList [], ∀ oj, ops[j]? = some oj → o.apart ops oj = true := fun j hj oj hoj => by
          have := hall j hj
          simp only [hoj] at this
          exact (Bool.and_eq_true _ _ ▸ this).1
        match c, hall, hy with
        | 0, hall, hy =>
          exact wpAnyS_first (C := fun _ _ => True) (fun _ _ _ _ _ => trivial) (fun _ => true) (fun _ _ _ _ _ _ => ⟨trivial, trivial⟩) ho (Region.noSelect_spec hsel) hQ hR (fun j hj oj hoj => ⟨hap j hj oj hoj, rfl⟩) f listed a w (fun k hk => .inl hk) (fun k hk => hk) hmem hS trivial hy ih
        | 1, hall, hy =>
          refine wpAnyS_first (C := Ext) (fun _ _ _ => Ext.trans) (growK P) (fun o w w' hj hg _ => ⟨hg hj, Ext.refl _⟩) ho (Region.noSelect_spec hsel) hQ hR (fun j hj oj hoj => ?_) f listed a w (fun k hk => .inl hk) (fun k hk => hk) hmem hS (Ext.refl _) hy ih
          have := hall j hj
          simp only [hoj] at this
          simpa using this
        | c + 2, hall, hy =>
          exact wpAnyS_first (C := fun _ => S) (fun _ _ _ _ h => h) (fun _ => true) (fun _ _ _ _ _ h => ⟨h, h⟩) ho (Region.noSelect_spec hsel) hQ hR (fun j hj oj hoj => ⟨hap j hj oj hoj, rfl⟩) f listed a w (fun k hk => .inl hk) (fun k hk => hk) hmem hS hS hy ih
      · refine ⟨fun hr => absurd hr hne, fun i hi => ?_⟩
        have := conj_all hx _ (List.mem_map.2 ⟨i, hi, rfl⟩)
        obtain ⟨_, o, ho, _⟩ := mem_ready.1 hi
        simp only [ho] at this
        exact vbranch_sound h ho (fun ov v w' h1 h2 h3 => ⟨⟨fun o' ho' hg => by rw [ho] at ho'; cases ho'; exact h2 hg, h3.1⟩, vdrawH_sound hsel hQ hK f _ _ _ _ (h.put o.dst v ov h1) h3.1 h3.2⟩) this
theorem vdrawH_mono {P : Program} {n : Nat} {ops : Array Oper} {S : World → Prop} {K K' : Env → World → Prop} (h : ∀ e w, K e w → K' e w) :
    ∀ (f : Nat) (listed : Array Bool) (e : Env) (w : World), vdrawH P n ops S f listed e w K → vdrawH P n ops S f listed e w K'
  | 0, listed, e, w, hx => by
    simp only [vdrawH] at hx ⊢
    split at hx
    · exact h _ _ hx
    · exact hx.elim
  | f + 1, listed, e, w, hx => by
    simp only [vdrawH] at hx ⊢
    split at hx
    · exact h _ _ hx
    · split at hx
      · split at hx
        · exact hx.elim
        · exact vtake_mono (fun ov hk => vdrawH_mono h f _ _ _ hk) hx
      · refine conj_mono (fun i _ hp => ?_) hx
        split at hp
        · exact hp.elim
        · exact vbranch_mono (fun ov w' hk => ⟨hk.1, vdrawH_mono h f _ _ _ hk.2⟩) hp
theorem vdrawH_agree {P : Program} {n : Nat} {ops : Array Oper} {S : World → Prop} {K : Env → World → Prop} (e0 : Env) :
    ∀ (f : Nat) (listed : Array Bool) (e : Env) (w : World), Agree (dsts ops.toList) e0 e → vdrawH P n ops S f listed e w K → vdrawH P n ops S f listed e w (fun e' w' => Agree (dsts ops.toList) e0 e' ∧ K e' w')
  | 0, listed, e, w, ha, hx => by
    simp only [vdrawH] at hx ⊢
    split at hx
    · exact ⟨ha, hx⟩
    · exact hx.elim
  | f + 1, listed, e, w, ha, hx => by
    have step : ∀ (i : Nat) (o : Oper), ops[i]? = some o → ∀ ov, Agree (dsts ops.toList) e0 (upd n e o.dst ov) := fun i o ho ov t ht => by
      rw [upd_other fun hd => ht (mem_dsts.2 ⟨o, by simpa using Array.mem_of_getElem? ho, hd⟩)]
      exact ha t ht
    simp only [vdrawH] at hx ⊢
    split at hx
    · exact ⟨ha, hx⟩
    · split at hx
      · split at hx
        · exact hx.elim
        · rename_i o ho
          exact vtake_mono (fun ov hk => vdrawH_agree e0 f _ _ _ (step _ o ho ov) hk) hx
      · refine conj_mono (fun i _ hp => ?_) hx
        split at hp
        · exact hp.elim
        · rename_i o ho
          exact vbranch_mono (fun ov w' hk => ⟨hk.1, vdrawH_agree e0 f _ _ _ (step _ o ho ov) hk.2⟩) hp

/-- A region that draws, in its mode. -/
def vreg (P : Program) (n : Nat) (ops : Array Oper) (h : Bool) (e : Env) (w : World) (K : Env → World → Prop) : Prop :=
  match h with
  | false => vdraw P n ops ops.size (Array.replicate ops.size false) e w K
  | true => held w (fun S => vdrawH P n ops S ops.size (Array.replicate ops.size false) e w K)
theorem vreg_sound {P : Program} {n : Nat} {ops : Array Oper} {h : Bool} {K : Env → World → Prop} {Q : Exit → Act → World → Prop} (hsel : Region.noSelect ops = true) (hQ : ∀ c a w, ¬ Q (.panic c) a w)
    (hK : ∀ e a w, Rel n e a → K e w → Q .normal a w) {e : Env} {a : Act} {w : World} (hr : Rel n e a) (hx : vreg P n ops h e w K) : wpAny P .any ops Q ops.size (Array.replicate ops.size false) a w := by
  cases h with
  | false => exact wpAny_of_G _ _ _ _ (vdraw_sound hsel hQ hK _ _ e a w hr hx)
  | true =>
    obtain ⟨S, hS, hx⟩ := hx
    exact wpAny_of_S _ _ _ _ (vdrawH_sound hsel hQ hK _ _ e a w hr hS hx)
theorem vreg_mono {P : Program} {n : Nat} {ops : Array Oper} {h : Bool} {K K' : Env → World → Prop} (hk : ∀ e w, K e w → K' e w) {e : Env} {w : World} (hx : vreg P n ops h e w K) : vreg P n ops h e w K' := by
  cases h with
  | false => exact vdraw_mono hk _ _ _ _ hx
  | true =>
    obtain ⟨S, hS, hx⟩ := hx
    exact ⟨S, hS, vdrawH_mono hk _ _ _ _ hx⟩
theorem vreg_agree {P : Program} {n : Nat} {ops : Array Oper} {h : Bool} {K : Env → World → Prop} {e : Env} {w : World} (hx : vreg P n ops h e w K) : vreg P n ops h e w (fun e' w' => Agree (dsts ops.toList) e e' ∧ K e' w') := by
  cases h with
  | false => exact vdraw_agree e _ _ _ _ (fun _ _ => rfl) hx
  | true =>
    obtain ⟨S, hS, hx⟩ := hx
    exact ⟨S, hS, vdrawH_agree e _ _ _ _ (fun _ _ => rfl) hx⟩

/-! ### Code -/
def writes : Code → List Nat
  | .region _ ops _ => dsts ops.toList
  | .seq a b => writes a ++ writes b
  | .cond _ a b => writes a ++ writes b
  | .block _ c => writes c
  | .loop c => writes c
  | .scope c => writes c
  | _ => []
def memb (t : Nat) : List Nat → Bool
  | [] => false
  | a :: l => match Nat.beq t a with
    | true => true
    | false => memb t l
theorem memb_iff {t : Nat} : ∀ {l : List Nat}, memb t l = true ↔ t ∈ l
  | [] => by simp [memb]
  | a :: l => by
    simp only [memb, List.mem_cons]
    cases hb : Nat.beq t a with
    | true => simp [Nat.eq_of_beq_eq_true hb]
    | false =>
      have hne : t ≠ a := fun h => by rw [h] at hb; simp at hb
      simp [hne, memb_iff]
def idx (t : Nat) : List Nat → Option Nat
  | [] => none
  | a :: l => match Nat.beq t a with
    | true => some 0
    | false => match idx t l with
      | some i => some (i + 1)
      | none => none
def rejoin (e : Env) (ws sl : List Nat) (vs : List Value) : Env := fun t =>
  match idx t sl with
  | some i => some (vs.getD i undef)
  | none => match memb t ws with
    | true => none
    | false => e t
def slotsOf (e : Env) : List Nat → Option (List Value)
  | [] => some []
  | t :: l => match e t with
    | none => none
    | some v => match slotsOf e l with
      | none => none
      | some vs => some (v :: vs)
def jn (sl : List Nat) (J : List Value → World → Prop) : Env → World → Prop := fun e w =>
  match slotsOf e sl with
  | some vs => J vs w
  | none => False
theorem slotsOf_idx {e : Env} : ∀ {sl : List Nat} {vs : List Value} {t i : Nat}, slotsOf e sl = some vs → idx t sl = some i → e t = some (vs.getD i undef)
  | [], vs, t, i, h, hi => by simp [idx] at hi
  | a :: l, vs, t, i, h, hi => by
    simp only [slotsOf] at h
    split at h
    · cases h
    · rename_i v hv
      split at h
      · cases h
      · rename_i us hus
        cases h
        simp only [idx] at hi
        cases hb : Nat.beq t a with
        | true =>
          rw [hb] at hi
          cases hi
          rw [Nat.eq_of_beq_eq_true hb]
          simpa using hv
        | false =>
          rw [hb] at hi
          simp only at hi
          split at hi
          · rename_i j hj
            cases hi
            simpa using slotsOf_idx hus hj
          · cases hi
theorem Rel.rejoin {n : Nat} {e e' : Env} {a : Act} {ws sl : List Nat} {vs : List Value} (h : Rel n e' a) (ha : Agree ws e e') (hs : slotsOf e' sl = some vs) : Rel n (V.rejoin e ws sl vs) a := by
  refine ⟨h.size, h.defers, fun t v ht => ?_⟩
  simp only [V.rejoin] at ht
  split at ht
  · rename_i i hi
    cases ht
    exact h.at_ t _ (slotsOf_idx hs hi)
  · split at ht
    · cases ht
    · rename_i hm
      refine h.at_ t v ?_
      rw [ha t (fun hin => by rw [memb_iff.2 hin] at hm; cases hm)]
      exact ht
def vsOf (sl : List Nat) (a : Act) : List Value := sl.map fun t => a.tmps.getD t undef
theorem vsOf_slots {n : Nat} {e : Env} {a : Act} (h : Rel n e a) : ∀ {sl : List Nat} {vs : List Value}, slotsOf e sl = some vs → vsOf sl a = vs
  | [], vs, hs => by simpa [slotsOf, vsOf] using hs
  | t :: l, vs, hs => by
    simp only [slotsOf] at hs
    split at hs
    · cases hs
    · rename_i v hv
      split at hs
      · cases hs
      · rename_i us hus
        cases hs
        have := h.at_ t v hv
        simp only [vsOf, List.map_cons]
        rw [show l.map (fun t => a.tmps.getD t undef) = us from vsOf_slots h hus]
        simp [this]
theorem agree_rejoin {e : Env} {ws sl : List Nat} {vs : List Value} (h : ∀ t ∈ sl, t ∈ ws) : Agree ws e (rejoin e ws sl vs) := fun t ht => by
  have hidx : ∀ {sl : List Nat}, (∀ t ∈ sl, t ∈ ws) → idx t sl = none := by
    intro sl
    induction sl with
    | nil => intro _; rfl
    | cons a l ih =>
      intro h
      have hne : Nat.beq t a = false := by
        cases hb : Nat.beq t a with
        | false => rfl
        | true => exact absurd (h a (.head _)) (by rw [← Nat.eq_of_beq_eq_true hb]; exact ht)
      simp only [idx, hne]
      rw [ih fun x hx => h x (.tail _ hx)]
  simp only [rejoin, hidx h]
  cases hm : memb t ws with
  | true => exact absurd (memb_iff.1 hm) ht
  | false => rfl
theorem Agree.trans {ws us : List Nat} {a b c : Env} (h : Agree ws a b) (k : Agree us b c) : Agree (ws ++ us) a c := fun t ht => by
  rw [k t fun h => ht (List.mem_append_right _ h), h t fun h => ht (List.mem_append_left _ h)]
theorem Agree.mono {ws us : List Nat} {a b : Env} (h : Agree ws a b) (hs : ∀ t ∈ ws, t ∈ us) : Agree us a b := fun t ht => h t fun hm => ht (hs t hm)

def fid : Code → Option Nat
  | .region id _ _ => some id
  | .seq a b => match fid a with
    | some i => some i
    | none => fid b
  | .cond _ a b => match fid a with
    | some i => some i
    | none => fid b
  | .block _ c => fid c
  | .loop c => fid c
  | .scope c => fid c
  | _ => none
def key (c : Code) : Nat := match fid c with
  | some i => i
  | none => 0
def lk : List (Nat × List Nat) → Nat → Option (List Nat)
  | [], _ => none
  | (k, v) :: l, i => match Nat.beq k i with
    | true => some v
    | false => lk l i
/-- Where ways meet, and at a loop's head: the slots that are handed on. -/
structure Ann where
  c : List (Nat × List Nat) := []
  b : List (Nat × List Nat) := []
  l : List (Nat × List Nat) := []
  r : List (Nat × List Nat) := []
  h : List Nat := []
def dw (w : World) : World := { w with drawn := w.drawn + 1 }
def allIn (sl ws : List Nat) : Bool := match sl with
  | [] => true
  | t :: l => match memb t ws with
    | true => allIn l ws
    | false => false
theorem allIn_spec {sl ws : List Nat} (h : allIn sl ws = true) : ∀ t ∈ sl, t ∈ ws := by
  induction sl with
  | nil => simp
  | cons a l ih =>
    simp only [allIn] at h
    split at h
    · rename_i hm
      intro t ht
      rcases List.mem_cons.1 ht with rfl | ht
      · exact memb_iff.1 hm
      · exact ih h t ht
    · cases h
/-- A cut, where the slots that are handed on are among those that are written. -/
def cutIf (sl ws : List Nat) (B : (List Value → World → Prop) → Prop) (R : List Value → World → Prop) : Prop :=
  match allIn sl ws with
  | true => cut B R
  | false => False
def exitOf (id : Nat) (K : Env → World → Prop) (Kx : Nat → Env → World → Prop) : Nat → Env → World → Prop := fun i e w =>
  match Nat.beq i id with
  | true => K e w
  | false => Kx i e w

def vc (P : Program) (n : Nat) (A : Ann) : Code → (Env → World → Prop) → (Env → World → Prop) → (Nat → Env → World → Prop) → Env → World → Prop
  | .skip, Kn, _, _, e, w => Kn e w
  | .label _, Kn, _, _, e, w => Kn e w
  | .ret, _, Kr, _, e, w => Kr e w
  | .exit id, _, _, Kx, e, w => Kx id e w
  | .seq a b, Kn, Kr, Kx, e, w => vc P n A a (fun e w => vc P n A b Kn Kr Kx e w) Kr Kx e w
  | .scope c, Kn, Kr, Kx, e, w => vc P n A c Kn Kr Kx e w
  | .cond x a b, Kn, Kr, Kx, e, w => match ev e x with
    | none => False
    | some v => match lk A.c (key (.seq a b)) with
      | none => cnd v (vc P n A a Kn Kr Kx e w) (vc P n A b Kn Kr Kx e w)
      | some sl => cutIf sl (writes a ++ writes b) (fun J => cnd v (vc P n A a (jn sl J) Kr Kx e w) (vc P n A b (jn sl J) Kr Kx e w)) (fun vs w => Kn (rejoin e (writes a ++ writes b) sl vs) w)
  | .block id c, Kn, Kr, Kx, e, w => match lk A.b id with
    | none => vc P n A c Kn Kr (exitOf id Kn Kx) e w
    | some sl => cutIf sl (writes c) (fun J => vc P n A c (jn sl J) Kr (exitOf id (jn sl J) Kx) e w) (fun vs w => Kn (rejoin e (writes c) sl vs) w)
  | .loop c, _, Kr, Kx, e, w => match lk A.l (key c) with
    | none => False
    | some sl => match allIn sl (writes c) with
      | false => False
      | true => match slotsOf e sl with
        | none => False
        | some vs0 => lp vs0 w (fun again vs w => vc P n A c (jn sl again) Kr Kx (rejoin e (writes c) sl vs) w)
  | .region _ ops false, Kn, _, _, e, w => vops P n ops.toList ops.toList e w Kn
  | .region id ops true, Kn, _, _, e, w => match Region.noSelect ops with
    | false => False
    | true => match lk A.r id with
      | none => vreg P n ops (memb id A.h) e (dw w) Kn
      | some sl => cutIf sl (dsts ops.toList) (fun J => vreg P n ops (memb id A.h) e (dw w) (jn sl J)) (fun vs w => Kn (rejoin e (dsts ops.toList) sl vs) w)
  | _, _, _, _, _, _ => False

theorem cnd_mono {v : Value} {A B A' B' : Prop} (ha : A → A') (hb : B → B') (h : cnd v A B) : cnd v A' B' := by
  unfold cnd at *
  split at h
  · exact ha h
  · exact hb h
  · exact h.elim
theorem jn_mono {sl : List Nat} {J J' : List Value → World → Prop} (h : ∀ vs w, J vs w → J' vs w) {e : Env} {w : World} (hj : jn sl J e w) : jn sl J' e w := by
  unfold jn at *
  split at hj
  · exact h _ _ hj
  · exact hj.elim
theorem cutIf_mono {sl ws : List Nat} {B B' : (List Value → World → Prop) → Prop} {R R' : List Value → World → Prop} (hB : ∀ J, B J → B' J) (hR : ∀ vs w, R vs w → R' vs w) (h : cutIf sl ws B R) : cutIf sl ws B' R' := by
  unfold cutIf at *
  split at h
  · obtain ⟨J, h1, h2⟩ := h
    exact ⟨J, fun vs w hj => hR _ _ (h1 vs w hj), hB J h2⟩
  · exact h.elim

theorem vc_mono {P : Program} {n : Nat} {A : Ann} : ∀ (c : Code) {Kn Kn' Kr Kr' : Env → World → Prop} {Kx Kx' : Nat → Env → World → Prop} (e : Env) (w : World),
    (∀ e w, Kn e w → Kn' e w) → (∀ e w, Kr e w → Kr' e w) → (∀ i e w, Kx i e w → Kx' i e w) → vc P n A c Kn Kr Kx e w → vc P n A c Kn' Kr' Kx' e w := by
  intro c
  induction c with
  | skip => intro _ _ _ _ _ _ e w hn _ _ h; exact hn _ _ h
  | label => intro _ _ _ _ _ _ e w hn _ _ h; exact hn _ _ h
  | ret => intro _ _ _ _ _ _ e w _ hr _ h; exact hr _ _ h
  | exit id => intro _ _ _ _ _ _ e w _ _ hx h; exact hx _ _ _ h
  | seq a b iha ihb => intro _ _ _ _ _ _ e w hn hr hx h; exact iha e w (fun e w h => ihb e w hn hr hx h) hr hx h
  | scope c ih => intro _ _ _ _ _ _ e w hn hr hx h; exact ih e w hn hr hx h
  | cond x a b iha ihb =>
    intro _ _ _ _ _ _ e w hn hr hx h
    simp only [vc] at h ⊢
    split at h
    · exact h.elim
    · split at h
      · exact cnd_mono (iha e w hn hr hx) (ihb e w hn hr hx) h
      · exact cutIf_mono (fun J h => cnd_mono (iha e w (fun _ _ h => h) hr hx) (ihb e w (fun _ _ h => h) hr hx) h) (fun vs w => hn _ _) h
  | block id c ih =>
    intro _ _ _ _ _ _ e w hn hr hx h
    simp only [vc] at h ⊢
    split at h
    · refine ih e w hn hr (fun i e w h => ?_) h
      unfold exitOf at *
      split at h
      · exact hn _ _ h
      · exact hx _ _ _ h
    · refine cutIf_mono (fun J h => ih e w (fun _ _ h => h) hr (fun i e w h => ?_) h) (fun vs w => hn _ _) h
      unfold exitOf at *
      split at h
      · exact h
      · exact hx _ _ _ h
  | loop c ih =>
    intro _ _ _ _ _ _ e w hn hr hx h
    simp only [vc] at h ⊢
    split at h
    · exact h.elim
    · split at h
      · exact h.elim
      · split at h
        · exact h.elim
        · obtain ⟨I, μ, h0, h1⟩ := h
          exact ⟨I, μ, h0, fun vs w hI => ih _ w (fun _ _ h => h) hr hx (h1 vs w hI)⟩
  | region id ops d =>
    intro _ _ _ _ _ _ e w hn hr hx h
    cases d with
    | false => exact vops_mono _ _ _ hn h
    | true =>
      simp only [vc] at h ⊢
      split at h
      · exact h.elim
      · split at h
        · exact vreg_mono hn h
        · exact cutIf_mono (fun J h => h) (fun vs w => hn _ _) h
  | _ => intro _ _ _ _ _ _ e w _ _ _ h; exact h.elim

theorem Agree.refl (ws : List Nat) (e : Env) : Agree ws e e := fun _ _ => rfl
theorem Agree.two {ws : List Nat} {a b c : Env} (h : Agree ws a b) (k : Agree ws b c) : Agree ws a c := fun t ht => by rw [k t ht, h t ht]
theorem cutIf_agree {e : Env} {sl ws : List Nat} {B B' : (List Value → World → Prop) → Prop} {Kn : Env → World → Prop} (hB : ∀ J, B J → B' J)
    (h : cutIf sl ws B (fun vs w => Kn (rejoin e ws sl vs) w)) : cutIf sl ws B' (fun vs w => Agree ws e (rejoin e ws sl vs) ∧ Kn (rejoin e ws sl vs) w) := by
  unfold cutIf at *
  split at h
  · rename_i ha
    obtain ⟨J, h1, h2⟩ := h
    exact ⟨J, fun vs w hj => ⟨agree_rejoin (allIn_spec ha), h1 vs w hj⟩, hB J h2⟩
  · exact h.elim

theorem vc_agree {P : Program} {n : Nat} {A : Ann} : ∀ (c : Code) {Kn Kr : Env → World → Prop} {Kx : Nat → Env → World → Prop} (e : Env) (w : World),
    vc P n A c Kn Kr Kx e w → vc P n A c (fun e' w' => Agree (writes c) e e' ∧ Kn e' w') Kr (fun i e' w' => Agree (writes c) e e' ∧ Kx i e' w') e w := by
  intro c
  induction c with
  | skip => intro _ _ _ e w h; exact ⟨.refl _ _, h⟩
  | label => intro _ _ _ e w h; exact ⟨.refl _ _, h⟩
  | ret => intro _ _ _ e w h; exact h
  | exit id => intro _ _ _ e w h; exact ⟨.refl _ _, h⟩
  | seq a b iha ihb =>
    intro Kn Kr Kx e w h
    have h1 := iha e w h
    refine vc_mono a e w (fun e1 w1 ⟨ha, hb⟩ => ?_) (fun _ _ h => h) (fun i e1 w1 ⟨ha, hk⟩ => ⟨ha.mono fun t ht => List.mem_append_left _ ht, hk⟩) h1
    exact vc_mono b e1 w1 (fun e2 w2 ⟨hb, hk⟩ => ⟨ha.trans hb, hk⟩) (fun _ _ h => h) (fun i e2 w2 ⟨hb, hk⟩ => ⟨ha.trans hb, hk⟩) (ihb e1 w1 hb)
  | scope c ih => intro _ _ _ e w h; exact ih e w h
  | cond x a b iha ihb =>
    intro Kn Kr Kx e w h
    simp only [vc] at h ⊢
    split at h
    · exact h.elim
    · split at h
      · refine cnd_mono (fun h => ?_) (fun h => ?_) h
        · exact vc_mono a e w (fun _ _ ⟨ha, hk⟩ => ⟨ha.mono fun t ht => List.mem_append_left _ ht, hk⟩) (fun _ _ h => h) (fun _ _ _ ⟨ha, hk⟩ => ⟨ha.mono fun t ht => List.mem_append_left _ ht, hk⟩) (iha e w h)
        · exact vc_mono b e w (fun _ _ ⟨ha, hk⟩ => ⟨ha.mono fun t ht => List.mem_append_right _ ht, hk⟩) (fun _ _ h => h) (fun _ _ _ ⟨ha, hk⟩ => ⟨ha.mono fun t ht => List.mem_append_right _ ht, hk⟩) (ihb e w h)
      · refine cutIf_agree (fun J h => cnd_mono (fun h => ?_) (fun h => ?_) h) h
        · exact vc_mono a e w (fun _ _ ⟨_, hk⟩ => hk) (fun _ _ h => h) (fun _ _ _ ⟨ha, hk⟩ => ⟨ha.mono fun t ht => List.mem_append_left _ ht, hk⟩) (iha e w h)
        · exact vc_mono b e w (fun _ _ ⟨_, hk⟩ => hk) (fun _ _ h => h) (fun _ _ _ ⟨ha, hk⟩ => ⟨ha.mono fun t ht => List.mem_append_right _ ht, hk⟩) (ihb e w h)
  | block id c ih =>
    intro Kn Kr Kx e w h
    simp only [vc] at h ⊢
    split at h
    · refine vc_mono c e w (fun _ _ h => h) (fun _ _ h => h) (fun i e1 w1 ⟨ha, hk⟩ => ?_) (ih e w h)
      unfold exitOf at *
      split at hk
      · exact ⟨ha, hk⟩
      · exact ⟨ha, hk⟩
    · refine cutIf_agree (fun J h => ?_) h
      refine vc_mono c e w (fun _ _ ⟨_, h⟩ => h) (fun _ _ h => h) (fun i e1 w1 ⟨ha, hk⟩ => ?_) (ih e w h)
      unfold exitOf at *
      split at hk
      · exact hk
      · exact ⟨ha, hk⟩
  | loop c ih =>
    intro Kn Kr Kx e w h
    simp only [vc] at h ⊢
    split at h
    · exact h.elim
    · split at h
      · exact h.elim
      · rename_i hall
        split at h
        · exact h.elim
        · obtain ⟨I, μ, h0, h1⟩ := h
          exact ⟨I, μ, h0, fun vs w hI => vc_mono c _ w (fun _ _ ⟨_, h⟩ => h) (fun _ _ h => h) (fun _ _ _ ⟨ha, hk⟩ => ⟨(agree_rejoin (allIn_spec hall)).two ha, hk⟩) (ih _ w (h1 vs w hI))⟩
  | region id ops d =>
    intro Kn Kr Kx e w h
    cases d with
    | false => exact vops_agree _ _ _ h
    | true =>
      simp only [vc] at h ⊢
      split at h
      · exact h.elim
      · split at h
        · exact vreg_agree h
        · exact cutIf_agree (fun J h => h) h
  | _ => intro _ _ _ e w h; exact h.elim

def Post (n : Nat) (Kn Kr : Env → World → Prop) (Kx : Nat → Env → World → Prop) : Exit → Act → World → Prop
  | .normal, a, w => ∃ e, Rel n e a ∧ Kn e w
  | .ret, a, w => ∃ e, Rel n e a ∧ Kr e w
  | .exit id, a, w => ∃ e, Rel n e a ∧ Kx id e w
  | _, _, _ => False

theorem Post.mono {n : Nat} {Kn Kn' Kr Kr' : Env → World → Prop} {Kx Kx' : Nat → Env → World → Prop} (hn : ∀ e w, Kn e w → Kn' e w) (hr : ∀ e w, Kr e w → Kr' e w) (hx : ∀ i e w, Kx i e w → Kx' i e w) :
    ∀ x a w, Post n Kn Kr Kx x a w → Post n Kn' Kr' Kx' x a w
  | .normal, _, _, ⟨e, h, k⟩ => ⟨e, h, hn _ _ k⟩
  | .ret, _, _, ⟨e, h, k⟩ => ⟨e, h, hr _ _ k⟩
  | .exit _, _, _, ⟨e, h, k⟩ => ⟨e, h, hx _ _ _ k⟩
  | .goto _, _, _, h => h.elim
  | .panic _, _, _, h => h.elim
  | .outgrown, _, _, h => h.elim

/-- What 'vc' says, the model does. -/
theorem vc_sound {P : Program} {n : Nat} {A : Ann} (hm : P.follows .mixedOrders = true) : ∀ (c : Code) {Kn Kr : Env → World → Prop} {Kx : Nat → Env → World → Prop} (e : Env) (a : Act) (w : World),
    Rel n e a → vc P n A c Kn Kr Kx e w → c.wp P (Post n Kn Kr Kx) a w := by
  intro c
  induction c with
  | skip => intro _ _ _ e a w h hx; exact wp_skip ⟨e, h, hx⟩
  | label => intro _ _ _ e a w h hx; exact wp_label ⟨e, h, hx⟩
  | ret => intro _ _ _ e a w h hx; exact wp_ret ⟨e, h, hx⟩
  | exit id => intro _ _ _ e a w h hx; exact wp_exit ⟨e, h, hx⟩
  | seq x y ihx ihy =>
    intro Kn Kr Kx e a w h hx
    refine wp_seq (Code.wp_mono (fun x' a' w' hp => ?_) (ihx e a w h hx))
    cases x' with
    | normal => obtain ⟨e', h', k⟩ := hp; exact ihy e' a' w' h' k
    | exit id => exact hp
    | ret => exact hp
    | goto l => exact hp.elim
    | panic c => exact hp.elim
    | outgrown => exact hp.elim
  | scope c ih =>
    intro Kn Kr Kx e a w h hx
    refine wp_scope_straight (Code.wp_mono (fun x' a' w' hp => ?_) (ih e a w h hx))
    cases x' <;> first | exact hp | exact hp.elim
  | cond x y z ihy ihz =>
    intro Kn Kr Kx e a w h hx
    simp only [vc] at hx
    split at hx
    · exact hx.elim
    · rename_i v hv
      have main : ∀ (Kn1 : Env → World → Prop), cnd v (vc P n A y Kn1 Kr Kx e w) (vc P n A z Kn1 Kr Kx e w) → (Code.cond x y z).wp P (Post n Kn1 Kr Kx) a w := fun Kn1 hc => by
        unfold cnd at hc
        split at hc
        · exact wp_cond_true (h.eval hv) (ihy e a w h hc)
        · exact wp_cond_false (h.eval hv) (ihz e a w h hc)
        · exact hc.elim
      split at hx
      · exact main _ hx
      · rename_i sl _
        unfold cutIf at hx
        split at hx
        · obtain ⟨J, h1, h2⟩ := hx
          have h3 : cnd v (vc P n A y (fun e' w' => Agree (writes y ++ writes z) e e' ∧ jn sl J e' w') Kr Kx e w) (vc P n A z (fun e' w' => Agree (writes y ++ writes z) e e' ∧ jn sl J e' w') Kr Kx e w) :=
            cnd_mono (fun h => vc_mono y e w (fun _ _ ⟨ha, hk⟩ => ⟨ha.mono fun t ht => List.mem_append_left _ ht, hk⟩) (fun _ _ h => h) (fun _ _ _ ⟨_, hk⟩ => hk) (vc_agree y e w h))
              (fun h => vc_mono z e w (fun _ _ ⟨ha, hk⟩ => ⟨ha.mono fun t ht => List.mem_append_right _ ht, hk⟩) (fun _ _ h => h) (fun _ _ _ ⟨_, hk⟩ => hk) (vc_agree z e w h)) h2
          refine Code.wp_mono (fun x' a' w' hp => ?_) (main _ h3)
          cases x' with
          | normal =>
            obtain ⟨e', h', hag', hj⟩ := hp
            unfold jn at hj
            split at hj
            · rename_i vs hvs
              exact ⟨_, h'.rejoin hag' hvs, h1 vs w' hj⟩
            · exact hj.elim
          | exit id => exact hp
          | ret => exact hp
          | goto l => exact hp.elim
          | panic c => exact hp.elim
          | outgrown => exact hp.elim
        · exact hx.elim
  | block id c ih =>
    intro Kn Kr Kx e a w h hx
    have main : ∀ (Kn1 : Env → World → Prop), vc P n A c Kn1 Kr (exitOf id Kn1 Kx) e w → (Code.block id c).wp P (Post n Kn1 Kr Kx) a w := fun Kn1 hc => by
      refine wp_block (Code.wp_mono (fun x' a' w' hp => ?_) (ih e a w h hc))
      cases x' with
      | normal => exact hp
      | exit i =>
        obtain ⟨e', h', hk⟩ := hp
        unfold exitOf at hk
        simp only [Exit.inBlock]
        by_cases hi : i = id
        · subst hi
          rw [if_pos rfl]
          simp only [Nat.beq_refl] at hk
          exact ⟨e', h', hk⟩
        · rw [if_neg hi]
          have hb : Nat.beq i id = false := by
            cases hq : Nat.beq i id with
            | false => rfl
            | true => exact absurd (Nat.eq_of_beq_eq_true hq) hi
          rw [hb] at hk
          exact ⟨e', h', hk⟩
      | ret => exact hp
      | goto l => exact hp.elim
      | panic c => exact hp.elim
      | outgrown => exact hp.elim
    simp only [vc] at hx
    split at hx
    · exact main _ hx
    · rename_i sl _
      unfold cutIf at hx
      split at hx
      · obtain ⟨J, h1, h2⟩ := hx
        have h3 : vc P n A c (fun e' w' => Agree (writes c) e e' ∧ jn sl J e' w') Kr (exitOf id (fun e' w' => Agree (writes c) e e' ∧ jn sl J e' w') Kx) e w := by
          refine vc_mono c e w (fun _ _ h => h) (fun _ _ h => h) (fun i e1 w1 ⟨ha, hk⟩ => ?_) (vc_agree c e w h2)
          unfold exitOf at *
          split at hk
          · exact ⟨ha, hk⟩
          · exact hk
        refine Code.wp_mono (fun x' a' w' hp => ?_) (main _ h3)
        cases x' with
        | normal =>
          obtain ⟨e', h', hag', hj⟩ := hp
          unfold jn at hj
          split at hj
          · rename_i vs hvs
            exact ⟨_, h'.rejoin hag' hvs, h1 vs w' hj⟩
          · exact hj.elim
        | exit id => exact hp
        | ret => exact hp
        | goto l => exact hp.elim
        | panic c => exact hp.elim
        | outgrown => exact hp.elim
      · exact hx.elim
  | loop c ih =>
    intro Kn Kr Kx e a w h hx
    simp only [vc] at hx
    split at hx
    · exact hx.elim
    · rename_i sl _
      split at hx
      · exact hx.elim
      · rename_i hall
        split at hx
        · exact hx.elim
        · rename_i vs0 hvs0
          obtain ⟨I, μ, h0, h1⟩ := hx
          refine wp_loop (fun a' w' => Rel n (rejoin e (writes c) sl (vsOf sl a')) a' ∧ I (vsOf sl a') w') (fun a' w' => μ (vsOf sl a') w') ?_ ?_
          · rw [vsOf_slots h hvs0]
            exact ⟨h.rejoin (.refl _ _) hvs0, h0⟩
          · intro a1 w1 ⟨hr, hI⟩
            have := vc_agree c _ _ (h1 _ _ hI)
            refine Code.wp_mono (fun x' a' w' hp => ?_) (ih _ a1 w1 hr this)
            cases x' with
            | normal =>
              obtain ⟨e', h', hag', hj⟩ := hp
              unfold jn at hj
              split at hj
              · rename_i vs hvs
                have hv := vsOf_slots h' hvs
                refine ⟨⟨?_, ?_⟩, ?_⟩
                · rw [hv]; exact h'.rejoin ((agree_rejoin (allIn_spec hall)).two hag') hvs
                · rw [hv]; exact hj.1
                · show μ (vsOf sl a') w' < _
                  rw [hv]; exact hj.2
              · exact hj.elim
            | exit id => obtain ⟨e', h', _, hk⟩ := hp; exact ⟨e', h', hk⟩
            | ret => exact hp
            | goto l => exact hp.elim
            | panic c => exact hp.elim
            | outgrown => exact hp.elim
  | region id ops d =>
    intro Kn Kr Kx e a w h hx
    cases d with
    | false => exact wp_region_list (vops_sound (fun e a w h k => ⟨e, h, k⟩) _ e a w h hx)
    | true =>
      simp only [vc] at hx
      split at hx
      · exact hx.elim
      · rename_i hs
        have main : ∀ (Kn1 : Env → World → Prop), vreg P n ops (memb id A.h) e (dw w) Kn1 → (Code.region id ops true).wp P (Post n Kn1 Kr Kx) a w := fun Kn1 hv =>
          wp_region_any hm (vreg_sound (Q := Post n Kn1 Kr Kx) hs (fun c a w h => h) (fun e a w h k => ⟨e, h, k⟩) h hv)
        split at hx
        · exact main _ hx
        · rename_i sl _
          unfold cutIf at hx
          split at hx
          · obtain ⟨J, h1, h2⟩ := hx
            refine Code.wp_mono (fun x' a' w' hp => ?_) (main _ (vreg_agree h2))
            cases x' with
            | normal =>
              obtain ⟨e', h', hag', hj⟩ := hp
              unfold jn at hj
              split at hj
              · rename_i vs hvs
                exact ⟨_, h'.rejoin hag' hvs, h1 vs w' hj⟩
              · exact hj.elim
            | exit id => exact hp
            | ret => exact hp
            | goto l => exact hp.elim
            | panic c => exact hp.elim
            | outgrown => exact hp.elim
          · exact hx.elim
  | _ => intro _ _ _ e a w _ h; exact h.elim

/-! ### A function -/
def pla (P : Program) (t : TypeId) (x : Value) (w : World) (K : Value → Prop) : Prop := ∃ ad v, x = .pointer (some ad) ∧ (loadVar t ad).run P w = .ok v w ∧ K v
def rsv (P : Program) (e : Env) (w : World) : List ResultVar → (List Value → Prop) → Prop
  | [], K => K []
  | .tmp t :: l, K => match e t with
    | none => False
    | some v => rsv P e w l (fun vs => K (v :: vs))
  | .cell a t :: l, K => match e a with
    | none => False
    | some x => pla P t x w (fun v => rsv P e w l (fun vs => K (v :: vs)))
def one : List Value → Value
  | [v] => v
  | vs => .tuple vs.toArray
def rvf (tmps : Array Value) : ResultVar → Sem Value
  | .tmp t => pure (tmps.getD t undef)
  | .cell x t => do loadVar t (← asAddr (tmps.getD x undef))
theorem rsv_spec {P : Program} {n : Nat} {e : Env} {a : Act} (h : Rel n e a) {w : World} : ∀ {l : List ResultVar} {K : List Value → Prop}, rsv P e w l K →
    ∃ vs, K vs ∧ (l.mapM (rvf a.tmps)).run P w = .ok vs w
  | [], K, hx => ⟨[], hx, by simp⟩
  | .tmp t :: l, K, hx => by
    simp only [rsv] at hx
    split at hx
    · exact hx.elim
    · rename_i v hv
      obtain ⟨vs, hk, hr⟩ := rsv_spec h hx
      refine ⟨v :: vs, hk, ?_⟩
      have hg : a.tmps.getD t undef = v := by have := h.at_ t v hv; simp [this]
      rw [List.mapM_cons]
      simp only [rvf, Sem.run_bind, hg, Sem.run_pure, Result.andThen_ok, hr]
  | .cell x t :: l, K, hx => by
    simp only [rsv] at hx
    split at hx
    · exact hx.elim
    · rename_i v hv
      obtain ⟨ad, u, rfl, hl, hk⟩ := hx
      obtain ⟨vs, hk, hr⟩ := rsv_spec h hk
      refine ⟨u :: vs, hk, ?_⟩
      have hg : a.tmps.getD x undef = .pointer (some ad) := by have := h.at_ x _ hv; simp [this]
      have ha : (asAddr (.pointer (some ad))).run P w = .ok ad w := rfl
      rw [List.mapM_cons]
      simp only [rvf, Sem.run_bind, hg, ha, Sem.run_pure, Result.andThen_ok, hl, hr]
def fin (P : Program) (fn : Func) (R : Value → World → Prop) (e : Env) (w : World) : Prop := rsv P e w fn.results.toList (fun vs => R (one vs) w)
theorem fin_spec {P : Program} {n : Nat} {e : Env} {a : Act} (h : Rel n e a) {fn : Func} {R : Value → World → Prop} {w : World} (hx : fin P fn R e w) :
    a.defers = [] ∧ ∃ v, (results fn a.tmps).run P w = .ok v w ∧ R v w := by
  obtain ⟨vs, hk, hr⟩ := rsv_spec h hx
  refine ⟨h.defers, one vs, ?_, hk⟩
  have hf : results fn a.tmps = (do let vs ← fn.results.mapM (rvf a.tmps); pure (if h : vs.size = 1 then vs[0] else .tuple vs)) := by
    unfold results
    congr 1
  rw [hf, Array.mapM_eq_mapM_toList, Sem.run_bind, map_eq_pure_bind, Sem.run_bind, hr]
  simp only [Result.andThen_ok, Sem.run_pure]
  match vs with
  | [] => rfl
  | [v] => rfl
  | v :: u :: vs => simp [one]

def env0 (args : List Value) (n : Nat) : Env := fun t => match Nat.blt t args.length with
  | true => some (args.getD t undef)
  | false => match Nat.blt t n with
    | true => some undef
    | false => none
theorem Rel.start {args : Array Value} {n : Nat} (hn : args.size ≤ n) : Rel n (env0 args.toList n) { tmps := args ++ Array.replicate (n - args.size) undef, defers := [] } := by
  refine ⟨by simp; omega, rfl, fun t v ht => ?_⟩
  simp only [env0] at ht
  split at ht
  · rename_i hb
    have hlt : t < args.size := by simpa [Nat.blt_eq] using hb
    cases ht
    rw [Array.getElem?_append_left hlt]
    simp [hlt]
  · rename_i hb
    have hge : args.size ≤ t := by
      rcases Nat.lt_or_ge t args.size with h | h
      · rw [show Nat.blt t args.toList.length = true by simpa [Nat.blt_eq] using h] at hb; cases hb
      · exact h
    split at ht
    · rename_i hb2
      have hlt : t < n := by simpa [Nat.blt_eq] using hb2
      cases ht
      rw [Array.getElem?_append_right hge]
      have : t - args.size < n - args.size := by omega
      simp [this]
    · cases ht

theorem callable_of {P : Program} {f : FuncId} {fn : Func} {c : Code} (hf : P.funcs[f]? = some fn) (hb : fn.body = some c) (hname : (fn.name == "runtime.NumGoroutine") = false) : Callable P f := by
  intro args w
  unfold callFunc
  have hn : ¬ fn.name = "runtime.NumGoroutine" := fun h => by rw [h] at hname; simp at hname
  simp [program, Sem.run, hf, hb, hn]

theorem cl_of_vc {P : Program} {f : FuncId} {fn : Func} {c : Code} {args : Array Value} {w : World} {R : Value → World → Prop} {A : Ann} (hm : P.follows .mixedOrders = true)
    (hf : P.funcs[f]? = some fn) (hb : fn.body = some c) (hname : (fn.name == "runtime.NumGoroutine") = false) (hn : args.size ≤ fn.ntmps)
    (h : vc P fn.ntmps A c (fin P fn R) (fin P fn R) (fun _ _ _ => False) (env0 args.toList fn.ntmps) w) : cl P f args w R := by
  refine .inl ⟨callable_of hf hb hname, calls_of_wp hf hb (Code.wp_mono (fun x a w hp => ?_) (vc_sound hm c _ _ w (Rel.start hn) h))⟩
  cases x with
  | normal => obtain ⟨e, he, hx⟩ := hp; obtain ⟨h1, v, h2, h3⟩ := fin_spec he hx; exact ⟨h1, v, h2, v, rfl, h3⟩
  | ret => obtain ⟨e, he, hx⟩ := hp; obtain ⟨h1, v, h2, h3⟩ := fin_spec he hx; exact ⟨h1, v, h2, v, rfl, h3⟩
  | exit id => obtain ⟨_, _, h⟩ := hp; exact h.elim
  | goto l => exact hp.elim
  | panic c => exact hp.elim
  | outgrown => exact hp.elim

def dr (w : World) (K : World → Prop) : Prop := K (dw w)
def g0 (vs : List Value) : Value := vs.getD 0 undef
@[simp] theorem g0_cons (x0 : Value) (l : List Value) : g0 (x0 :: l) = x0 := rfl
def g1 (vs : List Value) : Value := vs.getD 1 undef
@[simp] theorem g1_cons (x0 x1 : Value) (l : List Value) : g1 (x0 :: x1 :: l) = x1 := rfl
def g2 (vs : List Value) : Value := vs.getD 2 undef
@[simp] theorem g2_cons (x0 x1 x2 : Value) (l : List Value) : g2 (x0 :: x1 :: x2 :: l) = x2 := rfl
def g3 (vs : List Value) : Value := vs.getD 3 undef
@[simp] theorem g3_cons (x0 x1 x2 x3 : Value) (l : List Value) : g3 (x0 :: x1 :: x2 :: x3 :: l) = x3 := rfl
def g4 (vs : List Value) : Value := vs.getD 4 undef
@[simp] theorem g4_cons (x0 x1 x2 x3 x4 : Value) (l : List Value) : g4 (x0 :: x1 :: x2 :: x3 :: x4 :: l) = x4 := rfl
def g5 (vs : List Value) : Value := vs.getD 5 undef
@[simp] theorem g5_cons (x0 x1 x2 x3 x4 x5 : Value) (l : List Value) : g5 (x0 :: x1 :: x2 :: x3 :: x4 :: x5 :: l) = x5 := rfl
def g6 (vs : List Value) : Value := vs.getD 6 undef
@[simp] theorem g6_cons (x0 x1 x2 x3 x4 x5 x6 : Value) (l : List Value) : g6 (x0 :: x1 :: x2 :: x3 :: x4 :: x5 :: x6 :: l) = x6 := rfl
def g7 (vs : List Value) : Value := vs.getD 7 undef
@[simp] theorem g7_cons (x0 x1 x2 x3 x4 x5 x6 x7 : Value) (l : List Value) : g7 (x0 :: x1 :: x2 :: x3 :: x4 :: x5 :: x6 :: x7 :: l) = x7 := rfl
def g8 (vs : List Value) : Value := vs.getD 8 undef
@[simp] theorem g8_cons (x0 x1 x2 x3 x4 x5 x6 x7 x8 : Value) (l : List Value) : g8 (x0 :: x1 :: x2 :: x3 :: x4 :: x5 :: x6 :: x7 :: x8 :: l) = x8 := rfl
def g9 (vs : List Value) : Value := vs.getD 9 undef
@[simp] theorem g9_cons (x0 x1 x2 x3 x4 x5 x6 x7 x8 x9 : Value) (l : List Value) : g9 (x0 :: x1 :: x2 :: x3 :: x4 :: x5 :: x6 :: x7 :: x8 :: x9 :: l) = x9 := rfl
def g10 (vs : List Value) : Value := vs.getD 10 undef
@[simp] theorem g10_cons (x0 x1 x2 x3 x4 x5 x6 x7 x8 x9 x10 : Value) (l : List Value) : g10 (x0 :: x1 :: x2 :: x3 :: x4 :: x5 :: x6 :: x7 :: x8 :: x9 :: x10 :: l) = x10 := rfl
def g11 (vs : List Value) : Value := vs.getD 11 undef
@[simp] theorem g11_cons (x0 x1 x2 x3 x4 x5 x6 x7 x8 x9 x10 x11 : Value) (l : List Value) : g11 (x0 :: x1 :: x2 :: x3 :: x4 :: x5 :: x6 :: x7 :: x8 :: x9 :: x10 :: x11 :: l) = x11 := rfl
/-! ### Stepping -/
class Rn (P : Program) (s : Sem Value) (w : World) (v : outParam Value) (w' : outParam World) : Prop where
  run : s.run P w = .ok v w'
class Ru (P : Program) (s : Sem Unit) (w : World) (w' : outParam World) : Prop where
  run : s.run P w = .ok () w'
class Ry (P : Program) (C : World → Prop) (s : Sem Value) (v : outParam Value) : Prop where
  run : ∀ w, C w → s.run P w = .ok v w
section
variable {P : Program} {s : Sem Value} {u : Sem Unit} {w w' : World} {v : Value} {K : Value → World → Prop}
theorem px_of (h : s.run P w = .ok v w') (k : K v w') : px P s w K := by unfold px; rw [h]; exact k
theorem px_run [h : Rn P s w v w'] (k : K v w') : px P s w K := px_of h.run k
theorem pu_of {K : World → Prop} (h : u.run P w = .ok () w') (k : K w') : pu P u w K := by unfold pu; rw [h]; exact k
theorem pu_run {K : World → Prop} [h : Ru P u w w'] (k : K w') : pu P u w K := pu_of h.run k
theorem py_of {C : World → Prop} {K : Value → Prop} (h : ∀ w, C w → s.run P w = .ok v w) (k : K v) : py P C s K := ⟨v, h, k⟩
theorem py_run {C : World → Prop} {K : Value → Prop} [h : Ry P C s v] (k : K v) : py P C s K := ⟨v, h.run, k⟩
theorem pg_of (h : s.run P w = .ok v w') (e : Ext w w') (k : K v w') : pg P s w K := by unfold pg; rw [h]; exact ⟨e, k⟩
theorem nc_ptr {a : Addr} (k : K (.pointer (some a)) w) : nc (.pointer (some a)) w K := ⟨rfl, k⟩
theorem nc_func {f : FuncId} {x y : Array Value} (k : K (.func (.func f) x y) w) : nc (.func (.func f) x y) w K := ⟨rfl, k⟩
theorem ny_ptr {a : Addr} {K : Value → Prop} (k : K (.pointer (some a))) : ny (.pointer (some a)) K := ⟨rfl, k⟩
theorem dr_of {K : World → Prop} (k : K (dw w)) : dr w K := k
theorem cnd_of {b : Bool} {A B : Prop} (h1 : b = true → A) (h2 : b = false → B) : cnd (.bool b) A B := by
  cases b
  · exact h2 rfl
  · exact h1 rfl
theorem cnd_true {A B : Prop} (h : A) : cnd (.bool true) A B := h
theorem cnd_false {A B : Prop} (h : B) : cnd (.bool false) A B := h
theorem cnd_dec {p : Prop} [Decidable p] {A B : Prop} (h1 : p → A) (h2 : ¬ p → B) : cnd (.bool (decide p)) A B :=
  cnd_of (fun h => h1 (of_decide_eq_true h)) (fun h => h2 (of_decide_eq_false h))
theorem pk_of {b : Bool} {x y : Value} (k : K (bsel b x y) w) : pk (.bool b) x y w K := ⟨b, rfl, k⟩
theorem pk_true {x y : Value} (k : K x w) : pk (.bool true) x y w K := ⟨true, rfl, k⟩
theorem pk_false {x y : Value} (k : K y w) : pk (.bool false) x y w K := ⟨false, rfl, k⟩
theorem pky_true {x y : Value} {K : Value → Prop} (k : K x) : pky (.bool true) x y K := ⟨true, rfl, k⟩
theorem pky_false {x y : Value} {K : Value → Prop} (k : K y) : pky (.bool false) x y K := ⟨false, rfl, k⟩
theorem gd_tt {p : (Value → World → Prop) → Prop} (k : p K) : gd (.bool true) true w p K := k
theorem gd_ff {p : (Value → World → Prop) → Prop} (k : p K) : gd (.bool false) false w p K := k
theorem gd_tf {p : (Value → World → Prop) → Prop} (k : K undef w) : gd (.bool true) false w p K := k
theorem gd_ft {p : (Value → World → Prop) → Prop} (k : K undef w) : gd (.bool false) true w p K := k
theorem gd_u {b : Bool} {p : (Value → World → Prop) → Prop} (k : K undef w) : gd undef b w p K := k
theorem gy_u {b : Bool} {p : (Value → Prop) → Prop} {K : Value → Prop} (k : K undef) : gy undef b p K := k
theorem gy_tt {p : (Value → Prop) → Prop} {K : Value → Prop} (k : p K) : gy (.bool true) true p K := k
theorem gy_ff {p : (Value → Prop) → Prop} {K : Value → Prop} (k : p K) : gy (.bool false) false p K := k
theorem gy_tf {p : (Value → Prop) → Prop} {K : Value → Prop} (k : K undef) : gy (.bool true) false p K := k
theorem gy_ft {p : (Value → Prop) → Prop} {K : Value → Prop} (k : K undef) : gy (.bool false) true p K := k
theorem hs_of {S : World → Prop} {p : Prop} (h : S w) (k : p) : hs S w p := ⟨h, k⟩
theorem held_of {B : (World → Prop) → Prop} (S : World → Prop) (h : S w) (k : B S) : held w B := ⟨S, h, k⟩
theorem pla_of {t : TypeId} {ad : Addr} {K : Value → Prop} (h : (loadVar t ad).run P w = .ok v w) (k : K v) : pla P t (.pointer (some ad)) w K := ⟨ad, v, rfl, h, k⟩
theorem cut_in {B : (List Value → World → Prop) → Prop} {R : List Value → World → Prop} (h : B R) : cut B R := ⟨R, fun _ _ h => h, h⟩
theorem cut_of {B : (List Value → World → Prop) → Prop} {R : List Value → World → Prop} (J : List Value → World → Prop) (h1 : B J) (h2 : ∀ vs w, J vs w → R vs w) : cut B R := ⟨J, h2, h1⟩
theorem lp_of {init : List Value} {body : (List Value → World → Prop) → List Value → World → Prop} (I : List Value → World → Prop) (μ : List Value → World → Nat) (h0 : I init w)
    (h : ∀ vs w, I vs w → body (fun vs' w' => I vs' w' ∧ μ vs' w' < μ vs w) vs w) : lp init w body := ⟨I, μ, h0, h⟩
theorem cl_ext {f : FuncId} {args : Array Value} {v : Value} {w' : World} (h : (callFunc f args).run P w = .ok (.value v) w') (k : K v w') : cl P f args w K := .inr ⟨v, w', h, k⟩
theorem cl_k {f : FuncId} {args : Array Value} {K' : Value → World → Prop} (h : cl P f args w K') (k : ∀ v w, K' v w → K v w) : cl P f args w K := cl_mono k h
theorem cv_k {f : FuncId} {first cap args : Array Value} (h : cl P f ((first ++ args) ++ cap) w K) : cv P (.func (.func f) first cap) args w K := h
end

instance {P : Program} {C : World → Prop} {s : Sem Value} {v : Value} [h : ∀ w, Rn P s w v w] : Ry P C s v := ⟨fun w _ => (h w).run⟩

attribute [irreducible] px pu py pg cl cv nc ny pk pky gd gy cnd cut lp dr held hs pla
end Go.V
