/-
  Package node: a page of a tree.
-/
import Derived.Test.YtomggfibpbaodaaGreatDoorK
import Derived.Test.YtomggfibpbaodaaGreatDoorS
import Derived.Test.YtomggfibpbaodaaGreatDoorCB
set_option maxRecDepth 100000
namespace Go.Proofs.YtomggfibpbaodaaGreatDoor
open Go.V

structure Cell where
  key : Str
  val : Str
  long : Int
  size : Int
deriving DecidableEq
structure Node where
  leaf : Bool
  cells : List Cell
  kids : List Int
deriving DecidableEq
def cenc (c : Cell) : List Value := [sv c.key, sv c.val, iv c.long, iv c.size]
def kenc (k : Int) : List Value := [iv k]
theorem cenc_length (c : Cell) : (cenc c).length = 4 := rfl
theorem cencs_length (l : List Cell) : (l.flatMap cenc).length = l.length * 4 := by
  induction l with
  | nil => rfl
  | cons a l ih => simp only [List.flatMap_cons, List.length_append, ih, cenc_length, List.length_cons]; omega
theorem kencs_length (l : List Int) : (l.flatMap kenc).length = l.length := by
  induction l with
  | nil => rfl
  | cons a l ih => simp only [List.flatMap_cons, List.length_append, ih, List.length_cons, kenc, List.length_nil]; omega
theorem atoms_cenc (c : Cell) : Atoms (cenc c) := fun x hx => by
  simp only [cenc, List.mem_cons, List.not_mem_nil, or_false] at hx
  rcases hx with rfl | rfl | rfl | rfl <;> exact inferInstance
theorem atoms_cencs (l : List Cell) : Atoms (l.flatMap cenc) := fun x hx => by
  obtain ⟨c, _, h⟩ := List.mem_flatMap.1 hx
  exact atoms_cenc c x h
theorem atoms_kencs (l : List Int) : Atoms (l.flatMap kenc) := fun x hx => by
  obtain ⟨c, _, h⟩ := List.mem_flatMap.1 hx
  simp only [kenc, List.mem_cons, List.not_mem_nil, or_false] at h
  subst h; exact inferInstance
theorem cencs_get {l : List Cell} {j q : Nat} (hj : j < l.length) (hq : q < 4) : (l.flatMap cenc)[j * 4 + q]? = (cenc l[j])[q]? := flatGet l j q (fun c _ => cenc_length c) hj hq
theorem kencs_get {l : List Int} {j : Nat} (hj : j < l.length) : (l.flatMap kenc)[j]? = some (iv l[j]) := by
  have := flatGet (f := kenc) (sz := 1) l j 0 (fun c _ => rfl) hj (by omega)
  rw [Nat.mul_one, Nat.add_zero] at this
  exact this
theorem cencs_take (l : List Cell) (i : Nat) : (l.flatMap cenc).take (i * 4) = (l.take i).flatMap cenc := by
  induction l generalizing i with
  | nil => simp
  | cons a l ih =>
    cases i with
    | zero => simp
    | succ i =>
      rw [List.take_succ_cons, List.flatMap_cons, List.flatMap_cons, ← ih, Nat.succ_mul, Nat.add_comm, ← cenc_length a, List.take_length_add_append, cenc_length]
theorem cencs_drop (l : List Cell) (i : Nat) : (l.flatMap cenc).drop (i * 4) = (l.drop i).flatMap cenc := by
  induction l generalizing i with
  | nil => simp
  | cons a l ih =>
    cases i with
    | zero => simp
    | succ i =>
      rw [List.drop_succ_cons, List.flatMap_cons, ← ih, Nat.succ_mul, Nat.add_comm, ← cenc_length a, List.drop_length_add_append, cenc_length]
theorem kencs_map (l : List Int) : l.flatMap kenc = l.map iv := by
  induction l with
  | nil => rfl
  | cons a l ih => rw [List.flatMap_cons, ih]; rfl
theorem kencs_take (l : List Int) (i : Nat) : (l.flatMap kenc).take (i * 1) = (l.take i).flatMap kenc := by rw [kencs_map, kencs_map, Nat.mul_one, List.map_take]
theorem kencs_drop (l : List Int) (i : Nat) : (l.flatMap kenc).drop (i * 1) = (l.drop i).flatMap kenc := by rw [kencs_map, kencs_map, Nat.mul_one, List.map_drop]
structure Node.Small (x : Node) : Prop where
  cells : x.cells.length ≤ 100000
  kids : x.kids.length ≤ 100001
  strs : ∀ c ∈ x.cells, c.key.length ≤ 100 ∧ c.val.length ≤ 100
/-- A node's value: what it reads as. -/
structure NodeAt (w : World) (vc vk : Value) (x : Node) : Prop where
  cells : Sl w vc 4 x.cells.length (x.cells.flatMap cenc)
  kids : Sl w vk 1 x.kids.length (x.kids.flatMap kenc)
  small : x.Small
abbrev nv (x : Node) (vc vk : Value) : Value := .agg [.bool x.leaf, vc, vk].toArray
theorem NodeAt.fr {F : Nat → Prop} {w w' : World} {vc vk : Value} {x : Node} (h : NodeAt w vc vk x) (f : Fr F w w') (h1 : ∀ b, vc.ownBlock = some b → ¬ F b) (h2 : ∀ b, vk.ownBlock = some b → ¬ F b) : NodeAt w' vc vk x :=
  ⟨h.cells.fr f h1, h.kids.fr f h2, h.small⟩
theorem NodeAt.fr0 {w w' : World} {vc vk : Value} {x : Node} (h : NodeAt w vc vk x) (f : Fr no w w') : NodeAt w' vc vk x := ⟨h.cells.fr0 f, h.kids.fr0 f, h.small⟩
/-- A node in new memory. -/
structure NodeN (w w1 : World) (vc vk : Value) (x : Node) : Prop where
  cells : Own w1 vc 159 4 x.cells.length (x.cells.flatMap cenc)
  kids : Own w1 vk 3 1 x.kids.length (x.kids.flatMap kenc)
  fr : Fr no w w1
  newc : ∀ b, vc.ownBlock = some b → w.heap.size ≤ b
  newk : ∀ b, vk.ownBlock = some b → w.heap.size ≤ b
theorem ldA0 {w : World} {t tb : TypeId} {n b : Nat} [Agg P t n] {cs : List Value} {K : Value → World → Prop} (h : Bk w b tb cs) (hn : cs.length = n) (k : K (.agg cs.toArray) w) : px P (Instr.loadAt t (pt b)) w K :=
  ldA (P := P) (o := 0) h (fun j _ => by rw [Nat.zero_add]) hn k
theorem plA0 {w : World} {t tb : TypeId} {n b : Nat} [Agg P t n] {cs : List Value} {K : Value → Prop} (h : Bk w b tb cs) (hn : cs.length = n) (k : K (.agg cs.toArray)) : pla P t (pt b) w K :=
  pla_of (lva_run (P := P) (o := 0) h (fun j _ => by rw [Nat.zero_add]) hn) k
theorem ldAY0 {w : World} {t tb : TypeId} {n b : Nat} [Agg P t n] {cs : List Value} {K : Value → Prop} (h : Bk w b tb cs) (hn : cs.length = n) (k : K (.agg cs.toArray)) : py P (Ext w) (Instr.loadAt t (pt b)) K :=
  ldAY (P := P) (o := 0) h (fun j _ => by rw [Nat.zero_add]) hn k
theorem stA0_k {w : World} {t tb : TypeId} {n b : Nat} [Agg P t n] {cs xs : List Value} {K : World → Prop} (h : Bk w b tb cs) (ha : Atoms xs) (hn : xs.length = n) (hc : cs.length = n)
    (k : ∀ w1, Bk w1 b tb xs → Fr (fun i => i = b) w w1 → K w1) : pu P (Instr.storeAt t (pt b) (.agg xs.toArray)) w K :=
  stA_k (P := P) h ha hn (by omega) fun w1 h1 hf => k w1 (by rwa [spl_all (by omega)] at h1) hf

/-! ### count, may -/
def countIn (n least : Int) : Bool := decide (least ≤ n) && decide (n ≤ 2147483647)
theorem count_in_k {w : World} {n least : Int} {K : Value → World → Prop} (k : K (.bool (countIn n least)) w) : cl P 266 #[iv n, iv least] w K := by
  apply c266
  unfold F266
  refine px_run ?_
  by_cases h : n ≥ least
  · simp only [h, decide_true]
    iterate 2 refine gd_tt ?_
    refine px_run ?_
    refine pk_true ?_
    have : countIn n least = decide (n ≤ 2147483647) := by
      have h' : least ≤ n := h
      simp [countIn, h']
    rw [← this]; exact k
  · simp only [h, decide_false]
    iterate 2 refine gd_ft ?_
    refine pk_false ?_
    have : countIn n least = false := by
      have h' : ¬ least ≤ n := h
      simp [countIn, h']
    rw [← this]; exact k
def Cell.may (c : Cell) (leaf : Bool) : Bool :=
  if 48 < c.key.length then false else
  if !leaf then decide (c.val = [] ∧ c.long = 0 ∧ c.size = 0) else
  if c.long = 0 then decide (c.size = 0) && decide (c.val.length ≤ 64) else
  decide (c.val = []) && countIn c.long 1 && countIn c.size 1

theorem cell_eq (c d : Cell) (w : World) : (bin false .eql 159 (.agg (cenc c).toArray) (.agg (cenc d).toArray)).run P w = .ok (.bool (decide (c = d))) w := by
  refine bin_of _ _ _ (run_eqGuard_agg w .eql 159 _ _ _ _ (by kernel_rfl)) ?_
  rw [run_eql_struct, show (10000 : Nat) = 9999 + 1 from rfl, run_equalIn_struct w 9999 159 _ _ (by kernel_rfl) (by kernel_rfl)]
  have hf : (P.fieldsOf 159).toList = [{ name := "Key", type := 9, offset := 0, embedded := false, tag := "", pkgPath := "", byteOffset := 0 }, { name := "Value", type := 9, offset := 1, embedded := false, tag := "", pkgPath := "", byteOffset := 16 },
    { name := "Long", type := 3, offset := 2, embedded := false, tag := "", pkgPath := "", byteOffset := 32 }, { name := "Size", type := 3, offset := 3, embedded := false, tag := "", pkgPath := "", byteOffset := 40 }] := by kernel_rfl
  rw [hf, show (9999 : Nat) = 9998 + 1 from rfl]
  have e1 := fun w a b => run_equalIn_string (P := P) w 9998 9 a b und_str
  have e2 := fun w a b => run_equalIn_int (P := P) w 9998 3 .i64 .i64 a b und_int
  have e1' : ∀ (w : World) (a b : Str), (Op.equalIn 9999 9 (sv a) (sv b)).run P w = .ok (decide (a = b)) w := fun w a b => by
    unfold sv
    rw [e1, toList_mk, toList_mk, beqS]
  have p0 : ∀ (c : Cell) w, (part 9 (cenc c).toArray 0).run P w = .ok (sv c.key) w := fun c w => part_run (P := P) rfl
  have p1 : ∀ (c : Cell) w, (part 9 (cenc c).toArray 1).run P w = .ok (sv c.val) w := fun c w => part_run (P := P) rfl
  have p2 : ∀ (c : Cell) w, (part 3 (cenc c).toArray 2).run P w = .ok (iv c.long) w := fun c w => part_run (P := P) rfl
  have p3 : ∀ (c : Cell) w, (part 3 (cenc c).toArray 3).run P w = .ok (iv c.size) w := fun c w => part_run (P := P) rfl
  have hc : decide (c = d) = (decide (c.key = d.key) && (decide (c.val = d.val) && (decide (c.long = d.long) && decide (c.size = d.size)))) := by
    obtain ⟨k, v, l, z⟩ := c
    obtain ⟨k', v', l', z'⟩ := d
    simp [Cell.mk.injEq]
  have hb : ∀ a b : Int, (a == b) = decide (a = b) := fun a b => rfl
  rw [hc]
  simp [Op.eqFields, p0, p1, p2, p3, e1', e2]
  by_cases h1 : c.key = d.key <;> by_cases h2 : c.val = d.val <;> by_cases h3 : c.long = d.long <;> by_cases h4 : c.size = d.size <;> simp [h1, h2, h3, h4]

instance : StructT P 159 [(0, 1), (1, 1), (2, 1), (3, 1)] := ⟨by kernel_rfl, fun w => by kernel_rfl⟩
instance : StructT P 155 [(0, 1), (1, 1), (2, 1)] := ⟨by kernel_rfl, fun w => by kernel_rfl⟩
theorem sv_nil : Value.string ⟨#[]⟩ = sv [] := rfl
theorem build159 {w : World} {k : Str} : (Instr.build 159 #[(0, sv k)]).run P w = .ok (.agg (cenc ⟨k, [], 0, 0⟩).toArray) w := by
  refine build_run (P := P) (t := 159) (parts := [(0, sv k)]) (z := [.string ⟨#[]⟩, .string ⟨#[]⟩, .int .i64 0, .int .i64 0]) ?_
  rw [fill_cons (xs := [sv k]) (off := 0) (size := 1) rfl rfl rfl (by decide), fill_nil]
  rfl
theorem build155_0 {w : World} : (Instr.build 155 #[]).run P w = .ok (.agg [.bool false, .slice none 0 0, .slice none 0 0].toArray) w := by
  refine build_run (P := P) (t := 155) (parts := []) (z := [.bool false, .slice none 0 0, .slice none 0 0]) ?_
  rw [fill_nil]
theorem build155_l {w : World} {b : Bool} : (Instr.build 155 #[(0, .bool b)]).run P w = .ok (.agg [.bool b, .slice none 0 0, .slice none 0 0].toArray) w := by
  refine build_run (P := P) (t := 155) (parts := [(0, .bool b)]) (z := [.bool false, .slice none 0 0, .slice none 0 0]) ?_
  rw [fill_cons (xs := [.bool b]) (off := 0) (size := 1) rfl rfl rfl (by decide), fill_nil]
  rfl
theorem build155_lc {w : World} {b : Bool} {v : Value} [hv : Atom v] : (Instr.build 155 #[(0, .bool b), (1, v)]).run P w = .ok (.agg [.bool b, v, .slice none 0 0].toArray) w := by
  refine build_run (P := P) (t := 155) (parts := [(0, .bool b), (1, v)]) (z := [.bool false, .slice none 0 0, .slice none 0 0]) ?_
  rw [fill_cons (xs := [.bool b]) (off := 0) (size := 1) rfl rfl rfl (by decide), fill_cons (xs := [v]) (off := 1) (size := 1) rfl hv.cells rfl (by rw [spl_length (by simp)]; simp), fill_nil]
  rfl
theorem build155_ck {w : World} {v u : Value} [hv : Atom v] [hu : Atom u] : (Instr.build 155 #[(1, v), (2, u)]).run P w = .ok (.agg [.bool false, v, u].toArray) w := by
  refine build_run (P := P) (t := 155) (parts := [(1, v), (2, u)]) (z := [.bool false, .slice none 0 0, .slice none 0 0]) ?_
  rw [fill_cons (xs := [v]) (off := 1) (size := 1) rfl hv.cells rfl (by simp), fill_cons (xs := [u]) (off := 2) (size := 1) rfl hu.cells rfl (by rw [spl_length (by simp)]; simp), fill_nil]
  rfl
theorem build155_lck {w : World} {b : Bool} {v u : Value} [hv : Atom v] [hu : Atom u] : (Instr.build 155 #[(0, .bool b), (1, v), (2, u)]).run P w = .ok (.agg [.bool b, v, u].toArray) w := by
  refine build_run (P := P) (t := 155) (parts := [(0, .bool b), (1, v), (2, u)]) (z := [.bool false, .slice none 0 0, .slice none 0 0]) ?_
  rw [fill_cons (xs := [.bool b]) (off := 0) (size := 1) rfl rfl rfl (by simp), fill_cons (xs := [v]) (off := 1) (size := 1) rfl hv.cells rfl (by rw [spl_length (by simp)]; simp),
    fill_cons (xs := [u]) (off := 2) (size := 1) rfl hu.cells rfl (by rw [spl_length (by rw [spl_length (by simp)]; simp), spl_length (by simp)]; simp), fill_nil]
  rfl
theorem may_k {w : World} {c : Cell} {leaf : Bool} {K : Value → World → Prop} (k : ∀ w1, Fr no w w1 → K (.bool (c.may leaf)) w1) : cl P 263 #[.agg (cenc c).toArray, .bool leaf] w K := by
  apply c263
  unfold F263
  refine boxA_k fun b w1 _ hb hf => ?_
  have k := k w1 hf
  unfold Cell.may at k
  refine px_run ?_
  refine ldB hb rfl ?_
  refine px_run ?_
  refine px_run ?_
  refine cnd_dec (fun h => ?_) (fun h => ?_)
  · rw [if_pos (by omega)] at k; exact k
  rw [if_neg (by omega)] at k
  refine px_run ?_
  cases leaf
  case false =>
    refine cnd_true ?_
    refine ldA0 hb rfl ?_
    refine px_run ?_
    refine ldB hb rfl ?_
    refine px_of build159 ?_
    refine px_of (cell_eq _ _ _) ?_
    have : decide (c = ⟨c.key, [], 0, 0⟩) = decide (c.val = [] ∧ c.long = 0 ∧ c.size = 0) := by
      obtain ⟨k1, v, l, z⟩ := c
      simp [Cell.mk.injEq]
    rw [this]
    exact k
  refine cnd_false ?_
  simp only [Bool.not_true, Bool.false_eq_true, if_false] at k
  refine px_run ?_
  refine ldB hb rfl ?_
  refine px_run ?_
  refine cnd_dec (fun h => ?_) (fun h => ?_)
  · rw [if_pos h] at k
    refine px_run ?_
    refine ldB hb rfl ?_
    refine px_run ?_
    by_cases hz : c.size = 0
    · simp only [hz, decide_true, Bool.true_and] at k ⊢
      refine gd_tt ?_
      refine px_run ?_
      refine gd_tt ?_
      refine ldB hb rfl ?_
      refine gd_tt ?_
      refine px_run ?_
      refine gd_tt ?_
      refine px_run ?_
      refine pk_true ?_
      have : decide ((c.val.length : Int) ≤ 64) = decide (c.val.length ≤ 64) := by
        apply decide_eq_decide.2; omega
      rw [this]; exact k
    · simp only [hz, decide_false, Bool.false_and] at k ⊢
      iterate 4 refine gd_ft ?_
      refine pk_false ?_
      exact k
  · rw [if_neg h] at k
    refine px_run ?_
    refine ldB hb rfl ?_
    rw [sv_nil]
    refine px_run ?_
    by_cases hv : c.val = []
    · simp only [hv, decide_true, Bool.true_and] at k ⊢
      refine gd_tt ?_
      refine px_run ?_
      refine gd_tt ?_
      refine ldB hb rfl ?_
      refine gd_tt ?_
      refine count_in_k ?_
      refine pk_true ?_
      cases hl : countIn c.long 1
      · rw [hl] at k
        iterate 3 refine gd_ft ?_
        refine pk_false ?_
        exact k
      · rw [hl] at k
        refine gd_tt ?_
        refine px_run ?_
        refine gd_tt ?_
        refine ldB hb rfl ?_
        refine gd_tt ?_
        refine count_in_k ?_
        refine pk_true ?_
        exact k
    · simp only [hv, decide_false, Bool.false_and] at k ⊢
      iterate 3 refine gd_ft ?_
      refine pk_false ?_
      iterate 3 refine gd_ft ?_
      refine pk_false ?_
      exact k
/-! ### Find -/
theorem find1_k {w : World} {c : Cell} {key : Str} {b : Nat} {K : Value → World → Prop} (hb : Bk w b 9 [sv key]) (k : ∀ w1, Fr no w w1 → K (.bool (!ltS c.key key)) w1) : cl P 211 #[.agg (cenc c).toArray, pt b] w K := by
  apply c211
  unfold F211
  refine boxA_k fun b1 w1 _ hb1 hf => ?_
  refine px_run ?_
  refine ldB hb1 rfl ?_
  refine ldB (hb.fr0 hf) rfl ?_
  refine px_run ?_
  exact k w1 hf
def Node.find (x : Node) (key : Str) : Nat × Bool :=
  if fidx (fun c : Cell => !ltS c.key key) x.cells < 0 then (x.cells.length, false) else
  ((fidx (fun c : Cell => !ltS c.key key) x.cells).toNat, decide ((x.cells.getD (fidx (fun c : Cell => !ltS c.key key) x.cells).toNat ⟨[], [], 0, 0⟩).key = key))
theorem F210_gen (R : Value → World → Prop) (v0 v1 : Value) (w : World) : F210 R v0 v1 w = indexF P 153 3 159 R v0 v1 w := rfl
theorem ldCell {w : World} {c : Cell} {b o : Nat} {K : Value → World → Prop} (h : ∀ r, r < 4 → w.cell? ⟨b, o + r, none⟩ = (cenc c)[r]?) (k : K (.agg (cenc c).toArray) w) : px P (Instr.loadAt 159 (.pointer (some ⟨b, o, none⟩))) w K :=
  ldC (P := P) (cenc_length c) h k
theorem find_k {w : World} {x : Node} {vc vk : Value} {key : Str} {K : Value → World → Prop} (h : NodeAt w vc vk x) (k : ∀ w1, Fr no w w1 → K (.tuple #[iv (x.find key).1, .bool (x.find key).2]) w1) : cl P 147 #[nv x vc vk, sv key] w K := by
  obtain ⟨_, ac, cc, rfl, _⟩ := id h.cells
  apply c147
  unfold F147
  refine boxA_k fun b w1 _ hb hf => ?_
  refine box_k fun b2 w2 _ hb2 hf2 => ?_
  have hb' := hb.fr0 hf2
  have hf12 := hf.trans hf2 (fun _ h => by cases h)
  refine px_run ?_
  refine ldB hb' rfl ?_
  refine px_run ?_
  apply c210
  rw [F210_gen]
  refine index_k (P := P) (α := Cell) (l := x.cells) (enc := cenc) (ev := fun c => .agg (cenc c).toArray) (q := fun c => !ltS c.key key) (Inv := fun _ => True) (h.cells.fr0 hf12) (by omega) (by have := h.small.cells; omega) (fun _ _ => rfl)
    (fun c _ b o w' K' hc hk => ldCell hc hk) trivial (fun c _ w3 K' _ hf3 hk => find1_k (hb2.fr0 hf3) fun w4 hf4 => hk w4 trivial hf4) fun w3 _ hf3 => ?_
  have hb3 := hb'.fr0 hf3
  have hf13 := hf12.trans hf3 (fun _ h => by cases h)
  have hrange := fidx_ge (q := fun c : Cell => !ltS c.key key) (l := x.cells)
  refine px_run ?_
  refine cnd_dec (fun hneg => ?_) (fun hpos => ?_)
  · refine px_run ?_
    refine ldB hb3 rfl ?_
    refine px_run ?_
    have k := k w3 hf13
    rw [Node.find, if_pos hneg] at k
    exact k
  · have hpos' : 0 ≤ fidx (fun c : Cell => !ltS c.key key) x.cells := by omega
    obtain ⟨i, hi⟩ := Int.eq_ofNat_of_zero_le hpos'
    rw [hi] at hrange ⊢
    have hil : i < x.cells.length := by omega
    have hfw := hf13.trans (Fr.dw w3) (fun _ h => by cases h)
    have k := k (dw w3) hfw
    rw [Node.find, if_neg (by omega), hi] at k
    obtain ⟨bb, oo, cap, hv, hle, hcell⟩ := (h.cells.fr0 hfw).addr (by omega) (by omega)
    simp only [Value.slice.injEq, true_and] at hv
    obtain ⟨rfl, rfl⟩ := hv
    have hb4 := hb3.fr0 (Fr.dw w3)
    refine dr_of ?_
    refine py_run ?_
    refine ldY hb4 rfl ?_
    refine idxY (P := P) i rfl hil ?_
    refine py_run ?_
    have hc := hcell (i * 4) (by omega)
    rw [← Nat.add_zero (i * 4), cencs_get hil (by omega)] at hc
    refine ldBy (P := P) (fun w' f => cell_ext (by rw [← Nat.add_zero (i * 4)]; exact hc) f) ?_
    refine ldY ((hb2.fr0 hf3).fr0 (Fr.dw w3)) rfl ?_
    refine py_run ?_
    have hg : x.cells.getD i ⟨[], [], 0, 0⟩ = x.cells[i] := by simp [List.getD, hil]
    simp only [Int.toNat_natCast, hg] at k
    exact k

/-! ### Check -/
def chk (leaf : Bool) : Option Str → List Cell → Bool
  | _, [] => true
  | p, c :: l => c.may leaf && (match p with | none => true | some k => ltS k c.key) && chk leaf (some c.key) l
theorem chk_cons (leaf : Bool) (p : Option Str) (c : Cell) (l : List Cell) : chk leaf p (c :: l) = (c.may leaf && (match p with | none => true | some k => ltS k c.key) && chk leaf (some c.key) l) := rfl
def Node.check (x : Node) : Bool :=
  chk x.leaf none x.cells && (decide (x.kids.length = if x.leaf then 0 else x.cells.length + 1) && x.kids.all fun k => countIn k 0)
theorem fidx_all {α : Type} {q : α → Bool} : ∀ {l : List α}, decide (fidx q l ≥ 0) = !(l.all fun a => !q a)
  | [] => by simp [fidx]
  | a :: l => by
    have ih := fidx_all (q := q) (l := l)
    have := fidx_ge (q := q) (l := l)
    rw [fidx_cons]
    cases hq : q a
    · simp only [Bool.false_eq_true, if_false, List.all_cons, hq, Bool.not_false, Bool.true_and]
      rw [← ih]
      by_cases h : fidx q l = -1
      · simp [h]
      · rw [if_neg h]
        apply decide_eq_decide.2
        omega
    · simp [hq]
theorem F286_gen (R : Value → World → Prop) (v0 v1 : Value) (w : World) : F286 R v0 v1 w = indexF P 48 3 3 R v0 v1 w := rfl
theorem F284_gen (R : Value → World → Prop) (v0 v1 : Value) (w : World) : F284 R v0 v1 w = indexF P 43 3 5 R v0 v1 w := rfl
theorem check1_k {w : World} {n : Int} {K : Value → World → Prop} (k : K (.bool (!countIn n 0)) w) : cl P 265 #[iv n] w K := by
  apply c265
  unfold F265
  refine count_in_k ?_
  refine px_run ?_
  exact k
theorem kidsOut_k {w : World} {v : Value} {l : List Int} {K : Value → World → Prop} (h : Sl w v 1 l.length (l.flatMap kenc)) (hl : l.length ≤ 1000000000)
    (k : ∀ w1, Fr no w w1 → K (.bool (!(l.all fun k => countIn k 0))) w1) : cl P 264 #[v, .func (.func 265) #[] #[]] w K := by
  apply c264
  unfold F264
  apply c286
  rw [F286_gen]
  refine index_k (P := P) (α := Int) (l := l) (enc := kenc) (ev := fun n => iv n) (q := fun n => !countIn n 0) (Inv := fun _ => True) h (by omega) hl (fun _ _ => rfl)
    (fun n _ b o w' K' hc hk => ld1 (P := P) (by have := hc 0 (by omega); exact this) hk) trivial (fun n _ w3 K' _ _ hk => check1_k (hk w3 trivial (Fr.refl _ _))) fun w3 _ hf3 => ?_
  refine px_run ?_
  rw [fidx_all]
  simp only [Bool.not_not]
  exact k w3 hf3
theorem check_k {w : World} {x : Node} {vc vk : Value} {K : Value → World → Prop} (h : NodeAt w vc vk x) (k : ∀ w1, Fr no w w1 → K (.bool x.check) w1) : cl P 216 #[nv x vc vk] w K := by
  obtain ⟨_, ac, cc, rfl, _⟩ := id h.cells
  obtain ⟨_, ak, ck, rfl, _⟩ := id h.kids
  apply c216
  unfold F216
  refine boxA_k fun b w1 _ hb hf => ?_
  refine px_run ?_
  refine ldB hb rfl ?_
  refine px_run ?_
  have hsmall := h.small.cells
  refine lp_of (fun vs w' => ∃ i : Nat, vs = [iv i] ∧ i ≤ x.cells.length ∧ Fr no w1 w' ∧ chk x.leaf none x.cells = chk x.leaf (if i = 0 then none else some (x.cells.getD (i - 1) ⟨[], [], 0, 0⟩).key) (x.cells.drop i))
    (fun vs _ => (match vs with | [.int _ m] => (x.cells.length - m).toNat | _ => 0)) ⟨0, rfl, Nat.zero_le _, Fr.refl _ _, by simp⟩ ?_
  rintro vs w2 ⟨i, rfl, hi, hf2, hchk⟩
  simp only [g0_cons]
  have hfw2 := hf.trans hf2 (fun _ h => by cases h)
  have hb2 := hb.fr0 hf2
  refine px_run ?_
  refine cnd_dec (fun hlt => ?_) (fun hge => ?_)
  · have hi' : i < x.cells.length := by omega
    have hdrop : x.cells.drop i = x.cells[i] :: x.cells.drop (i + 1) := List.drop_eq_getElem_cons hi'
    obtain ⟨bb, oo, cap, hv, hle, hcell⟩ := (h.cells.fr0 hfw2).addr (by omega) (by omega)
    simp only [Value.slice.injEq, true_and] at hv
    obtain ⟨rfl, rfl⟩ := hv
    refine px_of (idx_run (P := P) (t := 153) (i := i) rfl hi') ?_
    refine ldCell (c := x.cells[i]) (fun r hr => by
      have hci := hcell (i * 4 + r) (by omega)
      rw [cencs_get hi' hr] at hci
      rw [Nat.add_assoc]; exact hci) ?_
    refine alloc_k (P := P) (z := [.string ⟨#[]⟩, .string ⟨#[]⟩, .int .i64 0, .int .i64 0]) fun b4 w3 hb4' hb4 hf3 => ?_
    refine stA0_k hb4 (atoms_cenc _) rfl rfl fun w4 hb4 hf4 => ?_
    have hf34 : Fr no w2 w4 := hf3.new hf4 (fun i hi => by omega)
    have hf14 := (hf2.trans hf34 (fun _ h => by cases h)).trans (Fr.dw w4) (fun _ h => by cases h)
    have hbd := hb.fr0 hf14
    refine dr_of ?_
    refine ldAY0 (hb4.fr0 (Fr.dw w4)) rfl ?_
    refine py_run ?_
    refine ldY hbd rfl ?_
    refine may_k fun w5 hf5 => ?_
    refine py_run ?_
    have hf15 := hf14.trans hf5 (fun _ h => by cases h)
    have hb4' := (hb4.fr0 (Fr.dw w4)).fr0 hf5
    have hb5 := hb.fr0 hf15
    rw [hdrop, chk_cons] at hchk
    have bad : chk x.leaf none x.cells = false → K (.bool false) w5 := fun hbad => by
      have := k w5 (hf.trans hf15 (fun _ h => by cases h))
      rw [Node.check, hbad, Bool.false_and] at this
      exact this
    haveI : Fits .i64 ((i : Int) + 1) := fits_i64 (by omega) (by omega)
    have next : chk x.leaf none x.cells = chk x.leaf (some x.cells[i].key) (x.cells.drop (i + 1)) → px P (bin true .add 3 (iv i) (.int .i64 1)) w5 fun v35 w =>
        (∃ i : Nat, [v35] = [iv i] ∧ i ≤ x.cells.length ∧ Fr no w1 w ∧ chk x.leaf none x.cells = chk x.leaf (if i = 0 then none else some (x.cells.getD (i - 1) ⟨[], [], 0, 0⟩).key) (x.cells.drop i)) ∧
        (match [v35] with | [.int _ m] => (x.cells.length - m).toNat | _ => 0) < (match [iv i] with | [.int _ m] => (x.cells.length - m).toNat | _ => 0) := fun hnext => by
      refine px_run ?_
      refine ⟨⟨i + 1, rfl, by omega, hf15, ?_⟩, ?_⟩
      · rw [hnext, if_neg (by omega), Nat.add_sub_cancel]
        have hg : x.cells.getD i ⟨[], [], 0, 0⟩ = x.cells[i] := by simp [List.getD, hi']
        rw [hg]
      · show ((x.cells.length : Int) - ((i : Int) + 1)).toNat < ((x.cells.length : Int) - i).toNat
        omega
    cases hm : x.cells[i].may x.leaf
    case false =>
      rw [hm] at hchk
      iterate 3 refine gy_tf ?_
      iterate 10 refine gy_u ?_
      refine gy_tf ?_
      refine pky_true ?_
      refine cnd_true ?_
      exact bad (by rw [hchk]; simp)
    rw [hm] at hchk
    simp only [Bool.true_and] at hchk
    refine gy_ff ?_
    refine gy_ff ?_
    refine py_run ?_
    refine gy_ff ?_
    by_cases h0 : i = 0
    · subst h0
      simp only [if_true, Bool.true_and] at hchk
      iterate 10 refine gy_ft ?_
      refine gy_ff ?_
      refine pky_false ?_
      refine pky_false ?_
      refine cnd_false ?_
      exact next hchk
    · rw [if_neg h0] at hchk
      simp only at hchk
      have hgt : ((i : Int) > 0) := by omega
      simp only [hgt, decide_true]
      have hi1 : i - 1 < x.cells.length := by omega
      haveI : Fits .i64 ((i : Int) - 1) := fits_i64 (by omega) (by omega)
      refine gy_tt ?_
      refine py_run ?_
      refine gy_tt ?_
      refine ldY hb5 rfl ?_
      refine gy_tt ?_
      refine gy_tt ?_
      refine py_run ?_
      refine gy_tt ?_
      refine idxY (P := P) (i - 1) (by omega) hi1 ?_
      refine gy_tt ?_
      refine py_run ?_
      refine gy_tt ?_
      have hcp := hcell ((i - 1) * 4 + 0) (by omega)
      rw [cencs_get hi1 (by omega), Nat.add_zero] at hcp
      have hf45 : Fr no w2 w5 := (hf34.trans (Fr.dw w4) (fun _ h => by cases h)).trans hf5 (fun _ h => by cases h)
      refine ldBy (P := P) (fun w' f => cell_ext (cell_ext hcp (hf45.ext)) f) ?_
      refine gy_tt ?_
      refine py_run ?_
      refine gy_tt ?_
      refine ldY hb4' rfl ?_
      refine gy_tt ?_
      refine py_run ?_
      refine gy_ff ?_
      refine pky_true ?_
      refine pky_false ?_
      have hg : x.cells.getD (i - 1) ⟨[], [], 0, 0⟩ = x.cells[i - 1] := by simp [List.getD, hi1]
      rw [hg] at hchk
      refine cnd_of (fun hlt => bad ?_) (fun hlt => next ?_)
      · have : ltS x.cells[i - 1].key x.cells[i].key = false := by simpa using hlt
        rw [hchk, this]; simp
      · have : ltS x.cells[i - 1].key x.cells[i].key = true := by simpa using hlt
        rw [hchk, this]; simp
  · have hieq : i = x.cells.length := by omega
    subst hieq
    have htrue : chk x.leaf none x.cells = true := by rw [hchk, List.drop_length]; rfl
    have k : ∀ w3, Fr no w2 w3 → K (.bool (decide (x.kids.length = if x.leaf then 0 else x.cells.length + 1) && x.kids.all fun k => countIn k 0)) w3 := fun w3 hf3 => by
      have := k w3 (hfw2.trans hf3 (fun _ h => by cases h))
      rwa [Node.check, htrue, Bool.true_and] at this
    refine px_run ?_
    refine ldB hb2 rfl ?_
    refine px_run ?_
    haveI : Fits .i64 ((x.cells.length : Int) + 1) := fits_i64 (by omega) (by omega)
    refine px_run ?_
    refine px_run ?_
    refine ldB hb2 rfl ?_
    refine cut_of (fun vs w' => vs = [iv (if x.leaf then 0 else x.cells.length + 1 : Nat)] ∧ w' = w2) (cnd_of (fun h => ⟨by simp [h], rfl⟩) (fun h => ⟨by simp [h], rfl⟩)) ?_
    rintro vs w' ⟨rfl, rfl⟩
    simp only [g0_cons]
    refine px_run ?_
    refine ldB hb2 rfl ?_
    refine px_run ?_
    refine px_run ?_
    have hdd : decide ((x.kids.length : Int) = ((if x.leaf then 0 else x.cells.length + 1 : Nat) : Int)) = decide (x.kids.length = if x.leaf then 0 else x.cells.length + 1) := by
      apply decide_eq_decide.2; omega
    rw [hdd]
    by_cases hk : x.kids.length = if x.leaf then 0 else x.cells.length + 1
    · simp only [hk, decide_true, Bool.true_and] at k ⊢
      refine gd_tt ?_
      refine px_run ?_
      refine gd_tt ?_
      refine ldB hb2 rfl ?_
      refine gd_tt ?_
      refine kidsOut_k (h.kids.fr0 hfw2) (by have := h.small.kids; omega) fun w3 hf3 => ?_
      refine gd_tt ?_
      refine px_run ?_
      refine pk_true ?_
      rw [Bool.not_not]
      exact k w3 hf3
    · simp only [hk, decide_false, Bool.false_and] at k ⊢
      iterate 4 refine gd_ft ?_
      refine pk_false ?_
      exact k w' (Fr.refl _ _)

/-! ### Bytes -/
def cnts (l : List Int) : List UInt8 := l.flatMap cnt
theorem cnts_length (l : List Int) : (cnts l).length ≤ 10 * l.length := by
  induction l with
  | nil => simp [cnts]
  | cons a l ih =>
    have := cnt_length a
    simp only [cnts, List.flatMap_cons, List.length_append, List.length_cons] at ih ⊢
    omega
theorem NewB.sl {w w1 : World} {v : Value} {l : List UInt8} (h : NewB w w1 v l) : Sl w1 v 1 l.length (bs l) := h.own.sl
theorem counts_k {w : World} {v u : Value} {l : List UInt8} {ns : List Int} {K : Value → World → Prop} (h : Own w v 5 1 l.length (bs l)) (hu : Sl w u 1 ns.length (ns.flatMap kenc)) (hl : l.length + 10 * ns.length ≤ 90000000)
    (k : ∀ v' w1, Own w1 v' 5 1 (l ++ cnts ns).length (bs (l ++ cnts ns)) → Fr no w w1 → (∀ b, v'.ownBlock = some b → v.ownBlock = some b ∨ w.heap.size ≤ b) → K v' w1) : cl P 267 #[v, u] w K := by
  obtain ⟨_, au, cu, rfl, _⟩ := id hu
  apply c267
  unfold F267
  refine px_run ?_
  refine lp_of (fun vs w' => ∃ (i : Nat) (v' : Value), vs = [v', iv i] ∧ i ≤ ns.length ∧ Fr no w w' ∧ Own w' v' 5 1 (l ++ cnts (ns.take i)).length (bs (l ++ cnts (ns.take i))) ∧ (∀ b, v'.ownBlock = some b → v.ownBlock = some b ∨ w.heap.size ≤ b))
    (fun vs _ => (match vs with | [_, .int _ m] => (ns.length - m).toNat | _ => 0)) ⟨0, v, rfl, Nat.zero_le _, Fr.refl _ _, by simpa [cnts] using h, fun b hb => .inl hb⟩ ?_
  rintro vs w2 ⟨i, v', rfl, hi, hf, hs, hown⟩
  simp only [g0_cons, g1_cons]
  refine px_run ?_
  refine cnd_dec (fun hlt => ?_) (fun hge => ?_)
  · have hi' : i < ns.length := by omega
    refine idx_s (P := P) (hu.fr0 hf) (by omega) i rfl hi' fun b o _ hcell => ?_
    have hc0 := hcell 0 (by omega)
    rw [Nat.mul_one, Nat.add_zero, Nat.add_zero, kencs_get hi'] at hc0
    refine ld1 (P := P) hc0 ?_
    have hln := cnts_length (ns.take i)
    have hlt : (ns.take i).length ≤ ns.length := by rw [List.length_take]; omega
    refine count_k hs.sl (by rw [List.length_append]; omega) fun v3 w3 h3 => ?_
    haveI : Fits .i64 ((i : Int) + 1) := fits_i64 (by omega) (by omega)
    refine px_run ?_
    refine ⟨⟨i + 1, v3, rfl, by omega, hf.trans h3.fr (fun _ h => by cases h), ?_, fun b hb => .inr (by have := h3.new b hb; have := hf.size; omega)⟩, ?_⟩
    · have : l ++ cnts (ns.take (i + 1)) = l ++ cnts (ns.take i) ++ cnt ns[i] := by
        rw [List.take_succ_eq_append_getElem hi', cnts, List.flatMap_append, List.append_assoc]
        simp [cnts]
      rw [this]; exact h3.own
    · show ((ns.length : Int) - ((i : Int) + 1)).toNat < ((ns.length : Int) - i).toNat
      omega
  · have hieq : i = ns.length := by omega
    subst hieq
    rw [List.take_length] at hs
    exact k v' w2 hs hf hown
def Cell.bytes (leaf : Bool) (c : Cell) : List UInt8 :=
  str c.key ++ (if leaf then (if c.long = 0 then cnt 0 ++ str c.val else cnt c.long ++ cnt c.size) else [])
def Node.bytes (x : Node) : List UInt8 :=
  cnt (if x.leaf then 1 else 0) ++ cnt x.cells.length ++ x.cells.flatMap (Cell.bytes x.leaf) ++ (if x.leaf then [] else cnts x.kids)
theorem ints1_k {w : World} {n : Int} {K : Value → World → Prop} (k : ∀ b w1, b = w.heap.size → Own w1 (.slice (some ⟨b, 0, none⟩) 1 1) 3 1 1 ([n].flatMap kenc) → Fr no w w1 → K (.slice (some ⟨b, 0, none⟩) 1 1) w1) :
    px P (Instr.buildSlice 48 1 #[(0, iv n)]) w K := bslice1_k (P := P) (sz := 1) (z := [.int .i64 0]) (xs := [n].flatMap kenc) rfl rfl rfl (by omega) (by omega) k
theorem ints1_g {w : World} {n : Int} {K : Value → World → Prop} (k : ∀ b w1, b = w.heap.size → Own w1 (.slice (some ⟨b, 0, none⟩) 1 1) 3 1 1 ([n].flatMap kenc) → Fr no w w1 → K (.slice (some ⟨b, 0, none⟩) 1 1) w1) :
    pg P (Instr.buildSlice 48 1 #[(0, iv n)]) w K := bslice1_g (P := P) (sz := 1) (z := [.int .i64 0]) (xs := [n].flatMap kenc) rfl rfl rfl (by omega) (by omega) k
theorem ints2_k {w : World} {n m : Int} {K : Value → World → Prop} (k : ∀ b w1, b = w.heap.size → Own w1 (.slice (some ⟨b, 0, none⟩) 2 2) 3 1 2 ([n, m].flatMap kenc) → Fr no w w1 → K (.slice (some ⟨b, 0, none⟩) 2 2) w1) :
    px P (Instr.buildSlice 48 2 #[(0, iv n), (1, iv m)]) w K := by
  refine px_of (bslice_run (P := P) (t := 48) (sz := 1) (n := 2) (z := [.int .i64 0]) (parts := [(0, iv n), (1, iv m)]) (xs := [n, m].flatMap kenc) rfl (by omega) (by omega) (by omega) ?_) (k _ _ rfl (bslice_own rfl (by decide)) (Fr.alloc _ _))
  rw [fill_cons (xs := [iv n]) (off := 0) (size := 1) rfl rfl rfl (by simp), fill_cons (xs := [iv m]) (off := 1) (size := 1) rfl rfl rfl (by rw [spl_length (by simp)]; simp), fill_nil]
  rfl
theorem cell1_k {w : World} {c : Cell} {K : Value → World → Prop} (k : ∀ b w1, b = w.heap.size → Own w1 (.slice (some ⟨b, 0, none⟩) 1 1) 159 4 1 ([c].flatMap cenc) → Fr no w w1 → K (.slice (some ⟨b, 0, none⟩) 1 1) w1) :
    px P (Instr.buildSlice 153 1 #[(0, .agg (cenc c).toArray)]) w K := bslice1_k (P := P) (sz := 4) (z := [.string ⟨#[]⟩, .string ⟨#[]⟩, .int .i64 0, .int .i64 0]) (xs := [c].flatMap cenc) (by simp [Value.cells]) rfl rfl (by omega) (by omega) k
theorem cell1_g {w : World} {c : Cell} {K : Value → World → Prop} (k : ∀ b w1, b = w.heap.size → Own w1 (.slice (some ⟨b, 0, none⟩) 1 1) 159 4 1 ([c].flatMap cenc) → Fr no w w1 → K (.slice (some ⟨b, 0, none⟩) 1 1) w1) :
    pg P (Instr.buildSlice 153 1 #[(0, .agg (cenc c).toArray)]) w K := bslice1_g (P := P) (sz := 4) (z := [.string ⟨#[]⟩, .string ⟨#[]⟩, .int .i64 0, .int .i64 0]) (xs := [c].flatMap cenc) (by simp [Value.cells]) rfl rfl (by omega) (by omega) k
/-! ### twin -/
theorem F83_gen (R : Value → World → Prop) (v0 : Value) (w : World) : F83 R v0 w = cloneF P 153 R v0 w := rfl
theorem F159_gen (R : Value → World → Prop) (v0 : Value) (w : World) : F159 R v0 w = cloneF P 48 R v0 w := rfl
theorem cloneC_k {w : World} {v : Value} {l : List Cell} {K : Value → World → Prop} (h : Sl w v 4 l.length (l.flatMap cenc)) (hl : l.length ≤ 1000000)
    (k : ∀ v' w1, Own w1 v' 159 4 l.length (l.flatMap cenc) → Fr no w w1 → (∀ b, v'.ownBlock = some b → w.heap.size ≤ b) → K v' w1) : cl P 83 #[v] w K := by
  apply c83
  rw [F83_gen]
  exact clone_k (P := P) h (atoms_cencs l) (by unfold maxLen; omega) (by omega) k
theorem cloneK_k {w : World} {v : Value} {l : List Int} {K : Value → World → Prop} (h : Sl w v 1 l.length (l.flatMap kenc)) (hl : l.length ≤ 1000000)
    (k : ∀ v' w1, Own w1 v' 3 1 l.length (l.flatMap kenc) → Fr no w w1 → (∀ b, v'.ownBlock = some b → w.heap.size ≤ b) → K v' w1) : cl P 159 #[v] w K := by
  apply c159
  rw [F159_gen]
  exact clone_k (P := P) h (atoms_kencs l) (by unfold maxLen; omega) (by omega) k
theorem atoms_node (l : Bool) (a a' : Option Addr) (n n' c c' : Nat) : Atoms [.bool l, .slice a n c, .slice a' n' c'] := fun y hy => by
  simp only [List.mem_cons, List.not_mem_nil, or_false] at hy
  rcases hy with rfl | rfl | rfl <;> exact inferInstance
theorem twin_k {w : World} {x : Node} {vc vk : Value} {K : Value → World → Prop} (h : NodeAt w vc vk x) (k : ∀ vc' vk' w1, NodeN w w1 vc' vk' x → K (nv x vc' vk') w1) : cl P 220 #[nv x vc vk] w K := by
  obtain ⟨_, ac, cc, rfl, _⟩ := id h.cells
  obtain ⟨_, ak, ck, rfl, _⟩ := id h.kids
  apply c220
  unfold F220
  refine boxA_k fun b w1 _ hb hf => ?_
  refine alloc_k (P := P) (z := [.bool false, .slice none 0 0, .slice none 0 0]) fun b2 w2 _ hb2 hf2 => ?_
  have hbw := (hb.fr0 hf2).fr0 (Fr.dw w2)
  have hfd : Fr no w (dw w2) := (hf.trans hf2 (fun _ h => by cases h)).trans (Fr.dw w2) (fun _ h => by cases h)
  refine dr_of ?_
  refine held_of (fun w' => Bk w' b 155 [.bool x.leaf, .slice ac x.cells.length cc, .slice ak x.kids.length ck]) hbw ?_
  refine py_run ?_
  refine ldBy (P := P) (fun w' hS => hS.cell 0) ?_
  refine py_run ?_
  refine ldY hbw rfl ?_
  refine py_run ?_
  refine ldBy (P := P) (fun w' hS => hS.cell 2) ?_
  refine cloneC_k (h.cells.fr0 hfd) (by have := h.small.cells; omega) fun vc' w3 ho3 hf3 hn3 => ?_
  refine hs_of (hbw.fr0 hf3) ?_
  refine cloneK_k ((h.kids.fr0 hfd).fr0 hf3) (by have := h.small.kids; omega) fun vk' w4 ho4 hf4 hn4 => ?_
  refine hs_of ((hbw.fr0 hf3).fr0 hf4) ?_
  obtain ⟨a3, c3, rfl⟩ := Own.atom ho3
  obtain ⟨a4, c4, rfl⟩ := Own.atom ho4
  refine py_of (fun w' _ => build155_lck) ?_
  have hb4 := ((hb2.fr0 (Fr.dw w2)).fr0 hf3).fr0 hf4
  have hbb : b ≠ b2 := by have := hb.lt; omega
  have hb4w := (hbw.fr0 hf3).fr0 hf4
  refine stA0_k hb4 (atoms_node _ _ _ _ _ _ _) rfl rfl fun w5 hb5 hf5 => ?_
  refine hs_of (hb4w.fr hf5 hbb) ?_
  refine plA0 hb5 rfl ?_
  have hfw4 := (hfd.trans hf3 (fun _ h => by cases h)).trans hf4 (fun _ h => by cases h)
  have s1 := hf.size
  have s2 := hfd.size
  have s3 := hf3.size
  refine k _ _ w5 ⟨(ho3.fr0 hf4).frb hf5 hb4 (by decide), ho4.frb hf5 hb4 (by decide), hfw4.new hf5 (fun i hi => by omega), fun b hb => ?_, fun b hb => ?_⟩
  · have := hn3 b hb; omega
  · have := hn4 b hb; omega

theorem str_length {s : Str} (h : s.length ≤ 1000) : (str s).length ≤ 10 + s.length := by
  unfold str
  rw [if_neg (by omega), List.length_append]
  have := cnt_length (s.length : Int)
  omega
theorem cellBytes_length {leaf : Bool} {c : Cell} (h : c.key.length ≤ 100 ∧ c.val.length ≤ 100) : (c.bytes leaf).length ≤ 240 := by
  unfold Cell.bytes
  have h1 := str_length (s := c.key) (by omega)
  have h2 := str_length (s := c.val) (by omega)
  have h3 := cnt_length 0
  have h4 := cnt_length c.long
  have h5 := cnt_length c.size
  rw [List.length_append]
  split
  · split
    · rw [List.length_append]; omega
    · rw [List.length_append]; omega
  · simp only [List.length_nil]; omega
theorem cellsBytes_length {leaf : Bool} {l : List Cell} (h : ∀ c ∈ l, c.key.length ≤ 100 ∧ c.val.length ≤ 100) : (l.flatMap (Cell.bytes leaf)).length ≤ 240 * l.length := by
  induction l with
  | nil => simp
  | cons a l ih =>
    have h1 := cellBytes_length (leaf := leaf) (h a (.head _))
    have h2 := ih fun c hc => h c (.tail _ hc)
    simp only [List.flatMap_cons, List.length_append, List.length_cons]
    omega
def Node.head (x : Node) : List UInt8 := cnt (if x.leaf then 1 else 0) ++ cnt x.cells.length
theorem head_length (x : Node) : x.head.length ≤ 20 := by
  have h1 := cnt_length (if x.leaf then 1 else 0)
  have h2 := cnt_length (x.cells.length : Int)
  unfold Node.head
  rw [List.length_append]; omega
theorem Node.bytes_length {x : Node} (h : x.Small) : x.bytes.length ≤ 30000000 := by
  have h1 := head_length x
  have h2 := cellsBytes_length (leaf := x.leaf) h.strs
  have h3 := cnts_length x.kids
  have h4 := h.cells
  have h5 := h.kids
  unfold Node.bytes
  unfold Node.head at h1
  have h6 : (if x.leaf then [] else cnts x.kids).length ≤ (cnts x.kids).length := by
    cases x.leaf <;> simp
  simp only [List.length_append] at h1 ⊢
  omega
theorem nil_own (w : World) (e : TypeId) (sz : Nat) : Own w (.slice none 0 0) e sz 0 [] := ⟨by simp, .inl ⟨rfl, rfl⟩⟩
theorem bytes_k {w : World} {x : Node} {vc vk : Value} {K : Value → World → Prop} (h : NodeAt w vc vk x) (k : ∀ v w1, NewB w w1 v x.bytes → K v w1) : cl P 217 #[nv x vc vk] w K := by
  obtain ⟨_, ac, cc, rfl, _⟩ := id h.cells
  obtain ⟨_, ak, ck, rfl, _⟩ := id h.kids
  apply c217
  unfold F217
  refine boxA_k fun b w1 _ hb hf => ?_
  have hsc := h.small.cells
  have hsk := h.small.kids
  refine cut_of (fun vs w' => ∃ v, vs = [v] ∧ NewB w1 w' v x.head) ?_ ?_
  · have hbw := hb.fr0 (Fr.dw w1)
    refine dr_of ?_
    refine held_of (fun w' => Bk w' b 155 [.bool x.leaf, .slice ac x.cells.length cc, .slice ak x.kids.length ck]) hbw ?_
    refine py_run ?_
    refine ldY hbw rfl ?_
    refine py_run ?_
    refine ldBy (P := P) (fun w' hS => hS.cell 1) ?_
    refine py_run ?_
    have hcl := cnt_length (if x.leaf then 1 else 0)
    have hsl := (nil_own (dw w1) 5 1).sl
    constructor
    · refine flag_k (l := []) hsl (by simp) fun v3 w3 h3 => ?_
      refine hs_of (hbw.fr0 h3.fr) ?_
      refine ints1_g fun b4 w4 hb4 ho4 hf4 => ?_
      refine hs_of ((hbw.fr0 h3.fr).fr0 hf4) ?_
      refine counts_k (l := [] ++ cnt (if x.leaf then 1 else 0)) (ns := [(x.cells.length : Int)]) (h3.own.fr0 hf4) ho4.sl (by simp; omega) fun v5 w5 ho5 hf5 hn5 => ?_
      refine hs_of (((hbw.fr0 h3.fr).fr0 hf4).fr0 hf5) ?_
      have e1 : ([] ++ cnt (if x.leaf then 1 else 0)) ++ cnts [(x.cells.length : Int)] = x.head := by simp [Node.head, cnts]
      rw [e1] at ho5
      refine ⟨v5, rfl, ho5, (((Fr.dw w1).trans h3.fr (fun _ h => by cases h)).trans hf4 (fun _ h => by cases h)).trans hf5 (fun _ h => by cases h), fun b' hb' => ?_⟩
      rcases hn5 b' hb' with h6 | h6
      · exact h3.new b' h6
      · have := h3.fr.size; have := hf4.size; have : (dw w1).heap.size = w1.heap.size := rfl; omega
    · refine ints1_g fun b4 w4 hb4 ho4 hf4 => ?_
      refine hs_of (hbw.fr0 hf4) ?_
      refine flag_k (l := []) ((nil_own w4 5 1).sl) (by simp) fun v3 w3 h3 => ?_
      refine hs_of ((hbw.fr0 hf4).fr0 h3.fr) ?_
      refine counts_k (l := [] ++ cnt (if x.leaf then 1 else 0)) (ns := [(x.cells.length : Int)]) h3.own (ho4.fr0 h3.fr).sl (by simp; omega) fun v5 w5 ho5 hf5 hn5 => ?_
      refine hs_of (((hbw.fr0 hf4).fr0 h3.fr).fr0 hf5) ?_
      have e1 : ([] ++ cnt (if x.leaf then 1 else 0)) ++ cnts [(x.cells.length : Int)] = x.head := by simp [Node.head, cnts]
      rw [e1] at ho5
      refine ⟨v5, rfl, ho5, (((Fr.dw w1).trans hf4 (fun _ h => by cases h)).trans h3.fr (fun _ h => by cases h)).trans hf5 (fun _ h => by cases h), fun b' hb' => ?_⟩
      have s1 : (dw w1).heap.size = w1.heap.size := rfl
      have s2 := hf4.size
      have s3 := h3.fr.size
      rcases hn5 b' hb' with h6 | h6
      · have := h3.new b' h6; omega
      · omega
  · rintro vs w2 ⟨v, rfl, h2⟩
    simp only [g0_cons]
    have hb2 := hb.fr0 h2.fr
    refine px_run ?_
    refine ldB hb2 rfl ?_
    refine px_run ?_
    refine lp_of (fun vs w' => ∃ (i : Nat) (v' : Value), vs = [v', iv i] ∧ i ≤ x.cells.length ∧ NewB w1 w' v' (x.head ++ (x.cells.take i).flatMap (Cell.bytes x.leaf)))
      (fun vs _ => (match vs with | [_, .int _ m] => (x.cells.length - m).toNat | _ => 0)) ⟨0, v, rfl, Nat.zero_le _, by simpa using h2⟩ ?_
    rintro vs w3 ⟨i, v', rfl, hi, h3⟩
    simp only [g0_cons, g1_cons]
    have hb3 := hb.fr0 h3.fr
    refine px_run ?_
    refine cnd_dec (fun hlt => ?_) (fun hge => ?_)
    · have hi' : i < x.cells.length := by omega
      have hsm := h.small.strs _ (List.getElem_mem hi')
      refine idx_s (P := P) ((h.cells.fr0 hf).fr0 h3.fr) (by omega) i rfl hi' fun bb oo _ hcell => ?_
      refine ldCell (c := x.cells[i]) (fun r hr => by rw [hcell r hr, cencs_get hi' hr]) ?_
      refine alloc_k (P := P) (z := [.string ⟨#[]⟩, .string ⟨#[]⟩, .int .i64 0, .int .i64 0]) fun b4 w4 hb4' hb4 hf4 => ?_
      refine stA0_k hb4 (atoms_cenc _) rfl rfl fun w5 hb5 hf5 => ?_
      have hf35 : Fr no w3 w5 := hf4.new hf5 (fun i hi => by omega)
      have hbb5 := hb3.fr0 hf35
      refine px_run ?_
      refine ldB hb5 rfl ?_
      have hlen : (x.head ++ (x.cells.take i).flatMap (Cell.bytes x.leaf)).length ≤ 24000020 := by
        have h1 := head_length x
        have h2 := cellsBytes_length (leaf := x.leaf) (l := x.cells.take i) (fun c hc => h.small.strs c (List.mem_of_mem_take hc))
        rw [List.length_take] at h2
        rw [List.length_append]; omega
      generalize hpre : x.head ++ (x.cells.take i).flatMap (Cell.bytes x.leaf) = pre at hlen h3
      have hl1 := str_length (s := x.cells[i].key) (by omega)
      refine str_k (h3.sl.fr0 hf35) (by omega) fun v6 w6 h6 => ?_
      have hb6 := hbb5.fr0 h6.fr
      have hc6 := hb5.fr0 h6.fr
      refine px_run ?_
      refine ldB hb6 rfl ?_
      refine px_run ?_
      refine cut_of (fun vs w' => ∃ v7, vs = [v7] ∧ NewB w1 w' v7 (pre ++ x.cells[i].bytes x.leaf)) ?_ ?_
      · have h16 : NewB w1 w6 v6 (pre ++ str x.cells[i].key) := h6.then (h3.fr.trans hf35 (fun _ h => by cases h))
        cases hlf : x.leaf
        case false =>
          refine cnd_true ?_
          refine ⟨v6, rfl, ?_⟩
          have : x.cells[i].bytes false = str x.cells[i].key := by simp [Cell.bytes]
          rw [this]; exact h16
        refine cnd_false ?_
        refine px_run ?_
        refine ldB hc6 rfl ?_
        refine px_run ?_
        refine cut_of (fun vs w' => ∃ v7, vs = [v7] ∧ NewB w1 w' v7 (pre ++ x.cells[i].bytes true)) ?_ ?_
        · refine cnd_dec (fun hz => ?_) (fun hnz => ?_)
          · have e2 : x.cells[i].bytes true = str x.cells[i].key ++ (cnt 0 ++ str x.cells[i].val) := by simp only [Cell.bytes, if_true, if_pos hz]
            have hcd := hc6.fr0 (Fr.dw w6)
            refine dr_of ?_
            refine held_of (fun w' => Bk w' b4 159 (cenc x.cells[i])) hcd ?_
            refine py_run ?_
            refine ldBy (P := P) (fun w' hS => hS.cell 1) ?_
            refine ints1_g fun b7 w7 hb7 ho7 hf7 => ?_
            refine hs_of (hcd.fr0 hf7) ?_
            refine counts_k (l := pre ++ str x.cells[i].key) (ns := [0]) ((h6.own.fr0 (Fr.dw w6)).fr0 hf7) ho7.sl (by simp; omega) fun v8 w8 ho8 hf8 hn8 => ?_
            refine hs_of ((hcd.fr0 hf7).fr0 hf8) ?_
            have hl2 := cnts_length [0]
            refine str_k ho8.sl (by rw [List.length_append, List.length_append]; simp only [List.length_cons, List.length_nil] at hl2; omega) fun v9 w9 h9 => ?_
            refine hs_of (((hcd.fr0 hf7).fr0 hf8).fr0 h9.fr) ?_
            refine ⟨v9, rfl, ?_⟩
            have e3 : pre ++ str x.cells[i].key ++ cnts [0] ++ str x.cells[i].val = pre ++ x.cells[i].bytes true := by rw [e2]; simp [cnts]
            rw [e3] at h9
            exact h9.then (((h16.fr.trans (Fr.dw w6) (fun _ h => by cases h)).trans hf7 (fun _ h => by cases h)).trans hf8 (fun _ h => by cases h))
          · have e2 : x.cells[i].bytes true = str x.cells[i].key ++ (cnt x.cells[i].long ++ cnt x.cells[i].size) := by simp only [Cell.bytes, if_true, if_neg hnz]
            refine px_run ?_
            refine ldB hc6 rfl ?_
            refine px_run ?_
            refine ldB hc6 rfl ?_
            refine ints2_k fun b7 w7 hb7 ho7 hf7 => ?_
            refine counts_k (l := pre ++ str x.cells[i].key) (ns := [x.cells[i].long, x.cells[i].size]) (h6.own.fr0 hf7) ho7.sl (by simp; omega) fun v8 w8 ho8 hf8 hn8 => ?_
            refine ⟨v8, rfl, ?_⟩
            have e3 : pre ++ str x.cells[i].key ++ cnts [x.cells[i].long, x.cells[i].size] = pre ++ x.cells[i].bytes true := by rw [e2]; simp [cnts]
            rw [e3] at ho8
            refine ⟨ho8, (h16.fr.trans hf7 (fun _ h => by cases h)).trans hf8 (fun _ h => by cases h), fun b' hb' => ?_⟩
            have s1 := h16.fr.size
            have s2 := hf7.size
            rcases hn8 b' hb' with h9 | h9
            · exact h16.new b' h9
            · omega
        · rintro vs w7 ⟨v7, rfl, h7⟩
          simp only [g0_cons]
          exact ⟨v7, rfl, h7⟩
      · rintro vs w7 ⟨v7, rfl, h7⟩
        simp only [g0_cons]
        haveI : Fits .i64 ((i : Int) + 1) := fits_i64 (by omega) (by omega)
        refine px_run ?_
        refine ⟨⟨i + 1, v7, rfl, by omega, ?_⟩, ?_⟩
        · have : x.head ++ (x.cells.take (i + 1)).flatMap (Cell.bytes x.leaf) = pre ++ x.cells[i].bytes x.leaf := by
            rw [← hpre, List.take_succ_eq_append_getElem hi', List.flatMap_append, List.append_assoc]
            simp
          rw [this]; exact h7
        · show ((x.cells.length : Int) - ((i : Int) + 1)).toNat < ((x.cells.length : Int) - i).toNat
          omega
    · have hieq : i = x.cells.length := by omega
      subst hieq
      rw [List.take_length] at h3
      refine px_run ?_
      refine ldB hb3 rfl ?_
      cases hlf : x.leaf
      case true =>
        refine cnd_true ?_
        refine k v' w3 ?_
        have : x.bytes = x.head ++ x.cells.flatMap (Cell.bytes x.leaf) := by simp [Node.bytes, Node.head, hlf]
        rw [this]
        exact h3.then hf
      refine cnd_false ?_
      refine px_run ?_
      refine ldB hb3 rfl ?_
      have hlen : (x.head ++ x.cells.flatMap (Cell.bytes x.leaf)).length ≤ 24000020 := by
        have h1 := head_length x
        have h2 := cellsBytes_length (leaf := x.leaf) h.small.strs
        rw [List.length_append]; omega
      refine counts_k h3.own ((h.kids.fr0 hf).fr0 h3.fr) (by omega) fun v5 w5 ho5 hf5 hn5 => k v5 w5 ?_
      have : x.bytes = x.head ++ x.cells.flatMap (Cell.bytes x.leaf) ++ cnts x.kids := by simp [Node.bytes, Node.head, hlf]
      rw [this]
      refine ⟨ho5, (hf.trans h3.fr (fun _ h => by cases h)).trans hf5 (fun _ h => by cases h), fun b' hb' => ?_⟩
      have s1 := hf.size
      have s2 := h3.fr.size
      rcases hn5 b' hb' with h6 | h6
      · have := h3.new b' h6; omega
      · omega

def Node.sz (x : Node) : Nat := if x.check then x.bytes.length else 0
theorem size_k {w : World} {x : Node} {vc vk : Value} {K : Value → World → Prop} (h : NodeAt w vc vk x) (k : ∀ w1, Fr no w w1 → K (iv x.sz) w1) : cl P 158 #[nv x vc vk] w K := by
  apply c158
  unfold F158
  refine boxA_k fun b w1 _ hb hf => ?_
  refine ldA0 hb rfl ?_
  refine check_k (h.fr0 hf) fun w2 hf2 => ?_
  have hf12 := hf.trans hf2 (fun _ h => by cases h)
  refine px_run ?_
  cases hc : x.check
  · refine cnd_true ?_
    have := k w2 hf12
    rw [Node.sz, hc] at this
    exact this
  · refine cnd_false ?_
    refine ldA0 (hb.fr0 hf2) rfl ?_
    refine bytes_k (h.fr0 hf12) fun v w3 h3 => ?_
    obtain ⟨a, c, rfl⟩ := Own.atom h3.own
    refine px_run ?_
    have := k w3 (hf12.trans h3.fr (fun _ h => by cases h))
    rw [Node.sz, hc] at this
    exact this
theorem encode_k {w : World} {x : Node} {vc vk : Value} {K : Value → World → Prop} (h : NodeAt w vc vk x)
    (k1 : x.check = false → ∀ w1, Fr no w w1 → K (.tuple #[.slice none 0 0, iv 4]) w1) (k2 : x.check = true → 512 < x.bytes.length → ∀ w1, Fr no w w1 → K (.tuple #[.slice none 0 0, iv 40]) w1)
    (k3 : x.check = true → x.bytes.length ≤ 512 → ∀ v w1, NewB w w1 v x.bytes → K (.tuple #[v, iv 0]) w1) : cl P 213 #[nv x vc vk] w K := by
  apply c213
  unfold F213
  refine boxA_k fun b w1 _ hb hf => ?_
  refine ldA0 hb rfl ?_
  refine check_k (h.fr0 hf) fun w2 hf2 => ?_
  have hf12 := hf.trans hf2 (fun _ h => by cases h)
  refine px_run ?_
  cases hc : x.check
  · refine cnd_true ?_
    exact k1 hc w2 hf12
  · refine cnd_false ?_
    refine ldA0 (hb.fr0 hf2) rfl ?_
    refine bytes_k (h.fr0 hf12) fun v w3 h3 => ?_
    obtain ⟨a, c, rfl⟩ := Own.atom h3.own
    have h3' := h3.then hf12
    refine px_run ?_
    refine px_run ?_
    refine cnd_dec (fun hgt => ?_) (fun hle => ?_)
    · exact k2 hc (by omega) w3 h3'.fr
    · exact k3 hc (by omega) _ w3 h3'

/-! ### at -/
def Node.at (x : Node) (i : Nat) : Node × Str × Node :=
  if x.leaf then (⟨true, x.cells.take i, []⟩, (x.cells.getD i ⟨[], [], 0, 0⟩).key, ⟨true, x.cells.drop i, []⟩) else
  (⟨false, x.cells.take i, x.kids.take (min (i + 1) x.kids.length)⟩, (x.cells.getD i ⟨[], [], 0, 0⟩).key, ⟨false, x.cells.drop (i + 1), x.kids.drop (min (i + 1) x.kids.length)⟩)
theorem small_part {x : Node} (h : x.Small) {y : Node} (hc : y.cells.length ≤ x.cells.length) (hs : ∀ c ∈ y.cells, c ∈ x.cells) (hk : y.kids.length ≤ x.kids.length) : y.Small :=
  ⟨Nat.le_trans hc h.cells, Nat.le_trans hk h.kids, fun c hc => h.strs c (hs c hc)⟩
theorem cells_take {w : World} {v : Value} {l : List Cell} {i : Nat} (hi : i ≤ l.length) (h : Sl w v 4 i ((l.flatMap cenc).take (i * 4))) : Sl w v 4 (l.take i).length ((l.take i).flatMap cenc) := by
  rw [cencs_take] at h
  rwa [List.length_take, Nat.min_eq_left hi]
theorem cells_drop {w : World} {v : Value} {l : List Cell} {i : Nat} (h : Sl w v 4 (l.length - i) ((l.flatMap cenc).drop (i * 4))) : Sl w v 4 (l.drop i).length ((l.drop i).flatMap cenc) := by
  rw [cencs_drop] at h
  rwa [List.length_drop]
theorem kids_take {w : World} {v : Value} {l : List Int} {i : Nat} (hi : i ≤ l.length) (h : Sl w v 1 i ((l.flatMap kenc).take (i * 1))) : Sl w v 1 (l.take i).length ((l.take i).flatMap kenc) := by
  rw [kencs_take] at h
  rwa [List.length_take, Nat.min_eq_left hi]
theorem kids_drop {w : World} {v : Value} {l : List Int} {i : Nat} (h : Sl w v 1 (l.length - i) ((l.flatMap kenc).drop (i * 1))) : Sl w v 1 (l.drop i).length ((l.drop i).flatMap kenc) := by
  rw [kencs_drop] at h
  rwa [List.length_drop]
theorem NodeN.then {w w1 w2 : World} {vc vk : Value} {x : Node} (f : Fr no w w1) (h : NodeN w1 w2 vc vk x) : NodeN w w2 vc vk x :=
  ⟨h.cells, h.kids, f.trans h.fr (by intro i hi; cases hi), fun b hb => by have := h.newc b hb; have := f.size; omega, fun b hb => by have := h.newk b hb; have := f.size; omega⟩
/-- two nodes in new memory -/
theorem at_k {w : World} {x : Node} {vc vk : Value} {i : Nat} {K : Value → World → Prop} (h : NodeAt w vc vk x) (hi : i < x.cells.length)
    (k : ∀ vc1 vk1 vc2 vk2 w1, NodeN w w1 vc1 vk1 (x.at i).1 → NodeN w w1 vc2 vk2 (x.at i).2.2 → K (.tuple #[nv (x.at i).1 vc1 vk1, sv (x.at i).2.1, nv (x.at i).2.2 vc2 vk2]) w1) : cl P 222 #[nv x vc vk, iv i] w K := by
  obtain ⟨bb, oo, cap, rfl, hcap, hcell⟩ := h.cells.addr (by omega) (by omega)
  obtain ⟨_, ak, ck, rfl, hck, _⟩ := id h.kids
  have hsm := h.small
  apply c222
  unfold F222
  refine boxA_k fun b w1 _ hb hf => ?_
  refine alloc_k (P := P) (z := [.bool false, .slice none 0 0, .slice none 0 0]) fun b4 w2 hb4e hb4 hf2 => ?_
  refine alloc_k (P := P) (z := [.bool false, .slice none 0 0, .slice none 0 0]) fun b6 w3 hb6e hb6 hf3 => ?_
  have hbw := (hb.fr0 hf2).fr0 hf3
  have hb4w := hb4.fr0 hf3
  have s1 := hf.size
  have s2 := hf2.size
  have s3 := hf3.size
  have hlb := hb.lt
  have hlb4 := hb4.lt
  have hf13 : Fr no w w3 := (hf.trans hf2 (fun _ h => by cases h)).trans hf3 (fun _ h => by cases h)
  have hfd := hf13.trans (Fr.dw w3) (fun _ h => by cases h)
  have hbd := hbw.fr0 (Fr.dw w3)
  have hg : x.cells.getD i ⟨[], [], 0, 0⟩ = x.cells[i] := by simp [List.getD, hi]
  have hkey : (dw w3).cell? ⟨bb, oo + i * 4, none⟩ = some (sv x.cells[i].key) := by
    have hcp := hcell (i * 4 + 0) (by omega)
    rw [cencs_get hi (by omega), Nat.add_zero] at hcp
    exact cell_ext hcp hfd.ext
  have hbb : bb < w.heap.size := by
    have hcp := hcell (i * 4 + 0) (by omega)
    rw [cencs_get hi (by omega)] at hcp
    exact block_lt_of_cell hcp
  -- the last part: the two results are laid down
  have fin : ∀ (y1 y2 : Node) (vc1 vk1 vc2 vk2 : Value) (w5 : World), NodeN (dw w3) w5 vc1 vk1 y1 → NodeN (dw w3) w5 vc2 vk2 y2 → (x.at i).1 = y1 → (x.at i).2.2 = y2 → (x.at i).2.1 = x.cells[i].key → ∀ S : World → Prop, (∀ w', Fr (fun i => i = b4 ∨ i = b6) w5 w' → S w') →
      pu P (Instr.storeAt 155 (pt b4) (nv y1 vc1 vk1)) w5 fun w => hs S w <|
      pu P (Instr.storeAt 155 (pt b6) (nv y2 vc2 vk2)) w fun w => hs S w <|
      pla P 155 (pt b4) w fun v4_1 =>
      pla P 155 (pt b6) w fun v6_1 =>
      K (.tuple #[v4_1, sv x.cells[i].key, v6_1]) w := fun y1 y2 vc1 vk1 vc2 vk2 w5 hn1 hn2 e1 e2 e3 S hS => by
    subst e1 e2
    have hb45 := (hb4w.fr0 (Fr.dw w3)).fr0 hn1.fr
    have hb65 := (hb6.fr0 (Fr.dw w3)).fr0 hn1.fr
    obtain ⟨ac1, cc1, rfl⟩ := Own.atom hn1.cells
    obtain ⟨ak1, ck1, rfl⟩ := Own.atom hn1.kids
    obtain ⟨ac2, cc2, rfl⟩ := Own.atom hn2.cells
    obtain ⟨ak2, ck2, rfl⟩ := Own.atom hn2.kids
    refine stA0_k hb45 (atoms_node _ _ _ _ _ _ _) rfl rfl fun w6 hb46 hf6 => ?_
    refine hs_of (hS w6 (hf6.mono fun _ h => .inl h)) ?_
    have hb66 := hb65.frb hf6 (by omega)
    refine stA0_k hb66 (atoms_node _ _ _ _ _ _ _) rfl rfl fun w7 hb67 hf7 => ?_
    refine hs_of (hS w7 ((hf6.two' hf7))) ?_
    refine plA0 (hb46.frb hf7 (by omega)) rfl ?_
    refine plA0 hb67 rfl ?_
    have hfw5 := hfd.trans hn1.fr (fun _ h => by cases h)
    have hfw7 : Fr no w w7 := (hfw5.new hf6 (fun i hi => by omega)).new hf7 (fun i hi => by omega)
    have s4 : (dw w3).heap.size = w3.heap.size := rfl
    have kk := k _ _ _ _ w7 ⟨(hn1.cells.frb hf6 hb45 (by decide)).frb hf7 hb66 (by decide), (hn1.kids.frb hf6 hb45 (by decide)).frb hf7 hb66 (by decide), hfw7, fun b hb => by have := hn1.newc b hb; omega, fun b hb => by have := hn1.newk b hb; omega⟩
      ⟨(hn2.cells.frb hf6 hb45 (by decide)).frb hf7 hb66 (by decide), (hn2.kids.frb hf6 hb45 (by decide)).frb hf7 hb66 (by decide), hfw7, fun b hb => by have := hn2.newc b hb; omega, fun b hb => by have := hn2.newk b hb; omega⟩
    rw [e3] at kk
    exact kk
  refine px_run ?_
  refine ldB hbw rfl ?_
  cases hlf : x.leaf
  case true =>
    have e1 : (x.at i).1 = ⟨true, x.cells.take i, []⟩ := by simp [Node.at, hlf]
    have e2 : (x.at i).2.2 = ⟨true, x.cells.drop i, []⟩ := by simp [Node.at, hlf]
    have e3 : (x.at i).2.1 = x.cells[i].key := by simp [Node.at, hlf, hi]
    refine cnd_true ?_
    refine dr_of ?_
    refine held_of (fun w' => Bk w' b 155 [.bool x.leaf, .slice (some ⟨bb, oo, none⟩) x.cells.length cap, .slice ak x.kids.length ck] ∧ w'.cell? ⟨bb, oo + i * 4, none⟩ = some (sv x.cells[i].key)) ⟨hbd, hkey⟩ ?_
    have hcs := h.cells.fr0 hfd
    refine py_run ?_
    refine ldY hbd rfl ?_
    refine slcY_h (P := P) i rfl hcs (by omega) fun v13 h13 _ => ?_
    have h13' := cells_take (by omega) h13
    obtain ⟨_, a13, c13, rfl, _⟩ := id h13
    refine py_of (fun w' _ => build155_lc) ?_
    refine py_run ?_
    refine ldBy (P := P) (fun w' hS => hS.1.cell 1) ?_
    refine idxY (P := P) i rfl hi ?_
    refine py_run ?_
    refine ldBy (P := P) (fun w' hS => hS.2) ?_
    refine py_run ?_
    refine ldBy (P := P) (fun w' hS => hS.1.cell 1) ?_
    refine slcY_l (P := P) i rfl hcs (by omega) fun v25 h25 _ => ?_
    have h25' := cells_drop h25
    obtain ⟨_, a25, c25, rfl, _⟩ := id h25
    refine py_of (fun w' _ => build155_lc) ?_
    have hkn : ∀ w', Sl w' (.slice none 0 0) 1 0 ([].flatMap kenc) := fun w' => (nil_own w' 3 1).sl
    have sm1 : Node.Small ⟨true, x.cells.take i, []⟩ := small_part hsm (by simp; omega) (fun c hc => List.mem_of_mem_take hc) (by simp)
    have sm2 : Node.Small ⟨true, x.cells.drop i, []⟩ := small_part hsm (by simp) (fun c hc => List.mem_of_mem_drop hc) (by simp)
    refine twin_k (x := ⟨true, x.cells.take i, []⟩) ⟨h13', hkn _, sm1⟩ fun vc1 vk1 w4 hn1 => ?_
    refine hs_of ⟨hbd.fr0 hn1.fr, cell_ext hkey hn1.fr.ext⟩ ?_
    refine twin_k (x := ⟨true, x.cells.drop i, []⟩) (NodeAt.fr0 ⟨h25', hkn _, sm2⟩ hn1.fr) fun vc2 vk2 w5 hn2 => ?_
    have hfr45 := hn1.fr.trans hn2.fr (fun _ h => by cases h)
    refine hs_of ⟨hbd.fr0 hfr45, cell_ext hkey hfr45.ext⟩ ?_
    have hn1' : NodeN (dw w3) w5 vc1 vk1 ⟨true, x.cells.take i, []⟩ := ⟨hn1.cells.fr0 hn2.fr, hn1.kids.fr0 hn2.fr, hfr45, hn1.newc, hn1.newk⟩
    refine fin _ _ _ _ _ _ w5 hn1' (hn2.then hn1.fr) e1 e2 e3 _ fun w' hf' => ⟨(hbd.fr0 hfr45).fr hf' (by omega), ?_⟩
    exact cell_fr (cell_ext hkey hfr45.ext) hf' (fun e => by
      have e' : bb = b4 ∨ bb = b6 := e
      omega)
  refine cnd_false ?_
  haveI : Fits .i64 ((i : Int) + 1) := fits_i64 (by omega) (by have := hsm.cells; omega)
  refine px_run ?_
  refine px_run ?_
  refine ldB hbw rfl ?_
  refine px_run ?_
  refine px_run ?_
  have hmin : (if (x.kids.length : Int) < (i : Int) + 1 then (x.kids.length : Int) else (i : Int) + 1) = ((min (i + 1) x.kids.length : Nat) : Int) := by
    split <;> omega
  rw [hmin]
  generalize hkk : min (i + 1) x.kids.length = m
  have hm : m ≤ x.kids.length := by omega
  have e1 : (x.at i).1 = ⟨false, x.cells.take i, x.kids.take m⟩ := by simp [Node.at, hlf, hkk]
  have e2 : (x.at i).2.2 = ⟨false, x.cells.drop (i + 1), x.kids.drop m⟩ := by simp [Node.at, hlf, hkk]
  have e3 : (x.at i).2.1 = x.cells[i].key := by simp [Node.at, hlf, hi]
  refine dr_of ?_
  refine held_of (fun w' => Bk w' b 155 [.bool x.leaf, .slice (some ⟨bb, oo, none⟩) x.cells.length cap, .slice ak x.kids.length ck] ∧ w'.cell? ⟨bb, oo + i * 4, none⟩ = some (sv x.cells[i].key)) ⟨hbd, hkey⟩ ?_
  have hcs := h.cells.fr0 hfd
  have hks := h.kids.fr0 hfd
  refine py_run ?_
  refine ldY hbd rfl ?_
  refine slcY_h (P := P) i rfl hcs (by omega) fun v13 h13 _ => ?_
  have h13' := cells_take (by omega) h13
  obtain ⟨_, a13, c13, rfl, _⟩ := id h13
  refine py_run ?_
  refine ldY hbd rfl ?_
  refine slcY_h (P := P) m rfl hks hm fun v41 h41 _ => ?_
  have h41' := kids_take hm h41
  obtain ⟨_, a41, c41, rfl, _⟩ := id h41
  refine py_of (fun w' _ => build155_ck) ?_
  refine py_run ?_
  refine ldBy (P := P) (fun w' hS => hS.1.cell 1) ?_
  refine idxY (P := P) i rfl hi ?_
  refine py_run ?_
  refine ldBy (P := P) (fun w' hS => hS.2) ?_
  refine py_run ?_
  refine ldBy (P := P) (fun w' hS => hS.1.cell 1) ?_
  refine py_run ?_
  refine slcY_l (P := P) (i + 1) (by omega) hcs (by omega) fun v25 h25 _ => ?_
  have h25' := cells_drop h25
  obtain ⟨_, a25, c25, rfl, _⟩ := id h25
  refine py_run ?_
  refine ldBy (P := P) (fun w' hS => hS.1.cell 2) ?_
  refine slcY_l (P := P) m rfl hks hm fun v58 h58 _ => ?_
  have h58' := kids_drop h58
  obtain ⟨_, a58, c58, rfl, _⟩ := id h58
  refine py_of (fun w' _ => build155_ck) ?_
  have sm1 : Node.Small ⟨false, x.cells.take i, x.kids.take m⟩ := small_part hsm (by simp; omega) (fun c hc => List.mem_of_mem_take hc) (by simp; omega)
  have sm2 : Node.Small ⟨false, x.cells.drop (i + 1), x.kids.drop m⟩ := small_part hsm (by simp) (fun c hc => List.mem_of_mem_drop hc) (by simp)
  refine twin_k (x := ⟨false, x.cells.take i, x.kids.take m⟩) ⟨h13', h41', sm1⟩ fun vc1 vk1 w4 hn1 => ?_
  refine hs_of ⟨hbd.fr0 hn1.fr, cell_ext hkey hn1.fr.ext⟩ ?_
  refine twin_k (x := ⟨false, x.cells.drop (i + 1), x.kids.drop m⟩) (NodeAt.fr0 ⟨h25', h58', sm2⟩ hn1.fr) fun vc2 vk2 w5 hn2 => ?_
  have hfr45 := hn1.fr.trans hn2.fr (fun _ h => by cases h)
  refine hs_of ⟨hbd.fr0 hfr45, cell_ext hkey hfr45.ext⟩ ?_
  have hn1' : NodeN (dw w3) w5 vc1 vk1 ⟨false, x.cells.take i, x.kids.take m⟩ := ⟨hn1.cells.fr0 hn2.fr, hn1.kids.fr0 hn2.fr, hfr45, hn1.newc, hn1.newk⟩
  refine fin _ _ _ _ _ _ w5 hn1' (hn2.then hn1.fr) e1 e2 e3 _ fun w' hf' => ⟨(hbd.fr0 hfr45).fr hf' (by omega), ?_⟩
  exact cell_fr (cell_ext hkey hfr45.ext) hf' (fun e => by
    have e' : bb = b4 ∨ bb = b6 := e
    omega)

/-! ### Cut -/
theorem at_small {x : Node} (h : x.Small) (i : Nat) : (x.at i).1.Small ∧ (x.at i).2.2.Small := by
  unfold Node.at
  split
  · exact ⟨small_part h (by simp; omega) (fun c hc => List.mem_of_mem_take hc) (by simp), small_part h (by simp) (fun c hc => List.mem_of_mem_drop hc) (by simp)⟩
  · exact ⟨small_part h (by simp; omega) (fun c hc => List.mem_of_mem_take hc) (by simp; omega), small_part h (by simp) (fun c hc => List.mem_of_mem_drop hc) (by simp)⟩
theorem NodeN.at {w w1 : World} {vc vk : Value} {x : Node} (h : NodeN w w1 vc vk x) (hs : x.Small) : NodeAt w1 vc vk x := ⟨h.cells.sl, h.kids.sl, hs⟩
def Node.unlike (x : Node) (i : Nat) : Int :=
  let d : Int := ((x.at i).1.bytes.length : Int) - ((x.at i).2.2.bytes.length : Int)
  if -d > d then -d else d
theorem unlike_k {w : World} {x : Node} {vc vk : Value} {b i : Nat} {K : Value → World → Prop} (h : NodeAt w vc vk x) (hb : Bk w b 155 [.bool x.leaf, vc, vk]) (hi : i < x.cells.length)
    (k : ∀ w1, Fr no w w1 → K (iv (x.unlike i)) w1) : cl P 221 #[iv i, pt b] w K := by
  apply c221
  unfold F221
  refine ldA0 hb rfl ?_
  have hsm := at_small h.small i
  have hl1 := Node.bytes_length hsm.1
  have hl2 := Node.bytes_length hsm.2
  refine at_k h hi fun vc1 vk1 vc2 vk2 w1 hn1 hn2 => ?_
  refine px_run ?_
  refine px_run ?_
  refine px_run ?_
  unfold Node.unlike at k
  generalize (x.at i).1 = y1 at hn1 hsm hl1 k
  generalize (x.at i).2.2 = y2 at hn2 hsm hl2 k
  simp only at k
  obtain ⟨ac1, cc1, rfl⟩ := Own.atom hn1.cells
  obtain ⟨ak1, ck1, rfl⟩ := Own.atom hn1.kids
  obtain ⟨ac2, cc2, rfl⟩ := Own.atom hn2.cells
  obtain ⟨ak2, ck2, rfl⟩ := Own.atom hn2.kids
  refine alloc_k (P := P) (z := [.bool false, .slice none 0 0, .slice none 0 0]) fun b4 w2 hb4e hb4 hf2 => ?_
  refine alloc_k (P := P) (z := [.bool false, .slice none 0 0, .slice none 0 0]) fun b6 w3 hb6e hb6 hf3 => ?_
  have hl4 := hb4.lt
  have s1 := hn1.fr.size
  have s2 := hf2.size
  refine stA0_k (hb4.fr0 hf3) (atoms_node _ _ _ _ _ _ _) rfl rfl fun w4 hb44 hf4 => ?_
  refine stA0_k (hb6.frb hf4 (by omega)) (atoms_node _ _ _ _ _ _ _) rfl rfl fun w5 hb65 hf5 => ?_
  have hb45 := hb44.frb hf5 (by omega)
  have hf15 : Fr no w1 w5 := ((hf2.trans hf3 (fun _ h => by cases h)).new hf4 (fun i hi => by omega)).new hf5 (fun i hi => by omega)
  have hf1d := hf15.trans (Fr.dw w5) (fun _ h => by cases h)
  have hb6d := hb65.fr0 (Fr.dw w5)
  refine dr_of ?_
  refine held_of (fun w' => Bk w' b6 155 [.bool y2.leaf, .slice ac2 y2.cells.length cc2, .slice ak2 y2.kids.length ck2]) hb6d ?_
  refine ldAY0 (hb45.fr0 (Fr.dw w5)) rfl ?_
  refine py_of (fun w' hS => lda_run (P := P) (o := 0) (xs := [.bool y2.leaf, .slice ac2 y2.cells.length cc2, .slice ak2 y2.kids.length ck2]) hS (fun j _ => by rw [Nat.zero_add]) rfl) ?_
  refine bytes_k ((hn1.at hsm.1).fr0 hf1d) fun v16 w6 h6 => ?_
  refine hs_of (hb6d.fr0 h6.fr) ?_
  obtain ⟨a6, c6, rfl⟩ := Own.atom h6.own
  refine py_run ?_
  refine bytes_k (((hn2.at hsm.2).fr0 hf1d).fr0 h6.fr) fun v19 w7 h7 => ?_
  refine hs_of ((hb6d.fr0 h6.fr).fr0 h7.fr) ?_
  obtain ⟨a7, c7, rfl⟩ := Own.atom h7.own
  refine py_run ?_
  haveI : Fits .i64 ((y1.bytes.length : Int) - (y2.bytes.length : Int)) := fits_i64 (by omega) (by omega)
  refine py_run ?_
  refine px_of neg_run ?_
  rw [wrap_i64 (by omega) (by omega)]
  refine px_run ?_
  have hz : (0 - ((y1.bytes.length : Int) - (y2.bytes.length : Int))) = -((y1.bytes.length : Int) - (y2.bytes.length : Int)) := by omega
  rw [hz]
  exact k w7 (((hn1.fr.trans hf1d (fun _ h => by cases h)).trans h6.fr (fun _ h => by cases h)).trans h7.fr (fun _ h => by cases h))
/-- The best place, from i on. -/
def Node.bestFrom (x : Node) : Nat → Nat → Nat → Nat
  | 0, _, best => best
  | f + 1, i, best => if i < x.cells.length then x.bestFrom f (i + 1) (if x.unlike i < x.unlike best then i else best) else best
def Node.cut (x : Node) : Node × Str × Node :=
  let first := if x.leaf then 1 else 0
  if x.cells.length ≤ first then (x, [], ⟨false, [], []⟩) else
  x.at (x.bestFrom (x.cells.length - first) (first + 1) first)
theorem bestFrom_lt {x : Node} : ∀ (f i best : Nat), best < x.cells.length → x.bestFrom f i best < x.cells.length
  | 0, _, best, h => h
  | f + 1, i, best, h => by
    unfold Node.bestFrom
    split
    · exact bestFrom_lt f (i + 1) _ (by split <;> assumption)
    · exact h

theorem cut_k {w : World} {x : Node} {vc vk : Value} {K : Value → World → Prop} (h : NodeAt w vc vk x)
    (k : ∀ vc1 vk1 vc2 vk2 w1, NodeN w w1 vc1 vk1 x.cut.1 → NodeN w w1 vc2 vk2 x.cut.2.2 → K (.tuple #[nv x.cut.1 vc1 vk1, sv x.cut.2.1, nv x.cut.2.2 vc2 vk2]) w1) : cl P 162 #[nv x vc vk] w K := by
  obtain ⟨_, ac, cc, rfl, _⟩ := id h.cells
  obtain ⟨_, ak, ck, rfl, _⟩ := id h.kids
  have hsc := h.small.cells
  apply c162
  unfold F162
  refine boxA_k fun b w1 _ hb hf => ?_
  refine alloc_k (P := P) (z := [.bool false, .slice none 0 0, .slice none 0 0]) fun b2 w2 hb2e hb2 hf2 => ?_
  refine alloc_k (P := P) (z := [.bool false, .slice none 0 0, .slice none 0 0]) fun b4 w3 hb4e hb4 hf3 => ?_
  have hlb := hb.lt
  have hl2 := hb2.lt
  have s1 := hf.size
  have hb3 := (hb.fr0 hf2).fr0 hf3
  have hf13 : Fr no w w3 := (hf.trans hf2 (fun _ h => by cases h)).trans hf3 (fun _ h => by cases h)
  have s3 := hf13.size
  -- the last part: the two results are laid down
  have fin : ∀ (y1 y2 : Node) (sep : Str) (vc1 vk1 vc2 vk2 : Value) (w5 : World), Fr no w3 w5 → NodeN w3 w5 vc1 vk1 y1 → NodeN w3 w5 vc2 vk2 y2 → x.cut = (y1, sep, y2) →
      pu P (Instr.storeAt 155 (pt b2) (nv y1 vc1 vk1)) w5 fun w =>
      pu P (Instr.storeAt 155 (pt b4) (nv y2 vc2 vk2)) w fun w =>
      pla P 155 (pt b2) w fun v4_1 =>
      pla P 155 (pt b4) w fun v6_1 =>
      K (.tuple #[v4_1, sv sep, v6_1]) w := fun y1 y2 sep vc1 vk1 vc2 vk2 w5 hf35 hn1 hn2 e1 => by
    have hb25 := (hb2.fr0 hf3).fr0 hf35
    have hb45 := hb4.fr0 hf35
    rw [e1] at k
    simp only at k
    obtain ⟨ac1, cc1, rfl⟩ := Own.atom hn1.cells
    obtain ⟨ak1, ck1, rfl⟩ := Own.atom hn1.kids
    obtain ⟨ac2, cc2, rfl⟩ := Own.atom hn2.cells
    obtain ⟨ak2, ck2, rfl⟩ := Own.atom hn2.kids
    refine stA0_k hb25 (atoms_node _ _ _ _ _ _ _) rfl rfl fun w6 hb26 hf6 => ?_
    have hb46 := hb45.frb hf6 (by omega)
    refine stA0_k hb46 (atoms_node _ _ _ _ _ _ _) rfl rfl fun w7 hb47 hf7 => ?_
    refine plA0 (hb26.frb hf7 (by omega)) rfl ?_
    refine plA0 hb47 rfl ?_
    have hfw7 : Fr no w w7 := ((hf13.trans hf35 (fun _ h => by cases h)).new hf6 (fun i hi => by omega)).new hf7 (fun i hi => by omega)
    exact k _ _ _ _ w7 ⟨(hn1.cells.frb hf6 hb25 (by decide)).frb hf7 hb46 (by decide), (hn1.kids.frb hf6 hb25 (by decide)).frb hf7 hb46 (by decide), hfw7, fun b hb => by have := hn1.newc b hb; omega, fun b hb => by have := hn1.newk b hb; omega⟩
      ⟨(hn2.cells.frb hf6 hb25 (by decide)).frb hf7 hb46 (by decide), (hn2.kids.frb hf6 hb25 (by decide)).frb hf7 hb46 (by decide), hfw7, fun b hb => by have := hn2.newc b hb; omega, fun b hb => by have := hn2.newk b hb; omega⟩
  refine px_run ?_
  refine ldB hb3 rfl ?_
  refine cut_of (fun vs w' => vs = [iv (if x.leaf then 1 else 0 : Nat)] ∧ w' = w3) (cnd_of (fun h => ⟨by simp [h], rfl⟩) (fun h => ⟨by simp [h], rfl⟩)) ?_
  rintro vs w' ⟨rfl, rfl⟩
  simp only [g0_cons]
  have hfirst : (if x.leaf then 1 else 0 : Nat) ≤ 1 := by split <;> omega
  have hcut : x.cut = if x.cells.length ≤ (if x.leaf then 1 else 0) then (x, [], ⟨false, [], []⟩) else x.at (x.bestFrom (x.cells.length - (if x.leaf then 1 else 0)) ((if x.leaf then 1 else 0) + 1) (if x.leaf then 1 else 0)) := rfl
  generalize (if x.leaf then 1 else 0 : Nat) = first at hfirst hcut ⊢
  have h3 := h.fr0 hf13
  refine px_run ?_
  refine ldB hb3 rfl ?_
  refine px_run ?_
  refine px_run ?_
  refine cnd_dec (fun hle => ?_) (fun hgt => ?_)
  · rw [if_pos (by omega)] at hcut
    refine ldA0 hb3 rfl ?_
    refine twin_k h3 fun vc1 vk1 w4 hn => ?_
    refine px_of build155_0 ?_
    exact fin x ⟨false, [], []⟩ [] vc1 vk1 (.slice none 0 0) (.slice none 0 0) w4 hn.fr hn ⟨nil_own _ _ _, nil_own _ _ _, hn.fr, fun b hb => (by cases hb), fun b hb => (by cases hb)⟩ hcut
  · rw [if_neg (by omega)] at hcut
    refine px_run ?_
    haveI : Fits .i64 ((first : Int) + 1) := fits_i64 (by omega) (by omega)
    refine px_run ?_
    refine lp_of (fun vs w4 => ∃ (f i best : Nat), vs = [iv best, iv i] ∧ best < x.cells.length ∧ x.cells.length ≤ f + i ∧ i ≤ x.cells.length ∧ Fr no w' w4 ∧ x.bestFrom f i best = x.bestFrom (x.cells.length - first) (first + 1) first)
      (fun vs _ => (match vs with | [_, .int _ m] => (x.cells.length - m).toNat | _ => 0)) ⟨x.cells.length - first, first + 1, first, rfl, by omega, by omega, by omega, Fr.refl _ _, rfl⟩ ?_
    rintro vs w4 ⟨f, i, best, rfl, hbest, hfi, hil, hf4, hbf⟩
    simp only [g0_cons, g1_cons]
    have hb44 := hb3.fr0 hf4
    refine px_run ?_
    refine ldB hb44 rfl ?_
    refine px_run ?_
    refine px_run ?_
    refine cnd_dec (fun hlt => ?_) (fun hge => ?_)
    · obtain ⟨f, rfl⟩ : ∃ g, f = g + 1 := ⟨f - 1, by omega⟩
      refine cv_k ?_
      refine unlike_k (i := i) (h3.fr0 hf4) hb44 (by omega) fun w5 hf5 => ?_
      have hf45 := hf4.trans hf5 (fun _ h => by cases h)
      refine cv_k ?_
      refine unlike_k (i := best) (h3.fr0 hf45) (hb3.fr0 hf45) hbest fun w6 hf6 => ?_
      have hf46 := hf45.trans hf6 (fun _ h => by cases h)
      refine px_run ?_
      refine cut_of (fun vs w' => vs = [iv (if x.unlike i < x.unlike best then i else best : Nat)] ∧ w' = w6) (cnd_dec (fun h => ⟨by simp [h], rfl⟩) (fun h => ⟨by simp [h], rfl⟩)) ?_
      rintro vs w7 ⟨rfl, rfl⟩
      simp only [g0_cons]
      haveI : Fits .i64 ((i : Int) + 1) := fits_i64 (by omega) (by omega)
      refine px_run ?_
      refine ⟨⟨f, i + 1, if x.unlike i < x.unlike best then i else best, rfl, by split <;> omega, by omega, by omega, hf46, ?_⟩, ?_⟩
      · have hs : x.bestFrom (f + 1) i best = if i < x.cells.length then x.bestFrom f (i + 1) (if x.unlike i < x.unlike best then i else best) else best := rfl
        rw [if_pos (show i < x.cells.length by omega)] at hs
        exact hs.symm.trans hbf
      · show ((x.cells.length : Int) - ((i : Int) + 1)).toNat < ((x.cells.length : Int) - i).toNat
        omega
    · have hbe : x.bestFrom f i best = best := by
        cases f with
        | zero => rfl
        | succ f => unfold Node.bestFrom; rw [if_neg (by omega)]
      rw [← hbf, hbe] at hcut
      refine ldA0 hb44 rfl ?_
      refine at_k (h3.fr0 hf4) hbest fun vc1 vk1 vc2 vk2 w5 hn1 hn2 => ?_
      refine px_run ?_
      refine px_run ?_
      refine px_run ?_
      exact fin _ _ _ vc1 vk1 vc2 vk2 w5 (hf4.trans hn1.fr (fun _ h => by cases h)) (hn1.then hf4) (hn2.then hf4) hcut

end Go.Proofs.YtomggfibpbaodaaGreatDoor
