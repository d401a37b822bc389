/-
  Package node, second part: joining two nodes, reading one.
-/
import Derived.Test.YtomggfibpbaodaaGreatDoorN
set_option maxRecDepth 100000
namespace Go.Proofs.YtomggfibpbaodaaGreatDoor
open Go.V

/-! ### Join, Decode: what they compute -/
def sepC (k : Str) : Cell := ⟨k, [], 0, 0⟩
def Node.join (a : Node) (sep : Str) (b : Node) : Node :=
  if a.leaf then ⟨true, a.cells ++ b.cells, []⟩ else ⟨false, a.cells ++ sepC sep :: b.cells, a.kids ++ b.kids⟩
def cellOf (r : Rd) (leaf : Bool) : Cell × Rd :=
  if leaf = false then (⟨(r.str 48).1, [], 0, 0⟩, (r.str 48).2) else
  if ((r.str 48).2.count 2147483647).1 = 0 then (⟨(r.str 48).1, (((r.str 48).2.count 2147483647).2.str 64).1, 0, 0⟩, (((r.str 48).2.count 2147483647).2.str 64).2)
  else (⟨(r.str 48).1, [], ((r.str 48).2.count 2147483647).1, (((r.str 48).2.count 2147483647).2.count 2147483647).1⟩, (((r.str 48).2.count 2147483647).2.count 2147483647).2)
def cellsOf (leaf : Bool) : Nat → Rd → List Cell → List Cell × Rd
  | 0, r, l => (l, r)
  | f + 1, r, l => if r.bad then (l, r) else cellsOf leaf f (cellOf r leaf).2 (l ++ [(cellOf r leaf).1])
def kidsOf : Nat → Rd → List Int → List Int × Rd
  | 0, r, l => (l, r)
  | f + 1, r, l => if r.bad then (l, r) else kidsOf f (r.count 2147483647).2 (l ++ [(r.count 2147483647).1])
def Node.decode (b : List UInt8) : Option Node :=
  if 512 < b.length then none else
  let x := (⟨b, false⟩ : Rd).flag
  let c := x.2.count 512
  let cs := cellsOf x.1 c.1.toNat c.2 []
  let ks := if x.1 then (([] : List Int), cs.2) else kidsOf (cs.1.length + 1) cs.2 []
  if ks.2.bad || !(Node.check ⟨x.1, cs.1, ks.1⟩) || (b.drop (b.length - ks.2.left)).any (fun c => c != 0) then none else some ⟨x.1, cs.1, ks.1⟩

/-! ### cell -/
theorem zero159 : ([sv [], sv [], iv 0, iv 0] : List Value) = cenc ⟨[], [], 0, 0⟩ := rfl
theorem cellOf_k {w : World} {r q : Nat} {R : Rd} {leaf : Bool} {K : Value → World → Prop} (h : RdAt w r q R)
    (k : ∀ w1, RdAt w1 r q (cellOf R leaf).2 → Fr (fun i => i = q) w w1 → K (.agg (cenc (cellOf R leaf).1).toArray) w1) : cl P 257 #[pt r, .bool leaf] w K := by
  apply c257
  unfold F257
  refine alloc_k (P := P) (z := [.string ⟨#[]⟩, .string ⟨#[]⟩, .int .i64 0, .int .i64 0]) fun b4 w1 hb4e hb4 hf1 => ?_
  obtain ⟨v0, hq0, _⟩ := h.rest
  have hql := hq0.lt
  refine rStr_k (h.fr0 hf1) fun w2 h2 hf2 => ?_
  refine px_of build159 ?_
  refine alloc_k (P := P) (z := [.string ⟨#[]⟩, .string ⟨#[]⟩, .int .i64 0, .int .i64 0]) fun b5 w3 hb5e hb5 hf3 => ?_
  have s1 := hf1.size
  have s2 := hf2.size
  have hl4 := hb4.lt
  have hb42 := hb4.frb hf2 (by omega)
  have hb43 := hb42.fr0 hf3
  refine stA0_k hb5 (atoms_cenc _) rfl rfl fun w4 hb54 hf4 => ?_
  have hb44 := hb43.frb hf4 (by omega)
  have hf14 : Fr (fun i => i = q) w w4 := ((hf1.of hf2).trans hf3 (fun _ h => by cases h)).trans hf4 (fun i hi => .inr (by omega))
  have h4 := (h2.fr0 hf3).frb hf4 hb5 (by decide)
  -- the cell is handed back
  have fin : ∀ (c : Cell) (R' : Rd) (w5 : World), cellOf R leaf = (c, R') → Bk w5 b5 159 (cenc c) → (∃ cs, Bk w5 b4 159 cs ∧ cs.length = 4) → RdAt w5 r q R' → Fr (fun i => i = q) w w5 →
      px P (Instr.loadAt 159 (pt b5)) w5 fun v24 w =>
      pu P (Instr.storeAt 159 (pt b4) v24) w fun w =>
      pla P 159 (pt b4) w fun v4_2 =>
      K v4_2 w := by
    rintro c R' w5 e hc ⟨cs, hcs, hcl⟩ hr hf
    rw [e] at k
    refine ldA0 hc rfl ?_
    refine stA0_k hcs (atoms_cenc _) rfl hcl fun w6 hb6 hf6 => ?_
    refine plA0 hb6 rfl ?_
    refine k w6 (hr.frb hf6 hcs (by decide)) (hf.trans hf6 fun i hi => .inr (by omega))
  have h44 : ∃ cs, Bk w4 b4 159 cs ∧ cs.length = 4 := ⟨_, hb44, rfl⟩
  refine px_run ?_
  cases leaf
  · refine cnd_true ?_
    exact fin _ _ w4 rfl hb54 h44 h4 hf14
  refine cnd_false ?_
  refine rCount_k h4 fun w5 h5 hf5 => ?_
  have hl54 := hb54.lt
  have s4 := hf14.size
  have s3 := hf3.size
  have hb55 := hb54.frb hf5 (by omega)
  have hb45 := hb44.frb hf5 (by omega)
  have hf15 := hf14.trans hf5 (fun i hi => .inl hi)
  refine px_run ?_
  refine stB_k hb55 (by simp [cenc]) fun w6 hb56 hf6 => ?_
  have h6 := h5.frb hf6 hb55 (by decide)
  have hb46 := hb45.frb hf6 (by omega)
  have hf16 := hf15.trans hf6 (fun i hi => .inr (by omega))
  refine px_run ?_
  refine ldB hb56 rfl ?_
  refine px_run ?_
  refine cut_of (fun _ w7 => ∃ (c : Cell) (R' : Rd), cellOf R true = (c, R') ∧ Bk w7 b5 159 (cenc c) ∧ (∃ cs, Bk w7 b4 159 cs ∧ cs.length = 4) ∧ RdAt w7 r q R' ∧ Fr (fun i => i = q) w w7) (cnd_dec (fun hz => ?_) (fun hz => ?_)) ?_
  · refine rStr_k h6 fun w7 h7 hf7 => ?_
    have hb57 := hb56.frb hf7 (by omega)
    refine px_run ?_
    refine stB_k hb57 (by simp [cenc]) fun w8 hb58 hf8 => ?_
    refine ⟨⟨(R.str 48).1, (((R.str 48).2.count 2147483647).2.str 64).1, 0, 0⟩, _, by unfold cellOf; rw [if_neg (by simp), if_pos hz], ?_, ⟨_, (hb46.frb hf7 (by omega)).frb hf8 (by omega), rfl⟩, h7.frb hf8 hb57 (by decide), (hf16.trans hf7 fun i hi => .inl hi).trans hf8 fun i hi => .inr (by omega)⟩
    rw [hz] at hb58
    exact hb58
  · refine rCount_k h6 fun w7 h7 hf7 => ?_
    have hb57 := hb56.frb hf7 (by omega)
    refine px_run ?_
    refine stB_k hb57 (by simp [cenc]) fun w8 hb58 hf8 => ?_
    refine ⟨⟨(R.str 48).1, [], ((R.str 48).2.count 2147483647).1, (((R.str 48).2.count 2147483647).2.count 2147483647).1⟩, _, by unfold cellOf; rw [if_neg (by simp), if_neg hz], hb58, ⟨_, (hb46.frb hf7 (by omega)).frb hf8 (by omega), rfl⟩, h7.frb hf8 hb57 (by decide), (hf16.trans hf7 fun i hi => .inl hi).trans hf8 fun i hi => .inr (by omega)⟩
  · rintro vs w7 ⟨c, R', e, hc, hcs, hr, hf⟩
    exact fin c R' w7 e hc hcs hr hf

/-! ### Decode -/
theorem Rd.count_le {R : Rd} {most : Int} (hm : 0 ≤ most) : (R.count most).1 ≤ most := by
  unfold Rd.count
  cases hu : R.uv.1 with
  | none =>
    simp only
    split
    · exact hm
    · exact hm
  | some u =>
    simp only
    split
    · exact hm
    · rename_i h
      simp only [Rd.told, Bool.or_eq_true, Bool.not_eq_true', Bool.and_eq_false_iff, decide_eq_false_iff_not, not_or, Decidable.not_not] at h
      simp only [Option.getD_some]
      exact h.2.2
theorem Rd.str_le {R : Rd} {most : Int} (hm : 0 ≤ most) : ((R.str most).1.length : Int) ≤ most := by
  have h1 := Rd.count_le (R := R) hm
  have h2 := Rd.count_nonneg (R := R) (most := most)
  unfold Rd.str
  split
  · simpa using hm
  · simp only [List.length_take]
    omega
theorem cellOf_small (R : Rd) (leaf : Bool) : (cellOf R leaf).1.key.length ≤ 100 ∧ (cellOf R leaf).1.val.length ≤ 100 := by
  have h1 := Rd.str_le (R := R) (most := 48) (by omega)
  unfold cellOf
  split
  · simp only [List.length_nil]; omega
  · split
    · have h2 := Rd.str_le (R := ((R.str 48).2.count 2147483647).2) (most := 64) (by omega)
      simp only
      omega
    · simp only [List.length_nil]; omega
theorem cellsOf_small (leaf : Bool) : ∀ (f : Nat) (R : Rd) (l : List Cell), (∀ c ∈ l, c.key.length ≤ 100 ∧ c.val.length ≤ 100) → (∀ c ∈ (cellsOf leaf f R l).1, c.key.length ≤ 100 ∧ c.val.length ≤ 100) ∧ (cellsOf leaf f R l).1.length ≤ l.length + f
  | 0, R, l, h => ⟨h, Nat.le_refl _⟩
  | f + 1, R, l, h => by
    unfold cellsOf
    split
    · exact ⟨h, by show l.length ≤ l.length + (f + 1); omega⟩
    · have := cellsOf_small leaf f (cellOf R leaf).2 (l ++ [(cellOf R leaf).1]) (fun c hc => by
        rcases List.mem_append.1 hc with hc | hc
        · exact h c hc
        · simp only [List.mem_singleton] at hc
          subst hc
          exact cellOf_small R leaf)
      refine ⟨this.1, ?_⟩
      have h2 := this.2
      simp only [List.length_append, List.length_cons, List.length_nil] at h2
      omega
theorem kidsOf_len : ∀ (f : Nat) (R : Rd) (l : List Int), (kidsOf f R l).1.length ≤ l.length + f
  | 0, R, l => Nat.le_refl _
  | f + 1, R, l => by
    unfold kidsOf
    split
    · simp only; omega
    · have h2 := kidsOf_len f (R.count 2147483647).2 (l ++ [(R.count 2147483647).1])
      simp only [List.length_append, List.length_cons, List.length_nil] at h2
      omega
structure DecAt (w w' : World) (r q b2 b5 : Nat) (leaf : Bool) (vc vk : Value) (l : List Cell) (ks : List Int) (R : Rd) : Prop where
  rd : RdAt w' r q R
  b2k : Bk w' b2 155 [.bool false, .slice none 0 0, .slice none 0 0]
  b5k : Bk w' b5 155 [.bool leaf, vc, vk]
  cells : Own w' vc 159 4 l.length (l.flatMap cenc)
  kids : Own w' vk 3 1 ks.length (ks.flatMap kenc)
  fr : Fr no w w'
  newc : ∀ b, vc.ownBlock = some b → w.heap.size ≤ b
  newk : ∀ b, vk.ownBlock = some b → w.heap.size ≤ b
  ne : b2 ≠ b5
  n2 : w.heap.size ≤ b2
  n5 : w.heap.size ≤ b5
  nq : w.heap.size ≤ q
section
variable {w w1 w2 : World} {r q b2 b5 : Nat} {leaf : Bool} {vc vk : Value} {l : List Cell} {ks : List Int} {R R' : Rd} {J : World → Prop}
theorem DecAt.fr0 (h : DecAt w w1 r q b2 b5 leaf vc vk l ks R) (f : Fr no w1 w2) : DecAt w w2 r q b2 b5 leaf vc vk l ks R :=
  ⟨h.rd.fr0 f, h.b2k.fr0 f, h.b5k.fr0 f, h.cells.fr0 f, h.kids.fr0 f, h.fr.trans f (fun _ h => by cases h), h.newc, h.newk, h.ne, h.n2, h.n5, h.nq⟩
theorem DecAt.step (h : DecAt w w1 r q b2 b5 leaf vc vk l ks R) (hr : RdAt w2 r q R') (f : Fr (fun i => i = q) w1 w2) : DecAt w w2 r q b2 b5 leaf vc vk l ks R' := by
  obtain ⟨v, hq, _⟩ := h.rd.rest
  exact ⟨hr, h.b2k.frb f (h.b2k.ne hq (by decide)), h.b5k.frb f (h.b5k.ne hq (by decide)), h.cells.frb f hq (by decide), h.kids.frb f hq (by decide), h.fr.new f (fun i hi => by have := h.nq; omega), h.newc, h.newk, h.ne, h.n2, h.n5, h.nq⟩
theorem dec_cell {c : Cell} (h : DecAt w w1 r q b2 b5 leaf vc vk l ks R) (hl : l.length ≤ 100000)
    (k : ∀ vc' w', DecAt w w' r q b2 b5 leaf vc' vk (l ++ [c]) ks R → J w') :
    pg P (Instr.buildSlice 153 1 #[(0, .agg (cenc c).toArray)]) w1 fun v30 w => px P (Builtin.append_ #[153, 153] 153 #[vc, v30]) w fun v31 w => py P (fun _ => True) (Instr.fieldAt 155 (pt b5) 1) fun v32 => pu P (Instr.storeAt 153 v32 v31) w fun w => J w := by
  refine cell1_g fun b3 w3 hb3 ho3 hf3 => ?_
  have h3 := h.fr0 hf3
  refine append_k (P := P) (by' := 48) h3.cells ho3.sl (atoms_cencs [c]) (by unfold maxLen; omega) (by omega) fun v4 w4 h4 hf4 hn4 => ?_
  obtain ⟨a4, c4, rfl⟩ := Own.atom h4
  refine py_run ?_
  have ty : ∀ i t cs, vc.ownBlock = some i → Bk w3 i t cs → t = 159 := fun i t cs hi hb => by
    obtain ⟨cs', hc'⟩ := Own.bkk h3.cells hi
    exact Bk.typ hb hc'
  have hb5 := h3.b5k.fr hf4 (fun e => absurd (ty _ _ _ e h3.b5k) (by decide))
  refine stB_k hb5 (by simp) fun w5 hb55 hf5 => ?_
  have hs3 := h3.fr.size
  have hlb := hb5.lt
  refine k _ w5 ⟨(h3.rd.fr hf4 fun i t cs hi hb => by rw [ty _ _ _ hi hb]; decide).frb hf5 hb5 (by decide), (h3.b2k.fr hf4 (fun e => absurd (ty _ _ _ e h3.b2k) (by decide))).frb hf5 h.ne, hb55, ?_,
    (h3.kids.fr hf4 (fun b hb e => h3.kids.ne_own h3.cells (by decide) b hb e)).frb hf5 hb5 (by decide), ?_, ?_, h.newk, h.ne, h.n2, h.n5, h.nq⟩
  · have := h4.frb hf5 hb5 (by decide)
    simpa using this
  · exact (h3.fr.new hf4 (fun i hi => h.newc i hi)).new hf5 (fun i hi => by have := h.n5; omega)
  · intro b hb
    rcases hn4 b hb with hn | hn
    · exact h.newc b hn
    · omega
theorem dec_kid {n : Int} (h : DecAt w w1 r q b2 b5 leaf vc vk l ks R) (hl : ks.length ≤ 100000)
    (k : ∀ vk' w', DecAt w w' r q b2 b5 leaf vc vk' l (ks ++ [n]) R → J w') :
    pg P (Instr.buildSlice 48 1 #[(0, iv n)]) w1 fun v30 w => px P (Builtin.append_ #[48, 48] 48 #[vk, v30]) w fun v31 w => py P (fun _ => True) (Instr.fieldAt 155 (pt b5) 2) fun v32 => pu P (Instr.storeAt 48 v32 v31) w fun w => J w := by
  refine ints1_g fun b3 w3 hb3 ho3 hf3 => ?_
  have h3 := h.fr0 hf3
  refine append_k (P := P) (by' := 8) h3.kids ho3.sl (atoms_kencs [n]) (by unfold maxLen; omega) (by omega) fun v4 w4 h4 hf4 hn4 => ?_
  obtain ⟨a4, c4, rfl⟩ := Own.atom h4
  refine py_run ?_
  have ty : ∀ i t cs, vk.ownBlock = some i → Bk w3 i t cs → t = 3 := fun i t cs hi hb => by
    obtain ⟨cs', hc'⟩ := Own.bkk h3.kids hi
    exact Bk.typ hb hc'
  have hb5 := h3.b5k.fr hf4 (fun e => absurd (ty _ _ _ e h3.b5k) (by decide))
  refine stB_k hb5 (by simp) fun w5 hb55 hf5 => ?_
  have hs3 := h3.fr.size
  have hlb := hb5.lt
  refine k _ w5 ⟨(h3.rd.fr hf4 fun i t cs hi hb => by rw [ty _ _ _ hi hb]; decide).frb hf5 hb5 (by decide), (h3.b2k.fr hf4 (fun e => absurd (ty _ _ _ e h3.b2k) (by decide))).frb hf5 h.ne, hb55,
    (h3.cells.fr hf4 (fun b hb e => h3.cells.ne_own h3.kids (by decide) b hb e)).frb hf5 hb5 (by decide), ?_, ?_, h.newc, ?_, h.ne, h.n2, h.n5, h.nq⟩
  · have := h4.frb hf5 hb5 (by decide)
    simpa using this
  · exact (h3.fr.new hf4 (fun i hi => h.newk i hi)).new hf5 (fun i hi => by have := h.n5; omega)
  · intro b hb
    rcases hn4 b hb with hn | hn
    · exact h.newk b hn
    · omega
end
theorem pgld {t : TypeId} [Plain P t] {w : World} {a : Addr} {v : Value} {K : Value → World → Prop} (h : w.cell? a = some v) (k : K v w) : pg P (Instr.loadAt t (.pointer (some a))) w K := pg_of (ld_run h) (Ext.refl _) k
theorem fidx_any {α : Type} (q : α → Bool) : ∀ (l : List α), decide (fidx q l ≥ 0) = l.any q
  | [] => by simp [fidx]
  | a :: l => by
    have ih := fidx_any q l
    have hg := fidx_ge (q := q) (l := l)
    rw [fidx_cons, List.any_cons, ← ih]
    by_cases h : q a = true
    · simp [h]
    · simp only [h, Bool.false_or]
      by_cases h1 : fidx q l = -1
      · simp [h1]
      · simp only [h1, if_false]
        apply decide_eq_decide.2
        simp
        omega
theorem bs_flat (l : List UInt8) : l.flatMap (fun c => [u8v c]) = bs l := by
  induction l with
  | nil => rfl
  | cons c l ih => rw [List.flatMap_cons, ih]; rfl
theorem byte259_k {w : World} {c : UInt8} {K : Value → World → Prop} (k : K (.bool (c != 0)) w) : cl P 259 #[u8v c] w K := by
  apply c259
  unfold F259
  refine px_run ?_
  have e : (c != 0) = decide ((c.toNat : Int) ≠ 0) := by
    by_cases hc : c = 0
    · subst hc; rfl
    · have : c.toNat ≠ 0 := fun e => hc (UInt8.toNat_inj.1 e)
      simp [hc, this]
  rw [e] at k
  exact k
theorem rest_k {w : World} {v : Value} {l : List UInt8} {K : Value → World → Prop} (h : Sl w v 1 l.length (bs l)) (hl : l.length ≤ 1000000000)
    (k : ∀ w1, Fr no w w1 → K (.bool (l.any fun c => c != 0)) w1) : cl P 258 #[v, .func (.func 259) #[] #[]] w K := by
  apply c258
  unfold F258
  apply c284
  rw [F284_gen]
  have e := bs_flat l
  have h' : Sl w v 1 l.length (l.flatMap fun c => [u8v c]) := by rw [e]; exact h
  refine index_k (P := P) (α := UInt8) (l := l) (enc := fun c => [u8v c]) (ev := u8v) (q := fun c => c != 0) (Inv := fun _ => True) h' (by omega) hl (fun _ _ => rfl)
    (fun c _ b o w' K' hc hk => ld1 (P := P) (by have := hc 0 (by omega); exact this) hk) trivial (fun c _ w3 K' _ _ hk => ?_) fun w3 _ hf3 => ?_
  · exact byte259_k (hk w3 trivial (Fr.refl _ _))
  · refine px_run ?_
    rw [fidx_any]
    exact k w3 hf3

theorem Rd.uv_len (R : Rd) : R.uv.2.l.length ≤ R.l.length := by
  unfold Rd.uv
  split
  · exact Nat.le_refl _
  · split
    · exact Nat.le_refl _
    · simp only [List.length_drop]; omega
theorem Rd.count_len (R : Rd) (m : Int) : (R.count m).2.l.length ≤ R.l.length := by
  have := R.uv_len
  unfold Rd.count Rd.told
  exact this
theorem Rd.str_len (R : Rd) (m : Int) : (R.str m).2.l.length ≤ R.l.length := by
  have := R.count_len m
  unfold Rd.str
  split
  · exact this
  · simp only [List.length_drop]; omega
theorem cellOf_len (R : Rd) (leaf : Bool) : (cellOf R leaf).2.l.length ≤ R.l.length := by
  have h1 := R.str_len 48
  have h2 := (R.str 48).2.count_len 2147483647
  have h3 := ((R.str 48).2.count 2147483647).2.str_len 64
  have h4 := ((R.str 48).2.count 2147483647).2.count_len 2147483647
  unfold cellOf
  split
  · exact h1
  · split
    · simp only; omega
    · simp only; omega
theorem cellsOf_len (leaf : Bool) : ∀ (f : Nat) (R : Rd) (l : List Cell), (cellsOf leaf f R l).2.l.length ≤ R.l.length
  | 0, R, l => Nat.le_refl _
  | f + 1, R, l => by
    unfold cellsOf
    split
    · exact Nat.le_refl _
    · exact Nat.le_trans (cellsOf_len leaf f _ _) (cellOf_len R leaf)
theorem kidsOf_rlen : ∀ (f : Nat) (R : Rd) (l : List Int), (kidsOf f R l).2.l.length ≤ R.l.length
  | 0, R, l => Nat.le_refl _
  | f + 1, R, l => by
    unfold kidsOf
    split
    · exact Nat.le_refl _
    · exact Nat.le_trans (kidsOf_rlen f _ _) (R.count_len _)
theorem decode_k {w : World} {v : Value} {b : List UInt8} {K : Value → World → Prop} (h : Sl w v 1 b.length (bs b)) (hl : b.length ≤ 100000000)
    (k0 : Node.decode b = none → ∀ w1, Fr no w w1 → K (.tuple #[nv ⟨false, [], []⟩ (.slice none 0 0) (.slice none 0 0), iv 4]) w1)
    (k1 : ∀ x, Node.decode b = some x → ∀ vc vk w1, NodeN w w1 vc vk x → x.Small → K (.tuple #[nv x vc vk, iv 0]) w1) : cl P 209 #[v] w K := by
  obtain ⟨_, av, cv', rfl, _⟩ := id h
  apply c209
  unfold F209
  refine alloc_k (P := P) (z := [.bool false, .slice none 0 0, .slice none 0 0]) fun b2 w1 hb2e hb2 hf1 => ?_
  refine px_run ?_
  refine px_run ?_
  refine cnd_dec (fun hgt => ?_) (fun hle => ?_)
  · refine px_of build155_0 ?_
    refine stA0_k hb2 (atoms_node _ _ _ _ _ _ _) rfl rfl fun w2 hb22 hf2 => ?_
    refine plA0 hb22 rfl ?_
    exact k0 (by unfold Node.decode; rw [if_pos (by omega)]) w2 (hf1.new hf2 (fun i hi => by omega))
  refine newReader_k (h.fr0 hf1) hl fun r q w2 h2 hf2 hr2 hq2 => ?_
  refine rFlag_k h2 fun w3 h3 hf3 => ?_
  refine px_of build155_l ?_
  refine alloc_k (P := P) (z := [.bool false, .slice none 0 0, .slice none 0 0]) fun b5 w4 hb5e hb5 hf4 => ?_
  refine stA0_k hb5 (atoms_node _ _ _ _ _ _ _) rfl rfl fun w5 hb55 hf5 => ?_
  have s1 := hf1.size
  have s2 := hf2.size
  have s3 := hf3.size
  have hl2 := hb2.lt
  have hb23 := ((hb2.fr0 hf2).frb hf3 (by omega)).fr0 hf4
  have hb25 := hb23.frb hf5 (by omega)
  have hl5 := hb5.lt
  have hD : DecAt w w5 r q b2 b5 (⟨b, false⟩ : Rd).flag.1 (.slice none 0 0) (.slice none 0 0) [] [] (⟨b, false⟩ : Rd).flag.2 :=
    ⟨(h3.fr0 hf4).frb hf5 hb5 (by decide), hb25, hb55, Own.nil _ _ _, Own.nil _ _ _, (((hf1.trans hf2 (fun _ h => by cases h)).new hf3 (fun i hi => by omega)).trans hf4 (fun _ h => by cases h)).new hf5 (fun i hi => by omega),
      fun b hb => (by cases hb), fun b hb => (by cases hb), by omega, by omega, by omega, by omega⟩
  have hdec : Node.decode b = (let x := (⟨b, false⟩ : Rd).flag
      let c := x.2.count 512
      let cs := cellsOf x.1 c.1.toNat c.2 []
      let ks := if x.1 then (([] : List Int), cs.2) else kidsOf (cs.1.length + 1) cs.2 []
      if ks.2.bad || !(Node.check ⟨x.1, cs.1, ks.1⟩) || (b.drop (b.length - ks.2.left)).any (fun c => c != 0) then none else some ⟨x.1, cs.1, ks.1⟩) := by
    unfold Node.decode; rw [if_neg (by omega)]
  clear h3 hf3 hf4 hf5 hb5 hb55 hb23 hb25 hf2 h2
  simp only at hdec
  have hr1 : (⟨b, false⟩ : Rd).flag.2.l.length ≤ b.length := Rd.count_len ⟨b, false⟩ 1
  generalize hleaf : (⟨b, false⟩ : Rd).flag.1 = leaf at hD hdec
  generalize (⟨b, false⟩ : Rd).flag.2 = R1 at hD hdec hr1
  refine rCount_k hD.rd fun w6 h6 hf6 => ?_
  have hD6 := hD.step h6 hf6
  have hc1 := Rd.count_le (R := R1) (most := 512) (by omega)
  have hc0 := Rd.count_nonneg (R := R1) (most := 512)
  have hr2 := R1.count_len 512
  generalize (R1.count 512).2 = R2 at hD6 hdec hr2
  obtain ⟨N, hN⟩ : ∃ N : Nat, (R1.count 512).1 = (N : Int) := ⟨(R1.count 512).1.toNat, by omega⟩
  rw [hN] at hdec hc1 ⊢
  simp only [Int.toNat_natCast] at hdec
  clear hD h6 hf6 hN hc0
  obtain ⟨hcsm, hclen⟩ := cellsOf_small leaf N R2 [] (fun c hc => by cases hc)
  simp only [List.length_nil, Nat.zero_add] at hclen
  have hr3 := cellsOf_len leaf N R2 []
  generalize hcsd : cellsOf leaf N R2 [] = cs at hdec hcsm hclen hr3
  refine cut_of (fun _ w7 => ∃ vc, DecAt w w7 r q b2 b5 leaf vc (.slice none 0 0) cs.1 [] cs.2) ?_ ?_
  · -- the cells
    refine lp_of (fun vs w7 => ∃ (i : Nat) (l : List Cell) (R : Rd) (vc : Value), vs = [iv i] ∧ i ≤ N ∧ l.length = i ∧ cellsOf leaf (N - i) R l = cs ∧ DecAt w w7 r q b2 b5 leaf vc (.slice none 0 0) l [] R)
      (fun vs _ => (match vs with | [.int _ m] => (N - m).toNat | _ => 0)) ⟨0, [], R2, _, rfl, by omega, rfl, hcsd, hD6⟩ ?_
    rintro vs w7 ⟨i, l, R, vc, rfl, hi, hli, hcs, hD7⟩
    simp only [g0_cons]
    refine px_run ?_
    refine cnd_dec (fun hlt => ?_) (fun hge => ?_)
    · refine rOK_k hD7.rd ?_
      refine px_run ?_
      obtain ⟨m, hm⟩ : ∃ m, N - i = m + 1 := ⟨N - i - 1, by omega⟩
      rw [hm] at hcs
      unfold cellsOf at hcs
      cases hbad : R.bad
      · simp only [Bool.not_false, Bool.not_true]
        rw [hbad, if_neg (by simp)] at hcs
        refine cnd_false ?_
        refine cut_of (fun _ w8 => ∃ vc', DecAt w w8 r q b2 b5 leaf vc' (.slice none 0 0) (l ++ [(cellOf R leaf).1]) [] (cellOf R leaf).2) ?_ ?_
        · refine dr_of ?_
          have hD8 := hD7.fr0 (Fr.dw w7)
          refine py_run ?_
          refine py_run ?_
          refine ldY hD8.b5k rfl ?_
          obtain ⟨a7, c7, rfl⟩ := Own.atom hD8.cells
          refine ⟨?_, ?_⟩
          · refine pgld (hD8.b5k.cell 1) ?_
            refine cellOf_k hD8.rd fun w9 h9 hf9 => ?_
            have hD9 := hD8.step h9 hf9
            exact dec_cell hD9 (by omega) fun vc' w' h' => ⟨vc', h'⟩
          · refine cellOf_k hD8.rd fun w9 h9 hf9 => ?_
            have hD9 := hD8.step h9 hf9
            refine ldY hD9.b5k rfl ?_
            exact dec_cell hD9 (by omega) fun vc' w' h' => ⟨vc', h'⟩
        · rintro vs w8 ⟨vc', hD8⟩
          haveI : Fits .i64 ((i : Int) + 1) := fits_i64 (by omega) (by omega)
          refine px_run ?_
          refine ⟨⟨i + 1, _, _, vc', rfl, by omega, by simp [hli], ?_, hD8⟩, ?_⟩
          · rw [show N - (i + 1) = m by omega]; exact hcs
          · show ((N : Int) - ((i : Int) + 1)).toNat < ((N : Int) - i).toNat
            omega
      · simp only [Bool.not_true, Bool.not_false]
        rw [hbad, if_pos rfl] at hcs
        refine cnd_true ?_
        subst hcs
        exact ⟨vc, hD7⟩
    · have : N - i = 0 := by omega
      rw [this] at hcs
      subst hcs
      exact ⟨vc, hD7⟩
  rintro vs w7 ⟨vc, hD7⟩
  clear hcsd
  -- the kids
  have hkl := kidsOf_len (cs.1.length + 1) cs.2 []
  simp only [List.length_nil, Nat.zero_add] at hkl
  generalize hks : (if leaf then (([] : List Int), cs.2) else kidsOf (cs.1.length + 1) cs.2 []) = ks at hdec
  have hr4 : ks.2.l.length ≤ b.length := by
    have := kidsOf_rlen (cs.1.length + 1) cs.2 []
    rw [← hks]
    split
    · simp only; omega
    · omega
  have hkl2 : ks.1.length ≤ cs.1.length + 1 := by
    rw [← hks]
    split
    · simp
    · exact hkl
  refine lp_of (fun vs w8 => ∃ (i : Nat) (l : List Int) (R : Rd) (vk : Value), vs = [iv i] ∧ i ≤ cs.1.length + 1 ∧ l.length = i ∧ (if leaf then (l, R) else kidsOf (cs.1.length + 1 - i) R l) = ks ∧ DecAt w w8 r q b2 b5 leaf vc vk cs.1 l R)
    (fun vs _ => (match vs with | [.int _ m] => ((cs.1.length : Int) + 1 - m).toNat | _ => 0)) ⟨0, [], cs.2, _, rfl, by omega, rfl, hks, hD7⟩ ?_
  rintro vs w8 ⟨i, l, R, vk, rfl, hi, hli, hkd, hD8⟩
  simp only [g0_cons]
  obtain ⟨ac, cc, rfl⟩ := Own.atom hD8.cells
  obtain ⟨ak, ck, rfl⟩ := Own.atom hD8.kids
  refine px_run ?_
  refine ldB hD8.b5k rfl ?_
  refine px_run ?_
  refine px_run ?_
  -- what stands behind the kids
  have fin : ks = (l, R) →
      px P (Builtin.len_ #[43] 3 #[.slice av b.length cv']) w8 fun v59 w =>
      cl P 241 #[pt r] w fun v61 w =>
      px P (bin false .sub 3 v59 v61) w fun v62 w =>
      px P (Instr.sliceAt 43 (.slice av b.length cv') (some v62) none none) w fun v63 w =>
      cl P 179 #[pt r] w fun v65 w =>
      px P (Op.unary .not v65) w fun v66 w =>
      gd v66 false w (fun k => px P (Instr.loadAt 155 (pt b5)) w fun v w => k v w) fun v68 w =>
      gd v66 false w (fun k => cl P 216 #[v68] w fun v w => k v w) fun v69 w =>
      gd v66 false w (fun k => px P (Op.unary .not v69) w fun v w => k v w) fun v70 w =>
      pk v66 (.bool true) v70 w fun v71 w =>
      gd v71 false w (fun k => k v63 w) fun v73 w =>
      gd v71 false w (fun k => cl P 258 #[v73, (.func (.func 259) #[] #[])] w fun v w => k v w) fun v74 w =>
      pk v71 (.bool true) v74 w fun v75 w =>
      cnd v75 (
        px P (Instr.build 155 #[]) w fun v76 w =>
        pu P (Instr.storeAt 155 (pt b2) v76) w fun w =>
        pla P 155 (pt b2) w fun v2_2 =>
        K (.tuple #[v2_2, (.int .i64 4)]) w) <|
      px P (Instr.loadAt 155 (pt b5)) w fun v77 w =>
      pu P (Instr.storeAt 155 (pt b2) v77) w fun w =>
      pla P 155 (pt b2) w fun v2_3 =>
      K (.tuple #[v2_3, (.int .i64 0)]) w := by
    intro hke
    rw [hke] at hdec hr4
    simp only at hdec hr4
    have hsm : Node.Small ⟨leaf, cs.1, l⟩ := ⟨by show cs.1.length ≤ 100000; omega, by show l.length ≤ 100001; omega, hcsm⟩
    have hrl : R.left ≤ R.l.length := by unfold Rd.left; split <;> omega
    have bad : ∀ w9, DecAt w w9 r q b2 b5 leaf (.slice ac cs.1.length cc) (.slice ak l.length ck) cs.1 l R → Node.decode b = none →
        px P (Instr.build 155 #[]) w9 fun v76 w =>
        pu P (Instr.storeAt 155 (pt b2) v76) w fun w =>
        pla P 155 (pt b2) w fun v2_2 =>
        K (.tuple #[v2_2, (.int .i64 4)]) w := by
      intro w9 hD9 hn
      refine px_of build155_0 ?_
      refine stA0_k hD9.b2k (atoms_node _ _ _ _ _ _ _) rfl rfl fun w10 hb hf => ?_
      refine plA0 hb rfl ?_
      exact k0 hn w10 (hD9.fr.new hf (fun i hi => by have := hD9.n2; omega))
    have good : ∀ w9, DecAt w w9 r q b2 b5 leaf (.slice ac cs.1.length cc) (.slice ak l.length ck) cs.1 l R → Node.decode b = some ⟨leaf, cs.1, l⟩ →
        px P (Instr.loadAt 155 (pt b5)) w9 fun v77 w =>
        pu P (Instr.storeAt 155 (pt b2) v77) w fun w =>
        pla P 155 (pt b2) w fun v2_3 =>
        K (.tuple #[v2_3, (.int .i64 0)]) w := by
      intro w9 hD9 hn
      refine ldA0 hD9.b5k rfl ?_
      refine stA0_k hD9.b2k (atoms_node _ _ _ _ _ _ _) rfl rfl fun w10 hb hf => ?_
      refine plA0 hb rfl ?_
      exact k1 _ hn _ _ w10 ⟨hD9.cells.frb hf hD9.b2k (by decide), hD9.kids.frb hf hD9.b2k (by decide), hD9.fr.new hf (fun i hi => by have := hD9.n2; omega), hD9.newc, hD9.newk⟩ hsm
    refine px_run ?_
    refine rLeft_k hD8.rd ?_
    by_cases hbl : b.length < R.left
    · omega
    haveI : Fits .i64 ((b.length : Int) - (R.left : Int)) := fits_i64 (by omega) (by omega)
    refine px_run ?_
    refine slc_l (P := P) (b.length - R.left) (by omega) (h.fr0 hD8.fr) (by omega) fun v63 h63 _ => ?_
    rw [Nat.mul_one, bs_drop] at h63
    have h63' : Sl w8 v63 1 (b.drop (b.length - R.left)).length (bs (b.drop (b.length - R.left))) := by rw [List.length_drop]; exact h63
    refine rOK_k hD8.rd ?_
    refine px_run ?_
    cases hbad : R.bad
    · simp only [Bool.not_false, Bool.not_true]
      refine gd_ff ?_
      refine ldA0 hD8.b5k rfl ?_
      refine gd_ff ?_
      refine check_k (x := ⟨leaf, cs.1, l⟩) ⟨hD8.cells.sl, hD8.kids.sl, hsm⟩ fun w9 hf9 => ?_
      have hD9 := hD8.fr0 hf9
      refine gd_ff ?_
      refine px_run ?_
      refine pk_false ?_
      rw [hbad] at hdec
      simp only [Bool.false_or] at hdec
      cases hchk : Node.check ⟨leaf, cs.1, l⟩
      · rw [hchk] at hdec
        simp only [Bool.not_false, Bool.true_or, if_true] at hdec ⊢
        refine gd_tf ?_
        refine gd_tf ?_
        refine pk_true ?_
        refine cnd_true ?_
        exact bad w9 hD9 hdec
      · rw [hchk] at hdec
        simp only [Bool.not_true, Bool.false_or] at hdec ⊢
        refine gd_ff ?_
        refine gd_ff ?_
        refine rest_k (h63'.fr0 hf9) (by rw [List.length_drop]; omega) fun w10 hf10 => ?_
        have hD10 := hD9.fr0 hf10
        refine pk_false ?_
        refine cnd_of (fun ha => ?_) (fun ha => ?_)
        · rw [ha, if_pos rfl] at hdec
          exact bad w10 hD10 hdec
        · rw [ha, if_neg (by simp)] at hdec
          exact good w10 hD10 hdec
    · simp only [Bool.not_true, Bool.not_false]
      rw [hbad] at hdec
      simp only [Bool.true_or, if_true] at hdec
      iterate 3 refine gd_tf ?_
      refine pk_true ?_
      refine gd_tf ?_
      refine gd_tf ?_
      refine pk_true ?_
      refine cnd_true ?_
      exact bad w8 hD8 hdec
  by_cases hle2 : i ≤ cs.1.length
  · have hd : decide ((i : Int) ≤ (cs.1.length : Int)) = true := by simp; omega
    simp only [hd]
    refine gd_tt ?_
    refine gd_tt ?_
    refine rOK_k hD8.rd ?_
    refine pk_true ?_
    cases hbad : R.bad
    · simp only [Bool.not_false]
      refine gd_tt ?_
      refine px_run ?_
      refine gd_tt ?_
      refine ldB hD8.b5k rfl ?_
      refine gd_tt ?_
      refine px_run ?_
      refine pk_true ?_
      cases leaf
      · simp only [Bool.not_false]
        refine cnd_true ?_
        simp only [Bool.false_eq_true, if_false] at hkd
        obtain ⟨m, hm⟩ : ∃ m, cs.1.length + 1 - i = m + 1 := ⟨cs.1.length - i, by omega⟩
        rw [hm] at hkd
        unfold kidsOf at hkd
        rw [hbad, if_neg (by simp)] at hkd
        refine cut_of (fun _ w9 => ∃ vk', DecAt w w9 r q b2 b5 false (.slice ac cs.1.length cc) vk' cs.1 (l ++ [(R.count 2147483647).1]) (R.count 2147483647).2) ?_ ?_
        · refine dr_of ?_
          have hD9 := hD8.fr0 (Fr.dw w8)
          refine py_run ?_
          refine ⟨?_, ?_⟩
          · refine pgld (hD9.b5k.cell 2) ?_
            refine rCount_k hD9.rd fun w10 h10 hf10 => ?_
            have hD10 := hD9.step h10 hf10
            exact dec_kid hD10 (by omega) fun vk' w' h' => ⟨vk', h'⟩
          · refine rCount_k hD9.rd fun w10 h10 hf10 => ?_
            have hD10 := hD9.step h10 hf10
            refine ldY hD10.b5k rfl ?_
            exact dec_kid hD10 (by omega) fun vk' w' h' => ⟨vk', h'⟩
        · rintro vs w9 ⟨vk', hD9⟩
          haveI : Fits .i64 ((i : Int) + 1) := fits_i64 (by omega) (by omega)
          refine px_run ?_
          refine ⟨⟨i + 1, _, _, vk', rfl, by omega, by simp [hli], ?_, hD9⟩, ?_⟩
          · rw [show cs.1.length + 1 - (i + 1) = m by omega]
            simpa using hkd
          · show ((cs.1.length : Int) + 1 - ((i : Int) + 1)).toNat < ((cs.1.length : Int) + 1 - i).toNat
            omega
      · simp only [Bool.not_true]
        refine cnd_false ?_
        simp only [if_true] at hkd
        exact fin hkd.symm
    · simp only [Bool.not_true]
      iterate 3 refine gd_ft ?_
      refine pk_false ?_
      refine cnd_false ?_
      refine fin ?_
      rw [← hkd]
      split
      · rfl
      · obtain ⟨m, hm⟩ : ∃ m, cs.1.length + 1 - i = m + 1 := ⟨cs.1.length - i, by omega⟩
        rw [hm]
        unfold kidsOf
        rw [hbad, if_pos rfl]
  · have hd : decide ((i : Int) ≤ (cs.1.length : Int)) = false := by simp; omega
    simp only [hd]
    refine gd_ft ?_
    refine gd_ft ?_
    refine pk_false ?_
    iterate 3 refine gd_ft ?_
    refine pk_false ?_
    refine cnd_false ?_
    refine fin ?_
    rw [← hkd]
    split
    · rfl
    · rw [show cs.1.length + 1 - i = 0 by omega]
      rfl

/-! ### Join -/
theorem F218_gen (R : Value → World → Prop) (v0 : Value) (w : World) : F218 R v0 w = concatF P 153 370 3 9 268 (.string ⟨#[108, 101, 110, 32, 111, 117, 116, 32, 111, 102, 32, 114, 97, 110, 103, 101]⟩) R v0 w := rfl
theorem F219_gen (R : Value → World → Prop) (v0 : Value) (w : World) : F219 R v0 w = concatF P 48 372 3 9 269 (.string ⟨#[108, 101, 110, 32, 111, 117, 116, 32, 111, 102, 32, 114, 97, 110, 103, 101]⟩) R v0 w := rfl
theorem F268_gen (R : Value → World → Prop) (v0 v1 : Value) (w : World) : F268 R v0 v1 w = growF P 153 3 9 (.string ⟨#[99, 97, 110, 110, 111, 116, 32, 98, 101, 32, 110, 101, 103, 97, 116, 105, 118, 101]⟩) R v0 v1 w := rfl
theorem F269_gen (R : Value → World → Prop) (v0 v1 : Value) (w : World) : F269 R v0 v1 w = growF P 48 3 9 (.string ⟨#[99, 97, 110, 110, 111, 116, 32, 98, 101, 32, 110, 101, 103, 97, 116, 105, 118, 101]⟩) R v0 v1 w := rfl
theorem concC_k {w : World} {v : Value} {ps : List Part} {l : List Cell} {K : Value → World → Prop} (hv : Sl w v 1 ps.length (ps.map (·.1))) (hp : ∀ p ∈ ps, Sl w p.1 4 p.2.1 p.2.2 ∧ Atoms p.2.2) (hl : ps.length ≤ 10) (hn : totN ps = l.length) (hx : totX ps = l.flatMap cenc) (hm : l.length ≤ 1000000)
    (k : ∀ v' w1, Own w1 v' 159 4 l.length (l.flatMap cenc) → Fr no w w1 → (∀ b, v'.ownBlock = some b → w.heap.size ≤ b) → K v' w1) : cl P 218 #[v] w K := by
  apply c218
  rw [F218_gen]
  refine concat_k (P := P) (sz := 4) (by' := 48) hv hp (by omega) (by omega) (by omega) (fun K' hk => ?_) (by rw [hn, hx]; exact k)
  apply c268
  rw [F268_gen]
  exact grow_nil_k (P := P) (by' := 48) und_int (by omega) (by omega) hk
theorem concK_k {w : World} {v : Value} {ps : List Part} {l : List Int} {K : Value → World → Prop} (hv : Sl w v 1 ps.length (ps.map (·.1))) (hp : ∀ p ∈ ps, Sl w p.1 1 p.2.1 p.2.2 ∧ Atoms p.2.2) (hl : ps.length ≤ 10) (hn : totN ps = l.length) (hx : totX ps = l.flatMap kenc) (hm : l.length ≤ 1000000)
    (k : ∀ v' w1, Own w1 v' 3 1 l.length (l.flatMap kenc) → Fr no w w1 → (∀ b, v'.ownBlock = some b → w.heap.size ≤ b) → K v' w1) : cl P 219 #[v] w K := by
  apply c219
  rw [F219_gen]
  refine concat_k (P := P) (sz := 1) (by' := 8) hv hp (by omega) (by omega) (by omega) (fun K' hk => ?_) (by rw [hn, hx]; exact k)
  apply c269
  rw [F269_gen]
  exact grow_nil_k (P := P) (by' := 8) und_int (by omega) (by omega) hk

instance : Zero P 153 [.slice none 0 0] := ⟨fun w => ⟨.slice none 0 0, by kernel_rfl, rfl⟩⟩
instance : Zero P 48 [.slice none 0 0] := ⟨fun w => ⟨.slice none 0 0, by kernel_rfl, rfl⟩⟩
section
variable {w : World} {t e : TypeId} {a b c : Value} {K : Value → World → Prop}
theorem bs2_run [SliceT P t e 1] [Zero P e [.slice none 0 0]] [ha : Atom a] [hb : Atom b] : (Instr.buildSlice t 2 #[(0, a), (1, b)]).run P w = .ok (.slice (some ⟨w.heap.size, 0, none⟩) 2 2) (w.alloc (.cells #[a, b] e)) := by
  refine bslice_run (P := P) (t := t) (e := e) (sz := 1) (n := 2) (z := [.slice none 0 0]) (parts := [(0, a), (1, b)]) (xs := [a, b]) rfl (by omega) (by omega) (by omega) ?_
  rw [fill_cons (xs := [a]) (off := 0) (size := 1) rfl ha.cells rfl (by simp), fill_cons (xs := [b]) (off := 1) (size := 1) rfl hb.cells rfl (by rw [spl_length (by simp)]; simp), fill_nil]
  rfl
theorem bs3_run [SliceT P t e 1] [Zero P e [.slice none 0 0]] [ha : Atom a] [hb : Atom b] [hc : Atom c] : (Instr.buildSlice t 3 #[(0, a), (1, b), (2, c)]).run P w = .ok (.slice (some ⟨w.heap.size, 0, none⟩) 3 3) (w.alloc (.cells #[a, b, c] e)) := by
  refine bslice_run (P := P) (t := t) (e := e) (sz := 1) (n := 3) (z := [.slice none 0 0]) (parts := [(0, a), (1, b), (2, c)]) (xs := [a, b, c]) rfl (by omega) (by omega) (by omega) ?_
  rw [fill_cons (xs := [a]) (off := 0) (size := 1) rfl ha.cells rfl (by simp), fill_cons (xs := [b]) (off := 1) (size := 1) rfl hb.cells rfl (by rw [spl_length (by simp)]; simp),
    fill_cons (xs := [c]) (off := 2) (size := 1) rfl hc.cells rfl (by rw [spl_length (by rw [spl_length (by simp)]; simp), spl_length (by simp)]; simp), fill_nil]
  rfl
theorem bs2_k [SliceT P t e 1] [Zero P e [.slice none 0 0]] [ha : Atom a] [hb : Atom b] (k : ∀ v w1, Sl w1 v 1 2 [a, b] → Fr no w w1 → K v w1) : px P (Instr.buildSlice t 2 #[(0, a), (1, b)]) w K :=
  px_of (bs2_run (t := t)) (k _ _ (bslice_own (e := e) (sz := 1) (xs := [a, b]) rfl (by decide)).sl (Fr.alloc _ _))
theorem bs2_g [SliceT P t e 1] [Zero P e [.slice none 0 0]] [ha : Atom a] [hb : Atom b] (k : ∀ v w1, Sl w1 v 1 2 [a, b] → Fr no w w1 → K v w1) : pg P (Instr.buildSlice t 2 #[(0, a), (1, b)]) w K :=
  pg_of (bs2_run (t := t)) (Fr.alloc w _).ext (k _ _ (bslice_own (e := e) (sz := 1) (xs := [a, b]) rfl (by decide)).sl (Fr.alloc _ _))
theorem bs3_g [SliceT P t e 1] [Zero P e [.slice none 0 0]] [ha : Atom a] [hb : Atom b] [hc : Atom c] (k : ∀ v w1, Sl w1 v 1 3 [a, b, c] → Fr no w w1 → K v w1) : pg P (Instr.buildSlice t 3 #[(0, a), (1, b), (2, c)]) w K :=
  pg_of (bs3_run (t := t)) (Fr.alloc w _).ext (k _ _ (bslice_own (e := e) (sz := 1) (xs := [a, b, c]) rfl (by decide)).sl (Fr.alloc _ _))
end
theorem join_k {w : World} {a b : Node} {sep : Str} {vca vka vcb vkb : Value} {K : Value → World → Prop} (ha : NodeAt w vca vka a) (hb : NodeAt w vcb vkb b)
    (k : ∀ vc vk w1, NodeN w w1 vc vk (a.join sep b) → K (nv (a.join sep b) vc vk) w1) : cl P 160 #[nv a vca vka, sv sep, nv b vcb vkb] w K := by
  obtain ⟨_, aca, cca, rfl, _⟩ := id ha.cells
  obtain ⟨_, aka, cka, rfl, _⟩ := id ha.kids
  obtain ⟨_, acb, ccb, rfl, _⟩ := id hb.cells
  obtain ⟨_, akb, ckb, rfl, _⟩ := id hb.kids
  have hs1 := ha.small.cells
  have hs2 := hb.small.cells
  have hs3 := ha.small.kids
  have hs4 := hb.small.kids
  apply c160
  unfold F160
  refine boxA_k fun b3 w1 _ hb3 hf1 => ?_
  refine boxA_k fun b5 w2 _ hb5 hf2 => ?_
  refine alloc_k (P := P) (z := [.bool false, .slice none 0 0, .slice none 0 0]) fun b6 w3 _ hb6 hf3 => ?_
  have hb33 := (hb3.fr0 hf2).fr0 hf3
  have hb53 := hb5.fr0 hf3
  have hf13 := (hf1.trans hf2 (fun _ h => by cases h)).trans hf3 (fun _ h => by cases h)
  have ha3 := ha.fr0 hf13
  have hbb3 := hb.fr0 hf13
  have s1 := hf1.size
  have s2 := hf2.size
  have hl6 : w.heap.size ≤ b6 := by omega
  refine px_run ?_
  refine ldB hb33 rfl ?_
  unfold Node.join at k
  refine cnd_of (fun hleaf => ?_) (fun hleaf => ?_)
  · rw [if_pos hleaf] at k
    refine px_run ?_
    refine ldB hb33 rfl ?_
    refine px_run ?_
    refine ldB hb53 rfl ?_
    refine bs2_k (e := 153) fun v13 w4 h13 hf4 => ?_
    have ha4 := ha3.fr0 hf4
    have hbb4 := hbb3.fr0 hf4
    refine concC_k (l := a.cells ++ b.cells) (ps := [(.slice aca a.cells.length cca, a.cells.length, a.cells.flatMap cenc), (.slice acb b.cells.length ccb, b.cells.length, b.cells.flatMap cenc)]) h13
      (fun p hp => by
        simp only [List.mem_cons, List.not_mem_nil, or_false] at hp
        rcases hp with rfl | rfl
        · exact ⟨ha4.cells, atoms_cencs _⟩
        · exact ⟨hbb4.cells, atoms_cencs _⟩) (by simp) (by simp [totN]) (by simp [totX]) (by simp; omega) fun v14 w5 h14 hf5 hn14 => ?_
    obtain ⟨a14, c14, rfl⟩ := Own.atom h14
    refine px_of build155_lc ?_
    have hb65 := (hb6.fr0 hf4).fr0 hf5
    refine stA0_k hb65 (atoms_node _ _ _ _ _ _ _) rfl rfl fun w6 hb66 hf6 => ?_
    refine plA0 hb66 rfl ?_
    have hf46 := (hf4.trans hf5 (fun _ h => by cases h))
    have s4 := hf13.size
    have s5 := hf4.size
    refine k _ _ w6 ⟨h14.frb hf6 hb65 (by decide), Own.nil _ _ _, (hf13.trans hf46 (fun _ h => by cases h)).new hf6 (fun i hi => by omega), fun b hb => by have := hn14 b hb; omega, fun b hb => by cases hb⟩
  · rw [if_neg (by rw [hleaf]; simp)] at k
    refine cut_of (fun _ w6 => ∃ vc vk, Own w6 vc 159 4 (a.cells ++ sepC sep :: b.cells).length ((a.cells ++ sepC sep :: b.cells).flatMap cenc) ∧ Own w6 vk 3 1 (a.kids ++ b.kids).length ((a.kids ++ b.kids).flatMap kenc) ∧
      Fr no w w6 ∧ (∀ b, vc.ownBlock = some b → w.heap.size ≤ b) ∧ (∀ b, vk.ownBlock = some b → w.heap.size ≤ b) ∧ Bk w6 b6 155 [.bool false, vc, vk]) ?_ ?_
    · refine dr_of ?_
      have fd := Fr.dw w3
      have hbd3 := hb33.fr0 fd
      have hbd5 := hb53.fr0 fd
      have hbd6 := hb6.fr0 fd
      have had := ha3.fr0 fd
      have hbbd := hbb3.fr0 fd
      have hf0 := hf13.trans fd (fun _ h => by cases h)
      generalize dw w3 = w4 at hbd3 hbd5 hbd6 had hbbd hf0
      have s4 := hf0.size
      refine held_of (fun w' => Bk w' b3 155 [.bool a.leaf, .slice aca a.cells.length cca, .slice aka a.kids.length cka] ∧ Bk w' b5 155 [.bool b.leaf, .slice acb b.cells.length ccb, .slice akb b.kids.length ckb]) ⟨hbd3, hbd5⟩ ?_
      refine py_run ?_
      refine ldY hbd3 rfl ?_
      refine py_of (fun w' _ => build159) ?_
      refine py_run ?_
      refine ldY hbd5 rfl ?_
      refine py_run ?_
      refine ldBy (P := P) (fun w' hS => hS.1.cell 2) ?_
      refine py_run ?_
      refine ldBy (P := P) (fun w' hS => hS.2.cell 2) ?_
      have ne36 : b3 ≠ b6 := by
        have := hb33.lt
        have := hb3.lt
        omega
      have ne56 : b5 ≠ b6 := by
        have := hb5.lt
        omega
      -- the last: the node is laid down
      have hS : ∀ w5, Fr no w4 w5 → Bk w5 b3 155 [.bool a.leaf, .slice aca a.cells.length cca, .slice aka a.kids.length cka] ∧ Bk w5 b5 155 [.bool b.leaf, .slice acb b.cells.length ccb, .slice akb b.kids.length ckb] := fun w5 f => ⟨hbd3.fr0 f, hbd5.fr0 f⟩
      have fin : ∀ (v24 v30 : Value) (w5 : World), Own w5 v24 159 4 (a.cells ++ sepC sep :: b.cells).length ((a.cells ++ sepC sep :: b.cells).flatMap cenc) → Own w5 v30 3 1 (a.kids ++ b.kids).length ((a.kids ++ b.kids).flatMap kenc) → Fr no w4 w5 →
          (∀ b, v24.ownBlock = some b → w4.heap.size ≤ b) → (∀ b, v30.ownBlock = some b → w4.heap.size ≤ b) →
          py P (fun _ => True) (Instr.build 155 #[(1, v24), (2, v30)]) fun v31 =>
          pu P (Instr.storeAt 155 (pt b6) v31) w5 fun w'' => hs (fun w' => Bk w' b3 155 [.bool a.leaf, .slice aca a.cells.length cca, .slice aka a.kids.length cka] ∧ Bk w' b5 155 [.bool b.leaf, .slice acb b.cells.length ccb, .slice akb b.kids.length ckb]) w'' <|
          ∃ vc vk, Own w'' vc 159 4 (a.cells ++ sepC sep :: b.cells).length ((a.cells ++ sepC sep :: b.cells).flatMap cenc) ∧ Own w'' vk 3 1 (a.kids ++ b.kids).length ((a.kids ++ b.kids).flatMap kenc) ∧
            Fr no w w'' ∧ (∀ b, vc.ownBlock = some b → w.heap.size ≤ b) ∧ (∀ b, vk.ownBlock = some b → w.heap.size ≤ b) ∧ Bk w'' b6 155 [.bool false, vc, vk] := by
        intro v24 v30 w5 h24 h30 hf5 n24 n30
        obtain ⟨a24, c24, rfl⟩ := Own.atom h24
        obtain ⟨a30, c30, rfl⟩ := Own.atom h30
        refine py_of (fun w' _ => build155_ck) ?_
        have hb65 := hbd6.fr0 hf5
        refine stA0_k hb65 (atoms_node _ _ _ _ _ _ _) rfl rfl fun w6 hb66 hf6 => ?_
        refine hs_of ⟨((hS _ hf5).1).frb hf6 ne36, ((hS _ hf5).2).frb hf6 ne56⟩ ?_
        exact ⟨_, _, h24.frb hf6 hb65 (by decide), h30.frb hf6 hb65 (by decide), (hf0.trans hf5 (fun _ h => by cases h)).new hf6 (fun i hi => by omega), fun b hb => by have := n24 b hb; omega, fun b hb => by have := n30 b hb; omega, hb66⟩
      have cells24 : ∀ (w5 : World) (v20 v23 : Value) (K' : Value → World → Prop), Fr no w4 w5 → Sl w5 v20 4 1 ([sepC sep].flatMap cenc) → Sl w5 v23 1 3 [.slice aca a.cells.length cca, v20, .slice acb b.cells.length ccb] →
          (∀ v' w6, Own w6 v' 159 4 (a.cells ++ sepC sep :: b.cells).length ((a.cells ++ sepC sep :: b.cells).flatMap cenc) → Fr no w5 w6 → (∀ b, v'.ownBlock = some b → w4.heap.size ≤ b) → K' v' w6) → cl P 218 #[v23] w5 K' := by
        intro w5 v20 v23 K' hf5 h20 h23 hk
        refine concC_k (l := a.cells ++ sepC sep :: b.cells) (ps := [(.slice aca a.cells.length cca, a.cells.length, a.cells.flatMap cenc), (v20, 1, [sepC sep].flatMap cenc), (.slice acb b.cells.length ccb, b.cells.length, b.cells.flatMap cenc)]) h23
          (fun p hp => by
            simp only [List.mem_cons, List.not_mem_nil, or_false] at hp
            rcases hp with rfl | rfl | rfl
            · exact ⟨(had.fr0 hf5).cells, atoms_cencs _⟩
            · exact ⟨h20, atoms_cencs [sepC sep]⟩
            · exact ⟨(hbbd.fr0 hf5).cells, atoms_cencs _⟩) (by simp) (by simp [totN]; omega) (by simp [totX]) (by simp; omega) fun v' w6 h6 hf6 hn6 => ?_
        have := hf5.size
        exact hk v' w6 h6 hf6 fun b hb => by have := hn6 b hb; omega
      have kids30 : ∀ (w5 : World) (v29 : Value) (K' : Value → World → Prop), Fr no w4 w5 → Sl w5 v29 1 2 [.slice aka a.kids.length cka, .slice akb b.kids.length ckb] →
          (∀ v' w6, Own w6 v' 3 1 (a.kids ++ b.kids).length ((a.kids ++ b.kids).flatMap kenc) → Fr no w5 w6 → (∀ b, v'.ownBlock = some b → w4.heap.size ≤ b) → K' v' w6) → cl P 219 #[v29] w5 K' := by
        intro w5 v29 K' hf5 h29 hk
        refine concK_k (l := a.kids ++ b.kids) (ps := [(.slice aka a.kids.length cka, a.kids.length, a.kids.flatMap kenc), (.slice akb b.kids.length ckb, b.kids.length, b.kids.flatMap kenc)]) h29
          (fun p hp => by
            simp only [List.mem_cons, List.not_mem_nil, or_false] at hp
            rcases hp with rfl | rfl
            · exact ⟨(had.fr0 hf5).kids, atoms_kencs _⟩
            · exact ⟨(hbbd.fr0 hf5).kids, atoms_kencs _⟩) (by simp) (by simp [totN]) (by simp [totX]) (by simp; omega) fun v' w6 h6 hf6 hn6 => ?_
        have := hf5.size
        exact hk v' w6 h6 hf6 fun b hb => by have := hn6 b hb; omega
      have tr : ∀ {x y z : World}, Fr no x y → Fr no y z → Fr no x z := fun h k => h.trans k (fun _ h => by cases h)
      refine ⟨?_, ?_⟩
      · refine cell1_g fun bb w5 _ h20 hf5 => ?_
        refine hs_of (hS _ hf5) ?_
        refine ⟨?_, ?_⟩
        · refine bs3_g (e := 153) fun v23 w6 h23 hf6 => ?_
          have f6 := tr hf5 hf6
          refine hs_of (hS _ f6) ?_
          refine ⟨?_, ?_⟩
          · refine cells24 w6 _ v23 _ f6 (h20.sl.fr0 hf6) h23 fun v24 w7 h24 hf7 n24 => ?_
            have f7 := tr f6 hf7
            refine hs_of (hS _ f7) ?_
            refine bs2_g (e := 48) fun v29 w8 h29 hf8 => ?_
            have f8 := tr f7 hf8
            refine hs_of (hS _ f8) ?_
            refine kids30 w8 v29 _ f8 h29 fun v30 w9 h30 hf9 n30 => ?_
            have f9 := tr f8 hf9
            refine hs_of (hS _ f9) ?_
            exact fin v24 v30 w9 ((h24.fr0 hf8).fr0 hf9) h30 f9 n24 n30
          · refine bs2_g (e := 48) fun v29 w8 h29 hf8 => ?_
            have f8 := tr f6 hf8
            refine hs_of (hS _ f8) ?_
            refine cells24 w8 _ v23 _ f8 ((h20.sl.fr0 hf6).fr0 hf8) (h23.fr0 hf8) fun v24 w7 h24 hf7 n24 => ?_
            have f7 := tr f8 hf7
            refine hs_of (hS _ f7) ?_
            refine kids30 w7 v29 _ f7 (h29.fr0 hf7) fun v30 w9 h30 hf9 n30 => ?_
            have f9 := tr f7 hf9
            refine hs_of (hS _ f9) ?_
            exact fin v24 v30 w9 (h24.fr0 hf9) h30 f9 n24 n30
        · refine bs2_g (e := 48) fun v29 w6 h29 hf6 => ?_
          have f6 := tr hf5 hf6
          refine hs_of (hS _ f6) ?_
          refine bs3_g (e := 153) fun v23 w8 h23 hf8 => ?_
          have f8 := tr f6 hf8
          refine hs_of (hS _ f8) ?_
          refine cells24 w8 _ v23 _ f8 ((h20.sl.fr0 hf6).fr0 hf8) h23 fun v24 w7 h24 hf7 n24 => ?_
          have f7 := tr f8 hf7
          refine hs_of (hS _ f7) ?_
          refine kids30 w7 v29 _ f7 ((h29.fr0 hf8).fr0 hf7) fun v30 w9 h30 hf9 n30 => ?_
          have f9 := tr f7 hf9
          refine hs_of (hS _ f9) ?_
          exact fin v24 v30 w9 (h24.fr0 hf9) h30 f9 n24 n30
      · refine bs2_g (e := 48) fun v29 w5 h29 hf5 => ?_
        refine hs_of (hS _ hf5) ?_
        refine cell1_g fun bb w6 _ h20 hf6 => ?_
        have f6 := tr hf5 hf6
        refine hs_of (hS _ f6) ?_
        refine bs3_g (e := 153) fun v23 w8 h23 hf8 => ?_
        have f8 := tr f6 hf8
        refine hs_of (hS _ f8) ?_
        refine cells24 w8 _ v23 _ f8 (h20.sl.fr0 hf8) h23 fun v24 w7 h24 hf7 n24 => ?_
        have f7 := tr f8 hf7
        refine hs_of (hS _ f7) ?_
        refine kids30 w7 v29 _ f7 (((h29.fr0 hf6).fr0 hf8).fr0 hf7) fun v30 w9 h30 hf9 n30 => ?_
        have f9 := tr f7 hf9
        refine hs_of (hS _ f9) ?_
        exact fin v24 v30 w9 (h24.fr0 hf9) h30 f9 n24 n30
    · rintro vs w6 ⟨vc, vk, h1, h2, h3, h4, h5, h6⟩
      refine plA0 h6 rfl ?_
      exact k _ _ w6 ⟨h1, h2, h3, h4, h5⟩
end Go.Proofs.YtomggfibpbaodaaGreatDoor
