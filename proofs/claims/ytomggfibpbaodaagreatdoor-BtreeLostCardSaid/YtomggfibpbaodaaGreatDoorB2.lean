/-
  The tree: the way to a leaf.
-/
import Derived.Test.YtomggfibpbaodaaGreatDoorB
import Derived.Test.YtomggfibpbaodaaGreatDoorCB
set_option maxRecDepth 100000
namespace Go.Proofs.YtomggfibpbaodaaGreatDoor
open Go.V

/-! ### Nodes that are small -/
structure Node.Lim (k : Nat) (x : Node) : Prop where
  cells : x.cells.length ≤ k
  kids : x.kids.length ≤ k + 1
  strs : ∀ c ∈ x.cells, c.key.length ≤ 100 ∧ c.val.length ≤ 100
theorem Node.Lim.small {k : Nat} {x : Node} (h : x.Lim k) (hk : k ≤ 100000) : x.Small := ⟨Nat.le_trans h.cells hk, Nat.le_trans h.kids (by omega), h.strs⟩
theorem Node.Lim.mono {k k' : Nat} {x : Node} (h : x.Lim k) (hk : k ≤ k') : x.Lim k' := ⟨Nat.le_trans h.cells hk, Nat.le_trans h.kids (by omega), h.strs⟩
theorem decode_lim {l : List UInt8} {x : Node} (h : Node.decode l = some x) : x.Lim 512 ∧ x.check = true := by
  unfold Node.decode at h
  by_cases h5 : 512 < l.length
  · rw [if_pos h5] at h
    cases h
  rw [if_neg h5] at h
  simp only at h
  generalize ((⟨l, false⟩ : Rd).flag) = X at h
  have hc := Rd.count_le (R := X.2) (most := 512) (by omega)
  have hc0 := Rd.count_nonneg (R := X.2) (most := 512)
  have hs := cellsOf_small X.1 (X.2.count 512).1.toNat (X.2.count 512).2 [] (fun c hc => by cases hc)
  generalize (cellsOf X.1 (X.2.count 512).1.toNat (X.2.count 512).2 []) = C at h hs
  have hk := kidsOf_len (C.1.length + 1) C.2 []
  have hk2 : (if X.1 = true then (([] : List Int), C.2) else kidsOf (C.1.length + 1) C.2 []).1.length ≤ C.1.length + 1 := by
    split
    · simp
    · simpa using hk
  generalize (if X.1 = true then (([] : List Int), C.2) else kidsOf (C.1.length + 1) C.2 []) = D at h hk2
  split at h
  · cases h
  · rename_i h2
    cases h
    simp only [Bool.or_eq_true, Bool.not_eq_true', not_or, Bool.not_eq_true, Bool.not_eq_false] at h2
    have hl := hs.2
    simp only [List.length_nil] at hl
    exact ⟨⟨by simp only; omega, by simp only; omega, hs.1⟩, h2.1.2⟩
theorem chk_may {leaf : Bool} : ∀ {l : List Cell} {p : Option Str}, chk leaf p l = true → ∀ c ∈ l, c.may leaf = true
  | [], _, _, c, hc => by cases hc
  | a :: l, p, h, c, hc => by
    rw [chk_cons, Bool.and_eq_true, Bool.and_eq_true] at h
    rcases List.mem_cons.1 hc with rfl | hc
    · exact h.1.1
    · exact chk_may h.2 c hc
theorem Node.check_kids {x : Node} (h : x.check = true) : x.kids.length = if x.leaf then 0 else x.cells.length + 1 := by
  unfold Node.check at h
  simp only [Bool.and_eq_true, decide_eq_true_eq] at h
  exact h.2.1
theorem Node.check_may {x : Node} (h : x.check = true) : ∀ c ∈ x.cells, c.may x.leaf = true := by
  unfold Node.check at h
  simp only [Bool.and_eq_true] at h
  exact chk_may h.1
theorem Cell.may_size {c : Cell} {l : Bool} (h : c.may l = true) : 0 ≤ c.size := by
  unfold Cell.may at h
  split at h
  · cases h
  · split at h
    · simp only [decide_eq_true_eq] at h; omega
    · split at h
      · simp only [Bool.and_eq_true, decide_eq_true_eq] at h; omega
      · simp only [Bool.and_eq_true, countIn, decide_eq_true_eq] at h; omega
theorem readN_ok {p : Pg} {n : Int} {x : Node} (h : p.readN n = .ok x) : x.Lim 512 ∧ x.check = true ∧ (x.leaf = false → x.cells ≠ []) := by
  unfold Pg.readN at h
  split at h
  · cases h
  · split at h
    · cases h
    · rename_i y hy
      split at h
      · cases h
      · rename_i hc
        cases h
        obtain ⟨h1, h2⟩ := decode_lim hy
        exact ⟨h1, h2, fun hl hn => hc ⟨hl, hn⟩⟩
theorem Node.find_le (x : Node) (key : Str) : (x.find key).1 ≤ x.cells.length := by
  unfold Node.find
  have := fidx_ge (q := fun c : Cell => !ltS c.key key) (l := x.cells)
  split <;> simp <;> omega
theorem Node.find_lt {x : Node} {key : Str} (h : (x.find key).2 = true) : (x.find key).1 < x.cells.length := by
  unfold Node.find at h ⊢
  have := fidx_ge (q := fun c : Cell => !ltS c.key key) (l := x.cells)
  split
  · rename_i h0; rw [if_pos h0] at h; cases h
  · simp only; omega
theorem kid_le (x : Node) (key : Str) : kid x key ≤ x.cells.length := by
  unfold kid
  split
  · rename_i h
    have := Node.find_lt h
    omega
  · exact Node.find_le x key
structure StepOk (s : Step) : Prop where
  inner : s.n.leaf = false
  kids : s.n.kids.length = s.n.cells.length + 1
  cells : s.n.cells ≠ []
  at_ : s.at_ ≤ s.n.cells.length
  lim : s.n.Lim 512
  check : s.n.check = true
def WayOk : List Step → Prop
  | [] => True
  | x :: r => (x.n.leaf = true ∧ x.n.check = true ∧ x.at_ ≤ x.n.cells.length ∧ x.n.Lim 512) ∧ ∀ s ∈ r, StepOk s
theorem pathF_way {p : Pg} {key : Str} : ∀ (f : Nat) (page : Int) (out l : List Step), p.pathF key f page out = .ok l → (∀ s ∈ out, StepOk s) → (page = 0 → out = []) → WayOk l
  | 0, _, _, _, h, _, _ => by cases h
  | f + 1, page, out, l, h, ho, h0 => by
    unfold Pg.pathF at h
    by_cases hp : page = 0
    · rw [if_pos hp] at h
      cases h
      rw [h0 hp]
      trivial
    · rw [if_neg hp] at h
      cases hr : p.readN page with
      | error e => rw [hr] at h; cases h
      | ok x =>
        rw [hr] at h
        simp only at h
        obtain ⟨h1, h2, h3⟩ := readN_ok hr
        split at h
        · cases h
        · split at h
          · rename_i hl
            cases h
            exact ⟨⟨hl, h2, Node.find_le x key, h1⟩, ho⟩
          · rename_i hl
            split at h
            · cases h
            · rename_i hn
              have hlf : x.leaf = false := by simpa using hl
              have hk := Node.check_kids h2
              rw [hlf, if_neg (by simp)] at hk
              refine pathF_way f _ _ l h (fun s hs => ?_) (fun e => absurd e hn)
              rcases List.mem_cons.1 hs with rfl | hs
              · exact ⟨hlf, hk, h3 hlf, kid_le x key, h1, h2⟩
              · exact ho s hs
theorem path_way {p : Pg} {key : Str} {l : List Step} (h : p.path key = .ok l) : WayOk l := pathF_way 42 _ [] l h (fun s hs => by cases hs) (fun _ => rfl)

/-! ### Ways in memory -/
structure NodeO (w : World) (vc vk : Value) (x : Node) : Prop where
  cells : Own w vc 159 4 x.cells.length (x.cells.flatMap cenc)
  kids : Own w vk 3 1 x.kids.length (x.kids.flatMap kenc)
  small : x.Small
theorem NodeO.at {w : World} {vc vk : Value} {x : Node} (h : NodeO w vc vk x) : NodeAt w vc vk x := ⟨h.cells.sl, h.kids.sl, h.small⟩
/-- What may turn without a way's turning. -/
def Quiet (w : World) (G : Nat → Prop) : Prop := ∀ i t cs, G i → Bk w i t cs → t ≠ 157 ∧ t ≠ 159 ∧ t ≠ 3 ∧ t ≠ 165
theorem Quiet.mu {w : World} {F : Nat → Prop} (h : ∀ i, F i → Mut w i) : Quiet w F := fun i t cs hF hb => by
  rcases (h i hF).ne hb with h | h | h | h | h | h <;> subst h <;> decide
theorem Quiet.no (w : World) : Quiet w no := fun _ _ _ h => h.elim
theorem Quiet.bk {w : World} {b t : Nat} {cs : List Value} (h : Bk w b t cs) (ht : t ≠ 157 ∧ t ≠ 159 ∧ t ≠ 3 ∧ t ≠ 165) : Quiet w (fun i => i = b) := fun i t' cs' e hb => by
  have e' : i = b := e
  subst e'
  rw [Bk.typ hb h]; exact ht
theorem NodeO.fr {w w1 : World} {vc vk : Value} {x : Node} {G : Nat → Prop} (h : NodeO w vc vk x) (f : Fr G w w1) (hG : Quiet w G) : NodeO w1 vc vk x :=
  ⟨h.cells.fr f (fun i hi hg => by obtain ⟨cs, hb⟩ := Own.bkk h.cells hi; exact (hG i _ cs hg hb).2.1 rfl), h.kids.fr f (fun i hi hg => by obtain ⟨cs, hb⟩ := Own.bkk h.kids hi; exact (hG i _ cs hg hb).2.2.1 rfl), h.small⟩
theorem TreeAt.q {w w1 : World} {t b : Nat} {G : Nat → Prop} (h : TreeAt w t b) (f : Fr G w w1) (hG : Quiet w G) : TreeAt w1 t b := Bk.fr h f (fun hg => (hG _ _ _ hg h).2.2.2 rfl)
theorem NodeN.o {w w1 : World} {vc vk : Value} {x : Node} (h : NodeN w w1 vc vk x) (hs : x.Small) : NodeO w1 vc vk x := ⟨h.cells, h.kids, hs⟩
abbrev SV := Step × Value × Value
def senc (s : SV) : List Value := [iv s.1.page, iv s.1.at_, .bool s.1.n.leaf, s.2.1, s.2.2]
theorem senc_length (s : SV) : (senc s).length = 5 := rfl
theorem sencs_length (l : List SV) : (l.flatMap senc).length = l.length * 5 := by
  induction l with
  | nil => rfl
  | cons a l ih => simp only [List.flatMap_cons, List.length_append, ih, senc_length, List.length_cons]; omega
structure PathS (w : World) (v : Value) (l : List SV) : Prop where
  sl : Sl w v 5 l.length (l.flatMap senc)
  blk : ∀ i, v.ownBlock = some i → ∃ cs, Bk w i 157 cs
  nodes : ∀ x ∈ l, NodeO w x.2.1 x.2.2 x.1.n
theorem PathS.fr {w w1 : World} {v : Value} {l : List SV} {G : Nat → Prop} (h : PathS w v l) (f : Fr G w w1) (hG : Quiet w G) : PathS w1 v l :=
  ⟨h.sl.fr f (fun i hi hg => by obtain ⟨cs, hb⟩ := h.blk i hi; exact (hG i _ cs hg hb).1 rfl), fun i hi => by
    obtain ⟨cs, hb⟩ := h.blk i hi
    exact ⟨cs, hb.fr f (fun hg => (hG i _ cs hg hb).1 rfl)⟩, fun x hx => (h.nodes x hx).fr f hG⟩
theorem PathS.fr0 {w w1 : World} {v : Value} {l : List SV} (h : PathS w v l) (f : Fr no w w1) : PathS w1 v l := h.fr f (Quiet.no w)
instance : StructT P 157 [(0, 1), (1, 1), (2, 3)] := ⟨by kernel_rfl, fun w => by kernel_rfl⟩
theorem build157 {w : World} {n m : Int} {l : Bool} {a a' : Option Addr} {k k' c c' : Nat} : (Instr.build 157 #[(0, iv n), (1, iv m), (2, .agg [.bool l, .slice a k c, .slice a' k' c'].toArray)]).run P w = .ok (.agg [iv n, iv m, .bool l, .slice a k c, .slice a' k' c'].toArray) w := by
  refine build_run (P := P) (t := 157) (places := [(0, 1), (1, 1), (2, 3)]) (z := [.int .i64 0, .int .i64 0, .bool false, .slice none 0 0, .slice none 0 0]) ?_
  rw [fill_cons (xs := [iv n]) (off := 0) (size := 1) rfl rfl rfl (by simp), fill_cons (xs := [iv m]) (off := 1) (size := 1) rfl rfl rfl (by rw [spl_length (by simp)]; simp),
    fill_cons (xs := [.bool l, .slice a k c, .slice a' k' c']) (off := 2) (size := 3) rfl rfl rfl (by rw [spl_length (by rw [spl_length (by simp)]; simp), spl_length (by simp)]; simp), fill_nil]
  rfl
theorem atoms_step (n m : Int) (l : Bool) (a a' : Option Addr) (k k' c c' : Nat) : Atoms [iv n, iv m, .bool l, .slice a k c, .slice a' k' c'] := fun y hy => by
  simp only [List.mem_cons, List.not_mem_nil, or_false] at hy
  rcases hy with rfl | rfl | rfl | rfl | rfl <;> exact inferInstance
theorem NodeO.slices {w : World} {vc vk : Value} {x : Node} (h : NodeO w vc vk x) : ∃ a c a' c', vc = .slice a x.cells.length c ∧ vk = .slice a' x.kids.length c' := by
  obtain ⟨_, a, c, rfl, _⟩ := id h.cells.sl
  obtain ⟨_, a', c', rfl, _⟩ := id h.kids.sl
  exact ⟨a, c, a', c', rfl, rfl⟩
section
variable {w w1 : World} {t b d : Nat} {p : Pg} {F : Nat → Prop} {K : Value → World → Prop}
theorem bslice150_k {n : Int} {m : Nat} {l : Bool} {a a' : Option Addr} {k k' c c' : Nat} (kk : ∀ b w1, b = w.heap.size → Own w1 (.slice (some ⟨b, 0, none⟩) 1 1) 157 5 1 [iv n, iv m, .bool l, .slice a k c, .slice a' k' c'] → Fr no w w1 → K (.slice (some ⟨b, 0, none⟩) 1 1) w1) :
    px P (Instr.buildSlice 150 1 #[(0, .agg [iv n, iv m, .bool l, .slice a k c, .slice a' k' c'].toArray)]) w K :=
  bslice1_k (P := P) (t := 150) (e := 157) (sz := 5) (z := [.int .i64 0, .int .i64 0, .bool false, .slice none 0 0, .slice none 0 0]) (xs := [iv n, iv m, .bool l, .slice a k c, .slice a' k' c']) rfl rfl rfl (by omega) (by omega) kk
theorem pathF_succ (p : Pg) (key : Str) (f : Nat) (page : Int) (out : List Step) : p.pathF key (f + 1) page out =
    if page = 0 then .ok out else
    match p.readN page with
    | .error e => .error e
    | .ok x =>
      if out.length = 40 then .error 4 else
      if x.leaf then .ok (⟨page, (x.find key).1, x⟩ :: out) else
      if x.kids.getD (kid x key) 0 = 0 then .error 4 else p.pathF key f (x.kids.getD (kid x key) 0) (⟨page, kid x key, x⟩ :: out) := rfl
theorem path_k {key : Str} (ht : TreeAt w t b) (h : PgM w b d p F) (hw : p.WF)
    (k0 : ∀ e w1, p.path key = .error e → e ≠ 0 → Fr no w w1 → K (.tuple #[.slice none 0 0, iv e]) w1)
    (k1 : ∀ v l w1, p.path key = .ok (l.map (·.1)).reverse → PathS w1 v l → Fr no w w1 → K (.tuple #[v, iv 0]) w1) : cl P 79 #[pt t, sv key] w K := by
  apply c79
  unfold F79
  refine nc_ptr ?_
  refine px_run ?_
  refine ldB ht rfl ?_
  obtain ⟨r, md, mn, mi, mc, Fd, hR⟩ := id h
  refine root_k hR ?_
  unfold Pg.path at k0 k1
  generalize hPX : p.pathF key 42 p.m.root [] = PX at k0 k1
  refine lp_of (fun vs w' => ∃ (v : Value) (page : Int) (l : List SV), vs = [v, iv page] ∧ Own w' v 157 5 l.length (l.flatMap senc) ∧ (∀ x ∈ l, NodeO w' x.2.1 x.2.2 x.1.n) ∧ l.length ≤ 40 ∧ (∀ i, v.ownBlock = some i → w.heap.size ≤ i) ∧ Fr no w w' ∧
      PX = p.pathF key (42 - l.length) page (l.map (·.1)).reverse)
    (fun vs _ => (match vs with | [.slice _ n _, _] => 41 - n | _ => 0)) ⟨.slice none 0 0, p.m.root, [], rfl, Own.nil _ _ _, fun _ h => (by cases h), by simp, fun _ h => (by cases h), Fr.refl _ _, hPX.symm⟩ ?_
  rintro vs w2 ⟨v, page, l, rfl, hO, hN, hl, hnew, f2, he⟩
  obtain ⟨av, cv, rfl⟩ := Own.atom hO
  have ht2 := ht.fr0 f2
  have h2 := h.fr0 f2
  obtain ⟨f, hf⟩ : ∃ f, 42 - l.length = f + 1 := ⟨41 - l.length, by omega⟩
  have hlen : (l.map (·.1)).reverse.length = l.length := by simp
  rw [hf, pathF_succ, hlen] at he
  rw [he] at k0 k1
  simp only [g0_cons, g1_cons]
  refine px_run ?_
  refine cnd_dec (fun hp => ?_) (fun hp => ?_)
  · rw [if_neg hp] at k0 k1 he
    refine readN_k ht2 h2 hw (fun e lf a m c a' m' c' w3 hr hne hf3 => ?_) (fun x vc vk w3 hr hX hsm => ?_)
    · rw [hr] at k0
      simp only at k0
      refine px_run ?_
      refine px_run ?_
      refine alloc_k (P := P) (z := [.bool false, .slice none 0 0, .slice none 0 0]) fun b8 w4 hb8e hb8 hf4 => ?_
      refine stA0_k hb8 (atoms_node _ _ _ _ _ _ _) rfl rfl fun w5 hb85 hf5 => ?_
      refine px_run ?_
      have hd : decide (e ≠ 0) = true := decide_eq_true hne
      simp only [hd]
      refine cnd_true ?_
      have s3 := hf3.size
      exact k0 e w5 rfl hne ((f2.trans hf3 (fun _ h => by cases h)).trans (hf4.new hf5 (fun i hi => by omega)) (fun _ h => by cases h))
    · rw [hr] at k0 k1 he
      simp only at k0 k1 he
      have hO3 := hX.o hsm
      obtain ⟨a, c, a', c', rfl, rfl⟩ := hO3.slices
      refine px_run ?_
      refine px_run ?_
      refine alloc_k (P := P) (z := [.bool false, .slice none 0 0, .slice none 0 0]) fun b8 w4 hb8e hb8 hf4 => ?_
      refine stA0_k hb8 (atoms_node _ _ _ _ _ _ _) rfl rfl fun w5 hb85 hf5 => ?_
      have s3 := hX.fr.size
      have f35 : Fr no w3 w5 := hf4.new hf5 (fun i hi => by omega)
      have f25 := hX.fr.trans f35 (fun _ h => by cases h)
      have f5 := f2.trans f25 (fun _ h => by cases h)
      refine px_run ?_
      refine cnd_false ?_
      refine px_run ?_
      refine px_run ?_
      refine cnd_dec (fun h40 => ?_) (fun h40 => ?_)
      · rw [if_pos (by omega)] at k0
        exact k0 4 w5 rfl (by decide) f5
      have h40' : ¬ (l.length = 40) := by omega
      rw [if_neg h40'] at k0 k1 he
      have hO5 := hO3.fr f35 (Quiet.no _)
      have hrow5 := hO.fr0 f25
      have hN5 : ∀ x ∈ l, NodeO w5 x.2.1 x.2.2 x.1.n := fun x hx => (hN x hx).fr f25 (Quiet.no _)
      refine px_run ?_
      refine ldB hb85 rfl ?_
      cases hlf : x.leaf
      · simp only [hlf, Bool.false_eq_true, if_false] at k0 k1 he
        refine cnd_false ?_
        refine ldA0 hb85 rfl ?_
        obtain ⟨hlim, hck, hne⟩ := readN_ok hr
        have hkl := Node.check_kids hck
        rw [hlf, if_neg (by simp)] at hkl
        have hkk := kid_le x key
        refine kid_k hO5.at fun w6 hf6 => ?_
        have hb86 := hb85.fr0 hf6
        refine ldA0 hb86 rfl ?_
        rw [hlf]
        refine px_of build157 ?_
        refine bslice150_k fun bs w7 _ hs7 hf7 => ?_
        have f57 := hf6.trans hf7 (fun _ h => by cases h)
        refine append_k (P := P) (by' := 72) (hrow5.fr0 f57) hs7.sl (atoms_step _ _ _ _ _ _ _ _ _) (by unfold maxLen; omega) (by omega) fun v8 w8 hv8 hf8 hn8 => ?_
        have hb88 : Bk w8 b8 155 [.bool x.leaf, .slice a x.cells.length c, .slice a' x.kids.length c'] := (hb86.fr0 hf7).fr hf8 (fun e => Own.ne_bk (hrow5.fr0 f57) (hb86.fr0 hf7) (by decide) e)
        have g8 : ∀ (x : Node) (vc vk : Value), NodeO w7 vc vk x → NodeO w8 vc vk x := fun x vc vk hn =>
          ⟨hn.cells.fr hf8 (fun i hi e => Own.ne_own (hrow5.fr0 f57) hn.cells (by decide) i e hi), hn.kids.fr hf8 (fun i hi e => Own.ne_own (hrow5.fr0 f57) hn.kids (by decide) i e hi), hn.small⟩
        have hO8 := g8 _ _ _ (hO5.fr f57 (Quiet.no _))
        have hN8 : ∀ x ∈ l, NodeO w8 x.2.1 x.2.2 x.1.n := fun x hx => g8 _ _ _ ((hN5 x hx).fr f57 (Quiet.no _))
        have f8 : Fr no w w8 := (f5.trans f57 (fun _ h => by cases h)).new hf8 (fun i hi => hnew i hi)
        refine px_run ?_
        refine ldB hb88 rfl ?_
        refine idx_s (P := P) hO8.kids.sl (by omega) (kid x key) rfl (by omega) fun bb o _ hc => ?_
        have h0 := hc 0 (by omega)
        rw [Nat.mul_one, Nat.add_zero, Nat.add_zero, kencs_get (by omega)] at h0
        refine ld1 (P := P) h0 ?_
        have hget : x.kids.getD (kid x key) 0 = x.kids[kid x key]'(by omega) := by simp [List.getD, show kid x key < x.kids.length by omega]
        rw [hget] at k0 k1 he
        refine px_run ?_
        refine cnd_dec (fun hz => ?_) (fun hz => ?_)
        · rw [if_pos hz] at k0
          exact k0 4 w8 rfl (by decide) f8
        · rw [if_neg hz] at he
          have e1 : (l ++ [((⟨page, kid x key, x⟩, .slice a x.cells.length c, .slice a' x.kids.length c') : SV)]).flatMap senc = l.flatMap senc ++ [iv page, iv (kid x key : Nat), .bool false, .slice a x.cells.length c, .slice a' x.kids.length c'] := by
            rw [List.flatMap_append]
            simp [senc, hlf]
          have e2 : (l ++ [((⟨page, kid x key, x⟩, .slice a x.cells.length c, .slice a' x.kids.length c') : SV)]).length = l.length + 1 := by simp
          refine ⟨⟨v8, _, l ++ [(⟨page, kid x key, x⟩, .slice a x.cells.length c, .slice a' x.kids.length c')], rfl, ?_, ?_, by rw [e2]; omega, ?_, f8, ?_⟩, ?_⟩
          · rw [e1, e2]
            exact hv8
          · intro y hy
            rcases List.mem_append.1 hy with hy | hy
            · exact hN8 y hy
            · simp only [List.mem_singleton] at hy
              subst hy
              exact hO8
          · intro i hi
            rcases hn8 i hi with h | h
            · exact hnew i h
            · have := f5.size
              have := f57.size
              omega
          · have e3 : ((l ++ [((⟨page, kid x key, x⟩, .slice a x.cells.length c, .slice a' x.kids.length c') : SV)]).map (·.1)).reverse = ⟨page, kid x key, x⟩ :: (l.map (·.1)).reverse := by simp
            rw [e2, show 42 - (l.length + 1) = f by omega, he, e3]
          · obtain ⟨_, a8, c8, rfl, _⟩ := id hv8.sl
            show 41 - (l.length + 1) < 41 - l.length
            omega
      · simp only [hlf, if_true] at k0 k1 he
        refine cnd_true ?_
        refine ldA0 hb85 rfl ?_
        refine find_k hO5.at fun w6 hf6 => ?_
        have hb86 := hb85.fr0 hf6
        refine px_run ?_
        refine px_run ?_
        refine ldA0 hb86 rfl ?_
        rw [hlf]
        refine px_of build157 ?_
        refine bslice150_k fun bs w7 _ hs7 hf7 => ?_
        have f57 := hf6.trans hf7 (fun _ h => by cases h)
        refine append_k (P := P) (by' := 72) (hrow5.fr0 f57) hs7.sl (atoms_step _ _ _ _ _ _ _ _ _) (by unfold maxLen; omega) (by omega) fun v8 w8 hv8 hf8 hn8 => ?_
        have g8 : ∀ (x : Node) (vc vk : Value), NodeO w7 vc vk x → NodeO w8 vc vk x := fun x vc vk hn =>
          ⟨hn.cells.fr hf8 (fun i hi e => Own.ne_own (hrow5.fr0 f57) hn.cells (by decide) i e hi), hn.kids.fr hf8 (fun i hi e => Own.ne_own (hrow5.fr0 f57) hn.kids (by decide) i e hi), hn.small⟩
        have hO8 := g8 _ _ _ (hO5.fr f57 (Quiet.no _))
        have hN8 : ∀ x ∈ l, NodeO w8 x.2.1 x.2.2 x.1.n := fun x hx => g8 _ _ _ ((hN5 x hx).fr f57 (Quiet.no _))
        have f8 : Fr no w w8 := (f5.trans f57 (fun _ h => by cases h)).new hf8 (fun i hi => hnew i hi)
        have e1 : (l ++ [((⟨page, (x.find key).1, x⟩, .slice a x.cells.length c, .slice a' x.kids.length c') : SV)]).flatMap senc = l.flatMap senc ++ [iv page, iv ((x.find key).1 : Nat), .bool true, .slice a x.cells.length c, .slice a' x.kids.length c'] := by
          rw [List.flatMap_append]
          simp [senc, hlf]
        have e2 : (l ++ [((⟨page, (x.find key).1, x⟩, .slice a x.cells.length c, .slice a' x.kids.length c') : SV)]).length = l.length + 1 := by simp
        refine k1 v8 (l ++ [(⟨page, (x.find key).1, x⟩, .slice a x.cells.length c, .slice a' x.kids.length c')]) w8 (by simp) ⟨?_, fun i hi => Own.bkk hv8 hi, ?_⟩ f8
        · rw [e1, e2]
          exact hv8.sl
        · intro y hy
          rcases List.mem_append.1 hy with hy | hy
          · exact hN8 y hy
          · simp only [List.mem_singleton] at hy
            subst hy
            exact hO8
  · rw [if_pos (by omega)] at k0 k1
    exact k1 _ l w2 rfl ⟨hO.sl, fun i hi => Own.bkk hO hi, hN⟩ f2
end
end Go.Proofs.YtomggfibpbaodaaGreatDoor
