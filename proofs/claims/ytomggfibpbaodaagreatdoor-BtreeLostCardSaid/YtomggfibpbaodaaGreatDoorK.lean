/-
  Package code: numbers, texts, truth values as bytes.
-/
import Derived.Test.YtomggfibpbaodaaGreatDoorD
import Derived.Test.YtomggfibpbaodaaGreatDoorCC
set_option maxRecDepth 100000
namespace Go.Proofs.YtomggfibpbaodaaGreatDoor
open Go.V

abbrev u8v (c : UInt8) : Value := .int .u8 (c.toNat : Int)
abbrev iv (n : Int) : Value := .int .i64 n
theorem wrap_u8 (n : Nat) : IntKind.u8.wrap (n : Int) = ((UInt8.ofNat n).toNat : Int) := by
  simp only [IntKind.wrap, IntKind.signed, IntKind.bits]
  simp
theorem conv_u8 {src : TypeId} {k : IntKind} {n : Nat} {w : World} (hs : (P.underlying src).isSome = true) : (convert src 5 (.int k (n : Int))).run P w = .ok (u8v (UInt8.ofNat n)) w := by
  obtain ⟨d, hd⟩ := Option.isSome_iff_exists.1 hs
  have h5 : P.underlying 5 = some (.int .u8) := by kernel_rfl
  simp only [convert, run_underlying hd, run_underlying h5, Sem.run_bind, Result.andThen_ok]
  cases d <;> simp [Conv.intToInt, wrap_u8]
theorem or_u8 {a b : UInt8} {c : Bool} {w : World} : (bin c .or 5 (u8v a) (u8v b)).run P w = .ok (u8v (a ||| b)) w := by
  refine bin_of _ _ _ (by cases c <;> rfl) ?_
  show (Op.intBits .or .u8 _ _).run P w = _
  have : IntKind.u8.wrap (((BitVec.ofInt 8 (a.toNat : Int) ||| BitVec.ofInt 8 (b.toNat : Int)).toNat : Nat) : Int) = ((a ||| b).toNat : Int) := by
    simp only [BitVec.ofInt_natCast, BitVec.toNat_or, BitVec.toNat_ofNat]
    rw [wrap_u8]
    congr 1
    have ha := a.toNat_lt
    have hb := b.toNat_lt
    simp [UInt8.toNat_or]
  show Result.ok _ w = _
  rw [show IntKind.bits .u8 = 8 from rfl, this]
theorem shr_u64 {n s : Nat} {c : Bool} {w : World} {t : TypeId} {k k' : IntKind} (hs : s ≤ k.bits) : (bin c .shr t (.int k (n : Int)) (.int k' (s : Int))).run P w = .ok (.int k ((n / 2 ^ s : Nat) : Int)) w := by
  refine bin_of _ _ _ (by cases c <;> rfl) ?_
  show (Op.shift .shr k _ k' _).run P w = _
  have h0 : ¬ ((s : Int) < 0) := by omega
  have hm : min s k.bits = s := Nat.min_eq_left hs
  simp only [Op.shift, h0, if_false, Int.toNat_natCast, hm, Sem.run_pure]
  have hd : (n : Int).fdiv (2 ^ s) = ((n / 2 ^ s : Nat) : Int) := by
    rw [Int.fdiv_eq_ediv_of_nonneg _ (Int.pow_nonneg (by omega))]
    simp
  rw [hd]

theorem byte1_k {w : World} {c : UInt8} {K : Value → World → Prop} (k : ∀ b w1, b = w.heap.size → Own w1 (.slice (some ⟨b, 0, none⟩) 1 1) 5 1 1 (bs [c]) → Fr no w w1 → K (.slice (some ⟨b, 0, none⟩) 1 1) w1) :
    px P (Instr.buildSlice 43 1 #[(0, u8v c)]) w K := bslice1_k (P := P) (sz := 1) (z := [.int .u8 0]) (xs := bs [c]) rfl rfl rfl (by omega) (by omega) k
/-- A number without a sign. -/
def uvF : Nat → Nat → List UInt8
  | 0, _ => []
  | f + 1, u => if 127 < u then (UInt8.ofNat u ||| 128) :: uvF f (u / 128) else [UInt8.ofNat u]
def uv (u : Nat) : List UInt8 := uvF 10 u
theorem uvF_length : ∀ (f u : Nat), (uvF f u).length ≤ f
  | 0, _ => Nat.le_refl _
  | f + 1, u => by
    unfold uvF
    split
    · have := uvF_length f (u / 128); simp; omega
    · simp
/-- Bytes in new memory. -/
structure NewB (w w1 : World) (v : Value) (l : List UInt8) : Prop where
  own : Own w1 v 5 1 l.length (bs l)
  fr : Fr no w w1
  new : ∀ b, v.ownBlock = some b → w.heap.size ≤ b
theorem NewB.then {w w1 w2 : World} {v : Value} {l : List UInt8} (f : Fr no w w1) (h : NewB w1 w2 v l) : NewB w w2 v l :=
  ⟨h.own, f.trans h.fr (by intro i hi; cases hi), fun b hb => by have := h.new b hb; have := f.size; omega⟩
theorem uvarint_k {w : World} {v : Value} {l : List UInt8} {u : Nat} {K : Value → World → Prop} (h : Sl w v 1 l.length (bs l)) (hl : l.length ≤ 100000000) (hu : u < 2 ^ 63)
    (k : ∀ v' w1, NewB w w1 v' (l ++ uv u) → K v' w1) : cl P 227 #[v, .int .u64 (u : Int)] w K := by
  apply c227
  unfold F227
  refine bclone_k h (by omega) fun v1 w1 ho hf hown => ?_
  refine lp_of (fun vs w' => ∃ (f u' : Nat) (v' : Value) (pre : List UInt8), vs = [.int .u64 (u' : Int), v'] ∧ u' < 2 ^ (7 * f) ∧ 0 < f ∧ pre.length + f = 10 ∧ uv u = pre ++ uvF f u' ∧ Own w' v' 5 1 (l ++ pre).length (bs (l ++ pre)) ∧ Fr no w w' ∧ (∀ b, v'.ownBlock = some b → w.heap.size ≤ b))
    (fun vs _ => (match vs with | .int _ n :: _ => n.toNat | _ => 0)) ⟨10, u, v1, [], rfl, (Nat.lt_of_lt_of_le hu (Nat.pow_le_pow_right (by omega) (by omega))), by omega, rfl, rfl, by simpa using ho, hf, hown⟩ ?_
  rintro vs w2 ⟨f, u', v', pre, rfl, hlt, hf0, hpre, huv, ho2, hf2, hown2⟩
  obtain ⟨f, rfl⟩ : ∃ g, f = g + 1 := ⟨f - 1, by omega⟩
  simp only [g0, g1, List.getD_cons_zero, List.getD_cons_succ]
  refine px_run ?_
  refine cnd_dec (fun hgt => ?_) (fun hle => ?_)
  · have hgt' : 127 < u' := by omega
    have hfpos : 0 < f := by
      rcases Nat.eq_zero_or_pos f with h0 | h0
      · subst h0; simp at hlt; omega
      · exact h0
    refine px_of (conv_u8 (by kernel_rfl)) ?_
    refine px_of (or_u8 (a := UInt8.ofNat u') (b := 128)) ?_
    refine byte1_k fun b w3 hb ho3 hf3 => ?_
    refine append_k (P := P) (ho2.fr0 hf3) ho3.sl (atoms_bs _) (by unfold maxLen; simp; omega) (by simp; omega) fun v4 w4 ho4 hf4 hown4 => ?_
    refine px_of (shr_u64 (n := u') (s := 7) (by decide)) ?_
    have huvF : uvF (f + 1) u' = (UInt8.ofNat u' ||| 128) :: uvF f (u' / 128) := by simp only [uvF, if_pos hgt']
    refine ⟨⟨f, u' / 128, v4, pre ++ [UInt8.ofNat u' ||| 128], rfl, ?_, hfpos, by simp; omega, by rw [huv, huvF]; simp, ?_, (hf2.trans hf3 (by intro i hi; cases hi)).new hf4 (fun i hi => hown2 i hi), fun b hb => ?_⟩, ?_⟩
    · have : 2 ^ (7 * (f + 1)) = 128 * 2 ^ (7 * f) := by rw [Nat.mul_add, Nat.pow_add]; omega
      omega
    · rw [← List.append_assoc, List.length_append, bs_append]; exact ho4
    · rcases hown4 b hb with h1 | h1
      · exact hown2 b h1
      · have := hf2.size; have := hf3.size; omega
    · show (u' / 128 : Int).toNat < (u' : Int).toNat
      omega
  · have hle' : ¬ 127 < u' := by omega
    refine px_of (conv_u8 (by kernel_rfl)) ?_
    refine byte1_k fun b w3 hb ho3 hf3 => ?_
    refine append_k (P := P) (ho2.fr0 hf3) ho3.sl (atoms_bs _) (by unfold maxLen; simp; omega) (by simp; omega) fun v4 w4 ho4 hf4 hown4 => ?_
    have huvF : uvF (f + 1) u' = [UInt8.ofNat u'] := by simp only [uvF, if_neg hle']
    refine k v4 w4 ⟨?_, ((hf2.trans hf3 (by intro i hi; cases hi)).new hf4 (fun i hi => hown2 i hi)), fun b hb => ?_⟩
    · rw [huv, huvF, ← List.append_assoc, List.length_append (bs := [UInt8.ofNat u']), bs_append]; exact ho4
    · rcases hown4 b hb with h1 | h1
      · exact hown2 b h1
      · have := hf2.size; have := hf3.size; omega
def cnt (n : Int) : List UInt8 := if n < 0 ∨ 2147483647 < n then [] else uv n.toNat
theorem uv_length (u : Nat) : (uv u).length ≤ 10 := uvF_length 10 u
theorem cnt_length (n : Int) : (cnt n).length ≤ 10 := by
  unfold cnt; split
  · simp
  · exact uv_length _
theorem conv_i64_u64 {n : Nat} {w : World} (h : (n : Int) ≤ 9223372036854775807) : (convert 3 321 (.int .i64 (n : Int))).run P w = .ok (.int .u64 (n : Int)) w := by
  have h3 : P.underlying 3 = some (.int .i64) := by kernel_rfl
  have h5 : P.underlying 321 = some (.int .u64) := by kernel_rfl
  have hw : IntKind.u64.wrap (n : Int) = (n : Int) := by
    simp only [IntKind.wrap, IntKind.signed, IntKind.bits]
    simp
    omega
  simp only [convert, run_underlying h3, run_underlying h5, Sem.run_bind, Result.andThen_ok]
  simp [Conv.intToInt, hw]
theorem count_k {w : World} {v : Value} {l : List UInt8} {n : Int} {K : Value → World → Prop} (h : Sl w v 1 l.length (bs l)) (hl : l.length ≤ 100000000)
    (k : ∀ v' w1, NewB w w1 v' (l ++ cnt n) → K v' w1) : cl P 168 #[v, iv n] w K := by
  have bad : (n < 0 ∨ 2147483647 < n) → cl P 175 #[v] w K := fun hb => bclone_k h (by omega) fun v1 w1 ho hf hown => k v1 w1 (by
    rw [cnt, if_pos hb, List.append_nil]; exact ⟨ho, hf, hown⟩)
  apply c168
  unfold F168
  refine px_run ?_
  by_cases h1 : n < 0
  · simp only [h1, decide_true]
    iterate 2 refine gd_tf ?_
    refine pk_true ?_
    exact cnd_true (cl_k (bad (.inl h1)) fun v w h => h)
  simp only [h1, decide_false]
  refine gd_ff ?_
  refine gd_ff ?_
  refine px_run ?_
  refine pk_false ?_
  refine cnd_dec (fun h2 => cl_k (bad (.inr (by omega))) fun v w h => h) fun h2 => ?_
  obtain ⟨m, rfl⟩ := Int.eq_ofNat_of_zero_le (show 0 ≤ n by omega)
  refine px_of (conv_i64_u64 (by omega)) ?_
  refine uvarint_k h hl (by omega) fun v' w1 h' => k v' w1 ?_
  rw [cnt, if_neg (by omega), Int.toNat_natCast]
  exact h'
def str (s : Str) : List UInt8 := if 2147483647 < s.length then [] else cnt s.length ++ s
theorem str_k {w : World} {v : Value} {l : List UInt8} {s : Str} {K : Value → World → Prop} (h : Sl w v 1 l.length (bs l)) (hl : l.length ≤ 100000000)
    (k : ∀ v' w1, NewB w w1 v' (l ++ str s) → K v' w1) : cl P 167 #[v, sv s] w K := by
  apply c167
  unfold F167
  refine px_run ?_
  refine px_run ?_
  refine cnd_dec (fun h2 => ?_) fun h2 => ?_
  · refine bclone_k h (by omega) fun v1 w1 ho hf hown => k v1 w1 ?_
    rw [str, if_pos (by omega), List.append_nil]; exact ⟨ho, hf, hown⟩
  refine px_run ?_
  refine count_k h hl fun v1 w1 h1 => ?_
  have hcl := cnt_length (s.length : Int)
  refine append_str_k (P := P) h1.own (by simp; omega) fun v2 w2 ho hf hown => k v2 w2 ⟨?_, h1.fr.new hf (fun i hi => h1.new i hi), fun b hb => ?_⟩
  · rw [str, if_neg (by omega), ← List.append_assoc, List.length_append (bs := s), bs_append]
    exact ho
  · rcases hown b hb with h3 | h3
    · exact h1.new b h3
    · have := h1.fr.size; omega
theorem flag_k {w : World} {v : Value} {l : List UInt8} {f : Bool} {K : Value → World → Prop} (h : Sl w v 1 l.length (bs l)) (hl : l.length ≤ 100000000)
    (k : ∀ v' w1, NewB w w1 v' (l ++ cnt (if f then 1 else 0)) → K v' w1) : cl P 251 #[v, .bool f] w K := by
  apply c251
  unfold F251
  refine cut_of (fun vs w' => vs = [iv (if f then 1 else 0)] ∧ w' = w) (cnd_of (fun h => ⟨by simp [h], rfl⟩) (fun h => ⟨by simp [h], rfl⟩)) ?_
  rintro vs w' ⟨rfl, rfl⟩
  simp only [g0_cons]
  exact count_k h hl fun v' w1 h' => k v' w1 h'

/-! ### The reader -/
structure Rd where
  l : List UInt8
  bad : Bool
/-- A reader's memory: its block r, its rest's block q. -/
structure RdAt (w : World) (r q : Nat) (R : Rd) : Prop where
  blk : Bk w r 339 [pt q]
  rest : ∃ v, Bk w q 337 [v, .bool R.bad] ∧ Sl w v 1 R.l.length (bs R.l) ∧ ∀ b, v.ownBlock = some b → ∃ cs, Bk w b 5 cs
  small : R.l.length ≤ 100000000
theorem Own.bkk {w : World} {v : Value} {e : TypeId} {sz n : Nat} {xs : List Value} (h : Own w v e sz n xs) {b : Nat} (hb : v.ownBlock = some b) : ∃ cs, Bk w b e cs := by
  rcases h.2 with ⟨rfl, _⟩ | ⟨g, cap, cur, rfl, _, hg, _⟩
  · cases hb
  · cases hb
    exact ⟨_, hg⟩
theorem ne_bk5 {w : World} {v : Value} {q : Nat} {t : TypeId} {cs : List Value} (hb : Bk w q t cs) (ht : t ≠ 5) (h : ∀ b, v.ownBlock = some b → ∃ cs, Bk w b 5 cs) : ∀ b, v.ownBlock = some b → b ≠ q := fun b hv => by
  obtain ⟨cs', h'⟩ := h b hv
  exact (hb.ne h' ht).symm
theorem RdAt.fr {F : Nat → Prop} {w w' : World} {r q : Nat} {R : Rd} (h : RdAt w r q R) (f : Fr F w w') (hF : ∀ i t cs, F i → Bk w i t cs → t ≠ 339 ∧ t ≠ 337 ∧ t ≠ 5) : RdAt w' r q R := by
  obtain ⟨v, h1, h2, h3⟩ := h.rest
  refine ⟨h.blk.fr f (fun e => (hF _ _ _ e h.blk).1 rfl), ⟨v, h1.fr f (fun e => (hF _ _ _ e h1).2.1 rfl), h2.fr f (fun b hb e => ?_), fun b hb => ?_⟩, h.small⟩
  · obtain ⟨cs, hc⟩ := h3 b hb
    exact (hF _ _ _ e hc).2.2 rfl
  · obtain ⟨cs, hc⟩ := h3 b hb
    exact ⟨cs, hc.fr f (fun e => (hF _ _ _ e hc).2.2 rfl)⟩
theorem RdAt.fr0 {w w' : World} {r q : Nat} {R : Rd} (h : RdAt w r q R) (f : Fr no w w') : RdAt w' r q R := h.fr f fun _ _ _ e => e.elim
theorem Bk.typ {w : World} {b : Nat} {t t' : TypeId} {cs cs' : List Value} (h : Bk w b t cs) (h' : Bk w b t' cs') : t = t' := by
  have := Option.some.inj (h.symm.trans h')
  cases this
  rfl
theorem RdAt.frb {w w' : World} {r q b : Nat} {t : TypeId} {cs : List Value} {R : Rd} (h : RdAt w r q R) (f : Fr (fun i => i = b) w w') (hb : Bk w b t cs) (ht : t ≠ 339 ∧ t ≠ 337 ∧ t ≠ 5) : RdAt w' r q R :=
  h.fr f fun i t' cs' e h' => by
    have e' : i = b := e
    subst e'
    rw [Bk.typ h' hb]
    exact ht
theorem RdAt.ne {w : World} {r q : Nat} {R : Rd} (h : RdAt w r q R) : r ≠ q := by
  obtain ⟨v, h1, _⟩ := h.rest
  exact h.blk.ne h1 (by decide)
instance : StructT P 337 [(0, 1), (1, 1)] := ⟨by kernel_rfl, fun w => by kernel_rfl⟩
instance : Zero P 337 [.slice none 0 0, .bool false] := ⟨fun w => ⟨.agg [.slice none 0 0, .bool false].toArray, by kernel_rfl, rfl⟩⟩
instance : StructT P 339 [(0, 1)] := ⟨by kernel_rfl, fun w => by kernel_rfl⟩
instance : Zero P 339 [.pointer none] := ⟨fun w => ⟨.agg [.pointer none].toArray, by kernel_rfl, rfl⟩⟩
theorem build337 {w : World} {v : Value} [hv : Atom v] : (Instr.build 337 #[(0, v)]).run P w = .ok (.agg [v, .bool false].toArray) w := by
  refine build_run (P := P) (t := 337) (parts := [(0, v)]) (z := [.slice none 0 0, .bool false]) ?_
  rw [fill_cons (xs := [v]) (off := 0) (size := 1) rfl hv.cells rfl (by decide), fill_nil]
  rfl
theorem build339 {w : World} {v : Value} [hv : Atom v] : (Instr.build 339 #[(0, v)]).run P w = .ok (.agg [v].toArray) w := by
  refine build_run (P := P) (t := 339) (parts := [(0, v)]) (z := [.pointer none]) ?_
  rw [fill_cons (xs := [v]) (off := 0) (size := 1) rfl hv.cells rfl (by decide), fill_nil]
  rfl
theorem newReader_k {w : World} {v : Value} {l : List UInt8} {K : Value → World → Prop} (h : Sl w v 1 l.length (bs l)) (hl : l.length ≤ 100000000)
    (k : ∀ r q w1, RdAt w1 r q ⟨l, false⟩ → Fr no w w1 → w.heap.size ≤ r → w.heap.size ≤ q → K (pt r) w1) : cl P 178 #[v] w K := by
  apply c178
  unfold F178
  refine bclone_k h (by omega) fun v1 w1 ho hf hown => ?_
  obtain ⟨_, a, c, rfl, _⟩ := id ho.sl
  refine px_of build337 ?_
  refine boxA_k fun q w2 hq hbq hf2 => ?_
  refine px_of build339 ?_
  refine boxA_k fun r w3 hr hbr hf3 => ?_
  have s1 := hf.size
  have s2 := hf2.size
  refine k r q w3 ⟨hbr, ⟨_, hbq.fr0 hf3, (ho.sl.fr0 hf2).fr0 hf3, fun b hb => ?_⟩, hl⟩ ((hf.trans hf2 (by intro i hi; cases hi)).trans hf3 (by intro i hi; cases hi)) (by omega) (by omega)
  exact Own.bkk ((ho.fr0 hf2).fr0 hf3) hb
theorem restOK_k {w : World} {r q : Nat} {R : Rd} {K : Value → World → Prop} (h : RdAt w r q R) (k : K (.bool (!R.bad)) w) : cl P 240 #[pt q] w K := by
  obtain ⟨v, hb, hs, hn⟩ := h.rest
  apply c240
  unfold F240
  refine px_run ?_
  refine gd_tt ?_
  refine gd_tt ?_
  refine nc_ptr ?_
  refine gd_tt ?_
  refine px_run ?_
  refine gd_tt ?_
  refine ldB hb rfl ?_
  refine gd_tt ?_
  refine px_run ?_
  refine pk_true ?_
  exact k
theorem rOK_k {w : World} {r q : Nat} {R : Rd} {K : Value → World → Prop} (h : RdAt w r q R) (k : K (.bool (!R.bad)) w) : cl P 179 #[pt r] w K := by
  apply c179
  unfold F179
  refine px_run ?_
  refine gd_tt ?_
  refine gd_tt ?_
  refine nc_ptr ?_
  refine gd_tt ?_
  refine px_run ?_
  refine gd_tt ?_
  refine ldB h.blk rfl ?_
  refine gd_tt ?_
  refine restOK_k h ?_
  refine pk_true ?_
  exact k
def Rd.left (R : Rd) : Nat := if R.bad then 0 else R.l.length
theorem rLeft_k {w : World} {r q : Nat} {R : Rd} {K : Value → World → Prop} (h : RdAt w r q R) (k : K (iv R.left) w) : cl P 241 #[pt r] w K := by
  apply c241
  unfold F241
  refine px_run ?_
  refine cnd_false ?_
  refine nc_ptr ?_
  refine px_run ?_
  refine ldB h.blk rfl ?_
  obtain ⟨v, hb, hs, hn⟩ := h.rest
  obtain ⟨_, a, c, rfl, _⟩ := id hs
  apply c277
  unfold F277
  refine px_run ?_
  refine gd_ff ?_
  refine gd_ff ?_
  refine nc_ptr ?_
  refine gd_ff ?_
  refine px_run ?_
  refine gd_ff ?_
  refine ldB hb rfl ?_
  refine pk_false ?_
  refine cnd_of (fun hbad => ?_) (fun hbad => ?_)
  · simpa [Rd.left, hbad] using k
  · refine nc_ptr ?_
    refine px_run ?_
    refine ldB hb rfl ?_
    refine px_run ?_
    simpa [Rd.left, hbad] using k
def Rd.done (R : Rd) : Bool := !R.bad && R.l.length = 0
theorem rDone_k {w : World} {r q : Nat} {R : Rd} {K : Value → World → Prop} (h : RdAt w r q R) (k : K (.bool R.done) w) : cl P 180 #[pt r] w K := by
  apply c180
  unfold F180
  refine rOK_k h ?_
  cases hb : R.bad
  · refine gd_tt ?_
    refine gd_tt ?_
    refine rLeft_k h ?_
    refine gd_tt ?_
    refine px_run ?_
    refine pk_true ?_
    have : (decide ((R.left : Int) = 0)) = R.done := by simp [Rd.left, Rd.done, hb]
    rw [this]; exact k
  · refine gd_ft ?_
    refine gd_ft ?_
    refine gd_ft ?_
    refine pk_false ?_
    simpa [Rd.done, hb] using k

theorem wrap_u64 (n : Nat) : IntKind.u64.wrap (n : Int) = ((n % 2 ^ 64 : Nat) : Int) := by
  simp only [IntKind.wrap, IntKind.signed, IntKind.bits]
  simp
theorem and_u8 {a b : UInt8} {c : Bool} {w : World} : (bin c .and 5 (u8v a) (u8v b)).run P w = .ok (u8v (a &&& b)) w := by
  refine bin_of _ _ _ (by cases c <;> rfl) ?_
  have : IntKind.u8.wrap (((BitVec.ofInt 8 (a.toNat : Int) &&& BitVec.ofInt 8 (b.toNat : Int)).toNat : Nat) : Int) = ((a &&& b).toNat : Int) := by
    simp only [BitVec.ofInt_natCast, BitVec.toNat_and, BitVec.toNat_ofNat]
    rw [wrap_u8]
    congr 1
    simp [UInt8.toNat_and]
  show Result.ok _ w = _
  rw [show IntKind.bits .u8 = 8 from rfl, this]
theorem or_u64 {a b : Nat} {c : Bool} {w : World} {t : TypeId} (ha : a < 2 ^ 64) (hb : b < 2 ^ 64) : (bin c .or t (.int .u64 (a : Int)) (.int .u64 (b : Int))).run P w = .ok (.int .u64 ((a ||| b : Nat) : Int)) w := by
  refine bin_of _ _ _ (by cases c <;> rfl) ?_
  have hab : a ||| b < 2 ^ 64 := Nat.or_lt_two_pow ha hb
  have : IntKind.u64.wrap (((BitVec.ofInt 64 (a : Int) ||| BitVec.ofInt 64 (b : Int)).toNat : Nat) : Int) = ((a ||| b : Nat) : Int) := by
    simp only [BitVec.ofInt_natCast, BitVec.toNat_or, BitVec.toNat_ofNat]
    rw [wrap_u64, Nat.mod_eq_of_lt ha, Nat.mod_eq_of_lt hb, Nat.mod_eq_of_lt hab]
  show Result.ok _ w = _
  rw [show IntKind.bits .u64 = 64 from rfl, this]
theorem shl_u64 {n s : Nat} {c : Bool} {w : World} {t : TypeId} {k' : IntKind} (hs : s ≤ 64) : (bin c .shl t (.int .u64 (n : Int)) (.int k' (s : Int))).run P w = .ok (.int .u64 ((n * 2 ^ s % 2 ^ 64 : Nat) : Int)) w := by
  refine bin_of _ _ _ (by cases c <;> rfl) ?_
  show (Op.shift .shl _ _ k' _).run P w = _
  have h0 : ¬ ((s : Int) < 0) := by omega
  have hm : min s IntKind.u64.bits = s := Nat.min_eq_left hs
  simp only [Op.shift, h0, if_false, Int.toNat_natCast, hm, Sem.run_pure]
  have hd : IntKind.u64.wrap ((n : Int) * 2 ^ s) = ((n * 2 ^ s % 2 ^ 64 : Nat) : Int) := by
    rw [← wrap_u64]
    simp
  rw [hd]
theorem conv_u8_u64 {c : UInt8} {w : World} : (convert 5 321 (u8v c)).run P w = .ok (.int .u64 (c.toNat : Int)) w := by
  have h3 : P.underlying 5 = some (.int .u8) := by kernel_rfl
  have h5 : P.underlying 321 = some (.int .u64) := by kernel_rfl
  have hc := c.toNat_lt
  have hw : IntKind.u64.wrap (c.toNat : Int) = (c.toNat : Int) := by rw [wrap_u64, Nat.mod_eq_of_lt (by omega)]
  simp only [convert, run_underlying h3, run_underlying h5, Sem.run_bind, Result.andThen_ok]
  simp [Conv.intToInt, hw]
theorem conv_u8_int {c : UInt8} {w : World} : (convert 5 3 (u8v c)).run P w = .ok (iv (c.toNat : Int)) w := by
  have h3 : P.underlying 5 = some (.int .u8) := by kernel_rfl
  have h5 : P.underlying 3 = some (.int .i64) := by kernel_rfl
  have hc := c.toNat_lt
  have hw : IntKind.i64.wrap (c.toNat : Int) = (c.toNat : Int) := wrap_i64 (by omega) (by omega)
  simp only [convert, run_underlying h3, run_underlying h5, Sem.run_bind, Result.andThen_ok]
  simp [Conv.intToInt, hw]
/-- `first`. -/
def firstF : List UInt8 → Nat → Nat → Nat × Nat
  | [], _, _ => (0, 0)
  | c :: l, u, i => if i = 10 ∨ (i = 9 ∧ 1 < c.toNat) then (0, 0) else
    if c.toNat < 128 then (u ||| ((c &&& 127).toNat * 2 ^ (7 * i) % 2 ^ 64), i + 1) else firstF l (u ||| ((c &&& 127).toNat * 2 ^ (7 * i) % 2 ^ 64)) (i + 1)
theorem bs_get {l : List UInt8} {i : Nat} (h : i < l.length) : (bs l)[i]? = some (u8v l[i]) := by simp [bs, h]
theorem first_k {w : World} {v : Value} {l : List UInt8} {K : Value → World → Prop} (h : Sl w v 1 l.length (bs l)) (hl : l.length ≤ 100000000)
    (k : K (.tuple #[.int .u64 ((firstF l 0 0).1 : Int), iv (firstF l 0 0).2]) w) : cl P 278 #[v] w K := by
  apply c278
  unfold F278
  obtain ⟨_, a, c, rfl, _⟩ := id h
  refine px_run ?_
  refine lp_of (fun vs w' => ∃ (u i : Nat), vs = [.int .u64 (u : Int), iv i] ∧ w' = w ∧ u < 2 ^ 64 ∧ i ≤ l.length ∧ i ≤ 10 ∧ firstF l 0 0 = firstF (l.drop i) u i)
    (fun vs _ => (match vs with | [_, .int _ n] => (l.length - n).toNat | _ => 0)) ⟨0, 0, rfl, rfl, by omega, by omega, by omega, rfl⟩ ?_
  rintro vs w2 ⟨u, i, rfl, rfl, hu, hi, hi10, hfi⟩
  simp only [g0, g1, List.getD_cons_zero, List.getD_cons_succ]
  refine px_run ?_
  refine cnd_dec (fun hlt => ?_) (fun hge => ?_)
  · have hlt' : i < l.length := by omega
    have hdrop : l.drop i = l[i] :: l.drop (i + 1) := List.drop_eq_getElem_cons hlt'
    refine idx_s (P := P) h (by omega) i rfl hlt' fun b o _ hcell => ?_
    have hc0 := hcell 0 (by omega)
    rw [Nat.mul_one, Nat.add_zero, Nat.add_zero, bs_get hlt'] at hc0
    refine ld1 (P := P) hc0 ?_
    rw [hdrop] at hfi
    generalize l[i] = c at hfi
    have hcl := c.toNat_lt
    refine px_run ?_
    have bad : (i = 10 ∨ (i = 9 ∧ 1 < c.toNat)) → K (.tuple #[.int .u64 0, .int .i64 0]) w2 := fun hb => by
      rw [firstF, if_pos hb] at hfi
      rw [hfi] at k; exact k
    have fin : ¬ (i = 10 ∨ (i = 9 ∧ 1 < c.toNat)) → px P (bin true .and 5 (u8v c) (.int .u8 127)) w2 (fun v26 w =>
        px P (convert 5 321 v26) w fun v27 w =>
        px P (bin true .mul 3 (.int .i64 7) (iv i)) w fun v29 w =>
        px P (bin false .shl 321 v27 v29) w fun v30 w =>
        px P (bin false .or 321 (.int .u64 (u : Int)) v30) w fun v31 w =>
        px P (bin true .lss 5 (u8v c) (.int .u8 128)) w fun v33 w =>
        cnd v33 (
          px P (bin true .add 3 (iv i) (.int .i64 1)) w fun v36 w =>
          K (.tuple #[v31, v36]) w) <|
        px P (bin true .add 3 (iv i) (.int .i64 1)) w fun v37 w =>
        (∃ (u i : Nat), [v31, v37] = [.int .u64 (u : Int), iv i] ∧ w = w2 ∧ u < 2 ^ 64 ∧ i ≤ l.length ∧ i ≤ 10 ∧ firstF l 0 0 = firstF (l.drop i) u i) ∧
          (match [v31, v37] with | [_, .int _ n] => (l.length - n).toNat | _ => 0) < (match [.int .u64 (u : Int), iv i] with | [_, .int _ n] => (l.length - n).toNat | _ => 0)) := fun hok => by
      rw [firstF, if_neg hok] at hfi
      have hi9 : i ≤ 9 := by omega
      refine px_of (and_u8 (a := c) (b := 127)) ?_
      refine px_of conv_u8_u64 ?_
      haveI : Fits .i64 (7 * (i : Int)) := fits_i64 (by omega) (by omega)
      refine px_run ?_
      have h7 : (7 * (i : Int)) = ((7 * i : Nat) : Int) := by omega
      rw [h7]
      refine px_of (shl_u64 (by omega)) ?_
      refine px_of (or_u64 hu (Nat.mod_lt _ (by decide))) ?_
      have hu' : u ||| ((c &&& 127).toNat * 2 ^ (7 * i) % 2 ^ 64) < 2 ^ 64 := Nat.or_lt_two_pow hu (Nat.mod_lt _ (by decide))
      refine px_run ?_
      haveI : Fits .i64 ((i : Int) + 1) := fits_i64 (by omega) (by omega)
      refine cnd_dec (fun hlt => ?_) (fun hge => ?_)
      · rw [if_pos (by omega)] at hfi
        rw [hfi] at k
        refine px_run ?_
        exact k
      · rw [if_neg (by omega)] at hfi
        refine px_run ?_
        refine ⟨⟨_, i + 1, rfl, rfl, hu', by omega, by omega, hfi⟩, ?_⟩
        show ((l.length : Int) - ((i : Int) + 1)).toNat < ((l.length : Int) - i).toNat
        omega
    by_cases h10 : (i : Int) = 10
    · simp only [h10, decide_true]
      iterate 3 refine gd_tf ?_
      iterate 2 refine gd_u ?_
      refine gd_tf ?_
      refine pk_true ?_
      exact cnd_true (bad (.inl (by omega)))
    simp only [h10, decide_false]
    refine gd_ff ?_
    refine gd_ff ?_
    refine px_run ?_
    refine gd_ff ?_
    by_cases h9 : (i : Int) = 9
    · simp only [h9, decide_true]
      refine gd_tt ?_
      refine gd_tt ?_
      refine px_run ?_
      refine gd_ff ?_
      refine pk_true ?_
      refine pk_false ?_
      refine cnd_dec (fun hgt => bad (.inr ⟨by omega, by omega⟩)) fun hle => ?_
      rw [← h9]
      exact fin (by omega)
    · simp only [h9, decide_false]
      refine gd_ft ?_
      refine gd_ft ?_
      refine gd_ff ?_
      refine pk_false ?_
      refine pk_false ?_
      refine cnd_false ?_
      exact fin (by omega)
  · have : l.drop i = [] := List.drop_of_length_le (by omega)
    rw [this] at hfi
    rw [hfi] at k
    exact k

theorem firstF_le : ∀ (l : List UInt8) (u i : Nat), (firstF l u i).2 ≤ i + l.length
  | [], u, i => by simp [firstF]
  | c :: l, u, i => by
    simp only [firstF]
    split
    · exact Nat.zero_le _
    · split
      · simp only [List.length_cons]; omega
      · have := firstF_le l (u ||| ((c &&& 127).toNat * 2 ^ (7 * i) % 2 ^ 64)) (i + 1)
        simp only [List.length_cons]; omega
theorem firstF_lt : ∀ (l : List UInt8) (u i : Nat), u < 2 ^ 64 → (firstF l u i).1 < 2 ^ 64
  | [], u, i, _ => by simp [firstF]
  | c :: l, u, i, hu => by
    simp only [firstF]
    split
    · simp
    · have hu' : u ||| ((c &&& 127).toNat * 2 ^ (7 * i) % 2 ^ 64) < 2 ^ 64 := Nat.or_lt_two_pow hu (Nat.mod_lt _ (by decide))
      split
      · exact hu'
      · exact firstF_lt l _ (i + 1) hu'
theorem take_k {w : World} {r q : Nat} {R : Rd} {n : Nat} {K : Value → World → Prop} (h : RdAt w r q R) (hn : n ≤ R.l.length)
    (k : ∀ v w1, Sl w1 v 1 n (bs (R.l.take n)) → RdAt w1 r q ⟨R.l.drop n, R.bad⟩ → Fr (fun i => i = q) w w1 → K v w1) : cl P 245 #[pt q, iv n] w K := by
  obtain ⟨v, hb, hs, hne⟩ := h.rest
  apply c245
  unfold F245
  refine nc_ptr ?_
  refine px_run ?_
  refine ldB hb rfl ?_
  refine slc_h (P := P) n rfl hs hn fun v1 h1 ho1 => ?_
  refine nc_ptr ?_
  refine px_run ?_
  refine ldB hb rfl ?_
  refine slc_l (P := P) n rfl hs hn fun v2 h2 ho2 => ?_
  refine nc_ptr ?_
  refine px_run ?_
  obtain ⟨_, a2, c2, rfl, _⟩ := id h2
  refine stB_k (P := P) hb (by simp) fun w1 hb1 hf1 => ?_
  rw [Nat.mul_one, bs_take] at h1
  rw [Nat.mul_one, bs_drop] at h2
  have hne' := ne_bk5 hb (by decide) hne
  refine k v1 w1 (h1.fr hf1 fun b hb' e => hne' b (ho1 b hb') e) ⟨h.blk.fr hf1 h.ne, ⟨_, hb1, ?_, fun b hb' => ?_⟩, by have := h.small; simp; omega⟩ hf1
  · rw [List.length_drop]
    exact h2.fr hf1 fun b hb' e => hne' b (ho2 b hb') e
  · obtain ⟨cs, hc⟩ := hne b (ho2 b hb')
    exact ⟨cs, hc.fr hf1 (hne' b (ho2 b hb'))⟩
def Rd.uv (R : Rd) : Option Nat × Rd :=
  if R.bad then (none, R) else
  if (firstF R.l 0 0).2 = 0 ∨ (1 < (firstF R.l 0 0).2 ∧ R.l.getD ((firstF R.l 0 0).2 - 1) 0 = 0) then (none, R) else (some (firstF R.l 0 0).1, ⟨R.l.drop (firstF R.l 0 0).2, R.bad⟩)
theorem Rd.uv_lt {R : Rd} {u : Nat} (h : R.uv.1 = some u) : u < 2 ^ 64 := by
  unfold Rd.uv at h
  split at h
  · cases h
  · split at h
    · cases h
    · cases h; exact firstF_lt _ _ _ (by decide)
theorem rUv_k {w : World} {r q : Nat} {R : Rd} {K : Value → World → Prop} (h : RdAt w r q R)
    (k : ∀ w1, RdAt w1 r q R.uv.2 → Fr (fun i => i = q) w w1 → K (.tuple #[.int .u64 ((R.uv.1.getD 0 : Nat) : Int), .bool R.uv.1.isSome]) w1) : cl P 242 #[pt r] w K := by
  obtain ⟨v, hb, hs, hne⟩ := h.rest
  apply c242
  unfold F242
  refine rOK_k h ?_
  refine px_run ?_
  cases hbad : R.bad
  case true =>
    refine cnd_true ?_
    simp only [Rd.uv, hbad, if_true] at k
    exact k w h (Fr.refl _ _)
  refine cnd_false ?_
  refine nc_ptr ?_
  refine px_run ?_
  refine ldB h.blk rfl ?_
  refine nc_ptr ?_
  refine px_run ?_
  refine ldB hb rfl ?_
  refine first_k hs h.small ?_
  refine px_run ?_
  refine px_run ?_
  refine px_run ?_
  have hle := firstF_le R.l 0 0
  simp only [Rd.uv, hbad, Bool.false_eq_true, if_false] at k
  generalize hfst : firstF R.l 0 0 = un at *
  obtain ⟨u, n⟩ := un
  simp only at hle k ⊢
  have bad : (n = 0 ∨ (1 < n ∧ R.l.getD (n - 1) 0 = 0)) → K (.tuple #[.int .u64 0, .bool false]) w := fun hb => by
    rw [if_pos hb] at k
    exact k w h (Fr.refl _ _)
  by_cases h0 : (n : Int) ≤ 0
  · simp only [h0, decide_true]
    iterate 3 refine gd_tf ?_
    iterate 12 refine gd_u ?_
    refine gd_tf ?_
    refine pk_true ?_
    exact cnd_true (bad (.inl (by omega)))
  simp only [h0, decide_false]
  refine gd_ff ?_
  refine gd_ff ?_
  refine px_run ?_
  refine gd_ff ?_
  have fin : ¬ (n = 0 ∨ (1 < n ∧ R.l.getD (n - 1) 0 = 0)) → nc (pt r) w (fun v41 w =>
      px P (Instr.fieldAt 339 v41 0) w fun v42 w =>
      px P (Instr.loadAt 335 v42) w fun v43 w =>
      cl P 245 #[v43, iv n] w fun _ w =>
      K (.tuple #[.int .u64 (u : Int), .bool true]) w) := fun hok => by
    rw [if_neg hok] at k
    refine nc_ptr ?_
    refine px_run ?_
    refine ldB h.blk rfl ?_
    refine take_k h (by omega) fun v1 w1 h1 hr hf => ?_
    rw [hbad] at hr
    exact k w1 hr hf
  by_cases h1 : (n : Int) > 1
  · simp only [h1, decide_true]
    refine gd_tt ?_
    refine gd_tt ?_
    refine nc_ptr ?_
    refine gd_tt ?_
    refine px_run ?_
    refine gd_tt ?_
    refine ldB h.blk rfl ?_
    refine gd_tt ?_
    refine nc_ptr ?_
    refine gd_tt ?_
    refine px_run ?_
    refine gd_tt ?_
    refine ldB hb rfl ?_
    refine gd_tt ?_
    refine gd_tt ?_
    haveI : Fits .i64 ((n : Int) - 1) := fits_i64 (by omega) (by have := h.small; omega)
    refine px_run ?_
    refine gd_tt ?_
    have hlt : n - 1 < R.l.length := by omega
    refine idx_s (P := P) hs (by omega) (n - 1) (by omega) hlt fun b o _ hcell => ?_
    have hc0 := hcell 0 (by omega)
    rw [Nat.mul_one, Nat.add_zero, Nat.add_zero, bs_get hlt] at hc0
    refine gd_tt ?_
    refine ld1 (P := P) hc0 ?_
    refine gd_tt ?_
    refine px_run ?_
    refine gd_ff ?_
    refine pk_true ?_
    refine pk_false ?_
    have hgd : R.l.getD (n - 1) 0 = R.l[n - 1] := by simp [List.getD, hlt]
    refine cnd_dec (fun hz => bad (.inr ⟨by omega, ?_⟩)) fun hz => fin ?_
    · rw [hgd]
      apply UInt8.toNat_inj.1
      have : (R.l[n - 1].toNat : Int) = 0 := hz
      simp; omega
    · rintro (h2 | ⟨_, h2⟩)
      · omega
      · rw [hgd] at h2
        exact hz (by rw [h2]; rfl)
  · simp only [h1, decide_false]
    iterate 12 refine gd_ft ?_
    refine gd_ff ?_
    refine pk_false ?_
    refine pk_false ?_
    refine cnd_false ?_
    exact fin (by omega)

def Rd.told (R : Rd) (ok : Bool) : Rd := ⟨R.l, R.bad || !ok⟩
theorem told243_k {w : World} {r q : Nat} {R : Rd} {v : Value} {ok : Bool} {K : Value → World → Prop} (h : RdAt w r q R)
    (k : ∀ w1, RdAt w1 r q (R.told ok) → Fr (fun i => i = q) w w1 → K (if (R.told ok).bad then iv 0 else v) w1) : cl P 243 #[pt r, v, .bool ok] w K := by
  apply c243
  unfold F243
  refine px_run ?_
  refine cut_of (fun vs w' => RdAt w' r q (R.told ok) ∧ Fr (fun i => i = q) w w') ?_ ?_
  · refine cnd_of (fun hok => ?_) (fun hok => ?_)
    · obtain ⟨v1, hb, hs, hne⟩ := h.rest
      refine nc_ptr ?_
      refine px_run ?_
      refine ldB h.blk rfl ?_
      refine nc_ptr ?_
      refine px_run ?_
      refine stB_k (P := P) hb (by simp) fun w1 hb1 hf1 => ⟨⟨h.blk.fr hf1 h.ne, ⟨v1, ?_, hs.fr hf1 (ne_bk5 hb (by decide) hne), fun b hb' => (hne b hb').elim fun cs hc => ⟨cs, hc.fr hf1 (ne_bk5 hb (by decide) hne b hb')⟩⟩, h.small⟩, hf1⟩
      have : (R.told ok).bad = true := by simp [Rd.told]; right; simpa using hok
      rw [this]; exact hb1
    · have : R.told ok = R := by
        have : ok = true := by simpa using hok
        subst this; simp [Rd.told]
      rw [this]; exact ⟨h, Fr.refl _ _⟩
  · rintro vs w' ⟨h', hf⟩
    obtain ⟨v1, hb, hs, hne⟩ := h'.rest
    refine nc_ptr ?_
    refine px_run ?_
    refine ldB h'.blk rfl ?_
    refine nc_ptr ?_
    refine px_run ?_
    refine ldB hb rfl ?_
    have k' := k w' h' hf
    refine cnd_of (fun hbad => ?_) (fun hbad => ?_)
    · rw [if_pos hbad] at k'; exact k'
    · rw [if_neg (by rw [hbad]; simp)] at k'; exact k'
theorem told244_k {w : World} {r q : Nat} {R : Rd} {v : Value} {ok : Bool} {K : Value → World → Prop} (h : RdAt w r q R)
    (k : ∀ w1, RdAt w1 r q (R.told ok) → Fr (fun i => i = q) w w1 → K (if (R.told ok).bad then sv [] else v) w1) : cl P 244 #[pt r, v, .bool ok] w K := by
  apply c244
  unfold F244
  refine px_run ?_
  refine cut_of (fun vs w' => RdAt w' r q (R.told ok) ∧ Fr (fun i => i = q) w w') ?_ ?_
  · refine cnd_of (fun hok => ?_) (fun hok => ?_)
    · obtain ⟨v1, hb, hs, hne⟩ := h.rest
      refine nc_ptr ?_
      refine px_run ?_
      refine ldB h.blk rfl ?_
      refine nc_ptr ?_
      refine px_run ?_
      refine stB_k (P := P) hb (by simp) fun w1 hb1 hf1 => ⟨⟨h.blk.fr hf1 h.ne, ⟨v1, ?_, hs.fr hf1 (ne_bk5 hb (by decide) hne), fun b hb' => (hne b hb').elim fun cs hc => ⟨cs, hc.fr hf1 (ne_bk5 hb (by decide) hne b hb')⟩⟩, h.small⟩, hf1⟩
      have : (R.told ok).bad = true := by simp [Rd.told]; right; simpa using hok
      rw [this]; exact hb1
    · have : R.told ok = R := by
        have : ok = true := by simpa using hok
        subst this; simp [Rd.told]
      rw [this]; exact ⟨h, Fr.refl _ _⟩
  · rintro vs w' ⟨h', hf⟩
    obtain ⟨v1, hb, hs, hne⟩ := h'.rest
    refine nc_ptr ?_
    refine px_run ?_
    refine ldB h'.blk rfl ?_
    refine nc_ptr ?_
    refine px_run ?_
    refine ldB hb rfl ?_
    have k' := k w' h' hf
    refine cnd_of (fun hbad => ?_) (fun hbad => ?_)
    · rw [if_pos hbad] at k'; exact k'
    · rw [if_neg (by rw [hbad]; simp)] at k'; exact k'

def Rd.count (R : Rd) (most : Int) : Int × Rd :=
  let ok := match R.uv.1 with | some u => decide (0 ≤ most) && decide (u ≤ 2147483647) && decide ((u : Int) ≤ most) | none => false
  (if (R.uv.2.told ok).bad then 0 else ((R.uv.1.getD 0 : Nat) : Int), R.uv.2.told ok)
theorem conv_u64_int {u : Nat} {w : World} : (convert 321 3 (.int .u64 (u : Int))).run P w = .ok (iv (IntKind.i64.wrap u)) w := by
  have h5 : P.underlying 321 = some (.int .u64) := by kernel_rfl
  have h3 : P.underlying 3 = some (.int .i64) := by kernel_rfl
  simp only [convert, run_underlying h3, run_underlying h5, Sem.run_bind, Result.andThen_ok]
  simp [Conv.intToInt]
theorem rCount_k {w : World} {r q : Nat} {R : Rd} {most : Int} {K : Value → World → Prop} (h : RdAt w r q R)
    (k : ∀ w1, RdAt w1 r q (R.count most).2 → Fr (fun i => i = q) w w1 → K (iv (R.count most).1) w1) : cl P 181 #[pt r, iv most] w K := by
  apply c181
  unfold F181
  refine px_run ?_
  refine cnd_false ?_
  refine rUv_k h fun w1 h1 hf1 => ?_
  refine px_run ?_
  refine px_run ?_
  refine px_of conv_u64_int ?_
  have fin : ∀ ok : Bool, ok = (match R.uv.1 with | some u => decide (0 ≤ most) && decide (u ≤ 2147483647) && decide ((u : Int) ≤ most) | none => false) →
      cl P 243 #[pt r, iv (IntKind.i64.wrap ((R.uv.1.getD 0 : Nat) : Int)), .bool ok] w1 fun v32 w => K v32 w := fun ok hok => by
    refine told243_k h1 fun w2 h2 hf2 => ?_
    have k' := k w2 (by unfold Rd.count; simp only [← hok]; exact h2) (hf1.two hf2)
    have : (if (R.uv.2.told ok).bad then iv 0 else iv (IntKind.i64.wrap ((R.uv.1.getD 0 : Nat) : Int))) = iv (R.count most).1 := by
      unfold Rd.count
      simp only [← hok]
      cases hb : (R.uv.2.told ok).bad
      · have hok1 : ok = true := by simp [Rd.told] at hb; exact hb.2
        rw [hok1] at hok
        split at hok
        · rename_i u hu
          simp at hok
          simp only [hu, Option.getD_some, if_neg Bool.false_ne_true]
          rw [wrap_i64 (by omega) (by omega)]
        · cases hok
      · rfl
    rw [this]; exact k'
  cases hu : R.uv.1 with
  | none =>
    rw [hu] at fin
    simp only [Option.isSome_none]
    iterate 2 refine gd_ft ?_
    refine pk_false ?_
    iterate 2 refine gd_ft ?_
    refine pk_false ?_
    iterate 4 refine gd_ft ?_
    refine pk_false ?_
    exact fin false rfl
  | some u =>
    rw [hu] at fin
    simp only [Option.isSome_some]
    refine gd_tt ?_
    refine gd_tt ?_
    refine px_run ?_
    refine pk_true ?_
    by_cases hm : most ≥ 0
    · simp only [hm, decide_true]
      refine gd_tt ?_
      refine gd_tt ?_
      refine px_run ?_
      refine pk_true ?_
      simp only [Option.getD_some]
      by_cases hu2 : (u : Int) ≤ 2147483647
      · simp only [hu2, decide_true]
        refine gd_tt ?_
        refine gd_tt ?_
        refine px_of conv_u64_int ?_
        refine gd_tt ?_
        refine gd_tt ?_
        refine px_run ?_
        refine pk_true ?_
        refine fin _ ?_
        rw [wrap_i64 (by omega) (by omega)]
        have h1 : u ≤ 2147483647 := by omega
        have h2 : 0 ≤ most := hm
        simp [h1, h2]
      · simp only [hu2, decide_false]
        iterate 4 refine gd_ft ?_
        refine pk_false ?_
        refine fin _ ?_
        have h1 : ¬ u ≤ 2147483647 := by omega
        simp [h1]
    · simp only [hm, decide_false]
      iterate 2 refine gd_ft ?_
      refine pk_false ?_
      iterate 4 refine gd_ft ?_
      refine pk_false ?_
      refine fin _ ?_
      have h2 : ¬ 0 ≤ most := hm
      simp [h2]
theorem Rd.count_nonneg {R : Rd} {most : Int} : 0 ≤ (R.count most).1 := by
  unfold Rd.count
  simp only
  split <;> omega
def Rd.str (R : Rd) (most : Int) : Str × Rd :=
  if (R.count most).2.bad || decide ((R.count most).2.l.length < (R.count most).1) then ([], (R.count most).2.told false)
  else ((R.count most).2.l.take (R.count most).1.toNat, ⟨(R.count most).2.l.drop (R.count most).1.toNat, (R.count most).2.bad⟩)
theorem rStr_k {w : World} {r q : Nat} {R : Rd} {most : Int} {K : Value → World → Prop} (h : RdAt w r q R)
    (k : ∀ w1, RdAt w1 r q (R.str most).2 → Fr (fun i => i = q) w w1 → K (sv (R.str most).1) w1) : cl P 182 #[pt r, iv most] w K := by
  apply c182
  unfold F182
  refine px_run ?_
  refine cnd_false ?_
  refine rCount_k h fun w1 h1 hf1 => ?_
  unfold Rd.str at k
  have hnn := Rd.count_nonneg (R := R) (most := most)
  generalize R.count most = p at *
  obtain ⟨n, R1⟩ := p
  simp only at k h1 hnn ⊢
  obtain ⟨m, rfl⟩ := Int.eq_ofNat_of_zero_le hnn
  refine rOK_k h1 ?_
  refine px_run ?_
  have bad : (R1.bad || decide (R1.l.length < (m : Int))) = true → cl P 244 #[pt r, sv [], .bool false] w1 fun v27 w => K v27 w := fun hb => by
    rw [if_pos hb] at k
    refine told244_k h1 fun w2 h2 hf2 => ?_
    have := k w2 h2 (hf1.two hf2)
    simpa [Rd.told] using this
  cases hb1 : R1.bad
  case true =>
    rw [hb1] at bad
    simp only [Bool.not_true, Bool.not_false]
    iterate 10 refine gd_tf ?_
    refine pk_true ?_
    exact cnd_true (bad rfl)
  obtain ⟨v, hb, hs, hne⟩ := h1.rest
  obtain ⟨_, av, cv', rfl, _⟩ := id hs
  simp only [Bool.not_false, Bool.not_true]
  refine gd_ff ?_
  refine gd_ff ?_
  refine gd_ff ?_
  refine nc_ptr ?_
  refine gd_ff ?_
  refine px_run ?_
  refine gd_ff ?_
  refine ldB h1.blk rfl ?_
  refine gd_ff ?_
  refine nc_ptr ?_
  refine gd_ff ?_
  refine px_run ?_
  refine gd_ff ?_
  refine ldB hb rfl ?_
  refine gd_ff ?_
  refine px_run ?_
  refine gd_ff ?_
  refine px_run ?_
  refine pk_false ?_
  refine cnd_dec (fun hgt => bad (by rw [hb1]; simp; omega)) (fun hle => ?_)
  have hml : m ≤ R1.l.length := by omega
  rw [if_neg (by rw [hb1]; simp; omega)] at k
  refine nc_ptr ?_
  refine px_run ?_
  refine ldB h1.blk rfl ?_
  refine take_k h1 hml fun v2 w2 h2 hr2 hf2 => ?_
  refine convS_k (P := P) h2 ?_
  refine told244_k hr2 fun w3 h3 hf3 => ?_
  have hw3 : (⟨R1.l.drop m, R1.bad⟩ : Rd).told true = ⟨R1.l.drop m, R1.bad⟩ := by simp [Rd.told]
  rw [hw3] at h3 ⊢
  rw [if_neg (by rw [hb1]; simp)]
  exact k w3 h3 ((hf1.two hf2).two hf3)
def Rd.flag (R : Rd) : Bool × Rd := (decide ((R.count 1).1 = 1), (R.count 1).2)
theorem rFlag_k {w : World} {r q : Nat} {R : Rd} {K : Value → World → Prop} (h : RdAt w r q R)
    (k : ∀ w1, RdAt w1 r q R.flag.2 → Fr (fun i => i = q) w w1 → K (.bool R.flag.1) w1) : cl P 195 #[pt r] w K := by
  apply c195
  unfold F195
  refine px_run ?_
  refine cnd_false ?_
  refine rCount_k h fun w1 h1 hf1 => ?_
  refine px_run ?_
  exact k w1 h1 hf1
end Go.Proofs.YtomggfibpbaodaaGreatDoor
