/-
  The ring: what its functions do.
-/
import Derived.Test.YtomggfibpbaodaaGreatDoorW
import Derived.Test.YtomggfibpbaodaaGreatDoorCD
import Derived.Stop.BytesEq
set_option maxRecDepth 100000
namespace Go.Proofs.YtomggfibpbaodaaGreatDoor
open Go.V

/-! ### Arrays of bytes -/
theorem bs_cell (l : List UInt8) : bs l = l.map Go.Extern.Stop.cell := rfl
theorem eql_bytes {c : Bool} {w : World} {t : TypeId} {xs ys : List UInt8} (ht : P.underlying t = some (.array 512 5)) (hm : P.eqGuardType P.depth t = false) (hx : xs.length = 512) (hy : ys.length = 512) :
    (bin c .eql t (.agg (bs xs).toArray) (.agg (bs ys).toArray)).run P w = .ok (.bool (xs == ys)) w := by
  refine bin_of _ _ _ (by cases c <;> first | rfl | exact run_eqGuard_agg w .eql t _ _ _ _ hm) ?_
  rw [bs_cell, bs_cell]
  exact run_eql_bytes w t 5 512 ht (by kernel_rfl) (fun w => by kernel_rfl) xs ys hx hy
theorem neq_bytes {c : Bool} {w : World} {t : TypeId} {xs ys : List UInt8} (ht : P.underlying t = some (.array 512 5)) (hm : P.eqGuardType P.depth t = false) (hx : xs.length = 512) (hy : ys.length = 512) :
    (bin c .neq t (.agg (bs xs).toArray) (.agg (bs ys).toArray)).run P w = .ok (.bool (!(xs == ys))) w := by
  refine bin_of _ _ _ (by cases c <;> first | rfl | exact run_eqGuard_agg w .neq t _ _ _ _ hm) ?_
  rw [bs_cell, bs_cell, run_neq_struct, run_equalIn_bytes w 9998 t 5 512 ht (by kernel_rfl) (fun w => by kernel_rfl) xs ys hx hy]
  rfl
theorem und329 : P.underlying 329 = some (.array 512 5) := by kernel_rfl
theorem und195 : P.underlying 195 = some (.array 512 5) := by kernel_rfl
theorem idxA_run {w : World} {t : TypeId} [h : ArrT P t 5 512] {k : IntKind} {b o : Nat} {i : Int} (j : Nat) (hi : i = (j : Int)) (hj : j < 512) :
    (Instr.indexAt t (.pointer (some ⟨b, o, none⟩)) (.int k i)).run P w = .ok (.pointer (some ⟨b, o + j, none⟩)) w := by
  subst hi
  have hc : (0 : Int) ≤ (j : Int) ∧ (j : Int) < ((512 : Nat) : Int) := ⟨by omega, by omega⟩
  simp only [Instr.indexAt, asIntOf, Sem.run_bind, Sem.run_pure, Result.andThen_ok, run_underlying h.under, Instr.sureAddr]
  rw [if_pos hc]
  simp [h.size, addr_add]
theorem slcA_run {w : World} {t e : TypeId} {n : Nat} [h : ArrT P t e n] {b o : Nat} {k1 : IntKind} {lo : Int} {i : Nat} (h1 : lo = (i : Int)) (hlt : i < n) :
    (Instr.sliceAt t (.pointer (some ⟨b, o, none⟩)) (some (.int k1 lo)) none none).run P w = .ok (.slice (some ⟨b, o + i, none⟩) (n - i) (n - i)) w := by
  subst h1
  have e3 : ¬ n = i := by omega
  have e4 : i ≤ n := by omega
  simp [Instr.sliceAt, run_underlying h.under, Instr.sureAddr, Instr.sliceBounds, Instr.sliceBound, asIntOf, h.size, e3, e4, addr_add]
theorem bs_set (l : List UInt8) (i : Nat) (c : UInt8) : (bs l).set i (u8v c) = bs (l.set i c) := by simp [bs, List.map_set]
/-- A byte is stored into a block of bytes. -/
theorem stb_k {w : World} {b o tb : Nat} {l : List UInt8} {c : UInt8} {K : World → Prop} (h : Bk w b tb (bs l)) (ho : o < l.length) (k : ∀ w1, Bk w1 b tb (bs (l.set o c)) → Fr (fun i => i = b) w w1 → K w1) :
    pu P (Instr.storeAt 5 (.pointer (some ⟨b, o, none⟩)) (u8v c)) w K :=
  stB_k h (by rw [bs_length]; exact ho) fun w1 h1 hf => k w1 (by rwa [bs_set] at h1) hf
theorem zeros_bs : zeros 512 = bs (zs 512) := by
  unfold zeros bs zs
  rw [List.map_replicate]
  rfl
theorem quo_run {c : Bool} {w : World} {t : TypeId} {x y : Int} (hy : y ≠ 0) (h1 : -9223372036854775808 ≤ x.tdiv y) (h2 : x.tdiv y ≤ 9223372036854775807) : (bin c .quo t (iv x) (iv y)).run P w = .ok (iv (x.tdiv y)) w := by
  refine bin_of _ _ _ (by cases c <;> rfl) ?_
  rw [binOp_quo, Op.intDiv, if_neg hy]
  simp only [Sem.run_pure]
  rw [wrap_i64 h1 h2]
theorem rem_run {c : Bool} {w : World} {t : TypeId} {x y : Int} (hy : y ≠ 0) : (bin c .rem t (iv x) (iv y)).run P w = .ok (iv (x.tmod y)) w := by
  refine bin_of _ _ _ (by cases c <;> rfl) ?_
  rw [binOp_rem, Op.intDiv, if_neg hy]
  rfl
theorem dead_k {w : World} {d : Nat} {D : Disk} {F : Nat → Prop} {K : Value → World → Prop} (h : DiskP w d D F) (k : K (.bool D.dead) w) : cl P 35 #[pt d] w K := by
  obtain ⟨vl, vw, vk, m, es, h⟩ := h
  apply c35
  unfold F35
  refine px_run ?_
  refine gd_tt ?_
  refine gd_tt ?_
  refine nc_ptr ?_
  refine gd_tt ?_
  refine px_run ?_
  refine gd_tt ?_
  refine ldB h.blk rfl ?_
  refine pk_true ?_
  exact k
/-! ### Small functions -/
structure RingAt (w : World) (r d : Nat) (R : Ring) : Prop where
  blk : Bk w r 281 [pt d, iv R.first, iv R.count, iv R.base, iv R.last, iv R.top]
  wf : R.WF
theorem RingAt.fr {F : Nat → Prop} {w w1 : World} {r d : Nat} {R : Ring} (h : RingAt w r d R) (f : Fr F w w1) (hF : ¬ F r) : RingAt w1 r d R := ⟨h.blk.fr f hF, h.wf⟩
theorem RingAt.fr0 {w w1 : World} {r d : Nat} {R : Ring} (h : RingAt w r d R) (f : Fr no w w1) : RingAt w1 r d R := ⟨h.blk.fr0 f, h.wf⟩
section
variable {w : World} {r d : Nat} {R : Ring} {K : Value → World → Prop}
theorem top_k (h : RingAt w r d R) (k : K (iv R.top) w) : cl P 111 #[pt r] w K := by
  apply c111
  unfold F111
  refine px_run ?_
  refine cnd_false ?_
  refine nc_ptr ?_
  refine px_run ?_
  refine ldB h.blk rfl ?_
  exact k
theorem pieces_k {n : Nat} (hn : n ≤ 100000000) (k : K (iv (pieces n)) w) : cl P 233 #[iv n] w K := by
  apply c233
  unfold F233
  have h0 : ¬ ((n : Int) < 0) := by omega
  refine px_run ?_
  simp only [h0, decide_false]
  refine cnd_false ?_
  refine px_run ?_
  refine cnd_dec (fun h => ?_) (fun h => ?_)
  · have : n = 0 := by omega
    subst this
    exact k
  · haveI : Fits .i64 ((n : Int) - 1) := fits_i64 (by omega) (by omega)
    refine px_run ?_
    have hq : ((n : Int) - 1).tdiv 501 = (((n - 1) / 501 : Nat) : Int) := by
      rw [show (n : Int) - 1 = ((n - 1 : Nat) : Int) by omega]
      rfl
    refine px_of (quo_run (by omega) (by omega) (by omega)) ?_
    rw [hq]
    haveI : Fits .i64 ((((n - 1) / 501 : Nat) : Int) + 1) := fits_i64 (by omega) (by omega)
    refine px_run ?_
    have : (((n - 1) / 501 : Nat) : Int) + 1 = (pieces n : Int) := by
      unfold pieces
      rw [if_neg (by omega)]
      omega
    rw [this]
    exact k
theorem torn_k (h : RingAt w r d R) (k : ∀ w1, Fr no w w1 → K (.bool (decide (R.last < R.top))) w1) : cl P 234 #[pt r] w K := by
  apply c234
  unfold F234
  refine dr_of ?_
  have hb := h.blk.fr0 (Fr.dw w)
  refine ny_ptr ?_
  refine py_run ?_
  refine ldY hb rfl ?_
  refine ny_ptr ?_
  refine py_run ?_
  refine ldY hb rfl ?_
  refine py_run ?_
  have e : decide ((R.top : Int) > (R.last : Int)) = decide (R.last < R.top) := by apply decide_eq_decide.2; omega
  rw [e]
  exact k _ (Fr.dw w)
theorem alive2_k {D : Disk} {F : Nat → Prop} (h : RingAt w r d R) (hd : DiskP w d D F) (k : K (iv (if D.dead then 20 else 0)) w) : cl P 232 #[pt r] w K := by
  apply c232
  unfold F232
  refine px_run ?_
  refine cnd_false ?_
  refine nc_ptr ?_
  refine px_run ?_
  refine ldB h.blk rfl ?_
  refine dead_k hd ?_
  refine cnd_of (fun hd => ?_) (fun hd => ?_)
  · rw [hd] at k; exact k
  · rw [hd] at k; exact k
theorem place_k {n : Nat} (h : RingAt w r d R) (k : ∀ w1, Fr no w w1 → K (iv (R.place n)) w1) : cl P 237 #[pt r, iv n] w K := by
  apply c237
  unfold F237
  refine dr_of ?_
  have hb := h.blk.fr0 (Fr.dw w)
  have hp := h.wf.pos
  have hpl := Ring.place_lt hp n
  have hm := h.wf.most
  refine ny_ptr ?_
  refine py_run ?_
  refine ldY hb rfl ?_
  refine ny_ptr ?_
  refine py_run ?_
  refine ldY hb rfl ?_
  refine py_of (v := iv ((n % R.count : Nat) : Int)) (fun w' _ => ?_) ?_
  · rw [rem_run (by omega)]
    rfl
  haveI : Fits .i64 ((R.first : Int) + ((n % R.count : Nat) : Int)) := fits_i64 (by omega) (by unfold Ring.place at hpl; omega)
  refine py_run ?_
  have e : (R.first : Int) + ((n % R.count : Nat) : Int) = (R.place n : Int) := by unfold Ring.place; omega
  rw [e]
  exact k _ (Fr.dw w)
end

/-! ### Sectors of pieces -/
theorem zs_succ (n : Nat) : zs (n + 1) = 0 :: zs n := rfl
theorem set_pre {a : List UInt8} {i m : Nat} {c : UInt8} (ha : a.length = i) : (a ++ zs (m + 1)).set i c = (a ++ [c]) ++ zs m := by
  subst ha
  rw [zs_succ]
  simp
theorem le8_take {n i : Nat} (hi : i < 8) : (le8 n).take (i + 1) = (le8 n).take i ++ [UInt8.ofNat (n / 2 ^ (8 * i))] := by
  rw [List.take_succ_eq_append_getElem (by rw [le8_length]; exact hi)]
  simp [le8]
def penc (n : Nat) (last : Bool) (vd : Value) : List Value := [iv n, .bool last, vd]
theorem sector_k {w : World} {p : Piece} {vd : Value} {K : Value → World → Prop} (h : Sl w vd 1 p.data.length (bs p.data)) (hd : p.data.length ≤ 501)
    (k : ∀ w1, Fr no w w1 → K (.agg (bs p.sector).toArray) w1) : cl P 236 #[.agg (penc p.n p.last vd).toArray] w K := by
  obtain ⟨_, ad, cd, rfl, _⟩ := id h
  apply c236
  unfold F236
  refine boxA_k fun b1 w1 hb1e hb1 hf1 => ?_
  refine alloc_k (P := P) (z := zeros 512) fun b2 w2 hb2e hb2 hf2 => ?_
  refine alloc_k (P := P) (z := zeros 512) fun b3 w3 hb3e hb3 hf3 => ?_
  have hl1 := hb1.lt
  have hl2 := hb2.lt
  have s1 := hf1.size
  rw [zeros_bs] at hb2 hb3
  have f13 : Fr no w w3 := (hf1.trans hf2 (fun _ h => by cases h)).trans hf3 (fun _ h => by cases h)
  have hb13 := (hb1.fr0 hf2).fr0 hf3
  have hb23 := hb2.fr0 hf3
  -- what stands after a store into the third block
  have step : ∀ {wx wy : World}, Fr no w wx → Bk wx b1 283 (penc p.n p.last (.slice ad p.data.length cd)) → Bk wx b2 329 (bs (zs 512)) → Fr (fun i => i = b3) wx wy → Fr no w wy ∧ Bk wy b1 283 (penc p.n p.last (.slice ad p.data.length cd)) ∧ Bk wy b2 329 (bs (zs 512)) :=
    fun f h1 h2 g => ⟨f.new g (fun i hi => by omega), h1.frb g (by omega), h2.frb g (by omega)⟩
  refine lp_of (fun vs w4 => ∃ i : Nat, vs = [iv i] ∧ i ≤ 8 ∧ Bk w4 b3 329 (bs ((le8 p.n).take i ++ zs (512 - i))) ∧ Fr no w w4 ∧ Bk w4 b1 283 (penc p.n p.last (.slice ad p.data.length cd)) ∧ Bk w4 b2 329 (bs (zs 512)))
    (fun vs _ => (match vs with | [.int _ m] => (8 - m).toNat | _ => 0)) ⟨0, rfl, by omega, by simpa using hb3, f13, hb13, hb23⟩ ?_
  rintro vs w4 ⟨i, rfl, hi, hb34, f4, hb14, hb24⟩
  simp only [g0_cons]
  refine px_run ?_
  refine cnd_dec (fun hlt => ?_) (fun hge => ?_)
  · have hi8 : i < 8 := by omega
    refine px_run ?_
    refine ldB hb14 rfl ?_
    haveI : Fits .i64 ((8 : Int) * (i : Int)) := fits_i64 (by omega) (by omega)
    refine px_run ?_
    rw [show (8 : Int) * (i : Int) = ((8 * i : Nat) : Int) by omega]
    refine px_of (shr_u64 (n := p.n) (s := 8 * i) (by show 8 * i ≤ 64; omega)) ?_
    refine px_of (conv_u8 (by kernel_rfl)) ?_
    refine px_of (idxA_run i rfl (by omega)) ?_
    rw [Nat.zero_add]
    refine stb_k hb34 (by rw [List.length_append, List.length_take, le8_length, zs_length]; omega) fun w5 hb35 hf5 => ?_
    obtain ⟨f5, hb15, hb25⟩ := step f4 hb14 hb24 hf5
    rw [show 512 - i = (512 - (i + 1)) + 1 by omega, set_pre (by rw [List.length_take, le8_length]; omega), ← le8_take hi8] at hb35
    haveI : Fits .i64 ((i : Int) + 1) := fits_i64 (by omega) (by omega)
    refine px_run ?_
    exact ⟨⟨i + 1, rfl, by omega, hb35, f5, hb15, hb25⟩, show ((8 : Int) - ((i : Int) + 1)).toNat < ((8 : Int) - i).toNat by omega⟩
  · have : i = 8 := by omega
    subst this
    rw [List.take_of_length_le (by rw [le8_length]; omega)] at hb34
    refine px_run ?_
    refine ldB hb14 rfl ?_
    refine cut_of (fun _ w5 => Bk w5 b3 329 (bs ((le8 p.n ++ [(if p.last then 1 else 0)]) ++ zs 503)) ∧ Fr no w w5 ∧ Bk w5 b1 283 (penc p.n p.last (.slice ad p.data.length cd)) ∧ Bk w5 b2 329 (bs (zs 512))) (cnd_of (fun hla => ?_) (fun hla => ?_)) ?_
    · refine px_of (idxA_run 8 rfl (by omega)) ?_
      rw [Nat.zero_add]
      refine stb_k (c := 1) hb34 (by rw [List.length_append, le8_length, zs_length]; omega) fun w5 hb35 hf5 => ?_
      obtain ⟨f5, hb15, hb25⟩ := step f4 hb14 hb24 hf5
      rw [show 512 - 8 = 503 + 1 from rfl, set_pre (le8_length _)] at hb35
      rw [if_pos hla]
      exact ⟨hb35, f5, hb15, hb25⟩
    · rw [if_neg (by rw [hla]; simp)]
      refine ⟨?_, f4, hb14, hb24⟩
      rw [List.append_assoc]
      exact hb34
    rintro _ w5 ⟨hb35, f5, hb15, hb25⟩
    have hp9 : (le8 p.n ++ [(if p.last then (1 : UInt8) else 0)]).length = 9 := by rw [List.length_append, le8_length]; rfl
    generalize hpre : le8 p.n ++ [(if p.last then (1 : UInt8) else 0)] = pre at hb35 hp9
    refine dr_of ?_
    have fd := Fr.dw w5
    have hbd1 := hb15.fr0 fd
    have hbd2 := hb25.fr0 fd
    have hbd3 := hb35.fr0 fd
    have f6 := f5.trans fd (fun _ h => by cases h)
    generalize dw w5 = w6 at hbd1 hbd2 hbd3 f6
    refine held_of (fun w' => Bk w' b1 283 (penc p.n p.last (.slice ad p.data.length cd))) hbd1 ?_
    refine py_run ?_
    refine ldY hbd1 rfl ?_
    refine py_run ?_
    refine py_of (fun w' _ => conv_u8 (by kernel_rfl)) ?_
    refine py_run ?_
    refine ldBy (P := P) (fun w' hS => hS.cell 2) ?_
    refine py_run ?_
    refine py_of (fun w' _ => shr_u64 (n := p.data.length) (s := 8) (by decide)) ?_
    refine py_of (fun w' _ => conv_u8 (by kernel_rfl)) ?_
    refine py_of (fun w' _ => idxA_run 9 rfl (by omega)) ?_
    rw [Nat.zero_add]
    refine stb_k hbd3 (by rw [List.length_append, hp9, zs_length]; omega) fun w7 hb37 hf7 => ?_
    obtain ⟨f7, hb17, hb27⟩ := step f6 hbd1 hbd2 hf7
    refine hs_of hb17 ?_
    rw [show 503 = 502 + 1 from rfl, set_pre hp9] at hb37
    refine py_of (fun w' _ => idxA_run 10 rfl (by omega)) ?_
    rw [Nat.zero_add]
    have hp10 : (pre ++ [UInt8.ofNat p.data.length]).length = 10 := by rw [List.length_append, hp9]; rfl
    refine stb_k hb37 (by rw [List.length_append, hp10, zs_length]; omega) fun w8 hb38 hf8 => ?_
    obtain ⟨f8, hb18, hb28⟩ := step f7 hb17 hb27 hf8
    refine hs_of hb18 ?_
    rw [show 502 = 501 + 1 from rfl, set_pre hp10] at hb38
    refine dr_of ?_
    have fd9 := Fr.dw w8
    have hb19 := hb18.fr0 fd9
    have hb29 := hb28.fr0 fd9
    have hb39 := hb38.fr0 fd9
    have f9 := f8.trans fd9 (fun _ h => by cases h)
    generalize dw w8 = w9 at hb19 hb29 hb39 f9
    have hp11 : (pre ++ [UInt8.ofNat p.data.length] ++ [UInt8.ofNat (p.data.length / 2 ^ 8)]).length = 11 := by rw [List.length_append, hp10]; rfl
    refine py_of (fun w' _ => slcA_run (n := 512) (i := 11) rfl (by omega)) ?_
    refine py_run ?_
    refine ldY hb19 rfl ?_
    have hmin : Nat.min p.data.length (512 - 11) = p.data.length := Nat.min_eq_left hd
    refine copy_k (P := P) hb39 (h.fr0 f9) (by rw [bs_take]; exact atoms_bs _) (by rw [hmin, bs_length, List.length_append, hp11, zs_length]; omega) fun w10 hb310 hf10 => ?_
    obtain ⟨f10, hb110, hb210⟩ := step f9 hb19 hb29 hf10
    rw [hmin, Nat.mul_one, List.take_of_length_le (by rw [bs_length]; omega), Nat.zero_add, bs_spl] at hb310
    have e : (pre ++ [UInt8.ofNat p.data.length] ++ [UInt8.ofNat (p.data.length / 2 ^ 8)] ++ zs 501).take 11 ++ p.data ++ (pre ++ [UInt8.ofNat p.data.length] ++ [UInt8.ofNat (p.data.length / 2 ^ 8)] ++ zs 501).drop (11 + p.data.length) = p.sector := by
      have hz : (zs 501).drop p.data.length = zs (501 - p.data.length) := by unfold zs; rw [List.drop_replicate]
      rw [take_of_append hp11, ← List.drop_drop, drop_of_append hp11, hz]
      unfold Piece.sector
      rw [← hpre]
      simp only [List.append_assoc]
      rfl
    rw [e] at hb310
    refine ldA0 hb310 (by rw [bs_length]; exact Piece.sector_length hd) ?_
    refine stA0_k hb210 (atoms_bs _) (by rw [bs_length]; exact Piece.sector_length hd) (by rw [bs_length, zs_length]) fun w11 hb211 hf11 => ?_
    refine plA0 hb211 (by rw [bs_length]; exact Piece.sector_length hd) ?_
    exact k w11 (f10.new hf11 (fun i hi => by omega))

/-! ### Pieces of sectors -/
theorem or_i64 {a b : Nat} {c : Bool} {w : World} {t : TypeId} (ha : a < 2 ^ 63) (hb : b < 2 ^ 63) : (bin c .or t (iv (a : Int)) (iv (b : Int))).run P w = .ok (iv ((a ||| b : Nat) : Int)) w := by
  refine bin_of _ _ _ (by cases c <;> rfl) ?_
  have hab : a ||| b < 2 ^ 63 := Nat.or_lt_two_pow ha hb
  have : IntKind.i64.wrap (((BitVec.ofInt 64 (a : Int) ||| BitVec.ofInt 64 (b : Int)).toNat : Nat) : Int) = ((a ||| b : Nat) : Int) := by
    simp only [BitVec.ofInt_natCast, BitVec.toNat_or, BitVec.toNat_ofNat]
    rw [Nat.mod_eq_of_lt (by omega), Nat.mod_eq_of_lt (by omega), wrap_i64 (by omega) (by omega)]
  show Result.ok _ w = _
  rw [show IntKind.bits .i64 = 64 from rfl, this]
theorem shl_i64 {n s : Nat} {c : Bool} {w : World} {t : TypeId} {k' : IntKind} (hs : s ≤ 64) (hn : n * 2 ^ s < 2 ^ 63) : (bin c .shl t (iv (n : Int)) (.int k' (s : Int))).run P w = .ok (iv ((n * 2 ^ s : Nat) : Int)) w := by
  refine bin_of _ _ _ (by cases c <;> rfl) ?_
  show (Op.shift .shl .i64 _ k' _).run P w = _
  have h0 : ¬ ((s : Int) < 0) := by omega
  have hm : min s (IntKind.bits .i64) = s := Nat.min_eq_left hs
  simp only [Op.shift, h0, if_false, Int.toNat_natCast, hm, Sem.run_pure]
  have e : (n : Int) * 2 ^ s = ((n * 2 ^ s : Nat) : Int) := by simp
  rw [e, wrap_i64 (by omega) (by omega)]
theorem unle_append (a : List UInt8) (c : UInt8) : unle (a ++ [c]) = unle a + 256 ^ a.length * c.toNat := by
  induction a with
  | nil => simp [unle]
  | cons x a ih =>
    simp only [List.cons_append, unle, ih, List.length_cons, Nat.pow_succ]
    rw [Nat.mul_add, ← Nat.mul_assoc, Nat.mul_comm 256 (256 ^ a.length)]
    omega
theorem unle_lt (a : List UInt8) : unle a < 256 ^ a.length := by
  induction a with
  | nil => simp [unle]
  | cons x a ih =>
    have := x.toNat_lt
    simp only [unle, List.length_cons, Nat.pow_succ]
    omega
theorem or_add {a c i : Nat} (h : a < 2 ^ i) : a ||| (c * 2 ^ i) = a + c * 2 ^ i := by
  rw [Nat.or_comm, Nat.mul_comm, ← Nat.two_pow_add_eq_or_of_lt h, Nat.add_comm]
theorem pow256 (i : Nat) : 256 ^ i = 2 ^ (8 * i) := by rw [Nat.pow_mul]
instance : StructT P 283 [(0, 1), (1, 1), (2, 1)] := ⟨by kernel_rfl, fun w => by kernel_rfl⟩
theorem build283_0 {w : World} : (Instr.build 283 #[]).run P w = .ok (.agg (penc 0 false (.slice none 0 0)).toArray) w := by
  refine build_run (P := P) (t := 283) (parts := []) (z := [.int .i64 0, .bool false, .slice none 0 0]) ?_
  rw [fill_nil]
  rfl
theorem build283_3 {w : World} {n : Nat} {b : Bool} {v : Value} [hv : Atom v] : (Instr.build 283 #[(0, iv n), (1, .bool b), (2, v)]).run P w = .ok (.agg (penc n b v).toArray) w := by
  refine build_run (P := P) (t := 283) (parts := [(0, iv n), (1, .bool b), (2, v)]) (z := [.int .i64 0, .bool false, .slice none 0 0]) ?_
  rw [fill_cons (xs := [iv n]) (off := 0) (size := 1) rfl rfl rfl (by simp), fill_cons (xs := [.bool b]) (off := 1) (size := 1) rfl rfl rfl (by rw [spl_length (by simp)]; simp),
    fill_cons (xs := [v]) (off := 2) (size := 1) rfl hv.cells rfl (by rw [spl_length (by rw [spl_length (by simp)]; simp), spl_length (by simp)]; simp), fill_nil]
  rfl
theorem atoms_penc (n : Nat) (b : Bool) (a : Option Addr) (m c : Nat) : Atoms (penc n b (.slice a m c)) := fun x hx => by
  simp only [penc, List.mem_cons, List.not_mem_nil, or_false] at hx
  rcases hx with rfl | rfl | rfl <;> exact inferInstance
theorem build0_g {w : World} {K : Value → World → Prop} (k : ∀ b w1, b = w.heap.size → Own w1 (.slice (some ⟨b, 0, none⟩) 0 0) 5 1 0 [] → Fr no w w1 → K (.slice (some ⟨b, 0, none⟩) 0 0) w1) : pg P (Instr.buildSlice 43 0 #[]) w K := by
  have hr : (Instr.buildSlice 43 0 #[]).run P w = .ok (.slice (some ⟨w.heap.size, 0, none⟩) 0 0) (w.alloc (.cells #[] 5)) := by
    simp [Instr.buildSlice, run_underlying (SliceT.under (P := P) (t := 43)), SliceT.sizeOf (P := P) (t := 43), Instr.fill, newRow, newObj, Sem.run]
    rw [Array.eq_empty_of_size_eq_zero (xs := Array.map _ (Array.range 0)) (by simp)]
  exact pg_of hr (Fr.alloc w _).ext (k _ _ rfl ⟨by simp, .inr ⟨w.heap.size, 0, #[], rfl, Nat.zero_le _, heap_alloc_new w _, Nat.le_refl _, Nat.zero_le _, by simp, by simp⟩⟩ (Fr.alloc _ _))
theorem alloc_g {w : World} {t : TypeId} {K : Value → World → Prop} {z : List Value} [Zero P t z] (k : ∀ b w1, b = w.heap.size → Bk w1 b t z → Fr no w w1 → K (.pointer (some ⟨b, 0, none⟩)) w1) : pg P (Instr.alloc t true (.tuple #[])) w K :=
  pg_of alloc_run (Fr.alloc w _).ext (k _ _ rfl (Bk.new w t z) (Fr.alloc _ _))
theorem getD_of {l : List UInt8} {i : Nat} (h : i < l.length) : l.getD i 0 = l[i] := by simp [h]
theorem pieceOf_k {w : World} {s : Sec} {K : Value → World → Prop} (hs : s.length = 512)
    (k0 : pieceOf s = none → ∀ w1, Fr no w w1 → K (.tuple #[.agg (penc 0 false (.slice none 0 0)).toArray, .bool false]) w1)
    (k1 : ∀ p, pieceOf s = some p → ∀ vd w1, Own w1 vd 5 1 p.data.length (bs p.data) → Fr no w w1 → (∀ b, vd.ownBlock = some b → w.heap.size ≤ b) → K (.tuple #[.agg (penc p.n p.last vd).toArray, .bool true]) w1) :
    cl P 238 #[.agg (bs s).toArray] w K := by
  apply c238
  unfold F238
  refine boxA_k fun b1 w1 hb1e hb1 hf1 => ?_
  refine alloc_k (P := P) (z := [.int .i64 0, .bool false, .slice none 0 0]) fun b2 w2 hb2e hb2 hf2 => ?_
  have hl1 := hb1.lt
  have hl2 := hb2.lt
  have s1 := hf1.size
  refine dr_of ?_
  have fd := Fr.dw w2
  have hb13 := (hb1.fr0 hf2).fr0 fd
  have hb23 := hb2.fr0 fd
  have f3 : Fr no w (dw w2) := (hf1.trans hf2 (fun _ h => by cases h)).trans fd (fun _ h => by cases h)
  have s3 := f3.size
  have hl23 := hb23.lt
  generalize dw w2 = w3 at hb13 hb23 f3 s3 hl23
  refine py_of (fun w' _ => idxA_run 9 rfl (by omega)) ?_
  rw [Nat.zero_add]
  refine ldY hb13 (bs_get (by omega : 9 < s.length)) ?_
  refine py_of (fun w' _ => conv_u8_int) ?_
  refine py_of (fun w' _ => idxA_run 10 rfl (by omega)) ?_
  rw [Nat.zero_add]
  refine ldY hb13 (bs_get (by omega : 10 < s.length)) ?_
  refine py_of (fun w' _ => conv_u8_int) ?_
  have c9 := (s[9]).toNat_lt
  have c10 := (s[10]).toNat_lt
  refine py_of (fun w' _ => shl_i64 (n := s[10].toNat) (s := 8) (by omega) (by omega)) ?_
  refine py_of (fun w' _ => or_i64 (a := s[9].toNat) (b := s[10].toNat * 2 ^ 8) (by omega) (by omega)) ?_
  rw [or_add (by omega)]
  have hsize : s[9].toNat + s[10].toNat * 2 ^ 8 = (s.getD 9 0).toNat + 256 * (s.getD 10 0).toNat := by
    rw [getD_of (by omega : 9 < s.length), getD_of (by omega : 10 < s.length)]
    omega
  rw [hsize]
  have hpo : pieceOf s = (let n := unle (s.take 8)
      let size := (s.getD 9 0).toNat + 256 * (s.getD 10 0).toNat
      if n < 1 ∨ 4611686018427387904 < n ∨ 501 < size then none else
      let p : Piece := ⟨n, decide (s.getD 8 0 = 1), (s.drop 11).take size⟩
      if p.sector ≠ s ∨ (p.last = false ∧ size ≠ 501) then none else some p) := rfl
  simp only at hpo
  have hsz : (s.getD 9 0).toNat + 256 * (s.getD 10 0).toNat < 65536 := by omega
  generalize (s.getD 9 0).toNat + 256 * (s.getD 10 0).toNat = size at hpo hsz ⊢
  -- nothing is there
  have none_ : ∀ w4, Fr no w w4 → Bk w4 b2 283 (penc 0 false (.slice none 0 0)) → pieceOf s = none →
      px P (Instr.build 283 #[]) w4 fun v64 w =>
      pu P (Instr.storeAt 283 (pt b2) v64) w fun w =>
      pla P 283 (pt b2) w fun v2_2 =>
      K (.tuple #[v2_2, (.bool false)]) w := by
    intro w4 f4 hb hn
    refine px_of build283_0 ?_
    refine stA0_k hb (atoms_penc _ _ _ _ _) rfl rfl fun w5 hb5 hf5 => ?_
    refine plA0 hb5 rfl ?_
    exact k0 hn w5 (f4.new hf5 (fun i hi => by omega))
  refine lp_of (fun vs w4 => ∃ i : Nat, vs = [.int .u64 (unle (s.take i) : Nat), iv i] ∧ i ≤ 8 ∧ w4 = w3)
    (fun vs _ => (match vs with | [_, .int _ m] => (8 - m).toNat | _ => 0)) ⟨0, rfl, by omega, rfl⟩ ?_
  rintro vs w4 ⟨i, rfl, hi, rfl⟩
  simp only [g0_cons, g1_cons]
  refine px_run ?_
  refine cnd_dec (fun hlt => ?_) (fun hge => ?_)
  · have hi8 : i < 8 := by omega
    have ci := (s[i]'(by omega)).toNat_lt
    have hlt2 : unle (s.take i) < 2 ^ (8 * i) := by
      have := unle_lt (s.take i)
      rwa [List.length_take, Nat.min_eq_left (by omega), pow256] at this
    have hp8 : 2 ^ (8 * i) ≤ 2 ^ 56 := Nat.pow_le_pow_right (by omega) (by omega)
    refine px_of (idxA_run i rfl (by omega)) ?_
    rw [Nat.zero_add]
    refine ldB hb13 (bs_get (by omega : i < s.length)) ?_
    refine px_of conv_u8_u64 ?_
    haveI : Fits .i64 ((8 : Int) * (i : Int)) := fits_i64 (by omega) (by omega)
    refine px_run ?_
    rw [show (8 : Int) * (i : Int) = ((8 * i : Nat) : Int) by omega]
    refine px_of (shl_u64 (n := (s[i]'(by omega)).toNat) (s := 8 * i) (by omega)) ?_
    have hm : (s[i]'(by omega)).toNat * 2 ^ (8 * i) < 2 ^ 64 := by
      have : (s[i]'(by omega)).toNat * 2 ^ (8 * i) ≤ 255 * 2 ^ 56 := Nat.mul_le_mul (by omega) hp8
      omega
    rw [Nat.mod_eq_of_lt hm]
    refine px_of (or_u64 (by omega) hm) ?_
    rw [or_add hlt2]
    have e : unle (s.take i) + (s[i]'(by omega)).toNat * 2 ^ (8 * i) = unle (s.take (i + 1)) := by
      rw [List.take_succ_eq_append_getElem (by omega), unle_append, List.length_take, Nat.min_eq_left (by omega), pow256, Nat.mul_comm]
    rw [e]
    haveI : Fits .i64 ((i : Int) + 1) := fits_i64 (by omega) (by omega)
    refine px_run ?_
    exact ⟨⟨i + 1, rfl, by omega, rfl⟩, show ((8 : Int) - ((i : Int) + 1)).toNat < ((8 : Int) - i).toNat by omega⟩
  have : i = 8 := by omega
  subst this
  generalize unle (s.take 8) = n at hpo ⊢
  refine px_run ?_
  by_cases h1 : n < 1
  · rw [if_pos (.inl h1)] at hpo
    have e1 : decide ((n : Int) < 1) = true := by simp; omega
    simp only [e1]
    iterate 2 refine gd_tf ?_
    refine pk_true ?_
    iterate 2 refine gd_tf ?_
    refine pk_true ?_
    refine cnd_true ?_
    exact none_ _ f3 hb23 hpo
  have e1 : decide ((n : Int) < 1) = false := by simp; omega
  simp only [e1]
  refine gd_ff ?_
  refine gd_ff ?_
  refine px_run ?_
  refine pk_false ?_
  by_cases h2 : 4611686018427387904 < n
  · rw [if_pos (.inr (.inl h2))] at hpo
    have e2 : decide ((n : Int) > 4611686018427387904) = true := by simp; omega
    simp only [e2]
    iterate 2 refine gd_tf ?_
    refine pk_true ?_
    refine cnd_true ?_
    exact none_ _ f3 hb23 hpo
  have e2 : decide ((n : Int) > 4611686018427387904) = false := by simp; omega
  simp only [e2]
  refine gd_ff ?_
  refine gd_ff ?_
  refine px_run ?_
  refine pk_false ?_
  refine cnd_dec (fun h3 => ?_) (fun h3 => ?_)
  · rw [if_pos (.inr (.inr (by omega)))] at hpo
    exact none_ _ f3 hb23 hpo
  rw [if_neg (by omega)] at hpo
  have hsz5 : size ≤ 501 := by omega
  obtain ⟨p, hpd⟩ : ∃ p : Piece, (⟨n, decide (s.getD 8 0 = 1), (s.drop 11).take size⟩ : Piece) = p := ⟨_, rfl⟩
  have hpo : pieceOf s = if p.sector ≠ s ∨ (p.last = false ∧ size ≠ 501) then none else some p := by rw [← hpd]; exact hpo
  have hpn : p.n = n := by rw [← hpd]
  have hpl : p.last = decide (s.getD 8 0 = 1) := by rw [← hpd]
  have hpdt : p.data = (s.drop 11).take size := by rw [← hpd]
  have hlen : p.data.length = size := by rw [hpdt, List.length_take, List.length_drop]; omega
  refine cut_of (fun vs w5 => ∃ b7 vd, vs = [pt b7] ∧ Bk w5 b7 283 (penc p.n p.last vd) ∧ Own w5 vd 5 1 p.data.length (bs p.data) ∧ Fr no w4 w5 ∧ (∀ b, vd.ownBlock = some b → w4.heap.size ≤ b) ∧ w4.heap.size ≤ b7) ?_ ?_
  · refine dr_of ?_
    have fd5 := Fr.dw w4
    have hb15 := hb13.fr0 fd5
    have s5 := fd5.size
    generalize dw w4 = w5 at fd5 hb15 s5
    refine held_of (fun w' => Bk w' b1 329 (bs s)) hb15 ?_
    refine py_of (fun w' _ => conv_u64_int) ?_
    rw [wrap_i64 (by omega) (by omega)]
    refine py_of (fun w' _ => idxA_run 8 rfl (by omega)) ?_
    rw [Nat.zero_add]
    refine ldBy (P := P) (fun w' hS => (hS.cell 8).trans (bs_get (by omega : 8 < s.length))) ?_
    refine py_run ?_
    haveI : Fits .i64 ((11 : Int) + (size : Int)) := fits_i64 (by omega) (by omega)
    refine py_run ?_
    refine py_of (fun w' _ => sliceArr2_run (n := 512) (i := 11) (j := 11 + size) rfl (by omega) (by omega) (by omega) (by omega)) ?_
    rw [Nat.zero_add, Nat.add_sub_cancel_left]
    have h48 : ∀ {wx}, Fr no w5 wx → Sl wx (.slice (some ⟨b1, 11, none⟩) size (512 - 11)) 1 p.data.length (bs p.data) := fun f => by
      rw [hlen]
      refine (hb15.fr0 f).sl (fun j hj => ?_) (by rw [bs_length, hlen]) (by omega)
      rw [bs_length, hlen] at hj
      rw [hpdt, ← bs_take, ← bs_drop, List.getElem?_take, if_pos hj, List.getElem?_drop]
    have e8 : decide (((s[8]'(by omega)).toNat : Int) = 1) = p.last := by
      rw [hpl, getD_of (by omega : 8 < s.length)]
      apply decide_eq_decide.2
      constructor
      · intro h
        apply UInt8.toNat_inj.1
        show _ = 1
        omega
      · intro h; rw [h]; rfl
    rw [e8, ← hpn]
    have tr : ∀ {x y z : World}, Fr no x y → Fr no y z → Fr no x z := fun h k => h.trans k (fun _ h => by cases h)
    -- the bytes, behind the empty slice
    have app : ∀ (wx : World) (b' : Nat) (K' : Value → World → Prop), Fr no w5 wx → w5.heap.size ≤ b' → Own wx (.slice (some ⟨b', 0, none⟩) 0 0) 5 1 0 [] →
        (∀ vd wy, Own wy vd 5 1 p.data.length (bs p.data) → Fr no w5 wy → (∀ b t cs, Bk wx b t cs → t ≠ 5 → Bk wy b t cs) → (∀ b, vd.ownBlock = some b → w5.heap.size ≤ b) → K' vd wy) →
        px P (Builtin.append_ #[43, 43] 43 #[.slice (some ⟨b', 0, none⟩) 0 0, .slice (some ⟨b1, 11, none⟩) size (512 - 11)]) wx K' := by
      intro wx b' K' fx hb' ho hk
      refine append_k (P := P) (by' := 1) ho (h48 fx) (atoms_bs _) (by unfold maxLen; omega) (by omega) fun vd wy hvd hfy hny => ?_
      rw [Nat.zero_add, List.nil_append] at hvd
      refine hk vd wy hvd (fx.new hfy (fun i hi => by cases hi; exact hb')) (fun b t cs hb ht => hb.fr hfy (fun e => ?_)) (fun b hb => ?_)
      · obtain ⟨cs', hc'⟩ := Own.bkk ho e
        exact ht (Bk.typ hb hc')
      · rcases hny b hb with h | h
        · cases h; exact hb'
        · have := fx.size; omega
    refine ⟨?_, ?_⟩
    · refine build0_g fun b45 w6 hb45 ho45 hf6 => ?_
      refine hs_of (hb15.fr0 hf6) ?_
      refine ⟨?_, ?_⟩
      · refine app w6 b45 _ hf6 (by omega) ho45 fun vd w7 hvd f7 hbk hnv => ?_
        refine hs_of (hb15.fr0 f7) ?_
        obtain ⟨av, cv', rfl⟩ := Own.atom hvd
        refine py_of (fun w' _ => build283_3) ?_
        refine alloc_g (z := [.int .i64 0, .bool false, .slice none 0 0]) fun b7 w8 hb7e hb7 hf8 => ?_
        refine hs_of ((hb15.fr0 f7).fr0 hf8) ?_
        have s7 := f7.size
        have hlb1 := hb15.lt
        refine stA0_k hb7 (atoms_penc _ _ _ _ _) rfl rfl fun w9 hb79 hf9 => ?_
        have f9 := (tr f7 hf8).new hf9 (fun i hi => by omega)
        refine hs_of (hb15.fr0 f9) ?_
        exact ⟨b7, _, rfl, hb79, (hvd.fr0 hf8).frb hf9 hb7 (by decide), tr fd5 f9, fun b hb => by have := hnv b hb; omega, by omega⟩
      · refine alloc_g (z := [.int .i64 0, .bool false, .slice none 0 0]) fun b7 w8 hb7e hb7 hf8 => ?_
        have f8 := tr hf6 hf8
        refine hs_of (hb15.fr0 f8) ?_
        refine app w8 b45 _ f8 (by omega) (ho45.fr0 hf8) fun vd w7 hvd f7 hbk hnv => ?_
        refine hs_of (hb15.fr0 f7) ?_
        obtain ⟨av, cv', rfl⟩ := Own.atom hvd
        refine py_of (fun w' _ => build283_3) ?_
        have s6 := hf6.size
        have hb77 := hbk _ _ _ hb7 (by decide)
        refine stA0_k hb77 (atoms_penc _ _ _ _ _) rfl rfl fun w9 hb79 hf9 => ?_
        have f9 := f7.new hf9 (fun i hi => by omega)
        refine hs_of (hb15.fr0 f9) ?_
        exact ⟨b7, _, rfl, hb79, hvd.frb hf9 hb77 (by decide), tr fd5 f9, fun b hb => by have := hnv b hb; omega, by omega⟩
    · refine alloc_g (z := [.int .i64 0, .bool false, .slice none 0 0]) fun b7 w8 hb7e hb7 hf8 => ?_
      refine hs_of (hb15.fr0 hf8) ?_
      refine build0_g fun b45 w6 hb45 ho45 hf6 => ?_
      have f6 := tr hf8 hf6
      refine hs_of (hb15.fr0 f6) ?_
      have s8 := hf8.size
      refine app w6 b45 _ f6 (by omega) ho45 fun vd w7 hvd f7 hbk hnv => ?_
      refine hs_of (hb15.fr0 f7) ?_
      obtain ⟨av, cv', rfl⟩ := Own.atom hvd
      refine py_of (fun w' _ => build283_3) ?_
      have hb77 := hbk _ _ _ (hb7.fr0 hf6) (by decide)
      refine stA0_k hb77 (atoms_penc _ _ _ _ _) rfl rfl fun w9 hb79 hf9 => ?_
      have f9 := f7.new hf9 (fun i hi => by omega)
      refine hs_of (hb15.fr0 f9) ?_
      exact ⟨b7, _, rfl, hb79, hvd.frb hf9 hb77 (by decide), tr fd5 f9, fun b hb => by have := hnv b hb; omega, by omega⟩
  · rintro vs w5 ⟨b7, vd, rfl, hb75, hvd5, f45, hnv, hb7n⟩
    simp only [g0_cons]
    have tr : ∀ {x y z : World}, Fr no x y → Fr no y z → Fr no x z := fun h k => h.trans k (fun _ h => by cases h)
    refine dr_of ?_
    have fd5 := Fr.dw w5
    have f46 := tr f45 fd5
    have hb16 := hb13.fr0 f46
    have hb26 := hb23.fr0 f46
    have hb76 := hb75.fr0 fd5
    have hvd6 := hvd5.fr0 fd5
    generalize dw w5 = w6 at fd5 f46 hb16 hb26 hb76 hvd6
    refine held_of (fun w' => Bk w' b1 329 (bs s)) hb16 ?_
    refine ldAY0 hb76 rfl ?_
    refine py_of (fun w' hS => lda_run (P := P) (o := 0) (xs := bs s) hS (fun j _ => by rw [Nat.zero_add]) (by rw [bs_length]; exact hs)) ?_
    refine sector_k hvd6.sl (by omega) fun w7 hf7 => ?_
    refine hs_of (hb16.fr0 hf7) ?_
    refine py_of (fun w' _ => neq_bytes und329 (by kernel_rfl) (Piece.sector_length (by omega)) hs) ?_
    have f7 := tr f3 (tr f46 hf7)
    have hb27 := hb26.fr0 hf7
    have hb77 := hb76.fr0 hf7
    have hvd7 := hvd6.fr0 hf7
    by_cases heq : p.sector = s
    · have e : (!(p.sector == s)) = false := by rw [heq]; simp
      rw [e]
      refine gy_ff ?_
      refine py_run ?_
      refine gy_ff ?_
      refine ldY hb77 rfl ?_
      refine gy_ff ?_
      refine py_run ?_
      refine gy_ff ?_
      cases hlast : p.last
      · rw [hlast] at hpo
        simp only [Bool.not_false]
        refine gy_tt ?_
        refine gy_tt ?_
        refine py_run ?_
        refine gy_ff ?_
        refine pky_true ?_
        refine pky_false ?_
        refine cnd_dec (fun h5 => ?_) (fun h5 => ?_)
        · rw [if_pos (.inr ⟨rfl, by omega⟩)] at hpo
          exact none_ _ f7 hb27 hpo
        · rw [if_neg (by
            rintro (h | h)
            · exact h heq
            · omega)] at hpo
          obtain ⟨av, cv', rfl⟩ := Own.atom hvd7
          refine ldA0 hb77 rfl ?_
          refine stA0_k hb27 (atoms_penc _ _ _ _ _) rfl rfl fun w8 hb28 hf8 => ?_
          refine plA0 hb28 rfl ?_
          refine k1 p hpo _ w8 (hvd7.frb hf8 hb27 (by decide)) (f7.new hf8 (fun i hi => by omega)) (fun b hb => by have := hnv b hb; omega)
      · rw [hlast] at hpo
        simp only [Bool.not_true]
        refine gy_ft ?_
        refine gy_ft ?_
        refine gy_ff ?_
        refine pky_false ?_
        refine pky_false ?_
        refine cnd_false ?_
        rw [if_neg (by
            rintro (h | h)
            · exact h heq
            · exact absurd h.1 (by simp))] at hpo
        obtain ⟨av, cv', rfl⟩ := Own.atom hvd7
        refine ldA0 hb77 rfl ?_
        refine stA0_k hb27 (atoms_penc _ _ _ _ _) rfl rfl fun w8 hb28 hf8 => ?_
        refine plA0 hb28 rfl ?_
        refine k1 p hpo _ w8 (hvd7.frb hf8 hb27 (by decide)) (f7.new hf8 (fun i hi => by omega)) (fun b hb => by have := hnv b hb; omega)
    · have e : (!(p.sector == s)) = true := by simp [heq]
      rw [e]
      rw [if_pos (.inl heq)] at hpo
      iterate 4 refine gy_tf ?_
      iterate 2 refine gy_u ?_
      refine gy_tf ?_
      refine pky_true ?_
      refine cnd_true ?_
      exact none_ _ f7 hb27 hpo

/-! ### Reading a piece -/
theorem arrayAt_run329 {w : World} {a : Option Addr} {n c : Nat} (h : 512 ≤ n) : (Instr.arrayAt 329 (.slice a n c)).run P w = .ok (.pointer a) w := by
  have : ¬ n < 512 := by omega
  simp [Instr.arrayAt, run_underlying und329, this]
theorem arrayAt_run195 {w : World} {a : Option Addr} {n c : Nat} (h : 512 ≤ n) : (Instr.arrayAt 195 (.slice a n c)).run P w = .ok (.pointer a) w := by
  have : ¬ n < 512 := by omega
  simp [Instr.arrayAt, run_underlying und195, this]
theorem ringRead_k {w : World} {r d i : Nat} {R : Ring} {D : Disk} {F : Nat → Prop} {K : Value → World → Prop} (h : RingAt w r d R) (hd : DiskP w d D F) (hi : i < D.lasts.length)
    (k0 : D.dead = true → ∀ w1, Fr no w w1 → K (.tuple #[.agg (penc 0 false (.slice none 0 0)).toArray, .bool false, iv 20]) w1)
    (k1 : D.dead = false → ∀ n b a m c is w1, Fr no w w1 → (is = false → R.pieceAt D i = none) → (is = true → ∃ p, R.pieceAt D i = some p ∧ n = p.n ∧ b = p.last ∧ Own w1 (.slice a m c) 5 1 p.data.length (bs p.data) ∧ (∀ b, (Value.slice a m c).ownBlock = some b → w.heap.size ≤ b)) →
      K (.tuple #[.agg (penc n b (.slice a m c)).toArray, .bool is, iv 0]) w1) : cl P 176 #[pt r, iv i] w K := by
  apply c176
  unfold F176
  refine alloc_k (P := P) (z := [.int .i64 0, .bool false, .slice none 0 0]) fun b4 w1 hb4e hb4 hf1 => ?_
  have hl4 := hb4.lt
  refine nc_ptr ?_
  refine px_run ?_
  refine ldB (h.blk.fr0 hf1) rfl ?_
  refine dread_k (hd.fr0 hf1) (fun hdead => ?_) (fun hdead hr => absurd hr (by omega)) (fun hdead j hj hjl v w2 hv hf2 hnv => ?_)
  · refine px_run ?_
    refine px_run ?_
    refine px_run ?_
    refine cnd_true ?_
    refine px_of build283_0 ?_
    refine stA0_k hb4 (atoms_penc _ _ _ _ _) rfl rfl fun w2 hb42 hf2 => ?_
    refine plA0 hb42 rfl ?_
    exact k0 hdead w2 (hf1.new hf2 (fun i hi => by omega))
  obtain rfl : i = j := by omega
  have f2 := hf1.trans hf2 (fun _ h => by cases h)
  have hb42 := hb4.fr0 hf2
  have hal := Disk.at_length (let ⟨_, _, _, _, _, hd⟩ := hd; hd.wf) hi
  refine px_run ?_
  refine px_run ?_
  refine px_run ?_
  refine cnd_false ?_
  obtain ⟨bb, oo, cap, rfl, hcap, hcell⟩ := hv.sl.addr (by omega) (by omega)
  refine px_of (arrayAt_run329 (Nat.le_refl _)) ?_
  refine ldC (P := P) (xs := bs (D.at i)) (by rw [bs_length]; exact hal) (fun q hq => hcell q (by omega)) ?_
  refine pieceOf_k hal (fun hn w3 hf3 => ?_) (fun p hp vd w3 hvd hf3 hnv3 => ?_)
  · refine px_run ?_
    refine px_run ?_
    refine stA0_k (hb42.fr0 hf3) (atoms_penc _ _ _ _ _) rfl rfl fun w4 hb44 hf4 => ?_
    have f4 := (f2.trans hf3 (fun _ h => by cases h)).new hf4 (fun i hi => by omega)
    refine dr_of ?_
    have fd := Fr.dw w4
    have hb45 := hb44.fr0 fd
    have f5 := f4.trans fd (fun _ h => by cases h)
    generalize dw w4 = w5 at hb45 f5
    refine held_of (fun w' => Bk w' b4 283 (penc 0 false (.slice none 0 0))) hb45 ?_
    refine py_of (fun w' hS => lda_run (P := P) (o := 0) (xs := penc 0 false (.slice none 0 0)) hS (fun j _ => by rw [Nat.zero_add]) rfl) ?_
    iterate 4 refine gy_ft ?_
    refine gd_ft ?_
    refine hs_of hb45 ?_
    refine gy_ft ?_
    refine pky_false ?_
    refine stA0_k hb45 (atoms_penc _ _ _ _ _) rfl rfl fun w6 hb46 hf6 => ?_
    refine hs_of hb46 ?_
    refine plA0 hb46 rfl ?_
    exact k1 hdead 0 false none 0 0 false w6 (f5.new hf6 (fun i hi => by omega)) (fun _ => by unfold Ring.pieceAt; rw [hn]) (fun h => by cases h)
  · refine px_run ?_
    refine px_run ?_
    obtain ⟨av, cv', rfl⟩ := Own.atom hvd
    refine stA0_k (hb42.fr0 hf3) (atoms_penc _ _ _ _ _) rfl rfl fun w4 hb44 hf4 => ?_
    have f4 := (f2.trans hf3 (fun _ h => by cases h)).new hf4 (fun i hi => by omega)
    have hvd4 := hvd.frb hf4 (hb42.fr0 hf3) (by decide)
    refine dr_of ?_
    have fd := Fr.dw w4
    have hb45 := hb44.fr0 fd
    have hvd5 := hvd4.fr0 fd
    have f5 := f4.trans fd (fun _ h => by cases h)
    generalize dw w4 = w5 at hb45 f5 hvd5
    refine held_of (fun w' => Bk w' b4 283 (penc p.n p.last (.slice av p.data.length cv'))) hb45 ?_
    refine py_of (fun w' hS => lda_run (P := P) (o := 0) (xs := penc p.n p.last (.slice av p.data.length cv')) hS (fun j _ => by rw [Nat.zero_add]) rfl) ?_
    refine gy_tt ?_
    refine gy_tt ?_
    refine py_run ?_
    refine gy_tt ?_
    refine ldY hb45 rfl ?_
    refine gy_tt ?_
    refine gd_tt ?_
    refine place_k (h.fr0 f5) fun w6 hf6 => ?_
    have hb46 := hb45.fr0 hf6
    refine hs_of hb46 ?_
    refine gy_tt ?_
    refine py_run ?_
    refine pky_true ?_
    refine stA0_k hb46 (atoms_penc _ _ _ _ _) rfl rfl fun w7 hb47 hf7 => ?_
    refine hs_of hb47 ?_
    refine plA0 hb47 rfl ?_
    have f7 := (f5.trans hf6 (fun _ h => by cases h)).new hf7 (fun i hi => by omega)
    have s2 := f2.size
    have hpa : R.pieceAt D i = if R.place p.n = i then some p else none := by unfold Ring.pieceAt; rw [hp]
    refine k1 hdead p.n p.last av p.data.length cv' _ w7 f7 (fun h => ?_) (fun h => ?_)
    · rw [hpa, if_neg (by simp only [decide_eq_false_iff_not] at h; omega)]
    · refine ⟨p, ?_, rfl, rfl, (hvd5.fr0 hf6).frb hf7 hb46 (by decide), fun b hb => by have := hnv3 b hb; omega⟩
      rw [hpa, if_pos (by simp only [decide_eq_true_eq] at h; omega)]

/-! ### The pieces, one by one -/
theorem next_k {w : World} {bn br r d n : Nat} {R : Ring} {D : Disk} {F : Nat → Prop} {K : Value → World → Prop} (hn : Bk w bn 3 [iv n]) (hr : Bk w br 189 [pt r]) (h : RingAt w r d R) (hd : DiskP w d D F) (hF : ¬ F bn) (ha : D.dead = false)
    (hb1 : R.base ≤ n) (hb2 : n ≤ R.base + R.count) (hlen : R.first + R.count ≤ D.lasts.length)
    (kend : n = R.base + R.count → ∀ w1, Fr no w w1 → K (.tuple #[.agg (penc 0 false (.slice none 0 0)).toArray, .bool false, iv 0]) w1)
    (k1 : n < R.base + R.count → ∀ nn b a m c is w1, Bk w1 bn 3 [iv ((n + 1 : Nat) : Int)] → Fr (fun i => i = bn) w w1 → (is = false → ∀ p, R.pieceAt D (R.place (n + 1)) = some p → p.n ≠ n + 1) →
      (is = true → ∃ p, R.pieceAt D (R.place (n + 1)) = some p ∧ p.n = n + 1 ∧ nn = p.n ∧ b = p.last ∧ Own w1 (.slice a m c) 5 1 p.data.length (bs p.data) ∧ (∀ b, (Value.slice a m c).ownBlock = some b → w.heap.size ≤ b)) →
      K (.tuple #[.agg (penc nn b (.slice a m c)).toArray, .bool is, iv 0]) w1) : cl P 276 #[pt bn, pt br] w K := by
  have hwf := h.wf
  have hlm := hwf.lm
  have hbl := hwf.bl
  have hmost := hwf.most
  have tr : ∀ {x y z : World}, Fr no x y → Fr no y z → Fr no x z := fun h k => h.trans k (fun _ h => by cases h)
  apply c276
  unfold F276
  refine alloc_k (P := P) (z := [.int .i64 0, .bool false, .slice none 0 0]) fun b2 w1 hb2e hbb2 hf1 => ?_
  refine dr_of ?_
  have fd := Fr.dw w1
  have f2 := tr hf1 fd
  have hn2 := hn.fr0 f2
  have hr2 := hr.fr0 f2
  have h2 := h.fr0 f2
  have hbb22 := hbb2.fr0 fd
  have hln := hn.lt
  generalize dw w1 = w2 at f2 hn2 hr2 h2 hbb22
  clear fd
  refine ldY hn2 rfl ?_
  refine ldY hr2 rfl ?_
  refine ny_ptr ?_
  refine py_run ?_
  refine ldY h2.blk rfl ?_
  haveI : Fits .i64 ((n : Int) - (R.base : Int)) := fits_i64 (by omega) (by omega)
  refine py_run ?_
  refine ldY hr2 rfl ?_
  refine ny_ptr ?_
  refine py_run ?_
  refine ldY h2.blk rfl ?_
  refine py_run ?_
  refine cnd_dec (fun he => ?_) (fun he => ?_)
  · refine px_of build283_0 ?_
    refine stA0_k hbb22 (atoms_penc _ _ _ _ _) rfl rfl fun w3 hb3 hf3 => ?_
    refine plA0 hb3 rfl ?_
    exact kend (by omega) w3 (f2.new hf3 (fun i hi => by omega))
  have hlt : n < R.base + R.count := by omega
  refine ldB hn2 rfl ?_
  haveI : Fits .i64 ((n : Int) + 1) := fits_i64 (by omega) (by omega)
  refine px_run ?_
  refine stB_k hn2 (by simp) fun w3 hn3 hf3 => ?_
  have e1 : (n : Int) + 1 = ((n + 1 : Nat) : Int) := by omega
  have hn3 : Bk w3 bn 3 [iv ((n + 1 : Nat) : Int)] := by rw [← e1]; exact hn3
  have hr3 := hr2.frb hf3 (hr2.ne hn2 (by decide))
  have h3 := h2.fr hf3 (h2.blk.ne hn2 (by decide))
  have hd3 := (hd.fr0 f2).fr hf3 (fun b hb e => hF (e ▸ hb))
  have hb23 : Bk w3 b2 283 [.int .i64 0, .bool false, .slice none 0 0] := hbb22.frb hf3 (hbb22.ne hn2 (by decide))
  have f3 : Fr (fun i => i = bn) w w3 := f2.of hf3
  have hpl := Ring.place_lt hwf.pos (n + 1)
  have s2 := f2.size
  have s3 := hf3.size
  refine cut_of (fun vs w4 => ∃ b5 nn b a m c is, vs = [pt b5, .bool is, iv 0] ∧ Bk w4 b5 283 (penc nn b (.slice a m c)) ∧ Fr no w3 w4 ∧ w3.heap.size ≤ b5 ∧ (is = false → R.pieceAt D (R.place (n + 1)) = none) ∧
      (is = true → ∃ p, R.pieceAt D (R.place (n + 1)) = some p ∧ nn = p.n ∧ b = p.last ∧ Own w4 (.slice a m c) 5 1 p.data.length (bs p.data) ∧ (∀ b, (Value.slice a m c).ownBlock = some b → w3.heap.size ≤ b))) ?_ ?_
  · refine dr_of ?_
    have fd := Fr.dw w3
    have hr4 := hr3.fr0 fd
    have hn4 := hn3.fr0 fd
    generalize dw w3 = w4 at fd hr4 hn4
    refine held_of (fun w' => Bk w' br 189 [pt r]) hr4 ?_
    refine ldBy (P := P) (fun w' hS => hS.cell 0) ?_
    refine ldY hr4 rfl ?_
    refine ldY hn4 rfl ?_
    -- a piece is read
    have rd : ∀ (wx : World) (K' : Value → World → Prop), Fr no w3 wx → (∀ nn b a m c is wy, Fr no wx wy → (is = false → R.pieceAt D (R.place (n + 1)) = none) → (is = true → ∃ p, R.pieceAt D (R.place (n + 1)) = some p ∧ nn = p.n ∧ b = p.last ∧ Own wy (.slice a m c) 5 1 p.data.length (bs p.data) ∧ (∀ b, (Value.slice a m c).ownBlock = some b → w3.heap.size ≤ b)) →
        K' (.tuple #[.agg (penc nn b (.slice a m c)).toArray, .bool is, iv 0]) wy) → cl P 176 #[pt r, iv (R.place (n + 1))] wx K' := by
      intro wx K' fx hk
      refine ringRead_k (h3.fr0 fx) (hd3.fr0 fx) (by omega) (fun hdd => by rw [ha] at hdd; cases hdd) fun _ nn b a m c is wy hfy h0 h1 => ?_
      refine hk nn b a m c is wy hfy h0 fun hi => ?_
      obtain ⟨p, e1, e2, e3, e4, e5⟩ := h1 hi
      exact ⟨p, e1, e2, e3, e4, fun b hb => by have := e5 b hb; have := fx.size; omega⟩
    refine ⟨?_, ?_⟩
    · refine place_k (h3.fr0 fd) fun w5 hf5 => ?_
      have f5 := tr fd hf5
      refine hs_of (hr3.fr0 f5) ?_
      refine ⟨?_, ?_⟩
      · refine rd w5 _ f5 fun nn b a m c is w6 hf6 h0 h1 => ?_
        have f6 := tr f5 hf6
        refine hs_of (hr3.fr0 f6) ?_
        refine py_run ?_
        refine py_run ?_
        refine py_run ?_
        refine alloc_g (z := [.int .i64 0, .bool false, .slice none 0 0]) fun b5 w7 hb5e hb5 hf7 => ?_
        have f7 := tr f6 hf7
        refine hs_of (hr3.fr0 f7) ?_
        have s6 := f6.size
        refine stA0_k hb5 (atoms_penc _ _ _ _ _) rfl rfl fun w8 hb58 hf8 => ?_
        have f8 := f7.new hf8 (fun i hi => by omega)
        refine hs_of (hr3.fr0 f8) ?_
        refine ⟨b5, nn, b, a, m, c, is, rfl, hb58, f8, by omega, h0, fun hi => ?_⟩
        obtain ⟨p, e1, e2, e3, e4, e5⟩ := h1 hi
        exact ⟨p, e1, e2, e3, (e4.fr0 hf7).frb hf8 hb5 (by decide), e5⟩
      · refine alloc_g (z := [.int .i64 0, .bool false, .slice none 0 0]) fun b5 w7 hb5e hb5 hf7 => ?_
        have f7 := tr f5 hf7
        refine hs_of (hr3.fr0 f7) ?_
        have s5 := f5.size
        refine rd w7 _ f7 fun nn b a m c is w6 hf6 h0 h1 => ?_
        have f6 := tr f7 hf6
        refine hs_of (hr3.fr0 f6) ?_
        refine py_run ?_
        refine py_run ?_
        refine py_run ?_
        have hb56 := hb5.fr0 hf6
        refine stA0_k hb56 (atoms_penc _ _ _ _ _) rfl rfl fun w8 hb58 hf8 => ?_
        have f8 := f6.new hf8 (fun i hi => by omega)
        refine hs_of (hr3.fr0 f8) ?_
        refine ⟨b5, nn, b, a, m, c, is, rfl, hb58, f8, by omega, h0, fun hi => ?_⟩
        obtain ⟨p, e1, e2, e3, e4, e5⟩ := h1 hi
        exact ⟨p, e1, e2, e3, e4.frb hf8 hb56 (by decide), e5⟩
    · refine alloc_g (z := [.int .i64 0, .bool false, .slice none 0 0]) fun b5 w7 hb5e hb5 hf7 => ?_
      have f7 := tr fd hf7
      refine hs_of (hr3.fr0 f7) ?_
      have s5 := fd.size
      refine place_k (h3.fr0 f7) fun w5 hf5 => ?_
      have f5 := tr f7 hf5
      refine hs_of (hr3.fr0 f5) ?_
      refine rd w5 _ f5 fun nn b a m c is w6 hf6 h0 h1 => ?_
      have f6 := tr f5 hf6
      refine hs_of (hr3.fr0 f6) ?_
      refine py_run ?_
      refine py_run ?_
      refine py_run ?_
      have hb56 := (hb5.fr0 hf5).fr0 hf6
      refine stA0_k hb56 (atoms_penc _ _ _ _ _) rfl rfl fun w8 hb58 hf8 => ?_
      have f8 := f6.new hf8 (fun i hi => by omega)
      refine hs_of (hr3.fr0 f8) ?_
      refine ⟨b5, nn, b, a, m, c, is, rfl, hb58, f8, by omega, h0, fun hi => ?_⟩
      obtain ⟨p, e1, e2, e3, e4, e5⟩ := h1 hi
      exact ⟨p, e1, e2, e3, e4.frb hf8 hb56 (by decide), e5⟩
  rintro vs w4 ⟨b5, nn, b, a, m, c, is, rfl, hb5, f4, hb5n, h0, h1⟩
  simp only [g0_cons, g1_cons]
  refine dr_of ?_
  have fd := Fr.dw w4
  have f5 := tr f4 fd
  have hb55 := hb5.fr0 fd
  have hn5 := hn3.fr0 f5
  have hb25 := hb23.fr0 f5
  have h1' : is = true → ∃ p, R.pieceAt D (R.place (n + 1)) = some p ∧ nn = p.n ∧ b = p.last ∧ Own (dw w4) (.slice a m c) 5 1 p.data.length (bs p.data) ∧ (∀ b, (Value.slice a m c).ownBlock = some b → w3.heap.size ≤ b) := fun hi => by
    obtain ⟨p, e1, e2, e3, e4, e5⟩ := h1 hi
    exact ⟨p, e1, e2, e3, e4.fr0 fd, e5⟩
  generalize dw w4 = w5 at fd f5 hb55 hn5 hb25 h1'
  have hne : b5 ≠ b2 := by
    have := hb23.lt
    omega
  refine held_of (fun w' => Bk w' b5 283 (penc nn b (.slice a m c)) ∧ Bk w' bn 3 [iv ((n + 1 : Nat) : Int)]) ⟨hb55, hn5⟩ ?_
  refine ldAY0 hb55 rfl ?_
  -- the result
  have fin : ∀ is', (is' = false → ∀ p, R.pieceAt D (R.place (n + 1)) = some p → p.n ≠ n + 1) → (is' = true → ∃ p, R.pieceAt D (R.place (n + 1)) = some p ∧ p.n = n + 1 ∧ nn = p.n ∧ b = p.last ∧ Own w5 (.slice a m c) 5 1 p.data.length (bs p.data) ∧ (∀ b, (Value.slice a m c).ownBlock = some b → w3.heap.size ≤ b)) →
      pu P (Instr.storeAt 283 (pt b2) (.agg (penc nn b (.slice a m c)).toArray)) w5 fun w => V.hs (fun w' => Bk w' b5 283 (penc nn b (.slice a m c)) ∧ Bk w' bn 3 [iv ((n + 1 : Nat) : Int)]) w <|
      pla P 283 (pt b2) w fun v2_2 =>
      K (.tuple #[v2_2, .bool is', iv 0]) w := by
    intro is' g0 g1
    refine stA0_k hb25 (atoms_penc _ _ _ _ _) rfl rfl fun w6 hb6 hf6 => ?_
    have hn6 := hn5.frb hf6 (hn5.ne hb25 (by decide))
    refine hs_of ⟨hb55.frb hf6 hne, hn6⟩ ?_
    refine plA0 hb6 rfl ?_
    refine k1 hlt nn b a m c is' w6 hn6 ((f3.then f5).trans hf6 fun i hi => .inr (by have := hbb2.lt; have := hf1.size; omega)) g0 fun hi => ?_
    obtain ⟨p, e1, e2, e3, e4, e5, e6⟩ := g1 hi
    exact ⟨p, e1, e2, e3, e4, e5.frb hf6 hb25 (by decide), fun b hb => by have := e6 b hb; omega⟩
  cases is
  · iterate 4 refine gy_ft ?_
    refine pky_false ?_
    exact fin false (fun _ p hp => by rw [h0 rfl] at hp; cases hp) (fun h => by cases h)
  · obtain ⟨p, e1, e2, e3, e4, e5⟩ := h1' rfl
    refine gy_tt ?_
    refine py_run ?_
    refine gy_tt ?_
    refine ldBy (P := P) (fun w' hS => hS.1.cell 0) ?_
    refine gy_tt ?_
    refine ldBy (P := P) (fun w' hS => hS.2.cell 0) ?_
    refine gy_tt ?_
    refine py_run ?_
    refine pky_true ?_
    refine fin _ (fun hf p' hp' => ?_) (fun hf => ⟨p, e1, ?_, e2, e3, e4, e5⟩)
    · rw [e1] at hp'
      cases hp'
      simp only [decide_eq_false_iff_not] at hf
      omega
    · simp only [decide_eq_true_eq] at hf
      omega

/-- Slices of bytes in a slice, whose blocks are nobody else's. -/
structure RecsAt (w : World) (vo : Value) (l : List Str) (vs : List Value) : Prop where
  own : Own w vo 43 1 l.length vs
  len : vs.length = l.length
  each : ∀ i (h : i < l.length) (h' : i < vs.length), Own w vs[i] 5 1 l[i].length (bs l[i])
theorem RecsAt.fr {F : Nat → Prop} {w w1 : World} {vo : Value} {l : List Str} {vs : List Value} (h : RecsAt w vo l vs) (f : Fr F w w1) (h1 : ∀ b, vo.ownBlock = some b → ¬ F b) (h2 : ∀ v ∈ vs, ∀ b, v.ownBlock = some b → ¬ F b) : RecsAt w1 vo l vs :=
  ⟨h.own.fr f h1, h.len, fun i hi hi' => (h.each i hi hi').fr f (h2 _ (List.getElem_mem hi'))⟩
theorem RecsAt.fr0 {w w1 : World} {vo : Value} {l : List Str} {vs : List Value} (h : RecsAt w vo l vs) (f : Fr no w w1) : RecsAt w1 vo l vs := h.fr f (fun _ _ => id) (fun _ _ _ _ => id)
theorem RecsAt.frb {w w1 : World} {vo : Value} {l : List Str} {vs : List Value} {b t : Nat} {cs : List Value} (h : RecsAt w vo l vs) (f : Fr (fun i => i = b) w w1) (hb : Bk w b t cs) (h1 : t ≠ 43) (h2 : t ≠ 5) : RecsAt w1 vo l vs := by
  refine h.fr f (fun b' hb' e => ?_) (fun v hv b' hb' e => ?_)
  · obtain ⟨cs', hc⟩ := Own.bkk h.own hb'
    have e' : b' = b := e
    subst e'
    exact h1 (Bk.typ hb hc)
  · obtain ⟨i, hi, rfl⟩ := List.getElem_of_mem hv
    obtain ⟨cs', hc⟩ := Own.bkk (h.each i (by rw [← h.len]; exact hi) hi) hb'
    have e' : b' = b := e
    subst e'
    exact h2 (Bk.typ hb hc)
theorem pieces239_k {w : World} {r d : Nat} {R : Ring} {K : Value → World → Prop} (h : RingAt w r d R)
    (k : ∀ bn br w1, Bk w1 bn 3 [iv R.base] → Bk w1 br 189 [pt r] → Fr no w w1 → w.heap.size ≤ bn → w.heap.size ≤ br → K (.func (.func 276) #[] #[pt bn, pt br]) w1) : cl P 239 #[pt r] w K := by
  apply c239
  unfold F239
  refine box_k fun br w1 hbre hbr hf1 => ?_
  refine ldB hbr rfl ?_
  refine nc_ptr ?_
  refine px_run ?_
  refine ldB (h.blk.fr0 hf1) rfl ?_
  refine alloc_k (P := P) (z := [.int .i64 0]) fun bn w2 hbne hbn hf2 => ?_
  have s1 := hf1.size
  have hl := hbr.lt
  refine stB_k hbn (by simp) fun w3 hbn3 hf3 => ?_
  refine px_run ?_
  exact k bn br w3 hbn3 ((hbr.fr0 hf2).frb hf3 (by omega)) ((hf1.trans hf2 (fun _ h => by cases h)).new hf3 (fun i hi => by omega)) (by omega) (by omega)
def cellInt (w : World) (b : Nat) : Int := match w.cell? ⟨b, 0, none⟩ with | some (.int _ m) => m | _ => 0
theorem cellInt_of {w : World} {b t : Nat} {n : Int} (h : Bk w b t [iv n]) : cellInt w b = n := by unfold cellInt; rw [h.cell 0]; rfl
end Go.Proofs.YtomggfibpbaodaaGreatDoor
