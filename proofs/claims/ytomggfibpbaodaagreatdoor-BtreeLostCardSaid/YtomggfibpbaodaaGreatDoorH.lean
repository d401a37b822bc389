/-
  The pager: its small functions.
-/
import Derived.Test.YtomggfibpbaodaaGreatDoorG2
import Derived.Test.YtomggfibpbaodaaGreatDoorQ2
import Derived.Test.YtomggfibpbaodaaGreatDoorCE
set_option maxRecDepth 100000
namespace Go.Proofs.YtomggfibpbaodaaGreatDoor
open Go.V

/-! ### Numbers in bytes -/
theorem num_snoc (l : List UInt8) (c : UInt8) : num (l ++ [c]) = num l * 256 + c.toNat := by simp [num, List.foldl_append]
theorem num_append_ge (l m : List UInt8) : num l ≤ num (l ++ m) := by
  induction m generalizing l with
  | nil => simp
  | cons c m ih =>
    have := ih (l ++ [c])
    rw [num_snoc, List.append_assoc] at this
    simp only [List.cons_append, List.nil_append] at this
    omega
theorem num_take_le (l : List UInt8) (i : Nat) : num (l.take i) ≤ num l := by
  have := num_append_ge (l.take i) (l.drop i)
  rwa [List.take_append_drop] at this
theorem num_lt (l : List UInt8) : num l < 256 ^ l.length := by
  have : ∀ (r : List UInt8), num r.reverse < 256 ^ r.length := by
    intro r
    induction r with
    | nil => simp [num]
    | cons c r ih =>
      rw [List.reverse_cons, num_snoc, List.length_cons, Nat.pow_succ]
      have := c.toNat_lt
      omega
  have h := this l.reverse
  rwa [List.reverse_reverse, List.length_reverse] at h
theorem number_k {w : World} {v : Value} {l : List UInt8} {K : Value → World → Prop} (h : Sl w v 1 l.length (bs l)) (hl : l.length ≤ 1000) (hn : num l < 9223372036854775808) (k : K (iv (num l)) w) : cl P 99 #[v] w K := by
  obtain ⟨_, av, cv', rfl, _⟩ := id h
  apply c99
  unfold F99
  refine px_run ?_
  refine lp_of (fun vs w' => ∃ i : Nat, vs = [iv (num (l.take i) : Nat), iv i] ∧ i ≤ l.length ∧ w' = w) (fun vs _ => (match vs with | [_, .int _ m] => (l.length - m).toNat | _ => 0)) ⟨0, rfl, by omega, rfl⟩ ?_
  rintro vs w' ⟨i, rfl, hi, rfl⟩
  simp only [g0_cons, g1_cons]
  refine px_run ?_
  refine cnd_dec (fun hlt => ?_) (fun hge => ?_)
  · have hi' : i < l.length := by omega
    refine idx_s (P := P) h (by omega) i rfl hi' fun b o _ hc => ?_
    have h0 := hc 0 (by omega)
    rw [Nat.mul_one, Nat.add_zero, Nat.add_zero, bs_get hi'] at h0
    refine ld1 (P := P) h0 ?_
    have hc := (l[i]).toNat_lt
    have hs : num (l.take (i + 1)) = num (l.take i) * 256 + (l[i]).toNat := by rw [List.take_succ_eq_append_getElem hi', num_snoc]
    have hle := num_take_le l (i + 1)
    refine px_of (shl_i64 (n := num (l.take i)) (s := 8) (by omega) (by omega)) ?_
    refine px_of conv_u8_int ?_
    refine px_of (or_i64 (a := num (l.take i) * 2 ^ 8) (b := (l[i]).toNat) (by omega) (by omega)) ?_
    rw [Nat.or_comm, or_add (i := 8) (by omega), show (l[i]).toNat + num (l.take i) * 2 ^ 8 = num (l.take (i + 1)) by omega]
    haveI : Fits .i64 ((i : Int) + 1) := fits_i64 (by omega) (by omega)
    refine px_run ?_
    exact ⟨⟨i + 1, rfl, by omega, rfl⟩, show ((l.length : Int) - ((i : Int) + 1)).toNat < ((l.length : Int) - (i : Int)).toNat by omega⟩
  · have : i = l.length := by omega
    subst this
    rw [List.take_length]
    exact k
theorem conv_u8I {x : Int} {w : World} : (convert 3 5 (iv x)).run P w = .ok (u8v (UInt8.ofNat (x % 256).toNat)) w := by
  have h5 : P.underlying 5 = some (.int .u8) := by kernel_rfl
  have h3 : P.underlying 3 = some (.int .i64) := by kernel_rfl
  simp only [convert, run_underlying h3, run_underlying h5, Sem.run_bind, Result.andThen_ok]
  have e : IntKind.u8.wrap x = (((UInt8.ofNat (x % 256).toNat).toNat : Nat) : Int) := by
    simp only [IntKind.wrap, IntKind.signed, IntKind.bits]
    have : (x % 256).toNat < 256 := by omega
    simp
    omega
  simp [Conv.intToInt, e]
theorem shrI {n : Int} {s : Nat} {c : Bool} {w : World} {t : TypeId} {k' : IntKind} (hs : s ≤ 64) : (bin c .shr t (iv n) (.int k' (s : Int))).run P w = .ok (iv (n / (2 ^ s : Nat))) w := by
  refine bin_of _ _ _ (by cases c <;> rfl) ?_
  show (Op.shift .shr .i64 _ k' _).run P w = _
  have h0 : ¬ ((s : Int) < 0) := by omega
  have hm : min s (IntKind.bits .i64) = s := Nat.min_eq_left hs
  simp only [Op.shift, h0, if_false, Int.toNat_natCast, hm, Sem.run_pure]
  rw [Int.fdiv_eq_ediv_of_nonneg _ (Int.pow_nonneg (by omega))]
  simp
theorem put_k {w : World} {b o k cap tb : Nat} {cs : List UInt8} {n : Int} {K : Value → World → Prop} (h : Bk w b tb (bs cs)) (ho : o + k ≤ cs.length) (hk : k ≤ 8) (hcap : k ≤ cap)
    (kk : ∀ w1, Bk w1 b tb (bs (cs.take o ++ be k n ++ cs.drop (o + k))) → Fr (fun i => i = b) w w1 → K (.tuple #[]) w1) : cl P 206 #[.slice (some ⟨b, o, none⟩) k cap, iv n] w K := by
  apply c206
  unfold F206
  refine px_run ?_
  refine lp_of (fun vs w' => ∃ i : Nat, vs = [iv i] ∧ i ≤ k ∧ Bk w' b tb (bs (cs.take (o + (k - i)) ++ be i n ++ cs.drop (o + k))) ∧ Fr (fun i => i = b) w w')
    (fun vs _ => (match vs with | [.int _ m] => ((k : Int) - m).toNat | _ => 0)) ⟨0, rfl, by omega, by simpa [be] using h, Fr.refl _ _⟩ ?_
  rintro vs w' ⟨i, rfl, hi, hb, hf⟩
  simp only [g0_cons]
  refine px_run ?_
  refine cnd_dec (fun hlt => ?_) (fun hge => ?_)
  · have hi' : i < k := by omega
    refine px_run ?_
    haveI : Fits .i64 ((k : Int) - 1) := fits_i64 (by omega) (by omega)
    refine px_run ?_
    haveI : Fits .i64 ((k : Int) - 1 - (i : Int)) := fits_i64 (by omega) (by omega)
    refine px_run ?_
    haveI : Fits .i64 ((8 : Int) * (i : Int)) := fits_i64 (by omega) (by omega)
    refine px_run ?_
    rw [show (8 : Int) * (i : Int) = ((8 * i : Nat) : Int) by omega]
    refine px_of (shrI (by omega)) ?_
    refine px_of conv_u8I ?_
    rw [show (k : Int) - 1 - (i : Int) = ((k - 1 - i : Nat) : Int) by omega]
    refine idx_k (P := P) (k - 1 - i) rfl (by omega) ?_
    rw [Nat.mul_one]
    have hlen : (cs.take (o + (k - i))).length = o + (k - i) := by rw [List.length_take]; omega
    refine stb_k hb (by simp only [List.length_append, hlen]; omega) fun w1 hb1 hf1 => ?_
    haveI : Fits .i64 ((i : Int) + 1) := fits_i64 (by omega) (by omega)
    refine px_run ?_
    refine ⟨⟨i + 1, rfl, by omega, ?_, hf.two hf1⟩, show ((k : Int) - ((i : Int) + 1)).toNat < ((k : Int) - (i : Int)).toNat by omega⟩
    have e : (cs.take (o + (k - i)) ++ be i n ++ cs.drop (o + k)).set (o + (k - 1 - i)) (UInt8.ofNat (n / (2 ^ (8 * i) : Nat) % 256).toNat) = cs.take (o + (k - (i + 1))) ++ be (i + 1) n ++ cs.drop (o + k) := by
      have e1 : cs.take (o + (k - i)) = cs.take (o + (k - (i + 1))) ++ [cs[o + (k - (i + 1))]'(by omega)] := by
        rw [show o + (k - i) = (o + (k - (i + 1))) + 1 by omega, List.take_succ_eq_append_getElem (by omega)]
      have hlen1 : (cs.take (o + (k - (i + 1)))).length = o + (k - (i + 1)) := by rw [List.length_take]; omega
      rw [e1, show o + (k - 1 - i) = (cs.take (o + (k - (i + 1)))).length by rw [hlen1]; omega, ← pow256]
      simp only [be, List.append_assoc, List.cons_append, List.nil_append]
      rw [List.set_append_right _ _ (Nat.le_refl _), Nat.sub_self]
      rfl
    rw [e] at hb1
    exact hb1
  · have : i = k := by omega
    subst this
    rw [Nat.sub_self, Nat.add_zero] at hb
    exact kk w' hb hf
/-! ### Metas -/
def menc (m : Meta) : List Value := [iv m.root, iv m.used, iv m.head, iv m.free]
theorem of1_k {w : World} {b i : Nat} {s : Sec} {K : Value → World → Prop} (h : Bk w b 195 (bs s)) (hs : s.length = 512) (hi : i < 4) (k : K (iv (num ((s.drop (4 * i)).take 4))) w) : cl P 223 #[iv i, pt b] w K := by
  apply c223
  unfold F223
  haveI : Fits .i64 ((4 : Int) * (i : Int)) := fits_i64 (by omega) (by omega)
  refine px_run ?_
  refine px_run ?_
  haveI : Fits .i64 ((4 : Int) * (i : Int) + 4) := fits_i64 (by omega) (by omega)
  refine px_run ?_
  refine px_of (sliceArr2_run (n := 512) (i := 4 * i) (j := 4 * i + 4) (by omega) (by omega) (by omega) (by omega) (by omega)) ?_
  rw [Nat.zero_add, Nat.add_sub_cancel_left]
  have hlen : ((s.drop (4 * i)).take 4).length = 4 := by rw [List.length_take, List.length_drop]; omega
  have hsl : Sl w (.slice (some ⟨b, 4 * i, none⟩) 4 (512 - 4 * i)) 1 ((s.drop (4 * i)).take 4).length (bs ((s.drop (4 * i)).take 4)) := by
    rw [hlen]
    refine h.sl (fun j hj => ?_) (by rw [bs_length, hlen]) (by omega)
    rw [bs_length, hlen] at hj
    rw [← bs_take, ← bs_drop, List.getElem?_take, if_pos hj, List.getElem?_drop]
  refine number_k hsl (by omega) (by have := num_lt ((s.drop (4 * i)).take 4); rw [hlen] at this; have e : (256 : Nat) ^ 4 = 4294967296 := by decide
                                     omega) k
instance : StructT P 188 [(0, 1), (1, 1), (2, 1), (3, 1)] := ⟨by kernel_rfl, fun w => by kernel_rfl⟩
theorem build188 {w : World} {a b c d : Int} : (Instr.build 188 #[(0, iv a), (1, iv b), (2, iv c), (3, iv d)]).run P w = .ok (.agg [iv a, iv b, iv c, iv d].toArray) w := by
  refine build_run (P := P) (t := 188) (parts := [(0, iv a), (1, iv b), (2, iv c), (3, iv d)]) (z := [.int .i64 0, .int .i64 0, .int .i64 0, .int .i64 0]) ?_
  have l1 : ∀ {cs : List Value} {o : Nat} {x : Value}, cs.length = 4 → o < 4 → (spl cs o [x]).length = 4 := fun h ho => by rw [spl_length (by rw [h]; simp; omega), h]
  have hz : ([Value.int .i64 0, .int .i64 0, .int .i64 0, .int .i64 0] : List Value).length = 4 := rfl
  generalize hzz : ([Value.int .i64 0, .int .i64 0, .int .i64 0, .int .i64 0] : List Value) = z at hz
  rw [fill_cons (xs := [iv a]) (off := 0) (size := 1) rfl rfl rfl (by rw [hz]; decide), fill_cons (xs := [iv b]) (off := 1) (size := 1) rfl rfl rfl (by rw [l1 hz (by decide)]; decide),
    fill_cons (xs := [iv c]) (off := 2) (size := 1) rfl rfl rfl (by rw [l1 (l1 hz (by decide)) (by decide)]; decide), fill_cons (xs := [iv d]) (off := 3) (size := 1) rfl rfl rfl (by rw [l1 (l1 (l1 hz (by decide)) (by decide)) (by decide)]; decide), fill_nil]
  subst hzz
  rfl
theorem of_k {w : World} {s : Sec} {K : Value → World → Prop} (hs : s.length = 512) (k : ∀ w1, Fr no w w1 → K (.agg (menc (Meta.of s)).toArray) w1) : cl P 164 #[.agg (bs s).toArray] w K := by
  apply c164
  unfold F164
  refine boxA_k fun b1 w1 hb1e hb1 hf1 => ?_
  refine alloc_k (P := P) (z := [.int .i64 0, .int .i64 0, .int .i64 0, .int .i64 0]) fun b2 w2 hb2e hb2 hf2 => ?_
  have hb12 := hb1.fr0 hf2
  refine px_run ?_
  refine cv_k ?_
  refine of1_k (i := 0) hb12 hs (by omega) ?_
  refine cv_k ?_
  refine of1_k (i := 1) hb12 hs (by omega) ?_
  refine cv_k ?_
  refine of1_k (i := 2) hb12 hs (by omega) ?_
  refine cv_k ?_
  refine of1_k (i := 3) hb12 hs (by omega) ?_
  refine px_of build188 ?_
  have s1 := hf1.size
  refine stA0_k hb2 (fun x hx => by simp only [List.mem_cons, List.not_mem_nil, or_false] at hx; rcases hx with rfl | rfl | rfl | rfl <;> exact inferInstance) rfl rfl fun w3 hb3 hf3 => ?_
  refine plA0 hb3 rfl ?_
  exact k w3 ((hf1.trans hf2 (fun _ h => by cases h)).new hf3 (fun i hi => by omega))

theorem bs4_k {w : World} {a b c d : Int} {K : Value → World → Prop} (k : ∀ v w1, Own w1 v 3 1 4 [iv a, iv b, iv c, iv d] → Fr no w w1 → K v w1) : px P (Instr.buildSlice 48 4 #[(0, iv a), (1, iv b), (2, iv c), (3, iv d)]) w K := by
  have hr : (Instr.buildSlice 48 4 #[(0, iv a), (1, iv b), (2, iv c), (3, iv d)]).run P w = .ok (.slice (some ⟨w.heap.size, 0, none⟩) 4 4) (w.alloc (.cells #[iv a, iv b, iv c, iv d] 3)) := by
    refine bslice_run (P := P) (t := 48) (e := 3) (sz := 1) (n := 4) (z := [.int .i64 0]) (parts := [(0, iv a), (1, iv b), (2, iv c), (3, iv d)]) (xs := [iv a, iv b, iv c, iv d]) rfl (by omega) (by omega) (by omega) ?_
    have l1 : ∀ {cs : List Value} {o : Nat} {x : Value}, cs.length = 4 → o < 4 → (spl cs o [x]).length = 4 := fun h ho => by rw [spl_length (by rw [h]; simp; omega), h]
    have hz : ((List.replicate 4 [Value.int .i64 0]).flatten).length = 4 := rfl
    generalize hzz : (List.replicate 4 [Value.int .i64 0]).flatten = z at hz
    rw [fill_cons (xs := [iv a]) (off := 0) (size := 1) rfl rfl rfl (by rw [hz]; decide), fill_cons (xs := [iv b]) (off := 1) (size := 1) rfl rfl rfl (by rw [l1 hz (by decide)]; decide),
      fill_cons (xs := [iv c]) (off := 2) (size := 1) rfl rfl rfl (by rw [l1 (l1 hz (by decide)) (by decide)]; decide), fill_cons (xs := [iv d]) (off := 3) (size := 1) rfl rfl rfl (by rw [l1 (l1 (l1 hz (by decide)) (by decide)) (by decide)]; decide), fill_nil]
    subst hzz
    rfl
  exact px_of hr (k _ _ (bslice_own (e := 3) (sz := 1) (xs := [iv a, iv b, iv c, iv d]) rfl (by decide)) (Fr.alloc _ _))
def Meta.nth (m : Meta) : Nat → Int
  | 0 => m.root
  | 1 => m.used
  | 2 => m.head
  | _ => m.free
def Meta.pre (m : Meta) : Nat → List UInt8
  | 0 => []
  | i + 1 => m.pre i ++ be 4 (m.nth i)
theorem Meta.pre_length (m : Meta) : ∀ i, (m.pre i).length = 4 * i
  | 0 => rfl
  | i + 1 => by simp [Meta.pre, Meta.pre_length m i, be_length]; omega
theorem zs_drop (n i : Nat) : (zs n).drop i = zs (n - i) := by unfold zs; rw [List.drop_replicate]
theorem mbytes_k {w : World} {m : Meta} {K : Value → World → Prop} (k : ∀ w1, Fr no w w1 → K (.agg (bs m.page).toArray) w1) : cl P 143 #[.agg (menc m).toArray] w K := by
  apply c143
  unfold F143
  refine boxA_k fun b1 w1 hb1e hb1 hf1 => ?_
  refine alloc_k (P := P) (z := zeros 512) fun b2 w2 hb2e hb2 hf2 => ?_
  refine alloc_k (P := P) (z := zeros 512) fun b3 w3 hb3e hb3 hf3 => ?_
  rw [zeros_bs] at hb2 hb3
  have hl1 := hb1.lt
  have hl2 := hb2.lt
  have s1 := hf1.size
  have hb13 := (hb1.fr0 hf2).fr0 hf3
  have f13 : Fr no w w3 := (hf1.trans hf2 (fun _ h => by cases h)).trans hf3 (fun _ h => by cases h)
  refine px_run ?_
  refine ldB hb13 rfl ?_
  refine px_run ?_
  refine ldB hb13 rfl ?_
  refine px_run ?_
  refine ldB hb13 rfl ?_
  refine px_run ?_
  refine ldB hb13 rfl ?_
  refine bs4_k fun v14 w4 h14 hf4 => ?_
  have f14 := f13.trans hf4 (fun _ h => by cases h)
  obtain ⟨a14, c14, rfl⟩ := Own.atom h14
  refine px_run ?_
  refine lp_of (fun vs w' => ∃ i : Nat, vs = [iv i] ∧ i ≤ 4 ∧ Bk w' b3 195 (bs (m.pre i ++ zs (512 - 4 * i))) ∧ Fr no w w' ∧ Bk w' b2 195 (bs (zs 512)) ∧ Own w' (.slice a14 4 c14) 3 1 4 [iv m.root, iv m.used, iv m.head, iv m.free])
    (fun vs _ => (match vs with | [.int _ m] => (4 - m).toNat | _ => 0)) ⟨0, rfl, by omega, by simpa [Meta.pre] using hb3.fr0 hf4, f14, (hb2.fr0 hf3).fr0 hf4, h14⟩ ?_
  rintro vs w' ⟨i, rfl, hi, hb, f, hb2', h14'⟩
  simp only [g0_cons]
  refine px_run ?_
  refine cnd_dec (fun hlt => ?_) (fun hge => ?_)
  · have hi' : i < 4 := by omega
    refine idx_s (P := P) h14'.sl (by omega) i rfl hi' fun b o _ hc => ?_
    have h0 := hc 0 (by omega)
    have hn : ([iv m.root, iv m.used, iv m.head, iv m.free] : List Value)[i * 1 + 0]? = some (iv (m.nth i)) := by
      match i, hi' with
      | 0, _ => rfl
      | 1, _ => rfl
      | 2, _ => rfl
      | 3, _ => rfl
    rw [hn, Nat.add_zero] at h0
    refine ld1 (P := P) h0 ?_
    haveI : Fits .i64 ((4 : Int) * (i : Int)) := fits_i64 (by omega) (by omega)
    refine px_run ?_
    refine px_run ?_
    haveI : Fits .i64 ((4 : Int) * (i : Int) + 4) := fits_i64 (by omega) (by omega)
    refine px_run ?_
    refine px_of (sliceArr2_run (n := 512) (i := 4 * i) (j := 4 * i + 4) (by omega) (by omega) (by omega) (by omega) (by omega)) ?_
    rw [Nat.zero_add, Nat.add_sub_cancel_left]
    have hpl := m.pre_length i
    refine put_k hb (by simp only [List.length_append, hpl, zs_length]; omega) (by omega) (by omega) fun w5 hb5 hf5 => ?_
    rw [take_of_append hpl, ← List.drop_drop, drop_of_append hpl, zs_drop, show 512 - 4 * i - 4 = 512 - 4 * (i + 1) by omega] at hb5
    have f5 := f.new hf5 (fun i hi => by omega)
    haveI : Fits .i64 ((i : Int) + 1) := fits_i64 (by omega) (by omega)
    refine px_run ?_
    refine ⟨⟨i + 1, rfl, by omega, hb5, f5, hb2'.frb hf5 (by omega), ?_⟩, show ((4 : Int) - ((i : Int) + 1)).toNat < ((4 : Int) - (i : Int)).toNat by omega⟩
    exact h14'.frb hf5 hb (by decide)
  · have : i = 4 := by omega
    subst this
    have e : m.pre 4 ++ zs (512 - 4 * 4) = m.page := by simp [Meta.pre, Meta.nth, Meta.page]
    rw [e] at hb
    refine ldA0 hb (by rw [bs_length]; exact Meta.page_length m) ?_
    refine stA0_k hb2' (atoms_bs _) (by rw [bs_length]; exact Meta.page_length m) (by rw [bs_length, zs_length]) fun w6 hb6 hf6 => ?_
    refine plA0 hb6 (by rw [bs_length]; exact Meta.page_length m) ?_
    exact k w6 (f.new hf6 (fun i hi => by omega))
end Go.Proofs.YtomggfibpbaodaaGreatDoor
