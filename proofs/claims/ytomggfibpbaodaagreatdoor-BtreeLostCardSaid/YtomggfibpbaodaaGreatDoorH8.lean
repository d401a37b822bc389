/-
  The pager: made, opened, formatted.
-/
import Derived.Test.YtomggfibpbaodaaGreatDoorH7
set_option maxRecDepth 100000
namespace Go.Proofs.YtomggfibpbaodaaGreatDoor
open Go.V

instance : StructT P 193 [(0, 1), (1, 1), (2, 1), (3, 1), (4, 1), (5, 1), (6, 4), (10, 4), (14, 1), (15, 1)] := ⟨by kernel_rfl, fun w => by kernel_rfl⟩
def z193 : List Value := [.pointer none, .pointer none, .int .i64 0, .int .i64 0, .map none, .map none, .int .i64 0, .int .i64 0, .int .i64 0, .int .i64 0, .int .i64 0, .int .i64 0, .int .i64 0, .int .i64 0, .map none, .map none]
instance : Zero P 193 z193 := ⟨fun w => ⟨.agg z193.toArray, by kernel_rfl, rfl⟩⟩
theorem build193 {w : World} {d md mn mi mc : Nat} {f g : Int} : (Instr.build 193 #[(0, pt d), (2, iv f), (3, iv g), (4, .map (some md)), (5, .map (some mn)), (8, .map (some mi)), (9, .map (some mc))]).run P w =
    .ok (.agg [pt d, .pointer none, iv f, iv g, .map (some md), .map (some mn), iv 0, iv 0, iv 0, iv 0, iv 0, iv 0, iv 0, iv 0, .map (some mi), .map (some mc)].toArray) w := by
  refine build_run (P := P) (t := 193) (parts := [(0, pt d), (2, iv f), (3, iv g), (4, .map (some md)), (5, .map (some mn)), (8, .map (some mi)), (9, .map (some mc))]) (z := z193) ?_
  have l1 : ∀ {cs : List Value} {o : Nat} {x : Value}, cs.length = 16 → o < 16 → (spl cs o [x]).length = 16 := fun h ho => by rw [spl_length (by rw [h]; simp; omega), h]
  have hz : z193.length = 16 := rfl
  generalize hzz : z193 = z at hz
  rw [fill_cons (xs := [pt d]) (off := 0) (size := 1) rfl rfl rfl (by rw [hz]; decide), fill_cons (xs := [iv f]) (off := 2) (size := 1) rfl rfl rfl (by rw [l1 hz (by decide)]; decide),
    fill_cons (xs := [iv g]) (off := 3) (size := 1) rfl rfl rfl (by rw [l1 (l1 hz (by decide)) (by decide)]; decide), fill_cons (xs := [.map (some md)]) (off := 4) (size := 1) rfl rfl rfl (by rw [l1 (l1 (l1 hz (by decide)) (by decide)) (by decide)]; decide),
    fill_cons (xs := [.map (some mn)]) (off := 5) (size := 1) rfl rfl rfl (by rw [l1 (l1 (l1 (l1 hz (by decide)) (by decide)) (by decide)) (by decide)]; decide),
    fill_cons (xs := [.map (some mi)]) (off := 14) (size := 1) rfl rfl rfl (by rw [l1 (l1 (l1 (l1 (l1 hz (by decide)) (by decide)) (by decide)) (by decide)) (by decide)]; decide),
    fill_cons (xs := [.map (some mc)]) (off := 15) (size := 1) rfl rfl rfl (by rw [l1 (l1 (l1 (l1 (l1 (l1 hz (by decide)) (by decide)) (by decide)) (by decide)) (by decide)) (by decide)]; decide), fill_nil]
  subst hzz
  rfl
section
variable {w w1 : World} {b d r md mn mi mc : Nat} {F Fd : Nat → Prop} {K : Value → World → Prop} {D : Disk}
theorem made_k (h : DiskP w d D F) (k : ∀ b md mn mi mc w1, Bk w1 b 193 (pgcR (.pointer none) d md mn mi mc (Pg.made D)) → PM secv w1 md ([] : List (Int × Sec)) → PM secv w1 mn ([] : List (Int × Sec)) → PM tru w1 mi ([] : List (Int × Unit)) → PM tru w1 mc ([] : List (Int × Unit)) →
    Fr no w w1 → w.heap.size ≤ md ∧ md < mn ∧ mn < mi ∧ mi < mc ∧ mc < b → K (pt b) w1) : cl P 106 #[pt d] w K := by
  have hm : D.lasts.length ≤ 65536 := (let ⟨_, _, _, _, _, h⟩ := h; h.wf.most)
  have hp := places_le D
  apply c106
  unfold F106
  refine places_k h ?_
  haveI : Fits .i64 ((1 : Int) + (places D : Int)) := fits_i64 (by omega) (by omega)
  refine px_run ?_
  refine dlen_k h ?_
  haveI : Fits .i64 ((D.lasts.length : Int) - 1) := fits_i64 (by omega) (by omega)
  refine px_run ?_
  haveI : Fits .i64 ((D.lasts.length : Int) - 1 - (places D : Int)) := fits_i64 (by omega) (by omega)
  refine px_run ?_
  refine pm_make (enc := secv) fun md w1 h1 hM1 f1 => ?_
  refine pm_make (enc := secv) fun mn w2 h2 hM2 f2 => ?_
  refine pm_make (enc := tru) fun mi w3 h3 hM3 f3 => ?_
  refine pm_make (enc := tru) fun mc w4 h4 hM4 f4 => ?_
  refine px_of build193 ?_
  refine boxA_k fun b w5 h5 hb f5 => ?_
  have tr : ∀ {x y z : World}, Fr no x y → Fr no y z → Fr no x z := fun h k => h.trans k (fun _ h => by cases h)
  have s1 := hM1.lt
  have s2 := hM2.lt
  have s3 := hM3.lt
  have s4 := hM4.lt
  exact k b md mn mi mc w5 hb ((((hM1.fr0 f2).fr0 f3).fr0 f4).fr0 f5) (((hM2.fr0 f3).fr0 f4).fr0 f5) ((hM3.fr0 f4).fr0 f5) (hM4.fr0 f5) (tr (tr (tr (tr f1 f2) f3) f4) f5) ⟨by omega, by omega, by omega, by omega, by omega⟩

theorem recsF_len {r : Ring} {D : Disk} {B : Nat} : ∀ (f n : Nat) (out : List Str) (now : Str) (last : Nat), (∀ l ∈ out, l.length ≤ B) → now.length + 501 * f ≤ B →
    (∀ l ∈ (r.recsF D f n out now last).1, l.length ≤ B) ∧ (r.recsF D f n out now last).1.length ≤ out.length + f
  | 0, _, out, _, _, h, _ => ⟨h, Nat.le_refl _⟩
  | f + 1, n, out, now, last, h, hb => by
    unfold Ring.recsF
    cases hp : r.pieceAt D (r.place (n + 1)) with
    | none => exact ⟨h, by simp only; omega⟩
    | some p =>
      have hpn := Ring.pieceAt_n hp
      simp only
      split
      · split
        · have := recsF_len (r := r) (D := D) f (n + 1) (out ++ [now ++ p.data]) [] (n + 1) (fun l hl => by
            rcases List.mem_append.1 hl with hl | hl
            · exact h l hl
            · simp only [List.mem_singleton] at hl
              subst hl
              rw [List.length_append]; omega) (by simp only [List.length_nil]; omega)
          refine ⟨this.1, ?_⟩
          have h2 := this.2
          simp only [List.length_append, List.length_cons, List.length_nil] at h2
          omega
        · have := recsF_len (r := r) (D := D) f (n + 1) out (now ++ p.data) last h (by rw [List.length_append]; omega)
          exact ⟨this.1, by have := this.2; omega⟩
      · exact ⟨h, by simp only; omega⟩
theorem Mut.fr {G : Nat → Prop} {i : Nat} (h : Mut w i) (f : Fr G w w1) (hG : ¬ G i) : Mut w1 i := by
  rcases h with ⟨t, cs, hb, ht⟩ | ⟨es, h⟩
  · exact .inl ⟨t, cs, hb.fr f hG, ht⟩
  · exact .inr ⟨es, h.fr f hG⟩
theorem gt127 {c : UInt8} {w : World} : (bin true .gtr 5 (u8v c) (.int .u8 127)).run P w = .ok (.bool (decide (127 < c.toNat))) w := by
  have h : Rn P (bin true .gtr 5 (u8v c) (.int .u8 127)) w (.bool (decide ((c.toNat : Int) > 127))) w := inferInstance
  rw [h.run]
  congr 2
  apply decide_eq_decide.2
  omega
/-- What the log of a disk says is taken over: the pager before it is settled. -/
def Pg.taken (D : Disk) : Option Pg :=
  ((Pg.made D).replay (Ring.open D 1 (places D) (num (((D.at 0).drop 8).take 8))).2).map fun p => { p with R := (Ring.open D 1 (places D) (num (((D.at 0).drop 8).take 8))).1 }
theorem open_k (h : DiskP w d D F) (hm : ∀ i, F i → Mut w i) (hw : D.waits.length ≤ 100000)
    (hgood : ∀ p, Pg.taken D = some p → (p.settle p.R.top).2 = 0 → ∃ ch, Good (p.settle p.R.top).1.cview (Meta.of ((p.settle p.R.top).1.cview 0)) (p.settle p.R.top).1.pages ch)
    (k0 : ∀ e w1 F', (Pg.open D).1 = .error e → e ≠ 0 → DiskP w1 d (Pg.open D).2 F' → (∀ i, F' i → Mut w1 i) → Fr F w w1 → Grows w F F' → K (.tuple #[.pointer none, iv e]) w1)
    (k1 : ∀ p b w1 F', (Pg.open D).1 = .ok p → (Pg.open D).2 = p.D → PgM w1 b d p F' → Fr F w w1 → Grows w F F' → K (.tuple #[pt b, iv 0]) w1) : cl P 38 #[pt d] w K := by
  have hwf : D.WF := let ⟨_, _, _, _, _, h⟩ := h; h.wf
  have hpos := hwf.pos
  have hmost := hwf.most
  apply c38
  unfold F38
  unfold Pg.open at k0 k1
  refine px_run ?_
  refine cnd_false ?_
  refine dread_k h (fun hdd => ?_) (fun hdd hr => absurd hr (by omega)) (fun hdd j hj hjl v w1 hv hf1 hnv => ?_)
  · have e : D.get 0 = .error 20 := by unfold Disk.get; rw [hdd, if_pos rfl]
    simp only [e] at k0
    refine px_run ?_
    refine px_run ?_
    refine px_run ?_
    refine cnd_true ?_
    exact k0 20 w F rfl (by decide) h hm (Fr.refl _ _) (Grows.refl _ _)
  obtain rfl : j = 0 := by omega
  have e : D.get 0 = .ok (D.at 0) := Disk.get_ok hdd (Int.le_refl _) (by omega)
  simp only [e] at k0 k1
  have hal := Disk.at_length hwf hpos
  unfold Pg.taken at hgood
  generalize D.at 0 = s at hv hal k0 k1 hgood
  have h1 := h.fr0 hf1
  have hm1 : ∀ i, F i → Mut w1 i := fun i hi => (hm i hi).fr0 hf1
  refine px_run ?_
  refine px_run ?_
  refine px_run ?_
  refine cnd_false ?_
  refine dlen_k h1 ?_
  obtain ⟨av, cv', rfl⟩ := Own.atom hv
  refine px_run ?_
  -- not of the form
  have bad : (D.lasts.length < 64 ∨ s.take 8 ≠ mark ∨ 127 < (s.getD 8 0).toNat) → K (.tuple #[.pointer none, .int .i64 4]) w1 := fun hc => by
    rw [if_pos hc] at k0
    exact k0 4 w1 F rfl (by decide) h1 hm1 (hf1.mono fun _ h => h.elim) (Grows.refl _ _)
  by_cases c1 : D.lasts.length < 64
  · have e1 : decide ((D.lasts.length : Int) < 64) = true := decide_eq_true (by omega)
    simp only [e1]
    iterate 4 refine gd_tf ?_
    refine pk_true ?_
    iterate 4 refine gd_tf ?_
    refine pk_true ?_
    refine cnd_true ?_
    exact bad (.inl c1)
  have e1 : decide ((D.lasts.length : Int) < 64) = false := decide_eq_false (by omega)
  simp only [e1]
  refine gd_ff ?_
  refine gd_ff ?_
  refine slc_h (P := P) 8 rfl hv.sl (by omega) fun v26 h26 _ => ?_
  rw [Nat.mul_one, bs_take] at h26
  obtain ⟨_, a26, c26, rfl, _⟩ := id h26
  refine gd_ff ?_
  refine convS_k (P := P) h26 ?_
  refine gd_ff ?_
  rw [markv]
  refine px_run ?_
  refine pk_false ?_
  by_cases c2 : s.take 8 ≠ mark
  · have e2 : decide (s.take 8 ≠ mark) = true := decide_eq_true c2
    simp only [e2]
    iterate 4 refine gd_tf ?_
    refine pk_true ?_
    refine cnd_true ?_
    exact bad (.inr (.inl c2))
  have e2 : decide (s.take 8 ≠ mark) = false := decide_eq_false c2
  simp only [e2]
  refine gd_ff ?_
  refine gd_ff ?_
  refine idx_s (P := P) hv.sl (by omega) 8 rfl (by omega) fun b' o _ hc => ?_
  have h0 := hc 0 (by omega)
  rw [Nat.mul_one, Nat.add_zero, Nat.add_zero, bs_get (by omega : 8 < s.length)] at h0
  refine gd_ff ?_
  refine ld1 (P := P) h0 ?_
  refine gd_ff ?_
  refine px_of gt127 ?_
  refine pk_false ?_
  have e8 : s.getD 8 0 = s[8]'(by omega) := getD_of (by omega)
  refine cnd_dec (fun c3 => bad (.inr (.inr (by rw [e8]; exact c3)))) (fun c3 => ?_)
  have hcond : ¬ (D.lasts.length < 64 ∨ s.take 8 ≠ mark ∨ 127 < (s.getD 8 0).toNat) := by
    rintro (h | h | h)
    · exact c1 h
    · exact c2 h
    · rw [e8] at h; exact c3 h
  rw [if_neg hcond] at k0 k1
  clear bad
  refine made_k h1 fun b md mn mi mc w2 hb hMd hMn hMi hMc hf2 hne => ?_
  have tr : ∀ {x y z : World}, Fr no x y → Fr no y z → Fr no x z := fun h k => h.trans k (fun _ h => by cases h)
  refine dr_of ?_
  have fd := Fr.dw w2
  have f13 := tr hf2 fd
  have f3 := tr hf1 f13
  have hv3 := hv.fr0 f13
  have hb3 := hb.fr0 fd
  have hMd3 := hMd.fr0 fd
  have hMn3 := hMn.fr0 fd
  have hMi3 := hMi.fr0 fd
  have hMc3 := hMc.fr0 fd
  generalize dw w2 = w3 at fd f13 f3 hv3 hb3 hMd3 hMn3 hMi3 hMc3
  have h3 := h.fr0 f3
  have s1 := hf1.size
  refine slcY_lh (P := P) 8 16 rfl rfl hv3.sl (by omega) (by omega) fun v43 h43 _ => ?_
  simp only [Nat.mul_one, bs_part] at h43
  refine places_k h3 ?_
  have hl8 : ((s.drop 8).take (16 - 8)).length = 8 := by rw [List.length_take, List.length_drop]; omega
  have h43' : Sl w3 v43 1 ((s.drop 8).take (16 - 8)).length (bs ((s.drop 8).take (16 - 8))) := by rw [hl8]; exact h43
  have hnum63 : num ((s.drop 8).take (16 - 8)) < 9223372036854775808 := by
    have e9 : (s.drop 8).take (16 - 8) = s[8]'(by omega) :: ((s.drop 9).take 7) := by
      rw [show 16 - 8 = 7 + 1 from rfl, List.drop_eq_getElem_cons (by omega : 8 < s.length), List.take_succ_cons]
    rw [e9]
    have h7 : ((s.drop 9).take 7).length = 7 := by rw [List.length_take, List.length_drop]; omega
    have hfold : ∀ (l : List UInt8) (a : Nat), l.foldl (fun n c => n * 256 + c.toNat) a < (a + 1) * 256 ^ l.length := by
      intro l
      induction l with
      | nil => intro a; simp
      | cons c l ih =>
        intro a
        have := ih (a * 256 + c.toNat)
        have hc := c.toNat_lt
        simp only [List.foldl_cons, List.length_cons, Nat.pow_succ]
        calc _ < (a * 256 + c.toNat + 1) * 256 ^ l.length := this
          _ ≤ ((a + 1) * 256) * 256 ^ l.length := Nat.mul_le_mul_right _ (by omega)
          _ = (a + 1) * (256 ^ l.length * 256) := by rw [Nat.mul_assoc, Nat.mul_comm 256]
    have := hfold ((s.drop 9).take 7) (0 * 256 + (s[8]'(by omega)).toNat)
    rw [h7] at this
    have e256 : (256 : Nat) ^ 7 = 72057594037927936 := by decide
    unfold num
    rw [List.foldl_cons]
    have hc3 : (s[8]'(by omega)).toNat ≤ 127 := by omega
    calc _ < _ := this
      _ ≤ _ := by rw [e256]; omega
  refine number_k h43' (by omega) hnum63 ?_
  have enum : (s.drop 8).take (16 - 8) = (s.drop 8).take 8 := rfl
  rw [enum] at hnum63 ⊢
  generalize num ((s.drop 8).take 8) = base at hnum63 k0 k1 hgood ⊢
  have hp5 : places D = D.lasts.length / 4 := rfl
  have hm3 : ∀ i, F i → Mut w3 i := fun i hi => (hm i hi).fr0 f3
  refine ropen_k (first := 1) (count := places D) (base := base) h3 (fun i hi => (hm3 i hi).lt) (by omega) (by omega) hnum63 (fun hbad => ?_) (fun _ hdd' => by rw [hdd] at hdd'; cases hdd') fun hb62 _ r vo vs w4 hR4 hrecs hf4 hr4 => ?_
  · rw [if_pos hbad] at k0
    refine py_run ?_
    refine py_run ?_
    refine py_run ?_
    refine px_run ?_
    iterate 3 refine gd_tf ?_
    iterate 4 refine gd_u ?_
    refine gd_tf ?_
    refine pk_true ?_
    refine cnd_true ?_
    exact k0 4 w3 F rfl (by decide) h3 hm3 (f3.mono fun _ h => h.elim) (Grows.refl _ _)
  rw [if_neg (by omega)] at k0 k1
  have hrl := recsF_len (r := Ring.start 1 (places D) base) (D := D) (B := 501 * places D) (places D) base [] [] base (fun l hl => by cases hl) (by simp)
  have hopen : (Ring.open D 1 (places D) base).2 = ((Ring.start 1 (places D) base).recsF D (places D) base [] [] base).1 := rfl
  rw [← hopen] at hrl
  have hXwf := Ring.open_wf (D := D) (first := 1) (count := places D) (base := base) (by omega) (by omega) hb62
  have hXf : (Ring.open D 1 (places D) base).1.first = 1 := rfl
  have hXc : (Ring.open D 1 (places D) base).1.count = places D := rfl
  generalize Ring.open D 1 (places D) base = X at hR4 hrecs k0 k1 hgood hrl hopen hXwf hXf hXc
  clear hopen
  refine py_run ?_
  refine py_run ?_
  refine py_run ?_
  refine px_run ?_
  refine gd_ff ?_
  refine gd_ff ?_
  refine px_run ?_
  refine gd_ff ?_
  refine gd_tt ?_
  refine gd_tt ?_
  refine gd_tt ?_
  have f14 : Fr no w1 w4 := tr f13 hf4
  have f4 := tr f3 hf4
  have hb4 := hb3.fr0 hf4
  have h4 := h.fr0 f4
  have hm4 : ∀ i, F i → Mut w4 i := fun i hi => (hm i hi).fr0 f4
  have hFlt : ∀ i, F i → i < w.heap.size := fun i hi => (hm i hi).lt
  have s3 := f13.size
  have lMc := hMc3.lt
  have lb3 := hb3.lt
  obtain ⟨n1, n2, n3, n4, n5⟩ := hne
  have hmk : DkOk (Pg.made D) := ⟨fun _ hx => (by cases hx), by show (1 : Int) ≤ (D.lasts.length : Int) - 1 - places D; omega, by show (D.lasts.length : Int) - 1 - places D ≤ 65536; omega⟩
  refine replay_k (p := Pg.made D) hb4 (hMd3.fr0 hf4) hmk hrecs (fun l hl => by have := hrl.1 l hl; omega) (by have := hrl.2; simp only [List.length_nil] at this; omega) (fun hrep w5 hf5 => ?_) (fun dirty w5 hrep hD5 hok5 hf5 => ?_)
  · refine gd_tt ?_
    refine px_run ?_
    refine gd_ff ?_
    refine pk_true ?_
    refine pk_false ?_
    refine cnd_true ?_
    rw [hrep] at k0
    simp only at k0
    have f5 : Fr F w w5 := (f4.mono fun _ h => h.elim).trans hf5 (fun i e => .inr (by have e' : i = md := e; omega))
    have nmd : ∀ i, F i → i ≠ md := fun i hi e => by have := hFlt i hi; omega
    exact k0 4 w5 F rfl (by decide) (h4.fr hf5 (fun i hi e => nmd i hi e)) (fun i hi => (hm4 i hi).fr hf5 (nmd i hi)) f5 (Grows.refl _ _)
  · refine gd_tt ?_
    refine px_run ?_
    refine gd_ff ?_
    refine pk_true ?_
    refine pk_false ?_
    refine cnd_false ?_
    refine px_run ?_
    refine cnd_false ?_
    rw [hrep] at k0 k1 hgood
    simp only at k0 k1
    simp only [Option.map_some, Option.some.injEq, forall_eq'] at hgood
    refine nc_ptr ?_
    refine px_run ?_
    have nmd : ∀ i, F i → i ≠ md := fun i hi e => by have := hFlt i hi; omega
    have s4 := hf4.size
    have s5 := hf5.size
    have lR := hR4.blk.lt
    have hb5 := hb4.fr hf5 (fun e => PM.ne_bk (hMd3.fr0 hf4) hb4 e.symm)
    refine stB_k hb5 (by simp [pgcR]) fun w6 hb6 hf6 => ?_
    have hq : ({ { Pg.made D with dirty := dirty } with R := X.1 } : Pg).Ok :=
      ⟨hwf, hXwf, rfl, rfl, by show 64 ≤ D.lasts.length; omega, hXf, hXc, hok5.dk, fun _ hx => (by cases hx), hD5.asc, .nil, .nil, rfl⟩
    have f46 : Fr (fun i => i = md ∨ i = b) w4 w6 := hf5.two' hf6
    have nn : ∀ {i : Nat}, i ≠ md → i ≠ b → ¬ (i = md ∨ i = b) := fun h1 h2 => by rintro (e | e); exact h1 e; exact h2 e
    have nb : ∀ i, F i → i ≠ b := fun i hi e => by have := hFlt i hi; omega
    have hrb : r ≠ b := hR4.blk.ne hb4 (by decide)
    have hrm : r ≠ md := fun e => PM.ne_bk (hMd3.fr0 hf4) hR4.blk e.symm
    have hD6 := hD5.fr hf6 (fun e => PM.ne_bk hD5 hb5 e)
    have hN6 := (hMn3.fr0 hf4).fr f46 (nn (by omega) (by omega))
    have hI6 := (hMi3.fr0 hf4).fr f46 (nn (by omega) (by omega))
    have hC6 := (hMc3.fr0 hf4).fr f46 (nn (by omega) (by omega))
    have hR6 := hR4.fr f46 (nn hrm hrb)
    obtain ⟨F1, hF1⟩ : ∃ F1 : Nat → Prop, F1 = fun i => F i ∨ i = b ∨ i = r ∨ i = md ∨ i = mn ∨ i = mi ∨ i = mc := ⟨_, rfl⟩
    have hg1 : Grows w F F1 := fun i hi => by
      rw [hF1] at hi
      rcases hi with h | h | h | h | h | h | h
      · exact .inl h
      all_goals exact .inr (by omega)
    have f6 : Fr F w w6 := (f4.mono fun _ h => h.elim).trans f46 (fun i e => .inr (by rcases e with e | e <;> omega))
    have hQ : PgM w6 b d { { Pg.made D with dirty := dirty } with R := X.1 } F1 := by
      refine ⟨r, md, mn, mi, mc, F, hb6, h4.fr f46 (fun i hi => nn (nmd i hi) (nb i hi)), hR6, hD6, hN6, hI6, hC6, hq, fun i hi => by rw [hF1]; exact .inl hi, ?_, ?_, ?_, ?_⟩
      · rw [hF1]
        exact ⟨.inr (.inl rfl), .inr (.inr (.inl rfl)), .inr (.inr (.inr (.inl rfl))), .inr (.inr (.inr (.inr (.inl rfl)))), .inr (.inr (.inr (.inr (.inr (.inl rfl))))), .inr (.inr (.inr (.inr (.inr (.inr rfl)))))⟩
      · exact ⟨fun e => nb _ e rfl, fun e => by have := hFlt _ e; omega, fun e => nmd _ e rfl, fun e => by have := hFlt _ e; omega, fun e => by have := hFlt _ e; omega, fun e => by have := hFlt _ e; omega⟩
      · exact ⟨by omega, by omega, by omega, by omega, by omega, by omega⟩
      · rw [hF1]
        rintro i (hi | rfl | rfl | rfl | rfl | rfl | rfl)
        · exact (hm4 i hi).fr f46 (nn (nmd i hi) (nb i hi))
        · exact .inl ⟨_, _, hb6, by simp⟩
        · exact .inl ⟨_, _, hR6.blk, by simp⟩
        · exact PM.mu hD6
        · exact PM.mu hN6
        · exact PM.mu hI6
        · exact PM.mu hC6
    refine top_k hR6 ?_
    refine settle_k (base := X.1.top) hQ hdd hXwf.tm hw fun w7 F7 h7 f67 g7 => ?_
    have f7 : Fr F w w7 := f6.trans f67 hg1
    have g07 := hg1.trans g7 f6.size
    have dk : ∀ {wx : World} {q : Pg} {Fx : Nat → Prop}, PgM wx b d q Fx → DiskP wx d q.D (fun i => Fx i) ∧ ∀ i, Fx i → Mut wx i := fun hM => by
      obtain ⟨r', md', mn', mi', mc', Fd', hM⟩ := hM
      obtain ⟨vl, vw, vk, m, es, hd⟩ := hM.disk
      exact ⟨⟨vl, vw, vk, m, es, hd.blk, hd.lasts, hd.waits, hd.now, hd.nowIs, hd.keep, hM.fd _ hd.fd, hM.fd _ hd.fm, fun b hb => hM.fd _ (hd.fl b hb), fun b hb => hM.fd _ (hd.fw b hb), fun b hb => hM.fd _ (hd.fk b hb), hd.wf⟩, hM.mu⟩
    refine px_run ?_
    refine cnd_dec (fun hne => ?_) (fun heq => ?_)
    · have hne' : (({ { Pg.made D with dirty := dirty } with R := X.1 } : Pg).settle X.1.top).2 ≠ 0 := hne
      rw [if_pos hne'] at k0
      exact k0 _ w7 F7 rfl hne' (dk h7).1 (dk h7).2 f7 g07
    have heq' : ¬ (({ { Pg.made D with dirty := dirty } with R := X.1 } : Pg).settle X.1.top).2 ≠ 0 := heq
    rw [if_neg heq'] at k0 k1
    have heq0 : (({ { Pg.made D with dirty := dirty } with R := X.1 } : Pg).settle X.1.top).2 = 0 := by
      by_cases h : (({ { Pg.made D with dirty := dirty } with R := X.1 } : Pg).settle X.1.top).2 = 0
      · exact h
      · exact absurd h heq'
    obtain ⟨ch, hg⟩ := hgood heq0
    have hal7 : (({ { Pg.made D with dirty := dirty } with R := X.1 } : Pg).settle X.1.top).1.D.dead = false := by
      rcases Pg.settle_cases hq hdd hXwf.tm with ⟨_, _, a, _⟩ | ⟨e, _⟩
      · exact a
      · have e' : (({ { Pg.made D with dirty := dirty } with R := X.1 } : Pg).settle X.1.top).2 = 20 := e
        rw [heq0] at e'
        cases e'
    refine abort_gk h7 hal7 rfl hg fun w8 F8 h8 f78 g8 => ?_
    have f8 := f7.trans f78 g07
    have g08 := g07.trans g8 f7.size
    refine px_run ?_
    refine cnd_dec (fun hne => ?_) (fun heq => ?_)
    · have hne' : (({ { Pg.made D with dirty := dirty } with R := X.1 } : Pg).settle X.1.top).1.abort.2 ≠ 0 := hne
      rw [if_pos hne'] at k0
      exact k0 _ w8 F8 rfl hne' (dk h8).1 (dk h8).2 f8 g08
    · have heq2 : ¬ (({ { Pg.made D with dirty := dirty } with R := X.1 } : Pg).settle X.1.top).1.abort.2 ≠ 0 := heq
      rw [if_neg heq2] at k1
      exact k1 _ b w8 F8 rfl rfl h8 f8 g08
end
end Go.Proofs.YtomggfibpbaodaaGreatDoor
