/-
  The pager: committing a change, second part.
-/
import Derived.Test.YtomggfibpbaodaaGreatDoorH5
set_option maxRecDepth 100000
namespace Go.Proofs.YtomggfibpbaodaaGreatDoor
open Go.V

theorem recOf_len : ∀ (l : List (Int × Sec)), (∀ x ∈ l, x.2.length = 512) → (recOf l).length ≤ 540 * l.length
  | [], _ => by simp [recOf]
  | (n, s) :: l, h => by
    have h1 := recOf_len l fun x hx => h x (.tail _ hx)
    have h2 := cnt_length n
    have h3 := trimR_len s
    have h4 := h _ (.head _)
    have h5 := cnt_length ((trimR s).length : Int)
    simp only at h4
    have h6 : (str (trimR s)).length ≤ 522 := by
      unfold str
      split
      · simp
      · rw [List.length_append]; omega
    have : recOf ((n, s) :: l) = cnt n ++ str (trimR s) ++ recOf l := by simp [recOf]
    rw [this, List.length_append, List.length_append, List.length_cons]
    omega
theorem recOf_snoc (l : List (Int × Sec)) (x : Int × Sec) : recOf (l ++ [x]) = recOf l ++ cnt x.1 ++ str (trimR x.2) := by simp [recOf]
section
variable {w w1 : World} {b d r md mn mi mc : Nat} {p : Pg} {F Fd : Nat → Prop} {K : Value → World → Prop}
theorem tryLog_ok {p : Pg} {l : Str} (hok : p.Ok) (ha : p.D.dead = false) (hw : p.D.waits = []) (he : (p.tryLog l).2 = 0) : (p.tryLog l).1.D.dead = false ∧ (p.tryLog l).1.D.waits.length ≤ 1000000 := by
  have hrc : p.R.count ≤ 65536 := by have := hok.R.most; omega
  unfold Pg.tryLog at he ⊢
  split
  · rename_i h3
    rw [if_pos h3] at he
    split
    · rename_i h0
      rw [if_pos h0] at he
      rcases Pg.settle_cases hok ha hok.R.tm with ⟨e2, o2, d2, w2, s2, v2⟩ | ⟨e2, _⟩
      · have hrc2 : (p.settle p.R.top).1.R.count ≤ 65536 := by have := o2.R.most; omega
        rcases Pg.logged_cases o2 d2 l with ⟨e, _⟩ | ⟨e, _, d, _, _, wl, _⟩ | ⟨e, _⟩
        · omega
        · refine ⟨d, ?_⟩
          rw [w2] at wl
          simp only [List.length_nil] at wl
          omega
        · omega
      · omega
    · rename_i h0
      rw [if_neg h0] at he
      exact absurd he h0
  · rename_i h3
    rw [if_neg h3] at he
    rcases Pg.logged_cases hok ha l with ⟨e, _⟩ | ⟨e, _, d, _, _, wl, _⟩ | ⟨e, _⟩
    · omega
    · refine ⟨d, ?_⟩
      rw [hw] at wl
      simp only [List.length_nil] at wl
      omega
    · omega
/-- A record of the pages is made. -/
theorem rec_k {N0 : List (Int × Sec)} {J : List Value → World → Prop} (hb : Bk w b 193 (pgc d r md mn mi mc p)) (hN : PM secv w mn N0) (h512 : ∀ x ∈ N0, 0 ≤ x.1 ∧ x.1 < 65536 ∧ x.2.length = 512)
    (k : ∀ v n w1, Own w1 v 5 1 (recOf N0).length (bs (recOf N0)) → Fr no w w1 → J [v, n] w1) :
    nc (pt b) w fun v51 w =>
    px P (Instr.fieldAt 193 v51 5) w fun v52 w =>
    px P (Instr.loadAt 190 v52) w fun v53 w =>
    cl P 166 #[v53] w fun v54 w =>
    cl P 165 #[v54] w fun v55 w =>
    px P (Builtin.len_ #[48] 3 #[v55]) w fun v56 w =>
    lp [(.slice none 0 0), (.int .i64 0)] w fun again1 vs1 w =>
    px P (bin false .lss 3 (g1 vs1) v56) w fun v58 w =>
    cnd v58 (
      px P (Instr.indexAt 48 v55 (g1 vs1)) w fun v59 w =>
      px P (Instr.loadAt 3 v59) w fun v60 w =>
      nc (pt b) w fun v62 w =>
      px P (Instr.fieldAt 193 v62 5) w fun v63 w =>
      px P (Instr.loadAt 190 v63) w fun v64 w =>
      px P (Instr.lookup 190 v64 v60 false) w fun v66 w =>
      px P (Instr.alloc 195 true (.tuple #[])) w fun v6 w =>
      pu P (Instr.storeAt 195 v6 v66) w fun w =>
      dr w fun w =>
      py P (fun _ => True) (Instr.sliceAt 195 v6 none none none) fun v70 =>
      cl P 168 #[(g0 vs1), v60] w fun v69 w =>
      cl P 169 #[v70, (.string ⟨#[0]⟩)] w fun v71 w =>
      px P (convert 43 9 v71) w fun v72 w =>
      cl P 167 #[v69, v72] w fun v73 w =>
      px P (bin true .add 3 (g1 vs1) (.int .i64 1)) w fun v74 w =>
      again1 [v73, v74] w) (
      J vs1 w) := by
  have z512 := zs_length 512
  have hlen : N0.length ≤ 65536 := asc_len hN.asc (m := 65536) (fun x hx => ⟨(h512 x hx).1, by have := (h512 x hx).2.1; omega⟩)
  refine nc_ptr ?_
  refine px_run ?_
  refine ldB hb rfl ?_
  refine keys166_k fun bx w1 hbx hbb hf1 => ?_
  refine sorted_k (hN.fr0 hf1) hbb (fun x hx => ⟨(h512 x hx).1, (h512 x hx).2.1⟩) (by omega) fun v w2 hv hf2 => ?_
  have f2 := hf1.trans hf2 (fun _ h => by cases h)
  obtain ⟨av, cv', rfl⟩ := Own.atom hv
  refine px_run ?_
  refine lp_of (fun vs w' => ∃ (i : Nat) (vr : Value), vs = [vr, iv i] ∧ i ≤ N0.length ∧ Own w' vr 5 1 (recOf (N0.take i)).length (bs (recOf (N0.take i))) ∧ Fr no w w' ∧ Own w' (.slice av N0.length cv') 3 1 N0.length (N0.map fun x => iv x.1))
    (fun vs _ => (match vs with | [_, .int _ m] => ((N0.length : Int) - m).toNat | _ => 0)) ⟨0, _, rfl, by omega, Own.nil _ _ _, f2, hv⟩ ?_
  rintro vs w3 ⟨i, vr, rfl, hi, hr3, f3, hv3⟩
  simp only [g0_cons, g1_cons]
  refine px_run ?_
  refine cnd_dec (fun hlt => ?_) (fun hge => ?_)
  · have hi' : i < N0.length := by omega
    have hmem := List.getElem_mem hi'
    have hx := h512 _ hmem
    refine idx_s (P := P) hv3.sl (by omega) i rfl hi' fun b' o _ hc => ?_
    have h0 := hc 0 (by omega)
    rw [Nat.mul_one, Nat.add_zero, Nat.add_zero, List.getElem?_map, List.getElem?_eq_getElem hi'] at h0
    refine ld1 (P := P) h0 ?_
    have htk : N0.take (i + 1) = N0.take i ++ [N0[i]] := List.take_succ_eq_append_getElem hi'
    have hrl := recOf_len (N0.take i) (fun x hx => (h512 x (List.mem_of_mem_take hx)).2.2)
    rw [List.length_take, Nat.min_eq_left (by omega)] at hrl
    generalize hpi : N0[i] = pi at hmem hx htk
    obtain ⟨n, s⟩ := pi
    simp only at hx ⊢
    refine nc_ptr ?_
    refine px_run ?_
    refine ldB (hb.fr0 f3) rfl ?_
    refine pm_get1 (P := P) (hN.fr0 f3) ?_
    rw [mget_of_mem hN.asc hmem]
    simp only [Option.map_some, Option.getD_some, secv]
    refine alloc_k (P := P) (z := zeros 512) fun b7 w4 hb7e hb7 hf4 => ?_
    rw [zeros_bs] at hb7
    refine stA0_k hb7 (atoms_bs _) (by rw [bs_length]; exact hx.2.2) (by rw [bs_length, z512]) fun w5 hb75 hf5 => ?_
    have f35 : Fr no w3 w5 := hf4.new hf5 (fun i hi => by omega)
    refine dr_of ?_
    have fd := Fr.dw w5
    have f36 := f35.trans fd (fun _ h => by cases h)
    have hb76 := hb75.fr0 fd
    have hr6 := hr3.fr0 f36
    have hv6 := hv3.fr0 f36
    have f6 := f3.trans f36 (fun _ h => by cases h)
    generalize dw w5 = w6 at fd f36 hb76 hr6 hv6 f6
    refine py_run ?_
    refine count_k hr6.sl (by omega) fun v69 w7 hn7 => ?_
    have hb77 := hb76.fr0 hn7.fr
    have hsx : Sl w7 (.slice (some ⟨b7, 0, none⟩) 512 512) 1 s.length (bs s) := by
      rw [hx.2.2]
      exact hb77.sl (fun j hj => by rw [Nat.zero_add]) (by rw [bs_length]; exact hx.2.2) (Nat.le_refl _)
    refine trimRight_k hsx (by omega) fun v71 h71 _ => ?_
    refine convS_k (P := P) h71 ?_
    have hcn := cnt_length n
    refine str_k hn7.own.sl (by rw [List.length_append]; omega) fun v73 w8 hn8 => ?_
    haveI : Fits .i64 ((i : Int) + 1) := fits_i64 (by omega) (by omega)
    refine px_run ?_
    have f68 := hn7.fr.trans hn8.fr (fun _ h => by cases h)
    have e : recOf (N0.take (i + 1)) = recOf (N0.take i) ++ cnt n ++ str (trimR s) := by rw [htk, recOf_snoc]
    refine ⟨⟨i + 1, v73, rfl, by omega, ?_, f6.trans f68 (fun _ h => by cases h), hv6.fr0 f68⟩, show ((N0.length : Int) - ((i : Int) + 1)).toNat < ((N0.length : Int) - (i : Int)).toNat by omega⟩
    rw [e]
    exact hn8.own
  · have hie : i = N0.length := by omega
    subst hie
    rw [List.take_length] at hr3
    exact k vr _ w3 hr3 f3
theorem commit_k (h : PgM w b d p F) (hw : p.WF) (k : ∀ w1 F', PgM w1 b d p.commit.1 F' → Fr F w w1 → Grows w F F' → K (iv p.commit.2) w1) : cl P 92 #[pt b] w K := by
  have hM := h
  obtain ⟨r, md, mn, mi, mc, Fd, h⟩ := h
  have hok := hw.ok
  have hs := hok.small
  have hbo : ∀ i, F i → i < w.heap.size := fun i hi => (h.mu i hi).lt
  have hnow0 := hok.now0 p.m.page
  apply c92
  unfold F92
  unfold Pg.commit at k
  rw [hnow0] at k
  refine px_run ?_
  refine cnd_false ?_
  refine dr_of ?_
  have fd := Fr.dw w
  have h1 := h.fr0 fd
  have hM1 := hM.fr0 fd
  generalize dw w = w1 at fd h1 hM1
  refine ny_ptr ?_
  refine py_run ?_
  refine ldY h1.blk rfl ?_
  refine pm_lenY (P := P) h1.count ?_
  refine ny_ptr ?_
  refine py_run ?_
  refine ldY h1.blk rfl ?_
  refine dlen_k h1.disk ?_
  have e8 : ((p.D.lasts.length : Int)).tdiv 8 = ((p.D.lasts.length / 8 : Nat) : Int) := rfl
  refine py_of (fun w' _ => quo_run (by omega) (by rw [e8]; omega) (by rw [e8]; omega)) ?_
  rw [e8]
  refine py_run ?_
  refine cnd_dec (fun hc => ?_) (fun hc => ?_)
  · rw [if_pos (by omega)] at k
    exact k w1 F hM1 (fd.mono fun _ h => h.elim) (Grows.refl _ _)
  rw [if_neg (by omega)] at k
  refine nc_ptr ?_
  refine px_run ?_
  refine px_run ?_
  refine ldB h1.blk rfl ?_
  refine px_run ?_
  by_cases hr0 : p.m.root ≠ 0 ∧ p.uses p.m.root = false
  · rw [if_pos hr0] at k
    have e : decide (p.m.root ≠ 0) = true := by simp [hr0.1]
    simp only [e]
    iterate 2 refine gd_tt ?_
    refine gd_tt ?_
    refine nc_ptr ?_
    refine gd_tt ?_
    refine px_run ?_
    refine gd_tt ?_
    refine px_run ?_
    refine gd_tt ?_
    refine ldB h1.blk rfl ?_
    refine gd_tt ?_
    refine uses_k h1 ?_
    refine gd_tt ?_
    refine px_run ?_
    refine pk_true ?_
    rw [hr0.2]
    refine cnd_true ?_
    exact k w1 F hM1 (fd.mono fun _ h => h.elim) (Grows.refl _ _)
  rw [if_neg hr0] at k
  by_cases h00 : p.m.root = 0
  case' pos =>
    have e : decide (p.m.root ≠ 0) = false := by simp [h00]
    simp only [e]
    iterate 8 refine gd_ft ?_
    refine pk_false ?_
    refine cnd_false ?_
  case' neg =>
    have e : decide (p.m.root ≠ 0) = true := by simp [h00]
    have hu : p.uses p.m.root = true := by
      cases hu : p.uses p.m.root with
      | true => rfl
      | false => exact absurd ⟨h00, hu⟩ hr0
    simp only [e]
    iterate 2 refine gd_tt ?_
    refine gd_tt ?_
    refine nc_ptr ?_
    refine gd_tt ?_
    refine px_run ?_
    refine gd_tt ?_
    refine px_run ?_
    refine gd_tt ?_
    refine ldB h1.blk rfl ?_
    refine gd_tt ?_
    refine uses_k h1 ?_
    refine gd_tt ?_
    refine px_run ?_
    refine pk_true ?_
    rw [hu]
    refine cnd_false ?_
  all_goals
    clear hr0 hc hM1
    refine dr_of ?_
    have fd2 := Fr.dw w1
    have h2 := h1.fr0 fd2
    have f2 := fd.trans fd2 (fun _ h => by cases h)
    clear h1 fd
    generalize dw w1 = w2 at fd2 h2 f2
    clear fd2
    obtain ⟨N0, hN0⟩ : ∃ N0, mput p.now 0 p.m.page = N0 := ⟨_, rfl⟩
    rw [hN0] at k hnow0
    have h512 : ∀ x ∈ N0, 0 ≤ x.1 ∧ x.1 < 65536 ∧ x.2.length = 512 := fun x hx => by
      rw [← hN0] at hx
      rcases mput_mem hx with rfl | hx
      · exact ⟨Int.le_refl _, show (0 : Int) < 65536 by decide, Meta.page_length _⟩
      · have := hok.nk x hx
        exact ⟨by omega, by omega, this.2.2⟩
    refine held_of (fun w' => Bk w' b 193 (pgc d r md mn mi mc p)) h2.blk ?_
    refine ny_ptr ?_
    refine py_run ?_
    refine ldBy (P := P) (fun w' hS => hS.cell 5) ?_
    refine ny_ptr ?_
    refine py_run ?_
    refine ldAY (P := P) (xs := menc p.m) h2.blk (fun j hj => by match j, hj with | 0, _ => rfl | 1, _ => rfl | 2, _ => rfl | 3, _ => rfl) rfl ?_
    refine mbytes_k fun w3 hf3 => ?_
    have h3 := h2.fr0 hf3
    have f3 := f2.trans hf3 (fun _ h => by cases h)
    refine hs_of h3.blk ?_
    refine pm_put (P := P) h3.now (x := p.m.page) rfl fun w4 hN4 hf4 => ?_
    rw [hN0] at hN4
    have hb4 := h3.blk.fr hf4 (fun e => PM.ne_bk h3.now h3.blk e.symm)
    refine hs_of hb4 ?_
    refine rec_k (p := p) hb4 hN4 h512 fun vr nn w5 hvr hf5 => ?_
    simp only [g0_cons]
    have hb5 := hb4.fr0 hf5
    refine nc_ptr ?_
    refine px_run ?_
    refine ldB hb5 rfl ?_
    refine pm_del (P := P) (hN4.fr0 hf5) und_int fun w6 hN6 hf6 => ?_
    rw [hnow0] at hN6
    have f46 : Fr (fun i => i = mn) w3 w6 := (hf4.then hf5).two hf6
    have h6 := h3.setN hN6 f46
    have f6 : Fr F w w6 := (f3.mono fun _ h => h.elim).two (f46.mono fun i e => by
      have e' : i = mn := e
      rw [e']; exact h.own.2.2.2.1)
    have hvr6 := hvr.fr hf6 (fun b hb e => by
      obtain ⟨cs, hc⟩ := Own.bkk hvr hb
      have e' : b = mn := e
      rw [e'] at hc
      exact PM.ne_bk (hN4.fr0 hf5) hc rfl)
    have hrl := recOf_len N0 fun x hx => (h512 x hx).2.2
    have hN0l : N0.length ≤ 65536 := asc_len hN4.asc (m := 65536) (fun x hx => ⟨(h512 x hx).1, by have := (h512 x hx).2.1; omega⟩)
    generalize hrec : recOf N0 = l at k hvr6 hrl
    have hll : l.length ≤ 100000000 := by omega
    clear hvr hf5 hf4 hN4 hb4 hb5 f46 hN6 hf6 h3 hf3
    have hwt : p.D.waits.length ≤ 100000 := by rw [hw.waits]; simp
    refine nc_ptr ?_
    refine px_run ?_
    refine ldB h6.blk rfl ?_
    refine log_k h6 hw.alive hvr6 hll (by omega) fun w7 F7 Fd7 h7 f67 g7 hvr7 => ?_
    refine px_run ?_
    have s6 := f6.size
    have f7 := f6.two f67
    have g07 : Grows w F F7 := g7.late s6
    -- behind the append
    refine cut_of (fun vs w8 => ∃ F8, vs = [iv (p.tryLog l).2] ∧ PgM w8 b d (p.tryLog l).1 F8 ∧ Fr F w w8 ∧ Grows w F F8) (cnd_dec (fun h3 => ?_) (fun h3 => ?_)) ?_
    · have hp7 : (p.logged l).1 = p := by
        rcases Pg.logged_cases hok hw.alive l with ⟨_, e⟩ | ⟨e, _⟩ | ⟨e, _⟩
        · exact e
        · rw [e] at h3; cases h3
        · rw [e] at h3; cases h3
      rw [hp7] at h7
      unfold Pg.tryLog
      rw [if_pos h3]
      refine nc_ptr ?_
      refine px_run ?_
      refine ldB h7.blk rfl ?_
      refine top_k h7.ring ?_
      refine settle_k (base := p.R.top) ⟨r, md, mn, mi, mc, Fd7, h7⟩ hw.alive hok.R.tm hwt fun w8 F8 h8 f78 g8 => ?_
      have f8 := f7.trans f78 g07
      have g08 := g07.trans g8 f7.size
      refine px_run ?_
      refine cut_of (fun vs w9 => ∃ F9, vs = [iv (if (p.settle p.R.top).2 = 0 then (p.settle p.R.top).1.logged l else p.settle p.R.top).2] ∧ PgM w9 b d (if (p.settle p.R.top).2 = 0 then (p.settle p.R.top).1.logged l else p.settle p.R.top).1 F9 ∧ Fr F w w9 ∧ Grows w F F9) (cnd_dec (fun h5 => ?_) (fun h5 => ?_)) ?_
      · rcases Pg.settle_cases hok hw.alive hok.R.tm with ⟨e2, o2, d2, w2, s2, v2⟩ | ⟨e2, o2, d2⟩
        · rw [if_pos h5]
          obtain ⟨r', md', mn', mi', mc', Fd8, h8'⟩ := h8
          have hvr8 := hvr7.fr f78 (Own.offM hvr7 h7.mu (by decide))
          refine nc_ptr ?_
          refine px_run ?_
          refine ldB h8'.blk rfl ?_
          refine log_k h8' d2 hvr8 hll (by rw [w2]; simp) fun w9 F9 Fd9 h9 f89 g9 hvr9 => ?_
          exact ⟨F9, rfl, ⟨r', md', mn', mi', mc', Fd9, h9⟩, f8.trans f89 g08, g08.trans g9 f8.size⟩
        · rw [e2] at h5; cases h5
      · have h5' : ¬ (p.settle p.R.top).2 = 0 := h5
        rw [if_neg h5']
        exact ⟨F8, rfl, h8, f8, g08⟩
      · rintro vs w9 ⟨F9, rfl, h9, f9, g9⟩
        exact ⟨F9, rfl, h9, f9, g9⟩
    · have h3' : ¬ (p.logged l).2 = 3 := h3
      unfold Pg.tryLog
      rw [if_neg h3']
      exact ⟨F7, rfl, ⟨r, md, mn, mi, mc, Fd7, h7⟩, f7, g07⟩
    rintro vs w8 ⟨F8, rfl, h8, f8, g8⟩
    simp only [g0_cons]
    refine px_run ?_
    refine cut_of (fun vs w9 => ∃ Y e4 F9, vs = [iv e4] ∧ PgM w9 b d Y F9 ∧ Fr F w w9 ∧ Grows w F F9 ∧ ((e4 ≠ 0 ∧ Pg.finish (p.tryLog l) = (Y, e4)) ∨ (e4 = 0 ∧ Pg.finish (p.tryLog l) = (Y.closed, 0)))) (cnd_dec (fun h0 => ?_) (fun h0 => ?_)) ?_
    · have h0' : (p.tryLog l).2 = 0 := h0
      obtain ⟨ha8, hw8⟩ := tryLog_ok hok hw.alive hw.waits h0'
      obtain ⟨r', md', mn', mi', mc', Fd8, h8'⟩ := h8
      refine nc_ptr ?_
      refine px_run ?_
      refine ldB h8'.blk rfl ?_
      refine sync171_k h8' ha8 (by omega) fun w9 F9 Fd9 h9 f89 g9 => ?_
      refine ⟨_, _, F9, rfl, ⟨r', md', mn', mi', mc', Fd9, h9⟩, f8.trans f89 g8, g8.trans g9 f8.size, ?_⟩
      by_cases h5 : (p.tryLog l).1.synced.2 = 0
      · refine .inr ⟨h5, ?_⟩
        unfold Pg.finish
        rw [if_neg (by rw [h0']; simp), if_neg (by rw [h5]; simp)]
      · refine .inl ⟨h5, ?_⟩
        unfold Pg.finish
        rw [if_neg (by rw [h0']; simp), if_pos h5]
    · have h0' : ¬ (p.tryLog l).2 = 0 := h0
      refine ⟨_, _, F8, rfl, h8, f8, g8, .inl ⟨h0', ?_⟩⟩
      unfold Pg.finish
      rw [if_pos h0']
    rintro vs w9 ⟨Y, e4, F9, rfl, h9, f9, g9, hfin⟩
    simp only [g0_cons]
    refine px_run ?_
    refine cnd_dec (fun hne => ?_) (fun heq => ?_)
    · rcases hfin with ⟨_, hf⟩ | ⟨he, _⟩
      · rw [hf] at k
        exact k w9 F9 h9 f9 g9
      · exact absurd he hne
    rcases hfin with ⟨he, _⟩ | ⟨he, hf⟩
    · exact absurd he heq
    rw [hf] at k
    obtain ⟨r9, md9, mn9, mi9, mc9, Fd9, h9⟩ := h9
    refine dr_of ?_
    have fd9 := Fr.dw w9
    have h10 := h9.fr0 fd9
    have f10 := f9.then fd9
    generalize dw w9 = w10 at fd9 h10 f10
    refine ny_ptr ?_
    refine py_run ?_
    refine ldY h10.blk rfl ?_
    refine ny_ptr ?_
    refine py_run ?_
    refine ldY h10.blk rfl ?_
    refine copy172_k h10.dirty h10.now h10.ne.1 (fun x hx => (h10.ok.nk x hx).2.2) fun w11 hD11 hf11 => ?_
    refine dr_of ?_
    have fd11 := Fr.dw w11
    have fA := hf11.then fd11
    have hD12 := hD11.fr0 fd11
    generalize dw w11 = w12 at fd11 fA hD12
    have hbA := h10.blk.fr fA (fun e => PM.ne_bk h10.dirty h10.blk e.symm)
    refine held_of (fun w' => Bk w' b 193 (pgc d r9 md9 mn9 mi9 mc9 Y)) hbA ?_
    refine ny_ptr ?_
    refine py_run ?_
    refine ldBy (P := P) (fun w' hS => hS.cell 4) ?_
    refine ny_ptr ?_
    refine py_run ?_
    refine ldAY (P := P) (xs := menc Y.m) hbA (fun j hj => by match j, hj with | 0, _ => rfl | 1, _ => rfl | 2, _ => rfl | 3, _ => rfl) rfl ?_
    refine mbytes_k fun w13 hf13 => ?_
    refine hs_of (hbA.fr0 hf13) ?_
    refine pm_put (P := P) (hD12.fr0 hf13) (x := Y.m.page) rfl fun w14 hD14 hf14 => ?_
    have fB := (fA.then hf13).two hf14
    have hbB := h10.blk.fr fB (fun e => PM.ne_bk h10.dirty h10.blk e.symm)
    refine hs_of hbB ?_
    refine nc_ptr ?_
    refine px_run ?_
    refine ldA (P := P) (xs := menc Y.m) hbB (fun j hj => by match j, hj with | 0, _ => rfl | 1, _ => rfl | 2, _ => rfl | 3, _ => rfl) rfl ?_
    refine pm_make (enc := secv) fun mn' w15 hmn hN15 hf15 => ?_
    refine pm_make (enc := tru) fun mc' w16 hmc hC16 hf16 => ?_
    have f1416 := hf15.trans hf16 (fun _ h => by cases h)
    have hbC := hbB.fr0 f1416
    refine nc_ptr ?_
    refine px_run ?_
    refine stA_k (P := P) (xs := menc Y.m) hbC (fun x hx => by simp only [menc, List.mem_cons, List.not_mem_nil, or_false] at hx; rcases hx with rfl | rfl | rfl | rfl <;> exact inferInstance) rfl (by simp [pgc, menc]) fun w17 hb17 hf17 => ?_
    refine nc_ptr ?_
    refine px_run ?_
    refine stB_k hb17 (by rw [spl_length (by simp [pgc, menc])]; simp [pgc]) fun w18 hb18 hf18 => ?_
    refine nc_ptr ?_
    refine px_run ?_
    refine stB_k hb18 (by rw [List.length_set, spl_length (by simp [pgc, menc])]; simp [pgc]) fun w19 hb19 hf19 => ?_
    have fC := (hf17.two hf18).two hf19
    have hbo9 : ∀ i, F9 i → i < w10.heap.size := fun i hi => (h10.mu i hi).lt
    have s9 := f10.size
    have s14 := fB.size
    have s15 := hf15.size
    have s16 := hf16.size
    have lN := hN15.lt
    have lC := hC16.lt
    have lb := hbo9 _ h9.own.1
    have lr := hbo9 _ h9.own.2.1
    have lmd := hbo9 _ h9.own.2.2.1
    have lmi := hbo9 _ h9.own.2.2.2.2.1
    have hFd9 : ∀ i, Fd9 i → i < w10.heap.size := fun i hi => hbo9 i (h9.fd i hi)
    -- the frames of all that has been done since
    have fAll : Fr (fun i => i = md9 ∨ i = b) w10 w19 := (fB.then f1416).two' fC
    have nn : ∀ {i : Nat}, i ≠ md9 → i ≠ b → ¬ (i = md9 ∨ i = b) := fun h1 h2 => by rintro (e | e); exact h1 e; exact h2 e
    have hD19 := (hD14.fr0 f1416).fr fC (fun e => PM.ne_bk h10.dirty h10.blk e)
    have hN19 := (hN15.fr0 hf16).fr fC (fun e => by have e' : mn' = b := e; omega)
    have hC19 := hC16.fr fC (fun e => by have e' : mc' = b := e; omega)
    refine k w19 (fun i => F9 i ∨ i = mn' ∨ i = mc') ⟨r9, md9, mn', mi9, mc', Fd9, ⟨hb19, h10.disk.fr fAll (fun i hi => nn (fun e => h10.off.2.2.1 (e ▸ hi)) (fun e => h10.off.1 (e ▸ hi))),
      h10.ring.fr fAll (nn (fun e => PM.ne_bk h10.dirty h10.ring.blk e.symm) (h10.ring.blk.ne h10.blk (by decide))), hD19, hN19, h10.idle.fr fAll (nn (fun e => h10.ne.2.1 e.symm) (PM.ne_bk h10.idle h10.blk)), hC19, Pg.closed_ok h10.ok,
      fun i hi => .inl (h9.fd i hi), ⟨.inl h9.own.1, .inl h9.own.2.1, .inl h9.own.2.2.1, .inr (.inl rfl), .inl h9.own.2.2.2.2.1, .inr (.inr rfl)⟩,
      ⟨h9.off.1, h9.off.2.1, h9.off.2.2.1, fun e => by have := hFd9 _ e; omega, h9.off.2.2.2.2.1, fun e => by have := hFd9 _ e; omega⟩, ⟨by omega, h9.ne.2.1, by omega, by omega, by omega, by omega⟩, ?_⟩⟩ (f10.trans fAll (fun i hi => ?_)) (fun i hi => ?_)
    · rintro i (hi | rfl | rfl)
      · exact mu_of h10.mu fAll (fun j hj => by
          rcases hj with e | e
          · subst e; exact PM.mu hD19
          · subst e; exact .inl ⟨_, _, hb19, by simp⟩) i hi
      · exact PM.mu hN19
      · exact PM.mu hC19
    · rcases hi with e | e
      · rw [e]; exact g9 _ h9.own.2.2.1
      · rw [e]; exact g9 _ h9.own.1
    · rcases hi with hi | e | e
      · exact g9 i hi
      · exact .inr (by omega)
      · exact .inr (by omega)
end
end Go.Proofs.YtomggfibpbaodaaGreatDoor
