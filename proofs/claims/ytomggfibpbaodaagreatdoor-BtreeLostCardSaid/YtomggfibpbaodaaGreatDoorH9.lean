/-
  The pager: a new one.
-/
import Derived.Test.YtomggfibpbaodaaGreatDoorH8
set_option maxRecDepth 100000
namespace Go.Proofs.YtomggfibpbaodaaGreatDoor
open Go.V

section
variable {w w1 : World} {d : Nat} {F : Nat → Prop} {K : Value → World → Prop} {D : Disk}
theorem equal_k {a b : Value} {l m : List UInt8} (ha : Sl w a 1 l.length (bs l)) (hb : Sl w b 1 m.length (bs m)) (k : K (.bool (decide (l = m))) w) : cl P 141 #[a, b] w K := by
  apply c141
  unfold F141
  refine convS_k (P := P) ha ?_
  refine convS_k (P := P) hb ?_
  refine px_run ?_
  exact k
def Pg.fresh (D : Disk) : Pg := { Pg.made D with D := D.formatted.1, R := (Ring.open D.formatted.1 1 (places D) 0).1, kept := ⟨0, 1, 0, 0⟩, m := ⟨0, 1, 0, 0⟩ }

theorem repz (n : Nat) : (List.replicate n [Value.int .u8 0]).flatten = bs (zs n) := by
  induction n with
  | zero => rfl
  | succ n ih => rw [List.replicate_succ, List.flatten_cons, ih]; rfl
theorem build188_1 {w : World} {b : Int} : (Instr.build 188 #[(1, iv b)]).run P w = .ok (.agg [iv 0, iv b, iv 0, iv 0].toArray) w := by
  refine build_run (P := P) (t := 188) (parts := [(1, iv b)]) (z := [.int .i64 0, .int .i64 0, .int .i64 0, .int .i64 0]) ?_
  rw [fill_cons (xs := [iv b]) (off := 1) (size := 1) rfl rfl rfl (by simp), fill_nil]
  rfl
theorem format_k (h : DiskP w d D F) (hm : ∀ i, F i → Mut w i) (hw : D.waits.length ≤ 100000) (hdd : D.dead = false) (h64 : 64 ≤ D.lasts.length) (hz : ∀ i, i < places D → D.at (1 + i) = zs 512) (hf : D.formatted.2 = 0)
    (k1 : ∀ b w1 F', PgM w1 b d (Pg.fresh D) F' → Fr F w w1 → Grows w F F' → K (.tuple #[pt b, iv 0]) w1) : cl P 76 #[pt d] w K := by
  have hwf : D.WF := let ⟨_, _, _, _, _, h⟩ := h; h.wf
  have hmost := hwf.most
  have hp5 : places D = D.lasts.length / 4 := rfl
  have hFlt : ∀ i, F i → i < w.heap.size := fun i hi => (hm i hi).lt
  have z512 := zs_length 512
  have tr : ∀ {x y z : World}, Fr no x y → Fr no y z → Fr no x z := fun h k => h.trans k (fun _ h => by cases h)
  -- what the disk's writes come to
  have hmp := Meta.page_length ⟨0, 1, 0, 0⟩
  obtain ⟨X, hX⟩ : ∃ X, D.write (1 + places D) (Meta.page ⟨0, 1, 0, 0⟩) = X := ⟨_, rfl⟩
  have hwc := Disk.write_cases hwf hdd (i := 1 + (places D : Int)) (s := Meta.page ⟨0, 1, 0, 0⟩) (by omega) (by omega) hmp
  rw [hX] at hwc
  have hfo : D.formatted = if X.2 ≠ 0 then X else (if X.1.flush.2 ≠ 0 then X.1.flush else X.1.flush.1.head 0) := by unfold Disk.formatted; rw [hX]
  have hX0 : X.2 = 0 := by
    by_cases h : X.2 = 0
    · exact h
    · rw [hfo, if_pos h] at hf; exact hf
  rw [if_neg (by rw [hX0]; simp)] at hfo
  have hY0 : X.1.flush.2 = 0 := by
    by_cases h : X.1.flush.2 = 0
    · exact h
    · rw [hfo, if_pos h] at hf; exact hf
  rw [if_neg (by rw [hY0]; simp)] at hfo
  have hZ0 : (X.1.flush.1.head 0).2 = 0 := by rw [← hfo]; exact hf
  obtain ⟨_, dX, kX, wX, aX⟩ := hwc.resolve_right (fun h => by rw [h.1] at hX0; cases hX0)
  have hYc := Disk.flush_cases kX.wf dX
  obtain ⟨_, dY, kY, wY, aY⟩ := hYc.resolve_right (fun h => by rw [h.1] at hY0; cases hY0)
  have hZc := Disk.head_cases kY.wf dY 0
  obtain ⟨_, dZ, kZ, wZ, aZ⟩ := hZc.resolve_right (fun h => by rw [h.1] at hZ0; cases hZ0)
  have hkin := (kX.trans kY).trans kZ
  have hfo1 : D.formatted.1 = (X.1.flush.1.head 0).1 := by rw [hfo]
  apply c76
  unfold F76
  refine px_run ?_
  refine cnd_false ?_
  refine dlen_k h ?_
  refine px_run ?_
  refine cnd_dec (fun hc => absurd hc (by omega)) (fun _ => ?_)
  refine made_k h fun b md mn mi mc w1 hb hMd hMn hMi hMc hf1 hne => ?_
  obtain ⟨n1, n2, n3, n4, n5⟩ := hne
  have h1 := h.fr0 hf1
  refine places_k h1 ?_
  -- the sectors of the log are empty
  refine lp_of (fun vs w2 => ∃ i : Nat, vs = [iv i] ∧ i ≤ places D ∧ Fr no w1 w2) (fun vs _ => (match vs with | [.int _ m] => ((places D : Int) - m).toNat | _ => 0)) ⟨0, rfl, by omega, Fr.refl _ _⟩ ?_
  rintro vs w2 ⟨i, rfl, hi, f12⟩
  simp only [g0_cons]
  have f2 := tr hf1 f12
  have h2 := h.fr0 f2
  refine px_run ?_
  refine cnd_dec (fun hlt => ?_) (fun hge => ?_)
  · haveI : Fits .i64 ((1 : Int) + (i : Int)) := fits_i64 (by omega) (by omega)
    refine px_run ?_
    refine dread_k h2 (fun hd => by rw [hdd] at hd; cases hd) (fun _ hr => absurd hr (by omega)) (fun _ j hj hjl v w3 hv hf3 hnv => ?_)
    have hji : j = 1 + i := by omega
    rw [hji, hz i (by omega)] at hv
    obtain ⟨av, cv', rfl⟩ := Own.atom hv
    refine px_run ?_
    refine px_run ?_
    refine px_run ?_
    refine cnd_false ?_
    refine px_run ?_
    refine make_k (P := P) (by' := 1) (z := [.int .u8 0]) rfl (by omega) (by unfold maxLen; omega) fun b4 w4 hb4e ho4 hf4 => ?_
    rw [repz] at ho4
    refine equal_k (l := zs 512) (m := zs 512) (by rw [z512]; exact hv.sl.fr0 hf4) (by rw [z512]; exact ho4.sl) ?_
    rw [decide_eq_true rfl]
    refine px_run ?_
    refine cut_of (fun _ w5 => w5 = w4) (cnd_false rfl) ?_
    rintro _ w5 rfl
    haveI : Fits .i64 ((i : Int) + 1) := fits_i64 (by omega) (by omega)
    refine px_run ?_
    exact ⟨⟨i + 1, rfl, by omega, tr f12 (tr hf3 hf4)⟩, show ((places D : Int) - ((i : Int) + 1)).toNat < ((places D : Int) - (i : Int)).toNat by omega⟩
  -- the page 0 and the head
  have hb2 := hb.fr0 f12
  refine px_of build188_1 ?_
  refine nc_ptr ?_
  refine px_run ?_
  have atm : Atoms (menc ⟨0, 1, 0, 0⟩) := fun x hx => by simp only [menc, List.mem_cons, List.not_mem_nil, or_false] at hx; rcases hx with rfl | rfl | rfl | rfl <;> exact inferInstance
  refine stA_k (P := P) (xs := menc ⟨0, 1, 0, 0⟩) hb2 atm rfl (by simp [pgcR, menc]) fun w3 hb3 hf3 => ?_
  refine nc_ptr ?_
  refine px_run ?_
  refine ldA (P := P) (xs := menc ⟨0, 1, 0, 0⟩) hb3 (fun j hj => by match j, hj with | 0, _ => rfl | 1, _ => rfl | 2, _ => rfl | 3, _ => rfl) rfl ?_
  refine nc_ptr ?_
  refine px_run ?_
  refine stA_k (P := P) (xs := menc ⟨0, 1, 0, 0⟩) hb3 atm rfl (by rw [spl_length (by simp [pgcR, menc])]; simp [pgcR, menc]) fun w4 hb4 hf4 => ?_
  refine nc_ptr ?_
  refine px_run ?_
  have hb4' : Bk w4 b 193 (pgcR (.pointer none) d md mn mi mc { Pg.made D with kept := ⟨0, 1, 0, 0⟩, m := ⟨0, 1, 0, 0⟩ }) := hb4
  refine ldA (P := P) (xs := menc ⟨0, 1, 0, 0⟩) hb4' (fun j hj => by match j, hj with | 0, _ => rfl | 1, _ => rfl | 2, _ => rfl | 3, _ => rfl) rfl ?_
  refine mbytes_k fun w5 hf5 => ?_
  refine alloc_k (P := P) (z := zeros 512) fun b9 w6 hb9e hb9 hf6 => ?_
  rw [zeros_bs] at hb9
  refine stA0_k hb9 (atoms_bs _) (by rw [bs_length]; exact hmp) (by rw [bs_length, z512]) fun w7 hb97 hf7 => ?_
  have lb := hb2.lt
  have s1 := hf1.size
  have s12 := f12.size
  have s5 := hf5.size
  have f34 := hf3.two hf4
  have s34 := f34.size
  have lMc := hMc.lt
  have lb1 := hb.lt
  have f24 : Fr no w w4 := f2.new f34 (fun i e => by have e' : i = b := e; omega)
  have f47 : Fr no w4 w7 := (tr hf5 hf6).new hf7 (fun i hi => by omega)
  refine dr_of ?_
  have fd := Fr.dw w7
  have f48 := tr f47 fd
  have f8 := tr f24 f48
  have hb98 := hb97.fr0 fd
  have hb8 := hb4'.fr0 f48
  have h8 := h.fr0 f8
  generalize dw w7 = w8 at fd f48 f8 hb98 hb8 h8
  refine ny_ptr ?_
  refine py_run ?_
  refine ldY hb8 rfl ?_
  refine py_run ?_
  have hsx : Sl w8 (.slice (some ⟨b9, 0, none⟩) 512 512) 1 (Meta.page ⟨0, 1, 0, 0⟩).length (bs (Meta.page ⟨0, 1, 0, 0⟩)) := by
    rw [hmp]
    exact hb98.sl (fun j hj => by rw [Nat.zero_add]) (by rw [bs_length]; exact hmp) (Nat.le_refl _)
  have s24 := f24.size
  refine dwrite_k h8 (by omega) hsx (fun b' hb' e => by
    have e' : b9 = b' := Option.some.inj hb'
    have := hFlt b' e
    omega) fun w9 F2 hd9 hf9 hg9 => ?_
  have ewr : D.write (Pg.made D).first (Meta.page ⟨0, 1, 0, 0⟩) = X := hX
  have ewr2 : D.write ({ Pg.made D with kept := ⟨0, 1, 0, 0⟩, m := ⟨0, 1, 0, 0⟩ } : Pg).first (Meta.page ⟨0, 1, 0, 0⟩) = X := hX
  rw [ewr2] at hd9 ⊢
  refine px_run ?_
  refine cnd_dec (fun hne => absurd hX0 hne) (fun _ => ?_)
  refine dflush_k hd9 (by rw [wX]; omega) fun w10 F3 hd10 hf10 hg10 => ?_
  refine px_run ?_
  refine cnd_dec (fun hne => absurd hY0 hne) (fun _ => ?_)
  refine head_k (base := 0) hd10.cut (fun i hi => hi.2) (by rw [wY]; simp) fun w11 F4 hd11 hm11 hf11 hg11 => ?_
  refine px_run ?_
  refine cnd_dec (fun hne => absurd hZ0 hne) (fun _ => ?_)
  rw [← hfo1] at hd11
  have hkinf : D.Kin D.formatted.1 := by rw [hfo1]; exact hkin
  have hdf : D.formatted.1.dead = false := by rw [hfo1]; exact dZ
  have hwtf : D.formatted.1.waits = [] := by rw [hfo1]; exact wZ
  have hg11' : Grows w10 F3 F4 := fun i hi => by
    rcases hg11 i hi with h | h
    · exact .inl h.1
    · exact .inr h
  have f911 : Fr F w8 w11 := (hf9.trans hf10 hg9).trans (hf11.mono fun i hi => hi.1) (fun i hi => (hg9.trans hg10 hf9.size) i hi)
  have g11 : Grows w8 F F4 := (hg9.trans hg10 hf9.size).trans hg11' (hf9.trans hf10 hg9).size
  have hpl : places D.formatted.1 = places D := by unfold places; rw [hkinf.len]
  refine places_k hd11 ?_
  refine ropen_k (first := 1) (count := places D.formatted.1) (base := 0) hd11 (fun i hi => (hm11 i hi).lt) (by omega) (by rw [hpl, hkinf.len]; omega) (by omega) (fun hbad => absurd hbad (by omega)) (fun _ hd' => by rw [hdf] at hd'; cases hd') fun _ _ r vo vs w12 hR12 hrecs hf12 hr12 => ?_
  refine px_run ?_
  refine px_run ?_
  refine px_run ?_
  refine px_run ?_
  refine cnd_false ?_
  refine nc_ptr ?_
  refine px_run ?_
  have f812 : Fr F w8 w12 := f911.then hf12
  have nF : ∀ i, w.heap.size ≤ i → ¬ F i := fun i hi e => by have := hFlt i e; omega
  have hb12 := hb8.fr f812 (nF b (by omega))
  refine stB_k hb12 (by simp [pgcR]) fun w13 hb13 hf13 => ?_
  have s8 := f8.size
  have s911 := f911.size
  have s12b := hf12.size
  have f1w4 : Fr (fun i => i = b) w1 w4 := (f12.of f34)
  have f1w13 : Fr (fun i => i = b ∨ F i) w1 w13 := ((f1w4.then f48).two' f812).trans hf13 (fun i e => .inl (.inl e))
  have nn : ∀ {i : Nat}, i ≠ b → w.heap.size ≤ i → ¬ (i = b ∨ F i) := fun h1 h2 => by rintro (e | e); exact h1 e; exact nF _ h2 e
  have hMd13 := hMd.fr f1w13 (nn (by omega) (by omega))
  have hMn13 := hMn.fr f1w13 (nn (by omega) (by omega))
  have hMi13 := hMi.fr f1w13 (nn (by omega) (by omega))
  have hMc13 := hMc.fr f1w13 (nn (by omega) (by omega))
  have hF4lt : ∀ i, F4 i → i < w11.heap.size := fun i hi => (hm11 i hi).lt
  have nF4 : ∀ i, w.heap.size ≤ i → i < w8.heap.size → ¬ F4 i := fun i h1 h2 e => by
    rcases g11 i e with h | h
    · exact nF i h1 h
    · omega
  have lR := hR12.blk.lt
  have s48 := f48.size
  have hrb : r ≠ b := hR12.blk.ne hb12 (by decide)
  have hd13 := (hd11.fr0 hf12).fr hf13 (fun i hi e => nF4 b (by omega) (by omega) (by have e' : i = b := e; rw [← e']; exact hi))
  have hR13 := hR12.fr hf13 (fun e => hrb e)
  have hXwf := Ring.open_wf (D := D.formatted.1) (first := 1) (count := places D.formatted.1) (base := 0) (by omega) (by omega) (by omega)
  have hpg : (Pg.fresh D).Ok := by
    refine ⟨hkinf.wf, ?_, ?_, ?_, ?_, rfl, ?_, fun _ hx => (by cases hx), fun _ hx => (by cases hx), .nil, .nil, .nil, rfl⟩
    · show (Ring.open D.formatted.1 1 (places D) 0).1.WF
      rw [← hpl]; exact hXwf
    · show (1 : Int) + places D = 1 + places D.formatted.1
      rw [hpl]
    · show (D.lasts.length : Int) - 1 - places D = (D.formatted.1.lasts.length : Int) - 1 - places D.formatted.1
      rw [hpl, hkinf.len]
    · show 64 ≤ D.formatted.1.lasts.length
      rw [hkinf.len]; exact h64
    · show places D = places D.formatted.1
      rw [hpl]
  rw [hpl] at hR13
  have fw13 : Fr F w w13 := (f8.of f812).trans hf13 (fun i e => .inr (by have e' : i = b := e; omega))
  refine k1 b w13 (fun i => F4 i ∨ i = b ∨ i = r ∨ i = md ∨ i = mn ∨ i = mi ∨ i = mc) ⟨r, md, mn, mi, mc, F4, hb13, hd13, hR13, hMd13, hMn13, hMi13, hMc13, hpg, fun i hi => .inl hi,
    ⟨.inr (.inl rfl), .inr (.inr (.inl rfl)), .inr (.inr (.inr (.inl rfl))), .inr (.inr (.inr (.inr (.inl rfl)))), .inr (.inr (.inr (.inr (.inr (.inl rfl))))), .inr (.inr (.inr (.inr (.inr (.inr rfl)))))⟩,
    ⟨nF4 b (by omega) (by omega), fun e => by have := hF4lt r e; omega, nF4 md (by omega) (by omega), nF4 mn (by omega) (by omega), nF4 mi (by omega) (by omega), nF4 mc (by omega) (by omega)⟩,
    ⟨by omega, by omega, by omega, by omega, by omega, by omega⟩, ?_⟩ fw13 (fun i hi => ?_)
  · rintro i (hi | rfl | rfl | rfl | rfl | rfl | rfl)
    · exact ((hm11 i hi).fr0 hf12).fr hf13 (fun e => nF4 b (by omega) (by omega) (by have e' : i = b := e; rw [← e']; exact hi))
    · exact .inl ⟨_, _, hb13, by simp⟩
    · exact .inl ⟨_, _, hR13.blk, by simp⟩
    · exact PM.mu hMd13
    · exact PM.mu hMn13
    · exact PM.mu hMi13
    · exact PM.mu hMc13
  · rcases hi with h | h | h | h | h | h | h
    · rcases g11 i h with h' | h'
      · exact .inl h'
      · exact .inr (by omega)
    all_goals exact .inr (by omega)
end
end Go.Proofs.YtomggfibpbaodaaGreatDoor
