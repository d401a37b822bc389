/-
  The pager: its head, settling.
-/
import Derived.Test.YtomggfibpbaodaaGreatDoorH3
import Derived.Test.YtomggfibpbaodaaGreatDoorX
set_option maxRecDepth 100000
namespace Go.Proofs.YtomggfibpbaodaaGreatDoor
open Go.V

theorem markv : Value.string ⟨#[98, 117, 116, 116, 101, 114, 121, 49]⟩ = sv mark := rfl
section
variable {w w1 : World} {b d r md mn mi mc : Nat} {p : Pg} {F Fd : Nat → Prop} {K : Value → World → Prop}
theorem head_k {D : Disk} {base : Int} (h : DiskP w d D F) (hm : ∀ i, F i → Mut w i) (hw : D.waits.length ≤ 1000000)
    (k : ∀ w1 F', DiskP w1 d (D.head base).1 F' → (∀ i, F' i → Mut w1 i) → Fr F w w1 → Grows w F F' → K (iv (D.head base).2) w1) : cl P 145 #[pt d, iv base] w K := by
  have z512 := zs_length 512
  apply c145
  unfold F145
  refine alloc_k (P := P) (z := zeros 512) fun b5 w1 hb5e hb5 hf1 => ?_
  rw [zeros_bs] at hb5
  refine px_run ?_
  rw [markv]
  refine copyS_k (P := P) hb5 (by rw [bs_length, z512]; simp [mark]) fun w2 hb2 hf2 => ?_
  have e8 : mark.take (Nat.min mark.length 512) = mark := rfl
  rw [e8, bs_spl, List.take_zero, List.nil_append, zs_drop] at hb2
  refine px_of (sliceArr2_run (n := 512) (i := 8) (j := 16) rfl rfl (by omega) (by omega) (by omega)) ?_
  rw [Nat.zero_add]
  refine put_k (k := 8) hb2 (by rw [List.length_append, zs_length]; simp [mark]) (by omega) (by omega) fun w3 hb3 hf3 => ?_
  have hsec : (mark ++ zs (512 - (0 + mark.length))).take 8 ++ be 8 base ++ (mark ++ zs (512 - (0 + mark.length))).drop (8 + 8) = mark ++ be 8 base ++ zs 496 := by
    rw [take_of_append mark_length, ← List.drop_drop, drop_of_append mark_length, mark_length, zs_drop]
  rw [hsec] at hb3
  have hsl : (mark ++ be 8 base ++ zs 496).length = 512 := by rw [List.length_append, List.length_append, be_length, zs_length, mark_length]
  have f3 : Fr no w w3 := (hf1.new hf2 (fun i hi => by omega)).new hf3 (fun i hi => by omega)
  refine px_run ?_
  have hsx : Sl w3 (.slice (some ⟨b5, 0, none⟩) 512 512) 1 (mark ++ be 8 base ++ zs 496).length (bs (mark ++ be 8 base ++ zs 496)) := by
    rw [hsl]
    exact hb3.sl (fun j hj => by rw [Nat.zero_add]) (by rw [bs_length]; exact hsl) (Nat.le_refl _)
  unfold Disk.head at k
  have hww := Disk.write_waits D 0 (mark ++ be 8 base ++ zs 496)
  refine dwrite_k (h.fr0 f3) (by omega) hsx (fun b hb e => by
    have hb' : b5 = b := Option.some.inj hb
    have := (hm b e).lt
    omega) fun w4 F' hd4 hf4 hg4 => ?_
  have s3 := f3.size
  have f4 : Fr F w w4 := f3.of hf4
  have hg : Grows w F F' := hg4.late s3
  refine px_run ?_
  refine cnd_dec (fun hne => ?_) (fun heq => ?_)
  · simp only at k
    rw [if_pos hne] at k
    exact k w4 _ hd4.cut (fun b hb => hb.2) f4 (hg.sub fun j hj => hj.1)
  · simp only at k
    rw [if_neg heq] at k
    refine dflush_k hd4 (by omega) fun w5 F'' hd5 hf5 hg5 => ?_
    exact k w5 _ hd5.cut (fun b hb => hb.2) (f4.trans hf5 hg) ((hg.trans hg5 f4.size).sub fun j hj => hj.1)
theorem places_k {D : Disk} (h : DiskP w d D F) (k : K (iv (places D)) w) : cl P 108 #[pt d] w K := by
  apply c108
  unfold F108
  refine dlen_k h ?_
  have e : ((D.lasts.length : Int)).tdiv 4 = (places D : Int) := rfl
  have h1 : D.lasts.length ≤ 65536 := (let ⟨_, _, _, _, _, h⟩ := h; h.wf.most)
  have h2 := places_le D
  refine px_of (quo_run (by omega) (by rw [e]; omega) (by rw [e]; omega)) ?_
  rw [e]
  exact k
theorem lays_waits (first : Int) : ∀ (l : List (Int × Sec)) (D : Disk), (Disk.lays first l D).1.waits.length ≤ D.waits.length + l.length
  | [], D => Nat.le_refl _
  | (n, s) :: l, D => by
    have h1 := Disk.write_waits D (w64 (first + n)) s
    have h2 := lays_waits first l (D.write (w64 (first + n)) s).1
    unfold Disk.lays
    simp only
    split
    · simp only [List.length_cons]; omega
    · simp only [List.length_cons]; omega
theorem asc_len {α : Type} {l : List (Int × α)} (h : Asc l) {m : Nat} (hb : ∀ x ∈ l, 0 ≤ x.1 ∧ x.1 < m) : l.length ≤ m := by
  have hn : (l.map (·.1)).Nodup := by
    rw [List.nodup_iff_pairwise_ne, List.pairwise_map]
    exact h.imp fun hab => by omega
  have := length_le_sub (r := (List.range m).map fun (i : Nat) => (i : Int)) hn fun a ha => by
    obtain ⟨x, hx, rfl⟩ := List.mem_map.1 ha
    have := hb x hx
    exact List.mem_map.2 ⟨x.1.toNat, List.mem_range.2 (by omega), by omega⟩
  simpa using this

/-- The disk alone has turned. -/
theorem PgR.setD (h : PgR w b d r md mn mi mc p F Fd) {D : Disk} {Fd' : Nat → Prop} (hd : DiskP w1 d D Fd') (hm : ∀ i, Fd' i → Mut w1 i) (f : Fr Fd w w1) (g : Grows w Fd Fd') (ho : ({ p with D := D } : Pg).Ok) :
    PgR w1 b d r md mn mi mc { p with D := D } (fun i => (F i ∧ ¬ Fd i) ∨ Fd' i) Fd' := by
  have hlt : ∀ i, F i → i < w.heap.size := fun i hi => (h.mu i hi).lt
  have nf : ∀ i, F i → ¬ Fd i → ¬ Fd' i := fun i hi hn e => by
    rcases g i e with h' | h'
    · exact hn h'
    · have := hlt i hi; omega
  refine ⟨h.blk.fr f h.off.1, hd, h.ring.fr f h.off.2.1, h.dirty.fr f h.off.2.2.1, h.now.fr f h.off.2.2.2.1, h.idle.fr f h.off.2.2.2.2.1, h.count.fr f h.off.2.2.2.2.2, ho, fun i hi => .inr hi,
    ⟨.inl ⟨h.own.1, h.off.1⟩, .inl ⟨h.own.2.1, h.off.2.1⟩, .inl ⟨h.own.2.2.1, h.off.2.2.1⟩, .inl ⟨h.own.2.2.2.1, h.off.2.2.2.1⟩, .inl ⟨h.own.2.2.2.2.1, h.off.2.2.2.2.1⟩, .inl ⟨h.own.2.2.2.2.2, h.off.2.2.2.2.2⟩⟩,
    ⟨nf _ h.own.1 h.off.1, nf _ h.own.2.1 h.off.2.1, nf _ h.own.2.2.1 h.off.2.2.1, nf _ h.own.2.2.2.1 h.off.2.2.2.1, nf _ h.own.2.2.2.2.1 h.off.2.2.2.2.1, nf _ h.own.2.2.2.2.2 h.off.2.2.2.2.2⟩, h.ne, ?_⟩
  rintro i (⟨hi, hfi⟩ | hi)
  · rcases h.mu i hi with ⟨t, cs, hb, ht⟩ | ⟨es, h'⟩
    · exact .inl ⟨t, cs, hb.fr f hfi, ht⟩
    · exact .inr ⟨es, h'.fr f hfi⟩
  · exact hm i hi

theorem PgR.sub (h : PgR w b d r md mn mi mc p F Fd) {G : Nat → Prop} (hg : ∀ i, G i → F i) (hfd : ∀ i, Fd i → G i) (own : G b ∧ G r ∧ G md ∧ G mn ∧ G mi ∧ G mc) : PgR w b d r md mn mi mc p G Fd :=
  ⟨h.blk, h.disk, h.ring, h.dirty, h.now, h.idle, h.count, h.ok, hfd, own, h.off, h.ne, fun i hi => h.mu i (hg i hi)⟩
theorem Grows.setD {F2 : Nat → Prop} (hfd : ∀ i, Fd i → F i) (g : Grows w Fd F2) : Grows w F (fun i => (F i ∧ ¬ Fd i) ∨ F2 i) := fun i hi => by
  rcases hi with hi | hi
  · exact .inl hi.1
  · rcases g i hi with h | h
    · exact .inl (hfd i h)
    · exact .inr h
theorem settle_k {base : Nat} (h : PgM w b d p F) (ha : p.D.dead = false) (hb : base ≤ 4611686018427387904) (hw : p.D.waits.length ≤ 100000)
    (k : ∀ w1 F', PgM w1 b d (p.settle base).1 F' → Fr F w w1 → Grows w F F' → K (iv (p.settle base).2) w1) : cl P 110 #[pt b, iv base] w K := by
  obtain ⟨r, md, mn, mi, mc, Fd, h⟩ := h
  have hok := h.ok
  have hs := hok.small
  have z512 := zs_length 512
  have hbo : ∀ i, F i → i < w.heap.size := fun i hi => (h.mu i hi).lt
  have hdb : ∀ x ∈ p.dirty, 0 ≤ x.1 ∧ x.1 < 65536 := fun x hx => ⟨(hok.dk x hx).1, by have := (hok.dk x hx).2.1; omega⟩
  have hdl : p.dirty.length ≤ 65536 := asc_len hok.da (m := 65536) (fun x hx => ⟨(hdb x hx).1, by have := (hdb x hx).2; omega⟩)
  apply c110
  unfold F110
  refine nc_ptr ?_
  refine px_run ?_
  refine ldB h.blk rfl ?_
  refine keys166_k fun bx w1 hbx hbb hf1 => ?_
  have h1 := h.fr0 hf1
  refine sorted_k h1.dirty hbb hdb (by omega) fun v w2 hv hf2 => ?_
  have f2 := hf1.trans hf2 (fun _ h => by cases h)
  have h2 := h.fr0 f2
  obtain ⟨av, cv', rfl⟩ := Own.atom hv
  refine px_run ?_
  obtain ⟨X, hX⟩ : ∃ X, Disk.lays p.first p.dirty p.D = X := ⟨_, rfl⟩
  have hlw := lays_waits p.first p.dirty p.D
  have hset : p.settle base = (let x := X
      if x.2 ≠ 0 then ({ p with D := x.1 }, x.2) else
      let y := x.1.flush
      if y.2 ≠ 0 then ({ p with D := y.1 }, y.2) else
      let z := y.1.head base
      if z.2 ≠ 0 then ({ p with D := z.1 }, z.2) else
      ({ p with D := z.1, R := (Ring.open z.1 1 (places z.1) base).1, dirty := [] }, 0)) := by unfold Pg.settle; rw [hX]
  simp only at hset
  rw [hset] at k
  rw [hX] at hlw
  have s2 := f2.size
  refine lp_of (fun vs w' => ∃ (i : Nat) (D : Disk) (Fd' : Nat → Prop), vs = [iv i] ∧ i ≤ p.dirty.length ∧ Disk.lays p.first (p.dirty.drop i) D = X ∧ p.D.Kin D ∧ D.dead = false ∧ D.waits.length ≤ p.D.waits.length + i ∧
      PgR w' b d r md mn mi mc { p with D := D } (fun i => (F i ∧ ¬ Fd i) ∨ Fd' i) Fd' ∧ Fr F w w' ∧ Grows w Fd Fd' ∧ Own w' (.slice av p.dirty.length cv') 3 1 p.dirty.length (p.dirty.map fun x => iv x.1))
    (fun vs _ => (match vs with | [.int _ m] => ((p.dirty.length : Int) - m).toNat | _ => 0))
    ⟨0, p.D, Fd, rfl, by omega, hX, ⟨hok.D, rfl⟩, ha, by omega, h2.setD (Fd' := Fd) h2.disk (fun i hi => h2.mu i (h2.fd i hi)) (Fr.refl _ _) (Grows.refl _ _) hok, f2.mono fun _ h => h.elim, Grows.refl _ _, hv⟩ ?_
  rintro vs w3 ⟨i, D, Fd', rfl, hi, hla, hkin, hal, hwl, hR3, f3, g3, hv3⟩
  simp only [g0_cons]
  have s3 := f3.size
  have hFg : ∀ {wx : World} {F2 : Nat → Prop}, Grows w Fd F2 → Grows w F (fun i => (F i ∧ ¬ Fd i) ∨ F2 i) := fun g => Grows.setD h.fd g
  refine px_run ?_
  refine cnd_dec (fun hlt => ?_) (fun hge => ?_)
  · have hi' : i < p.dirty.length := by omega
    have hmem := List.getElem_mem hi'
    have hx := hok.dk _ hmem
    refine idx_s (P := P) hv3.sl (by omega) i rfl hi' fun b' o _ hc => ?_
    have h0 := hc 0 (by omega)
    rw [Nat.mul_one, Nat.add_zero, Nat.add_zero, List.getElem?_map, List.getElem?_eq_getElem hi'] at h0
    refine ld1 (P := P) h0 ?_
    rw [List.drop_eq_getElem_cons hi'] at hla
    generalize hpi : p.dirty[i] = pi at hmem hx hla
    obtain ⟨n, s⟩ := pi
    simp only at hx hla ⊢
    unfold Disk.lays at hla
    simp only at hla
    refine nc_ptr ?_
    refine px_run ?_
    refine ldB hR3.blk rfl ?_
    refine pm_get1 (P := P) hR3.dirty ?_
    have hmg : mget ({ p with D := D } : Pg).dirty n = some s := mget_of_mem hok.da hmem
    rw [hmg]
    simp only [Option.map_some, Option.getD_some, secv]
    refine alloc_k (P := P) (z := zeros 512) fun b7 w4 hb7e hb7 hf4 => ?_
    rw [zeros_bs] at hb7
    refine stA0_k hb7 (atoms_bs _) (by rw [bs_length]; exact hx.2.2) (by rw [bs_length, z512]) fun w5 hb75 hf5 => ?_
    have f35 : Fr no w3 w5 := hf4.new hf5 (fun i hi => by omega)
    refine dr_of ?_
    have fd := Fr.dw w5
    have f36 := f35.trans fd (fun _ h => by cases h)
    have hR6 := hR3.fr0 f36
    have hb76 := hb75.fr0 fd
    have hv6 := hv3.fr0 f36
    generalize dw w5 = w6 at fd f36 hR6 hb76 hv6
    refine ny_ptr ?_
    refine py_run ?_
    refine ldY hR6.blk rfl ?_
    refine ny_ptr ?_
    refine py_run ?_
    refine ldY hR6.blk rfl ?_
    haveI : Fits .i64 (p.first + n) := fits_i64 (by omega) (by omega)
    refine py_run ?_
    refine py_run ?_
    have hsx : Sl w6 (.slice (some ⟨b7, 0, none⟩) 512 512) 1 s.length (bs s) := by
      rw [hx.2.2]
      exact hb76.sl (fun j hj => by rw [Nat.zero_add]) (by rw [bs_length]; exact hx.2.2) (Nat.le_refl _)
    rw [w64_id (by omega) (by omega)] at hla
    have hb7n : ¬ Fd' b7 := fun e => by
      have := (hR3.mu b7 (.inr e)).lt
      omega
    refine dwrite_k hR6.disk (by show D.waits.length < _; omega) hsx (fun b hb e => by
      have hb' : b7 = b := Option.some.inj hb
      exact hb7n (hb' ▸ e)) fun w7 Fd2 hd7 hf7 hg7 => ?_
    have hd7' := hd7.cut
    have hg7' : Grows w6 Fd' (fun i => Fd2 i ∧ Mut w7 i) := hg7.sub fun j hj => hj.1
    have hwc := Disk.write_cases (D := D) hkin.wf hal (i := p.first + n) (s := s) (by omega) (by rw [hkin.len]; omega) hx.2.2
    have hk2 : D.Kin (D.write (p.first + n) s).1 := by rcases hwc with h | h; exact h.2.2.1; exact h.2.kin
    have ho7 : ({ p with D := (D.write (p.first + n) s).1 } : Pg).Ok := hok.setD (hkin.trans hk2)
    have hR7 := hR6.setD hd7' (fun i hi => hi.2) hf7 hg7' ho7
    have s36 := f36.size
    have g7 : Grows w Fd (fun i => Fd2 i ∧ Mut w7 i) := g3.trans (hg7'.late s36) f3.size
    have f7 : Fr F w w7 := (f3.then f36).trans hf7 (fun i hi => by
      rcases g3 i hi with h' | h'
      · exact .inl (h.fd i h')
      · exact .inr h')
    have hR7' : PgR w7 b d r md mn mi mc { p with D := (D.write (p.first + n) s).1 } (fun i => (F i ∧ ¬ Fd i) ∨ (Fd2 i ∧ Mut w7 i)) (fun i => Fd2 i ∧ Mut w7 i) := by
      refine hR7.sub (fun i hi => ?_) (fun i hi => .inr hi) ⟨.inl ⟨h.own.1, h.off.1⟩, .inl ⟨h.own.2.1, h.off.2.1⟩, .inl ⟨h.own.2.2.1, h.off.2.2.1⟩, .inl ⟨h.own.2.2.2.1, h.off.2.2.2.1⟩, .inl ⟨h.own.2.2.2.2.1, h.off.2.2.2.2.1⟩, .inl ⟨h.own.2.2.2.2.2, h.off.2.2.2.2.2⟩⟩
      rcases hi with ⟨h1, h2⟩ | hi
      · refine .inl ⟨.inl ⟨h1, h2⟩, fun e => ?_⟩
        rcases g3 i e with h' | h'
        · exact h2 h'
        · have := hbo i h1; omega
      · exact .inr hi
    refine px_run ?_
    refine cnd_dec (fun hne => ?_) (fun heq => ?_)
    · rw [if_pos hne] at hla
      rw [← hla, if_pos hne] at k
      exact k w7 _ ⟨r, md, mn, mi, mc, _, hR7'⟩ f7 (hFg (wx := w) g7)
    · rw [if_neg heq] at hla
      rcases hwc with hwc | hwc
      · haveI : Fits .i64 ((i : Int) + 1) := fits_i64 (by omega) (by omega)
        refine px_run ?_
        refine ⟨⟨i + 1, _, _, rfl, by omega, hla, hkin.trans hk2, hwc.2.1, by rw [hwc.2.2.2.1]; omega, hR7', f7, g7, ?_⟩, show ((p.dirty.length : Int) - ((i : Int) + 1)).toNat < ((p.dirty.length : Int) - (i : Int)).toNat by omega⟩
        exact hv6.fr hf7 (fun b hb e => by
          have := (hR6.mu b (.inr e))
          obtain ⟨cs, hc⟩ := Own.bkk hv6 hb
          have := this.ne hc
          revert this
          decide)
      · rw [hwc.1] at heq
        exact absurd heq (by decide)
  · have hie : i = p.dirty.length := by omega
    subst hie
    rw [List.drop_length] at hla
    have hX2 : X = (D, 0) := hla.symm
    subst hX2
    simp only at k hlw
    rw [if_neg (by simp)] at k
    have ow : ∀ {F2 : Nat → Prop}, ((F b ∧ ¬ Fd b) ∨ F2 b) ∧ ((F r ∧ ¬ Fd r) ∨ F2 r) ∧ ((F md ∧ ¬ Fd md) ∨ F2 md) ∧ ((F mn ∧ ¬ Fd mn) ∨ F2 mn) ∧ ((F mi ∧ ¬ Fd mi) ∨ F2 mi) ∧ ((F mc ∧ ¬ Fd mc) ∨ F2 mc) := 
      ⟨.inl ⟨h.own.1, h.off.1⟩, .inl ⟨h.own.2.1, h.off.2.1⟩, .inl ⟨h.own.2.2.1, h.off.2.2.1⟩, .inl ⟨h.own.2.2.2.1, h.off.2.2.2.1⟩, .inl ⟨h.own.2.2.2.2.1, h.off.2.2.2.2.1⟩, .inl ⟨h.own.2.2.2.2.2, h.off.2.2.2.2.2⟩⟩
    -- one more turn of the disk
    have turn : ∀ {wx wy : World} {D1 D2 : Disk} {F1 F2 : Nat → Prop}, PgR wx b d r md mn mi mc { p with D := D1 } (fun i => (F i ∧ ¬ Fd i) ∨ F1 i) F1 → DiskP wy d D2 F2 → (∀ i, F2 i → Mut wy i) → Fr F1 wx wy → Grows wx F1 F2 → ({ p with D := D2 } : Pg).Ok → Grows w Fd F1 → Fr F w wx →
        PgR wy b d r md mn mi mc { p with D := D2 } (fun i => (F i ∧ ¬ Fd i) ∨ F2 i) F2 ∧ Grows w Fd F2 ∧ Fr F w wy := by
      intro wx wy D1 D2 F1 F2 hR hd hm f g ho g1 fx
      refine ⟨(hR.setD hd hm f g ho).sub (fun i hi => ?_) (fun i hi => .inr hi) ow, g1.trans g fx.size, fx.trans f (fun i hi => ?_)⟩
      · rcases hi with ⟨h1, h2⟩ | hi
        · refine .inl ⟨.inl ⟨h1, h2⟩, fun e => ?_⟩
          rcases g1 i e with h' | h'
          · exact h2 h'
          · have := hbo i h1; omega
        · exact .inr hi
      · rcases g1 i hi with h' | h'
        · exact .inl (h.fd i h')
        · exact .inr h'
    refine nc_ptr ?_
    refine px_run ?_
    refine ldB hR3.blk rfl ?_
    refine dflush_k hR3.disk (by show D.waits.length < _; omega) fun w4 Fd2 hd4 hf4 hg4 => ?_
    have hfc := Disk.flush_cases (D := D) hkin.wf hal
    have hk4 : D.Kin D.flush.1 := by rcases hfc with h | h; exact h.2.2.1; exact h.2.kin
    obtain ⟨hR4, g4, f4⟩ := turn hR3 hd4.cut (fun i hi => hi.2) hf4 (hg4.sub fun j hj => hj.1) (hok.setD (hkin.trans hk4)) g3 f3
    refine px_run ?_
    refine cnd_dec (fun hne => ?_) (fun heq => ?_)
    · have hne' : D.flush.2 ≠ 0 := hne
      rw [if_pos hne'] at k
      exact k w4 _ ⟨r, md, mn, mi, mc, _, hR4⟩ f4 (hFg (wx := w) g4)
    have heq' : ¬ D.flush.2 ≠ 0 := heq
    rw [if_neg heq'] at k
    rcases hfc with ⟨e4, d4, k4, w4l, a4⟩ | ⟨e4, _⟩
    case inr => exact absurd (show D.flush.2 ≠ 0 by rw [e4]; decide) heq'
    refine nc_ptr ?_
    refine px_run ?_
    refine ldB hR4.blk rfl ?_
    refine head_k (base := (base : Int)) hR4.disk (fun i hi => hi.2) (by show D.flush.1.waits.length ≤ _; rw [w4l]; simp) fun w5 Fd3 hd5 hm5 hf5 hg5 => ?_
    have hhc := Disk.head_cases (D := D.flush.1) k4.wf d4 (base : Int)
    have hk5 : D.flush.1.Kin (D.flush.1.head base).1 := by rcases hhc with h | h; exact h.2.2.1; exact h.2.kin
    have hkin5 := (hkin.trans k4).trans hk5
    have ho5 := hok.setD hkin5
    obtain ⟨hR5, g5, f5⟩ := turn hR4 hd5 hm5 hf5 hg5 ho5 g4 f4
    refine px_run ?_
    refine cnd_dec (fun hne => ?_) (fun heq => ?_)
    · have hne' : (D.flush.1.head base).2 ≠ 0 := hne
      rw [if_pos hne'] at k
      exact k w5 _ ⟨r, md, mn, mi, mc, _, hR5⟩ f5 (hFg (wx := w) g5)
    have heq5 : ¬ (D.flush.1.head base).2 ≠ 0 := heq
    rw [if_neg heq5] at k
    rcases hhc with ⟨e5, d5, k5, w5l, a5⟩ | ⟨e5, _⟩
    case inr => exact absurd (show (D.flush.1.head base).2 ≠ 0 by rw [e5]; decide) heq5
    generalize (D.flush.1.head base).1 = Z at k hR5 hkin5 ho5 d5 w5l
    refine dr_of ?_
    have fd := Fr.dw w5
    have hR6 := hR5.fr0 fd
    have f6 := f5.then fd
    generalize dw w5 = w6 at fd hR6 f6
    refine held_of (fun w' => Bk w' b 193 (pgc d r md mn mi mc { p with D := Z })) hR6.blk ?_
    refine ny_ptr ?_
    refine py_run ?_
    refine ldBy (P := P) (fun w' hS => hS.cell 0) ?_
    refine ny_ptr ?_
    refine py_run ?_
    refine ldY hR6.blk rfl ?_
    refine places_k hR6.disk ?_
    refine hs_of hR6.blk ?_
    have hpl : places Z = places p.D := by unfold places; rw [hkin5.len]
    have hlen := hok.len
    have hp5 : places p.D = p.D.lasts.length / 4 := rfl
    refine ropen_k (first := 1) (count := places Z) (base := base) hR6.disk (fun b hb => (hR6.mu b (.inr hb)).lt) (by rw [hpl]; omega) (by show 1 + places Z ≤ Z.lasts.length; rw [hpl, hkin5.len]; omega) (by omega) (fun hbad => by omega) (fun _ hdd => by
      have hdd' : Z.dead = true := hdd
      rw [d5] at hdd'; cases hdd') fun _ _ r' vo vs w7 hR7 hrecs hf7 hr7 => ?_
    have hR7' := hR6.fr0 hf7
    refine hs_of hR7'.blk ?_
    refine py_run ?_
    refine py_run ?_
    refine py_run ?_
    refine px_run ?_
    refine cnd_false ?_
    refine pm_make (enc := secv) fun md' w8 hmd hMd hf8 => ?_
    refine nc_ptr ?_
    refine px_run ?_
    refine stB_k (hR7'.fr0 hf8).blk (by simp [pgc]) fun w9 hb9 hf9 => ?_
    refine nc_ptr ?_
    refine px_run ?_
    refine stB_k hb9 (by simp [pgc]) fun w10 hb10 hf10 => ?_
    have f910 := hf9.two hf10
    have hR8 := hR7'.fr0 hf8
    have s7 := hf7.size
    have s8 := hf8.size
    have s6 := f6.size
    have lb := hbo _ h.own.1
    have lmn := hbo _ h.own.2.2.2.1
    have lmi := hbo _ h.own.2.2.2.2.1
    have lmc := hbo _ h.own.2.2.2.2.2
    have lr7 := hR7.blk.lt
    have lmd8 := hMd.lt
    have hFd3 : ∀ i, Fd3 i → i < w5.heap.size := fun i hi => (hm5 i hi).lt
    have s56 := fd.size
    have hMd10 := hMd.fr f910 (fun e => by have e' : md' = b := e; omega)
    have hR10 := (hR7.fr0 hf8).fr f910 (fun e => by have e' : r' = b := e; omega)
    have ho10 : ({ p with D := Z, R := (Ring.open Z 1 (places Z) base).1, dirty := [] } : Pg).Ok :=
      ⟨ho5.D, hR7.wf, ho5.first, ho5.pages, ho5.len, rfl, rfl, fun _ hx => (by cases hx), hok.nk, .nil, hok.na, hok.ia, hok.cnt⟩
    have f10 : Fr F w w10 := ((f6.then hf7).then hf8).trans f910 (fun i e => .inl (by
      have e' : i = b := e
      rw [e']; exact h.own.1))
    refine k w10 (fun i => ((F i ∧ ¬ Fd i) ∨ Fd3 i) ∨ i = r' ∨ i = md') ⟨r', md', mn, mi, mc, Fd3, ⟨hb10, hR8.disk.fr f910 (fun i hi e => hR6.off.1 (e ▸ hi)), hR10, hMd10, hR8.now.fr f910 (PM.ne_bk hR8.now hR8.blk), hR8.idle.fr f910 (PM.ne_bk hR8.idle hR8.blk), hR8.count.fr f910 (PM.ne_bk hR8.count hR8.blk), ho10,
      fun i hi => .inl (.inr hi), ⟨.inl (.inl ⟨h.own.1, h.off.1⟩), .inr (.inl rfl), .inr (.inr rfl), .inl (.inl ⟨h.own.2.2.2.1, h.off.2.2.2.1⟩), .inl (.inl ⟨h.own.2.2.2.2.1, h.off.2.2.2.2.1⟩), .inl (.inl ⟨h.own.2.2.2.2.2, h.off.2.2.2.2.2⟩)⟩,
      ⟨hR6.off.1, fun e => by have := hFd3 _ e; omega, fun e => by have := hFd3 _ e; omega, hR6.off.2.2.2.1, hR6.off.2.2.2.2.1, hR6.off.2.2.2.2.2⟩, ⟨by omega, by omega, by omega, h.ne.2.2.2.1, h.ne.2.2.2.2.1, h.ne.2.2.2.2.2⟩, ?_⟩⟩ f10 (fun i hi => ?_)
    · rintro i (hi | rfl | rfl)
      · exact mu_of hR8.mu f910 (fun j hj => by
          have e : j = b := hj
          subst e
          exact .inl ⟨_, _, hb10, by simp⟩) i hi
      · exact .inl ⟨_, _, hR10.blk, by simp⟩
      · exact PM.mu hMd10
    · rcases hi with hi | rfl | rfl
      · exact hFg (wx := w) g5 i hi
      · exact .inr (by omega)
      · exact .inr (by omega)
end
end Go.Proofs.YtomggfibpbaodaaGreatDoor
