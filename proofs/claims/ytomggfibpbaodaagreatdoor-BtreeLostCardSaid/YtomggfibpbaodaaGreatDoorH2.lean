/-
  The pager: its memory; what is asked of it, and what it does to its pages.
-/
import Derived.Test.YtomggfibpbaodaaGreatDoorH
set_option maxRecDepth 100000
namespace Go.Proofs.YtomggfibpbaodaaGreatDoor
open Go.V

theorem ldC_run {P : Program} {w : World} {t : TypeId} {n b o : Nat} [Agg P t n] {xs : List Value} (hn : xs.length = n) (h : ∀ q, q < n → w.cell? ⟨b, o + q, none⟩ = xs[q]?) : (Instr.loadAt t (.pointer (some ⟨b, o, none⟩))).run P w = .ok (.agg xs.toArray) w := by
  have hl : (loadCells ⟨b, o, none⟩ xs.length).run P w = .ok xs.toArray w := run_loadCells_list (P := P) w ⟨b, o, none⟩ xs (fun j v hv => by
    have hj := (List.getElem?_eq_some_iff.1 hv).1
    rw [addr_add, h j (by omega), hv])
  simp only [Instr.loadAt, Instr.sureAddr, Sem.run_bind, Sem.run_pure, Result.andThen_ok, loadVar, Agg.isAgg]
  simp [Agg.sizeOf (P := P) (t := t), ← hn, hl]
def secv (s : Sec) : Value := .agg (bs s).toArray
def tru (_ : Unit) : Value := .bool true
instance : MapT P 190 195 (.agg (zeros 512).toArray) := ⟨⟨3, by kernel_rfl, by kernel_rfl⟩, fun w => by kernel_rfl⟩
instance : MapT P 191 4 (.bool false) := ⟨⟨3, by kernel_rfl, by kernel_rfl⟩, fun w => by kernel_rfl⟩
def pgc (d r md mn mi mc : Nat) (p : Pg) : List Value :=
  [pt d, pt r, iv p.first, iv p.pages, .map (some md), .map (some mn), iv p.kept.root, iv p.kept.used, iv p.kept.head, iv p.kept.free, iv p.m.root, iv p.m.used, iv p.m.head, iv p.m.free, .map (some mi), .map (some mc)]
structure PgR (w : World) (b d r md mn mi mc : Nat) (p : Pg) (F Fd : Nat → Prop) : Prop where
  blk : Bk w b 193 (pgc d r md mn mi mc p)
  disk : DiskP w d p.D Fd
  ring : RingAt w r d p.R
  dirty : PM secv w md p.dirty
  now : PM secv w mn p.now
  idle : PM tru w mi p.idle
  count : PM tru w mc p.count
  ok : p.Ok
  fd : ∀ i, Fd i → F i
  own : F b ∧ F r ∧ F md ∧ F mn ∧ F mi ∧ F mc
  off : ¬ Fd b ∧ ¬ Fd r ∧ ¬ Fd md ∧ ¬ Fd mn ∧ ¬ Fd mi ∧ ¬ Fd mc
  ne : md ≠ mn ∧ md ≠ mi ∧ md ≠ mc ∧ mn ≠ mi ∧ mn ≠ mc ∧ mi ≠ mc
  mu : ∀ i, F i → Mut w i
def PgM (w : World) (b d : Nat) (p : Pg) (F : Nat → Prop) : Prop := ∃ r md mn mi mc Fd, PgR w b d r md mn mi mc p F Fd
theorem PM.ne_bk {α : Type} {enc : α → Value} {w : World} {m b t : Nat} {l : List (Int × α)} {cs : List Value} (h : PM enc w m l) (hb : Bk w b t cs) : m ≠ b := by
  obtain ⟨es, h, _⟩ := h
  exact h.ne_bk hb
theorem PM.mu {α : Type} {enc : α → Value} {w : World} {m : Nat} {l : List (Int × α)} (h : PM enc w m l) : Mut w m := by
  obtain ⟨es, h, _⟩ := h
  exact .inr ⟨es, h⟩
section
variable {w w1 : World} {b d r md mn mi mc : Nat} {p : Pg} {F Fd : Nat → Prop} {K : Value → World → Prop}
theorem PgR.fr (h : PgR w b d r md mn mi mc p F Fd) {G : Nat → Prop} (f : Fr G w w1) (hG : ∀ i, F i → ¬ G i) : PgR w1 b d r md mn mi mc p F Fd :=
  ⟨h.blk.fr f (hG _ h.own.1), h.disk.fr f (fun i hi => hG i (h.fd i hi)), h.ring.fr f (hG _ h.own.2.1), h.dirty.fr f (hG _ h.own.2.2.1), h.now.fr f (hG _ h.own.2.2.2.1), h.idle.fr f (hG _ h.own.2.2.2.2.1), h.count.fr f (hG _ h.own.2.2.2.2.2), h.ok, h.fd, h.own, h.off, h.ne, fun i hi => by
    rcases h.mu i hi with ⟨t, cs, hb, ht⟩ | ⟨es, hm⟩
    · exact .inl ⟨t, cs, hb.fr f (hG i hi), ht⟩
    · exact .inr ⟨es, hm.fr f (hG i hi)⟩⟩
theorem PgR.fr0 (h : PgR w b d r md mn mi mc p F Fd) (f : Fr no w w1) : PgR w1 b d r md mn mi mc p F Fd := h.fr f fun _ _ => id
theorem PgM.fr (h : PgM w b d p F) {G : Nat → Prop} (f : Fr G w w1) (hG : ∀ i, F i → ¬ G i) : PgM w1 b d p F :=
  let ⟨r, md, mn, mi, mc, Fd, h⟩ := h; ⟨r, md, mn, mi, mc, Fd, h.fr f hG⟩
theorem PgM.fr0 (h : PgM w b d p F) (f : Fr no w w1) : PgM w1 b d p F := h.fr f fun _ _ => id
theorem PgM.mu (h : PgM w b d p F) : ∀ i, F i → Mut w i := let ⟨_, _, _, _, _, _, h⟩ := h; h.mu
theorem PgM.ok (h : PgM w b d p F) : p.Ok := let ⟨_, _, _, _, _, _, h⟩ := h; h.ok
/-- Slices of other kinds lie elsewhere. -/
theorem Own.offM {v : Value} {e : TypeId} {sz n : Nat} {xs : List Value} (h : Own w v e sz n xs) (hm : ∀ i, F i → Mut w i) (he : e ≠ 186 ∧ e ≠ 202 ∧ e ≠ 278 ∧ e ≠ 4 ∧ e ≠ 193 ∧ e ≠ 281) : ∀ i, v.ownBlock = some i → ¬ F i := fun i hi hF => by
  obtain ⟨cs, hc⟩ := Own.bkk h hi
  obtain ⟨h1, h2, h3, h4, h5, h6⟩ := he
  rcases (hm i hF).ne hc with h | h | h | h | h | h <;> contradiction
theorem Bk.offM {i t : Nat} {cs : List Value} (h : Bk w i t cs) (hm : ∀ i, F i → Mut w i) (he : t ≠ 186 ∧ t ≠ 202 ∧ t ≠ 278 ∧ t ≠ 4 ∧ t ≠ 193 ∧ t ≠ 281) : ¬ F i := fun hF => by
  obtain ⟨h1, h2, h3, h4, h5, h6⟩ := he
  rcases (hm i hF).ne h with h | h | h | h | h | h <;> contradiction
theorem uses_k {n : Int} (h : PgR w b d r md mn mi mc p F Fd) (k : K (.bool (p.uses n)) w) : cl P 100 #[pt b, iv n] w K := by
  apply c100
  unfold F100
  unfold Pg.uses at k
  refine px_run ?_
  by_cases h1 : n > 0
  · simp only [h1, decide_true]
    have h1' : (0 : Int) < n := h1
    simp only [h1', decide_true, Bool.true_and] at k
    iterate 2 refine gd_tt ?_
    refine gd_tt ?_
    refine nc_ptr ?_
    refine gd_tt ?_
    refine px_run ?_
    refine gd_tt ?_
    refine px_run ?_
    refine gd_tt ?_
    refine ldB h.blk rfl ?_
    refine gd_tt ?_
    refine px_run ?_
    refine pk_true ?_
    by_cases h2 : n < p.m.used
    · simp only [h2, decide_true] at k ⊢
      simp only [Bool.true_and] at k
      refine gd_tt ?_
      refine gd_tt ?_
      refine nc_ptr ?_
      refine gd_tt ?_
      refine px_run ?_
      refine gd_tt ?_
      refine ldB h.blk rfl ?_
      refine gd_tt ?_
      refine gd_tt ?_
      refine pm_get1 (P := P) h.idle ?_
      refine gd_tt ?_
      cases hi : mget p.idle n with
      | none =>
        rw [hi] at k
        simp only [Option.map_none, Option.getD_none]
        refine px_run ?_
        refine pk_true ?_
        exact k
      | some u =>
        rw [hi] at k
        simp only [Option.map_some, Option.getD_some, tru]
        refine px_run ?_
        refine pk_true ?_
        exact k
    · simp only [h2, decide_false] at k ⊢
      simp only [Bool.false_and] at k
      iterate 7 refine gd_ft ?_
      refine pk_false ?_
      exact k
  · simp only [h1, decide_false]
    have h1' : ¬ (0 : Int) < n := h1
    simp only [h1', decide_false, Bool.false_and] at k
    iterate 7 refine gd_ft ?_
    refine pk_false ?_
    iterate 7 refine gd_ft ?_
    refine pk_false ?_
    exact k
theorem root_k (h : PgR w b d r md mn mi mc p F Fd) (k : K (iv p.m.root) w) : cl P 87 #[pt b] w K := by
  apply c87
  unfold F87
  refine px_run ?_
  refine cnd_false ?_
  refine nc_ptr ?_
  refine px_run ?_
  refine px_run ?_
  refine ldB h.blk rfl ?_
  exact k
theorem npages_k (h : PgR w b d r md mn mi mc p F Fd) (k : K (iv p.pages) w) : cl P 33 #[pt b] w K := by
  apply c33
  unfold F33
  refine px_run ?_
  refine cnd_false ?_
  refine nc_ptr ?_
  refine px_run ?_
  refine ldB h.blk rfl ?_
  exact k
theorem free_k (h : PgR w b d r md mn mi mc p F Fd) (hw : p.WF) (k : ∀ w1, Fr no w w1 → K (iv p.free) w1) : cl P 91 #[pt b] w K := by
  have hfr := hw.free_eq
  have hs := hw.ok.small
  obtain ⟨ch, hg, _⟩ := hw.cur
  have hlen := hg.len
  have hu1 := hg.u1
  have hu2 := hg.u2
  have hf := hg.free
  apply c91
  unfold F91
  refine px_run ?_
  refine cnd_false ?_
  refine dr_of ?_
  have hb := h.blk.fr0 (Fr.dw w)
  refine ny_ptr ?_
  refine py_run ?_
  refine ldY hb rfl ?_
  refine ny_ptr ?_
  refine py_run ?_
  refine py_run ?_
  refine ldY hb rfl ?_
  haveI : Fits .i64 (p.pages - p.m.used) := fits_i64 (by omega) (by omega)
  refine py_run ?_
  refine ny_ptr ?_
  refine py_run ?_
  refine py_run ?_
  refine ldY hb rfl ?_
  haveI : Fits .i64 (p.pages - p.m.used + p.m.free) := fits_i64 (by omega) (by omega)
  refine py_run ?_
  have k := k _ (Fr.dw w)
  rw [hfr] at k
  exact k
theorem zsec : (Value.agg (zeros 512).toArray) = secv (zs 512) := by unfold secv; rw [zeros_bs]
theorem build195 {w : World} : (Instr.build 195 #[]).run P w = .ok (.agg (bs (zs 512)).toArray) w := by
  rw [← zeros_bs]
  kernel_rfl
theorem getD_sec (o : Option Sec) : (o.map secv).getD (.agg (zeros 512).toArray) = .agg (bs (o.getD (zs 512))).toArray := by
  cases o with
  | none => rw [Option.map_none, Option.getD_none, Option.getD_none, zsec]; rfl
  | some s => rfl
theorem get_k {n : Int} (h : PgR w b d r md mn mi mc p F Fd) (hn : 0 ≤ n ∧ n < p.pages)
    (k0 : ∀ e w1, p.get n = .error e → e ≠ 0 → Fr no w w1 → K (.tuple #[.agg (bs (zs 512)).toArray, iv e]) w1)
    (k1 : ∀ s w1, p.get n = .ok s → s.length = 512 → Fr no w w1 → K (.tuple #[.agg (bs s).toArray, iv 0]) w1) : cl P 98 #[pt b, iv n] w K := by
  have hs := h.ok.small
  have hsl : ∀ {l : List (Int × Sec)}, (∀ x ∈ l, x.2.length = 512) → ((mget l n).getD (zs 512)).length = 512 := fun hl => by
    cases hm : mget _ n with
    | none => exact zs_length 512
    | some s => exact hl _ (mget_mem hm)
  have hnl := hsl (l := p.now) (fun x hx => (h.ok.nk x hx).2.2)
  have hdl := hsl (l := p.dirty) (fun x hx => (h.ok.dk x hx).2.2)
  have z512 := zs_length 512
  apply c98
  unfold F98
  refine alloc_k (P := P) (z := zeros 512) fun b4 w1 hb4e hb4 hf1 => ?_
  rw [zeros_bs] at hb4
  have hl4 := hb4.lt
  have h1 := h.fr0 hf1
  refine nc_ptr ?_
  refine px_run ?_
  refine ldB h1.blk rfl ?_
  refine pm_get2 (P := P) h1.now ?_
  rw [getD_sec]
  refine px_run ?_
  refine px_run ?_
  refine alloc_k (P := P) (z := zeros 512) fun b6 w2 hb6e hb6 hf2 => ?_
  rw [zeros_bs] at hb6
  refine stA0_k hb6 (atoms_bs _) (by rw [bs_length]; exact hnl) (by rw [bs_length, z512]) fun w3 hb63 hf3 => ?_
  have f13 : Fr no w1 w3 := hf2.new hf3 (fun i hi => by omega)
  have f3 := hf1.trans f13 (fun _ h => by cases h)
  have hb43 := hb4.fr0 f13
  have s1 := hf1.size
  have fin : ∀ (s : Sec) (w5 : World), s.length = 512 → Fr no w w5 → Bk w5 b4 195 (bs (zs 512)) → p.get n = .ok s →
      pu P (Instr.storeAt 195 (pt b4) (.agg (bs s).toArray)) w5 fun w => pla P 195 (pt b4) w fun v4 => K (.tuple #[v4, iv 0]) w := by
    intro s w5 hs5 f5 hb5 hg
    refine stA0_k hb5 (atoms_bs _) (by rw [bs_length]; exact hs5) (by rw [bs_length, z512]) fun w6 hb6 hf6 => ?_
    refine plA0 hb6 (by rw [bs_length]; exact hs5) ?_
    exact k1 s w6 hg hs5 (f5.new hf6 (fun i hi => by omega))
  unfold Pg.get at k0 k1 fin
  cases hm : mget p.now n with
  | some s =>
    simp only [hm] at fin
    rw [hm] at hb63
    simp only [Option.isSome_some]
    refine cnd_true ?_
    have hs5 : s.length = 512 := by rw [hm] at hnl; exact hnl
    refine ldA0 hb63 (by rw [bs_length]; exact hs5) ?_
    exact fin s w3 hs5 f3 hb43 rfl
  | none =>
    simp only [hm] at fin k0 k1
    simp only [Option.isSome_none]
    refine cnd_false ?_
    have h3 := h.fr0 f3
    refine nc_ptr ?_
    refine px_run ?_
    refine ldB h3.blk rfl ?_
    refine pm_get2 (P := P) h3.dirty ?_
    rw [getD_sec]
    refine px_run ?_
    refine px_run ?_
    refine alloc_k (P := P) (z := zeros 512) fun b8 w4 hb8e hb8 hf4 => ?_
    rw [zeros_bs] at hb8
    refine stA0_k hb8 (atoms_bs _) (by rw [bs_length]; exact hdl) (by rw [bs_length, z512]) fun w5 hb85 hf5 => ?_
    have s3 := f13.size
    have f35 : Fr no w3 w5 := hf4.new hf5 (fun i hi => by omega)
    have f5 := f3.trans f35 (fun _ h => by cases h)
    have hb45 := hb43.fr0 f35
    cases hd : mget p.dirty n with
    | some s =>
      simp only [hd] at fin
      rw [hd] at hb85
      simp only [Option.isSome_some]
      refine cnd_true ?_
      have hs5 : s.length = 512 := by rw [hd] at hdl; exact hdl
      refine ldA0 hb85 (by rw [bs_length]; exact hs5) ?_
      exact fin s w5 hs5 f5 hb45 rfl
    | none =>
      simp only [hd] at fin k0 k1
      simp only [Option.isSome_none]
      refine cnd_false ?_
      refine dr_of ?_
      have fd := Fr.dw w5
      have f6 := f5.trans fd (fun _ h => by cases h)
      have hb46 := hb45.fr0 fd
      have h6 := h.fr0 f6
      generalize dw w5 = w6 at fd f6 hb46 h6
      refine ny_ptr ?_
      refine py_run ?_
      refine ldY h6.blk rfl ?_
      refine ny_ptr ?_
      refine py_run ?_
      refine ldY h6.blk rfl ?_
      haveI : Fits .i64 (p.first + n) := fits_i64 (by omega) (by omega)
      refine py_run ?_
      have hw6 : w64 (p.first + n) = p.first + n := w64_id (by omega) (by omega)
      rw [hw6] at k0 k1 fin
      unfold Disk.get at k0 fin
      refine dread_k h6.disk (fun hdd => ?_) (fun hdd hr => absurd hr (by omega)) (fun hdd j hj hjl v w7 hv hf7 hnv => ?_)
      · rw [hdd, if_pos rfl] at k0
        refine py_run ?_
        refine py_run ?_
        refine px_run ?_
        refine cnd_true ?_
        refine px_of build195 ?_
        refine stA0_k hb46 (atoms_bs _) (by rw [bs_length, z512]) (by rw [bs_length, z512]) fun w8 hb8' hf8 => ?_
        refine plA0 hb8' (by rw [bs_length, z512]) ?_
        exact k0 20 w8 rfl (by decide) (f6.new hf8 (fun i hi => by omega))
      · rw [hdd, if_neg (by simp), if_neg (by omega)] at fin
        refine py_run ?_
        refine py_run ?_
        refine px_run ?_
        refine cnd_false ?_
        have hal := Disk.at_length h.ok.D hjl
        obtain ⟨bb, oo, cap, rfl, hcap, hcell⟩ := hv.sl.addr (by omega) (by omega)
        refine px_of (arrayAt_run195 (Nat.le_refl _)) ?_
        refine ldC (P := P) (xs := bs (p.D.at j)) (by rw [bs_length]; exact hal) (fun q hq => hcell q (by omega)) ?_
        have hjn : (p.first + n).toNat = j := by omega
        rw [hjn] at fin
        exact fin (p.D.at j) w7 hal (f6.trans hf7 (fun _ h => by cases h)) (hb46.fr0 hf7) rfl

theorem mu_of {G : Nat → Prop} (hm : ∀ i, F i → Mut w i) (f : Fr G w w1) (hG : ∀ i, G i → Mut w1 i) : ∀ i, F i → Mut w1 i := fun i hi => by
  by_cases hg : G i
  · exact hG i hg
  · rcases hm i hi with ⟨t, cs, hb, ht⟩ | ⟨es, h⟩
    · exact .inl ⟨t, cs, hb.fr f hg, ht⟩
    · exact .inr ⟨es, h.fr f hg⟩
/-- The pager's own cells have turned: the root's words. -/
theorem PgR.setM (h : PgR w b d r md mn mi mc p F Fd) {m : Meta} (hb : Bk w1 b 193 (pgc d r md mn mi mc { p with m := m })) (f : Fr (fun i => i = b) w w1) : PgR w1 b d r md mn mi mc { p with m := m } F Fd :=
  ⟨hb, h.disk.fr f (fun i hi e => h.off.1 (e ▸ hi)), h.ring.fr f (fun e => (h.ring.blk.ne h.blk (by decide)) e), h.dirty.fr f (PM.ne_bk h.dirty h.blk), h.now.fr f (PM.ne_bk h.now h.blk), h.idle.fr f (PM.ne_bk h.idle h.blk), h.count.fr f (PM.ne_bk h.count h.blk),
    h.ok.setM _ _ h.ok.ia, h.fd, h.own, h.off, h.ne, mu_of h.mu f (fun i hi => by
      have e : i = b := hi
      subst e
      exact .inl ⟨_, _, hb, by simp⟩)⟩
theorem PgR.setI (h : PgR w b d r md mn mi mc p F Fd) {l : List (Int × Unit)} (hi : PM tru w1 mi l) (f : Fr (fun i => i = mi) w w1) : PgR w1 b d r md mn mi mc { p with idle := l } F Fd :=
  ⟨h.blk.fr f (fun e => PM.ne_bk h.idle h.blk e.symm), h.disk.fr f (fun i hi e => h.off.2.2.2.2.1 (e ▸ hi)), h.ring.fr f (fun e => PM.ne_bk h.idle h.ring.blk e.symm), h.dirty.fr f h.ne.2.1, h.now.fr f h.ne.2.2.2.1, hi, h.count.fr f (fun e => h.ne.2.2.2.2.2 e.symm),
    h.ok.setM p.m _ hi.asc, h.fd, h.own, h.off, h.ne, mu_of h.mu f (fun i h' => by
      have e : i = mi := h'
      subst e
      exact PM.mu hi)⟩
theorem PgR.lay (h : PgR w b d r md mn mi mc p F Fd) {n : Int} {s : Sec} (hn : 0 < n ∧ n < p.pages) (hs : s.length = 512) (h1 : PM secv w1 mn (mput p.now n s)) (h2 : PM tru w1 mc (mput p.count n ())) (f : Fr (fun i => i = mn ∨ i = mc) w w1) :
    PgR w1 b d r md mn mi mc (p.lay n s) F Fd :=
  ⟨h.blk.fr f (by rintro (e | e); exact PM.ne_bk h.now h.blk e.symm; exact PM.ne_bk h.count h.blk e.symm), h.disk.fr f (by rintro i hi (e | e); exact h.off.2.2.2.1 (e ▸ hi); exact h.off.2.2.2.2.2 (e ▸ hi)), h.ring.fr f (by rintro (e | e); exact PM.ne_bk h.now h.ring.blk e.symm; exact PM.ne_bk h.count h.ring.blk e.symm),
    h.dirty.fr f (by rintro (e | e); exact h.ne.1 e; exact h.ne.2.2.1 e), h1, h.idle.fr f (by rintro (e | e); exact h.ne.2.2.2.1 e.symm; exact h.ne.2.2.2.2.2 e), h2,
    h.ok.lay hn.1 hn.2 hs, h.fd, h.own, h.off, h.ne, mu_of h.mu f (by
      rintro i (e | e)
      · subst e; exact PM.mu h1
      · subst e; exact PM.mu h2)⟩
theorem setRoot_k {n : Int} (h : PgM w b d p F) (k : ∀ w1, PgM w1 b d (p.setRoot n).1 F → Fr F w w1 → K (iv (p.setRoot n).2) w1) : cl P 32 #[pt b, iv n] w K := by
  have hM := h
  obtain ⟨r, md, mn, mi, mc, Fd, h⟩ := h
  apply c32
  unfold F32
  unfold Pg.setRoot at k
  refine px_run ?_
  refine cnd_false ?_
  refine px_run ?_
  have done : ∀ (_ : ¬ (n ≠ 0 ∧ p.uses n = false)), nc (pt b) w fun v19 w =>
      px P (Instr.fieldAt 193 v19 7) w fun v20 w =>
      px P (Instr.fieldAt 188 v20 0) w fun v21 w =>
      pu P (Instr.storeAt 3 v21 (iv n)) w fun w =>
      K (.int .i64 0) w := fun hc => by
    rw [if_neg hc] at k
    refine nc_ptr ?_
    refine px_run ?_
    refine px_run ?_
    refine stB_k h.blk (by simp [pgc]) fun w1 hb hf => ?_
    exact k w1 ⟨r, md, mn, mi, mc, Fd, h.setM (m := { p.m with root := n }) hb hf⟩ (hf.mono fun i e => by
      have e' : i = b := e
      subst e'
      exact h.own.1)
  by_cases h0 : n = 0
  · have e : decide (n ≠ 0) = false := by simp [h0]
    simp only [e]
    iterate 4 refine gd_ft ?_
    refine pk_false ?_
    refine cnd_false ?_
    exact done (fun hc => hc.1 h0)
  · have e : decide (n ≠ 0) = true := by simp [h0]
    simp only [e]
    iterate 2 refine gd_tt ?_
    refine gd_tt ?_
    refine uses_k h ?_
    refine gd_tt ?_
    refine px_run ?_
    refine pk_true ?_
    cases hu : p.uses n
    · refine cnd_true ?_
      rw [if_pos ⟨h0, hu⟩] at k
      exact k w hM (Fr.refl _ _)
    · refine cnd_false ?_
      exact done (fun hc => by rw [hu] at hc; cases hc.2)
theorem read_k {n : Int} (h : PgM w b d p F) (hw : p.WF)
    (k0 : ∀ e w1, p.read n = .error e → e ≠ 0 → Fr no w w1 → K (.tuple #[.slice none 0 0, iv e]) w1)
    (k1 : ∀ s v w1, p.read n = .ok s → s.length = 512 → Own w1 v 5 1 512 (bs s) → Fr no w w1 → (∀ b, v.ownBlock = some b → w.heap.size ≤ b) → K (.tuple #[v, iv 0]) w1) : cl P 208 #[pt b, iv n] w K := by
  obtain ⟨r, md, mn, mi, mc, Fd, h⟩ := h
  apply c208
  unfold F208
  unfold Pg.read at k0 k1
  refine px_run ?_
  refine cnd_false ?_
  refine uses_k h ?_
  refine px_run ?_
  cases hu : p.uses n
  · rw [hu, if_pos rfl] at k0
    refine cnd_true ?_
    exact k0 1 w rfl (by decide) (Fr.refl _ _)
  · rw [hu, if_neg (by simp)] at k0 k1
    refine cnd_false ?_
    have hul := hw.uses_lt hu
    have z512 := zs_length 512
    refine get_k h ⟨by omega, hul.2⟩ (fun e w1 he hne hf1 => ?_) (fun s w1 he hs hf1 => ?_)
    · refine px_run ?_
      refine px_run ?_
      refine alloc_k (P := P) (z := zeros 512) fun b6 w2 hb6e hb6 hf2 => ?_
      rw [zeros_bs] at hb6
      refine stA0_k hb6 (atoms_bs _) (by rw [bs_length, z512]) (by rw [bs_length, z512]) fun w3 hb63 hf3 => ?_
      refine px_run ?_
      have e1 : decide (e ≠ 0) = true := by simp [hne]
      simp only [e1]
      refine cnd_true ?_
      have s1 := hf1.size
      exact k0 e w3 he hne ((hf1.trans hf2 (fun _ h => by cases h)).new hf3 (fun i hi => by omega))
    · refine px_run ?_
      refine px_run ?_
      refine alloc_k (P := P) (z := zeros 512) fun b6 w2 hb6e hb6 hf2 => ?_
      rw [zeros_bs] at hb6
      refine stA0_k hb6 (atoms_bs _) (by rw [bs_length]; exact hs) (by rw [bs_length, z512]) fun w3 hb63 hf3 => ?_
      refine px_run ?_
      refine cnd_false ?_
      have s1 := hf1.size
      have f3 : Fr no w w3 := (hf1.trans hf2 (fun _ h => by cases h)).new hf3 (fun i hi => by omega)
      refine px_run ?_
      have hsl : Sl w3 (.slice (some ⟨b6, 0, none⟩) 512 512) 1 512 (bs s) := hb63.sl (fun j hj => by rw [Nat.zero_add]) (by rw [bs_length]; exact hs) (Nat.le_refl _)
      refine bclone_k hsl (by omega) fun v w4 hv hf4 hnv => ?_
      have s3 := f3.size
      exact k1 s v w4 he hs hv (f3.trans hf4 (fun _ h => by cases h)) (fun b hb => by have := hnv b hb; omega)
theorem write_k {n : Int} {v : Value} {l : List UInt8} (h : PgM w b d p F) (hw : p.WF) (hv : Sl w v 1 l.length (bs l)) (hvF : ∀ b, v.ownBlock = some b → ¬ F b)
    (k : ∀ w1, PgM w1 b d (p.write n l).1 F → Fr F w w1 → K (iv (p.write n l).2) w1) : cl P 31 #[pt b, iv n, v] w K := by
  have hM := h
  obtain ⟨r, md, mn, mi, mc, Fd, h⟩ := h
  obtain ⟨_, av, cv', rfl, _⟩ := id hv
  apply c31
  unfold F31
  unfold Pg.write at k
  refine px_run ?_
  refine cnd_false ?_
  refine uses_k h ?_
  refine px_run ?_
  cases hu : p.uses n
  · rw [hu, if_pos (.inl rfl)] at k
    iterate 3 refine gd_tf ?_
    refine pk_true ?_
    refine cnd_true ?_
    exact k w hM (Fr.refl _ _)
  · simp only [Bool.not_true]
    refine gd_ff ?_
    refine gd_ff ?_
    refine px_run ?_
    refine gd_ff ?_
    refine px_run ?_
    refine pk_false ?_
    refine cnd_dec (fun hne => ?_) (fun heq => ?_)
    · rw [if_pos (.inr (by omega))] at k
      exact k w hM (Fr.refl _ _)
    · have hl : l.length = 512 := by omega
      rw [if_neg (by rintro (h | h); · rw [hu] at h; cases h
                     · exact h hl)] at k
      have hul := hw.uses_lt hu
      refine dr_of ?_
      have fd := Fr.dw w
      have h1 := h.fr0 fd
      have hv1 := hv.fr0 fd
      generalize dw w = w1 at fd h1 hv1
      refine held_of (fun w' => Sl w' (.slice av l.length cv') 1 l.length (bs l)) hv1 ?_
      refine ny_ptr ?_
      refine py_run ?_
      refine ldY h1.blk rfl ?_
      refine ny_ptr ?_
      refine py_run ?_
      refine ldY h1.blk rfl ?_
      refine py_of (fun w' _ => arrayAt_run195 (by omega)) ?_
      obtain ⟨bb, oo, cap, hve, hcap, hcell⟩ := hv1.addr (by omega) (by omega)
      simp only [Value.slice.injEq] at hve
      obtain ⟨rfl, _, rfl⟩ := hve
      refine py_of (fun w' hS => ?_) ?_ (v := .agg (bs l).toArray)
      · obtain ⟨b2, o2, c2, hve2, _, hcell2⟩ := hS.addr (by omega) (by omega)
        simp only [Value.slice.injEq, Option.some.injEq, Addr.mk.injEq] at hve2
        obtain ⟨⟨rfl, rfl, _⟩, _, _⟩ := hve2
        exact ldC_run (P := P) (t := 195) (xs := bs l) (by rw [bs_length]; exact hl) (fun q hq => hcell2 q (by omega))
      have hvF1 : ∀ {wx wy : World} {i : Nat}, F i → Fr (fun j => j = i) wx wy → Sl wx (.slice (some ⟨bb, oo, none⟩) l.length cv') 1 l.length (bs l) → Sl wy (.slice (some ⟨bb, oo, none⟩) l.length cv') 1 l.length (bs l) := fun hFi f hx => hx.fr f (fun b hb e => hvF b hb (e ▸ hFi))
      refine pm_entry (P := P) h1.now fun v33 st w2 hE hf2 => ?_
      have hv2 := hvF1 h.own.2.2.2.1 hf2 hv1
      refine hs_of hv2 ?_
      refine py_run ?_
      refine pm_store hE (x := l) rfl fun w3 hN hf3 => ?_
      have hv3 := hvF1 h.own.2.2.2.1 hf3 hv2
      refine hs_of hv3 ?_
      have f13 := hf2.two hf3
      refine pm_entry (P := P) (h1.count.fr f13 (fun e => h.ne.2.2.2.2.1 e.symm)) fun v35 st2 w4 hE2 hf4 => ?_
      have hv4 := hvF1 h.own.2.2.2.2.2 hf4 hv3
      refine hs_of hv4 ?_
      refine py_run ?_
      refine pm_store hE2 (x := ()) rfl fun w5 hC hf5 => ?_
      refine hs_of (hvF1 h.own.2.2.2.2.2 hf5 hv4) ?_
      have f35 := hf4.two hf5
      have f15 := f13.two' f35
      have hN5 := hN.fr f35 h.ne.2.2.2.2.1
      exact k w5 ⟨r, md, mn, mi, mc, Fd, h1.lay hul hl hN5 hC f15⟩ ((fd.mono fun _ h => h.elim).two (f15.mono fun i e => by
        rcases e with e | e
        · have e' : i = mn := e
          rw [e']; exact h.own.2.2.2.1
        · have e' : i = mc := e
          rw [e']; exact h.own.2.2.2.2.2))

theorem slcAh_run {t e : TypeId} {n : Nat} [h : ArrT P t e n] {b o : Nat} {k1 : IntKind} {hi : Int} {i : Nat} (h1 : hi = (i : Int)) (hlt : i ≤ n) (hn : 0 < n) :
    (Instr.sliceAt t (.pointer (some ⟨b, o, none⟩)) none (some (.int k1 hi)) none).run P w = .ok (.slice (some ⟨b, o, none⟩) i n) w := by
  subst h1
  have e3 : ¬ n = 0 := by omega
  simp [Instr.sliceAt, run_underlying h.under, Instr.sureAddr, Instr.sliceBounds, Instr.sliceBound, asIntOf, h.size, hlt, addr_add]
/-- A page is laid down: both maps. -/
theorem lay2_k {n : Int} {s : Sec} {sval : Value} {J : World → Prop} (h : PgR w b d r md mn mi mc p F Fd) (hn : 0 < n ∧ n < p.pages) (hs : s.length = 512) (hsv : sval = secv s)
    (k : ∀ w1, PgR w1 b d r md mn mi mc (p.lay n s) F Fd → Fr F w w1 → J w1) :
    px P (Instr.mapEntry 190 (.map (some mn)) (iv n)) w fun v98 w =>
    py P (fun _ => True) (Instr.extract v98 1) fun v99 =>
    pu P (Instr.entryStore 190 (.map (some mn)) v99 sval) w fun w =>
    px P (Instr.mapEntry 191 (.map (some mc)) (iv n)) w fun v100 w =>
    py P (fun _ => True) (Instr.extract v100 1) fun v101 =>
    pu P (Instr.entryStore 191 (.map (some mc)) v101 (.bool true)) w fun w =>
    J w := by
  refine pm_entry (P := P) h.now fun v33 st w2 hE hf2 => ?_
  refine py_run ?_
  refine pm_store hE (x := s) hsv fun w3 hN hf3 => ?_
  have f13 := hf2.two hf3
  refine pm_entry (P := P) (h.count.fr f13 (fun e => h.ne.2.2.2.2.1 e.symm)) fun v35 st2 w4 hE2 hf4 => ?_
  refine py_run ?_
  refine pm_store hE2 (x := ()) rfl fun w5 hC hf5 => ?_
  have f35 := hf4.two hf5
  have f15 := f13.two' f35
  have hN5 := hN.fr f35 h.ne.2.2.2.2.1
  exact k w5 (h.lay hn hs hN5 hC f15) (f15.mono fun i e => by
    rcases e with e | e
    · have e' : i = mn := e
      rw [e']; exact h.own.2.2.2.1
    · have e' : i = mc := e
      rw [e']; exact h.own.2.2.2.2.2)
theorem alloc30_k (h : PgM w b d p F) (hw : p.WF) (k : ∀ w1, PgM w1 b d p.alloc.1 F → Fr F w w1 → K (.tuple #[iv p.alloc.2.1, iv p.alloc.2.2]) w1) : cl P 30 #[pt b] w K := by
  have hM := h
  obtain ⟨r, md, mn, mi, mc, Fd, h⟩ := h
  have hfr := hw.free_eq
  have hsm := hw.ok.small
  obtain ⟨ch, hg, hid⟩ := id hw.cur
  have hlen := hg.len
  have hu1 := hg.u1
  have hu2 := hg.u2
  have hf := hg.free
  have z512 := zs_length 512
  apply c30
  unfold F30
  unfold Pg.alloc at k
  refine px_run ?_
  refine cnd_false ?_
  refine free_k h hw fun w1 hf1 => ?_
  have h1 := h.fr0 hf1
  refine px_run ?_
  refine cnd_dec (fun h0 => ?_) (fun h0 => ?_)
  · rw [if_pos h0] at k
    exact k w1 (hM.fr0 hf1) (hf1.mono fun _ h => h.elim)
  rw [if_neg h0] at k
  refine nc_ptr ?_
  refine px_run ?_
  refine px_run ?_
  refine ldB h1.blk rfl ?_
  refine px_run ?_
  refine cnd_dec (fun hh => ?_) (fun hh => ?_)
  · rw [if_pos hh] at k
    have hu : p.m.used < p.pages := by
      cases ch with
      | cons a l =>
        have h1 := hg.chain.1
        have h2 := hg.chain.2.1
        omega
      | nil =>
        have hf0 : p.m.free = 0 := by simpa using hf
        omega
    have hwr : w64 (p.m.used + 1) = p.m.used + 1 := w64_id (by omega) (by omega)
    rw [hwr] at k
    refine nc_ptr ?_
    refine px_run ?_
    refine px_run ?_
    refine ldB h1.blk rfl ?_
    refine nc_ptr ?_
    refine px_run ?_
    refine px_run ?_
    refine ldB h1.blk rfl ?_
    haveI : Fits .i64 (p.m.used + 1) := fits_i64 (by omega) (by omega)
    refine px_run ?_
    refine nc_ptr ?_
    refine px_run ?_
    refine px_run ?_
    refine stB_k h1.blk (by simp [pgc]) fun w2 hb2 hf2 => ?_
    have h2 := h1.setM (m := { p.m with used := p.m.used + 1 }) hb2 hf2
    refine dr_of ?_
    have fd := Fr.dw w2
    have h3 := h2.fr0 fd
    have f3 : Fr F w (dw w2) := ((hf1.mono fun _ h => h.elim).two (hf2.mono fun i e => by
      have e' : i = b := e
      rw [e']; exact h.own.1)).then fd
    generalize dw w2 = w3 at fd h3 f3
    refine ny_ptr ?_
    refine py_run ?_
    refine ldY h3.blk rfl ?_
    refine ny_ptr ?_
    refine py_run ?_
    refine ldY h3.blk rfl ?_
    refine py_of (fun w' _ => build195) ?_
    exact lay2_k h3 ⟨by omega, hu⟩ z512 rfl fun w4 h4 hf4 => k w4 ⟨r, md, mn, mi, mc, Fd, h4⟩ (f3.two hf4)
  · rw [if_neg hh] at k
    obtain ⟨a, l, rfl⟩ : ∃ a l, ch = a :: l := by
      cases ch with
      | nil => exact absurd hg.chain hh
      | cons a l => exact ⟨a, l, rfl⟩
    obtain ⟨c1, c2, c3, c4⟩ := hg.chain
    have hfl : p.m.free = (l.length : Int) + 1 := by simpa using hf
    have hget := hw.ok.get hw.alive (n := p.m.head) (by omega) (by omega)
    rw [hget] at k
    have hwr : w64 (p.m.free - 1) = p.m.free - 1 := w64_id (by omega) (by omega)
    simp only [hwr] at k
    refine nc_ptr ?_
    refine px_run ?_
    refine px_run ?_
    refine ldB h1.blk rfl ?_
    refine get_k h1 ⟨by omega, by omega⟩ (fun e w2 he _ _ => by rw [hget] at he; cases he) (fun s w2 he hs hf2 => ?_)
    rw [hget] at he
    cases he
    generalize p.view p.m.head = s at k hs
    refine px_run ?_
    refine px_run ?_
    refine alloc_k (P := P) (z := zeros 512) fun b6 w3 hb6e hb6 hf3 => ?_
    rw [zeros_bs] at hb6
    refine stA0_k hb6 (atoms_bs _) (by rw [bs_length]; exact hs) (by rw [bs_length, z512]) fun w4 hb64 hf4 => ?_
    refine px_run ?_
    refine cnd_false ?_
    have s2 := hf2.size
    have f14 : Fr no w1 w4 := (hf2.trans hf3 (fun _ h => by cases h)).new hf4 (fun i hi => by omega)
    have f4 := hf1.trans f14 (fun _ h => by cases h)
    have h4 := h.fr0 f4
    refine cut_of (fun _ w5 => PgR w5 b d r md mn mi mc { p with m := { p.m with head := num (s.take 4), free := p.m.free - 1 } } F Fd ∧ Fr F w w5) ?_ ?_
    · refine dr_of ?_
      have fd := Fr.dw w4
      have h5 := h4.fr0 fd
      have hb65 := hb64.fr0 fd
      have f5 := f4.trans fd (fun _ h => by cases h)
      generalize dw w4 = w5 at fd h5 hb65 f5
      refine py_of (fun w' _ => slcAh_run (n := 512) (i := 4) rfl (by omega) (by omega)) ?_
      refine ny_ptr ?_
      refine py_run ?_
      refine py_run ?_
      have hl4 : (s.take 4).length = 4 := by rw [List.length_take]; omega
      have hsl : Sl w5 (.slice (some ⟨b6, 0, none⟩) 4 512) 1 (s.take 4).length (bs (s.take 4)) := by
        rw [hl4]
        refine hb65.sl (fun j hj => ?_) (by rw [bs_length, hl4]) (by omega)
        rw [bs_length, hl4] at hj
        rw [Nat.zero_add, ← bs_take, List.getElem?_take, if_pos hj]
      have hnum : num (s.take 4) < 9223372036854775808 := by
        have := num_lt (s.take 4)
        rw [hl4] at this
        have e : (256 : Nat) ^ 4 = 4294967296 := by decide
        omega
      haveI : Fits .i64 (p.m.free - 1) := fits_i64 (by omega) (by omega)
      refine ⟨?_, ?_⟩
      · refine number_k hsl (by omega) hnum ?_
        refine ldY h5.blk rfl ?_
        refine py_run ?_
        refine ny_ptr ?_
        refine py_run ?_
        refine py_run ?_
        refine stB_k h5.blk (by simp [pgc]) fun w6 hb6' hf6 => ?_
        refine ny_ptr ?_
        refine py_run ?_
        refine py_run ?_
        refine stB_k hb6' (by simp [pgc]) fun w7 hb7 hf7 => ?_
        exact ⟨h5.setM (m := { p.m with head := num (s.take 4), free := p.m.free - 1 }) hb7 (hf6.two hf7), (f5.mono fun _ h => h.elim).two ((hf6.two hf7).mono fun i e => by
          have e' : i = b := e
          rw [e']; exact h.own.1)⟩
      · refine pgld (h5.blk.cell 13) ?_
        refine py_run ?_
        refine number_k hsl (by omega) hnum ?_
        refine ny_ptr ?_
        refine py_run ?_
        refine py_run ?_
        refine stB_k h5.blk (by simp [pgc]) fun w6 hb6' hf6 => ?_
        refine ny_ptr ?_
        refine py_run ?_
        refine py_run ?_
        refine stB_k hb6' (by simp [pgc]) fun w7 hb7 hf7 => ?_
        exact ⟨h5.setM (m := { p.m with head := num (s.take 4), free := p.m.free - 1 }) hb7 (hf6.two hf7), (f5.mono fun _ h => h.elim).two ((hf6.two hf7).mono fun i e => by
          have e' : i = b := e
          rw [e']; exact h.own.1)⟩
    · rintro _ w5 ⟨h5, f5⟩
      refine nc_ptr ?_
      refine px_run ?_
      refine ldB h5.blk rfl ?_
      refine pm_del (P := P) h5.idle und_int fun w6 hI hf6 => ?_
      have h6 := h5.setI hI hf6
      refine dr_of ?_
      have fd := Fr.dw w6
      have h7 := h6.fr0 fd
      have f7 : Fr F w (dw w6) := (f5.two (hf6.mono fun i e => by
        have e' : i = mi := e
        rw [e']; exact h.own.2.2.2.2.1)).then fd
      generalize dw w6 = w7 at fd h7 f7
      refine ny_ptr ?_
      refine py_run ?_
      refine ldY h7.blk rfl ?_
      refine ny_ptr ?_
      refine py_run ?_
      refine ldY h7.blk rfl ?_
      refine py_of (fun w' _ => build195) ?_
      exact lay2_k h7 ⟨by omega, by show p.m.head < p.pages; omega⟩ z512 rfl fun w8 h8 hf8 => k w8 ⟨r, md, mn, mi, mc, Fd, h8⟩ (f7.two hf8)

theorem drop_k {n : Int} (h : PgM w b d p F) (hw : p.WF) (k : ∀ w1, PgM w1 b d (p.drop n).1 F → Fr F w w1 → K (iv (p.drop n).2) w1) : cl P 151 #[pt b, iv n] w K := by
  have hM := h
  obtain ⟨r, md, mn, mi, mc, Fd, h⟩ := h
  have hsm := hw.ok.small
  obtain ⟨ch, hg, hid⟩ := id hw.cur
  have hlen := hg.len
  have hu1 := hg.u1
  have hu2 := hg.u2
  have hf := hg.free
  have z512 := zs_length 512
  have hwr : w64 (p.m.free + 1) = p.m.free + 1 := w64_id (by omega) (by omega)
  apply c151
  unfold F151
  unfold Pg.drop at k
  rw [hwr] at k
  refine px_run ?_
  refine cnd_false ?_
  refine uses_k h ?_
  refine px_run ?_
  cases hu : p.uses n
  · rw [hu, if_pos rfl] at k
    refine cnd_true ?_
    exact k w hM (Fr.refl _ _)
  rw [hu, if_neg (by simp)] at k
  refine cnd_false ?_
  have hul := hw.uses_lt hu
  refine alloc_k (P := P) (z := zeros 512) fun b5 w1 hb5e hb5 hf1 => ?_
  rw [zeros_bs] at hb5
  refine dr_of ?_
  have fd := Fr.dw w1
  have f2 := hf1.trans fd (fun _ h => by cases h)
  have h2 := h.fr0 f2
  have hb52 := hb5.fr0 fd
  generalize dw w1 = w2 at fd f2 h2 hb52
  refine py_of (fun w' _ => slcAh_run (n := 512) (i := 4) rfl (by omega) (by omega)) ?_
  refine ny_ptr ?_
  refine py_run ?_
  refine py_run ?_
  refine ldY h2.blk rfl ?_
  refine put_k hb52 (by rw [z512]; omega) (by omega) (by omega) fun w3 hb53 hf3 => ?_
  have f3 : Fr no w w3 := f2.new hf3 (fun i hi => by omega)
  have h3 := h.fr0 f3
  rw [List.take_zero, List.nil_append, zs_drop] at hb53
  have hl : (be 4 p.m.head ++ zs 508).length = 512 := by rw [List.length_append, be_length, zs_length]
  refine dr_of ?_
  have fd3 := Fr.dw w3
  have h4 := h3.fr0 fd3
  have hb54 := hb53.fr0 fd3
  have f4 := f3.trans fd3 (fun _ h => by cases h)
  generalize dw w3 = w4 at fd3 h4 hb54 f4
  have hnF : ¬ F b5 := fun e => by have := (h.mu _ e).lt; omega
  refine held_of (fun w' => Bk w' b5 195 (bs (be 4 p.m.head ++ zs 508))) hb54 ?_
  refine ny_ptr ?_
  refine py_run ?_
  refine ldY h4.blk rfl ?_
  refine ny_ptr ?_
  refine py_run ?_
  refine ldY h4.blk rfl ?_
  refine py_of (fun w' hS => lda_run (P := P) (o := 0) (xs := bs (be 4 p.m.head ++ zs 508)) hS (fun j _ => by rw [Nat.zero_add]) (by rw [bs_length]; exact hl)) ?_
  have nb : ∀ {wx wy : World} {i : Nat}, F i → Fr (fun j => j = i) wx wy → Bk wx b5 195 (bs (be 4 p.m.head ++ zs 508)) → Bk wy b5 195 (bs (be 4 p.m.head ++ zs 508)) := fun hFi f hx => hx.fr f (fun e => hnF (e ▸ hFi))
  refine pm_entry (P := P) h4.now fun v33 st w5 hE hf5 => ?_
  have hb55 := nb h.own.2.2.2.1 hf5 hb54
  refine hs_of hb55 ?_
  refine py_run ?_
  refine pm_store hE (x := be 4 p.m.head ++ zs 508) rfl fun w6 hN hf6 => ?_
  have hb56 := nb h.own.2.2.2.1 hf6 hb55
  refine hs_of hb56 ?_
  have f46 := hf5.two hf6
  refine pm_entry (P := P) (h4.count.fr f46 (fun e => h.ne.2.2.2.2.1 e.symm)) fun v35 st2 w7 hE2 hf7 => ?_
  have hb57 := nb h.own.2.2.2.2.2 hf7 hb56
  refine hs_of hb57 ?_
  refine py_run ?_
  refine pm_store hE2 (x := ()) rfl fun w8 hC hf8 => ?_
  refine hs_of (nb h.own.2.2.2.2.2 hf8 hb57) ?_
  have f68 := hf7.two hf8
  have f48 := f46.two' f68
  have h8 := h4.lay hul hl (hN.fr f68 h.ne.2.2.2.2.1) hC f48
  have g8 : Fr F w w8 := (f4.mono fun _ h => h.elim).two (f48.mono fun i e => by
    rcases e with e | e
    · have e' : i = mn := e
      rw [e']; exact h.own.2.2.2.1
    · have e' : i = mc := e
      rw [e']; exact h.own.2.2.2.2.2)
  refine nc_ptr ?_
  refine px_run ?_
  refine px_run ?_
  refine ldB h8.blk rfl ?_
  haveI : Fits .i64 (p.m.free + 1) := fits_i64 (by omega) (by omega)
  refine px_run ?_
  refine nc_ptr ?_
  refine px_run ?_
  refine px_run ?_
  refine stB_k h8.blk (by simp [pgc]) fun w9 hb9 hf9 => ?_
  refine nc_ptr ?_
  refine px_run ?_
  refine px_run ?_
  refine stB_k hb9 (by simp [pgc]) fun w10 hb10 hf10 => ?_
  rw [show IntKind.i64.wrap ((p.lay n (be 4 p.m.head ++ zs 508)).m.free + 1) = p.m.free + 1 from hwr] at hb10
  have h10 := h8.setM (m := { p.m with head := n, free := p.m.free + 1 }) hb10 (hf9.two hf10)
  have g10 := g8.two ((hf9.two hf10).mono fun i e => by
    have e' : i = b := e
    rw [e']; exact h.own.1)
  refine nc_ptr ?_
  refine px_run ?_
  refine ldB h10.blk rfl ?_
  refine pm_put (P := P) h10.idle (x := ()) rfl fun w11 hI hf11 => ?_
  have h11 := h10.setI hI hf11
  exact k w11 ⟨r, md, mn, mi, mc, Fd, h11⟩ (g10.two (hf11.mono fun i e => by
    have e' : i = mi := e
    rw [e']; exact h.own.2.2.2.2.1))
end
end Go.Proofs.YtomggfibpbaodaaGreatDoor
