/-
  The pager: what the log has is taken over.
-/
import Derived.Test.YtomggfibpbaodaaGreatDoorH6
set_option maxRecDepth 100000
namespace Go.Proofs.YtomggfibpbaodaaGreatDoor
open Go.V

def pgcR (rp : Value) (d md mn mi mc : Nat) (p : Pg) : List Value :=
  [pt d, rp, iv p.first, iv p.pages, .map (some md), .map (some mn), iv p.kept.root, iv p.kept.used, iv p.kept.head, iv p.kept.free, iv p.m.root, iv p.m.used, iv p.m.head, iv p.m.free, .map (some mi), .map (some mc)]
theorem Rd.count_lt {R : Rd} {m : Int} (hb : (R.count m).2.bad = false) : (R.count m).2.l.length < R.l.length := by
  unfold Rd.count at hb ⊢
  cases hu : R.uv.1 with
  | none =>
    rw [hu] at hb
    simp [Rd.told] at hb
  | some u =>
    unfold Rd.uv at hu ⊢
    split at hu
    · cases hu
    · split at hu
      · cases hu
      · rename_i h1 h2
        rw [if_neg h1, if_neg h2]
        simp only [Rd.told]
        rw [List.length_drop]
        have h3 := firstF_le R.l 0 0
        have : 0 < (firstF R.l 0 0).2 := Nat.pos_of_ne_zero fun e => h2 (.inl e)
        have hl : 0 < R.l.length := by omega
        omega
theorem Rd.str_bad {R : Rd} {m : Int} (hb : (R.str m).2.bad = false) : R.bad = false := by
  have told : ∀ {R : Rd} {o : Bool}, (R.told o).bad = false → R.bad = false := fun h => by
    simp only [Rd.told, Bool.or_eq_false_iff] at h
    exact h.1
  have uvb : ∀ {R : Rd}, R.uv.2.bad = R.bad := by
    intro R
    unfold Rd.uv
    split
    · rfl
    · split <;> rfl
  have cb : ∀ {R : Rd} {m : Int}, (R.count m).2.bad = false → R.bad = false := fun h => by
    unfold Rd.count at h
    have := told h
    rwa [uvb] at this
  unfold Rd.str at hb
  split at hb
  · exact cb (told hb)
  · exact cb hb
def lenAt (w : World) (q : Nat) : Nat := match w.cell? ⟨q, 0, none⟩ with | some (.slice _ n _) => n | _ => 0
theorem RdAt.lenAt {w : World} {r q : Nat} {R : Rd} (h : RdAt w r q R) : lenAt w q = R.l.length := by
  obtain ⟨v, h1, h2, _⟩ := h.rest
  obtain ⟨_, a, c, rfl, _⟩ := h2
  unfold Proofs.YtomggfibpbaodaaGreatDoor.lenAt
  rw [h1.cell 0]
  rfl
structure DkOk (p : Pg) : Prop where
  dk : ∀ x ∈ p.dirty, 0 ≤ x.1 ∧ x.1 < p.pages ∧ x.2.length = 512
  p0 : 1 ≤ p.pages
  p1 : p.pages ≤ 65536
section
variable {w : World} {b d md mn mi mc : Nat} {p : Pg} {rp vo : Value} {vs : List Value} {recs : List Str} {K : Value → World → Prop}
theorem replay_k (hb : Bk w b 193 (pgcR rp d md mn mi mc p)) (hD : PM secv w md p.dirty) (hok : DkOk p) (hr : RecsAt w vo recs vs) (hrl : ∀ l ∈ recs, l.length ≤ 100000000) (hrn : recs.length ≤ 1000000)
    (k0 : p.replay recs = none → ∀ w1, Fr (fun i => i = md) w w1 → K (.bool false) w1)
    (k1 : ∀ dirty w1, p.replay recs = some { p with dirty := dirty } → PM secv w1 md dirty → DkOk { p with dirty := dirty } → Fr (fun i => i = md) w w1 → K (.bool true) w1) : cl P 109 #[pt b, vo] w K := by
  have z512 := zs_length 512
  obtain ⟨ao, co, rfl⟩ := Own.atom hr.own
  apply c109
  unfold F109
  refine px_run ?_
  obtain ⟨T, hT⟩ : ∃ T, p.replay recs = T := ⟨_, rfl⟩
  rw [hT] at k0 k1
  have tp : ∀ {i t : Nat} {cs : List Value}, Bk w i t cs → i ≠ md := fun h e => PM.ne_bk hD h e.symm
  have recsFr : ∀ {w' : World}, Fr (fun i => i = md) w w' → RecsAt w' (.slice ao recs.length co) recs vs := fun f => hr.fr f (fun b hb e => by
    obtain ⟨cs, hc⟩ := Own.bkk hr.own hb
    exact tp hc e) (fun v hv b hb e => by
    obtain ⟨i, hi, rfl⟩ := List.getElem_of_mem hv
    obtain ⟨cs, hc⟩ := Own.bkk (hr.each i (by rw [← hr.len]; exact hi) hi) hb
    exact tp hc e)
  refine lp_of (fun vs' w' => ∃ (i : Nat) (dirty : List (Int × Sec)), vs' = [iv i] ∧ i ≤ recs.length ∧ ({ p with dirty := dirty } : Pg).replay (recs.drop i) = T ∧ PM secv w' md dirty ∧ DkOk { p with dirty := dirty } ∧ Fr (fun i => i = md) w w')
    (fun vs' _ => (match vs' with | [.int _ m] => ((recs.length : Int) - m).toNat | _ => 0)) ⟨0, p.dirty, rfl, by omega, hT, hD, hok, Fr.refl _ _⟩ ?_
  rintro vs' w2 ⟨i, dirty, rfl, hi, hrep, hD2, hok2, f2⟩
  simp only [g0_cons]
  have s2 := f2.size
  refine px_run ?_
  refine cnd_dec (fun hlt => ?_) (fun hge => ?_)
  · have hi' : i < recs.length := by omega
    have hr2 := recsFr f2
    have hvl : i < vs.length := by rw [hr.len]; exact hi'
    refine idx_s (P := P) hr2.own.sl (by omega) i rfl hi' fun b' o _ hc => ?_
    have h0 := hc 0 (by omega)
    rw [Nat.mul_one, Nat.add_zero, Nat.add_zero, List.getElem?_eq_getElem hvl] at h0
    refine ld1 (P := P) h0 ?_
    have hown := hr2.each i hi' hvl
    have hle := hrl _ (List.getElem_mem hi')
    rw [List.drop_eq_getElem_cons hi'] at hrep
    unfold Pg.replay at hrep
    generalize recs[i] = l at hown hle hrep
    refine newReader_k hown.sl hle fun r q w3 h3 hf3 hrn3 hqn3 => ?_
    obtain ⟨T1, hT1⟩ : ∃ T1, ({ p with dirty := dirty } : Pg).replay1 (l.length + 1) ⟨l, false⟩ = T1 := ⟨_, rfl⟩
    rw [hT1] at hrep
    have f3 := f2.then hf3
    refine lp_of (fun vs' w' => ∃ (f : Nat) (R : Rd) (dirty : List (Int × Sec)), vs' = [] ∧ RdAt w' r q R ∧ R.l.length < f ∧ ({ p with dirty := dirty } : Pg).replay1 f R = T1 ∧ PM secv w' md dirty ∧ DkOk { p with dirty := dirty } ∧ Fr (fun i => i = md) w w')
      (fun _ w' => lenAt w' q) ⟨l.length + 1, ⟨l, false⟩, dirty, rfl, h3, Nat.lt_succ_self _, hT1, hD2.fr0 hf3, hok2, f3⟩ ?_
    rintro vs' w4 ⟨f, R, dirty, rfl, h4, hlf, hrep1, hD4, hok4, f4⟩
    have hmq : md ≠ q := by
      obtain ⟨v, hq, _⟩ := h4.rest
      exact PM.ne_bk hD4 hq
    have s4 := f4.size
    have hlq : w.heap.size ≤ q := by omega
    obtain ⟨f, rfl⟩ : ∃ g, f = g + 1 := ⟨f - 1, by omega⟩
    unfold Pg.replay1 at hrep1
    refine rOK_k h4 ?_
    cases hbad : R.bad
    · simp only [Bool.not_false]
      refine gd_tt ?_
      refine gd_tt ?_
      refine rDone_k h4 ?_
      refine gd_tt ?_
      refine px_run ?_
      refine pk_true ?_
      cases hdone : R.done
      · simp only [Bool.not_false]
        refine cnd_true ?_
        rw [hbad, hdone, if_neg (by simp)] at hrep1
        simp only at hrep1
        have hb4 := hb.fr f4 (tp hb)
        refine nc_ptr ?_
        refine px_run ?_
        refine ldB hb4 rfl ?_
        have hp0 := hok.p0
        have hp1 := hok.p1
        haveI : Fits .i64 (p.pages - 1) := fits_i64 (by omega) (by omega)
        refine px_run ?_
        have hcn := Rd.count_nonneg (R := R) (most := p.pages - 1)
        have hcl := Rd.count_le (R := R) (most := p.pages - 1) (by omega)
        have hclen := @Rd.count_lt R (p.pages - 1)
        have hpg : ({ p with dirty := dirty } : Pg).pages = p.pages := rfl
        rw [hpg] at hrep1
        refine rCount_k h4 fun w5 h5 hf5 => ?_
        generalize (R.count (p.pages - 1)).1 = n at hcn hcl hrep1
        generalize (R.count (p.pages - 1)).2 = R2 at h5 hrep1 hclen
        refine rStr_k h5 fun w6 h6 hf6 => ?_
        have hsl := Rd.str_le (R := R2) (most := 512) (by omega)
        have hslen := R2.str_len 512
        have hsb := @Rd.str_bad R2 512
        generalize (R2.str 512).1 = s at hsl hrep1
        generalize (R2.str 512).2 = R3 at h6 hrep1 hslen hsb
        have f46 := hf5.two hf6
        refine rOK_k h6 ?_
        refine px_run ?_
        cases hbad3 : R3.bad
        · simp only [Bool.not_false, Bool.not_true]
          refine cnd_false ?_
          rw [hbad3, if_neg (by simp)] at hrep1
          have hD6 := hD4.fr f46 hmq
          have s5 := f46.size
          refine alloc_k (P := P) (z := zeros 512) fun b10 w7 hb10e hb10 hf7 => ?_
          rw [zeros_bs] at hb10
          refine px_run ?_
          have hmin : Nat.min s.length 512 = s.length := Nat.min_eq_left (by omega)
          refine copyS_k (P := P) hb10 (by rw [bs_length, z512, hmin]; omega) fun w8 hb8 hf8 => ?_
          rw [hmin, List.take_of_length_le (Nat.le_refl _), bs_spl, List.take_zero, List.nil_append, zs_drop, Nat.zero_add] at hb8
          have f68 : Fr no w6 w8 := hf7.new hf8 (fun i hi => by omega)
          refine dr_of ?_
          have fd := Fr.dw w8
          have f69 := f68.trans fd (fun _ h => by cases h)
          have hb9 := hb8.fr0 fd
          have hD9 := hD6.fr0 f69
          have h9 := h6.fr0 f69
          have f9 : Fr (fun i => i = md) w (dw w8) := (f4.trans f46 (fun i e => .inr (by have e' : i = q := e; omega))).then f69
          generalize dw w8 = w9 at fd f69 hb9 hD9 h9 f9
          have hpl : (s ++ zs (512 - s.length)).length = 512 := by rw [List.length_append, zs_length]; omega
          refine ny_ptr ?_
          refine py_run ?_
          refine ldY (hb.fr f9 (tp hb)) rfl ?_
          refine ldAY0 hb9 (by rw [bs_length]; exact hpl) ?_
          refine pm_put (P := P) hD9 (x := s ++ zs (512 - s.length)) rfl fun w10 hD10 hf10 => ?_
          have h10 : RdAt w10 r q R3 := h9.fr hf10 (fun i t cs e h => absurd (show i = md from e) (fun e' => by subst e'; exact PM.ne_bk hD9 h rfl))
          have hlt3 : R3.l.length < R.l.length := by
            have := hclen (hsb hbad3)
            omega
          refine ⟨⟨f, R3, _, trivial, h10, by omega, hrep1, hD10, ⟨fun x hx => ?_, hok4.p0, hok4.p1⟩, f9.two hf10⟩, ?_⟩
          · rcases mput_mem hx with rfl | hx
            · exact ⟨hcn, show n < p.pages by omega, hpl⟩
            · exact hok4.dk x hx
          · rw [h10.lenAt, h4.lenAt]
            exact hlt3
        · simp only [Bool.not_false, Bool.not_true]
          refine cnd_true ?_
          rw [hbad3, if_pos rfl] at hrep1
          rw [← hrep1] at hrep
          simp only at hrep
          exact k0 hrep.symm w6 (f4.trans f46 (fun i e => .inr (by have e' : i = q := e; omega)))
      · simp only [Bool.not_true]
        refine cnd_false ?_
        rw [hbad, hdone, if_pos (by simp)] at hrep1
        have hT1e : T1 = some { p with dirty := dirty } := hrep1.symm
        rw [hT1e] at hrep
        simp only at hrep
        haveI : Fits .i64 ((i : Int) + 1) := fits_i64 (by omega) (by omega)
        refine px_run ?_
        exact ⟨⟨i + 1, dirty, rfl, by omega, hrep, hD4, hok4, f4⟩, show ((recs.length : Int) - ((i : Int) + 1)).toNat < ((recs.length : Int) - (i : Int)).toNat by omega⟩
    · simp only [Bool.not_true]
      iterate 3 refine gd_ft ?_
      refine pk_false ?_
      refine cnd_false ?_
      rw [hbad, if_pos (by simp)] at hrep1
      have hT1e : T1 = some { p with dirty := dirty } := hrep1.symm
      rw [hT1e] at hrep
      simp only at hrep
      haveI : Fits .i64 ((i : Int) + 1) := fits_i64 (by omega) (by omega)
      refine px_run ?_
      exact ⟨⟨i + 1, dirty, rfl, by omega, hrep, hD4, hok4, f4⟩, show ((recs.length : Int) - ((i : Int) + 1)).toNat < ((recs.length : Int) - (i : Int)).toNat by omega⟩
  · have hie : i = recs.length := by omega
    subst hie
    rw [List.drop_length] at hrep
    exact k1 dirty w2 hrep.symm hD2 hok2 f2
end
end Go.Proofs.YtomggfibpbaodaaGreatDoor
