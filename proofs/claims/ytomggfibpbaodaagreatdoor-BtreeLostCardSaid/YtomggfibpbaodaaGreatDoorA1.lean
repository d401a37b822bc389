/-
  The statements of the tree: what they call.
-/
import Derived.Test.YtomggfibpbaodaaGreatDoorL1
import Derived.Test.YtomggfibpbaodaaGreatDoorCG
set_option maxRecDepth 100000
namespace Go.Proofs.YtomggfibpbaodaaGreatDoor
open Go.V

/-! ### A disk without a fuse -/
theorem Disk.write_ok {D : Disk} (ha : D.dead = false) (hf : D.fset = false) {i : Int} {s : Sec} (h0 : 0 ≤ i) (h1 : i < D.lasts.length) (hs : s.length = 512) : D.write i s = ((D.push i.toNat s).tick, 0) := by
  unfold Disk.write
  rw [ha, if_neg (by simp), if_neg (by omega)]
  have : (D.push i.toNat s).burns = false := by
    unfold Disk.burns Disk.push
    simp only [hf, Bool.false_and]
  rw [this, if_neg (by simp)]
theorem Disk.flush_ok {D : Disk} (ha : D.dead = false) (hf : D.fset = false) : D.flush = (D.tick.settle (fun _ => true), 0) := by
  unfold Disk.flush
  rw [ha, if_neg (by simp)]
  have : D.burns = false := by
    unfold Disk.burns
    simp only [hf, Bool.false_and]
  rw [this, if_neg (by simp)]
theorem Disk.new_wf {n : Nat} (h0 : 0 < n) (h1 : n ≤ 65536) : (Disk.new n).WF :=
  ⟨fun s hs => by
    have := List.eq_of_mem_replicate hs
    subst this
    exact List.length_replicate, fun _ hp => (by cases hp), by rw [Disk.new_len]; exact h0, by rw [Disk.new_len]; exact h1⟩
theorem Disk.new_at {n i : Nat} (h : i < n) : (Disk.new n).at i = zs 512 := by
  unfold Disk.at Disk.new
  simp only [lastW]
  rw [List.getD_eq_getElem?_getD, List.getElem?_replicate, if_pos h]
  rfl
/-- What a new pager's disk is, where there is no fuse. -/
theorem Disk.formatted_ok {D : Disk} (h : D.WF) (ha : D.dead = false) (hf : D.fset = false) (h64 : 64 ≤ D.lasts.length) :
    D.formatted.2 = 0 ∧ D.formatted.1.dead = false ∧ D.Kin D.formatted.1 ∧ D.formatted.1.waits = [] ∧ D.formatted.1.fset = false ∧
      ∀ j : Nat, D.formatted.1.at j = if j = 0 then mark ++ be 8 0 ++ zs 496 else if j = 1 + places D then Meta.page ⟨0, 1, 0, 0⟩ else D.at j := by
  have hp5 : places D = D.lasts.length / 4 := rfl
  have hml := Meta.page_length ⟨0, 1, 0, 0⟩
  unfold Disk.formatted
  have e1 := Disk.write_ok (i := 1 + (places D : Int)) (s := Meta.page ⟨0, 1, 0, 0⟩) ha hf (by omega) (by omega) hml
  rcases Disk.write_cases h ha (i := 1 + (places D : Int)) (s := Meta.page ⟨0, 1, 0, 0⟩) (by omega) (by omega) hml with ⟨w1, w2, w3, w4, w5⟩ | ⟨w1, _⟩
  · have f1 : (D.write (1 + (places D : Int)) (Meta.page ⟨0, 1, 0, 0⟩)).1.fset = false := by rw [e1]; exact hf
    generalize D.write (1 + (places D : Int)) (Meta.page ⟨0, 1, 0, 0⟩) = X at *
    simp only
    rw [w1, if_neg (by simp)]
    have e2 := Disk.flush_ok w2 f1
    rcases Disk.flush_cases w3.wf w2 with ⟨x1, x2, x3, x4, x5⟩ | ⟨x1, _⟩
    · have f2 : X.1.flush.1.fset = false := by rw [e2]; exact f1
      generalize X.1.flush = Y at *
      rw [x1, if_neg (by simp)]
      unfold Disk.head
      have hhl : (mark ++ be 8 0 ++ zs 496).length = 512 := by rw [List.length_append, List.length_append, be_length, zs_length, mark_length]
      have hpos := x3.wf.pos
      have e3 := Disk.write_ok (i := 0) (s := mark ++ be 8 0 ++ zs 496) x2 f2 (by omega) (by omega) hhl
      rcases Disk.write_cases x3.wf x2 (i := 0) (s := mark ++ be 8 0 ++ zs 496) (by omega) (by omega) hhl with ⟨y1, y2, y3, y4, y5⟩ | ⟨y1, _⟩
      · have f3 : (Y.1.write 0 (mark ++ be 8 0 ++ zs 496)).1.fset = false := by rw [e3]; exact f2
        generalize Y.1.write 0 (mark ++ be 8 0 ++ zs 496) = Z at *
        simp only
        rw [y1, if_neg (by simp)]
        have e4 := Disk.flush_ok y2 f3
        rcases Disk.flush_cases y3.wf y2 with ⟨z1, z2, z3, z4, z5⟩ | ⟨z1, _⟩
        · have f4 : Z.1.flush.1.fset = false := by rw [e4]; exact f3
          refine ⟨z1, z2, ((w3.trans x3).trans y3).trans z3, z4, f4, fun j => ?_⟩
          rw [z5, y5, x5, w5]
          by_cases h0 : j = 0
          · rw [if_pos (by omega), if_pos h0]
          · rw [if_neg (by omega), if_neg h0]
            by_cases h1 : j = 1 + places D
            · rw [if_pos (by omega), if_pos h1]
            · rw [if_neg (by omega), if_neg h1]
        · rw [e4] at z1
          cases z1
      · rw [e3] at y1
        cases y1
    · rw [e2] at x1
      cases x1
  · rw [e1] at w1
    cases w1
/-- A new pager. -/
theorem Pg.fresh_wf {n : Nat} (h0 : 64 ≤ n) (h1 : n ≤ 65536) : (Pg.fresh (Disk.new n)).WF ∧ (Pg.fresh (Disk.new n)).free = (n : Int) - 2 - (n / 4 : Nat) ∧ (Pg.fresh (Disk.new n)).pages = (n : Int) - 1 - (n / 4 : Nat) := by
  have hw := Disk.new_wf (n := n) (by omega) h1
  have hl := Disk.new_len n
  have hp : places (Disk.new n) = n / 4 := by unfold places; rw [hl]
  obtain ⟨f1, f2, f3, f4, f5, f6⟩ := Disk.formatted_ok hw rfl rfl (by omega)
  have hl2 := f3.len
  have hok : (Pg.fresh (Disk.new n)).Ok := by
    refine ⟨f3.wf, Ring.open_wf (by omega) (by omega) (by omega), ?_, ?_, ?_, rfl, ?_, fun _ hx => (by cases hx), fun _ hx => (by cases hx), .nil, .nil, .nil, rfl⟩
    · show (1 : Int) + places (Disk.new n) = 1 + places (Disk.new n).formatted.1
      unfold places
      rw [hl2]
    · show ((Disk.new n).lasts.length : Int) - 1 - places (Disk.new n) = ((Disk.new n).formatted.1.lasts.length : Int) - 1 - places (Disk.new n).formatted.1
      unfold places
      rw [hl2]
    · show 64 ≤ (Disk.new n).formatted.1.lasts.length
      omega
    · show places (Disk.new n) = places (Disk.new n).formatted.1
      unfold places
      rw [hl2]
  have hcv : (Pg.fresh (Disk.new n)).cview 0 = Meta.page ⟨0, 1, 0, 0⟩ := by
    show ((none : Option Sec)).getD ((Disk.new n).formatted.1.at ((1 : Int) + places (Disk.new n) + 0).toNat) = _
    rw [Option.getD_none, f6, if_neg (by omega), if_pos (by omega)]
  have hpg : (Pg.fresh (Disk.new n)).pages = (n : Int) - 1 - (n / 4 : Nat) := by
    show ((Disk.new n).lasts.length : Int) - 1 - places (Disk.new n) = _
    rw [hl, hp]
  have hg : ∀ v, Good v ⟨0, 1, 0, 0⟩ (Pg.fresh (Disk.new n)).pages [] := fun v => ⟨rfl, List.nodup_nil, rfl, by simp, by simp only; rw [hpg]; omega, by simp, by simp only; rw [hpg]; omega⟩
  have hwf : (Pg.fresh (Disk.new n)).WF := ⟨hok, f4, f2, ⟨[], hg _, fun m => by simp [Pg.fresh, Pg.made, mget]⟩, ⟨[], hg _⟩, by
    rw [hcv]
    exact Meta.of_page (by decide) (by decide) (by decide) (by decide)⟩
  refine ⟨hwf, ?_, hpg⟩
  rw [hwf.free_eq, hpg]
  show (n : Int) - 1 - (n / 4 : Nat) - 1 + 0 = _
  omega
section
variable {w : World} {K : Value → World → Prop}
theorem fresh_k {n : Nat} (h0 : 64 ≤ n) (h1 : n ≤ 65536)
    (k : ∀ t b d F w1, TreeAt w1 t b → PgM w1 b d (Pg.fresh (Disk.new n)) F → (∀ i, F i → w.heap.size ≤ i) → w.heap.size ≤ t → Fr no w w1 → K (.tuple #[pt d, pt b, pt t]) w1) : cl P 17 #[iv n] w K := by
  apply c17
  unfold F17
  refine dnew_k (fun h => by omega) fun m hm _ _ d w1 F hd hf1 hF => ?_
  obtain rfl : m = n := by omega
  have hl := Disk.new_len m
  have hp : places (Disk.new m) = m / 4 := by unfold places; rw [hl]
  refine px_run ?_
  refine px_run ?_
  refine px_run ?_
  refine cnd_false ?_
  have hcut := hd.cut
  refine format_k hcut (fun i hi => hi.2) (by simp [Disk.new]) rfl (by omega) (fun i hi => Disk.new_at (by omega)) (Disk.formatted_ok (Disk.new_wf (by omega) h1) rfl rfl (by omega)).1 fun b w2 F' hpg hf2 hg => ?_
  have f2 : Fr no w w2 := hf1.new hf2 (fun i hi => hF i hi.1)
  have s1 := hf1.size
  have hF' : ∀ i, F' i → w.heap.size ≤ i := fun i hi => by
    rcases hg i hi with h | h
    · exact hF i h.1
    · omega
  refine px_run ?_
  refine px_run ?_
  refine px_run ?_
  refine cnd_false ?_
  have s2 := f2.size
  exact newB_k fun t w3 hte htb hf3 => k t b d F' w3 htb (hpg.fr0 hf3) hF' (by omega) (f2.trans hf3 (fun _ h => by cases h))
/-! ### Steps -/
structure LStep where
  kind : Int
  key : Str
  value : Str
  many : Int
def stenc (s : LStep) : List Value := [iv s.kind, sv s.key, sv s.value, iv s.many]
theorem stenc_length (s : LStep) : (stenc s).length = 4 := rfl
theorem stencs_get {l : List LStep} {j q : Nat} (hj : j < l.length) (hq : q < 4) : (l.flatMap stenc)[j * 4 + q]? = (stenc l[j])[q]? := flatGet l j q (fun c _ => stenc_length c) hj hq
def lsum (l : List LStep) : Nat := (l.map fun s => s.key.length + s.value.length).sum
def longB (l : List LStep) : Bool := decide (150 < l.length) || decide (40000 < lsum l)
theorem lsum_take {l : List LStep} {i : Nat} (h : i < l.length) : lsum (l.take (i + 1)) = lsum (l.take i) + (l[i].key.length + l[i].value.length) := by
  unfold lsum
  rw [List.take_succ_eq_append_getElem h, List.map_append, List.sum_append]
  simp
/-- No string is longer than memory lets it be. -/
def Shorts (l : List LStep) : Prop := ∀ s ∈ l, s.key.length ≤ 140737488355328 ∧ s.value.length ≤ 140737488355328
theorem lsum_le {l : List LStep} (h : Shorts l) : ∀ (i : Nat), i ≤ l.length → lsum (l.take i) ≤ i * 281474976710656
  | 0, _ => by simp [lsum]
  | i + 1, hi => by
    rw [lsum_take (by omega)]
    have := lsum_le h i (by omega)
    have h2 := h _ (List.getElem_mem (show i < l.length by omega))
    omega
theorem long16_k {v : Value} {l : List LStep} (h : Sl w v 4 l.length (l.flatMap stenc)) (hs : Shorts l) (hl : l.length ≤ 140737488355328) (k : ∀ w1, Fr no w w1 → K (.bool (longB l)) w1) : cl P 16 #[v] w K := by
  obtain ⟨_, av, cv', rfl, _⟩ := id h
  apply c16
  unfold F16
  refine lp_of (fun vs w' => ∃ (n : Int) (i : Nat), vs = [iv n, iv i] ∧ i ≤ l.length ∧ (l.length ≤ 150 → n = lsum (l.take i)) ∧ Fr no w w') (fun vs _ => (match vs with | [_, .int _ m] => ((l.length : Int) - m).toNat | _ => 0)) ⟨0, 0, rfl, by omega, fun _ => rfl, Fr.refl _ _⟩ ?_
  rintro vs w1 ⟨n, i, rfl, hi, hn, hf⟩
  simp only [g0_cons, g1_cons]
  refine px_run ?_
  refine px_run ?_
  have h1 := h.fr0 hf
  refine cnd_dec (fun hlt => ?_) (fun hge => ?_)
  · have hi' : i < l.length := by omega
    refine dr_of ?_
    have fd := Fr.dw w1
    have hfd := hf.trans fd (fun _ h => by cases h)
    have hd := h1.fr0 fd
    generalize dw w1 = wd at fd hfd hd ⊢
    obtain ⟨bb, oo, cap, e, hle, hcell⟩ := hd.addr (by omega) (by omega)
    simp only [Value.slice.injEq, true_and] at e
    obtain ⟨rfl, rfl⟩ := e
    have hc : ∀ q, q < 4 → wd.cell? ⟨bb, oo + (i * 4 + q), none⟩ = (stenc l[i])[q]? := fun q hq => by rw [hcell (i * 4 + q) (by omega), stencs_get hi' hq]
    refine idxY (P := P) i rfl hi' ?_
    refine py_run ?_
    refine ldBy (P := P) (fun w' f => cell_ext (show wd.cell? ⟨bb, oo + i * 4 + 1, none⟩ = _ from by rw [Nat.add_assoc]; exact hc 1 (by omega)) f) ?_
    refine py_run ?_
    refine py_run ?_
    refine idxY (P := P) i rfl hi' ?_
    refine py_run ?_
    refine ldBy (P := P) (fun w' f => cell_ext (show wd.cell? ⟨bb, oo + i * 4 + 2, none⟩ = _ from by rw [Nat.add_assoc]; exact hc 2 (by omega)) f) ?_
    refine py_run ?_
    refine py_run ?_
    haveI : Fits .i64 ((i : Int) + 1) := fits_i64 (by omega) (by omega)
    refine px_run ?_
    refine ⟨⟨_, i + 1, rfl, by omega, fun h150 => ?_, hfd⟩, show ((l.length : Int) - ((i : Int) + 1)).toNat < ((l.length : Int) - (i : Int)).toNat by omega⟩
    have hn' := hn h150
    have hsl := lsum_le hs i hi
    have hst := hs _ (List.getElem_mem hi')
    rw [lsum_take hi', hn']
    have e1 : w64 ((lsum (l.take i) : Int) + (l[i].key.length : Int)) = (lsum (l.take i) : Int) + (l[i].key.length : Int) := w64_id (by omega) (by omega)
    have e2 : w64 (w64 ((lsum (l.take i) : Int) + (l[i].key.length : Int)) + (l[i].value.length : Int)) = (lsum (l.take i) : Int) + (l[i].key.length : Int) + (l[i].value.length : Int) := by
      rw [e1]
      exact w64_id (by omega) (by omega)
    refine Eq.trans e2 ?_
    omega
  · have : i = l.length := by omega
    subst this
    rw [List.take_length] at hn
    refine px_run ?_
    refine px_run ?_
    have k := k w1 hf
    unfold longB at k
    by_cases h150 : 150 < l.length
    · have hd : decide ((l.length : Int) > 150) = true := decide_eq_true (by omega)
      simp only [hd]
      iterate 2 refine gd_tf ?_
      refine pk_true ?_
      rw [decide_eq_true h150] at k
      exact k
    · have hd : decide ((l.length : Int) > 150) = false := decide_eq_false (by omega)
      simp only [hd]
      refine gd_ff ?_
      refine gd_ff ?_
      refine px_run ?_
      refine pk_false ?_
      rw [decide_eq_false h150, Bool.false_or] at k
      have hn' := hn (by omega)
      have e : decide (n > 40000) = decide (40000 < lsum l) := by
        apply decide_eq_decide.2
        omega
      rw [e]
      exact k
def valF (val : Str) : Nat → Str → Str
  | 0, v => v
  | f + 1, v => if v.length < 9000 then valF val f (v ++ val) else v
/-- How often a step's value is put together. -/
def LStep.times (s : LStep) : Nat := (s.many % 18446744073709551616 % 600).toNat
def LStep.val (s : LStep) : Str := valF s.value s.times []
theorem wrapU (x : Int) : IntKind.u64.wrap x = x % 18446744073709551616 := by
  simp only [IntKind.wrap, IntKind.signed, IntKind.bits]
  simp
theorem convU_run {x : Int} {w : World} : (convert 3 50 (iv x)).run P w = .ok (.int .u64 (x % 18446744073709551616)) w := by
  have h3 : P.underlying 3 = some (.int .i64) := by kernel_rfl
  have h5 : P.underlying 50 = some (.int .u64) := by kernel_rfl
  simp only [convert, run_underlying h3, run_underlying h5, Sem.run_bind, Result.andThen_ok]
  simp [Conv.intToInt, wrapU]
theorem convI_run {x : Int} {w : World} (h0 : 0 ≤ x) (h1 : x < 9223372036854775808) : (convert 50 3 (.int .u64 x)).run P w = .ok (iv x) w := by
  have h3 : P.underlying 3 = some (.int .i64) := by kernel_rfl
  have h5 : P.underlying 50 = some (.int .u64) := by kernel_rfl
  have hw := wrap_i64 (n := x) (by omega) (by omega)
  simp only [convert, run_underlying h3, run_underlying h5, Sem.run_bind, Result.andThen_ok]
  simp [Conv.intToInt, hw]
theorem remU_run {c : Bool} {x y : Int} {w : World} (hx : 0 ≤ x) (_hx1 : x < 18446744073709551616) (hy : 0 < y) : (bin c .rem 50 (.int .u64 x) (.int .u64 y)).run P w = .ok (.int .u64 (x % y)) w := by
  refine bin_of _ _ _ (by cases c <;> rfl) ?_
  rw [binOp_rem, Op.intDiv, if_neg (by omega), ← Int.tmod_eq_emod_of_nonneg hx]
  rfl
theorem value19_k {s : LStep} (hs : s.value.length ≤ 140737488355328) (k : ∀ w1, Fr no w w1 → K (sv s.val) w1) : cl P 19 #[.agg (stenc s).toArray] w K := by
  apply c19
  unfold F19
  refine boxA_k fun b1 w1 hb1e hb1 hf1 => ?_
  have ht : s.times < 600 := by unfold LStep.times; omega
  rw [sv_nil]
  refine lp_of (fun vs w' => ∃ (v : Str) (i : Nat), vs = [sv v, iv i] ∧ i ≤ s.times ∧ w' = w1 ∧ s.val = valF s.value (s.times - i) v) (fun vs _ => (match vs with | [_, .int _ m] => ((s.times : Int) - m).toNat | _ => 0)) ⟨[], 0, rfl, by omega, rfl, rfl⟩ ?_
  rintro vs w2 ⟨v, i, rfl, hi, rfl, hv⟩
  simp only [g0_cons, g1_cons]
  refine px_run ?_
  refine ldB hb1 rfl ?_
  refine px_of convU_run ?_
  refine px_of (remU_run (by omega) (by omega) (by omega)) ?_
  refine px_of (convI_run (by omega) (by omega)) ?_
  have e : s.many % 18446744073709551616 % 600 = (s.times : Int) := by unfold LStep.times; omega
  rw [e]
  refine px_run ?_
  by_cases hlt : i < s.times
  · have hd : decide ((i : Int) < (s.times : Int)) = true := decide_eq_true (by omega)
    simp only [hd]
    refine gd_tt ?_
    refine gd_tt ?_
    refine px_run ?_
    refine gd_tt ?_
    refine px_run ?_
    refine pk_true ?_
    rw [show s.times - i = (s.times - (i + 1)) + 1 by omega] at hv
    unfold valF at hv
    refine cnd_dec (fun h9 => ?_) (fun h9 => ?_)
    · rw [if_pos (by omega)] at hv
      refine px_run ?_
      refine ldB hb1 rfl ?_
      refine px_of (addS_run (by omega)) ?_
      haveI : Fits .i64 ((i : Int) + 1) := fits_i64 (by omega) (by omega)
      refine px_run ?_
      exact ⟨⟨_, i + 1, rfl, by omega, rfl, hv⟩, show ((s.times : Int) - ((i : Int) + 1)).toNat < ((s.times : Int) - (i : Int)).toNat by omega⟩
    · rw [if_neg (by omega)] at hv
      have k := k w2 hf1
      rw [hv] at k
      exact k
  · have hd : decide ((i : Int) < (s.times : Int)) = false := decide_eq_false (by omega)
    simp only [hd]
    iterate 3 refine gd_ft ?_
    refine pk_false ?_
    refine cnd_false ?_
    rw [show s.times - i = 0 by omega] at hv
    have k := k w2 hf1
    rw [hv] at k
    exact k
end
end Go.Proofs.YtomggfibpbaodaaGreatDoor
