/-
  The statements' first question is answered: two keys are kept.
-/
import Derived.Test.YtomggfibpbaodaaGreatDoorA2
import Derived.Test.YtomggfibpbaodaaGreatDoorA3
set_option maxRecDepth 100000
namespace Go.Proofs.YtomggfibpbaodaaGreatDoor
open Go.V

theorem goodB_good {p : Pg} (h : goodB p = true) : ∃ ch, Good p.cview (Meta.of (p.cview 0)) p.pages ch := by
  unfold goodB at h
  simp only [Bool.and_eq_true, decide_eq_true_eq] at h
  obtain ⟨⟨⟨⟨⟨h1, h2⟩, h3⟩, h4⟩, h5⟩, h6⟩ := h
  exact ⟨[], h1, List.nodup_nil, by rw [h2]; rfl, h3, h4, h5, h6⟩
theorem opensB_opens {D : Disk} (h : opensB D = true) : Opens D := by
  intro p hp _
  unfold opensB at h
  rw [hp] at h
  exact goodB_good h
structure WkFacts : Prop where
  e1 : wk1.2 = 0
  e2 : wk2.2 = 0
  e3 : wk3.2 = 0
  alive : wk3.1.D.dead = false
  free : wk3.1.free = 1494
  opens : Opens wk3.1.D
  last : ∃ p, (Pg.open wk3.1.D).1 = .ok p ∧ wkEnd p = true
theorem wkFacts : WkFacts := by
  have h := wk_ok
  unfold wkB at h
  simp only [Bool.and_eq_true, decide_eq_true_eq] at h
  obtain ⟨⟨⟨⟨⟨⟨h1, h2⟩, h3⟩, h4⟩, h5⟩, h6⟩, h7⟩ := h
  refine ⟨h1, h2, h3, h4, h5, opensB_opens h6, ?_⟩
  cases ho : (Pg.open wk3.1.D).1 with
  | error e => rw [ho] at h7; cases h7
  | ok p => rw [ho] at h7; exact ⟨p, rfl, h7⟩
section
variable {w : World} {K : Value → World → Prop} {b d : Nat} {p : Pg} {F : Nat → Prop}
/-- The disk of a pager. -/
theorem PgM.disk (h : PgM w b d p F) : ∃ Fd, DiskP w d p.D Fd ∧ (∀ i, Fd i → F i) ∧ ∀ i, Fd i → Mut w i := by
  obtain ⟨r, md, mn, mi, mc, Fd, h⟩ := h
  exact ⟨Fd, h.disk, h.fd, fun i hi => h.mu i (h.fd i hi)⟩
theorem works_k (k : ∀ w1, Fr no w w1 → K (.bool true) w1) : cl P 15 #[] w K := by
  obtain ⟨e1, e2, e3, alive, free, opens, q, ho, hend⟩ := wkFacts
  obtain ⟨hwf0, _, _⟩ := Pg.fresh_wf (n := 2000) (by omega) (by omega)
  have hwf1 : wk1.1.WF := hwf0.put _ _
  have hwf2 : wk2.1.WF := hwf1.put _ _
  have hwf3 : wk3.1.WF := hwf2.commit.2 alive
  obtain ⟨hwfq, _, _⟩ := Pg.open_wf hwf3.ok.D alive opens ho
  apply c15
  unfold F15
  refine fresh_k (n := 2000) (by omega) (by omega) fun t b d F w1 ht h hF htn hf1 => ?_
  refine px_run ?_
  refine px_run ?_
  refine px_run ?_
  refine px_run ?_
  refine gd_ff ?_
  refine gd_ff ?_
  have s98 : Value.string ⟨#[98]⟩ = sv [98] := rfl
  have s97 : Value.string ⟨#[97]⟩ = sv [97] := rfl
  have s49 : Value.string ⟨#[49]⟩ = sv [49] := rfl
  rw [s98, s49, s97]
  refine putB_k ht h hwf0 fun w2 h2 hf2 => ?_
  have f2 : Fr no w w2 := hf1.new hf2 (fun i hi => hF i hi)
  have ht2 := TreeAt.q ht hf2 (Quiet.mu h.mu)
  change PgM w2 b d wk1.1 F at h2
  refine gd_ff ?_
  rw [show ((Pg.fresh (Disk.new 2000)).put [98] [49]).2 = 0 from e1]
  refine px_run ?_
  refine pk_false ?_
  refine gd_ff ?_
  refine gd_ff ?_
  refine make_k (P := P) (by' := 1) (n := 1000) (z := [.int .u8 0]) rfl (by decide) (by decide) fun b4 w3 hb4e ho4 hf3 => ?_
  rw [repz] at ho4
  have f3 := f2.trans hf3 (fun _ h => by cases h)
  refine gd_ff ?_
  refine convS_k (l := zs 1000) (by exact ho4.sl) ?_
  refine gd_ff ?_
  refine putB_k (ht2.fr0 hf3) (h2.fr0 hf3) hwf1 fun w4 h4 hf4 => ?_
  have f4 : Fr no w w4 := f3.new hf4 (fun i hi => hF i hi)
  have ht4 := TreeAt.q (ht2.fr0 hf3) hf4 (Quiet.mu (h2.fr0 hf3).mu)
  change PgM w4 b d wk2.1 F at h4
  refine gd_ff ?_
  rw [show (wk1.1.put [97] (zs 1000)).2 = 0 from e2]
  refine px_run ?_
  refine pk_false ?_
  refine gd_ff ?_
  refine gd_ff ?_
  refine commitB_k ht4 h4 hwf2 fun w5 F5 h5 hf5 hg5 => ?_
  have s4 := f4.size
  have f5 : Fr no w w5 := f4.new hf5 (fun i hi => hF i hi)
  have hF5 : ∀ i, F5 i → w.heap.size ≤ i := fun i hi => by
    rcases hg5 i hi with h | h
    · exact hF i h
    · omega
  have ht5 := TreeAt.q ht4 hf5 (Quiet.mu h4.mu)
  change PgM w5 b d wk3.1 F5 at h5
  refine gd_ff ?_
  rw [show wk2.1.commit.2 = 0 from e3]
  refine px_run ?_
  refine pk_false ?_
  refine gd_ff ?_
  refine gd_ff ?_
  refine freeB_k ht5 h5 hwf3 fun w6 hf6 => ?_
  have f6 := f5.trans hf6 (fun _ h => by cases h)
  have h6 := h5.fr0 hf6
  refine gd_ff ?_
  rw [free]
  refine px_run ?_
  refine pk_false ?_
  refine cnd_false ?_
  obtain ⟨Fd, hd, hfd, hmd⟩ := h6.disk
  have hwaits : wk3.1.D.waits.length ≤ 100000 := by rw [hwf3.waits]; simp
  refine open_k hd hmd hwaits opens (fun e w7 F7 he => by rw [ho] at he; cases he) fun p' b' w7 F7 hp' hD h7 hf7 hg7 => ?_
  rw [ho] at hp'
  cases hp'
  have s6 := f6.size
  have f7 : Fr no w w7 := f6.new hf7 (fun i hi => hF5 i (hfd i hi))
  have hF7 : ∀ i, F7 i → w.heap.size ≤ i := fun i hi => by
    rcases hg7 i hi with h | h
    · exact hF5 i (hfd i h)
    · omega
  refine px_run ?_
  refine px_run ?_
  refine px_run ?_
  refine cnd_false ?_
  have s7 := f7.size
  refine newB_k fun t2 w8 hte ht8 hf8 => ?_
  have f8 := f7.trans hf8 (fun _ h => by cases h)
  have h8 := h7.fr0 hf8
  unfold wkEnd at hend
  simp only [Bool.and_eq_true, decide_eq_true_eq] at hend
  obtain ⟨⟨⟨⟨⟨⟨⟨⟨⟨g1, g2⟩, g3⟩, g4⟩, g5⟩, g6⟩, g7⟩, g8⟩, g9⟩, g10⟩ := hend
  refine getB_k ht8 h8 hwfq fun w9 hf9 => ?_
  have f9 := f8.trans hf9 (fun _ h => by cases h)
  have ht9 := ht8.fr0 hf9
  have h9 := h8.fr0 hf9
  refine px_run ?_
  refine px_run ?_
  refine px_run ?_
  refine rangeB_k ht9 h9 hwfq fun vr w10 hvr _ hf10 => ?_
  have f10 := f9.trans hf10 (fun _ h => by cases h)
  have ht10 := ht9.fr0 hf10
  have h10 := h9.fr0 hf10
  refine px_run ?_
  refine px_run ?_
  have hwfd := hwfq.del [97]
  refine delB_k ht10 h10 hwfq fun w11 h11 hf11 => ?_
  have f11 : Fr no w w11 := f10.new hf11 (fun i hi => hF7 i hi)
  have ht11 := TreeAt.q ht10 hf11 (Quiet.mu h10.mu)
  refine px_run ?_
  refine px_run ?_
  rw [g1, g2, g4, g6, g7]
  obtain ⟨ar, cr, rfl⟩ := Own.atom hvr
  rw [g5]
  refine px_run ?_
  refine gd_tt ?_
  refine pk_true ?_
  refine gd_tt ?_
  refine gd_tt ?_
  refine px_run ?_
  refine gd_tt ?_
  rw [g3]
  refine px_run ?_
  refine pk_true ?_
  refine gd_tt ?_
  refine gd_tt ?_
  refine px_run ?_
  refine pk_true ?_
  refine gd_tt ?_
  refine gd_tt ?_
  refine px_run ?_
  refine gd_tt ?_
  refine px_run ?_
  refine pk_true ?_
  refine gd_tt ?_
  refine pk_true ?_
  refine gd_tt ?_
  refine gd_tt ?_
  refine px_run ?_
  refine pk_true ?_
  refine gd_tt ?_
  refine gd_tt ?_
  refine commitB_k ht11 h11 hwfd fun w12 F12 h12 hf12 hg12 => ?_
  have f12 : Fr no w w12 := f11.new hf12 (fun i hi => hF7 i hi)
  have ht12 := TreeAt.q ht11 hf12 (Quiet.mu h11.mu)
  refine gd_tt ?_
  rw [g8]
  refine px_run ?_
  refine pk_true ?_
  refine gd_tt ?_
  refine gd_tt ?_
  refine freeB_k ht12 h12 (hwfd.commit.2 g9) fun w13 hf13 => ?_
  refine gd_tt ?_
  rw [g10]
  refine px_run ?_
  refine pk_true ?_
  exact k w13 (f12.trans hf13 (fun _ h => by cases h))
end
end Go.Proofs.YtomggfibpbaodaaGreatDoor
