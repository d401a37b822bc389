/-
  Whatever lies in the pages, what is asked of a tree ends.
-/
import Derived.Test.YtomggfibpbaodaaGreatDoorA4
import Derived.Test.YtomggfibpbaodaaGreatDoorCL
import Derived.Test.YtomggfibpbaodaaGreatDoorL0
set_option maxRecDepth 100000
namespace Go.Proofs.YtomggfibpbaodaaGreatDoor
open Go.V

theorem Pg.tryLog_pages (p : Pg) (l : Str) : (p.tryLog l).1.pages = p.pages := by
  have hs : ∀ (q : Pg) b, (q.settle b).1.pages = q.pages := fun q b => by
    unfold Pg.settle
    simp only
    split
    · rfl
    · split
      · rfl
      · split <;> rfl
  unfold Pg.tryLog
  split
  · split
    · exact hs _ _
    · exact hs _ _
  · rfl
theorem Pg.commit_pages (p : Pg) : p.commit.1.pages = p.pages := by
  unfold Pg.commit
  split
  · rfl
  · split
    · rfl
    · have hx := Pg.tryLog_pages ({ p with now := mdel (mput p.now 0 p.m.page) 0 } : Pg) (recOf (mput p.now 0 p.m.page))
      generalize ({ p with now := mdel (mput p.now 0 p.m.page) 0 } : Pg).tryLog (recOf (mput p.now 0 p.m.page)) = X at hx ⊢
      unfold Pg.finish
      split
      · exact hx
      · split
        · exact hx
        · exact hx
theorem Pg.WF.pages_eq {p q : Pg} (h : p.WF) (k : q.WF) (e : q.D = p.D) : q.pages = p.pages := by rw [k.ok.pages, h.ok.pages, e]
section
variable {w : World} {K : Value → World → Prop}
/-- A tree at work, in memory that is newer than a world. -/
structure Busy (w w' : World) (t b d : Nat) (p : Pg) (F : Nat → Prop) : Prop where
  tree : TreeAt w' t b
  pg : PgM w' b d p F
  wf : p.WF
  calm : p.D.Calm
  new : ∀ i, F i → w.heap.size ≤ i
  fr : Fr no w w'
theorem Busy.next {w w1 w2 : World} {t b d : Nat} {p q : Pg} {F : Nat → Prop} (h : Busy w w1 t b d p F) (k : PgM w2 b d q F) (hq : q.WF) (hc : q.D.Calm) (f : Fr F w1 w2) : Busy w w2 t b d q F :=
  ⟨TreeAt.q h.tree f (Quiet.mu h.pg.mu), k, hq, hc, h.new, h.fr.new f h.new⟩
theorem Busy.fr0 {w w1 w2 : World} {t b d : Nat} {p : Pg} {F : Nat → Prop} (h : Busy w w1 t b d p F) (f : Fr no w1 w2) : Busy w w2 t b d p F :=
  ⟨h.tree.fr0 f, h.pg.fr0 f, h.wf, h.calm, h.new, h.fr.trans f (fun _ h => by cases h)⟩
theorem own_of {b n : Nat} {l : List UInt8} (h : Bk w b 5 (bs l)) (hn : l.length = n) (hm : n ≤ 1000000) : Own w (.slice (some ⟨b, 0, none⟩) n n) 5 1 n (bs l) :=
  ⟨by rw [bs_length]; omega, .inr ⟨b, n, (bs l).toArray, rfl, Nat.zero_le _, h, Nat.le_refl _, by unfold maxLen; omega, by simp [bs_length, hn], List.take_of_length_le (by simp only [bs_length]; omega)⟩⟩
theorem lost_k {v0 v2 : Value} {root : Int} {m : Nat} {vs : List Value} {l : List LStep} (hp : Sl w v0 1 m vs) (hpl : m ≤ 140737488355328) (hpe : ∀ (i : Nat) (u : Value), vs[i]? = some u → ∃ s : List UInt8, Sl w u 1 s.length (bs s))
    (hl : Sl w v2 4 l.length (l.flatMap stenc)) (hsh : Shorts l) (hll : l.length ≤ 140737488355328) (k : ∀ w1, Fr no w w1 → K (.bool true) w1) : cl P 6 #[v0, iv root, v2] w K := by
  obtain ⟨hvl, a0, c0, rfl, hc0⟩ := id hp
  apply c6
  unfold F6
  refine works_k fun w1 hf1 => ?_
  refine px_run ?_
  refine gd_ff ?_
  refine gd_ff ?_
  refine px_run ?_
  refine gd_ff ?_
  refine px_run ?_
  refine pk_false ?_
  have stop : ∀ w2, Fr no w w2 → cl P 15 #[] w2 fun v27 w => K v27 w := fun w2 f2 => works_k fun w3 f3 => k w3 (f2.trans f3 (fun _ h => by cases h))
  by_cases h40 : 40 < m
  · have hd : decide ((m : Int) > 40) = true := decide_eq_true (by omega)
    simp only [hd]
    iterate 2 refine gd_tf ?_
    refine pk_true ?_
    refine cnd_true ?_
    exact stop w1 hf1
  have hd : decide ((m : Int) > 40) = false := decide_eq_false (by omega)
  simp only [hd]
  refine gd_ff ?_
  refine gd_ff ?_
  refine long16_k (hl.fr0 hf1) hsh hll fun w2 hf2 => ?_
  have f2 := hf1.trans hf2 (fun _ h => by cases h)
  refine pk_false ?_
  cases hlong : longB l with
  | true => exact cnd_true (stop w2 f2)
  | false =>
    refine cnd_false ?_
    unfold longB at hlong
    simp only [Bool.or_eq_false_iff, decide_eq_false_iff_not] at hlong
    obtain ⟨hwf0, hfree0, hpg0⟩ := Pg.fresh_wf (n := 400) (by omega) (by omega)
    refine fresh_k (n := 400) (by omega) (by omega) fun t0 b d F w3 ht0 h3 hF _ hf3 => ?_
    have s2 := f2.size
    have f3 := f2.trans hf3 (fun _ h => by cases h)
    have hF' : ∀ i, F i → w.heap.size ≤ i := fun i hi => by have := hF i hi; omega
    have hcalm0 : (Pg.fresh (Disk.new 400)).D.Calm := by
      have := Disk.formatted_ok (Disk.new_wf (n := 400) (by omega) (by omega)) rfl rfl (by rw [Disk.new_len]; omega)
      exact ⟨this.2.1, this.2.2.2.2.1⟩
    refine px_run ?_
    refine px_run ?_
    refine px_run ?_
    refine lp_of (fun vs' w' => ∃ (i : Nat) (p : Pg), vs' = [iv i] ∧ i ≤ m ∧ PgM w' b d p F ∧ p.WF ∧ p.D.Calm ∧ p.pages = 299 ∧ p.free = 298 - (i : Int) ∧ Fr no w w') (fun vs' _ => (match vs' with | [.int _ n] => ((m : Int) - n).toNat | _ => 0)) ⟨0, _, rfl, by omega, h3, hwf0, hcalm0, by rw [hpg0]; rfl, by rw [hfree0]; rfl, f3⟩ ?_
    rintro vs' w4 ⟨i, p, rfl, hi, h4, hw4, hc4, hpp, hfr, f4⟩
    simp only [g0_cons]
    have hp4 := hp.fr0 f4
    refine px_run ?_
    refine px_run ?_
    refine cnd_dec (fun hlt => ?_) (fun hge => ?_)
    · have hi' : i < m := by omega
      obtain ⟨n, a1, a2, a3, a4, a5, a6, a7, a8⟩ := hw4.alloc_law (by omega)
      refine alloc30_k h4 hw4 fun w5 h5 hf5 => ?_
      have f5 : Fr no w w5 := f4.new hf5 hF'
      rw [a1]
      refine px_run ?_
      refine px_run ?_
      refine make_k (P := P) (by' := 1) (n := 512) (z := [.int .u8 0]) rfl (by decide) (by decide) fun b4 w6 hb4e ho4 hf6 => ?_
      rw [repz] at ho4
      have f6 := f5.trans hf6 (fun _ h => by cases h)
      have h6 := h5.fr0 hf6
      obtain ⟨g, cap, cs, e, hbg, _, _, hcs, htk⟩ := ho4.bk (by decide)
      simp only [Value.slice.injEq, Option.some.injEq, Addr.mk.injEq, and_true, true_and] at e
      obtain ⟨rfl, rfl⟩ := e
      have hcs' : cs = bs (zs 512) := by
        rw [← htk, List.take_of_length_le (by omega)]
      subst hcs'
      have hvi : i < vs.length := by omega
      obtain ⟨sp, hsp⟩ := hpe i vs[i] (List.getElem?_eq_getElem hvi)
      have hp6 := hp.fr0 f6
      refine idx_s (P := P) hp6 (by omega) i rfl hi' fun bb o _ hc => ?_
      have hc1 := hc 0 (by omega)
      rw [Nat.mul_one, Nat.add_zero, Nat.add_zero, List.getElem?_eq_getElem hvi] at hc1
      refine ld1 (P := P) hc1 ?_
      refine copy_k (P := P) (t := 43) hbg (hsp.fr0 f6) (by rw [bs_take]; exact atoms_bs _) (by
        rw [bs_length, zs_length]
        have := Nat.min_le_right sp.length 512
        show 0 + min sp.length 512 * 1 ≤ 512
        omega) fun w7 hb7 hf7 => ?_
      rw [bs_take, bs_spl] at hb7
      generalize hS : ((zs 512).take 0 ++ sp.take (Nat.min sp.length 512 * 1) ++ (zs 512).drop (0 + (sp.take (Nat.min sp.length 512 * 1)).length)) = S at hb7
      have hSl : S.length = 512 := by
        rw [← hS]
        have := Nat.min_le_right sp.length 512
        have e1 : (sp.take (Nat.min sp.length 512 * 1)).length = min sp.length 512 := by
          rw [List.length_take]
          show min (min sp.length 512 * 1) sp.length = _
          omega
        simp only [List.length_append, List.length_drop, List.take_zero, List.length_nil, e1, zs_length]
        omega
      have s5 := f5.size
      have f7 : Fr no w w7 := f6.new hf7 (fun j hj => by omega)
      have h7 := h6.fr hf7 (fun j hj e => Bk.offM hbg h6.mu (by decide) (e ▸ hj))
      have hO := own_of (w := w7) hb7 hSl (by omega)
      refine px_run ?_
      refine gd_ff ?_
      refine gd_ff ?_
      refine gd_ff ?_
      refine gd_ff ?_
      have hun := (a3 n).2 (.inr rfl)
      have e2 : p.alloc.2.1 = n := by rw [a1]
      have hSl' : Sl w7 (.slice (some ⟨b4, 0, none⟩) 512 512) 1 S.length (bs S) := by rw [hSl]; exact hO.sl
      refine write_k h7 a8 hSl' (Own.offM hO h7.mu (by decide)) fun w8 h8 hf8 => ?_
      obtain ⟨x1, x2, x3, x4, x5, x6, x7⟩ := a8.write_law hun hSl
      have f8 : Fr no w w8 := f7.new hf8 hF'
      refine gd_ff ?_
      rw [x1]
      refine px_run ?_
      refine pk_false ?_
      refine cnd_false ?_
      haveI : Fits .i64 ((i : Int) + 1) := fits_i64 (by omega) (by omega)
      refine px_run ?_
      refine ⟨⟨i + 1, _, rfl, by omega, h8, x7, ?_, ?_, ?_, f8⟩, show ((m : Int) - ((i : Int) + 1)).toNat < ((m : Int) - (i : Int)).toNat by omega⟩
      · rw [Pg.write_D, Pg.alloc_D]
        exact hc4
      · rw [x6.pages, a7.pages, hpp]
      · rw [x4, a5, hfr]
        omega
    -- the steps
    refine px_run ?_
    refine px_run ?_
    have rest : ∀ (p : Pg) (w5 : World), PgM w5 b d p F → p.WF → p.D.Calm → p.pages = 299 → Fr no w w5 → cl P 26 #[pt b] w5 fun v77 w =>
        lp [(.int .i64 0)] w fun again2 vs2 w => px P (Builtin.len_ #[22] 3 #[v2]) w fun v80 w => px P (bin false .lss 3 (g0 vs2) v80) w fun v81 w => cnd v81 (
          px P (Instr.indexAt 22 v2 (g0 vs2)) w fun v86 w =>
          px P (Instr.fieldAt 31 v86 0) w fun v87 w =>
          px P (Instr.loadAt 3 v87) w fun v88 w =>
          px P (bin true .eql 3 v88 (.int .i64 0)) w fun v90 w =>
          cut (fun J3 =>
            cnd v90 (
              dr w fun w =>
              held w fun S =>
              py P (fun _ => True) (Instr.indexAt 22 v2 (g0 vs2)) fun v94 =>
              py P (fun _ => True) (Instr.fieldAt 31 v94 1) fun v95 =>
              py P S (Instr.loadAt 9 v95) fun v96 =>
              py P (fun _ => True) (Instr.indexAt 22 v2 (g0 vs2)) fun v99 =>
              py P (Ext w) (Instr.loadAt 31 v99) fun v100 =>
              cl P 19 #[v100] w fun v101 w => hs S w <|
              cl P 18 #[v77, v96, v101] w fun _ w => hs S w <|
              J3 [] w) (
              px P (bin true .eql 3 v88 (.int .i64 1)) w fun v104 w =>
              cut (fun J4 =>
                cnd v104 (
                  px P (Instr.indexAt 22 v2 (g0 vs2)) w fun v108 w =>
                  px P (Instr.fieldAt 31 v108 1) w fun v109 w =>
                  px P (Instr.loadAt 9 v109) w fun v110 w =>
                  cl P 22 #[v77, v110] w fun _ w =>
                  J4 [] w) (
                  px P (bin true .eql 3 v88 (.int .i64 2)) w fun v113 w =>
                  cut (fun J5 =>
                    cnd v113 (
                      px P (Instr.indexAt 22 v2 (g0 vs2)) w fun v117 w =>
                      px P (Instr.fieldAt 31 v117 1) w fun v118 w =>
                      px P (Instr.loadAt 9 v118) w fun v119 w =>
                      cl P 20 #[v77, v119] w fun _ w =>
                      J5 [] w) (
                      px P (bin true .eql 3 v88 (.int .i64 3)) w fun v122 w =>
                      cut (fun J6 =>
                        cnd v122 (
                          px P (Instr.indexAt 22 v2 (g0 vs2)) w fun v126 w =>
                          px P (Instr.fieldAt 31 v126 1) w fun v127 w =>
                          px P (Instr.loadAt 9 v127) w fun v128 w =>
                          cl P 21 #[v77, v128, (.string ⟨#[]⟩)] w fun _ w =>
                          J6 [] w) (
                          px P (bin true .eql 3 v88 (.int .i64 4)) w fun v131 w =>
                          cut (fun J7 =>
                            cnd v131 (
                              cl P 25 #[v77] w fun _ w =>
                              J7 [] w) (
                              J7 [] w)) fun _ w =>
                          J6 [] w)) fun _ w =>
                      J5 [] w)) fun _ w =>
                  J4 [] w)) fun _ w =>
              J3 [] w)) fun _ w =>
          px P (bin true .add 3 (g0 vs2) (.int .i64 1)) w fun v83 w =>
          again2 [v83] w) (
          cl P 33 #[pt b] w fun v135 w =>
          px P (bin true .eql 3 v135 (.int .i64 299)) w fun v136 w =>
          K v136 w) := by
      intro p w5 h5 hw5 hc5 hp5 f5
      obtain ⟨_, a2, c2, rfl, _⟩ := id hl
      have s5 := f5.size
      refine newB_k fun t w6 hte ht6 hf6 => ?_
      refine lp_of (fun vs' w' => ∃ (i : Nat) (q : Pg) (F' : Nat → Prop), vs' = [iv i] ∧ i ≤ l.length ∧ Busy w w' t b d q F' ∧ q.pages = 299) (fun vs' _ => (match vs' with | [.int _ n] => ((l.length : Int) - n).toNat | _ => 0)) ⟨0, p, F, rfl, by omega, ⟨ht6, h5.fr0 hf6, hw5, hc5, hF', f5.trans hf6 (fun _ h => by cases h)⟩, hp5⟩ ?_
      rintro vs' w7 ⟨i, q, F', rfl, hi, hB, hq⟩
      simp only [g0_cons]
      refine px_run ?_
      refine px_run ?_
      refine cnd_dec (fun hlt => ?_) (fun hge => ?_)
      · have hi' : i < l.length := by omega
        have hst : ∀ w', Fr no w w' → ∃ bb oo, a2 = some ⟨bb, oo, none⟩ ∧ ∀ r, r < 4 → w'.cell? ⟨bb, oo + (i * 4 + r), none⟩ = (stenc l[i])[r]? := fun w' f => by
          obtain ⟨bb, oo, cap, e, hle, hcell⟩ := (hl.fr0 f).addr (by omega) (by omega)
          simp only [Value.slice.injEq, true_and] at e
          exact ⟨bb, oo, e.1, fun r hr => by rw [hcell (i * 4 + r) (by omega), stencs_get hi' hr]⟩
        obtain ⟨bb, oo, rfl, _⟩ := hst w (Fr.refl _ _)
        have hcell : ∀ w', Fr no w w' → ∀ r, r < 4 → w'.cell? ⟨bb, oo + i * 4 + r, none⟩ = (stenc l[i])[r]? := fun w' f r hr => by
          obtain ⟨b', o', e, h⟩ := hst w' f
          simp only [Option.some.injEq, Addr.mk.injEq, and_true] at e
          obtain ⟨rfl, rfl⟩ := e
          rw [Nat.add_assoc]
          exact h r hr
        have hshort := hsh _ (List.getElem_mem hi')
        generalize l[i] = st at *
        refine idx_k (P := P) i rfl hi' ?_
        refine px_run ?_
        refine ld1 (P := P) (hcell w7 hB.fr 0 (by omega)) ?_
        refine px_run ?_
        haveI : Fits .i64 ((i : Int) + 1) := fits_i64 (by omega) (by omega)
        refine cut_of (fun _ w' => ∃ (q' : Pg) (F' : Nat → Prop), Busy w w' t b d q' F' ∧ q'.pages = 299) ?_ ?_
        · refine cnd_dec (fun hk0 => ?_) (fun hk0 => ?_)
          · refine dr_of ?_
            have hBd := hB.fr0 (Fr.dw w7)
            generalize dw w7 = wd at hBd ⊢
            refine held_of (fun w' => Fr no w w') hBd.fr ?_
            refine idxY (P := P) i rfl hi' ?_
            refine py_run ?_
            refine ldBy (P := P) (fun w' f => hcell w' f 1 (by omega)) ?_
            refine idxY (P := P) i rfl hi' ?_
            refine ldCY (P := P) (xs := stenc st) rfl (fun r hr => hcell wd hBd.fr r hr) ?_
            refine value19_k hshort.2 fun w8 hf8 => ?_
            have hB8 := hBd.fr0 hf8
            refine hs_of hB8.fr ?_
            refine putB_k hB8.tree hB8.pg hB8.wf fun w9 h9 hf9 => ?_
            have hB9 := hB8.next h9 (hB8.wf.put _ _) (by rw [Pg.put_D]; exact hB8.calm) hf9
            refine hs_of hB9.fr ?_
            exact ⟨_, _, hB9, by rw [hB8.wf.pages_eq hB9.wf (Pg.put_D _ _ _)]; exact hq⟩
          · refine px_run ?_
            refine cut_in ?_
            refine cnd_dec (fun hk1 => ?_) (fun hk1 => ?_)
            · refine idx_k (P := P) i rfl hi' ?_
              refine px_run ?_
              refine ld1 (P := P) (hcell w7 hB.fr 1 (by omega)) ?_
              refine delB_k hB.tree hB.pg hB.wf fun w9 h9 hf9 => ?_
              have hB9 := hB.next h9 (hB.wf.del _) (by rw [Pg.del_D]; exact hB.calm) hf9
              exact ⟨_, _, hB9, by rw [hB.wf.pages_eq hB9.wf (Pg.del_D _ _)]; exact hq⟩
            · refine px_run ?_
              refine cut_in ?_
              refine cnd_dec (fun hk2 => ?_) (fun hk2 => ?_)
              · refine idx_k (P := P) i rfl hi' ?_
                refine px_run ?_
                refine ld1 (P := P) (hcell w7 hB.fr 1 (by omega)) ?_
                exact getB_k hB.tree hB.pg hB.wf fun w9 hf9 => ⟨_, _, hB.fr0 hf9, hq⟩
              · refine px_run ?_
                refine cut_in ?_
                refine cnd_dec (fun hk3 => ?_) (fun hk3 => ?_)
                · refine idx_k (P := P) i rfl hi' ?_
                  refine px_run ?_
                  refine ld1 (P := P) (hcell w7 hB.fr 1 (by omega)) ?_
                  rw [sv_nil]
                  exact rangeB_k hB.tree hB.pg hB.wf fun v w9 _ _ hf9 => ⟨_, _, hB.fr0 hf9, hq⟩
                · refine px_run ?_
                  refine cut_in ?_
                  refine cnd_dec (fun hk4 => ?_) (fun hk4 => ?_)
                  · refine commitB_k hB.tree hB.pg hB.wf fun w9 F9 h9 hf9 hg9 => ?_
                    have hc9 := Pg.commit_calm hB.calm
                    have s7 := hB.fr.size
                    refine ⟨_, F9, ⟨TreeAt.q hB.tree hf9 (Quiet.mu hB.pg.mu), h9, hB.wf.commit.2 hc9.dead, hc9, fun j hj => ?_, hB.fr.new hf9 hB.new⟩, by rw [Pg.commit_pages]; exact hq⟩
                    rcases hg9 j hj with h | h
                    · exact hB.new j h
                    · omega
                  · exact ⟨_, _, hB, hq⟩
        · rintro _ w8 ⟨q', F'', hB8, hq8⟩
          refine px_run ?_
          exact ⟨⟨i + 1, q', F'', rfl, by omega, hB8, hq8⟩, show ((l.length : Int) - ((i : Int) + 1)).toNat < ((l.length : Int) - (i : Int)).toNat by omega⟩
      · obtain ⟨r, md, mn, mi, mc, Fd, hr⟩ := id hB.pg
        refine npages_k hr ?_
        rw [hq]
        refine px_run ?_
        exact k w7 hB.fr
    by_cases hm0 : 0 < m
    · have hd : decide ((m : Int) > 0) = true := decide_eq_true (by omega)
      simp only [hd]
      refine gd_tt ?_
      refine gd_tt ?_
      refine gd_tt ?_
      refine px_of convU_run ?_
      refine gd_tt ?_
      refine gd_tt ?_
      refine px_run ?_
      refine gd_tt ?_
      refine px_of convU_run ?_
      refine gd_tt ?_
      have em : (m : Int) % 18446744073709551616 = m := by omega
      rw [em]
      have hr1 := Int.emod_nonneg (root % 18446744073709551616) (b := (m : Int)) (by omega)
      have hr2 := Int.emod_lt_of_pos (root % 18446744073709551616) (b := (m : Int)) (by omega)
      refine px_of (remU_run (by omega) (by omega) (by omega)) ?_
      refine gd_tt ?_
      refine px_of (convI_run hr1 (by omega)) ?_
      refine gd_tt ?_
      haveI : Fits .i64 (1 + root % 18446744073709551616 % (m : Int)) := fits_i64 (by omega) (by omega)
      refine px_run ?_
      refine gd_tt ?_
      refine setRoot_k h4 fun w5 h5 hf5 => ?_
      refine gd_tt ?_
      have hcode : ∀ n, (p.setRoot n).2 = 0 ∨ (p.setRoot n).2 = 1 := fun n => by
        unfold Pg.setRoot
        split
        · exact .inr rfl
        · exact .inl rfl
      have hw5 := hw4.setRoot (1 + root % 18446744073709551616 % (m : Int))
      have hne2 : decide ((p.setRoot (1 + root % 18446744073709551616 % (m : Int))).2 = 2) = false := decide_eq_false (by rcases hcode (1 + root % 18446744073709551616 % (m : Int)) with h | h <;> rw [h] <;> decide)
      refine px_run ?_
      simp only [hne2]
      refine pk_true ?_
      refine cnd_false ?_
      exact rest _ w5 h5 hw5 (by rw [Pg.setRoot_D]; exact hc4) (by rw [hw4.pages_eq hw5 (Pg.setRoot_D _ _)]; exact hpp) (f4.new hf5 hF')
    · have hd : decide ((m : Int) > 0) = false := decide_eq_false (by omega)
      simp only [hd]
      iterate 11 refine gd_ft ?_
      refine pk_false ?_
      refine cnd_false ?_
      exact rest p w4 h4 hw4 hc4 hpp f4
end
end Go.Proofs.YtomggfibpbaodaaGreatDoor
