/-
  The ring, second part: its records, opening it, appending to it.
-/
import Derived.Test.YtomggfibpbaodaaGreatDoorG
set_option maxRecDepth 100000
namespace Go.Proofs.YtomggfibpbaodaaGreatDoor
open Go.V

theorem bslice43_g {w : World} {v : Value} [hv : Atom v] {K : Value → World → Prop} (k : ∀ b w1, b = w.heap.size → Own w1 (.slice (some ⟨b, 0, none⟩) 1 1) 43 1 1 [v] → Fr no w w1 → K (.slice (some ⟨b, 0, none⟩) 1 1) w1) :
    pg P (Instr.buildSlice 59 1 #[(0, v)]) w K := bslice1_g (P := P) (sz := 1) (z := [.slice none 0 0]) (xs := [v]) hv.cells rfl rfl (by omega) (by omega) k
theorem records_k {w : World} {r d : Nat} {R : Ring} {D : Disk} {F : Nat → Prop} {K : Value → World → Prop} (h : RingAt w r d R) (hd : DiskP w d D F) (hF : ¬ F r) (hFl : ∀ b, F b → b < w.heap.size) (ha : D.dead = false) (hlb : R.last = R.base)
    (hlen : R.first + R.count ≤ D.lasts.length)
    (k : ∀ vo vs w1, RecsAt w1 vo (R.recs D).1 vs → RingAt w1 r d { R with last := (R.recs D).2 } → Fr (fun i => i = r) w w1 → K (.tuple #[vo, iv 0]) w1) : cl P 177 #[pt r] w K := by
  have hwf := h.wf
  have hlm := hwf.lm
  have hmost := hwf.most
  have hpos := hwf.pos
  apply c177
  unfold F177
  refine pieces239_k h fun bn br w1 hbn hbr hf1 hnn hnr => ?_
  have hlr := h.blk.lt
  refine lp_of (fun vs w2 => ∃ (vo vn : Value) (f n : Nat) (out : List Str) (now : Str) (last : Nat) (vals : List Value), vs = [vo, vn] ∧ n + f = R.base + R.count ∧ R.base ≤ n ∧ R.recsF D f n out now last = R.recs D ∧
      Bk w2 bn 3 [iv n] ∧ Bk w2 br 189 [pt r] ∧ RingAt w2 r d { R with last := last } ∧ RecsAt w2 vo out vals ∧ Own w2 vn 5 1 now.length (bs now) ∧ (∀ v ∈ vals, ∀ b, v.ownBlock = some b → vn.ownBlock ≠ some b) ∧
      Fr (fun i => i = r) w w2 ∧ (∀ b, vo.ownBlock = some b → w.heap.size ≤ b) ∧ (∀ b, vn.ownBlock = some b → w.heap.size ≤ b) ∧ now.length ≤ 501 * (n - R.base) ∧ out.length ≤ n - R.base ∧ last ≤ n)
    (fun _ w2 => ((R.base : Int) + R.count - cellInt w2 bn).toNat)
    ⟨_, _, R.count, R.base, [], [], R.last, [], rfl, by omega, by omega, rfl, hbn, hbr, ⟨(h.fr0 hf1).blk, h.wf⟩, ⟨Own.nil _ _ _, rfl, fun i h => absurd h (by simp)⟩, Own.nil _ _ _, fun v hv => (by cases hv), (hf1.mono fun _ h => h.elim), fun b hb => (by cases hb), fun b hb => (by cases hb), by simp, by simp, by omega⟩ ?_
  rintro vs w2 ⟨vo, vn, f, n, out, now, last, vals, rfl, hnf, hbn1, hrec, hbn2, hbr2, hR2, hout, hnow, hsep, hf2, hvo, hvn, hnl, hol, hln⟩
  simp only [g0_cons, g1_cons]
  refine cv_k ?_
  have hd2 := hd.fr hf2 (fun b hb e => hF (e ▸ hb))
  have hwf2 := hR2.wf
  have s2 := hf2.size
  refine next_k (n := n) hbn2 hbr2 hR2 hd2 (fun e => by have := hFl _ e; omega) ha hbn1 (show n ≤ R.base + R.count by omega) hlen (fun he w3 hf3 => ?_) (fun hlt nn b a m c is w3 hbn3 hf3 hno hyes => ?_)
  · -- the end
    have he' : n = R.base + R.count := he
    have hf0 : f = 0 := by omega
    subst hf0
    refine px_run ?_
    refine px_run ?_
    refine px_run ?_
    refine alloc_k (P := P) (z := [.int .i64 0, .bool false, .slice none 0 0]) fun b7 w4 hb7e hb7 hf4 => ?_
    refine stA0_k hb7 (atoms_penc _ _ _ _ _) rfl rfl fun w5 hb75 hf5 => ?_
    refine px_run ?_
    refine gd_ff ?_
    refine gd_ff ?_
    refine px_run ?_
    refine pk_false ?_
    refine cnd_true ?_
    have f5 := (hf3.trans hf4 (fun _ h => by cases h)).new hf5 (fun i hi => by have := hf3.size; omega)
    have e1 : R.recs D = (out, last) := by rw [← hrec]; rfl
    rw [e1] at k
    exact k vo vals w5 (hout.fr0 f5) (hR2.fr0 f5) (hf2.then f5)
  refine px_run ?_
  refine px_run ?_
  refine px_run ?_
  refine alloc_k (P := P) (z := [.int .i64 0, .bool false, .slice none 0 0]) fun b7 w4 hb7e hb7 hf4 => ?_
  refine stA0_k hb7 (atoms_penc _ _ _ _ _) rfl rfl fun w5 hb75 hf5 => ?_
  refine px_run ?_
  refine gd_ff ?_
  refine gd_ff ?_
  refine px_run ?_
  refine pk_false ?_
  have s3 := hf3.size
  have s4 := hf4.size
  have f35 : Fr no w3 w5 := hf4.new hf5 (fun i hi => by omega)
  have hout5 := (hout.frb hf3 hbn2 (by decide) (by decide)).fr0 f35
  have hnow5 := (hnow.frb hf3 hbn2 (by decide)).fr0 f35
  have hR5 := (hR2.fr hf3 (hR2.blk.ne hbn2 (by decide))).fr0 f35
  have hbr5 := (hbr2.frb hf3 (hbr2.ne hbn2 (by decide))).fr0 f35
  have hbn5 := hbn3.fr0 f35
  have f5 : Fr (fun i => i = r) w w5 := (hf2.trans hf3 (fun i hi => .inr (by omega))).then f35
  obtain ⟨f, rfl⟩ : ∃ g, f = g + 1 := ⟨f - 1, by have : n < R.base + R.count := hlt; omega⟩
  unfold Ring.recsF at hrec
  cases is
  · refine cnd_true ?_
    have e1 : R.recs D = (out, last) := by
      rw [← hrec]
      cases hp : R.pieceAt D (R.place (n + 1)) with
      | none => rfl
      | some p =>
        simp only
        rw [if_neg (hno rfl p hp)]
    rw [e1] at k
    exact k vo vals w5 hout5 hR5 f5
  · refine cnd_false ?_
    obtain ⟨p, hp, hpn, rfl, rfl, hdat, hdn⟩ := hyes rfl
    have hp' : R.pieceAt D (R.place (n + 1)) = some p := hp
    rw [hp'] at hrec
    simp only at hrec
    rw [if_pos hpn] at hrec
    have hpl := Ring.pieceAt_n hp'
    have hdat5 := hdat.fr0 f35
    refine px_run ?_
    refine ldB hb75 rfl ?_
    refine append_k (P := P) (by' := 1) hnow5 hdat5.sl (atoms_bs _) (by unfold maxLen; omega) (by omega) fun vn' w6 hn6 hf6 hnn6 => ?_
    rw [← bs_append, ← List.length_append] at hn6
    have s5 := f5.size
    have ty : ∀ i t cs, vn.ownBlock = some i → Bk w5 i t cs → t = 5 := fun i t cs hi hb => by
      obtain ⟨cs', hc'⟩ := Own.bkk hnow5 hi
      exact Bk.typ hb hc'
    have hb76 := hb75.fr hf6 (fun e => absurd (ty _ _ _ e hb75) (by decide))
    have hbn6 := hbn5.fr hf6 (fun e => absurd (ty _ _ _ e hbn5) (by decide))
    have hbr6 := hbr5.fr hf6 (fun e => absurd (ty _ _ _ e hbr5) (by decide))
    have hR6 := hR5.fr hf6 (fun e => absurd (ty _ _ _ e hR5.blk) (by decide))
    have hout6 := hout5.fr hf6 (fun b hb e => by
      obtain ⟨cs', hc'⟩ := Own.bkk hout5.own hb
      exact absurd (ty _ _ _ e hc') (by decide)) (fun v hv b hb e => hsep v hv b hb e)
    have f6 : Fr (fun i => i = r) w w6 := f5.trans hf6 (fun i hi => .inr (hvn i hi))
    have hvn6 : ∀ b, vn'.ownBlock = some b → w.heap.size ≤ b := fun b hb => by
      rcases hnn6 b hb with h | h
      · exact hvn b h
      · omega
    have hsep6 : ∀ v ∈ vals, ∀ b, v.ownBlock = some b → vn'.ownBlock ≠ some b := fun v hv b hb e => by
      rcases hnn6 b e with h | h
      · exact hsep v hv b hb h
      · obtain ⟨i, hi, rfl⟩ := List.getElem_of_mem hv
        have := (hout5.each i (by rw [← hout5.len]; exact hi) hi).lt hb
        omega
    refine px_run ?_
    refine ldB hb76 rfl ?_
    have hmeas : ∀ wy, Bk wy bn 3 [iv ((n + 1 : Nat) : Int)] → ((R.base : Int) + R.count - cellInt wy bn).toNat < ((R.base : Int) + R.count - cellInt w2 bn).toNat := fun wy hy => by
      rw [cellInt_of hy, cellInt_of hbn2]
      omega
    have hnl' : (now ++ p.data).length ≤ 501 * (n + 1 - R.base) := by rw [List.length_append]; omega
    refine cut_of (fun vs w7 => ∃ (vo vn : Value) (out : List Str) (now : Str) (last : Nat) (vals : List Value), vs = [vo, vn] ∧ R.recsF D f (n + 1) out now last = R.recs D ∧
      Bk w7 bn 3 [iv ((n + 1 : Nat) : Int)] ∧ Bk w7 br 189 [pt r] ∧ RingAt w7 r d { R with last := last } ∧ RecsAt w7 vo out vals ∧ Own w7 vn 5 1 now.length (bs now) ∧ (∀ v ∈ vals, ∀ b, v.ownBlock = some b → vn.ownBlock ≠ some b) ∧
      Fr (fun i => i = r) w w7 ∧ (∀ b, vo.ownBlock = some b → w.heap.size ≤ b) ∧ (∀ b, vn.ownBlock = some b → w.heap.size ≤ b) ∧ now.length ≤ 501 * (n + 1 - R.base) ∧ out.length ≤ n + 1 - R.base ∧ last ≤ n + 1) (cnd_of (fun hla => ?_) (fun hla => ?_)) ?_
    · rw [if_pos hla] at hrec
      refine dr_of ?_
      have fd := Fr.dw w6
      have hb77 := hb76.fr0 fd
      have hbn7 := hbn6.fr0 fd
      have hbr7 := hbr6.fr0 fd
      have hR7 := hR6.fr0 fd
      have hout7 := hout6.fr0 fd
      have hn7 := hn6.fr0 fd
      have f7 := f6.then fd
      generalize dw w6 = w7 at fd hb77 hbn7 hbr7 hR7 hout7 hn7 f7
      obtain ⟨an, cn, rfl⟩ := Own.atom hn7
      refine held_of (fun w' => Bk w' b7 283 (penc p.n p.last (.slice a m c))) hb77 ?_
      refine py_run ?_
      refine ldBy (P := P) (fun w' hS => hS.cell 0) ?_
      refine bslice43_g fun b8 w8 hb8e hb8 hf8 => ?_
      refine hs_of (hb77.fr0 hf8) ?_
      have hout8 := hout7.fr0 hf8
      refine append_k (P := P) (by' := 24) hout8.own hb8.sl (fun x hx => by simp only [List.mem_singleton] at hx; subst hx; exact inferInstance) (by unfold maxLen; omega) (by omega) fun vo' w9 ho9 hf9 hno9 => ?_
      have ty9 : ∀ i t cs, vo.ownBlock = some i → Bk w8 i t cs → t = 43 := fun i t cs hi hb => by
        obtain ⟨cs', hc'⟩ := Own.bkk hout8.own hi
        exact Bk.typ hb hc'
      have hb78 := hb77.fr0 hf8
      have hb79 := hb78.fr hf9 (fun e => absurd (ty9 _ _ _ e hb78) (by decide))
      have hbn8 := hbn7.fr0 hf8
      have hbn9 := hbn8.fr hf9 (fun e => absurd (ty9 _ _ _ e hbn8) (by decide))
      have hbr8 := hbr7.fr0 hf8
      have hbr9 := hbr8.fr hf9 (fun e => absurd (ty9 _ _ _ e hbr8) (by decide))
      have hR8 := hR7.fr0 hf8
      have hR9 := hR8.fr hf9 (fun e => absurd (ty9 _ _ _ e hR8.blk) (by decide))
      have hn8 := hn7.fr0 hf8
      have hn9 := hn8.fr hf9 (fun b hb e => by
        obtain ⟨cs', hc'⟩ := Own.bkk hn8 hb
        exact absurd (ty9 _ _ _ e hc') (by decide))
      have hout9 : RecsAt w9 vo' (out ++ [now ++ p.data]) (vals ++ [.slice an (now ++ p.data).length cn]) := by
        refine ⟨by have := ho9; simpa using this, by simp [hout8.len], fun i hi hi' => ?_⟩
        simp only [List.length_append, List.length_cons, List.length_nil] at hi hi'
        by_cases hio : i < out.length
        · have hiv : i < vals.length := by rw [hout8.len]; exact hio
          rw [List.getElem_append_left hiv, List.getElem_append_left hio]
          refine (hout8.each i hio hiv).fr hf9 (fun b hb e => ?_)
          obtain ⟨cs', hc'⟩ := Own.bkk (hout8.each i hio hiv) hb
          exact absurd (ty9 _ _ _ e hc') (by decide)
        · have hiv : vals.length ≤ i := by rw [hout8.len]; omega
          have hie : i = out.length := by omega
          subst hie
          rw [List.getElem_append_right hiv, List.getElem_append_right (Nat.le_refl _)]
          have e1 : out.length - vals.length = 0 := by rw [hout8.len]; omega
          simp only [e1, Nat.sub_self, List.getElem_cons_zero]
          exact hn9
      refine hs_of hb79 ?_
      refine ny_ptr ?_
      refine py_run ?_
      refine stB_k hR9.blk (by simp) fun w10 hb10 hf10 => ?_
      refine hs_of (hb79.frb hf10 (hb79.ne hR9.blk (by decide))) ?_
      have f10 : Fr (fun i => i = r) w w10 := ((f7.then hf8).trans hf9 (fun i hi => .inr (hvo i hi))).two hf10
      have s7 := f7.size
      refine ⟨vo', _, _, _, n + 1, _, rfl, hrec, hbn9.frb hf10 (hbn9.ne hR9.blk (by decide)), hbr9.frb hf10 (hbr9.ne hR9.blk (by decide)), ⟨by rw [hpn] at hb10; exact hb10, ⟨hwf.pos, hwf.most, show R.base ≤ n + 1 by omega, show n + 1 ≤ R.base + R.count from hlt, by show n + 1 ≤ _; omega, hwf.tm⟩⟩,
        hout9.frb hf10 hR9.blk (by decide) (by decide), Own.nil _ _ _, fun v _ b _ e => (by cases e), f10, fun b hb => ?_, fun b hb => (by cases hb), by simp, by rw [List.length_append]; simp; omega, by omega⟩
      rcases hno9 b hb with h | h
      · exact hvo b h
      · have := hf8.size; omega
    · rw [if_neg (by rw [hla]; simp)] at hrec
      exact ⟨vo, vn', out, now ++ p.data, last, vals, rfl, hrec, hbn6, hbr6, hR6, hout6, hn6, hsep6, f6, hvo, hvn6, hnl', by omega, by omega⟩
    · rintro vs w7 ⟨vo7, vn7, out7, now7, last7, vals7, rfl, e7, hbn7, hbr7, hR7, hout7, hnow7, hsep7, f7, hvo7, hvn7, hnl7, hol7, hln7⟩
      simp only [g0_cons, g1_cons]
      exact ⟨⟨vo7, vn7, f, n + 1, out7, now7, last7, vals7, rfl, by omega, by omega, e7, hbn7, hbr7, hR7, hout7, hnow7, hsep7, f7, hvo7, hvn7, hnl7, hol7, hln7⟩, hmeas w7 hbn7⟩

/-! ### Open -/
instance : StructT P 281 [(0, 1), (1, 1), (2, 1), (3, 1), (4, 1), (5, 1)] := ⟨by kernel_rfl, fun w => by kernel_rfl⟩
instance : Zero P 281 [.pointer none, .int .i64 0, .int .i64 0, .int .i64 0, .int .i64 0, .int .i64 0] := ⟨fun w => ⟨.agg [.pointer none, .int .i64 0, .int .i64 0, .int .i64 0, .int .i64 0, .int .i64 0].toArray, by kernel_rfl, rfl⟩⟩
theorem build281 {w : World} {d : Nat} {a b c e f : Int} : (Instr.build 281 #[(0, pt d), (1, iv a), (2, iv b), (3, iv c), (4, iv e), (5, iv f)]).run P w = .ok (.agg [pt d, iv a, iv b, iv c, iv e, iv f].toArray) w := by
  refine build_run (P := P) (t := 281) (parts := [(0, pt d), (1, iv a), (2, iv b), (3, iv c), (4, iv e), (5, iv f)]) (z := [.pointer none, .int .i64 0, .int .i64 0, .int .i64 0, .int .i64 0, .int .i64 0]) ?_
  have l1 : ∀ {cs : List Value} {o : Nat} {x : Value}, cs.length = 6 → o < 6 → (spl cs o [x]).length = 6 := fun h ho => by rw [spl_length (by rw [h]; simp; omega), h]
  have hz : ([Value.pointer none, .int .i64 0, .int .i64 0, .int .i64 0, .int .i64 0, .int .i64 0] : List Value).length = 6 := rfl
  generalize hzz : ([Value.pointer none, .int .i64 0, .int .i64 0, .int .i64 0, .int .i64 0, .int .i64 0] : List Value) = z at hz
  rw [fill_cons (xs := [pt d]) (off := 0) (size := 1) rfl rfl rfl (by rw [hz]; decide), fill_cons (xs := [iv a]) (off := 1) (size := 1) rfl rfl rfl (by rw [l1 hz (by decide)]; decide),
    fill_cons (xs := [iv b]) (off := 2) (size := 1) rfl rfl rfl (by rw [l1 (l1 hz (by decide)) (by decide)]; decide), fill_cons (xs := [iv c]) (off := 3) (size := 1) rfl rfl rfl (by rw [l1 (l1 (l1 hz (by decide)) (by decide)) (by decide)]; decide),
    fill_cons (xs := [iv e]) (off := 4) (size := 1) rfl rfl rfl (by rw [l1 (l1 (l1 (l1 hz (by decide)) (by decide)) (by decide)) (by decide)]; decide), fill_cons (xs := [iv f]) (off := 5) (size := 1) rfl rfl rfl (by rw [l1 (l1 (l1 (l1 (l1 hz (by decide)) (by decide)) (by decide)) (by decide)) (by decide)]; decide), fill_nil]
  subst hzz
  rfl
theorem Ring.recsF_congr {r r' : Ring} {D : Disk} (h1 : ∀ i, r.pieceAt D i = r'.pieceAt D i) (h2 : ∀ n, r.place n = r'.place n) : ∀ (f n : Nat) (out : List Str) (now : Str) (last : Nat), r.recsF D f n out now last = r'.recsF D f n out now last
  | 0, _, _, _, _ => rfl
  | f + 1, n, out, now, last => by
    unfold Ring.recsF
    rw [h1, h2]
    cases r'.pieceAt D (r'.place (n + 1)) with
    | none => rfl
    | some p =>
      simp only
      rw [Ring.recsF_congr h1 h2 f, Ring.recsF_congr h1 h2 f]
theorem ropen_k {w : World} {d first count base : Nat} {D : Disk} {F : Nat → Prop} {K : Value → World → Prop} (hd : DiskP w d D F) (hFl : ∀ b, F b → b < w.heap.size) (hc : 1 ≤ count) (hlen : first + count ≤ D.lasts.length) (hb63 : base < 9223372036854775808)
    (kbad : 4611686018427387904 < base → K (.tuple #[.pointer none, .slice none 0 0, iv 1]) w)
    (kdead : base ≤ 4611686018427387904 → D.dead = true → ∀ w1, Fr no w w1 → K (.tuple #[.pointer none, .slice none 0 0, iv 20]) w1)
    (k1 : base ≤ 4611686018427387904 → D.dead = false → ∀ r vo vs w1, RingAt w1 r d (Ring.open D first count base).1 → RecsAt w1 vo (Ring.open D first count base).2 vs → Fr no w w1 → w.heap.size ≤ r → K (.tuple #[pt r, vo, iv 0]) w1) :
    cl P 107 #[pt d, iv first, iv count, iv base] w K := by
  have hdw : D.WF := let ⟨_, _, _, _, _, h⟩ := hd; h.wf
  have hmost := hdw.most
  apply c107
  unfold F107
  refine px_run ?_
  refine cnd_false ?_
  refine dlen_k hd ?_
  refine px_run ?_
  have e1 : decide ((first : Int) < 0) = false := by simp
  simp only [e1]
  refine gd_ff ?_
  refine gd_ff ?_
  refine px_run ?_
  refine pk_false ?_
  have e2 : decide ((count : Int) < 1) = false := by simp; omega
  simp only [e2]
  refine gd_ff ?_
  refine gd_ff ?_
  refine gd_ff ?_
  refine px_run ?_
  refine pk_false ?_
  have e3 : decide ((count : Int) > (D.lasts.length : Int)) = false := by simp; omega
  simp only [e3]
  refine gd_ff ?_
  refine gd_ff ?_
  refine gd_ff ?_
  refine gd_ff ?_
  haveI : Fits .i64 ((D.lasts.length : Int) - (count : Int)) := fits_i64 (by omega) (by omega)
  refine px_run ?_
  refine gd_ff ?_
  refine px_run ?_
  refine pk_false ?_
  have e4 : decide ((first : Int) > (D.lasts.length : Int) - (count : Int)) = false := by simp; omega
  simp only [e4]
  refine gd_ff ?_
  refine gd_ff ?_
  refine px_run ?_
  refine pk_false ?_
  have e5 : decide ((base : Int) < 0) = false := by simp
  simp only [e5]
  refine gd_ff ?_
  refine gd_ff ?_
  refine px_run ?_
  refine pk_false ?_
  refine cnd_dec (fun hgt => ?_) (fun hle => ?_)
  · exact kbad (by omega)
  have hb : base ≤ 4611686018427387904 := by omega
  refine px_of build281 ?_
  refine boxA_k fun r w1 hre hr hf1 => ?_
  have hRw : ∀ t, t ≤ 4611686018427387904 → (⟨first, count, base, base, t⟩ : Ring).WF := fun t ht => ⟨by show 0 < count; omega, by show first + count ≤ 65536; omega, Nat.le_refl _, by show base ≤ base + count; omega, hb, ht⟩
  obtain ⟨T0, hT⟩ : ∃ T0, (Ring.start first count base).topF D count 0 base = T0 := ⟨_, rfl⟩
  refine lp_of (fun vs w2 => ∃ i t, vs = [iv (i : Nat)] ∧ i ≤ count ∧ t ≤ 4611686018427387904 ∧ (Ring.start first count base).topF D (count - i) i t = T0 ∧ RingAt w2 r d ⟨first, count, base, base, t⟩ ∧ Fr no w w2 ∧ (0 < i → D.dead = false))
    (fun vs _ => (match vs with | [.int _ m] => (count - m).toNat | _ => 0)) ⟨0, base, rfl, by omega, hb, hT, ⟨hr, hRw base hb⟩, hf1, fun h => by omega⟩ ?_
  rintro vs w2 ⟨i, t, rfl, hi, ht, htop, hR2, f2, hal⟩
  simp only [g0_cons]
  have s2 := f2.size
  refine px_run ?_
  refine cnd_dec (fun hlt => ?_) (fun hge => ?_)
  · have hi' : i < count := by omega
    haveI : Fits .i64 ((first : Int) + (i : Int)) := fits_i64 (by omega) (by omega)
    refine px_run ?_
    rw [show (first : Int) + (i : Int) = ((first + i : Nat) : Int) by omega]
    refine ringRead_k hR2 (hd.fr0 f2) (by omega) (fun hdd w3 hf3 => ?_) (fun hdd n b a m c is w3 hf3 h0 h1 => ?_)
    · refine px_run ?_
      refine px_run ?_
      refine px_run ?_
      refine alloc_k (P := P) (z := [.int .i64 0, .bool false, .slice none 0 0]) fun b7 w4 hb7e hb7 hf4 => ?_
      refine stA0_k hb7 (atoms_penc _ _ _ _ _) rfl rfl fun w5 hb75 hf5 => ?_
      refine px_run ?_
      refine cnd_true ?_
      have s3 := hf3.size
      exact kdead hb hdd w5 (((f2.trans hf3 (fun _ h => by cases h)).trans hf4 (fun _ h => by cases h)).new hf5 (fun i hi => by omega))
    · refine px_run ?_
      refine px_run ?_
      refine px_run ?_
      refine alloc_k (P := P) (z := [.int .i64 0, .bool false, .slice none 0 0]) fun b7 w4 hb7e hb7 hf4 => ?_
      refine stA0_k hb7 (atoms_penc _ _ _ _ _) rfl rfl fun w5 hb75 hf5 => ?_
      refine px_run ?_
      refine cnd_false ?_
      have s3 := hf3.size
      have f25 : Fr no w2 w5 := (hf3.trans hf4 (fun _ h => by cases h)).new hf5 (fun i hi => by omega)
      have hR5 := hR2.fr0 f25
      have f5 := f2.trans f25 (fun _ h => by cases h)
      obtain ⟨g, hg⟩ : ∃ g, count - i = g + 1 := ⟨count - i - 1, by omega⟩
      rw [hg] at htop
      unfold Ring.topF at htop
      have hpa : (⟨first, count, base, base, t⟩ : Ring).pieceAt D (first + i) = (Ring.start first count base).pieceAt D ((Ring.start first count base).first + i) := rfl
      rw [hpa] at h0 h1
      refine cut_of (fun _ w6 => ∃ t', t' ≤ 4611686018427387904 ∧ (Ring.start first count base).topF D g (i + 1) t' = T0 ∧ RingAt w6 r d ⟨first, count, base, base, t'⟩ ∧ Fr no w w6) (cnd_of (fun his => ?_) (fun his => ?_)) ?_
      · obtain ⟨p, e1, e2, e3, e4, e5⟩ := h1 his
        rw [e1] at htop
        simp only at htop
        have hpn := Ring.pieceAt_n e1
        refine dr_of ?_
        have fd := Fr.dw w5
        have hR6 := hR5.fr0 fd
        have hb76 := hb75.fr0 fd
        have f6 := f5.trans fd (fun _ h => by cases h)
        generalize dw w5 = w6 at hR6 hb76 f6
        refine ny_ptr ?_
        refine py_run ?_
        refine ldY hR6.blk rfl ?_
        refine py_run ?_
        refine ldY hb76 rfl ?_
        refine py_run ?_
        refine ny_ptr ?_
        refine py_run ?_
        refine stB_k hR6.blk (by simp) fun w7 hb7' hf7 => ?_
        have ht' : max t p.n ≤ 4611686018427387904 := by omega
        refine ⟨max t p.n, ht', htop, ⟨?_, hRw _ ht'⟩, f6.new hf7 (fun i hi => by omega)⟩
        have em : (if (n : Int) > (t : Int) then (n : Int) else (t : Int)) = ((max t p.n : Nat) : Int) := by
          rw [e2]
          split <;> omega
        rw [em] at hb7'
        exact hb7'
      · rw [h0 his] at htop
        simp only at htop
        exact ⟨t, ht, htop, hR5, f5⟩
      · rintro _ w6 ⟨t', ht', htop', hR6, f6⟩
        haveI : Fits .i64 ((i : Int) + 1) := fits_i64 (by omega) (by omega)
        refine px_run ?_
        exact ⟨⟨i + 1, t', rfl, by omega, ht', by rw [show count - (i + 1) = g by omega]; exact htop', hR6, f6, fun _ => hdd⟩, show ((count : Int) - ((i : Int) + 1)).toNat < ((count : Int) - (i : Int)).toNat by omega⟩
  · have hic : i = count := by omega
    subst hic
    have hdd := hal (by omega)
    rw [Nat.sub_self] at htop
    have hrF : ¬ F r := fun e => by have := hFl r e; omega
    refine records_k hR2 (hd.fr0 f2) hrF (fun b hb => by have := hFl b hb; omega) hdd rfl hlen fun vo vs w3 hrecs hR3 hf3 => ?_
    refine px_run ?_
    refine px_run ?_
    refine px_run ?_
    refine cnd_false ?_
    have e6 : t = (Ring.start first i base).topF D i 0 base := by rw [hT]; exact htop
    have e7 : (⟨first, i, base, base, t⟩ : Ring).recs D = (Ring.start first i base).recs D := Ring.recsF_congr (r := ⟨first, i, base, base, t⟩) (r' := Ring.start first i base) (fun _ => rfl) (fun _ => rfl) _ _ _ _ _
    rw [e7] at hR3 hrecs
    have e8 : Ring.open D first i base = (⟨first, i, base, ((Ring.start first i base).recs D).2, t⟩, ((Ring.start first i base).recs D).1) := by rw [e6]; rfl
    rw [e8] at k1
    exact k1 hb hdd r vo vs w3 hR3 hrecs (f2.new hf3 (fun i hi => by omega)) (by omega)

/-! ### Append, Sync -/
/-- A block of a kind that pagers and disks have: no slice of bytes, of ints, of cells lies in it. -/
def Mut (w : World) (i : Nat) : Prop := (∃ t cs, Bk w i t cs ∧ (t = 186 ∨ t = 202 ∨ t = 278 ∨ t = 4 ∨ t = 193 ∨ t = 281)) ∨ ∃ es, Mp w i es
theorem Mut.lt {w : World} {i : Nat} (h : Mut w i) : i < w.heap.size := by
  rcases h with ⟨t, cs, h, _⟩ | ⟨es, h⟩
  · exact h.lt
  · exact h.lt
theorem Mut.ne {w : World} {i t : Nat} {cs : List Value} (h : Mut w i) (hb : Bk w i t cs) : t = 186 ∨ t = 202 ∨ t = 278 ∨ t = 4 ∨ t = 193 ∨ t = 281 := by
  rcases h with ⟨t', cs', h, ht⟩ | ⟨es, h⟩
  · rw [Bk.typ hb h]; exact ht
  · exact absurd rfl (h.ne_bk hb)
theorem Mut.fr0 {w w1 : World} {i : Nat} (h : Mut w i) (f : Fr no w w1) : Mut w1 i := by
  rcases h with ⟨t, cs, h, ht⟩ | ⟨es, h⟩
  · exact .inl ⟨t, cs, h.fr0 f, ht⟩
  · exact .inr ⟨es, h.fr f id⟩
theorem Own.mut {w : World} {v : Value} {e : TypeId} {sz n : Nat} {xs : List Value} (h : Own w v e sz n xs) (he : e = 186 ∨ e = 202 ∨ e = 278 ∨ e = 4 ∨ e = 193 ∨ e = 281) {b : Nat} (hb : v.ownBlock = some b) : Mut w b := by
  obtain ⟨cs, hc⟩ := Own.bkk h hb
  exact .inl ⟨e, cs, hc, he⟩
theorem DiskP.cut {w : World} {d : Nat} {D : Disk} {F : Nat → Prop} (h : DiskP w d D F) : DiskP w d D (fun i => F i ∧ Mut w i) := by
  obtain ⟨vl, vw, vk, m, es, h⟩ := h
  exact ⟨vl, vw, vk, m, es, h.blk, h.lasts, h.waits, h.now, h.nowIs, h.keep, ⟨h.fd, .inl ⟨_, _, h.blk, by simp⟩⟩, ⟨h.fm, .inr ⟨_, h.now⟩⟩,
    fun b hb => ⟨h.fl b hb, Own.mut h.lasts (by simp) hb⟩, fun b hb => ⟨h.fw b hb, Own.mut h.waits (by simp) hb⟩, fun b hb => ⟨h.fk b hb, Own.mut h.keep (by simp) hb⟩, h.wf⟩
theorem Grows.sub {w : World} {F F' G : Nat → Prop} (h : Grows w F F') (hg : ∀ i, G i → F' i) : Grows w F G := fun i hi => h i (hg i hi)
theorem slcY_lh {P : Program} {w : World} {t e : TypeId} {sz n : Nat} [hS : SliceT P t e sz] {C : World → Prop} {K : Value → Prop} {v : Value} {xs : List Value} {k k' : IntKind} {l h : Int} (lo hi : Nat) (hl : l = (lo : Int)) (hh : h = (hi : Int)) (hv : Sl w v sz n xs) (h1 : lo ≤ hi) (h2 : hi ≤ n)
    (K1 : ∀ v', Sl w v' sz (hi - lo) ((xs.drop (lo * sz)).take ((hi - lo) * sz)) → (∀ b, v'.ownBlock = some b → v.ownBlock = some b) → K v') :
    py P C (Instr.sliceAt t v (some (.int k l)) (some (.int k' h)) none) K := by
  subst hl hh
  obtain ⟨hx, a, cap, rfl, hc, r⟩ := id hv
  exact py_of (fun w' _ => slc_run (bounds_lh h1 (by omega))) (K1 _ (hv.part h1 h2 (by omega) (Nat.le_refl _)) fun b => sliced_own)
theorem room_k {w : World} {r d : Nat} {R : Ring} {K : Value → World → Prop} (h : RingAt w r d R) (hnt : ¬ R.last < R.top) (k : ∀ w1, Fr no w w1 → K (iv ((R.count : Int) - ((R.last : Int) - R.base))) w1) : cl P 235 #[pt r] w K := by
  have hwf := h.wf
  have h1 := hwf.bl
  have h2 := hwf.lb
  have h3 := hwf.lm
  have h4 := hwf.most
  apply c235
  unfold F235
  refine px_run ?_
  refine gd_ff ?_
  refine gd_ff ?_
  refine torn_k h fun w1 hf1 => ?_
  refine pk_false ?_
  refine cnd_dec (fun ht => absurd ht hnt) (fun _ => ?_)
  refine dr_of ?_
  have f2 := hf1.trans (Fr.dw w1) (fun _ h => by cases h)
  have hb := (h.fr0 f2).blk
  refine ny_ptr ?_
  refine py_run ?_
  refine ldY hb rfl ?_
  refine ny_ptr ?_
  refine py_run ?_
  refine ldY hb rfl ?_
  refine ny_ptr ?_
  refine py_run ?_
  refine ldY hb rfl ?_
  haveI : Fits .i64 ((R.last : Int) - (R.base : Int)) := fits_i64 (by omega) (by omega)
  refine py_run ?_
  haveI : Fits .i64 ((R.count : Int) - ((R.last : Int) - (R.base : Int))) := fits_i64 (by omega) (by omega)
  refine py_run ?_
  exact k _ f2
theorem bs_part {l : List UInt8} {i j : Nat} : ((bs l).drop i).take j = bs ((l.drop i).take j) := by rw [bs_drop, bs_take]
theorem Disk.write_waits (D : Disk) (i : Int) (s : Sec) : (D.write i s).1.waits.length ≤ D.waits.length + 1 := by
  unfold Disk.write
  split
  · exact Nat.le_succ _
  · split
    · exact Nat.le_succ _
    · split
      · exact Nat.zero_le _
      · simp [Disk.tick, Disk.push]
theorem append170_k {w : World} {r d : Nat} {R : Ring} {D : Disk} {F : Nat → Prop} {v : Value} {l : Str} {K : Value → World → Prop} (h : RingAt w r d R) (hd : DiskP w d D F) (hF : ¬ F r) (hFm : ∀ b, F b → Mut w b) (hs : Sl w v 1 l.length (bs l)) (hv : ∀ b, v.ownBlock = some b → ¬ F b ∧ b < w.heap.size) (hl : l.length ≤ 100000000)
    (hw : D.waits.length ≤ 1000000)
    (k : ∀ w1 F', RingAt w1 r d (R.append D l).1 → DiskP w1 d (R.append D l).2.1 F' → (∀ b, F' b → Mut w1 b) → Fr (fun i => i = r ∨ F i) w w1 → Grows w F F' → K (iv (R.append D l).2.2) w1) : cl P 170 #[pt r, v] w K := by
  obtain ⟨_, av, cv', rfl, _⟩ := id hs
  have hwf := h.wf
  have h1 := hwf.bl
  have h2 := hwf.lb
  have h3 := hwf.lm
  have h4 := hwf.most
  have hlr := h.blk.lt
  have hp501 : pieces l.length ≤ 1000000 := by unfold pieces; split <;> omega
  apply c170
  unfold F170
  refine alive2_k h hd ?_
  unfold Ring.append at k
  cases hdd : D.dead
  case true =>
    rw [hdd, if_pos rfl] at k
    refine px_run ?_
    refine cnd_true ?_
    exact k w F h hd hFm (Fr.refl _ _) (Grows.refl _ _)
  rw [hdd, if_neg (by simp)] at k
  simp only [Bool.false_eq_true, if_false]
  refine px_run ?_
  refine cnd_false ?_
  refine px_run ?_
  refine pieces_k (by omega) ?_
  refine nc_ptr ?_
  refine px_run ?_
  refine ldB h.blk rfl ?_
  refine px_run ?_
  refine cnd_dec (fun hc => ?_) (fun hc => ?_)
  · rw [if_pos (by omega)] at k
    exact k w F h hd hFm (Fr.refl _ _) (Grows.refl _ _)
  rw [if_neg (by omega)] at k
  refine torn_k h fun w1 hf1 => ?_
  refine cnd_dec (fun hc => ?_) (fun hnt => ?_)
  · rw [if_pos hc] at k
    exact k w1 F (h.fr0 hf1) (hd.fr0 hf1) (fun b hb => (hFm b hb).fr0 hf1) (hf1.mono fun _ h => h.elim) (Grows.refl _ _)
  rw [if_neg hnt] at k
  refine room_k (h.fr0 hf1) hnt fun w2 hf2 => ?_
  have f2 := hf1.trans hf2 (fun _ h => by cases h)
  refine px_run ?_
  refine cnd_dec (fun hc => ?_) (fun hroom => ?_)
  · rw [if_pos (by omega)] at k
    exact k w2 F (h.fr0 f2) (hd.fr0 f2) (fun b hb => (hFm b hb).fr0 f2) (f2.mono fun _ h => h.elim) (Grows.refl _ _)
  rw [if_neg (by omega)] at k
  refine nc_ptr ?_
  refine px_run ?_
  refine ldB (h.fr0 f2).blk rfl ?_
  haveI : Fits .i64 ((4611686018427387904 : Int) - (pieces l.length : Int)) := fits_i64 (by omega) (by omega)
  refine px_run ?_
  refine px_run ?_
  refine cnd_dec (fun hc => ?_) (fun hex => ?_)
  · rw [if_pos (by omega)] at k
    exact k w2 F (h.fr0 f2) (hd.fr0 f2) (fun b hb => (hFm b hb).fr0 f2) (f2.mono fun _ h => h.elim) (Grows.refl _ _)
  rw [if_neg (by omega)] at k
  have hpos := pieces_pos l.length
  obtain ⟨X, hX⟩ : ∃ X, R.writes l (pieces l.length) (pieces l.length) 0 D = X := ⟨_, rfl⟩
  rw [hX] at k
  simp only at k
  generalize hnn : pieces l.length = N at k hX hex hroom hp501 hpos ⊢
  have hbnd : ∀ i, i < N → i * 501 ≤ l.length := by
    intro i hi
    rw [← hnn] at hi
    unfold pieces at hi
    split at hi <;> omega
  have hs2 := f2.size
  refine lp_of (fun vs w3 => ∃ (i : Nat) (D3 : Disk) (F3 : Nat → Prop), vs = [iv i] ∧ i ≤ N ∧ R.writes l N (N - i) i D3 = X ∧ RingAt w3 r d R ∧ DiskP w3 d D3 F3 ∧ (∀ b, F3 b → Mut w3 b) ∧ Fr F w w3 ∧ Grows w F F3 ∧ D3.waits.length ≤ 1000000 + i)
    (fun vs _ => (match vs with | [.int _ m] => (N - m).toNat | _ => 0)) ⟨0, D, F, rfl, by omega, hX, h.fr0 f2, hd.fr0 f2, fun b hb => (hFm b hb).fr0 f2, f2.mono fun _ h => h.elim, Grows.refl _ _, by omega⟩ ?_
  rintro vs w3 ⟨i, D3, F3, rfl, hi, hwr, hR3, hd3, hm3, f3, hg3, hw3⟩
  simp only [g0_cons]
  have s3 := f3.size
  have hF3r : ¬ F3 r := fun e => by rcases hg3 r e with h | h; exact hF h; omega
  have hF3v : ∀ b, (Value.slice av l.length cv').ownBlock = some b → ¬ F3 b := fun b hb e => by
    have := hv b hb
    rcases hg3 b e with h | h
    · exact this.1 h
    · omega
  refine px_run ?_
  refine cnd_dec (fun hlt => ?_) (fun hge => ?_)
  · have hi' : i < N := by omega
    have hib := hbnd i hi'
    obtain ⟨g, hg⟩ : ∃ g, N - i = g + 1 := ⟨N - i - 1, by omega⟩
    rw [hg] at hwr
    unfold Ring.writes at hwr
    simp only at hwr
    refine dr_of ?_
    have fd := Fr.dw w3
    have hR4 := hR3.fr0 fd
    have hd4 := hd3.fr0 fd
    have f4 := f3.then fd
    have hsl4 := hs.fr f4 (fun b hb e => (hv b hb).1 e)
    have s34 := fd.size
    generalize dw w3 = w4 at hR4 hd4 f4 hsl4 s34
    refine ny_ptr ?_
    refine py_run ?_
    refine ldY hR4.blk rfl ?_
    haveI : Fits .i64 ((R.last : Int) + 1) := fits_i64 (by omega) (by omega)
    refine py_run ?_
    haveI : Fits .i64 ((R.last : Int) + 1 + (i : Int)) := fits_i64 (by omega) (by omega)
    refine py_run ?_
    haveI : Fits .i64 ((N : Int) - 1) := fits_i64 (by omega) (by omega)
    refine py_run ?_
    refine py_run ?_
    haveI : Fits .i64 ((i : Int) * 501) := fits_i64 (by omega) (by omega)
    refine py_run ?_
    refine py_run ?_
    haveI : Fits .i64 ((i : Int) * 501 + 501) := fits_i64 (by omega) (by omega)
    refine py_run ?_
    refine py_run ?_
    refine py_run ?_
    have emin : (if (l.length : Int) < (i : Int) * 501 + 501 then (l.length : Int) else (i : Int) * 501 + 501) = ((min (i * 501 + 501) l.length : Nat) : Int) := by split <;> omega
    rw [emin]
    have hpd : ((l.drop (i * 501)).take 501).length = min (i * 501 + 501) l.length - i * 501 := by rw [List.length_take, List.length_drop]; omega
    refine slcY_lh (P := P) (i * 501) (min (i * 501 + 501) l.length) (by omega) rfl hsl4 (by omega) (by omega) fun v66 h66 hown66 => ?_
    rw [Nat.mul_one, Nat.mul_one, bs_part] at h66
    have edata : (l.drop (i * 501)).take (min (i * 501 + 501) l.length - i * 501) = (l.drop (i * 501)).take 501 := by
      by_cases hc : i * 501 + 501 ≤ l.length
      · rw [Nat.min_eq_left hc, Nat.add_sub_cancel_left]
      · rw [Nat.min_eq_right (by omega), List.take_of_length_le (by rw [List.length_drop]; exact Nat.le_refl _), List.take_of_length_le (by rw [List.length_drop]; omega)]
    rw [edata, ← hpd] at h66
    obtain ⟨_, a66, c66, rfl, _⟩ := id h66
    rw [show (R.last : Int) + 1 + (i : Int) = ((R.last + 1 + i : Nat) : Int) by omega]
    have elast : decide ((i : Int) = (N : Int) - 1) = decide (i = N - 1) := by apply decide_eq_decide.2; omega
    rw [elast]
    refine py_of (fun w' _ => build283_3) ?_
    obtain ⟨p, hp⟩ : ∃ p : Piece, (⟨R.last + 1 + i, decide (i = N - 1), (l.drop (i * 501)).take 501⟩ : Piece) = p := ⟨_, rfl⟩
    have hp1 : p.n = R.last + 1 + i := by rw [← hp]
    have hp2 : p.last = decide (i = N - 1) := by rw [← hp]
    have hp3 : p.data = (l.drop (i * 501)).take 501 := by rw [← hp]
    rw [hp] at hwr
    rw [← hp3] at h66 ⊢
    rw [← hp1, ← hp2]
    have hd501 : p.data.length ≤ 501 := by rw [hp3, List.length_take]; omega
    have s4 := f4.size
    refine alloc_g (z := [.int .i64 0, .bool false, .slice none 0 0]) fun b8 w5 hb8e hb8 hf5 => ?_
    refine stA0_k hb8 (atoms_penc _ _ _ _ _) rfl rfl fun w6 hb86 hf6 => ?_
    have f46 : Fr no w4 w6 := hf5.new hf6 (fun i hi => by omega)
    refine ldA0 hb86 rfl ?_
    refine sector_k (h66.fr0 f46) hd501 fun w7 hf7 => ?_
    refine alloc_k (P := P) (z := zeros 512) fun b9 w8 hb9e hb9 hf8 => ?_
    have s5 := f46.size
    have s7 := hf7.size
    have hsl := Piece.sector_length hd501
    refine stA0_k hb9 (atoms_bs _) (by rw [bs_length]; exact hsl) (by rw [zeros_length]) fun w9 hb99 hf9 => ?_
    have f79 : Fr no w7 w9 := hf8.new hf9 (fun i hi => by omega)
    have f69 := hf7.trans f79 (fun _ h => by cases h)
    have f49 := f46.trans f69 (fun _ h => by cases h)
    refine dr_of ?_
    have fd9 := Fr.dw w9
    have f4x := f49.trans fd9 (fun _ h => by cases h)
    have hRx := hR4.fr0 f4x
    have hdx := hd4.fr0 f4x
    have hb8x := (hb86.fr0 f69).fr0 fd9
    have hb9x := hb99.fr0 fd9
    have fx := f4.then f4x
    have hmx : ∀ b, F3 b → b < w4.heap.size := fun b hb => by have := (hm3 b hb).lt; omega
    generalize dw w9 = wx at fd9 f4x hRx hdx hb8x hb9x fx
    refine held_of (fun w' => Bk w' r 281 [pt d, iv R.first, iv R.count, iv R.base, iv R.last, iv R.top]) hRx.blk ?_
    refine ny_ptr ?_
    refine py_run ?_
    refine ldBy (P := P) (fun w' hS => hS.cell 0) ?_
    refine py_run ?_
    refine ldY hb8x rfl ?_
    refine py_run ?_
    refine place_k hRx fun w10 hf10 => ?_
    refine hs_of (hRx.blk.fr0 hf10) ?_
    have hsx : Sl w10 (.slice (some ⟨b9, 0, none⟩) 512 512) 1 p.sector.length (bs p.sector) := by
      rw [hsl]
      exact (hb9x.fr0 hf10).sl (fun j hj => by rw [Nat.zero_add]) (by rw [bs_length]; exact hsl) (Nat.le_refl _)
    refine dwrite_k (hdx.fr0 hf10) (by omega) hsx (fun b hb e => by
      have hb' : b9 = b := Option.some.inj hb
      have h1 := hmx b e
      rw [← hb', hb9e] at h1
      omega) fun w11 F' hd11 hf11 hg11 => ?_
    have hR11 := (hRx.fr0 hf10).fr hf11 hF3r
    refine hs_of hR11.blk ?_
    have s9 := f4x.size
    have s10 := hf10.size
    have f11 : Fr F w w11 := (fx.then hf10).trans hf11 (fun i hi => by
      rcases hg3 i hi with h | h
      · exact .inl h
      · exact .inr h)
    have hg' : Grows w F (fun i => F' i ∧ Mut w11 i) := fun j hj => by
      rcases hg11 j hj.1 with h | h
      · exact hg3 j h
      · exact .inr (by omega)
    have hd11' := hd11.cut
    refine px_run ?_
    refine cnd_dec (fun hne => ?_) (fun heq => ?_)
    · rw [hp1] at hne hd11'
      rw [if_pos (by omega)] at hwr
      rw [← hwr, if_pos (by simp)] at k
      exact k w11 _ hR11 hd11' (fun b hb => hb.2) (f11.mono fun _ h => .inr h) hg'
    · have heq0 : (D3.write ((R.place p.n : Nat) : Int) p.sector).2 = 0 := by omega
      rw [hp1] at heq0
      rw [if_neg (by rw [heq0]; simp)] at hwr
      haveI : Fits .i64 ((i : Int) + 1) := fits_i64 (by omega) (by omega)
      refine px_run ?_
      rw [hp1] at hd11'
      refine ⟨⟨i + 1, _, _, rfl, by omega, by rw [show N - (i + 1) = g by omega]; exact hwr, hR11, hd11', fun b hb => hb.2, f11, hg', ?_⟩, show ((N : Int) - ((i : Int) + 1)).toNat < ((N : Int) - (i : Int)).toNat by omega⟩
      have := Disk.write_waits D3 (R.place (R.last + 1 + i) : Nat) p.sector
      omega
  · have hiN : i = N := by omega
    subst hiN
    rw [Nat.sub_self] at hwr
    have hX2 : X = (D3, 0) := hwr.symm
    rw [hX2, if_neg (by simp)] at k
    refine nc_ptr ?_
    refine px_run ?_
    refine ldB hR3.blk rfl ?_
    haveI : Fits .i64 ((R.last : Int) + (i : Int)) := fits_i64 (by omega) (by omega)
    refine px_run ?_
    refine nc_ptr ?_
    refine px_run ?_
    refine stB_k hR3.blk (by simp) fun w4 hb4 hf4 => ?_
    refine nc_ptr ?_
    refine px_run ?_
    refine ldB hb4 rfl ?_
    refine nc_ptr ?_
    refine px_run ?_
    refine stB_k hb4 (by simp) fun w5 hb5 hf5 => ?_
    have hf45 := hf4.two hf5
    have hd5 := (hd3.fr hf45 (fun b hb e => hF3r (e ▸ hb))).cut
    refine k w5 _ ⟨?_, ⟨hwf.pos, hwf.most, by show R.base ≤ R.last + i; omega, by show R.last + i ≤ R.base + R.count; omega, by show R.last + i ≤ _; omega, by show R.last + i ≤ _; omega⟩⟩ hd5 (fun b hb => hb.2) ((f3.mono fun _ h => .inr h).trans hf45 fun j hj => .inl (.inl hj)) (hg3.sub fun j hj => hj.1)
    rw [show (R.last : Int) + (i : Int) = ((R.last + i : Nat) : Int) by omega] at hb5
    exact hb5

theorem flush_code (D : Disk) : D.flush.2 = 0 ∨ D.flush.2 = 20 := by
  unfold Disk.flush
  split
  · exact .inr rfl
  · split
    · exact .inr rfl
    · exact .inl rfl
theorem sync_k {w : World} {r d : Nat} {R : Ring} {D : Disk} {F : Nat → Prop} {K : Value → World → Prop} (h : RingAt w r d R) (hd : DiskP w d D F) (hw : D.waits.length < 100000000)
    (k : ∀ w1 F', DiskP w1 d D.flush.1 F' → (∀ b, F' b → Mut w1 b) → Fr F w w1 → Grows w F F' → K (iv D.flush.2) w1) : cl P 171 #[pt r] w K := by
  apply c171
  unfold F171
  refine alive2_k h hd ?_
  cases hdd : D.dead
  · simp only [Bool.false_eq_true, if_false]
    refine px_run ?_
    refine cnd_false ?_
    refine nc_ptr ?_
    refine px_run ?_
    refine ldB h.blk rfl ?_
    refine dflush_k hd (by omega) fun w1 F' hd1 hf1 hg1 => ?_
    have k := k w1 _ hd1.cut (fun b hb => hb.2) hf1 (hg1.sub fun j hj => hj.1)
    refine px_run ?_
    rcases flush_code D with e | e
    · rw [e] at k ⊢
      exact cnd_false k
    · rw [e] at k ⊢
      exact cnd_true k
  · simp only [if_true]
    refine px_run ?_
    refine cnd_true ?_
    have e : D.flush = (D, 20) := by unfold Disk.flush; rw [hdd, if_pos rfl]
    rw [e] at k
    exact k w _ hd.cut (fun b hb => hb.2) (Fr.refl _ _) ((Grows.refl _ _).sub fun j hj => hj.1)
end Go.Proofs.YtomggfibpbaodaaGreatDoor
