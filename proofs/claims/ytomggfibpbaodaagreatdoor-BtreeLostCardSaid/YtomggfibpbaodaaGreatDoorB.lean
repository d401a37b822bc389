/-
  The tree: its small functions; nodes read and written, long values.
-/
import Derived.Test.YtomggfibpbaodaaGreatDoorH9
import Derived.Test.YtomggfibpbaodaaGreatDoorCF
set_option maxRecDepth 100000
namespace Go.Proofs.YtomggfibpbaodaaGreatDoor
open Go.V

/-! ### append of zeros -/
theorem u43 : P.underlying 43 = some (.slice 5) := by kernel_rfl
theorem u3 : P.underlying 3 = some (.int .i64) := by kernel_rfl
theorem appendZ_k {w : World} {v : Value} {m n : Nat} {l : List UInt8} {K : Value → World → Prop} (h : Own w v 5 1 m (bs l)) (hn : m + n ≤ 1000000)
    (k : ∀ v' w1, Own w1 v' 5 1 (m + n) (bs (l ++ zs n)) → Fr (fun b => v.ownBlock = some b) w w1 → (∀ b, v'.ownBlock = some b → v.ownBlock = some b ∨ w.heap.size ≤ b) → K v' w1) :
    px P (Builtin.append_ #[43, 3] 43 #[v, iv n]) w K := by
  obtain ⟨_, a, cap, rfl, hcap, hnil, _⟩ := id h.sl
  have hl : l.length = m := by have := h.1; rw [bs_length] at this; omega
  by_cases hg : cap < m + n
  · obtain ⟨c, w1, hr, ho, hf⟩ := appendZ_run (P := P) (t := 43) (ty := 43) (k := .i64) (n := n) (z := [.int .u8 0]) u3 rfl h.sl hg (by omega) (by unfold maxLen; omega)
    refine px_of hr (k _ w1 ?_ (hf.mono fun _ h => h.elim) fun b hb => .inr (by cases hb; exact Nat.le_refl _))
    rw [bs_append, ← repz]
    exact ho
  · have hw : IntKind.i64.wrap (n : Int) = n := wrap_i64 (by omega) (by omega)
    have hw0 : IntKind.i64.wrap 0 = 0 := wrap_i64 (by omega) (by omega)
    have hneg : ¬ ((n : Int) < 0) := by omega
    have h48 : ¬ (281474976710656 < (n : Int)) := by omega
    have hle : m + n ≤ cap := by omega
    obtain ⟨i, z', hi, hz, hsize, hby, hzs, hpos⟩ := (inferInstance : ElemT P 5 1 1).row
    obtain ⟨v0, hv0, hvc⟩ := (inferInstance : Zero P 5 [.int .u8 0]).run w
    have hv' : v0 = z' := by
      simp only [zeroValue, typeInfo, Sem.run_bind] at hv0
      simp [hi, hz] at hv0
      exact hv0.symm
    subst hv'
    cases a with
    | none =>
      obtain ⟨rfl, rfl⟩ := hnil rfl
      have hn0 : n = 0 := by omega
      subst hn0
      have hr : (Builtin.append_ #[43, 3] 43 #[.slice none 0 0, iv (0 : Nat)]).run P w = .ok (.slice none 0 0) w := by
        simp [Builtin.append_, run_underlying u43, run_underlying u3, sizeOf, typeInfo, hi, hby, asInt, asIntOf, hw0]
      refine px_of hr (k _ w ?_ (Fr.refl _ _) fun b hb => .inl hb)
      have : l ++ zs 0 = l := by simp [zs]
      rw [this]
      exact h
    | some ad =>
      rcases h.2 with ⟨h0, _⟩ | ⟨g, cap', cur, hv, _, hgb, hnc, hmc, hcs, htake⟩
      · cases h0
      · simp only [Value.slice.injEq, Option.some.injEq] at hv
        obtain ⟨rfl, _, rfl⟩ := hv
        have hb : Bk w g 5 cur.toList := by unfold Bk; rw [hgb]
        have hcl : cur.toList.length = cap := by simp [hcs]
        have hst := storeCells_run (P := P) (o := m) (bs (zs n)) 0 w cur.toList hb (atoms_bs _) (by rw [bs_length, zs_length, hcl]; omega)
        have hr : (Builtin.append_ #[43, 3] 43 #[.slice (some ⟨g, 0, none⟩) m cap, iv n]).run P w = .ok (.slice (some ⟨g, 0, none⟩) (m + n) cap) (putB w g (.cells (spl cur.toList m (bs (zs n))).toArray 5 (0, 0))) := by
          by_cases hn0 : n = 0
          · subst hn0
            have e0 : bs (zs 0) = [] := rfl
            rw [e0] at hst
            have hst' : (Result.ok () w : Result Unit) = .ok () (putB w g (.cells (spl cur.toList (m + 0) []).toArray 5 (0, 0))) := hst
            simp only [Nat.add_zero] at hst'
            injection hst' with _ hst'
            rw [e0, ← hst']
            simp [Builtin.append_, run_underlying u43, run_underlying u3, sizeOf, typeInfo, hi, hby, asInt, asIntOf, hw0, hnc, storeCells]
          · have ez : (Builtin.zeroCells v0.cells n).toList = bs (zs n) := by
              rw [hvc, zeros_made (by simp), ← repz]
            simp [Builtin.append_, run_underlying u43, run_underlying u3, sizeOf, typeInfo, zeroValue, hi, hz, hsize, hby, asInt, asIntOf, hw, hneg, h48, hle, hn0, ez, addr_add, hst]
        refine px_of hr (k _ _ ?_ (Fr.put w g _ rfl) fun b hb => .inl hb)
        have hnb := Bk.put (w := w) (b := g) hb.lt 5 (spl cur.toList m (bs (zs n)))
        have hsl : (spl cur.toList m (bs (zs n))).length = cap := by rw [spl_length (by rw [bs_length, zs_length, hcl]; omega), hcl]
        refine ⟨by rw [bs_length, List.length_append, zs_length]; omega, .inr ⟨g, cap, _, rfl, Nat.zero_le _, hnb, hle, hmc, by simp [hsl], ?_⟩⟩
        simp only [Nat.mul_one] at htake ⊢
        unfold spl
        rw [htake, bs_append, List.append_assoc, ← List.append_assoc]
        apply List.take_left'
        rw [List.length_append, bs_length, bs_length, zs_length, hl]
theorem number212_k {w : World} {v : Value} {l : List UInt8} {K : Value → World → Prop} (h : Sl w v 1 l.length (bs l)) (hl : l.length ≤ 1000) (hn : num l < 9223372036854775808) (k : K (iv (num l)) w) : cl P 212 #[v] w K := by
  obtain ⟨_, av, cv', rfl, _⟩ := id h
  apply c212
  unfold F212
  refine px_run ?_
  refine lp_of (fun vs w' => ∃ i : Nat, vs = [iv (num (l.take i) : Nat), iv i] ∧ i ≤ l.length ∧ w' = w) (fun vs _ => (match vs with | [_, .int _ m] => (l.length - m).toNat | _ => 0)) ⟨0, rfl, by omega, rfl⟩ ?_
  rintro vs w' ⟨i, rfl, hi, rfl⟩
  simp only [g0_cons, g1_cons]
  refine px_run ?_
  refine cnd_dec (fun hlt => ?_) (fun hge => ?_)
  · have hi' : i < l.length := by omega
    refine idx_s (P := P) h (by omega) i rfl hi' fun b o _ hc => ?_
    have h0 := hc 0 (by omega)
    rw [Nat.mul_one, Nat.add_zero, Nat.add_zero, bs_get hi'] at h0
    refine ld1 (P := P) h0 ?_
    have hc := (l[i]).toNat_lt
    have hs : num (l.take (i + 1)) = num (l.take i) * 256 + (l[i]).toNat := by rw [List.take_succ_eq_append_getElem hi', num_snoc]
    have hle := num_take_le l (i + 1)
    refine px_of (shl_i64 (n := num (l.take i)) (s := 8) (by omega) (by omega)) ?_
    refine px_of conv_u8_int ?_
    refine px_of (or_i64 (a := num (l.take i) * 2 ^ 8) (b := (l[i]).toNat) (by omega) (by omega)) ?_
    rw [Nat.or_comm, or_add (i := 8) (by omega), show (l[i]).toNat + num (l.take i) * 2 ^ 8 = num (l.take (i + 1)) by omega]
    haveI : Fits .i64 ((i : Int) + 1) := fits_i64 (by omega) (by omega)
    refine px_run ?_
    exact ⟨⟨i + 1, rfl, by omega, rfl⟩, show ((l.length : Int) - ((i : Int) + 1)).toNat < ((l.length : Int) - (i : Int)).toNat by omega⟩
  · have : i = l.length := by omega
    subst this
    rw [List.take_length]
    exact k
theorem set_k {w : World} {b o k cap tb : Nat} {cs : List UInt8} {n : Int} {K : Value → World → Prop} (h : Bk w b tb (bs cs)) (ho : o + k ≤ cs.length) (hk : k ≤ 8) (hcap : k ≤ cap)
    (kk : ∀ w1, Bk w1 b tb (bs (cs.take o ++ be k n ++ cs.drop (o + k))) → Fr (fun i => i = b) w w1 → K (.tuple #[]) w1) : cl P 153 #[.slice (some ⟨b, o, none⟩) k cap, iv n] w K := by
  apply c153
  unfold F153
  refine px_run ?_
  refine lp_of (fun vs w' => ∃ i : Nat, vs = [iv i] ∧ i ≤ k ∧ Bk w' b tb (bs (cs.take (o + (k - i)) ++ be i n ++ cs.drop (o + k))) ∧ Fr (fun i => i = b) w w')
    (fun vs _ => (match vs with | [.int _ m] => ((k : Int) - m).toNat | _ => 0)) ⟨0, rfl, by omega, by simpa [be] using h, Fr.refl _ _⟩ ?_
  rintro vs w' ⟨i, rfl, hi, hb, hf⟩
  simp only [g0_cons]
  refine px_run ?_
  refine cnd_dec (fun hlt => ?_) (fun hge => ?_)
  · have hi' : i < k := by omega
    refine px_run ?_
    haveI : Fits .i64 ((k : Int) - 1) := fits_i64 (by omega) (by omega)
    refine px_run ?_
    haveI : Fits .i64 ((k : Int) - 1 - (i : Int)) := fits_i64 (by omega) (by omega)
    refine px_run ?_
    haveI : Fits .i64 ((8 : Int) * (i : Int)) := fits_i64 (by omega) (by omega)
    refine px_run ?_
    rw [show (8 : Int) * (i : Int) = ((8 * i : Nat) : Int) by omega]
    refine px_of (shrI (by omega)) ?_
    refine px_of conv_u8I ?_
    rw [show (k : Int) - 1 - (i : Int) = ((k - 1 - i : Nat) : Int) by omega]
    refine idx_k (P := P) (k - 1 - i) rfl (by omega) ?_
    rw [Nat.mul_one]
    have hlen : (cs.take (o + (k - i))).length = o + (k - i) := by rw [List.length_take]; omega
    refine stb_k hb (by simp only [List.length_append, hlen]; omega) fun w1 hb1 hf1 => ?_
    haveI : Fits .i64 ((i : Int) + 1) := fits_i64 (by omega) (by omega)
    refine px_run ?_
    refine ⟨⟨i + 1, rfl, by omega, ?_, hf.two hf1⟩, show ((k : Int) - ((i : Int) + 1)).toNat < ((k : Int) - (i : Int)).toNat by omega⟩
    have e : (cs.take (o + (k - i)) ++ be i n ++ cs.drop (o + k)).set (o + (k - 1 - i)) (UInt8.ofNat (n / (2 ^ (8 * i) : Nat) % 256).toNat) = cs.take (o + (k - (i + 1))) ++ be (i + 1) n ++ cs.drop (o + k) := by
      have e1 : cs.take (o + (k - i)) = cs.take (o + (k - (i + 1))) ++ [cs[o + (k - (i + 1))]'(by omega)] := by
        rw [show o + (k - i) = (o + (k - (i + 1))) + 1 by omega, List.take_succ_eq_append_getElem (by omega)]
      have hlen1 : (cs.take (o + (k - (i + 1)))).length = o + (k - (i + 1)) := by rw [List.length_take]; omega
      rw [e1, show o + (k - 1 - i) = (cs.take (o + (k - (i + 1)))).length by rw [hlen1]; omega, ← pow256]
      simp only [be, List.append_assoc, List.cons_append, List.nil_append]
      rw [List.set_append_right _ _ (Nat.le_refl _), Nat.sub_self]
      rfl
    rw [e] at hb1
    exact hb1
  · have : i = k := by omega
    subst this
    rw [Nat.sub_self, Nat.add_zero] at hb
    exact kk w' hb hf
/-! ### pages -/
theorem wrap_range (n : Int) : -9223372036854775808 ≤ w64 n ∧ w64 n ≤ 9223372036854775807 := by
  simp only [w64, IntKind.wrap, IntKind.signed, IntKind.bits]
  simp
  omega
theorem tdiv480 {n : Int} (h1 : -9223372036854775808 ≤ n) (h2 : n ≤ 9223372036854775807) : -100000000000000000 ≤ n.tdiv 480 ∧ n.tdiv 480 ≤ 100000000000000000 := by
  rw [Int.tdiv_eq_ediv]
  have hs : Int.sign 480 = 1 := by decide
  rw [hs]
  split <;> omega
theorem npages_le (n : Int) : npages n ≤ 100000000000000000 := by
  unfold npages
  split
  · omega
  · exact (tdiv480 (wrap_range _).1 (wrap_range _).2).2
theorem npages78_k {w : World} {n : Int} {K : Value → World → Prop} (k : K (iv (npages n)) w) : cl P 78 #[iv n] w K := by
  apply c78
  unfold F78
  unfold npages at k
  refine px_run ?_
  refine cnd_dec (fun h => ?_) (fun h => ?_)
  · rw [if_pos h] at k
    exact k
  · rw [if_neg h] at k
    refine px_run ?_
    refine px_run ?_
    have h1 := wrap_range (w64 (n + 480) - 1)
    have h2 := tdiv480 h1.1 h1.2
    refine px_of (quo_run (by decide) (Int.le_trans (by omega) h2.1) (Int.le_trans h2.2 (by omega))) ?_
    exact k
/-! ### Nodes read and written -/
section
variable {w : World} {t b d : Nat} {p : Pg} {F : Nat → Prop} {K : Value → World → Prop}
abbrev TreeAt (w : World) (t b : Nat) : Prop := Bk w t 165 [pt b]
theorem readN_k {n : Int} (ht : TreeAt w t b) (h : PgM w b d p F) (hw : p.WF)
    (k0 : ∀ e l a m c a' m' c' w1, p.readN n = .error e → e ≠ 0 → Fr no w w1 → K (.tuple #[.agg [.bool l, .slice a m c, .slice a' m' c'].toArray, iv e]) w1)
    (k1 : ∀ x vc vk w1, p.readN n = .ok x → NodeN w w1 vc vk x → x.Small → K (.tuple #[nv x vc vk, iv 0]) w1) : cl P 146 #[pt t, iv n] w K := by
  apply c146
  unfold F146
  unfold Pg.readN at k0 k1
  refine alloc_k (P := P) (z := [.bool false, .slice none 0 0, .slice none 0 0]) fun b4 w1 hb4e hb4 hf1 => ?_
  have s1 := hf1.size
  have ht1 := ht.fr0 hf1
  have h1 := h.fr0 hf1
  have hl4 := hb4.lt
  refine nc_ptr ?_
  refine px_run ?_
  refine ldB ht1 rfl ?_
  refine read_k h1 hw (fun e w2 he hne hf2 => ?_) (fun s v w2 he hs hv hf2 hnv => ?_)
  · rw [he] at k0
    simp only at k0
    have k0 := fun l a m c a' m' c' w1 => k0 _ l a m c a' m' c' w1 rfl
    refine px_run ?_
    refine px_run ?_
    refine px_run ?_
    have hb42 := hb4.fr0 hf2
    have f2 : Fr no w w2 := hf1.trans hf2 (fun _ h => by cases h)
    have fin : ∀ e', e' ≠ 0 → (e' ≠ 0 → ∀ w1, Fr no w w1 → K (.tuple #[.agg [.bool false, .slice none 0 0, .slice none 0 0].toArray, iv e']) w1) →
        px P (bin true .neq 32 (iv e') (iv 0)) w2 fun v21 w => cnd v21 (
          px P (Instr.build 155 #[]) w fun v22 w =>
          pu P (Instr.storeAt 155 (pt b4) v22) w fun w =>
          pla P 155 (pt b4) w fun v4_1 => K (.tuple #[v4_1, iv e']) w)
          (cl P 209 #[Value.slice none 0 0] w fun v26 w =>
          px P (Instr.extract v26 0) w fun v27 w =>
          px P (Instr.extract v26 1) w fun v28 w =>
          px P (Instr.alloc 155 true (.tuple #[])) w fun v8 w =>
          pu P (Instr.storeAt 155 v8 v27) w fun w =>
          px P (bin true .eql 32 v28 (.int .i64 0)) w fun v30 w =>
          gd v30 true w (fun k => px P (Instr.fieldAt 155 v8 0) w fun v w => k v w) fun v32 w =>
          gd v30 true w (fun k => px P (Instr.loadAt 4 v32) w fun v w => k v w) fun v33 w =>
          gd v30 true w (fun k => px P (Op.unary .not v33) w fun v w => k v w) fun v34 w =>
          pk v30 v34 (.bool false) w fun v35 w =>
          gd v35 true w (fun k => px P (Instr.fieldAt 155 v8 1) w fun v w => k v w) fun v37 w =>
          gd v35 true w (fun k => px P (Instr.loadAt 153 v37) w fun v w => k v w) fun v38 w =>
          gd v35 true w (fun k => px P (Builtin.len_ #[153] 3 #[v38]) w fun v w => k v w) fun v39 w =>
          gd v35 true w (fun k => px P (bin true .eql 3 v39 (.int .i64 0)) w fun v w => k v w) fun v40 w =>
          pk v35 v40 (.bool false) w fun v41 w =>
          cut (fun J2 =>
            cnd v41 (
              J2 [(.int .i64 4)] w) (
              J2 [v28] w)) fun vs2 w =>
          px P (Instr.loadAt 155 v8) w fun v42 w =>
          pu P (Instr.storeAt 155 (pt b4) v42) w fun w =>
          pla P 155 (pt b4) w fun v4_2 =>
          K (.tuple #[v4_2, (g0 vs2)]) w) := by
      intro e' hne' kk
      refine px_run ?_
      have e1 : decide (e' ≠ 0) = true := by simp [hne']
      simp only [e1]
      refine cnd_true ?_
      refine px_of build155_0 ?_
      refine stA0_k hb42 (atoms_node _ _ _ _ _ _ _) rfl rfl fun w3 hb3 hf3 => ?_
      refine plA0 hb3 rfl ?_
      exact kk hne' w3 (f2.new hf3 (fun i hi => by omega))
    refine cut_in ?_
    refine cnd_dec (fun h1 => ?_) (fun h1 => ?_)
    · rw [if_pos h1] at k0
      simp only [g0_cons]
      exact fin 4 (by decide) fun hn w1 f => k0 _ _ _ _ _ _ _ w1 hn f
    · rw [if_neg h1] at k0
      simp only [g0_cons]
      exact fin e hne fun hn w1 f => k0 _ _ _ _ _ _ _ w1 hn f
  · rw [he] at k0 k1
    simp only at k0 k1
    refine px_run ?_
    refine px_run ?_
    refine px_run ?_
    refine cut_in ?_
    refine cnd_false ?_
    simp only [g0_cons]
    refine px_run ?_
    refine cnd_false ?_
    have f2 : Fr no w w2 := hf1.trans hf2 (fun _ h => by cases h)
    have hb42 := hb4.fr0 hf2
    rw [← hs] at hv
    refine decode_k hv.sl (by omega) (fun hd w3 hf3 => ?_) (fun x hd vc vk w3 h3 hsm => ?_)
    · rw [hd] at k0
      simp only at k0
      refine px_run ?_
      refine px_run ?_
      refine alloc_k (P := P) (z := [.bool false, .slice none 0 0, .slice none 0 0]) fun b8 w4 hb8e hb8 hf4 => ?_
      refine stA0_k hb8 (atoms_node _ _ _ _ _ _ _) rfl rfl fun w5 hb85 hf5 => ?_
      refine px_run ?_
      iterate 3 refine gd_ft ?_
      refine pk_false ?_
      iterate 4 refine gd_ft ?_
      refine pk_false ?_
      refine cut_in ?_
      refine cnd_false ?_
      simp only [g0_cons]
      refine ldA0 hb85 rfl ?_
      have s3 := hf3.size
      have s2 := f2.size
      have f35 : Fr no w3 w5 := hf4.new hf5 (fun i hi => by omega)
      have f25 := hf3.trans f35 (fun _ h => by cases h)
      have hb45 := hb42.fr0 f25
      refine stA0_k hb45 (atoms_node _ _ _ _ _ _ _) rfl rfl fun w6 hb46 hf6 => ?_
      refine plA0 hb46 rfl ?_
      exact k0 4 _ _ _ _ _ _ _ w6 rfl (by decide) ((f2.trans f25 (fun _ h => by cases h)).new hf6 (fun i hi => by omega))
    · rw [hd] at k0 k1
      simp only at k0 k1
      obtain ⟨ac, cc, rfl⟩ := Own.atom h3.cells
      obtain ⟨ak, ck, rfl⟩ := Own.atom h3.kids
      refine px_run ?_
      refine px_run ?_
      refine alloc_k (P := P) (z := [.bool false, .slice none 0 0, .slice none 0 0]) fun b8 w4 hb8e hb8 hf4 => ?_
      refine stA0_k hb8 (atoms_node _ _ _ _ _ _ _) rfl rfl fun w5 hb85 hf5 => ?_
      have s3 := h3.fr.size
      have s2 := f2.size
      have f35 : Fr no w3 w5 := hf4.new hf5 (fun i hi => by omega)
      have f25 := h3.fr.trans f35 (fun _ h => by cases h)
      have hb45 := hb42.fr0 f25
      have f5 := f2.trans f25 (fun _ h => by cases h)
      refine px_run ?_
      refine gd_tt ?_
      refine px_run ?_
      refine gd_tt ?_
      refine ldB hb85 rfl ?_
      refine gd_tt ?_
      refine px_run ?_
      refine pk_true ?_
      have hc5 := h3.cells.fr0 f35
      have hk5 := h3.kids.fr0 f35
      have fin : ∀ w6, Bk w6 b4 155 [.bool x.leaf, .slice ac x.cells.length cc, .slice ak x.kids.length ck] → Fr (fun i => i = b4) w5 w6 → NodeN w w6 (.slice ac x.cells.length cc) (.slice ak x.kids.length ck) x := fun w6 hb46 hf6 =>
        ⟨hc5.frb hf6 hb45 (by decide), hk5.frb hf6 hb45 (by decide), f5.new hf6 (fun i hi => by omega), fun i hi => by have := h3.newc i hi; omega, fun i hi => by have := h3.newk i hi; omega⟩
      have finOk : ¬ (x.leaf = false ∧ x.cells = []) → px P (Instr.loadAt 155 (pt b8)) w5 fun v42 w =>
          pu P (Instr.storeAt 155 (pt b4) v42) w fun w =>
          pla P 155 (pt b4) w fun v4_2 =>
          K (.tuple #[v4_2, iv 0]) w := fun hc => by
        rw [if_neg hc] at k1
        refine ldA0 hb85 rfl ?_
        refine stA0_k hb45 (atoms_node _ _ _ _ _ _ _) rfl rfl fun w6 hb46 hf6 => ?_
        refine plA0 hb46 rfl ?_
        exact k1 x _ _ w6 rfl (fin w6 hb46 hf6) hsm
      cases hlf : x.leaf
      · simp only [Bool.not_false]
        refine gd_tt ?_
        refine px_run ?_
        refine gd_tt ?_
        refine ldB hb85 rfl ?_
        refine gd_tt ?_
        refine px_run ?_
        refine gd_tt ?_
        refine px_run ?_
        refine pk_true ?_
        refine cut_in ?_
        refine cnd_dec (fun h0 => ?_) (fun h0 => ?_)
        · have hnil : x.cells = [] := List.eq_nil_of_length_eq_zero (by omega)
          simp only [g0_cons]
          rw [if_pos ⟨hlf, hnil⟩] at k0
          refine ldA0 hb85 rfl ?_
          refine stA0_k hb45 (atoms_node _ _ _ _ _ _ _) rfl rfl fun w6 hb46 hf6 => ?_
          refine plA0 hb46 rfl ?_
          exact k0 4 _ _ _ _ _ _ _ w6 rfl (by decide) (f5.new hf6 (fun i hi => by omega))
        · simp only [g0_cons]
          exact finOk (fun hc => h0 (by rw [hc.2]; rfl))
      · simp only [Bool.not_true]
        iterate 4 refine gd_ft ?_
        refine pk_false ?_
        refine cut_in ?_
        refine cnd_false ?_
        simp only [g0_cons]
        exact finOk (fun hc => by rw [hlf] at hc; cases hc.1)
theorem NodeN.mu {x : Node} {w w1 : World} {vc vk : Value} {F : Nat → Prop} (h : NodeN w w1 vc vk x) (hm : ∀ i, F i → Mut w1 i) : (∀ i, vc.ownBlock = some i → ¬ F i) ∧ ∀ i, vk.ownBlock = some i → ¬ F i :=
  ⟨Own.offM h.cells hm (by decide), Own.offM h.kids hm (by decide)⟩
theorem writeN_k {n : Int} {x : Node} {vc vk : Value} (ht : TreeAt w t b) (h : PgM w b d p F) (hw : p.WF) (hx : NodeAt w vc vk x)
    (k : ∀ w1, PgM w1 b d (p.writeN n x).1 F → Fr F w w1 → K (iv (p.writeN n x).2) w1) : cl P 154 #[pt t, iv n, nv x vc vk] w K := by
  apply c154
  unfold F154
  unfold Pg.writeN at k
  refine boxA_k fun b5 w1 hb5e hb5 hf1 => ?_
  refine ldA0 hb5 rfl ?_
  have ht1 := ht.fr0 hf1
  have h1 := h.fr0 hf1
  refine encode_k (hx.fr0 hf1) (fun hc w2 hf2 => ?_) (fun hc hl w2 hf2 => ?_) (fun hc hl v w2 hN => ?_)
  · rw [if_pos hc] at k
    refine px_run ?_
    refine px_run ?_
    refine px_run ?_
    refine cnd_true ?_
    exact k w2 (h1.fr0 hf2) ((hf1.then hf2).mono fun _ h => h.elim)
  · rw [if_neg (by simp [hc]), if_pos hl] at k
    refine px_run ?_
    refine px_run ?_
    refine px_run ?_
    refine cnd_true ?_
    exact k w2 (h1.fr0 hf2) ((hf1.then hf2).mono fun _ h => h.elim)
  · rw [if_neg (by simp [hc]), if_neg (by omega)] at k
    obtain ⟨a, c, rfl⟩ := Own.atom hN.own
    have f2 : Fr no w w2 := hf1.trans hN.fr (fun _ h => by cases h)
    refine px_run ?_
    refine px_run ?_
    refine px_run ?_
    refine cnd_false ?_
    refine dr_of ?_
    have fd := Fr.dw w2
    have f3 := f2.trans fd (fun _ h => by cases h)
    have ht3 := ht.fr0 f3
    have h3 := h.fr0 f3
    have hO := hN.own.fr0 fd
    have hs3 := f3.size
    generalize dw w2 = w3 at fd f3 ht3 h3 hO hs3
    refine held_of (fun w' => Bk w' t 165 [pt b]) ht3 ?_
    refine ny_ptr ?_
    refine py_run ?_
    refine ldBy (P := P) (fun w' hS => hS.cell 0) ?_
    refine py_run ?_
    haveI : Fits .i64 ((512 : Int) - (x.bytes.length : Int)) := fits_i64 (by omega) (by omega)
    refine py_run ?_
    rw [show (512 : Int) - (x.bytes.length : Int) = ((512 - x.bytes.length : Nat) : Int) by omega]
    refine appendZ_k hO (by omega) fun v' w4 hv' hf4 hnv' => ?_
    have hnt : ∀ i, (Value.slice a x.bytes.length c).ownBlock = some i → i ≠ t := fun i hi e => by
      subst e
      exact Own.ne_bk hO ht3 (by decide) hi
    have ht4 := ht3.fr hf4 (fun e => hnt _ e rfl)
    refine hs_of ht4 ?_
    have hoff := Own.offM hO h3.mu (by decide)
    have h4 := h3.fr hf4 (fun i hi e => hoff i e hi)
    have f4 : Fr no w w4 := f3.new hf4 (fun i hi => by
      have := hN.new i hi
      have := hf1.size
      omega)
    have hlen : (x.bytes ++ zs (512 - x.bytes.length)).length = x.bytes.length + (512 - x.bytes.length) := by rw [List.length_append, zs_length]
    rw [← hlen] at hv'
    refine write_k h4 (hw) hv'.sl (Own.offM hv' h4.mu (by decide)) fun w5 h5 hf5 => ?_
    have ht5 := ht4.fr hf5 (Bk.offM ht4 h4.mu (by decide))
    refine hs_of ht5 ?_
    exact k w5 h5 (Fr.of f4 hf5)
theorem Pg.WF.writeN {p : Pg} (h : p.WF) (n : Int) (x : Node) : (p.writeN n x).1.WF := by
  unfold Pg.writeN
  split
  · exact h
  · split
    · exact h
    · exact h.write _ _
theorem Pg.WF.add {p : Pg} (h : p.WF) (x : Node) : (p.add x).1.WF := by
  unfold Pg.add
  simp only
  split
  · exact h.alloc
  · exact h.alloc.writeN _ _
theorem NodeAt.frF {G : Nat → Prop} {w w1 : World} {vc vk : Value} {x : Node} (h : NodeAt w vc vk x) (f : Fr G w w1) (h1 : ∀ i, vc.ownBlock = some i → ¬ G i) (h2 : ∀ i, vk.ownBlock = some i → ¬ G i) : NodeAt w1 vc vk x :=
  h.fr f h1 h2
theorem add_k {x : Node} {vc vk : Value} (ht : TreeAt w t b) (h : PgM w b d p F) (hw : p.WF) (hx : NodeAt w vc vk x) (hc : ∀ i, vc.ownBlock = some i → ¬ F i) (hk : ∀ i, vk.ownBlock = some i → ¬ F i)
    (k : ∀ w1, PgM w1 b d (p.add x).1 F → Fr F w w1 → K (.tuple #[iv (p.add x).2.1, iv (p.add x).2.2]) w1) : cl P 82 #[pt t, nv x vc vk] w K := by
  obtain ⟨_, ac, cc, rfl, _⟩ := id hx.cells
  obtain ⟨_, ak, ck, rfl, _⟩ := id hx.kids
  apply c82
  unfold F82
  unfold Pg.add at k
  simp only at k
  refine boxA_k fun b3 w1 hb3e hb3 hf1 => ?_
  have ht1 := ht.fr0 hf1
  have h1 := h.fr0 hf1
  refine nc_ptr ?_
  refine px_run ?_
  refine ldB ht1 rfl ?_
  refine alloc30_k h1 hw fun w2 h2 hf2 => ?_
  have f2 : Fr F w w2 := Fr.of hf1 hf2
  have ht2 := ht1.fr hf2 (Bk.offM ht1 h1.mu (by decide))
  have hb32 := hb3.fr hf2 (Bk.offM hb3 h1.mu (by decide))
  have hx2 := (hx.fr0 hf1).fr hf2 hc hk
  refine px_run ?_
  refine px_run ?_
  refine px_run ?_
  refine cnd_dec (fun hn => ?_) (fun hn => ?_)
  · rw [if_pos hn] at k
    exact k w2 h2 f2
  · rw [if_neg hn] at k
    refine ldA0 hb32 rfl ?_
    refine writeN_k ht2 h2 hw.alloc hx2 fun w3 h3 hf3 => ?_
    exact k w3 h3 (f2.two hf3)
theorem kid_k {x : Node} {vc vk : Value} {key : Str} (h : NodeAt w vc vk x) (k : ∀ w1, Fr no w w1 → K (iv (kid x key)) w1) : cl P 148 #[nv x vc vk, sv key] w K := by
  obtain ⟨_, ac, cc, rfl, _⟩ := id h.cells
  obtain ⟨_, ak, ck, rfl, _⟩ := id h.kids
  have hsc := h.small.cells
  have hle : (x.find key).1 ≤ x.cells.length := by
    unfold Node.find
    have := fidx_ge (q := fun c : Cell => !ltS c.key key) (l := x.cells)
    split <;> simp <;> omega
  apply c148
  unfold F148
  unfold kid at k
  refine boxA_k fun b2 w1 hb2e hb2 hf1 => ?_
  refine ldA0 hb2 rfl ?_
  refine find_k (h.fr0 hf1) fun w2 hf2 => ?_
  have f2 : Fr no w w2 := hf1.trans hf2 (fun _ h => by cases h)
  refine px_run ?_
  refine px_run ?_
  cases hb : (x.find key).2
  · rw [hb, if_neg (by simp)] at k
    refine cnd_false ?_
    exact k w2 f2
  · rw [hb, if_pos rfl] at k
    refine cnd_true ?_
    haveI : Fits .i64 (((x.find key).1 : Int) + 1) := fits_i64 (by omega) (by omega)
    refine px_run ?_
    exact k w2 f2
theorem full_k {n : Int} (ht : TreeAt w t b) (h : PgM w b d p F) (hw : p.WF) (k : ∀ w1, Fr no w w1 → K (.bool (decide (p.free < w64 (24 + n)))) w1) : cl P 77 #[pt t, iv n] w K := by
  obtain ⟨r, md, mn, mi, mc, Fd, h⟩ := h
  apply c77
  unfold F77
  refine nc_ptr ?_
  refine px_run ?_
  refine ldB ht rfl ?_
  refine free_k h hw fun w1 hf1 => ?_
  refine px_run ?_
  refine px_run ?_
  exact k w1 hf1
end
/-! ### Long values -/
section
variable {w w1 : World} {t b d : Nat} {p : Pg} {F : Nat → Prop} {K : Value → World → Prop}
/-- Cells' blocks stand. -/
theorem longF_succ {σ : Type} (size : Int) (see : Pg → σ → Int → Sec → Pg × σ × Int) (f : Nat) (p : Pg) (s : σ) (page : Int) : Pg.longF size see (f + 1) p s page =
    match p.read page with
    | .error e => (p, s, if e = 1 ∨ 8192 < size then 4 else e)
    | .ok b =>
      if 8192 < size then (p, s, 4) else
      if (see p s page ((b.drop 4).take 480)).2.2 ≠ 0 then see p s page ((b.drop 4).take 480) else Pg.longF size see f (see p s page ((b.drop 4).take 480)).1 (see p s page ((b.drop 4).take 480)).2.1 (num (b.take 4)) := rfl
def Keep (w w1 : World) : Prop := ∀ i cs, Bk w i 159 cs → Bk w1 i 159 cs
theorem Keep.fr0 (f : Fr no w w1) : Keep w w1 := fun _ _ h => h.fr0 f
theorem Keep.trans {w1 w2 : World} (h : Keep w w1) (k : Keep w1 w2) : Keep w w2 := fun i cs hb => k i cs (h i cs hb)
theorem npages18 {n : Int} (h : n ≤ 8192) : npages n ≤ 18 := by
  unfold npages
  split
  · omega
  · rw [w64_id (n := n + 480) (by omega) (by omega), w64_id (by omega) (by omega), Int.tdiv_eq_ediv]
    have hs : Int.sign 480 = 1 := by decide
    rw [hs]
    split <;> omega
theorem long_k {σ : Type} {c : Cell} {fv : Value} {see : Pg → σ → Int → Sec → Pg × σ × Int} {s : σ} (Inv : Nat → World → Pg → σ → Prop)
    (hI : ∀ i w p s, Inv i w p s → TreeAt w t b ∧ PgM w b d p F ∧ p.WF)
    (hfr : ∀ i w w1 p s, Inv i w p s → Fr no w w1 → Inv i w1 p s)
    (hsee : ∀ i w p s page v (l : Sec) (K : Value → World → Prop), i < 18 → Inv i w p s → l.length = 480 → Sl w v 1 480 (bs l) →
      (∀ w1, Inv (i + 1) w1 (see p s page l).1 (see p s page l).2.1 → Keep w w1 → K (iv (see p s page l).2.2) w1) → cv P fv #[iv page, v] w K)
    (h0 : Inv 0 w p s)
    (k : ∀ i w1, Inv i w1 (Pg.longF c.size see (npages c.size).toNat p s c.long).1 (Pg.longF c.size see (npages c.size).toNat p s c.long).2.1 → K (iv (Pg.longF c.size see (npages c.size).toNat p s c.long).2.2) w1) :
    cl P 149 #[pt t, .agg (cenc c).toArray, fv] w K := by
  have hnp := npages_le c.size
  apply c149
  unfold F149
  refine boxA_k fun b4 w1 hb4e hb4 hf1 => ?_
  have hI1 := hfr _ _ _ _ _ h0 hf1
  refine px_run ?_
  refine ldB hb4 rfl ?_
  refine px_run ?_
  refine ldB hb4 rfl ?_
  refine npages78_k ?_
  refine lp_of (fun vs w' => ∃ (page : Int) (i : Nat) (q : Pg) (s' : σ), vs = [iv page, iv i] ∧ Inv i w' q s' ∧ Bk w' b4 159 (cenc c) ∧
      Pg.longF c.size see (npages c.size).toNat p s c.long = Pg.longF c.size see (npages c.size - i).toNat q s' page)
    (fun vs _ => (match vs with | [_, .int _ m] => (npages c.size - m).toNat | _ => 0)) ⟨c.long, 0, p, s, rfl, hI1, hb4, by rw [Int.natCast_zero, Int.sub_zero]⟩ ?_
  rintro vs w2 ⟨page, i, q, s', rfl, hI2, hb42, he⟩
  simp only [g0_cons, g1_cons]
  rw [he] at k
  refine px_run ?_
  refine cnd_dec (fun hlt => ?_) (fun hge => ?_)
  · obtain ⟨ht2, h2, hw2⟩ := hI _ _ _ _ hI2
    have hn : (npages c.size - i).toNat = (npages c.size - ((i + 1 : Nat) : Int)).toNat + 1 := by omega
    rw [hn] at k he
    rw [longF_succ] at k he
    refine nc_ptr ?_
    refine px_run ?_
    refine ldB ht2 rfl ?_
    refine read_k h2 hw2 (fun e w3 hr hne hf3 => ?_) (fun b' v w3 hr hs hv hf3 hnv => ?_)
    · rw [hr] at k
      simp only at k
      have hI3 := hfr _ _ _ _ _ hI2 hf3
      have hb43 := hb42.fr0 hf3
      refine px_run ?_
      refine px_run ?_
      refine px_run ?_
      by_cases h1 : e = 1
      · simp only [h1, decide_true]
        rw [if_pos (.inl h1)] at k
        iterate 3 refine gd_tf ?_
        refine pk_true ?_
        refine cnd_true ?_
        exact k _ w3 hI3
      · simp only [h1, decide_false]
        refine gd_ff ?_
        refine px_run ?_
        refine gd_ff ?_
        refine ldB hb43 rfl ?_
        refine gd_ff ?_
        refine px_run ?_
        refine pk_false ?_
        refine cnd_dec (fun h8 => ?_) (fun h8 => ?_)
        · rw [if_pos (.inr h8)] at k
          exact k _ w3 hI3
        · rw [if_neg (by intro h; rcases h with h | h; exact h1 h; exact h8 h)] at k
          refine px_run ?_
          have e1 : decide (e ≠ 0) = true := by simp [hne]
          simp only [e1]
          refine cnd_true ?_
          exact k _ w3 hI3
    · rw [hr] at k he
      simp only at k he
      have hI3 := hfr _ _ _ _ _ hI2 hf3
      have hb43 := hb42.fr0 hf3
      refine px_run ?_
      refine px_run ?_
      refine px_run ?_
      refine gd_ff ?_
      refine px_run ?_
      refine gd_ff ?_
      refine ldB hb43 rfl ?_
      refine gd_ff ?_
      refine px_run ?_
      refine pk_false ?_
      refine cnd_dec (fun h8 => ?_) (fun h8 => ?_)
      · rw [if_pos h8] at k
        exact k _ w3 hI3
      · rw [if_neg h8] at k he
        refine px_run ?_
        refine cnd_false ?_
        refine slc_h (P := P) 4 rfl hv.sl (by omega) fun v4 hv4 _ => ?_
        rw [Nat.mul_one, bs_take] at hv4
        have hl4 : (b'.take 4).length = 4 := by rw [List.length_take]; omega
        have hv4' : Sl w3 v4 1 (b'.take 4).length (bs (b'.take 4)) := by rw [hl4]; exact hv4
        have hnum : num (b'.take 4) < 9223372036854775808 := by
          have := num_lt (b'.take 4)
          rw [hl4] at this
          have e : (256 : Nat) ^ 4 = 4294967296 := by decide
          omega
        refine number212_k hv4' (by omega) hnum ?_
        refine slc_lh (P := P) 4 484 rfl rfl hv.sl (by omega) (by omega) fun v5 hv5 _ => ?_
        rw [show (484 - 4) * 1 = 480 by omega, Nat.mul_one, bs_part] at hv5
        have h18 := npages18 (n := c.size) (by omega)
        refine hsee i w3 q s' page v5 _ _ (by omega) hI3 (by rw [List.length_take, List.length_drop]; omega) hv5 fun w4 hI4 hK4 => ?_
        refine px_run ?_
        refine cnd_dec (fun hx => ?_) (fun hx => ?_)
        · rw [if_pos hx] at k
          exact k _ w4 hI4
        · rw [if_neg hx] at k he
          haveI : Fits .i64 ((i : Int) + 1) := fits_i64 (by omega) (by omega)
          refine px_run ?_
          exact ⟨⟨_, i + 1, _, _, rfl, hI4, hK4 _ _ hb43, he⟩, show (npages c.size - ((i : Int) + 1)).toNat < (npages c.size - (i : Int)).toNat by omega⟩
  · have hn : (npages c.size - i).toNat = 0 := by omega
    rw [hn] at k
    unfold Pg.longF at k
    refine px_run ?_
    refine cnd_dec (fun hp => ?_) (fun hp => ?_)
    · rw [if_pos hp] at k
      exact k _ w2 hI2
    · rw [if_neg hp] at k
      exact k _ w2 hI2
end
section
variable {w w1 : World} {t b d : Nat} {p : Pg} {F : Nat → Prop} {K : Value → World → Prop}
instance {ts : Array TypeId} {ty : TypeId} {a b : Int} {w : World} : Rn P (Builtin.max_ ts ty #[iv a, iv b]) w (iv (max a b)) w := ⟨by
  have e : (if b > a then b else a) = max a b := by
    rw [Int.max_def]
    split <;> split <;> omega
  rw [← e]
  exact run_max_int2 (P := P) (w := w) ts ty .i64 .i64 a b⟩
theorem value_k {c : Cell} (ht : TreeAt w t b) (h : PgM w b d p F) (hw : p.WF) (hs : 0 ≤ c.size) (k : ∀ w1, Fr no w w1 → K (.tuple #[sv (p.value c).1, iv (p.value c).2]) w1) : cl P 86 #[pt t, .agg (cenc c).toArray] w K := by
  apply c86
  unfold F86
  unfold Pg.value at k
  refine boxA_k fun b3 w1 hb3e hb3 hf1 => ?_
  refine px_run ?_
  refine ldB hb3 rfl ?_
  refine px_run ?_
  refine cnd_dec (fun h0 => ?_) (fun h0 => ?_)
  · rw [if_pos h0] at k
    refine px_run ?_
    refine ldB hb3 rfl ?_
    exact k w1 hf1
  · rw [if_neg h0] at k
    simp only at k
    refine alloc_k (P := P) (z := [.slice none 0 0]) fun b6 w2 hb6e hb6 hf2 => ?_
    refine ldA0 (hb3.fr0 hf2) rfl ?_
    refine px_run ?_
    have f2 : Fr no w w2 := hf1.trans hf2 (fun _ h => by cases h)
    have s1 := hf1.size
    have s2 := f2.size
    have hl6 := hb6.lt
    refine long_k (t := t) (b := b) (d := d) (F := F) (p := p) (s := ([] : Str)) (see := fun p s _ b => (p, s ++ b, 0))
      (fun i w' q s => q = p ∧ Fr no w w' ∧ TreeAt w' t b ∧ PgM w' b d p F ∧ Bk w' b3 159 (cenc c) ∧ s.length = 480 * i ∧ ∃ vs, Bk w' b6 43 [vs] ∧ Own w' vs 5 1 s.length (bs s) ∧ (∀ i, vs.ownBlock = some i → w.heap.size ≤ i))
      (fun i w' q s hI => ⟨hI.2.2.1, hI.1 ▸ hI.2.2.2.1, hI.1 ▸ hw⟩)
      (fun i w' w'' q s ⟨e, f, hT, hP, hB, hL, vs, hv, ho, hn⟩ f' => ⟨e, f.trans f' (fun _ h => by cases h), hT.fr0 f', hP.fr0 f', hB.fr0 f', hL, vs, hv.fr0 f', ho.fr0 f', hn⟩)
      ?_ ⟨rfl, f2, ht.fr0 f2, h.fr0 f2, hb3.fr0 hf2, rfl, _, hb6, Own.nil _ _ _, fun _ hb => by cases hb⟩ ?_
    · rintro i w3 q s page v l K' hi ⟨rfl, f3, hT, hP, hB, hL, vs, hv, ho, hn⟩ hl hvl k'
      refine cv_k ?_
      apply c163
      unfold F163
      obtain ⟨av, cv, rfl⟩ := Own.atom ho
      have s3 := f3.size
      refine ldB hv rfl ?_
      refine append_k (P := P) (by' := 1) ho hvl (atoms_bs _) (by unfold maxLen; omega) (by omega) fun v' w4 ho4 hf4 hn4 => ?_
      obtain ⟨av', cv', rfl⟩ := Own.atom ho4
      have hoff := Own.offM ho hP.mu (by decide)
      have hv4 : Bk w4 b6 43 [.slice av s.length cv] := hv.fr hf4 (fun e => Own.ne_bk ho hv (by decide) e)
      have hT4 : Bk w4 t 165 [pt b] := hT.fr hf4 (fun e => Own.ne_bk ho hT (by decide) e)
      have hB4 : Bk w4 b3 159 (cenc c) := hB.fr hf4 (fun e => Own.ne_bk ho hB (by decide) e)
      have hP4 := hP.fr hf4 (fun i hi e => hoff i e hi)
      have f4 : Fr no w w4 := f3.new hf4 (fun i hi => hn i hi)
      refine stB_k hv4 (by simp) fun w5 hv5 hf5 => ?_
      have hne : ∀ j cs t', Bk w4 j t' cs → t' ≠ 43 → j ≠ b6 := fun j cs t' hj ht' e => by
        subst e
        exact ht' (Bk.typ hj hv4)
      refine k' w5 ⟨rfl, f4.new hf5 (fun i hi => by omega), hT4.fr hf5 (hne _ _ _ hT4 (by decide)), hP4.fr hf5 (fun i hi e => ?_), hB4.fr hf5 (hne _ _ _ hB4 (by decide)), by rw [List.length_append, hL, hl]; omega, _, hv5, ?_, ?_⟩ ?_
      · have e' : i = b6 := e
        subst e'
        exact Bk.offM hv4 hP4.mu (by decide) hi
      · rw [List.length_append, bs_append, hl]
        exact ho4.frb hf5 hv4 (by decide)
      · intro i hi
        rcases hn4 i hi with h | h
        · exact hn i h
        · omega
      · intro i cs hb
        exact (hb.fr hf4 (fun e => Own.ne_bk ho hb (by decide) e)).fr hf5 (fun e => by
          have e' : i = b6 := e
          subst e'
          exact absurd (Bk.typ (hb.fr hf4 (fun e => Own.ne_bk ho hb (by decide) e)) hv4) (by decide))
    · rintro i w3 ⟨e1, f3, hT, hP, hB, hL, vs, hv, ho, hn⟩
      generalize Pg.longF c.size (fun p s _ b => (p, s ++ b, 0)) (npages c.size).toNat p ([] : Str) c.long = X at k e1 hL ho ⊢
      obtain ⟨X1, X2, X3⟩ := X
      simp only at k e1 hL ho ⊢
      obtain ⟨av, cv, rfl⟩ := Own.atom ho
      refine px_run ?_
      by_cases h3 : X3 = 0
      · subst h3
        simp only [ne_eq, not_true_eq_false, decide_false]
        refine gd_ff ?_
        refine ldB hv rfl ?_
        refine gd_ff ?_
        refine px_run ?_
        refine gd_ff ?_
        refine px_run ?_
        refine gd_ff ?_
        refine ldB hB rfl ?_
        refine gd_ff ?_
        refine px_run ?_
        refine pk_false ?_
        refine cnd_dec (fun hlt => ?_) (fun hge => ?_)
        · rw [if_pos (.inr hlt)] at k
          refine px_run ?_
          exact k w3 f3
        · rw [if_neg (by intro h; rcases h with h | h; exact h rfl; exact hge h)] at k
          refine ldB hv rfl ?_
          refine px_run ?_
          refine ldB hB rfl ?_
          have hcs : c.size = (c.size.toNat : Int) := by omega
          refine slc_h (P := P) c.size.toNat hcs ho.sl (by omega) fun v' hv' _ => ?_
          rw [Nat.mul_one, bs_take] at hv'
          refine convS_k hv' ?_
          exact k w3 f3
      · rw [if_pos (.inl h3)] at k
        have hd : decide (X3 ≠ 0) = true := by simp [h3]
        simp only [hd]
        iterate 5 refine gd_tf ?_
        refine pk_true ?_
        refine cnd_true ?_
        refine px_run ?_
        exact k w3 f3
end
section
variable {w w1 : World} {t b d : Nat} {p : Pg} {F : Nat → Prop} {K : Value → World → Prop}
theorem Pg.WF.forgetF {size : Int} : ∀ (f : Nat) (p : Pg) (page : Int), p.WF → (Pg.longF size (fun p (_ : Unit) page _ => ((p.drop page).1, (), (p.drop page).2)) f p () page).1.WF
  | 0, _, _, h => h
  | f + 1, p, page, h => by
    rw [longF_succ]
    split
    · exact h
    · split
      · exact h
      · split
        · exact h.drop _
        · exact Pg.WF.forgetF f _ _ (h.drop _)
theorem Pg.WF.forget {p : Pg} (h : p.WF) (c : Cell) : (p.forget c).1.WF := by
  unfold Pg.forget
  split
  · exact h
  · exact Pg.WF.forgetF _ _ _ h
theorem Keep.mu {F : Nat → Prop} (hm : ∀ i, F i → Mut w i) (f : Fr F w w1) : Keep w w1 := fun _ _ hb => hb.fr f (Bk.offM hb hm (by decide))
theorem forget_k {c : Cell} (ht : TreeAt w t b) (h : PgM w b d p F) (hw : p.WF) (k : ∀ w1, PgM w1 b d (p.forget c).1 F → Fr F w w1 → K (iv (p.forget c).2) w1) : cl P 80 #[pt t, .agg (cenc c).toArray] w K := by
  apply c80
  unfold F80
  unfold Pg.forget at k
  refine box_k (P := P) fun b2 w1 hb2e hb2 hf1 => ?_
  refine boxA_k fun b3 w2 hb3e hb3 hf2 => ?_
  have f2 : Fr no w w2 := hf1.trans hf2 (fun _ h => by cases h)
  have hb22 := hb2.fr0 hf2
  refine px_run ?_
  refine ldB hb3 rfl ?_
  refine px_run ?_
  refine cnd_dec (fun h0 => ?_) (fun h0 => ?_)
  · rw [if_pos h0] at k
    exact k w2 (h.fr0 f2) (f2.mono fun _ h => h.elim)
  · rw [if_neg h0] at k
    simp only at k
    refine ldB hb22 rfl ?_
    refine ldA0 hb3 rfl ?_
    refine px_run ?_
    refine long_k (t := t) (b := b) (d := d) (F := F) (p := p) (s := ()) (see := fun p (_ : Unit) page _ => ((p.drop page).1, (), (p.drop page).2))
      (fun i w' q s => Fr F w w' ∧ TreeAt w' t b ∧ PgM w' b d q F ∧ q.WF ∧ Bk w' b2 27 [pt t])
      (fun i w' q s hI => ⟨hI.2.1, hI.2.2.1, hI.2.2.2.1⟩)
      (fun i w' w'' q s ⟨e, hT, hP, hW, hB⟩ f' => ⟨e.then f', hT.fr0 f', hP.fr0 f', hW, hB.fr0 f'⟩)
      ?_ ⟨f2.mono fun _ h => h.elim, ht.fr0 f2, h.fr0 f2, hw, hb22⟩ (fun i w3 hI => ?_)
    · rintro i w3 q s page v l K' hi ⟨f3, hT, hP, hW, hB⟩ hl hvl k'
      refine cv_k ?_
      apply c150
      unfold F150
      refine ldB hB rfl ?_
      refine nc_ptr ?_
      refine px_run ?_
      refine ldB hT rfl ?_
      refine drop_k hP hW fun w4 h4 hf4 => ?_
      exact k' w4 ⟨f3.two hf4, hT.fr hf4 (Bk.offM hT hP.mu (by decide)), h4, hW.drop _, hB.fr hf4 (Bk.offM hB hP.mu (by decide))⟩ (Keep.mu hP.mu hf4)
    · exact k w3 hI.2.2.1 hI.1
/-! ### A cell is made -/
theorem Pg.WF.cellF {v : Str} : ∀ (f : Nat) (p : Pg) (next : Int), p.WF → (Pg.cellF v f p next).1.WF
  | 0, _, _, h => h
  | f + 1, p, next, h => by
    unfold Pg.cellF
    simp only
    split
    · exact h.alloc
    · split
      · exact h.alloc.write _ _
      · exact Pg.WF.cellF f _ _ (h.alloc.write _ _)
theorem Pg.WF.cell {p : Pg} (h : p.WF) (key v : Str) : (p.cell key v).1.WF := by
  unfold Pg.cell
  split
  · exact h
  · simp only
    split
    · exact Pg.WF.cellF _ _ _ h
    · exact Pg.WF.cellF _ _ _ h
theorem cellPut_k {next : Int} {s : Str} {b3 b9 : Nat} (ht : TreeAt w t b) (h : PgM w b d p F) (hw : p.WF) (hb3 : Bk w b3 27 [pt t]) (hb9 : Bk w b9 3 [iv next]) (hs : s.length ≤ 480)
    (k1 : p.alloc.2.2 ≠ 0 → ∀ w1, PgM w1 b d p.alloc.1 F → Fr F w w1 → K (iv p.alloc.2.2) w1)
    (k2 : p.alloc.2.2 = 0 → ∀ w1, PgM w1 b d (p.alloc.1.write p.alloc.2.1 (be 4 next ++ s ++ zs (508 - s.length))).1 F → Fr (fun i => F i ∨ i = b9) w w1 → Bk w1 b9 3 [iv p.alloc.2.1] → K (iv (p.alloc.1.write p.alloc.2.1 (be 4 next ++ s ++ zs (508 - s.length))).2) w1) :
    cl P 152 #[sv s, pt b3, pt b9] w K := by
  apply c152
  unfold F152
  refine ldB hb3 rfl ?_
  refine nc_ptr ?_
  refine px_run ?_
  refine ldB ht rfl ?_
  refine alloc30_k h hw fun w1 h1 hf1 => ?_
  refine px_run ?_
  refine px_run ?_
  refine px_run ?_
  refine cnd_dec (fun hn => ?_) (fun hn => ?_)
  · exact k1 hn w1 h1 hf1
  have k2 := k2 (by omega)
  have off3 := Bk.offM hb3 h.mu (by decide)
  have off9 := Bk.offM hb9 h.mu (by decide)
  have offt := Bk.offM ht h.mu (by decide)
  have hb31 := hb3.fr hf1 off3
  have hb91 := hb9.fr hf1 off9
  have ht1 := ht.fr hf1 offt
  refine make_k (P := P) (t := 43) (e := 5) (sz := 1) (by' := 1) (z := [.int .u8 0]) (n := 512) rfl (by omega) (by unfold maxLen; omega) fun bm w2 hbme hO hf2 => ?_
  rw [repz] at hO
  obtain ⟨g, cap, cs, hv, hbm, hc1, _, hc3, hc4⟩ := hO.bk (by omega)
  simp only [Value.slice.injEq, Option.some.injEq, Addr.mk.injEq, and_true, true_and] at hv
  obtain ⟨rfl, rfl⟩ := hv
  have hcs : cs = bs (zs 512) := by rw [List.take_of_length_le (by omega)] at hc4; exact hc4
  subst hcs
  refine dr_of ?_
  have fd := Fr.dw w2
  have f13 := hf2.trans fd (fun _ h => by cases h)
  have hb93 := hb91.fr0 f13
  have hb33 := hb31.fr0 f13
  have ht3 := ht1.fr0 f13
  have hbm3 := hbm.fr0 fd
  have h3 := h1.fr0 f13
  generalize dw w2 = w3 at fd f13 hb93 hb33 ht3 hbm3 h3
  have ne9 : b9 ≠ bm := by have := hb91.lt; omega
  have ne3 : b3 ≠ bm := by have := hb31.lt; omega
  have net : t ≠ bm := by have := ht1.lt; omega
  have nF : ¬ F bm := Bk.offM hbm3 h3.mu (by decide)
  refine py_of (fun w' _ => slcB_h (P := P) (h := 4) (by omega)) ?_
  refine ldY hb93 rfl ?_
  refine set_k hbm3 (by rw [zs_length]; omega) (by omega) (by omega) fun w4 hb4 hf4 => ?_
  rw [List.take_zero, List.nil_append, zs_drop] at hb4
  have hl4 : (be 4 next).length = 4 := be_length 4 next
  refine px_of (slcB_l (P := P) (l := 4) (by omega) (by omega)) ?_
  have hmin : Nat.min s.length (512 - 4) = s.length := Nat.min_eq_left (by omega)
  have hb4l : (bs (be 4 next ++ zs (512 - (0 + 4)))).length = 512 := by rw [bs_length, List.length_append, hl4, zs_length]
  refine copyS_k (P := P) hb4 (by rw [hmin, hb4l]; omega) fun w5 hb5 hf5 => ?_
  have e5 : spl (bs (be 4 next ++ zs (512 - (0 + 4)))) (0 + 4 * 1) (bs (s.take (Nat.min s.length (512 - 4)))) = bs (be 4 next ++ s ++ zs (508 - s.length)) := by
    rw [hmin, List.take_length, bs_spl]
    congr 1
    rw [List.take_left' (by omega), List.drop_append, hl4, List.drop_of_length_le (by omega), List.nil_append, zs_drop]
    congr 2
    omega
  rw [e5] at hb5
  have f35 := hf4.two hf5
  have hb95 := hb93.fr f35 ne9
  refine stB_k hb95 (by simp) fun w6 hb96 hf6 => ?_
  have hb36 := (hb33.fr f35 ne3).fr hf6 (fun e => by
    have e' : b3 = b9 := e
    subst e'
    exact absurd (Bk.typ hb33 hb93) (by decide))
  have ht6 := (ht3.fr f35 net).fr hf6 (fun e => by
    have e' : t = b9 := e
    subst e'
    exact absurd (Bk.typ ht3 hb93) (by decide))
  have h5 := h3.fr f35 (fun i hi e => nF (e ▸ hi))
  have h6 := h5.fr hf6 (fun i hi e => off9 (e ▸ hi))
  have hb6 := hb5.frb hf6 (Ne.symm ne9)
  refine ldB hb36 rfl ?_
  refine nc_ptr ?_
  refine px_run ?_
  refine ldB ht6 rfl ?_
  have hlen : (be 4 next ++ s ++ zs (508 - s.length)).length = 512 := by rw [List.length_append, List.length_append, hl4, zs_length]; omega
  have hsl : Sl w6 (.slice (some ⟨bm, 0, none⟩) 512 512) 1 (be 4 next ++ s ++ zs (508 - s.length)).length (bs (be 4 next ++ s ++ zs (508 - s.length))) := by
    rw [hlen]
    exact hb6.sl (fun j _ => by rw [Nat.zero_add]) (by rw [bs_length]; exact hlen) (Nat.le_refl _)
  refine write_k h6 hw.alloc hsl (fun i hi e => by cases hi; exact nF e) fun w7 h7 hf7 => ?_
  have s1 := hf1.size
  have g3 : Fr F w w3 := hf1.then f13
  have g5 : Fr F w w5 := g3.trans f35 (fun i e => .inr (by have e' : i = bm := e; omega))
  have g6 : Fr (fun i => F i ∨ i = b9) w w6 := g5.two' hf6
  exact k2 w7 h7 (g6.two (hf7.mono fun _ h => .inl h)) (hb96.fr hf7 off9)
end
section
variable {w w1 : World} {t b d : Nat} {p : Pg} {F : Nat → Prop} {K : Value → World → Prop}
instance min_inst {ts : Array TypeId} {ty : TypeId} {a b : Int} {w : World} : Rn P (Builtin.min_ ts ty #[iv a, iv b]) w (iv (if b < a then b else a)) w := ⟨run_min_int2 (P := P) (w := w) ts ty .i64 .i64 a b⟩
theorem build159_kv {w : World} {k v : Str} : (Instr.build 159 #[(0, sv k), (1, sv v)]).run P w = .ok (.agg (cenc ⟨k, v, 0, 0⟩).toArray) w := by
  refine build_run (P := P) (t := 159) (places := [(0, 1), (1, 1), (2, 1), (3, 1)]) (z := [.string ⟨#[]⟩, .string ⟨#[]⟩, .int .i64 0, .int .i64 0]) ?_
  rw [fill_cons (xs := [sv k]) (off := 0) (size := 1) rfl rfl rfl (by simp), fill_cons (xs := [sv v]) (off := 1) (size := 1) rfl rfl rfl (by rw [spl_length (by simp)]; simp), fill_nil]
  rfl
theorem build159_0 {w : World} : (Instr.build 159 #[]).run P w = .ok (.agg (cenc ⟨[], [], 0, 0⟩).toArray) w := by
  kernel_rfl
theorem build159_kl {w : World} {k : Str} {l n : Int} : (Instr.build 159 #[(0, sv k), (2, iv l), (3, iv n)]).run P w = .ok (.agg (cenc ⟨k, [], l, n⟩).toArray) w := by
  refine build_run (P := P) (t := 159) (places := [(0, 1), (1, 1), (2, 1), (3, 1)]) (z := [.string ⟨#[]⟩, .string ⟨#[]⟩, .int .i64 0, .int .i64 0]) ?_
  rw [fill_cons (xs := [sv k]) (off := 0) (size := 1) rfl rfl rfl (by simp), fill_cons (xs := [iv l]) (off := 2) (size := 1) rfl rfl rfl (by rw [spl_length (by simp)]; simp),
    fill_cons (xs := [iv n]) (off := 3) (size := 1) rfl rfl rfl (by rw [spl_length (by rw [spl_length (by simp)]; simp), spl_length (by simp)]; simp), fill_nil]
  rfl
theorem npages_len {n : Nat} (h : n ≤ 8192) : npages n = if n ≤ 64 then 0 else (((n + 479) / 480 : Nat) : Int) := by
  unfold npages
  by_cases h6 : n ≤ 64
  · rw [if_pos (by omega), if_pos h6]
  · rw [if_neg (by omega), if_neg h6, w64_id (n := (n : Int) + 480) (by omega) (by omega), w64_id (by omega) (by omega), Int.tdiv_eq_ediv, if_pos (.inl (by omega))]
    omega
theorem cellF_succ (v : Str) (i : Nat) (p : Pg) (next : Int) : Pg.cellF v (i + 1) p next =
    if p.alloc.2.2 ≠ 0 then (p.alloc.1, next, p.alloc.2.2) else
    if (p.alloc.1.write p.alloc.2.1 (be 4 next ++ (v.drop (i * 480)).take 480 ++ zs (508 - ((v.drop (i * 480)).take 480).length))).2 ≠ 0 then ((p.alloc.1.write p.alloc.2.1 (be 4 next ++ (v.drop (i * 480)).take 480 ++ zs (508 - ((v.drop (i * 480)).take 480).length))).1, p.alloc.2.1, (p.alloc.1.write p.alloc.2.1 (be 4 next ++ (v.drop (i * 480)).take 480 ++ zs (508 - ((v.drop (i * 480)).take 480).length))).2)
    else Pg.cellF v i (p.alloc.1.write p.alloc.2.1 (be 4 next ++ (v.drop (i * 480)).take 480 ++ zs (508 - ((v.drop (i * 480)).take 480).length))).1 p.alloc.2.1 := rfl
theorem cell_k {key v : Str} (ht : TreeAt w t b) (h : PgM w b d p F) (hw : p.WF) (hv : v.length ≤ 8192)
    (k : ∀ w1, PgM w1 b d (p.cell key v).1 F → Fr F w w1 → K (.tuple #[.agg (cenc (p.cell key v).2.1).toArray, iv (p.cell key v).2.2]) w1) : cl P 81 #[pt t, sv key, sv v] w K := by
  have hnp := npages_len hv
  apply c81
  unfold F81
  unfold Pg.cell at k
  refine box_k (P := P) fun b3 w1 hb3e hb3 hf1 => ?_
  refine alloc_k (P := P) (z := [.string ⟨#[]⟩, .string ⟨#[]⟩, .int .i64 0, .int .i64 0]) fun b6 w2 hb6e hb6 hf2 => ?_
  have f2 : Fr no w w2 := hf1.trans hf2 (fun _ h => by cases h)
  have hb32 := hb3.fr0 hf2
  have h2 := h.fr0 f2
  have ht2 := ht.fr0 f2
  have s1 := hf1.size
  have s2 := hf2.size
  refine px_run ?_
  refine npages78_k ?_
  refine px_run ?_
  by_cases h6 : v.length ≤ 64
  · rw [if_pos h6] at k hnp
    rw [hnp]
    refine cnd_true ?_
    refine px_of build159_kv ?_
    refine stA0_k hb6 (atoms_cenc _) rfl rfl fun w3 hb63 hf3 => ?_
    refine plA0 hb63 rfl ?_
    have f3 : Fr no w w3 := f2.new hf3 (fun i hi => by omega)
    exact k w3 (h.fr0 f3) (f3.mono fun _ h => h.elim)
  · rw [if_neg h6] at k hnp
    simp only at k
    rw [hnp]
    have hd : decide ((((v.length + 479) / 480 : Nat) : Int) = 0) = false := decide_eq_false (by omega)
    simp only [hd]
    refine cnd_false ?_
    refine alloc_k (P := P) (z := [.int .i64 0]) fun b9 w3 hb9e hb9 hf3 => ?_
    refine stB_k hb9 (by simp) fun w4 hb94 hf4 => ?_
    have f24 : Fr no w2 w4 := hf3.new hf4 (fun i hi => by omega)
    have f4 : Fr no w w4 := f2.trans f24 (fun _ h => by cases h)
    have h4 := h.fr0 f4
    refine px_run ?_
    generalize hN : (v.length + 479) / 480 = N at k
    haveI : Fits .i64 ((N : Int) - 1) := fits_i64 (by omega) (by omega)
    refine px_run ?_
    refine lp_of (fun vs w' => ∃ (i : Nat) (q : Pg) (next : Int), vs = [iv ((i : Int) - 1)] ∧ i ≤ N ∧ PgM w' b d q F ∧ q.WF ∧ TreeAt w' t b ∧ Bk w' b3 27 [pt t] ∧ Bk w' b9 3 [iv next] ∧ Bk w' b6 159 (cenc ⟨[], [], 0, 0⟩) ∧ Fr F w w' ∧ Pg.cellF v N p 0 = Pg.cellF v i q next)
      (fun vs _ => (match vs with | [.int _ m] => (m + 1).toNat | _ => 0)) ⟨N, p, 0, rfl, Nat.le_refl _, h4, hw, ht.fr0 f4, hb32.fr0 f24, hb94, hb6.fr0 f24, f4.mono fun _ h => h.elim, rfl⟩ ?_
    rintro vs w5 ⟨i, q, next, rfl, hi, h5, hw5, ht5, hb35, hb95, hb65, f5, he⟩
    have off3 := Bk.offM hb35 h5.mu (by decide)
    have off9 := Bk.offM hb95 h5.mu (by decide)
    have off6 := Bk.offM hb65 h5.mu (by decide)
    have offt := Bk.offM ht5 h5.mu (by decide)
    rw [he] at k
    simp only [g0_cons]
    refine px_run ?_
    refine cnd_dec (fun hge => ?_) (fun hlt => ?_)
    · obtain ⟨j, rfl⟩ : ∃ j, i = j + 1 := ⟨i - 1, by omega⟩
      have e1 : ((j + 1 : Nat) : Int) - 1 = (j : Int) := by omega
      rw [e1]
      haveI : Fits .i64 ((j : Int) * 480) := fits_i64 (by omega) (by omega)
      refine px_run ?_
      refine px_run ?_
      haveI : Fits .i64 ((j : Int) + 1) := fits_i64 (by omega) (by omega)
      refine px_run ?_
      haveI : Fits .i64 (((j : Int) + 1) * 480) := fits_i64 (by omega) (by omega)
      refine px_run ?_
      refine px_run ?_
      have hj : j * 480 < v.length := by omega
      have hmin : (if ((j : Int) + 1) * 480 < (v.length : Int) then ((j : Int) + 1) * 480 else (v.length : Int)) = ((min v.length ((j + 1) * 480) : Nat) : Int) := by
        split <;> omega
      rw [hmin]
      refine px_of (sls_run (P := P) (by omega) (by omega) (by omega)) ?_
      have hpart : (v.drop ((j : Int) * 480).toNat).take (((min v.length ((j + 1) * 480) : Nat) : Int).toNat - ((j : Int) * 480).toNat) = (v.drop (j * 480)).take 480 := by
        have e2 : ((j : Int) * 480).toNat = j * 480 := by omega
        rw [e2, Int.toNat_natCast]
        rcases Nat.le_total v.length ((j + 1) * 480) with hle | hle
        · rw [Nat.min_eq_left hle, List.take_of_length_le (by rw [List.length_drop]; omega), List.take_of_length_le (by rw [List.length_drop]; omega)]
        · rw [Nat.min_eq_right hle]
          congr 1
          omega
      rw [hpart]
      have hsl : ((v.drop (j * 480)).take 480).length ≤ 480 := by rw [List.length_take]; omega
      rw [cellF_succ] at k he
      refine cv_k ?_
      refine cellPut_k ht5 h5 hw5 hb35 hb95 hsl (fun hn w6 h6 hf6 => ?_) (fun hn w6 h6 hf6 hb96 => ?_)
      · rw [if_pos hn] at k
        simp only at k
        rw [if_pos hn] at k
        refine px_run ?_
        have hd : decide (q.alloc.2.2 ≠ 0) = true := decide_eq_true hn
        simp only [hd]
        refine cnd_true ?_
        refine px_of build159_0 ?_
        refine stA0_k (hb65.fr hf6 off6) (atoms_cenc _) rfl rfl fun w7 hb67 hf7 => ?_
        refine plA0 hb67 rfl ?_
        have n6 : ¬ F b6 := off6
        refine k w7 (h6.fr hf7 (fun i hi e => off6 (e ▸ hi))) ((f5.two hf6).trans hf7 (fun i e => .inr (by have e' : i = b6 := e; omega)))
      · have hnn : ¬ (q.alloc.2.2 ≠ 0) := by simp [hn]
        rw [if_neg hnn] at k he
        have f6 : Fr F w w6 := f5.trans hf6 (fun i e => by
          rcases e with e | e
          · exact .inl e
          · exact .inr (by have e' : i = b9 := e; have := hf2.size; omega))
        have ne (i t' : Nat) (cs : List Value) (hb : Bk w5 i t' cs) (ht' : t' ≠ 3) (off : ¬ F i) : ¬ (F i ∨ i = b9) := by
          rintro (e | e)
          · exact off e
          · subst e
            exact ht' (Bk.typ hb hb95)
        have hb66 := hb65.fr hf6 (ne _ _ _ hb65 (by decide) off6)
        refine px_run ?_
        refine cnd_dec (fun hx => ?_) (fun hx => ?_)
        · rw [if_pos hx] at k
          simp only at k
          rw [if_pos hx] at k
          refine px_of build159_0 ?_
          refine stA0_k hb66 (atoms_cenc _) rfl rfl fun w7 hb67 hf7 => ?_
          refine plA0 hb67 rfl ?_
          refine k w7 (h6.fr hf7 (fun i hi e => off6 (e ▸ hi))) (f6.trans hf7 (fun i e => .inr (by have e' : i = b6 := e; omega)))
        · rw [if_neg hx] at k he
          haveI : Fits .i64 ((j : Int) - 1) := fits_i64 (by omega) (by omega)
          refine px_run ?_
          exact ⟨⟨j, _, _, rfl, by omega, h6, hw5.alloc.write _ _, ht5.fr hf6 (ne _ _ _ ht5 (by decide) offt), hb35.fr hf6 (ne _ _ _ hb35 (by decide) off3), hb96, hb66, f6, he⟩,
            show ((j : Int) - 1 + 1).toNat < ((j : Int) + 1).toNat by omega⟩
    · have hi0 : i = 0 := by omega
      subst hi0
      unfold Pg.cellF at k
      simp only [ne_eq, not_true_eq_false, if_false] at k
      refine ldB hb95 rfl ?_
      refine px_run ?_
      refine px_of build159_kl ?_
      refine stA0_k hb65 (atoms_cenc _) rfl rfl fun w7 hb67 hf7 => ?_
      refine plA0 hb67 rfl ?_
      exact k w7 (h5.fr hf7 (fun i hi e => off6 (e ▸ hi))) (f5.trans hf7 (fun i e => .inr (by have e' : i = b6 := e; omega)))
end
end Go.Proofs.YtomggfibpbaodaaGreatDoor
