/-
  The tree: Range, and the calls that are handed on.
-/
import Derived.Test.YtomggfibpbaodaaGreatDoorB5
set_option maxRecDepth 100000
namespace Go.Proofs.YtomggfibpbaodaaGreatDoor
open Go.V

def kskip (cells : List Cell) (frm to : Str) (i : Nat) : Bool :=
  (match cells[i]? with | some c => !ltS frm c.key | none => false) || (decide (0 < i) && decide (to ≠ []) && (match cells[i - 1]? with | some c => !ltS c.key to | none => false))
theorem kidsGo_cons (f : Int → Seen → Seen × Int) (cells : List Cell) (frm to : Str) (i : Nat) (k : Int) (l : List Int) (s : Seen) : kidsGo f cells frm to i (k :: l) s =
    if kskip cells frm to i then kidsGo f cells frm to (i + 1) l s else
    if (f k s).2 ≠ 0 then f k s else kidsGo f cells frm to (i + 1) l (f k s).1 := by
  cases l <;> rfl
instance : StructT P 41 [(0, 1), (1, 1)] := ⟨by kernel_rfl, fun w => by kernel_rfl⟩
instance : Zero P 41 [.string ⟨#[]⟩, .string ⟨#[]⟩] := ⟨fun w => ⟨.agg [.string ⟨#[]⟩, .string ⟨#[]⟩].toArray, by kernel_rfl, rfl⟩⟩
theorem build41 {w : World} {a b : Str} : (Instr.build 41 #[(0, sv a), (1, sv b)]).run P w = .ok (.agg [sv a, sv b].toArray) w := by
  refine build_run (P := P) (t := 41) (parts := [(0, sv a), (1, sv b)]) (z := [.string ⟨#[]⟩, .string ⟨#[]⟩]) ?_
  rw [fill_cons (xs := [sv a]) (off := 0) (size := 1) rfl rfl rfl (by simp), fill_cons (xs := [sv b]) (off := 1) (size := 1) rfl rfl rfl (by rw [spl_length (by simp)]; simp), fill_nil]
  rfl
def oenc (e : Str × Str) : List Value := [sv e.1, sv e.2]
theorem oencs_length (l : List (Str × Str)) : (l.flatMap oenc).length = l.length * 2 := by
  induction l with
  | nil => rfl
  | cons a l ih => simp only [List.flatMap_cons, List.length_append, ih, List.length_cons, oenc, List.length_nil]; omega
def one1 (_ : Unit) : Value := iv 1
/-- What a range has gathered, in memory that is newer than a world. -/
structure Rg (w0 w : World) (ms bo : Nat) (s : Seen) : Prop where
  fr : Fr no w0 w
  map : PM one1 w ms s.seen
  out : ∃ vo, Bk w bo 37 [vo] ∧ Own w vo 41 2 s.out.length (s.out.flatMap oenc) ∧ ∀ i, vo.ownBlock = some i → w0.heap.size ≤ i
  nm : w0.heap.size ≤ ms
  nb : w0.heap.size ≤ bo
structure Bd (s : Seen) : Prop where
  keys : ∀ x ∈ s.seen, 0 ≤ x.1 ∧ x.1 < 65536
  out : s.out.length ≤ 512 * s.seen.length
theorem Rg.fr0 {w0 w w1 : World} {ms bo : Nat} {s : Seen} (h : Rg w0 w ms bo s) (f : Fr no w w1) : Rg w0 w1 ms bo s := by
  obtain ⟨vo, h1, h2, h3⟩ := h.out
  exact ⟨h.fr.trans f (fun _ h => by cases h), h.map.fr0 f, ⟨vo, h1.fr0 f, h2.fr0 f, h3⟩, h.nm, h.nb⟩
/-- Blocks that hold no part of a tree's nodes. -/
def OffN (w : World) (i : Nat) : Prop := ∀ t cs, Bk w i t cs → t ≠ 155 ∧ t ≠ 157 ∧ t ≠ 159 ∧ t ≠ 3 ∧ t ≠ 165
theorem OffN.step {a b c : World} (f : Fr (OffN a) a b) (g : Fr (OffN b) b c) : Fr (OffN a) a c := f.trans g fun i hi => by
  by_cases h : a.heap.size ≤ i
  · exact .inr h
  · exact .inl (Classical.byContradiction fun hn => hn fun t cs hb => hi t cs (hb.fr f hn))
theorem OffN.of {a b : World} (f : Fr no a b) : Fr (OffN a) a b := f.mono fun _ h => h.elim
theorem OffN.bk {a b : World} {i t : Nat} {cs : List Value} (h : Bk a i t cs) (ht : t ≠ 155 ∧ t ≠ 157 ∧ t ≠ 159 ∧ t ≠ 3 ∧ t ≠ 165) (f : Fr (fun j => j = i) a b) : Fr (OffN a) a b := f.mono fun j hj t' cs' hb => by
  have hj' : j = i := hj
  subst hj'
  rw [Bk.typ hb h]
  exact ht
theorem OffN.quiet (w : World) : Quiet w (OffN w) := fun _ t cs h hb => ⟨(h t cs hb).2.1, (h t cs hb).2.2.1, (h t cs hb).2.2.2.1, (h t cs hb).2.2.2.2⟩
section
variable {w0 : World} {t b d : Nat} {p : Pg} {F : Nat → Prop}
theorem atoms_oenc (e : Str × Str) : Atoms (oenc e) := fun x hx => by
  simp only [oenc, List.mem_cons, List.not_mem_nil, or_false] at hx
  rcases hx with rfl | rfl <;> exact inferInstance
theorem new_seen {l : List (Int × Unit)} {n : Int} (h : mget l n = none) : (mput l n ()).length = l.length + 1 := mput_len h
theorem leafGo_nil (p : Pg) (frm to : Str) (out : List (Str × Str)) : p.leafGo frm to [] out = (out, 0) := rfl
theorem leafGo_cons (p : Pg) (frm to : Str) (c : Cell) (l : List Cell) (out : List (Str × Str)) : p.leafGo frm to (c :: l) out =
    if ltS c.key frm = true ∨ (to ≠ [] ∧ ltS c.key to = false) then p.leafGo frm to l out else
    if (p.value c).2 ≠ 0 then (out, (p.value c).2) else p.leafGo frm to l (out ++ [(c.key, (p.value c).1)]) := rfl
theorem within_succ (p : Pg) (frm to : Str) (f : Nat) (page : Int) (s : Seen) : p.within frm to (f + 1) page s =
    if (mget s.seen page).isSome then (s, 4) else
    match p.readN page with
    | .error e => (⟨mput s.seen page (), s.out⟩, e)
    | .ok x =>
      if x.leaf then (⟨mput s.seen page (), (p.leafGo frm to x.cells s.out).1⟩, (p.leafGo frm to x.cells s.out).2) else
      if f = 0 then (⟨mput s.seen page (), s.out⟩, 4) else kidsGo (p.within frm to f) x.cells frm to 0 x.kids ⟨mput s.seen page (), s.out⟩ := rfl
theorem within_k (ht : TreeAt w0 t b) (h : PgM w0 b d p F) (hw : p.WF) {frm to : Str} {ms bo : Nat} : ∀ (f : Nat) {w : World} {K : Value → World → Prop} {page depth : Int} {s : Seen}, f ≤ 41 → 0 < f → depth = 41 - (f : Int) → Rg w0 w ms bo s → Bd s →
    (∀ w1, Fr no w0 w1 → Fr (OffN w) w w1 → ((p.within frm to f page s).2 = 0 → Rg w0 w1 ms bo (p.within frm to f page s).1 ∧ Bd (p.within frm to f page s).1) → K (iv (p.within frm to f page s).2) w1) →
    cl P 88 #[pt t, iv page, iv depth, sv frm, sv to, .map (some ms), pt bo] w K
  | 0, _, _, _, _, _, _, h0, _, _, _, _ => absurd h0 (Nat.lt_irrefl 0)
  | f + 1, u, K, page, depth, s, hf, _, hdep, hR, hB, k => by
    apply c88
    unfold F88
    rw [within_succ] at k
    obtain ⟨vo, ho1, ho2, ho3⟩ := hR.out
    refine pm_get1 hR.map ?_
    cases hseen : mget s.seen page with
    | some _ =>
      rw [hseen] at k
      simp only [Option.isSome_some, if_true] at k
      simp only [Option.map_some, Option.getD_some, one1]
      haveI : Fits .i64 ((1 : Int) + 1) := fits_i64 (by omega) (by omega)
      refine px_run ?_
      have hoff : OffN u ms := fun t cs hb => absurd rfl (PM.ne_bk hR.map hb)
      obtain ⟨es, h1, h2, h3⟩ := hR.map
      refine update_k h1 fun w1 hm1 hf1 => ?_
      refine lookup1_k hm1 ?_
      rw [alk_put, if_pos rfl]
      simp only [Option.getD_some]
      refine px_run ?_
      refine cnd_true ?_
      exact k w1 (hR.fr.new hf1 (fun i hi => by have := hR.nm; omega)) (hf1.mono fun j hj => by rw [hj]; exact hoff) (fun h => by cases h)
    | none =>
      rw [hseen] at k
      simp only [Option.isSome_none, Bool.false_eq_true, if_false] at k
      simp only [Option.map_none, Option.getD_none]
      haveI : Fits .i64 ((0 : Int) + 1) := fits_i64 (by omega) (by omega)
      refine px_run ?_
      have hoff : OffN u ms := fun t cs hb => absurd rfl (PM.ne_bk hR.map hb)
      refine pm_put hR.map (x := ()) rfl fun w1 hm1 hf1 => ?_
      have fw1 : Fr (OffN u) u w1 := hf1.mono fun j hj => by rw [hj]; exact hoff
      have hne : ms ≠ bo := PM.ne_bk hR.map ho1
      have hR1 : Rg w0 w1 ms bo ⟨mput s.seen page (), s.out⟩ := ⟨hR.fr.new hf1 (fun i hi => by have := hR.nm; omega), hm1, ⟨vo, ho1.fr hf1 (fun e => hne e.symm), ho2.fr hf1 (fun i hi e => by
        obtain ⟨cs, hb⟩ := Own.bkk ho2 hi
        exact (PM.ne_bk hR.map hb) e.symm), ho3⟩, hR.nm, hR.nb⟩
      refine pm_get1 hm1 ?_
      rw [mget_mput, if_pos rfl]
      simp only [Option.map_some, Option.getD_some, one1]
      refine px_run ?_
      refine cnd_false ?_
      have ht1 := ht.fr0 hR1.fr
      have h1 := h.fr0 hR1.fr
      refine readN_k ht1 h1 hw (fun e l' a1 m1 c1 a1' m1' c1' w2 he hne2 hf2 => ?_) (fun x vc vk w2 he hX hXs => ?_)
      · rw [he] at k
        refine px_run ?_
        refine px_run ?_
        refine alloc_k (P := P) (z := [.bool false, .slice none 0 0, .slice none 0 0]) fun b15 w3 hb15e hb15 hf3 => ?_
        refine stA0_k hb15 (atoms_node _ _ _ _ _ _ _) rfl rfl fun w4 hb154 hf4 => ?_
        refine px_run ?_
        have hdn : decide (e ≠ 0) = true := decide_eq_true hne2
        simp only [hdn]
        refine cnd_true ?_
        exact k w4 ((hR1.fr.trans hf2 (fun _ h => by cases h)).trans (hf3.new hf4 (fun i hi => by omega)) (fun _ h => by cases h)) ((fw1.then hf2).then (hf3.new hf4 (fun i hi => by omega))) (fun h0 => absurd h0 hne2)
      rw [he] at k
      simp only at k
      obtain ⟨hXlim, hXck, hXc⟩ := readN_ok he
      have hXo := hX.o hXs
      obtain ⟨a, c, a', c', rfl, rfl⟩ := hXo.slices
      have hcl := hXlim.cells
      have hkl := hXlim.kids
      refine px_run ?_
      refine px_run ?_
      refine alloc_k (P := P) (z := [.bool false, .slice none 0 0, .slice none 0 0]) fun b15 w3 hb15e hb15 hf3 => ?_
      refine stA0_k hb15 (atoms_node _ _ _ _ _ _ _) rfl rfl fun w4 hb154 hf4 => ?_
      have f24 : Fr no w2 w4 := hf3.new hf4 (fun i hi => by omega)
      have hXo4 := hXo.fr f24 (Quiet.no _)
      have hR4 := (hR1.fr0 hX.fr).fr0 f24
      have fw4 := (fw1.then hX.fr).then f24
      -- the page is one in use
      have huse : 0 < page ∧ page < 65536 := by
        unfold Pg.readN Pg.read at he
        cases hu : p.uses page with
        | false => rw [hu] at he; simp at he
        | true =>
          have := hw.uses_lt hu
          have := hw.ok.small
          omega
      have hB1 : Bd ⟨mput s.seen page (), s.out⟩ := ⟨fun y hy => by
        rcases mput_mem hy with rfl | hy
        · simp only; omega
        · exact hB.keys y hy, by
        simp only [new_seen hseen]
        have := hB.out
        omega⟩
      have hsl : (mput s.seen page ()).length ≤ 65536 := asc_len (asc_mput hR.map.asc _ _) hB1.keys
      have hslen := new_seen hseen
      refine px_run ?_
      refine cnd_false ?_
      refine px_run ?_
      refine ldB hb154 rfl ?_
      cases hlf : x.leaf with
      | true =>
        rw [hlf] at k
        simp only [if_true] at k
        refine cnd_true ?_
        refine px_run ?_
        refine ldB hb154 rfl ?_
        refine px_run ?_
        refine lp_of (fun vs w' => ∃ (i : Nat) (out : List (Str × Str)), vs = [iv i] ∧ i ≤ x.cells.length ∧ Rg w0 w' ms bo ⟨mput s.seen page (), out⟩ ∧ out.length ≤ 512 * s.seen.length + i ∧ NodeO w' (.slice a x.cells.length c) (.slice a' x.kids.length c') x ∧ Fr (OffN u) u w' ∧
          p.leafGo frm to x.cells s.out = p.leafGo frm to (x.cells.drop i) out) (fun vs _ => (match vs with | [.int _ m] => ((x.cells.length : Int) - m).toNat | _ => 0)) ⟨0, s.out, rfl, by omega, hR4, by have := hB.out; omega, hXo4, fw4, rfl⟩ ?_
        rintro vs w5 ⟨i, out, rfl, hi, hR5, hol, hX5, fw5, hgo⟩
        simp only [g0_cons]
        refine px_run ?_
        refine cnd_dec (fun hlt => ?_) (fun hge => ?_)
        · have hi' : i < x.cells.length := by omega
          rw [List.drop_eq_getElem_cons hi', leafGo_cons] at hgo
          haveI : Fits .i64 ((i : Int) + 1) := fits_i64 (by omega) (by omega)
          refine cut_of (fun _ w' => ∃ out', Rg w0 w' ms bo ⟨mput s.seen page (), out'⟩ ∧ out'.length ≤ 512 * s.seen.length + (i + 1) ∧ NodeO w' (.slice a x.cells.length c) (.slice a' x.kids.length c') x ∧ Fr (OffN u) u w' ∧ p.leafGo frm to x.cells s.out = p.leafGo frm to (x.cells.drop (i + 1)) out') ?_ ?_
          · refine idx_s (P := P) hX5.cells.sl (by omega) i rfl hi' fun bb o _ hc => ?_
            refine ldCell (fun q hq => by rw [hc q hq, cencs_get hi' hq]) ?_
            refine alloc_k (P := P) (z := [.string ⟨#[]⟩, .string ⟨#[]⟩, .int .i64 0, .int .i64 0]) fun b18 w6 hb18e hb18 hf6 => ?_
            refine stA0_k hb18 (atoms_cenc _) rfl rfl fun w7 hb187 hf7 => ?_
            have f57 : Fr no w5 w7 := hf6.new hf7 (fun i hi => by omega)
            have hR7 := hR5.fr0 f57
            have hX7 := hX5.fr f57 (Quiet.no _)
            generalize hcd : x.cells[i] = cd at *
            have hcm := Node.check_may hXck cd (by rw [← hcd]; exact List.getElem_mem hi')
            refine px_run ?_
            refine ldB hb187 rfl ?_
            refine px_run ?_
            -- it is not in the range
            have skip : (ltS cd.key frm = true ∨ (to ≠ [] ∧ ltS cd.key to = false)) → ∃ out', Rg w0 w7 ms bo ⟨mput s.seen page (), out'⟩ ∧ out'.length ≤ 512 * s.seen.length + (i + 1) ∧ NodeO w7 (.slice a x.cells.length c) (.slice a' x.kids.length c') x ∧ Fr (OffN u) u w7 ∧ p.leafGo frm to x.cells s.out = p.leafGo frm to (x.cells.drop (i + 1)) out' := fun hsk => by
              rw [if_pos hsk] at hgo
              exact ⟨out, hR7, by omega, hX7, fw5.then f57, hgo⟩
            -- it is
            have take : ¬ (ltS cd.key frm = true ∨ (to ≠ [] ∧ ltS cd.key to = false)) →
                px P (Instr.loadAt 159 (pt b18)) w7 fun v66 w =>
                cl P 86 #[pt t, v66] w fun v67 w =>
                px P (Instr.extract v67 0) w fun v68 w =>
                px P (Instr.extract v67 1) w fun v69 w =>
                px P (bin true .neq 32 v69 (.int .i64 0)) w fun v71 w =>
                cnd v71 (
                  K v69 w) <|
                dr w fun w =>
                ny (pt bo) fun v75 =>
                py P (Ext w) (Instr.loadAt 37 v75) fun v76 =>
                py P (fun _ => True) (Instr.fieldAt 159 (pt b18) 0) fun v77 =>
                py P (Ext w) (Instr.loadAt 9 v77) fun v78 =>
                py P (fun _ => True) (Instr.build 41 #[(0, v78), (1, v68)]) fun v80 =>
                pg P (Instr.buildSlice 37 1 #[(0, v80)]) w fun v81 w =>
                px P (Builtin.append_ #[37, 37] 37 #[v76, v81]) w fun v82 w =>
                ny (pt bo) fun v83 =>
                pu P (Instr.storeAt 37 v83 v82) w fun wz =>
                ∃ out', Rg w0 wz ms bo ⟨mput s.seen page (), out'⟩ ∧ out'.length ≤ 512 * s.seen.length + (i + 1) ∧ NodeO wz (.slice a x.cells.length c) (.slice a' x.kids.length c') x ∧ Fr (OffN u) u wz ∧ p.leafGo frm to x.cells s.out = p.leafGo frm to (x.cells.drop (i + 1)) out' := fun hsk => by
              rw [if_neg hsk] at hgo
              refine ldA0 hb187 rfl ?_
              refine value_k (ht.fr0 hR7.fr) (h.fr0 hR7.fr) hw (Cell.may_size hcm) fun w8 hf8 => ?_
              refine px_run ?_
              refine px_run ?_
              refine px_run ?_
              have hR8 := hR7.fr0 hf8
              refine cnd_dec (fun hev => ?_) (fun hev => ?_)
              · rw [if_pos hev] at hgo
                rw [hgo] at k
                exact k w8 hR8.fr ((fw5.then f57).then hf8) (fun h0 => absurd h0 hev)
              · rw [if_neg hev] at hgo
                refine dr_of ?_
                have fd := Fr.dw w8
                have hR9 := hR8.fr0 fd
                have hb189 := (hb187.fr0 hf8).fr0 fd
                have hX9 := (hX7.fr hf8 (Quiet.no _)).fr fd (Quiet.no _)
                generalize dw w8 = w9 at fd hR9 hb189 hX9 ⊢
                obtain ⟨vo9, q1, q2, q3⟩ := hR9.out
                refine ny_ptr ?_
                refine ldY q1 rfl ?_
                refine py_run ?_
                refine ldY hb189 rfl ?_
                refine py_of (fun w' _ => build41) ?_
                refine bslice1_g (P := P) (t := 37) (e := 41) (sz := 2) (z := [.string ⟨#[]⟩, .string ⟨#[]⟩]) (xs := [sv cd.key, sv (p.value cd).1]) rfl rfl rfl (by omega) (by omega) fun b1 w10 hb1e hb1 hf10 => ?_
                have hR10 := hR9.fr0 hf10
                have hlim2 : out.length + 1 ≤ 40000000 := by omega
                refine append_k (P := P) (t := 37) (by' := 32) (q2.fr0 hf10) hb1.sl (atoms_oenc (cd.key, (p.value cd).1)) (by show out.length + 1 ≤ maxLen; unfold maxLen; omega) (by show (out.length + 1) * 32 ≤ _; omega) fun v82 w11 hv82 hf11 hn82 => ?_
                obtain ⟨a5, c5, rfl⟩ := Own.atom hv82
                have hbo10 := q1.fr0 hf10
                have hbo11 := hbo10.fr hf11 ((q2.fr0 hf10).ne_bk hbo10 (by decide))
                refine ny_ptr ?_
                refine stB_k hbo11 (by simp) fun w12 hbo12 hf12 => ?_
                have f11 : Fr no w0 w11 := hR10.fr.new hf11 (fun i hi => q3 i hi)
                have f12 : Fr no w0 w12 := f11.new hf12 (fun i hi => by have := hR.nb; omega)
                have hm11 := hR10.map.fr hf11 (fun hg => by
                  obtain ⟨cs, hb⟩ := Own.bkk (q2.fr0 hf10) hg
                  exact (PM.ne_bk hR10.map hb) rfl)
                have hm12 := hm11.fr hf12 (PM.ne_bk hm11 hbo11)
                have hX10 := hX9.fr hf10 (Quiet.no _)
                have hX11 := hX10.fr (G := fun b => vo9.ownBlock = some b) hf11 (fun j t' cs' hg hb' => by
                  obtain ⟨cs, hb⟩ := Own.bkk (q2.fr0 hf10) hg
                  rw [Bk.typ hb' hb]
                  decide)
                have hX12 := hX11.fr hf12 (Quiet.bk hbo11 (by decide))
                refine ⟨out ++ [(cd.key, (p.value cd).1)], ⟨f12, hm12, ⟨_, hbo12, ?_, fun j hj => ?_⟩, hR.nm, hR.nb⟩, by simp; omega, hX12, ?_, hgo⟩
                · have := hv82.frb hf12 hbo11 (by decide)
                  simp only [List.length_append, List.length_cons, List.length_nil, List.flatMap_append, List.flatMap_cons, List.flatMap_nil, List.append_nil]
                  exact this
                · rcases hn82 j hj with hj | hj
                  · exact q3 j hj
                  · have := hR10.fr.size
                    omega
                · have fw10 := ((((fw5.then f57).then hf8).then fd).then hf10)
                  refine OffN.step (OffN.step fw10 (hf11.mono fun j hj t' cs' hb' => ?_)) (OffN.bk hbo11 (by decide) hf12)
                  obtain ⟨cs, hb⟩ := Own.bkk (q2.fr0 hf10) hj
                  rw [Bk.typ hb' hb]
                  decide
            cases hlk : ltS cd.key frm with
            | true =>
              iterate 3 refine gd_tf ?_
              iterate 4 refine gd_u ?_
              refine gd_tf ?_
              refine pk_true ?_
              refine cnd_true ?_
              exact skip (.inl hlk)
            | false =>
              refine gd_ff ?_
              refine gd_ff ?_
              rw [sv_nil]
              refine px_run ?_
              refine gd_ff ?_
              by_cases hto : to = []
              · have hd : decide (to ≠ []) = false := decide_eq_false (by simp [hto])
                simp only [hd]
                iterate 4 refine gd_ft ?_
                refine gd_ff ?_
                refine pk_false ?_
                refine pk_false ?_
                refine cnd_false ?_
                exact take (by rintro (h | ⟨h, _⟩); rw [hlk] at h; cases h; exact h hto)
              · have hd : decide (to ≠ []) = true := decide_eq_true hto
                simp only [hd]
                refine gd_tt ?_
                refine px_run ?_
                refine gd_tt ?_
                refine ldB hb187 rfl ?_
                refine gd_tt ?_
                refine gd_tt ?_
                refine px_run ?_
                refine gd_ff ?_
                refine pk_true ?_
                refine pk_false ?_
                cases hlt2 : ltS cd.key to with
                | true =>
                  refine cnd_false ?_
                  exact take (by rintro (h | ⟨_, h⟩); rw [hlk] at h; cases h; rw [hlt2] at h; cases h)
                | false =>
                  refine cnd_true ?_
                  exact skip (.inr ⟨hto, hlt2⟩)
          · rintro _ w6 ⟨out', hR6, hol6, hX6, fw6, hgo6⟩
            refine px_run ?_
            refine ⟨⟨i + 1, out', rfl, by omega, hR6, hol6, hX6, fw6, hgo6⟩, ?_⟩
            show ((x.cells.length : Int) - ((i : Int) + 1)).toNat < ((x.cells.length : Int) - (i : Int)).toNat
            omega
        · have : i = x.cells.length := by omega
          subst this
          rw [List.drop_length, leafGo_nil] at hgo
          rw [hgo] at k
          refine k w5 hR5.fr fw5 fun _ => ⟨hR5, hB1.keys, ?_⟩
          simp only
          omega
      | false =>
        rw [hlf] at k
        simp only [Bool.false_eq_true, if_false] at k
        refine cnd_false ?_
        refine px_run ?_
        refine cnd_dec (fun hd40 => ?_) (fun hd40 => ?_)
        · rw [if_pos (by omega)] at k
          exact k w4 hR4.fr fw4 (fun h => by cases h)
        rw [if_neg (by omega)] at k
        have hkids := Node.check_kids hXck
        rw [hlf, if_neg (by simp)] at hkids
        refine px_run ?_
        refine ldB hb154 rfl ?_
        refine px_run ?_
        refine lp_of (fun vs w' => ∃ (i : Nat) (s' : Seen), vs = [iv i] ∧ i ≤ x.kids.length ∧ Rg w0 w' ms bo s' ∧ Bd s' ∧ Fr (OffN u) u w' ∧ NodeO w' (.slice a x.cells.length c) (.slice a' x.kids.length c') x ∧ Bk w' b15 155 [.bool x.leaf, .slice a x.cells.length c, .slice a' x.kids.length c'] ∧
          kidsGo (p.within frm to f) x.cells frm to 0 x.kids ⟨mput s.seen page (), s.out⟩ = kidsGo (p.within frm to f) x.cells frm to i (x.kids.drop i) s') (fun vs _ => (match vs with | [.int _ m] => ((x.kids.length : Int) - m).toNat | _ => 0)) ⟨0, _, rfl, by omega, hR4, hB1, fw4, hXo4, hb154, rfl⟩ ?_
        rintro vs w5 ⟨i, s', rfl, hi, hR5, hB5, fw5, hX5, hbN, hgo⟩
        simp only [g0_cons]
        refine px_run ?_
        refine cnd_dec (fun hlt => ?_) (fun hge => ?_)
        · have hi' : i < x.kids.length := by omega
          rw [List.drop_eq_getElem_cons hi', kidsGo_cons] at hgo
          haveI : Fits .i64 ((i : Int) + 1) := fits_i64 (by omega) (by omega)
          refine cut_of (fun _ w' => ∃ s'', Rg w0 w' ms bo s'' ∧ Bd s'' ∧ Fr (OffN u) u w' ∧ NodeO w' (.slice a x.cells.length c) (.slice a' x.kids.length c') x ∧ Bk w' b15 155 [.bool x.leaf, .slice a x.cells.length c, .slice a' x.kids.length c'] ∧
            kidsGo (p.within frm to f) x.cells frm to 0 x.kids ⟨mput s.seen page (), s.out⟩ = kidsGo (p.within frm to f) x.cells frm to (i + 1) (x.kids.drop (i + 1)) s'') ?_ ?_
          · refine idx_s (P := P) hX5.kids.sl (by omega) i rfl hi' fun bb o _ hc => ?_
            have hk0 := hc 0 (by omega)
            rw [Nat.mul_one, Nat.add_zero, Nat.add_zero, kencs_get hi'] at hk0
            refine ld1 (P := P) hk0 ?_
            have skip : kskip x.cells frm to i = true → ∃ s'', Rg w0 w5 ms bo s'' ∧ Bd s'' ∧ Fr (OffN u) u w5 ∧ NodeO w5 (.slice a x.cells.length c) (.slice a' x.kids.length c') x ∧ Bk w5 b15 155 [.bool x.leaf, .slice a x.cells.length c, .slice a' x.kids.length c'] ∧
                kidsGo (p.within frm to f) x.cells frm to 0 x.kids ⟨mput s.seen page (), s.out⟩ = kidsGo (p.within frm to f) x.cells frm to (i + 1) (x.kids.drop (i + 1)) s'' := fun hsk => by
              rw [if_pos hsk] at hgo
              exact ⟨s', hR5, hB5, fw5, hX5, hbN, hgo⟩
            have go : kskip x.cells frm to i = false →
                px P (bin true .add 3 (iv depth) (.int .i64 1)) w5 fun v132 w =>
                cl P 88 #[pt t, iv x.kids[i], v132, sv frm, sv to, .map (some ms), pt bo] w fun v137 w =>
                px P (bin true .neq 32 v137 (.int .i64 0)) w fun v139 wz =>
                cnd v139 (
                  K v137 wz) <|
                ∃ s'', Rg w0 wz ms bo s'' ∧ Bd s'' ∧ Fr (OffN u) u wz ∧ NodeO wz (.slice a x.cells.length c) (.slice a' x.kids.length c') x ∧ Bk wz b15 155 [.bool x.leaf, .slice a x.cells.length c, .slice a' x.kids.length c'] ∧
                  kidsGo (p.within frm to f) x.cells frm to 0 x.kids ⟨mput s.seen page (), s.out⟩ = kidsGo (p.within frm to f) x.cells frm to (i + 1) (x.kids.drop (i + 1)) s'' := fun hsk => by
              rw [if_neg (by rw [hsk]; simp)] at hgo
              haveI : Fits .i64 (depth + 1) := fits_i64 (by omega) (by omega)
              refine px_run ?_
              refine within_k ht h hw f (by omega) (by omega) (by omega) hR5 hB5 fun w6 f6 fo6 hz => ?_
              refine px_run ?_
              have fw6 := OffN.step fw5 fo6
              refine cnd_dec (fun he => ?_) (fun he => ?_)
              · rw [if_pos he] at hgo
                rw [hgo] at k
                exact k w6 f6 fw6 (fun h0 => absurd h0 he)
              · rw [if_neg he] at hgo
                obtain ⟨hR6, hB6⟩ := hz (Decidable.of_not_not he)
                exact ⟨_, hR6, hB6, fw6, hX5.fr fo6 (OffN.quiet _), hbN.fr fo6 (fun ho => (ho _ _ hbN).1 rfl), hgo⟩
            refine px_run ?_
            refine ldB hbN rfl ?_
            refine px_run ?_
            refine px_run ?_
            by_cases hlc : i < x.cells.length
            · have hd : decide ((i : Int) < (x.cells.length : Int)) = true := decide_eq_true (by omega)
              simp only [hd]
              refine gd_tt ?_
              refine px_run ?_
              refine gd_tt ?_
              refine ldB hbN rfl ?_
              refine gd_tt ?_
              refine gd_tt ?_
              refine idx_s (P := P) hX5.cells.sl (by omega) i rfl hlc fun bb2 o2 _ hc2 => ?_
              refine gd_tt ?_
              refine px_run ?_
              refine gd_tt ?_
              have hcell := hc2 0 (by omega)
              rw [cencs_get hlc (by omega)] at hcell
              refine ld1 (P := P) hcell ?_
              refine gd_tt ?_
              refine gd_tt ?_
              refine px_run ?_
              refine pk_true ?_
              cases hB1 : !ltS frm x.cells[i].key with
              | true =>
                iterate 3 refine gd_tf ?_
                iterate 2 refine gd_u ?_
                iterate 2 refine gd_tf ?_
                iterate 9 refine gd_u ?_
                refine gd_tf ?_
                refine pk_true ?_
                refine cnd_true ?_
                exact skip (by unfold kskip; rw [List.getElem?_eq_getElem hlc]; simp only [hB1]; rfl)
              | false =>
                have HB1 : (match x.cells[i]? with | some c => !ltS frm c.key | none => false) = false := by rw [List.getElem?_eq_getElem hlc]; exact hB1
                refine gd_ff ?_
                refine gd_ff ?_
                refine px_run ?_
                refine gd_ff ?_
                by_cases hi0 : 0 < i
                · have hd : decide ((i : Int) > 0) = true := decide_eq_true (by omega)
                  simp only [hd]
                  refine gd_tt ?_
                  refine gd_tt ?_
                  rw [sv_nil]
                  refine px_run ?_
                  refine gd_ff ?_
                  refine pk_true ?_
                  refine gd_ff ?_
                  by_cases hto : to = []
                  · have hd : decide (to ≠ []) = false := decide_eq_false (by simp [hto])
                    simp only [hd]
                    iterate 9 refine gd_ft ?_
                    refine gd_ff ?_
                    refine pk_false ?_
                    refine pk_false ?_
                    refine cnd_false ?_
                    exact go (by unfold kskip; rw [HB1]; simp [hto])
                  · have hd : decide (to ≠ []) = true := decide_eq_true hto
                    simp only [hd]
                    refine gd_tt ?_
                    refine px_run ?_
                    refine gd_tt ?_
                    refine ldB hbN rfl ?_
                    refine gd_tt ?_
                    refine gd_tt ?_
                    haveI : Fits .i64 ((i : Int) - 1) := fits_i64 (by omega) (by omega)
                    refine px_run ?_
                    refine gd_tt ?_
                    have hi1 : i - 1 < x.cells.length := by omega
                    refine idx_s (P := P) hX5.cells.sl (by omega) (i - 1) (by omega) hi1 fun bb2 o2 _ hc2 => ?_
                    refine gd_tt ?_
                    refine px_run ?_
                    refine gd_tt ?_
                    have hcell2 := hc2 0 (by omega)
                    rw [cencs_get hi1 (by omega)] at hcell2
                    refine ld1 (P := P) hcell2 ?_
                    refine gd_tt ?_
                    refine gd_tt ?_
                    refine px_run ?_
                    refine gd_ff ?_
                    refine pk_true ?_
                    refine pk_false ?_
                    refine cnd_of (fun hb => ?_) (fun hb => ?_)
                    · exact skip (by unfold kskip; rw [HB1, List.getElem?_eq_getElem hi1]; simp only [hb]; simp [hi0, hto])
                    · exact go (by unfold kskip; rw [HB1, List.getElem?_eq_getElem hi1]; simp only [hb]; simp)
                · have hd : decide ((i : Int) > 0) = false := decide_eq_false (by omega)
                  simp only [hd]
                  iterate 2 refine gd_ft ?_
                  refine gd_ff ?_
                  refine pk_false ?_
                  refine gd_ff ?_
                  iterate 9 refine gd_ft ?_
                  refine gd_ff ?_
                  refine pk_false ?_
                  refine pk_false ?_
                  refine cnd_false ?_
                  exact go (by unfold kskip; rw [HB1]; simp [hi0])
            · have hd : decide ((i : Int) < (x.cells.length : Int)) = false := decide_eq_false (by omega)
              simp only [hd]
              iterate 8 refine gd_ft ?_
              refine pk_false ?_
              have HB1 : (match x.cells[i]? with | some c => !ltS frm c.key | none => false) = false := by rw [List.getElem?_eq_none (by omega)]
              refine gd_ff ?_
              refine gd_ff ?_
              refine px_run ?_
              refine gd_ff ?_
              by_cases hi0 : 0 < i
              · have hd : decide ((i : Int) > 0) = true := decide_eq_true (by omega)
                simp only [hd]
                refine gd_tt ?_
                refine gd_tt ?_
                rw [sv_nil]
                refine px_run ?_
                refine gd_ff ?_
                refine pk_true ?_
                refine gd_ff ?_
                by_cases hto : to = []
                · have hd : decide (to ≠ []) = false := decide_eq_false (by simp [hto])
                  simp only [hd]
                  iterate 9 refine gd_ft ?_
                  refine gd_ff ?_
                  refine pk_false ?_
                  refine pk_false ?_
                  refine cnd_false ?_
                  exact go (by unfold kskip; rw [HB1]; simp [hto])
                · have hd : decide (to ≠ []) = true := decide_eq_true hto
                  simp only [hd]
                  refine gd_tt ?_
                  refine px_run ?_
                  refine gd_tt ?_
                  refine ldB hbN rfl ?_
                  refine gd_tt ?_
                  refine gd_tt ?_
                  haveI : Fits .i64 ((i : Int) - 1) := fits_i64 (by omega) (by omega)
                  refine px_run ?_
                  refine gd_tt ?_
                  have hi1 : i - 1 < x.cells.length := by omega
                  refine idx_s (P := P) hX5.cells.sl (by omega) (i - 1) (by omega) hi1 fun bb2 o2 _ hc2 => ?_
                  refine gd_tt ?_
                  refine px_run ?_
                  refine gd_tt ?_
                  have hcell2 := hc2 0 (by omega)
                  rw [cencs_get hi1 (by omega)] at hcell2
                  refine ld1 (P := P) hcell2 ?_
                  refine gd_tt ?_
                  refine gd_tt ?_
                  refine px_run ?_
                  refine gd_ff ?_
                  refine pk_true ?_
                  refine pk_false ?_
                  refine cnd_of (fun hb => ?_) (fun hb => ?_)
                  · exact skip (by unfold kskip; rw [HB1, List.getElem?_eq_getElem hi1]; simp only [hb]; simp [hi0, hto])
                  · exact go (by unfold kskip; rw [HB1, List.getElem?_eq_getElem hi1]; simp only [hb]; simp)
              · have hd : decide ((i : Int) > 0) = false := decide_eq_false (by omega)
                simp only [hd]
                iterate 2 refine gd_ft ?_
                refine gd_ff ?_
                refine pk_false ?_
                refine gd_ff ?_
                iterate 9 refine gd_ft ?_
                refine gd_ff ?_
                refine pk_false ?_
                refine pk_false ?_
                refine cnd_false ?_
                exact go (by unfold kskip; rw [HB1]; simp [hi0])
          · rintro _ w6 ⟨s'', hR6, hB6, fw6, hX6, hb6, hgo6⟩
            refine px_run ?_
            refine ⟨⟨i + 1, s'', rfl, by omega, hR6, hB6, fw6, hX6, hb6, hgo6⟩, ?_⟩
            show ((x.kids.length : Int) - ((i : Int) + 1)).toNat < ((x.kids.length : Int) - (i : Int)).toNat
            omega
        · have : i = x.kids.length := by omega
          subst this
          have e : kidsGo (p.within frm to f) x.cells frm to x.kids.length (x.kids.drop x.kids.length) s' = (s', 0) := by rw [List.drop_length]; rfl
          rw [e] at hgo
          rw [hgo] at k
          exact k w5 hR5.fr fw5 fun _ => ⟨hR5, hB5⟩
theorem rangeB_k {w : World} {K : Value → World → Prop} {frm to : Str} (ht : TreeAt w t b) (h : PgM w b d p F) (hw : p.WF)
    (k : ∀ v w1, Own w1 v 41 2 (p.range frm to).1.length ((p.range frm to).1.flatMap oenc) → (∀ i, v.ownBlock = some i → w.heap.size ≤ i) → Fr no w w1 → K (.tuple #[v, iv (p.range frm to).2]) w1) : cl P 21 #[pt t, sv frm, sv to] w K := by
  apply c21
  unfold F21
  unfold Pg.range at k
  refine px_run ?_
  refine cnd_false ?_
  refine nc_ptr ?_
  refine px_run ?_
  refine ldB ht rfl ?_
  obtain ⟨r, md, mn, mi, mc, Fd, hr⟩ := id h
  refine root_k hr ?_
  refine px_run ?_
  refine cnd_dec (fun h0 => ?_) (fun h0 => ?_)
  · rw [if_pos h0] at k
    exact k _ w (nil_own w 41 2) (fun i hi => by cases hi) (Fr.refl _ _)
  rw [if_neg h0] at k
  refine alloc_k (P := P) (z := [.slice none 0 0]) fun b8 w1 hb8e hb8 hf1 => ?_
  refine nc_ptr ?_
  refine px_run ?_
  refine ldB (ht.fr0 hf1) rfl ?_
  obtain ⟨r, md, mn, mi, mc, Fd, hr⟩ := h.fr0 hf1
  refine root_k hr ?_
  refine pm_make (enc := one1) fun m w2 hme hm hf2 => ?_
  have f2 : Fr no w w2 := hf1.trans hf2 (fun _ h => by cases h)
  have s1 := hf1.size
  have hR : Rg w w2 m b8 ⟨[], []⟩ := ⟨f2, hm, ⟨_, hb8.fr0 hf2, nil_own w2 41 2, fun i hi => by cases hi⟩, by omega, by omega⟩
  refine within_k ht h hw 41 (by omega) (by omega) rfl hR ⟨fun y hy => (by cases hy), by simp⟩ fun w3 f3 _ hz => ?_
  refine px_run ?_
  refine cnd_dec (fun he => ?_) (fun he => ?_)
  · simp only at k
    rw [if_pos he] at k
    exact k _ w3 (nil_own w3 41 2) (fun i hi => by cases hi) f3
  · simp only at k
    rw [if_neg he] at k
    obtain ⟨hR3, _⟩ := hz (Decidable.of_not_not he)
    obtain ⟨vo, q1, q2, q3⟩ := hR3.out
    refine ldB q1 rfl ?_
    exact k vo w3 q2 q3 f3
theorem freeB_k {w : World} {K : Value → World → Prop} (ht : TreeAt w t b) (h : PgM w b d p F) (hw : p.WF) (k : ∀ w1, Fr no w w1 → K (iv p.free) w1) : cl P 24 #[pt t] w K := by
  apply c24
  unfold F24
  refine px_run ?_
  refine cnd_false ?_
  refine nc_ptr ?_
  refine px_run ?_
  refine ldB ht rfl ?_
  obtain ⟨r, md, mn, mi, mc, Fd, hr⟩ := id h
  exact free_k hr hw k
theorem commitB_k {w : World} {K : Value → World → Prop} (ht : TreeAt w t b) (h : PgM w b d p F) (hw : p.WF) (k : ∀ w1 F', PgM w1 b d p.commit.1 F' → Fr F w w1 → Grows w F F' → K (iv p.commit.2) w1) : cl P 25 #[pt t] w K := by
  apply c25
  unfold F25
  refine px_run ?_
  refine cnd_false ?_
  refine nc_ptr ?_
  refine px_run ?_
  refine ldB ht rfl ?_
  exact commit_k h hw k
theorem abortB_k {w : World} {K : Value → World → Prop} (ht : TreeAt w t b) (h : PgM w b d p F) (hw : p.WF) (k : ∀ w1 F', PgM w1 b d p.abort.1 F' → Fr F w w1 → Grows w F F' → K (iv p.abort.2) w1) : cl P 23 #[pt t] w K := by
  apply c23
  unfold F23
  refine px_run ?_
  refine cnd_false ?_
  refine nc_ptr ?_
  refine px_run ?_
  refine ldB ht rfl ?_
  exact abort_k h hw k
instance : StructT P 165 [(0, 1)] := ⟨by kernel_rfl, fun w => by kernel_rfl⟩
instance : Zero P 165 [.pointer none] := ⟨fun w => ⟨.agg [.pointer none].toArray, by kernel_rfl, rfl⟩⟩
theorem build165 {w : World} {v : Value} [hv : Atom v] : (Instr.build 165 #[(0, v)]).run P w = .ok (.agg [v].toArray) w := by
  refine build_run (P := P) (t := 165) (parts := [(0, v)]) (z := [.pointer none]) ?_
  rw [fill_cons (xs := [v]) (off := 0) (size := 1) rfl hv.cells rfl (by simp), fill_nil]
  rfl
theorem newB_k {w : World} {K : Value → World → Prop} (k : ∀ t w1, t = w.heap.size → TreeAt w1 t b → Fr no w w1 → K (pt t) w1) : cl P 26 #[pt b] w K := by
  apply c26
  unfold F26
  refine px_run ?_
  refine cnd_false ?_
  refine px_of build165 ?_
  exact boxA_k fun t w1 hte htb hf => k t w1 hte htb hf
theorem newB_nil {w : World} {K : Value → World → Prop} (k : K (.pointer none) w) : cl P 26 #[.pointer none] w K := by
  apply c26
  unfold F26
  refine px_run ?_
  exact cnd_true k
end
end Go.Proofs.YtomggfibpbaodaaGreatDoor
