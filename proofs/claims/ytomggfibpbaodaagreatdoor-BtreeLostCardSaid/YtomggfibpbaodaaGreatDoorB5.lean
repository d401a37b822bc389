/-
  The tree: Put and Del.
-/
import Derived.Test.YtomggfibpbaodaaGreatDoorB4
set_option maxRecDepth 100000
namespace Go.Proofs.YtomggfibpbaodaaGreatDoor
open Go.V

/-- The cell of a key at the end of a way. -/
def oldC (key : Str) : List Step → Option Cell
  | [] => none
  | x :: _ => match x.n.cells[x.at_]? with | none => none | some c => if c.key = key then some c else none
def Pg.freed (p : Pg) : Option Cell → Pg × Int
  | none => (p, 0)
  | some c => p.forget c
/-- A cell laid at the end of a way. -/
def Pg.laid (l : List Step) (old : Bool) (x1 : Pg × Cell × Int) : Pg × Int :=
  if x1.2.2 ≠ 0 then (x1.1, x1.2.2) else
  match l with
  | [] => if (x1.1.add ⟨true, [x1.2.1], []⟩).2.2 ≠ 0 then ((x1.1.add ⟨true, [x1.2.1], []⟩).1, (x1.1.add ⟨true, [x1.2.1], []⟩).2.2) else (x1.1.add ⟨true, [x1.2.1], []⟩).1.setRoot (x1.1.add ⟨true, [x1.2.1], []⟩).2.1
  | x :: _ => Pg.down l x1.1 ⟨x.n.leaf, if old then x.n.cells.set x.at_ x1.2.1 else insAt x.n.cells x.at_ x1.2.1, x.n.kids⟩
theorem put_unfold (p : Pg) (key v : Str) : p.put key v =
    if 48 < key.length ∨ 8192 < v.length then (p, 1) else
    if p.free < w64 (24 + npages v.length) then (p, 3) else
    match p.path key with
    | .error e => (p, e)
    | .ok l => if (p.freed (oldC key l)).2 ≠ 0 then p.freed (oldC key l) else Pg.laid l (oldC key l).isSome ((p.freed (oldC key l)).1.cell key v) := by
  unfold Pg.put
  by_cases h1 : 48 < key.length ∨ 8192 < v.length
  · rw [if_pos h1, if_pos h1]
  · rw [if_neg h1, if_neg h1]
    by_cases h2 : p.free < w64 (24 + npages v.length)
    · rw [if_pos h2, if_pos h2]
    · rw [if_neg h2, if_neg h2]
      cases p.path key with
      | error e => rfl
      | ok l => cases l <;> rfl
theorem Pg.WF.freed {p : Pg} (h : p.WF) (o : Option Cell) : (p.freed o).1.WF := by
  cases o with
  | none => exact h
  | some c => exact h.forget c
section
variable {w w1 : World} {t b d : Nat} {p : Pg} {F : Nat → Prop} {K : Value → World → Prop}
theorem old_true {key : Str} {x : Step} {l : List Step} {h : x.at_ < x.n.cells.length} (hk : x.n.cells[x.at_].key = key) : oldC key (x :: l) = some x.n.cells[x.at_] := by
  unfold oldC
  simp only [List.getElem?_eq_getElem h]
  rw [if_pos hk]
theorem old_false {key : Str} {x : Step} {l : List Step} {h : x.at_ < x.n.cells.length} (hk : x.n.cells[x.at_].key ≠ key) : oldC key (x :: l) = none := by
  unfold oldC
  simp only [List.getElem?_eq_getElem h]
  rw [if_neg hk]
theorem old_end {key : Str} {x : Step} {l : List Step} (h : ¬ x.at_ < x.n.cells.length) : oldC key (x :: l) = none := by
  unfold oldC
  simp only [List.getElem?_eq_none (show x.n.cells.length ≤ x.at_ by omega)]
theorem cell_strs {key v : Str} (hk : key.length ≤ 48) : (p.cell key v).2.1.key.length ≤ 100 ∧ (p.cell key v).2.1.val.length ≤ 100 := by
  unfold Pg.cell
  split
  · exact ⟨by simp only; omega, by simp only; omega⟩
  · simp only
    split
    · exact ⟨by simp, by simp⟩
    · exact ⟨by simp only; omega, by simp⟩
theorem putB_k {key v : Str} (ht : TreeAt w t b) (h : PgM w b d p F) (hw : p.WF) (k : ∀ w1, PgM w1 b d (p.put key v).1 F → Fr F w w1 → K (iv (p.put key v).2) w1) : cl P 18 #[pt t, sv key, sv v] w K := by
  apply c18
  unfold F18
  rw [put_unfold] at k
  refine px_run ?_
  refine cnd_false ?_
  refine px_run ?_
  refine px_run ?_
  by_cases h1 : 48 < key.length ∨ 8192 < v.length
  · rw [if_pos h1] at k
    by_cases h48 : 48 < key.length
    · have hd : decide ((key.length : Int) > 48) = true := decide_eq_true (by omega)
      simp only [hd]
      iterate 3 refine gd_tf ?_
      refine pk_true ?_
      refine cnd_true ?_
      exact k w h (Fr.refl _ _)
    · have hd : decide ((key.length : Int) > 48) = false := decide_eq_false (by omega)
      have hd2 : decide ((v.length : Int) > 8192) = true := decide_eq_true (by omega)
      simp only [hd]
      refine gd_ff ?_
      refine gd_ff ?_
      refine px_run ?_
      refine gd_ff ?_
      refine px_run ?_
      simp only [hd2]
      refine pk_false ?_
      refine cnd_true ?_
      exact k w h (Fr.refl _ _)
  rw [if_neg h1] at k
  have hd : decide ((key.length : Int) > 48) = false := decide_eq_false (by omega)
  have hd2 : decide ((v.length : Int) > 8192) = false := decide_eq_false (by omega)
  simp only [hd]
  refine gd_ff ?_
  refine gd_ff ?_
  refine px_run ?_
  refine gd_ff ?_
  refine px_run ?_
  simp only [hd2]
  refine pk_false ?_
  refine cnd_false ?_
  refine px_run ?_
  refine npages78_k ?_
  refine full_k ht h hw fun w1 hf1 => ?_
  refine cnd_dec (fun hful => ?_) (fun hful => ?_)
  · rw [if_pos hful] at k
    exact k w1 (h.fr0 hf1) (hf1.mono fun _ h => h.elim)
  rw [if_neg hful] at k
  have ht1 := ht.fr0 hf1
  have h1' := h.fr0 hf1
  refine path_k ht1 h1' hw (fun e w2 he hne hf2 => ?_) (fun v38 l w2 he hP hf2 => ?_)
  · rw [he] at k
    refine px_run ?_
    refine px_run ?_
    refine px_run ?_
    have hdn : decide (e ≠ 0) = true := decide_eq_true hne
    simp only [hdn]
    refine cnd_true ?_
    have f2 := hf1.trans hf2 (fun _ h => by cases h)
    exact k w2 (h.fr0 f2) (f2.mono fun _ h => h.elim)
  rw [he] at k
  simp only at k
  have f2 := hf1.trans hf2 (fun _ h => by cases h)
  have ht2 := ht.fr0 f2
  have h2 := h.fr0 f2
  have hway := path_way he
  have hplen := path_len he
  obtain ⟨_, av, cv, rfl, _⟩ := id hP.sl
  refine px_run ?_
  refine px_run ?_
  refine px_run ?_
  refine cnd_false ?_
  refine px_run ?_
  refine px_run ?_
  -- the old cell is let go
  refine cut_of (fun _ w' => (p.freed (oldC key (l.map (·.1)).reverse)).2 = 0 ∧ PgM w' b d (p.freed (oldC key (l.map (·.1)).reverse)).1 F ∧ Fr F w2 w') ?_ ?_
  · rcases List.eq_nil_or_concat l with e | ⟨l0, x, e⟩
    · subst e
      refine cnd_false ?_
      exact ⟨rfl, h2, Fr.refl _ _⟩
    · rw [List.concat_eq_append] at e
      subst e
      simp only [List.map_append, List.map_cons, List.map_nil, List.reverse_append, List.reverse_cons, List.reverse_nil, List.nil_append, List.cons_append] at hway k ⊢
      obtain ⟨⟨hlf, hck, hat, hlim⟩, _⟩ := hway
      have hl40 : l0.length ≤ 1000 := by
        simp at hplen
        omega
      have hd0 : decide ((((l0 ++ [x]).length : Nat) : Int) > 0) = true := decide_eq_true (by simp)
      simp only [hd0]
      refine cnd_true ?_
      refine lastVar hP hl40 fun b9 w3 hb9 hf3 _ => ?_
      have hN := (hP.nodes x (by simp)).fr hf3 (Quiet.no _)
      obtain ⟨a, c, a', c', hx1, hx2⟩ := hN.slices
      have hsc := hlim.cells
      unfold senc at hb9
      rw [hx1, hx2] at hb9 hN
      have ht3 := ht2.fr0 hf3
      have h3 := h2.fr0 hf3
      refine px_run ?_
      refine ldB hb9 rfl ?_
      refine px_run ?_
      refine px_run ?_
      refine ldB hb9 rfl ?_
      refine px_run ?_
      refine px_run ?_
      by_cases hlt : x.1.at_ < x.1.n.cells.length
      · have hd : decide ((x.1.at_ : Int) < (x.1.n.cells.length : Int)) = true := decide_eq_true (by omega)
        simp only [hd]
        refine gd_tt ?_
        refine px_run ?_
        refine gd_tt ?_
        refine px_run ?_
        refine gd_tt ?_
        refine ldB hb9 rfl ?_
        refine gd_tt ?_
        refine px_run ?_
        refine gd_tt ?_
        refine ldB hb9 rfl ?_
        refine gd_tt ?_
        refine idx_s (P := P) hN.cells.sl (by omega) x.1.at_ rfl hlt fun bb o _ hc => ?_
        have hcell : ∀ q, q < 4 → w3.cell? ⟨bb, o + q, none⟩ = (cenc x.1.n.cells[x.1.at_])[q]? := fun q hq => by rw [hc q hq, cencs_get hlt hq]
        refine gd_tt ?_
        refine px_run ?_
        refine gd_tt ?_
        refine ld1 (P := P) (hcell 0 (by omega)) ?_
        refine gd_tt ?_
        refine gd_tt ?_
        refine px_run ?_
        refine pk_true ?_
        refine cut_in ?_
        refine cnd_dec (fun hk => ?_) (fun hk => ?_)
        · have ho := old_true (l := (l0.map (·.1)).reverse) (h := hlt) hk
          rw [ho] at k ⊢
          refine px_run ?_
          refine px_run ?_
          refine ldB hb9 rfl ?_
          refine px_run ?_
          refine ldB hb9 rfl ?_
          refine idx_s (P := P) hN.cells.sl (by omega) x.1.at_ rfl hlt fun bb o _ hc => ?_
          refine ldCell (fun q hq => by rw [hc q hq, cencs_get hlt hq]) ?_
          refine forget_k ht3 h3 hw fun w4 h4 hf4 => ?_
          refine px_run ?_
          have f4 : Fr F w2 w4 := Fr.of hf3 hf4
          refine cnd_dec (fun he => ?_) (fun he => ?_)
          · have he' : (p.freed (some x.1.n.cells[x.1.at_])).2 ≠ 0 := he
            rw [if_pos he'] at k
            exact k w4 h4 (Fr.of f2 f4)
          · exact ⟨Decidable.of_not_not he, h4, f4⟩
        · have ho := old_false (l := (l0.map (·.1)).reverse) (h := hlt) hk
          rw [ho]
          exact ⟨rfl, h3, hf3.mono fun _ h => h.elim⟩
      · have hd : decide ((x.1.at_ : Int) < (x.1.n.cells.length : Int)) = false := decide_eq_false (by omega)
        simp only [hd]
        iterate 10 refine gd_ft ?_
        refine pk_false ?_
        refine cut_in ?_
        refine cnd_false ?_
        rw [old_end (l := (l0.map (·.1)).reverse) hlt]
        exact ⟨rfl, h3, hf3.mono fun _ h => h.elim⟩
  rintro _ w3 ⟨he0, h3, hf3⟩
  rw [if_neg (by rw [he0]; simp)] at k
  have f3 := Fr.of f2 hf3
  have q2 := Quiet.mu h2.mu
  have ht3 := TreeAt.q ht2 hf3 q2
  have hP3 := hP.fr hf3 q2
  have hw3 := hw.freed (oldC key (l.map (·.1)).reverse)
  generalize hQ : (p.freed (oldC key (l.map (·.1)).reverse)).1 = p1 at *
  refine cell_k ht3 h3 hw3 (by omega) fun w4 h4 hf4 => ?_
  have f4 := f3.two hf4
  have q3 := Quiet.mu h3.mu
  have ht4 := TreeAt.q ht3 hf4 q3
  have hP4 := hP3.fr hf4 q3
  have hw4 := hw3.cell key v
  generalize hX : p1.cell key v = X at *
  obtain ⟨p2, c2, e2⟩ := X
  simp only at h4 hw4 ⊢
  refine px_run ?_
  refine px_run ?_
  refine alloc_k (P := P) (z := [.string ⟨#[]⟩, .string ⟨#[]⟩, .int .i64 0, .int .i64 0]) fun b11 w5 hb11e hb11 hf5 => ?_
  refine stA0_k hb11 (atoms_cenc c2) rfl rfl fun w6 hb116 hf6 => ?_
  have f46 : Fr no w4 w6 := hf5.new hf6 (fun i hi => by omega)
  have f6 := f4.then f46
  have ht6 := ht4.fr0 f46
  have h6 := h4.fr0 f46
  have hP6 := hP4.fr0 f46
  refine px_run ?_
  refine cnd_dec (fun he => ?_) (fun he => ?_)
  · unfold Pg.laid at k
    rw [if_pos he] at k
    exact k w6 h6 f6
  unfold Pg.laid at k
  rw [if_neg he] at k
  simp only at k
  refine px_run ?_
  refine px_run ?_
  rcases List.eq_nil_or_concat l with e | ⟨l0, x, e⟩
  · subst e
    simp only [List.map_nil, List.reverse_nil] at k
    refine cnd_true ?_
    refine ldA0 hb116 rfl ?_
    refine cell1_k fun bc w7 hbce hc7 hf7 => ?_
    refine px_of build155_lc ?_
    have f7 := f6.then hf7
    have hkey : key.length ≤ 48 := by omega
    have hcs : c2.key.length ≤ 100 ∧ c2.val.length ≤ 100 := by
      have e1 : c2 = (p1.cell key v).2.1 := by rw [hX]
      exact e1 ▸ cell_strs hkey
    have hx : NodeAt w7 (.slice (some ⟨bc, 0, none⟩) 1 1) (.slice none 0 0) ⟨true, [c2], []⟩ := ⟨hc7.sl, (nil_own w7 3 1).sl, by simp, by simp, fun c hc => by
      simp only [List.mem_singleton] at hc
      subst hc
      exact hcs⟩
    refine add_k (ht6.fr0 hf7) (h6.fr0 hf7) hw4 hx (Own.offM hc7 (h6.fr0 hf7).mu (by decide)) (fun i hi => by cases hi) fun w8 h8 hf8 => ?_
    have f8 := f7.two hf8
    refine px_run ?_
    refine px_run ?_
    refine px_run ?_
    refine cnd_dec (fun he => ?_) (fun he => ?_)
    · rw [if_pos he] at k
      exact k w8 h8 f8
    · rw [if_neg he] at k
      have ht8 := TreeAt.q (ht6.fr0 hf7) hf8 (Quiet.mu (h6.fr0 hf7).mu)
      refine nc_ptr ?_
      refine px_run ?_
      refine ldB ht8 rfl ?_
      exact setRoot_k h8 fun w9 h9 hf9 => k w9 h9 (f8.two hf9)
  · rw [List.concat_eq_append] at e
    subst e
    simp only [List.map_append, List.map_cons, List.map_nil, List.reverse_append, List.reverse_cons, List.reverse_nil, List.nil_append, List.cons_append] at hway k
    obtain ⟨⟨hlf, hck, hat, hlim⟩, hok⟩ := hway
    have hl40 : l0.length ≤ 1000 := by
      simp at hplen
      omega
    have hd0 : decide ((((l0 ++ [x]).length : Nat) : Int) = 0) = false := decide_eq_false (by simp; omega)
    simp only [hd0]
    refine cnd_false ?_
    refine lastVar hP6 hl40 fun b14 w7 hb14 hf7 _ => ?_
    have hN := (hP6.nodes x (by simp)).fr hf7 (Quiet.no _)
    obtain ⟨a, c, a', c', hx1, hx2⟩ := hN.slices
    have hsc := hlim.cells
    unfold senc at hb14
    rw [hx1, hx2] at hb14 hN
    refine px_run ?_
    refine ldAo (n := 3) (xs := [.bool x.1.n.leaf, .slice a x.1.n.cells.length c, .slice a' x.1.n.kids.length c']) hb14 rfl rfl ?_
    refine alloc_k (P := P) (z := [.bool false, .slice none 0 0, .slice none 0 0]) fun b15 w8 hb15e hb15 hf8 => ?_
    refine stA0_k hb15 (atoms_node _ _ _ _ _ _ _) rfl rfl fun w9 hb159 hf9 => ?_
    have s7 := hf7.size
    have f79 : Fr no w7 w9 := hf8.new hf9 (fun i hi => by omega)
    have f69 : Fr no w6 w9 := hf7.trans f79 (fun _ h => by cases h)
    have hN9 := hN.fr f79 (Quiet.no _)
    have hN6 := hP6.nodes x (by simp)
    rw [hx1, hx2] at hN6
    have hb149 := hb14.fr0 f79
    refine px_run ?_
    refine ldB hb159 rfl ?_
    refine cloneC_k hN9.cells.sl (by omega) fun v123 w10 hv123 hf10 hn123 => ?_
    obtain ⟨a3, c3, rfl⟩ := Own.atom hv123
    have hb1510 := hb159.fr0 hf10
    have hb1410 := hb149.fr0 hf10
    refine px_run ?_
    refine stB_k hb1510 (by simp) fun w11 hb1511 hf11 => ?_
    have hne : b14 ≠ b15 := fun e => by subst e; exact absurd (Bk.typ hb1410 hb1510) (by decide)
    have hb1411 := hb1410.frb hf11 hne
    have hv11 := hv123.frb hf11 hb1510 (by decide)
    have f11 : Fr no w6 w11 := (f69.trans hf10 (fun _ h => by cases h)).new hf11 (fun i hi => by omega)
    have s10 := hf10.size
    have hb116' := hb116.fr0 f11
    have hset : ([.bool x.1.n.leaf, .slice a x.1.n.cells.length c, .slice a' x.1.n.kids.length c'] : List Value).set 1 (.slice a3 x.1.n.cells.length c3) = [.bool x.1.n.leaf, .slice a3 x.1.n.cells.length c3, .slice a' x.1.n.kids.length c'] := rfl
    rw [hset] at hb1511
    refine px_run ?_
    refine ldB hb1411 rfl ?_
    refine px_run ?_
    refine ldB hb1511 rfl ?_
    refine px_run ?_
    refine px_run ?_
    have hkey : key.length ≤ 48 := by omega
    have hcs : c2.key.length ≤ 100 ∧ c2.val.length ≤ 100 := by
      have e1 : c2 = (p1.cell key v).2.1 := by rw [hX]
      exact e1 ▸ cell_strs hkey
    -- the leaf as it becomes
    have fin : ∀ (L' : List Cell) (w12 : World) (a4 : Option Addr) (n4 c4 : Nat), L' = (if (oldC key (x.1 :: (l0.map (·.1)).reverse)).isSome = true then x.1.n.cells.set x.1.at_ c2 else insAt x.1.n.cells x.1.at_ c2) → Bk w12 b15 155 [.bool x.1.n.leaf, .slice a4 n4 c4, .slice a' x.1.n.kids.length c'] →
        Own w12 (.slice a4 n4 c4) 159 4 L'.length (L'.flatMap cenc) → Fr no w6 w12 → px P (Instr.loadAt 155 (pt b15)) w12 fun v158 w => cl P 85 #[pt t, .slice av (l0 ++ [x]).length cv, v158] w fun v159 w => K v159 w := by
      intro L' w12 a4 n4 c4 hL hb1512 hv12 f12
      have hn4 : n4 = L'.length := by
        obtain ⟨_, _, e⟩ := Own.atom hv12
        simp only [Value.slice.injEq] at e
        exact e.2.1
      subst hn4
      refine ldA0 hb1512 rfl ?_
      have hLm : ∀ z ∈ L', z.key.length ≤ 100 ∧ z.val.length ≤ 100 := by
        rw [hL]
        split
        · intro z hz
          rcases List.mem_or_eq_of_mem_set hz with hz | rfl
          · exact hlim.strs z hz
          · exact hcs
        · intro z hz
          rcases insAt_mem hz with rfl | hz
          · exact hcs
          · exact hlim.strs z hz
      have hLl : L'.length ≤ 513 := by
        rw [hL]
        split
        · rw [List.length_set]; omega
        · rw [insAt_length hat]; omega
      have hkl := hlim.kids
      have hNl : (⟨x.1.n.leaf, L', x.1.n.kids⟩ : Node).Lim 513 := ⟨hLl, by simp only; omega, hLm⟩
      have hP12 := hP6.fr0 f12
      have hlenl : (l0 ++ [x]).length = l0.length + 1 := by simp
      rw [hlenl] at hP12 ⊢
      rw [← hL] at k
      refine down_k l0.length (l := l0) (x := x) (n := ⟨x.1.n.leaf, L', x.1.n.kids⟩) rfl hl40 hP12 (fun z hz => hok z.1 (List.mem_reverse.2 (List.mem_map_of_mem hz))) (ht6.fr0 f12) (h6.fr0 f12) hw4 ⟨hv12, hN6.kids.fr0 f12, hNl.small (by omega)⟩ hNl (fun e => by
        rw [hlf] at e
        cases e) fun w13 h13 hf13 => k w13 h13 ((f6.then f12).two hf13)
    -- the cell is set, or put in
    have atEnd : oldC key (x.1 :: (l0.map (·.1)).reverse) = none → ∀ K2 : World → Prop, (∀ w12 a4 n4 c4, Bk w12 b15 155 [.bool x.1.n.leaf, .slice a4 n4 c4, .slice a' x.1.n.kids.length c'] →
        Own w12 (.slice a4 n4 c4) 159 4 (insAt x.1.n.cells x.1.at_ c2).length ((insAt x.1.n.cells x.1.at_ c2).flatMap cenc) → Fr no w6 w12 → K2 w12) →
        px P (Instr.fieldAt 155 (pt b15) 1) w11 fun v148 w =>
        px P (Instr.loadAt 153 v148) w fun v149 w =>
        px P (Instr.fieldAt 157 (pt b14) 1) w fun v150 w =>
        px P (Instr.loadAt 3 v150) w fun v151 w =>
        px P (Instr.loadAt 159 (pt b11)) w fun v152 w =>
        px P (Instr.buildSlice 153 1 #[(0, v152)]) w fun v153 w =>
        cl P 84 #[v149, v151, v153] w fun v154 w =>
        px P (Instr.fieldAt 155 (pt b15) 1) w fun v155 w =>
        pu P (Instr.storeAt 153 v155 v154) w fun w => K2 w := by
      intro ho K2 hK2
      refine px_run ?_
      refine ldB hb1511 rfl ?_
      refine px_run ?_
      refine ldB hb1411 rfl ?_
      refine ldA0 hb116' rfl ?_
      refine cell1_k fun bc w12 hbce hc12 hf12 => ?_
      have hv12 := hv11.fr0 hf12
      refine insC_k hv12 hc12 (fun i hi e => by
        have e2 : some bc = some i := e
        injection e2 with e2
        have := Own.lt hv11 hi
        omega) hat (by omega) fun v154 w13 hv154 hf13 hn13 => ?_
      obtain ⟨a5, c5, rfl⟩ := Own.atom hv154
      have hb1513 := (hb1511.fr0 hf12).fr hf13 (hv12.ne_bk (hb1511.fr0 hf12) (by decide))
      refine px_run ?_
      refine stB_k hb1513 (by simp) fun w14 hb1514 hf14 => ?_
      have f12 := f11.trans hf12 (fun _ h => by cases h)
      have s69 := f69.size
      have s11 := f11.size
      have f14 : Fr no w6 w14 := (f12.new hf13 (fun i hi => by have := hn123 i hi; omega)).new hf14 (fun i hi => by
        have := hb15e
        have s67 := hf7.size
        omega)
      exact hK2 w14 a5 _ c5 hb1514 (hv154.frb hf14 hb1513 (by decide)) f14
    by_cases hlt : x.1.at_ < x.1.n.cells.length
    · have hd : decide ((x.1.at_ : Int) < (x.1.n.cells.length : Int)) = true := decide_eq_true (by omega)
      simp only [hd]
      refine gd_tt ?_
      refine px_run ?_
      refine gd_tt ?_
      refine ldB hb1511 rfl ?_
      refine gd_tt ?_
      refine px_run ?_
      refine gd_tt ?_
      refine ldB hb1411 rfl ?_
      refine gd_tt ?_
      refine idx_s (P := P) hv11.sl (by omega) x.1.at_ rfl hlt fun bb o _ hc => ?_
      have hcell : ∀ q, q < 4 → w11.cell? ⟨bb, o + q, none⟩ = (cenc x.1.n.cells[x.1.at_])[q]? := fun q hq => by rw [hc q hq, cencs_get hlt hq]
      refine gd_tt ?_
      refine px_run ?_
      refine gd_tt ?_
      refine ld1 (P := P) (hcell 0 (by omega)) ?_
      refine gd_tt ?_
      refine gd_tt ?_
      refine px_run ?_
      refine pk_true ?_
      refine cut_of (fun _ w' => ∃ L' a4 n4 c4, L' = (if (oldC key (x.1 :: (l0.map (·.1)).reverse)).isSome = true then x.1.n.cells.set x.1.at_ c2 else insAt x.1.n.cells x.1.at_ c2) ∧ Bk w' b15 155 [.bool x.1.n.leaf, .slice a4 n4 c4, .slice a' x.1.n.kids.length c'] ∧
        Own w' (.slice a4 n4 c4) 159 4 (List.length L') (List.flatMap cenc L') ∧ Fr no w6 w') ?_ ?_
      · refine cnd_dec (fun hk => ?_) (fun hk => ?_)
        · have ho := old_true (l := (l0.map (·.1)).reverse) (h := hlt) hk
          refine px_run ?_
          refine ldB hb1511 rfl ?_
          refine px_run ?_
          refine ldB hb1411 rfl ?_
          refine ldA0 hb116' rfl ?_
          obtain ⟨g, cap, cs, e, hbg, _, _, _, _⟩ := hv11.bk (by omega)
          simp only [Value.slice.injEq, true_and] at e
          obtain ⟨rfl, rfl⟩ := e
          refine idx_k (P := P) x.1.at_ rfl hlt ?_
          rw [Nat.zero_add]
          refine own_stA_k (P := P) (t := 159) (ys := cenc c2) hv11 hlt (atoms_cenc _) rfl fun w12 hv12 hf12 => ?_
          rw [cencs_set hlt] at hv12
          have hgn := hn123 g rfl
          have s69 := f69.size
          refine ⟨x.1.n.cells.set x.1.at_ c2, some ⟨g, 0, none⟩, x.1.n.cells.length, c3, by rw [ho]; rfl, hb1511.frb hf12 (fun e => by subst e; exact absurd (Bk.typ hb1511 hbg) (by decide)), ?_, f11.new hf12 (fun i hi => by omega)⟩
          rw [List.length_set]
          exact hv12
        · have ho := old_false (l := (l0.map (·.1)).reverse) (h := hlt) hk
          exact atEnd ho _ fun w12 a4 n4 c4 h1 h2 h3 => ⟨_, a4, n4, c4, by rw [ho]; rfl, h1, h2, h3⟩
      · rintro _ w12 ⟨L', a4, n4, c4, hL, h1, h2, h3⟩
        exact fin L' w12 a4 n4 c4 hL h1 h2 h3
    · have hd : decide ((x.1.at_ : Int) < (x.1.n.cells.length : Int)) = false := decide_eq_false (by omega)
      simp only [hd]
      iterate 9 refine gd_ft ?_
      refine pk_false ?_
      have ho := old_end (key := key) (l := (l0.map (·.1)).reverse) hlt
      refine cut_in ?_
      refine cnd_false ?_
      exact atEnd ho _ fun w12 a4 n4 c4 h1 h2 h3 => fin _ w12 a4 n4 c4 (by rw [ho]; rfl) h1 h2 h3
theorem delB_k {key : Str} (ht : TreeAt w t b) (h : PgM w b d p F) (hw : p.WF) (k : ∀ w1, PgM w1 b d (p.del key).1 F → Fr F w w1 → K (.tuple #[.bool (p.del key).2.1, iv (p.del key).2.2]) w1) : cl P 22 #[pt t, sv key] w K := by
  apply c22
  unfold F22
  unfold Pg.del at k
  refine px_run ?_
  refine cnd_false ?_
  refine px_run ?_
  refine px_run ?_
  refine cnd_dec (fun h48 => ?_) (fun h48 => ?_)
  · rw [if_pos (by omega)] at k
    exact k w h (Fr.refl _ _)
  rw [if_neg (by omega)] at k
  refine full_k ht h hw fun w1 hf1 => ?_
  rw [show w64 (24 + 0) = 24 from by decide]
  refine cnd_dec (fun hful => ?_) (fun hful => ?_)
  · rw [if_pos hful] at k
    exact k w1 (h.fr0 hf1) (hf1.mono fun _ h => h.elim)
  rw [if_neg hful] at k
  have ht1 := ht.fr0 hf1
  have h1' := h.fr0 hf1
  refine path_k ht1 h1' hw (fun e w2 he hne hf2 => ?_) (fun v38 l w2 he hP hf2 => ?_)
  · rw [he] at k
    simp only at k
    refine px_run ?_
    refine px_run ?_
    refine px_run ?_
    have hd : decide (e ≠ 0) = true := decide_eq_true hne
    simp only [hd]
    iterate 3 refine gd_tf ?_
    refine pk_true ?_
    refine cnd_true ?_
    have f2 := hf1.trans hf2 (fun _ h => by cases h)
    exact k w2 (h.fr0 f2) (f2.mono fun _ h => h.elim)
  rw [he] at k
  have f2 := hf1.trans hf2 (fun _ h => by cases h)
  have ht2 := ht.fr0 f2
  have h2 := h.fr0 f2
  have hway := path_way he
  have hplen := path_len he
  obtain ⟨_, av, cv, rfl, _⟩ := id hP.sl
  refine px_run ?_
  refine px_run ?_
  refine px_run ?_
  refine gd_ff ?_
  refine gd_ff ?_
  refine px_run ?_
  refine gd_ff ?_
  refine px_run ?_
  refine pk_false ?_
  rcases List.eq_nil_or_concat l with e | ⟨l0, x, e⟩
  · subst e
    refine cnd_true ?_
    exact k w2 h2 (f2.mono fun _ h => h.elim)
  rw [List.concat_eq_append] at e
  subst e
  simp only [List.map_append, List.map_cons, List.map_nil, List.reverse_append, List.reverse_cons, List.reverse_nil, List.nil_append, List.cons_append] at hway k
  obtain ⟨⟨hlf, hck, hat, hlim⟩, hok⟩ := hway
  have hl40 : l0.length ≤ 1000 := by
    simp at hplen
    omega
  have hd0 : decide ((((l0 ++ [x]).length : Nat) : Int) = 0) = false := decide_eq_false (by simp; omega)
  simp only [hd0]
  refine cnd_false ?_
  refine lastVar hP hl40 fun b8 w3 hb8 hf3 _ => ?_
  have hN := (hP.nodes x (by simp)).fr hf3 (Quiet.no _)
  obtain ⟨a, c, a', c', hx1, hx2⟩ := hN.slices
  have hsc := hlim.cells
  have hskk := hlim.kids
  unfold senc at hb8
  rw [hx1, hx2] at hb8 hN
  have f3 := f2.trans hf3 (fun _ h => by cases h)
  have ht3 := ht2.fr0 hf3
  have h3 := h2.fr0 hf3
  have hP3 := hP.fr0 hf3
  refine px_run ?_
  refine ldB hb8 rfl ?_
  refine px_run ?_
  refine px_run ?_
  refine ldB hb8 rfl ?_
  refine px_run ?_
  refine px_run ?_
  by_cases hend : x.1.at_ = x.1.n.cells.length
  · have hd : decide ((x.1.at_ : Int) = (x.1.n.cells.length : Int)) = true := decide_eq_true (by omega)
    simp only [hd]
    iterate 10 refine gd_tf ?_
    refine pk_true ?_
    refine cnd_true ?_
    rw [List.getElem?_eq_none (by omega)] at k
    exact k w3 h3 (f3.mono fun _ h => h.elim)
  have hd : decide ((x.1.at_ : Int) = (x.1.n.cells.length : Int)) = false := decide_eq_false (by omega)
  simp only [hd]
  have hlt : x.1.at_ < x.1.n.cells.length := by omega
  rw [List.getElem?_eq_getElem hlt] at k
  simp only at k
  refine gd_ff ?_
  refine px_run ?_
  refine gd_ff ?_
  refine px_run ?_
  refine gd_ff ?_
  refine ldB hb8 rfl ?_
  refine gd_ff ?_
  refine px_run ?_
  refine gd_ff ?_
  refine ldB hb8 rfl ?_
  refine gd_ff ?_
  refine idx_s (P := P) hN.cells.sl (by omega) x.1.at_ rfl hlt fun bb o _ hc => ?_
  have hcell : ∀ q, q < 4 → w3.cell? ⟨bb, o + q, none⟩ = (cenc x.1.n.cells[x.1.at_])[q]? := fun q hq => by rw [hc q hq, cencs_get hlt hq]
  refine gd_ff ?_
  refine px_run ?_
  refine gd_ff ?_
  refine ld1 (P := P) (hcell 0 (by omega)) ?_
  refine gd_ff ?_
  refine gd_ff ?_
  refine px_run ?_
  refine pk_false ?_
  refine cnd_dec (fun hk => ?_) (fun hk => ?_)
  · rw [if_pos hk] at k
    exact k w3 h3 (f3.mono fun _ h => h.elim)
  rw [if_neg hk] at k
  refine px_run ?_
  refine px_run ?_
  refine ldB hb8 rfl ?_
  refine px_run ?_
  refine ldB hb8 rfl ?_
  refine idx_s (P := P) hN.cells.sl (by omega) x.1.at_ rfl hlt fun bb o _ hc => ?_
  refine ldCell (fun q hq => by rw [hc q hq, cencs_get hlt hq]) ?_
  refine forget_k ht3 h3 hw fun w4 h4 hf4 => ?_
  have f4 := Fr.of f3 hf4
  have q3 := Quiet.mu h3.mu
  have ht4 := TreeAt.q ht3 hf4 q3
  have hP4 := hP3.fr hf4 q3
  have hN4 := hN.fr hf4 q3
  have hb84 := hb8.fr hf4 (Bk.offM hb8 h3.mu (by decide))
  have hw4 := hw.forget x.1.n.cells[x.1.at_]
  refine px_run ?_
  refine cnd_dec (fun he => ?_) (fun he => ?_)
  · rw [if_pos he] at k
    exact k w4 h4 f4
  rw [if_neg he] at k
  generalize (p.forget x.1.n.cells[x.1.at_]).1 = p1 at *
  refine px_run ?_
  refine ldAo (n := 3) (xs := [.bool x.1.n.leaf, .slice a x.1.n.cells.length c, .slice a' x.1.n.kids.length c']) hb84 rfl rfl ?_
  refine alloc_k (P := P) (z := [.bool false, .slice none 0 0, .slice none 0 0]) fun b10 w5 hb10e hb10 hf5 => ?_
  refine stA0_k hb10 (atoms_node _ _ _ _ _ _ _) rfl rfl fun w6 hb106 hf6 => ?_
  refine dr_of ?_
  have f46 : Fr no w4 (dw w6) := (hf5.new hf6 (fun i hi => by omega)).trans (Fr.dw w6) (fun _ h => by cases h)
  have hb10d := hb106.fr0 (Fr.dw w6)
  have s5 := hf5.size
  have n10 : w4.heap.size ≤ b10 := by omega
  generalize dw w6 = wd at f46 hb10d ⊢
  have hb8d := hb84.fr0 f46
  have hNd := hN4.fr f46 (Quiet.no _)
  haveI : Fits .i64 ((x.1.at_ : Int) + 1) := fits_i64 (by omega) (by omega)
  refine held_of (fun w' => Bk w' b8 157 [iv x.1.page, iv x.1.at_, .bool x.1.n.leaf, .slice a x.1.n.cells.length c, .slice a' x.1.n.kids.length c']) hb8d ?_
  refine py_run ?_
  refine ldY hb10d rfl ?_
  refine py_run ?_
  refine ldBy (P := P) (fun w' hS => hS.cell 1) ?_
  refine py_run ?_
  refine ldBy (P := P) (fun w' hS => hS.cell 1) ?_
  refine py_run ?_
  refine cloneC_k hNd.cells.sl (by omega) fun v77 w7 hv77 hf7 hn77 => ?_
  have hb87 := hb8d.fr0 hf7
  have hb107 := hb10d.fr0 hf7
  refine hs_of hb87 ?_
  refine delC_k (by omega) hv77 hlt fun v83 w8 hv83 hf8 hn83 => ?_
  obtain ⟨a3, c3, rfl⟩ := Own.atom hv83
  have hb88 := hb87.fr hf8 (hv77.ne_bk hb87 (by decide))
  have hb108 := hb107.fr hf8 (hv77.ne_bk hb107 (by decide))
  refine hs_of hb88 ?_
  refine py_run ?_
  refine stB_k hb108 (by simp) fun w9 hb109 hf9 => ?_
  have hne : b8 ≠ b10 := fun e => by subst e; exact absurd (Bk.typ hb88 hb108) (by decide)
  refine hs_of (hb88.frb hf9 hne) ?_
  have s46 := f46.size
  have f9 : Fr no w4 w9 := ((f46.trans hf7 (fun _ h => by cases h)).new hf8 (fun i hi => by have := hn77 i hi; omega)).new hf9 (fun i hi => by omega)
  refine ldA0 hb109 rfl ?_
  have hNl : (⟨x.1.n.leaf, delAt x.1.n.cells x.1.at_, x.1.n.kids⟩ : Node).Lim 513 := ⟨by simp only [delAt_length hlt]; omega, by simp only; omega, fun z hz => hlim.strs z (delAt_mem hz)⟩
  have hlenl : (l0 ++ [x]).length = l0.length + 1 := by simp
  have hP9 := hP4.fr0 f9
  rw [hlenl] at hP9 ⊢
  refine down_k l0.length (l := l0) (x := x) (n := ⟨x.1.n.leaf, delAt x.1.n.cells x.1.at_, x.1.n.kids⟩) rfl hl40 hP9 (fun z hz => hok z.1 (List.mem_reverse.2 (List.mem_map_of_mem hz))) (ht4.fr0 f9) (h4.fr0 f9) hw4 ⟨hv83.frb hf9 hb108 (by decide), (hN4.kids.fr0 f9), hNl.small (by omega)⟩ hNl (fun e => by
    rw [hlf] at e
    cases e) fun w10 h10 hf10 => ?_
  have f10 := (f4.then f9).two hf10
  refine px_run ?_
  refine cnd_dec (fun he => ?_) (fun he => ?_)
  · have hdf : decide ((Pg.down (x.1 :: (l0.map (·.1)).reverse) p1 ⟨x.1.n.leaf, delAt x.1.n.cells x.1.at_, x.1.n.kids⟩).2 = 0) = false := decide_eq_false he
    rw [hdf] at k
    exact k w10 h10 f10
  · have he' := Decidable.of_not_not he
    have k := k w10 h10 f10
    simp only [he'] at k
    exact k
end
end Go.Proofs.YtomggfibpbaodaaGreatDoor
