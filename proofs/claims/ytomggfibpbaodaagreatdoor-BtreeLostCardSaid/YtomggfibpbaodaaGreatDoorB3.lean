/-
  The tree: Get; up and down a way.
-/
import Derived.Test.YtomggfibpbaodaaGreatDoorB2
set_option maxRecDepth 100000
namespace Go.Proofs.YtomggfibpbaodaaGreatDoor
open Go.V

theorem pathF_len {p : Pg} {key : Str} : ∀ (f : Nat) (page : Int) (out l : List Step), p.pathF key f page out = .ok l → out.length ≤ 40 → l.length ≤ 41
  | 0, _, _, _, h, _ => by cases h
  | f + 1, page, out, l, h, ho => by
    rw [pathF_succ] at h
    split at h
    · cases h; omega
    · split at h
      · cases h
      · split at h
        · cases h
        · split at h
          · cases h; simp; omega
          · split at h
            · cases h
            · exact pathF_len f _ _ l h (by simp; omega)
theorem path_len {p : Pg} {key : Str} {l : List Step} (h : p.path key = .ok l) : l.length ≤ 41 := pathF_len 42 _ [] l h (by simp)
theorem z157 : ([.int .i64 0, .int .i64 0, .bool false, .slice none 0 0, .slice none 0 0] : List Value).length = 5 := rfl
theorem sencs_get {l : List SV} {j q : Nat} (hj : j < l.length) (hq : q < 5) : (l.flatMap senc)[j * 5 + q]? = (senc l[j])[q]? := flatGet l j q (fun c _ => senc_length c) hj hq
theorem NodeO.atoms {w : World} {x : SV} (h : NodeO w x.2.1 x.2.2 x.1.n) : Atoms (senc x) := by
  obtain ⟨a, c, a', c', h1, h2⟩ := h.slices
  unfold senc
  rw [h1, h2]
  exact atoms_step _ _ _ _ _ _ _ _ _
section
variable {w w1 : World} {t b d : Nat} {p : Pg} {F : Nat → Prop} {K : Value → World → Prop}
theorem lastLd {v : Value} {l0 : List SV} {x : SV} (h : PathS w v (l0 ++ [x])) (hl : l0.length ≤ 1000) (k : K (.agg (senc x).toArray) w) :
    px P (Builtin.len_ #[150] 3 #[v]) w fun a w => px P (bin true .sub 3 a (.int .i64 1)) w fun c w => px P (Instr.indexAt 150 v c) w fun e w => px P (Instr.loadAt 157 e) w K := by
  have hlen : (l0 ++ [x]).length = l0.length + 1 := by simp
  obtain ⟨_, a, c, rfl, _⟩ := id h.sl
  refine px_run ?_
  rw [hlen]
  haveI : Fits .i64 (((l0.length + 1 : Nat) : Int) - 1) := fits_i64 (by omega) (by omega)
  refine px_run ?_
  have hs := h.sl
  rw [hlen] at hs
  refine idx_s (P := P) hs (by omega) l0.length (by omega) (by omega) fun bb o _ hc => ?_
  refine ldC (P := P) (xs := senc x) rfl (fun q hq => ?_) k
  rw [hc q hq, sencs_get (by omega) hq]
  simp
/-- The last step, in a variable of its own. -/
theorem lastVar {v : Value} {l0 : List SV} {x : SV} (h : PathS w v (l0 ++ [x])) (hl : l0.length ≤ 1000) (k : ∀ b9 w1, Bk w1 b9 157 (senc x) → Fr no w w1 → w.heap.size ≤ b9 → K (pt b9) w1) :
    px P (Builtin.len_ #[150] 3 #[v]) w fun a w => px P (bin true .sub 3 a (.int .i64 1)) w fun c w => px P (Instr.indexAt 150 v c) w fun e w => px P (Instr.loadAt 157 e) w fun y w =>
    px P (Instr.alloc 157 true (.tuple #[])) w fun v9 w => pu P (Instr.storeAt 157 v9 y) w fun w => K v9 w := by
  refine lastLd h hl ?_
  refine alloc_k (P := P) (z := [.int .i64 0, .int .i64 0, .bool false, .slice none 0 0, .slice none 0 0]) fun b9 w2 hb9e hb9 hf2 => ?_
  refine stA0_k hb9 (NodeO.atoms (h.nodes x (by simp))) rfl rfl fun w3 hb93 hf3 => ?_
  exact k b9 w3 hb93 (hf2.new hf3 (fun i hi => by omega)) (by omega)
theorem getB_k {key : Str} (ht : TreeAt w t b) (h : PgM w b d p F) (hw : p.WF) (k : ∀ w1, Fr no w w1 → K (.tuple #[sv (p.getK key).1, .bool (p.getK key).2.1, iv (p.getK key).2.2]) w1) : cl P 20 #[pt t, sv key] w K := by
  apply c20
  unfold F20
  unfold Pg.getK at k
  refine px_run ?_
  refine cnd_false ?_
  refine px_run ?_
  refine px_run ?_
  refine cnd_dec (fun h48 => ?_) (fun h48 => ?_)
  · rw [if_pos (by omega)] at k
    exact k w (Fr.refl _ _)
  rw [if_neg (by omega)] at k
  refine path_k ht h hw (fun e w1 he hne hf1 => ?_) (fun v l w1 he hP hf1 => ?_)
  · rw [he] at k
    simp only at k
    refine px_run ?_
    refine px_run ?_
    refine px_run ?_
    have hd : decide (e ≠ 0) = true := decide_eq_true hne
    simp only [hd]
    iterate 3 refine gd_tf ?_
    refine pk_true ?_
    refine cnd_true ?_
    exact k w1 hf1
  · rw [he] at k
    obtain ⟨_, av, cv, rfl, _⟩ := id hP.sl
    refine px_run ?_
    refine px_run ?_
    refine px_run ?_
    refine gd_ff ?_
    refine gd_ff ?_
    refine px_run ?_
    refine gd_ff ?_
    refine px_run ?_
    refine pk_false ?_
    refine cnd_dec (fun h0 => ?_) (fun h0 => ?_)
    · have hl : l = [] := List.eq_nil_of_length_eq_zero (by omega)
      subst hl
      exact k w1 hf1
    · obtain ⟨l0, x, rfl⟩ : ∃ l0 x, l = l0 ++ [x] := by
        rcases List.eq_nil_or_concat l with e | ⟨l0, x, e⟩
        · subst e; exact absurd rfl h0
        · exact ⟨l0, x, by rw [e, List.concat_eq_append]⟩
      have hway := path_way he
      simp only [List.map_append, List.map_cons, List.map_nil, List.reverse_append, List.reverse_cons, List.reverse_nil, List.nil_append, List.cons_append] at hway k
      obtain ⟨⟨hlf, hck, hat, hlim⟩, _⟩ := hway
      have hl40 : l0.length ≤ 1000 := by
        have := path_len he
        simp at this
        omega
      refine lastVar hP hl40 fun b9 w2 hb9 hf2 _ => ?_
      have hN := (hP.nodes x (by simp)).fr hf2 (Quiet.no _)
      obtain ⟨a, c, a', c', h1, h2⟩ := hN.slices
      have hsc := hlim.cells
      unfold senc at hb9
      rw [h1, h2] at hb9 hN
      have f2 : Fr no w w2 := hf1.trans hf2 (fun _ h => by cases h)
      have ht2 := ht.fr0 f2
      have hm2 := h.fr0 f2
      refine px_run ?_
      refine ldB hb9 rfl ?_
      refine px_run ?_
      refine px_run ?_
      refine ldB hb9 rfl ?_
      refine px_run ?_
      refine px_run ?_
      by_cases hend : x.1.at_ = x.1.n.cells.length
      · have hd : decide ((x.1.at_ : Int) = (x.1.n.cells.length : Int)) = true := decide_eq_true (by omega)
        simp only [hd]
        iterate 10 refine gd_tf ?_
        refine pk_true ?_
        refine cnd_true ?_
        rw [List.getElem?_eq_none (by omega)] at k
        exact k w2 f2
      · have hd : decide ((x.1.at_ : Int) = (x.1.n.cells.length : Int)) = false := decide_eq_false (by omega)
        simp only [hd]
        have hlt : x.1.at_ < x.1.n.cells.length := by omega
        rw [List.getElem?_eq_getElem hlt] at k
        simp only at k
        refine gd_ff ?_
        refine px_run ?_
        refine gd_ff ?_
        refine px_run ?_
        refine gd_ff ?_
        refine ldB hb9 rfl ?_
        refine gd_ff ?_
        refine px_run ?_
        refine gd_ff ?_
        refine ldB hb9 rfl ?_
        refine gd_ff ?_
        refine idx_s (P := P) hN.cells.sl (by omega) x.1.at_ rfl hlt fun bb o _ hc => ?_
        have hcell : ∀ q, q < 4 → w2.cell? ⟨bb, o + q, none⟩ = (cenc x.1.n.cells[x.1.at_])[q]? := fun q hq => by rw [hc q hq, cencs_get hlt hq]
        refine gd_ff ?_
        refine px_run ?_
        refine gd_ff ?_
        refine ld1 (P := P) (hcell 0 (by omega)) ?_
        refine gd_ff ?_
        refine gd_ff ?_
        refine px_run ?_
        refine pk_false ?_
        refine cnd_dec (fun hk => ?_) (fun hk => ?_)
        · rw [if_pos hk] at k
          exact k w2 f2
        · rw [if_neg hk] at k
          refine px_run ?_
          refine px_run ?_
          refine ldB hb9 rfl ?_
          refine px_run ?_
          refine ldB hb9 rfl ?_
          refine idx_s (P := P) hN.cells.sl (by omega) x.1.at_ rfl hlt fun bb o _ hc => ?_
          refine ldCell (fun q hq => by rw [hc q hq, cencs_get hlt hq]) ?_
          refine value_k ht2 hm2 hw (Cell.may_size (Node.check_may hck _ (List.getElem_mem hlt))) fun w3 hf3 => ?_
          refine px_run ?_
          refine px_run ?_
          refine px_run ?_
          exact k w3 (f2.trans hf3 (fun _ h => by cases h))
end
/-! ### Insert, Delete -/
theorem F84_gen (R : Value → World → Prop) (v0 v1 v2 : Value) (w : World) : F84 R v0 v1 v2 w = insertF P 153 3 155 156 R v0 v1 v2 w := rfl
theorem F215_gen (R : Value → World → Prop) (v0 v1 v2 : Value) (w : World) : F215 R v0 v1 v2 w = insertF P 48 3 261 262 R v0 v1 v2 w := rfl
theorem F89_gen (R : Value → World → Prop) (v0 v1 v2 : Value) (w : World) : F89 R v0 v1 v2 w = deleteF P 153 3 0 R v0 v1 v2 w := rfl
theorem F161_gen (R : Value → World → Prop) (v0 v1 v2 : Value) (w : World) : F161 R v0 v1 v2 w = deleteF P 48 3 0 R v0 v1 v2 w := rfl
theorem hov155 (args : Array Value) (w : World) : (callFunc 155 args).run P w = ((Extern.SlicesOverlaps.overlaps #[153, 153] #[4] args).run P w).andThen fun v w' => .ok (.value v) w' :=
  run_callFunc_extern (P := P) (f := 155) (fn := Tryz.f155) (by kernel_rfl) (by kernel_rfl) (by kernel_rfl) (by kernel_rfl) (e := Extern.SlicesOverlaps.overlaps #[153, 153] #[4]) (by kernel_rfl) args w
theorem hov261 (args : Array Value) (w : World) : (callFunc 261 args).run P w = ((Extern.SlicesOverlaps.overlaps #[48, 48] #[4] args).run P w).andThen fun v w' => .ok (.value v) w' :=
  run_callFunc_extern (P := P) (f := 261) (fn := Tryz.f261) (by kernel_rfl) (by kernel_rfl) (by kernel_rfl) (by kernel_rfl) (e := Extern.SlicesOverlaps.overlaps #[48, 48] #[4]) (by kernel_rfl) args w
section
variable {w : World} {K : Value → World → Prop}
theorem insAt_length {α : Type} {l : List α} {i : Nat} {x : α} (hi : i ≤ l.length) : (insAt l i x).length = l.length + 1 := by
  unfold insAt
  rw [List.length_append, List.length_cons, List.length_take, List.length_drop]
  omega
theorem delAt_length {α : Type} {l : List α} {i : Nat} (hi : i < l.length) : (delAt l i).length = l.length - 1 := by
  unfold delAt
  rw [List.length_append, List.length_take, List.length_drop]
  omega
theorem insC_k {v x : Value} {l : List Cell} {c : Cell} {i : Nat} (hv : Own w v 159 4 l.length (l.flatMap cenc)) (hx : Own w x 159 4 1 ([c].flatMap cenc)) (hd : ∀ b, v.ownBlock = some b → x.ownBlock ≠ some b) (hi : i ≤ l.length) (hl : l.length ≤ 100000)
    (k : ∀ v' w1, Own w1 v' 159 4 (insAt l i c).length ((insAt l i c).flatMap cenc) → Fr (fun b => v.ownBlock = some b) w w1 → (∀ b, v'.ownBlock = some b → v.ownBlock = some b ∨ w.heap.size ≤ b) → K v' w1) : cl P 84 #[v, iv i, x] w K := by
  apply c84
  rw [F84_gen]
  refine insert_k (P := P) (by' := 48) u3 hov155 hv hx hd hi (atoms_cencs _) (atoms_cencs [c]) (by omega) (by omega) fun v' w1 h1 h2 h3 => k v' w1 ?_ h2 h3
  rw [insAt_length hi]
  have e : (insAt l i c).flatMap cenc = (l.flatMap cenc).take (i * 4) ++ [c].flatMap cenc ++ (l.flatMap cenc).drop (i * 4) := by
    rw [cencs_take, cencs_drop]
    simp [insAt]
  rw [e]
  exact h1
theorem insK_k {v x : Value} {l : List Int} {c : Int} {i : Nat} (hv : Own w v 3 1 l.length (l.flatMap kenc)) (hx : Own w x 3 1 1 ([c].flatMap kenc)) (hd : ∀ b, v.ownBlock = some b → x.ownBlock ≠ some b) (hi : i ≤ l.length) (hl : l.length ≤ 100000)
    (k : ∀ v' w1, Own w1 v' 3 1 (insAt l i c).length ((insAt l i c).flatMap kenc) → Fr (fun b => v.ownBlock = some b) w w1 → (∀ b, v'.ownBlock = some b → v.ownBlock = some b ∨ w.heap.size ≤ b) → K v' w1) : cl P 215 #[v, iv i, x] w K := by
  apply c215
  rw [F215_gen]
  refine insert_k (P := P) (by' := 8) u3 hov261 hv hx hd hi (atoms_kencs _) (atoms_kencs [c]) (by omega) (by omega) fun v' w1 h1 h2 h3 => k v' w1 ?_ h2 h3
  rw [insAt_length hi]
  have e : (insAt l i c).flatMap kenc = (l.flatMap kenc).take (i * 1) ++ [c].flatMap kenc ++ (l.flatMap kenc).drop (i * 1) := by
    rw [kencs_take, kencs_drop]
    simp [insAt]
  rw [e]
  exact h1
theorem delC_k {v : Value} {l : List Cell} {i : Nat} {j : Int} (hj : j = ((i + 1 : Nat) : Int)) (hv : Own w v 159 4 l.length (l.flatMap cenc)) (hi : i < l.length)
    (k : ∀ v' w1, Own w1 v' 159 4 (delAt l i).length ((delAt l i).flatMap cenc) → Fr (fun b => v.ownBlock = some b) w w1 → (∀ b, v'.ownBlock = some b → v.ownBlock = some b) → K v' w1) : cl P 89 #[v, iv i, iv j] w K := by
  subst hj
  apply c89
  rw [F89_gen]
  refine delete_k (P := P) (by' := 48) (z := [.string ⟨#[]⟩, .string ⟨#[]⟩, .int .i64 0, .int .i64 0]) (atoms_cenc ⟨[], [], 0, 0⟩) rfl hv (by omega) hi (atoms_cencs _) fun v' w1 h1 h2 h3 => k v' w1 ?_ h2 h3
  rw [delAt_length hi]
  have e : (delAt l i).flatMap cenc = (l.flatMap cenc).take (i * 4) ++ (l.flatMap cenc).drop ((i + 1) * 4) := by
    rw [cencs_take, cencs_drop]
    simp [delAt]
  rw [e, show l.length - 1 = l.length - (i + 1 - i) by omega]
  exact h1
theorem delK_k {v : Value} {l : List Int} {i : Nat} {i' j : Int} (hi' : i' = (i : Int)) (hj : j = ((i + 1 : Nat) : Int)) (hv : Own w v 3 1 l.length (l.flatMap kenc)) (hi : i < l.length)
    (k : ∀ v' w1, Own w1 v' 3 1 (delAt l i).length ((delAt l i).flatMap kenc) → Fr (fun b => v.ownBlock = some b) w w1 → (∀ b, v'.ownBlock = some b → v.ownBlock = some b) → K v' w1) : cl P 161 #[v, iv i', iv j] w K := by
  subst hj hi'
  apply c161
  rw [F161_gen]
  refine delete_k (P := P) (by' := 8) (z := [.int .i64 0]) (fun x hx => by simp only [List.mem_singleton] at hx; subst hx; exact inferInstance) rfl hv (by omega) hi (atoms_kencs _) fun v' w1 h1 h2 h3 => k v' w1 ?_ h2 h3
  rw [delAt_length hi]
  have e : (delAt l i).flatMap kenc = (l.flatMap kenc).take (i * 1) ++ (l.flatMap kenc).drop ((i + 1) * 1) := by
    rw [kencs_take, kencs_drop]
    simp [delAt]
  rw [e, show l.length - 1 = l.length - (i + 1 - i) by omega]
  exact h1
end
/-! ### The halves of a node -/
theorem at_lim {k : Nat} {x : Node} (h : x.Lim k) (i : Nat) : (x.at i).1.Lim k ∧ (x.at i).2.2.Lim k ∧ (x.at i).2.1.length ≤ 100 := by
  have hc := h.cells
  have hk := h.kids
  have hkey : (x.cells.getD i ⟨[], [], 0, 0⟩).key.length ≤ 100 := by
    by_cases hi : i < x.cells.length
    · have e : x.cells.getD i ⟨[], [], 0, 0⟩ = x.cells[i] := by simp [List.getD, hi]
      rw [e]
      exact (h.strs _ (List.getElem_mem hi)).1
    · have e : x.cells.getD i ⟨[], [], 0, 0⟩ = ⟨[], [], 0, 0⟩ := by simp [List.getD, List.getElem?_eq_none (show x.cells.length ≤ i by omega)]
      rw [e]
      simp
  unfold Node.at
  split
  · exact ⟨⟨by simp only [List.length_take]; omega, by simp, fun c hc => h.strs c (List.mem_of_mem_take hc)⟩, ⟨by simp only [List.length_drop]; omega, by simp, fun c hc => h.strs c (List.mem_of_mem_drop hc)⟩, hkey⟩
  · exact ⟨⟨by simp only [List.length_take]; omega, by simp only [List.length_take]; omega, fun c hc => h.strs c (List.mem_of_mem_take hc)⟩, ⟨by simp only [List.length_drop]; omega, by simp only [List.length_drop]; omega, fun c hc => h.strs c (List.mem_of_mem_drop hc)⟩, hkey⟩
theorem cut_lim {k : Nat} {x : Node} (h : x.Lim k) : x.cut.1.Lim k ∧ x.cut.2.2.Lim k ∧ x.cut.2.1.length ≤ 100 := by
  unfold Node.cut
  simp only
  generalize (if x.leaf = true then 1 else 0 : Nat) = first
  by_cases h1 : x.cells.length ≤ first
  · rw [if_pos h1]
    exact ⟨h, ⟨by simp, by simp, fun c hc => by cases hc⟩, by simp⟩
  · rw [if_neg h1]
    exact at_lim h _
theorem insAt_mem {α : Type} {l : List α} {i : Nat} {x y : α} (h : y ∈ insAt l i x) : y = x ∨ y ∈ l := by
  unfold insAt at h
  rcases List.mem_append.1 h with h | h
  · exact .inr (List.mem_of_mem_take h)
  · rcases List.mem_cons.1 h with h | h
    · exact .inl h
    · exact .inr (List.mem_of_mem_drop h)
theorem delAt_mem {α : Type} {l : List α} {i : Nat} {y : α} (h : y ∈ delAt l i) : y ∈ l := by
  unfold delAt at h
  rcases List.mem_append.1 h with h | h
  · exact List.mem_of_mem_take h
  · exact List.mem_of_mem_drop h
/-! ### up -/
theorem up_cons (last : Step) (l : List Step) (p : Pg) (n : Node) : Pg.up (last :: l) p n =
    if n.sz ≤ 512 then p.writeN last.page n else
    if (p.writeN last.page n.cut.1).2 ≠ 0 then p.writeN last.page n.cut.1 else
    if ((p.writeN last.page n.cut.1).1.add n.cut.2.2).2.2 ≠ 0 then (((p.writeN last.page n.cut.1).1.add n.cut.2.2).1, ((p.writeN last.page n.cut.1).1.add n.cut.2.2).2.2) else
    match l with
    | [] =>
      if (((p.writeN last.page n.cut.1).1.add n.cut.2.2).1.add ⟨false, [sepC n.cut.2.1], [last.page, ((p.writeN last.page n.cut.1).1.add n.cut.2.2).2.1]⟩).2.2 ≠ 0 then
        ((((p.writeN last.page n.cut.1).1.add n.cut.2.2).1.add ⟨false, [sepC n.cut.2.1], [last.page, ((p.writeN last.page n.cut.1).1.add n.cut.2.2).2.1]⟩).1, (((p.writeN last.page n.cut.1).1.add n.cut.2.2).1.add ⟨false, [sepC n.cut.2.1], [last.page, ((p.writeN last.page n.cut.1).1.add n.cut.2.2).2.1]⟩).2.2)
      else (((p.writeN last.page n.cut.1).1.add n.cut.2.2).1.add ⟨false, [sepC n.cut.2.1], [last.page, ((p.writeN last.page n.cut.1).1.add n.cut.2.2).2.1]⟩).1.setRoot (((p.writeN last.page n.cut.1).1.add n.cut.2.2).1.add ⟨false, [sepC n.cut.2.1], [last.page, ((p.writeN last.page n.cut.1).1.add n.cut.2.2).2.1]⟩).2.1
    | above :: _ => Pg.up l ((p.writeN last.page n.cut.1).1.add n.cut.2.2).1 ⟨above.n.leaf, insAt above.n.cells above.at_ (sepC n.cut.2.1), insAt above.n.kids (above.at_ + 1) ((p.writeN last.page n.cut.1).1.add n.cut.2.2).2.1⟩ := by
  cases l <;> rfl
theorem Pg.WF.up : ∀ (l : List Step) (p : Pg) (n : Node), p.WF → (Pg.up l p n).1.WF
  | [], p, n, h => h
  | last :: l, p, n, h => by
    rw [up_cons]
    split
    · exact h.writeN _ _
    · split
      · exact h.writeN _ _
      · split
        · exact (h.writeN _ _).add _
        · split
          · split
            · exact ((h.writeN _ _).add _).add _
            · exact (((h.writeN _ _).add _).add _).setRoot _
          · exact Pg.WF.up _ _ _ ((h.writeN _ _).add _)
theorem PathS.init {w : World} {v v' : Value} {l : List SV} {x : SV} (h : PathS w v (l ++ [x])) (hs : Sl w v' 5 l.length (((l ++ [x]).flatMap senc).take (l.length * 5))) (hb : ∀ b, v'.ownBlock = some b → v.ownBlock = some b) : PathS w v' l := by
  refine ⟨?_, fun i hi => h.blk i (hb i hi), fun y hy => h.nodes y (List.mem_append_left _ hy)⟩
  have e : ((l ++ [x]).flatMap senc).take (l.length * 5) = l.flatMap senc := by
    rw [List.flatMap_append]
    exact List.take_left' (sencs_length l)
  rwa [e] at hs
theorem ldAo {w : World} {t tb n b o : Nat} [Agg P t n] {cs xs : List Value} {K : Value → World → Prop} (h : Bk w b tb cs) (hx : (cs.drop o).take n = xs) (hn : xs.length = n) (k : K (.agg xs.toArray) w) : px P (Instr.loadAt t (.pointer (some ⟨b, o, none⟩))) w K :=
  ldA (P := P) h (fun j hj => by
    have hj' : j < n := by omega
    rw [← hx, List.getElem?_take_of_lt hj', List.getElem?_drop]) hn k
section
variable {w w1 : World} {t b d : Nat} {p : Pg} {F : Nat → Prop} {K : Value → World → Prop}
theorem sepC_lim {k : Nat} {x : Node} (h : x.Lim k) {i j : Nat} {s : Str} {n : Int} (hi : i ≤ x.cells.length) (hj : j ≤ x.kids.length) (hs : s.length ≤ 100) : (⟨x.leaf, insAt x.cells i (sepC s), insAt x.kids j n⟩ : Node).Lim (k + 1) := by
  refine ⟨?_, ?_, fun c hc => ?_⟩
  · show (insAt x.cells i (sepC s)).length ≤ k + 1
    rw [insAt_length hi]; have := h.cells; omega
  · show (insAt x.kids j n).length ≤ k + 1 + 1
    rw [insAt_length hj]; have := h.kids; omega
  · rcases insAt_mem hc with rfl | hc
    · exact ⟨hs, by simp [sepC]⟩
    · exact h.strs c hc
theorem up_k : ∀ (m : Nat) {w : World} {p : Pg} {K : Value → World → Prop} {l : List SV} {x : SV} {v vc vk : Value} {n : Node}, l.length = m → l.length ≤ 1000 → PathS w v (l ++ [x]) → (∀ y ∈ l, StepOk y.1) → TreeAt w t b → PgM w b d p F → p.WF → NodeO w vc vk n → n.Lim 2000 →
    (∀ w1, PgM w1 b d (Pg.up (x.1 :: (l.map (·.1)).reverse) p n).1 F → Fr F w w1 → K (iv (Pg.up (x.1 :: (l.map (·.1)).reverse) p n).2) w1) → cl P 157 #[pt t, v, nv n vc vk] w K
  | m, w, p, K, l, x, v, vc, vk, n, hm, hl, hP, hok, ht, h, hw, hn, hlim, k => by
    rw [up_cons] at k
    obtain ⟨a, c, a', c', rfl, rfl⟩ := hn.slices
    obtain ⟨hc1, hc2, hc3⟩ := cut_lim hlim
    apply c157
    unfold F157
    refine boxA_k fun b5 w1 hb5e hb5 hf1 => ?_
    have hP1 := hP.fr0 hf1
    refine lastVar hP1 hl fun b7 w2 hb7 hf2 hb7n => ?_
    have f2 : Fr no w w2 := hf1.trans hf2 (fun _ h => by cases h)
    have hP2 := hP.fr0 f2
    have hlen : (l ++ [x]).length = l.length + 1 := by simp
    obtain ⟨_, av, cv, rfl, _⟩ := id hP2.sl
    refine px_run ?_
    rw [hlen]
    haveI : Fits .i64 (((l.length + 1 : Nat) : Int) - 1) := fits_i64 (by omega) (by omega)
    refine px_run ?_
    refine px_run ?_
    refine px_run ?_
    have hsl2 := hP2.sl
    rw [hlen] at hsl2
    refine slc_hm (P := P) l.length (by omega) (by omega) hsl2 (by omega) fun v31 hv31 hvb => ?_
    have hP31 : PathS w2 v31 l := by
      refine PathS.init (v := .slice av (l.length + 1) cv) ?_ hv31 hvb
      rw [← hlen]; exact hP2
    have hn2 := hn.fr f2 (Quiet.no _)
    have hb52 := hb5.fr0 hf2
    have ht2 := ht.fr0 f2
    have h2 := h.fr0 f2
    refine ldA0 hb52 rfl ?_
    refine size_k hn2.at fun w3 hf3 => ?_
    have f3 := f2.trans hf3 (fun _ h => by cases h)
    have hb53 := hb52.fr0 hf3
    have hb73 := hb7.fr0 hf3
    have hn3 := hn2.fr hf3 (Quiet.no _)
    have ht3 := ht2.fr0 hf3
    have h3 := h2.fr0 hf3
    have hP33 := hP31.fr0 hf3
    refine px_run ?_
    refine cnd_dec (fun h512 => ?_) (fun h512 => ?_)
    · rw [if_pos (by omega)] at k
      refine px_run ?_
      refine ldB hb73 rfl ?_
      refine ldA0 hb53 rfl ?_
      exact writeN_k ht3 h3 hw hn3.at fun w4 h4 hf4 => k w4 h4 (Fr.of f3 hf4)
    rw [if_neg (by omega)] at k
    refine ldA0 hb53 rfl ?_
    refine cut_k hn3.at fun vc1 vk1 vc2 vk2 w4 hA hB => ?_
    have hAo := hA.o (hc1.small (by omega))
    have hBo := hB.o (hc2.small (by omega))
    obtain ⟨a1, c1, a1', c1', rfl, rfl⟩ := hAo.slices
    obtain ⟨a2, c2, a2', c2', rfl, rfl⟩ := hBo.slices
    refine px_run ?_
    refine px_run ?_
    refine px_run ?_
    refine alloc_k (P := P) (z := [.bool false, .slice none 0 0, .slice none 0 0]) fun b8 w5 hb8e hb8 hf5 => ?_
    refine alloc_k (P := P) (z := [.bool false, .slice none 0 0, .slice none 0 0]) fun b10 w6 hb10e hb10 hf6 => ?_
    have hb86 := hb8.fr0 hf6
    have l8 := hb8.lt
    have l86 := hb86.lt
    refine stA0_k hb86 (atoms_node _ _ _ _ _ _ _) rfl rfl fun w7 hb87 hf7 => ?_
    have hb107 := hb10.frb hf7 (by omega)
    refine stA0_k hb107 (atoms_node _ _ _ _ _ _ _) rfl rfl fun w8 hb108 hf8 => ?_
    have hb88 := hb87.frb hf8 (by omega)
    have s4 := hA.fr.size
    have s5 := hf5.size
    have f46 : Fr no w4 w6 := hf5.trans hf6 (fun _ h => by cases h)
    have f48 : Fr no w4 w8 := (f46.new hf7 (fun i hi => by omega)).new hf8 (fun i hi => by omega)
    have f38 := hA.fr.trans f48 (fun _ h => by cases h)
    have f8 := f3.trans f38 (fun _ h => by cases h)
    have hb78 := hb73.fr0 f38
    have ht8 := ht3.fr0 f38
    have h8 := h3.fr0 f38
    have hP8 := hP33.fr0 f38
    have hA8 := hAo.fr f48 (Quiet.no _)
    have hB8 := hBo.fr f48 (Quiet.no _)
    refine px_run ?_
    refine ldB hb78 rfl ?_
    refine ldA0 hb88 rfl ?_
    refine writeN_k ht8 h8 hw hA8.at fun w9 h9 hf9 => ?_
    have q8 := Quiet.mu h8.mu
    have f9 : Fr F w w9 := Fr.of f8 hf9
    have hw9 := hw.writeN x.1.page n.cut.1
    refine px_run ?_
    refine cnd_dec (fun he => ?_) (fun he => ?_)
    · rw [if_pos he] at k
      exact k w9 h9 f9
    rw [if_neg he] at k
    have hb109 := hb108.fr hf9 (Bk.offM hb108 h8.mu (by decide))
    have hb79 := hb78.fr hf9 (Bk.offM hb78 h8.mu (by decide))
    have ht9 := TreeAt.q ht8 hf9 q8
    have hP9 := hP8.fr hf9 q8
    have hB9 := hB8.fr hf9 q8
    refine ldA0 hb109 rfl ?_
    refine add_k ht9 h9 hw9 hB9.at (Own.offM hB9.cells h9.mu (by decide)) (Own.offM hB9.kids h9.mu (by decide)) fun w10 h10 hf10 => ?_
    have q9 := Quiet.mu h9.mu
    have f10 := f9.two hf10
    have hw10 := hw9.add n.cut.2.2
    refine px_run ?_
    refine px_run ?_
    refine px_run ?_
    refine cnd_dec (fun he => ?_) (fun he => ?_)
    · rw [if_pos he] at k
      exact k w10 h10 f10
    rw [if_neg he] at k
    generalize hQ : ((p.writeN x.1.page n.cut.1).1.add n.cut.2.2) = Q at *
    have hb710 := hb79.fr hf10 (Bk.offM hb79 h9.mu (by decide))
    have ht10 := TreeAt.q ht9 hf10 q9
    have hP10 := hP9.fr hf10 q9
    obtain ⟨_, a31, c31, rfl, _⟩ := id hP10.sl
    refine px_run ?_
    refine px_run ?_
    rcases List.eq_nil_or_concat l with e | ⟨l0, y, e⟩
    · subst e
      refine cnd_true ?_
      simp only [List.map_nil, List.reverse_nil] at k
      refine px_of build159 ?_
      refine cell1_k fun bc w11 hbce hc11 hf11 => ?_
      refine px_run ?_
      refine ldB (hb710.fr0 hf11) rfl ?_
      refine ints2_k fun bk w12 hbke hk12 hf12 => ?_
      refine px_of build155_ck ?_
      have f1012 := hf11.trans hf12 (fun _ h => by cases h)
      have ht12 := ht10.fr0 f1012
      have h12 := h10.fr0 f1012
      have hb712 := hb710.fr0 f1012
      have hc12 := hc11.fr0 hf12
      have hroot : NodeAt w12 (.slice (some ⟨bc, 0, none⟩) 1 1) (.slice (some ⟨bk, 0, none⟩) 2 2) ⟨false, [sepC n.cut.2.1], [x.1.page, Q.2.1]⟩ := ⟨hc12.sl, hk12.sl, by simp, by simp, fun c hc => by
        simp only [List.mem_singleton] at hc
        subst hc
        exact ⟨hc3, by simp [sepC]⟩⟩
      refine add_k ht12 h12 hw10 hroot (Own.offM hc12 h12.mu (by decide)) (Own.offM hk12 h12.mu (by decide)) fun w13 h13 hf13 => ?_
      have f13 : Fr F w w13 := (f10.then f1012).two hf13
      refine px_run ?_
      refine px_run ?_
      refine px_run ?_
      refine cnd_dec (fun he => ?_) (fun he => ?_)
      · rw [if_pos he] at k
        exact k w13 h13 f13
      · rw [if_neg he] at k
        have ht13 := TreeAt.q ht12 hf13 (Quiet.mu h12.mu)
        refine nc_ptr ?_
        refine px_run ?_
        refine ldB ht13 rfl ?_
        exact setRoot_k h13 fun w14 h14 hf14 => k w14 h14 (f13.two hf14)
    · rw [List.concat_eq_append] at e
      subst e
      have hd : decide ((((l0 ++ [y]).length : Nat) : Int) = 0) = false := decide_eq_false (by simp; omega)
      simp only [hd]
      refine cnd_false ?_
      have hyl : l0.length ≤ 1000 := by simp at hl; omega
      refine lastVar hP10 hyl fun b16 w11 hb16 hf11 hb16n => ?_
      have hyN := (hP10.nodes y (by simp)).fr hf11 (Quiet.no _)
      obtain ⟨ya, yc, ya', yc', hy1, hy2⟩ := hyN.slices
      have hyok := hok y (by simp)
      have hb16' := hb16
      unfold senc at hb16'
      rw [hy1, hy2] at hb16' hyN
      refine px_run ?_
      refine ldAo (n := 3) (xs := [.bool y.1.n.leaf, .slice ya y.1.n.cells.length yc, .slice ya' y.1.n.kids.length yc']) hb16' rfl rfl ?_
      refine alloc_k (P := P) (z := [.bool false, .slice none 0 0, .slice none 0 0]) fun b17 w12 hb17e hb17 hf12 => ?_
      refine stA0_k hb17 (atoms_node _ _ _ _ _ _ _) rfl rfl fun w13 hb173 hf13 => ?_
      have s10 := hf11.size
      have f1113 : Fr no w11 w13 := hf12.new hf13 (fun i hi => by omega)
      have f13 := hf11.trans f1113 (fun _ h => by cases h)
      have hb1613 := hb16'.fr0 f1113
      have hy13 := hyN.fr f1113 (Quiet.no _)
      have hat := hyok.at_
      have hylim := hyok.lim.cells
      have hykk := hyok.kids
      have hrst : ∃ R : Node, R = ⟨y.1.n.leaf, insAt y.1.n.cells y.1.at_ (sepC n.cut.2.1), insAt y.1.n.kids (y.1.at_ + 1) Q.2.1⟩ := ⟨_, rfl⟩
      refine cut_of (fun _ w' => ∃ vc, Own w' vc 159 4 (insAt y.1.n.cells y.1.at_ (sepC n.cut.2.1)).length ((insAt y.1.n.cells y.1.at_ (sepC n.cut.2.1)).flatMap cenc) ∧ Fr no w10 w' ∧ Bk w' b16 157 [iv y.1.page, iv y.1.at_, .bool y.1.n.leaf, .slice ya y.1.n.cells.length yc, .slice ya' y.1.n.kids.length yc'] ∧
          Bk w' b17 155 [.bool y.1.n.leaf, vc, .slice ya' y.1.n.kids.length yc']) ?_ ?_
      · refine dr_of ?_
        have fd := Fr.dw w13
        have f14 := f13.trans fd (fun _ h => by cases h)
        have hb1614 := hb1613.fr0 fd
        have hb1714 := hb173.fr0 fd
        have hy14 := hy13.fr fd (Quiet.no _)
        generalize dw w13 = w14 at fd f14 hb1614 hb1714 hy14
        have hne : b16 ≠ b17 := fun e => by subst e; exact absurd (Bk.typ hb1614 hb1714) (by decide)
        refine held_of (fun w' => Bk w' b16 157 [iv y.1.page, iv y.1.at_, .bool y.1.n.leaf, .slice ya y.1.n.cells.length yc, .slice ya' y.1.n.kids.length yc']) hb1614 ?_
        refine py_run ?_
        refine ldY hb1714 rfl ?_
        refine py_run ?_
        refine ldBy (P := P) (fun w' hS => hS.cell 1) ?_
        refine py_of (fun w' _ => build159) ?_
        have fin : ∀ (v98 v103 : Value) (w15 : World), Own w15 v98 159 4 y.1.n.cells.length (y.1.n.cells.flatMap cenc) → Own w15 v103 159 4 1 ([sepC n.cut.2.1].flatMap cenc) → (∀ b, v98.ownBlock = some b → v103.ownBlock ≠ some b) → (∀ b, v98.ownBlock = some b → w14.heap.size ≤ b) → Fr no w14 w15 →
            cl P 84 #[v98, iv y.1.at_, v103] w15 fun v104 w => hs (fun w' => Bk w' b16 157 [iv y.1.page, iv y.1.at_, .bool y.1.n.leaf, .slice ya y.1.n.cells.length yc, .slice ya' y.1.n.kids.length yc']) w <|
            py P (fun _ => True) (Instr.fieldAt 155 (pt b17) 1) fun v105 =>
            pu P (Instr.storeAt 153 v105 v104) w fun w => hs (fun w' => Bk w' b16 157 [iv y.1.page, iv y.1.at_, .bool y.1.n.leaf, .slice ya y.1.n.cells.length yc, .slice ya' y.1.n.kids.length yc']) w <|
            ∃ vc, Own w vc 159 4 (insAt y.1.n.cells y.1.at_ (sepC n.cut.2.1)).length ((insAt y.1.n.cells y.1.at_ (sepC n.cut.2.1)).flatMap cenc) ∧ Fr no w10 w ∧ Bk w b16 157 [iv y.1.page, iv y.1.at_, .bool y.1.n.leaf, .slice ya y.1.n.cells.length yc, .slice ya' y.1.n.kids.length yc'] ∧
              Bk w b17 155 [.bool y.1.n.leaf, vc, .slice ya' y.1.n.kids.length yc'] := by
          intro v98 v103 w15 h98 h103 hd hn98 hf15
          refine insC_k h98 h103 hd (by omega) (by omega) fun v104 w16 h104 hf16 hn16 => ?_
          obtain ⟨a104, c104, rfl⟩ := Own.atom h104
          have f16 : Fr no w14 w16 := hf15.new hf16 (fun i hi => hn98 i hi)
          have hb1616 := hb1614.fr0 f16
          have hb1716 := hb1714.fr0 f16
          refine hs_of hb1616 ?_
          refine py_run ?_
          refine stB_k hb1716 (by simp) fun w17 hb1717 hf17 => ?_
          have hb1617 := hb1616.frb hf17 hne
          refine hs_of hb1617 ?_
          exact ⟨_, h104.frb hf17 hb1716 (by decide), (f14.trans f16 (fun _ h => by cases h)).new hf17 (fun i hi => by omega), hb1617, hb1717⟩
        refine ⟨?_, ?_⟩
        · refine cloneC_k hy14.cells.sl (by omega) fun v98 w15 h98 hf15 hn98 => ?_
          refine hs_of (hb1614.fr0 hf15) ?_
          refine cell1_g fun bb w16 hbbe h103 hf16 => ?_
          have f16 := hf15.trans hf16 (fun _ h => by cases h)
          refine hs_of (hb1614.fr0 f16) ?_
          exact fin _ _ w16 (h98.fr0 hf16) h103 (fun i hi e => by
            have e2 : some bb = some i := e
            injection e2 with e2
            have := Own.lt h98 hi
            omega) hn98 f16
        · refine cell1_g fun bb w15 hbbe h103 hf15 => ?_
          refine hs_of (hb1614.fr0 hf15) ?_
          refine cloneC_k (hy14.cells.sl.fr0 hf15) (by omega) fun v98 w16 h98 hf16 hn98 => ?_
          have f16 := hf15.trans hf16 (fun _ h => by cases h)
          refine hs_of (hb1614.fr0 f16) ?_
          have s15 := hf15.size
          exact fin _ _ w16 h98 (h103.fr0 hf16) (fun i hi e => by
            have e2 : some bb = some i := e
            injection e2 with e2
            have := hn98 i hi
            have h1 : bb < w15.heap.size := Own.lt h103 rfl
            omega) (fun i hi => by have := hn98 i hi; omega) f16
      rintro _ w18 ⟨vcn, hcn, f18, hb1618, hb1718⟩
      obtain ⟨acn, ccn, rfl⟩ := Own.atom hcn
      have hy18 := (hP10.nodes y (by simp)).fr f18 (Quiet.no _)
      rw [hy1, hy2] at hy18
      refine cut_of (fun _ w' => ∃ vk, Own w' vk 3 1 (insAt y.1.n.kids (y.1.at_ + 1) Q.2.1).length ((insAt y.1.n.kids (y.1.at_ + 1) Q.2.1).flatMap kenc) ∧ Own w' (.slice acn (insAt y.1.n.cells y.1.at_ (sepC n.cut.2.1)).length ccn) 159 4 (insAt y.1.n.cells y.1.at_ (sepC n.cut.2.1)).length ((insAt y.1.n.cells y.1.at_ (sepC n.cut.2.1)).flatMap cenc) ∧ Fr no w10 w' ∧
          Bk w' b17 155 [.bool y.1.n.leaf, .slice acn (insAt y.1.n.cells y.1.at_ (sepC n.cut.2.1)).length ccn, vk]) ?_ ?_
      · refine dr_of ?_
        have fd := Fr.dw w18
        have f19 := f18.trans fd (fun _ h => by cases h)
        have hb1619 := hb1618.fr0 fd
        have hb1719 := hb1718.fr0 fd
        have hy19 := hy18.fr fd (Quiet.no _)
        have hcn19 := hcn.fr0 fd
        have s18 := f18.size
        generalize dw w18 = w19 at fd f19 hb1619 hb1719 hy19 hcn19
        have hne : b16 ≠ b17 := fun e => by subst e; exact absurd (Bk.typ hb1619 hb1719) (by decide)
        refine held_of (fun w' => Bk w' b16 157 [iv y.1.page, iv y.1.at_, .bool y.1.n.leaf, .slice ya y.1.n.cells.length yc, .slice ya' y.1.n.kids.length yc']) hb1619 ?_
        refine py_run ?_
        refine ldY hb1719 rfl ?_
        refine py_run ?_
        refine ldBy (P := P) (fun w' hS => hS.cell 1) ?_
        haveI : Fits .i64 ((y.1.at_ : Int) + 1) := fits_i64 (by omega) (by omega)
        refine py_run ?_
        have fin : ∀ (v98 v103 : Value) (w15 : World), Own w15 v98 3 1 y.1.n.kids.length (y.1.n.kids.flatMap kenc) → Own w15 v103 3 1 1 ([Q.2.1].flatMap kenc) → (∀ b, v98.ownBlock = some b → v103.ownBlock ≠ some b) → (∀ b, v98.ownBlock = some b → w19.heap.size ≤ b) → Fr no w19 w15 →
            cl P 215 #[v98, iv (((y.1.at_ + 1 : Nat) : Int)), v103] w15 fun v104 w => hs (fun w' => Bk w' b16 157 [iv y.1.page, iv y.1.at_, .bool y.1.n.leaf, .slice ya y.1.n.cells.length yc, .slice ya' y.1.n.kids.length yc']) w <|
            py P (fun _ => True) (Instr.fieldAt 155 (pt b17) 2) fun v105 =>
            pu P (Instr.storeAt 48 v105 v104) w fun w => hs (fun w' => Bk w' b16 157 [iv y.1.page, iv y.1.at_, .bool y.1.n.leaf, .slice ya y.1.n.cells.length yc, .slice ya' y.1.n.kids.length yc']) w <|
            ∃ vk, Own w vk 3 1 (insAt y.1.n.kids (y.1.at_ + 1) Q.2.1).length ((insAt y.1.n.kids (y.1.at_ + 1) Q.2.1).flatMap kenc) ∧ Own w (.slice acn (insAt y.1.n.cells y.1.at_ (sepC n.cut.2.1)).length ccn) 159 4 (insAt y.1.n.cells y.1.at_ (sepC n.cut.2.1)).length ((insAt y.1.n.cells y.1.at_ (sepC n.cut.2.1)).flatMap cenc) ∧ Fr no w10 w ∧
              Bk w b17 155 [.bool y.1.n.leaf, .slice acn (insAt y.1.n.cells y.1.at_ (sepC n.cut.2.1)).length ccn, vk] := by
          intro v98 v103 w15 h98 h103 hd hn98 hf15
          refine insK_k h98 h103 hd (by omega) (by omega) fun v104 w16 h104 hf16 hn16 => ?_
          obtain ⟨a104, c104, rfl⟩ := Own.atom h104
          have f16 : Fr no w19 w16 := hf15.new hf16 (fun i hi => hn98 i hi)
          have hb1616 := hb1619.fr0 f16
          have hb1716 := hb1719.fr0 f16
          refine hs_of hb1616 ?_
          refine py_run ?_
          refine stB_k hb1716 (by simp) fun w17 hb1717 hf17 => ?_
          have hb1617 := hb1616.frb hf17 hne
          refine hs_of hb1617 ?_
          exact ⟨_, h104.frb hf17 hb1716 (by decide), (hcn19.fr0 f16).frb hf17 hb1716 (by decide), (f19.trans f16 (fun _ h => by cases h)).new hf17 (fun i hi => by omega), hb1717⟩
        have ecast : ((y.1.at_ : Int) + 1) = ((y.1.at_ + 1 : Nat) : Int) := by omega
        rw [ecast]
        refine ⟨?_, ?_⟩
        · refine cloneK_k hy19.kids.sl (by omega) fun v98 w15 h98 hf15 hn98 => ?_
          refine hs_of (hb1619.fr0 hf15) ?_
          refine ints1_g fun bb w16 hbbe h103 hf16 => ?_
          have f16 := hf15.trans hf16 (fun _ h => by cases h)
          refine hs_of (hb1619.fr0 f16) ?_
          exact fin _ _ w16 (h98.fr0 hf16) h103 (fun i hi e => by
            have e2 : some bb = some i := e
            injection e2 with e2
            have := Own.lt h98 hi
            omega) hn98 f16
        · refine ints1_g fun bb w15 hbbe h103 hf15 => ?_
          refine hs_of (hb1619.fr0 hf15) ?_
          refine cloneK_k (hy19.kids.sl.fr0 hf15) (by omega) fun v98 w16 h98 hf16 hn98 => ?_
          have f16 := hf15.trans hf16 (fun _ h => by cases h)
          refine hs_of (hb1619.fr0 f16) ?_
          have s15 := hf15.size
          exact fin _ _ w16 h98 (h103.fr0 hf16) (fun i hi e => by
            have e2 : some bb = some i := e
            injection e2 with e2
            have := hn98 i hi
            have h1 : bb < w15.heap.size := Own.lt h103 rfl
            omega) (fun i hi => by have := hn98 i hi; omega) f16
      rintro _ w20 ⟨vkn, hkn, hcn20, f20, hb1720⟩
      refine ldA0 hb1720 rfl ?_
      have hlimR : (⟨y.1.n.leaf, insAt y.1.n.cells y.1.at_ (sepC n.cut.2.1), insAt y.1.n.kids (y.1.at_ + 1) Q.2.1⟩ : Node).Lim 513 := sepC_lim hyok.lim hat (by omega) hc3
      have hP20 := hP10.fr0 f20
      refine up_k l0.length (x := y) (l := l0) (n := ⟨y.1.n.leaf, insAt y.1.n.cells y.1.at_ (sepC n.cut.2.1), insAt y.1.n.kids (y.1.at_ + 1) Q.2.1⟩) rfl hyl hP20 (fun z hz => hok z (by simp [hz])) (ht10.fr0 f20) (h10.fr0 f20) hw10 ⟨hcn20, hkn, hlimR.small (by omega)⟩ (hlimR.mono (by omega)) fun w21 h21 hf21 => ?_
      simp only [List.map_append, List.map_cons, List.map_nil, List.reverse_append, List.reverse_cons, List.reverse_nil, List.nil_append, List.cons_append] at k
      exact k w21 h21 ((f10.then f20).two hf21)
termination_by m => m
decreasing_by all_goals (subst hm; simp)
end
end Go.Proofs.YtomggfibpbaodaaGreatDoor
