/-
  The tree: down; Put, Del, Range.
-/
import Derived.Test.YtomggfibpbaodaaGreatDoorB3
set_option maxRecDepth 100000
namespace Go.Proofs.YtomggfibpbaodaaGreatDoor
open Go.V

theorem down_one (last : Step) (p : Pg) (n : Node) : Pg.down [last] p n =
    if n.cells = [] then (if (p.setRoot (if n.leaf then 0 else n.kids.getD 0 0)).2 ≠ 0 then p.setRoot (if n.leaf then 0 else n.kids.getD 0 0) else (p.setRoot (if n.leaf then 0 else n.kids.getD 0 0)).1.drop last.page)
    else Pg.up [last] p n := rfl
/-- What is done with two nodes that are one. -/
def Pg.downJ (p : Pg) (above : Step) (l : List Step) (left : Nat) (whole : Node) (pl pr : Int) : Pg × Int :=
  if whole.sz ≤ 512 then
    (if (p.writeN pl whole).2 ≠ 0 then p.writeN pl whole else
    if ((p.writeN pl whole).1.drop pr).2 ≠ 0 then (p.writeN pl whole).1.drop pr else Pg.down (above :: l) ((p.writeN pl whole).1.drop pr).1 ⟨above.n.leaf, delAt above.n.cells left, delAt above.n.kids (left + 1)⟩)
  else
    (if (p.writeN pl whole.cut.1).2 ≠ 0 then p.writeN pl whole.cut.1 else
    if ((p.writeN pl whole.cut.1).1.writeN pr whole.cut.2.2).2 ≠ 0 then (p.writeN pl whole.cut.1).1.writeN pr whole.cut.2.2 else
    Pg.down (above :: l) ((p.writeN pl whole.cut.1).1.writeN pr whole.cut.2.2).1 ⟨above.n.leaf, above.n.cells.set left (sepC whole.cut.2.1), above.n.kids⟩)
theorem down_two (last above : Step) (l : List Step) (p : Pg) (n : Node) : Pg.down (last :: above :: l) p n =
    if 128 ≤ n.sz then Pg.up (last :: above :: l) p n else
    match p.readN (above.n.kids.getD (if above.at_ + 1 = above.n.kids.length then above.at_ - 1 else above.at_ + 1) 0) with
    | .error e => (p, e)
    | .ok other =>
      Pg.downJ p above l (if (if above.at_ + 1 = above.n.kids.length then above.at_ - 1 else above.at_ + 1) < above.at_ then (if above.at_ + 1 = above.n.kids.length then above.at_ - 1 else above.at_ + 1) else above.at_)
        (Node.join (if (if above.at_ + 1 = above.n.kids.length then above.at_ - 1 else above.at_ + 1) < above.at_ then other else n)
          (above.n.cells.getD (if (if above.at_ + 1 = above.n.kids.length then above.at_ - 1 else above.at_ + 1) < above.at_ then (if above.at_ + 1 = above.n.kids.length then above.at_ - 1 else above.at_ + 1) else above.at_) (sepC [])).key
          (if (if above.at_ + 1 = above.n.kids.length then above.at_ - 1 else above.at_ + 1) < above.at_ then n else other))
        (above.n.kids.getD (if (if above.at_ + 1 = above.n.kids.length then above.at_ - 1 else above.at_ + 1) < above.at_ then (if above.at_ + 1 = above.n.kids.length then above.at_ - 1 else above.at_ + 1) else above.at_) 0)
        (above.n.kids.getD ((if (if above.at_ + 1 = above.n.kids.length then above.at_ - 1 else above.at_ + 1) < above.at_ then (if above.at_ + 1 = above.n.kids.length then above.at_ - 1 else above.at_ + 1) else above.at_) + 1) 0) := rfl
/-- A node in a variable of its own. -/
abbrev NV (w : World) (b : Nat) (x : Node) (vc vk : Value) : Prop := Bk w b 155 [.bool x.leaf, vc, vk]
section
variable {w w1 : World} {t b d : Nat} {p : Pg} {F : Nat → Prop} {K : Value → World → Prop}
theorem rootDrop_k {r n : Int} {b7 : Nat} {cs : List Value} (ht : TreeAt w t b) (h : PgM w b d p F) (hw : p.WF) (hb7 : Bk w b7 157 (iv n :: cs))
    (k : ∀ w1, PgM w1 b d (if (p.setRoot r).2 ≠ 0 then p.setRoot r else (p.setRoot r).1.drop n).1 F → Fr F w w1 → K (iv (if (p.setRoot r).2 ≠ 0 then p.setRoot r else (p.setRoot r).1.drop n).2) w1) :
    cl P 32 #[pt b, iv r] w fun v49 w =>
      px P (bin true .neq 32 v49 (.int .i64 0)) w fun v51 w =>
      cnd v51 (K v49 w) <|
      dr w fun w =>
      ny (pt t) fun v54 =>
      py P (fun _ => True) (Instr.fieldAt 165 v54 0) fun v55 =>
      py P (Ext w) (Instr.loadAt 26 v55) fun v56 =>
      py P (fun _ => True) (Instr.fieldAt 157 (pt b7) 0) fun v57 =>
      py P (Ext w) (Instr.loadAt 3 v57) fun v58 =>
      cl P 151 #[v56, v58] w fun v59 w => K v59 w := by
  refine setRoot_k h fun w3 h3 hf3 => ?_
  refine px_run ?_
  refine cnd_dec (fun he => ?_) (fun he => ?_)
  · rw [if_pos he] at k
    exact k w3 h3 hf3
  · rw [if_neg he] at k
    have q := Quiet.mu h.mu
    have ht3 := TreeAt.q ht hf3 q
    have hb73 := hb7.fr hf3 (Bk.offM hb7 h.mu (by decide))
    refine dr_of ?_
    have fd := Fr.dw w3
    refine ny_ptr ?_
    refine py_run ?_
    refine ldY (ht3.fr0 fd) rfl ?_
    refine py_run ?_
    refine ldY (hb73.fr0 fd) rfl ?_
    exact drop_k (h3.fr0 fd) (hw.setRoot r) fun w4 h4 hf4 => k w4 h4 ((hf3.then fd).two hf4)
theorem ldAS {t tb : TypeId} {n b : Nat} [Agg P t n] {cs : List Value} {C : World → Prop} {K : Value → Prop} (h : ∀ w', C w' → Bk w' b tb cs) (hn : cs.length = n) (k : K (.agg cs.toArray)) : py P C (Instr.loadAt t (pt b)) K :=
  py_of (fun w' hC => lda_run (P := P) (o := 0) (h w' hC) (fun j _ => by rw [Nat.zero_add]) hn) k
theorem cencs_set {l : List Cell} {i : Nat} {c : Cell} (hi : i < l.length) : spl (l.flatMap cenc) (i * 4) (cenc c) = (l.set i c).flatMap cenc := by
  unfold spl
  rw [cenc_length, cencs_take, show i * 4 + 4 = (i + 1) * 4 by omega, cencs_drop, List.set_eq_take_append_cons_drop, if_pos hi]
  simp
/-- The kid at a place of a slice of kids. -/
theorem kidY {a : Option Addr} {n c : Nat} {l : List Int} {i : Nat} {j : Int} {K : Value → Prop} (hv : Own w (.slice a n c) 3 1 l.length (l.flatMap kenc)) (hj : j = (i : Int)) (hi : i < l.length) (k : K (iv l[i])) :
    py P (fun _ => True) (Instr.indexAt 48 (.slice a n c) (iv j)) fun v167 => py P (Ext w) (Instr.loadAt 3 v167) K := by
  subst hj
  obtain ⟨bb, oo, cap, e, hle, hcell⟩ := hv.sl.addr (by omega) (by omega)
  simp only [Value.slice.injEq] at e
  obtain ⟨rfl, rfl, rfl⟩ := e
  refine idxY (P := P) i rfl hi ?_
  have := hcell i (by omega)
  rw [kencs_get hi] at this
  rw [Nat.mul_one]
  exact ldBy (P := P) (fun w' f => cell_ext this f) k
/-- Two nodes beside each other have become one: it is written, or cut anew. -/
theorem downJ_k {w0 w : World} {p : Pg} {l0 : List SV} {x y : SV} {av : Option Addr} {cv left : Nat} {vcM vkM vcW vkW : Value} {W : Node} {b18 b19 : Nat} {pl pr : Int}
    (ih : ∀ {w : World} {p : Pg} {K : Value → World → Prop} {v vc vk : Value} {n : Node}, PathS w v (l0 ++ [y]) → TreeAt w t b → PgM w b d p F → p.WF → NodeO w vc vk n → n.Lim 513 → (n.leaf = false → n.kids.length = n.cells.length + 1) →
      (∀ w1, PgM w1 b d (Pg.down (y.1 :: (l0.map (·.1)).reverse) p n).1 F → Fr F w w1 → K (iv (Pg.down (y.1 :: (l0.map (·.1)).reverse) p n).2) w1) → cl P 85 #[pt t, v, nv n vc vk] w K)
    (f0 : Fr no w0 w) (hmu : ∀ i, F i → Mut w0 i) (hl : l0.length ≤ 1000) (hP : PathS w0 (.slice av (l0.length + 1 + 1) cv) (l0 ++ [y] ++ [x])) (hy : StepOk y.1) (ht0 : TreeAt w0 t b) (h : PgM w b d p F) (hw : p.WF)
    (hM : Bk w b18 155 [.bool y.1.n.leaf, vcM, vkM]) (hcM : Own w vcM 159 4 y.1.n.cells.length (y.1.n.cells.flatMap cenc)) (hkM : Own w vkM 3 1 y.1.n.kids.length (y.1.n.kids.flatMap kenc))
    (h18 : w0.heap.size ≤ b18) (hcn : ∀ b, vcM.ownBlock = some b → w0.heap.size ≤ b) (hkn : ∀ b, vkM.ownBlock = some b → w0.heap.size ≤ b)
    (hW : NV w b19 W vcW vkW) (hWo : NodeO w vcW vkW W) (hWl : W.Lim 2000) (hleft : left < y.1.n.cells.length) (hpl : pl = y.1.n.kids.getD left 0) (hpr : pr = y.1.n.kids.getD (left + 1) 0)
    (k : ∀ w1, PgM w1 b d (Pg.downJ p y.1 (l0.map (·.1)).reverse left W pl pr).1 F → Fr F w0 w1 → K (iv (Pg.downJ p y.1 (l0.map (·.1)).reverse left W pl pr).2) w1) :
    px P (Instr.loadAt 155 (pt b19)) w fun v160 w =>
    cl P 158 #[v160] w fun v161 w =>
    px P (bin true .leq 3 v161 (.int .i64 512)) w fun v162 w =>
    cnd v162 (
      dr w fun w =>
      py P (fun _ => True) (Instr.fieldAt 155 (pt b18) 2) fun v164 =>
      py P (Ext w) (Instr.loadAt 48 v164) fun v165 =>
      py P (fun _ => True) (Instr.indexAt 48 v165 (iv left)) fun v167 =>
      py P (Ext w) (Instr.loadAt 3 v167) fun v168 =>
      py P (Ext w) (Instr.loadAt 155 (pt b19)) fun v169 =>
      cl P 154 #[(pt t), v168, v169] w fun v170 w =>
      px P (bin true .neq 32 v170 (.int .i64 0)) w fun v172 w =>
      cnd v172 (
        K v170 w) <|
      dr w fun w =>
      ny (pt t) fun v175 =>
      py P (fun _ => True) (Instr.fieldAt 165 v175 0) fun v176 =>
      py P (Ext w) (Instr.loadAt 26 v176) fun v177 =>
      py P (fun _ => True) (Instr.fieldAt 155 (pt b18) 2) fun v178 =>
      py P (Ext w) (Instr.loadAt 48 v178) fun v179 =>
      py P (fun _ => True) (bin true .add 3 (iv left) (.int .i64 1)) fun v181 =>
      py P (fun _ => True) (Instr.indexAt 48 v179 v181) fun v182 =>
      py P (Ext w) (Instr.loadAt 3 v182) fun v183 =>
      cl P 151 #[v177, v183] w fun v184 w =>
      px P (bin true .neq 32 v184 (.int .i64 0)) w fun v186 w =>
      cnd v186 (
        K v184 w) <|
      cut (fun J6 =>
        dr w fun w =>
        py P (fun _ => True) (Instr.fieldAt 155 (pt b18) 1) fun v188 =>
        py P (Ext w) (Instr.loadAt 153 v188) fun v189 =>
        py P (fun _ => True) (bin true .add 3 (iv left) (.int .i64 1)) fun v192 =>
        py P (fun _ => True) (Instr.fieldAt 155 (pt b18) 2) fun v194 =>
        py P (fun _ => True) (bin true .add 3 (iv left) (.int .i64 1)) fun v197 =>
        py P (fun _ => True) (bin true .add 3 (iv left) (.int .i64 2)) fun v199 =>
        (
          cl P 89 #[v189, (iv left), v192] w fun v193 w =>
          py P (Ext w) (Instr.loadAt 48 v194) fun v195 =>
          py P (fun _ => True) (Instr.fieldAt 155 (pt b18) 1) fun v201 =>
          cl P 161 #[v195, v197, v199] w fun v200 w =>
          pu P (Instr.storeAt 153 v201 v193) w fun w =>
          py P (fun _ => True) (Instr.fieldAt 155 (pt b18) 2) fun v202 =>
          pu P (Instr.storeAt 48 v202 v200) w fun w =>
          J6 [] w) ∧
        (
          pg P (Instr.loadAt 48 v194) w fun v195_1 w =>
          cl P 89 #[v189, (iv left), v192] w fun v193_1 w =>
          py P (fun _ => True) (Instr.fieldAt 155 (pt b18) 1) fun v201_1 =>
          cl P 161 #[v195_1, v197, v199] w fun v200_1 w =>
          pu P (Instr.storeAt 153 v201_1 v193_1) w fun w =>
          py P (fun _ => True) (Instr.fieldAt 155 (pt b18) 2) fun v202_1 =>
          pu P (Instr.storeAt 48 v202_1 v200_1) w fun w =>
          J6 [] w)) fun _ w =>
      dr w fun w =>
      py P (fun _ => True) (Builtin.len_ #[150] 3 #[(.slice av (l0.length + 1 + 1) cv)]) fun v206 =>
      py P (fun _ => True) (bin true .sub 3 v206 (.int .i64 1)) fun v207 =>
      py P (fun _ => True) (Instr.sliceAt 150 (.slice av (l0.length + 1 + 1) cv) none (some v207) none) fun v208 =>
      py P (Ext w) (Instr.loadAt 155 (pt b18)) fun v209 =>
      cl P 85 #[(pt t), v208, v209] w fun v210 w =>
      K v210 w) <|
    px P (Instr.loadAt 155 (pt b19)) w fun v212 w =>
    cl P 162 #[v212] w fun v213 w =>
    px P (Instr.extract v213 0) w fun v214 w =>
    px P (Instr.extract v213 1) w fun v215 w =>
    px P (Instr.extract v213 2) w fun v216 w =>
    px P (Instr.alloc 155 true (.tuple #[])) w fun v22 w =>
    px P (Instr.alloc 155 true (.tuple #[])) w fun v24 w =>
    pu P (Instr.storeAt 155 v22 v214) w fun w =>
    pu P (Instr.storeAt 155 v24 v216) w fun w =>
    dr w fun w =>
    py P (fun _ => True) (Instr.fieldAt 155 (pt b18) 2) fun v218 =>
    py P (Ext w) (Instr.loadAt 48 v218) fun v219 =>
    py P (fun _ => True) (Instr.indexAt 48 v219 (iv left)) fun v221 =>
    py P (Ext w) (Instr.loadAt 3 v221) fun v222 =>
    py P (Ext w) (Instr.loadAt 155 v22) fun v223 =>
    cl P 154 #[(pt t), v222, v223] w fun v224 w =>
    px P (bin true .neq 32 v224 (.int .i64 0)) w fun v226 w =>
    cnd v226 (
      K v224 w) <|
    dr w fun w =>
    py P (fun _ => True) (Instr.fieldAt 155 (pt b18) 2) fun v229 =>
    py P (Ext w) (Instr.loadAt 48 v229) fun v230 =>
    py P (fun _ => True) (bin true .add 3 (iv left) (.int .i64 1)) fun v232 =>
    py P (fun _ => True) (Instr.indexAt 48 v230 v232) fun v233 =>
    py P (Ext w) (Instr.loadAt 3 v233) fun v234 =>
    py P (Ext w) (Instr.loadAt 155 v24) fun v235 =>
    cl P 154 #[(pt t), v234, v235] w fun v236 w =>
    px P (bin true .neq 32 v236 (.int .i64 0)) w fun v238 w =>
    cnd v238 (
      K v236 w) <|
    px P (Instr.fieldAt 155 (pt b18) 1) w fun v240 w =>
    px P (Instr.loadAt 153 v240) w fun v241 w =>
    px P (Instr.build 159 #[(0, v215)]) w fun v244 w =>
    px P (Instr.indexAt 153 v241 (iv left)) w fun v245 w =>
    pu P (Instr.storeAt 159 v245 v244) w fun w =>
    dr w fun w =>
    py P (fun _ => True) (Builtin.len_ #[150] 3 #[(.slice av (l0.length + 1 + 1) cv)]) fun v249 =>
    py P (fun _ => True) (bin true .sub 3 v249 (.int .i64 1)) fun v250 =>
    py P (fun _ => True) (Instr.sliceAt 150 (.slice av (l0.length + 1 + 1) cv) none (some v250) none) fun v251 =>
    py P (Ext w) (Instr.loadAt 155 (pt b18)) fun v252 =>
    cl P 85 #[(pt t), v251, v252] w fun v253 w =>
    K v253 w := by
  have hkids := hy.kids
  have hylim := hy.lim.cells
  obtain ⟨ac, cc, rfl⟩ := Own.atom hcM
  obtain ⟨ak, ck, rfl⟩ := Own.atom hkM
  haveI : Fits .i64 ((left : Int) + 1) := fits_i64 (by omega) (by omega)
  haveI : Fits .i64 ((left : Int) + 2) := fits_i64 (by omega) (by omega)
  haveI : Fits .i64 (((l0.length + 1 + 1 : Nat) : Int) - 1) := fits_i64 (by omega) (by omega)
  have hle : left < y.1.n.kids.length := by omega
  have hle1 : left + 1 < y.1.n.kids.length := by omega
  have egl : y.1.n.kids[left] = pl := by rw [hpl]; simp [List.getD, hle]
  have egr : y.1.n.kids[left + 1] = pr := by rw [hpr]; simp [List.getD, hle1]
  -- the rest of the way, with the node above as it has become
  have hQ := Quiet.mu hmu
  have last : ∀ (w2 : World) (q : Pg) (vc' vk' : Value) (z : Node), Fr F w0 w2 → PgM w2 b d q F → q.WF → NV w2 b18 z vc' vk' → NodeO w2 vc' vk' z → z.Lim 513 →
      (z.leaf = false → z.kids.length = z.cells.length + 1) → (∀ w1, PgM w1 b d (Pg.down (y.1 :: (l0.map (·.1)).reverse) q z).1 F → Fr F w0 w1 → K (iv (Pg.down (y.1 :: (l0.map (·.1)).reverse) q z).2) w1) →
      dr w2 fun w =>
      py P (fun _ => True) (Builtin.len_ #[150] 3 #[(.slice av (l0.length + 1 + 1) cv)]) fun v206 =>
      py P (fun _ => True) (bin true .sub 3 v206 (.int .i64 1)) fun v207 =>
      py P (fun _ => True) (Instr.sliceAt 150 (.slice av (l0.length + 1 + 1) cv) none (some v207) none) fun v208 =>
      py P (Ext w) (Instr.loadAt 155 (pt b18)) fun v209 =>
      cl P 85 #[(pt t), v208, v209] w fun v210 w =>
      K v210 w := by
    intro w2 q vc' vk' z f2 h2 hw2 hz hzo hzl hzk k2
    have hP2 := hP.fr f2 hQ
    have ht2 := TreeAt.q ht0 f2 hQ
    refine dr_of ?_
    have fd := Fr.dw w2
    refine py_run ?_
    refine py_run ?_
    have hsl := (hP2.fr0 fd).sl
    have hlen : (l0 ++ [y] ++ [x]).length = l0.length + 1 + 1 := by simp
    rw [hlen] at hsl
    refine slcY_h (P := P) (l0.length + 1) (by omega) hsl (by omega) fun v31 hv31 hvb => ?_
    refine ldAY0 (hz.fr0 fd) rfl ?_
    have hlen1 : (l0 ++ [y]).length = l0.length + 1 := by simp
    refine ih (PathS.init (v := .slice av (l0.length + 1 + 1) cv) (hP2.fr0 fd) (by rw [hlen1]; exact hv31) hvb) (ht2.fr0 fd) (h2.fr0 fd) hw2 (hzo.fr fd (Quiet.no _)) hzl hzk fun w3 h3 f3 => k2 w3 h3 ((f2.then fd).two f3)
  refine ldA0 hW rfl ?_
  refine size_k hWo.at fun w1 hf1 => ?_
  have f1 := f0.trans hf1 (fun _ h => by cases h)
  refine px_run ?_
  refine cnd_dec (fun h512 => ?_) (fun h512 => ?_)
  · unfold Pg.downJ at k
    rw [if_pos (by omega)] at k
    refine dr_of ?_
    have fd := hf1.trans (Fr.dw w1) (fun _ h => by cases h)
    have fd0 := f0.trans fd (fun _ h => by cases h)
    generalize dw w1 = wd at fd fd0 ⊢
    refine py_run ?_
    refine ldY (hM.fr0 fd) rfl ?_
    refine kidY (hkM.fr0 fd) rfl hle ?_
    rw [egl]
    refine ldAY0 (hW.fr0 fd) rfl ?_
    have htd := ht0.fr0 fd0
    have hd := h.fr0 fd
    have hWd := hWo.fr fd (Quiet.no _)
    have hMd := hM.fr0 fd
    have hcd := hcM.fr0 fd
    have hkd := hkM.fr0 fd
    refine writeN_k htd hd hw hWd.at fun w2 h2 hf2 => ?_
    have f2 := Fr.of fd0 hf2
    have hM2 := hMd.fr hf2 (Bk.offM hMd hd.mu (by decide))
    have hc2 := hcd.fr hf2 (Own.offM hcd hd.mu (by decide))
    have hk2 := hkd.fr hf2 (Own.offM hkd hd.mu (by decide))
    have hw2 := hw.writeN pl W
    refine px_run ?_
    refine cnd_dec (fun he => ?_) (fun he => ?_)
    · rw [if_pos he] at k
      exact k w2 h2 f2
    rw [if_neg he] at k
    generalize (p.writeN pl W).1 = p2 at *
    refine dr_of ?_
    have fe := Fr.dw w2
    have f2e := f2.then fe
    have h2e := h2.fr0 fe
    have hM2e := hM2.fr0 fe
    have hc2e := hc2.fr0 fe
    have hk2e := hk2.fr0 fe
    generalize dw w2 = we at fe f2e h2e hM2e hc2e hk2e ⊢
    refine ny_ptr ?_
    refine py_run ?_
    refine ldY (TreeAt.q ht0 f2e hQ) rfl ?_
    refine py_run ?_
    refine ldY hM2e rfl ?_
    refine py_run ?_
    refine kidY hk2e (show (left : Int) + 1 = ((left + 1 : Nat) : Int) by omega) hle1 ?_
    rw [egr]
    refine drop_k h2e hw2 fun w3 h3 hf3 => ?_
    have f3 := f2e.two hf3
    have hM3 := hM2e.fr hf3 (Bk.offM hM2e h2e.mu (by decide))
    have hc3 := hc2e.fr hf3 (Own.offM hc2e h2e.mu (by decide))
    have hk3 := hk2e.fr hf3 (Own.offM hk2e h2e.mu (by decide))
    have hw3 := hw2.drop pr
    refine px_run ?_
    refine cnd_dec (fun he => ?_) (fun he => ?_)
    · rw [if_pos he] at k
      exact k w3 h3 f3
    rw [if_neg he] at k
    generalize (p2.drop pr).1 = p3 at *
    refine cut_of (fun _ w' => ∃ vc' vk', NV w' b18 ⟨y.1.n.leaf, delAt y.1.n.cells left, delAt y.1.n.kids (left + 1)⟩ vc' vk' ∧ Own w' vc' 159 4 (delAt y.1.n.cells left).length ((delAt y.1.n.cells left).flatMap cenc) ∧ Own w' vk' 3 1 (delAt y.1.n.kids (left + 1)).length ((delAt y.1.n.kids (left + 1)).flatMap kenc) ∧
      Fr F w0 w' ∧ PgM w' b d p3 F) ?_ ?_
    · refine dr_of ?_
      have fg := Fr.dw w3
      have f3g := f3.then fg
      have h3g := h3.fr0 fg
      have hM3g := hM3.fr0 fg
      have hc3g := hc3.fr0 fg
      have hk3g := hk3.fr0 fg
      generalize dw w3 = wg at fg f3g h3g hM3g hc3g hk3g ⊢
      refine py_run ?_
      refine ldY hM3g rfl ?_
      refine py_run ?_
      refine py_run ?_
      refine py_run ?_
      refine py_run ?_
      -- behind the first of the two
      have mid : ∀ (v' : Value) (w5 : World), Own w5 v' 159 4 (delAt y.1.n.cells left).length ((delAt y.1.n.cells left).flatMap cenc) → Fr F w0 w5 → PgM w5 b d p3 F → Bk w5 b18 155 [.bool y.1.n.leaf, .slice ac y.1.n.cells.length cc, .slice ak y.1.n.kids.length ck] →
          Own w5 (.slice ak y.1.n.kids.length ck) 3 1 y.1.n.kids.length (y.1.n.kids.flatMap kenc) →
          cl P 161 #[.slice ak y.1.n.kids.length ck, iv ((left : Int) + 1), iv ((left : Int) + 2)] w5 fun v200 w =>
          pu P (Instr.storeAt 153 (.pointer (some ⟨b18, 1, none⟩)) v') w fun w =>
          py P (fun _ => True) (Instr.fieldAt 155 (pt b18) 2) fun v202 =>
          pu P (Instr.storeAt 48 v202 v200) w fun w =>
          ∃ vc' vk', NV w b18 ⟨y.1.n.leaf, delAt y.1.n.cells left, delAt y.1.n.kids (left + 1)⟩ vc' vk' ∧ Own w vc' 159 4 (delAt y.1.n.cells left).length ((delAt y.1.n.cells left).flatMap cenc) ∧ Own w vk' 3 1 (delAt y.1.n.kids (left + 1)).length ((delAt y.1.n.kids (left + 1)).flatMap kenc) ∧
            Fr F w0 w ∧ PgM w b d p3 F := by
        intro v' w5 hv' f5 h5 hM5 hk5
        obtain ⟨a5, c5, rfl⟩ := Own.atom hv'
        refine delK_k (i := left + 1) (by omega) (by omega) hk5 hle1 fun v6 w6 hv6 hf6 _ => ?_
        obtain ⟨a6, c6, rfl⟩ := Own.atom hv6
        have f6 := f5.trans hf6 (fun i hi => .inr (hkn i hi))
        have hM6 := hM5.fr hf6 (hk5.ne_bk hM5 (by decide))
        have hv5 := hv'.fr hf6 (hv'.ne_own hk5 (by decide))
        have h6 := h5.fr hf6 (fun i hF hg => Own.offM hk5 h5.mu (by decide) i hg hF)
        refine stB_k hM6 (by simp) fun w7 hM7 hf7 => ?_
        have h7 := h6.fr hf7 (fun i hF e => Bk.offM hM6 h6.mu (by decide) (e ▸ hF))
        have f7 := f6.trans hf7 (fun i hi => .inr (by omega))
        refine py_run ?_
        refine stB_k hM7 (by simp) fun w8 hM8 hf8 => ?_
        have h8 := h7.fr hf8 (fun i hF e => Bk.offM hM7 h7.mu (by decide) (e ▸ hF))
        exact ⟨_, _, hM8, (hv5.frb hf7 hM6 (by decide)).frb hf8 hM7 (by decide), (hv6.frb hf7 hM6 (by decide)).frb hf8 hM7 (by decide), f7.trans hf8 (fun i hi => .inr (by omega)), h8⟩
      refine ⟨?_, ?_⟩
      · refine delC_k (by omega) hc3g hleft fun v5 w5 hv5 hf5 _ => ?_
        have hM5 := hM3g.fr hf5 (hc3g.ne_bk hM3g (by decide))
        refine ldY hM5 rfl ?_
        refine py_run ?_
        exact mid v5 w5 hv5 (f3g.trans hf5 (fun i hi => .inr (hcn i hi))) (h3g.fr hf5 (fun i hF hg => Own.offM hc3g h3g.mu (by decide) i hg hF)) hM5 (hk3g.fr hf5 (hk3g.ne_own hc3g (by decide)))
      · refine pgld ((hM3g.cell 2).trans rfl) ?_
        refine delC_k (by omega) hc3g hleft fun v5 w5 hv5 hf5 _ => ?_
        have hM5 := hM3g.fr hf5 (hc3g.ne_bk hM3g (by decide))
        refine py_run ?_
        exact mid v5 w5 hv5 (f3g.trans hf5 (fun i hi => .inr (hcn i hi))) (h3g.fr hf5 (fun i hF hg => Own.offM hc3g h3g.mu (by decide) i hg hF)) hM5 (hk3g.fr hf5 (hk3g.ne_own hc3g (by decide)))
    · rintro _ w4 ⟨vc', vk', z1, z2, z3, f4, h4⟩
      have hlz : (⟨y.1.n.leaf, delAt y.1.n.cells left, delAt y.1.n.kids (left + 1)⟩ : Node).Lim 513 := by
        refine ⟨?_, ?_, fun c hc => hy.lim.strs c (delAt_mem hc)⟩
        · simp only [delAt_length hleft]; omega
        · simp only [delAt_length hle1]; omega
      exact last w4 p3 vc' vk' ⟨y.1.n.leaf, delAt y.1.n.cells left, delAt y.1.n.kids (left + 1)⟩ f4 h4 hw3 z1 ⟨z2, z3, hlz.small (by omega)⟩ hlz (fun _ => by simp only [delAt_length hleft, delAt_length hle1]; omega) k
  · unfold Pg.downJ at k
    rw [if_neg (by omega)] at k
    obtain ⟨hl1, hl2, hl3⟩ := cut_lim hWl
    refine ldA0 (hW.fr0 hf1) rfl ?_
    refine cut_k (hWo.fr hf1 (Quiet.no _)).at fun vc1 vk1 vc2 vk2 w2 hA hB => ?_
    have hAo := hA.o (hl1.small (by omega))
    have hBo := hB.o (hl2.small (by omega))
    obtain ⟨a1, c1, a1', c1', rfl, rfl⟩ := hAo.slices
    obtain ⟨a2, c2, a2', c2', rfl, rfl⟩ := hBo.slices
    refine px_run ?_
    refine px_run ?_
    refine px_run ?_
    refine alloc_k (P := P) (z := [.bool false, .slice none 0 0, .slice none 0 0]) fun b22 w3 hb22e hb22 hf3 => ?_
    refine alloc_k (P := P) (z := [.bool false, .slice none 0 0, .slice none 0 0]) fun b24 w4 hb24e hb24 hf4 => ?_
    have hb224 := hb22.fr0 hf4
    have l22 := hb22.lt
    have l224 := hb224.lt
    refine stA0_k hb224 (atoms_node _ _ _ _ _ _ _) rfl rfl fun w5 hb225 hf5 => ?_
    have hb245 := hb24.frb hf5 (by omega)
    refine stA0_k hb245 (atoms_node _ _ _ _ _ _ _) rfl rfl fun w6 hb246 hf6 => ?_
    have hb226 := hb225.frb hf6 (by omega)
    have s3 := hf3.size
    have f24 : Fr no w2 w4 := hf3.trans hf4 (fun _ h => by cases h)
    have f26 : Fr no w2 w6 := (f24.new hf5 (fun i hi => by omega)).new hf6 (fun i hi => by omega)
    have f02 : Fr no w w2 := hf1.trans hA.fr (fun _ h => by cases h)
    refine dr_of ?_
    have f2d := f26.trans (Fr.dw w6) (fun _ h => by cases h)
    have fd := f02.trans f2d (fun _ h => by cases h)
    have fd0 := f0.trans fd (fun _ h => by cases h)
    have hb22d := hb226.fr0 (Fr.dw w6)
    have hb24d := hb246.fr0 (Fr.dw w6)
    generalize dw w6 = wd at f2d fd fd0 hb22d hb24d ⊢
    have hAd := hAo.fr f2d (Quiet.no _)
    have hBd := hBo.fr f2d (Quiet.no _)
    have hd := h.fr0 fd
    have hMd := hM.fr0 fd
    have hcd := hcM.fr0 fd
    have hkd := hkM.fr0 fd
    refine py_run ?_
    refine ldY hMd rfl ?_
    refine kidY hkd rfl hle ?_
    rw [egl]
    refine ldAY0 hb22d rfl ?_
    refine writeN_k (ht0.fr0 fd0) hd hw hAd.at fun w7 h7 hf7 => ?_
    have f7 := Fr.of fd0 hf7
    have hM7 := hMd.fr hf7 (Bk.offM hMd hd.mu (by decide))
    have hc7 := hcd.fr hf7 (Own.offM hcd hd.mu (by decide))
    have hk7 := hkd.fr hf7 (Own.offM hkd hd.mu (by decide))
    have hb247 := hb24d.fr hf7 (Bk.offM hb24d hd.mu (by decide))
    have hB7 := hBd.fr hf7 (Quiet.mu hd.mu)
    have hw7 := hw.writeN pl W.cut.1
    refine px_run ?_
    refine cnd_dec (fun he => ?_) (fun he => ?_)
    · rw [if_pos he] at k
      exact k w7 h7 f7
    rw [if_neg he] at k
    generalize (p.writeN pl W.cut.1).1 = p2 at *
    refine dr_of ?_
    have fe := Fr.dw w7
    have f7e := f7.then fe
    have h7e := h7.fr0 fe
    have hM7e := hM7.fr0 fe
    have hc7e := hc7.fr0 fe
    have hk7e := hk7.fr0 fe
    have hb247e := hb247.fr0 fe
    have hB7e := hB7.fr fe (Quiet.no _)
    generalize dw w7 = we at fe f7e h7e hM7e hc7e hk7e hb247e hB7e ⊢
    refine py_run ?_
    refine ldY hM7e rfl ?_
    refine py_run ?_
    refine kidY hk7e (show (left : Int) + 1 = ((left + 1 : Nat) : Int) by omega) hle1 ?_
    rw [egr]
    refine ldAY0 hb247e rfl ?_
    refine writeN_k (TreeAt.q ht0 f7e hQ) h7e hw7 hB7e.at fun w8 h8 hf8 => ?_
    have f8 := f7e.two hf8
    have hM8 := hM7e.fr hf8 (Bk.offM hM7e h7e.mu (by decide))
    have hc8 := hc7e.fr hf8 (Own.offM hc7e h7e.mu (by decide))
    have hk8 := hk7e.fr hf8 (Own.offM hk7e h7e.mu (by decide))
    have hw8 := hw7.writeN pr W.cut.2.2
    refine px_run ?_
    refine cnd_dec (fun he => ?_) (fun he => ?_)
    · rw [if_pos he] at k
      exact k w8 h8 f8
    rw [if_neg he] at k
    generalize (p2.writeN pr W.cut.2.2).1 = p3 at *
    refine px_run ?_
    refine ldB hM8 rfl ?_
    refine px_of build159 ?_
    obtain ⟨g, cap, cs, e, hbg, _, _, _, _⟩ := hc8.bk (by omega)
    simp only [Value.slice.injEq, true_and] at e
    obtain ⟨rfl, rfl⟩ := e
    refine idx_k (P := P) left rfl hleft ?_
    rw [Nat.zero_add]
    refine own_stA_k (P := P) (t := 159) (ys := cenc (sepC W.cut.2.1)) hc8 hleft (atoms_cenc _) rfl fun w9 hc9 hf9 => ?_
    rw [cencs_set hleft] at hc9
    have hgn : w0.heap.size ≤ g := hcn g rfl
    have f9 := f8.trans hf9 (fun i hi => .inr (by omega))
    have hM9 := hM8.frb hf9 (fun e => by subst e; exact absurd (Bk.typ hM8 hbg) (by decide))
    have hk9 := hk8.frb hf9 hbg (by decide)
    have h9 := h8.fr hf9 (fun i hF e => Bk.offM hbg h8.mu (by decide) (e ▸ hF))
    have hlz : (⟨y.1.n.leaf, y.1.n.cells.set left (sepC W.cut.2.1), y.1.n.kids⟩ : Node).Lim 513 := by
      refine ⟨by simp only [List.length_set]; omega, by simp only; omega, fun c hc => ?_⟩
      rcases List.mem_or_eq_of_mem_set hc with hc | rfl
      · exact hy.lim.strs c hc
      · exact ⟨hl3, by simp [sepC]⟩
    refine last w9 p3 (.slice (some ⟨g, 0, none⟩) y.1.n.cells.length cc) (.slice ak y.1.n.kids.length ck) ⟨y.1.n.leaf, y.1.n.cells.set left (sepC W.cut.2.1), y.1.n.kids⟩ f9 h9 hw8 hM9 ⟨?_, hk9, hlz.small (by omega)⟩ hlz (fun _ => by simp only [List.length_set]; exact hkids) k
    simp only [List.length_set]
    exact hc9
theorem down_k : ∀ (m : Nat) {w : World} {p : Pg} {K : Value → World → Prop} {l : List SV} {x : SV} {v vc vk : Value} {n : Node}, l.length = m → l.length ≤ 1000 → PathS w v (l ++ [x]) → (∀ y ∈ l, StepOk y.1) → TreeAt w t b → PgM w b d p F → p.WF → NodeO w vc vk n → n.Lim 513 →
    (n.leaf = false → n.kids.length = n.cells.length + 1) →
    (∀ w1, PgM w1 b d (Pg.down (x.1 :: (l.map (·.1)).reverse) p n).1 F → Fr F w w1 → K (iv (Pg.down (x.1 :: (l.map (·.1)).reverse) p n).2) w1) → cl P 85 #[pt t, v, nv n vc vk] w K
  | m, w, p, K, l, x, v, vc, vk, n, hm, hl, hP, hok, ht, h, hw, hn, hlim, hkn, k => by
    obtain ⟨a, c, a', c', rfl, rfl⟩ := hn.slices
    apply c85
    unfold F85
    refine boxA_k fun b5 w1 hb5e hb5 hf1 => ?_
    have hP1 := hP.fr0 hf1
    refine lastVar hP1 hl fun b7 w2 hb7 hf2 hb7n => ?_
    have f2 : Fr no w w2 := hf1.trans hf2 (fun _ h => by cases h)
    have hP2 := hP.fr0 f2
    have hlen : (l ++ [x]).length = l.length + 1 := by simp
    obtain ⟨_, av, cv, rfl, _⟩ := id hP2.sl
    refine px_run ?_
    rw [hlen]
    refine px_run ?_
    have hn2 := hn.fr f2 (Quiet.no _)
    have hb52 := hb5.fr0 hf2
    have ht2 := ht.fr0 f2
    have h2 := h.fr0 f2
    have hxN := hP2.nodes x (by simp)
    obtain ⟨xa, xc, xa', xc', hx1, hx2⟩ := hxN.slices
    unfold senc at hb7
    rw [hx1, hx2] at hb7
    rcases List.eq_nil_or_concat l with e | ⟨l0, y, e⟩
    · subst e
      simp only [List.map_nil, List.reverse_nil] at k
      rw [down_one] at k
      refine cnd_true ?_
      have hup : n.cells ≠ [] → px P (Instr.loadAt 155 (pt b5)) w2 fun v91 w => cl P 157 #[pt t, .slice av (([] : List SV).length + 1) cv, v91] w fun v92 w => K v92 w := fun hne => by
        rw [if_neg hne] at k
        refine ldA0 hb52 rfl ?_
        exact up_k 0 (l := []) (x := x) rfl (by simp) hP2 hok ht2 h2 hw hn2 (hlim.mono (by omega)) fun w3 h3 hf3 => k w3 h3 (Fr.of f2 hf3)
      have hroot : ∀ r w', Fr no w2 w' → r = (if n.leaf = true then 0 else n.kids.getD 0 0) → n.cells = [] → _ := fun r w' f' hr hce => rootDrop_k (w := w') (r := r) (K := K) (ht2.fr0 f') (h2.fr0 f') hw (hb7.fr0 f') (fun w3 h3 hf3 => by
        rw [if_pos hce, ← hr] at k
        exact k w3 h3 (Fr.of (f2.trans f' (fun _ h => by cases h)) hf3))
      have hcl : decide ((n.cells.length : Int) = 0) = decide (n.cells = []) := by
        apply decide_eq_decide.2
        cases n.cells <;> simp; omega
      refine px_run ?_
      refine ldB hb52 rfl ?_
      cases hlf : n.leaf with
      | true =>
        refine gd_tt ?_
        refine px_run ?_
        refine gd_tt ?_
        refine ldB hb52 rfl ?_
        refine gd_tt ?_
        refine px_run ?_
        refine gd_tt ?_
        refine px_run ?_
        refine pk_true ?_
        rw [hcl]
        refine cnd_dec (fun hce => ?_) (fun hce => ?_)
        · refine nc_ptr ?_
          refine px_run ?_
          refine ldB ht2 rfl ?_
          exact hroot 0 w2 (Fr.refl _ _) (by rw [hlf]; rfl) hce
        · refine px_run ?_
          refine ldB hb52 rfl ?_
          rw [hlf]
          refine px_run ?_
          iterate 4 refine gd_ft ?_
          refine pk_false ?_
          refine cnd_false ?_
          exact hup hce
      | false =>
        iterate 4 refine gd_ft ?_
        refine pk_false ?_
        refine cnd_false ?_
        refine px_run ?_
        refine ldB hb52 rfl ?_
        rw [hlf]
        refine px_run ?_
        refine gd_tt ?_
        refine px_run ?_
        refine gd_tt ?_
        refine ldB hb52 rfl ?_
        refine gd_tt ?_
        refine px_run ?_
        refine gd_tt ?_
        refine px_run ?_
        refine pk_true ?_
        rw [hcl]
        refine cnd_dec (fun hce => ?_) (fun hce => ?_)
        · have hkl := hkn hlf
          rw [hce] at hkl
          have h0 : 0 < n.kids.length := by rw [hkl]; exact Nat.succ_pos _
          refine dr_of ?_
          have fd := Fr.dw w2
          refine ny_ptr ?_
          refine py_run ?_
          refine ldY (ht2.fr0 fd) rfl ?_
          refine py_run ?_
          refine ldY (hb52.fr0 fd) rfl ?_
          have hnd := hn2.fr fd (Quiet.no _)
          obtain ⟨bb, oo, cap, hv, hle, hcell⟩ := hnd.kids.sl.addr h0 (by omega)
          simp only [Value.slice.injEq, true_and] at hv
          obtain ⟨rfl, rfl⟩ := hv
          refine idxY (P := P) 0 rfl h0 ?_
          have hc0 := hcell 0 (by omega)
          rw [kencs_get h0] at hc0
          rw [Nat.zero_mul]
          refine ldBy (P := P) (fun w' f => cell_ext hc0 f) ?_
          exact hroot _ _ fd (by rw [hlf]; simp [List.getD, h0]) hce
        · exact hup hce
    · rw [List.concat_eq_append] at e
      subst e
      simp only [List.map_append, List.map_cons, List.map_nil, List.reverse_append, List.reverse_cons, List.reverse_nil, List.nil_append, List.cons_append] at k
      rw [down_two] at k
      have hlen2 : (l0 ++ [y]).length = l0.length + 1 := by simp
      have hd : decide ((((l0 ++ [y]).length + 1 : Nat) : Int) = 1) = false := decide_eq_false (by rw [hlen2]; omega)
      simp only [hd]
      refine cnd_false ?_
      refine ldA0 hb52 rfl ?_
      refine size_k hn2.at fun w3 hf3 => ?_
      have f3 := f2.trans hf3 (fun _ h => by cases h)
      have hb53 := hb52.fr0 hf3
      have ht3 := ht2.fr0 hf3
      have h3 := h2.fr0 hf3
      have hn3 := hn2.fr hf3 (Quiet.no _)
      have hP3 := hP2.fr0 hf3
      refine px_run ?_
      refine cnd_dec (fun hbig => ?_) (fun hbig => ?_)
      · rw [if_pos (by omega)] at k
        refine ldA0 hb53 rfl ?_
        have hP3' := hP3
        rw [hlen] at hP3'
        refine up_k (l0 ++ [y]).length (l := l0 ++ [y]) (x := x) rfl hl hP3' hok ht3 h3 hw hn3 (hlim.mono (by omega)) fun w4 h4 hf4 => ?_
        simp only [List.map_append, List.map_cons, List.map_nil, List.reverse_append, List.reverse_cons, List.reverse_nil, List.nil_append, List.cons_append] at h4 ⊢
        exact k w4 h4 (Fr.of f3 hf4)
      rw [if_neg (by omega)] at k
      have hyok := hok y (by simp)
      have hykids := hyok.kids
      have hyat := hyok.at_
      have hylim := hyok.lim.cells
      have hyc : 0 < y.1.n.cells.length := List.length_pos_iff.2 hyok.cells
      refine px_run ?_
      haveI : Fits .i64 (((l0 ++ [y]).length + 1 : Nat) - (2 : Int)) := fits_i64 (by omega) (by omega)
      refine px_run ?_
      have hsl3 := hP3.sl
      rw [hlen] at hsl3
      refine idx_s (P := P) hsl3 (by omega) l0.length (by omega) (by omega) fun bb o _ hc => ?_
      refine ldC (P := P) (xs := senc y) rfl (fun q hq => ?_) ?_
      · rw [hc q hq, sencs_get (by simp) hq]
        simp
      refine alloc_k (P := P) (z := [.int .i64 0, .int .i64 0, .bool false, .slice none 0 0, .slice none 0 0]) fun b10 w4 hb10e hb10 hf4 => ?_
      have hyN4 := (hP3.nodes y (by simp)).fr hf4 (Quiet.no _)
      refine stA0_k hb10 (NodeO.atoms hyN4) rfl rfl fun w5 hb105 hf5 => ?_
      have s4 := hf4.size
      have f35 : Fr no w3 w5 := hf4.new hf5 (fun i hi => by omega)
      have f5 := f3.trans f35 (fun _ h => by cases h)
      have hb55 := hb53.fr0 f35
      have ht5 := ht.fr0 f5
      have h5 := h.fr0 f5
      have hyN5 := (hP3.nodes y (by simp)).fr f35 (Quiet.no _)
      obtain ⟨ya, yc, ya', yc', hy1, hy2⟩ := hyN5.slices
      unfold senc at hb105
      rw [hy1, hy2] at hb105 hyN5
      refine px_run ?_
      refine ldB hb105 rfl ?_
      haveI : Fits .i64 ((y.1.at_ : Int) + 1) := fits_i64 (by omega) (by omega)
      haveI : Fits .i64 ((y.1.at_ : Int) - 1) := fits_i64 (by omega) (by omega)
      refine px_run ?_
      refine px_run ?_
      refine px_run ?_
      refine ldB hb105 rfl ?_
      refine px_run ?_
      refine px_run ?_
      have hbes : ∃ B : Nat, B = (if y.1.at_ + 1 = y.1.n.kids.length then y.1.at_ - 1 else y.1.at_ + 1) := ⟨_, rfl⟩
      obtain ⟨B, hB⟩ := hbes
      rw [← hB] at k
      have hBlt : B < y.1.n.kids.length := by rw [hB]; split <;> omega
      refine cut_of (fun vs w' => vs = [iv B] ∧ w' = w5) ?_ ?_
      · refine cnd_dec (fun he => ?_) (fun he => ?_)
        · refine px_run ?_
          rw [if_pos (by omega)] at hB
          exact ⟨by rw [show (y.1.at_ : Int) - 1 = (B : Int) by omega], rfl⟩
        · rw [if_neg (by omega)] at hB
          exact ⟨by rw [show (y.1.at_ : Int) + 1 = (B : Int) by omega], rfl⟩
      rintro _ _ ⟨rfl, rfl⟩
      simp only [g0_cons]
      refine px_run ?_
      refine px_run ?_
      refine ldB hb105 rfl ?_
      have hgb : y.1.n.kids.getD B 0 = y.1.n.kids[B] := by simp [List.getD, hBlt]
      rw [hgb] at k
      refine idx_s (P := P) hyN5.kids.sl (by omega) B rfl hBlt fun bb2 o2 _ hc2 => ?_
      have hk0 := hc2 0 (by omega)
      rw [Nat.mul_one, Nat.add_zero, Nat.add_zero, kencs_get hBlt] at hk0
      refine ld1 (P := P) hk0 ?_
      refine readN_k ht5 h5 hw (fun e l' a1 m1 c1 a1' m1' c1' w6 he hne hf6 => ?_) (fun X vcX vkX w6 he hX hXs => ?_)
      · rw [he] at k
        refine px_run ?_
        refine px_run ?_
        refine alloc_k (P := P) (z := [.bool false, .slice none 0 0, .slice none 0 0]) fun b13 w7 hb13e hb13 hf7 => ?_
        refine stA0_k hb13 (atoms_node _ _ _ _ _ _ _) rfl rfl fun w8 hb138 hf8 => ?_
        refine px_run ?_
        have s6 := hf7.size
        have f8 := (f5.trans hf6 (fun _ h => by cases h)).trans (hf7.new hf8 (fun i hi => by omega)) (fun _ h => by cases h)
        have hdn : decide (e ≠ 0) = true := decide_eq_true hne
        simp only [hdn]
        refine cnd_true ?_
        exact k w8 (h.fr0 f8) (f8.mono fun _ h => h.elim)
      rw [he] at k
      simp only at k
      obtain ⟨hXlim, hXck, hXc⟩ := readN_ok he
      have hXo := hX.o hXs
      obtain ⟨xa1, xc1, xa1', xc1', rfl, rfl⟩ := hXo.slices
      have f6 := f5.trans hX.fr (fun _ h => by cases h)
      have hb56 := hb55.fr0 hX.fr
      have hb106 := hb105.fr0 hX.fr
      refine px_run ?_
      refine px_run ?_
      refine alloc_k (P := P) (z := [.bool false, .slice none 0 0, .slice none 0 0]) fun b13 w7 hb13e hb13 hf7 => ?_
      refine stA0_k hb13 (atoms_node _ _ _ _ _ _ _) rfl rfl fun wA hb13A hf8 => ?_
      have s6 := hf7.size
      have f6A : Fr no w6 wA := hf7.new hf8 (fun i hi => by omega)
      have fA := f6.trans f6A (fun _ h => by cases h)
      have hb5A := hb56.fr0 f6A
      have hb10A := hb106.fr0 f6A
      have hXA := hXo.fr f6A (Quiet.no _)
      have hnA := hn.fr fA (Quiet.no _)
      have hyA := hyN5.fr (hX.fr.trans f6A (fun _ h => by cases h)) (Quiet.no _)
      refine px_run ?_
      refine cnd_false ?_
      refine cut_of (fun vs w' => ∃ b15 b16, vs = [pt b15, pt b16, iv y.1.at_] ∧ Bk w' b15 155 [.bool n.leaf, .slice a n.cells.length c, .slice a' n.kids.length c'] ∧ Bk w' b16 155 [.bool X.leaf, .slice xa1 X.cells.length xc1, .slice xa1' X.kids.length xc1'] ∧ b15 ≠ b16 ∧
        wA.heap.size ≤ b15 ∧ wA.heap.size ≤ b16 ∧ Fr no wA w') ?_ ?_
      · refine dr_of ?_
        have fd := Fr.dw wA
        have hb5d := hb5A.fr0 fd
        have hb13d := hb13A.fr0 fd
        have sd := fd.size
        generalize dw wA = wd at fd hb5d hb13d sd ⊢
        have l13 := hb13d.lt
        refine held_of (fun w' => Bk w' b13 155 [.bool X.leaf, .slice xa1 X.cells.length xc1, .slice xa1' X.kids.length xc1']) hb13d ?_
        refine ldAY0 hb5d rfl ?_
        refine ldAS (fun w' h => h) rfl ?_
        refine ⟨?_, ?_⟩
        · refine alloc_g (z := [.bool false, .slice none 0 0, .slice none 0 0]) fun b15 w9 hb15e hb15 hf9 => ?_
          refine hs_of (hb13d.fr0 hf9) ?_
          refine alloc_g (z := [.bool false, .slice none 0 0, .slice none 0 0]) fun b16 w10 hb16e hb16 hf10 => ?_
          have l15 := hb15.lt
          have f10 := hf9.trans hf10 (fun _ h => by cases h)
          refine hs_of (hb13d.fr0 f10) ?_
          refine stA0_k (hb15.fr0 hf10) (atoms_node _ _ _ _ _ _ _) rfl rfl fun w11 hb1511 hf11 => ?_
          have f11 := f10.new hf11 (fun i hi => by omega)
          refine hs_of (hb13d.fr0 f11) ?_
          refine stA0_k (hb16.frb hf11 (by omega)) (atoms_node _ _ _ _ _ _ _) rfl rfl fun w12 hb1612 hf12 => ?_
          have f12 := f11.new hf12 (fun i hi => by omega)
          refine hs_of (hb13d.fr0 f12) ?_
          exact ⟨b15, b16, rfl, hb1511.frb hf12 (by omega), hb1612, by omega, by omega, by omega, fd.trans f12 (fun _ h => by cases h)⟩
        · refine alloc_g (z := [.bool false, .slice none 0 0, .slice none 0 0]) fun b16 w9 hb16e hb16 hf9 => ?_
          refine hs_of (hb13d.fr0 hf9) ?_
          refine alloc_g (z := [.bool false, .slice none 0 0, .slice none 0 0]) fun b15 w10 hb15e hb15 hf10 => ?_
          have l16 := hb16.lt
          have f10 := hf9.trans hf10 (fun _ h => by cases h)
          refine hs_of (hb13d.fr0 f10) ?_
          refine stA0_k hb15 (atoms_node _ _ _ _ _ _ _) rfl rfl fun w11 hb1511 hf11 => ?_
          have f11 := f10.new hf11 (fun i hi => by omega)
          refine hs_of (hb13d.fr0 f11) ?_
          refine stA0_k ((hb16.fr0 hf10).frb hf11 (by omega)) (atoms_node _ _ _ _ _ _ _) rfl rfl fun w12 hb1612 hf12 => ?_
          have f12 := f11.new hf12 (fun i hi => by omega)
          refine hs_of (hb13d.fr0 f12) ?_
          exact ⟨b15, b16, rfl, hb1511.frb hf12 (by omega), hb1612, by omega, by omega, by omega, fd.trans f12 (fun _ h => by cases h)⟩
      rintro _ wB ⟨b15, b16, rfl, hb15, hb16, hne, n15, n16, fB⟩
      simp only [g0_cons, g1_cons, g2_cons]
      refine px_run ?_
      have hLft : ∃ L : Nat, L = (if B < y.1.at_ then B else y.1.at_) := ⟨_, rfl⟩
      obtain ⟨L, hL⟩ := hLft
      have hFst : ∃ A : Node, A = (if B < y.1.at_ then X else n) := ⟨_, rfl⟩
      obtain ⟨A1, hA1⟩ := hFst
      have hSnd : ∃ A : Node, A = (if B < y.1.at_ then n else X) := ⟨_, rfl⟩
      obtain ⟨A2, hA2⟩ := hSnd
      rw [← hL, ← hA1, ← hA2] at k
      have hLlt : L < y.1.n.cells.length := by
        rw [hL]
        by_cases e1 : y.1.at_ + 1 = y.1.n.kids.length
        · rw [if_pos e1] at hB
          split <;> omega
        · rw [if_neg e1] at hB
          split <;> omega
      refine cut_of (fun vs w' => ∃ vc1 vk1 vc2 vk2, vs = [iv L] ∧ NV w' b15 A1 vc1 vk1 ∧ NV w' b16 A2 vc2 vk2 ∧ NodeO wA vc1 vk1 A1 ∧ NodeO wA vc2 vk2 A2 ∧ Fr no wA w') ?_ ?_
      · refine cnd_dec (fun hlt => ?_) (fun hlt => ?_)
        · have hlt' : B < y.1.at_ := by omega
          rw [if_pos hlt'] at hL hA1 hA2
          refine dr_of ?_
          have fd := Fr.dw wB
          have hb5d := (hb5A.fr0 fB).fr0 fd
          have hb13d := (hb13A.fr0 fB).fr0 fd
          have hb15d := hb15.fr0 fd
          have hb16d := hb16.fr0 fd
          have fBd := fB.trans fd (fun _ h => by cases h)
          generalize dw wB = wd at fd hb5d hb13d hb15d hb16d fBd ⊢
          have l5 := hb5A.lt
          refine held_of (fun w' => Bk w' b5 155 [.bool n.leaf, .slice a n.cells.length c, .slice a' n.kids.length c']) hb5d ?_
          refine ldAY0 hb13d rfl ?_
          refine ldAS (fun w' h => h) rfl ?_
          refine stA0_k hb15d (atoms_node _ _ _ _ _ _ _) rfl rfl fun w11 hb1511 hf11 => ?_
          refine hs_of (hb5d.frb hf11 (by omega)) ?_
          refine stA0_k (hb16d.frb hf11 (by omega)) (atoms_node _ _ _ _ _ _ _) rfl rfl fun w12 hb1612 hf12 => ?_
          refine hs_of ((hb5d.frb hf11 (by omega)).frb hf12 (by omega)) ?_
          exact ⟨_, _, _, _, by rw [hL], by rw [hA1]; exact hb1511.frb hf12 (by omega), by rw [hA2]; exact hb1612, by rw [hA1]; exact hXA, by rw [hA2]; exact hnA, (fBd.new hf11 (fun i hi => by omega)).new hf12 (fun i hi => by omega)⟩
        · have hlt' : ¬ B < y.1.at_ := by omega
          rw [if_neg hlt'] at hL hA1 hA2
          exact ⟨_, _, _, _, by rw [hL], by rw [hA1]; exact hb15, by rw [hA2]; exact hb16, by rw [hA1]; exact hnA, by rw [hA2]; exact hXA, fB⟩
      rintro _ wC ⟨vc1, vk1, vc2, vk2, rfl, hb15C, hb16C, hN1, hN2, fC⟩
      simp only [g0_cons]
      obtain ⟨a1, c1, a1', c1', rfl, rfl⟩ := hN1.slices
      obtain ⟨a2, c2, a2', c2', rfl, rfl⟩ := hN2.slices
      have hyC := hyA.fr fC (Quiet.no _)
      refine px_run ?_
      refine ldAo (n := 3) (xs := [.bool y.1.n.leaf, .slice ya y.1.n.cells.length yc, .slice ya' y.1.n.kids.length yc']) (hb10A.fr0 fC) rfl rfl ?_
      refine alloc_k (P := P) (z := [.bool false, .slice none 0 0, .slice none 0 0]) fun b18 w9 hb18e hb18 hf9 => ?_
      refine stA0_k hb18 (atoms_node _ _ _ _ _ _ _) rfl rfl fun wD hb18D hf10 => ?_
      have s9 := hf9.size
      have sC := fC.size
      have fCD : Fr no wC wD := hf9.new hf10 (fun i hi => by omega)
      have fD := fC.trans fCD (fun _ h => by cases h)
      have hyD := hyC.fr fCD (Quiet.no _)
      have n18 : wC.heap.size ≤ b18 := by omega
      refine cut_of (fun _ w' => ∃ vcM vkM, Bk w' b18 155 [.bool y.1.n.leaf, vcM, vkM] ∧ Own w' vcM 159 4 y.1.n.cells.length (y.1.n.cells.flatMap cenc) ∧ Own w' vkM 3 1 y.1.n.kids.length (y.1.n.kids.flatMap kenc) ∧ (∀ i, vcM.ownBlock = some i → wA.heap.size ≤ i) ∧ (∀ i, vkM.ownBlock = some i → wA.heap.size ≤ i) ∧ Fr no wC w') ?_ ?_
      · refine dr_of ?_
        have fCd := fCD.trans (Fr.dw wD) (fun _ h => by cases h)
        have hb18d := hb18D.fr0 (Fr.dw wD)
        have hyd := hyD.fr (Fr.dw wD) (Quiet.no _)
        generalize dw wD = wd at fCd hb18d hyd ⊢
        have sd := fCd.size
        refine py_run ?_
        refine ldY hb18d rfl ?_
        refine py_run ?_
        have mid : ∀ (v145 : Value) (w11 : World), Own w11 v145 159 4 y.1.n.cells.length (y.1.n.cells.flatMap cenc) → (∀ i, v145.ownBlock = some i → wd.heap.size ≤ i) → Fr no wd w11 →
            cl P 159 #[.slice ya' y.1.n.kids.length yc'] w11 fun v148 w =>
            pu P (Instr.storeAt 153 (.pointer (some ⟨b18, 1, none⟩)) v145) w fun w =>
            py P (fun _ => True) (Instr.fieldAt 155 (pt b18) 2) fun v150 =>
            pu P (Instr.storeAt 48 v150 v148) w fun w =>
            ∃ vcM vkM, Bk w b18 155 [.bool y.1.n.leaf, vcM, vkM] ∧ Own w vcM 159 4 y.1.n.cells.length (y.1.n.cells.flatMap cenc) ∧ Own w vkM 3 1 y.1.n.kids.length (y.1.n.kids.flatMap kenc) ∧ (∀ i, vcM.ownBlock = some i → wA.heap.size ≤ i) ∧ (∀ i, vkM.ownBlock = some i → wA.heap.size ≤ i) ∧ Fr no wC w := by
          intro v145 w11 hv145 hn145 f11
          obtain ⟨a5, c5, rfl⟩ := Own.atom hv145
          have s11 := f11.size
          refine cloneK_k ((hyd.fr f11 (Quiet.no _)).kids.sl) (by omega) fun v148 w12 hv148 hf12 hn148 => ?_
          obtain ⟨a6, c6, rfl⟩ := Own.atom hv148
          have f12 := f11.trans hf12 (fun _ h => by cases h)
          have hb1812 := hb18d.fr0 f12
          refine stB_k hb1812 (by simp) fun w13 hb1813 hf13 => ?_
          refine py_run ?_
          refine stB_k hb1813 (by simp) fun w14 hb1814 hf14 => ?_
          have f14 := ((fCd.trans f12 (fun _ h => by cases h)).new hf13 (fun i hi => by omega)).new hf14 (fun i hi => by omega)
          refine ⟨_, _, hb1814, ((hv145.fr0 hf12).frb hf13 hb1812 (by decide)).frb hf14 hb1813 (by decide), (hv148.frb hf13 hb1812 (by decide)).frb hf14 hb1813 (by decide), fun i hi => ?_, fun i hi => ?_, f14⟩
          · have := hn145 i hi; omega
          · have := hn148 i hi; omega
        refine ⟨?_, ?_⟩
        · refine cloneC_k hyd.cells.sl (by omega) fun v145 w11 hv145 hf11 hn145 => ?_
          refine ldY (hb18d.fr0 hf11) rfl ?_
          refine py_run ?_
          exact mid v145 w11 hv145 hn145 hf11
        · refine pgld ((hb18d.cell 2).trans rfl) ?_
          refine cloneC_k hyd.cells.sl (by omega) fun v145 w11 hv145 hf11 hn145 => ?_
          refine py_run ?_
          exact mid v145 w11 hv145 hn145 hf11
      rintro _ wE ⟨vcM, vkM, hb18E, hcM, hkM, ncM, nkM, fE⟩
      obtain ⟨acM, ccM, rfl⟩ := Own.atom hcM
      obtain ⟨akM, ckM, rfl⟩ := Own.atom hkM
      have fAE := fC.trans fE (fun _ h => by cases h)
      have hgc : y.1.n.cells.getD L (sepC []) = y.1.n.cells[L] := by simp [List.getD, hLlt]
      rw [hgc] at k
      have hWl : (Node.join A1 y.1.n.cells[L].key A2).Lim 2000 := by
        have l1 : A1.Lim 513 := by rw [hA1]; split; exact hXlim.mono (by omega); exact hlim
        have l2 : A2.Lim 513 := by rw [hA2]; split; exact hlim; exact hXlim.mono (by omega)
        have hky := (hyok.lim.strs _ (List.getElem_mem hLlt)).1
        have c1 := l1.cells
        have c2 := l2.cells
        have k1 := l1.kids
        have k2 := l2.kids
        unfold Node.join
        split
        · exact ⟨by simp only [List.length_append]; omega, by simp, fun c hc => by
            rcases List.mem_append.1 hc with hc | hc
            · exact l1.strs c hc
            · exact l2.strs c hc⟩
        · exact ⟨by simp only [List.length_append, List.length_cons]; omega, by simp only [List.length_append]; omega, fun c hc => by
            rcases List.mem_append.1 hc with hc | hc
            · exact l1.strs c hc
            · rcases List.mem_cons.1 hc with rfl | hc
              · exact ⟨hky, by simp [sepC]⟩
              · exact l2.strs c hc⟩
      refine cut_of (fun vs w' => ∃ b19 vcW vkW, vs = [pt b19] ∧ NV w' b19 (Node.join A1 y.1.n.cells[L].key A2) vcW vkW ∧ NodeO w' vcW vkW (Node.join A1 y.1.n.cells[L].key A2) ∧ Fr no wE w') ?_ ?_
      · refine dr_of ?_
        have fd := Fr.dw wE
        have hb15d := ((hb15C.fr0 fE).fr0 fd)
        have hb16d := ((hb16C.fr0 fE).fr0 fd)
        have hb18d := hb18E.fr0 fd
        have hcMd := hcM.fr0 fd
        have hN1d := (hN1.fr fAE (Quiet.no _)).fr fd (Quiet.no _)
        have hN2d := (hN2.fr fAE (Quiet.no _)).fr fd (Quiet.no _)
        generalize dw wE = wd at fd hb15d hb16d hb18d hcMd hN1d hN2d ⊢
        refine held_of (fun _ => True) trivial ?_
        refine ldAY0 hb15d rfl ?_
        refine py_run ?_
        refine ldY hb18d rfl ?_
        obtain ⟨bb3, oo3, cap3, e, _, hcell⟩ := hcMd.sl.addr (by omega) (by omega)
        simp only [Value.slice.injEq, true_and] at e
        obtain ⟨rfl, rfl⟩ := e
        refine idxY (P := P) L rfl hLlt ?_
        refine py_run ?_
        have hk3 := hcell (L * 4) (by omega)
        rw [← Nat.add_zero (L * 4), cencs_get hLlt (by omega)] at hk3
        refine ldBy (P := P) (fun w' f => cell_ext (by rw [← Nat.add_zero (L * 4)]; exact hk3) f) ?_
        refine ldAY0 hb16d rfl ?_
        refine ⟨?_, ?_⟩
        · refine join_k hN1d.at hN2d.at fun vcW vkW w11 hW => ?_
          have hWo := hW.o (hWl.small (by omega))
          obtain ⟨aw, cw, aw', cw', rfl, rfl⟩ := hWo.slices
          refine hs_of trivial ?_
          refine alloc_g (z := [.bool false, .slice none 0 0, .slice none 0 0]) fun b19 w12 hb19e hb19 hf12 => ?_
          refine hs_of trivial ?_
          refine stA0_k hb19 (atoms_node _ _ _ _ _ _ _) rfl rfl fun w13 hb1913 hf13 => ?_
          refine hs_of trivial ?_
          have f1113 : Fr no w11 w13 := hf12.new hf13 (fun i hi => by omega)
          exact ⟨b19, _, _, rfl, hb1913, hWo.fr f1113 (Quiet.no _), (fd.trans hW.fr (fun _ h => by cases h)).trans f1113 (fun _ h => by cases h)⟩
        · refine alloc_g (z := [.bool false, .slice none 0 0, .slice none 0 0]) fun b19 w11 hb19e hb19 hf11 => ?_
          refine hs_of trivial ?_
          refine join_k (hN1d.fr hf11 (Quiet.no _)).at (hN2d.fr hf11 (Quiet.no _)).at fun vcW vkW w12 hW => ?_
          have hWo := hW.o (hWl.small (by omega))
          obtain ⟨aw, cw, aw', cw', rfl, rfl⟩ := hWo.slices
          refine hs_of trivial ?_
          refine stA0_k (hb19.fr0 hW.fr) (atoms_node _ _ _ _ _ _ _) rfl rfl fun w13 hb1913 hf13 => ?_
          refine hs_of trivial ?_
          have f1113 : Fr no wd w13 := (hf11.trans hW.fr (fun _ h => by cases h)).new hf13 (fun i hi => by omega)
          exact ⟨b19, _, _, rfl, hb1913, hWo.fr hf13 (Quiet.bk (hb19.fr0 hW.fr) (by decide)), fd.trans f1113 (fun _ h => by cases h)⟩
      rintro _ wF ⟨b19, vcW, vkW, rfl, hb19F, hWF, fF⟩
      obtain ⟨aw, cw, aw', cw', rfl, rfl⟩ := hWF.slices
      simp only [g0_cons]
      have fAF := fAE.trans fF (fun _ h => by cases h)
      have f0F := fA.trans fAF (fun _ h => by cases h)
      have sA := fA.size
      have hyl : l0.length ≤ 1000 := by omega
      rw [hlen2]
      rw [hlen, hlen2] at hP
      exact downJ_k (w0 := w) (l0 := l0) (x := x) (y := y) (left := L) (W := Node.join A1 y.1.n.cells[L].key A2) (fun hP' ht' h' hw' hn' hl' hk' kk => down_k l0.length rfl hyl hP' (fun z hz => hok z (by simp [hz])) ht' h' hw' hn' hl' hk' kk)
        f0F h.mu hyl hP hyok ht (h.fr0 f0F) hw (hb18E.fr0 fF) (hcM.fr0 fF) (hkM.fr0 fF) (by omega) (fun i hi => by have := ncM i hi; omega) (fun i hi => by have := nkM i hi; omega) hb19F hWF hWl hLlt rfl rfl k
termination_by m => m
decreasing_by all_goals (subst hm; simp)
end
end Go.Proofs.YtomggfibpbaodaaGreatDoor
