/-
  What is done to a tree leaves one that may be; no disk without a fuse dies.
-/
import Derived.Test.YtomggfibpbaodaaGreatDoorA1
set_option maxRecDepth 100000
namespace Go.Proofs.YtomggfibpbaodaaGreatDoor
open Go.V

theorem Pg.WF.downJ {p : Pg} (h : p.WF) {above : Step} {l : List Step} (ih : ∀ (p : Pg) (n : Node), p.WF → (Pg.down (above :: l) p n).1.WF) (left : Nat) (W : Node) (pl pr : Int) : (p.downJ above l left W pl pr).1.WF := by
  unfold Pg.downJ
  split
  · split
    · exact h.writeN _ _
    · split
      · exact (h.writeN _ _).drop _
      · exact ih _ _ ((h.writeN _ _).drop _)
  · split
    · exact h.writeN _ _
    · split
      · exact (h.writeN _ _).writeN _ _
      · exact ih _ _ ((h.writeN _ _).writeN _ _)
theorem Pg.WF.down : ∀ (l : List Step) (p : Pg) (n : Node), p.WF → (Pg.down l p n).1.WF
  | [], p, n, h => h
  | [last], p, n, h => by
    rw [down_one]
    generalize (if n.leaf = true then (0 : Int) else n.kids.getD 0 0) = r
    split
    · split
      · exact h.setRoot _
      · exact (h.setRoot _).drop _
    · exact Pg.WF.up _ _ _ h
  | last :: above :: l, p, n, h => by
    rw [down_two]
    split
    · exact Pg.WF.up _ _ _ h
    · split
      · exact h
      · exact h.downJ (fun p n h => Pg.WF.down (above :: l) p n h) _ _ _ _
theorem Pg.WF.put {p : Pg} (h : p.WF) (key v : Str) : (p.put key v).1.WF := by
  rw [put_unfold]
  split
  · exact h
  · split
    · exact h
    · split
      · exact h
      · split
        · exact h.freed _
        · rename_i l _ _
          unfold Pg.laid
          split
          · exact (h.freed _).cell _ _
          · split
            · split
              · exact ((h.freed _).cell _ _).add _
              · exact (((h.freed _).cell _ _).add _).setRoot _
            · exact Pg.WF.down _ _ _ ((h.freed _).cell _ _)
theorem Pg.WF.del {p : Pg} (h : p.WF) (key : Str) : (p.del key).1.WF := by
  unfold Pg.del
  split
  · exact h
  · split
    · exact h
    · split
      · exact h
      · exact h
      · split
        · exact h
        · split
          · exact h
          · simp only
            split
            · exact h.forget _
            · exact Pg.WF.down _ _ _ (h.forget _)
/-! ### No fuse -/
structure Disk.Calm (D : Disk) : Prop where
  dead : D.dead = false
  fset : D.fset = false
theorem Disk.Calm.burns {D : Disk} (h : D.Calm) : D.burns = false := by
  unfold Disk.burns
  rw [h.fset]
  rfl
theorem Disk.Calm.write {D : Disk} (h : D.Calm) (i : Int) (s : Sec) : (D.write i s).1.Calm := by
  unfold Disk.write
  rw [h.dead, if_neg (by simp)]
  split
  · exact h
  · rw [show (D.push i.toNat s).burns = false from (show (D.push i.toNat s).Calm from ⟨h.dead, h.fset⟩).burns, if_neg (by simp)]
    exact ⟨h.dead, h.fset⟩
theorem Disk.Calm.flush {D : Disk} (h : D.Calm) : D.flush.1.Calm := by
  rw [Disk.flush_ok h.dead h.fset]
  exact ⟨h.dead, h.fset⟩
theorem Disk.Calm.head {D : Disk} (h : D.Calm) (b : Int) : (D.head b).1.Calm := by
  unfold Disk.head
  simp only
  split
  · exact h.write _ _
  · exact (h.write _ _).flush
theorem Disk.Calm.lays (first : Int) : ∀ (l : List (Int × Sec)) (D : Disk), D.Calm → (Disk.lays first l D).1.Calm
  | [], _, h => h
  | (n, s) :: l, D, h => by
    unfold Disk.lays
    simp only
    split
    · exact h.write _ _
    · exact Disk.Calm.lays first l _ (h.write _ _)
theorem Pg.settle_calm {p : Pg} (h : p.D.Calm) (base : Nat) : (p.settle base).1.D.Calm := by
  have h1 := Disk.Calm.lays p.first p.dirty p.D h
  unfold Pg.settle
  simp only
  split
  · exact h1
  · split
    · exact h1.flush
    · split
      · exact h1.flush.head _
      · exact h1.flush.head _
theorem Ring.writes_calm (r : Ring) (l : Str) (n : Nat) : ∀ (f i : Nat) (D : Disk), D.Calm → (r.writes l n f i D).1.Calm
  | 0, _, _, h => h
  | f + 1, i, D, h => by
    unfold Ring.writes
    simp only
    split
    · exact h.write _ _
    · exact Ring.writes_calm r l n f (i + 1) _ (h.write _ _)
theorem Ring.append_calm (r : Ring) {D : Disk} (h : D.Calm) (l : Str) : (r.append D l).2.1.Calm := by
  have hw := Ring.writes_calm r l (pieces l.length) (pieces l.length) 0 D h
  unfold Ring.append
  rw [h.dead, if_neg (by simp)]
  split
  · exact h
  · split
    · exact h
    · split
      · exact h
      · split
        · exact h
        · simp only
          split
          · exact hw
          · exact hw
theorem Pg.logged_calm {p : Pg} (h : p.D.Calm) (l : Str) : (p.logged l).1.D.Calm := Ring.append_calm p.R h l
theorem Pg.tryLog_calm {p : Pg} (h : p.D.Calm) (l : Str) : (p.tryLog l).1.D.Calm := by
  unfold Pg.tryLog
  split
  · split
    · exact Pg.logged_calm (Pg.settle_calm h _) l
    · exact Pg.settle_calm h _
  · exact Pg.logged_calm h l
theorem Pg.commit_calm {p : Pg} (h : p.D.Calm) : p.commit.1.D.Calm := by
  unfold Pg.commit
  split
  · exact h
  · split
    · exact h
    · have hx := Pg.tryLog_calm (p := ({ p with now := mdel (mput p.now 0 p.m.page) 0 } : Pg)) h (recOf (mput p.now 0 p.m.page))
      generalize ({ p with now := mdel (mput p.now 0 p.m.page) 0 } : Pg).tryLog (recOf (mput p.now 0 p.m.page)) = X at hx ⊢
      unfold Pg.finish
      split
      · exact hx
      · split
        · exact hx.flush
        · exact hx.flush
/-! ### The disk of a pager is its own -/
theorem Pg.longF_D {σ : Type} {size : Int} {see : Pg → σ → Int → Sec → Pg × σ × Int} (hs : ∀ p s n b, (see p s n b).1.D = p.D) : ∀ (f : Nat) (p : Pg) (s : σ) (n : Int), (Pg.longF size see f p s n).1.D = p.D
  | 0, _, _, _ => rfl
  | f + 1, p, s, n => by
    unfold Pg.longF
    split
    · rfl
    · split
      · rfl
      · simp only
        split
        · exact hs _ _ _ _
        · exact (Pg.longF_D hs f _ _ _).trans (hs _ _ _ _)
theorem Pg.setRoot_D (p : Pg) (n : Int) : (p.setRoot n).1.D = p.D := by unfold Pg.setRoot; split <;> rfl
theorem Pg.write_D (p : Pg) (n : Int) (s : Sec) : (p.write n s).1.D = p.D := by unfold Pg.write; split <;> rfl
theorem Pg.alloc_D (p : Pg) : p.alloc.1.D = p.D := by
  unfold Pg.alloc
  split
  · rfl
  · split
    · rfl
    · split <;> rfl
theorem Pg.drop_D (p : Pg) (n : Int) : (p.drop n).1.D = p.D := by unfold Pg.drop; split <;> rfl
theorem Pg.writeN_D (p : Pg) (n : Int) (x : Node) : (p.writeN n x).1.D = p.D := by
  unfold Pg.writeN
  split
  · rfl
  · split
    · rfl
    · exact Pg.write_D _ _ _
theorem Pg.add_D (p : Pg) (x : Node) : (p.add x).1.D = p.D := by
  unfold Pg.add
  simp only
  split
  · exact Pg.alloc_D p
  · exact (Pg.writeN_D _ _ _).trans (Pg.alloc_D p)
theorem Pg.forget_D (p : Pg) (c : Cell) : (p.forget c).1.D = p.D := by
  unfold Pg.forget
  split
  · rfl
  · exact Pg.longF_D (fun p _ n _ => Pg.drop_D p n) _ _ _ _
theorem Pg.freed_D (p : Pg) (o : Option Cell) : (p.freed o).1.D = p.D := by
  cases o with
  | none => rfl
  | some c => exact Pg.forget_D p c
theorem Pg.cellF_D (v : Str) : ∀ (i : Nat) (p : Pg) (n : Int), (Pg.cellF v i p n).1.D = p.D
  | 0, _, _ => rfl
  | i + 1, p, n => by
    rw [cellF_succ]
    split
    · exact Pg.alloc_D p
    · split
      · exact (Pg.write_D _ _ _).trans (Pg.alloc_D p)
      · exact (Pg.cellF_D v i _ _).trans ((Pg.write_D _ _ _).trans (Pg.alloc_D p))
theorem Pg.cell_D (p : Pg) (key v : Str) : (p.cell key v).1.D = p.D := by
  unfold Pg.cell
  split
  · rfl
  · simp only
    split
    · exact Pg.cellF_D v _ p 0
    · exact Pg.cellF_D v _ p 0
theorem Pg.up_D : ∀ (l : List Step) (p : Pg) (n : Node), (Pg.up l p n).1.D = p.D
  | [], _, _ => rfl
  | last :: l, p, n => by
    rw [up_cons]
    have h1 := Pg.writeN_D p last.page n.cut.1
    have h2 := (Pg.add_D (p.writeN last.page n.cut.1).1 n.cut.2.2).trans h1
    split
    · exact Pg.writeN_D _ _ _
    · split
      · exact h1
      · split
        · exact h2
        · split
          · split
            · exact (Pg.add_D _ _).trans h2
            · exact (Pg.setRoot_D _ _).trans ((Pg.add_D _ _).trans h2)
          · exact (Pg.up_D _ _ _).trans h2
theorem Pg.downJ_D {above : Step} {l : List Step} (ih : ∀ (p : Pg) (n : Node), (Pg.down (above :: l) p n).1.D = p.D) (p : Pg) (left : Nat) (W : Node) (pl pr : Int) : (p.downJ above l left W pl pr).1.D = p.D := by
  unfold Pg.downJ
  split
  · split
    · exact Pg.writeN_D _ _ _
    · split
      · exact (Pg.drop_D _ _).trans (Pg.writeN_D _ _ _)
      · exact (ih _ _).trans ((Pg.drop_D _ _).trans (Pg.writeN_D _ _ _))
  · split
    · exact Pg.writeN_D _ _ _
    · split
      · exact (Pg.writeN_D _ _ _).trans (Pg.writeN_D _ _ _)
      · exact (ih _ _).trans ((Pg.writeN_D _ _ _).trans (Pg.writeN_D _ _ _))
theorem Pg.down_D : ∀ (l : List Step) (p : Pg) (n : Node), (Pg.down l p n).1.D = p.D
  | [], _, _ => rfl
  | [last], p, n => by
    rw [down_one]
    generalize (if n.leaf = true then (0 : Int) else n.kids.getD 0 0) = r
    split
    · split
      · exact Pg.setRoot_D _ _
      · exact (Pg.drop_D _ _).trans (Pg.setRoot_D _ _)
    · exact Pg.up_D _ _ _
  | last :: above :: l, p, n => by
    rw [down_two]
    split
    · exact Pg.up_D _ _ _
    · split
      · rfl
      · exact Pg.downJ_D (fun p n => Pg.down_D (above :: l) p n) _ _ _ _ _
theorem Pg.put_D (p : Pg) (key v : Str) : (p.put key v).1.D = p.D := by
  rw [put_unfold]
  split
  · rfl
  · split
    · rfl
    · split
      · rfl
      · split
        · exact Pg.freed_D _ _
        · unfold Pg.laid
          split
          · exact (Pg.cell_D _ _ _).trans (Pg.freed_D _ _)
          · split
            · split
              · exact (Pg.add_D _ _).trans ((Pg.cell_D _ _ _).trans (Pg.freed_D _ _))
              · exact (Pg.setRoot_D _ _).trans ((Pg.add_D _ _).trans ((Pg.cell_D _ _ _).trans (Pg.freed_D _ _)))
            · exact (Pg.down_D _ _ _).trans ((Pg.cell_D _ _ _).trans (Pg.freed_D _ _))
theorem Pg.del_D (p : Pg) (key : Str) : (p.del key).1.D = p.D := by
  unfold Pg.del
  split
  · rfl
  · split
    · rfl
    · split
      · rfl
      · rfl
      · split
        · rfl
        · split
          · rfl
          · simp only
            split
            · exact Pg.forget_D _ _
            · exact (Pg.down_D _ _ _).trans (Pg.forget_D _ _)
end Go.Proofs.YtomggfibpbaodaaGreatDoor
