/-
  What the pager's calls do to the pages in use. Plain law.
-/
import Derived.Test.YtomggfibpbaodaaGreatDoorW
set_option maxRecDepth 100000
namespace Go.Proofs.YtomggfibpbaodaaGreatDoor
open Go.V

/-- Nothing but the change under way is another. -/
structure Pg.Kept (p q : Pg) : Prop where
  kept : q.kept = p.kept
  dirty : q.dirty = p.dirty
  D : q.D = p.D
  R : q.R = p.R
  first : q.first = p.first
  pages : q.pages = p.pages
theorem Pg.Kept.refl (p : Pg) : p.Kept p := ⟨rfl, rfl, rfl, rfl, rfl, rfl⟩
theorem Pg.Kept.trans {p q r : Pg} (h : p.Kept q) (k : q.Kept r) : p.Kept r :=
  ⟨k.kept.trans h.kept, k.dirty.trans h.dirty, k.D.trans h.D, k.R.trans h.R, k.first.trans h.first, k.pages.trans h.pages⟩
theorem Pg.Kept.cview {p q : Pg} (h : p.Kept q) : q.cview = p.cview := by
  funext n
  unfold Pg.cview
  rw [h.dirty, h.D, h.first]
theorem Pg.WF.read_ok {p : Pg} (h : p.WF) {n : Int} (hn : p.uses n = true) : p.read n = .ok (p.view n) := by
  unfold Pg.read
  rw [hn, if_neg (by simp)]
  have := h.uses_lt hn
  exact h.ok.get h.alive (by omega) this.2
theorem Pg.WF.free_nonneg {p : Pg} (h : p.WF) : 0 ≤ p.free := by
  have := h.free_eq
  obtain ⟨ch, hg, _⟩ := h.cur
  have := hg.u2
  have := hg.free
  omega
theorem Pg.WF.alloc_law {p : Pg} (h : p.WF) (hf : 0 < p.free) : ∃ n, p.alloc.2 = (n, 0) ∧ p.uses n = false ∧ (∀ m, p.alloc.1.uses m = true ↔ p.uses m = true ∨ m = n) ∧ (∀ m, m ≠ n → p.alloc.1.view m = p.view m) ∧
    p.alloc.1.free = p.free - 1 ∧ p.alloc.1.m.root = p.m.root ∧ p.Kept p.alloc.1 ∧ p.alloc.1.WF := by
  have hw := h.alloc
  have hfr := h.free_eq
  have hfr' := hw.free_eq
  have hs := h.ok.small
  obtain ⟨ch, hg, hid⟩ := h.cur
  have hu1 := hg.u1
  have hu2 := hg.u2
  have hfl := hg.free
  have hlen := hg.len
  unfold Pg.alloc at hw hfr' ⊢
  rw [if_neg (by omega)] at hw hfr' ⊢
  by_cases hh : p.m.head = 0
  · rw [if_pos hh] at hw hfr' ⊢
    have hch : ch = [] := by
      cases ch with
      | nil => rfl
      | cons a l =>
        have h1 := hg.chain.1
        have h2 := hg.chain.2.1
        omega
    subst hch
    have hi : ∀ n, mget p.idle n = none := fun n => by
      have := hid n
      simp only [List.not_mem_nil, iff_false] at this
      cases hq : mget p.idle n with
      | none => rfl
      | some _ => rw [hq] at this; simp at this
    have hf0 : p.m.free = 0 := by simpa using hfl
    have hw64 : w64 (p.m.used + 1) = p.m.used + 1 := w64_id (by omega) (by omega)
    rw [hw64] at hw hfr' ⊢
    refine ⟨p.m.used, rfl, ?_, fun m => ?_, fun m hm => ?_, ?_, rfl, ⟨rfl, rfl, rfl, rfl, rfl, rfl⟩, hw⟩
    · cases hq : p.uses p.m.used with
      | false => rfl
      | true => have := (Pg.uses_iff.1 hq).2.1; omega
    · rw [Pg.uses_iff, Pg.uses_iff]
      show (0 < m ∧ m < p.m.used + 1 ∧ mget p.idle m = none) ↔ _
      rw [hi m]
      constructor
      · rintro ⟨a, b, _⟩
        by_cases e : m = p.m.used
        · exact .inr e
        · exact .inl ⟨a, by omega, rfl⟩
      · rintro (⟨a, b, _⟩ | e)
        · exact ⟨a, by omega, rfl⟩
        · exact ⟨by omega, by omega, rfl⟩
    · rw [Pg.lay_view, if_neg hm]
      rfl
    · rw [hfr', hfr]
      show p.pages - (p.m.used + 1) + p.m.free = _
      omega
  · rw [if_neg hh] at hw hfr' ⊢
    cases ch with
    | nil => exact absurd hg.chain hh
    | cons a l =>
      obtain ⟨h1, h2, h3, h4⟩ := hg.chain
      have hget := h.ok.get h.alive (n := a) (by omega) (by omega)
      rw [h1, hget] at hw hfr' ⊢
      have hfl' : p.m.free = (l.length : Int) + 1 := by simpa using hfl
      have hw64 : w64 (p.m.free - 1) = p.m.free - 1 := w64_id (by omega) (by omega)
      simp only [hw64] at hw hfr' ⊢
      have hia : (mget p.idle a).isSome := (hid a).2 (.head _)
      refine ⟨a, rfl, ?_, fun m => ?_, fun m hm => ?_, ?_, rfl, ⟨rfl, rfl, rfl, rfl, rfl, rfl⟩, hw⟩
      · cases hq : p.uses a with
        | false => rfl
        | true =>
          have := (Pg.uses_iff.1 hq).2.2
          rw [this] at hia
          cases hia
      · rw [Pg.uses_iff, Pg.uses_iff]
        show (0 < m ∧ m < p.m.used ∧ mget (mdel p.idle a) m = none) ↔ _
        rw [mget_mdel h.ok.ia]
        by_cases e : m = a
        · subst e
          rw [if_pos rfl]
          exact ⟨fun _ => .inr rfl, fun _ => ⟨h2, h3, rfl⟩⟩
        · rw [if_neg e]
          exact ⟨fun h => .inl h, fun h => h.resolve_right e⟩
      · rw [Pg.lay_view, if_neg hm]
        rfl
      · rw [hfr', hfr]
        show p.pages - p.m.used + (p.m.free - 1) = _
        omega
theorem Pg.WF.drop_law {p : Pg} (h : p.WF) {n : Int} (hn : p.uses n = true) : (p.drop n).2 = 0 ∧ (∀ m, (p.drop n).1.uses m = true ↔ p.uses m = true ∧ m ≠ n) ∧ (∀ m, m ≠ n → (p.drop n).1.view m = p.view m) ∧
    (p.drop n).1.free = p.free + 1 ∧ (p.drop n).1.m.root = p.m.root ∧ p.Kept (p.drop n).1 ∧ (p.drop n).1.WF := by
  have hw := h.drop n
  have hfr := h.free_eq
  have hfr' := hw.free_eq
  have hs := h.ok.small
  obtain ⟨ch, hg, hid⟩ := h.cur
  have hu1 := hg.u1
  have hu2 := hg.u2
  have hfl := hg.free
  have hlen := hg.len
  unfold Pg.drop at hw hfr' ⊢
  rw [hn, if_neg (by simp)] at hw hfr' ⊢
  have hw64 : w64 (p.m.free + 1) = p.m.free + 1 := w64_id (by omega) (by omega)
  rw [hw64] at hw hfr' ⊢
  refine ⟨rfl, fun m => ?_, fun m hm => ?_, ?_, rfl, ⟨rfl, rfl, rfl, rfl, rfl, rfl⟩, hw⟩
  · rw [Pg.uses_iff, Pg.uses_iff]
    show (0 < m ∧ m < p.m.used ∧ mget (mput p.idle n ()) m = none) ↔ _
    rw [mget_mput]
    by_cases e : m = n
    · subst e
      rw [if_pos rfl]
      simp
    · rw [if_neg e]
      simp [e]
  · have e : ({ p.lay n (be 4 p.m.head ++ zs 508) with m := { p.m with head := n, free := p.m.free + 1 }, idle := mput p.idle n () } : Pg).view = (p.lay n (be 4 p.m.head ++ zs 508)).view := rfl
    rw [e, Pg.lay_view, if_neg hm]
  · rw [hfr', hfr]
    show p.pages - p.m.used + (p.m.free + 1) = _
    omega
theorem Pg.WF.write_law {p : Pg} (h : p.WF) {n : Int} {s : Sec} (hn : p.uses n = true) (hs : s.length = 512) : (p.write n s).2 = 0 ∧ (∀ m, (p.write n s).1.uses m = p.uses m) ∧ (∀ m, (p.write n s).1.view m = if m = n then s else p.view m) ∧
    (p.write n s).1.free = p.free ∧ (p.write n s).1.m.root = p.m.root ∧ p.Kept (p.write n s).1 ∧ (p.write n s).1.WF := by
  have hw := h.write n s
  unfold Pg.write at hw ⊢
  rw [if_neg (by simp [hn, hs])] at hw ⊢
  exact ⟨rfl, fun _ => rfl, fun m => Pg.lay_view p n s m, rfl, rfl, ⟨rfl, rfl, rfl, rfl, rfl, rfl⟩, hw⟩
theorem Pg.WF.setRoot_law {p : Pg} (h : p.WF) {n : Int} (hn : n = 0 ∨ p.uses n = true) : (p.setRoot n).2 = 0 ∧ (∀ m, (p.setRoot n).1.uses m = p.uses m) ∧ (p.setRoot n).1.view = p.view ∧
    (p.setRoot n).1.free = p.free ∧ (p.setRoot n).1.m.root = n ∧ p.Kept (p.setRoot n).1 ∧ (p.setRoot n).1.WF := by
  have hw := h.setRoot n
  unfold Pg.setRoot at hw ⊢
  rw [if_neg (by rintro ⟨a, b⟩; rcases hn with e | e; exact a e; rw [e] at b; cases b)] at hw ⊢
  exact ⟨rfl, fun _ => rfl, rfl, rfl, rfl, ⟨rfl, rfl, rfl, rfl, rfl, rfl⟩, hw⟩
end Go.Proofs.YtomggfibpbaodaaGreatDoor
