/-
  A pager that is opened may be. Plain law.
-/
import Derived.Test.YtomggfibpbaodaaGreatDoorB6
set_option maxRecDepth 100000
namespace Go.Proofs.YtomggfibpbaodaaGreatDoor
open Go.V

theorem Pg.abort_wf {p : Pg} (h : p.Ok) (ha : p.D.dead = false) (hw : p.D.waits = []) {m0 : Meta} {ch : List Int} (hkeep : Meta.of (p.cview 0) = m0) (hg : Good p.cview m0 p.pages ch) :
    p.abort.2 = 0 ∧ p.abort.1.WF ∧ p.abort.1.m = m0 ∧ p.abort.1.kept = m0 ∧ p.abort.1.now = [] ∧ p.abort.1.dirty = p.dirty ∧ p.abort.1.D = p.D ∧ p.abort.1.R = p.R ∧ p.abort.1.pages = p.pages ∧ p.abort.1.first = p.first ∧ p.abort.1.count = [] := by
  have hs := h.small
  have ho : ({ p with now := [], count := [], idle := [] } : Pg).Ok := ⟨h.D, h.R, h.first, h.pages, h.len, h.rf, h.rc, h.dk, fun _ hx => (by cases hx), h.da, .nil, .nil, rfl⟩
  have hget : ({ p with now := [], count := [], idle := [] } : Pg).get 0 = .ok (p.cview 0) := by
    rw [ho.get ha (Int.le_refl _) (show (0 : Int) < p.pages by omega)]
    rfl
  have hlen := hg.len
  have hu1 := hg.u1
  have hu2 := hg.u2
  have ho2 : ({ p with now := [], count := [], idle := [], m := m0, kept := m0 } : Pg).Ok := ⟨h.D, h.R, h.first, h.pages, h.len, h.rf, h.rc, h.dk, fun _ hx => (by cases hx), h.da, .nil, .nil, rfl⟩
  obtain ⟨i', e, ai, hi⟩ := Pg.chain_run (q := { p with now := [], count := [], idle := [], m := m0, kept := m0 }) ho2 ha rfl (used := m0.used) hu2 ch p.pages.toNat m0.head [] hg.chain hg.nodup (by omega) .nil (fun _ _ => rfl)
  have hab : p.abort = ({ p with now := [], count := [], idle := i', m := m0, kept := m0 }, 0) := by
    unfold Pg.abort
    simp only [hget, hkeep]
    exact e
  rw [hab]
  refine ⟨rfl, ⟨⟨ho.D, ho.R, ho.first, ho.pages, ho.len, ho.rf, ho.rc, ho.dk, fun _ hx => (by cases hx), ho.da, .nil, ai, rfl⟩, hw, ha, ⟨ch, ?_, fun n => by rw [hi n]; simp [mget]⟩, ⟨ch, hg⟩, hkeep⟩, rfl, rfl, rfl, rfl, rfl, rfl, rfl, rfl, rfl⟩
  exact hg
theorem replay1_ok : ∀ (f : Nat) (p : Pg) (R : Rd) (q : Pg), DkOk p → Asc p.dirty → p.replay1 f R = some q → ∃ d, q = { p with dirty := d } ∧ DkOk { p with dirty := d } ∧ Asc d
  | 0, p, R, q, hd, ha, h => by
    unfold Pg.replay1 at h
    cases h
    exact ⟨p.dirty, rfl, hd, ha⟩
  | f + 1, p, R, q, hd, ha, h => by
    unfold Pg.replay1 at h
    split at h
    · cases h
      exact ⟨p.dirty, rfl, hd, ha⟩
    · simp only at h
      split at h
      · cases h
      · have hp0 := hd.p0
        have hc1 := Rd.count_le (R := R) (most := p.pages - 1) (by omega)
        have hc0 := Rd.count_nonneg (R := R) (most := p.pages - 1)
        have hs := Rd.str_le (R := (R.count (p.pages - 1)).2) (most := 512) (by omega)
        obtain ⟨d, e, h1, h2⟩ := replay1_ok f { p with dirty := mput p.dirty (R.count (p.pages - 1)).1 (((R.count (p.pages - 1)).2.str 512).1 ++ zs (512 - ((R.count (p.pages - 1)).2.str 512).1.length)) } _ q ⟨fun x hx => by
          rcases mput_mem hx with rfl | hx
          · refine ⟨hc0, ?_, ?_⟩
            · show _ < p.pages
              omega
            · show (_ ++ zs _).length = 512
              rw [List.length_append, zs_length]
              omega
          · exact hd.dk x hx, hd.p0, hd.p1⟩ (asc_mput ha _ _) h
        exact ⟨d, e, h1, h2⟩
theorem replay_ok : ∀ (l : List Str) (p q : Pg), DkOk p → Asc p.dirty → p.replay l = some q → ∃ d, q = { p with dirty := d } ∧ DkOk { p with dirty := d } ∧ Asc d
  | [], p, q, hd, ha, h => by
    unfold Pg.replay at h
    cases h
    exact ⟨p.dirty, rfl, hd, ha⟩
  | b :: l, p, q, hd, ha, h => by
    unfold Pg.replay at h
    split at h
    · cases h
    · rename_i p1 h1
      obtain ⟨d, e, k1, k2⟩ := replay1_ok _ p _ p1 hd ha h1
      subst e
      obtain ⟨d2, e2, k3, k4⟩ := replay_ok l _ q k1 k2 h
      exact ⟨d2, e2, k3, k4⟩
theorem Pg.taken_ok {D : Disk} (h : D.WF) (h64 : 64 ≤ D.lasts.length) (hb : num (((D.at 0).drop 8).take 8) ≤ 4611686018427387904) {p : Pg} (ht : Pg.taken D = some p) :
    p.Ok ∧ p.D = D ∧ p.now = [] ∧ p.first = 1 + places D ∧ p.R = (Ring.open D 1 (places D) (num (((D.at 0).drop 8).take 8))).1 := by
  have hm := h.most
  have hp5 : places D = D.lasts.length / 4 := rfl
  unfold Pg.taken at ht
  cases hr : (Pg.made D).replay (Ring.open D 1 (places D) (num (((D.at 0).drop 8).take 8))).2 with
  | none => rw [hr] at ht; cases ht
  | some q =>
    rw [hr] at ht
    simp only [Option.map_some, Option.some.injEq] at ht
    obtain ⟨d, e, k1, k2⟩ := replay_ok _ (Pg.made D) q ⟨fun _ hx => (by cases hx), by show (1 : Int) ≤ (D.lasts.length : Int) - 1 - places D; omega, by show (D.lasts.length : Int) - 1 - places D ≤ 65536; omega⟩ .nil hr
    subst e ht
    exact ⟨⟨h, Ring.open_wf (by omega) (by omega) hb, rfl, rfl, h64, rfl, rfl, k1.dk, fun _ hx => (by cases hx), k2, .nil, .nil, rfl⟩, rfl, rfl, rfl, rfl⟩
/-- A disk from which a pager can be opened. -/
def Opens (D : Disk) : Prop := ∀ p, Pg.taken D = some p → (p.settle p.R.top).2 = 0 → ∃ ch, Good (p.settle p.R.top).1.cview (Meta.of ((p.settle p.R.top).1.cview 0)) (p.settle p.R.top).1.pages ch
theorem Pg.open_wf {D : Disk} (h : D.WF) (ha : D.dead = false) (hg : Opens D) {q : Pg} (ho : (Pg.open D).1 = .ok q) : q.WF ∧ q.now = [] ∧ q.m = q.kept := by
  have e : D.get 0 = .ok (D.at 0) := Disk.get_ok ha (Int.le_refl _) (by have := h.pos; omega)
  unfold Pg.open at ho
  simp only [e] at ho
  split at ho
  · cases ho
  · rename_i h1
    split at ho
    · cases ho
    · rename_i h2
      have ht : ∀ p, (Pg.made D).replay (Ring.open D 1 (places D) (num (((D.at 0).drop 8).take 8))).2 = some p → Pg.taken D = some { p with R := (Ring.open D 1 (places D) (num (((D.at 0).drop 8).take 8))).1 } := fun p hp => by
        unfold Pg.taken
        rw [hp]
        rfl
      split at ho
      · cases ho
      · rename_i p hp
        have htk := ht p hp
        obtain ⟨k1, k2, k3, k4, k5⟩ := Pg.taken_ok h (by omega) (by omega) htk
        have hgd := hg _ htk
        simp only at ho hgd
        split at ho
        · cases ho
        · rename_i h3
          have h3' := Decidable.of_not_not h3
          obtain ⟨ch, hch⟩ := hgd h3'
          have htop : (Ring.open D 1 (places D) (num (((D.at 0).drop 8).take 8))).1.top ≤ 4611686018427387904 := by
            have := k1.R.tm
            exact this
          rcases Pg.settle_cases k1 (ha := by rw [k2]; exact ha) htop with ⟨_, s1, s2, s3, s4, s5⟩ | ⟨s0, _⟩
          · obtain ⟨a1, a2, a3, a4, a5, _⟩ := Pg.abort_wf s1 s2 s3 rfl hch
            split at ho
            · cases ho
            · cases ho
              exact ⟨a2, a5, a3.trans a4.symm⟩
          · rw [s0] at h3'
            cases h3'
end Go.Proofs.YtomggfibpbaodaaGreatDoor
