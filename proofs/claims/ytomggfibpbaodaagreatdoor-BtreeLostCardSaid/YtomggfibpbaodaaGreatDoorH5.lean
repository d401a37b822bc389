/-
  The pager: committing a change.
-/
import Derived.Test.YtomggfibpbaodaaGreatDoorH4
import Derived.Test.YtomggfibpbaodaaGreatDoorY
import Derived.Test.YtomggfibpbaodaaGreatDoorTR
set_option maxRecDepth 100000
namespace Go.Proofs.YtomggfibpbaodaaGreatDoor
open Go.V

section
variable {w w1 : World} {b d r md mn mi mc : Nat} {p : Pg} {F Fd : Nat → Prop} {K : Value → World → Prop}
theorem Mp.ext {m : Nat} {es : List (Int × Value)} (h : Mp w m es) (f : Ext w w1) : Mp w1 m es := by
  obtain ⟨en, clock, hm, r⟩ := h
  exact ⟨en, clock, (f.2 m (Array.getElem?_eq_some_iff.1 hm).1).trans hm, r⟩
theorem pm_lenY {P : Program} {t e : TypeId} {z : Value} {α : Type} [MapT P t e z] {enc : α → Value} {m : Nat} {l : List (Int × α)} {ty : TypeId} {K : Value → Prop} (h : PM enc w m l) (k : K (.int .i64 (l.length : Int))) :
    py P (Ext w) (Builtin.len_ #[t] ty #[.map (some m)]) K := by
  obtain ⟨es, h1, h2, h3⟩ := h
  refine py_of (fun w' hE => ?_) k
  have hr := lenM_run (P := P) (t := t) (Mp.ext h1 hE) ty
  obtain ⟨_, _, _, _, hnd, _⟩ := h1
  have := (pm_keys hnd h2 h3).length_eq
  simp only [List.length_map] at this
  rw [this] at hr
  exact hr
/-- The pages of the change have turned, and stand as they were. -/
theorem PgR.setN (h : PgR w b d r md mn mi mc p F Fd) (hN : PM secv w1 mn p.now) (f : Fr (fun i => i = mn) w w1) : PgR w1 b d r md mn mi mc p F Fd :=
  ⟨h.blk.fr f (fun e => PM.ne_bk h.now h.blk e.symm), h.disk.fr f (fun i hi e => h.off.2.2.2.1 (e ▸ hi)), h.ring.fr f (fun e => PM.ne_bk h.now h.ring.blk e.symm), h.dirty.fr f h.ne.1, hN, h.idle.fr f (fun e => h.ne.2.2.2.1 e.symm), h.count.fr f (fun e => h.ne.2.2.2.2.1 e.symm),
    h.ok, h.fd, h.own, h.off, h.ne, mu_of h.mu f (fun i h' => by
      have e : i = mn := h'
      subst e
      exact PM.mu hN)⟩
theorem log_k {v : Value} {l : Str} (h : PgR w b d r md mn mi mc p F Fd) (ha : p.D.dead = false) (hs : Own w v 5 1 l.length (bs l)) (hl : l.length ≤ 100000000) (hw : p.D.waits.length ≤ 1000000)
    (k : ∀ w1 F1 Fd1, PgR w1 b d r md mn mi mc (p.logged l).1 F1 Fd1 → Fr F w w1 → Grows w F F1 → Own w1 v 5 1 l.length (bs l) → K (iv (p.logged l).2) w1) : cl P 170 #[pt r, v] w K := by
  have hok := h.ok
  have hbo : ∀ i, F i → i < w.heap.size := fun i hi => (h.mu i hi).lt
  have hvF := Own.offM hs h.mu (by decide)
  refine append170_k h.ring h.disk h.off.2.1 (fun i hi => h.mu i (h.fd i hi)) hs.sl (fun b hb => ⟨fun e => hvF b hb (h.fd b e), hs.lt hb⟩) hl hw fun w1 Fd1 hR hd1 hm1 hf1 hg1 => ?_
  have hpo : (p.logged l).1.Ok := by
    rcases Pg.logged_cases hok ha l with ⟨_, e⟩ | ⟨_, o, _⟩ | ⟨_, o, _⟩
    · rw [e]; exact hok
    · exact o
    · exact o
  have fF : Fr F w w1 := hf1.mono fun i hi => by
    rcases hi with rfl | hi
    · exact h.own.2.1
    · exact h.fd i hi
  have nf : ∀ i, F i → ¬ Fd i → ¬ Fd1 i := fun i hi hn e => by
    rcases hg1 i e with h' | h'
    · exact hn h'
    · have := hbo i hi; omega
  have ow : ∀ {F2 : Nat → Prop}, ((F b ∧ ¬ Fd b) ∨ F2 b) ∧ ((F r ∧ ¬ Fd r) ∨ F2 r) ∧ ((F md ∧ ¬ Fd md) ∨ F2 md) ∧ ((F mn ∧ ¬ Fd mn) ∨ F2 mn) ∧ ((F mi ∧ ¬ Fd mi) ∨ F2 mi) ∧ ((F mc ∧ ¬ Fd mc) ∨ F2 mc) :=
    ⟨.inl ⟨h.own.1, h.off.1⟩, .inl ⟨h.own.2.1, h.off.2.1⟩, .inl ⟨h.own.2.2.1, h.off.2.2.1⟩, .inl ⟨h.own.2.2.2.1, h.off.2.2.2.1⟩, .inl ⟨h.own.2.2.2.2.1, h.off.2.2.2.2.1⟩, .inl ⟨h.own.2.2.2.2.2, h.off.2.2.2.2.2⟩⟩
  have keep : ∀ {i : Nat}, F i → ¬ Fd i → i ≠ r → ¬ (i = r ∨ Fd i) := fun _ h2 h3 => by
    rintro (h | h)
    · exact h3 h
    · exact h2 h
  refine k w1 (fun i => (F i ∧ ¬ Fd i) ∨ Fd1 i) Fd1 ⟨h.blk.fr hf1 (keep h.own.1 h.off.1 (h.blk.ne h.ring.blk (by decide))), hd1, hR, h.dirty.fr hf1 (keep h.own.2.2.1 h.off.2.2.1 (PM.ne_bk h.dirty h.ring.blk)), h.now.fr hf1 (keep h.own.2.2.2.1 h.off.2.2.2.1 (PM.ne_bk h.now h.ring.blk)),
    h.idle.fr hf1 (keep h.own.2.2.2.2.1 h.off.2.2.2.2.1 (PM.ne_bk h.idle h.ring.blk)), h.count.fr hf1 (keep h.own.2.2.2.2.2 h.off.2.2.2.2.2 (PM.ne_bk h.count h.ring.blk)), hpo, fun i hi => .inr hi, ow,
    ⟨nf _ h.own.1 h.off.1, nf _ h.own.2.1 h.off.2.1, nf _ h.own.2.2.1 h.off.2.2.1, nf _ h.own.2.2.2.1 h.off.2.2.2.1, nf _ h.own.2.2.2.2.1 h.off.2.2.2.2.1, nf _ h.own.2.2.2.2.2 h.off.2.2.2.2.2⟩, h.ne, ?_⟩ fF (Grows.setD h.fd hg1) (hs.fr fF hvF)
  rintro i (⟨hi, hfi⟩ | hi)
  · by_cases hir : i = r
    · subst hir
      exact .inl ⟨_, _, hR.blk, by simp⟩
    · rcases h.mu i hi with ⟨t, cs, hb, ht⟩ | ⟨es, h'⟩
      · exact .inl ⟨t, cs, hb.fr hf1 (keep hi hfi hir), ht⟩
      · exact .inr ⟨es, h'.fr hf1 (keep hi hfi hir)⟩
  · exact hm1 i hi
theorem sync171_k (h : PgR w b d r md mn mi mc p F Fd) (ha : p.D.dead = false) (hw : p.D.waits.length ≤ 10000000)
    (k : ∀ w1 F1 Fd1, PgR w1 b d r md mn mi mc p.synced.1 F1 Fd1 → Fr F w w1 → Grows w F F1 → K (iv p.synced.2) w1) : cl P 171 #[pt r] w K := by
  refine sync_k h.ring h.disk (by omega) fun w1 Fd1 hd1 hm1 hf1 hg1 => ?_
  have ho : p.synced.1.Ok := by
    rcases Pg.synced_cases h.ok ha with ⟨_, o, _⟩ | ⟨_, o, _⟩
    · exact o
    · exact o
  exact k w1 _ _ (h.setD hd1 hm1 hf1 hg1 ho) (hf1.mono h.fd) (Grows.setD h.fd hg1)
end
end Go.Proofs.YtomggfibpbaodaaGreatDoor
