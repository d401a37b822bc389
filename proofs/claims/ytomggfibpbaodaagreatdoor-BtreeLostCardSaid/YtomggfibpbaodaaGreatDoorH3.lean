/-
  The pager: aborting a change.
-/
import Derived.Test.YtomggfibpbaodaaGreatDoorH2
set_option maxRecDepth 100000
namespace Go.Proofs.YtomggfibpbaodaaGreatDoor
open Go.V

def mapLen (w : World) (m : Nat) : Nat := match w.heap[m]? with | some (.map es _) => es.size | _ => 0
theorem PM.mapLen {α : Type} {enc : α → Value} {w : World} {m : Nat} {l : List (Int × α)} (h : PM enc w m l) : mapLen w m = l.length := by
  obtain ⟨es, ⟨en, clock, hm, hen, hnd, _⟩, h2, h3⟩ := h
  have := (pm_keys hnd h2 h3).length_eq
  simp only [List.length_map] at this
  have hl : en.length = es.length := by have := congrArg List.length hen; simpa using this
  unfold Proofs.YtomggfibpbaodaaGreatDoor.mapLen
  rw [hm]
  simp only [List.size_toArray]
  omega
theorem mput_len {α : Type} {l : List (Int × α)} {n : Int} {x : α} (h : mget l n = none) : (mput l n x).length = l.length + 1 := by
  induction l with
  | nil => rfl
  | cons q l ih =>
    obtain ⟨k, v⟩ := q
    unfold mget at h
    split at h
    · cases h
    · rename_i hk
      unfold mput
      split
      · simp
      · first
          | rw [if_neg hk]
          | skip
        simp [ih h]
section
variable {w w1 : World} {b d r md mn mi mc : Nat} {p : Pg} {F Fd : Nat → Prop} {K : Value → World → Prop}
/-- What a footprint has grown to: new blocks alone have come. -/
theorem PgR.setMK (h : PgR w b d r md mn mi mc p F Fd) {m k : Meta} (hb : Bk w1 b 193 (pgc d r md mn mi mc { p with m := m, kept := k })) (f : Fr (fun i => i = b) w w1) : PgR w1 b d r md mn mi mc { p with m := m, kept := k } F Fd :=
  ⟨hb, h.disk.fr f (fun i hi e => h.off.1 (e ▸ hi)), h.ring.fr f (fun e => (h.ring.blk.ne h.blk (by decide)) e), h.dirty.fr f (PM.ne_bk h.dirty h.blk), h.now.fr f (PM.ne_bk h.now h.blk), h.idle.fr f (PM.ne_bk h.idle h.blk), h.count.fr f (PM.ne_bk h.count h.blk),
    ⟨h.ok.D, h.ok.R, h.ok.first, h.ok.pages, h.ok.len, h.ok.rf, h.ok.rc, h.ok.dk, h.ok.nk, h.ok.da, h.ok.na, h.ok.ia, h.ok.cnt⟩, h.fd, h.own, h.off, h.ne, mu_of h.mu f (fun i hi => by
      have e : i = b := hi
      subst e
      exact .inl ⟨_, _, hb, by simp⟩)⟩
theorem abort_gk {m0 : Meta} {ch : List Int} (h : PgM w b d p F) (ha : p.D.dead = false) (hkeep : Meta.of (p.cview 0) = m0) (hg0 : Good p.cview m0 p.pages ch) (k : ∀ w1 F', PgM w1 b d p.abort.1 F' → Fr F w w1 → Grows w F F' → K (iv p.abort.2) w1) : cl P 90 #[pt b] w K := by
  obtain ⟨r, md, mn, mi, mc, Fd, h⟩ := h
  have hsm := h.ok.small
  have z512 := zs_length 512
  have ho : ({ p with now := [], count := [], idle := [] } : Pg).Ok := ⟨h.ok.D, h.ok.R, h.ok.first, h.ok.pages, h.ok.len, h.ok.rf, h.ok.rc, h.ok.dk, fun _ hx => (by cases hx), h.ok.da, .nil, .nil, rfl⟩
  have hget : ({ p with now := [], count := [], idle := [] } : Pg).get 0 = .ok (p.cview 0) := by
    rw [ho.get ha (Int.le_refl _) (show (0 : Int) < p.pages by omega)]
    rfl
  apply c90
  unfold F90
  refine px_run ?_
  refine cnd_false ?_
  refine pm_make (enc := secv) fun mn' w1 hmn hN hf1 => ?_
  refine pm_make (enc := tru) fun mc' w2 hmc hC hf2 => ?_
  refine pm_make (enc := tru) fun mi' w3 hmi hI hf3 => ?_
  have tr : ∀ {x y z : World}, Fr no x y → Fr no y z → Fr no x z := fun h k => h.trans k (fun _ h => by cases h)
  have f3 := tr (tr hf1 hf2) hf3
  have h3 := h.fr0 f3
  have lb := h3.blk.lt
  have lN := hN.lt
  have lC := hC.lt
  have s1 := hf1.size
  have s2 := hf2.size
  have s3 := hf3.size
  have hbo : ∀ i, F i → i < w.heap.size := fun i hi => (h.mu i hi).lt
  have lbb := hbo _ h.own.1
  have lmd := hbo _ h.own.2.2.1
  have lr := hbo _ h.own.2.1
  refine nc_ptr ?_
  refine px_run ?_
  refine stB_k h3.blk (by simp [pgc]) fun w4 hb4 hf4 => ?_
  refine nc_ptr ?_
  refine px_run ?_
  refine stB_k hb4 (by simp [pgc]) fun w5 hb5 hf5 => ?_
  refine nc_ptr ?_
  refine px_run ?_
  refine stB_k hb5 (by simp [pgc]) fun w6 hb6 hf6 => ?_
  have f36 := (hf4.two hf5).two hf6
  -- the footprint behind
  obtain ⟨F', hF'⟩ : ∃ F' : Nat → Prop, F' = fun i => F i ∨ i = mn' ∨ i = mc' ∨ i = mi' := ⟨_, rfl⟩
  have hFF : ∀ i, F i → F' i := fun i hi => by rw [hF']; exact .inl hi
  have hg : Grows w F F' := fun i hi => by
    rw [hF'] at hi
    rcases hi with hi | rfl | rfl | rfl
    · exact .inl hi
    · exact .inr (by omega)
    · exact .inr (by omega)
    · exact .inr (by omega)
  have hFd : ∀ i, Fd i → i < w.heap.size := fun i hi => hbo i (h.fd i hi)
  have hN6 := ((hN.fr0 hf2).fr0 hf3).fr f36 (fun e => by have e' : mn' = b := e; omega)
  have hC6 := (hC.fr0 hf3).fr f36 (fun e => by have e' : mc' = b := e; omega)
  have hI6 := hI.fr f36 (fun e => by have e' : mi' = b := e; omega)
  have f6 : Fr F w w6 := (f3.mono fun _ h => h.elim).two (f36.mono fun i e => by
    have e' : i = b := e
    rw [e']; exact h.own.1)
  have h6 : PgR w6 b d r md mn' mi' mc' { p with now := [], count := [], idle := [] } F' Fd := by
    refine ⟨hb6, h3.disk.fr f36 (fun i hi e => h.off.1 (e ▸ hi)), h3.ring.fr f36 (fun e => (h3.ring.blk.ne h3.blk (by decide)) e), h3.dirty.fr f36 (PM.ne_bk h3.dirty h3.blk), hN6, hI6, hC6, ho, fun i hi => hFF i (h.fd i hi), ?_, ?_, ?_, ?_⟩
    · rw [hF']
      exact ⟨.inl h.own.1, .inl h.own.2.1, .inl h.own.2.2.1, .inr (.inl rfl), .inr (.inr (.inr rfl)), .inr (.inr (.inl rfl))⟩
    · exact ⟨h.off.1, h.off.2.1, h.off.2.2.1, fun e => by have := hFd _ e; omega, fun e => by have := hFd _ e; omega, fun e => by have := hFd _ e; omega⟩
    · exact ⟨by omega, by omega, by omega, by omega, by omega, by omega⟩
    · rw [hF']
      rintro i (hi | rfl | rfl | rfl)
      · exact mu_of h3.mu f36 (fun i hi => by
          have e : i = b := hi
          subst e
          exact .inl ⟨_, _, hb6, by simp⟩) i hi
      · exact PM.mu hN6
      · exact PM.mu hC6
      · exact PM.mu hI6
  refine get_k h6 ⟨Int.le_refl _, show (0 : Int) < p.pages by omega⟩ (fun e w2 he _ _ => by rw [hget] at he; cases he) (fun s w7 he hs hf7 => ?_)
  rw [hget] at he
  cases he
  generalize p.cview 0 = s at hs hkeep hget
  refine px_run ?_
  refine px_run ?_
  refine alloc_k (P := P) (z := zeros 512) fun b3 w8 hb3e hb3 hf8 => ?_
  rw [zeros_bs] at hb3
  refine stA0_k hb3 (atoms_bs _) (by rw [bs_length]; exact hs) (by rw [bs_length, z512]) fun w9 hb39 hf9 => ?_
  have s7 := hf7.size
  have f69 : Fr no w6 w9 := (tr hf7 hf8).new hf9 (fun i hi => by omega)
  refine px_run ?_
  refine cnd_false ?_
  refine ldA0 hb39 (by rw [bs_length]; exact hs) ?_
  refine of_k hs fun w10 hf10 => ?_
  have f610 := tr f69 hf10
  have h10 := h6.fr0 f610
  rw [hkeep]
  refine nc_ptr ?_
  refine px_run ?_
  refine stA_k (P := P) (xs := menc m0) h10.blk (fun x hx => by simp only [menc, List.mem_cons, List.not_mem_nil, or_false] at hx; rcases hx with rfl | rfl | rfl | rfl <;> exact inferInstance) rfl (by simp [pgc, menc]) fun w11 hb11 hf11 => ?_
  refine nc_ptr ?_
  refine px_run ?_
  refine ldA (P := P) (xs := menc m0) hb11 (fun j hj => by match j, hj with | 0, _ => rfl | 1, _ => rfl | 2, _ => rfl | 3, _ => rfl) rfl ?_
  refine nc_ptr ?_
  refine px_run ?_
  refine stA_k (P := P) (xs := menc m0) hb11 (fun x hx => by simp only [menc, List.mem_cons, List.not_mem_nil, or_false] at hx; rcases hx with rfl | rfl | rfl | rfl <;> exact inferInstance) rfl (by rw [spl_length (by simp [pgc, menc])]; simp [pgc, menc]) fun w12 hb12 hf12 => ?_
  have h12 : PgR w12 b d r md mn' mi' mc' { p with now := [], count := [], idle := [], m := m0, kept := m0 } F' Fd := h10.setMK (m := m0) (k := m0) hb12 (hf11.two hf12)
  have f12 : Fr F w w12 := (f6.then f610).two ((hf11.two hf12).mono fun i e => by
    have e' : i = b := e
    rw [e']; exact h.own.1)
  refine nc_ptr ?_
  refine px_run ?_
  refine px_run ?_
  refine ldB h12.blk rfl ?_
  -- along the chain
  have hab : p.abort = ({ p with now := [], count := [], idle := [], m := m0, kept := m0 } : Pg).chain p.pages.toNat m0.head := by
    unfold Pg.abort
    simp only [hget, hkeep]
  have hu2 := hg0.u2
  have hlen := hg0.len
  have hcv : ∀ n, ({ p with now := [], count := [], idle := [], m := m0, kept := m0 } : Pg).cview n = p.cview n := fun _ => rfl
  refine cut_of (fun _ w' => PgR w' b d r md mn' mi' mc' p.abort.1 F' Fd ∧ Fr F w w' ∧ p.abort.2 = 0) ?_ ?_
  · refine lp_of (fun vs w' => ∃ (n : Int) (f : Nat) (l : List Int) (i : List (Int × Unit)), vs = [iv n] ∧ ({ p with now := [], count := [], idle := i, m := m0, kept := m0 } : Pg).chain f n = p.abort ∧ Chain p.cview m0.used n l ∧ l.Nodup ∧ l.length ≤ f ∧ (∀ a ∈ l, mget i a = none) ∧ i.length + l.length = ch.length ∧
        PgR w' b d r md mn' mi' mc' { p with now := [], count := [], idle := i, m := m0, kept := m0 } F' Fd ∧ Fr F w w')
      (fun _ w' => ch.length - mapLen w' mi') ⟨m0.head, p.pages.toNat, ch, [], rfl, hab.symm, hg0.chain, hg0.nodup, by omega, fun _ _ => rfl, by simp, h12, f12⟩ ?_
    rintro vs w' ⟨n, f, l, i, rfl, hch, hcl, hnd, hlf, hni, hil, hR', fw'⟩
    simp only [g0_cons]
    refine px_run ?_
    cases l with
    | nil =>
      have hn0 : n = 0 := hcl
      subst hn0
      refine cnd_false ?_
      have e : p.abort = ({ p with now := [], count := [], idle := i, m := m0, kept := m0 }, 0) := by
        rw [← hch]
        cases f with
        | zero => rfl
        | succ f => unfold Pg.chain; rw [if_pos (.inl rfl)]
      rw [e]
      exact ⟨hR', fw', rfl⟩
    | cons a l =>
      obtain ⟨rfl, c1, c2, c3⟩ := hcl
      have hnd' := List.nodup_cons.1 hnd
      have e1 : decide (n ≠ 0) = true := by simp; omega
      simp only [e1]
      refine cnd_true ?_
      refine px_run ?_
      have e2 : decide (n < 0) = false := by simp; omega
      simp only [e2]
      refine gd_ff ?_
      refine gd_ff ?_
      refine gd_ff ?_
      refine nc_ptr ?_
      refine gd_ff ?_
      refine px_run ?_
      refine gd_ff ?_
      refine ldB hR'.blk rfl ?_
      refine gd_ff ?_
      refine px_run ?_
      refine pk_false ?_
      have e3 : decide (n ≥ p.pages) = false := by simp; omega
      simp only [e3]
      refine gd_ff ?_
      refine gd_ff ?_
      refine nc_ptr ?_
      refine gd_ff ?_
      refine px_run ?_
      refine gd_ff ?_
      refine ldB hR'.blk rfl ?_
      refine gd_ff ?_
      refine gd_ff ?_
      refine pm_get1 (P := P) hR'.idle ?_
      have e4 : mget i n = none := hni n (.head _)
      rw [show mget ({ p with now := [], count := [], idle := i, m := m0, kept := m0 } : Pg).idle n = none from e4]
      simp only [Option.map_none, Option.getD_none]
      refine pk_false ?_
      refine cnd_false ?_
      refine nc_ptr ?_
      refine px_run ?_
      refine ldB hR'.blk rfl ?_
      refine pm_put (P := P) hR'.idle (x := ()) rfl fun w13 hI13 hf13 => ?_
      have h13 := hR'.setI hI13 hf13
      have f13 : Fr F w w13 := fw'.trans hf13 fun j e => .inr (by
        have e' : j = mi' := e
        omega)
      obtain ⟨f, rfl⟩ : ∃ g, f = g + 1 := ⟨f - 1, by simp only [List.length_cons] at hlf; omega⟩
      unfold Pg.chain at hch
      rw [if_neg (by
        rintro (h | h | h | h)
        · omega
        · omega
        · have h' : p.pages ≤ n := h; omega
        · have h' : (mget i n).isSome = true := h
          rw [e4] at h'
          cases h')] at hch
      have hgn : ({ p with now := [], count := [], idle := mput i n (), m := m0, kept := m0 } : Pg).get n = .ok (p.cview n) := by
        rw [h13.ok.get ha (by omega) (show n < p.pages by omega)]
        rfl
      simp only [hgn] at hch
      refine get_k h13 ⟨by omega, show n < p.pages by omega⟩ (fun e w2 he _ _ => by
        have he' : ({ p with now := [], count := [], idle := mput i n (), m := m0, kept := m0 } : Pg).get n = .error e := he
        rw [hgn] at he'; cases he') (fun s2 w14 he2 hs2 hf14 => ?_)
      have he3 : ({ p with now := [], count := [], idle := mput i n (), m := m0, kept := m0 } : Pg).get n = .ok s2 := he2
      rw [hgn] at he3
      cases he3
      generalize p.cview n = s2 at hs2 hch c3
      refine px_run ?_
      refine px_run ?_
      refine alloc_k (P := P) (z := zeros 512) fun b6 w15 hb6e hb6 hf15 => ?_
      rw [zeros_bs] at hb6
      refine stA0_k hb6 (atoms_bs _) (by rw [bs_length]; exact hs2) (by rw [bs_length, z512]) fun w16 hb66 hf16 => ?_
      have s14 := hf14.size
      have f1316 : Fr no w13 w16 := (tr hf14 hf15).new hf16 (fun i hi => by omega)
      have h16 := h13.fr0 f1316
      refine px_run ?_
      refine cnd_false ?_
      refine px_of (slcAh_run (n := 512) (i := 4) rfl (by omega) (by omega)) ?_
      have hl4 : (s2.take 4).length = 4 := by rw [List.length_take]; omega
      have hsl : Sl w16 (.slice (some ⟨b6, 0, none⟩) 4 512) 1 (s2.take 4).length (bs (s2.take 4)) := by
        rw [hl4]
        refine hb66.sl (fun j hj => ?_) (by rw [bs_length, hl4]) (by omega)
        rw [bs_length, hl4] at hj
        rw [Nat.zero_add, ← bs_take, List.getElem?_take, if_pos hj]
      refine number_k hsl (by omega) (by
        have := num_lt (s2.take 4)
        rw [hl4] at this
        have e : (256 : Nat) ^ 4 = 4294967296 := by decide
        omega) ?_
      refine ⟨⟨_, f, l, mput i n (), rfl, hch, c3, hnd'.2, by simpa using hlf, fun c hc => ?_, ?_, h16, f13.then f1316⟩, ?_⟩
      · rw [mget_mput, if_neg (by rintro rfl; exact hnd'.1 hc)]
        exact hni c (.tail _ hc)
      · rw [mput_len e4]
        simp only [List.length_cons] at hil
        omega
      · rw [PM.mapLen h16.idle, PM.mapLen hR'.idle]
        show ch.length - (mput i n ()).length < ch.length - i.length
        rw [mput_len e4]
        simp only [List.length_cons] at hil
        omega
  · rintro _ w' ⟨hR', fw', he⟩
    rw [he] at k
    exact k w' F' ⟨r, md, mn', mi', mc', Fd, hR'⟩ fw' hg
theorem abort_k (h : PgM w b d p F) (hw : p.WF) (k : ∀ w1 F', PgM w1 b d p.abort.1 F' → Fr F w w1 → Grows w F F' → K (iv p.abort.2) w1) : cl P 90 #[pt b] w K := by
  obtain ⟨ch, hg⟩ := hw.old
  exact abort_gk h hw.alive hw.keep hg k
end
end Go.Proofs.YtomggfibpbaodaaGreatDoor
