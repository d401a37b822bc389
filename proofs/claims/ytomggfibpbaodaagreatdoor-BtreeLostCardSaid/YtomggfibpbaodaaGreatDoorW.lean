/-
  The pager's states that may be: plain law, no program in sight.
-/
import Derived.Test.YtomggfibpbaodaaGreatDoorM
set_option maxRecDepth 100000
namespace Go.Proofs.YtomggfibpbaodaaGreatDoor
open Go.V

/-- What a page reads as. -/
def Pg.cview (p : Pg) (n : Int) : Sec := (mget p.dirty n).getD (p.D.at (p.first + n).toNat)
def Pg.view (p : Pg) (n : Int) : Sec := (mget p.now n).getD (p.cview n)
/-- The free pages, from one on. -/
def Chain (v : Int → Sec) (used : Int) : Int → List Int → Prop
  | h, [] => h = 0
  | h, a :: l => h = a ∧ 0 < a ∧ a < used ∧ Chain v used (num ((v a).take 4)) l
structure Good (v : Int → Sec) (m : Meta) (pages : Int) (ch : List Int) : Prop where
  chain : Chain v m.used m.head ch
  nodup : ch.Nodup
  free : m.free = ch.length
  u1 : 1 ≤ m.used
  u2 : m.used ≤ pages
  r0 : 0 ≤ m.root
  r1 : m.root < pages
structure Pg.Ok (p : Pg) : Prop where
  D : p.D.WF
  R : p.R.WF
  first : p.first = 1 + places p.D
  pages : p.pages = (p.D.lasts.length : Int) - 1 - places p.D
  len : 64 ≤ p.D.lasts.length
  rf : p.R.first = 1
  rc : p.R.count = places p.D
  dk : ∀ x ∈ p.dirty, 0 ≤ x.1 ∧ x.1 < p.pages ∧ x.2.length = 512
  nk : ∀ x ∈ p.now, 0 < x.1 ∧ x.1 < p.pages ∧ x.2.length = 512
  da : Asc p.dirty
  na : Asc p.now
  ia : Asc p.idle
  cnt : p.count.map (·.1) = p.now.map (·.1)
structure Pg.WF (p : Pg) : Prop where
  ok : p.Ok
  waits : p.D.waits = []
  alive : p.D.dead = false
  cur : ∃ ch, Good p.view p.m p.pages ch ∧ ∀ n, (mget p.idle n).isSome ↔ n ∈ ch
  old : ∃ ch, Good p.cview p.kept p.pages ch
  keep : Meta.of (p.cview 0) = p.kept
theorem Chain.mem {v : Int → Sec} {used : Int} : ∀ {h : Int} {l : List Int}, Chain v used h l → ∀ a ∈ l, 0 < a ∧ a < used
  | _, [], _, _, ha => by cases ha
  | _, b :: l, h, a, ha => by
    rcases List.mem_cons.1 ha with rfl | ha
    · exact ⟨h.2.1, h.2.2.1⟩
    · exact h.2.2.2.mem a ha
theorem Chain.congr {v v' : Int → Sec} {used used' : Int} (hu : used ≤ used') : ∀ {h : Int} {l : List Int}, (∀ a ∈ l, v a = v' a) → Chain v used h l → Chain v' used' h l
  | _, [], _, h => h
  | _, b :: l, e, h => ⟨h.1, h.2.1, by have := h.2.2.1; omega, by rw [← e b (.head _)]; exact h.2.2.2.congr hu fun a ha => e a (.tail _ ha)⟩
theorem places_le (D : Disk) : places D ≤ D.lasts.length := Nat.div_le_self _ _
theorem Pg.Ok.small {p : Pg} (h : p.Ok) : 0 ≤ p.first ∧ p.first + p.pages = p.D.lasts.length ∧ p.pages ≤ 65536 ∧ 1 ≤ p.pages ∧ p.D.lasts.length ≤ 65536 := by
  have h1 := h.first
  have h2 := h.pages
  have h3 := h.len
  have h4 := h.D.most
  have h5 : places p.D = p.D.lasts.length / 4 := rfl
  omega
theorem w64_id {n : Int} (h1 : -9223372036854775808 ≤ n) (h2 : n ≤ 9223372036854775807) : w64 n = n := wrap_i64 h1 h2
theorem Disk.get_ok {D : Disk} (ha : D.dead = false) {i : Int} (h0 : 0 ≤ i) (h1 : i < D.lasts.length) : D.get i = .ok (D.at i.toNat) := by
  unfold Disk.get
  rw [ha, if_neg (by simp), if_neg (by omega)]
theorem Pg.Ok.get {p : Pg} (h : p.Ok) (ha : p.D.dead = false) {n : Int} (h0 : 0 ≤ n) (h1 : n < p.pages) : p.get n = .ok (p.view n) := by
  have hs := h.small
  unfold Pg.get Pg.view Pg.cview
  cases hn : mget p.now n with
  | some s => simp
  | none =>
    cases hd : mget p.dirty n with
    | some s => simp
    | none =>
      simp only [Option.getD_none]
      rw [w64_id (by omega) (by omega), Disk.get_ok ha (by omega) (by omega)]
theorem Pg.Ok.cview_len {p : Pg} (h : p.Ok) {n : Int} (h0 : 0 ≤ n) (h1 : n < p.pages) : (p.cview n).length = 512 := by
  have hs := h.small
  unfold Pg.cview
  cases hd : mget p.dirty n with
  | some s => exact (h.dk _ (mget_mem hd)).2.2
  | none => exact Disk.at_length h.D (by omega)
theorem Pg.Ok.view_len {p : Pg} (h : p.Ok) {n : Int} (h0 : 0 ≤ n) (h1 : n < p.pages) : (p.view n).length = 512 := by
  unfold Pg.view
  cases hn : mget p.now n with
  | some s => exact (h.nk _ (mget_mem hn)).2.2
  | none => exact h.cview_len h0 h1
theorem Pg.lay_view (p : Pg) (n : Int) (s : Sec) (i : Int) : (p.lay n s).view i = if i = n then s else p.view i := by
  unfold Pg.view Pg.lay
  simp only [mget_mput]
  split
  · rfl
  · rfl
theorem mput_keys {α β : Type} {l : List (Int × α)} {r : List (Int × β)} (h : l.map (·.1) = r.map (·.1)) (n : Int) (x : α) (y : β) : (mput l n x).map (·.1) = (mput r n y).map (·.1) := by
  induction l generalizing r with
  | nil => cases r with
    | nil => rfl
    | cons q r => simp at h
  | cons p l ih =>
    obtain ⟨k, v⟩ := p
    cases r with
    | nil => simp at h
    | cons q r =>
      obtain ⟨k', v'⟩ := q
      simp only [List.map_cons, List.cons.injEq] at h
      obtain ⟨rfl, h⟩ := h
      unfold mput
      split
      · simp [h]
      · split
        · simp [h]
        · simp [ih h]
theorem Pg.Ok.lay {p : Pg} (h : p.Ok) {n : Int} {s : Sec} (h0 : 0 < n) (h1 : n < p.pages) (hs : s.length = 512) : (p.lay n s).Ok := {
  D := h.D
  R := h.R
  first := h.first
  pages := h.pages
  len := h.len
  rf := h.rf
  rc := h.rc
  dk := h.dk
  nk := fun x hx => by
    rcases mput_mem hx with rfl | hx
    · exact ⟨h0, h1, hs⟩
    · exact h.nk x hx
  da := h.da
  na := asc_mput h.na _ _
  ia := h.ia
  cnt := mput_keys h.cnt _ _ _ }
/-- The metas and what is idle may be changed. -/
theorem Pg.Ok.setM {p : Pg} (h : p.Ok) (m : Meta) (i : List (Int × Unit)) (hi : Asc i) : ({ p with m := m, idle := i } : Pg).Ok :=
  ⟨h.D, h.R, h.first, h.pages, h.len, h.rf, h.rc, h.dk, h.nk, h.da, h.na, hi, h.cnt⟩
theorem zs_length (n : Nat) : (zs n).length = n := List.length_replicate
theorem be_length : ∀ (k : Nat) (n : Int), (be k n).length = k
  | 0, _ => rfl
  | k + 1, n => by simp [be, be_length k n]
theorem Pg.uses_iff {p : Pg} {n : Int} : p.uses n = true ↔ 0 < n ∧ n < p.m.used ∧ mget p.idle n = none := by
  unfold Pg.uses
  simp only [Bool.and_eq_true, decide_eq_true_eq, Option.isNone_iff_eq_none, and_assoc]
theorem Pg.WF.uses_lt {p : Pg} (h : p.WF) {n : Int} (hn : p.uses n = true) : 0 < n ∧ n < p.pages := by
  obtain ⟨h1, h2, _⟩ := Pg.uses_iff.1 hn
  obtain ⟨ch, hg, _⟩ := h.cur
  exact ⟨h1, by have := hg.u2; omega⟩
theorem Pg.WF.write {p : Pg} (h : p.WF) (n : Int) (s : Sec) : (p.write n s).1.WF := by
  unfold Pg.write
  split
  · exact h
  · rename_i hn
    simp only [not_or, Bool.not_eq_false, Decidable.not_not] at hn
    have hu := h.uses_lt hn.1
    obtain ⟨_, _, hi⟩ := Pg.uses_iff.1 hn.1
    obtain ⟨ch, hg, hid⟩ := h.cur
    refine ⟨h.ok.lay hu.1 hu.2 hn.2, h.waits, h.alive, ⟨ch, ⟨hg.chain.congr (Int.le_refl _) fun a ha => ?_, hg.nodup, hg.free, hg.u1, hg.u2, hg.r0, hg.r1⟩, hid⟩, h.old, h.keep⟩
    rw [Pg.lay_view, if_neg]
    rintro rfl
    have := (hid a).2 ha
    rw [hi] at this
    cases this
theorem Pg.WF.setRoot {p : Pg} (h : p.WF) (n : Int) : (p.setRoot n).1.WF := by
  unfold Pg.setRoot
  split
  · exact h
  · rename_i hn
    have hs := h.ok.small
    have hr : 0 ≤ n ∧ n < p.pages := by
      by_cases h0 : n = 0
      · omega
      · have hu : p.uses n = true := by
          cases hb : p.uses n with
          | true => rfl
          | false => exact absurd ⟨h0, hb⟩ hn
        have := h.uses_lt hu
        omega
    obtain ⟨ch, hg, hid⟩ := h.cur
    exact ⟨h.ok.setM _ _ h.ok.ia, h.waits, h.alive, ⟨ch, ⟨hg.chain, hg.nodup, hg.free, hg.u1, hg.u2, hr.1, hr.2⟩, hid⟩, h.old, h.keep⟩
theorem length_le_sub : ∀ {l r : List Int}, l.Nodup → (∀ a ∈ l, a ∈ r) → l.length ≤ r.length
  | [], _, _, _ => Nat.zero_le _
  | a :: l, r, hn, hs => by
    have hn' := List.nodup_cons.1 hn
    have ha := hs a (.head _)
    have := length_le_sub (r := r.erase a) hn'.2 fun b hb => (List.mem_erase_of_ne (by rintro rfl; exact hn'.1 hb)).2 (hs b (.tail _ hb))
    rw [List.length_erase_of_mem ha] at this
    have hp : 0 < r.length := List.length_pos_of_mem ha
    simp only [List.length_cons]
    omega
theorem length_le_of_nodup {ch : List Int} (hn : ch.Nodup) {u : Int} (h : ∀ a ∈ ch, 0 < a ∧ a < u) (hu : 1 ≤ u) : (ch.length : Int) ≤ u - 1 := by
  have := length_le_sub (r := (List.range (u - 1).toNat).map fun (i : Nat) => (i : Int) + 1) hn fun a ha => by
    have := h a ha
    exact List.mem_map.2 ⟨(a - 1).toNat, List.mem_range.2 (by omega), by omega⟩
  simp only [List.length_map, List.length_range] at this
  omega
theorem Good.len {v : Int → Sec} {m : Meta} {pages : Int} {ch : List Int} (h : Good v m pages ch) : (ch.length : Int) ≤ m.used - 1 := length_le_of_nodup h.nodup h.chain.mem h.u1
theorem Pg.WF.free_eq {p : Pg} (h : p.WF) : p.free = p.pages - p.m.used + p.m.free := by
  obtain ⟨ch, hg, _⟩ := h.cur
  have hs := h.ok.small
  have hl := hg.len
  have h1 := hg.u1
  have h2 := hg.u2
  have h3 := hg.free
  unfold Pg.free
  rw [w64_id (n := p.pages - p.m.used) (by omega) (by omega), w64_id (by omega) (by omega)]
/-- How many pages are free is what an allocation takes one off. -/
theorem Pg.WF.alloc {p : Pg} (h : p.WF) : p.alloc.1.WF := by
  have hfr := h.free_eq
  have hs := h.ok.small
  obtain ⟨ch, hg, hid⟩ := h.cur
  have hlen := hg.len
  have hu1 := hg.u1
  have hu2 := hg.u2
  have hf := hg.free
  unfold Pg.alloc
  split
  · exact h
  · rename_i hne
    split
    · rename_i hh
      cases ch with
      | cons a l =>
        have h1 := hg.chain.1
        have h2 := hg.chain.2.1
        omega
      | nil =>
        have hf0 : p.m.free = 0 := by simpa using hf
        have hu : p.m.used < p.pages := by omega
        have hw : w64 (p.m.used + 1) = p.m.used + 1 := w64_id (by omega) (by omega)
        rw [hw]
        refine ⟨(h.ok.setM _ _ h.ok.ia).lay (n := p.m.used) (by omega) hu (zs_length 512), h.waits, h.alive, ⟨[], ⟨hh, List.nodup_nil, hf, ?_, ?_, hg.r0, hg.r1⟩, hid⟩, h.old, h.keep⟩
        · show 1 ≤ p.m.used + 1
          omega
        · show p.m.used + 1 ≤ p.pages
          omega
    · rename_i hh
      cases ch with
      | nil => exact absurd hg.chain hh
      | cons a l =>
        obtain ⟨h1, h2, h3, h4⟩ := hg.chain
        rw [h1, h.ok.get h.alive (by omega) (by omega)]
        have hn := List.nodup_cons.1 hg.nodup
        have hfl : p.m.free = (l.length : Int) + 1 := by simpa using hf
        have hw : w64 (p.m.free - 1) = p.m.free - 1 := w64_id (by omega) (by omega)
        simp only [hw]
        refine ⟨(h.ok.setM _ _ (asc_mdel h.ok.ia _)).lay (n := a) (by omega) (show a < p.pages by omega) (zs_length 512), h.waits, h.alive, ⟨l, ⟨h4.congr (Int.le_refl _) fun b hb => ?_, hn.2, ?_, hu1, hu2, hg.r0, hg.r1⟩, fun n => ?_⟩, h.old, h.keep⟩
        · rw [Pg.lay_view, if_neg (by rintro rfl; exact hn.1 hb)]
          rfl
        · show p.m.free - 1 = l.length
          omega
        · show (mget (mdel p.idle a) n).isSome ↔ n ∈ l
          rw [mget_mdel h.ok.ia]
          have := hid n
          split
          · rename_i he
            subst he
            simp [hn.1]
          · rename_i he
            rw [this]
            simp [he]
theorem num_nil : num [] = 0 := rfl
theorem foldl_be : ∀ (k : Nat) (n : Nat) (a : Nat), (be k (n : Int)).foldl (fun x c => x * 256 + c.toNat) a = a * 256 ^ k + n % 256 ^ k
  | 0, n, a => by simp [be, Nat.mod_one]
  | k + 1, n, a => by
    have hc : (UInt8.ofNat ((n : Int) / (256 ^ k : Nat) % 256).toNat).toNat = n / 256 ^ k % 256 := by
      have : ((n : Int) / (256 ^ k : Nat) % 256).toNat = n / 256 ^ k % 256 := by norm_cast
      rw [this]
      simp
    unfold be
    rw [List.foldl_cons, hc, foldl_be k n]
    rw [Nat.pow_succ, Nat.mod_mul, Nat.add_mul, Nat.mul_comm (256 ^ k) (n / 256 ^ k % 256), Nat.mul_assoc, Nat.mul_comm 256 (256 ^ k)]
    omega
theorem num_be {k n : Nat} (h : n < 256 ^ k) : num (be k (n : Int)) = n := by
  have := foldl_be k n 0
  unfold num
  rw [this, Nat.mod_eq_of_lt h]
  simp
theorem num_be4 {n : Int} (h0 : 0 ≤ n) (h : n < 4294967296) : (num (be 4 n) : Int) = n := by
  obtain ⟨m, rfl⟩ := Int.eq_ofNat_of_zero_le h0
  rw [num_be (by have : (256 : Nat) ^ 4 = 4294967296 := by decide
                 omega)]
theorem Pg.WF.drop {p : Pg} (h : p.WF) (n : Int) : (p.drop n).1.WF := by
  have hs := h.ok.small
  obtain ⟨ch, hg, hid⟩ := h.cur
  have hlen := hg.len
  have hu1 := hg.u1
  have hu2 := hg.u2
  have hf := hg.free
  unfold Pg.drop
  split
  · exact h
  · rename_i hn
    simp only [Bool.not_eq_false] at hn
    have hu := h.uses_lt hn
    obtain ⟨hp, hlt, hi⟩ := Pg.uses_iff.1 hn
    have hnm : n ∉ ch := fun hm => by
      have := (hid n).2 hm
      rw [hi] at this
      cases this
    have hw : w64 (p.m.free + 1) = p.m.free + 1 := w64_id (by omega) (by omega)
    have hhead : 0 ≤ p.m.head ∧ p.m.head < 4294967296 := by
      cases ch with
      | nil => have : p.m.head = 0 := hg.chain; omega
      | cons a l => obtain ⟨h1, h2, h3, _⟩ := hg.chain; omega
    rw [hw]
    have hl : (be 4 p.m.head ++ zs 508).length = 512 := by rw [List.length_append, be_length, zs_length]
    refine ⟨(h.ok.lay hu.1 hu.2 hl).setM _ _ (asc_mput h.ok.ia _ _), h.waits, h.alive, ⟨n :: ch, ⟨⟨rfl, hp, hlt, ?_⟩, List.nodup_cons.2 ⟨hnm, hg.nodup⟩, ?_, hu1, hu2, hg.r0, hg.r1⟩, fun i => ?_⟩, h.old, h.keep⟩
    · have e : ({ p.lay n (be 4 p.m.head ++ zs 508) with m := { p.m with head := n, free := p.m.free + 1 }, idle := mput p.idle n () } : Pg).view = (p.lay n (be 4 p.m.head ++ zs 508)).view := rfl
      rw [e, Pg.lay_view, if_pos rfl, List.take_left' (be_length 4 _), num_be4 hhead.1 hhead.2]
      refine hg.chain.congr (Int.le_refl _) fun a ha => ?_
      rw [Pg.lay_view, if_neg (by rintro rfl; exact hnm ha)]
    · show p.m.free + 1 = ((n :: ch).length : Int)
      simp only [List.length_cons]
      omega
    · show (mget (mput p.idle n ()) i).isSome ↔ i ∈ n :: ch
      rw [mget_mput]
      split
      · rename_i he
        subst he
        simp
      · rename_i he
        rw [hid i]
        simp [he]

/-! ### The disk -/
theorem applyAll_at : ∀ (l : List (Nat × Sec)) (L : List Sec) (k i : Nat), (∀ p ∈ l, p.1 < L.length) →
    (applyW (fun _ => true) k l L).getD i [] = (match lastW l (i : Int) with | some j => (l.getD j (0, [])).2 | none => L.getD i [])
  | [], _, _, _, _ => rfl
  | p :: l, L, k, i, h => by
    have hp := h p (.head _)
    rw [applyW, if_pos rfl, applyAll_at l (L.set p.1 p.2) (k + 1) i (fun q hq => by rw [List.length_set]; exact h q (.tail _ hq))]
    simp only [lastW]
    cases hq : lastW l (i : Int) with
    | some j => simp
    | none =>
      by_cases he : (p.1 : Int) = i
      · have he' : p.1 = i := by omega
        simp [he, ← he', hp]
      · have he' : p.1 ≠ i := by omega
        simp [he, he']
structure Disk.Kin (D D' : Disk) : Prop where
  wf : D'.WF
  len : D'.lasts.length = D.lasts.length
theorem Disk.Kin.trans {D D1 D2 : Disk} (h : D.Kin D1) (k : D1.Kin D2) : D.Kin D2 := ⟨k.wf, k.len.trans h.len⟩
theorem Disk.settle_kin {D : Disk} (h : D.WF) (kept : Nat → Bool) : D.Kin (D.settle kept) :=
  ⟨⟨applyW_mem kept 0 _ _ h.lasts (fun p hp => (h.waits p hp).2), fun _ hp => (by cases hp), by show 0 < (applyW kept 0 D.waits D.lasts).length; rw [applyW_length]; exact h.pos, by show (applyW kept 0 D.waits D.lasts).length ≤ 65536; rw [applyW_length]; exact h.most⟩, applyW_length _ _ _ _⟩
theorem Disk.crash_kin {D : Disk} (h : D.WF) (keep : List Bool) : D.Kin (D.crash keep) :=
  let k := Disk.settle_kin h (keptOf keep)
  ⟨⟨k.wf.lasts, k.wf.waits, k.wf.pos, k.wf.most⟩, k.len⟩
theorem Disk.tick_wf {D : Disk} (h : D.WF) : D.tick.WF := ⟨h.lasts, h.waits, h.pos, h.most⟩
theorem Disk.push_wf {D : Disk} (h : D.WF) {i : Nat} {s : Sec} (hi : i < D.lasts.length) (hs : s.length = 512) : (D.push i s).WF :=
  ⟨h.lasts, fun p hp => by
    rcases List.mem_append.1 hp with hp | hp
    · exact h.waits p hp
    · simp only [List.mem_singleton] at hp
      subst hp
      exact ⟨hi, hs⟩, h.pos, h.most⟩
theorem Disk.push_at (D : Disk) (i : Nat) (s : Sec) (j : Nat) : (D.push i s).at j = if j = i then s else D.at j := by
  unfold Disk.at Disk.push
  simp only [lastW_snoc]
  by_cases h : j = i
  · subst h
    simp
  · have h' : ¬ (i : Int) = j := by omega
    rw [if_neg h', if_neg h]
    cases hq : lastW D.waits (j : Int) with
    | none => rfl
    | some k =>
      have := lastW_lt hq
      simp only [List.getD_eq_getElem?_getD]
      rw [List.getElem?_append_left this]
/-- A disk that has died. -/
structure Disk.Died (D D' : Disk) : Prop where
  kin : D.Kin D'
  dead : D'.dead = true
  waits : D'.waits = []
theorem Disk.write_cases {D : Disk} (h : D.WF) (ha : D.dead = false) {i : Int} {s : Sec} (h0 : 0 ≤ i) (h1 : i < D.lasts.length) (hs : s.length = 512) :
    ((D.write i s).2 = 0 ∧ (D.write i s).1.dead = false ∧ D.Kin (D.write i s).1 ∧ (D.write i s).1.waits.length = D.waits.length + 1 ∧ ∀ j : Nat, (D.write i s).1.at j = if (j : Int) = i then s else D.at j) ∨
    ((D.write i s).2 = 20 ∧ D.Died (D.write i s).1) := by
  have hw := Disk.push_wf h (i := i.toNat) (s := s) (by omega) hs
  unfold Disk.write
  rw [ha, if_neg (by simp), if_neg (by omega)]
  split
  · have k := Disk.crash_kin hw D.keep
    exact .inr ⟨rfl, ⟨⟨k.wf, k.len⟩, rfl, rfl⟩⟩
  · refine .inl ⟨rfl, ha, ⟨Disk.tick_wf hw, rfl⟩, by simp [Disk.tick, Disk.push], fun j => ?_⟩
    have := Disk.push_at D i.toNat s j
    show (D.push i.toNat s).at j = _
    rw [this]
    by_cases hj : j = i.toNat
    · rw [if_pos hj, if_pos (by omega)]
    · rw [if_neg hj, if_neg (by omega)]
theorem Disk.flush_cases {D : Disk} (h : D.WF) (ha : D.dead = false) :
    (D.flush.2 = 0 ∧ D.flush.1.dead = false ∧ D.Kin D.flush.1 ∧ D.flush.1.waits = [] ∧ ∀ j : Nat, D.flush.1.at j = D.at j) ∨ (D.flush.2 = 20 ∧ D.Died D.flush.1) := by
  unfold Disk.flush
  rw [ha, if_neg (by simp)]
  split
  · have k := Disk.crash_kin h D.keep
    exact .inr ⟨rfl, ⟨⟨k.wf, k.len⟩, rfl, rfl⟩⟩
  · have k := Disk.settle_kin (Disk.tick_wf h) (fun _ => true)
    refine .inl ⟨rfl, ha, ⟨k.wf, k.len⟩, rfl, fun j => ?_⟩
    have := applyAll_at D.waits D.lasts 0 j (fun p hp => (h.waits p hp).1)
    exact this
theorem mark_length : mark.length = 8 := rfl
theorem Disk.head_cases {D : Disk} (h : D.WF) (ha : D.dead = false) (base : Int) :
    ((D.head base).2 = 0 ∧ (D.head base).1.dead = false ∧ D.Kin (D.head base).1 ∧ (D.head base).1.waits = [] ∧ ∀ j : Nat, (D.head base).1.at j = if j = 0 then mark ++ be 8 base ++ zs 496 else D.at j) ∨
    ((D.head base).2 = 20 ∧ D.Died (D.head base).1) := by
  have hl : (mark ++ be 8 base ++ zs 496).length = 512 := by rw [List.length_append, List.length_append, be_length, zs_length, mark_length]
  have hp := h.pos
  unfold Disk.head
  rcases Disk.write_cases h ha (i := 0) (s := mark ++ be 8 base ++ zs 496) (by omega) (by omega) hl with ⟨e, d, k, _, a⟩ | ⟨e, d⟩
  · simp only
    rw [e, if_neg (by simp)]
    rcases Disk.flush_cases k.wf d with ⟨e2, d2, k2, w2, a2⟩ | ⟨e2, d2⟩
    · refine .inl ⟨e2, d2, k.trans k2, w2, fun j => ?_⟩
      rw [a2, a]
      by_cases hj : j = 0
      · rw [if_pos (by omega), if_pos hj]
      · rw [if_neg (by omega), if_neg hj]
    · exact .inr ⟨e2, ⟨k.trans d2.kin, d2.dead, d2.waits⟩⟩
  · simp only
    rw [e, if_pos (by simp)]
    exact .inr ⟨e, d⟩
theorem Disk.lays_cases (first : Int) : ∀ (l : List (Int × Sec)) (D : Disk), D.WF → D.dead = false → 0 ≤ first → Asc l → (∀ x ∈ l, 0 ≤ x.1 ∧ first + x.1 < D.lasts.length ∧ x.2.length = 512) →
    ((Disk.lays first l D).2 = 0 ∧ (Disk.lays first l D).1.dead = false ∧ D.Kin (Disk.lays first l D).1 ∧ (Disk.lays first l D).1.waits.length = D.waits.length + l.length ∧
      ∀ j : Nat, (Disk.lays first l D).1.at j = (mget l ((j : Int) - first)).getD (D.at j)) ∨
    ((Disk.lays first l D).2 = 20 ∧ D.Died (Disk.lays first l D).1)
  | [], D, h, ha, _, _, _ => .inl ⟨rfl, ha, ⟨h, rfl⟩, rfl, fun _ => rfl⟩
  | (n, s) :: l, D, h, ha, h0, hasc, hl => by
    have hn := hl _ (.head _)
    simp only at hn
    have hm := h.most
    have hasc' := List.pairwise_cons.1 hasc
    unfold Disk.lays
    rw [w64_id (by omega) (by omega)]
    rcases Disk.write_cases h ha (i := first + n) (s := s) (by omega) (by omega) hn.2.2 with ⟨e, d, k, wl, a⟩ | ⟨e, d⟩
    · simp only
      rw [e, if_neg (by simp)]
      rcases Disk.lays_cases first l _ k.wf d h0 hasc'.2 (fun x hx => by rw [k.len]; exact hl x (.tail _ hx)) with ⟨e2, d2, k2, w2, a2⟩ | ⟨e2, d2⟩
      · refine .inl ⟨e2, d2, k.trans k2, by rw [w2, wl, List.length_cons]; omega, fun j => ?_⟩
        rw [a2, a]
        simp only [mget]
        by_cases hj : (j : Int) - first = n
        · rw [if_pos hj, hj, mget_none fun q hq => by have := hasc'.1 q hq; simp only at this; omega, if_pos (by omega)]
          rfl
        · rw [if_neg hj, if_neg (by omega)]
      · exact .inr ⟨e2, ⟨k.trans d2.kin, d2.dead, d2.waits⟩⟩
    · simp only
      rw [e, if_pos (by simp)]
      exact .inr ⟨e, d⟩
/-! ### The ring -/
theorem pieceOf_n {s : Sec} {p : Piece} (h : pieceOf s = some p) : 1 ≤ p.n ∧ p.n ≤ 4611686018427387904 ∧ p.data.length ≤ 501 := by
  unfold pieceOf at h
  simp only at h
  split at h
  · cases h
  · rename_i h1
    split at h
    · cases h
    · cases h
      simp only [not_or, Nat.not_lt] at h1
      refine ⟨h1.1, h1.2.1, ?_⟩
      rw [List.length_take]
      omega
theorem Ring.pieceAt_n {r : Ring} {D : Disk} {i : Nat} {p : Piece} (h : r.pieceAt D i = some p) : 1 ≤ p.n ∧ p.n ≤ 4611686018427387904 ∧ p.data.length ≤ 501 := by
  unfold Ring.pieceAt at h
  split at h
  · cases h
  · rename_i q hq
    split at h
    · cases h; exact pieceOf_n hq
    · cases h
theorem Ring.recsF_last {r : Ring} {D : Disk} : ∀ (f n : Nat) (out : List Str) (now : Str) (last : Nat), last ≤ n → last ≤ 4611686018427387904 →
    last ≤ (r.recsF D f n out now last).2 ∧ (r.recsF D f n out now last).2 ≤ n + f ∧ (r.recsF D f n out now last).2 ≤ 4611686018427387904
  | 0, n, out, now, last, h, h2 => ⟨Nat.le_refl _, h, h2⟩
  | f + 1, n, out, now, last, h, h2 => by
    unfold Ring.recsF
    split
    · exact ⟨Nat.le_refl _, by omega, h2⟩
    · rename_i p hp
      have hp' := Ring.pieceAt_n hp
      split
      · rename_i hn
        split
        · have := Ring.recsF_last (r := r) (D := D) f (n + 1) (out ++ [now ++ p.data]) [] (n + 1) (Nat.le_refl _) (by omega)
          omega
        · have := Ring.recsF_last (r := r) (D := D) f (n + 1) out (now ++ p.data) last (by omega) h2
          omega
      · exact ⟨Nat.le_refl _, by omega, h2⟩
theorem Ring.topF_le {r : Ring} {D : Disk} : ∀ (f i top : Nat), top ≤ 4611686018427387904 → top ≤ r.topF D f i top ∧ r.topF D f i top ≤ 4611686018427387904
  | 0, _, _, h => ⟨Nat.le_refl _, h⟩
  | f + 1, i, top, h => by
    unfold Ring.topF
    split
    · exact Ring.topF_le f (i + 1) top h
    · rename_i p hp
      have hp' := Ring.pieceAt_n hp
      have := Ring.topF_le (r := r) (D := D) f (i + 1) (max top p.n) (by omega)
      omega
theorem Ring.open_wf {D : Disk} {first count base : Nat} (h0 : 0 < count) (h1 : first + count ≤ 65536) (hb : base ≤ 4611686018427387904) : (Ring.open D first count base).1.WF := by
  have h2 := Ring.recsF_last (r := Ring.start first count base) (D := D) count base [] [] base (Nat.le_refl _) hb
  have h3 := Ring.topF_le (r := Ring.start first count base) (D := D) count 0 base hb
  exact ⟨h0, h1, h2.1, h2.2.1, h2.2.2, h3.2⟩

theorem Ring.place_lt {r : Ring} (h : 0 < r.count) (n : Nat) : r.first ≤ r.place n ∧ r.place n < r.first + r.count := by
  have := Nat.mod_lt n h
  unfold Ring.place
  omega
theorem le8_length (n : Nat) : (le8 n).length = 8 := by simp [le8]
theorem Piece.sector_length {p : Piece} (h : p.data.length ≤ 501) : p.sector.length = 512 := by
  unfold Piece.sector
  simp only [List.length_append, le8_length, List.length_cons, List.length_nil, List.length_replicate]
  omega
theorem Ring.writes_cases {r : Ring} (h0 : 0 < r.count) (l : Str) (n : Nat) : ∀ (f i : Nat) (D : Disk), D.WF → D.dead = false → r.first + r.count ≤ D.lasts.length →
    ((r.writes l n f i D).2 = 0 ∧ (r.writes l n f i D).1.dead = false ∧ D.Kin (r.writes l n f i D).1 ∧ (r.writes l n f i D).1.waits.length = D.waits.length + f ∧
      ∀ j : Nat, (j < r.first ∨ r.first + r.count ≤ j) → (r.writes l n f i D).1.at j = D.at j) ∨
    ((r.writes l n f i D).2 = 20 ∧ D.Died (r.writes l n f i D).1)
  | 0, i, D, h, ha, _ => .inl ⟨rfl, ha, ⟨h, rfl⟩, rfl, fun _ _ => rfl⟩
  | f + 1, i, D, h, ha, hl => by
    have hp := Ring.place_lt h0 (r.last + 1 + i)
    have hs : (Piece.sector ⟨r.last + 1 + i, decide (i = n - 1), (l.drop (i * 501)).take 501⟩).length = 512 := Piece.sector_length (by simp only [List.length_take]; omega)
    unfold Ring.writes
    rcases Disk.write_cases h ha (i := (r.place (r.last + 1 + i) : Nat)) (by omega) (by omega) hs with ⟨e, d, k, wl, a⟩ | ⟨e, d⟩
    · simp only
      rw [e, if_neg (by simp)]
      rcases Ring.writes_cases h0 l n f (i + 1) _ k.wf d (by rw [k.len]; exact hl) with ⟨e2, d2, k2, w2, a2⟩ | ⟨e2, d2⟩
      · refine .inl ⟨e2, d2, k.trans k2, by rw [w2, wl]; omega, fun j hj => ?_⟩
        rw [a2 j hj, a, if_neg (by omega)]
      · exact .inr ⟨e2, ⟨k.trans d2.kin, d2.dead, d2.waits⟩⟩
    · simp only
      rw [e, if_pos (by simp)]
      exact .inr ⟨rfl, d⟩
theorem pieces_pos (n : Nat) : 0 < pieces n := by unfold pieces; split <;> omega
theorem Ring.append_cases {r : Ring} (hr : r.WF) {D : Disk} (h : D.WF) (ha : D.dead = false) (hl : r.first + r.count ≤ D.lasts.length) (l : Str) :
    (((r.append D l).2.2 = 3 ∨ (r.append D l).2.2 = 40 ∨ (r.append D l).2.2 = 50 ∨ (r.append D l).2.2 = 70) ∧ (r.append D l).1 = r ∧ (r.append D l).2.1 = D) ∨
    ((r.append D l).2.2 = 0 ∧ (r.append D l).1.WF ∧ (r.append D l).1.first = r.first ∧ (r.append D l).1.count = r.count ∧ (r.append D l).2.1.dead = false ∧ D.Kin (r.append D l).2.1 ∧ (r.append D l).2.1.waits.length ≤ D.waits.length + r.count ∧
      ∀ j : Nat, (j < r.first ∨ r.first + r.count ≤ j) → (r.append D l).2.1.at j = D.at j) ∨
    ((r.append D l).2.2 = 20 ∧ (r.append D l).1 = r ∧ D.Died (r.append D l).2.1) := by
  unfold Ring.append
  rw [ha, if_neg (by simp)]
  split
  · exact .inl ⟨.inr (.inl rfl), rfl, rfl⟩
  split
  · exact .inl ⟨.inr (.inr (.inl rfl)), rfl, rfl⟩
  split
  · exact .inl ⟨.inl rfl, rfl, rfl⟩
  split
  · exact .inl ⟨.inr (.inr (.inr rfl)), rfl, rfl⟩
  rename_i h1 h2 h3 h4
  rcases Ring.writes_cases hr.pos l (pieces l.length) (pieces l.length) 0 D h ha hl with ⟨e, d, k, wl, a⟩ | ⟨e, d⟩
  · simp only
    rw [e, if_neg (by simp)]
    have := hr.bl
    refine .inr (.inl ⟨rfl, ⟨hr.pos, hr.most, ?_, ?_, ?_, ?_⟩, rfl, rfl, d, k, by rw [wl]; omega, a⟩)
    · show r.base ≤ r.last + _; omega
    · show r.last + _ ≤ r.base + r.count; omega
    · show r.last + _ ≤ _; omega
    · show r.last + _ ≤ _; omega
  · simp only
    rw [e, if_pos (by simp)]
    exact .inr (.inr ⟨rfl, rfl, d⟩)
/-! ### Settling, committing, aborting -/
theorem Pg.Ok.setD {p : Pg} (h : p.Ok) {D : Disk} (k : p.D.Kin D) : ({ p with D := D } : Pg).Ok := by
  have hp : places D = places p.D := by unfold places; rw [k.len]
  exact ⟨k.wf, h.R, by rw [h.first]; exact congrArg (fun x : Nat => 1 + (x : Int)) hp.symm, by show p.pages = (D.lasts.length : Int) - 1 - places D; rw [h.pages, hp, k.len], by show 64 ≤ D.lasts.length; rw [k.len]; exact h.len, h.rf, by show p.R.count = places D; rw [hp]; exact h.rc, h.dk, h.nk, h.da, h.na, h.ia, h.cnt⟩
theorem Pg.Ok.ring {p : Pg} (h : p.Ok) : p.R.first + p.R.count ≤ p.D.lasts.length ∧ ((p.R.first + p.R.count : Nat) : Int) = p.first := by
  have h1 := h.rf
  have h2 := h.rc
  have h3 := h.len
  have h4 := h.first
  have h5 : places p.D = p.D.lasts.length / 4 := rfl
  omega
structure Pg.Same (p q : Pg) : Prop where
  now : q.now = p.now
  m : q.m = p.m
  kept : q.kept = p.kept
  idle : q.idle = p.idle
  count : q.count = p.count
  first : q.first = p.first
  pages : q.pages = p.pages
theorem Pg.settle_cases {p : Pg} (h : p.Ok) (ha : p.D.dead = false) {base : Nat} (hb : base ≤ 4611686018427387904) :
    ((p.settle base).2 = 0 ∧ (p.settle base).1.Ok ∧ (p.settle base).1.D.dead = false ∧ (p.settle base).1.D.waits = [] ∧ p.Same (p.settle base).1 ∧ ∀ n, 0 ≤ n → n < p.pages → (p.settle base).1.cview n = p.cview n) ∨
    ((p.settle base).2 = 20 ∧ (p.settle base).1.Ok ∧ (p.settle base).1.D.dead = true) := by
  have hs := h.small
  unfold Pg.settle
  rcases Disk.lays_cases p.first p.dirty p.D h.D ha hs.1 h.da (fun x hx => ⟨(h.dk x hx).1, by have := (h.dk x hx).2.1; omega, (h.dk x hx).2.2⟩) with ⟨e, d, k, _, a⟩ | ⟨e, d⟩
  · simp only
    rw [e, if_neg (by simp)]
    rcases Disk.flush_cases k.wf d with ⟨e2, d2, k2, w2, a2⟩ | ⟨e2, d2⟩
    · rw [e2, if_neg (by simp)]
      rcases Disk.head_cases k2.wf d2 (base : Int) with ⟨e3, d3, k3, w3, a3⟩ | ⟨e3, d3⟩
      · rw [e3, if_neg (by simp)]
        have kk := (k.trans k2).trans k3
        have ho := h.setD kk
        have hpl : places ((Disk.lays p.first p.dirty p.D).1.flush.1.head base).1 = places p.D := by unfold places; rw [kk.len]
        have hlen := h.len
        have hp5 : places p.D = p.D.lasts.length / 4 := rfl
        have hm := h.D.most
        refine .inl ⟨rfl, ⟨ho.D, ?_, ho.first, ho.pages, ho.len, rfl, rfl, fun _ hx => (by cases hx), ho.nk, .nil, ho.na, ho.ia, ho.cnt⟩, d3, w3, ⟨rfl, rfl, rfl, rfl, rfl, rfl, rfl⟩, fun n h0 h1 => ?_⟩
        · refine Ring.open_wf ?_ ?_ hb
          · rw [hpl]; omega
          · rw [hpl]; omega
        · show ((none : Option Sec)).getD (((Disk.lays p.first p.dirty p.D).1.flush.1.head base).1.at (p.first + n).toNat) = _
          have hfi := h.first
          rw [Option.getD_none, a3, if_neg (by omega), a2, a]
          unfold Pg.cview
          rw [show (((p.first + n).toNat : Nat) : Int) - p.first = n by omega]
      · rw [e3, if_pos (by simp)]
        exact .inr ⟨rfl, h.setD ((k.trans k2).trans d3.kin), d3.dead⟩
    · rw [e2, if_pos (by simp)]
      exact .inr ⟨rfl, h.setD (k.trans d2.kin), d2.dead⟩
  · simp only
    rw [e, if_pos (by simp)]
    exact .inr ⟨rfl, h.setD d.kin, d.dead⟩
theorem Pg.logged_cases {p : Pg} (h : p.Ok) (ha : p.D.dead = false) (l : Str) :
    (((p.logged l).2 = 3 ∨ (p.logged l).2 = 40 ∨ (p.logged l).2 = 50 ∨ (p.logged l).2 = 70) ∧ (p.logged l).1 = p) ∨
    ((p.logged l).2 = 0 ∧ (p.logged l).1.Ok ∧ (p.logged l).1.D.dead = false ∧ p.Same (p.logged l).1 ∧ (p.logged l).1.dirty = p.dirty ∧ (p.logged l).1.D.waits.length ≤ p.D.waits.length + p.R.count ∧ ∀ n, 0 ≤ n → n < p.pages → (p.logged l).1.cview n = p.cview n) ∨
    ((p.logged l).2 = 20 ∧ (p.logged l).1.Ok ∧ (p.logged l).1.D.dead = true) := by
  have hr := h.ring
  have hs := h.small
  rcases Ring.append_cases h.R h.D ha hr.1 l with ⟨e, r, d⟩ | ⟨e, r, rf, rc, d, k, wl, a⟩ | ⟨e, r, d⟩
  · refine .inl ⟨e, ?_⟩
    unfold Pg.logged
    simp only [r, d]
  · have ho := h.setD k
    refine .inr (.inl ⟨e, ⟨ho.D, r, ho.first, ho.pages, ho.len, rf.trans h.rf, rc.trans ho.rc, h.dk, h.nk, h.da, h.na, h.ia, h.cnt⟩, d, ⟨rfl, rfl, rfl, rfl, rfl, rfl, rfl⟩, rfl, wl, fun n h0 h1 => ?_⟩)
    unfold Pg.cview Pg.logged
    simp only
    rw [a _ (by omega)]
  · refine .inr (.inr ⟨e, ?_, d.dead⟩)
    have ho := h.setD d.kin
    unfold Pg.logged
    simp only [r]
    exact ho
theorem Pg.synced_cases {p : Pg} (h : p.Ok) (ha : p.D.dead = false) :
    ((p.synced).2 = 0 ∧ p.synced.1.Ok ∧ p.synced.1.D.dead = false ∧ p.synced.1.D.waits = [] ∧ p.Same p.synced.1 ∧ p.synced.1.dirty = p.dirty ∧ ∀ n, 0 ≤ n → n < p.pages → p.synced.1.cview n = p.cview n) ∨
    (p.synced.2 = 20 ∧ p.synced.1.Ok ∧ p.synced.1.D.dead = true) := by
  rcases Disk.flush_cases h.D ha with ⟨e, d, k, w, a⟩ | ⟨e, d⟩
  · refine .inl ⟨e, h.setD k, d, w, ⟨rfl, rfl, rfl, rfl, rfl, rfl, rfl⟩, rfl, fun n _ _ => ?_⟩
    unfold Pg.cview Pg.synced
    simp only
    rw [a]
  · exact .inr ⟨e, h.setD d.kin, d.dead⟩

theorem Good.congr {v v' : Int → Sec} {m : Meta} {pages : Int} {ch : List Int} (h : Good v m pages ch) (e : ∀ n, 0 < n → n < pages → v n = v' n) : Good v' m pages ch :=
  ⟨h.chain.congr (Int.le_refl _) fun a ha => e a (h.chain.mem a ha).1 (by have := (h.chain.mem a ha).2; have := h.u2; omega), h.nodup, h.free, h.u1, h.u2, h.r0, h.r1⟩
theorem take_of_append {α : Type} {a b : List α} {n : Nat} (h : a.length = n) : (a ++ b).take n = a := by subst h; simp
theorem drop_of_append {α : Type} {a b : List α} {n : Nat} (h : a.length = n) : (a ++ b).drop n = b := by subst h; simp
theorem Meta.of_page {m : Meta} (h1 : 0 ≤ m.root ∧ m.root < 4294967296) (h2 : 0 ≤ m.used ∧ m.used < 4294967296) (h3 : 0 ≤ m.head ∧ m.head < 4294967296) (h4 : 0 ≤ m.free ∧ m.free < 4294967296) : Meta.of m.page = m := by
  have e : m.page = be 4 m.root ++ (be 4 m.used ++ (be 4 m.head ++ (be 4 m.free ++ zs 496))) := by simp [Meta.page]
  have l := fun n => be_length 4 n
  have d4 : m.page.drop 4 = be 4 m.used ++ (be 4 m.head ++ (be 4 m.free ++ zs 496)) := by rw [e, drop_of_append (l _)]
  have d8 : m.page.drop 8 = be 4 m.head ++ (be 4 m.free ++ zs 496) := by rw [show 8 = 4 + 4 from rfl, ← List.drop_drop, d4, drop_of_append (l _)]
  have d12 : m.page.drop 12 = be 4 m.free ++ zs 496 := by rw [show 12 = 8 + 4 from rfl, ← List.drop_drop, d8, drop_of_append (l _)]
  unfold Meta.of
  rw [d4, d8, d12, e, take_of_append (l _), take_of_append (l _), take_of_append (l _), take_of_append (l _), num_be4 h1.1 h1.2, num_be4 h2.1 h2.2, num_be4 h3.1 h3.2, num_be4 h4.1 h4.2]
theorem Meta.page_length (m : Meta) : m.page.length = 512 := by simp [Meta.page, be_length, zs_length]
theorem Good.bounds {v : Int → Sec} {m : Meta} {pages : Int} {ch : List Int} (h : Good v m pages ch) (hp : pages ≤ 65536) : Meta.of m.page = m := by
  have h1 := h.u1
  have h2 := h.u2
  have h3 := h.r0
  have h4 := h.r1
  have h5 := h.len
  have h6 := h.free
  have hh : 0 ≤ m.head ∧ m.head < 4294967296 := by
    cases ch with
    | nil => have : m.head = 0 := h.chain; omega
    | cons a l => obtain ⟨h1, h2, h3, _⟩ := h.chain; omega
  exact Meta.of_page (by omega) (by omega) hh (by omega)
theorem mcopy_mem {α : Type} : ∀ {r l : List (Int × α)} {x : Int × α}, x ∈ mcopy l r → x ∈ l ∨ x ∈ r
  | [], _, _, h => .inl h
  | (k, v) :: r, l, x, h => by
    rcases mcopy_mem (r := r) h with h | h
    · rcases mput_mem h with rfl | h
      · exact .inr (.head _)
      · exact .inl h
    · exact .inr (.tail _ h)
theorem Pg.Ok.now0 {p : Pg} (h : p.Ok) (s : Sec) : mdel (mput p.now 0 s) 0 = p.now := by
  refine asc_ext (asc_mdel (asc_mput h.na _ _) _) h.na fun i => ?_
  rw [mget_mdel (asc_mput h.na _ _), mget_mput]
  split
  · rename_i hi
    subst hi
    exact (mget_none fun q hq => by have := (h.nk q hq).1; omega).symm
  · rfl
theorem Pg.closed_ok {p : Pg} (h : p.Ok) : p.closed.Ok := {
  D := h.D
  R := h.R
  first := h.first
  pages := h.pages
  len := h.len
  rf := h.rf
  rc := h.rc
  dk := fun x hx => by
    rcases mput_mem hx with rfl | hx
    · exact ⟨Int.le_refl _, by have := h.small.2.2.2.1; show 0 < p.pages; omega, Meta.page_length _⟩
    · rcases mcopy_mem hx with hx | hx
      · exact h.dk x hx
      · have := h.nk x hx
        exact ⟨by omega, this.2⟩
  nk := fun x hx => by cases hx
  da := asc_mput (asc_mcopy h.da _) _ _
  na := .nil
  ia := h.ia
  cnt := rfl }
theorem Pg.closed_cview {p : Pg} (h : p.Ok) {n : Int} (hn : n ≠ 0) : p.closed.cview n = p.view n := by
  unfold Pg.cview Pg.closed Pg.view
  simp only [mget_mput, if_neg hn, mget_mcopy h.na]
  unfold Pg.cview
  cases mget p.now n with
  | none => cases mget p.dirty n <;> rfl
  | some s => rfl
theorem Pg.closed_wf {p : Pg} (h : p.WF) {q : Pg} (ho : q.Ok) (ha : q.D.dead = false) (hw : q.D.waits = []) (hs : p.Same q) (hv : ∀ n, 0 ≤ n → n < p.pages → q.cview n = p.cview n) : q.closed.WF := by
  obtain ⟨ch, hg, hid⟩ := h.cur
  have hsm := h.ok.small
  have e : ∀ n, 0 < n → n < p.pages → p.view n = q.closed.cview n := fun n h0 h1 => by
    rw [Pg.closed_cview ho (by omega)]
    unfold Pg.view
    rw [hs.now, hv n (by omega) h1]
  have hg' := hg.congr e
  have hm : q.closed.m = p.m := hs.m
  have hk : q.closed.kept = p.m := hs.m
  have hp : q.closed.pages = p.pages := hs.pages
  have hi : q.closed.idle = p.idle := hs.idle
  refine ⟨Pg.closed_ok ho, hw, ha, ⟨ch, ?_, by rw [hi]; exact hid⟩, ⟨ch, ?_⟩, ?_⟩
  · rw [hm, hp]
    exact hg'
  · rw [hk, hp]
    exact hg'
  · have : q.closed.cview 0 = q.m.page := by
      unfold Pg.cview Pg.closed
      simp only [mget_mput, if_true, Option.getD_some]
    rw [this, hk, hs.m]
    exact hg.bounds (by omega)
/-- Only the disk has turned, and nothing can be seen of it. -/
theorem Pg.WF.same {p : Pg} (h : p.WF) {q : Pg} (ho : q.Ok) (ha : q.D.dead = false) (hw : q.D.waits = []) (hs : p.Same q) (hv : ∀ n, 0 ≤ n → n < p.pages → q.cview n = p.cview n) : q.WF := by
  obtain ⟨ch, hg, hid⟩ := h.cur
  obtain ⟨ch', hg'⟩ := h.old
  have hsm := h.ok.small
  refine ⟨ho, hw, ha, ⟨ch, ?_, by rw [hs.idle]; exact hid⟩, ⟨ch', ?_⟩, ?_⟩
  · rw [hs.m, hs.pages]
    refine hg.congr fun n h0 h1 => ?_
    unfold Pg.view
    rw [hs.now, hv n (by omega) h1]
  · rw [hs.kept, hs.pages]
    exact hg'.congr fun n h0 h1 => (hv n (by omega) h1).symm
  · rw [hv 0 (Int.le_refl _) (by omega), hs.kept]
    exact h.keep
theorem Pg.Same.refl (p : Pg) : p.Same p := ⟨rfl, rfl, rfl, rfl, rfl, rfl, rfl⟩
theorem Pg.Same.trans {p q r : Pg} (h : p.Same q) (k : q.Same r) : p.Same r :=
  ⟨k.now.trans h.now, k.m.trans h.m, k.kept.trans h.kept, k.idle.trans h.idle, k.count.trans h.count, k.first.trans h.first, k.pages.trans h.pages⟩
/-- A commit: what it does comes to one of these. -/
theorem Pg.WF.commit {p : Pg} (h : p.WF) : p.commit.1.Ok ∧ (p.commit.1.D.dead = false → p.commit.1.WF) := by
  have hok := h.ok
  unfold Pg.commit
  split
  · exact ⟨h.ok, fun _ => h⟩
  split
  · exact ⟨h.ok, fun _ => h⟩
  simp only [hok.now0]
  generalize recOf (mput p.now 0 p.m.page) = l
  have eta : ({ p with now := p.now } : Pg) = p := rfl
  rw [eta]
  -- behind the append
  have last : ∀ (q : Pg), q.Ok → q.D.dead = false → p.Same q → (∀ n, 0 ≤ n → n < p.pages → q.cview n = p.cview n) →
      (Pg.finish (q, 0)).1.Ok ∧ ((Pg.finish (q, 0)).1.D.dead = false → (Pg.finish (q, 0)).1.WF) := by
    intro q ho ha hs hv
    unfold Pg.finish
    rw [if_neg (by simp)]
    rcases Pg.synced_cases ho ha with ⟨e, o, d, w, s, dd, v⟩ | ⟨e, o, d⟩
    · rw [if_neg (by rw [e]; simp)]
      have hw := Pg.closed_wf h (q := q.synced.1) o d w (hs.trans s) (fun n h0 h1 => by rw [v n h0 (by rw [hs.pages]; exact h1), hv n h0 h1])
      exact ⟨hw.ok, fun _ => hw⟩
    · rw [if_pos (by rw [e]; simp)]
      exact ⟨o, fun hd => by rw [d] at hd; cases hd⟩
  have bad : ∀ (x : Pg × Int), x.2 ≠ 0 → Pg.finish x = x := fun x hx => by unfold Pg.finish; rw [if_pos hx]
  have good : ∀ (x : Pg × Int), x.2 = 0 → x = (x.1, 0) := fun x hx => by rw [← hx]
  unfold Pg.tryLog
  rcases Pg.logged_cases hok h.alive l with ⟨e, r⟩ | ⟨e, o, d, s, dd, wl, v⟩ | ⟨e, o, d⟩
  · by_cases h3 : (p.logged l).2 = 3
    · rw [if_pos h3]
      rcases Pg.settle_cases hok h.alive hok.R.tm with ⟨e2, o2, d2, w2, s2, v2⟩ | ⟨e2, o2, d2⟩
      · rw [if_pos e2]
        have hw2 := h.same o2 d2 w2 s2 v2
        rcases Pg.logged_cases o2 d2 l with ⟨e3, r3⟩ | ⟨e3, o3, d3, s3, dd3, wl3, v3⟩ | ⟨e3, o3, d3⟩
        · rw [bad ((p.settle p.R.top).1.logged l) (by omega), r3]
          exact ⟨o2, fun _ => hw2⟩
        · rw [good _ e3]
          exact last _ o3 d3 (s2.trans s3) (fun n h0 h1 => by rw [v3 n h0 (by rw [s2.pages]; exact h1), v2 n h0 h1])
        · rw [bad ((p.settle p.R.top).1.logged l) (by omega)]
          exact ⟨o3, fun hd => by rw [d3] at hd; cases hd⟩
      · rw [if_neg (show ¬ (p.settle p.R.top).2 = 0 by omega), bad (p.settle p.R.top) (by omega)]
        exact ⟨o2, fun hd => by rw [d2] at hd; cases hd⟩
    · rw [if_neg h3, bad (p.logged l) (by omega), r]
      exact ⟨h.ok, fun _ => h⟩
  · rw [if_neg (show ¬ (p.logged l).2 = 3 by omega), good _ e]
    exact last _ o d s v
  · rw [if_neg (show ¬ (p.logged l).2 = 3 by omega), bad (p.logged l) (by omega)]
    exact ⟨o, fun hd => by rw [d] at hd; cases hd⟩
/-- The chain of the free pages, gone along. -/
theorem Pg.chain_run {q : Pg} (ho : q.Ok) (ha : q.D.dead = false) (hn : q.now = []) {used : Int} (hu : used ≤ q.pages) : ∀ (l : List Int) (f : Nat) (h : Int) (i : List (Int × Unit)), Chain q.cview used h l → l.Nodup → l.length ≤ f → Asc i → (∀ a ∈ l, mget i a = none) →
    ∃ i', ({ q with idle := i } : Pg).chain f h = ({ q with idle := i' }, 0) ∧ Asc i' ∧ ∀ n, (mget i' n).isSome ↔ ((mget i n).isSome ∨ n ∈ l)
  | [], f, h, i, hc, _, _, hi, _ => by
    have h0 : h = 0 := hc
    subst h0
    refine ⟨i, ?_, hi, fun n => by simp⟩
    cases f with
    | zero => rfl
    | succ f => unfold Pg.chain; rw [if_pos (.inl rfl)]
  | a :: l, f, h, i, hc, hnd, hf, hi, hni => by
    obtain ⟨rfl, h1, h2, h3⟩ := hc
    obtain ⟨f, rfl⟩ : ∃ g, f = g + 1 := ⟨f - 1, by simp only [List.length_cons] at hf; omega⟩
    have hnd' := List.nodup_cons.1 hnd
    unfold Pg.chain
    have hcond : ¬ (h = 0 ∨ h < 0 ∨ ({ q with idle := i } : Pg).pages ≤ h ∨ (mget ({ q with idle := i } : Pg).idle h).isSome = true) := by
      have hp : ({ q with idle := i } : Pg).pages = q.pages := rfl
      have hii : mget ({ q with idle := i } : Pg).idle h = none := hni h (.head _)
      rw [hp, hii]
      simp only [Option.isSome_none, Bool.false_eq_true, or_false]
      omega
    rw [if_neg hcond]
    have ho' : ({ q with idle := mput i h () } : Pg).Ok := ho.setM q.m _ (asc_mput hi _ _)
    have hg : ({ q with idle := mput i h () } : Pg).get h = .ok (q.cview h) := by
      rw [ho'.get ha (by omega) (show h < q.pages by omega)]
      unfold Pg.view
      show Except.ok ((mget q.now h).getD (q.cview h)) = _
      rw [hn]
      rfl
    simp only [hg]
    obtain ⟨i', e, ai, hi'⟩ := Pg.chain_run ho ha hn hu l f _ (mput i h ()) h3 hnd'.2 (by simpa using hf) (asc_mput hi _ _) (fun b hb => by
      rw [mget_mput, if_neg (by rintro rfl; exact hnd'.1 hb)]
      exact hni b (.tail _ hb))
    refine ⟨i', e, ai, fun n => ?_⟩
    rw [hi' n, mget_mput]
    by_cases hnh : n = h
    · subst hnh; simp
    · simp [hnh]
theorem Pg.WF.abort {p : Pg} (h : p.WF) : p.abort.2 = 0 ∧ p.abort.1.WF ∧ p.abort.1.m = p.kept ∧ p.abort.1.kept = p.kept ∧ p.abort.1.now = [] ∧ p.abort.1.dirty = p.dirty ∧ p.abort.1.D = p.D ∧ p.abort.1.R = p.R ∧ p.abort.1.pages = p.pages ∧ p.abort.1.first = p.first ∧ p.abort.1.count = [] := by
  have hs := h.ok.small
  obtain ⟨ch, hg⟩ := h.old
  have ho : ({ p with now := [], count := [], idle := [] } : Pg).Ok := ⟨h.ok.D, h.ok.R, h.ok.first, h.ok.pages, h.ok.len, h.ok.rf, h.ok.rc, h.ok.dk, fun _ hx => (by cases hx), h.ok.da, .nil, .nil, rfl⟩
  have hget : ({ p with now := [], count := [], idle := [] } : Pg).get 0 = .ok (p.cview 0) := by
    rw [ho.get h.alive (Int.le_refl _) (show (0 : Int) < p.pages by omega)]
    rfl
  have hlen := hg.len
  have hu1 := hg.u1
  have hu2 := hg.u2
  obtain ⟨i', e, ai, hi⟩ := Pg.chain_run (q := { p with now := [], count := [], idle := [], m := p.kept, kept := p.kept }) (ho.setM _ _ .nil) h.alive rfl (used := p.kept.used) hu2 ch p.pages.toNat p.kept.head [] hg.chain hg.nodup (by omega) .nil (fun _ _ => rfl)
  have hab : p.abort = ({ p with now := [], count := [], idle := i', m := p.kept, kept := p.kept }, 0) := by
    unfold Pg.abort
    simp only [hget, h.keep]
    exact e
  rw [hab]
  refine ⟨rfl, ⟨⟨ho.D, ho.R, ho.first, ho.pages, ho.len, ho.rf, ho.rc, ho.dk, fun _ hx => (by cases hx), ho.da, .nil, ai, rfl⟩, h.waits, h.alive, ⟨ch, ?_, fun n => by rw [hi n]; simp [mget]⟩, ⟨ch, hg⟩, h.keep⟩, rfl, rfl, rfl, rfl, rfl, rfl, rfl, rfl, rfl⟩
  exact hg
end Go.Proofs.YtomggfibpbaodaaGreatDoor
