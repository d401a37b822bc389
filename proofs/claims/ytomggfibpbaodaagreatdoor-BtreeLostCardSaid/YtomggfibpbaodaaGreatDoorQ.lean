/-
  Maps with integer keys as lists of pairs whose keys ascend. Nothing of a program is in this text.
-/
import Derived.Test.YtomggfibpbaodaaGreatDoorR3
namespace Go.V
open Go

variable {α : Type}
def mget : List (Int × α) → Int → Option α
  | [], _ => none
  | (k, v) :: l, n => if n = k then some v else mget l n
def mput : List (Int × α) → Int → α → List (Int × α)
  | [], n, x => [(n, x)]
  | (k, v) :: l, n, x => if n < k then (n, x) :: (k, v) :: l else if n = k then (n, x) :: l else (k, v) :: mput l n x
def mdel : List (Int × α) → Int → List (Int × α)
  | [], _ => []
  | (k, v) :: l, n => if n = k then l else (k, v) :: mdel l n
def mcopy (l : List (Int × α)) : List (Int × α) → List (Int × α)
  | [] => l
  | (k, v) :: r => mcopy (mput l k v) r
def Asc (l : List (Int × α)) : Prop := l.Pairwise fun a b => a.1 < b.1
theorem mget_mem {l : List (Int × α)} {n : Int} {x : α} (h : mget l n = some x) : (n, x) ∈ l := by
  induction l with
  | nil => cases h
  | cons p l ih =>
    obtain ⟨k, v⟩ := p
    unfold mget at h
    split at h
    · rename_i hk; cases h; subst hk; exact .head _
    · exact .tail _ (ih h)
theorem mget_none {l : List (Int × α)} {n : Int} (h : ∀ p ∈ l, p.1 ≠ n) : mget l n = none := by
  induction l with
  | nil => rfl
  | cons p l ih =>
    obtain ⟨k, v⟩ := p
    unfold mget
    rw [if_neg (fun e => h _ (.head _) e.symm)]
    exact ih fun p hp => h p (.tail _ hp)
theorem mget_of_mem {l : List (Int × α)} (ha : Asc l) {n : Int} {x : α} (h : (n, x) ∈ l) : mget l n = some x := by
  induction l with
  | nil => cases h
  | cons p l ih =>
    obtain ⟨k, v⟩ := p
    have ha' := List.pairwise_cons.1 ha
    unfold mget
    rcases List.mem_cons.1 h with h | h
    · cases h; simp
    · have := ha'.1 _ h
      simp only at this
      rw [if_neg (by omega)]
      exact ih ha'.2 h
theorem mget_isSome {l : List (Int × α)} {n : Int} : (mget l n).isSome ↔ ∃ x, (n, x) ∈ l := by
  induction l with
  | nil => simp [mget]
  | cons p l ih =>
    obtain ⟨k, v⟩ := p
    unfold mget
    split
    · rename_i h; subst h; exact ⟨fun _ => ⟨v, .head _⟩, fun _ => rfl⟩
    · rename_i h
      rw [ih]
      constructor
      · rintro ⟨x, hx⟩; exact ⟨x, .tail _ hx⟩
      · rintro ⟨x, hx⟩
        rcases List.mem_cons.1 hx with hx | hx
        · cases hx; exact absurd rfl h
        · exact ⟨x, hx⟩
theorem mget_mput {l : List (Int × α)} {n : Int} {x : α} (i : Int) : mget (mput l n x) i = if i = n then some x else mget l i := by
  induction l with
  | nil => simp only [mput, mget]
  | cons p l ih =>
    obtain ⟨k, v⟩ := p
    unfold mput
    split
    · simp only [mget]
    · split
      · rename_i h; subst h; simp only [mget]; split <;> rfl
      · simp only [mget, ih]
        split
        · rename_i h1 h2 h3; rw [if_neg (by omega)]
        · rfl
theorem mput_mem {l : List (Int × α)} {n : Int} {x : α} {p : Int × α} (h : p ∈ mput l n x) : p = (n, x) ∨ p ∈ l := by
  induction l with
  | nil => simpa [mput] using h
  | cons q l ih =>
    obtain ⟨k, v⟩ := q
    unfold mput at h
    split at h
    · exact List.mem_cons.1 h
    · split at h
      · rcases List.mem_cons.1 h with h | h
        · exact .inl h
        · exact .inr (.tail _ h)
      · rcases List.mem_cons.1 h with h | h
        · exact .inr (h ▸ .head _)
        · rcases ih h with h | h
          · exact .inl h
          · exact .inr (.tail _ h)
theorem asc_mput {l : List (Int × α)} (h : Asc l) (n : Int) (x : α) : Asc (mput l n x) := by
  induction l with
  | nil => simp [mput, Asc]
  | cons p l ih =>
    obtain ⟨k, v⟩ := p
    have h' := List.pairwise_cons.1 h
    unfold mput
    split
    · rename_i hn
      refine List.pairwise_cons.2 ⟨fun q hq => ?_, h⟩
      rcases List.mem_cons.1 hq with rfl | hq
      · exact hn
      · have := h'.1 q hq; simp only at this ⊢; omega
    · split
      · rename_i _ hn; subst hn; exact List.pairwise_cons.2 ⟨h'.1, h'.2⟩
      · rename_i h1 h2
        refine List.pairwise_cons.2 ⟨fun q hq => ?_, ih h'.2⟩
        rcases mput_mem hq with rfl | hq
        · simp only; omega
        · exact h'.1 q hq
theorem mdel_sub {l : List (Int × α)} {n : Int} : (mdel l n).Sublist l := by
  induction l with
  | nil => exact .slnil
  | cons p l ih =>
    obtain ⟨k, v⟩ := p
    unfold mdel
    split
    · exact .cons _ (List.Sublist.refl _)
    · exact .cons_cons _ ih
theorem asc_mdel {l : List (Int × α)} (h : Asc l) (n : Int) : Asc (mdel l n) := h.sublist mdel_sub
theorem mget_mdel {l : List (Int × α)} (h : Asc l) (n i : Int) : mget (mdel l n) i = if i = n then none else mget l i := by
  induction l with
  | nil => simp [mdel, mget]
  | cons p l ih =>
    obtain ⟨k, v⟩ := p
    have h' := List.pairwise_cons.1 h
    unfold mdel
    split
    · rename_i hn
      subst hn
      simp only [mget]
      split
      · rename_i hi
        subst hi
        exact mget_none fun q hq => by have := h'.1 q hq; simp only at this; omega
      · rfl
    · simp only [mget, ih h'.2]
      split
      · rename_i h1 h2; rw [if_neg (by omega)]
      · rfl
theorem asc_mcopy {l : List (Int × α)} (h : Asc l) : ∀ (r : List (Int × α)), Asc (mcopy l r)
  | [] => h
  | (k, v) :: r => asc_mcopy (asc_mput h k v) r
theorem mget_mcopy : ∀ {r l : List (Int × α)} (_ : Asc r) (i : Int), mget (mcopy l r) i = (mget r i).or (mget l i)
  | [], _, _, _ => rfl
  | (k, v) :: r, l, h, i => by
    have h' := List.pairwise_cons.1 h
    unfold mcopy
    rw [mget_mcopy h'.2, mget_mput]
    simp only [mget]
    split
    · rename_i hi
      subst hi
      rw [mget_none fun q hq => by have := h'.1 q hq; simp only at this; omega]
      rfl
    · rfl
theorem asc_ext {l r : List (Int × α)} (hl : Asc l) (hr : Asc r) (h : ∀ i, mget l i = mget r i) : l = r := by
  induction l generalizing r with
  | nil =>
    cases r with
    | nil => rfl
    | cons p r => obtain ⟨k, v⟩ := p; have := h k; simp [mget] at this
  | cons p l ih =>
    obtain ⟨k, v⟩ := p
    cases r with
    | nil => have := h k; simp [mget] at this
    | cons q r =>
      obtain ⟨k', v'⟩ := q
      have hl' := List.pairwise_cons.1 hl
      have hr' := List.pairwise_cons.1 hr
      have e1 := h k
      have e2 := h k'
      simp only [mget, if_true] at e1 e2
      have hkk : k = k' := by
        rcases Int.lt_trichotomy k k' with hlt | he | hgt
        · rw [if_neg (by omega), mget_none fun q hq => by have := hr'.1 q hq; simp only at this; omega] at e1
          cases e1
        · exact he
        · rw [if_neg (by omega), mget_none fun q hq => by have := hl'.1 q hq; simp only at this; omega] at e2
          cases e2
      subst hkk
      simp only [if_true, Option.some.injEq] at e1
      subst e1
      rw [ih hl'.2 hr'.2 fun i => ?_]
      have := h i
      simp only [mget] at this
      by_cases hi : i = k
      · subst hi
        rw [mget_none fun q hq => by have := hl'.1 q hq; simp only at this; omega, mget_none fun q hq => by have := hr'.1 q hq; simp only at this; omega]
      · rwa [if_neg hi, if_neg hi] at this

/-! ### In the memory -/
theorem alk_none {es : List (Int × Value)} {k : Int} (h : k ∉ es.map (·.1)) : alk es k = none := by
  induction es with
  | nil => rfl
  | cons p es ih =>
    obtain ⟨a, u⟩ := p
    simp only [List.map_cons, List.mem_cons, not_or] at h
    unfold alk
    rw [if_neg (fun e => h.1 e.symm)]
    exact ih h.2
theorem alk_some {es : List (Int × Value)} {k : Int} (h : k ∈ es.map (·.1)) : (alk es k).isSome := by
  induction es with
  | nil => cases h
  | cons p es ih =>
    obtain ⟨a, u⟩ := p
    simp only [List.map_cons, List.mem_cons] at h
    unfold alk
    split
    · rfl
    · rename_i hn
      rcases h with h | h
      · exact absurd h.symm hn
      · exact ih h
theorem alk_mem {es : List (Int × Value)} {k : Int} (h : (alk es k).isSome) : k ∈ es.map (·.1) := by
  by_cases hk : k ∈ es.map (·.1)
  · exact hk
  · rw [alk_none hk] at h; cases h
theorem alk_put (es : List (Int × Value)) (k : Int) (v : Value) (x : Int) : alk (aput es k v) x = if x = k then some v else alk es x := by
  induction es with
  | nil =>
    simp only [aput, alk]
    by_cases h : x = k
    · subst h; simp
    · rw [if_neg h, if_neg (fun e => h e.symm)]
  | cons p es ih =>
    obtain ⟨a, u⟩ := p
    unfold aput
    split
    · rename_i h
      subst h
      simp only [alk]
      by_cases h : x = a
      · subst h; simp
      · rw [if_neg h, if_neg (fun e => h e.symm), if_neg (fun e => h e.symm)]
    · rename_i h
      simp only [alk, ih]
      by_cases h2 : a = x
      · subst h2; rw [if_pos rfl, if_neg h, if_pos rfl]
      · rw [if_neg h2, if_neg h2]
theorem alk_del {es : List (Int × Value)} (h : (es.map (·.1)).Nodup) (k x : Int) : alk (adel es k) x = if x = k then none else alk es x := by
  induction es with
  | nil => simp [adel, alk]
  | cons p es ih =>
    obtain ⟨a, u⟩ := p
    simp only [List.map_cons, List.nodup_cons] at h
    unfold adel
    split
    · rename_i hk
      subst hk
      by_cases hx : x = a
      · subst hx; rw [if_pos rfl, alk_none h.1]
      · rw [if_neg hx]; unfold alk; rw [if_neg (fun e => hx e.symm)]; cases es <;> rfl
    · rename_i hk
      simp only [alk, ih h.2]
      by_cases h2 : a = x
      · subst h2; rw [if_pos rfl, if_neg hk, if_pos rfl]
      · rw [if_neg h2, if_neg h2]
theorem adel_none {es : List (Int × Value)} {k : Int} (h : afind es k = none) : adel es k = es := by
  induction es with
  | nil => rfl
  | cons p es ih =>
    obtain ⟨a, u⟩ := p
    unfold afind at h
    unfold adel
    split at h
    · cases h
    · rename_i hk
      rw [if_neg hk, ih (by simpa using h)]
theorem erase_adel {k : Int} : ∀ (en : List MapEntry) (es : List (Int × Value)) (j : Nat), en.map (fun e => (e.key, e.val)) = es.map (fun p => (Value.int .i64 p.1, p.2)) → afind es k = some j →
    (en.eraseIdx j).map (fun e => (e.key, e.val)) = (adel es k).map (fun p => (Value.int .i64 p.1, p.2))
  | [], es, j, h, hj => by cases es <;> simp_all [afind]
  | e :: en, [], j, h, _ => by simp at h
  | e :: en, (a, u) :: es, j, h, hj => by
    simp only [List.map_cons, List.cons.injEq, Prod.mk.injEq] at h
    unfold afind at hj
    unfold adel
    split at hj
    · rename_i hk
      cases hj
      rw [if_pos hk]
      simpa using h.2
    · rename_i hk
      rw [if_neg hk]
      cases hq : afind es k with
      | none => rw [hq] at hj; simp at hj
      | some i =>
        rw [hq] at hj
        simp at hj
        subst hj
        simp only [List.eraseIdx_cons_succ, List.map_cons, h.1.1, h.1.2, erase_adel en es i h.2 hq]
section
variable {P : Program} {w : World} {t e : TypeId} {z : Value} {K : Value → World → Prop}
theorem delete_run [hM : MapT P t e z] {m : Nat} {es : List (Int × Value)} (h : Mp w m es) (k : Int) (kt0 ty : TypeId) (_hkt : P.underlying kt0 = some (.int .i64)) :
    ∃ w1, (Builtin.delete_ #[t, kt0] ty #[.map (some m), .int .i64 k]).run P w = .ok (.tuple #[]) w1 ∧ Mp w1 m (adel es k) ∧ Fr (fun b => b = m) w w1 := by
  obtain ⟨kt, h1, h2⟩ := hM.row
  obtain ⟨en, clock, hm, hen, hnd, hb, hc⟩ := h
  have hlt : m < w.heap.size := (Array.getElem?_eq_some_iff.1 hm).1
  have hg : (getObj m).run P w = .ok (.map en.toArray clock) w := by simp [getObj, Sem.run, hm]
  have hf := findKey_int (P := P) (w := w) (k := k) h2 hen
  have hs := afind_alk es k
  have hset : ∀ o, (setObj m o).run P w = .ok () (putB w m o) := fun o => by simp [setObj, Sem.run, hm, putB]
  have fr : ∀ o, Fr (fun b => b = m) w (putB w m o) := fun o => Fr.put w m o rfl
  cases hA : afind es k with
  | none =>
    refine ⟨putB w m (.map en.toArray clock), ?_, ⟨_, _, heap_putB_eq hlt, by rw [adel_none hA]; exact hen, nodup_adel hnd, hb, hc⟩, fr _⟩
    simp only [Builtin.delete_, List.getElem?_toArray, List.getElem?_cons_zero, List.getElem?_cons_succ, Sem.run_bind, run_underlying h1, Result.andThen_ok, hg]
    rw [show (10000 : Nat) = 9999 + 1 from rfl, checkKey_int h2]
    simp [Result.andThen_ok, hf, hA, hset]
  | some j =>
    rw [hA] at hs
    obtain ⟨old, hl⟩ : ∃ v, alk es k = some v := by cases hq : alk es k <;> simp_all
    refine ⟨putB w m (.map (en.eraseIdx j).toArray clock), ?_, ⟨_, _, heap_putB_eq hlt, erase_adel en es j hen hA, nodup_adel hnd, ?_, ?_⟩, fr _⟩
    · simp only [Builtin.delete_, List.getElem?_toArray, List.getElem?_cons_zero, List.getElem?_cons_succ, Sem.run_bind, run_underlying h1, Result.andThen_ok, hg]
      rw [show (10000 : Nat) = 9999 + 1 from rfl, checkKey_int h2]
      simp [Result.andThen_ok, hf, hA, hl, hset]
    · exact hb.sublist ((List.eraseIdx_sublist en j).map _)
    · exact fun x hx => hc x ((List.eraseIdx_sublist en j).subset hx)
theorem lenM_run [hM : MapT P t e z] {m : Nat} {es : List (Int × Value)} (h : Mp w m es) (ty : TypeId) :
    (Builtin.len_ #[t] ty #[.map (some m)]).run P w = .ok (.int .i64 (es.length : Int)) w := by
  obtain ⟨kt, h1, h2⟩ := hM.row
  obtain ⟨en, clock, hm, hen, hnd, hb, hc⟩ := h
  have hg : (getObj m).run P w = .ok (.map en.toArray clock) w := by simp [getObj, Sem.run, hm]
  have hl : en.length = es.length := by have := congrArg List.length hen; simpa using this
  simp [Builtin.len_, run_underlying h1, hg, hl, goInt]
/-- A map of the memory is a list of pairs. -/
def PM (enc : α → Value) (w : World) (m : Nat) (l : List (Int × α)) : Prop :=
  ∃ es, Mp w m es ∧ (∀ i, alk es i = (mget l i).map enc) ∧ Asc l
theorem PM.fr {enc : α → Value} {F : Nat → Prop} {w' : World} {m : Nat} {l : List (Int × α)} (h : PM enc w m l) (f : Fr F w w') (hF : ¬ F m) : PM enc w' m l := by
  obtain ⟨es, h1, h2, h3⟩ := h
  exact ⟨es, h1.fr f hF, h2, h3⟩
theorem PM.fr0 {enc : α → Value} {w' : World} {m : Nat} {l : List (Int × α)} (h : PM enc w m l) (f : Fr no w w') : PM enc w' m l := h.fr f id
theorem PM.lt {enc : α → Value} {m : Nat} {l : List (Int × α)} (h : PM enc w m l) : m < w.heap.size := let ⟨_, h, _⟩ := h; h.lt
theorem PM.asc {enc : α → Value} {m : Nat} {l : List (Int × α)} (h : PM enc w m l) : Asc l := let ⟨_, _, _, h⟩ := h; h
theorem pm_make {enc : α → Value} (k : ∀ m w1, m = w.heap.size → PM enc w1 m [] → Fr no w w1 → K (.map (some m)) w1) : px P (Instr.makeMap t none) w K :=
  makeMap_k fun m w1 hm h hf => k m w1 hm ⟨[], h, fun _ => rfl, .nil⟩ hf
theorem pm_put [MapT P t e z] {enc : α → Value} {m : Nat} {l : List (Int × α)} {K : World → Prop} (h : PM enc w m l) {i : Int} {x : α} {v : Value} (hv : v = enc x) (k : ∀ w1, PM enc w1 m (mput l i x) → Fr (fun b => b = m) w w1 → K w1) :
    pu P (Instr.mapUpdate t (.map (some m)) (.int .i64 i) v) w K := by
  obtain ⟨es, h1, h2, h3⟩ := h
  subst hv
  refine update_k h1 fun w1 h4 h5 => k w1 ⟨_, h4, fun j => ?_, asc_mput h3 _ _⟩ h5
  rw [alk_put, mget_mput]
  split
  · rfl
  · exact h2 j
theorem pm_del [MapT P t e z] {enc : α → Value} {m : Nat} {l : List (Int × α)} (h : PM enc w m l) {i : Int} {kt0 ty : TypeId} (hkt : P.underlying kt0 = some (.int .i64))
    (k : ∀ w1, PM enc w1 m (mdel l i) → Fr (fun b => b = m) w w1 → K (.tuple #[]) w1) : px P (Builtin.delete_ #[t, kt0] ty #[.map (some m), .int .i64 i]) w K := by
  obtain ⟨es, h1, h2, h3⟩ := h
  obtain ⟨w1, hr, h4, h5⟩ := delete_run (P := P) (t := t) h1 i kt0 ty hkt
  refine px_of hr (k w1 ⟨_, h4, fun j => ?_, asc_mdel h3 _⟩ h5)
  obtain ⟨_, _, _, _, hnd, _⟩ := h1
  rw [alk_del hnd, mget_mdel h3]
  split
  · rfl
  · exact h2 j
theorem pm_get2 [MapT P t e z] {enc : α → Value} {m : Nat} {l : List (Int × α)} (h : PM enc w m l) {i : Int} (k : K (.tuple #[((mget l i).map enc).getD z, .bool (mget l i).isSome]) w) :
    px P (Instr.lookup t (.map (some m)) (.int .i64 i) true) w K := by
  obtain ⟨es, h1, h2, h3⟩ := h
  refine lookup2_k h1 ?_
  rw [h2]
  simpa using k
theorem pm_get1 [MapT P t e z] {enc : α → Value} {m : Nat} {l : List (Int × α)} (h : PM enc w m l) {i : Int} (k : K (((mget l i).map enc).getD z) w) :
    px P (Instr.lookup t (.map (some m)) (.int .i64 i) false) w K := by
  obtain ⟨es, h1, h2, h3⟩ := h
  refine lookup1_k h1 ?_
  rw [h2]
  exact k
/-- The keys of the memory's map are those of the list, in some order. -/
theorem pm_keys {es : List (Int × Value)} {enc : α → Value} {l : List (Int × α)} (hnd : (es.map (·.1)).Nodup) (h2 : ∀ i, alk es i = (mget l i).map enc) (h3 : Asc l) : (es.map (·.1)).Perm (l.map (·.1)) := by
  have hl : (l.map (·.1)).Nodup := by
    rw [List.nodup_iff_pairwise_ne, List.pairwise_map]
    exact h3.imp fun hab => by omega
  rw [List.perm_ext_iff_of_nodup hnd hl]
  intro a
  constructor
  · intro ha
    have := alk_some ha
    rw [h2] at this
    simp only [Option.isSome_map] at this
    obtain ⟨x, hx⟩ := mget_isSome.1 this
    exact List.mem_map.2 ⟨_, hx, rfl⟩
  · intro ha
    obtain ⟨p, hp, rfl⟩ := List.mem_map.1 ha
    apply alk_mem
    rw [h2]
    simp only [Option.isSome_map]
    exact mget_isSome.2 ⟨p.2, hp⟩
theorem pm_len [MapT P t e z] {enc : α → Value} {m : Nat} {l : List (Int × α)} {ty : TypeId} (h : PM enc w m l) (k : K (.int .i64 (l.length : Int)) w) :
    px P (Builtin.len_ #[t] ty #[.map (some m)]) w K := by
  obtain ⟨es, h1, h2, h3⟩ := h
  have hr := lenM_run (P := P) (t := t) h1 ty
  obtain ⟨_, _, _, _, hnd, _⟩ := h1
  have := (pm_keys hnd h2 h3).length_eq
  simp only [List.length_map] at this
  rw [this] at hr
  exact px_of hr k
end
end Go.V
