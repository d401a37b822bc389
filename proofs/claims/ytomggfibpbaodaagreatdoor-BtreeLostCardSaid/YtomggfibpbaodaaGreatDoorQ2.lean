/-
  Maps with integer keys: an entry that is taken first and stored into later. Nothing of a program is in this text.
-/
import Derived.Test.YtomggfibpbaodaaGreatDoorQ
namespace Go.V
open Go

theorem aput_none' {es : List (Int × Value)} {k : Int} {v : Value} (h : afind es k = none) : aput es k v = es ++ [(k, v)] := aput_none h
theorem afind_aput (es : List (Int × Value)) (k : Int) (v : Value) : ∃ j, afind (aput es k v) k = some j ∧ (∀ i, afind es k = some i → j = i) ∧ (afind es k = none → j = es.length) := by
  induction es with
  | nil => exact ⟨0, by simp [aput, afind], fun i h => by simp [afind] at h, fun _ => rfl⟩
  | cons p es ih =>
    obtain ⟨a, u⟩ := p
    obtain ⟨j, h1, h2, h3⟩ := ih
    unfold aput
    split
    · rename_i h
      subst h
      exact ⟨0, by simp [afind], fun i hi => by simp [afind] at hi; omega, fun hn => by simp [afind] at hn⟩
    · rename_i h
      refine ⟨j + 1, by simp [afind, h, h1], fun i hi => ?_, fun hn => ?_⟩
      · unfold afind at hi
        rw [if_neg h] at hi
        cases hq : afind es k with
        | none => rw [hq] at hi; simp at hi
        | some q => rw [hq] at hi; simp at hi; have := h2 q hq; omega
      · unfold afind at hn
        rw [if_neg h] at hn
        cases hq : afind es k with
        | none => have := h3 hq; simp; omega
        | some q => rw [hq] at hn; simp at hn
section
variable {P : Program} {w : World} {t e : TypeId} {z : Value} {α : Type}
/-- A map of the memory, an entry of which bears a stamp. -/
def MpS (w : World) (m : Nat) (es : List (Int × Value)) (k : Int) (st : Nat) : Prop :=
  ∃ (en : List MapEntry) (clock j : Nat), w.heap[m]? = some (.map en.toArray clock) ∧ en.map (fun e => (e.key, e.val)) = es.map (fun p => (Value.int .i64 p.1, p.2)) ∧
    (es.map (·.1)).Nodup ∧ (en.map (·.born)).Nodup ∧ (∀ e ∈ en, e.born < clock) ∧ afind es k = some j ∧ (en[j]?).map (·.born) = some st
theorem key_at {k : Int} : ∀ (en : List MapEntry) (es : List (Int × Value)) (j : Nat), en.map (fun e => (e.key, e.val)) = es.map (fun p => (Value.int .i64 p.1, p.2)) → afind es k = some j → ∃ e, en[j]? = some e ∧ e.key = .int .i64 k
  | [], es, j, h, hj => by cases es <;> simp_all [afind]
  | e :: en, [], j, h, _ => by simp at h
  | e :: en, (a, u) :: es, j, h, hj => by
    simp only [List.map_cons, List.cons.injEq, Prod.mk.injEq] at h
    unfold afind at hj
    split at hj
    · rename_i ha
      cases hj
      exact ⟨e, rfl, by rw [h.1.1, ha]⟩
    · cases hq : afind es k with
      | none => rw [hq] at hj; simp at hj
      | some i =>
        rw [hq] at hj
        simp at hj
        subst hj
        obtain ⟨e', h1, h2⟩ := key_at en es i h.2 hq
        exact ⟨e', by simpa using h1, h2⟩
theorem mapEntry_run [hM : MapT P t e z] {m : Nat} {es : List (Int × Value)} (h : Mp w m es) (k : Int) :
    ∃ v st w1, (Instr.mapEntry t (.map (some m)) (.int .i64 k)).run P w = .ok (.tuple #[v, .int .i64 (st : Nat)]) w1 ∧ MpS w1 m (aput es k v) k st ∧ Fr (fun b => b = m) w w1 := by
  obtain ⟨kt, h1, h2⟩ := hM.row
  obtain ⟨en, clock, hm, hen, hnd, hb, hc⟩ := h
  have hlt : m < w.heap.size := (Array.getElem?_eq_some_iff.1 hm).1
  have hg : (getObj m).run P w = .ok (.map en.toArray clock) w := by simp [getObj, Sem.run, hm]
  have hf := findKey_int (P := P) (w := w) (k := k) h2 hen
  have hs := afind_alk es k
  have hset : ∀ o, (setObj m o).run P w = .ok () (putB w m o) := fun o => by simp [setObj, Sem.run, hm, putB]
  have fr : ∀ o, Fr (fun b => b = m) w (putB w m o) := fun o => Fr.put w m o rfl
  have hlen : en.length = es.length := by have := congrArg List.length hen; simpa using this
  cases hA : afind es k with
  | none =>
    refine ⟨z, clock, putB w m (.map (en ++ [({ key := .int .i64 k, val := z, born := clock } : MapEntry)]).toArray (clock + 1)), ?_, ⟨_, _, es.length, heap_putB_eq hlt, ?_, nodup_aput hnd, ?_, ?_, ?_, ?_⟩, fr _⟩
    · simp only [Instr.mapEntry, Sem.run_bind, run_underlying h1, Result.andThen_ok, hg]
      rw [show (10000 : Nat) = 9999 + 1 from rfl, checkKey_int h2]
      simp [Result.andThen_ok, hf, hA, hset, hM.zero, goInt]
    · rw [aput_none hA]; simp [hen]
    · rw [List.map_append, List.nodup_append]
      refine ⟨hb, by simp, ?_⟩
      intro x hx y hy
      obtain ⟨e, he, rfl⟩ := List.mem_map.1 hx
      have := hc e he
      simp at hy
      omega
    · intro e he
      rcases List.mem_append.1 he with he | he
      · have := hc e he; omega
      · simp at he; subst he; simp
    · obtain ⟨j, g1, g2, g3⟩ := afind_aput es k z
      rw [g1, g3 hA]
    · rw [← hlen]; simp
  | some j =>
    rw [hA] at hs
    obtain ⟨old, hl⟩ : ∃ v, alk es k = some v := by cases hq : alk es k <;> simp_all
    obtain ⟨e0, he0, hek⟩ := key_at en es j hen hA
    refine ⟨old, e0.born, putB w m (.map (en.modify j fun e => { e with key := .int .i64 k }).toArray clock), ?_, ⟨_, _, j, heap_putB_eq hlt, ?_, nodup_aput hnd, ?_, ?_, ?_, ?_⟩, fr _⟩
    · simp only [Instr.mapEntry, Sem.run_bind, run_underlying h1, Result.andThen_ok, hg]
      rw [show (10000 : Nat) = 9999 + 1 from rfl, checkKey_int h2]
      have hks : (Instr.keyThatStays (.int .i64 k) (.int .i64 k)).run P w = .ok (.int .i64 k) w := by simp [Instr.keyThatStays, sameBits_int]
      simp [Result.andThen_ok, hf, hA, hl, he0, hek, hks, hset, goInt]
    · have := modify_aput (k := k) (v := old) en es j hen hA
      rw [← this]
      apply List.ext_getElem?
      intro i
      simp only [List.getElem?_map, List.getElem?_modify]
      by_cases hij : j = i
      · subst hij
        have hval : e0.val = old := by
          have : ∀ (en : List MapEntry) (es : List (Int × Value)) (j : Nat) (e0 : MapEntry), en.map (fun e => (e.key, e.val)) = es.map (fun p => (Value.int .i64 p.1, p.2)) → afind es k = some j → alk es k = some old → en[j]? = some e0 → e0.val = old := by
            intro en
            induction en with
            | nil => intro es j e0 h hj hl he; cases es <;> simp_all
            | cons e en ih =>
              intro es j e0 h hj hl he
              cases es with
              | nil => simp at h
              | cons p es =>
                obtain ⟨a, u⟩ := p
                simp only [List.map_cons, List.cons.injEq, Prod.mk.injEq] at h
                unfold afind at hj
                unfold alk at hl
                split at hj
                · rename_i ha
                  cases hj
                  rw [if_pos ha] at hl
                  cases hl
                  simp at he
                  subst he
                  exact h.1.2
                · rename_i ha
                  rw [if_neg ha] at hl
                  cases hq : afind es k with
                  | none => rw [hq] at hj; simp at hj
                  | some i => rw [hq] at hj; simp at hj; subst hj; exact ih es i e0 h.2 hq hl (by simpa using he)
          exact this en es j e0 hen hA hl he0
        simp [he0, hval]
      · simp [hij]
    · have : (en.modify j fun e => { e with key := .int .i64 k }).map (·.born) = en.map (·.born) := by
        apply List.ext_getElem?
        intro i
        simp only [List.getElem?_map, List.getElem?_modify]
        cases en[i]? <;> simp
        split <;> rfl
      rw [this]; exact hb
    · intro e he
      obtain ⟨i, hi, rfl⟩ := List.getElem_of_mem he
      rw [List.getElem_modify]
      have hi' : i < en.length := by simpa using hi
      have := hc en[i] (List.getElem_mem hi')
      split <;> exact this
    · obtain ⟨j', g1, g2, g3⟩ := afind_aput es k old
      rw [g1, g2 j hA]
    · simp [he0]
theorem findIdx_born {en : List MapEntry} (hb : (en.map (·.born)).Nodup) {j st : Nat} (h : (en[j]?).map (·.born) = some st) : en.findIdx? (fun e => (e.born : Int) == (st : Int)) = some j := by
  obtain ⟨e, he, hst⟩ : ∃ e, en[j]? = some e ∧ e.born = st := by
    cases hq : en[j]? with
    | none => rw [hq] at h; cases h
    | some e => rw [hq] at h; simp at h; exact ⟨e, rfl, h⟩
  obtain ⟨hj, hej⟩ := List.getElem?_eq_some_iff.1 he
  rw [List.findIdx?_eq_some_iff_getElem]
  refine ⟨hj, by rw [hej, hst]; simp, fun i hi => ?_⟩
  have hi' : i < en.length := by omega
  simp only [Bool.not_eq_true, beq_eq_false_iff_ne, ne_eq]
  intro heq
  have hpw := List.pairwise_iff_getElem.1 hb i j (by simpa using hi') (by simpa using hj) hi
  apply hpw
  simp only [List.getElem_map]
  rw [hej, hst]
  omega
theorem entryStore_run {m : Nat} {es : List (Int × Value)} {k : Int} {st : Nat} (h : MpS w m es k st) (v : Value) :
    ∃ w1, (Instr.entryStore t (.map (some m)) (.int .i64 (st : Nat)) v).run P w = .ok () w1 ∧ Mp w1 m (aput es k v) ∧ Fr (fun b => b = m) w w1 := by
  obtain ⟨en, clock, j, hm, hen, hnd, hb, hc, hA, hst⟩ := h
  have hlt : m < w.heap.size := (Array.getElem?_eq_some_iff.1 hm).1
  have hg : (getObj m).run P w = .ok (.map en.toArray clock) w := by simp [getObj, Sem.run, hm]
  have hset : ∀ o, (setObj m o).run P w = .ok () (putB w m o) := fun o => by simp [setObj, Sem.run, hm, putB]
  obtain ⟨e0, he0, hek⟩ := key_at en es j hen hA
  refine ⟨putB w m (.map (en.modify j fun e => { e with val := v }).toArray clock), ?_, ⟨_, _, heap_putB_eq hlt, ?_, nodup_aput hnd, ?_, ?_⟩, Fr.put w m _ rfl⟩
  · have hfi : en.toArray.findIdx? (fun e => (e.born : Int) == (st : Int)) = some j := by
      rw [List.findIdx?_toArray]
      exact findIdx_born hb hst
    simp only [Instr.entryStore, Sem.run_bind, hg, Result.andThen_ok, asInt, asIntOf, Sem.run_pure, hfi, hset]
    simp
  · have := modify_aput (k := k) (v := v) en es j hen hA
    rw [← this]
    apply List.ext_getElem?
    intro i
    simp only [List.getElem?_map, List.getElem?_modify]
    by_cases hij : j = i
    · subst hij
      simp [he0, hek]
    · simp [hij]
  · have : (en.modify j fun e => { e with val := v }).map (·.born) = en.map (·.born) := by
      apply List.ext_getElem?
      intro i
      simp only [List.getElem?_map, List.getElem?_modify]
      cases en[i]? <;> simp
      split <;> rfl
    rw [this]; exact hb
  · intro e he
    obtain ⟨i, hi, rfl⟩ := List.getElem_of_mem he
    rw [List.getElem_modify]
    have hi' : i < en.length := by simpa using hi
    have := hc en[i] (List.getElem_mem hi')
    split <;> exact this
/-- An entry is taken, and stored into later. -/
def PMS (enc : α → Value) (w : World) (m : Nat) (l : List (Int × α)) (k : Int) (st : Nat) : Prop := ∃ es, MpS w m es k st ∧ (∀ i, i ≠ k → alk es i = (mget l i).map enc) ∧ Asc l
theorem pm_entry [MapT P t e z] {enc : α → Value} {m : Nat} {l : List (Int × α)} {i : Int} {K : Value → World → Prop} (h : PM enc w m l) (k : ∀ v st w1, PMS enc w1 m l i st → Fr (fun b => b = m) w w1 → K (.tuple #[v, .int .i64 (st : Nat)]) w1) :
    px P (Instr.mapEntry t (.map (some m)) (.int .i64 i)) w K := by
  obtain ⟨es, h1, h2, h3⟩ := h
  obtain ⟨v, st, w1, hr, h4, h5⟩ := mapEntry_run (P := P) (t := t) h1 i
  refine px_of hr (k v st w1 ⟨_, h4, fun j hj => ?_, h3⟩ h5)
  rw [alk_put, if_neg hj]
  exact h2 j
theorem pm_store {enc : α → Value} {m : Nat} {l : List (Int × α)} {i : Int} {st : Nat} {x : α} {v : Value} {K : World → Prop} (h : PMS enc w m l i st) (hv : v = enc x) (k : ∀ w1, PM enc w1 m (mput l i x) → Fr (fun b => b = m) w w1 → K w1) :
    pu P (Instr.entryStore t (.map (some m)) (.int .i64 (st : Nat)) v) w K := by
  obtain ⟨es, h1, h2, h3⟩ := h
  obtain ⟨w1, hr, h4, h5⟩ := entryStore_run (P := P) (t := t) h1 v
  refine pu_of hr (k w1 ⟨_, h4, fun j => ?_, asc_mput h3 _ _⟩ h5)
  rw [alk_put, mget_mput]
  split
  · rw [hv]; rfl
  · rename_i hj; exact h2 j hj
end
end Go.V
