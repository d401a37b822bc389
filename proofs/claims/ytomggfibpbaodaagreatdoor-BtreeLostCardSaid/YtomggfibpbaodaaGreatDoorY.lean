/-
  Going over a map; maps.Copy.
-/
import Derived.Test.YtomggfibpbaodaaGreatDoorH2
import Derived.Laws.NewFold
set_option maxRecDepth 100000
namespace Go.V
open Go
section
variable {P : Program} {w : World}
/-- A map that is gone over: its entries. -/
structure Src (w : World) (ms : Nat) (en : List MapEntry) (clock : Nat) : Prop where
  blk : w.heap[ms]? = some (.map en.toArray clock)
  nd : (en.map (·.born)).Nodup
  lt : ∀ e ∈ en, e.born < clock
def It (w : World) (r ms clock : Nat) (seen : List Nat) : Prop := w.heap[r]? = some (.mapIter (some ms) clock seen.toArray clock)
theorem Src.fr {F : Nat → Prop} {w1 : World} {ms clock : Nat} {en : List MapEntry} (h : Src w ms en clock) (f : Fr F w w1) (hF : ¬ F ms) : Src w1 ms en clock :=
  ⟨by rw [f.same ms (Array.getElem?_eq_some_iff.1 h.blk).1 hF]; exact h.blk, h.nd, h.lt⟩
theorem It.fr {F : Nat → Prop} {w1 : World} {r ms clock : Nat} {seen : List Nat} (h : It w r ms clock seen) (f : Fr F w w1) (hF : ¬ F r) : It w1 r ms clock seen := by
  unfold It at *
  rw [f.same r (Array.getElem?_eq_some_iff.1 h).1 hF]
  exact h
theorem range_k {t k e : TypeId} {K : Value → World → Prop} (ht : P.underlying t = some (.map k e)) {ms clock : Nat} {en : List MapEntry} (h : Src w ms en clock)
    (kk : ∀ r w1, r = w.heap.size → It w1 r ms clock [] → Fr no w w1 → K (.pointer (some ⟨r, 0, none⟩)) w1) : px P (Instr.range t (.map (some ms))) w K := by
  have hg : (getObj ms).run P w = .ok (.map en.toArray clock) w := by simp [getObj, Sem.run, h.blk]
  refine px_of (w' := w.alloc (.mapIter (some ms) clock #[] clock)) ?_ (kk _ _ rfl (heap_alloc_new w _) (Fr.alloc _ _))
  simp only [Instr.range, Sem.run_bind, run_underlying ht, Result.andThen_ok, hg]
  rfl
theorem choose_run (n : Nat) (hn : 0 < n) : ∃ i w1, (choose (.mapNext n)).run P w = .ok i w1 ∧ i < n ∧ (w1 = w ∨ w1 = w.drew) := by
  rw [run_choose_drew]
  by_cases h : (Question.mapNext n).forced = true
  · rw [if_pos h]
    exact ⟨0, w, rfl, hn, .inl rfl⟩
  · rw [if_neg h]
    exact ⟨_, _, rfl, Nat.mod_lt _ hn, .inr rfl⟩
theorem fr_drew {w1 : World} (h : w1 = w ∨ w1 = w.drew) : Fr no w w1 := by
  rcases h with rfl | rfl
  · exact Fr.refl _ _
  · exact Fr.dw w
theorem next_map {r ms clock : Nat} {en : List MapEntry} {seen : List Nat} {K : Value → World → Prop} (hs : Src w ms en clock) (hi : It w r ms clock seen) (hne : r ≠ ms)
    (k0 : (∀ e ∈ en, e.born ∈ seen) → ∀ w1, Fr no w w1 → K (.tuple #[.bool false]) w1)
    (k1 : ∀ e ∈ en, e.born ∉ seen → ∀ w1, It w1 r ms clock (seen ++ [e.born]) → Src w1 ms en clock → Fr (fun i => i = r) w w1 → K (.tuple #[.bool true, e.key, e.val]) w1) :
    px P (Instr.next (.pointer (some ⟨r, 0, none⟩)) false 0) w K := by
  have hlt : r < w.heap.size := (Array.getElem?_eq_some_iff.1 hi).1
  have hg : (getObj r).run P w = .ok (.mapIter (some ms) clock seen.toArray clock) w := by
    have : w.heap[r]? = some (.mapIter (some ms) clock seen.toArray clock) := hi
    simp [getObj, Sem.run, this]
  have hg2 : (getObj ms).run P w = .ok (.map en.toArray clock) w := by simp [getObj, Sem.run, hs.blk]
  have hcond : (!seen.toArray.isEmpty && !en.toArray.isEmpty && en.toArray.all (fun e => e.born ≥ clock)) = false := by
    cases en with
    | nil => simp
    | cons e en =>
      have := hs.lt e (.head _)
      simp
      intro _ h
      omega
  obtain ⟨left, hleft⟩ : ∃ left, left = en.filter (fun e => !seen.contains e.born) := ⟨_, rfl⟩
  have hold : (en.toArray.filter fun e => !seen.toArray.contains e.born).filter (fun e => decide (e.born < clock)) = left.toArray := by
    simp only [List.contains_toArray, List.filter_toArray, ← hleft]
    congr 1
    rw [List.filter_eq_self]
    intro e he
    rw [hleft] at he
    simpa using hs.lt e (List.mem_filter.1 he).1
  have hnew : (en.toArray.filter fun e => !seen.toArray.contains e.born).filter (fun e => decide (e.born ≥ clock)) = #[] := by
    simp only [List.contains_toArray, List.filter_toArray, ← hleft]
    rw [show left.filter (fun e => decide (e.born ≥ clock)) = [] by
      rw [List.filter_eq_nil_iff]
      intro e he
      rw [hleft] at he
      have := hs.lt e (List.mem_filter.1 he).1
      simp
      omega]
  obtain ⟨cand, hcand⟩ : ∃ cand : Array (Option MapEntry), cand = (if left.isEmpty then #[none] else #[]) ++ (left.map some).toArray := ⟨_, rfl⟩
  have hcs : 0 < cand.size := by
    rw [hcand]
    cases left <;> simp
  obtain ⟨i, w1, hch, hic, hw1⟩ := choose_run (P := P) (w := w) cand.size hcs
  have hfr := fr_drew hw1
  have hrun : (Instr.next (.pointer (some ⟨r, 0, none⟩)) false 0).run P w = ((match cand[i]? with
      | some (some e) => (do setObj r (.mapIter (some ms) clock (seen.toArray.push e.born) clock); pure (.tuple #[.bool true, e.key, e.val]))
      | some none => pure (.tuple #[.bool false])
      | none => stuck "Next: no such candidate" : Sem Value)).run P w1 := by
    simp only [Instr.next, Sem.run_bind, hg, Result.andThen_ok, hg2]
    rw [if_neg (by rw [hcond]; simp)]
    simp only [Sem.run_bind]
    rw [hold, hnew]
    have hcand' : ((if left.toArray.isEmpty = true then #[none] else #[]) ++ (left.toArray ++ #[]).map some : Array (Option MapEntry)) = cand := by
      rw [hcand]
      cases left <;> simp
    rw [hcand', hch]
    simp only [Result.andThen_ok]
    cases cand[i]? with
    | none => rfl
    | some o => cases o <;> rfl
  cases hq : cand[i]? with
  | none => rw [Array.getElem?_eq_none_iff] at hq; omega
  | some o =>
    rw [hq] at hrun
    cases o with
    | none =>
      refine px_of (hrun.trans rfl) (k0 (fun e he => ?_) w1 hfr)
      by_cases hm : e.born ∈ seen
      · exact hm
      · have hel : e ∈ left := by rw [hleft]; exact List.mem_filter.2 ⟨he, by simpa using hm⟩
        cases left with
        | nil => cases hel
        | cons a l =>
          have := Array.mem_of_getElem? hq
          rw [hcand] at this
          simp at this
    | some e =>
      have hel : e ∈ left := by
        have := Array.mem_of_getElem? hq
        rw [hcand] at this
        cases left with
        | nil => simp at this
        | cons a l => simpa using this
      rw [hleft] at hel
      obtain ⟨he, hns⟩ := List.mem_filter.1 hel
      have hns' : e.born ∉ seen := by simpa using hns
      have hlt1 : r < w1.heap.size := Nat.lt_of_lt_of_le hlt hfr.size
      have hset : ∀ o, (setObj r o).run P w1 = .ok () (putB w1 r o) := fun o => by
        have ho' : w1.heap[r]? = some (.mapIter (some ms) clock seen.toArray clock) := hi.fr hfr id
        simp [setObj, Sem.run, ho', putB]
      have fr := Fr.put (F := fun b => b = r) w1 r (.mapIter (some ms) clock (seen.toArray.push e.born) clock) rfl
      refine px_of (w' := putB w1 r (.mapIter (some ms) clock (seen.toArray.push e.born) clock)) (v := .tuple #[.bool true, e.key, e.val]) ?_ (k1 e he hns' _ ?_ ?_ (hfr.of fr))
      · rw [hrun]
        simp only [Sem.run_bind, hset, Result.andThen_ok, Sem.run_pure]
      · unfold It
        rw [heap_putB_eq hlt1]
        simp
      · exact (hs.fr hfr id).fr fr (fun e => hne e.symm)
theorem entry_map {r ms clock : Nat} {en : List MapEntry} {seen : List Nat} {e : MapEntry} {K : Value → World → Prop} (hs : Src w ms en clock) (hi : It w r ms clock (seen ++ [e.born])) (he : e ∈ en)
    (k : K (.tuple #[e.key, e.val]) w) : px P (Instr.entry (.pointer (some ⟨r, 0, none⟩))) w K := by
  have hg : (getObj r).run P w = .ok (.mapIter (some ms) clock (seen ++ [e.born]).toArray clock) w := by
    have : w.heap[r]? = some (.mapIter (some ms) clock (seen ++ [e.born]).toArray clock) := hi
    simp [getObj, Sem.run, this]
  have hg2 : (getObj ms).run P w = .ok (.map en.toArray clock) w := by simp [getObj, Sem.run, hs.blk]
  have hf : en.toArray.find? (fun x => x.born == e.born) = some e := by
    rw [List.find?_toArray]
    have : ∀ (l : List MapEntry), (l.map (·.born)).Nodup → e ∈ l → l.find? (fun x => x.born == e.born) = some e := by
      intro l
      induction l with
      | nil => intro _ h; cases h
      | cons a l ih =>
        intro hn hm
        simp only [List.map_cons, List.nodup_cons] at hn
        rw [List.find?_cons]
        rcases List.mem_cons.1 hm with rfl | hm
        · simp
        · have : (a.born == e.born) = false := by
            simp only [beq_eq_false_iff_ne, ne_eq]
            intro h
            exact hn.1 (h ▸ List.mem_map.2 ⟨e, hm, rfl⟩)
          rw [this]
          exact ih hn.2 hm
    exact this en hs.nd he
  refine px_of ?_ k
  simp only [Instr.entry, Sem.run_bind, hg, Result.andThen_ok]
  simp [hg2, hf]
end
/-- A list's map, gone over. -/
theorem PM.src {α : Type} {enc : α → Value} {w : World} {m : Nat} {l : List (Int × α)} (h : PM enc w m l) : ∃ en clock, Src w m en clock ∧ (∀ e ∈ en, ∃ k x, (k, x) ∈ l ∧ e.key = .int .i64 k ∧ e.val = enc x) ∧ (∀ p ∈ l, ∃ e ∈ en, e.key = .int .i64 p.1) ∧ (en.map (·.key)).Nodup := by
  obtain ⟨es, ⟨en, clock, hm, hen, hnd, hbn, hc⟩, h2, h3⟩ := h
  have hp := pm_keys hnd h2 h3
  have hkeys : en.map (·.key) = es.map (fun p => Value.int .i64 p.1) := by
    have := congrArg (List.map Prod.fst) hen
    simpa [List.map_map, Function.comp_def] using this
  refine ⟨en, clock, ⟨hm, hbn, hc⟩, fun e he => ?_, fun p hpl => ?_, ?_⟩
  · have : (e.key, e.val) ∈ en.map (fun e => (e.key, e.val)) := List.mem_map.2 ⟨e, he, rfl⟩
    rw [hen] at this
    obtain ⟨p, hpe, heq⟩ := List.mem_map.1 this
    simp only [Prod.mk.injEq] at heq
    have hal : ∀ (es : List (Int × Value)), (es.map (·.1)).Nodup → p ∈ es → alk es p.1 = some p.2 := by
      intro es
      induction es with
      | nil => intro _ h; cases h
      | cons q es ih =>
        obtain ⟨a, u⟩ := q
        intro hn hm
        simp only [List.map_cons, List.nodup_cons] at hn
        unfold alk
        rcases List.mem_cons.1 hm with rfl | hm2
        · simp
        · rw [if_neg (fun e => hn.1 (List.mem_map.2 ⟨p, hm2, e.symm⟩))]
          exact ih hn.2 hm2
    have h4 := hal es hnd hpe
    rw [h2] at h4
    obtain ⟨x, hx, hex⟩ := Option.map_eq_some_iff.1 h4
    exact ⟨p.1, x, mget_mem hx, heq.1.symm, by rw [hex]; exact heq.2.symm⟩
  · have : p.1 ∈ es.map (·.1) := hp.mem_iff.2 (List.mem_map.2 ⟨p, hpl, rfl⟩)
    obtain ⟨q, hq, hqe⟩ := List.mem_map.1 this
    have : Value.int .i64 q.1 ∈ en.map (·.key) := by rw [hkeys]; exact List.mem_map.2 ⟨q, hq, rfl⟩
    obtain ⟨e, he, hke⟩ := List.mem_map.1 this
    exact ⟨e, he, by rw [hke, hqe]⟩
  · rw [hkeys]
    have : (es.map (fun p => Value.int .i64 p.1)) = (es.map (·.1)).map (fun k => Value.int .i64 k) := by simp [List.map_map, Function.comp_def]
    rw [this, List.nodup_iff_pairwise_ne, List.pairwise_map]
    exact (List.nodup_iff_pairwise_ne.1 hnd).imp fun hab e => hab (by simpa using e)
end Go.V
namespace Go.Proofs.YtomggfibpbaodaaGreatDoor
open Go.V
def seenLen (w : World) (r : Nat) : Nat := match w.heap[r]? with | some (.mapIter _ _ s _) => s.size | _ => 0
theorem copy172_k {w : World} {md ms : Nat} {l0 l : List (Int × Sec)} {K : Value → World → Prop} (hd : PM secv w md l0) (hs : PM secv w ms l) (hne : md ≠ ms) (hl : ∀ x ∈ l, x.2.length = 512)
    (k : ∀ w1, PM secv w1 md (mcopy l0 l) → Fr (fun i => i = md) w w1 → K (.tuple #[]) w1) : cl P 172 #[.map (some md), .map (some ms)] w K := by
  obtain ⟨en, clock, hsrc, hen, hall, hnd⟩ := hs.src
  have z512 := zs_length 512
  have hasc := hs.asc
  apply c172
  unfold F172
  refine range_k (P := P) (t := 190) (k := 3) (e := 195) (by kernel_rfl) hsrc fun r w1 hr hit hf1 => ?_
  refine lp_of (fun vs w2 => ∃ (seen : List Nat) (c : List (Int × Sec)), vs = [] ∧ It w2 r ms clock seen ∧ Src w2 ms en clock ∧ PM secv w2 md c ∧ ((∀ i, (∃ e ∈ en, e.born ∈ seen ∧ e.key = .int .i64 i) → mget c i = (mget l i).or (mget l0 i)) ∧ (∀ i, ¬ (∃ e ∈ en, e.born ∈ seen ∧ e.key = .int .i64 i) → mget c i = mget l0 i)) ∧
      Fr (fun i => i = md) w w2 ∧ seen.Nodup ∧ (∀ b ∈ seen, ∃ e ∈ en, e.born = b))
    (fun _ w2 => en.length - seenLen w2 r) ⟨[], l0, rfl, hit, hsrc.fr hf1 id, hd.fr0 hf1, ⟨fun i h => (by obtain ⟨e, _, h, _⟩ := h; cases h), fun _ _ => rfl⟩, hf1.mono fun _ h => h.elim, List.nodup_nil, fun _ h => by cases h⟩ ?_
  rintro vs w2 ⟨seen, c, rfl, hi2, hs2, hc2, hgc, f2, hsn, hse⟩
  have hrs : r ≠ ms := by have := (Array.getElem?_eq_some_iff.1 hsrc.blk).1; omega
  have hrd : r ≠ md := by have := hd.lt; omega
  refine next_map hs2 hi2 hrs (fun hdone w3 hf3 => ?_) (fun e he hns w3 hi3 hs3 hf3 => ?_)
  · refine px_of (v := .bool false) (w' := w3) rfl ?_
    refine cnd_false ?_
    have e1 : c = mcopy l0 l := by
      refine asc_ext hc2.asc (asc_mcopy hd.asc l) fun i => ?_
      rw [mget_mcopy hasc]
      by_cases hdo : ∃ e ∈ en, e.born ∈ seen ∧ e.key = .int .i64 i
      · exact hgc.1 i hdo
      · rw [hgc.2 i hdo]
        cases hm : mget l i with
        | none => rfl
        | some s =>
          obtain ⟨e, he, hk⟩ := hall _ (mget_mem hm)
          exact absurd ⟨e, he, hdone e he, hk⟩ hdo
    rw [e1] at hc2
    exact k w3 (hc2.fr0 hf3) (f2.then hf3)
  · refine px_of (v := .bool true) (w' := w3) rfl ?_
    refine cnd_true ?_
    refine entry_map hs3 hi3 he ?_
    obtain ⟨kk, s, hmem, hk, hv⟩ := hen e he
    rw [hk, hv]
    refine px_run ?_
    refine px_run ?_
    have hs512 := hl _ hmem
    simp only at hs512
    refine alloc_k (P := P) (z := zeros 512) fun b5 w4 hb5e hb5 hf4 => ?_
    rw [zeros_bs] at hb5
    unfold secv
    refine stA0_k hb5 (atoms_bs _) (by rw [bs_length]; exact hs512) (by rw [bs_length, z512]) fun w5 hb55 hf5 => ?_
    refine ldA0 hb55 (by rw [bs_length]; exact hs512) ?_
    have f35 : Fr no w3 w5 := hf4.new hf5 (fun i hi => by omega)
    have hc5 := (hc2.fr hf3 (fun e => hrd e.symm)).fr0 f35
    refine pm_put (P := P) hc5 (x := s) rfl fun w6 hc6 hf6 => ?_
    have hi6 := (hi3.fr f35 id).fr hf6 (fun e => hrd e)
    have hs6 := (hs3.fr f35 id).fr hf6 (fun e => hne e.symm)
    refine ⟨⟨seen ++ [e.born], _, rfl, hi6, hs6, hc6, ⟨fun i hdo => ?_, fun i hdo => ?_⟩, ?_, ?_, ?_⟩, ?_⟩
    · rw [mget_mput]
      by_cases hik : i = kk
      · subst hik
        rw [if_pos rfl, mget_of_mem hasc hmem]
        rfl
      · rw [if_neg hik]
        refine hgc.1 i ?_
        obtain ⟨e', h1, h2, h3⟩ := hdo
        refine ⟨e', h1, ?_, h3⟩
        rcases List.mem_append.1 h2 with h2 | h2
        · exact h2
        · simp only [List.mem_singleton] at h2
          have hee : e' = e := by
            have hp := List.pairwise_map.1 hsrc.nd
            by_cases hq : e' = e
            · exact hq
            · exact absurd h2 (by
                have := List.pairwise_iff_getElem.1 hp
                obtain ⟨a, ha, rfl⟩ := List.getElem_of_mem h1
                obtain ⟨b, hb, rfl⟩ := List.getElem_of_mem he
                rcases Nat.lt_trichotomy a b with h | h | h
                · exact this a b ha hb h
                · subst h; exact absurd rfl hq
                · exact fun e => this b a hb ha h e.symm)
          subst hee
          rw [hk] at h3
          simp at h3
          exact absurd h3.symm hik
    · rw [mget_mput]
      have hik : i ≠ kk := by
        rintro rfl
        exact hdo ⟨e, he, by simp, hk⟩
      rw [if_neg hik]
      refine hgc.2 i fun ⟨e', h1, h2, h3⟩ => hdo ⟨e', h1, by simp [h2], h3⟩
    · exact ((f2.trans hf3 fun i e => .inr (by have e' : i = r := e; omega)).then f35).two hf6
    · rw [List.nodup_append]
      refine ⟨hsn, by simp, fun a ha b hb => ?_⟩
      simp only [List.mem_singleton] at hb
      subst hb
      rintro rfl
      exact hns ha
    · intro b hb
      rcases List.mem_append.1 hb with hb | hb
      · exact hse b hb
      · simp only [List.mem_singleton] at hb
        exact ⟨e, he, hb.symm⟩
    · have e1 : seenLen w2 r = seen.length := by unfold seenLen; rw [show w2.heap[r]? = _ from hi2]; simp
      have e2 : seenLen w6 r = seen.length + 1 := by unfold seenLen; rw [show w6.heap[r]? = _ from hi6]; simp
      rw [e1, e2]
      have hlt : seen.length < en.length := by
        have := length_le_sub (l := (seen ++ [e.born]).map fun (n : Nat) => (n : Int)) (r := en.map fun e => (e.born : Int)) (by
          rw [List.nodup_iff_pairwise_ne, List.pairwise_map]
          have hn : (seen ++ [e.born]).Nodup := by
            rw [List.nodup_append]
            refine ⟨hsn, by simp, fun a ha b hb => ?_⟩
            simp only [List.mem_singleton] at hb
            subst hb
            rintro rfl
            exact hns ha
          exact (List.nodup_iff_pairwise_ne.1 hn).imp fun h => by omega) (fun a ha => by
          obtain ⟨n, hn, rfl⟩ := List.mem_map.1 ha
          rcases List.mem_append.1 hn with hn | hn
          · obtain ⟨e', he', rfl⟩ := hse n hn
            exact List.mem_map.2 ⟨e', he', rfl⟩
          · simp only [List.mem_singleton] at hn
            exact List.mem_map.2 ⟨e, he, by rw [hn]⟩)
        simp at this
        omega
      omega
end Go.Proofs.YtomggfibpbaodaaGreatDoor
