/-
  The keys of a map of pages, ascending.
-/
import Derived.Shelf.SlIterI.Nil
import Derived.Shelf.SortM.Plain
import Derived.Shelf.SortM.SortNone
import Derived.Ground.GgzProg
import Derived.Ground.SlgmProg
import Derived.Test.YtomggfibpbaodaaGreatDoorXA
import Derived.Test.YtomggfibpbaodaaGreatDoorH2
set_option maxRecDepth 100000
namespace Go.Proofs
open Go.RowKit Go.Maps Go.Sort Go.Shelf
theorem Tryz.sortsA (m : Nat) : AnyZI.SortsIn Tryz.prog Tryz.sortedA_ren Fence.wide m :=
  ⟨fun blk off cap ss W hH hblk hsz => callsIn_wide.2 (AnyM.slices_Sort_int Tryz.sortA blk off cap ss W hH hblk hsz),
   fun p cap W => callsIn_wide.2 (AnyM.slices_Sort_int_none Tryz.sortA p cap W)⟩
/-- slices.Sorted over the iterator that maps.Keys has handed back. -/
theorem Tryz.sorted165 {H : Type} (bx b nn : Nat) (D0 : DataW H) (R : Value → Option (DataW H × List MemPlace)) (w : World) (hbx : bx < w.heap.size) (hm : w.cell? ⟨bx, 0, none⟩ = some (.map (some b)))
    (hown : w.ownsMap Tryz.prog 3 R b nn D0) (hmax : Maps.size D0 ≤ maxLen) (hbytes : Maps.size D0 * 8 ≤ 140737488355328) :
    Calls Tryz.prog 165 #[.func (.func 226) #[] #[.pointer (some ⟨bx, 0, none⟩)]] w fun e w' => ∃ (v : Value) (ss : List Int), e = .returned v ∧ ss.Perm (intKeys D0) ∧
      w'.ownsRow w.heap.size 3 1 v ss.length ((ss.mergeSort (fun x y => decide (x ≤ y))).map encZ) ∧ (v = .slice none 0 0 ↔ ss = []) ∧ Below w.heap.size w w' := by
  refine (callsIn_wide (n := 5)).1 ?_
  have hseq : SeqGives Fence.wide 2 Tryz.prog 226 #[.pointer (some ⟨bx, 0, none⟩)] encZ (fun ss => ss.Perm (intKeys D0)) (Maps.size D0) w :=
    AnyZI.keys_gives (ρ := Tryz.keysA_ren) { Tryz.keysA with } Fence.wide _ trivial rfl (by omega) bx b nn D0 w hbx hm hown
  have cS := AnyZI.sorted_in Tryz.sortedA Fence.wide 5 trivial trivial trivial trivial rfl (by omega) (Tryz.sortsA _) (enters_of Tryz.func225 (by kernel_rfl) rfl) 226 #[.pointer (some ⟨bx, 0, none⟩)] trivial (enters_of Tryz.func226 (by kernel_rfl) rfl) _ _ hmax hbytes _ hseq
  exact cS
namespace YtomggfibpbaodaaGreatDoor
open Go.V
theorem callable165 : Callable P 165 := fun args w => (enters_of Tryz.func165 (by kernel_rfl) rfl) args w
def R0 : Value → Option (DataW Unit × List MemPlace) := fun _ => some (.nil, [])
theorem insert_perm {x : Lit × DataW Unit} : ∀ l : List (Lit × DataW Unit), (DataW.insert x l).Perm (x :: l)
  | [] => .refl _
  | y :: r => by
    unfold DataW.insert
    split
    · exact .refl _
    · exact (List.Perm.cons y (insert_perm r)).trans (List.Perm.swap x y r)
theorem foldr_perm : ∀ l : List (Lit × DataW Unit), (l.foldr DataW.insert []).Perm l
  | [] => .refl _
  | x :: r => (insert_perm _).trans (List.Perm.cons x (foldr_perm r))
theorem pm_owns {w : World} {m : Nat} {l : List (Int × Sec)} (h : PM secv w m l) (hb : ∀ x ∈ l, 0 ≤ x.1 ∧ x.1 < 65536) (hl : l.length ≤ 100000) :
    ∃ D0 : DataW Unit, w.ownsMap P 3 R0 m l.length D0 ∧ Maps.size D0 = l.length ∧ (intKeys D0).Perm (l.map (·.1)) := by
  obtain ⟨es, ⟨en, clock, hm, hen, hnd, hbn, hc⟩, h2, h3⟩ := h
  have hp := pm_keys hnd h2 h3
  have hlen : en.length = l.length := by
    have e1 := hp.length_eq
    have e2 := congrArg List.length hen
    simp only [List.length_map] at e1 e2
    omega
  have hkeys : en.map (·.key) = es.map (fun p => Value.int .i64 p.1) := by
    have := congrArg (List.map Prod.fst) hen
    simpa [List.map_map, Function.comp_def] using this
  have hwf : ∀ x ∈ en, ∃ k : Int, x.key = .int .i64 k ∧ k ∈ es.map (·.1) := fun x hx => by
    have : x.key ∈ en.map (·.key) := List.mem_map.2 ⟨x, hx, rfl⟩
    rw [hkeys] at this
    obtain ⟨p, hp', he⟩ := List.mem_map.1 this
    exact ⟨p.1, he.symm, List.mem_map.2 ⟨p, hp', rfl⟩⟩
  have hrd : ∀ x ∈ en, ∀ k : Int, x.key = .int .i64 k → WideElems.rd P 3 R0 x = some (.int .i64 k, .nil) := fun x hx k hk => by
    obtain ⟨k', hk', hmem⟩ := hwf x hx
    rw [hk] at hk'
    cases hk'
    have hmem' := hp.mem_iff.1 hmem
    obtain ⟨p, hpl, rfl⟩ := List.mem_map.1 hmem'
    have hbd := hb p hpl
    have hkey : keyOf P 3 (.int .i64 p.1) = some (.int .i64 p.1) := by
      have hu := und_int
      unfold keyOf mapKey
      rw [hu]
      simp only [Lit.wf, true_and]
      rw [if_pos]
      simp [IntKind.min, IntKind.max, IntKind.signed, IntKind.bits]
      omega
    unfold WideElems.rd
    rw [hk, hkey]
    rfl
  refine ⟨.map ((en.toArray.toList.map (WideElems.rg P 3 R0)).foldr DataW.insert []), ⟨en.toArray, clock, hm, ⟨by simp; unfold maxLen; omega, ⟨by simpa using hc, by simpa using hbn, ?_⟩, fun x hx => ?_⟩, by simp; omega, rfl⟩, ?_, ?_⟩
  · simp only [hkeys]
    have : (es.map (fun p => Value.int .i64 p.1)) = (es.map (·.1)).map (fun k => Value.int .i64 k) := by simp [List.map_map, Function.comp_def]
    rw [this]
    rw [List.nodup_iff_pairwise_ne, List.pairwise_map]
    exact (List.nodup_iff_pairwise_ne.1 hnd).imp fun hab e => hab (by simpa using e)
  · simp only at hx
    obtain ⟨k, hk, _⟩ := hwf x hx
    exact ⟨_, hrd x hx k hk⟩
  · show ((en.map (WideElems.rg P 3 R0)).foldr DataW.insert []).length = l.length
    rw [(foldr_perm _).length_eq, List.length_map, hlen]
  · show (((en.map (WideElems.rg P 3 R0)).foldr DataW.insert []).map fun p => Go.intOf p.1).Perm (l.map (·.1))
    refine ((foldr_perm _).map _).trans ?_
    rw [List.map_map]
    have e : en.map ((fun p => Go.intOf p.1) ∘ WideElems.rg P 3 R0) = es.map (·.1) := by
      have e1 : en.map ((fun p => Go.intOf p.1) ∘ WideElems.rg P 3 R0) = (en.map (·.key)).map (fun v => match v with | .int _ n => n | _ => 0) := by
        rw [List.map_map]
        refine List.map_congr_left fun x hx => ?_
        obtain ⟨k, hk, _⟩ := hwf x hx
        simp only [Function.comp_def, WideElems.rg, hrd x hx k hk, Option.getD_some, Go.intOf, hk]
      rw [e1, hkeys, List.map_map]
      rfl
    rw [e]
    exact hp
theorem keys_sorted {l : List (Int × Sec)} (h : Asc l) : (l.map (·.1)).mergeSort (fun x y => decide (x ≤ y)) = l.map (·.1) := by
  refine List.mergeSort_of_pairwise ?_
  rw [List.pairwise_map]
  exact h.imp fun hab => by simp; omega
theorem keys166_k {w : World} {m : Nat} {K : Value → World → Prop} (k : ∀ bx w1, bx = w.heap.size → Bk w1 bx 190 [.map (some m)] → Fr no w w1 → K (.func (.func 226) #[] #[pt bx]) w1) : cl P 166 #[.map (some m)] w K := by
  apply c166
  unfold F166
  refine box_k fun bx w1 hbx hb hf => ?_
  refine px_run ?_
  exact k bx w1 hbx hb hf
theorem sorted_k {w : World} {m bx : Nat} {l : List (Int × Sec)} {K : Value → World → Prop} (h : PM secv w m l) (hx : Bk w bx 190 [.map (some m)]) (hb : ∀ x ∈ l, 0 ≤ x.1 ∧ x.1 < 65536) (hl : l.length ≤ 100000)
    (k : ∀ v w1, Own w1 v 3 1 l.length (l.map fun x => iv x.1) → Fr no w w1 → K v w1) : cl P 165 #[.func (.func 226) #[] #[pt bx]] w K := by
  obtain ⟨D0, hown, hsz, hperm⟩ := pm_owns h hb hl
  unfold cl
  refine Or.inl ⟨callable165, ?_⟩
  refine (Tryz.sorted165 bx m l.length D0 R0 w hx.lt (hx.cell 0) hown (by rw [hsz]; unfold maxLen; omega) (by rw [hsz]; omega)).mono ?_
  rintro e w' ⟨v, ss, rfl, hss, hrow, _, hbel⟩
  refine ⟨v, rfl, ?_⟩
  have hp := hss.trans hperm
  have e1 : ss.mergeSort (fun x y => decide (x ≤ y)) = l.map (·.1) := by
    rw [mergeSort_of_perm_i hp]
    exact keys_sorted h.asc
  have hlen : ss.length = l.length := by rw [hp.length_eq, List.length_map]
  rw [e1, hlen, List.map_map] at hrow
  refine k v w' ⟨hrow.1, ?_⟩ ⟨hbel.os, hbel.tape, hbel.output, hbel.size, fun i hi _ => hbel.block i hi⟩
  rcases hrow.2 with h | ⟨g, cap, cur, h1, _, h2⟩
  · exact .inl h
  · exact .inr ⟨g, cap, cur, h1, Nat.zero_le _, h2⟩
end YtomggfibpbaodaaGreatDoor
end Go.Proofs
