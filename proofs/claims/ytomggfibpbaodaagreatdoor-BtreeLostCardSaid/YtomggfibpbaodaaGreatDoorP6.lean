/-
  'butterylaw07.BtreeLost' returns true at every input, and its arguments read as they did. One condition: the input's bulk is no more than the model's reach.
-/
import Derived.Test.YtomggfibpbaodaaGreatDoorP0
import Derived.Test.YtomggfibpbaodaaGreatDoorJ6
import Derived.Test.YtomggfibpbaodaaGreatDoorTie
import Derived.Test.YtomggfibpbaodaaGreatDoorCards
import Derived.Lay
import Derived.LaidOnce
import Derived.SevenTiedAt
namespace Go.Proofs.YtomggfibpbaodaaGreatDoor
open Go.V Go.ChangeShapes Go.WideShapes Go.ChangeAt Go.RowKit

theorem own6 : ownKnob Tryz.prog.godebug = none := by kernel_rfl
set_option maxRecDepth 100000 in
theorem lost_lifted (os : Os) (started : os.Started) (H : Type) (enc : TypeId × Value → H) :
    ReturnsInHanded {} Tryz.checked os 6 .any (fun w args => (Rows.btreeLostSpec.pre enc Tryz.prog Tryz.f6 [] false w args ∧ laidMetH Tryz.prog Rows.btreeLostRow.laid w) ∧ sizedMet enc Tryz.prog Tryz.f6 (OpenSpec.ofChange Rows.btreeLostSpec) false w args)
      (Rows.btreeLostSpec.post enc Tryz.prog Tryz.f6 false true false false) := by
  refine returnsInHanded_of_change_and (C := Tryz.checked) (X := fun w _ => laidMetH Tryz.prog Rows.btreeLostRow.laid w) (fun _ _ _ hh h => h.of_heap hh) own6 started (by kernel_rfl) Tryz.func6
    (ChangeSpec.witness_shaped (enc := enc) (C := Tryz.checked) (os := os) (X := fun w _ => laidMetH Tryz.prog Rows.btreeLostRow.laid w) false (World.laidAll Tryz.prog os Rows.btreeLostRow.laid) #[.slice none 0 0, .int .i64 0, .slice none 0 0] 8 (World.laidAll_os _ _ _)
      (World.shaped_of_ZipB (by kernel_rfl) (by kernel_rfl)) (by kernel_rfl) (by kernel_rfl) (by kernel_rfl)
      (by rw [MakeChecks.laidMetH_plain _ _ _ (by kernel_rfl)]; exact laidMet_laidAll _ (by kernel_rfl) (by kernel_rfl))) ?_
  intro W base args ds gs before hval0 hW _ hsz hL _
  have hval : ∀ (j : Nat) t v, Tryz.f6.params[j]? = some t → args[j]? = some v → Value.okWide Tryz.prog W .any base t v := hval0
  have hW' := hW
  have hlt := hW'.lt
  obtain ⟨p, q, hA0, hV, rfl, _, _⟩ := hW
  have hA : DataW.TrodAll enc Tryz.prog W 0 (fun _ => true) true Tryz.f6.params.toList args.toList ds p := hA0
  rw [Tryz.params6] at hA hval
  obtain ⟨v0, v1, v2, d0, d1, d2, p0, p1, p2, rfl, rfl, rfl, h0, h1, h2⟩ := trodAll_three hA
  obtain ⟨rfl, rfl⟩ := trodVars_none hV
  obtain ⟨root, rfl, rfl, rfl, wx⟩ := open_int und_int (hval 1 3 v1 rfl rfl) h1
  simp only [List.append_nil] at hW' hlt
  obtain ⟨m, vs, hp, hpl, hpe⟩ := read_pages (j := 0) (okWide_slice u59 (hval 0 59 v0 rfl rfl)) h0 hsz (by rw [Tryz.params6]; rfl) rfl
  obtain ⟨l, hl, hsh, hll⟩ := read_steps (j := 2) (okWide_slice u22 (hval 2 22 v2 rfl rfl)) h2 hsz (by rw [Tryz.params6]; rfl) rfl
  refine (calls_of (callable_of Tryz.func6 rfl (by kernel_rfl)) (lost_k (K := fun v w' => v = .bool true ∧ Fr no W w') hp hpl hpe hl hsh hll fun w1 hf => ⟨rfl, hf⟩)).mono fun e W' ⟨_, he, hv, hf⟩ => ?_
  subst hv
  subst he
  have hb := fr_below hf
  exact ⟨_, rfl, _, _, _, [], _, [], hW', trodAll_mk1 (shut_bool Tryz.underlying4 _), trodAll_mk3 (Below.trod laidOut6 (by kernel_rfl) (of_decide_eq_true (by kernel_rfl)) h0 hb fun x hx => hlt x (by simp [hx])) (shut_int und_int wx)
    (Below.trod laidOut6 (by kernel_rfl) (of_decide_eq_true (by kernel_rfl)) h2 hb fun x hx => hlt x (by simp [hx])), rfl, hb.frame _, fun h => by cases h⟩

theorem btreeLost_holds : Rows.BtreeLostSaid :=
  OpenClaim.holds_of_wide 6 Tryz.f6 rfl rfl rfl rfl rfl rfl rfl ⟨rfl, rfl, rfl, rfl, rfl⟩ rfl rfl rfl rfl rfl Lost.named Tryz.func6 Lost.closed
    (of_decide_eq_true (by kernel_rfl)) (by unfold Func.isWrapper; first | (rw [if_pos (by decide +kernel)]; kernel_rfl) | (rw [if_neg (by decide +kernel)]; exact ⟨rfl, rfl⟩))
    (fun os started H enc _ => lost_lifted os started H enc)
theorem btreeLost_card : Rows.BtreeLostCardSaid :=
  Claim7.holds_tied_plain_at .later [] [.data, .pinned] true (true, "805465a5a0b1907208ed896824a3fb0674517c70f39dd5b7105de857f560d101") true btreeLost_holds (fun _ h => by cases h) Lost.wfText (fun _ h => by cases h) btreeLost_row_tie rfl ⟨rfl, rfl⟩ main6 rfl
    (fun f fn hf hfn => by
      obtain rfl : f = 6 := Option.some.inj (Lost.named.symm.trans hf) |>.symm
      obtain rfl : fn = Tryz.f6 := (Option.some.inj (Tryz.func6.symm.trans hfn)).symm
      exact ⟨looks6.symm, fun j t ht => by
        rw [Tryz.params6] at ht
        have hm : t ∈ [59, 3, 22] := by simpa using Array.mem_of_getElem? ht
        have hall : ([59, 3, 22].all fun u => !Tryz.prog.wantsStandIn u) = true := by kernel_rfl
        exact (show Tryz.prog.wantsStandIn t = false by simpa using List.all_eq_true.1 hall t hm)⟩)
    Lost.goes
#print axioms btreeLost_card
end Go.Proofs.YtomggfibpbaodaaGreatDoor
