/-
  bytes.TrimRight at one byte.
-/
import Derived.Test.YtomggfibpbaodaaGreatDoorH2
set_option maxRecDepth 100000
namespace Go.Proofs.YtomggfibpbaodaaGreatDoor
open Go.V
theorem trimR_zero (l : List UInt8) : trimR (l ++ [0]) = trimR l := by simp [trimR]
theorem trimR_other (l : List UInt8) {c : UInt8} (h : c ≠ 0) : trimR (l ++ [c]) = l ++ [c] := by
  unfold trimR
  rw [List.reverse_append, List.reverse_cons, List.reverse_nil, List.nil_append, List.cons_append, List.nil_append, List.dropWhile_cons]
  rw [if_neg (by simp [h])]
  simp
theorem trimR_len (l : List UInt8) : (trimR l).length ≤ l.length := by
  unfold trimR
  rw [List.length_reverse]
  exact Nat.le_trans (List.Sublist.length_le (List.dropWhile_sublist _)) (by rw [List.length_reverse]; exact Nat.le_refl _)
theorem eq_u8 {c : UInt8} {b : Bool} {w : World} : (bin b .eql 5 (u8v c) (.int .u8 0)).run P w = .ok (.bool (c == 0)) w := by
  have h : Rn P (bin b .eql 5 (u8v c) (.int .u8 0)) w (.bool (decide ((c.toNat : Int) = 0))) w := inferInstance
  rw [h.run]
  congr 2
  by_cases hc : c = 0
  · subst hc; rfl
  · have : c.toNat ≠ 0 := fun e => hc (UInt8.toNat_inj.1 e)
    simp [hc, this]
theorem trim228_k {w : World} {v : Value} {l : List UInt8} {K : Value → World → Prop} (h : Sl w v 1 l.length (bs l)) (hl : l.length ≤ 1000000)
    (k : ∀ v', Sl w v' 1 (trimR l).length (bs (trimR l)) → (∀ b, v'.ownBlock = some b → v.ownBlock = some b) → K v' w) : cl P 228 #[v, .int .u8 0] w K := by
  apply c228
  unfold F228
  refine lp_of (fun vs w' => ∃ (v' : Value) (m : List UInt8), vs = [v'] ∧ w' = w ∧ Sl w v' 1 m.length (bs m) ∧ trimR m = trimR l ∧ m.length ≤ l.length ∧ (∀ b, v'.ownBlock = some b → v.ownBlock = some b))
    (fun vs _ => (match vs with | [.slice _ n _] => n | _ => 0)) ⟨v, l, rfl, rfl, h, rfl, Nat.le_refl _, fun _ h => h⟩ ?_
  rintro vs w' ⟨v', m, rfl, rfl, hm, ht, hml, hown⟩
  simp only [g0_cons]
  obtain ⟨_, a, c, rfl, _⟩ := id hm
  refine px_run ?_
  refine px_run ?_
  rcases List.eq_nil_or_concat m with rfl | ⟨m', x, rfl⟩
  · simp only [List.length_nil]
    have e : decide (((0 : Nat) : Int) > 0) = false := by simp
    simp only [e]
    iterate 8 refine gd_ft ?_
    refine pk_false ?_
    refine cnd_false ?_
    have e2 : trimR l = [] := by rw [← ht]; rfl
    rw [e2] at k
    exact k _ hm hown
  · have hlen : (m'.concat x).length = m'.length + 1 := by simp
    rw [List.concat_eq_append] at hm ht hml hown ⊢
    have hlen : (m' ++ [x]).length = m'.length + 1 := by simp
    have e : decide (((m' ++ [x]).length : Int) > 0) = true := decide_eq_true (by rw [hlen]; omega)
    simp only [e]
    refine gd_tt ?_
    refine gd_tt ?_
    refine gd_tt ?_
    refine px_run ?_
    haveI : Fits .i64 (((m' ++ [x]).length : Int) - 1) := fits_i64 (by omega) (by omega)
    refine gd_tt ?_
    refine px_run ?_
    refine gd_tt ?_
    refine idx_s (P := P) hm (by omega) m'.length (by rw [hlen]; omega) (by omega) fun b o _ hc => ?_
    have h0 := hc 0 (by omega)
    rw [Nat.mul_one, Nat.add_zero, Nat.add_zero, bs_get (by rw [hlen]; omega)] at h0
    simp only [List.getElem_append_right (Nat.le_refl _), Nat.sub_self, List.getElem_cons_zero] at h0
    refine gd_tt ?_
    refine ld1 (P := P) h0 ?_
    refine gd_tt ?_
    refine gd_tt ?_
    refine px_of eq_u8 ?_
    refine pk_true ?_
    refine cnd_of (fun hx => ?_) (fun hx => ?_)
    · have hx0 : x = 0 := by simpa using hx
      subst hx0
      refine px_run ?_
      refine px_run ?_
      refine slc_h (P := P) m'.length (by rw [hlen]; omega) hm (by omega) fun v2 h2 hown2 => ?_
      rw [Nat.mul_one, bs_take, take_of_append rfl] at h2
      obtain ⟨_, a2, c2, rfl, _⟩ := id h2
      refine ⟨⟨_, m', rfl, rfl, h2, by rw [← ht, trimR_zero], by omega, fun b hb => hown b (hown2 b hb)⟩, show m'.length < (m' ++ [0]).length by rw [hlen]; omega⟩
    · have hx0 : x ≠ 0 := by simpa using hx
      rw [trimR_other _ hx0] at ht
      rw [← ht] at k
      exact k _ hm hown
theorem idx0 {w : World} : (Instr.index 9 (.string ⟨#[0]⟩) (.int .i64 0)).run P w = .ok (.int .u8 0) w := by kernel_rfl
theorem zero_str : Value.string ⟨#[0]⟩ = sv [0] := rfl
theorem trimRight_k {w : World} {v : Value} {l : List UInt8} {K : Value → World → Prop} (h : Sl w v 1 l.length (bs l)) (hl : l.length ≤ 1000000)
    (k : ∀ v', Sl w v' 1 (trimR l).length (bs (trimR l)) → (∀ b, v'.ownBlock = some b → v.ownBlock = some b) → K v' w) : cl P 169 #[v, .string ⟨#[0]⟩] w K := by
  obtain ⟨_, a, c, rfl, _⟩ := id h
  apply c169
  unfold F169
  refine px_run ?_
  refine px_run ?_
  by_cases h0 : l.length = 0
  · have e : decide ((l.length : Int) = 0) = true := decide_eq_true (by omega)
    simp only [e]
    iterate 2 refine gd_tf ?_
    refine pk_true ?_
    refine cnd_true ?_
    have hl0 : l = [] := List.eq_nil_of_length_eq_zero h0
    subst hl0
    exact k _ h fun _ h => h
  · have e : decide ((l.length : Int) = 0) = false := decide_eq_false (by omega)
    simp only [e]
    refine gd_ff ?_
    refine gd_ff ?_
    rw [zero_str, sv_nil]
    refine px_run ?_
    refine pk_false ?_
    refine cnd_dec (fun hc => absurd hc (by decide)) (fun _ => ?_)
    refine px_run ?_
    refine px_run ?_
    have e1 : decide ((([0] : Str).length : Int) = 1) = true := rfl
    simp only [e1]
    refine gd_tt ?_
    refine gd_tt ?_
    rw [← zero_str]
    refine px_of idx0 ?_
    refine gd_tt ?_
    refine px_run ?_
    refine pk_true ?_
    refine cnd_true ?_
    refine px_of idx0 ?_
    exact trim228_k h hl k
end Go.Proofs.YtomggfibpbaodaaGreatDoor
