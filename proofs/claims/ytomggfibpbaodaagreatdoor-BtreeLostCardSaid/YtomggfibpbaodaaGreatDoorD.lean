/-
  The disk: what its functions do.
-/
import Derived.Test.YtomggfibpbaodaaGreatDoorR2
import Derived.Test.YtomggfibpbaodaaGreatDoorT
import Derived.Laws.StructEq
namespace Go.Proofs.YtomggfibpbaodaaGreatDoor
open Go.V

abbrev Sec := List UInt8
structure Disk where
  lasts : List Sec
  waits : List (Nat × Sec)
  done : Int
  dead : Bool
  fset : Bool
  fleft : Int
  keep : List Bool
def wenc (p : Nat × Sec) : List Value := .int .i64 (p.1 : Int) :: bs p.2
/-- The number of the last write of a sector that waits. -/
def lastW (l : List (Nat × Sec)) (i : Int) : Option Nat :=
  match l with
  | [] => none
  | p :: l => match lastW l i with
    | some k => some (k + 1)
    | none => if (p.1 : Int) = i then some 0 else none
structure Disk.WF (D : Disk) : Prop where
  lasts : ∀ s ∈ D.lasts, s.length = 512
  waits : ∀ p ∈ D.waits, p.1 < D.lasts.length ∧ p.2.length = 512
  pos : 0 < D.lasts.length
  most : D.lasts.length ≤ 65536
instance : MapT P 172 3 (.int .i64 0) := ⟨⟨3, by kernel_rfl, by kernel_rfl⟩, fun w => by kernel_rfl⟩
structure DiskAt (w : World) (d : Nat) (D : Disk) (F : Nat → Prop) (vl vw vk : Value) (m : Nat) (es : List (Int × Value)) : Prop where
  blk : Bk w d 186 [vl, vw, .map (some m), .int .i64 D.done, .bool D.dead, .bool D.fset, .int .i64 D.fleft, vk]
  lasts : Own w vl 202 512 D.lasts.length (D.lasts.flatMap bs)
  waits : Own w vw 278 513 D.waits.length (D.waits.flatMap wenc)
  now : Mp w m es
  nowIs : ∀ i, alk es i = (lastW D.waits i).map fun k => .int .i64 (k : Int)
  keep : Own w vk 4 1 D.keep.length (D.keep.map .bool)
  fd : F d
  fm : F m
  fl : ∀ b, vl.ownBlock = some b → F b
  fw : ∀ b, vw.ownBlock = some b → F b
  fk : ∀ b, vk.ownBlock = some b → F b
  wf : D.WF
def DiskP (w : World) (d : Nat) (D : Disk) (F : Nat → Prop) : Prop := ∃ vl vw vk m es, DiskAt w d D F vl vw vk m es
abbrev pt (b : Nat) : Value := .pointer (some ⟨b, 0, none⟩)

theorem alive_k {w : World} {d : Nat} {D : Disk} {F : Nat → Prop} {K : Value → World → Prop} (h : DiskP w d D F) (k : K (.int .i64 (if D.dead then 20 else 0)) w) : cl P 101 #[pt d] w K := by
  obtain ⟨vl, vw, vk, m, es, h⟩ := h
  have hb := h.blk
  apply c101
  unfold F101
  refine px_run ?_
  refine cnd_false ?_
  refine nc_ptr ?_
  refine px_run ?_
  refine ldB hb rfl ?_
  refine cnd_of (fun hd => ?_) (fun hd => ?_)
  · simpa [hd] using k
  · simpa [hd] using k
theorem alive_nil {w : World} {K : Value → World → Prop} (k : K (.int .i64 2) w) : cl P 101 #[.pointer none] w K := by
  apply c101
  unfold F101
  refine px_run ?_
  exact cnd_true k
theorem dlen_k {w : World} {d : Nat} {D : Disk} {F : Nat → Prop} {K : Value → World → Prop} (h : DiskP w d D F) (k : K (.int .i64 D.lasts.length) w) : cl P 29 #[pt d] w K := by
  obtain ⟨vl, vw, vk, m, es, h⟩ := h
  have hb := h.blk
  obtain ⟨_, a, cap, hv, _⟩ := h.lasts.sl
  apply c29
  unfold F29
  refine px_run ?_
  refine cnd_false ?_
  refine nc_ptr ?_
  refine px_run ?_
  refine ldB hb rfl ?_
  rw [hv]
  refine px_run ?_
  exact k

theorem zeros_length (n : Nat) : (zeros n).length = n := List.length_replicate
theorem flat_get {α : Type} {f : α → List Value} {sz : Nat} : ∀ (l : List α) (j q : Nat), (∀ p ∈ l, (f p).length = sz) → (hj : j < l.length) → q < sz → (l.flatMap f)[j * sz + q]? = (f l[j])[q]?
  | [], j, q, _, hj, _ => by simp at hj
  | p :: l, 0, q, h, _, hq => by
    have := h p (.head _)
    simp only [List.flatMap_cons, Nat.zero_mul, Nat.zero_add, List.getElem_cons_zero]
    rw [List.getElem?_append_left (by omega)]
  | p :: l, j + 1, q, h, hj, hq => by
    have hp := h p (.head _)
    have ih := flat_get l j q (fun x hx => h x (.tail _ hx)) (by simpa using hj) hq
    simp only [List.flatMap_cons, List.getElem_cons_succ]
    rw [List.getElem?_append_right (by rw [hp, Nat.add_mul]; omega), hp, show (j + 1) * sz + q - sz = j * sz + q by rw [Nat.add_mul]; omega]
    exact ih
theorem wenc_length {p : Nat × Sec} (h : p.2.length = 512) : (wenc p).length = 513 := by simp [wenc, bs_length, h]
theorem lastW_lt {l : List (Nat × Sec)} {i : Int} {k : Nat} (h : lastW l i = some k) : k < l.length := by
  induction l generalizing k with
  | nil => simp [lastW] at h
  | cons p l ih =>
    simp only [lastW] at h
    cases hq : lastW l i with
    | none => rw [hq] at h; simp at h; obtain ⟨_, rfl⟩ := h; simp
    | some j => rw [hq] at h; simp at h; subst h; have := ih hq; simp; omega
/-- What a sector reads as. -/
def Disk.at (D : Disk) (i : Nat) : Sec :=
  match lastW D.waits (i : Int) with
  | some k => (D.waits.getD k (0, [])).2
  | none => D.lasts.getD i []
theorem Disk.at_length {D : Disk} (h : D.WF) {i : Nat} (hi : i < D.lasts.length) : (D.at i).length = 512 := by
  unfold Disk.at
  split
  · rename_i k hk
    have := lastW_lt hk
    simp only [List.getD_eq_getElem?_getD, List.getElem?_eq_getElem this, Option.getD_some]
    exact (h.waits _ (List.getElem_mem this)).2
  · simp only [List.getD_eq_getElem?_getD, List.getElem?_eq_getElem hi, Option.getD_some]
    exact h.lasts _ (List.getElem_mem hi)
theorem DiskP.fr {w w' : World} {d : Nat} {D : Disk} {F G : Nat → Prop} (h : DiskP w d D F) (f : Fr G w w') (hG : ∀ b, F b → ¬ G b) : DiskP w' d D F := by
  obtain ⟨vl, vw, vk, m, es, h⟩ := h
  exact ⟨vl, vw, vk, m, es, h.blk.fr f (hG _ h.fd), h.lasts.fr f (fun b hb => hG b (h.fl b hb)), h.waits.fr f (fun b hb => hG b (h.fw b hb)), h.now.fr f (hG _ h.fm), h.nowIs, h.keep.fr f (fun b hb => hG b (h.fk b hb)), h.fd, h.fm, h.fl, h.fw, h.fk, h.wf⟩
theorem DiskP.fr0 {w w' : World} {d : Nat} {D : Disk} {F : Nat → Prop} (h : DiskP w d D F) (f : Fr no w w') : DiskP w' d D F := h.fr f fun _ _ => id

theorem bclone_k {w : World} {v : Value} {l : List UInt8} {n : Nat} {K : Value → World → Prop} (h : Sl w v 1 n (bs l)) (hn : n ≤ 1000000000)
    (k : ∀ v' w1, Own w1 v' 5 1 n (bs l) → Fr no w w1 → (∀ b, v'.ownBlock = some b → w.heap.size ≤ b) → K v' w1) : cl P 175 #[v] w K := by
  apply c175
  exact clone_k (P := P) (t := 43) h (atoms_bs l) (by unfold maxLen; omega) (by omega) k

theorem dread_k {w : World} {d : Nat} {D : Disk} {F : Nat → Prop} {K : Value → World → Prop} {i : Int} (h : DiskP w d D F)
    (k1 : D.dead = true → K (.tuple #[.slice none 0 0, .int .i64 20]) w)
    (k2 : D.dead = false → (i < 0 ∨ (D.lasts.length : Int) ≤ i) → K (.tuple #[.slice none 0 0, .int .i64 1]) w)
    (k3 : D.dead = false → ∀ j : Nat, i = (j : Int) → j < D.lasts.length → ∀ v w1, Own w1 v 5 1 512 (bs (D.at j)) → Fr no w w1 → (∀ b, v.ownBlock = some b → w.heap.size ≤ b) → K (.tuple #[v, .int .i64 0]) w1) :
    cl P 105 #[pt d, .int .i64 i] w K := by
  have hP := h
  obtain ⟨vl, vw, vk, m, es, h⟩ := h
  have hb := h.blk
  have hsl := h.lasts.sl
  obtain ⟨_, al, capl, rfl, _⟩ := hsl
  apply c105
  unfold F105
  refine alive_k hP ?_
  cases hd : D.dead
  case true =>
    simp only [hd, if_true] at k1 ⊢
    refine px_run ?_
    exact cnd_true (k1 trivial)
  simp only [Bool.false_eq_true, if_false]
  refine px_run ?_
  refine cnd_false ?_
  refine px_run ?_
  by_cases hneg : i < 0
  · simp only [hneg, decide_true]
    iterate 7 refine gd_tf ?_
    refine pk_true ?_
    exact cnd_true (k2 hd (.inl hneg))
  · simp only [hneg, decide_false]
    refine gd_ff ?_
    refine gd_ff ?_
    refine gd_ff ?_
    refine nc_ptr ?_
    refine gd_ff ?_
    refine px_run ?_
    refine gd_ff ?_
    refine ldB hb rfl ?_
    refine gd_ff ?_
    refine px_run ?_
    refine gd_ff ?_
    refine px_run ?_
    refine pk_false ?_
    refine cnd_dec (fun hge => k2 hd (.inr hge)) fun hlt => ?_
    obtain ⟨j, rfl⟩ := Int.eq_ofNat_of_zero_le (show 0 ≤ i by omega)
    have hj : j < D.lasts.length := by omega
    refine nc_ptr ?_
    refine px_run ?_
    refine ldB hb rfl ?_
    refine idx_s (P := P) h.lasts.sl (by omega) j rfl hj fun b o hbo hcells => ?_
    have hl512 : ∀ p ∈ D.lasts, (bs p).length = 512 := fun p hp => by rw [bs_length]; exact h.wf.lasts p hp
    refine ldC (P := P) (xs := bs D.lasts[j]) (hl512 _ (List.getElem_mem hj)) (fun q hq => by rw [hcells q hq, flat_get D.lasts j q hl512 hj hq]) ?_
    refine alloc_k (P := P) fun b7 w1 hb7 hbk7 hf1 => ?_
    refine stA_k (P := P) hbk7 (atoms_bs _) (hl512 _ (List.getElem_mem hj)) (by rw [zeros_length]; omega) fun w2 hbk7 hf2 => ?_
    rw [spl_all (by rw [hl512 _ (List.getElem_mem hj), zeros_length])] at hbk7
    have hf : Fr no w w2 := hf1.new hf2 fun i hi => by omega
    have hb2 := hb.fr0 hf
    refine nc_ptr ?_
    refine px_run ?_
    refine ldB hb2 rfl ?_
    refine lookup2_k (P := P) (h.now.fr hf id) ?_
    refine px_run ?_
    refine px_run ?_
    refine cut_of (fun vs w' => vs = [] ∧ Bk w' b7 202 (bs (D.at j)) ∧ Fr no w w') ?_ ?_
    · rw [h.nowIs]
      cases hl : lastW D.waits (j : Int) with
      | none =>
        refine cnd_false ⟨rfl, ?_, hf⟩
        rw [show D.at j = D.lasts[j] by simp [Disk.at, hl, hj]]
        exact hbk7
      | some kk =>
        have hk := lastW_lt hl
        have hw513 : ∀ p ∈ D.waits, (wenc p).length = 513 := fun p hp => wenc_length (h.wf.waits p hp).2
        refine cnd_true ?_
        refine nc_ptr ?_
        refine px_run ?_
        refine ldB hb2 rfl ?_
        refine idx_s (P := P) (h.waits.fr0 hf).sl (by omega) kk rfl hk fun b' o' hbo' hcells' => ?_
        refine px_run ?_
        refine ldC (P := P) (xs := bs D.waits[kk].2) (by rw [bs_length]; exact (h.wf.waits _ (List.getElem_mem hk)).2) (fun q hq => ?_) ?_
        · have := hcells' (q + 1) (by omega)
          rw [flat_get D.waits kk (q + 1) hw513 hk (by omega)] at this
          rw [show o' + 1 + q = o' + (q + 1) by omega, this]
          rfl
        · refine stA_k (P := P) hbk7 (atoms_bs _) (by rw [bs_length]; exact (h.wf.waits _ (List.getElem_mem hk)).2) (by rw [hl512 _ (List.getElem_mem hj)]; omega) fun w3 hbk7' hf3 => ?_
          refine ⟨rfl, ?_, hf.new hf3 fun i hi => by omega⟩
          rw [spl_all (by rw [hl512 _ (List.getElem_mem hj), bs_length, (h.wf.waits _ (List.getElem_mem hk)).2])] at hbk7'
          rw [show D.at j = D.waits[kk].2 by simp [Disk.at, hl, hk]]
          exact hbk7'
    · rintro vs w' ⟨rfl, hbk, hf'⟩
      refine px_run ?_
      have hat := Disk.at_length h.wf hj
      refine bclone_k (l := D.at j) (hbk.sl (fun q hq => by rw [Nat.zero_add]) (by rw [bs_length, hat]) (Nat.le_refl _)) (by omega) fun v w4 ho hf4 hown => ?_
      exact k3 hd j rfl hj v w4 ho (hf'.two hf4) fun b hb => by have := hown b hb; have := hf'.size; omega
theorem und_int : P.underlying 3 = some (.int .i64) := by kernel_rfl
theorem und_bool : P.underlying 4 = some .bool := by kernel_rfl
theorem und_str : P.underlying 9 = some .string := by kernel_rfl
theorem fuse_eq (a : Bool) (n : Int) (w : World) : (bin false .eql 184 (.agg #[.bool a, .int .i64 n]) (.agg #[.bool true, .int .i64 0])).run P w = .ok (.bool (a && decide (n = 0))) w := by
  refine bin_of _ _ _ (run_eqGuard_agg w .eql 184 _ _ _ _ (by kernel_rfl)) ?_
  rw [run_eql_struct, show (10000 : Nat) = 9999 + 1 from rfl, run_equalIn_struct w 9999 184 _ _ (by kernel_rfl) (by kernel_rfl)]
  have hf : (P.fieldsOf 184).toList = [{ name := "set", type := 4, offset := 0, embedded := false, tag := "", pkgPath := "buttery/disk", byteOffset := 0 }, { name := "left", type := 3, offset := 1, embedded := false, tag := "", pkgPath := "buttery/disk", byteOffset := 8 }] := by kernel_rfl
  rw [hf, show (9999 : Nat) = 9998 + 1 from rfl]
  have e1 := fun w a b => run_equalIn_bool' (P := P) w 9998 4 a b und_bool
  have e2 := fun w a b => run_equalIn_int (P := P) w 9998 3 .i64 .i64 a b und_int
  simp [Op.eqFields, part_run (P := P) (t := 4) (cs := #[.bool a, .int .i64 n]) (off := 0) (v := .bool a) rfl, part_run (P := P) (t := 3) (cs := #[.bool a, .int .i64 n]) (off := 1) (v := .int .i64 n) rfl,
    part_run (P := P) (t := 4) (cs := #[.bool true, .int .i64 0]) (off := 0) (v := .bool true) rfl, part_run (P := P) (t := 3) (cs := #[.bool true, .int .i64 0]) (off := 1) (v := .int .i64 0) rfl, e1, e2]
  cases a <;> simp
  by_cases h : n = 0 <;> simp [h]

def Disk.burns (D : Disk) : Bool := D.fset && decide (D.fleft = 0)
def Disk.tick (D : Disk) : Disk := { D with fleft := IntKind.i64.wrap (D.fleft - 1), done := IntKind.i64.wrap (D.done + 1) }
/-- The struct's own numbers have turned, nothing else. -/
theorem DiskAt.upd {w w' : World} {d : Nat} {D : Disk} {F : Nat → Prop} {vl vw vk : Value} {m : Nat} {es : List (Int × Value)} (h : DiskAt w d D F vl vw vk m es) {dn fl : Int} {de fs : Bool}
    (hb : Bk w' d 186 [vl, vw, .map (some m), .int .i64 dn, .bool de, .bool fs, .int .i64 fl, vk]) (f : Fr (fun i => i = d) w w') : DiskAt w' d { D with done := dn, dead := de, fset := fs, fleft := fl } F vl vw vk m es :=
  ⟨hb, h.lasts.fr f (fun b hb e => h.lasts.ne_bk h.blk (by decide) (e ▸ hb)), h.waits.fr f (fun b hb e => h.waits.ne_bk h.blk (by decide) (e ▸ hb)), h.now.fr f (h.now.ne_bk h.blk), h.nowIs,
    h.keep.fr f (fun b hb e => h.keep.ne_bk h.blk (by decide) (e ▸ hb)), h.fd, h.fm, h.fl, h.fw, h.fk, ⟨h.wf.lasts, h.wf.waits, h.wf.pos, h.wf.most⟩⟩
theorem burns_k {w : World} {d : Nat} {D : Disk} {F : Nat → Prop} {K : Value → World → Prop} (h : DiskP w d D F) (k1 : D.burns = true → K (.bool true) w)
    (k2 : D.burns = false → ∀ w1, DiskP w1 d D.tick F → Fr F w w1 → K (.bool false) w1) : cl P 205 #[pt d] w K := by
  obtain ⟨vl, vw, vk, m, es, h⟩ := h
  have hb := h.blk
  apply c205
  unfold F205
  refine nc_ptr ?_
  refine px_run ?_
  refine ldA (P := P) (xs := [.bool D.fset, .int .i64 D.fleft]) hb (fun j hj => by match j, hj with | 0, _ => rfl | 1, _ => rfl) rfl ?_
  refine px_of (v := .agg #[.bool true, .int .i64 0]) (w' := w) (by kernel_rfl) ?_
  refine px_of (fuse_eq _ _ _) ?_
  refine cnd_of (fun hbu => k1 hbu) (fun hbu => ?_)
  refine nc_ptr ?_
  refine px_run ?_
  refine px_run ?_
  refine ldB hb rfl ?_
  refine px_run ?_
  refine nc_ptr ?_
  refine px_run ?_
  refine px_run ?_
  refine stB_k hb (by simp) fun w1 hb1 hf1 => ?_
  refine nc_ptr ?_
  refine px_run ?_
  refine ldB hb1 rfl ?_
  refine px_run ?_
  refine nc_ptr ?_
  refine px_run ?_
  refine stB_k hb1 (by simp) fun w2 hb2 hf2 => ?_
  have hf := hf1.two hf2
  exact k2 hbu w2 ⟨vl, vw, vk, m, es, h.upd hb2 hf⟩ (hf.mono fun i hi => hi ▸ h.fd)

/-- What lasts when those writes are done that are kept, the first of them having the number i. -/
def applyW (kept : Nat → Bool) : Nat → List (Nat × Sec) → List Sec → List Sec
  | _, [], L => L
  | i, p :: l, L => applyW kept (i + 1) l (if kept i then L.set p.1 p.2 else L)
theorem applyW_append (kept : Nat → Bool) : ∀ (i : Nat) (l l' : List (Nat × Sec)) (L : List Sec), applyW kept i (l ++ l') L = applyW kept (i + l.length) l' (applyW kept i l L)
  | i, [], l', L => by simp [applyW]
  | i, p :: l, l', L => by simp [applyW, applyW_append kept (i + 1) l l', Nat.add_assoc, Nat.add_comm 1]
theorem applyW_length (kept : Nat → Bool) : ∀ (i : Nat) (l : List (Nat × Sec)) (L : List Sec), (applyW kept i l L).length = L.length
  | _, [], _ => rfl
  | i, p :: l, L => by
    rw [applyW, applyW_length]
    split <;> simp
theorem applyW_mem (kept : Nat → Bool) : ∀ (i : Nat) (l : List (Nat × Sec)) (L : List Sec), (∀ s ∈ L, s.length = 512) → (∀ p ∈ l, p.2.length = 512) → ∀ s ∈ applyW kept i l L, s.length = 512
  | _, [], _, h, _ => h
  | i, p :: l, L, h, hp => by
    rw [applyW]
    refine applyW_mem kept (i + 1) l _ ?_ (fun q hq => hp q (.tail _ hq))
    split
    · intro s hs
      rcases List.mem_or_eq_of_mem_set hs with h1 | rfl
      · exact h s h1
      · exact hp p (.head _)
    · exact h
def Disk.settle (kept : Nat → Bool) (D : Disk) : Disk := { D with lasts := applyW kept 0 D.waits D.lasts, waits := [] }
theorem spl_flat {L : List Sec} {i : Nat} {s : Sec} (hL : ∀ s ∈ L, s.length = 512) (hi : i < L.length) (hs : s.length = 512) : spl (L.flatMap bs) (i * 512) (bs s) = (L.set i s).flatMap bs := by
  induction L generalizing i with
  | nil => simp at hi
  | cons a L ih =>
    have ha := hL a (.head _)
    have hab : (bs a).length = 512 := by rw [bs_length, ha]
    cases i with
    | zero =>
      simp only [Nat.zero_mul, List.set_cons_zero, List.flatMap_cons, spl, List.take_zero, List.nil_append, Nat.zero_add, bs_length, hs]
      rw [List.drop_append, hab, List.drop_of_length_le (by omega)]
      simp
    | succ i =>
      simp only [List.set_cons_succ, List.flatMap_cons]
      rw [← ih (fun s hs => hL s (.tail _ hs)) (by simpa using hi)]
      unfold spl
      rw [show (i + 1) * 512 = 512 + i * 512 by omega, List.take_append, List.drop_append, hab, List.take_of_length_le (by omega), List.drop_of_length_le (by omega), show 512 + i * 512 - 512 = i * 512 by omega,
        show 512 + i * 512 + (bs s).length - 512 = i * 512 + (bs s).length by omega]
      simp [List.append_assoc]

theorem dsettle_k {w : World} {d : Nat} {D : Disk} {F : Nat → Prop} {K : Value → World → Prop} {g : FuncId} {cap : Array Value} {kept : Nat → Bool} {Inv : World → Prop} {vl vw vk : Value} {m : Nat} {es : List (Int × Value)} (h : DiskAt w d D F vl vw vk m es) (hw : D.waits.length < 1000000000)
    (hi0 : Inv w) (hI : ∀ w1 w2, Inv w1 → Fr (fun b => vl.ownBlock = some b) w1 w2 → Inv w2) (hc : ∀ (i : Nat) w1 (K' : Value → World → Prop), Inv w1 → (∀ w2, Fr no w1 w2 → K' (.bool (kept i)) w2) → cl P g ((#[] ++ #[.int .i64 (i : Int)]) ++ cap) w1 K')
    (k : ∀ w1 F', DiskP w1 d (D.settle kept) F' → Fr F w w1 → (∀ i, F' i → F i ∨ w.heap.size ≤ i) → K (.tuple #[]) w1) : cl P 173 #[pt d, .func (.func g) #[] cap] w K := by
  have hb := h.blk
  have hb0 := hb
  obtain ⟨_, aw, capw, rfl, _⟩ := h.waits.sl
  obtain ⟨bl, capl, cl0, rfl, hbl, hn1, hn2, hn3, hn4⟩ := h.lasts.bk h.wf.pos
  have hw513 : ∀ p ∈ D.waits, (wenc p).length = 513 := fun p hp => wenc_length (h.wf.waits p hp).2
  have hbne : bl ≠ d := fun e => h.lasts.ne_bk hb (by decide) (by rw [e]; rfl)
  have hwne : ∀ b, (Value.slice aw D.waits.length capw).ownBlock = some b → b ≠ bl := fun b hb' e => h.waits.ne_own h.lasts (by decide) b hb' (by rw [e]; rfl)
  apply c173
  unfold F173
  refine nc_ptr ?_
  refine px_run ?_
  refine ldB hb rfl ?_
  refine px_run ?_
  refine lp_of (fun vs w' => ∃ i : Nat, i ≤ D.waits.length ∧ vs = [.int .i64 (i : Int)] ∧ Own w' (.slice (some ⟨bl, 0, none⟩) D.lasts.length capl) 202 512 D.lasts.length ((applyW kept 0 (D.waits.take i) D.lasts).flatMap bs) ∧ Inv w' ∧ Fr (fun b => b = bl) w w')
    (fun vs _ => match vs with | [.int _ i] => D.waits.length - i.toNat | _ => 0) ⟨0, Nat.zero_le _, rfl, by simpa [applyW] using h.lasts, hi0, Fr.refl _ _⟩ ?_
  rintro vs w1 ⟨i, hi, rfl, ho, hinv, hf⟩
  simp only [g0_cons]
  refine px_run ?_
  refine cnd_dec (fun hlt => ?_) (fun hge => ?_)
  · have hi' : i < D.waits.length := by omega
    have hwt := h.waits.fr hf hwne
    have hpm := List.getElem_mem hi'
    have hp := h.wf.waits _ hpm
    refine idx_s (P := P) hwt.sl (by omega) i rfl hi' fun b o hbo hcells => ?_
    refine ldC (P := P) (xs := wenc D.waits[i]) (hw513 _ hpm) (fun q hq => by rw [hcells q hq, flat_get D.waits i q hw513 hi' hq]) ?_
    refine alloc_k (P := P) fun b5 w2 hb5 hbk5 hf1 => ?_
    have hat : Atoms (wenc D.waits[i]) := fun x hx => by
      rcases List.mem_cons.1 hx with rfl | hx
      · exact inferInstance
      · exact atoms_bs _ x hx
    refine stA_k (P := P) hbk5 hat (hw513 _ hpm) (by simp [zeros_length]) fun w3 hbk5 hf2 => ?_
    rw [spl_all (by rw [hw513 _ hpm]; simp [zeros_length])] at hbk5
    have hf3 : Fr no w1 w3 := hf1.new hf2 fun i hi => by omega
    refine cv_k (hc i w3 _ (hI _ _ hinv (hf3.mono fun _ h => h.elim)) fun w4 hf4 => ?_)
    have hbk4 := hbk5.fr0 hf4
    have hf5 : Fr no w1 w4 := hf3.two hf4
    have hL := applyW_length kept 0 (D.waits.take i) D.lasts
    have hLm := applyW_mem kept 0 (D.waits.take i) D.lasts h.wf.lasts (fun p hp => (h.wf.waits p (List.mem_of_mem_take hp)).2)
    refine cut_of (fun vs w' => vs = ([] : List Value) ∧ Own w' (.slice (some ⟨bl, 0, none⟩) D.lasts.length capl) 202 512 D.lasts.length ((applyW kept 0 (D.waits.take (i + 1)) D.lasts).flatMap bs) ∧ Fr (fun b => b = bl) w1 w') ?_ ?_
    · rw [List.take_succ_eq_append_getElem hi', applyW_append]
      have hlen : (D.waits.take i).length = i := by simp; omega
      simp only [hlen, Nat.zero_add, applyW]
      refine cnd_of (fun hk => ?_) (fun hk => ?_)
      · simp only [hk, if_true]
        refine dr_of ?_
        have hfd := Fr.dw w4
        have hbk6 := hbk4.fr0 hfd
        have hb6 := (hb.fr hf (fun e => hbne e.symm)).fr0 (hf5.two hfd)
        refine ny_ptr ?_
        refine py_run ?_
        refine ldY hb6 rfl ?_
        refine py_run ?_
        refine ldY hbk6 rfl ?_
        refine py_run ?_
        refine ldAY (P := P) (xs := bs D.waits[i].2) hbk6 (fun j hj => by rw [Nat.add_comm]; rfl) (by rw [bs_length, hp.2]) ?_
        refine idxY (P := P) D.waits[i].1 rfl hp.1 ?_
        rw [Nat.zero_add]
        refine own_stA_k (P := P) ((ho.fr0 hf5).fr0 hfd) hp.1 (atoms_bs _) (by rw [bs_length, hp.2]) fun w7 ho7 hf7 => ?_
        rw [spl_flat hLm (by rw [hL]; exact hp.1) hp.2] at ho7
        exact ⟨trivial, ho7, (hf5.two hfd).of hf7⟩
      · simp only [hk]
        exact ⟨trivial, ho.fr0 hf5, hf5.mono fun _ h => h.elim⟩
    · rintro vs w8 ⟨rfl, ho8, hf8⟩
      haveI := fits_i64 (n := (i : Int) + 1) (by omega) (by omega)
      refine px_run ?_
      refine ⟨⟨i + 1, by omega, rfl, ho8, hI _ _ hinv (hf8.mono fun b hb => by rw [hb]; rfl), hf.two hf8⟩, ?_⟩
      show D.waits.length - ((i : Int) + 1).toNat < D.waits.length - (i : Int).toNat
      omega
  · obtain rfl : i = D.waits.length := by omega
    rw [List.take_of_length_le (Nat.le_refl _)] at ho
    have hb1 := hb.fr hf (fun e => hbne e.symm)
    refine makeMap_k fun m2 w2 hm2 hmp hf2 => ?_
    have hb2 := hb1.fr0 hf2
    refine nc_ptr ?_
    refine px_run ?_
    refine stB_k (P := P) hb2 (by simp) fun w3 hb3 hf3 => ?_
    refine nc_ptr ?_
    refine px_run ?_
    refine stB_k (P := P) hb3 (by simp) fun w4 hb4 hf4 => ?_
    have hf34 := hf3.two hf4
    have hdm : d ≠ m2 := by have := hb1.lt; omega
    refine k w4 (fun i => F i ∨ i = m2) ⟨.slice (some ⟨bl, 0, none⟩) D.lasts.length capl, .slice none 0 0, vk, m2, [], hb4, ?_, Own.nil _ _ _, hmp.fr hf34 (fun e => hdm e.symm), fun i => rfl, ?_, .inl h.fd, .inr rfl, fun b hb => .inl (h.fl b hb), (fun b hb => (by cases hb)), fun b hb => .inl (h.fk b hb), ?_⟩ ?_ ?_
    · have := (ho.fr0 hf2).fr hf34 (fun b hb e => by simp [Value.ownBlock] at hb; omega)
      simpa [Disk.settle, applyW_length] using this
    · exact ((h.keep.fr hf (fun b hb e => h.keep.ne_own h.lasts (by decide) b hb (by rw [e]; rfl))).fr0 hf2).fr hf34 (fun b hb e => h.keep.ne_bk hb0 (by decide) (e ▸ hb))
    · exact ⟨applyW_mem kept 0 D.waits D.lasts h.wf.lasts (fun p hp => (h.wf.waits p hp).2), by simp [Disk.settle], by simpa [Disk.settle, applyW_length] using h.wf.pos, by simpa [Disk.settle, applyW_length] using h.wf.most⟩
    · exact ((hf.mono fun b hb => hb ▸ h.fl bl rfl).then hf2).two (hf34.mono fun b hb => hb ▸ h.fd)
    · rintro i (hi | rfl)
      · exact .inl hi
      · have := hf.size; exact .inr (by omega)

/-- Is the i-th write kept? -/
def keptOf (keep : List Bool) (i : Nat) : Bool := keep.getD i false
theorem crash1_k {w : World} {b : Nat} {vk : Value} {keep : List Bool} {i : Nat} {K : Value → World → Prop} (hb : Bk w b 65 [vk]) (hs : Sl w vk 1 keep.length (keep.map .bool)) (k : K (.bool (keptOf keep i)) w) :
    cl P 174 #[.int .i64 (i : Int), pt b] w K := by
  obtain ⟨_, a, c, rfl, _⟩ := id hs
  apply c174
  unfold F174
  refine ldB hb rfl ?_
  refine px_run ?_
  refine px_run ?_
  by_cases hlt : (i : Int) < (keep.length : Int)
  · simp only [hlt, decide_true]
    have hi : i < keep.length := by omega
    refine gd_tt ?_
    refine ldB hb rfl ?_
    refine gd_tt ?_
    refine gd_tt ?_
    refine idx_s (P := P) hs (by omega) i rfl hi fun b' o _ hc => ?_
    refine gd_tt ?_
    have := hc 0 (by omega)
    refine ld1 (P := P) (v := .bool keep[i]) (by simpa [hi] using this) ?_
    refine pk_true ?_
    simpa [keptOf, hi] using k
  · simp only [hlt, decide_false]
    iterate 4 refine gd_ft ?_
    refine pk_false ?_
    have hi : keep.length ≤ i := by omega
    simpa [keptOf, List.getElem?_eq_none hi] using k
def Disk.crash (D : Disk) (keep : List Bool) : Disk := { D.settle (keptOf keep) with dead := true }
theorem crash_k {w : World} {d : Nat} {D : Disk} {F : Nat → Prop} {vl vw vk v : Value} {m : Nat} {es : List (Int × Value)} {keep : List Bool} {K : Value → World → Prop} (h : DiskAt w d D F vl vw vk m es) (hw : D.waits.length < 1000000000)
    (hs : Sl w v 1 keep.length (keep.map .bool)) (hv : ∀ b, v.ownBlock = some b → vl.ownBlock ≠ some b)
    (k : ∀ w1 F', DiskP w1 d (D.crash keep) F' → Fr F w w1 → (∀ i, F' i → F i ∨ w.heap.size ≤ i) → K (.tuple #[]) w1) : cl P 103 #[pt d, v] w K := by
  obtain ⟨_, a, c, rfl, _⟩ := id hs
  apply c103
  unfold F103
  refine box_k fun b w1 hb hbk hf => ?_
  refine px_run ?_
  have h1 : DiskAt w1 d D F vl vw vk m es := ⟨h.blk.fr0 hf, h.lasts.fr0 hf, h.waits.fr0 hf, h.now.fr hf id, h.nowIs, h.keep.fr0 hf, h.fd, h.fm, h.fl, h.fw, h.fk, h.wf⟩
  have hs1 := hs.fr0 hf
  have hbl : ∀ b', vl.ownBlock = some b' → b' ≠ b := fun b' hb' e => by have := h.lasts.lt hb'; omega
  refine dsettle_k (kept := keptOf keep) (Inv := fun w' => Bk w' b 65 [.slice a keep.length c] ∧ Sl w' (.slice a keep.length c) 1 keep.length (keep.map .bool)) h1 hw ⟨hbk, hs1⟩
    (fun w1 w2 hi f => ⟨hi.1.fr f (fun e => hbl _ e rfl), hi.2.fr f (fun b' hb' e => hv b' hb' e)⟩)
    (fun i w1 K' hi hk => crash1_k hi.1 hi.2 (hk w1 (Fr.refl _ _))) fun w2 F' h2 hf2 hF' => ?_
  obtain ⟨vl2, vw2, vk2, m2, es2, h2⟩ := h2
  refine nc_ptr ?_
  refine px_run ?_
  refine stB_k h2.blk (by simp) fun w3 hb3 hf3 => ?_
  refine k w3 F' ⟨vl2, vw2, vk2, m2, es2, h2.upd (de := true) hb3 hf3⟩ ((hf.of hf2).two (hf3.mono fun i hi => hi ▸ h.fd)) fun i hi => ?_
  rcases hF' i hi with h | h
  · exact .inl h
  · have := hf.size; exact .inr (by omega)
theorem flush1_k {w : World} {v : Value} {K : Value → World → Prop} (k : K (.bool true) w) : cl P 207 #[v] w K := by
  apply c207
  exact k

/-- What a footprint may become. -/
def Grows (w : World) (F F' : Nat → Prop) : Prop := ∀ i, F' i → F i ∨ w.heap.size ≤ i
theorem Grows.refl (w : World) (F : Nat → Prop) : Grows w F F := fun _ h => .inl h
theorem Grows.trans {w w1 : World} {F F1 F2 : Nat → Prop} (h : Grows w F F1) (k : Grows w1 F1 F2) (hs : w.heap.size ≤ w1.heap.size) : Grows w F F2 := fun i hi => by
  rcases k i hi with h1 | h1
  · exact h i h1
  · exact .inr (by omega)
theorem Grows.late {w w1 : World} {F F1 : Nat → Prop} (k : Grows w1 F F1) (hs : w.heap.size ≤ w1.heap.size) : Grows w F F1 := (Grows.refl w F).trans k hs
def Disk.flush (D : Disk) : Disk × Int :=
  if D.dead then (D, 20) else if D.burns then (D.crash D.keep, 20) else (D.tick.settle (fun _ => true), 0)
theorem dflush_k {w : World} {d : Nat} {D : Disk} {F : Nat → Prop} {K : Value → World → Prop} (h : DiskP w d D F) (hw : D.waits.length < 1000000000)
    (k : ∀ w1 F', DiskP w1 d D.flush.1 F' → Fr F w w1 → Grows w F F' → K (.int .i64 D.flush.2) w1) : cl P 144 #[pt d] w K := by
  apply c144
  unfold F144
  refine alive_k h ?_
  cases hd : D.dead
  case true =>
    simp only [Disk.flush, hd, if_true] at k ⊢
    refine px_run ?_
    exact cnd_true (k w F h (Fr.refl _ _) (Grows.refl _ _))
  simp only [Disk.flush, hd, Bool.false_eq_true, if_false] at k ⊢
  refine px_run ?_
  refine cnd_false ?_
  refine burns_k h (fun hb => ?_) (fun hb w1 h1 hf1 => ?_)
  · simp only [hb, if_true] at k
    obtain ⟨vl, vw, vk, m, es, h⟩ := h
    refine cnd_true ?_
    refine nc_ptr ?_
    refine px_run ?_
    refine ldB h.blk rfl ?_
    refine crash_k h hw h.keep.sl (fun b hb e => h.keep.ne_own h.lasts (by decide) b hb e) fun w1 F' h1 hf1 hF' => ?_
    exact k w1 F' h1 hf1 hF'
  · simp only [hb, Bool.false_eq_true, if_false] at k
    refine cnd_false ?_
    obtain ⟨vl, vw, vk, m, es, h1⟩ := h1
    refine dsettle_k (kept := fun _ => true) (Inv := fun _ => True) h1 hw trivial (fun _ _ _ _ => trivial) (fun i w1 K' _ hk => flush1_k (hk w1 (Fr.refl _ _))) fun w2 F' h2 hf2 hF' => ?_
    exact k w2 F' h2 (hf1.two hf2) (Grows.late hF' hf1.size)
def Disk.push (D : Disk) (i : Nat) (s : List UInt8) : Disk := { D with waits := D.waits ++ [(i, s)] }
def Disk.write (D : Disk) (i : Int) (s : List UInt8) : Disk × Int :=
  if D.dead then (D, 20) else if i < 0 ∨ (D.lasts.length : Int) ≤ i ∨ s.length ≠ 512 then (D, 1) else
  if (D.push i.toNat s).burns then ((D.push i.toNat s).crash D.keep, 20) else ((D.push i.toNat s).tick, 0)

instance : StructT P 278 [(0, 1), (1, 512)] := ⟨by kernel_rfl, fun w => by kernel_rfl⟩
theorem build278 {w : World} {i : Int} {xs : List Value} (hx : xs.length = 512) : (Instr.build 278 #[(0, .int .i64 i), (1, .agg xs.toArray)]).run P w = .ok (.agg (.int .i64 i :: xs).toArray) w := by
  refine build_run (P := P) (t := 278) (parts := [(0, .int .i64 i), (1, .agg xs.toArray)]) (z := .int .i64 0 :: zeros 512) ?_
  rw [fill_cons (xs := [.int .i64 i]) (off := 0) (size := 1) rfl rfl rfl (by rw [List.length_cons, zeros_length]; omega), fill_cons (xs := xs) (off := 1) (size := 512) rfl rfl hx (by rw [spl_length (by simp only [List.length_cons, List.length_nil]; omega), List.length_cons, zeros_length]; omega), fill_nil]
  have : spl (spl (.int .i64 0 :: zeros 512) 0 [.int .i64 i]) 1 xs = .int .i64 i :: xs := by
    have hz : (zeros 512).length = 512 := zeros_length 512
    generalize zeros 512 = z at hz
    simp [spl, hz, hx]
  rw [this]
theorem arrayAt_run {w : World} {a : Option Addr} {n c : Nat} (h : 512 ≤ n) : (Instr.arrayAt 202 (.slice a n c)).run P w = .ok (.pointer a) w := by
  have hu : P.underlying 202 = some (.array 512 5) := by kernel_rfl
  have : ¬ n < 512 := by omega
  simp [Instr.arrayAt, run_underlying hu, this]
theorem lastW_snoc (l : List (Nat × Sec)) (p : Nat × Sec) (i : Int) : lastW (l ++ [p]) i = if (p.1 : Int) = i then some l.length else lastW l i := by
  induction l with
  | nil => simp [lastW]
  | cons q l ih =>
    simp only [List.cons_append, lastW, ih]
    split
    · rename_i h
      split at h
      · cases h; simp [*]
      · rename_i h2; simp [*]
    · rename_i h
      split at h
      · cases h
      · rename_i h2; simp [*]
theorem alk_aput (es : List (Int × Value)) (k : Int) (v : Value) (x : Int) : alk (aput es k v) x = if x = k then some v else alk es x := by
  induction es with
  | nil => simp only [aput, alk]; split <;> split <;> simp_all
  | cons p es ih =>
    obtain ⟨a, u⟩ := p
    by_cases h : a = k
    · subst h
      by_cases hx : a = x
      · subst hx; simp [aput, alk]
      · simp [aput, alk, hx, Ne.symm hx]
    · by_cases hx : a = x
      · subst hx; simp [aput, alk, h]
      · simp only [aput, alk, if_neg h, if_neg hx, ih]
theorem dwrite_k {w : World} {d : Nat} {D : Disk} {F : Nat → Prop} {i : Int} {v : Value} {s : List UInt8} {K : Value → World → Prop} (h : DiskP w d D F) (hw : D.waits.length < 100000000)
    (hs : Sl w v 1 s.length (bs s)) (hv : ∀ b, v.ownBlock = some b → ¬ F b)
    (k : ∀ w1 F', DiskP w1 d (D.write i s).1 F' → Fr F w w1 → Grows w F F' → K (.int .i64 (D.write i s).2) w1) : cl P 142 #[pt d, .int .i64 i, v] w K := by
  have hP := h
  obtain ⟨_, av, cv', rfl, _⟩ := id hs
  apply c142
  unfold F142
  refine alive_k h ?_
  cases hd : D.dead
  case true =>
    simp only [Disk.write, hd, if_true] at k ⊢
    refine px_run ?_
    exact cnd_true (k w F h (Fr.refl _ _) (Grows.refl _ _))
  simp only [Disk.write, hd, Bool.false_eq_true, if_false] at k ⊢
  refine px_run ?_
  refine cnd_false ?_
  obtain ⟨vl, vw, vk, m, es, h⟩ := h
  have hb := h.blk
  obtain ⟨_, al, cl', rfl, _⟩ := h.lasts.sl
  obtain ⟨_, aw, cw, rfl, _⟩ := h.waits.sl
  have bad : (i < 0 ∨ (D.lasts.length : Int) ≤ i ∨ s.length ≠ 512) → K (.int .i64 1) w := fun hbad => by
    rw [if_pos hbad] at k
    exact k w F hP (Fr.refl _ _) (Grows.refl _ _)
  refine px_run ?_
  by_cases hneg : i < 0
  · simp only [hneg, decide_true]
    iterate 7 refine gd_tf ?_
    refine pk_true ?_
    iterate 3 refine gd_tf ?_
    refine pk_true ?_
    exact cnd_true (bad (.inl hneg))
  simp only [hneg, decide_false]
  refine gd_ff ?_
  refine gd_ff ?_
  refine gd_ff ?_
  refine nc_ptr ?_
  refine gd_ff ?_
  refine px_run ?_
  refine gd_ff ?_
  refine ldB hb rfl ?_
  refine gd_ff ?_
  refine px_run ?_
  refine gd_ff ?_
  refine px_run ?_
  refine pk_false ?_
  by_cases hge : i ≥ (D.lasts.length : Int)
  · simp only [hge, decide_true]
    iterate 3 refine gd_tf ?_
    refine pk_true ?_
    exact cnd_true (bad (.inr (.inl hge)))
  simp only [hge, decide_false]
  refine gd_ff ?_
  refine gd_ff ?_
  refine px_run ?_
  refine gd_ff ?_
  refine px_run ?_
  refine pk_false ?_
  refine cnd_dec (fun hne => bad (.inr (.inr (fun e => hne (by omega))))) fun he => ?_
  have hs512 : s.length = 512 := by have := Classical.not_not.1 he; omega
  rw [if_neg (by omega)] at k
  obtain ⟨j, rfl⟩ := Int.eq_ofNat_of_zero_le (show 0 ≤ i by omega)
  have hj : j < D.lasts.length := by omega
  obtain ⟨bv, ov, cvv, hav, hcv, hcell⟩ := hs.addr (by omega) (by omega)
  simp only [Value.slice.injEq, true_and] at hav
  obtain ⟨rfl, rfl⟩ := hav
  have hbvF : ¬ F bv := hv bv rfl
  refine dr_of ?_
  have hf0 := Fr.dw w
  have hb0 := hb.fr0 hf0
  refine ny_ptr ?_
  refine py_run ?_
  refine ldY hb0 rfl ?_
  refine ny_ptr ?_
  refine py_run ?_
  refine ldY hb0 rfl ?_
  refine py_run ?_
  refine update_k (P := P) (h.now.fr hf0 id) fun w1 hm1 hf1 => ?_
  have hmd := h.now.ne_bk hb
  refine dr_of ?_
  have hf1' : Fr (fun b => b = m) w (dw w1) := (hf0.of hf1).then (Fr.dw w1)
  have hb1 := hb.fr hf1' (fun e => hmd e.symm)
  refine ny_ptr ?_
  refine py_run ?_
  refine ldY hb1 rfl ?_
  refine py_of (fun w' _ => arrayAt_run (by omega)) ?_
  refine ldCY (P := P) (xs := bs s) (by rw [bs_length, hs512]) (fun q hq => ?_) ?_
  · have hq' : q < (bs s).length := by rw [bs_length]; omega
    rw [List.getElem?_eq_getElem hq']
    exact cell_fr ((hcell q (by omega)).trans (List.getElem?_eq_getElem hq')) hf1' (fun e => hbvF (by cases (show bv = m from e); exact h.fm))
  refine py_of (fun w' _ => build278 (by rw [bs_length, hs512])) ?_
  refine bslice1_g (P := P) (xs := wenc (j, s)) rfl (by simp [wenc, bs_length, hs512]) (by simp [zeros_length]) (by omega) (by omega) fun b2 w2 hb2' ho2 hf2 => ?_
  have hf2' := hf1'.then hf2
  have hat : Atoms (wenc (j, s)) := fun x hx => by
    rcases List.mem_cons.1 hx with rfl | hx
    · exact inferInstance
    · exact atoms_bs _ x hx
  have hwm : ∀ b, (Value.slice aw D.waits.length cw).ownBlock = some b → b ≠ m := fun b hb' e => h.now.ne_own h.waits (e ▸ hb')
  refine append_k (P := P) (h.waits.fr hf2' hwm) ho2.sl hat (by unfold maxLen; omega) (by omega) fun vw3 w3 ho3 hf3 hown3 => ?_
  have hwd : ∀ b, (Value.slice aw D.waits.length cw).ownBlock = some b → b ≠ d := fun b hb' e => h.waits.ne_bk hb (by decide) (e ▸ hb')
  have hb3 := (hb1.fr0 hf2).fr hf3 (fun e => hwd d e rfl)
  refine ny_ptr ?_
  refine py_run ?_
  obtain ⟨_, aw3, cw3, rfl, _⟩ := ho3.sl
  refine stB_k (P := P) hb3 (by simp) fun w4 hb4 hf4 => ?_
  have hsz : w.heap.size ≤ (dw w1).heap.size := hf1'.size
  -- the world behind both writes
  let F4 : Nat → Prop := fun b => F b ∨ (Value.slice aw3 (D.waits.length + 1) cw3).ownBlock = some b
  have hfall : Fr F w w4 := ((hf2'.mono fun b hb' => hb' ▸ h.fm).two (hf3.mono fun b hb' => h.fw b hb')).two (hf4.mono fun b hb' => hb' ▸ h.fd)
  have hgr : Grows w F F4 := fun b hb' => by
    rcases hb' with hb' | hb'
    · exact .inl hb'
    · rcases hown3 b hb' with h1 | h1
      · exact .inl (h.fw b h1)
      · have := hf2'.size; exact .inr (by omega)
  have h4 : DiskAt w4 d (D.push j s) F4 (.slice al D.lasts.length cl') (.slice aw3 (D.waits.length + 1) cw3) vk m (aput es (j : Int) (.int .i64 (D.waits.length : Int))) := by
    refine ⟨hb4, ?_, ?_, ?_, ?_, ?_, .inl h.fd, .inl h.fm, fun b hb' => .inl (h.fl b hb'), fun b hb' => .inr hb', fun b hb' => .inl (h.fk b hb'), ⟨h.wf.lasts, ?_, h.wf.pos, h.wf.most⟩⟩
    · refine ((h.lasts.fr hf2' (fun b hb' e => h.now.ne_own h.lasts (e ▸ hb'))).fr hf3 (fun b hb' e => h.lasts.ne_own h.waits (by decide) b hb' e)).fr hf4 (fun b hb' e => h.lasts.ne_bk hb (by decide) (e ▸ hb'))
    · have := ho3.fr hf4 (fun b hb' e => ho3.ne_bk hb3 (by decide) (e ▸ hb'))
      simpa [Disk.push] using this
    · exact ((hm1.fr0' (Fr.dw w1)).fr hf2 id).fr (hf3.two' hf4) (fun e => by
        rcases e with e | e
        · exact h.now.ne_own h.waits e
        · exact hmd e)
    · intro x
      show _ = Option.map _ (lastW (D.waits ++ [(j, s)]) x)
      rw [alk_aput, lastW_snoc, h.nowIs]
      by_cases hx : x = (j : Int)
      · subst hx; simp
      · have : ¬ (j : Int) = x := fun e => hx e.symm
        simp [hx, this]
    · refine ((h.keep.fr hf2' (fun b hb' e => h.now.ne_own h.keep (e ▸ hb'))).fr hf3 (fun b hb' e => h.keep.ne_own h.waits (by decide) b hb' e)).fr hf4 (fun b hb' e => h.keep.ne_bk hb (by decide) (e ▸ hb'))
    · intro p hp
      rcases List.mem_append.1 (show p ∈ D.waits ++ [(j, s)] from hp) with hp | hp
      · exact h.wf.waits p hp
      · simp at hp; subst hp; exact ⟨hj, hs512⟩
  have hj' : ((j : Int)).toNat = j := by omega
  simp only [hj'] at k
  refine burns_k ⟨_, _, _, _, _, h4⟩ (fun hbu => ?_) (fun hbu w5 h5 hf5 => ?_)
  · rw [if_pos hbu] at k
    refine cnd_true ?_
    refine nc_ptr ?_
    refine px_run ?_
    refine ldB hb4 rfl ?_
    refine crash_k h4 (by simp [Disk.push]; omega) h4.keep.sl (fun b hb' e => h4.keep.ne_own h4.lasts (by decide) b hb' e) fun w6 F' h6 hf6 hF' => ?_
    exact k w6 F' h6 (hfall.trans hf6 hgr) (hgr.trans hF' hfall.size)
  · rw [if_neg (by rw [hbu]; simp)] at k
    refine cnd_false ?_
    exact k w5 F4 h5 (hfall.trans hf5 hgr) hgr

/-! ### A new disk -/
instance : StructT P 186 [(0, 1), (1, 1), (2, 1), (3, 1), (4, 1), (5, 2), (7, 1)] := ⟨by kernel_rfl, fun w => by kernel_rfl⟩
instance : Zero P 186 [.slice none 0 0, .slice none 0 0, .map none, .int .i64 0, .bool false, .bool false, .int .i64 0, .slice none 0 0] := ⟨fun w => ⟨.agg [.slice none 0 0, .slice none 0 0, .map none, .int .i64 0, .bool false, .bool false, .int .i64 0, .slice none 0 0].toArray, by kernel_rfl, rfl⟩⟩
theorem build186 {w : World} {v m : Value} [hv : Atom v] [hm : Atom m] : (Instr.build 186 #[(0, v), (2, m)]).run P w = .ok (.agg [v, .slice none 0 0, m, .int .i64 0, .bool false, .bool false, .int .i64 0, .slice none 0 0].toArray) w := by
  refine build_run (P := P) (t := 186) (parts := [(0, v), (2, m)]) (z := [.slice none 0 0, .slice none 0 0, .map none, .int .i64 0, .bool false, .bool false, .int .i64 0, .slice none 0 0]) ?_
  rw [fill_cons (xs := [v]) (off := 0) (size := 1) rfl hv.cells rfl (by decide), fill_cons (xs := [m]) (off := 2) (size := 1) rfl hm.cells rfl (by rw [spl_length (by simp)]; simp), fill_nil]
  first | done | rfl
def Disk.new (n : Nat) : Disk := ⟨List.replicate n (List.replicate 512 0), [], 0, false, false, 0, []⟩
theorem bs_rep (n : Nat) : bs (List.replicate n 0) = zeros n := by simp [bs, zeros]
theorem flat_rep (n : Nat) (s : List UInt8) : (List.replicate n s).flatMap bs = (List.replicate n (bs s)).flatten := by
  induction n with
  | zero => rfl
  | succ n ih => simp only [List.replicate_succ, List.flatMap_cons, List.flatten_cons, ih]
theorem Disk.new_len (n : Nat) : (Disk.new n).lasts.length = n := List.length_replicate
theorem dnew_k {w : World} {i : Int} {K : Value → World → Prop}
    (k0 : (i < 1 ∨ 65536 < i) → K (.tuple #[.pointer none, .int .i64 1]) w)
    (k : ∀ n : Nat, i = (n : Int) → 0 < n → n ≤ 65536 → ∀ d w1 F, DiskP w1 d (Disk.new n) F → Fr no w w1 → (∀ b, F b → w.heap.size ≤ b) → K (.tuple #[pt d, .int .i64 0]) w1) : cl P 42 #[.int .i64 i] w K := by
  apply c42
  unfold F42
  refine px_run ?_
  by_cases h1 : i < 1
  · simp only [h1, decide_true]
    iterate 2 refine gd_tf ?_
    refine pk_true ?_
    exact cnd_true (k0 (.inl h1))
  simp only [h1, decide_false]
  refine gd_ff ?_
  refine gd_ff ?_
  refine px_run ?_
  refine pk_false ?_
  refine cnd_dec (fun h2 => k0 (.inr (by omega))) fun h2 => ?_
  obtain ⟨n, rfl⟩ := Int.eq_ofNat_of_zero_le (show 0 ≤ i by omega)
  refine make_k (P := P) (n := n) rfl (by omega) (by unfold maxLen; omega) fun b w1 hb ho hf => ?_
  refine makeMap_k fun m w2 hm hmp hf2 => ?_
  refine px_of build186 ?_
  refine boxA_k fun d w3 hd hbk hf3 => ?_
  have hz : (List.replicate n (zeros 512)).flatten = (List.replicate n (List.replicate 512 0)).flatMap bs := by rw [flat_rep, bs_rep]
  have hn0 : 0 < n := by omega
  have s1 := hf.size
  have s2 := hf2.size
  have hlt := ho.lt (b := b) rfl
  have hnil : ∀ e sz, Own w3 (.slice none 0 0) e sz 0 [] := fun _ _ => ⟨by simp, .inl ⟨rfl, rfl⟩⟩
  refine k n rfl hn0 (by omega) d w3 (fun i => i = d ∨ i = m ∨ i = b) ⟨.slice (some ⟨b, 0, none⟩) n n, .slice none 0 0, .slice none 0 0, m, [], ⟨hbk, ?_, hnil _ _, hmp.fr0' hf3, fun i => rfl, hnil _ _, .inl rfl, .inr (.inl rfl), fun b' hb' => .inr (.inr (by cases hb'; rfl)), fun b' hb' => (by cases hb'), fun b' hb' => (by cases hb'), ⟨?_, fun p hp => (by cases hp), ?_, ?_⟩⟩⟩ ((hf.trans hf2 (by intro i hi; cases hi)).trans hf3 (by intro i hi; cases hi)) ?_
  · have := (ho.fr0 hf2).fr0 hf3
    rw [hz] at this
    have hln : (Disk.new n).lasts = List.replicate n (List.replicate 512 0) := rfl
    rw [hln, List.length_replicate]
    exact this
  · intro s hs
    have h0 : s = List.replicate 512 0 := List.eq_of_mem_replicate hs
    subst h0; exact List.length_replicate
  · rw [Disk.new_len]; exact hn0
  · rw [Disk.new_len]; omega
  · rintro b' (rfl | rfl | rfl) <;> omega
end Go.Proofs.YtomggfibpbaodaaGreatDoor
