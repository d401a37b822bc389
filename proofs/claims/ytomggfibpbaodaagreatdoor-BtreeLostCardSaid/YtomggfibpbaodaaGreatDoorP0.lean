/-
  How arguments read: slices of steps, of rows of bytes.
-/
import Derived.Test.YtomggfibpbaodaaGreatDoorA5
import Derived.ProofKit
import Derived.Carry
import Derived.Deep.Slices
import Derived.SizedLaws
set_option maxRecDepth 100000
namespace Go.Proofs.YtomggfibpbaodaaGreatDoor
open Go.V Go.ChangeShapes Go.WideShapes Go.RowKit

theorem fr_below {W W' : World} (f : Fr no W W') : Below W.heap.size W W' := ⟨f.os, f.tape, f.output, f.size, fun k hk => f.same k hk id⟩
theorem calls_of {P : Program} {f : FuncId} {args : Array Value} {w : World} {K : Value → World → Prop} (hc : Callable P f) (h : cl P f args w K) : Calls P f args w fun e w' => ∃ v, e = .returned v ∧ K v w' := by
  unfold cl at h
  rcases h with ⟨_, h⟩ | ⟨v, w', h, _⟩
  · exact h
  · rw [hc args w] at h
    cases h
section
variable {H : Type} {enc : TypeId × Value → H} {W : World} {sp : Nat → Bool} {held : Bool}
/-- A slice whose elements read one by one. -/
theorem readS {α : Type} (en : α → List Value) (R : α → DataW H → Prop) {t e : TypeId} {sz fuel : Nat} {cs : List Value} {x : DataW H × List MemPlace} (ht : P.underlying t = some (.slice e)) (hsz : P.cellsOf e = sz) (hel : ∀ a, (en a).length = sz)
    (helem : ∀ n cs y, DataW.trod enc P W 0 sp held n e cs = some y → ∃ a, cs = en a ∧ R a y.1) (h : DataW.trod enc P W 0 sp held fuel t cs = some x) :
    ∃ v l, cs = [v] ∧ Sl W v sz l.length (l.flatMap en) ∧ ((x.1 = .nil ∧ l = []) ∨ ∃ elems rest, x.1 = .slice elems rest ∧ elems.length = l.length ∧ ∀ i (hi : i < l.length), ∃ d, elems[i]? = some d ∧ R l[i] d) := by
  rcases DataW.trod_slice ht h with ⟨h1, h2⟩ | ⟨a, len, cap, elems, rest, n, _, rfl, rfl, _, hl, _, hlen, hE, _, _⟩
  · subst h1 h2
    exact ⟨_, [], rfl, ⟨by simp, none, 0, rfl, Nat.le_refl _, fun _ => ⟨rfl, rfl⟩, fun _ h => by cases h⟩, .inl ⟨rfl, rfl⟩⟩
  · rw [hsz] at hE
    have hsome : ∀ i, i < len → ∃ a' : α, (∀ r, r < sz → W.cell? (a.add (i * sz + r)) = (en a')[r]?) ∧ ∃ d, (elems.map (·.1))[i]? = some d ∧ R a' d := by
      intro i hi
      have h1 := hE i hi
      have hie : i < elems.length := by omega
      rw [List.getElem?_eq_getElem hie] at h1
      simp only [Option.bind_eq_some_iff] at h1
      obtain ⟨cs', hc, hy⟩ := h1
      obtain ⟨a', e1, e2⟩ := helem n cs' _ hy
      obtain ⟨_, h3, h4⟩ := World.cells?_some hc
      subst e1
      refine ⟨a', fun r hr => ?_, elems[i].1, by rw [List.getElem?_map, List.getElem?_eq_getElem hie]; rfl, e2⟩
      rw [← Go.Deep.add_add]
      exact h4 r hr
    have hex : ∃ l : List α, l.length = len ∧ ∀ i (hi : i < l.length), (∀ r, r < sz → W.cell? (a.add (i * sz + r)) = (en l[i])[r]?) ∧ ∃ d, (elems.map (·.1))[i]? = some d ∧ R l[i] d := by
      have hn : ∀ m, m ≤ len → ∃ l : List α, l.length = m ∧ ∀ i (hi : i < l.length), (∀ r, r < sz → W.cell? (a.add (i * sz + r)) = (en l[i])[r]?) ∧ ∃ d, (elems.map (·.1))[i]? = some d ∧ R l[i] d := by
        intro m
        induction m with
        | zero => exact fun _ => ⟨[], rfl, fun i hi => by cases hi⟩
        | succ m ih =>
          intro hm
          obtain ⟨l, hl1, hl2⟩ := ih (by omega)
          obtain ⟨a', ha'⟩ := hsome m (by omega)
          refine ⟨l ++ [a'], by simp [hl1], fun i hi => ?_⟩
          by_cases him : i < l.length
          · rw [List.getElem_append_left him]
            exact hl2 i him
          · have : i = m := by simp at hi; omega
            subst this
            rw [List.getElem_append_right (by omega)]
            simp only [hl1, Nat.sub_self, List.getElem_cons_zero]
            exact ha'
      exact hn len (Nat.le_refl _)
    obtain ⟨l, hl1, hl2⟩ := hex
    have hfl : (l.flatMap en).length = l.length * sz := by
      clear hl1 hl2
      induction l with
      | nil => simp
      | cons b l ih => simp only [List.flatMap_cons, List.length_append, ih, hel, List.length_cons]; rw [Nat.succ_mul]; omega
    refine ⟨_, l, rfl, ⟨hfl, some a, cap, by rw [hl1], by omega, fun h => (by cases h), fun ad had j u hu => ?_⟩, .inr ⟨elems.map (·.1), rest.map (·.1), rfl, by rw [List.length_map, hlen, hl1], fun i hi => (hl2 i hi).2⟩⟩
    cases had
    have hj := (List.getElem?_eq_some_iff.1 hu).1
    rw [hfl] at hj
    have hsz0 : 0 < sz := by
      cases sz with
      | zero => omega
      | succ s => omega
    have hi : j / sz < l.length := Nat.div_lt_of_lt_mul (by rw [Nat.mul_comm]; exact hj)
    have hr := Nat.mod_lt j hsz0
    have hjs : j / sz * sz + j % sz = j := by rw [Nat.mul_comm]; exact Nat.div_add_mod j sz
    have h5 := (hl2 _ hi).1 _ hr
    rw [hjs] at h5
    rw [h5]
    have := flatGet (f := en) (sz := sz) l (j / sz) (j % sz) (fun c _ => hel c) hi hr
    rw [hjs] at this
    rw [← this]
    exact hu
theorem trod_len {t : TypeId} {n : Nat} {cs : List Value} {x : DataW H × List MemPlace} {fs : Array Field} (ht : P.underlying t = some (.struct fs)) (h : DataW.trod enc P W 0 sp held n t cs = some x) : cs.length = P.cellsOf t := by
  obtain ⟨_, _, _, _, h, _⟩ := DataW.trod_struct ht h
  exact h
/-- What a step reads as. -/
def RStep (s : LStep) (d : DataW H) : Prop := d = .agg [.lit (.int .i64 s.kind), .lit (.string s.key), .lit (.string s.value), .lit (.int .i64 s.many)]
theorem under31 : ∃ f0 f1 f2 f3 : Field, P.underlying 31 = some (.struct #[f0, f1, f2, f3]) ∧ (f0.type = 3 ∧ f0.offset = 0) ∧ (f1.type = 9 ∧ f1.offset = 1) ∧ (f2.type = 9 ∧ f2.offset = 2) ∧ (f3.type = 3 ∧ f3.offset = 3) := by
  refine ⟨_, _, _, _, (by kernel_rfl : P.underlying 31 = some (.struct #[(P.fieldsOf 31)[0]!, (P.fieldsOf 31)[1]!, (P.fieldsOf 31)[2]!, (P.fieldsOf 31)[3]!])), ⟨by kernel_rfl, by kernel_rfl⟩, ⟨by kernel_rfl, by kernel_rfl⟩, ⟨by kernel_rfl, by kernel_rfl⟩, ⟨by kernel_rfl, by kernel_rfl⟩⟩
theorem cells3 : P.cellsOf 3 = 1 := by kernel_rfl
theorem cells5 : P.cellsOf 5 = 1 := by kernel_rfl
theorem cells9 : P.cellsOf 9 = 1 := by kernel_rfl
theorem cells31 : P.cellsOf 31 = 4 := by kernel_rfl
theorem cells43 : P.cellsOf 43 = 1 := by kernel_rfl
theorem u22 : P.underlying 22 = some (.slice 31) := by kernel_rfl
theorem u59 : P.underlying 59 = some (.slice 43) := by kernel_rfl
theorem u5 : P.underlying 5 = some (.int .u8) := by kernel_rfl
theorem read_step (n : Nat) (cs : List Value) (y : DataW H × List MemPlace) (h : DataW.trod enc P W 0 sp held n 31 cs = some y) : ∃ s, cs = stenc s ∧ RStep s y.1 := by
  obtain ⟨f0, f1, f2, f3, hu, ⟨t0, o0⟩, ⟨t1, o1⟩, ⟨t2, o2⟩, t3, o3⟩ := under31
  obtain ⟨xs, m, _, rfl, hl, hxl, hx⟩ := DataW.trod_struct hu h
  rw [cells31] at hl
  have hxl4 : xs.length = 4 := hxl
  match cs, hl with
  | [c0, c1, c2, c3], _ =>
    have g0 := hx 0 f0 rfl
    have g1 := hx 1 f1 rfl
    have g2 := hx 2 f2 rfl
    have g3 := hx 3 f3 rfl
    rw [t0, o0, cells3] at g0
    rw [t1, o1, cells9] at g1
    rw [t2, o2, cells9] at g2
    rw [t3, o3, cells3] at g3
    match xs, hxl4 with
    | [y0, y1, y2, y3], _ =>
      obtain ⟨k, e0, z0, _⟩ := DataW.trod_int und_int (show DataW.trod enc P W 0 sp held m 3 [c0] = some y0 from g0)
      obtain ⟨s1, e1, z1, _⟩ := DataW.trod_string und_str (show DataW.trod enc P W 0 sp held m 9 [c1] = some y1 from g1)
      obtain ⟨s2, e2, z2, _⟩ := DataW.trod_string und_str (show DataW.trod enc P W 0 sp held m 9 [c2] = some y2 from g2)
      obtain ⟨q, e3, z3, _⟩ := DataW.trod_int und_int (show DataW.trod enc P W 0 sp held m 3 [c3] = some y3 from g3)
      simp only [List.cons.injEq, and_true] at e0 e1 e2 e3
      subst e0 e1 e2 e3 z0 z1 z2 z3
      refine ⟨⟨k, s1.data.toList, s2.data.toList, q⟩, ?_, rfl⟩
      simp only [stenc, ← sv_ba]
theorem mem_weightsAll {e : TypeId} {n : Nat} : ∀ {l : List (DataW H)} {d : DataW H}, d ∈ l → n ∈ d.weights P e → n ∈ DataW.weightsAll P e l
  | a :: l, d, hd, hn => by
    unfold DataW.weightsAll
    rcases List.mem_cons.1 hd with rfl | hd
    · exact List.mem_append.2 (.inl hn)
    · exact List.mem_append.2 (.inr (mem_weightsAll hd hn))
theorem sized_elems {ts : List TypeId} {ds : List (DataW H)} {j : Nat} {t e : TypeId} {elems rest : List (DataW H)} (hz : (DataW.weightsEach P ts ds).all (· ≤ reachBytes) = true) (ht : ts[j]? = some t) (hd : ds[j]? = some (.slice elems rest)) (hu : P.underlying t = some (.slice e)) {d : DataW H} (hm : d ∈ elems) {n : Nat} (hn : n ∈ d.weights P e) : n ≤ reachBytes := by
  have := List.all_eq_true.1 hz n (DataW.weights_mem_each ht hd n (by
    simp only [DataW.weights, hu]
    exact .tail _ (List.mem_append.2 (.inl (mem_weightsAll hm hn)))))
  simpa using this
theorem reach_val : reachBytes = 140737488351232 := by decide
theorem weights_step {s : LStep} : s.key.length ∈ DataW.weights P 31 (.agg [.lit (.int .i64 s.kind), .lit (.string s.key), .lit (.string s.value), .lit (.int .i64 s.many)] : DataW H) ∧
    s.value.length ∈ DataW.weights P 31 (.agg [.lit (.int .i64 s.kind), .lit (.string s.key), .lit (.string s.value), .lit (.int .i64 s.many)] : DataW H) := by
  obtain ⟨f0, f1, f2, f3, hu, _⟩ := under31
  simp [DataW.weights, hu, DataW.weightsEach]
/-- An argument of steps. -/
theorem read_steps {ts : List TypeId} {ds : List (DataW H)} {j : Nat} {v : Value} {d : DataW H} {p : List MemPlace} (hv : ∃ a n c, v = .slice a n c) (h : DataW.Trod enc P W 0 sp held 22 v d p) (hz : (DataW.weightsEach P ts ds).all (· ≤ reachBytes) = true) (ht : ts[j]? = some 22) (hd : ds[j]? = some d) :
    ∃ l, Sl W v 4 l.length (l.flatMap stenc) ∧ Shorts l ∧ l.length ≤ 140737488355328 := by
  obtain ⟨a, n, c, rfl⟩ := hv
  obtain ⟨fuel, hf⟩ := h
  obtain ⟨u, l, e, hsl, hc⟩ := readS (enc := enc) (sp := sp) (held := held) stenc (RStep (H := H)) u22 cells31 stenc_length read_step hf
  have huv : u = .slice a n c := by simpa [Value.cells] using e.symm
  subst huv
  refine ⟨l, hsl, ?_⟩
  rcases hc with ⟨_, rfl⟩ | ⟨elems, rest, rfl, hel, hR⟩
  · exact ⟨fun s hs => (by cases hs), by simp⟩
  · have hb : P.bytesOf 31 = 48 := by kernel_rfl
    have hs := sized_slice hz ht hd u22
    rw [hb, reach_val] at hs
    refine ⟨fun s hs => ?_, by omega⟩
    obtain ⟨i, hi, rfl⟩ := List.getElem_of_mem hs
    obtain ⟨d, hd1, hd2⟩ := hR i hi
    have hm : d ∈ elems := List.mem_of_getElem? hd1
    rw [hd2] at hm
    have h1 := sized_elems hz ht hd u22 hm weights_step.1
    have h2 := sized_elems hz ht hd u22 hm weights_step.2
    rw [reach_val] at h1 h2
    omega
/-- Bytes, as a slice's one cell. -/
theorem read_bytes (n : Nat) (cs : List Value) (y : DataW H × List MemPlace) (h : DataW.trod enc P W 0 sp held n 43 cs = some y) : ∃ u : Value, cs = [u] ∧ ∃ s : List UInt8, Sl W u 1 s.length (bs s) := by
  rcases open_ints u43 u5 cells5 h with ⟨rfl, _⟩ | ⟨a, len, cap, zs, rfl, _, hl, _, hz, _, hcell, hwf⟩
  · exact ⟨_, rfl, [], by simp [bs], none, 0, rfl, Nat.le_refl _, fun _ => ⟨rfl, rfl⟩, fun _ h => by cases h⟩
  · have hlz : len ≤ zs.length := by rw [hz]; split <;> omega
    refine ⟨_, rfl, (zs.take len).map fun z => UInt8.ofNat z.toNat, by rw [bs_length, List.length_map, Nat.mul_one], some a, cap, by simp; omega, by simp; omega, fun h => (by cases h), fun ad had j u hu => ?_⟩
    cases had
    have hj := (List.getElem?_eq_some_iff.1 hu).1
    rw [bs_length, List.length_map, List.length_take] at hj
    have hj1 : j < zs.length := by omega
    have hc := hcell j hj1
    have hw := hwf _ (List.getElem_mem hj1)
    rw [hc, ← hu]
    have hgd : zs.getD j 0 = zs[j] := by simp [List.getD, hj1]
    have hb : 0 ≤ zs[j] ∧ zs[j] ≤ 255 := by simpa [Lit.wf, IntKind.min, IntKind.max, IntKind.signed, IntKind.bits] using hw
    rw [hgd, bs_get (by simp; omega)]
    simp only [List.getElem_map, List.getElem_take]
    have : ((UInt8.ofNat zs[j].toNat).toNat : Int) = zs[j] := by
      simp
      omega
    rw [u8v, this]
/-- An argument of rows of bytes. -/
theorem read_pages {ts : List TypeId} {ds : List (DataW H)} {j : Nat} {v : Value} {d : DataW H} {p : List MemPlace} (hv : ∃ a n c, v = .slice a n c) (h : DataW.Trod enc P W 0 sp held 59 v d p) (hz : (DataW.weightsEach P ts ds).all (· ≤ reachBytes) = true) (ht : ts[j]? = some 59) (hd : ds[j]? = some d) :
    ∃ (m : Nat) (vs : List Value), Sl W v 1 m vs ∧ m ≤ 140737488355328 ∧ ∀ (i : Nat) (u : Value), vs[i]? = some u → ∃ s : List UInt8, Sl W u 1 s.length (bs s) := by
  obtain ⟨a, n, c, rfl⟩ := hv
  obtain ⟨fuel, hf⟩ := h
  obtain ⟨u, l, e, hsl, hc⟩ := readS (enc := enc) (sp := sp) (held := held) (fun u : Value => [u]) (fun u _ => ∃ s : List UInt8, Sl W u 1 s.length (bs s)) u59 cells43 (fun _ => rfl) read_bytes hf
  have huv : u = .slice a n c := by simpa [Value.cells] using e.symm
  subst huv
  have hfm : l.flatMap (fun u : Value => [u]) = l := by simp
  rw [hfm] at hsl
  refine ⟨l.length, l, hsl, ?_, fun i u hu => ?_⟩
  · rcases hc with ⟨_, rfl⟩ | ⟨elems, rest, rfl, hel, _⟩
    · simp
    · have hb : P.bytesOf 43 = 24 := by kernel_rfl
      have hs := sized_slice hz ht hd u59
      rw [hb, reach_val] at hs
      omega
  · rcases hc with ⟨_, rfl⟩ | ⟨elems, rest, _, hel, hR⟩
    · simp at hu
    · have hi := (List.getElem?_eq_some_iff.1 hu).1
      obtain ⟨_, _, h2⟩ := hR i hi
      rw [List.getElem?_eq_getElem hi] at hu
      cases hu
      exact h2
end
end Go.Proofs.YtomggfibpbaodaaGreatDoor
