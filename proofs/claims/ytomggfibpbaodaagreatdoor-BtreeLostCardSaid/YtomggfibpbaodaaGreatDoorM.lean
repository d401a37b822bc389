/-
  What ring, pager and tree compute, as plain functions: no program in sight but the disk's and the node's.
-/
import Derived.Test.YtomggfibpbaodaaGreatDoorN2
import Derived.Test.YtomggfibpbaodaaGreatDoorQ
set_option maxRecDepth 100000
namespace Go.Proofs.YtomggfibpbaodaaGreatDoor
open Go.V

abbrev w64 (n : Int) : Int := IntKind.i64.wrap n
/-! ### The ring -/
/-- A number as eight bytes, the lowest first. -/
def le8 (n : Nat) : List UInt8 := (List.range 8).map fun i => UInt8.ofNat (n / 2 ^ (8 * i))
structure Piece where
  n : Nat
  last : Bool
  data : Str
def Piece.sector (p : Piece) : Sec :=
  le8 p.n ++ [(if p.last then 1 else 0), UInt8.ofNat p.data.length, UInt8.ofNat (p.data.length / 256)] ++ p.data ++ List.replicate (501 - p.data.length) 0
def unle : List UInt8 → Nat
  | [] => 0
  | c :: l => c.toNat + 256 * unle l
def pieceOf (s : Sec) : Option Piece :=
  let n := unle (s.take 8)
  let size := (s.getD 9 0).toNat + 256 * (s.getD 10 0).toNat
  if n < 1 ∨ 4611686018427387904 < n ∨ 501 < size then none else
  let p : Piece := ⟨n, decide (s.getD 8 0 = 1), (s.drop 11).take size⟩
  if p.sector ≠ s ∨ (p.last = false ∧ size ≠ 501) then none else some p
structure Ring where
  first : Nat
  count : Nat
  base : Nat
  last : Nat
  top : Nat
structure Ring.WF (r : Ring) : Prop where
  pos : 0 < r.count
  most : r.first + r.count ≤ 65536
  bl : r.base ≤ r.last
  lb : r.last ≤ r.base + r.count
  lm : r.last ≤ 4611686018427387904
  tm : r.top ≤ 4611686018427387904
def Ring.place (r : Ring) (n : Nat) : Nat := r.first + n % r.count
def Ring.pieceAt (r : Ring) (D : Disk) (i : Nat) : Option Piece :=
  match pieceOf (D.at i) with
  | none => none
  | some p => if r.place p.n = i then some p else none
/-- The records from the piece n on. -/
def Ring.recsF (r : Ring) (D : Disk) : Nat → Nat → List Str → Str → Nat → List Str × Nat
  | 0, _, out, _, last => (out, last)
  | f + 1, n, out, now, last =>
    match r.pieceAt D (r.place (n + 1)) with
    | none => (out, last)
    | some p => if p.n = n + 1 then (if p.last then r.recsF D f (n + 1) (out ++ [now ++ p.data]) [] (n + 1) else r.recsF D f (n + 1) out (now ++ p.data) last) else (out, last)
def Ring.recs (r : Ring) (D : Disk) : List Str × Nat := r.recsF D r.count r.base [] [] r.last
/-- The greatest number in the sectors from the i-th on. -/
def Ring.topF (r : Ring) (D : Disk) : Nat → Nat → Nat → Nat
  | 0, _, top => top
  | f + 1, i, top => r.topF D f (i + 1) (match r.pieceAt D (r.first + i) with | none => top | some p => max top p.n)
def Ring.start (first count base : Nat) : Ring := ⟨first, count, base, base, base⟩
def Ring.open (D : Disk) (first count base : Nat) : Ring × List Str :=
  let r := Ring.start first count base
  ({ r with last := (r.recs D).2, top := r.topF D count 0 base }, (r.recs D).1)
def pieces (n : Nat) : Nat := if n = 0 then 1 else (n - 1) / 501 + 1
def Ring.writes (r : Ring) (l : Str) (n : Nat) : Nat → Nat → Disk → Disk × Int
  | 0, _, D => (D, 0)
  | f + 1, i, D =>
    let x := D.write (r.place (r.last + 1 + i)) (Piece.sector ⟨r.last + 1 + i, decide (i = n - 1), (l.drop (i * 501)).take 501⟩)
    if x.2 ≠ 0 then (x.1, 20) else r.writes l n f (i + 1) x.1
def Ring.append (r : Ring) (D : Disk) (l : Str) : Ring × Disk × Int :=
  if D.dead then (r, D, 20) else
  if r.count < pieces l.length then (r, D, 40) else
  if r.last < r.top then (r, D, 50) else
  if (r.count : Int) - ((r.last : Int) - r.base) < pieces l.length then (r, D, 3) else
  if 4611686018427387904 - (pieces l.length : Int) < r.last then (r, D, 70) else
  let x := r.writes l (pieces l.length) (pieces l.length) 0 D
  if x.2 ≠ 0 then (r, x.1, 20) else ({ r with last := r.last + pieces l.length, top := r.last + pieces l.length }, x.1, 0)
/-! ### Numbers, metas, maps -/
/-- A number as k bytes, the highest first. -/
def be : Nat → Int → List UInt8
  | 0, _ => []
  | k + 1, n => UInt8.ofNat (n / (256 ^ k : Nat) % 256).toNat :: be k n
def num (l : List UInt8) : Nat := l.foldl (fun n c => n * 256 + c.toNat) 0
def zs (n : Nat) : List UInt8 := List.replicate n 0
structure Meta where
  root : Int
  used : Int
  head : Int
  free : Int
deriving DecidableEq
def Meta.page (m : Meta) : Sec := be 4 m.root ++ be 4 m.used ++ be 4 m.head ++ be 4 m.free ++ zs 496
def Meta.of (s : Sec) : Meta := ⟨num (s.take 4), num ((s.drop 4).take 4), num ((s.drop 8).take 4), num ((s.drop 12).take 4)⟩
/-! ### The pager -/
structure Pg where
  D : Disk
  R : Ring
  first : Int
  pages : Int
  dirty : List (Int × Sec)
  now : List (Int × Sec)
  kept : Meta
  m : Meta
  idle : List (Int × Unit)
  count : List (Int × Unit)
def Disk.get (D : Disk) (i : Int) : Except Int Sec :=
  if D.dead then .error 20 else if i < 0 ∨ (D.lasts.length : Int) ≤ i then .error 1 else .ok (D.at i.toNat)
def Pg.get (p : Pg) (n : Int) : Except Int Sec :=
  match mget p.now n with
  | some s => .ok s
  | none => match mget p.dirty n with
    | some s => .ok s
    | none => p.D.get (w64 (p.first + n))
def Pg.free (p : Pg) : Int := w64 (w64 (p.pages - p.m.used) + p.m.free)
def Pg.uses (p : Pg) (n : Int) : Bool := decide (0 < n) && decide (n < p.m.used) && (mget p.idle n).isNone
def Pg.setRoot (p : Pg) (n : Int) : Pg × Int := if n ≠ 0 ∧ p.uses n = false then (p, 1) else ({ p with m := { p.m with root := n } }, 0)
def Pg.read (p : Pg) (n : Int) : Except Int Sec := if p.uses n = false then .error 1 else p.get n
def Pg.lay (p : Pg) (n : Int) (s : Sec) : Pg := { p with now := mput p.now n s, count := mput p.count n () }
def Pg.write (p : Pg) (n : Int) (s : Sec) : Pg × Int := if p.uses n = false ∨ s.length ≠ 512 then (p, 1) else (p.lay n s, 0)
def Pg.alloc (p : Pg) : Pg × Int × Int :=
  if p.free = 0 then (p, 0, 3) else
  if p.m.head = 0 then (({ p with m := { p.m with used := w64 (p.m.used + 1) } } : Pg).lay p.m.used (zs 512), p.m.used, 0) else
  match p.get p.m.head with
  | .error e => (p, 0, e)
  | .ok s => (({ p with m := { p.m with head := num (s.take 4), free := w64 (p.m.free - 1) }, idle := mdel p.idle p.m.head } : Pg).lay p.m.head (zs 512), p.m.head, 0)
def Pg.drop (p : Pg) (n : Int) : Pg × Int :=
  if p.uses n = false then (p, 1) else
  ({ p.lay n (be 4 p.m.head ++ zs 508) with m := { p.m with head := n, free := w64 (p.m.free + 1) }, idle := mput p.idle n () }, 0)
def places (D : Disk) : Nat := D.lasts.length / 4
def mark : List UInt8 := [98, 117, 116, 116, 101, 114, 121, 49]
/-- The head is written: all up to a number of the log is in its places. -/
def Disk.head (D : Disk) (base : Int) : Disk × Int :=
  let x := D.write 0 (mark ++ be 8 base ++ zs 496)
  if x.2 ≠ 0 then x else x.1.flush
def Disk.lays (first : Int) : List (Int × Sec) → Disk → Disk × Int
  | [], D => (D, 0)
  | (n, s) :: l, D =>
    let x := D.write (w64 (first + n)) s
    if x.2 ≠ 0 then x else Disk.lays first l x.1
def Pg.settle (p : Pg) (base : Nat) : Pg × Int :=
  let x := Disk.lays p.first p.dirty p.D
  if x.2 ≠ 0 then ({ p with D := x.1 }, x.2) else
  let y := x.1.flush
  if y.2 ≠ 0 then ({ p with D := y.1 }, y.2) else
  let z := y.1.head base
  if z.2 ≠ 0 then ({ p with D := z.1 }, z.2) else
  ({ p with D := z.1, R := (Ring.open z.1 1 (places z.1) base).1, dirty := [] }, 0)
/-- A page without the zeros behind. -/
def trimR (s : Sec) : Str := (s.reverse.dropWhile (fun c => c == 0)).reverse
def recOf (l : List (Int × Sec)) : Str := l.flatMap fun x => cnt x.1 ++ str (trimR x.2)
def Pg.logged (p : Pg) (l : Str) : Pg × Int :=
  let x := p.R.append p.D l
  ({ p with R := x.1, D := x.2.1 }, x.2.2)
def Pg.synced (p : Pg) : Pg × Int :=
  let x := p.D.flush
  ({ p with D := x.1 }, x.2)
/-- A record is appended; if there is no room for it, all is settled first. -/
def Pg.tryLog (p : Pg) (l : Str) : Pg × Int :=
  if (p.logged l).2 = 3 then (if (p.settle p.R.top).2 = 0 then (p.settle p.R.top).1.logged l else p.settle p.R.top) else p.logged l
/-- What a commit leaves, if all goes well. -/
def Pg.closed (p : Pg) : Pg := { p with dirty := mput (mcopy p.dirty p.now) 0 p.m.page, kept := p.m, now := [], count := [] }
def Pg.finish (x : Pg × Int) : Pg × Int :=
  if x.2 ≠ 0 then x else if x.1.synced.2 ≠ 0 then x.1.synced else (x.1.synced.1.closed, 0)
def Pg.commit (p : Pg) : Pg × Int :=
  if p.D.lasts.length / 8 < p.count.length then (p, 3) else
  if p.m.root ≠ 0 ∧ p.uses p.m.root = false then (p, 1) else
  Pg.finish (({ p with now := mdel (mput p.now 0 p.m.page) 0 } : Pg).tryLog (recOf (mput p.now 0 p.m.page)))
def Pg.chain (p : Pg) : Nat → Int → Pg × Int
  | 0, _ => (p, 0)
  | f + 1, n =>
    if n = 0 ∨ n < 0 ∨ p.pages ≤ n ∨ (mget p.idle n).isSome then (p, 0) else
    let q := { p with idle := mput p.idle n () }
    match q.get n with
    | .error e => (q, e)
    | .ok s => q.chain f (num (s.take 4))
def Pg.abort (p : Pg) : Pg × Int :=
  let q := { p with now := [], count := [], idle := [] }
  match q.get 0 with
  | .error e => (q, e)
  | .ok s =>
    let r := { q with m := Meta.of s, kept := Meta.of s }
    r.chain p.pages.toNat r.m.head
def Pg.made (D : Disk) : Pg := ⟨D, ⟨0, 0, 0, 0, 0⟩, 1 + places D, (D.lasts.length : Int) - 1 - places D, [], [], ⟨0, 0, 0, 0⟩, ⟨0, 0, 0, 0⟩, [], []⟩
/-- What a record says, taken over. -/
def Pg.replay1 (p : Pg) : Nat → Rd → Option Pg
  | 0, _ => some p
  | f + 1, r =>
    if r.bad || r.done then some p else
    let x := r.count (p.pages - 1)
    let y := x.2.str 512
    if y.2.bad then none else
    ({ p with dirty := mput p.dirty x.1 (y.1 ++ zs (512 - y.1.length)) } : Pg).replay1 f y.2
def Pg.replay (p : Pg) : List Str → Option Pg
  | [] => some p
  | b :: l => match p.replay1 (b.length + 1) ⟨b, false⟩ with
    | none => none
    | some q => q.replay l
/-- A new pager's disk. -/
def Disk.formatted (D : Disk) : Disk × Int :=
  let x := D.write (1 + places D) (Meta.page ⟨0, 1, 0, 0⟩)
  if x.2 ≠ 0 then x else
  let y := x.1.flush
  if y.2 ≠ 0 then y else y.1.head 0
/-- The pager that was committed last: what it is, and the disk behind. -/
def Pg.open (D : Disk) : Except Int Pg × Disk :=
  match D.get 0 with
  | .error e => (.error e, D)
  | .ok b =>
    if D.lasts.length < 64 ∨ b.take 8 ≠ mark ∨ 127 < (b.getD 8 0).toNat then (.error 4, D) else
    let base := num ((b.drop 8).take 8)
    if 4611686018427387904 < base then (.error 4, D) else
    let x := Ring.open D 1 (places D) base
    match (Pg.made D).replay x.2 with
    | none => (.error 4, D)
    | some p =>
      let y := ({ p with R := x.1 } : Pg).settle x.1.top
      if y.2 ≠ 0 then (.error y.2, y.1.D) else
      let z := y.1.abort
      if z.2 ≠ 0 then (.error z.2, z.1.D) else (.ok z.1, z.1.D)
/-! ### The tree -/
/-- A step on the way down; a way is a list of these, the last one first. -/
structure Step where
  page : Int
  at_ : Nat
  n : Node
def kid (x : Node) (key : Str) : Nat := if (x.find key).2 then (x.find key).1 + 1 else (x.find key).1
def Pg.readN (p : Pg) (n : Int) : Except Int Node :=
  match p.read n with
  | .error e => .error (if e = 1 then 4 else e)
  | .ok b => match Node.decode b with
    | none => .error 4
    | some x => if x.leaf = false ∧ x.cells = [] then .error 4 else .ok x
def Pg.writeN (p : Pg) (n : Int) (x : Node) : Pg × Int :=
  if x.check = false then (p, 4) else if 512 < x.bytes.length then (p, 40) else p.write n (x.bytes ++ zs (512 - x.bytes.length))
def Pg.add (p : Pg) (x : Node) : Pg × Int × Int :=
  let a := p.alloc
  if a.2.2 ≠ 0 then (a.1, 0, a.2.2) else
  let b := a.1.writeN a.2.1 x
  (b.1, a.2.1, b.2)
def Pg.pathF (p : Pg) (key : Str) : Nat → Int → List Step → Except Int (List Step)
  | 0, _, _ => .error 4
  | f + 1, page, out =>
    if page = 0 then .ok out else
    match p.readN page with
    | .error e => .error e
    | .ok x =>
      if out.length = 40 then .error 4 else
      if x.leaf then .ok (⟨page, (x.find key).1, x⟩ :: out) else
      let next := x.kids.getD (kid x key) 0
      if next = 0 then .error 4 else p.pathF key f next (⟨page, kid x key, x⟩ :: out)
def Pg.path (p : Pg) (key : Str) : Except Int (List Step) := p.pathF key 42 p.m.root []
def npages (size : Int) : Int := if size ≤ 64 then 0 else (w64 (w64 (size + 480) - 1)).tdiv 480
/-- The pages of a long value are gone over: what is seen of each changes a state. -/
def Pg.longF {σ : Type} (size : Int) (see : Pg → σ → Int → Sec → Pg × σ × Int) : Nat → Pg → σ → Int → Pg × σ × Int
  | 0, p, s, page => (p, s, if page ≠ 0 then 4 else 0)
  | f + 1, p, s, page =>
    match p.read page with
    | .error e => (p, s, if e = 1 ∨ 8192 < size then 4 else e)
    | .ok b =>
      if 8192 < size then (p, s, 4) else
      let x := see p s page ((b.drop 4).take 480)
      if x.2.2 ≠ 0 then x else Pg.longF size see f x.1 x.2.1 (num (b.take 4))
def Pg.value (p : Pg) (c : Cell) : Str × Int :=
  if c.long = 0 then (c.val, 0) else
  let x := Pg.longF c.size (fun p s _ b => (p, s ++ b, 0)) (npages c.size).toNat p ([] : Str) c.long
  if x.2.2 ≠ 0 ∨ (x.2.1.length : Int) < c.size then ([], max x.2.2 4) else (x.2.1.take c.size.toNat, 0)
def Pg.forget (p : Pg) (c : Cell) : Pg × Int :=
  if c.long = 0 then (p, 0) else
  let x := Pg.longF c.size (fun p (_ : Unit) page _ => ((p.drop page).1, (), (p.drop page).2)) (npages c.size).toNat p () c.long
  (x.1, x.2.2)
/-- The long pages of a value, the last one first: the page of the first of them. -/
def Pg.cellF (v : Str) : Nat → Pg → Int → Pg × Int × Int
  | 0, p, next => (p, next, 0)
  | i + 1, p, next =>
    let a := p.alloc
    if a.2.2 ≠ 0 then (a.1, next, a.2.2) else
    let s := (v.drop (i * 480)).take 480
    let b := a.1.write a.2.1 (be 4 next ++ s ++ zs (508 - s.length))
    if b.2 ≠ 0 then (b.1, a.2.1, b.2) else Pg.cellF v i b.1 a.2.1
def Pg.cell (p : Pg) (key v : Str) : Pg × Cell × Int :=
  if v.length ≤ 64 then (p, ⟨key, v, 0, 0⟩, 0) else
  let x := Pg.cellF v ((v.length + 479) / 480) p 0
  if x.2.2 ≠ 0 then (x.1, ⟨[], [], 0, 0⟩, x.2.2) else (x.1, ⟨key, [], x.2.1, v.length⟩, 0)
def Pg.getK (p : Pg) (key : Str) : Str × Bool × Int :=
  if 48 < key.length then ([], false, 1) else
  match p.path key with
  | .error e => ([], false, e)
  | .ok [] => ([], false, 0)
  | .ok (x :: _) =>
    match x.n.cells[x.at_]? with
    | none => ([], false, 0)
    | some c => if c.key ≠ key then ([], false, 0) else ((p.value c).1, decide ((p.value c).2 = 0), (p.value c).2)
def insAt {α : Type} (l : List α) (i : Nat) (x : α) : List α := l.take i ++ x :: l.drop i
def delAt {α : Type} (l : List α) (i : Nat) : List α := l.take i ++ l.drop (i + 1)
def Pg.up : List Step → Pg → Node → Pg × Int
  | [], p, _ => (p, 0)
  | last :: l, p, n =>
    if n.sz ≤ 512 then p.writeN last.page n else
    let x1 := p.writeN last.page n.cut.1
    if x1.2 ≠ 0 then x1 else
    let x2 := x1.1.add n.cut.2.2
    if x2.2.2 ≠ 0 then (x2.1, x2.2.2) else
    match l with
    | [] =>
      let x3 := x2.1.add ⟨false, [sepC n.cut.2.1], [last.page, x2.2.1]⟩
      if x3.2.2 ≠ 0 then (x3.1, x3.2.2) else x3.1.setRoot x3.2.1
    | above :: _ => Pg.up l x2.1 ⟨above.n.leaf, insAt above.n.cells above.at_ (sepC n.cut.2.1), insAt above.n.kids (above.at_ + 1) x2.2.1⟩
def Pg.down : List Step → Pg → Node → Pg × Int
  | [], p, _ => (p, 0)
  | [last], p, n =>
    if n.cells = [] then
      let x := p.setRoot (if n.leaf then 0 else n.kids.getD 0 0)
      if x.2 ≠ 0 then x else x.1.drop last.page
    else Pg.up [last] p n
  | last :: above :: l, p, n =>
    if 128 ≤ n.sz then Pg.up (last :: above :: l) p n else
    let at_ := above.at_
    let beside := if at_ + 1 = above.n.kids.length then at_ - 1 else at_ + 1
    match p.readN (above.n.kids.getD beside 0) with
    | .error e => (p, e)
    | .ok other =>
      let first := if beside < at_ then other else n
      let second := if beside < at_ then n else other
      let left := if beside < at_ then beside else at_
      let whole := Node.join first (above.n.cells.getD left (sepC [])).key second
      let pl := above.n.kids.getD left 0
      let pr := above.n.kids.getD (left + 1) 0
      if whole.sz ≤ 512 then
        let x := p.writeN pl whole
        if x.2 ≠ 0 then x else
        let y := x.1.drop pr
        if y.2 ≠ 0 then y else Pg.down (above :: l) y.1 ⟨above.n.leaf, delAt above.n.cells left, delAt above.n.kids (left + 1)⟩
      else
        let x := p.writeN pl whole.cut.1
        if x.2 ≠ 0 then x else
        let y := x.1.writeN pr whole.cut.2.2
        if y.2 ≠ 0 then y else Pg.down (above :: l) y.1 ⟨above.n.leaf, above.n.cells.set left (sepC whole.cut.2.1), above.n.kids⟩
def Pg.put (p : Pg) (key v : Str) : Pg × Int :=
  if 48 < key.length ∨ 8192 < v.length then (p, 1) else
  if p.free < w64 (24 + npages v.length) then (p, 3) else
  match p.path key with
  | .error e => (p, e)
  | .ok l =>
    let old := match l with | [] => none | x :: _ => match x.n.cells[x.at_]? with | none => none | some c => if c.key = key then some c else none
    let x0 := match old with | none => (p, 0) | some c => p.forget c
    if x0.2 ≠ 0 then x0 else
    let x1 := x0.1.cell key v
    if x1.2.2 ≠ 0 then (x1.1, x1.2.2) else
    match l with
    | [] =>
      let x2 := x1.1.add ⟨true, [x1.2.1], []⟩
      if x2.2.2 ≠ 0 then (x2.1, x2.2.2) else x2.1.setRoot x2.2.1
    | x :: _ => Pg.down l x1.1 ⟨x.n.leaf, if old.isSome then x.n.cells.set x.at_ x1.2.1 else insAt x.n.cells x.at_ x1.2.1, x.n.kids⟩
def Pg.del (p : Pg) (key : Str) : Pg × Bool × Int :=
  if 48 < key.length then (p, false, 1) else
  if p.free < 24 then (p, false, 3) else
  match p.path key with
  | .error e => (p, false, e)
  | .ok [] => (p, false, 0)
  | .ok (x :: l) =>
    match x.n.cells[x.at_]? with
    | none => (p, false, 0)
    | some c =>
      if c.key ≠ key then (p, false, 0) else
      let x0 := p.forget c
      if x0.2 ≠ 0 then (x0.1, false, x0.2) else
      let x1 := Pg.down (x :: l) x0.1 ⟨x.n.leaf, delAt x.n.cells x.at_, x.n.kids⟩
      (x1.1, decide (x1.2 = 0), x1.2)
/-- What a range has gathered: the pages seen, the cells. -/
structure Seen where
  seen : List (Int × Unit)
  out : List (Str × Str)
def Pg.leafGo (p : Pg) (frm to : Str) : List Cell → List (Str × Str) → List (Str × Str) × Int
  | [], out => (out, 0)
  | c :: l, out =>
    if ltS c.key frm = true ∨ (to ≠ [] ∧ ltS c.key to = false) then p.leafGo frm to l out else
    if (p.value c).2 ≠ 0 then (out, (p.value c).2) else p.leafGo frm to l (out ++ [(c.key, (p.value c).1)])
/-- The kids from the i-th on are gone into. -/
def kidsGo (f : Int → Seen → Seen × Int) (cells : List Cell) (frm to : Str) : Nat → List Int → Seen → Seen × Int
  | _, [], s => (s, 0)
  | i, k :: l, s =>
    if (match cells[i]? with | some c => !ltS frm c.key | none => false) || (decide (0 < i) && decide (to ≠ []) && (match cells[i - 1]? with | some c => !ltS c.key to | none => false)) then kidsGo f cells frm to (i + 1) l s else
    if (f k s).2 ≠ 0 then f k s else kidsGo f cells frm to (i + 1) l (f k s).1
def Pg.within (p : Pg) (frm to : Str) : Nat → Int → Seen → Seen × Int
  | 0, _, s => (s, 4)
  | f + 1, page, s =>
    if (mget s.seen page).isSome then (s, 4) else
    let s1 : Seen := ⟨mput s.seen page (), s.out⟩
    match p.readN page with
    | .error e => (s1, e)
    | .ok x =>
      if x.leaf then (⟨s1.seen, (p.leafGo frm to x.cells s1.out).1⟩, (p.leafGo frm to x.cells s1.out).2) else
      if f = 0 then (s1, 4) else kidsGo (p.within frm to f) x.cells frm to 0 x.kids s1
def Pg.range (p : Pg) (frm to : Str) : List (Str × Str) × Int :=
  if p.m.root = 0 then ([], 0) else
  let x := p.within frm to 41 p.m.root ⟨[], []⟩
  if x.2 ≠ 0 then ([], x.2) else (x.1.out, 0)
end Go.Proofs.YtomggfibpbaodaaGreatDoor
