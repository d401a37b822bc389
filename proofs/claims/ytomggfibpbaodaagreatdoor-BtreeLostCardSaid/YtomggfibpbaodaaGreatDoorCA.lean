/- What calls of the program's functions ask, step by step. -/
import Derived.Test.YtomggfibpbaodaaGreatDoorProg
import Derived.Test.YtomggfibpbaodaaGreatDoorV
set_option maxRecDepth 100000
namespace Go.Proofs.YtomggfibpbaodaaGreatDoor
open Go.V
noncomputable abbrev P := Tryz.prog
theorem follows_P : P.follows .mixedOrders = true := by kernel_rfl
theorem cq {f : FuncId} {fn : Func} {l : List Value} {w : World} {R : Value → World → Prop} {G : Prop} (A : Ann) (hf : P.funcs[f]? = some fn) (ok : (fn.body.isSome && !(fn.name == "runtime.NumGoroutine") && decide (l.length ≤ fn.ntmps)) = true)
    (e : G = vc P fn.ntmps A (fn.body.getD .skip) (fin P fn R) (fin P fn R) (fun _ _ _ => False) (env0 l fn.ntmps) w) (h : G) : cl P f l.toArray w R := by
  simp only [Bool.and_eq_true, Bool.not_eq_true', decide_eq_true_eq] at ok
  obtain ⟨⟨h1, h2⟩, h3⟩ := ok
  obtain ⟨c, hc⟩ := Option.isSome_iff_exists.1 h1
  rw [hc] at e
  exact cl_of_vc follows_P hf hc h2 (by simpa using h3) (by simpa using e ▸ h)
variable {R : Value → World → Prop} {v0 v1 v2 v3 v4 v5 v6 v7 v8 v9 v10 v11 : Value} {w : World}
def F29 (R : Value → World → Prop) (v0 : Value) (w : World) : Prop :=
  px P (bin true .eql 25 v0 (.pointer none)) w fun v4 w =>
  cnd v4 (
    R (.int .i64 0) w) <|
  nc v0 w fun v6 w =>
  px P (Instr.fieldAt 186 v6 0) w fun v7 w =>
  px P (Instr.loadAt 181 v7) w fun v8 w =>
  px P (Builtin.len_ #[181] 3 #[v8]) w fun v9 w =>
  R v9 w
theorem c29 (h : F29 R v0 w) : cl P 29 #[v0] w R := cq ⟨[], [], [], [], []⟩ Tryz.func29 (by kernel_rfl) (by kernel_rfl) h
def F35 (R : Value → World → Prop) (v0 : Value) (w : World) : Prop :=
  px P (bin true .neq 25 v0 (.pointer none)) w fun v4 w =>
  gd v4 true w (fun k => k v0 w) fun v6 w =>
  gd v4 true w (fun k => nc v6 w fun v w => k v w) fun v7 w =>
  gd v4 true w (fun k => px P (Instr.fieldAt 186 v7 4) w fun v w => k v w) fun v8 w =>
  gd v4 true w (fun k => px P (Instr.loadAt 4 v8) w fun v w => k v w) fun v9 w =>
  pk v4 v9 (.bool false) w fun v10 w =>
  R v10 w
theorem c35 (h : F35 R v0 w) : cl P 35 #[v0] w R := cq ⟨[], [], [], [], []⟩ Tryz.func35 (by kernel_rfl) (by kernel_rfl) h
def F42 (R : Value → World → Prop) (v0 : Value) (w : World) : Prop :=
  px P (bin true .lss 3 v0 (.int .i64 1)) w fun v5 w =>
  gd v5 false w (fun k => k v0 w) fun v7 w =>
  gd v5 false w (fun k => px P (bin true .gtr 3 v7 (.int .i64 65536)) w fun v w => k v w) fun v8 w =>
  pk v5 (.bool true) v8 w fun v9 w =>
  cnd v9 (
    R (.tuple #[(.pointer none), (.int .i64 1)]) w) <|
  px P (Instr.makeSlice 181 v0 v0) w fun v11 w =>
  px P (Instr.makeMap 172 none) w fun v12 w =>
  px P (Instr.build 186 #[(0, v11), (2, v12)]) w fun v13 w =>
  px P (Instr.box 186 v13) w fun v14 w =>
  R (.tuple #[v14, (.int .i64 0)]) w
theorem c42 (h : F42 R v0 w) : cl P 42 #[v0] w R := cq ⟨[], [], [], [], []⟩ Tryz.func42 (by kernel_rfl) (by kernel_rfl) h
def F101 (R : Value → World → Prop) (v0 : Value) (w : World) : Prop :=
  px P (bin true .eql 25 v0 (.pointer none)) w fun v5 w =>
  cnd v5 (
    R (.int .i64 2) w) <|
  nc v0 w fun v8 w =>
  px P (Instr.fieldAt 186 v8 4) w fun v9 w =>
  px P (Instr.loadAt 4 v9) w fun v10 w =>
  cnd v10 (
    R (.int .i64 20) w) <|
  R (.int .i64 0) w
theorem c101 (h : F101 R v0 w) : cl P 101 #[v0] w R := cq ⟨[], [], [], [], []⟩ Tryz.func101 (by kernel_rfl) (by kernel_rfl) h
def F103 (R : Value → World → Prop) (v0 v1 : Value) (w : World) : Prop :=
  px P (Instr.box 65 v1) w fun v3 w =>
  px P (Instr.makeFunc (.func 174) #[] #[v3]) w fun v5 w =>
  cl P 173 #[v0, v5] w fun _ w =>
  nc v0 w fun v8 w =>
  px P (Instr.fieldAt 186 v8 4) w fun v9 w =>
  pu P (Instr.storeAt 4 v9 (.bool true)) w fun w =>
  R (.tuple #[]) w
theorem c103 (h : F103 R v0 v1 w) : cl P 103 #[v0, v1] w R := cq ⟨[], [], [], [], []⟩ Tryz.func103 (by kernel_rfl) (by kernel_rfl) h
def F104 (R : Value → World → Prop) (v0 : Value) (w : World) : Prop :=
  px P (bin true .eql 181 v0 (.slice none 0 0)) w fun v4 w =>
  cnd v4 (
    R (.slice none 0 0) w) <|
  px P (Instr.buildSlice 181 0 #[]) w fun v5 w =>
  px P (Builtin.append_ #[181, 181] 181 #[v5, v0]) w fun v7 w =>
  R v7 w
theorem c104 (h : F104 R v0 w) : cl P 104 #[v0] w R := cq ⟨[], [], [], [], []⟩ Tryz.func104 (by kernel_rfl) (by kernel_rfl) h
def F105 (R : Value → World → Prop) (v0 v1 : Value) (w : World) : Prop :=
  cl P 101 #[v0] w fun v11 w =>
  px P (bin true .neq 32 v11 (.int .i64 0)) w fun v13 w =>
  cnd v13 (
    R (.tuple #[(.slice none 0 0), v11]) w) <|
  px P (bin true .lss 3 v1 (.int .i64 0)) w fun v16 w =>
  gd v16 false w (fun k => k v1 w) fun v18 w =>
  gd v16 false w (fun k => k v0 w) fun v19 w =>
  gd v16 false w (fun k => nc v19 w fun v w => k v w) fun v20 w =>
  gd v16 false w (fun k => px P (Instr.fieldAt 186 v20 0) w fun v w => k v w) fun v21 w =>
  gd v16 false w (fun k => px P (Instr.loadAt 181 v21) w fun v w => k v w) fun v22 w =>
  gd v16 false w (fun k => px P (Builtin.len_ #[181] 3 #[v22]) w fun v w => k v w) fun v23 w =>
  gd v16 false w (fun k => px P (bin false .geq 3 v18 v23) w fun v w => k v w) fun v24 w =>
  pk v16 (.bool true) v24 w fun v25 w =>
  cnd v25 (
    R (.tuple #[(.slice none 0 0), (.int .i64 1)]) w) <|
  nc v0 w fun v27 w =>
  px P (Instr.fieldAt 186 v27 0) w fun v28 w =>
  px P (Instr.loadAt 181 v28) w fun v29 w =>
  px P (Instr.indexAt 181 v29 v1) w fun v31 w =>
  px P (Instr.loadAt 202 v31) w fun v32 w =>
  px P (Instr.alloc 202 true (.tuple #[])) w fun v7 w =>
  pu P (Instr.storeAt 202 v7 v32) w fun w =>
  nc v0 w fun v35 w =>
  px P (Instr.fieldAt 186 v35 2) w fun v36 w =>
  px P (Instr.loadAt 172 v36) w fun v37 w =>
  px P (Instr.lookup 172 v37 v1 true) w fun v39 w =>
  px P (Instr.extract v39 0) w fun v40 w =>
  px P (Instr.extract v39 1) w fun v41 w =>
  cut (fun J1 =>
    cnd v41 (
      nc v0 w fun v44 w =>
      px P (Instr.fieldAt 186 v44 1) w fun v45 w =>
      px P (Instr.loadAt 182 v45) w fun v46 w =>
      px P (Instr.indexAt 182 v46 v40) w fun v48 w =>
      px P (Instr.fieldAt 278 v48 1) w fun v49 w =>
      px P (Instr.loadAt 202 v49) w fun v50 w =>
      pu P (Instr.storeAt 202 v7 v50) w fun w =>
      J1 [] w) (
      J1 [] w)) fun _ w =>
  px P (Instr.sliceAt 202 v7 none none none) w fun v51 w =>
  cl P 175 #[v51] w fun v52 w =>
  R (.tuple #[v52, (.int .i64 0)]) w
theorem c105 (h : F105 R v0 v1 w) : cl P 105 #[v0, v1] w R := cq ⟨[(9, [])], [], [], [], []⟩ Tryz.func105 (by kernel_rfl) (by kernel_rfl) h
def F142 (R : Value → World → Prop) (v0 v1 v2 : Value) (w : World) : Prop :=
  cl P 101 #[v0] w fun v9 w =>
  px P (bin true .neq 32 v9 (.int .i64 0)) w fun v11 w =>
  cnd v11 (
    R v9 w) <|
  px P (bin true .lss 3 v1 (.int .i64 0)) w fun v14 w =>
  gd v14 false w (fun k => k v1 w) fun v16 w =>
  gd v14 false w (fun k => k v0 w) fun v17 w =>
  gd v14 false w (fun k => nc v17 w fun v w => k v w) fun v18 w =>
  gd v14 false w (fun k => px P (Instr.fieldAt 186 v18 0) w fun v w => k v w) fun v19 w =>
  gd v14 false w (fun k => px P (Instr.loadAt 181 v19) w fun v w => k v w) fun v20 w =>
  gd v14 false w (fun k => px P (Builtin.len_ #[181] 3 #[v20]) w fun v w => k v w) fun v21 w =>
  gd v14 false w (fun k => px P (bin false .geq 3 v16 v21) w fun v w => k v w) fun v22 w =>
  pk v14 (.bool true) v22 w fun v23 w =>
  gd v23 false w (fun k => k v2 w) fun v25 w =>
  gd v23 false w (fun k => px P (Builtin.len_ #[43] 3 #[v25]) w fun v w => k v w) fun v26 w =>
  gd v23 false w (fun k => px P (bin true .neq 3 v26 (.int .i64 512)) w fun v w => k v w) fun v27 w =>
  pk v23 (.bool true) v27 w fun v28 w =>
  cnd v28 (
    R (.int .i64 1) w) <|
  dr w fun w =>
  ny v0 fun v30 =>
  py P (fun _ => True) (Instr.fieldAt 186 v30 2) fun v31 =>
  py P (Ext w) (Instr.loadAt 172 v31) fun v32 =>
  ny v0 fun v35 =>
  py P (fun _ => True) (Instr.fieldAt 186 v35 1) fun v36 =>
  py P (Ext w) (Instr.loadAt 182 v36) fun v37 =>
  py P (fun _ => True) (Builtin.len_ #[182] 3 #[v37]) fun v38 =>
  pu P (Instr.mapUpdate 172 v32 v1 v38) w fun w =>
  dr w fun w =>
  ny v0 fun v41 =>
  py P (fun _ => True) (Instr.fieldAt 186 v41 1) fun v42 =>
  py P (Ext w) (Instr.loadAt 182 v42) fun v43 =>
  py P (fun _ => True) (Instr.arrayAt 202 v2) fun v46 =>
  py P (Ext w) (Instr.loadAt 202 v46) fun v47 =>
  py P (fun _ => True) (Instr.build 278 #[(0, v1), (1, v47)]) fun v48 =>
  pg P (Instr.buildSlice 182 1 #[(0, v48)]) w fun v49 w =>
  px P (Builtin.append_ #[182, 182] 182 #[v43, v49]) w fun v50 w =>
  ny v0 fun v51 =>
  py P (fun _ => True) (Instr.fieldAt 186 v51 1) fun v52 =>
  pu P (Instr.storeAt 182 v52 v50) w fun w =>
  cl P 205 #[v0] w fun v54 w =>
  cnd v54 (
    nc v0 w fun v57 w =>
    px P (Instr.fieldAt 186 v57 6) w fun v58 w =>
    px P (Instr.loadAt 65 v58) w fun v59 w =>
    cl P 103 #[v0, v59] w fun _ w =>
    R (.int .i64 20) w) <|
  R (.int .i64 0) w
theorem c142 (h : F142 R v0 v1 v2 w) : cl P 142 #[v0, v1, v2] w R := cq ⟨[], [], [], [], []⟩ Tryz.func142 (by kernel_rfl) (by kernel_rfl) h
def F144 (R : Value → World → Prop) (v0 : Value) (w : World) : Prop :=
  cl P 101 #[v0] w fun v5 w =>
  px P (bin true .neq 32 v5 (.int .i64 0)) w fun v7 w =>
  cnd v7 (
    R v5 w) <|
  cl P 205 #[v0] w fun v10 w =>
  cnd v10 (
    nc v0 w fun v13 w =>
    px P (Instr.fieldAt 186 v13 6) w fun v14 w =>
    px P (Instr.loadAt 65 v14) w fun v15 w =>
    cl P 103 #[v0, v15] w fun _ w =>
    R (.int .i64 20) w) <|
  cl P 173 #[v0, (.func (.func 207) #[] #[])] w fun _ w =>
  R (.int .i64 0) w
theorem c144 (h : F144 R v0 w) : cl P 144 #[v0] w R := cq ⟨[], [], [], [], []⟩ Tryz.func144 (by kernel_rfl) (by kernel_rfl) h
def F173 (R : Value → World → Prop) (v0 v1 : Value) (w : World) : Prop :=
  nc v0 w fun v7 w =>
  px P (Instr.fieldAt 186 v7 1) w fun v8 w =>
  px P (Instr.loadAt 182 v8) w fun v9 w =>
  px P (Builtin.len_ #[182] 3 #[v9]) w fun v10 w =>
  lp [(.int .i64 0)] w fun again1 vs1 w =>
  px P (bin false .lss 3 (g0 vs1) v10) w fun v12 w =>
  cnd v12 (
    px P (Instr.indexAt 182 v9 (g0 vs1)) w fun v14 w =>
    px P (Instr.loadAt 278 v14) w fun v15 w =>
    px P (Instr.alloc 278 true (.tuple #[])) w fun v5 w =>
    pu P (Instr.storeAt 278 v5 v15) w fun w =>
    cv P v1 #[(g0 vs1)] w fun v18 w =>
    cut (fun J2 =>
      cnd v18 (
        dr w fun w =>
        ny v0 fun v20 =>
        py P (fun _ => True) (Instr.fieldAt 186 v20 0) fun v21 =>
        py P (Ext w) (Instr.loadAt 181 v21) fun v22 =>
        py P (fun _ => True) (Instr.fieldAt 278 v5 0) fun v23 =>
        py P (Ext w) (Instr.loadAt 3 v23) fun v24 =>
        py P (fun _ => True) (Instr.fieldAt 278 v5 1) fun v25 =>
        py P (Ext w) (Instr.loadAt 202 v25) fun v26 =>
        py P (fun _ => True) (Instr.indexAt 181 v22 v24) fun v27 =>
        pu P (Instr.storeAt 202 v27 v26) w fun w =>
        J2 [] w) (
        J2 [] w)) fun _ w =>
    px P (bin true .add 3 (g0 vs1) (.int .i64 1)) w fun v28 w =>
    again1 [v28] w) (
    px P (Instr.makeMap 172 none) w fun v31 w =>
    nc v0 w fun v32 w =>
    px P (Instr.fieldAt 186 v32 1) w fun v33 w =>
    pu P (Instr.storeAt 182 v33 (.slice none 0 0)) w fun w =>
    nc v0 w fun v34 w =>
    px P (Instr.fieldAt 186 v34 2) w fun v35 w =>
    pu P (Instr.storeAt 172 v35 v31) w fun w =>
    R (.tuple #[]) w)
theorem c173 (h : F173 R v0 v1 w) : cl P 173 #[v0, v1] w R := cq ⟨[(4, [])], [], [(1, [11])], [], []⟩ Tryz.func173 (by kernel_rfl) (by kernel_rfl) h
def F174 (R : Value → World → Prop) (v0 v1 : Value) (w : World) : Prop :=
  px P (Instr.loadAt 65 v1) w fun v5 w =>
  px P (Builtin.len_ #[65] 3 #[v5]) w fun v6 w =>
  px P (bin false .lss 3 v0 v6) w fun v7 w =>
  gd v7 true w (fun k => px P (Instr.loadAt 65 v1) w fun v w => k v w) fun v9 w =>
  gd v7 true w (fun k => k v0 w) fun v10 w =>
  gd v7 true w (fun k => px P (Instr.indexAt 65 v9 v10) w fun v w => k v w) fun v11 w =>
  gd v7 true w (fun k => px P (Instr.loadAt 4 v11) w fun v w => k v w) fun v12 w =>
  pk v7 v12 (.bool false) w fun v13 w =>
  R v13 w
theorem c174 (h : F174 R v0 v1 w) : cl P 174 #[v0, v1] w R := cq ⟨[], [], [], [], []⟩ Tryz.func174 (by kernel_rfl) (by kernel_rfl) h
def F205 (R : Value → World → Prop) (v0 : Value) (w : World) : Prop :=
  nc v0 w fun v4 w =>
  px P (Instr.fieldAt 186 v4 5) w fun v5 w =>
  px P (Instr.loadAt 184 v5) w fun v6 w =>
  px P (Instr.build 184 #[(0, (.bool true))]) w fun v7 w =>
  px P (bin false .eql 184 v6 v7) w fun v8 w =>
  cnd v8 (
    R (.bool true) w) <|
  nc v0 w fun v10 w =>
  px P (Instr.fieldAt 186 v10 5) w fun v11 w =>
  px P (Instr.fieldAt 184 v11 1) w fun v12 w =>
  px P (Instr.loadAt 3 v12) w fun v13 w =>
  px P (bin true .sub 3 v13 (.int .i64 1)) w fun v14 w =>
  nc v0 w fun v15 w =>
  px P (Instr.fieldAt 186 v15 5) w fun v16 w =>
  px P (Instr.fieldAt 184 v16 1) w fun v17 w =>
  pu P (Instr.storeAt 3 v17 v14) w fun w =>
  nc v0 w fun v19 w =>
  px P (Instr.fieldAt 186 v19 3) w fun v20 w =>
  px P (Instr.loadAt 3 v20) w fun v21 w =>
  px P (bin true .add 3 v21 (.int .i64 1)) w fun v22 w =>
  nc v0 w fun v23 w =>
  px P (Instr.fieldAt 186 v23 3) w fun v24 w =>
  pu P (Instr.storeAt 3 v24 v22) w fun w =>
  R (.bool false) w
theorem c205 (h : F205 R v0 w) : cl P 205 #[v0] w R := cq ⟨[], [], [], [], []⟩ Tryz.func205 (by kernel_rfl) (by kernel_rfl) h
def F207 (R : Value → World → Prop) (_v0 : Value) (w : World) : Prop :=
  R (.bool true) w
theorem c207 (h : F207 R v0 w) : cl P 207 #[v0] w R := cq ⟨[], [], [], [], []⟩ Tryz.func207 (by kernel_rfl) (by kernel_rfl) h
def F175 (R : Value → World → Prop) (v0 : Value) (w : World) : Prop :=
  px P (bin true .eql 43 v0 (.slice none 0 0)) w fun v4 w =>
  cnd v4 (
    R (.slice none 0 0) w) <|
  px P (Instr.buildSlice 43 0 #[]) w fun v5 w =>
  px P (Builtin.append_ #[43, 43] 43 #[v5, v0]) w fun v7 w =>
  R v7 w
theorem c175 (h : F175 R v0 w) : cl P 175 #[v0] w R := cq ⟨[], [], [], [], []⟩ Tryz.func175 (by kernel_rfl) (by kernel_rfl) h
def F141 (R : Value → World → Prop) (v0 v1 : Value) (w : World) : Prop :=
  px P (convert 43 9 v0) w fun v6 w =>
  px P (convert 43 9 v1) w fun v8 w =>
  px P (bin false .eql 9 v6 v8) w fun v9 w =>
  R v9 w
theorem c141 (h : F141 R v0 v1 w) : cl P 141 #[v0, v1] w R := cq ⟨[], [], [], [], []⟩ Tryz.func141 (by kernel_rfl) (by kernel_rfl) h
end Go.Proofs.YtomggfibpbaodaaGreatDoor
