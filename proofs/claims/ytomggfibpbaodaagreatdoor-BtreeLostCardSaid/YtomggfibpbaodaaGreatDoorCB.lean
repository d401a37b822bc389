/- What calls of the program's functions ask, step by step. -/
import Derived.Test.YtomggfibpbaodaaGreatDoorCA
set_option maxRecDepth 100000
namespace Go.Proofs.YtomggfibpbaodaaGreatDoor
open Go.V
variable {R : Value → World → Prop} {v0 v1 v2 v3 v4 v5 v6 v7 v8 v9 v10 v11 : Value} {w : World}
def F83 (R : Value → World → Prop) (v0 : Value) (w : World) : Prop :=
  px P (bin true .eql 153 v0 (.slice none 0 0)) w fun v4 w =>
  cnd v4 (
    R (.slice none 0 0) w) <|
  px P (Instr.buildSlice 153 0 #[]) w fun v5 w =>
  px P (Builtin.append_ #[153, 153] 153 #[v5, v0]) w fun v7 w =>
  R v7 w
theorem c83 (h : F83 R v0 w) : cl P 83 #[v0] w R := cq ⟨[], [], [], [], []⟩ Tryz.func83 (by kernel_rfl) (by kernel_rfl) h
def F84 (R : Value → World → Prop) (v0 v1 v2 : Value) (w : World) : Prop :=
  px P (Instr.sliceAt 153 v0 (some v1) none none) w fun _ w =>
  px P (Builtin.len_ #[153] 3 #[v2]) w fun v14 w =>
  px P (bin true .eql 3 v14 (.int .i64 0)) w fun v16 w =>
  cnd v16 (
    R v0 w) <|
  px P (Builtin.len_ #[153] 3 #[v0]) w fun v19 w =>
  px P (bin false .eql 3 v1 v19) w fun v22 w =>
  cnd v22 (
    px P (Builtin.append_ #[153, 153] 153 #[v0, v2]) w fun v25 w =>
    R v25 w) <|
  px P (bin false .add 3 v19 v14) w fun v28 w =>
  px P (Builtin.cap_ #[153] 3 #[v0]) w fun v30 w =>
  px P (bin false .gtr 3 v28 v30) w fun v31 w =>
  cnd v31 (
    px P (Instr.sliceAt 153 v0 none (some v1) none) w fun v34 w =>
    px P (bin false .add 3 v19 v14) w fun v37 w =>
    px P (bin false .sub 3 v37 v1) w fun v39 w =>
    px P (Builtin.append_ #[153, 3] 153 #[v34, v39]) w fun v40 w =>
    px P (Instr.sliceAt 153 v40 (some v1) none none) w fun v43 w =>
    px P (Builtin.copy_ #[153, 153] 3 #[v43, v2]) w fun _ w =>
    dr w fun w =>
    py P (fun _ => True) (bin false .add 3 v1 v14) fun v49 =>
    py P (fun _ => True) (Instr.sliceAt 153 v40 (some v49) none none) fun v50 =>
    py P (fun _ => True) (Instr.sliceAt 153 v0 (some v1) none none) fun v53 =>
    px P (Builtin.copy_ #[153, 153] 3 #[v50, v53]) w fun _ w =>
    R v40 w) <|
  px P (bin false .add 3 v19 v14) w fun v59 w =>
  px P (Instr.sliceAt 153 v0 none (some v59) none) w fun v60 w =>
  px P (bin false .add 3 v1 v14) w fun v65 w =>
  px P (Instr.sliceAt 153 v60 (some v65) none none) w fun v66 w =>
  cl P 155 #[v2, v66] w fun v67 w =>
  px P (Op.unary .not v67) w fun v68 w =>
  cnd v68 (
    dr w fun w =>
    py P (fun _ => True) (bin false .add 3 v1 v14) fun v72 =>
    py P (fun _ => True) (Instr.sliceAt 153 v60 (some v72) none none) fun v73 =>
    py P (fun _ => True) (Instr.sliceAt 153 v60 (some v1) none none) fun v76 =>
    px P (Builtin.copy_ #[153, 153] 3 #[v73, v76]) w fun _ w =>
    px P (Instr.sliceAt 153 v60 (some v1) none none) w fun v80 w =>
    px P (Builtin.copy_ #[153, 153] 3 #[v80, v2]) w fun _ w =>
    R v60 w) <|
  px P (Instr.sliceAt 153 v60 (some v19) none none) w fun v86 w =>
  px P (Builtin.copy_ #[153, 153] 3 #[v86, v2]) w fun _ w =>
  px P (Instr.sliceAt 153 v60 (some v1) none none) w fun v91 w =>
  cl P 156 #[v91, v14] w fun _ w =>
  R v60 w
theorem c84 (h : F84 R v0 v1 v2 w) : cl P 84 #[v0, v1, v2] w R := cq ⟨[], [], [], [], []⟩ Tryz.func84 (by kernel_rfl) (by kernel_rfl) h
def F89 (R : Value → World → Prop) (v0 v1 v2 : Value) (w : World) : Prop :=
  px P (Builtin.len_ #[153] 3 #[v0]) w fun v12 w =>
  px P (Instr.sliceAt 153 v0 (some v1) (some v2) (some v12)) w fun _ w =>
  px P (bin false .eql 3 v1 v2) w fun v16 w =>
  cnd v16 (
    R v0 w) <|
  px P (Builtin.len_ #[153] 3 #[v0]) w fun v19 w =>
  dr w fun w =>
  py P (fun _ => True) (Instr.sliceAt 153 v0 none (some v1) none) fun v22 =>
  py P (fun _ => True) (Instr.sliceAt 153 v0 (some v2) none none) fun v25 =>
  px P (Builtin.append_ #[153, 153] 153 #[v22, v25]) w fun v26 w =>
  px P (Builtin.len_ #[153] 3 #[v26]) w fun v29 w =>
  px P (Instr.sliceAt 153 v26 (some v29) (some v19) none) w fun v31 w =>
  px P (Builtin.clear_ #[153] 0 #[v31]) w fun _ w =>
  R v26 w
theorem c89 (h : F89 R v0 v1 v2 w) : cl P 89 #[v0, v1, v2] w R := cq ⟨[], [], [], [], []⟩ Tryz.func89 (by kernel_rfl) (by kernel_rfl) h
def F159 (R : Value → World → Prop) (v0 : Value) (w : World) : Prop :=
  px P (bin true .eql 48 v0 (.slice none 0 0)) w fun v4 w =>
  cnd v4 (
    R (.slice none 0 0) w) <|
  px P (Instr.buildSlice 48 0 #[]) w fun v5 w =>
  px P (Builtin.append_ #[48, 48] 48 #[v5, v0]) w fun v7 w =>
  R v7 w
theorem c159 (h : F159 R v0 w) : cl P 159 #[v0] w R := cq ⟨[], [], [], [], []⟩ Tryz.func159 (by kernel_rfl) (by kernel_rfl) h
def F161 (R : Value → World → Prop) (v0 v1 v2 : Value) (w : World) : Prop :=
  px P (Builtin.len_ #[48] 3 #[v0]) w fun v12 w =>
  px P (Instr.sliceAt 48 v0 (some v1) (some v2) (some v12)) w fun _ w =>
  px P (bin false .eql 3 v1 v2) w fun v16 w =>
  cnd v16 (
    R v0 w) <|
  px P (Builtin.len_ #[48] 3 #[v0]) w fun v19 w =>
  dr w fun w =>
  py P (fun _ => True) (Instr.sliceAt 48 v0 none (some v1) none) fun v22 =>
  py P (fun _ => True) (Instr.sliceAt 48 v0 (some v2) none none) fun v25 =>
  px P (Builtin.append_ #[48, 48] 48 #[v22, v25]) w fun v26 w =>
  px P (Builtin.len_ #[48] 3 #[v26]) w fun v29 w =>
  px P (Instr.sliceAt 48 v26 (some v29) (some v19) none) w fun v31 w =>
  px P (Builtin.clear_ #[48] 0 #[v31]) w fun _ w =>
  R v26 w
theorem c161 (h : F161 R v0 v1 v2 w) : cl P 161 #[v0, v1, v2] w R := cq ⟨[], [], [], [], []⟩ Tryz.func161 (by kernel_rfl) (by kernel_rfl) h
def F210 (R : Value → World → Prop) (v0 v1 : Value) (w : World) : Prop :=
  px P (Builtin.len_ #[153] 3 #[v0]) w fun v7 w =>
  lp [(.int .i64 0)] w fun again1 vs1 w =>
  px P (bin false .lss 3 (g0 vs1) v7) w fun v9 w =>
  cnd v9 (
    px P (Instr.indexAt 153 v0 (g0 vs1)) w fun v14 w =>
    px P (Instr.loadAt 159 v14) w fun v15 w =>
    cv P v1 #[v15] w fun v16 w =>
    cnd v16 (
      R (g0 vs1) w) <|
    px P (bin true .add 3 (g0 vs1) (.int .i64 1)) w fun v18 w =>
    again1 [v18] w) (
    R (.int .i64 (-1)) w)
theorem c210 (h : F210 R v0 v1 w) : cl P 210 #[v0, v1] w R := cq ⟨[], [], [(2, [8])], [], []⟩ Tryz.func210 (by kernel_rfl) (by kernel_rfl) h
def F215 (R : Value → World → Prop) (v0 v1 v2 : Value) (w : World) : Prop :=
  px P (Instr.sliceAt 48 v0 (some v1) none none) w fun _ w =>
  px P (Builtin.len_ #[48] 3 #[v2]) w fun v14 w =>
  px P (bin true .eql 3 v14 (.int .i64 0)) w fun v16 w =>
  cnd v16 (
    R v0 w) <|
  px P (Builtin.len_ #[48] 3 #[v0]) w fun v19 w =>
  px P (bin false .eql 3 v1 v19) w fun v22 w =>
  cnd v22 (
    px P (Builtin.append_ #[48, 48] 48 #[v0, v2]) w fun v25 w =>
    R v25 w) <|
  px P (bin false .add 3 v19 v14) w fun v28 w =>
  px P (Builtin.cap_ #[48] 3 #[v0]) w fun v30 w =>
  px P (bin false .gtr 3 v28 v30) w fun v31 w =>
  cnd v31 (
    px P (Instr.sliceAt 48 v0 none (some v1) none) w fun v34 w =>
    px P (bin false .add 3 v19 v14) w fun v37 w =>
    px P (bin false .sub 3 v37 v1) w fun v39 w =>
    px P (Builtin.append_ #[48, 3] 48 #[v34, v39]) w fun v40 w =>
    px P (Instr.sliceAt 48 v40 (some v1) none none) w fun v43 w =>
    px P (Builtin.copy_ #[48, 48] 3 #[v43, v2]) w fun _ w =>
    dr w fun w =>
    py P (fun _ => True) (bin false .add 3 v1 v14) fun v49 =>
    py P (fun _ => True) (Instr.sliceAt 48 v40 (some v49) none none) fun v50 =>
    py P (fun _ => True) (Instr.sliceAt 48 v0 (some v1) none none) fun v53 =>
    px P (Builtin.copy_ #[48, 48] 3 #[v50, v53]) w fun _ w =>
    R v40 w) <|
  px P (bin false .add 3 v19 v14) w fun v59 w =>
  px P (Instr.sliceAt 48 v0 none (some v59) none) w fun v60 w =>
  px P (bin false .add 3 v1 v14) w fun v65 w =>
  px P (Instr.sliceAt 48 v60 (some v65) none none) w fun v66 w =>
  cl P 261 #[v2, v66] w fun v67 w =>
  px P (Op.unary .not v67) w fun v68 w =>
  cnd v68 (
    dr w fun w =>
    py P (fun _ => True) (bin false .add 3 v1 v14) fun v72 =>
    py P (fun _ => True) (Instr.sliceAt 48 v60 (some v72) none none) fun v73 =>
    py P (fun _ => True) (Instr.sliceAt 48 v60 (some v1) none none) fun v76 =>
    px P (Builtin.copy_ #[48, 48] 3 #[v73, v76]) w fun _ w =>
    px P (Instr.sliceAt 48 v60 (some v1) none none) w fun v80 w =>
    px P (Builtin.copy_ #[48, 48] 3 #[v80, v2]) w fun _ w =>
    R v60 w) <|
  px P (Instr.sliceAt 48 v60 (some v19) none none) w fun v86 w =>
  px P (Builtin.copy_ #[48, 48] 3 #[v86, v2]) w fun _ w =>
  px P (Instr.sliceAt 48 v60 (some v1) none none) w fun v91 w =>
  cl P 262 #[v91, v14] w fun _ w =>
  R v60 w
theorem c215 (h : F215 R v0 v1 v2 w) : cl P 215 #[v0, v1, v2] w R := cq ⟨[], [], [], [], []⟩ Tryz.func215 (by kernel_rfl) (by kernel_rfl) h
def F218 (R : Value → World → Prop) (v0 : Value) (w : World) : Prop :=
  px P (Builtin.len_ #[370] 3 #[v0]) w fun v10 w =>
  lp [(.int .i64 0), (.int .i64 0)] w fun again1 vs1 w =>
  px P (bin false .lss 3 (g1 vs1) v10) w fun v12 w =>
  cnd v12 (
    px P (Instr.indexAt 370 v0 (g1 vs1)) w fun v13 w =>
    px P (Instr.loadAt 153 v13) w fun v14 w =>
    px P (Builtin.len_ #[153] 3 #[v14]) w fun v17 w =>
    px P (bin false .add 3 (g0 vs1) v17) w fun v18 w =>
    px P (bin true .lss 3 v18 (.int .i64 0)) w fun v20 w =>
    cut (fun J2 =>
      cnd v20 (
        px P (Instr.makeInterface 9 (.string ⟨#[108, 101, 110, 32, 111, 117, 116, 32, 111, 102, 32, 114, 97, 110, 103, 101]⟩)) w fun _ _ =>
        False) (
        J2 [] w)) fun _ w =>
    px P (bin true .add 3 (g1 vs1) (.int .i64 1)) w fun v22 w =>
    again1 [v18, v22] w) (
    cl P 268 #[(.slice none 0 0), (g0 vs1)] w fun v24 w =>
    px P (Builtin.len_ #[370] 3 #[v0]) w fun v26 w =>
    lp [v24, (.int .i64 0)] w fun again3 vs3 w =>
    px P (bin false .lss 3 (g1 vs3) v26) w fun v28 w =>
    cnd v28 (
      px P (Instr.indexAt 370 v0 (g1 vs3)) w fun v29 w =>
      px P (Instr.loadAt 153 v29) w fun v30 w =>
      px P (Builtin.append_ #[153, 153] 153 #[(g0 vs3), v30]) w fun v33 w =>
      px P (bin true .add 3 (g1 vs3) (.int .i64 1)) w fun v34 w =>
      again3 [v33, v34] w) (
      R (g0 vs3) w))
theorem c218 (h : F218 R v0 w) : cl P 218 #[v0] w R := cq ⟨[(7, [])], [], [(3, [3, 11]), (11, [6, 27])], [], []⟩ Tryz.func218 (by kernel_rfl) (by kernel_rfl) h
def F219 (R : Value → World → Prop) (v0 : Value) (w : World) : Prop :=
  px P (Builtin.len_ #[372] 3 #[v0]) w fun v10 w =>
  lp [(.int .i64 0), (.int .i64 0)] w fun again1 vs1 w =>
  px P (bin false .lss 3 (g1 vs1) v10) w fun v12 w =>
  cnd v12 (
    px P (Instr.indexAt 372 v0 (g1 vs1)) w fun v13 w =>
    px P (Instr.loadAt 48 v13) w fun v14 w =>
    px P (Builtin.len_ #[48] 3 #[v14]) w fun v17 w =>
    px P (bin false .add 3 (g0 vs1) v17) w fun v18 w =>
    px P (bin true .lss 3 v18 (.int .i64 0)) w fun v20 w =>
    cut (fun J2 =>
      cnd v20 (
        px P (Instr.makeInterface 9 (.string ⟨#[108, 101, 110, 32, 111, 117, 116, 32, 111, 102, 32, 114, 97, 110, 103, 101]⟩)) w fun _ _ =>
        False) (
        J2 [] w)) fun _ w =>
    px P (bin true .add 3 (g1 vs1) (.int .i64 1)) w fun v22 w =>
    again1 [v18, v22] w) (
    cl P 269 #[(.slice none 0 0), (g0 vs1)] w fun v24 w =>
    px P (Builtin.len_ #[372] 3 #[v0]) w fun v26 w =>
    lp [v24, (.int .i64 0)] w fun again3 vs3 w =>
    px P (bin false .lss 3 (g1 vs3) v26) w fun v28 w =>
    cnd v28 (
      px P (Instr.indexAt 372 v0 (g1 vs3)) w fun v29 w =>
      px P (Instr.loadAt 48 v29) w fun v30 w =>
      px P (Builtin.append_ #[48, 48] 48 #[(g0 vs3), v30]) w fun v33 w =>
      px P (bin true .add 3 (g1 vs3) (.int .i64 1)) w fun v34 w =>
      again3 [v33, v34] w) (
      R (g0 vs3) w))
theorem c219 (h : F219 R v0 w) : cl P 219 #[v0] w R := cq ⟨[(7, [])], [], [(3, [3, 11]), (11, [6, 27])], [], []⟩ Tryz.func219 (by kernel_rfl) (by kernel_rfl) h
def F258 (R : Value → World → Prop) (v0 v1 : Value) (w : World) : Prop :=
  cl P 284 #[v0, v1] w fun v7 w =>
  px P (bin true .geq 3 v7 (.int .i64 0)) w fun v8 w =>
  R v8 w
theorem c258 (h : F258 R v0 v1 w) : cl P 258 #[v0, v1] w R := cq ⟨[], [], [], [], []⟩ Tryz.func258 (by kernel_rfl) (by kernel_rfl) h
def F264 (R : Value → World → Prop) (v0 v1 : Value) (w : World) : Prop :=
  cl P 286 #[v0, v1] w fun v7 w =>
  px P (bin true .geq 3 v7 (.int .i64 0)) w fun v8 w =>
  R v8 w
theorem c264 (h : F264 R v0 v1 w) : cl P 264 #[v0, v1] w R := cq ⟨[], [], [], [], []⟩ Tryz.func264 (by kernel_rfl) (by kernel_rfl) h
def F268 (R : Value → World → Prop) (v0 v1 : Value) (w : World) : Prop :=
  px P (bin true .lss 3 v1 (.int .i64 0)) w fun v6 w =>
  cut (fun J1 =>
    cnd v6 (
      px P (Instr.makeInterface 9 (.string ⟨#[99, 97, 110, 110, 111, 116, 32, 98, 101, 32, 110, 101, 103, 97, 116, 105, 118, 101]⟩)) w fun _ _ =>
      False) (
      J1 [] w)) fun _ w =>
  px P (Builtin.cap_ #[153] 3 #[v0]) w fun v10 w =>
  px P (Builtin.len_ #[153] 3 #[v0]) w fun v12 w =>
  px P (bin false .sub 3 v10 v12) w fun v13 w =>
  px P (bin false .sub 3 v1 v13) w fun v14 w =>
  px P (bin true .gtr 3 v14 (.int .i64 0)) w fun v16 w =>
  cut (fun J2 =>
    cnd v16 (
      px P (Builtin.cap_ #[153] 3 #[v0]) w fun v19 w =>
      px P (Instr.sliceAt 153 v0 none (some v19) none) w fun v20 w =>
      px P (Builtin.append_ #[153, 3] 153 #[v20, v14]) w fun v22 w =>
      px P (Builtin.len_ #[153] 3 #[v0]) w fun v24 w =>
      px P (Instr.sliceAt 153 v22 none (some v24) none) w fun v25 w =>
      J2 [v25] w) (
      J2 [v0] w)) fun vs2 w =>
  R (g0 vs2) w
theorem c268 (h : F268 R v0 v1 w) : cl P 268 #[v0, v1] w R := cq ⟨[(2, []), (5, [0])], [], [], [], []⟩ Tryz.func268 (by kernel_rfl) (by kernel_rfl) h
def F269 (R : Value → World → Prop) (v0 v1 : Value) (w : World) : Prop :=
  px P (bin true .lss 3 v1 (.int .i64 0)) w fun v6 w =>
  cut (fun J1 =>
    cnd v6 (
      px P (Instr.makeInterface 9 (.string ⟨#[99, 97, 110, 110, 111, 116, 32, 98, 101, 32, 110, 101, 103, 97, 116, 105, 118, 101]⟩)) w fun _ _ =>
      False) (
      J1 [] w)) fun _ w =>
  px P (Builtin.cap_ #[48] 3 #[v0]) w fun v10 w =>
  px P (Builtin.len_ #[48] 3 #[v0]) w fun v12 w =>
  px P (bin false .sub 3 v10 v12) w fun v13 w =>
  px P (bin false .sub 3 v1 v13) w fun v14 w =>
  px P (bin true .gtr 3 v14 (.int .i64 0)) w fun v16 w =>
  cut (fun J2 =>
    cnd v16 (
      px P (Builtin.cap_ #[48] 3 #[v0]) w fun v19 w =>
      px P (Instr.sliceAt 48 v0 none (some v19) none) w fun v20 w =>
      px P (Builtin.append_ #[48, 3] 48 #[v20, v14]) w fun v22 w =>
      px P (Builtin.len_ #[48] 3 #[v0]) w fun v24 w =>
      px P (Instr.sliceAt 48 v22 none (some v24) none) w fun v25 w =>
      J2 [v25] w) (
      J2 [v0] w)) fun vs2 w =>
  R (g0 vs2) w
theorem c269 (h : F269 R v0 v1 w) : cl P 269 #[v0, v1] w R := cq ⟨[(2, []), (5, [0])], [], [], [], []⟩ Tryz.func269 (by kernel_rfl) (by kernel_rfl) h
def F284 (R : Value → World → Prop) (v0 v1 : Value) (w : World) : Prop :=
  px P (Builtin.len_ #[43] 3 #[v0]) w fun v7 w =>
  lp [(.int .i64 0)] w fun again1 vs1 w =>
  px P (bin false .lss 3 (g0 vs1) v7) w fun v9 w =>
  cnd v9 (
    px P (Instr.indexAt 43 v0 (g0 vs1)) w fun v14 w =>
    px P (Instr.loadAt 5 v14) w fun v15 w =>
    cv P v1 #[v15] w fun v16 w =>
    cnd v16 (
      R (g0 vs1) w) <|
    px P (bin true .add 3 (g0 vs1) (.int .i64 1)) w fun v18 w =>
    again1 [v18] w) (
    R (.int .i64 (-1)) w)
theorem c284 (h : F284 R v0 v1 w) : cl P 284 #[v0, v1] w R := cq ⟨[], [], [(2, [8])], [], []⟩ Tryz.func284 (by kernel_rfl) (by kernel_rfl) h
def F286 (R : Value → World → Prop) (v0 v1 : Value) (w : World) : Prop :=
  px P (Builtin.len_ #[48] 3 #[v0]) w fun v7 w =>
  lp [(.int .i64 0)] w fun again1 vs1 w =>
  px P (bin false .lss 3 (g0 vs1) v7) w fun v9 w =>
  cnd v9 (
    px P (Instr.indexAt 48 v0 (g0 vs1)) w fun v14 w =>
    px P (Instr.loadAt 3 v14) w fun v15 w =>
    cv P v1 #[v15] w fun v16 w =>
    cnd v16 (
      R (g0 vs1) w) <|
    px P (bin true .add 3 (g0 vs1) (.int .i64 1)) w fun v18 w =>
    again1 [v18] w) (
    R (.int .i64 (-1)) w)
theorem c286 (h : F286 R v0 v1 w) : cl P 286 #[v0, v1] w R := cq ⟨[], [], [(2, [8])], [], []⟩ Tryz.func286 (by kernel_rfl) (by kernel_rfl) h
end Go.Proofs.YtomggfibpbaodaaGreatDoor
