/- What calls of the program's functions ask, step by step. -/
import Derived.Test.YtomggfibpbaodaaGreatDoorCA
set_option maxRecDepth 100000
namespace Go.Proofs.YtomggfibpbaodaaGreatDoor
open Go.V
variable {R : Value → World → Prop} {v0 v1 v2 v3 v4 v5 v6 v7 v8 v9 v10 v11 : Value} {w : World}
def F15 (R : Value → World → Prop) (w : World) : Prop :=
  cl P 17 #[(.int .i64 2000)] w fun v14 w =>
  px P (Instr.extract v14 0) w fun v15 w =>
  px P (Instr.extract v14 1) w fun _ w =>
  px P (Instr.extract v14 2) w fun v17 w =>
  px P (bin true .eql 27 v17 (.pointer none)) w fun v19 w =>
  gd v19 false w (fun k => k v17 w) fun v21 w =>
  gd v19 false w (fun k => cl P 18 #[v21, (.string ⟨#[98]⟩), (.string ⟨#[49]⟩)] w fun v w => k v w) fun v22 w =>
  gd v19 false w (fun k => px P (bin true .neq 32 v22 (.int .i64 0)) w fun v w => k v w) fun v23 w =>
  pk v19 (.bool true) v23 w fun v24 w =>
  gd v24 false w (fun k => k v17 w) fun v26 w =>
  gd v24 false w (fun k => px P (Instr.makeSlice 43 (.int .i64 1000) (.int .i64 1000)) w fun v w => k v w) fun v27 w =>
  gd v24 false w (fun k => px P (convert 43 9 v27) w fun v w => k v w) fun v28 w =>
  gd v24 false w (fun k => cl P 18 #[v26, (.string ⟨#[97]⟩), v28] w fun v w => k v w) fun v29 w =>
  gd v24 false w (fun k => px P (bin true .neq 32 v29 (.int .i64 0)) w fun v w => k v w) fun v30 w =>
  pk v24 (.bool true) v30 w fun v31 w =>
  gd v31 false w (fun k => k v17 w) fun v33 w =>
  gd v31 false w (fun k => cl P 25 #[v33] w fun v w => k v w) fun v34 w =>
  gd v31 false w (fun k => px P (bin true .neq 32 v34 (.int .i64 0)) w fun v w => k v w) fun v35 w =>
  pk v31 (.bool true) v35 w fun v36 w =>
  gd v36 false w (fun k => k v17 w) fun v38 w =>
  gd v36 false w (fun k => cl P 24 #[v38] w fun v w => k v w) fun v39 w =>
  gd v36 false w (fun k => px P (bin true .neq 3 v39 (.int .i64 1494)) w fun v w => k v w) fun v40 w =>
  pk v36 (.bool true) v40 w fun v41 w =>
  cnd v41 (
    R (.bool false) w) <|
  cl P 38 #[v15] w fun v44 w =>
  px P (Instr.extract v44 0) w fun v45 w =>
  px P (Instr.extract v44 1) w fun v46 w =>
  px P (bin true .neq 32 v46 (.int .i64 0)) w fun v48 w =>
  cnd v48 (
    R (.bool false) w) <|
  cl P 26 #[v45] w fun v50 w =>
  cl P 20 #[v50, (.string ⟨#[97]⟩)] w fun v53 w =>
  px P (Instr.extract v53 0) w fun v54 w =>
  px P (Instr.extract v53 1) w fun v55 w =>
  px P (Instr.extract v53 2) w fun v56 w =>
  cl P 21 #[v50, (.string ⟨#[97]⟩), (.string ⟨#[98]⟩)] w fun v59 w =>
  px P (Instr.extract v59 0) w fun v60 w =>
  px P (Instr.extract v59 1) w fun v61 w =>
  cl P 22 #[v50, (.string ⟨#[97]⟩)] w fun v64 w =>
  px P (Instr.extract v64 0) w fun v65 w =>
  px P (Instr.extract v64 1) w fun v66 w =>
  px P (bin true .eql 32 v56 (.int .i64 0)) w fun v68 w =>
  gd v68 true w (fun k => k v55 w) fun v70 w =>
  pk v68 v70 (.bool false) w fun v71 w =>
  gd v71 true w (fun k => k v54 w) fun v73 w =>
  gd v71 true w (fun k => px P (Builtin.len_ #[9] 3 #[v73]) w fun v w => k v w) fun v74 w =>
  gd v71 true w (fun k => px P (bin true .eql 3 v74 (.int .i64 1000)) w fun v w => k v w) fun v75 w =>
  pk v71 v75 (.bool false) w fun v76 w =>
  gd v76 true w (fun k => k v61 w) fun v78 w =>
  gd v76 true w (fun k => px P (bin true .eql 32 v78 (.int .i64 0)) w fun v w => k v w) fun v79 w =>
  pk v76 v79 (.bool false) w fun v80 w =>
  gd v80 true w (fun k => k v60 w) fun v82 w =>
  gd v80 true w (fun k => px P (Builtin.len_ #[37] 3 #[v82]) w fun v w => k v w) fun v83 w =>
  gd v80 true w (fun k => px P (bin true .eql 3 v83 (.int .i64 1)) w fun v w => k v w) fun v84 w =>
  pk v80 v84 (.bool false) w fun v85 w =>
  gd v85 true w (fun k => k v65 w) fun v87 w =>
  pk v85 v87 (.bool false) w fun v88 w =>
  gd v88 true w (fun k => k v66 w) fun v90 w =>
  gd v88 true w (fun k => px P (bin true .eql 32 v90 (.int .i64 0)) w fun v w => k v w) fun v91 w =>
  pk v88 v91 (.bool false) w fun v92 w =>
  gd v92 true w (fun k => k v50 w) fun v94 w =>
  gd v92 true w (fun k => cl P 25 #[v94] w fun v w => k v w) fun v95 w =>
  gd v92 true w (fun k => px P (bin true .eql 32 v95 (.int .i64 0)) w fun v w => k v w) fun v96 w =>
  pk v92 v96 (.bool false) w fun v97 w =>
  gd v97 true w (fun k => k v50 w) fun v99 w =>
  gd v97 true w (fun k => cl P 24 #[v99] w fun v w => k v w) fun v100 w =>
  gd v97 true w (fun k => px P (bin true .eql 3 v100 (.int .i64 1497)) w fun v w => k v w) fun v101 w =>
  pk v97 v101 (.bool false) w fun v102 w =>
  R v102 w
theorem c15 (h : F15 R w) : cl P 15 #[] w R := cq ⟨[], [], [], [], []⟩ Tryz.func15 (by kernel_rfl) (by kernel_rfl) h
def F16 (R : Value → World → Prop) (v0 : Value) (w : World) : Prop :=
  lp [(.int .i64 0), (.int .i64 0)] w fun again1 vs1 w =>
  px P (Builtin.len_ #[22] 3 #[v0]) w fun v7 w =>
  px P (bin false .lss 3 (g1 vs1) v7) w fun v8 w =>
  cnd v8 (
    dr w fun w =>
    py P (fun _ => True) (Instr.indexAt 22 v0 (g1 vs1)) fun v14 =>
    py P (fun _ => True) (Instr.fieldAt 31 v14 1) fun v15 =>
    py P (Ext w) (Instr.loadAt 9 v15) fun v16 =>
    py P (fun _ => True) (Builtin.len_ #[9] 3 #[v16]) fun v17 =>
    py P (fun _ => True) (bin false .add 3 (g0 vs1) v17) fun v18 =>
    py P (fun _ => True) (Instr.indexAt 22 v0 (g1 vs1)) fun v21 =>
    py P (fun _ => True) (Instr.fieldAt 31 v21 2) fun v22 =>
    py P (Ext w) (Instr.loadAt 9 v22) fun v23 =>
    py P (fun _ => True) (Builtin.len_ #[9] 3 #[v23]) fun v24 =>
    py P (fun _ => True) (bin false .add 3 v18 v24) fun v25 =>
    px P (bin true .add 3 (g1 vs1) (.int .i64 1)) w fun v10 w =>
    again1 [v25, v10] w) (
    px P (Builtin.len_ #[22] 3 #[v0]) w fun v27 w =>
    px P (bin true .gtr 3 v27 (.int .i64 150)) w fun v28 w =>
    gd v28 false w (fun k => k (g0 vs1) w) fun v30 w =>
    gd v28 false w (fun k => px P (bin true .gtr 3 v30 (.int .i64 40000)) w fun v w => k v w) fun v31 w =>
    pk v28 (.bool true) v31 w fun v32 w =>
    R v32 w)
theorem c16 (h : F16 R v0 w) : cl P 16 #[v0] w R := cq ⟨[], [], [(3, [3, 4])], [], []⟩ Tryz.func16 (by kernel_rfl) (by kernel_rfl) h
def F17 (R : Value → World → Prop) (v0 : Value) (w : World) : Prop :=
  cl P 42 #[v0] w fun v10 w =>
  px P (Instr.extract v10 0) w fun v11 w =>
  px P (Instr.extract v10 1) w fun v12 w =>
  px P (bin true .neq 32 v12 (.int .i64 0)) w fun v14 w =>
  cnd v14 (
    R (.tuple #[(.pointer none), (.pointer none), (.pointer none)]) w) <|
  cl P 76 #[v11] w fun v17 w =>
  px P (Instr.extract v17 0) w fun v18 w =>
  px P (Instr.extract v17 1) w fun v19 w =>
  px P (bin true .neq 32 v19 (.int .i64 0)) w fun v21 w =>
  cnd v21 (
    R (.tuple #[(.pointer none), (.pointer none), (.pointer none)]) w) <|
  cl P 26 #[v18] w fun v25 w =>
  R (.tuple #[v11, v18, v25]) w
theorem c17 (h : F17 R v0 w) : cl P 17 #[v0] w R := cq ⟨[], [], [], [], []⟩ Tryz.func17 (by kernel_rfl) (by kernel_rfl) h
def F19 (R : Value → World → Prop) (v0 : Value) (w : World) : Prop :=
  px P (Instr.box 31 v0) w fun v1 w =>
  lp [(.string ⟨#[]⟩), (.int .i64 0)] w fun again1 vs1 w =>
  px P (Instr.fieldAt 31 v1 3) w fun v6 w =>
  px P (Instr.loadAt 3 v6) w fun v7 w =>
  px P (convert 3 50 v7) w fun v8 w =>
  px P (bin true .rem 50 v8 (.int .u64 600)) w fun v9 w =>
  px P (convert 50 3 v9) w fun v10 w =>
  px P (bin false .lss 3 (g1 vs1) v10) w fun v11 w =>
  gd v11 true w (fun k => k (g0 vs1) w) fun v13 w =>
  gd v11 true w (fun k => px P (Builtin.len_ #[9] 3 #[v13]) w fun v w => k v w) fun v14 w =>
  gd v11 true w (fun k => px P (bin true .lss 3 v14 (.int .i64 9000)) w fun v w => k v w) fun v15 w =>
  pk v11 v15 (.bool false) w fun v16 w =>
  cnd v16 (
    px P (Instr.fieldAt 31 v1 2) w fun v20 w =>
    px P (Instr.loadAt 9 v20) w fun v21 w =>
    px P (bin false .add 9 (g0 vs1) v21) w fun v22 w =>
    px P (bin true .add 3 (g1 vs1) (.int .i64 1)) w fun v18 w =>
    again1 [v22, v18] w) (
    R (g0 vs1) w)
theorem c19 (h : F19 R v0 w) : cl P 19 #[v0] w R := cq ⟨[], [], [(3, [3, 4])], [], []⟩ Tryz.func19 (by kernel_rfl) (by kernel_rfl) h
end Go.Proofs.YtomggfibpbaodaaGreatDoor
