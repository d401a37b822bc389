/- What calls of the program's functions ask, step by step. -/
import Derived.Test.YtomggfibpbaodaaGreatDoorCA
set_option maxRecDepth 100000
namespace Go.Proofs.YtomggfibpbaodaaGreatDoor
open Go.V
variable {R : Value → World → Prop} {v0 v1 v2 v3 v4 v5 v6 v7 v8 v9 v10 v11 : Value} {w : World}
def F30 (R : Value → World → Prop) (v0 : Value) (w : World) : Prop :=
  px P (bin true .eql 26 v0 (.pointer none)) w fun v10 w =>
  cnd v10 (
    R (.tuple #[(.int .i64 0), (.int .i64 2)]) w) <|
  cl P 91 #[v0] w fun v13 w =>
  px P (bin true .eql 3 v13 (.int .i64 0)) w fun v14 w =>
  cnd v14 (
    R (.tuple #[(.int .i64 0), (.int .i64 3)]) w) <|
  nc v0 w fun v17 w =>
  px P (Instr.fieldAt 193 v17 7) w fun v18 w =>
  px P (Instr.fieldAt 188 v18 2) w fun v19 w =>
  px P (Instr.loadAt 3 v19) w fun v20 w =>
  px P (bin true .eql 3 v20 (.int .i64 0)) w fun v21 w =>
  cnd v21 (
    nc v0 w fun v23 w =>
    px P (Instr.fieldAt 193 v23 7) w fun v24 w =>
    px P (Instr.fieldAt 188 v24 1) w fun v25 w =>
    px P (Instr.loadAt 3 v25) w fun v26 w =>
    nc v0 w fun v28 w =>
    px P (Instr.fieldAt 193 v28 7) w fun v29 w =>
    px P (Instr.fieldAt 188 v29 1) w fun v30 w =>
    px P (Instr.loadAt 3 v30) w fun v31 w =>
    px P (bin true .add 3 v31 (.int .i64 1)) w fun v32 w =>
    nc v0 w fun v33 w =>
    px P (Instr.fieldAt 193 v33 7) w fun v34 w =>
    px P (Instr.fieldAt 188 v34 1) w fun v35 w =>
    pu P (Instr.storeAt 3 v35 v32) w fun w =>
    dr w fun w =>
    ny v0 fun v37 =>
    py P (fun _ => True) (Instr.fieldAt 193 v37 5) fun v38 =>
    py P (Ext w) (Instr.loadAt 190 v38) fun v39 =>
    ny v0 fun v42 =>
    py P (fun _ => True) (Instr.fieldAt 193 v42 9) fun v43 =>
    py P (Ext w) (Instr.loadAt 191 v43) fun v44 =>
    py P (fun _ => True) (Instr.build 195 #[]) fun v46 =>
    px P (Instr.mapEntry 190 v39 v26) w fun v47 w =>
    py P (fun _ => True) (Instr.extract v47 1) fun v48 =>
    pu P (Instr.entryStore 190 v39 v48 v46) w fun w =>
    px P (Instr.mapEntry 191 v44 v26) w fun v49 w =>
    py P (fun _ => True) (Instr.extract v49 1) fun v50 =>
    pu P (Instr.entryStore 191 v44 v50 (.bool true)) w fun w =>
    R (.tuple #[v26, (.int .i64 0)]) w) <|
  nc v0 w fun v53 w =>
  px P (Instr.fieldAt 193 v53 7) w fun v54 w =>
  px P (Instr.fieldAt 188 v54 2) w fun v55 w =>
  px P (Instr.loadAt 3 v55) w fun v56 w =>
  cl P 98 #[v0, v56] w fun v60 w =>
  px P (Instr.extract v60 0) w fun v61 w =>
  px P (Instr.extract v60 1) w fun v62 w =>
  px P (Instr.alloc 195 true (.tuple #[])) w fun v6 w =>
  pu P (Instr.storeAt 195 v6 v61) w fun w =>
  px P (bin true .neq 32 v62 (.int .i64 0)) w fun v64 w =>
  cnd v64 (
    R (.tuple #[(.int .i64 0), v62]) w) <|
  cut (fun J1 =>
    dr w fun w =>
    py P (fun _ => True) (Instr.sliceAt 195 v6 none (some (.int .i64 4)) none) fun v68 =>
    ny v0 fun v71 =>
    py P (fun _ => True) (Instr.fieldAt 193 v71 7) fun v72 =>
    py P (fun _ => True) (Instr.fieldAt 188 v72 3) fun v73 =>
    (
      cl P 99 #[v68] w fun v69 w =>
      py P (Ext w) (Instr.loadAt 3 v73) fun v74 =>
      py P (fun _ => True) (bin true .sub 3 v74 (.int .i64 1)) fun v75 =>
      ny v0 fun v76 =>
      py P (fun _ => True) (Instr.fieldAt 193 v76 7) fun v77 =>
      py P (fun _ => True) (Instr.fieldAt 188 v77 2) fun v78 =>
      pu P (Instr.storeAt 3 v78 v69) w fun w =>
      ny v0 fun v79 =>
      py P (fun _ => True) (Instr.fieldAt 193 v79 7) fun v80 =>
      py P (fun _ => True) (Instr.fieldAt 188 v80 3) fun v81 =>
      pu P (Instr.storeAt 3 v81 v75) w fun w =>
      J1 [] w) ∧
    (
      pg P (Instr.loadAt 3 v73) w fun v74_1 w =>
      py P (fun _ => True) (bin true .sub 3 v74_1 (.int .i64 1)) fun v75_1 =>
      cl P 99 #[v68] w fun v69_1 w =>
      ny v0 fun v76_1 =>
      py P (fun _ => True) (Instr.fieldAt 193 v76_1 7) fun v77_1 =>
      py P (fun _ => True) (Instr.fieldAt 188 v77_1 2) fun v78_1 =>
      pu P (Instr.storeAt 3 v78_1 v69_1) w fun w =>
      ny v0 fun v79_1 =>
      py P (fun _ => True) (Instr.fieldAt 193 v79_1 7) fun v80_1 =>
      py P (fun _ => True) (Instr.fieldAt 188 v80_1 3) fun v81_1 =>
      pu P (Instr.storeAt 3 v81_1 v75_1) w fun w =>
      J1 [] w)) fun _ w =>
  nc v0 w fun v83 w =>
  px P (Instr.fieldAt 193 v83 8) w fun v84 w =>
  px P (Instr.loadAt 191 v84) w fun v85 w =>
  px P (Builtin.delete_ #[191, 3] 0 #[v85, v56]) w fun _ w =>
  dr w fun w =>
  ny v0 fun v88 =>
  py P (fun _ => True) (Instr.fieldAt 193 v88 5) fun v89 =>
  py P (Ext w) (Instr.loadAt 190 v89) fun v90 =>
  ny v0 fun v93 =>
  py P (fun _ => True) (Instr.fieldAt 193 v93 9) fun v94 =>
  py P (Ext w) (Instr.loadAt 191 v94) fun v95 =>
  py P (fun _ => True) (Instr.build 195 #[]) fun v97 =>
  px P (Instr.mapEntry 190 v90 v56) w fun v98 w =>
  py P (fun _ => True) (Instr.extract v98 1) fun v99 =>
  pu P (Instr.entryStore 190 v90 v99 v97) w fun w =>
  px P (Instr.mapEntry 191 v95 v56) w fun v100 w =>
  py P (fun _ => True) (Instr.extract v100 1) fun v101 =>
  pu P (Instr.entryStore 191 v95 v101 (.bool true)) w fun w =>
  R (.tuple #[v56, (.int .i64 0)]) w
theorem c30 (h : F30 R v0 w) : cl P 30 #[v0] w R := cq ⟨[], [], [], [(14, [])], []⟩ Tryz.func30 (by kernel_rfl) (by kernel_rfl) h
def F31 (R : Value → World → Prop) (v0 v1 v2 : Value) (w : World) : Prop :=
  px P (bin true .eql 26 v0 (.pointer none)) w fun v9 w =>
  cnd v9 (
    R (.int .i64 2) w) <|
  cl P 100 #[v0, v1] w fun v13 w =>
  px P (Op.unary .not v13) w fun v14 w =>
  gd v14 false w (fun k => k v2 w) fun v16 w =>
  gd v14 false w (fun k => px P (Builtin.len_ #[43] 3 #[v16]) w fun v w => k v w) fun v17 w =>
  gd v14 false w (fun k => px P (bin true .neq 3 v17 (.int .i64 512)) w fun v w => k v w) fun v18 w =>
  pk v14 (.bool true) v18 w fun v19 w =>
  cnd v19 (
    R (.int .i64 1) w) <|
  dr w fun w =>
  held w fun S =>
  ny v0 fun v21 =>
  py P (fun _ => True) (Instr.fieldAt 193 v21 5) fun v22 =>
  py P (Ext w) (Instr.loadAt 190 v22) fun v23 =>
  ny v0 fun v26 =>
  py P (fun _ => True) (Instr.fieldAt 193 v26 9) fun v27 =>
  py P (Ext w) (Instr.loadAt 191 v27) fun v28 =>
  py P (fun _ => True) (Instr.arrayAt 195 v2) fun v31 =>
  py P S (Instr.loadAt 195 v31) fun v32 =>
  px P (Instr.mapEntry 190 v23 v1) w fun v33 w => hs S w <|
  py P (fun _ => True) (Instr.extract v33 1) fun v34 =>
  pu P (Instr.entryStore 190 v23 v34 v32) w fun w => hs S w <|
  px P (Instr.mapEntry 191 v28 v1) w fun v35 w => hs S w <|
  py P (fun _ => True) (Instr.extract v35 1) fun v36 =>
  pu P (Instr.entryStore 191 v28 v36 (.bool true)) w fun w => hs S w <|
  R (.int .i64 0) w
theorem c31 (h : F31 R v0 v1 v2 w) : cl P 31 #[v0, v1, v2] w R := cq ⟨[], [], [], [], [5]⟩ Tryz.func31 (by kernel_rfl) (by kernel_rfl) h
def F32 (R : Value → World → Prop) (v0 v1 : Value) (w : World) : Prop :=
  px P (bin true .eql 26 v0 (.pointer none)) w fun v7 w =>
  cnd v7 (
    R (.int .i64 2) w) <|
  px P (bin true .neq 3 v1 (.int .i64 0)) w fun v10 w =>
  gd v10 true w (fun k => k v0 w) fun v12 w =>
  gd v10 true w (fun k => k v1 w) fun v13 w =>
  gd v10 true w (fun k => cl P 100 #[v12, v13] w fun v w => k v w) fun v14 w =>
  gd v10 true w (fun k => px P (Op.unary .not v14) w fun v w => k v w) fun v15 w =>
  pk v10 v15 (.bool false) w fun v16 w =>
  cnd v16 (
    R (.int .i64 1) w) <|
  nc v0 w fun v19 w =>
  px P (Instr.fieldAt 193 v19 7) w fun v20 w =>
  px P (Instr.fieldAt 188 v20 0) w fun v21 w =>
  pu P (Instr.storeAt 3 v21 v1) w fun w =>
  R (.int .i64 0) w
theorem c32 (h : F32 R v0 v1 w) : cl P 32 #[v0, v1] w R := cq ⟨[], [], [], [], []⟩ Tryz.func32 (by kernel_rfl) (by kernel_rfl) h
def F33 (R : Value → World → Prop) (v0 : Value) (w : World) : Prop :=
  px P (bin true .eql 26 v0 (.pointer none)) w fun v4 w =>
  cnd v4 (
    R (.int .i64 0) w) <|
  nc v0 w fun v6 w =>
  px P (Instr.fieldAt 193 v6 3) w fun v7 w =>
  px P (Instr.loadAt 3 v7) w fun v8 w =>
  R v8 w
theorem c33 (h : F33 R v0 w) : cl P 33 #[v0] w R := cq ⟨[], [], [], [], []⟩ Tryz.func33 (by kernel_rfl) (by kernel_rfl) h
def F38 (R : Value → World → Prop) (v0 : Value) (w : World) : Prop :=
  px P (bin true .eql 25 v0 (.pointer none)) w fun v12 w =>
  cnd v12 (
    R (.tuple #[(.pointer none), (.int .i64 2)]) w) <|
  cl P 105 #[v0, (.int .i64 0)] w fun v15 w =>
  px P (Instr.extract v15 0) w fun v16 w =>
  px P (Instr.extract v15 1) w fun v17 w =>
  px P (bin true .neq 32 v17 (.int .i64 0)) w fun v19 w =>
  cnd v19 (
    R (.tuple #[(.pointer none), v17]) w) <|
  cl P 29 #[v0] w fun v22 w =>
  px P (bin true .lss 3 v22 (.int .i64 64)) w fun v23 w =>
  gd v23 false w (fun k => k v16 w) fun v25 w =>
  gd v23 false w (fun k => px P (Instr.sliceAt 43 v25 none (some (.int .i64 8)) none) w fun v w => k v w) fun v26 w =>
  gd v23 false w (fun k => px P (convert 43 9 v26) w fun v w => k v w) fun v27 w =>
  gd v23 false w (fun k => px P (bin true .neq 9 v27 (.string ⟨#[98, 117, 116, 116, 101, 114, 121, 49]⟩)) w fun v w => k v w) fun v28 w =>
  pk v23 (.bool true) v28 w fun v29 w =>
  gd v29 false w (fun k => k v16 w) fun v31 w =>
  gd v29 false w (fun k => px P (Instr.indexAt 43 v31 (.int .i64 8)) w fun v w => k v w) fun v32 w =>
  gd v29 false w (fun k => px P (Instr.loadAt 5 v32) w fun v w => k v w) fun v33 w =>
  gd v29 false w (fun k => px P (bin true .gtr 5 v33 (.int .u8 127)) w fun v w => k v w) fun v34 w =>
  pk v29 (.bool true) v34 w fun v35 w =>
  cnd v35 (
    R (.tuple #[(.pointer none), (.int .i64 4)]) w) <|
  cl P 106 #[v0] w fun v37 w =>
  dr w fun w =>
  py P (fun _ => True) (Instr.sliceAt 43 v16 (some (.int .i64 8)) (some (.int .i64 16)) none) fun v43 =>
  cl P 108 #[v0] w fun v41 w =>
  cl P 99 #[v43] w fun v44 w =>
  cl P 107 #[v0, (.int .i64 1), v41, v44] w fun v45 w =>
  py P (fun _ => True) (Instr.extract v45 0) fun v46 =>
  py P (fun _ => True) (Instr.extract v45 1) fun v47 =>
  py P (fun _ => True) (Instr.extract v45 2) fun v48 =>
  px P (bin true .eql 32 v48 (.int .i64 1)) w fun v51 w =>
  gd v51 false w (fun k => k v48 w) fun v53 w =>
  gd v51 false w (fun k => px P (bin true .eql 32 v53 (.int .i64 0)) w fun v w => k v w) fun v54 w =>
  gd v51 false w (fun k => k v54 w) fun v55 w =>
  gd v55 true w (fun k => k v37 w) fun v56 w =>
  gd v55 true w (fun k => k v47 w) fun v57 w =>
  gd v55 true w (fun k => cl P 109 #[v56, v57] w fun v w => k v w) fun v58 w =>
  gd v55 true w (fun k => px P (Op.unary .not v58) w fun v w => k v w) fun v59 w =>
  gd v51 false w (fun k => pk v55 v59 (.bool false) w fun v w => k v w) fun v60 w =>
  pk v51 (.bool true) v60 w fun v61 w =>
  cnd v61 (
    R (.tuple #[(.pointer none), (.int .i64 4)]) w) <|
  px P (bin true .neq 32 v48 (.int .i64 0)) w fun v64 w =>
  cnd v64 (
    R (.tuple #[(.pointer none), v48]) w) <|
  nc v37 w fun v68 w =>
  px P (Instr.fieldAt 193 v68 1) w fun v69 w =>
  pu P (Instr.storeAt 189 v69 v46) w fun w =>
  cl P 111 #[v46] w fun v72 w =>
  cl P 110 #[v37, v72] w fun v73 w =>
  px P (bin true .neq 32 v73 (.int .i64 0)) w fun v75 w =>
  cnd v75 (
    R (.tuple #[(.pointer none), v73]) w) <|
  cl P 90 #[v37] w fun v78 w =>
  px P (bin true .neq 32 v78 (.int .i64 0)) w fun v80 w =>
  cnd v80 (
    R (.tuple #[(.pointer none), v78]) w) <|
  R (.tuple #[v37, (.int .i64 0)]) w
theorem c38 (h : F38 R v0 w) : cl P 38 #[v0] w R := cq ⟨[], [], [], [], []⟩ Tryz.func38 (by kernel_rfl) (by kernel_rfl) h
def F76 (R : Value → World → Prop) (v0 : Value) (w : World) : Prop :=
  px P (bin true .eql 25 v0 (.pointer none)) w fun v18 w =>
  cnd v18 (
    R (.tuple #[(.pointer none), (.int .i64 2)]) w) <|
  cl P 29 #[v0] w fun v21 w =>
  px P (bin true .lss 3 v21 (.int .i64 64)) w fun v22 w =>
  cnd v22 (
    R (.tuple #[(.pointer none), (.int .i64 1)]) w) <|
  cl P 106 #[v0] w fun v24 w =>
  cl P 108 #[v0] w fun v26 w =>
  lp [(.int .i64 0)] w fun again1 vs1 w =>
  px P (bin false .lss 3 (g0 vs1) v26) w fun v28 w =>
  cnd v28 (
    px P (bin true .add 3 (.int .i64 1) (g0 vs1)) w fun v33 w =>
    cl P 105 #[v0, v33] w fun v34 w =>
    px P (Instr.extract v34 0) w fun v35 w =>
    px P (Instr.extract v34 1) w fun v36 w =>
    px P (bin true .neq 32 v36 (.int .i64 0)) w fun v38 w =>
    cnd v38 (
      R (.tuple #[(.pointer none), v36]) w) <|
    px P (Builtin.len_ #[43] 3 #[v35]) w fun v42 w =>
    px P (Instr.makeSlice 43 v42 v42) w fun v43 w =>
    cl P 141 #[v35, v43] w fun v44 w =>
    px P (Op.unary .not v44) w fun v45 w =>
    cut (fun J2 =>
      cnd v45 (
        px P (bin true .add 3 (.int .i64 1) (g0 vs1)) w fun v48 w =>
        px P (Builtin.len_ #[43] 3 #[v35]) w fun v50 w =>
        px P (Instr.makeSlice 43 v50 v50) w fun v51 w =>
        cl P 142 #[v0, v48, v51] w fun v52 w =>
        px P (bin true .neq 32 v52 (.int .i64 0)) w fun v54 w =>
        cnd v54 (
          R (.tuple #[(.pointer none), v52]) w) <|
        J2 [] w) (
        J2 [] w)) fun _ w =>
    px P (bin true .add 3 (g0 vs1) (.int .i64 1)) w fun v56 w =>
    again1 [v56] w) (
    px P (Instr.build 188 #[(1, (.int .i64 1))]) w fun v58 w =>
    nc v24 w fun v59 w =>
    px P (Instr.fieldAt 193 v59 6) w fun v60 w =>
    pu P (Instr.storeAt 188 v60 v58) w fun w =>
    nc v24 w fun v63 w =>
    px P (Instr.fieldAt 193 v63 6) w fun v64 w =>
    px P (Instr.loadAt 188 v64) w fun v65 w =>
    nc v24 w fun v66 w =>
    px P (Instr.fieldAt 193 v66 7) w fun v67 w =>
    pu P (Instr.storeAt 188 v67 v65) w fun w =>
    nc v24 w fun v69 w =>
    px P (Instr.fieldAt 193 v69 6) w fun v70 w =>
    px P (Instr.loadAt 188 v70) w fun v71 w =>
    cl P 143 #[v71] w fun v72 w =>
    px P (Instr.alloc 195 true (.tuple #[])) w fun v9 w =>
    pu P (Instr.storeAt 195 v9 v72) w fun w =>
    dr w fun w =>
    ny v24 fun v75 =>
    py P (fun _ => True) (Instr.fieldAt 193 v75 2) fun v76 =>
    py P (Ext w) (Instr.loadAt 3 v76) fun v77 =>
    py P (fun _ => True) (Instr.sliceAt 195 v9 none none none) fun v78 =>
    cl P 142 #[v0, v77, v78] w fun v79 w =>
    px P (bin true .neq 32 v79 (.int .i64 0)) w fun v81 w =>
    cnd v81 (
      R (.tuple #[(.pointer none), v79]) w) <|
    cl P 144 #[v0] w fun v84 w =>
    px P (bin true .neq 32 v84 (.int .i64 0)) w fun v86 w =>
    cnd v86 (
      R (.tuple #[(.pointer none), v84]) w) <|
    cl P 145 #[v0, (.int .i64 0)] w fun v89 w =>
    px P (bin true .neq 32 v89 (.int .i64 0)) w fun v91 w =>
    cnd v91 (
      R (.tuple #[(.pointer none), v89]) w) <|
    cl P 108 #[v0] w fun v96 w =>
    cl P 107 #[v0, (.int .i64 1), v96, (.int .i64 0)] w fun v97 w =>
    px P (Instr.extract v97 0) w fun v98 w =>
    px P (Instr.extract v97 1) w fun _ w =>
    px P (Instr.extract v97 2) w fun v100 w =>
    px P (bin true .neq 32 v100 (.int .i64 0)) w fun v102 w =>
    cnd v102 (
      R (.tuple #[(.pointer none), v100]) w) <|
    nc v24 w fun v106 w =>
    px P (Instr.fieldAt 193 v106 1) w fun v107 w =>
    pu P (Instr.storeAt 189 v107 v98) w fun w =>
    R (.tuple #[v24, (.int .i64 0)]) w)
theorem c76 (h : F76 R v0 w) : cl P 76 #[v0] w R := cq ⟨[(13, [])], [], [(7, [27])], [], []⟩ Tryz.func76 (by kernel_rfl) (by kernel_rfl) h
def F87 (R : Value → World → Prop) (v0 : Value) (w : World) : Prop :=
  px P (bin true .eql 26 v0 (.pointer none)) w fun v4 w =>
  cnd v4 (
    R (.int .i64 0) w) <|
  nc v0 w fun v6 w =>
  px P (Instr.fieldAt 193 v6 7) w fun v7 w =>
  px P (Instr.fieldAt 188 v7 0) w fun v8 w =>
  px P (Instr.loadAt 3 v8) w fun v9 w =>
  R v9 w
theorem c87 (h : F87 R v0 w) : cl P 87 #[v0] w R := cq ⟨[], [], [], [], []⟩ Tryz.func87 (by kernel_rfl) (by kernel_rfl) h
def F90 (R : Value → World → Prop) (v0 : Value) (w : World) : Prop :=
  px P (bin true .eql 26 v0 (.pointer none)) w fun v9 w =>
  cnd v9 (
    R (.int .i64 2) w) <|
  px P (Instr.makeMap 190 none) w fun v13 w =>
  px P (Instr.makeMap 191 none) w fun v14 w =>
  px P (Instr.makeMap 191 none) w fun v15 w =>
  nc v0 w fun v16 w =>
  px P (Instr.fieldAt 193 v16 5) w fun v17 w =>
  pu P (Instr.storeAt 190 v17 v13) w fun w =>
  nc v0 w fun v18 w =>
  px P (Instr.fieldAt 193 v18 9) w fun v19 w =>
  pu P (Instr.storeAt 191 v19 v14) w fun w =>
  nc v0 w fun v20 w =>
  px P (Instr.fieldAt 193 v20 8) w fun v21 w =>
  pu P (Instr.storeAt 191 v21 v15) w fun w =>
  cl P 98 #[v0, (.int .i64 0)] w fun v24 w =>
  px P (Instr.extract v24 0) w fun v25 w =>
  px P (Instr.extract v24 1) w fun v26 w =>
  px P (Instr.alloc 195 true (.tuple #[])) w fun v3 w =>
  pu P (Instr.storeAt 195 v3 v25) w fun w =>
  px P (bin true .neq 32 v26 (.int .i64 0)) w fun v28 w =>
  cnd v28 (
    R v26 w) <|
  px P (Instr.loadAt 195 v3) w fun v31 w =>
  cl P 164 #[v31] w fun v32 w =>
  nc v0 w fun v33 w =>
  px P (Instr.fieldAt 193 v33 7) w fun v34 w =>
  pu P (Instr.storeAt 188 v34 v32) w fun w =>
  nc v0 w fun v37 w =>
  px P (Instr.fieldAt 193 v37 7) w fun v38 w =>
  px P (Instr.loadAt 188 v38) w fun v39 w =>
  nc v0 w fun v40 w =>
  px P (Instr.fieldAt 193 v40 6) w fun v41 w =>
  pu P (Instr.storeAt 188 v41 v39) w fun w =>
  nc v0 w fun v43 w =>
  px P (Instr.fieldAt 193 v43 7) w fun v44 w =>
  px P (Instr.fieldAt 188 v44 2) w fun v45 w =>
  px P (Instr.loadAt 3 v45) w fun v46 w =>
  cut (fun J1 =>
    lp [v46] w fun again2 vs2 w =>
    px P (bin true .neq 3 (g0 vs2) (.int .i64 0)) w fun v48 w =>
    cnd v48 (
      px P (bin true .lss 3 (g0 vs2) (.int .i64 0)) w fun v50 w =>
      gd v50 false w (fun k => k (g0 vs2) w) fun v52 w =>
      gd v50 false w (fun k => k v0 w) fun v53 w =>
      gd v50 false w (fun k => nc v53 w fun v w => k v w) fun v54 w =>
      gd v50 false w (fun k => px P (Instr.fieldAt 193 v54 3) w fun v w => k v w) fun v55 w =>
      gd v50 false w (fun k => px P (Instr.loadAt 3 v55) w fun v w => k v w) fun v56 w =>
      gd v50 false w (fun k => px P (bin false .geq 3 v52 v56) w fun v w => k v w) fun v57 w =>
      pk v50 (.bool true) v57 w fun v58 w =>
      gd v58 false w (fun k => k v0 w) fun v60 w =>
      gd v58 false w (fun k => nc v60 w fun v w => k v w) fun v61 w =>
      gd v58 false w (fun k => px P (Instr.fieldAt 193 v61 8) w fun v w => k v w) fun v62 w =>
      gd v58 false w (fun k => px P (Instr.loadAt 191 v62) w fun v w => k v w) fun v63 w =>
      gd v58 false w (fun k => k (g0 vs2) w) fun v64 w =>
      gd v58 false w (fun k => px P (Instr.lookup 191 v63 v64 false) w fun v w => k v w) fun v65 w =>
      pk v58 (.bool true) v65 w fun v66 w =>
      cnd v66 (
        J1 [] w) <|
      nc v0 w fun v68 w =>
      px P (Instr.fieldAt 193 v68 8) w fun v69 w =>
      px P (Instr.loadAt 191 v69) w fun v70 w =>
      pu P (Instr.mapUpdate 191 v70 (g0 vs2) (.bool true)) w fun w =>
      cl P 98 #[v0, (g0 vs2)] w fun v75 w =>
      px P (Instr.extract v75 0) w fun v76 w =>
      px P (Instr.extract v75 1) w fun v77 w =>
      px P (Instr.alloc 195 true (.tuple #[])) w fun v6 w =>
      pu P (Instr.storeAt 195 v6 v76) w fun w =>
      px P (bin true .neq 32 v77 (.int .i64 0)) w fun v79 w =>
      cnd v79 (
        R v77 w) <|
      px P (Instr.sliceAt 195 v6 none (some (.int .i64 4)) none) w fun v81 w =>
      cl P 99 #[v81] w fun v82 w =>
      again2 [v82] w) (
      J1 [] w)) fun _ w =>
  R (.int .i64 0) w
theorem c90 (h : F90 R v0 w) : cl P 90 #[v0] w R := cq ⟨[], [(0, [])], [(10, [5])], [], []⟩ Tryz.func90 (by kernel_rfl) (by kernel_rfl) h
def F91 (R : Value → World → Prop) (v0 : Value) (w : World) : Prop :=
  px P (bin true .eql 26 v0 (.pointer none)) w fun v4 w =>
  cnd v4 (
    R (.int .i64 0) w) <|
  dr w fun w =>
  ny v0 fun v6 =>
  py P (fun _ => True) (Instr.fieldAt 193 v6 3) fun v7 =>
  py P (Ext w) (Instr.loadAt 3 v7) fun v8 =>
  ny v0 fun v10 =>
  py P (fun _ => True) (Instr.fieldAt 193 v10 7) fun v11 =>
  py P (fun _ => True) (Instr.fieldAt 188 v11 1) fun v12 =>
  py P (Ext w) (Instr.loadAt 3 v12) fun v13 =>
  py P (fun _ => True) (bin false .sub 3 v8 v13) fun v14 =>
  ny v0 fun v16 =>
  py P (fun _ => True) (Instr.fieldAt 193 v16 7) fun v17 =>
  py P (fun _ => True) (Instr.fieldAt 188 v17 3) fun v18 =>
  py P (Ext w) (Instr.loadAt 3 v18) fun v19 =>
  py P (fun _ => True) (bin false .add 3 v14 v19) fun v20 =>
  R v20 w
theorem c91 (h : F91 R v0 w) : cl P 91 #[v0] w R := cq ⟨[], [], [], [], []⟩ Tryz.func91 (by kernel_rfl) (by kernel_rfl) h
def F92 (R : Value → World → Prop) (v0 : Value) (w : World) : Prop :=
  px P (bin true .eql 26 v0 (.pointer none)) w fun v10 w =>
  cnd v10 (
    R (.int .i64 2) w) <|
  dr w fun w =>
  ny v0 fun v13 =>
  py P (fun _ => True) (Instr.fieldAt 193 v13 9) fun v14 =>
  py P (Ext w) (Instr.loadAt 191 v14) fun v15 =>
  py P (Ext w) (Builtin.len_ #[191] 3 #[v15]) fun v16 =>
  ny v0 fun v18 =>
  py P (fun _ => True) (Instr.fieldAt 193 v18 0) fun v19 =>
  py P (Ext w) (Instr.loadAt 25 v19) fun v20 =>
  cl P 29 #[v20] w fun v21 w =>
  py P (fun _ => True) (bin true .quo 3 v21 (.int .i64 8)) fun v22 =>
  py P (fun _ => True) (bin false .gtr 3 v16 v22) fun v23 =>
  cnd v23 (
    R (.int .i64 3) w) <|
  nc v0 w fun v26 w =>
  px P (Instr.fieldAt 193 v26 7) w fun v27 w =>
  px P (Instr.fieldAt 188 v27 0) w fun v28 w =>
  px P (Instr.loadAt 3 v28) w fun v29 w =>
  px P (bin true .neq 3 v29 (.int .i64 0)) w fun v30 w =>
  gd v30 true w (fun k => k v0 w) fun v32 w =>
  gd v30 true w (fun k => k v0 w) fun v33 w =>
  gd v30 true w (fun k => nc v33 w fun v w => k v w) fun v34 w =>
  gd v30 true w (fun k => px P (Instr.fieldAt 193 v34 7) w fun v w => k v w) fun v35 w =>
  gd v30 true w (fun k => px P (Instr.fieldAt 188 v35 0) w fun v w => k v w) fun v36 w =>
  gd v30 true w (fun k => px P (Instr.loadAt 3 v36) w fun v w => k v w) fun v37 w =>
  gd v30 true w (fun k => cl P 100 #[v32, v37] w fun v w => k v w) fun v38 w =>
  gd v30 true w (fun k => px P (Op.unary .not v38) w fun v w => k v w) fun v39 w =>
  pk v30 v39 (.bool false) w fun v40 w =>
  cnd v40 (
    R (.int .i64 1) w) <|
  dr w fun w =>
  held w fun S =>
  ny v0 fun v42 =>
  py P (fun _ => True) (Instr.fieldAt 193 v42 5) fun v43 =>
  py P S (Instr.loadAt 190 v43) fun v44 =>
  ny v0 fun v46 =>
  py P (fun _ => True) (Instr.fieldAt 193 v46 7) fun v47 =>
  py P (Ext w) (Instr.loadAt 188 v47) fun v48 =>
  cl P 143 #[v48] w fun v49 w => hs S w <|
  pu P (Instr.mapUpdate 190 v44 (.int .i64 0) v49) w fun w => hs S w <|
  nc v0 w fun v51 w =>
  px P (Instr.fieldAt 193 v51 5) w fun v52 w =>
  px P (Instr.loadAt 190 v52) w fun v53 w =>
  cl P 166 #[v53] w fun v54 w =>
  cl P 165 #[v54] w fun v55 w =>
  px P (Builtin.len_ #[48] 3 #[v55]) w fun v56 w =>
  lp [(.slice none 0 0), (.int .i64 0)] w fun again1 vs1 w =>
  px P (bin false .lss 3 (g1 vs1) v56) w fun v58 w =>
  cnd v58 (
    px P (Instr.indexAt 48 v55 (g1 vs1)) w fun v59 w =>
    px P (Instr.loadAt 3 v59) w fun v60 w =>
    nc v0 w fun v62 w =>
    px P (Instr.fieldAt 193 v62 5) w fun v63 w =>
    px P (Instr.loadAt 190 v63) w fun v64 w =>
    px P (Instr.lookup 190 v64 v60 false) w fun v66 w =>
    px P (Instr.alloc 195 true (.tuple #[])) w fun v6 w =>
    pu P (Instr.storeAt 195 v6 v66) w fun w =>
    dr w fun w =>
    py P (fun _ => True) (Instr.sliceAt 195 v6 none none none) fun v70 =>
    cl P 168 #[(g0 vs1), v60] w fun v69 w =>
    cl P 169 #[v70, (.string ⟨#[0]⟩)] w fun v71 w =>
    px P (convert 43 9 v71) w fun v72 w =>
    cl P 167 #[v69, v72] w fun v73 w =>
    px P (bin true .add 3 (g1 vs1) (.int .i64 1)) w fun v74 w =>
    again1 [v73, v74] w) (
    nc v0 w fun v76 w =>
    px P (Instr.fieldAt 193 v76 5) w fun v77 w =>
    px P (Instr.loadAt 190 v77) w fun v78 w =>
    px P (Builtin.delete_ #[190, 3] 0 #[v78, (.int .i64 0)]) w fun _ w =>
    nc v0 w fun v80 w =>
    px P (Instr.fieldAt 193 v80 1) w fun v81 w =>
    px P (Instr.loadAt 189 v81) w fun v82 w =>
    cl P 170 #[v82, (g0 vs1)] w fun v84 w =>
    px P (bin true .eql 32 v84 (.int .i64 3)) w fun v86 w =>
    cut (fun J2 =>
      cnd v86 (
        nc v0 w fun v89 w =>
        px P (Instr.fieldAt 193 v89 1) w fun v90 w =>
        px P (Instr.loadAt 189 v90) w fun v91 w =>
        cl P 111 #[v91] w fun v92 w =>
        cl P 110 #[v0, v92] w fun v93 w =>
        px P (bin true .eql 32 v93 (.int .i64 0)) w fun v95 w =>
        cut (fun J3 =>
          cnd v95 (
            nc v0 w fun v97 w =>
            px P (Instr.fieldAt 193 v97 1) w fun v98 w =>
            px P (Instr.loadAt 189 v98) w fun v99 w =>
            cl P 170 #[v99, (g0 vs1)] w fun v101 w =>
            J3 [v101] w) (
            J3 [v93] w)) fun vs3 w =>
        J2 [(g0 vs3)] w) (
        J2 [v84] w)) fun vs2 w =>
    px P (bin true .eql 32 (g0 vs2) (.int .i64 0)) w fun v103 w =>
    cut (fun J4 =>
      cnd v103 (
        nc v0 w fun v105 w =>
        px P (Instr.fieldAt 193 v105 1) w fun v106 w =>
        px P (Instr.loadAt 189 v106) w fun v107 w =>
        cl P 171 #[v107] w fun v108 w =>
        J4 [v108] w) (
        J4 [(g0 vs2)] w)) fun vs4 w =>
    px P (bin true .neq 32 (g0 vs4) (.int .i64 0)) w fun v110 w =>
    cnd v110 (
      R (g0 vs4) w) <|
    dr w fun w =>
    ny v0 fun v113 =>
    py P (fun _ => True) (Instr.fieldAt 193 v113 4) fun v114 =>
    py P (Ext w) (Instr.loadAt 190 v114) fun v115 =>
    ny v0 fun v117 =>
    py P (fun _ => True) (Instr.fieldAt 193 v117 5) fun v118 =>
    py P (Ext w) (Instr.loadAt 190 v118) fun v119 =>
    cl P 172 #[v115, v119] w fun _ w =>
    dr w fun w =>
    held w fun S =>
    ny v0 fun v122 =>
    py P (fun _ => True) (Instr.fieldAt 193 v122 4) fun v123 =>
    py P S (Instr.loadAt 190 v123) fun v124 =>
    ny v0 fun v126 =>
    py P (fun _ => True) (Instr.fieldAt 193 v126 7) fun v127 =>
    py P (Ext w) (Instr.loadAt 188 v127) fun v128 =>
    cl P 143 #[v128] w fun v129 w => hs S w <|
    pu P (Instr.mapUpdate 190 v124 (.int .i64 0) v129) w fun w => hs S w <|
    nc v0 w fun v134 w =>
    px P (Instr.fieldAt 193 v134 7) w fun v135 w =>
    px P (Instr.loadAt 188 v135) w fun v136 w =>
    px P (Instr.makeMap 190 none) w fun v137 w =>
    px P (Instr.makeMap 191 none) w fun v138 w =>
    nc v0 w fun v139 w =>
    px P (Instr.fieldAt 193 v139 6) w fun v140 w =>
    pu P (Instr.storeAt 188 v140 v136) w fun w =>
    nc v0 w fun v141 w =>
    px P (Instr.fieldAt 193 v141 5) w fun v142 w =>
    pu P (Instr.storeAt 190 v142 v137) w fun w =>
    nc v0 w fun v143 w =>
    px P (Instr.fieldAt 193 v143 9) w fun v144 w =>
    pu P (Instr.storeAt 191 v144 v138) w fun w =>
    R (.int .i64 0) w)
theorem c92 (h : F92 R v0 w) : cl P 92 #[v0] w R := cq ⟨[(18, [7]), (20, [7]), (22, [7])], [], [(10, [3, 57])], [], [7, 26]⟩ Tryz.func92 (by kernel_rfl) (by kernel_rfl) h
def F98 (R : Value → World → Prop) (v0 v1 : Value) (w : World) : Prop :=
  px P (Instr.alloc 195 true (.tuple #[])) w fun v4 w =>
  nc v0 w fun v14 w =>
  px P (Instr.fieldAt 193 v14 5) w fun v15 w =>
  px P (Instr.loadAt 190 v15) w fun v16 w =>
  px P (Instr.lookup 190 v16 v1 true) w fun v18 w =>
  px P (Instr.extract v18 0) w fun v19 w =>
  px P (Instr.extract v18 1) w fun v20 w =>
  px P (Instr.alloc 195 true (.tuple #[])) w fun v6 w =>
  pu P (Instr.storeAt 195 v6 v19) w fun w =>
  cnd v20 (
    px P (Instr.loadAt 195 v6) w fun v22 w =>
    pu P (Instr.storeAt 195 v4 v22) w fun w =>
    pla P 195 v4 w fun v4_1 =>
    R (.tuple #[v4_1, (.int .i64 0)]) w) <|
  nc v0 w fun v25 w =>
  px P (Instr.fieldAt 193 v25 4) w fun v26 w =>
  px P (Instr.loadAt 190 v26) w fun v27 w =>
  px P (Instr.lookup 190 v27 v1 true) w fun v29 w =>
  px P (Instr.extract v29 0) w fun v30 w =>
  px P (Instr.extract v29 1) w fun v31 w =>
  px P (Instr.alloc 195 true (.tuple #[])) w fun v8 w =>
  pu P (Instr.storeAt 195 v8 v30) w fun w =>
  cnd v31 (
    px P (Instr.loadAt 195 v8) w fun v33 w =>
    pu P (Instr.storeAt 195 v4 v33) w fun w =>
    pla P 195 v4 w fun v4_2 =>
    R (.tuple #[v4_2, (.int .i64 0)]) w) <|
  dr w fun w =>
  ny v0 fun v36 =>
  py P (fun _ => True) (Instr.fieldAt 193 v36 0) fun v37 =>
  py P (Ext w) (Instr.loadAt 25 v37) fun v38 =>
  ny v0 fun v40 =>
  py P (fun _ => True) (Instr.fieldAt 193 v40 2) fun v41 =>
  py P (Ext w) (Instr.loadAt 3 v41) fun v42 =>
  py P (fun _ => True) (bin false .add 3 v42 v1) fun v44 =>
  cl P 105 #[v38, v44] w fun v45 w =>
  py P (fun _ => True) (Instr.extract v45 0) fun v46 =>
  py P (fun _ => True) (Instr.extract v45 1) fun v47 =>
  px P (bin true .neq 32 v47 (.int .i64 0)) w fun v49 w =>
  cnd v49 (
    px P (Instr.build 195 #[]) w fun v50 w =>
    pu P (Instr.storeAt 195 v4 v50) w fun w =>
    pla P 195 v4 w fun v4_3 =>
    R (.tuple #[v4_3, v47]) w) <|
  px P (Instr.arrayAt 195 v46) w fun v53 w =>
  px P (Instr.loadAt 195 v53) w fun v54 w =>
  pu P (Instr.storeAt 195 v4 v54) w fun w =>
  pla P 195 v4 w fun v4_4 =>
  R (.tuple #[v4_4, (.int .i64 0)]) w
theorem c98 (h : F98 R v0 v1 w) : cl P 98 #[v0, v1] w R := cq ⟨[], [], [], [], []⟩ Tryz.func98 (by kernel_rfl) (by kernel_rfl) h
def F99 (R : Value → World → Prop) (v0 : Value) (w : World) : Prop :=
  px P (Builtin.len_ #[43] 3 #[v0]) w fun v7 w =>
  lp [(.int .i64 0), (.int .i64 0)] w fun again1 vs1 w =>
  px P (bin false .lss 3 (g1 vs1) v7) w fun v9 w =>
  cnd v9 (
    px P (Instr.indexAt 43 v0 (g1 vs1)) w fun v10 w =>
    px P (Instr.loadAt 5 v10) w fun v11 w =>
    px P (bin true .shl 3 (g0 vs1) (.int .u64 8)) w fun v13 w =>
    px P (convert 5 3 v11) w fun v15 w =>
    px P (bin false .or 3 v13 v15) w fun v16 w =>
    px P (bin true .add 3 (g1 vs1) (.int .i64 1)) w fun v17 w =>
    again1 [v16, v17] w) (
    R (g0 vs1) w)
theorem c99 (h : F99 R v0 w) : cl P 99 #[v0] w R := cq ⟨[], [], [(3, [3, 8])], [], []⟩ Tryz.func99 (by kernel_rfl) (by kernel_rfl) h
def F100 (R : Value → World → Prop) (v0 v1 : Value) (w : World) : Prop :=
  px P (bin true .gtr 3 v1 (.int .i64 0)) w fun v6 w =>
  gd v6 true w (fun k => k v1 w) fun v8 w =>
  gd v6 true w (fun k => k v0 w) fun v9 w =>
  gd v6 true w (fun k => nc v9 w fun v w => k v w) fun v10 w =>
  gd v6 true w (fun k => px P (Instr.fieldAt 193 v10 7) w fun v w => k v w) fun v11 w =>
  gd v6 true w (fun k => px P (Instr.fieldAt 188 v11 1) w fun v w => k v w) fun v12 w =>
  gd v6 true w (fun k => px P (Instr.loadAt 3 v12) w fun v w => k v w) fun v13 w =>
  gd v6 true w (fun k => px P (bin false .lss 3 v8 v13) w fun v w => k v w) fun v14 w =>
  pk v6 v14 (.bool false) w fun v15 w =>
  gd v15 true w (fun k => k v0 w) fun v17 w =>
  gd v15 true w (fun k => nc v17 w fun v w => k v w) fun v18 w =>
  gd v15 true w (fun k => px P (Instr.fieldAt 193 v18 8) w fun v w => k v w) fun v19 w =>
  gd v15 true w (fun k => px P (Instr.loadAt 191 v19) w fun v w => k v w) fun v20 w =>
  gd v15 true w (fun k => k v1 w) fun v21 w =>
  gd v15 true w (fun k => px P (Instr.lookup 191 v20 v21 false) w fun v w => k v w) fun v22 w =>
  gd v15 true w (fun k => px P (Op.unary .not v22) w fun v w => k v w) fun v23 w =>
  pk v15 v23 (.bool false) w fun v24 w =>
  R v24 w
theorem c100 (h : F100 R v0 v1 w) : cl P 100 #[v0, v1] w R := cq ⟨[], [], [], [], []⟩ Tryz.func100 (by kernel_rfl) (by kernel_rfl) h
def F106 (R : Value → World → Prop) (v0 : Value) (w : World) : Prop :=
  cl P 108 #[v0] w fun v5 w =>
  px P (bin true .add 3 (.int .i64 1) v5) w fun v8 w =>
  cl P 29 #[v0] w fun v10 w =>
  px P (bin true .sub 3 v10 (.int .i64 1)) w fun v11 w =>
  px P (bin false .sub 3 v11 v5) w fun v13 w =>
  px P (Instr.makeMap 190 none) w fun v14 w =>
  px P (Instr.makeMap 190 none) w fun v15 w =>
  px P (Instr.makeMap 191 none) w fun v16 w =>
  px P (Instr.makeMap 191 none) w fun v17 w =>
  px P (Instr.build 193 #[(0, v0), (2, v8), (3, v13), (4, v14), (5, v15), (8, v16), (9, v17)]) w fun v18 w =>
  px P (Instr.box 193 v18) w fun v19 w =>
  R v19 w
theorem c106 (h : F106 R v0 w) : cl P 106 #[v0] w R := cq ⟨[], [], [], [], []⟩ Tryz.func106 (by kernel_rfl) (by kernel_rfl) h
def F109 (R : Value → World → Prop) (v0 v1 : Value) (w : World) : Prop :=
  px P (Builtin.len_ #[59] 3 #[v1]) w fun v12 w =>
  lp [(.int .i64 0)] w fun again1 vs1 w =>
  px P (bin false .lss 3 (g0 vs1) v12) w fun v14 w =>
  cnd v14 (
    px P (Instr.indexAt 59 v1 (g0 vs1)) w fun v15 w =>
    px P (Instr.loadAt 43 v15) w fun v16 w =>
    cl P 178 #[v16] w fun v18 w =>
    lp [] w fun again2 _ w =>
    cl P 179 #[v18] w fun v20 w =>
    gd v20 true w (fun k => k v18 w) fun v22 w =>
    gd v20 true w (fun k => cl P 180 #[v22] w fun v w => k v w) fun v23 w =>
    gd v20 true w (fun k => px P (Op.unary .not v23) w fun v w => k v w) fun v24 w =>
    pk v20 v24 (.bool false) w fun v25 w =>
    cnd v25 (
      nc v0 w fun v28 w =>
      px P (Instr.fieldAt 193 v28 3) w fun v29 w =>
      px P (Instr.loadAt 3 v29) w fun v30 w =>
      px P (bin true .sub 3 v30 (.int .i64 1)) w fun v31 w =>
      cl P 181 #[v18, v31] w fun v32 w =>
      cl P 182 #[v18, (.int .i64 512)] w fun v34 w =>
      cl P 179 #[v18] w fun v36 w =>
      px P (Op.unary .not v36) w fun v37 w =>
      cnd v37 (
        R (.bool false) w) <|
      px P (Instr.alloc 195 true (.tuple #[])) w fun v10 w =>
      px P (Instr.sliceAt 195 v10 none none none) w fun v38 w =>
      px P (Builtin.copy_ #[43, 9] 3 #[v38, v34]) w fun _ w =>
      dr w fun w =>
      ny v0 fun v42 =>
      py P (fun _ => True) (Instr.fieldAt 193 v42 4) fun v43 =>
      py P (Ext w) (Instr.loadAt 190 v43) fun v44 =>
      py P (Ext w) (Instr.loadAt 195 v10) fun v46 =>
      pu P (Instr.mapUpdate 190 v44 v32 v46) w fun w =>
      again2 [] w) (
      px P (bin true .add 3 (g0 vs1) (.int .i64 1)) w fun v47 w =>
      again1 [v47] w)) (
    R (.bool true) w)
theorem c109 (h : F109 R v0 v1 w) : cl P 109 #[v0, v1] w R := cq ⟨[], [], [(2, [13]), (5, [])], [], []⟩ Tryz.func109 (by kernel_rfl) (by kernel_rfl) h
def F110 (R : Value → World → Prop) (v0 v1 : Value) (w : World) : Prop :=
  nc v0 w fun v15 w =>
  px P (Instr.fieldAt 193 v15 4) w fun v16 w =>
  px P (Instr.loadAt 190 v16) w fun v17 w =>
  cl P 166 #[v17] w fun v18 w =>
  cl P 165 #[v18] w fun v19 w =>
  px P (Builtin.len_ #[48] 3 #[v19]) w fun v20 w =>
  lp [(.int .i64 0)] w fun again1 vs1 w =>
  px P (bin false .lss 3 (g0 vs1) v20) w fun v22 w =>
  cnd v22 (
    px P (Instr.indexAt 48 v19 (g0 vs1)) w fun v23 w =>
    px P (Instr.loadAt 3 v23) w fun v24 w =>
    nc v0 w fun v26 w =>
    px P (Instr.fieldAt 193 v26 4) w fun v27 w =>
    px P (Instr.loadAt 190 v27) w fun v28 w =>
    px P (Instr.lookup 190 v28 v24 false) w fun v30 w =>
    px P (Instr.alloc 195 true (.tuple #[])) w fun v7 w =>
    pu P (Instr.storeAt 195 v7 v30) w fun w =>
    dr w fun w =>
    ny v0 fun v32 =>
    py P (fun _ => True) (Instr.fieldAt 193 v32 0) fun v33 =>
    py P (Ext w) (Instr.loadAt 25 v33) fun v34 =>
    ny v0 fun v36 =>
    py P (fun _ => True) (Instr.fieldAt 193 v36 2) fun v37 =>
    py P (Ext w) (Instr.loadAt 3 v37) fun v38 =>
    py P (fun _ => True) (bin false .add 3 v38 v24) fun v40 =>
    py P (fun _ => True) (Instr.sliceAt 195 v7 none none none) fun v41 =>
    cl P 142 #[v34, v40, v41] w fun v42 w =>
    px P (bin true .neq 32 v42 (.int .i64 0)) w fun v44 w =>
    cnd v44 (
      R v42 w) <|
    px P (bin true .add 3 (g0 vs1) (.int .i64 1)) w fun v46 w =>
    again1 [v46] w) (
    nc v0 w fun v48 w =>
    px P (Instr.fieldAt 193 v48 0) w fun v49 w =>
    px P (Instr.loadAt 25 v49) w fun v50 w =>
    cl P 144 #[v50] w fun v51 w =>
    px P (bin true .neq 32 v51 (.int .i64 0)) w fun v53 w =>
    cnd v53 (
      R v51 w) <|
    nc v0 w fun v56 w =>
    px P (Instr.fieldAt 193 v56 0) w fun v57 w =>
    px P (Instr.loadAt 25 v57) w fun v58 w =>
    cl P 145 #[v58, v1] w fun v60 w =>
    px P (bin true .neq 32 v60 (.int .i64 0)) w fun v62 w =>
    cnd v62 (
      R v60 w) <|
    dr w fun w =>
    held w fun S =>
    ny v0 fun v66 =>
    py P (fun _ => True) (Instr.fieldAt 193 v66 0) fun v67 =>
    py P S (Instr.loadAt 25 v67) fun v68 =>
    ny v0 fun v70 =>
    py P (fun _ => True) (Instr.fieldAt 193 v70 0) fun v71 =>
    py P (Ext w) (Instr.loadAt 25 v71) fun v72 =>
    cl P 108 #[v72] w fun v73 w => hs S w <|
    cl P 107 #[v68, (.int .i64 1), v73, v1] w fun v75 w => hs S w <|
    py P (fun _ => True) (Instr.extract v75 0) fun v76 =>
    py P (fun _ => True) (Instr.extract v75 1) fun _ =>
    py P (fun _ => True) (Instr.extract v75 2) fun v78 =>
    px P (bin true .neq 32 v78 (.int .i64 0)) w fun v80 w =>
    cnd v80 (
      R v78 w) <|
    px P (Instr.makeMap 190 none) w fun v85 w =>
    nc v0 w fun v86 w =>
    px P (Instr.fieldAt 193 v86 1) w fun v87 w =>
    pu P (Instr.storeAt 189 v87 v76) w fun w =>
    nc v0 w fun v88 w =>
    px P (Instr.fieldAt 193 v88 4) w fun v89 w =>
    pu P (Instr.storeAt 190 v89 v85) w fun w =>
    R (.int .i64 0) w)
theorem c110 (h : F110 R v0 v1 w) : cl P 110 #[v0, v1] w R := cq ⟨[], [], [(2, [21])], [], [15]⟩ Tryz.func110 (by kernel_rfl) (by kernel_rfl) h
def F143 (R : Value → World → Prop) (v0 : Value) (w : World) : Prop :=
  px P (Instr.box 188 v0) w fun v1 w =>
  px P (Instr.alloc 195 true (.tuple #[])) w fun v2 w =>
  px P (Instr.alloc 195 true (.tuple #[])) w fun v3 w =>
  px P (Instr.fieldAt 188 v1 0) w fun v6 w =>
  px P (Instr.loadAt 3 v6) w fun v7 w =>
  px P (Instr.fieldAt 188 v1 1) w fun v8 w =>
  px P (Instr.loadAt 3 v8) w fun v9 w =>
  px P (Instr.fieldAt 188 v1 2) w fun v10 w =>
  px P (Instr.loadAt 3 v10) w fun v11 w =>
  px P (Instr.fieldAt 188 v1 3) w fun v12 w =>
  px P (Instr.loadAt 3 v12) w fun v13 w =>
  px P (Instr.buildSlice 48 4 #[(0, v7), (1, v9), (2, v11), (3, v13)]) w fun v14 w =>
  px P (Builtin.len_ #[48] 3 #[v14]) w fun v15 w =>
  lp [(.int .i64 0)] w fun again1 vs1 w =>
  px P (bin false .lss 3 (g0 vs1) v15) w fun v17 w =>
  cnd v17 (
    px P (Instr.indexAt 48 v14 (g0 vs1)) w fun v19 w =>
    px P (Instr.loadAt 3 v19) w fun v20 w =>
    px P (bin true .mul 3 (.int .i64 4) (g0 vs1)) w fun v22 w =>
    px P (bin true .mul 3 (.int .i64 4) (g0 vs1)) w fun v24 w =>
    px P (bin true .add 3 v24 (.int .i64 4)) w fun v25 w =>
    px P (Instr.sliceAt 195 v3 (some v22) (some v25) none) w fun v26 w =>
    cl P 206 #[v26, v20] w fun _ w =>
    px P (bin true .add 3 (g0 vs1) (.int .i64 1)) w fun v29 w =>
    again1 [v29] w) (
    px P (Instr.loadAt 195 v3) w fun v30 w =>
    pu P (Instr.storeAt 195 v2 v30) w fun w =>
    pla P 195 v2 w fun v2_1 =>
    R v2_1 w)
theorem c143 (h : F143 R v0 w) : cl P 143 #[v0] w R := cq ⟨[], [], [(3, [16])], [], []⟩ Tryz.func143 (by kernel_rfl) (by kernel_rfl) h
def F145 (R : Value → World → Prop) (v0 v1 : Value) (w : World) : Prop :=
  px P (Instr.alloc 195 true (.tuple #[])) w fun v5 w =>
  px P (Instr.sliceAt 195 v5 none none none) w fun v7 w =>
  px P (Builtin.copy_ #[43, 9] 3 #[v7, (.string ⟨#[98, 117, 116, 116, 101, 114, 121, 49]⟩)]) w fun _ w =>
  px P (Instr.sliceAt 195 v5 (some (.int .i64 8)) (some (.int .i64 16)) none) w fun v9 w =>
  cl P 206 #[v9, v1] w fun _ w =>
  px P (Instr.sliceAt 195 v5 none none none) w fun v13 w =>
  cl P 142 #[v0, (.int .i64 0), v13] w fun v14 w =>
  px P (bin true .neq 32 v14 (.int .i64 0)) w fun v16 w =>
  cnd v16 (
    R v14 w) <|
  cl P 144 #[v0] w fun v19 w =>
  R v19 w
theorem c145 (h : F145 R v0 v1 w) : cl P 145 #[v0, v1] w R := cq ⟨[], [], [], [], []⟩ Tryz.func145 (by kernel_rfl) (by kernel_rfl) h
def F151 (R : Value → World → Prop) (v0 v1 : Value) (w : World) : Prop :=
  px P (bin true .eql 26 v0 (.pointer none)) w fun v8 w =>
  cnd v8 (
    R (.int .i64 2) w) <|
  cl P 100 #[v0, v1] w fun v12 w =>
  px P (Op.unary .not v12) w fun v13 w =>
  cnd v13 (
    R (.int .i64 1) w) <|
  px P (Instr.alloc 195 true (.tuple #[])) w fun v5 w =>
  dr w fun w =>
  py P (fun _ => True) (Instr.sliceAt 195 v5 none (some (.int .i64 4)) none) fun v14 =>
  ny v0 fun v16 =>
  py P (fun _ => True) (Instr.fieldAt 193 v16 7) fun v17 =>
  py P (fun _ => True) (Instr.fieldAt 188 v17 2) fun v18 =>
  py P (Ext w) (Instr.loadAt 3 v18) fun v19 =>
  cl P 206 #[v14, v19] w fun _ w =>
  dr w fun w =>
  held w fun S =>
  ny v0 fun v22 =>
  py P (fun _ => True) (Instr.fieldAt 193 v22 5) fun v23 =>
  py P (Ext w) (Instr.loadAt 190 v23) fun v24 =>
  ny v0 fun v27 =>
  py P (fun _ => True) (Instr.fieldAt 193 v27 9) fun v28 =>
  py P (Ext w) (Instr.loadAt 191 v28) fun v29 =>
  py P S (Instr.loadAt 195 v5) fun v31 =>
  px P (Instr.mapEntry 190 v24 v1) w fun v32 w => hs S w <|
  py P (fun _ => True) (Instr.extract v32 1) fun v33 =>
  pu P (Instr.entryStore 190 v24 v33 v31) w fun w => hs S w <|
  px P (Instr.mapEntry 191 v29 v1) w fun v34 w => hs S w <|
  py P (fun _ => True) (Instr.extract v34 1) fun v35 =>
  pu P (Instr.entryStore 191 v29 v35 (.bool true)) w fun w => hs S w <|
  nc v0 w fun v40 w =>
  px P (Instr.fieldAt 193 v40 7) w fun v41 w =>
  px P (Instr.fieldAt 188 v41 3) w fun v42 w =>
  px P (Instr.loadAt 3 v42) w fun v43 w =>
  px P (bin true .add 3 v43 (.int .i64 1)) w fun v44 w =>
  nc v0 w fun v45 w =>
  px P (Instr.fieldAt 193 v45 7) w fun v46 w =>
  px P (Instr.fieldAt 188 v46 2) w fun v47 w =>
  pu P (Instr.storeAt 3 v47 v1) w fun w =>
  nc v0 w fun v48 w =>
  px P (Instr.fieldAt 193 v48 7) w fun v49 w =>
  px P (Instr.fieldAt 188 v49 3) w fun v50 w =>
  pu P (Instr.storeAt 3 v50 v44) w fun w =>
  nc v0 w fun v52 w =>
  px P (Instr.fieldAt 193 v52 8) w fun v53 w =>
  px P (Instr.loadAt 191 v53) w fun v54 w =>
  pu P (Instr.mapUpdate 191 v54 v1 (.bool true)) w fun w =>
  R (.int .i64 0) w
theorem c151 (h : F151 R v0 v1 w) : cl P 151 #[v0, v1] w R := cq ⟨[], [], [], [], [7]⟩ Tryz.func151 (by kernel_rfl) (by kernel_rfl) h
def F164 (R : Value → World → Prop) (v0 : Value) (w : World) : Prop :=
  px P (Instr.box 195 v0) w fun v1 w =>
  px P (Instr.alloc 188 true (.tuple #[])) w fun v2 w =>
  px P (Instr.makeFunc (.func 223) #[] #[v1]) w fun v4 w =>
  cv P v4 #[(.int .i64 0)] w fun v6 w =>
  cv P v4 #[(.int .i64 1)] w fun v8 w =>
  cv P v4 #[(.int .i64 2)] w fun v10 w =>
  cv P v4 #[(.int .i64 3)] w fun v12 w =>
  px P (Instr.build 188 #[(0, v6), (1, v8), (2, v10), (3, v12)]) w fun v13 w =>
  pu P (Instr.storeAt 188 v2 v13) w fun w =>
  pla P 188 v2 w fun v2_1 =>
  R v2_1 w
theorem c164 (h : F164 R v0 w) : cl P 164 #[v0] w R := cq ⟨[], [], [], [], []⟩ Tryz.func164 (by kernel_rfl) (by kernel_rfl) h
def F166 (R : Value → World → Prop) (v0 : Value) (w : World) : Prop :=
  px P (Instr.box 190 v0) w fun v1 w =>
  px P (Instr.makeFunc (.func 226) #[] #[v1]) w fun v3 w =>
  R v3 w
theorem c166 (h : F166 R v0 w) : cl P 166 #[v0] w R := cq ⟨[], [], [], [], []⟩ Tryz.func166 (by kernel_rfl) (by kernel_rfl) h
def F172 (R : Value → World → Prop) (v0 v1 : Value) (w : World) : Prop :=
  px P (Instr.range 190 v1) w fun v7 w =>
  lp [] w fun again1 _ w =>
  px P (Instr.next v7 false 0) w fun v8 w =>
  px P (Instr.extract v8 0) w fun v9 w =>
  cnd v9 (
    px P (Instr.entry v7) w fun v10 w =>
    px P (Instr.extract v10 0) w fun v11 w =>
    px P (Instr.extract v10 1) w fun v12 w =>
    px P (Instr.alloc 195 true (.tuple #[])) w fun v5 w =>
    pu P (Instr.storeAt 195 v5 v12) w fun w =>
    px P (Instr.loadAt 195 v5) w fun v15 w =>
    pu P (Instr.mapUpdate 190 v0 v11 v15) w fun w =>
    again1 [] w) (
    R (.tuple #[]) w)
theorem c172 (h : F172 R v0 v1 w) : cl P 172 #[v0, v1] w R := cq ⟨[], [], [(1, [])], [], []⟩ Tryz.func172 (by kernel_rfl) (by kernel_rfl) h
def F206 (R : Value → World → Prop) (v0 v1 : Value) (w : World) : Prop :=
  px P (Builtin.len_ #[43] 3 #[v0]) w fun v6 w =>
  lp [(.int .i64 0)] w fun again1 vs1 w =>
  px P (bin false .lss 3 (g0 vs1) v6) w fun v8 w =>
  cnd v8 (
    px P (Builtin.len_ #[43] 3 #[v0]) w fun v12 w =>
    px P (bin true .sub 3 v12 (.int .i64 1)) w fun v13 w =>
    px P (bin false .sub 3 v13 (g0 vs1)) w fun v15 w =>
    px P (bin true .mul 3 (.int .i64 8) (g0 vs1)) w fun v18 w =>
    px P (bin false .shr 3 v1 v18) w fun v19 w =>
    px P (convert 3 5 v19) w fun v20 w =>
    px P (Instr.indexAt 43 v0 v15) w fun v21 w =>
    pu P (Instr.storeAt 5 v21 v20) w fun w =>
    px P (bin true .add 3 (g0 vs1) (.int .i64 1)) w fun v22 w =>
    again1 [v22] w) (
    R (.tuple #[]) w)
theorem c206 (h : F206 R v0 v1 w) : cl P 206 #[v0, v1] w R := cq ⟨[], [], [(1, [7])], [], []⟩ Tryz.func206 (by kernel_rfl) (by kernel_rfl) h
def F208 (R : Value → World → Prop) (v0 v1 : Value) (w : World) : Prop :=
  px P (bin true .eql 26 v0 (.pointer none)) w fun v10 w =>
  cnd v10 (
    R (.tuple #[(.slice none 0 0), (.int .i64 2)]) w) <|
  cl P 100 #[v0, v1] w fun v14 w =>
  px P (Op.unary .not v14) w fun v15 w =>
  cnd v15 (
    R (.tuple #[(.slice none 0 0), (.int .i64 1)]) w) <|
  cl P 98 #[v0, v1] w fun v19 w =>
  px P (Instr.extract v19 0) w fun v20 w =>
  px P (Instr.extract v19 1) w fun v21 w =>
  px P (Instr.alloc 195 true (.tuple #[])) w fun v6 w =>
  pu P (Instr.storeAt 195 v6 v20) w fun w =>
  px P (bin true .neq 32 v21 (.int .i64 0)) w fun v23 w =>
  cnd v23 (
    R (.tuple #[(.slice none 0 0), v21]) w) <|
  px P (Instr.sliceAt 195 v6 none none none) w fun v25 w =>
  cl P 175 #[v25] w fun v26 w =>
  R (.tuple #[v26, (.int .i64 0)]) w
theorem c208 (h : F208 R v0 v1 w) : cl P 208 #[v0, v1] w R := cq ⟨[], [], [], [], []⟩ Tryz.func208 (by kernel_rfl) (by kernel_rfl) h
def F223 (R : Value → World → Prop) (v0 v1 : Value) (w : World) : Prop :=
  px P (bin true .mul 3 (.int .i64 4) v0) w fun v5 w =>
  px P (bin true .mul 3 (.int .i64 4) v0) w fun v7 w =>
  px P (bin true .add 3 v7 (.int .i64 4)) w fun v8 w =>
  px P (Instr.sliceAt 195 v1 (some v5) (some v8) none) w fun v9 w =>
  cl P 99 #[v9] w fun v10 w =>
  R v10 w
theorem c223 (h : F223 R v0 v1 w) : cl P 223 #[v0, v1] w R := cq ⟨[], [], [], [], []⟩ Tryz.func223 (by kernel_rfl) (by kernel_rfl) h
end Go.Proofs.YtomggfibpbaodaaGreatDoor
