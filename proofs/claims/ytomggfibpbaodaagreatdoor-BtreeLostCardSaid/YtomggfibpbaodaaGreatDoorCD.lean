/- What calls of the program's functions ask, step by step. -/
import Derived.Test.YtomggfibpbaodaaGreatDoorCA
set_option maxRecDepth 100000
namespace Go.Proofs.YtomggfibpbaodaaGreatDoor
open Go.V
variable {R : Value → World → Prop} {v0 v1 v2 v3 v4 v5 v6 v7 v8 v9 v10 v11 : Value} {w : World}
def F107 (R : Value → World → Prop) (v0 v1 v2 v3 : Value) (w : World) : Prop :=
  px P (bin true .eql 25 v0 (.pointer none)) w fun v20 w =>
  cnd v20 (
    R (.tuple #[(.pointer none), (.slice none 0 0), (.int .i64 2)]) w) <|
  cl P 29 #[v0] w fun v22 w =>
  px P (bin true .lss 3 v1 (.int .i64 0)) w fun v24 w =>
  gd v24 false w (fun k => k v2 w) fun v26 w =>
  gd v24 false w (fun k => px P (bin true .lss 3 v26 (.int .i64 1)) w fun v w => k v w) fun v27 w =>
  pk v24 (.bool true) v27 w fun v28 w =>
  gd v28 false w (fun k => k v2 w) fun v30 w =>
  gd v28 false w (fun k => k v22 w) fun v31 w =>
  gd v28 false w (fun k => px P (bin false .gtr 3 v30 v31) w fun v w => k v w) fun v32 w =>
  pk v28 (.bool true) v32 w fun v33 w =>
  gd v33 false w (fun k => k v1 w) fun v35 w =>
  gd v33 false w (fun k => k v22 w) fun v36 w =>
  gd v33 false w (fun k => k v2 w) fun v37 w =>
  gd v33 false w (fun k => px P (bin false .sub 3 v36 v37) w fun v w => k v w) fun v38 w =>
  gd v33 false w (fun k => px P (bin false .gtr 3 v35 v38) w fun v w => k v w) fun v39 w =>
  pk v33 (.bool true) v39 w fun v40 w =>
  gd v40 false w (fun k => k v3 w) fun v42 w =>
  gd v40 false w (fun k => px P (bin true .lss 3 v42 (.int .i64 0)) w fun v w => k v w) fun v43 w =>
  pk v40 (.bool true) v43 w fun v44 w =>
  gd v44 false w (fun k => k v3 w) fun v46 w =>
  gd v44 false w (fun k => px P (bin true .gtr 3 v46 (.int .i64 4611686018427387904)) w fun v w => k v w) fun v47 w =>
  pk v44 (.bool true) v47 w fun v48 w =>
  cnd v48 (
    R (.tuple #[(.pointer none), (.slice none 0 0), (.int .i64 1)]) w) <|
  px P (Instr.build 281 #[(0, v0), (1, v1), (2, v2), (3, v3), (4, v3), (5, v3)]) w fun v55 w =>
  px P (Instr.box 281 v55) w fun v56 w =>
  lp [(.int .i64 0)] w fun again1 vs1 w =>
  px P (bin false .lss 3 (g0 vs1) v2) w fun v59 w =>
  cnd v59 (
    px P (bin false .add 3 v1 (g0 vs1)) w fun v65 w =>
    cl P 176 #[v56, v65] w fun v66 w =>
    px P (Instr.extract v66 0) w fun v67 w =>
    px P (Instr.extract v66 1) w fun v68 w =>
    px P (Instr.extract v66 2) w fun v69 w =>
    px P (Instr.alloc 283 true (.tuple #[])) w fun v14 w =>
    pu P (Instr.storeAt 283 v14 v67) w fun w =>
    px P (bin true .neq 32 v69 (.int .i64 0)) w fun v71 w =>
    cnd v71 (
      R (.tuple #[(.pointer none), (.slice none 0 0), v69]) w) <|
    cut (fun J2 =>
      cnd v68 (
        dr w fun w =>
        ny v56 fun v76 =>
        py P (fun _ => True) (Instr.fieldAt 281 v76 5) fun v77 =>
        py P (Ext w) (Instr.loadAt 3 v77) fun v78 =>
        py P (fun _ => True) (Instr.fieldAt 283 v14 0) fun v79 =>
        py P (Ext w) (Instr.loadAt 3 v79) fun v80 =>
        py P (fun _ => True) (Builtin.max_ #[3, 3] 3 #[v78, v80]) fun v81 =>
        ny v56 fun v82 =>
        py P (fun _ => True) (Instr.fieldAt 281 v82 5) fun v83 =>
        pu P (Instr.storeAt 3 v83 v81) w fun w =>
        J2 [] w) (
        J2 [] w)) fun _ w =>
    px P (bin true .add 3 (g0 vs1) (.int .i64 1)) w fun v84 w =>
    again1 [v84] w) (
    cl P 177 #[v56] w fun v87 w =>
    px P (Instr.extract v87 0) w fun v88 w =>
    px P (Instr.extract v87 1) w fun v89 w =>
    px P (bin true .neq 32 v89 (.int .i64 0)) w fun v91 w =>
    cnd v91 (
      R (.tuple #[(.pointer none), (.slice none 0 0), v89]) w) <|
    R (.tuple #[v56, v88, (.int .i64 0)]) w)
theorem c107 (h : F107 R v0 v1 v2 v3 w) : cl P 107 #[v0, v1, v2, v3] w R := cq ⟨[(14, [])], [], [(8, [58])], [], []⟩ Tryz.func107 (by kernel_rfl) (by kernel_rfl) h
def F108 (R : Value → World → Prop) (v0 : Value) (w : World) : Prop :=
  cl P 29 #[v0] w fun v4 w =>
  px P (bin true .quo 3 v4 (.int .i64 4)) w fun v5 w =>
  R v5 w
theorem c108 (h : F108 R v0 w) : cl P 108 #[v0] w R := cq ⟨[], [], [], [], []⟩ Tryz.func108 (by kernel_rfl) (by kernel_rfl) h
def F111 (R : Value → World → Prop) (v0 : Value) (w : World) : Prop :=
  px P (bin true .eql 189 v0 (.pointer none)) w fun v4 w =>
  cnd v4 (
    R (.int .i64 0) w) <|
  nc v0 w fun v6 w =>
  px P (Instr.fieldAt 281 v6 5) w fun v7 w =>
  px P (Instr.loadAt 3 v7) w fun v8 w =>
  R v8 w
theorem c111 (h : F111 R v0 w) : cl P 111 #[v0] w R := cq ⟨[], [], [], [], []⟩ Tryz.func111 (by kernel_rfl) (by kernel_rfl) h
def F170 (R : Value → World → Prop) (v0 v1 : Value) (w : World) : Prop :=
  cl P 232 #[v0] w fun v12 w =>
  px P (bin true .neq 32 v12 (.int .i64 0)) w fun v14 w =>
  cnd v14 (
    R v12 w) <|
  px P (Builtin.len_ #[43] 3 #[v1]) w fun v17 w =>
  cl P 233 #[v17] w fun v18 w =>
  nc v0 w fun v22 w =>
  px P (Instr.fieldAt 281 v22 2) w fun v23 w =>
  px P (Instr.loadAt 3 v23) w fun v24 w =>
  px P (bin false .gtr 3 v18 v24) w fun v25 w =>
  cnd v25 (
    R (.int .i64 40) w) <|
  cl P 234 #[v0] w fun v28 w =>
  cnd v28 (
    R (.int .i64 50) w) <|
  cl P 235 #[v0] w fun v32 w =>
  px P (bin false .gtr 3 v18 v32) w fun v33 w =>
  cnd v33 (
    R (.int .i64 3) w) <|
  nc v0 w fun v36 w =>
  px P (Instr.fieldAt 281 v36 4) w fun v37 w =>
  px P (Instr.loadAt 3 v37) w fun v38 w =>
  px P (bin true .sub 3 (.int .i64 4611686018427387904) v18) w fun v40 w =>
  px P (bin false .gtr 3 v38 v40) w fun v41 w =>
  cnd v41 (
    R (.int .i64 70) w) <|
  lp [(.int .i64 0)] w fun again1 vs1 w =>
  px P (bin false .lss 3 (g0 vs1) v18) w fun v44 w =>
  cnd v44 (
    dr w fun w =>
    ny v0 fun v47 =>
    py P (fun _ => True) (Instr.fieldAt 281 v47 4) fun v48 =>
    py P (Ext w) (Instr.loadAt 3 v48) fun v49 =>
    py P (fun _ => True) (bin true .add 3 v49 (.int .i64 1)) fun v50 =>
    py P (fun _ => True) (bin false .add 3 v50 (g0 vs1)) fun v52 =>
    py P (fun _ => True) (bin true .sub 3 v18 (.int .i64 1)) fun v55 =>
    py P (fun _ => True) (bin false .eql 3 (g0 vs1) v55) fun v56 =>
    py P (fun _ => True) (bin true .mul 3 (g0 vs1) (.int .i64 501)) fun v59 =>
    py P (fun _ => True) (bin true .mul 3 (g0 vs1) (.int .i64 501)) fun v61 =>
    py P (fun _ => True) (bin true .add 3 v61 (.int .i64 501)) fun v62 =>
    py P (fun _ => True) (Builtin.len_ #[43] 3 #[v1]) fun v64 =>
    py P (fun _ => True) (Builtin.min_ #[3, 3] 3 #[v62, v64]) fun v65 =>
    py P (fun _ => True) (Instr.sliceAt 43 v1 (some v59) (some v65) none) fun v66 =>
    py P (fun _ => True) (Instr.build 283 #[(0, v52), (1, v56), (2, v66)]) fun v67 =>
    pg P (Instr.alloc 283 true (.tuple #[])) w fun v8 w =>
    pu P (Instr.storeAt 283 v8 v67) w fun w =>
    px P (Instr.loadAt 283 v8) w fun v68 w =>
    cl P 236 #[v68] w fun v69 w =>
    px P (Instr.alloc 329 true (.tuple #[])) w fun v9 w =>
    pu P (Instr.storeAt 329 v9 v69) w fun w =>
    dr w fun w =>
    held w fun S =>
    ny v0 fun v71 =>
    py P (fun _ => True) (Instr.fieldAt 281 v71 0) fun v72 =>
    py P S (Instr.loadAt 25 v72) fun v73 =>
    py P (fun _ => True) (Instr.fieldAt 283 v8 0) fun v75 =>
    py P (Ext w) (Instr.loadAt 3 v75) fun v76 =>
    py P (fun _ => True) (Instr.sliceAt 329 v9 none none none) fun v78 =>
    cl P 237 #[v0, v76] w fun v77 w => hs S w <|
    cl P 142 #[v73, v77, v78] w fun v79 w => hs S w <|
    px P (bin true .neq 32 v79 (.int .i64 0)) w fun v81 w =>
    cnd v81 (
      R (.int .i64 20) w) <|
    px P (bin true .add 3 (g0 vs1) (.int .i64 1)) w fun v82 w =>
    again1 [v82] w) (
    nc v0 w fun v84 w =>
    px P (Instr.fieldAt 281 v84 4) w fun v85 w =>
    px P (Instr.loadAt 3 v85) w fun v86 w =>
    px P (bin false .add 3 v86 v18) w fun v88 w =>
    nc v0 w fun v89 w =>
    px P (Instr.fieldAt 281 v89 4) w fun v90 w =>
    pu P (Instr.storeAt 3 v90 v88) w fun w =>
    nc v0 w fun v93 w =>
    px P (Instr.fieldAt 281 v93 4) w fun v94 w =>
    px P (Instr.loadAt 3 v94) w fun v95 w =>
    nc v0 w fun v96 w =>
    px P (Instr.fieldAt 281 v96 5) w fun v97 w =>
    pu P (Instr.storeAt 3 v97 v95) w fun w =>
    R (.int .i64 0) w)
theorem c170 (h : F170 R v0 v1 w) : cl P 170 #[v0, v1] w R := cq ⟨[], [], [(14, [43])], [], [18]⟩ Tryz.func170 (by kernel_rfl) (by kernel_rfl) h
def F171 (R : Value → World → Prop) (v0 : Value) (w : World) : Prop :=
  cl P 232 #[v0] w fun v6 w =>
  px P (bin true .neq 32 v6 (.int .i64 0)) w fun v8 w =>
  cnd v8 (
    R v6 w) <|
  nc v0 w fun v11 w =>
  px P (Instr.fieldAt 281 v11 0) w fun v12 w =>
  px P (Instr.loadAt 25 v12) w fun v13 w =>
  cl P 144 #[v13] w fun v14 w =>
  px P (bin true .neq 32 v14 (.int .i64 0)) w fun v16 w =>
  cnd v16 (
    R (.int .i64 20) w) <|
  R (.int .i64 0) w
theorem c171 (h : F171 R v0 w) : cl P 171 #[v0] w R := cq ⟨[], [], [], [], []⟩ Tryz.func171 (by kernel_rfl) (by kernel_rfl) h
def F176 (R : Value → World → Prop) (v0 v1 : Value) (w : World) : Prop :=
  px P (Instr.alloc 283 true (.tuple #[])) w fun v4 w =>
  nc v0 w fun v10 w =>
  px P (Instr.fieldAt 281 v10 0) w fun v11 w =>
  px P (Instr.loadAt 25 v11) w fun v12 w =>
  cl P 105 #[v12, v1] w fun v14 w =>
  px P (Instr.extract v14 0) w fun v15 w =>
  px P (Instr.extract v14 1) w fun v16 w =>
  px P (bin true .neq 32 v16 (.int .i64 0)) w fun v18 w =>
  cnd v18 (
    px P (Instr.build 283 #[]) w fun v19 w =>
    pu P (Instr.storeAt 283 v4 v19) w fun w =>
    pla P 283 v4 w fun v4_1 =>
    R (.tuple #[v4_1, (.bool false), v16]) w) <|
  px P (Instr.arrayAt 329 v15) w fun v23 w =>
  px P (Instr.loadAt 329 v23) w fun v24 w =>
  cl P 238 #[v24] w fun v25 w =>
  px P (Instr.extract v25 0) w fun v26 w =>
  px P (Instr.extract v25 1) w fun v27 w =>
  pu P (Instr.storeAt 283 v4 v26) w fun w =>
  dr w fun w =>
  held w fun S =>
  py P S (Instr.loadAt 283 v4) fun v28 =>
  gy v27 true (fun k => k v0) fun v31 =>
  gy v27 true (fun k => py P (fun _ => True) (Instr.fieldAt 283 v4 0) fun v => k v) fun v32 =>
  gy v27 true (fun k => py P (Ext w) (Instr.loadAt 3 v32) fun v => k v) fun v33 =>
  gy v27 true (fun k => k v1) fun v35 =>
  gd v27 true w (fun k => cl P 237 #[v31, v33] w fun v w => k v w) fun v34 w => hs S w <|
  gy v27 true (fun k => py P (fun _ => True) (bin false .eql 3 v34 v35) fun v => k v) fun v36 =>
  pky v27 v36 (.bool false) fun v37 =>
  pu P (Instr.storeAt 283 v4 v28) w fun w => hs S w <|
  pla P 283 v4 w fun v4_2 =>
  R (.tuple #[v4_2, v37, (.int .i64 0)]) w
theorem c176 (h : F176 R v0 v1 w) : cl P 176 #[v0, v1] w R := cq ⟨[], [], [], [], [5]⟩ Tryz.func176 (by kernel_rfl) (by kernel_rfl) h
def F177 (R : Value → World → Prop) (v0 : Value) (w : World) : Prop :=
  cl P 239 #[v0] w fun v11 w =>
  lp [(.slice none 0 0), (.slice none 0 0)] w fun again1 vs1 w =>
  cv P v11 #[] w fun v14 w =>
  px P (Instr.extract v14 0) w fun v15 w =>
  px P (Instr.extract v14 1) w fun v16 w =>
  px P (Instr.extract v14 2) w fun v17 w =>
  px P (Instr.alloc 283 true (.tuple #[])) w fun v7 w =>
  pu P (Instr.storeAt 283 v7 v15) w fun w =>
  px P (bin true .neq 32 v17 (.int .i64 0)) w fun v19 w =>
  gd v19 false w (fun k => k v16 w) fun v21 w =>
  gd v19 false w (fun k => px P (Op.unary .not v21) w fun v w => k v w) fun v22 w =>
  pk v19 (.bool true) v22 w fun v23 w =>
  cnd v23 (
    R (.tuple #[(g0 vs1), v17]) w) <|
  px P (Instr.fieldAt 283 v7 2) w fun v27 w =>
  px P (Instr.loadAt 43 v27) w fun v28 w =>
  px P (Builtin.append_ #[43, 43] 43 #[(g1 vs1), v28]) w fun v29 w =>
  px P (Instr.fieldAt 283 v7 1) w fun v30 w =>
  px P (Instr.loadAt 4 v30) w fun v31 w =>
  cut (fun J2 =>
    cnd v31 (
      dr w fun w =>
      held w fun S =>
      py P (fun _ => True) (Instr.fieldAt 283 v7 0) fun v37 =>
      py P S (Instr.loadAt 3 v37) fun v38 =>
      pg P (Instr.buildSlice 59 1 #[(0, v29)]) w fun v35 w => hs S w <|
      px P (Builtin.append_ #[59, 59] 59 #[(g0 vs1), v35]) w fun v36 w => hs S w <|
      ny v0 fun v39 =>
      py P (fun _ => True) (Instr.fieldAt 281 v39 4) fun v40 =>
      pu P (Instr.storeAt 3 v40 v38) w fun w => hs S w <|
      J2 [v36, (.slice none 0 0)] w) (
      J2 [(g0 vs1), v29] w)) fun vs2 w =>
  again1 [(g0 vs2), (g1 vs2)] w
theorem c177 (h : F177 R v0 w) : cl P 177 #[v0] w R := cq ⟨[(9, [4, 5])], [], [(4, [4, 5])], [], [9]⟩ Tryz.func177 (by kernel_rfl) (by kernel_rfl) h
def F232 (R : Value → World → Prop) (v0 : Value) (w : World) : Prop :=
  px P (bin true .eql 189 v0 (.pointer none)) w fun v5 w =>
  cnd v5 (
    R (.int .i64 2) w) <|
  nc v0 w fun v8 w =>
  px P (Instr.fieldAt 281 v8 0) w fun v9 w =>
  px P (Instr.loadAt 25 v9) w fun v10 w =>
  cl P 35 #[v10] w fun v11 w =>
  cnd v11 (
    R (.int .i64 20) w) <|
  R (.int .i64 0) w
theorem c232 (h : F232 R v0 w) : cl P 232 #[v0] w R := cq ⟨[], [], [], [], []⟩ Tryz.func232 (by kernel_rfl) (by kernel_rfl) h
def F233 (R : Value → World → Prop) (v0 : Value) (w : World) : Prop :=
  px P (bin true .lss 3 v0 (.int .i64 0)) w fun v5 w =>
  cnd v5 (
    R (.int .i64 0) w) <|
  px P (bin true .eql 3 v0 (.int .i64 0)) w fun v8 w =>
  cnd v8 (
    R (.int .i64 1) w) <|
  px P (bin true .sub 3 v0 (.int .i64 1)) w fun v10 w =>
  px P (bin true .quo 3 v10 (.int .i64 501)) w fun v11 w =>
  px P (bin true .add 3 v11 (.int .i64 1)) w fun v12 w =>
  R v12 w
theorem c233 (h : F233 R v0 w) : cl P 233 #[v0] w R := cq ⟨[], [], [], [], []⟩ Tryz.func233 (by kernel_rfl) (by kernel_rfl) h
def F234 (R : Value → World → Prop) (v0 : Value) (w : World) : Prop :=
  dr w fun w =>
  ny v0 fun v4 =>
  py P (fun _ => True) (Instr.fieldAt 281 v4 5) fun v5 =>
  py P (Ext w) (Instr.loadAt 3 v5) fun v6 =>
  ny v0 fun v8 =>
  py P (fun _ => True) (Instr.fieldAt 281 v8 4) fun v9 =>
  py P (Ext w) (Instr.loadAt 3 v9) fun v10 =>
  py P (fun _ => True) (bin false .gtr 3 v6 v10) fun v11 =>
  R v11 w
theorem c234 (h : F234 R v0 w) : cl P 234 #[v0] w R := cq ⟨[], [], [], [], []⟩ Tryz.func234 (by kernel_rfl) (by kernel_rfl) h
def F235 (R : Value → World → Prop) (v0 : Value) (w : World) : Prop :=
  px P (bin true .eql 189 v0 (.pointer none)) w fun v4 w =>
  gd v4 false w (fun k => k v0 w) fun v6 w =>
  gd v4 false w (fun k => cl P 234 #[v6] w fun v w => k v w) fun v7 w =>
  pk v4 (.bool true) v7 w fun v8 w =>
  cnd v8 (
    R (.int .i64 0) w) <|
  dr w fun w =>
  ny v0 fun v10 =>
  py P (fun _ => True) (Instr.fieldAt 281 v10 2) fun v11 =>
  py P (Ext w) (Instr.loadAt 3 v11) fun v12 =>
  ny v0 fun v14 =>
  py P (fun _ => True) (Instr.fieldAt 281 v14 4) fun v15 =>
  py P (Ext w) (Instr.loadAt 3 v15) fun v16 =>
  ny v0 fun v18 =>
  py P (fun _ => True) (Instr.fieldAt 281 v18 3) fun v19 =>
  py P (Ext w) (Instr.loadAt 3 v19) fun v20 =>
  py P (fun _ => True) (bin false .sub 3 v16 v20) fun v21 =>
  py P (fun _ => True) (bin false .sub 3 v12 v21) fun v22 =>
  R v22 w
theorem c235 (h : F235 R v0 w) : cl P 235 #[v0] w R := cq ⟨[], [], [], [], []⟩ Tryz.func235 (by kernel_rfl) (by kernel_rfl) h
def F236 (R : Value → World → Prop) (v0 : Value) (w : World) : Prop :=
  px P (Instr.box 283 v0) w fun v1 w =>
  px P (Instr.alloc 329 true (.tuple #[])) w fun v2 w =>
  px P (Instr.alloc 329 true (.tuple #[])) w fun v3 w =>
  lp [(.int .i64 0)] w fun again1 vs1 w =>
  px P (bin true .lss 3 (g0 vs1) (.int .i64 8)) w fun v6 w =>
  cnd v6 (
    px P (Instr.fieldAt 283 v1 0) w fun v9 w =>
    px P (Instr.loadAt 3 v9) w fun v10 w =>
    px P (bin true .mul 3 (.int .i64 8) (g0 vs1)) w fun v12 w =>
    px P (bin false .shr 3 v10 v12) w fun v13 w =>
    px P (convert 3 5 v13) w fun v14 w =>
    px P (Instr.indexAt 329 v3 (g0 vs1)) w fun v15 w =>
    pu P (Instr.storeAt 5 v15 v14) w fun w =>
    px P (bin true .add 3 (g0 vs1) (.int .i64 1)) w fun v16 w =>
    again1 [v16] w) (
    px P (Instr.fieldAt 283 v1 1) w fun v17 w =>
    px P (Instr.loadAt 4 v17) w fun v18 w =>
    cut (fun J2 =>
      cnd v18 (
        px P (Instr.indexAt 329 v3 (.int .i64 8)) w fun v19 w =>
        pu P (Instr.storeAt 5 v19 (.int .u8 1)) w fun w =>
        J2 [] w) (
        J2 [] w)) fun _ w =>
    dr w fun w =>
    held w fun S =>
    py P (fun _ => True) (Instr.fieldAt 283 v1 2) fun v20 =>
    py P (Ext w) (Instr.loadAt 43 v20) fun v21 =>
    py P (fun _ => True) (Builtin.len_ #[43] 3 #[v21]) fun v22 =>
    py P (fun _ => True) (convert 3 5 v22) fun v23 =>
    py P (fun _ => True) (Instr.fieldAt 283 v1 2) fun v24 =>
    py P S (Instr.loadAt 43 v24) fun v25 =>
    py P (fun _ => True) (Builtin.len_ #[43] 3 #[v25]) fun v26 =>
    py P (fun _ => True) (bin true .shr 3 v26 (.int .u64 8)) fun v27 =>
    py P (fun _ => True) (convert 3 5 v27) fun v28 =>
    py P (fun _ => True) (Instr.indexAt 329 v3 (.int .i64 9)) fun v29 =>
    pu P (Instr.storeAt 5 v29 v23) w fun w => hs S w <|
    py P (fun _ => True) (Instr.indexAt 329 v3 (.int .i64 10)) fun v30 =>
    pu P (Instr.storeAt 5 v30 v28) w fun w => hs S w <|
    dr w fun w =>
    py P (fun _ => True) (Instr.sliceAt 329 v3 (some (.int .i64 11)) none none) fun v31 =>
    py P (fun _ => True) (Instr.fieldAt 283 v1 2) fun v32 =>
    py P (Ext w) (Instr.loadAt 43 v32) fun v33 =>
    px P (Builtin.copy_ #[43, 43] 3 #[v31, v33]) w fun _ w =>
    px P (Instr.loadAt 329 v3) w fun v35 w =>
    pu P (Instr.storeAt 329 v2 v35) w fun w =>
    pla P 329 v2 w fun v2_1 =>
    R v2_1 w)
theorem c236 (h : F236 R v0 w) : cl P 236 #[v0] w R := cq ⟨[(8, [])], [], [(3, [5])], [], [9]⟩ Tryz.func236 (by kernel_rfl) (by kernel_rfl) h
def F237 (R : Value → World → Prop) (v0 v1 : Value) (w : World) : Prop :=
  dr w fun w =>
  ny v0 fun v6 =>
  py P (fun _ => True) (Instr.fieldAt 281 v6 1) fun v7 =>
  py P (Ext w) (Instr.loadAt 3 v7) fun v8 =>
  ny v0 fun v11 =>
  py P (fun _ => True) (Instr.fieldAt 281 v11 2) fun v12 =>
  py P (Ext w) (Instr.loadAt 3 v12) fun v13 =>
  py P (fun _ => True) (bin false .rem 3 v1 v13) fun v14 =>
  py P (fun _ => True) (bin false .add 3 v8 v14) fun v15 =>
  R v15 w
theorem c237 (h : F237 R v0 v1 w) : cl P 237 #[v0, v1] w R := cq ⟨[], [], [], [], []⟩ Tryz.func237 (by kernel_rfl) (by kernel_rfl) h
def F238 (R : Value → World → Prop) (v0 : Value) (w : World) : Prop :=
  px P (Instr.box 329 v0) w fun v1 w =>
  px P (Instr.alloc 283 true (.tuple #[])) w fun v2 w =>
  dr w fun w =>
  py P (fun _ => True) (Instr.indexAt 329 v1 (.int .i64 9)) fun v8 =>
  py P (Ext w) (Instr.loadAt 5 v8) fun v9 =>
  py P (fun _ => True) (convert 5 3 v9) fun v10 =>
  py P (fun _ => True) (Instr.indexAt 329 v1 (.int .i64 10)) fun v11 =>
  py P (Ext w) (Instr.loadAt 5 v11) fun v12 =>
  py P (fun _ => True) (convert 5 3 v12) fun v13 =>
  py P (fun _ => True) (bin true .shl 3 v13 (.int .u64 8)) fun v14 =>
  py P (fun _ => True) (bin false .or 3 v10 v14) fun v15 =>
  lp [(.int .u64 0), (.int .i64 0)] w fun again1 vs1 w =>
  px P (bin true .lss 3 (g1 vs1) (.int .i64 8)) w fun v17 w =>
  cnd v17 (
    px P (Instr.indexAt 329 v1 (g1 vs1)) w fun v21 w =>
    px P (Instr.loadAt 5 v21) w fun v22 w =>
    px P (convert 5 321 v22) w fun v23 w =>
    px P (bin true .mul 3 (.int .i64 8) (g1 vs1)) w fun v25 w =>
    px P (bin false .shl 321 v23 v25) w fun v26 w =>
    px P (bin false .or 321 (g0 vs1) v26) w fun v27 w =>
    px P (bin true .add 3 (g1 vs1) (.int .i64 1)) w fun v28 w =>
    again1 [v27, v28] w) (
    px P (bin true .lss 321 (g0 vs1) (.int .u64 1)) w fun v30 w =>
    gd v30 false w (fun k => k (g0 vs1) w) fun v32 w =>
    gd v30 false w (fun k => px P (bin true .gtr 321 v32 (.int .u64 4611686018427387904)) w fun v w => k v w) fun v33 w =>
    pk v30 (.bool true) v33 w fun v34 w =>
    gd v34 false w (fun k => k v15 w) fun v36 w =>
    gd v34 false w (fun k => px P (bin true .gtr 3 v36 (.int .i64 501)) w fun v w => k v w) fun v37 w =>
    pk v34 (.bool true) v37 w fun v38 w =>
    cnd v38 (
      px P (Instr.build 283 #[]) w fun v39 w =>
      pu P (Instr.storeAt 283 v2 v39) w fun w =>
      pla P 283 v2 w fun v2_1 =>
      R (.tuple #[v2_1, (.bool false)]) w) <|
    cut (fun J2 =>
      dr w fun w =>
      held w fun S =>
      py P (fun _ => True) (convert 321 3 (g0 vs1)) fun v41 =>
      py P (fun _ => True) (Instr.indexAt 329 v1 (.int .i64 8)) fun v42 =>
      py P S (Instr.loadAt 5 v42) fun v43 =>
      py P (fun _ => True) (bin true .eql 5 v43 (.int .u8 1)) fun v44 =>
      py P (fun _ => True) (bin true .add 3 (.int .i64 11) v15) fun v47 =>
      py P (fun _ => True) (Instr.sliceAt 329 v1 (some (.int .i64 11)) (some v47) none) fun v48 =>
      (
        pg P (Instr.buildSlice 43 0 #[]) w fun v45 w => hs S w <|
        (
          px P (Builtin.append_ #[43, 43] 43 #[v45, v48]) w fun v49 w => hs S w <|
          py P (fun _ => True) (Instr.build 283 #[(0, v41), (1, v44), (2, v49)]) fun v50 =>
          pg P (Instr.alloc 283 true (.tuple #[])) w fun v7 w => hs S w <|
          pu P (Instr.storeAt 283 v7 v50) w fun w => hs S w <|
          J2 [v7] w) ∧
        (
          pg P (Instr.alloc 283 true (.tuple #[])) w fun v7_1 w => hs S w <|
          px P (Builtin.append_ #[43, 43] 43 #[v45, v48]) w fun v49_1 w => hs S w <|
          py P (fun _ => True) (Instr.build 283 #[(0, v41), (1, v44), (2, v49_1)]) fun v50_1 =>
          pu P (Instr.storeAt 283 v7_1 v50_1) w fun w => hs S w <|
          J2 [v7_1] w)) ∧
      (
        pg P (Instr.alloc 283 true (.tuple #[])) w fun v7_2 w => hs S w <|
        pg P (Instr.buildSlice 43 0 #[]) w fun v45_1 w => hs S w <|
        px P (Builtin.append_ #[43, 43] 43 #[v45_1, v48]) w fun v49_2 w => hs S w <|
        py P (fun _ => True) (Instr.build 283 #[(0, v41), (1, v44), (2, v49_2)]) fun v50_2 =>
        pu P (Instr.storeAt 283 v7_2 v50_2) w fun w => hs S w <|
        J2 [v7_2] w)) fun vs2 w =>
    dr w fun w =>
    held w fun S =>
    py P (Ext w) (Instr.loadAt 283 (g0 vs2)) fun v51 =>
    py P S (Instr.loadAt 329 v1) fun v53 =>
    cl P 236 #[v51] w fun v52 w => hs S w <|
    py P (fun _ => True) (bin false .neq 329 v52 v53) fun v54 =>
    gy v54 false (fun k => py P (fun _ => True) (Instr.fieldAt 283 (g0 vs2) 1) fun v => k v) fun v56 =>
    gy v54 false (fun k => py P (Ext w) (Instr.loadAt 4 v56) fun v => k v) fun v57 =>
    gy v54 false (fun k => py P (fun _ => True) (Op.unary .not v57) fun v => k v) fun v58 =>
    gy v54 false (fun k => k v58) fun v59 =>
    gy v59 true (fun k => k v15) fun v60 =>
    gy v59 true (fun k => py P (fun _ => True) (bin true .neq 3 v60 (.int .i64 501)) fun v => k v) fun v61 =>
    gy v54 false (fun k => pky v59 v61 (.bool false) fun v => k v) fun v62 =>
    pky v54 (.bool true) v62 fun v63 =>
    cnd v63 (
      px P (Instr.build 283 #[]) w fun v64 w =>
      pu P (Instr.storeAt 283 v2 v64) w fun w =>
      pla P 283 v2 w fun v2_2 =>
      R (.tuple #[v2_2, (.bool false)]) w) <|
    px P (Instr.loadAt 283 (g0 vs2)) w fun v65 w =>
    pu P (Instr.storeAt 283 v2 v65) w fun w =>
    pla P 283 v2 w fun v2_3 =>
    R (.tuple #[v2_3, (.bool true)]) w)
theorem c238 (h : F238 R v0 w) : cl P 238 #[v0] w R := cq ⟨[], [], [(3, [4, 16])], [(9, [7])], [9, 10]⟩ Tryz.func238 (by kernel_rfl) (by kernel_rfl) h
def F239 (R : Value → World → Prop) (v0 : Value) (w : World) : Prop :=
  px P (Instr.box 189 v0) w fun v1 w =>
  px P (Instr.loadAt 189 v1) w fun v4 w =>
  nc v4 w fun v5 w =>
  px P (Instr.fieldAt 281 v5 3) w fun v6 w =>
  px P (Instr.loadAt 3 v6) w fun v7 w =>
  px P (Instr.alloc 3 true (.tuple #[])) w fun v3 w =>
  pu P (Instr.storeAt 3 v3 v7) w fun w =>
  px P (Instr.makeFunc (.func 276) #[] #[v3, v1]) w fun v8 w =>
  R v8 w
theorem c239 (h : F239 R v0 w) : cl P 239 #[v0] w R := cq ⟨[], [], [], [], []⟩ Tryz.func239 (by kernel_rfl) (by kernel_rfl) h
def F276 (R : Value → World → Prop) (v0 v1 : Value) (w : World) : Prop :=
  px P (Instr.alloc 283 true (.tuple #[])) w fun v2 w =>
  dr w fun w =>
  py P (Ext w) (Instr.loadAt 3 v0) fun v8 =>
  py P (Ext w) (Instr.loadAt 189 v1) fun v9 =>
  ny v9 fun v10 =>
  py P (fun _ => True) (Instr.fieldAt 281 v10 3) fun v11 =>
  py P (Ext w) (Instr.loadAt 3 v11) fun v12 =>
  py P (fun _ => True) (bin false .sub 3 v8 v12) fun v13 =>
  py P (Ext w) (Instr.loadAt 189 v1) fun v14 =>
  ny v14 fun v15 =>
  py P (fun _ => True) (Instr.fieldAt 281 v15 2) fun v16 =>
  py P (Ext w) (Instr.loadAt 3 v16) fun v17 =>
  py P (fun _ => True) (bin false .eql 3 v13 v17) fun v18 =>
  cnd v18 (
    px P (Instr.build 283 #[]) w fun v19 w =>
    pu P (Instr.storeAt 283 v2 v19) w fun w =>
    pla P 283 v2 w fun v2_1 =>
    R (.tuple #[v2_1, (.bool false), (.int .i64 0)]) w) <|
  px P (Instr.loadAt 3 v0) w fun v20 w =>
  px P (bin true .add 3 v20 (.int .i64 1)) w fun v21 w =>
  pu P (Instr.storeAt 3 v0 v21) w fun w =>
  cut (fun J1 =>
    dr w fun w =>
    held w fun S =>
    py P S (Instr.loadAt 189 v1) fun v23 =>
    py P (Ext w) (Instr.loadAt 189 v1) fun v24 =>
    py P (Ext w) (Instr.loadAt 3 v0) fun v25 =>
    (
      cl P 237 #[v24, v25] w fun v26 w => hs S w <|
      (
        cl P 176 #[v23, v26] w fun v27 w => hs S w <|
        py P (fun _ => True) (Instr.extract v27 0) fun v28 =>
        py P (fun _ => True) (Instr.extract v27 1) fun v29 =>
        py P (fun _ => True) (Instr.extract v27 2) fun v30 =>
        pg P (Instr.alloc 283 true (.tuple #[])) w fun v5 w => hs S w <|
        pu P (Instr.storeAt 283 v5 v28) w fun w => hs S w <|
        J1 [v5, v29, v30] w) ∧
      (
        pg P (Instr.alloc 283 true (.tuple #[])) w fun v5_1 w => hs S w <|
        cl P 176 #[v23, v26] w fun v27_1 w => hs S w <|
        py P (fun _ => True) (Instr.extract v27_1 0) fun v28_1 =>
        py P (fun _ => True) (Instr.extract v27_1 1) fun v29_1 =>
        py P (fun _ => True) (Instr.extract v27_1 2) fun v30_1 =>
        pu P (Instr.storeAt 283 v5_1 v28_1) w fun w => hs S w <|
        J1 [v5_1, v29_1, v30_1] w)) ∧
    (
      pg P (Instr.alloc 283 true (.tuple #[])) w fun v5_2 w => hs S w <|
      cl P 237 #[v24, v25] w fun v26_1 w => hs S w <|
      cl P 176 #[v23, v26_1] w fun v27_2 w => hs S w <|
      py P (fun _ => True) (Instr.extract v27_2 0) fun v28_2 =>
      py P (fun _ => True) (Instr.extract v27_2 1) fun v29_2 =>
      py P (fun _ => True) (Instr.extract v27_2 2) fun v30_2 =>
      pu P (Instr.storeAt 283 v5_2 v28_2) w fun w => hs S w <|
      J1 [v5_2, v29_2, v30_2] w)) fun vs1 w =>
  dr w fun w =>
  held w fun S =>
  py P (Ext w) (Instr.loadAt 283 (g0 vs1)) fun v31 =>
  gy (g1 vs1) true (fun k => py P (fun _ => True) (Instr.fieldAt 283 (g0 vs1) 0) fun v => k v) fun v34 =>
  gy (g1 vs1) true (fun k => py P S (Instr.loadAt 3 v34) fun v => k v) fun v35 =>
  gy (g1 vs1) true (fun k => py P S (Instr.loadAt 3 v0) fun v => k v) fun v36 =>
  gy (g1 vs1) true (fun k => py P (fun _ => True) (bin false .eql 3 v35 v36) fun v => k v) fun v37 =>
  pky (g1 vs1) v37 (.bool false) fun v38 =>
  pu P (Instr.storeAt 283 v2 v31) w fun w => hs S w <|
  pla P 283 v2 w fun v2_2 =>
  R (.tuple #[v2_2, v38, (g2 vs1)]) w
theorem c276 (h : F276 R v0 v1 w) : cl P 276 #[v0, v1] w R := cq ⟨[], [], [], [(4, [5, 6, 7])], [4, 5]⟩ Tryz.func276 (by kernel_rfl) (by kernel_rfl) h
def F169 (R : Value → World → Prop) (v0 v1 : Value) (w : World) : Prop :=
  px P (Builtin.len_ #[43] 3 #[v0]) w fun v8 w =>
  px P (bin true .eql 3 v8 (.int .i64 0)) w fun v9 w =>
  gd v9 false w (fun k => k v1 w) fun v11 w =>
  gd v9 false w (fun k => px P (bin true .eql 9 v11 (.string ⟨#[]⟩)) w fun v w => k v w) fun v12 w =>
  pk v9 (.bool true) v12 w fun v13 w =>
  cnd v13 (
    R v0 w) <|
  px P (Builtin.len_ #[9] 3 #[v1]) w fun v16 w =>
  px P (bin true .eql 3 v16 (.int .i64 1)) w fun v17 w =>
  gd v17 true w (fun k => k v1 w) fun v19 w =>
  gd v17 true w (fun k => px P (Instr.index 9 v19 (.int .i64 0)) w fun v w => k v w) fun v20 w =>
  gd v17 true w (fun k => px P (bin true .lss 5 v20 (.int .u8 128)) w fun v w => k v w) fun v21 w =>
  pk v17 v21 (.bool false) w fun v22 w =>
  cnd v22 (
    px P (Instr.index 9 v1 (.int .i64 0)) w fun v25 w =>
    cl P 228 #[v0, v25] w fun v26 w =>
    R v26 w) <|
  cl P 229 #[v1] w fun v29 w =>
  px P (Instr.extract v29 0) w fun v30 w =>
  px P (Instr.extract v29 1) w fun v31 w =>
  px P (Instr.alloc 324 true (.tuple #[])) w fun v5 w =>
  pu P (Instr.storeAt 324 v5 v30) w fun w =>
  cnd v31 (
    cl P 230 #[v0, v5] w fun v34 w =>
    R v34 w) <|
  cl P 231 #[v0, v1] w fun v37 w =>
  R v37 w
theorem c169 (h : F169 R v0 v1 w) : cl P 169 #[v0, v1] w R := cq ⟨[], [], [], [], []⟩ Tryz.func169 (by kernel_rfl) (by kernel_rfl) h
def F228 (R : Value → World → Prop) (v0 v1 : Value) (w : World) : Prop :=
  lp [v0] w fun again1 vs1 w =>
  px P (Builtin.len_ #[43] 3 #[(g0 vs1)]) w fun v6 w =>
  px P (bin true .gtr 3 v6 (.int .i64 0)) w fun v7 w =>
  gd v7 true w (fun k => k (g0 vs1) w) fun v9 w =>
  gd v7 true w (fun k => k (g0 vs1) w) fun v10 w =>
  gd v7 true w (fun k => px P (Builtin.len_ #[43] 3 #[v10]) w fun v w => k v w) fun v11 w =>
  gd v7 true w (fun k => px P (bin true .sub 3 v11 (.int .i64 1)) w fun v w => k v w) fun v12 w =>
  gd v7 true w (fun k => px P (Instr.indexAt 43 v9 v12) w fun v w => k v w) fun v13 w =>
  gd v7 true w (fun k => px P (Instr.loadAt 5 v13) w fun v w => k v w) fun v14 w =>
  gd v7 true w (fun k => k v1 w) fun v15 w =>
  gd v7 true w (fun k => px P (bin false .eql 5 v14 v15) w fun v w => k v w) fun v16 w =>
  pk v7 v16 (.bool false) w fun v17 w =>
  cnd v17 (
    px P (Builtin.len_ #[43] 3 #[(g0 vs1)]) w fun v20 w =>
    px P (bin true .sub 3 v20 (.int .i64 1)) w fun v21 w =>
    px P (Instr.sliceAt 43 (g0 vs1) none (some v21) none) w fun v22 w =>
    again1 [v22] w) (
    R (g0 vs1) w)
theorem c228 (h : F228 R v0 v1 w) : cl P 228 #[v0, v1] w R := cq ⟨[], [], [(1, [0])], [], []⟩ Tryz.func228 (by kernel_rfl) (by kernel_rfl) h
end Go.Proofs.YtomggfibpbaodaaGreatDoor
