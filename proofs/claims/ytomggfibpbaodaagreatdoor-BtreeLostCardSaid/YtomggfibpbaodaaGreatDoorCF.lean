/- What calls of the program's functions ask, step by step. -/
import Derived.Test.YtomggfibpbaodaaGreatDoorCA
set_option maxRecDepth 100000
namespace Go.Proofs.YtomggfibpbaodaaGreatDoor
open Go.V
variable {R : Value → World → Prop} {v0 v1 v2 v3 v4 v5 v6 v7 v8 v9 v10 v11 : Value} {w : World}
def F18 (R : Value → World → Prop) (v0 v1 v2 : Value) (w : World) : Prop :=
  px P (bin true .eql 27 v0 (.pointer none)) w fun v18 w =>
  cnd v18 (
    R (.int .i64 2) w) <|
  px P (Builtin.len_ #[9] 3 #[v1]) w fun v21 w =>
  px P (bin true .gtr 3 v21 (.int .i64 48)) w fun v22 w =>
  gd v22 false w (fun k => k v2 w) fun v24 w =>
  gd v22 false w (fun k => px P (Builtin.len_ #[9] 3 #[v24]) w fun v w => k v w) fun v25 w =>
  gd v22 false w (fun k => px P (bin true .gtr 3 v25 (.int .i64 8192)) w fun v w => k v w) fun v26 w =>
  pk v22 (.bool true) v26 w fun v27 w =>
  cnd v27 (
    R (.int .i64 1) w) <|
  px P (Builtin.len_ #[9] 3 #[v2]) w fun v31 w =>
  cl P 78 #[v31] w fun v32 w =>
  cl P 77 #[v0, v32] w fun v33 w =>
  cnd v33 (
    R (.int .i64 3) w) <|
  cl P 79 #[v0, v1] w fun v37 w =>
  px P (Instr.extract v37 0) w fun v38 w =>
  px P (Instr.extract v37 1) w fun v39 w =>
  px P (bin true .neq 32 v39 (.int .i64 0)) w fun v41 w =>
  cnd v41 (
    R v39 w) <|
  px P (Builtin.len_ #[150] 3 #[v38]) w fun v44 w =>
  px P (bin true .gtr 3 v44 (.int .i64 0)) w fun v45 w =>
  cut (fun J1 =>
    cnd v45 (
      px P (Builtin.len_ #[150] 3 #[v38]) w fun v48 w =>
      px P (bin true .sub 3 v48 (.int .i64 1)) w fun v49 w =>
      px P (Instr.indexAt 150 v38 v49) w fun v50 w =>
      px P (Instr.loadAt 157 v50) w fun v51 w =>
      px P (Instr.alloc 157 true (.tuple #[])) w fun v9 w =>
      pu P (Instr.storeAt 157 v9 v51) w fun w =>
      px P (Instr.fieldAt 157 v9 1) w fun v52 w =>
      px P (Instr.loadAt 3 v52) w fun v53 w =>
      px P (Instr.fieldAt 157 v9 2) w fun v54 w =>
      px P (Instr.fieldAt 155 v54 1) w fun v55 w =>
      px P (Instr.loadAt 153 v55) w fun v56 w =>
      px P (Builtin.len_ #[153] 3 #[v56]) w fun v57 w =>
      px P (bin false .lss 3 v53 v57) w fun v58 w =>
      gd v58 true w (fun k => px P (Instr.fieldAt 157 v9 2) w fun v w => k v w) fun v60 w =>
      gd v58 true w (fun k => px P (Instr.fieldAt 155 v60 1) w fun v w => k v w) fun v61 w =>
      gd v58 true w (fun k => px P (Instr.loadAt 153 v61) w fun v w => k v w) fun v62 w =>
      gd v58 true w (fun k => px P (Instr.fieldAt 157 v9 1) w fun v w => k v w) fun v63 w =>
      gd v58 true w (fun k => px P (Instr.loadAt 3 v63) w fun v w => k v w) fun v64 w =>
      gd v58 true w (fun k => px P (Instr.indexAt 153 v62 v64) w fun v w => k v w) fun v65 w =>
      gd v58 true w (fun k => px P (Instr.fieldAt 159 v65 0) w fun v w => k v w) fun v66 w =>
      gd v58 true w (fun k => px P (Instr.loadAt 9 v66) w fun v w => k v w) fun v67 w =>
      gd v58 true w (fun k => k v1 w) fun v68 w =>
      gd v58 true w (fun k => px P (bin false .eql 9 v67 v68) w fun v w => k v w) fun v69 w =>
      pk v58 v69 (.bool false) w fun v70 w =>
      cut (fun J2 =>
        cnd v70 (
          px P (Instr.fieldAt 157 v9 2) w fun v72 w =>
          px P (Instr.fieldAt 155 v72 1) w fun v73 w =>
          px P (Instr.loadAt 153 v73) w fun v74 w =>
          px P (Instr.fieldAt 157 v9 1) w fun v75 w =>
          px P (Instr.loadAt 3 v75) w fun v76 w =>
          px P (Instr.indexAt 153 v74 v76) w fun v77 w =>
          px P (Instr.loadAt 159 v77) w fun v78 w =>
          cl P 80 #[v0, v78] w fun v79 w =>
          px P (bin true .neq 32 v79 (.int .i64 0)) w fun v81 w =>
          cnd v81 (
            R v79 w) <|
          J2 [] w) (
          J2 [] w)) fun _ w =>
      J1 [] w) (
      J1 [] w)) fun _ w =>
  cl P 81 #[v0, v1, v2] w fun v87 w =>
  px P (Instr.extract v87 0) w fun v88 w =>
  px P (Instr.extract v87 1) w fun v89 w =>
  px P (Instr.alloc 159 true (.tuple #[])) w fun v11 w =>
  pu P (Instr.storeAt 159 v11 v88) w fun w =>
  px P (bin true .neq 32 v89 (.int .i64 0)) w fun v91 w =>
  cnd v91 (
    R v89 w) <|
  px P (Builtin.len_ #[150] 3 #[v38]) w fun v94 w =>
  px P (bin true .eql 3 v94 (.int .i64 0)) w fun v95 w =>
  cnd v95 (
    px P (Instr.loadAt 159 v11) w fun v98 w =>
    px P (Instr.buildSlice 153 1 #[(0, v98)]) w fun v99 w =>
    px P (Instr.build 155 #[(0, (.bool true)), (1, v99)]) w fun v100 w =>
    cl P 82 #[v0, v100] w fun v101 w =>
    px P (Instr.extract v101 0) w fun v102 w =>
    px P (Instr.extract v101 1) w fun v103 w =>
    px P (bin true .neq 32 v103 (.int .i64 0)) w fun v105 w =>
    cnd v105 (
      R v103 w) <|
    nc v0 w fun v108 w =>
    px P (Instr.fieldAt 165 v108 0) w fun v109 w =>
    px P (Instr.loadAt 26 v109) w fun v110 w =>
    cl P 32 #[v110, v102] w fun v112 w =>
    R v112 w) <|
  px P (Builtin.len_ #[150] 3 #[v38]) w fun v115 w =>
  px P (bin true .sub 3 v115 (.int .i64 1)) w fun v116 w =>
  px P (Instr.indexAt 150 v38 v116) w fun v117 w =>
  px P (Instr.loadAt 157 v117) w fun v118 w =>
  px P (Instr.alloc 157 true (.tuple #[])) w fun v14 w =>
  pu P (Instr.storeAt 157 v14 v118) w fun w =>
  px P (Instr.fieldAt 157 v14 2) w fun v119 w =>
  px P (Instr.loadAt 155 v119) w fun v120 w =>
  px P (Instr.alloc 155 true (.tuple #[])) w fun v15 w =>
  pu P (Instr.storeAt 155 v15 v120) w fun w =>
  px P (Instr.fieldAt 155 v15 1) w fun v121 w =>
  px P (Instr.loadAt 153 v121) w fun v122 w =>
  cl P 83 #[v122] w fun v123 w =>
  px P (Instr.fieldAt 155 v15 1) w fun v124 w =>
  pu P (Instr.storeAt 153 v124 v123) w fun w =>
  px P (Instr.fieldAt 157 v14 1) w fun v125 w =>
  px P (Instr.loadAt 3 v125) w fun v126 w =>
  px P (Instr.fieldAt 155 v15 1) w fun v127 w =>
  px P (Instr.loadAt 153 v127) w fun v128 w =>
  px P (Builtin.len_ #[153] 3 #[v128]) w fun v129 w =>
  px P (bin false .lss 3 v126 v129) w fun v130 w =>
  gd v130 true w (fun k => px P (Instr.fieldAt 155 v15 1) w fun v w => k v w) fun v132 w =>
  gd v130 true w (fun k => px P (Instr.loadAt 153 v132) w fun v w => k v w) fun v133 w =>
  gd v130 true w (fun k => px P (Instr.fieldAt 157 v14 1) w fun v w => k v w) fun v134 w =>
  gd v130 true w (fun k => px P (Instr.loadAt 3 v134) w fun v w => k v w) fun v135 w =>
  gd v130 true w (fun k => px P (Instr.indexAt 153 v133 v135) w fun v w => k v w) fun v136 w =>
  gd v130 true w (fun k => px P (Instr.fieldAt 159 v136 0) w fun v w => k v w) fun v137 w =>
  gd v130 true w (fun k => px P (Instr.loadAt 9 v137) w fun v w => k v w) fun v138 w =>
  gd v130 true w (fun k => k v1 w) fun v139 w =>
  gd v130 true w (fun k => px P (bin false .eql 9 v138 v139) w fun v w => k v w) fun v140 w =>
  pk v130 v140 (.bool false) w fun v141 w =>
  cut (fun J3 =>
    cnd v141 (
      px P (Instr.fieldAt 155 v15 1) w fun v142 w =>
      px P (Instr.loadAt 153 v142) w fun v143 w =>
      px P (Instr.fieldAt 157 v14 1) w fun v144 w =>
      px P (Instr.loadAt 3 v144) w fun v145 w =>
      px P (Instr.loadAt 159 v11) w fun v146 w =>
      px P (Instr.indexAt 153 v143 v145) w fun v147 w =>
      pu P (Instr.storeAt 159 v147 v146) w fun w =>
      J3 [] w) (
      px P (Instr.fieldAt 155 v15 1) w fun v148 w =>
      px P (Instr.loadAt 153 v148) w fun v149 w =>
      px P (Instr.fieldAt 157 v14 1) w fun v150 w =>
      px P (Instr.loadAt 3 v150) w fun v151 w =>
      px P (Instr.loadAt 159 v11) w fun v152 w =>
      px P (Instr.buildSlice 153 1 #[(0, v152)]) w fun v153 w =>
      cl P 84 #[v149, v151, v153] w fun v154 w =>
      px P (Instr.fieldAt 155 v15 1) w fun v155 w =>
      pu P (Instr.storeAt 153 v155 v154) w fun w =>
      J3 [] w)) fun _ w =>
  px P (Instr.loadAt 155 v15) w fun v158 w =>
  cl P 85 #[v0, v38, v158] w fun v159 w =>
  R v159 w
theorem c18 (h : F18 R v0 v1 v2 w) : cl P 18 #[v0, v1, v2] w R := cq ⟨[(11, []), (13, []), (28, [])], [], [], [], []⟩ Tryz.func18 (by kernel_rfl) (by kernel_rfl) h
def F20 (R : Value → World → Prop) (v0 v1 : Value) (w : World) : Prop :=
  px P (bin true .eql 27 v0 (.pointer none)) w fun v13 w =>
  cnd v13 (
    R (.tuple #[(.string ⟨#[]⟩), (.bool false), (.int .i64 2)]) w) <|
  px P (Builtin.len_ #[9] 3 #[v1]) w fun v16 w =>
  px P (bin true .gtr 3 v16 (.int .i64 48)) w fun v17 w =>
  cnd v17 (
    R (.tuple #[(.string ⟨#[]⟩), (.bool false), (.int .i64 1)]) w) <|
  cl P 79 #[v0, v1] w fun v21 w =>
  px P (Instr.extract v21 0) w fun v22 w =>
  px P (Instr.extract v21 1) w fun v23 w =>
  px P (bin true .neq 32 v23 (.int .i64 0)) w fun v25 w =>
  gd v25 false w (fun k => k v22 w) fun v27 w =>
  gd v25 false w (fun k => px P (Builtin.len_ #[150] 3 #[v27]) w fun v w => k v w) fun v28 w =>
  gd v25 false w (fun k => px P (bin true .eql 3 v28 (.int .i64 0)) w fun v w => k v w) fun v29 w =>
  pk v25 (.bool true) v29 w fun v30 w =>
  cnd v30 (
    R (.tuple #[(.string ⟨#[]⟩), (.bool false), v23]) w) <|
  px P (Builtin.len_ #[150] 3 #[v22]) w fun v34 w =>
  px P (bin true .sub 3 v34 (.int .i64 1)) w fun v35 w =>
  px P (Instr.indexAt 150 v22 v35) w fun v36 w =>
  px P (Instr.loadAt 157 v36) w fun v37 w =>
  px P (Instr.alloc 157 true (.tuple #[])) w fun v9 w =>
  pu P (Instr.storeAt 157 v9 v37) w fun w =>
  px P (Instr.fieldAt 157 v9 1) w fun v38 w =>
  px P (Instr.loadAt 3 v38) w fun v39 w =>
  px P (Instr.fieldAt 157 v9 2) w fun v40 w =>
  px P (Instr.fieldAt 155 v40 1) w fun v41 w =>
  px P (Instr.loadAt 153 v41) w fun v42 w =>
  px P (Builtin.len_ #[153] 3 #[v42]) w fun v43 w =>
  px P (bin false .eql 3 v39 v43) w fun v44 w =>
  gd v44 false w (fun k => px P (Instr.fieldAt 157 v9 2) w fun v w => k v w) fun v46 w =>
  gd v44 false w (fun k => px P (Instr.fieldAt 155 v46 1) w fun v w => k v w) fun v47 w =>
  gd v44 false w (fun k => px P (Instr.loadAt 153 v47) w fun v w => k v w) fun v48 w =>
  gd v44 false w (fun k => px P (Instr.fieldAt 157 v9 1) w fun v w => k v w) fun v49 w =>
  gd v44 false w (fun k => px P (Instr.loadAt 3 v49) w fun v w => k v w) fun v50 w =>
  gd v44 false w (fun k => px P (Instr.indexAt 153 v48 v50) w fun v w => k v w) fun v51 w =>
  gd v44 false w (fun k => px P (Instr.fieldAt 159 v51 0) w fun v w => k v w) fun v52 w =>
  gd v44 false w (fun k => px P (Instr.loadAt 9 v52) w fun v w => k v w) fun v53 w =>
  gd v44 false w (fun k => k v1 w) fun v54 w =>
  gd v44 false w (fun k => px P (bin false .neq 9 v53 v54) w fun v w => k v w) fun v55 w =>
  pk v44 (.bool true) v55 w fun v56 w =>
  cnd v56 (
    R (.tuple #[(.string ⟨#[]⟩), (.bool false), (.int .i64 0)]) w) <|
  px P (Instr.fieldAt 157 v9 2) w fun v59 w =>
  px P (Instr.fieldAt 155 v59 1) w fun v60 w =>
  px P (Instr.loadAt 153 v60) w fun v61 w =>
  px P (Instr.fieldAt 157 v9 1) w fun v62 w =>
  px P (Instr.loadAt 3 v62) w fun v63 w =>
  px P (Instr.indexAt 153 v61 v63) w fun v64 w =>
  px P (Instr.loadAt 159 v64) w fun v65 w =>
  cl P 86 #[v0, v65] w fun v66 w =>
  px P (Instr.extract v66 0) w fun v67 w =>
  px P (Instr.extract v66 1) w fun v68 w =>
  px P (bin true .eql 32 v68 (.int .i64 0)) w fun v71 w =>
  R (.tuple #[v67, v71, v68]) w
theorem c20 (h : F20 R v0 v1 w) : cl P 20 #[v0, v1] w R := cq ⟨[], [], [], [], []⟩ Tryz.func20 (by kernel_rfl) (by kernel_rfl) h
def F21 (R : Value → World → Prop) (v0 v1 v2 : Value) (w : World) : Prop :=
  px P (bin true .eql 27 v0 (.pointer none)) w fun v12 w =>
  cnd v12 (
    R (.tuple #[(.slice none 0 0), (.int .i64 2)]) w) <|
  nc v0 w fun v15 w =>
  px P (Instr.fieldAt 165 v15 0) w fun v16 w =>
  px P (Instr.loadAt 26 v16) w fun v17 w =>
  cl P 87 #[v17] w fun v18 w =>
  px P (bin true .eql 3 v18 (.int .i64 0)) w fun v19 w =>
  cnd v19 (
    R (.tuple #[(.slice none 0 0), (.int .i64 0)]) w) <|
  px P (Instr.alloc 37 true (.tuple #[])) w fun v8 w =>
  nc v0 w fun v22 w =>
  px P (Instr.fieldAt 165 v22 0) w fun v23 w =>
  px P (Instr.loadAt 26 v23) w fun v24 w =>
  cl P 87 #[v24] w fun v25 w =>
  px P (Instr.makeMap 172 none) w fun v28 w =>
  cl P 88 #[v0, v25, (.int .i64 0), v1, v2, v28, v8] w fun v29 w =>
  px P (bin true .neq 32 v29 (.int .i64 0)) w fun v31 w =>
  cnd v31 (
    R (.tuple #[(.slice none 0 0), v29]) w) <|
  px P (Instr.loadAt 37 v8) w fun v33 w =>
  R (.tuple #[v33, (.int .i64 0)]) w
theorem c21 (h : F21 R v0 v1 v2 w) : cl P 21 #[v0, v1, v2] w R := cq ⟨[], [], [], [], []⟩ Tryz.func21 (by kernel_rfl) (by kernel_rfl) h
def F22 (R : Value → World → Prop) (v0 v1 : Value) (w : World) : Prop :=
  px P (bin true .eql 27 v0 (.pointer none)) w fun v14 w =>
  cnd v14 (
    R (.tuple #[(.bool false), (.int .i64 2)]) w) <|
  px P (Builtin.len_ #[9] 3 #[v1]) w fun v17 w =>
  px P (bin true .gtr 3 v17 (.int .i64 48)) w fun v18 w =>
  cnd v18 (
    R (.tuple #[(.bool false), (.int .i64 1)]) w) <|
  cl P 77 #[v0, (.int .i64 0)] w fun v21 w =>
  cnd v21 (
    R (.tuple #[(.bool false), (.int .i64 3)]) w) <|
  cl P 79 #[v0, v1] w fun v25 w =>
  px P (Instr.extract v25 0) w fun v26 w =>
  px P (Instr.extract v25 1) w fun v27 w =>
  px P (bin true .neq 32 v27 (.int .i64 0)) w fun v29 w =>
  gd v29 false w (fun k => k v26 w) fun v31 w =>
  gd v29 false w (fun k => px P (Builtin.len_ #[150] 3 #[v31]) w fun v w => k v w) fun v32 w =>
  gd v29 false w (fun k => px P (bin true .eql 3 v32 (.int .i64 0)) w fun v w => k v w) fun v33 w =>
  pk v29 (.bool true) v33 w fun v34 w =>
  cnd v34 (
    R (.tuple #[(.bool false), v27]) w) <|
  px P (Builtin.len_ #[150] 3 #[v26]) w fun v38 w =>
  px P (bin true .sub 3 v38 (.int .i64 1)) w fun v39 w =>
  px P (Instr.indexAt 150 v26 v39) w fun v40 w =>
  px P (Instr.loadAt 157 v40) w fun v41 w =>
  px P (Instr.alloc 157 true (.tuple #[])) w fun v8 w =>
  pu P (Instr.storeAt 157 v8 v41) w fun w =>
  px P (Instr.fieldAt 157 v8 1) w fun v42 w =>
  px P (Instr.loadAt 3 v42) w fun v43 w =>
  px P (Instr.fieldAt 157 v8 2) w fun v44 w =>
  px P (Instr.fieldAt 155 v44 1) w fun v45 w =>
  px P (Instr.loadAt 153 v45) w fun v46 w =>
  px P (Builtin.len_ #[153] 3 #[v46]) w fun v47 w =>
  px P (bin false .eql 3 v43 v47) w fun v48 w =>
  gd v48 false w (fun k => px P (Instr.fieldAt 157 v8 2) w fun v w => k v w) fun v50 w =>
  gd v48 false w (fun k => px P (Instr.fieldAt 155 v50 1) w fun v w => k v w) fun v51 w =>
  gd v48 false w (fun k => px P (Instr.loadAt 153 v51) w fun v w => k v w) fun v52 w =>
  gd v48 false w (fun k => px P (Instr.fieldAt 157 v8 1) w fun v w => k v w) fun v53 w =>
  gd v48 false w (fun k => px P (Instr.loadAt 3 v53) w fun v w => k v w) fun v54 w =>
  gd v48 false w (fun k => px P (Instr.indexAt 153 v52 v54) w fun v w => k v w) fun v55 w =>
  gd v48 false w (fun k => px P (Instr.fieldAt 159 v55 0) w fun v w => k v w) fun v56 w =>
  gd v48 false w (fun k => px P (Instr.loadAt 9 v56) w fun v w => k v w) fun v57 w =>
  gd v48 false w (fun k => k v1 w) fun v58 w =>
  gd v48 false w (fun k => px P (bin false .neq 9 v57 v58) w fun v w => k v w) fun v59 w =>
  pk v48 (.bool true) v59 w fun v60 w =>
  cnd v60 (
    R (.tuple #[(.bool false), (.int .i64 0)]) w) <|
  px P (Instr.fieldAt 157 v8 2) w fun v62 w =>
  px P (Instr.fieldAt 155 v62 1) w fun v63 w =>
  px P (Instr.loadAt 153 v63) w fun v64 w =>
  px P (Instr.fieldAt 157 v8 1) w fun v65 w =>
  px P (Instr.loadAt 3 v65) w fun v66 w =>
  px P (Instr.indexAt 153 v64 v66) w fun v67 w =>
  px P (Instr.loadAt 159 v67) w fun v68 w =>
  cl P 80 #[v0, v68] w fun v69 w =>
  px P (bin true .neq 32 v69 (.int .i64 0)) w fun v71 w =>
  cnd v71 (
    R (.tuple #[(.bool false), v69]) w) <|
  px P (Instr.fieldAt 157 v8 2) w fun v73 w =>
  px P (Instr.loadAt 155 v73) w fun v74 w =>
  px P (Instr.alloc 155 true (.tuple #[])) w fun v10 w =>
  pu P (Instr.storeAt 155 v10 v74) w fun w =>
  dr w fun w =>
  held w fun S =>
  py P (fun _ => True) (Instr.fieldAt 155 v10 1) fun v75 =>
  py P (Ext w) (Instr.loadAt 153 v75) fun v76 =>
  py P (fun _ => True) (Instr.fieldAt 157 v8 1) fun v78 =>
  py P S (Instr.loadAt 3 v78) fun v79 =>
  py P (fun _ => True) (Instr.fieldAt 157 v8 1) fun v80 =>
  py P S (Instr.loadAt 3 v80) fun v81 =>
  py P (fun _ => True) (bin true .add 3 v81 (.int .i64 1)) fun v82 =>
  cl P 83 #[v76] w fun v77 w => hs S w <|
  cl P 89 #[v77, v79, v82] w fun v83 w => hs S w <|
  py P (fun _ => True) (Instr.fieldAt 155 v10 1) fun v84 =>
  pu P (Instr.storeAt 153 v84 v83) w fun w => hs S w <|
  px P (Instr.loadAt 155 v10) w fun v87 w =>
  cl P 85 #[v0, v26, v87] w fun v88 w =>
  px P (bin true .neq 32 v88 (.int .i64 0)) w fun v90 w =>
  cnd v90 (
    R (.tuple #[(.bool false), v88]) w) <|
  R (.tuple #[(.bool true), (.int .i64 0)]) w
theorem c22 (h : F22 R v0 v1 w) : cl P 22 #[v0, v1] w R := cq ⟨[], [], [], [], [17]⟩ Tryz.func22 (by kernel_rfl) (by kernel_rfl) h
def F23 (R : Value → World → Prop) (v0 : Value) (w : World) : Prop :=
  px P (bin true .eql 27 v0 (.pointer none)) w fun v4 w =>
  cnd v4 (
    R (.int .i64 2) w) <|
  nc v0 w fun v6 w =>
  px P (Instr.fieldAt 165 v6 0) w fun v7 w =>
  px P (Instr.loadAt 26 v7) w fun v8 w =>
  cl P 90 #[v8] w fun v9 w =>
  R v9 w
theorem c23 (h : F23 R v0 w) : cl P 23 #[v0] w R := cq ⟨[], [], [], [], []⟩ Tryz.func23 (by kernel_rfl) (by kernel_rfl) h
def F24 (R : Value → World → Prop) (v0 : Value) (w : World) : Prop :=
  px P (bin true .eql 27 v0 (.pointer none)) w fun v4 w =>
  cnd v4 (
    R (.int .i64 0) w) <|
  nc v0 w fun v6 w =>
  px P (Instr.fieldAt 165 v6 0) w fun v7 w =>
  px P (Instr.loadAt 26 v7) w fun v8 w =>
  cl P 91 #[v8] w fun v9 w =>
  R v9 w
theorem c24 (h : F24 R v0 w) : cl P 24 #[v0] w R := cq ⟨[], [], [], [], []⟩ Tryz.func24 (by kernel_rfl) (by kernel_rfl) h
def F25 (R : Value → World → Prop) (v0 : Value) (w : World) : Prop :=
  px P (bin true .eql 27 v0 (.pointer none)) w fun v4 w =>
  cnd v4 (
    R (.int .i64 2) w) <|
  nc v0 w fun v6 w =>
  px P (Instr.fieldAt 165 v6 0) w fun v7 w =>
  px P (Instr.loadAt 26 v7) w fun v8 w =>
  cl P 92 #[v8] w fun v9 w =>
  R v9 w
theorem c25 (h : F25 R v0 w) : cl P 25 #[v0] w R := cq ⟨[], [], [], [], []⟩ Tryz.func25 (by kernel_rfl) (by kernel_rfl) h
def F26 (R : Value → World → Prop) (v0 : Value) (w : World) : Prop :=
  px P (bin true .eql 26 v0 (.pointer none)) w fun v4 w =>
  cnd v4 (
    R (.pointer none) w) <|
  px P (Instr.build 165 #[(0, v0)]) w fun v6 w =>
  px P (Instr.box 165 v6) w fun v7 w =>
  R v7 w
theorem c26 (h : F26 R v0 w) : cl P 26 #[v0] w R := cq ⟨[], [], [], [], []⟩ Tryz.func26 (by kernel_rfl) (by kernel_rfl) h
def F77 (R : Value → World → Prop) (v0 v1 : Value) (w : World) : Prop :=
  nc v0 w fun v6 w =>
  px P (Instr.fieldAt 165 v6 0) w fun v7 w =>
  px P (Instr.loadAt 26 v7) w fun v8 w =>
  cl P 91 #[v8] w fun v9 w =>
  px P (bin true .add 3 (.int .i64 24) v1) w fun v11 w =>
  px P (bin false .lss 3 v9 v11) w fun v12 w =>
  R v12 w
theorem c77 (h : F77 R v0 v1 w) : cl P 77 #[v0, v1] w R := cq ⟨[], [], [], [], []⟩ Tryz.func77 (by kernel_rfl) (by kernel_rfl) h
def F78 (R : Value → World → Prop) (v0 : Value) (w : World) : Prop :=
  px P (bin true .leq 3 v0 (.int .i64 64)) w fun v4 w =>
  cnd v4 (
    R (.int .i64 0) w) <|
  px P (bin true .add 3 v0 (.int .i64 480)) w fun v6 w =>
  px P (bin true .sub 3 v6 (.int .i64 1)) w fun v7 w =>
  px P (bin true .quo 3 v7 (.int .i64 480)) w fun v8 w =>
  R v8 w
theorem c78 (h : F78 R v0 w) : cl P 78 #[v0] w R := cq ⟨[], [], [], [], []⟩ Tryz.func78 (by kernel_rfl) (by kernel_rfl) h
def F79 (R : Value → World → Prop) (v0 v1 : Value) (w : World) : Prop :=
  nc v0 w fun v14 w =>
  px P (Instr.fieldAt 165 v14 0) w fun v15 w =>
  px P (Instr.loadAt 26 v15) w fun v16 w =>
  cl P 87 #[v16] w fun v17 w =>
  lp [(.slice none 0 0), v17] w fun again1 vs1 w =>
  px P (bin true .neq 3 (g1 vs1) (.int .i64 0)) w fun v19 w =>
  cnd v19 (
    cl P 146 #[v0, (g1 vs1)] w fun v23 w =>
    px P (Instr.extract v23 0) w fun v24 w =>
    px P (Instr.extract v23 1) w fun v25 w =>
    px P (Instr.alloc 155 true (.tuple #[])) w fun v8 w =>
    pu P (Instr.storeAt 155 v8 v24) w fun w =>
    px P (bin true .neq 32 v25 (.int .i64 0)) w fun v27 w =>
    cnd v27 (
      R (.tuple #[(.slice none 0 0), v25]) w) <|
    px P (Builtin.len_ #[150] 3 #[(g0 vs1)]) w fun v30 w =>
    px P (bin true .eql 3 v30 (.int .i64 40)) w fun v31 w =>
    cnd v31 (
      R (.tuple #[(.slice none 0 0), (.int .i64 4)]) w) <|
    px P (Instr.fieldAt 155 v8 0) w fun v32 w =>
    px P (Instr.loadAt 4 v32) w fun v33 w =>
    cnd v33 (
      px P (Instr.loadAt 155 v8) w fun v35 w =>
      cl P 147 #[v35, v1] w fun v37 w =>
      px P (Instr.extract v37 0) w fun v38 w =>
      px P (Instr.extract v37 1) w fun _ w =>
      px P (Instr.loadAt 155 v8) w fun v43 w =>
      px P (Instr.build 157 #[(0, (g1 vs1)), (1, v38), (2, v43)]) w fun v44 w =>
      px P (Instr.buildSlice 150 1 #[(0, v44)]) w fun v45 w =>
      px P (Builtin.append_ #[150, 150] 150 #[(g0 vs1), v45]) w fun v46 w =>
      R (.tuple #[v46, (.int .i64 0)]) w) <|
    px P (Instr.loadAt 155 v8) w fun v47 w =>
    cl P 148 #[v47, v1] w fun v49 w =>
    px P (Instr.loadAt 155 v8) w fun v53 w =>
    px P (Instr.build 157 #[(0, (g1 vs1)), (1, v49), (2, v53)]) w fun v54 w =>
    px P (Instr.buildSlice 150 1 #[(0, v54)]) w fun v55 w =>
    px P (Builtin.append_ #[150, 150] 150 #[(g0 vs1), v55]) w fun v56 w =>
    px P (Instr.fieldAt 155 v8 2) w fun v57 w =>
    px P (Instr.loadAt 48 v57) w fun v58 w =>
    px P (Instr.indexAt 48 v58 v49) w fun v60 w =>
    px P (Instr.loadAt 3 v60) w fun v61 w =>
    px P (bin true .eql 3 v61 (.int .i64 0)) w fun v63 w =>
    cnd v63 (
      R (.tuple #[(.slice none 0 0), (.int .i64 4)]) w) <|
    again1 [v56, v61] w) (
    R (.tuple #[(g0 vs1), (.int .i64 0)]) w)
theorem c79 (h : F79 R v0 v1 w) : cl P 79 #[v0, v1] w R := cq ⟨[], [], [(3, [6, 7])], [], []⟩ Tryz.func79 (by kernel_rfl) (by kernel_rfl) h
def F80 (R : Value → World → Prop) (v0 v1 : Value) (w : World) : Prop :=
  px P (Instr.box 27 v0) w fun v2 w =>
  px P (Instr.box 159 v1) w fun v3 w =>
  px P (Instr.fieldAt 159 v3 2) w fun v5 w =>
  px P (Instr.loadAt 3 v5) w fun v6 w =>
  px P (bin true .eql 3 v6 (.int .i64 0)) w fun v7 w =>
  cnd v7 (
    R (.int .i64 0) w) <|
  px P (Instr.loadAt 27 v2) w fun v8 w =>
  px P (Instr.loadAt 159 v3) w fun v9 w =>
  px P (Instr.makeFunc (.func 150) #[] #[v2]) w fun v10 w =>
  cl P 149 #[v8, v9, v10] w fun v11 w =>
  R v11 w
theorem c80 (h : F80 R v0 v1 w) : cl P 80 #[v0, v1] w R := cq ⟨[], [], [], [], []⟩ Tryz.func80 (by kernel_rfl) (by kernel_rfl) h
def F81 (R : Value → World → Prop) (v0 v1 v2 : Value) (w : World) : Prop :=
  px P (Instr.box 27 v0) w fun v3 w =>
  px P (Instr.alloc 159 true (.tuple #[])) w fun v6 w =>
  px P (Builtin.len_ #[9] 3 #[v2]) w fun v14 w =>
  cl P 78 #[v14] w fun v15 w =>
  px P (bin true .eql 3 v15 (.int .i64 0)) w fun v17 w =>
  cnd v17 (
    px P (Instr.build 159 #[(0, v1), (1, v2)]) w fun v20 w =>
    pu P (Instr.storeAt 159 v6 v20) w fun w =>
    pla P 159 v6 w fun v6_1 =>
    R (.tuple #[v6_1, (.int .i64 0)]) w) <|
  px P (Instr.alloc 3 true (.tuple #[])) w fun v9 w =>
  pu P (Instr.storeAt 3 v9 (.int .i64 0)) w fun w =>
  px P (Instr.makeFunc (.func 152) #[] #[v3, v9]) w fun v21 w =>
  px P (bin true .sub 3 v15 (.int .i64 1)) w fun v23 w =>
  lp [v23] w fun again1 vs1 w =>
  px P (bin true .geq 3 (g0 vs1) (.int .i64 0)) w fun v25 w =>
  cnd v25 (
    px P (bin true .mul 3 (g0 vs1) (.int .i64 480)) w fun v31 w =>
    px P (Builtin.len_ #[9] 3 #[v2]) w fun v33 w =>
    px P (bin true .add 3 (g0 vs1) (.int .i64 1)) w fun v35 w =>
    px P (bin true .mul 3 v35 (.int .i64 480)) w fun v36 w =>
    px P (Builtin.min_ #[3, 3] 3 #[v33, v36]) w fun v37 w =>
    px P (Instr.sliceAt 9 v2 (some v31) (some v37) none) w fun v38 w =>
    cv P v21 #[v38] w fun v39 w =>
    px P (bin true .neq 32 v39 (.int .i64 0)) w fun v41 w =>
    cnd v41 (
      px P (Instr.build 159 #[]) w fun v42 w =>
      pu P (Instr.storeAt 159 v6 v42) w fun w =>
      pla P 159 v6 w fun v6_2 =>
      R (.tuple #[v6_2, v39]) w) <|
    px P (bin true .sub 3 (g0 vs1) (.int .i64 1)) w fun v27 w =>
    again1 [v27] w) (
    px P (Instr.loadAt 3 v9) w fun v45 w =>
    px P (Builtin.len_ #[9] 3 #[v2]) w fun v47 w =>
    px P (Instr.build 159 #[(0, v1), (2, v45), (3, v47)]) w fun v48 w =>
    pu P (Instr.storeAt 159 v6 v48) w fun w =>
    pla P 159 v6 w fun v6_3 =>
    R (.tuple #[v6_3, (.int .i64 0)]) w)
theorem c81 (h : F81 R v0 v1 v2 w) : cl P 81 #[v0, v1, v2] w R := cq ⟨[], [], [(7, [11])], [], []⟩ Tryz.func81 (by kernel_rfl) (by kernel_rfl) h
def F82 (R : Value → World → Prop) (v0 v1 : Value) (w : World) : Prop :=
  px P (Instr.box 155 v1) w fun v3 w =>
  nc v0 w fun v10 w =>
  px P (Instr.fieldAt 165 v10 0) w fun v11 w =>
  px P (Instr.loadAt 26 v11) w fun v12 w =>
  cl P 30 #[v12] w fun v13 w =>
  px P (Instr.extract v13 0) w fun v14 w =>
  px P (Instr.extract v13 1) w fun v15 w =>
  px P (bin true .neq 32 v15 (.int .i64 0)) w fun v17 w =>
  cnd v17 (
    R (.tuple #[(.int .i64 0), v15]) w) <|
  px P (Instr.loadAt 155 v3) w fun v22 w =>
  cl P 154 #[v0, v14, v22] w fun v23 w =>
  R (.tuple #[v14, v23]) w
theorem c82 (h : F82 R v0 v1 w) : cl P 82 #[v0, v1] w R := cq ⟨[], [], [], [], []⟩ Tryz.func82 (by kernel_rfl) (by kernel_rfl) h
def F85 (R : Value → World → Prop) (v0 v1 v2 : Value) (w : World) : Prop :=
  px P (Instr.box 155 v2) w fun v5 w =>
  px P (Builtin.len_ #[150] 3 #[v1]) w fun v29 w =>
  px P (bin true .sub 3 v29 (.int .i64 1)) w fun v30 w =>
  px P (Instr.indexAt 150 v1 v30) w fun v31 w =>
  px P (Instr.loadAt 157 v31) w fun v32 w =>
  px P (Instr.alloc 157 true (.tuple #[])) w fun v7 w =>
  pu P (Instr.storeAt 157 v7 v32) w fun w =>
  px P (Builtin.len_ #[150] 3 #[v1]) w fun v34 w =>
  px P (bin true .eql 3 v34 (.int .i64 1)) w fun v35 w =>
  cnd v35 (
    px P (Instr.fieldAt 155 v5 0) w fun v37 w =>
    px P (Instr.loadAt 4 v37) w fun v38 w =>
    gd v38 true w (fun k => px P (Instr.fieldAt 155 v5 1) w fun v w => k v w) fun v40 w =>
    gd v38 true w (fun k => px P (Instr.loadAt 153 v40) w fun v w => k v w) fun v41 w =>
    gd v38 true w (fun k => px P (Builtin.len_ #[153] 3 #[v41]) w fun v w => k v w) fun v42 w =>
    gd v38 true w (fun k => px P (bin true .eql 3 v42 (.int .i64 0)) w fun v w => k v w) fun v43 w =>
    pk v38 v43 (.bool false) w fun v44 w =>
    cnd v44 (
      nc v0 w fun v46 w =>
      px P (Instr.fieldAt 165 v46 0) w fun v47 w =>
      px P (Instr.loadAt 26 v47) w fun v48 w =>
      cl P 32 #[v48, (.int .i64 0)] w fun v49 w =>
      px P (bin true .neq 32 v49 (.int .i64 0)) w fun v51 w =>
      cnd v51 (
        R v49 w) <|
      dr w fun w =>
      ny v0 fun v54 =>
      py P (fun _ => True) (Instr.fieldAt 165 v54 0) fun v55 =>
      py P (Ext w) (Instr.loadAt 26 v55) fun v56 =>
      py P (fun _ => True) (Instr.fieldAt 157 v7 0) fun v57 =>
      py P (Ext w) (Instr.loadAt 3 v57) fun v58 =>
      cl P 151 #[v56, v58] w fun v59 w =>
      R v59 w) <|
    px P (Instr.fieldAt 155 v5 0) w fun v61 w =>
    px P (Instr.loadAt 4 v61) w fun v62 w =>
    px P (Op.unary .not v62) w fun v63 w =>
    gd v63 true w (fun k => px P (Instr.fieldAt 155 v5 1) w fun v w => k v w) fun v65 w =>
    gd v63 true w (fun k => px P (Instr.loadAt 153 v65) w fun v w => k v w) fun v66 w =>
    gd v63 true w (fun k => px P (Builtin.len_ #[153] 3 #[v66]) w fun v w => k v w) fun v67 w =>
    gd v63 true w (fun k => px P (bin true .eql 3 v67 (.int .i64 0)) w fun v w => k v w) fun v68 w =>
    pk v63 v68 (.bool false) w fun v69 w =>
    cnd v69 (
      dr w fun w =>
      ny v0 fun v71 =>
      py P (fun _ => True) (Instr.fieldAt 165 v71 0) fun v72 =>
      py P (Ext w) (Instr.loadAt 26 v72) fun v73 =>
      py P (fun _ => True) (Instr.fieldAt 155 v5 2) fun v74 =>
      py P (Ext w) (Instr.loadAt 48 v74) fun v75 =>
      py P (fun _ => True) (Instr.indexAt 48 v75 (.int .i64 0)) fun v76 =>
      py P (Ext w) (Instr.loadAt 3 v76) fun v77 =>
      cl P 32 #[v73, v77] w fun v78 w =>
      px P (bin true .neq 32 v78 (.int .i64 0)) w fun v80 w =>
      cnd v80 (
        R v78 w) <|
      dr w fun w =>
      ny v0 fun v83 =>
      py P (fun _ => True) (Instr.fieldAt 165 v83 0) fun v84 =>
      py P (Ext w) (Instr.loadAt 26 v84) fun v85 =>
      py P (fun _ => True) (Instr.fieldAt 157 v7 0) fun v86 =>
      py P (Ext w) (Instr.loadAt 3 v86) fun v87 =>
      cl P 151 #[v85, v87] w fun v88 w =>
      R v88 w) <|
    px P (Instr.loadAt 155 v5) w fun v91 w =>
    cl P 157 #[v0, v1, v91] w fun v92 w =>
    R v92 w) <|
  px P (Instr.loadAt 155 v5) w fun v93 w =>
  cl P 158 #[v93] w fun v94 w =>
  px P (bin true .geq 3 v94 (.int .i64 128)) w fun v95 w =>
  cnd v95 (
    px P (Instr.loadAt 155 v5) w fun v98 w =>
    cl P 157 #[v0, v1, v98] w fun v99 w =>
    R v99 w) <|
  px P (Builtin.len_ #[150] 3 #[v1]) w fun v102 w =>
  px P (bin true .sub 3 v102 (.int .i64 2)) w fun v103 w =>
  px P (Instr.indexAt 150 v1 v103) w fun v104 w =>
  px P (Instr.loadAt 157 v104) w fun v105 w =>
  px P (Instr.alloc 157 true (.tuple #[])) w fun v10 w =>
  pu P (Instr.storeAt 157 v10 v105) w fun w =>
  px P (Instr.fieldAt 157 v10 1) w fun v106 w =>
  px P (Instr.loadAt 3 v106) w fun v107 w =>
  px P (bin true .add 3 v107 (.int .i64 1)) w fun v109 w =>
  px P (Instr.fieldAt 157 v10 2) w fun v111 w =>
  px P (Instr.fieldAt 155 v111 2) w fun v112 w =>
  px P (Instr.loadAt 48 v112) w fun v113 w =>
  px P (Builtin.len_ #[48] 3 #[v113]) w fun v114 w =>
  px P (bin false .eql 3 v109 v114) w fun v115 w =>
  cut (fun J1 =>
    cnd v115 (
      px P (bin true .sub 3 v107 (.int .i64 1)) w fun v117 w =>
      J1 [v117] w) (
      J1 [v109] w)) fun vs1 w =>
  px P (Instr.fieldAt 157 v10 2) w fun v120 w =>
  px P (Instr.fieldAt 155 v120 2) w fun v121 w =>
  px P (Instr.loadAt 48 v121) w fun v122 w =>
  px P (Instr.indexAt 48 v122 (g0 vs1)) w fun v124 w =>
  px P (Instr.loadAt 3 v124) w fun v125 w =>
  cl P 146 #[v0, v125] w fun v126 w =>
  px P (Instr.extract v126 0) w fun v127 w =>
  px P (Instr.extract v126 1) w fun v128 w =>
  px P (Instr.alloc 155 true (.tuple #[])) w fun v13 w =>
  pu P (Instr.storeAt 155 v13 v127) w fun w =>
  px P (bin true .neq 32 v128 (.int .i64 0)) w fun v130 w =>
  cnd v130 (
    R v128 w) <|
  cut (fun J2 =>
    dr w fun w =>
    held w fun S =>
    py P (Ext w) (Instr.loadAt 155 v5) fun v132 =>
    py P S (Instr.loadAt 155 v13) fun v133 =>
    (
      pg P (Instr.alloc 155 true (.tuple #[])) w fun v15 w => hs S w <|
      pg P (Instr.alloc 155 true (.tuple #[])) w fun v16 w => hs S w <|
      pu P (Instr.storeAt 155 v15 v132) w fun w => hs S w <|
      pu P (Instr.storeAt 155 v16 v133) w fun w => hs S w <|
      J2 [v15, v16, v107] w) ∧
    (
      pg P (Instr.alloc 155 true (.tuple #[])) w fun v16_1 w => hs S w <|
      pg P (Instr.alloc 155 true (.tuple #[])) w fun v15_1 w => hs S w <|
      pu P (Instr.storeAt 155 v15_1 v132) w fun w => hs S w <|
      pu P (Instr.storeAt 155 v16_1 v133) w fun w => hs S w <|
      J2 [v15_1, v16_1, v107] w)) fun vs2 w =>
  px P (bin false .lss 3 (g0 vs1) v107) w fun v137 w =>
  cut (fun J3 =>
    cnd v137 (
      dr w fun w =>
      held w fun S =>
      py P (Ext w) (Instr.loadAt 155 v13) fun v138 =>
      py P S (Instr.loadAt 155 v5) fun v139 =>
      pu P (Instr.storeAt 155 (g0 vs2) v138) w fun w => hs S w <|
      pu P (Instr.storeAt 155 (g1 vs2) v139) w fun w => hs S w <|
      J3 [(g0 vs1)] w) (
      J3 [(g2 vs2)] w)) fun vs3 w =>
  px P (Instr.fieldAt 157 v10 2) w fun v141 w =>
  px P (Instr.loadAt 155 v141) w fun v142 w =>
  px P (Instr.alloc 155 true (.tuple #[])) w fun v18 w =>
  pu P (Instr.storeAt 155 v18 v142) w fun w =>
  cut (fun J4 =>
    dr w fun w =>
    py P (fun _ => True) (Instr.fieldAt 155 v18 1) fun v143 =>
    py P (Ext w) (Instr.loadAt 153 v143) fun v144 =>
    py P (fun _ => True) (Instr.fieldAt 155 v18 2) fun v146 =>
    (
      cl P 83 #[v144] w fun v145 w =>
      py P (Ext w) (Instr.loadAt 48 v146) fun v147 =>
      py P (fun _ => True) (Instr.fieldAt 155 v18 1) fun v149 =>
      cl P 159 #[v147] w fun v148 w =>
      pu P (Instr.storeAt 153 v149 v145) w fun w =>
      py P (fun _ => True) (Instr.fieldAt 155 v18 2) fun v150 =>
      pu P (Instr.storeAt 48 v150 v148) w fun w =>
      J4 [] w) ∧
    (
      pg P (Instr.loadAt 48 v146) w fun v147_1 w =>
      cl P 83 #[v144] w fun v145_1 w =>
      py P (fun _ => True) (Instr.fieldAt 155 v18 1) fun v149_1 =>
      cl P 159 #[v147_1] w fun v148_1 w =>
      pu P (Instr.storeAt 153 v149_1 v145_1) w fun w =>
      py P (fun _ => True) (Instr.fieldAt 155 v18 2) fun v150_1 =>
      pu P (Instr.storeAt 48 v150_1 v148_1) w fun w =>
      J4 [] w)) fun _ w =>
  cut (fun J5 =>
    dr w fun w =>
    held w fun S =>
    py P (Ext w) (Instr.loadAt 155 (g0 vs2)) fun v151 =>
    py P (fun _ => True) (Instr.fieldAt 155 v18 1) fun v152 =>
    py P (Ext w) (Instr.loadAt 153 v152) fun v153 =>
    py P (fun _ => True) (Instr.indexAt 153 v153 (g0 vs3)) fun v155 =>
    py P (fun _ => True) (Instr.fieldAt 159 v155 0) fun v156 =>
    py P (Ext w) (Instr.loadAt 9 v156) fun v157 =>
    py P (Ext w) (Instr.loadAt 155 (g1 vs2)) fun v158 =>
    (
      cl P 160 #[v151, v157, v158] w fun v159 w => hs S w <|
      pg P (Instr.alloc 155 true (.tuple #[])) w fun v19 w => hs S w <|
      pu P (Instr.storeAt 155 v19 v159) w fun w => hs S w <|
      J5 [v19] w) ∧
    (
      pg P (Instr.alloc 155 true (.tuple #[])) w fun v19_1 w => hs S w <|
      cl P 160 #[v151, v157, v158] w fun v159_1 w => hs S w <|
      pu P (Instr.storeAt 155 v19_1 v159_1) w fun w => hs S w <|
      J5 [v19_1] w)) fun vs5 w =>
  px P (Instr.loadAt 155 (g0 vs5)) w fun v160 w =>
  cl P 158 #[v160] w fun v161 w =>
  px P (bin true .leq 3 v161 (.int .i64 512)) w fun v162 w =>
  cnd v162 (
    dr w fun w =>
    py P (fun _ => True) (Instr.fieldAt 155 v18 2) fun v164 =>
    py P (Ext w) (Instr.loadAt 48 v164) fun v165 =>
    py P (fun _ => True) (Instr.indexAt 48 v165 (g0 vs3)) fun v167 =>
    py P (Ext w) (Instr.loadAt 3 v167) fun v168 =>
    py P (Ext w) (Instr.loadAt 155 (g0 vs5)) fun v169 =>
    cl P 154 #[v0, v168, v169] w fun v170 w =>
    px P (bin true .neq 32 v170 (.int .i64 0)) w fun v172 w =>
    cnd v172 (
      R v170 w) <|
    dr w fun w =>
    ny v0 fun v175 =>
    py P (fun _ => True) (Instr.fieldAt 165 v175 0) fun v176 =>
    py P (Ext w) (Instr.loadAt 26 v176) fun v177 =>
    py P (fun _ => True) (Instr.fieldAt 155 v18 2) fun v178 =>
    py P (Ext w) (Instr.loadAt 48 v178) fun v179 =>
    py P (fun _ => True) (bin true .add 3 (g0 vs3) (.int .i64 1)) fun v181 =>
    py P (fun _ => True) (Instr.indexAt 48 v179 v181) fun v182 =>
    py P (Ext w) (Instr.loadAt 3 v182) fun v183 =>
    cl P 151 #[v177, v183] w fun v184 w =>
    px P (bin true .neq 32 v184 (.int .i64 0)) w fun v186 w =>
    cnd v186 (
      R v184 w) <|
    cut (fun J6 =>
      dr w fun w =>
      py P (fun _ => True) (Instr.fieldAt 155 v18 1) fun v188 =>
      py P (Ext w) (Instr.loadAt 153 v188) fun v189 =>
      py P (fun _ => True) (bin true .add 3 (g0 vs3) (.int .i64 1)) fun v192 =>
      py P (fun _ => True) (Instr.fieldAt 155 v18 2) fun v194 =>
      py P (fun _ => True) (bin true .add 3 (g0 vs3) (.int .i64 1)) fun v197 =>
      py P (fun _ => True) (bin true .add 3 (g0 vs3) (.int .i64 2)) fun v199 =>
      (
        cl P 89 #[v189, (g0 vs3), v192] w fun v193 w =>
        py P (Ext w) (Instr.loadAt 48 v194) fun v195 =>
        py P (fun _ => True) (Instr.fieldAt 155 v18 1) fun v201 =>
        cl P 161 #[v195, v197, v199] w fun v200 w =>
        pu P (Instr.storeAt 153 v201 v193) w fun w =>
        py P (fun _ => True) (Instr.fieldAt 155 v18 2) fun v202 =>
        pu P (Instr.storeAt 48 v202 v200) w fun w =>
        J6 [] w) ∧
      (
        pg P (Instr.loadAt 48 v194) w fun v195_1 w =>
        cl P 89 #[v189, (g0 vs3), v192] w fun v193_1 w =>
        py P (fun _ => True) (Instr.fieldAt 155 v18 1) fun v201_1 =>
        cl P 161 #[v195_1, v197, v199] w fun v200_1 w =>
        pu P (Instr.storeAt 153 v201_1 v193_1) w fun w =>
        py P (fun _ => True) (Instr.fieldAt 155 v18 2) fun v202_1 =>
        pu P (Instr.storeAt 48 v202_1 v200_1) w fun w =>
        J6 [] w)) fun _ w =>
    dr w fun w =>
    py P (fun _ => True) (Builtin.len_ #[150] 3 #[v1]) fun v206 =>
    py P (fun _ => True) (bin true .sub 3 v206 (.int .i64 1)) fun v207 =>
    py P (fun _ => True) (Instr.sliceAt 150 v1 none (some v207) none) fun v208 =>
    py P (Ext w) (Instr.loadAt 155 v18) fun v209 =>
    cl P 85 #[v0, v208, v209] w fun v210 w =>
    R v210 w) <|
  px P (Instr.loadAt 155 (g0 vs5)) w fun v212 w =>
  cl P 162 #[v212] w fun v213 w =>
  px P (Instr.extract v213 0) w fun v214 w =>
  px P (Instr.extract v213 1) w fun v215 w =>
  px P (Instr.extract v213 2) w fun v216 w =>
  px P (Instr.alloc 155 true (.tuple #[])) w fun v22 w =>
  px P (Instr.alloc 155 true (.tuple #[])) w fun v24 w =>
  pu P (Instr.storeAt 155 v22 v214) w fun w =>
  pu P (Instr.storeAt 155 v24 v216) w fun w =>
  dr w fun w =>
  py P (fun _ => True) (Instr.fieldAt 155 v18 2) fun v218 =>
  py P (Ext w) (Instr.loadAt 48 v218) fun v219 =>
  py P (fun _ => True) (Instr.indexAt 48 v219 (g0 vs3)) fun v221 =>
  py P (Ext w) (Instr.loadAt 3 v221) fun v222 =>
  py P (Ext w) (Instr.loadAt 155 v22) fun v223 =>
  cl P 154 #[v0, v222, v223] w fun v224 w =>
  px P (bin true .neq 32 v224 (.int .i64 0)) w fun v226 w =>
  cnd v226 (
    R v224 w) <|
  dr w fun w =>
  py P (fun _ => True) (Instr.fieldAt 155 v18 2) fun v229 =>
  py P (Ext w) (Instr.loadAt 48 v229) fun v230 =>
  py P (fun _ => True) (bin true .add 3 (g0 vs3) (.int .i64 1)) fun v232 =>
  py P (fun _ => True) (Instr.indexAt 48 v230 v232) fun v233 =>
  py P (Ext w) (Instr.loadAt 3 v233) fun v234 =>
  py P (Ext w) (Instr.loadAt 155 v24) fun v235 =>
  cl P 154 #[v0, v234, v235] w fun v236 w =>
  px P (bin true .neq 32 v236 (.int .i64 0)) w fun v238 w =>
  cnd v238 (
    R v236 w) <|
  px P (Instr.fieldAt 155 v18 1) w fun v240 w =>
  px P (Instr.loadAt 153 v240) w fun v241 w =>
  px P (Instr.build 159 #[(0, v215)]) w fun v244 w =>
  px P (Instr.indexAt 153 v241 (g0 vs3)) w fun v245 w =>
  pu P (Instr.storeAt 159 v245 v244) w fun w =>
  dr w fun w =>
  py P (fun _ => True) (Builtin.len_ #[150] 3 #[v1]) fun v249 =>
  py P (fun _ => True) (bin true .sub 3 v249 (.int .i64 1)) fun v250 =>
  py P (fun _ => True) (Instr.sliceAt 150 v1 none (some v250) none) fun v251 =>
  py P (Ext w) (Instr.loadAt 155 v18) fun v252 =>
  cl P 85 #[v0, v251, v252] w fun v253 w =>
  R v253 w
theorem c85 (h : F85 R v0 v1 v2 w) : cl P 85 #[v0, v1, v2] w R := cq ⟨[(20, [12]), (26, [17])], [], [], [(24, [15, 16, 17]), (28, []), (29, [19]), (37, [])], [24, 26, 29]⟩ Tryz.func85 (by kernel_rfl) (by kernel_rfl) h
def F86 (R : Value → World → Prop) (v0 v1 : Value) (w : World) : Prop :=
  px P (Instr.box 159 v1) w fun v3 w =>
  px P (Instr.fieldAt 159 v3 2) w fun v8 w =>
  px P (Instr.loadAt 3 v8) w fun v9 w =>
  px P (bin true .eql 3 v9 (.int .i64 0)) w fun v10 w =>
  cnd v10 (
    px P (Instr.fieldAt 159 v3 1) w fun v11 w =>
    px P (Instr.loadAt 9 v11) w fun v12 w =>
    R (.tuple #[v12, (.int .i64 0)]) w) <|
  px P (Instr.alloc 43 true (.tuple #[])) w fun v6 w =>
  px P (Instr.loadAt 159 v3) w fun v14 w =>
  px P (Instr.makeFunc (.func 163) #[] #[v6]) w fun v15 w =>
  cl P 149 #[v0, v14, v15] w fun v16 w =>
  px P (bin true .neq 32 v16 (.int .i64 0)) w fun v18 w =>
  gd v18 false w (fun k => px P (Instr.loadAt 43 v6) w fun v w => k v w) fun v20 w =>
  gd v18 false w (fun k => px P (Builtin.len_ #[43] 3 #[v20]) w fun v w => k v w) fun v21 w =>
  gd v18 false w (fun k => px P (Instr.fieldAt 159 v3 3) w fun v w => k v w) fun v22 w =>
  gd v18 false w (fun k => px P (Instr.loadAt 3 v22) w fun v w => k v w) fun v23 w =>
  gd v18 false w (fun k => px P (bin false .lss 3 v21 v23) w fun v w => k v w) fun v24 w =>
  pk v18 (.bool true) v24 w fun v25 w =>
  cnd v25 (
    px P (Builtin.max_ #[32, 32] 32 #[v16, (.int .i64 4)]) w fun v27 w =>
    R (.tuple #[(.string ⟨#[]⟩), v27]) w) <|
  px P (Instr.loadAt 43 v6) w fun v28 w =>
  px P (Instr.fieldAt 159 v3 3) w fun v29 w =>
  px P (Instr.loadAt 3 v29) w fun v30 w =>
  px P (Instr.sliceAt 43 v28 none (some v30) none) w fun v31 w =>
  px P (convert 43 9 v31) w fun v32 w =>
  R (.tuple #[v32, (.int .i64 0)]) w
theorem c86 (h : F86 R v0 v1 w) : cl P 86 #[v0, v1] w R := cq ⟨[], [], [], [], []⟩ Tryz.func86 (by kernel_rfl) (by kernel_rfl) h
def F88 (R : Value → World → Prop) (v0 v1 v2 v3 v4 v5 v6 : Value) (w : World) : Prop :=
  px P (Instr.lookup 172 v5 v1 false) w fun v26 w =>
  px P (bin true .add 3 v26 (.int .i64 1)) w fun v27 w =>
  pu P (Instr.mapUpdate 172 v5 v1 v27) w fun w =>
  px P (Instr.lookup 172 v5 v1 false) w fun v30 w =>
  px P (bin true .gtr 3 v30 (.int .i64 1)) w fun v31 w =>
  cnd v31 (
    R (.int .i64 4) w) <|
  cl P 146 #[v0, v1] w fun v35 w =>
  px P (Instr.extract v35 0) w fun v36 w =>
  px P (Instr.extract v35 1) w fun v37 w =>
  px P (Instr.alloc 155 true (.tuple #[])) w fun v15 w =>
  pu P (Instr.storeAt 155 v15 v36) w fun w =>
  px P (bin true .neq 32 v37 (.int .i64 0)) w fun v39 w =>
  cnd v39 (
    R v37 w) <|
  px P (Instr.fieldAt 155 v15 0) w fun v41 w =>
  px P (Instr.loadAt 4 v41) w fun v42 w =>
  cnd v42 (
    px P (Instr.fieldAt 155 v15 1) w fun v43 w =>
    px P (Instr.loadAt 153 v43) w fun v44 w =>
    px P (Builtin.len_ #[153] 3 #[v44]) w fun v45 w =>
    lp [(.int .i64 0)] w fun again1 vs1 w =>
    px P (bin false .lss 3 (g0 vs1) v45) w fun v47 w =>
    cnd v47 (
      cut (fun J2 =>
        px P (Instr.indexAt 153 v44 (g0 vs1)) w fun v48 w =>
        px P (Instr.loadAt 159 v48) w fun v49 w =>
        px P (Instr.alloc 159 true (.tuple #[])) w fun v18 w =>
        pu P (Instr.storeAt 159 v18 v49) w fun w =>
        px P (Instr.fieldAt 159 v18 0) w fun v50 w =>
        px P (Instr.loadAt 9 v50) w fun v51 w =>
        px P (bin false .lss 9 v51 v3) w fun v53 w =>
        gd v53 false w (fun k => k v4 w) fun v55 w =>
        gd v53 false w (fun k => px P (bin true .neq 9 v55 (.string ⟨#[]⟩)) w fun v w => k v w) fun v56 w =>
        gd v53 false w (fun k => k v56 w) fun v57 w =>
        gd v57 true w (fun k => px P (Instr.fieldAt 159 v18 0) w fun v w => k v w) fun v58 w =>
        gd v57 true w (fun k => px P (Instr.loadAt 9 v58) w fun v w => k v w) fun v59 w =>
        gd v57 true w (fun k => k v4 w) fun v60 w =>
        gd v57 true w (fun k => px P (bin false .geq 9 v59 v60) w fun v w => k v w) fun v61 w =>
        gd v53 false w (fun k => pk v57 v61 (.bool false) w fun v w => k v w) fun v62 w =>
        pk v53 (.bool true) v62 w fun v63 w =>
        cnd v63 (
          J2 [] w) <|
        px P (Instr.loadAt 159 v18) w fun v66 w =>
        cl P 86 #[v0, v66] w fun v67 w =>
        px P (Instr.extract v67 0) w fun v68 w =>
        px P (Instr.extract v67 1) w fun v69 w =>
        px P (bin true .neq 32 v69 (.int .i64 0)) w fun v71 w =>
        cnd v71 (
          R v69 w) <|
        dr w fun w =>
        ny v6 fun v75 =>
        py P (Ext w) (Instr.loadAt 37 v75) fun v76 =>
        py P (fun _ => True) (Instr.fieldAt 159 v18 0) fun v77 =>
        py P (Ext w) (Instr.loadAt 9 v77) fun v78 =>
        py P (fun _ => True) (Instr.build 41 #[(0, v78), (1, v68)]) fun v80 =>
        pg P (Instr.buildSlice 37 1 #[(0, v80)]) w fun v81 w =>
        px P (Builtin.append_ #[37, 37] 37 #[v76, v81]) w fun v82 w =>
        ny v6 fun v83 =>
        pu P (Instr.storeAt 37 v83 v82) w fun w =>
        J2 [] w) fun _ w =>
      px P (bin true .add 3 (g0 vs1) (.int .i64 1)) w fun v84 w =>
      again1 [v84] w) (
      R (.int .i64 0) w)) <|
  px P (bin true .eql 3 v2 (.int .i64 40)) w fun v86 w =>
  cnd v86 (
    R (.int .i64 4) w) <|
  px P (Instr.fieldAt 155 v15 2) w fun v87 w =>
  px P (Instr.loadAt 48 v87) w fun v88 w =>
  px P (Builtin.len_ #[48] 3 #[v88]) w fun v89 w =>
  lp [(.int .i64 0)] w fun again3 vs3 w =>
  px P (bin false .lss 3 (g0 vs3) v89) w fun v91 w =>
  cnd v91 (
    cut (fun J4 =>
      px P (Instr.indexAt 48 v88 (g0 vs3)) w fun v93 w =>
      px P (Instr.loadAt 3 v93) w fun v94 w =>
      px P (Instr.fieldAt 155 v15 1) w fun v96 w =>
      px P (Instr.loadAt 153 v96) w fun v97 w =>
      px P (Builtin.len_ #[153] 3 #[v97]) w fun v98 w =>
      px P (bin false .lss 3 (g0 vs3) v98) w fun v99 w =>
      gd v99 true w (fun k => px P (Instr.fieldAt 155 v15 1) w fun v w => k v w) fun v101 w =>
      gd v99 true w (fun k => px P (Instr.loadAt 153 v101) w fun v w => k v w) fun v102 w =>
      gd v99 true w (fun k => k (g0 vs3) w) fun v103 w =>
      gd v99 true w (fun k => px P (Instr.indexAt 153 v102 v103) w fun v w => k v w) fun v104 w =>
      gd v99 true w (fun k => px P (Instr.fieldAt 159 v104 0) w fun v w => k v w) fun v105 w =>
      gd v99 true w (fun k => px P (Instr.loadAt 9 v105) w fun v w => k v w) fun v106 w =>
      gd v99 true w (fun k => k v3 w) fun v107 w =>
      gd v99 true w (fun k => px P (bin false .leq 9 v106 v107) w fun v w => k v w) fun v108 w =>
      pk v99 v108 (.bool false) w fun v109 w =>
      gd v109 false w (fun k => k (g0 vs3) w) fun v111 w =>
      gd v109 false w (fun k => px P (bin true .gtr 3 v111 (.int .i64 0)) w fun v w => k v w) fun v112 w =>
      gd v109 false w (fun k => k v112 w) fun v113 w =>
      gd v113 true w (fun k => k v4 w) fun v114 w =>
      gd v113 true w (fun k => px P (bin true .neq 9 v114 (.string ⟨#[]⟩)) w fun v w => k v w) fun v115 w =>
      gd v109 false w (fun k => pk v113 v115 (.bool false) w fun v w => k v w) fun v116 w =>
      gd v109 false w (fun k => k v116 w) fun v117 w =>
      gd v117 true w (fun k => px P (Instr.fieldAt 155 v15 1) w fun v w => k v w) fun v118 w =>
      gd v117 true w (fun k => px P (Instr.loadAt 153 v118) w fun v w => k v w) fun v119 w =>
      gd v117 true w (fun k => k (g0 vs3) w) fun v120 w =>
      gd v117 true w (fun k => px P (bin true .sub 3 v120 (.int .i64 1)) w fun v w => k v w) fun v121 w =>
      gd v117 true w (fun k => px P (Instr.indexAt 153 v119 v121) w fun v w => k v w) fun v122 w =>
      gd v117 true w (fun k => px P (Instr.fieldAt 159 v122 0) w fun v w => k v w) fun v123 w =>
      gd v117 true w (fun k => px P (Instr.loadAt 9 v123) w fun v w => k v w) fun v124 w =>
      gd v117 true w (fun k => k v4 w) fun v125 w =>
      gd v117 true w (fun k => px P (bin false .geq 9 v124 v125) w fun v w => k v w) fun v126 w =>
      gd v109 false w (fun k => pk v117 v126 (.bool false) w fun v w => k v w) fun v127 w =>
      pk v109 (.bool true) v127 w fun v128 w =>
      cnd v128 (
        J4 [] w) <|
      px P (bin true .add 3 v2 (.int .i64 1)) w fun v132 w =>
      cl P 88 #[v0, v94, v132, v3, v4, v5, v6] w fun v137 w =>
      px P (bin true .neq 32 v137 (.int .i64 0)) w fun v139 w =>
      cnd v139 (
        R v137 w) <|
      J4 [] w) fun _ w =>
    px P (bin true .add 3 (g0 vs3) (.int .i64 1)) w fun v141 w =>
    again3 [v141] w) (
    R (.int .i64 0) w)
theorem c88 (h : F88 R v0 v1 v2 v3 v4 v5 v6 w) : cl P 88 #[v0, v1, v2, v3, v4, v5, v6] w R := cq ⟨[], [(1, []), (3, [])], [(9, [46]), (21, [90])], [], []⟩ Tryz.func88 (by kernel_rfl) (by kernel_rfl) h
def F146 (R : Value → World → Prop) (v0 v1 : Value) (w : World) : Prop :=
  px P (Instr.alloc 155 true (.tuple #[])) w fun v4 w =>
  nc v0 w fun v11 w =>
  px P (Instr.fieldAt 165 v11 0) w fun v12 w =>
  px P (Instr.loadAt 26 v12) w fun v13 w =>
  cl P 208 #[v13, v1] w fun v15 w =>
  px P (Instr.extract v15 0) w fun v16 w =>
  px P (Instr.extract v15 1) w fun v17 w =>
  px P (bin true .eql 32 v17 (.int .i64 1)) w fun v19 w =>
  cut (fun J1 =>
    cnd v19 (
      J1 [(.int .i64 4)] w) (
      J1 [v17] w)) fun vs1 w =>
  px P (bin true .neq 32 (g0 vs1) (.int .i64 0)) w fun v21 w =>
  cnd v21 (
    px P (Instr.build 155 #[]) w fun v22 w =>
    pu P (Instr.storeAt 155 v4 v22) w fun w =>
    pla P 155 v4 w fun v4_1 =>
    R (.tuple #[v4_1, (g0 vs1)]) w) <|
  cl P 209 #[v16] w fun v26 w =>
  px P (Instr.extract v26 0) w fun v27 w =>
  px P (Instr.extract v26 1) w fun v28 w =>
  px P (Instr.alloc 155 true (.tuple #[])) w fun v8 w =>
  pu P (Instr.storeAt 155 v8 v27) w fun w =>
  px P (bin true .eql 32 v28 (.int .i64 0)) w fun v30 w =>
  gd v30 true w (fun k => px P (Instr.fieldAt 155 v8 0) w fun v w => k v w) fun v32 w =>
  gd v30 true w (fun k => px P (Instr.loadAt 4 v32) w fun v w => k v w) fun v33 w =>
  gd v30 true w (fun k => px P (Op.unary .not v33) w fun v w => k v w) fun v34 w =>
  pk v30 v34 (.bool false) w fun v35 w =>
  gd v35 true w (fun k => px P (Instr.fieldAt 155 v8 1) w fun v w => k v w) fun v37 w =>
  gd v35 true w (fun k => px P (Instr.loadAt 153 v37) w fun v w => k v w) fun v38 w =>
  gd v35 true w (fun k => px P (Builtin.len_ #[153] 3 #[v38]) w fun v w => k v w) fun v39 w =>
  gd v35 true w (fun k => px P (bin true .eql 3 v39 (.int .i64 0)) w fun v w => k v w) fun v40 w =>
  pk v35 v40 (.bool false) w fun v41 w =>
  cut (fun J2 =>
    cnd v41 (
      J2 [(.int .i64 4)] w) (
      J2 [v28] w)) fun vs2 w =>
  px P (Instr.loadAt 155 v8) w fun v42 w =>
  pu P (Instr.storeAt 155 v4 v42) w fun w =>
  pla P 155 v4 w fun v4_2 =>
  R (.tuple #[v4_2, (g0 vs2)]) w
theorem c146 (h : F146 R v0 v1 w) : cl P 146 #[v0, v1] w R := cq ⟨[(3, [7]), (8, [7])], [], [], [], []⟩ Tryz.func146 (by kernel_rfl) (by kernel_rfl) h
def F148 (R : Value → World → Prop) (v0 v1 : Value) (w : World) : Prop :=
  px P (Instr.box 155 v0) w fun v2 w =>
  px P (Instr.loadAt 155 v2) w fun v8 w =>
  cl P 147 #[v8, v1] w fun v10 w =>
  px P (Instr.extract v10 0) w fun v11 w =>
  px P (Instr.extract v10 1) w fun v12 w =>
  cnd v12 (
    px P (bin true .add 3 v11 (.int .i64 1)) w fun v15 w =>
    R v15 w) <|
  R v11 w
theorem c148 (h : F148 R v0 v1 w) : cl P 148 #[v0, v1] w R := cq ⟨[], [], [], [], []⟩ Tryz.func148 (by kernel_rfl) (by kernel_rfl) h
def F149 (R : Value → World → Prop) (v0 v1 v2 : Value) (w : World) : Prop :=
  px P (Instr.box 159 v1) w fun v4 w =>
  px P (Instr.fieldAt 159 v4 2) w fun v12 w =>
  px P (Instr.loadAt 3 v12) w fun v13 w =>
  px P (Instr.fieldAt 159 v4 3) w fun v14 w =>
  px P (Instr.loadAt 3 v14) w fun v15 w =>
  cl P 78 #[v15] w fun v16 w =>
  lp [v13, (.int .i64 0)] w fun again1 vs1 w =>
  px P (bin false .lss 3 (g1 vs1) v16) w fun v18 w =>
  cnd v18 (
    nc v0 w fun v21 w =>
    px P (Instr.fieldAt 165 v21 0) w fun v22 w =>
    px P (Instr.loadAt 26 v22) w fun v23 w =>
    cl P 208 #[v23, (g0 vs1)] w fun v25 w =>
    px P (Instr.extract v25 0) w fun v26 w =>
    px P (Instr.extract v25 1) w fun v27 w =>
    px P (bin true .eql 32 v27 (.int .i64 1)) w fun v29 w =>
    gd v29 false w (fun k => px P (Instr.fieldAt 159 v4 3) w fun v w => k v w) fun v31 w =>
    gd v29 false w (fun k => px P (Instr.loadAt 3 v31) w fun v w => k v w) fun v32 w =>
    gd v29 false w (fun k => px P (bin true .gtr 3 v32 (.int .i64 8192)) w fun v w => k v w) fun v33 w =>
    pk v29 (.bool true) v33 w fun v34 w =>
    cnd v34 (
      R (.int .i64 4) w) <|
    px P (bin true .neq 32 v27 (.int .i64 0)) w fun v36 w =>
    cnd v36 (
      R v27 w) <|
    px P (Instr.sliceAt 43 v26 none (some (.int .i64 4)) none) w fun v39 w =>
    cl P 212 #[v39] w fun v40 w =>
    px P (Instr.sliceAt 43 v26 (some (.int .i64 4)) (some (.int .i64 484)) none) w fun v44 w =>
    cv P v2 #[(g0 vs1), v44] w fun v45 w =>
    px P (bin true .neq 32 v45 (.int .i64 0)) w fun v47 w =>
    cnd v47 (
      R v45 w) <|
    px P (bin true .add 3 (g1 vs1) (.int .i64 1)) w fun v50 w =>
    again1 [v40, v50] w) (
    px P (bin true .neq 3 (g0 vs1) (.int .i64 0)) w fun v52 w =>
    cnd v52 (
      R (.int .i64 4) w) <|
    R (.int .i64 0) w)
theorem c149 (h : F149 R v0 v1 v2 w) : cl P 149 #[v0, v1, v2] w R := cq ⟨[], [], [(3, [7, 17])], [], []⟩ Tryz.func149 (by kernel_rfl) (by kernel_rfl) h
def F150 (R : Value → World → Prop) (v0 _v1 v2 : Value) (w : World) : Prop :=
  px P (Instr.loadAt 27 v2) w fun v6 w =>
  nc v6 w fun v7 w =>
  px P (Instr.fieldAt 165 v7 0) w fun v8 w =>
  px P (Instr.loadAt 26 v8) w fun v9 w =>
  cl P 151 #[v9, v0] w fun v11 w =>
  R v11 w
theorem c150 (h : F150 R v0 v1 v2 w) : cl P 150 #[v0, v1, v2] w R := cq ⟨[], [], [], [], []⟩ Tryz.func150 (by kernel_rfl) (by kernel_rfl) h
def F152 (R : Value → World → Prop) (v0 v1 v2 : Value) (w : World) : Prop :=
  px P (Instr.loadAt 27 v1) w fun v9 w =>
  nc v9 w fun v10 w =>
  px P (Instr.fieldAt 165 v10 0) w fun v11 w =>
  px P (Instr.loadAt 26 v11) w fun v12 w =>
  cl P 30 #[v12] w fun v13 w =>
  px P (Instr.extract v13 0) w fun v14 w =>
  px P (Instr.extract v13 1) w fun v15 w =>
  px P (bin true .neq 32 v15 (.int .i64 0)) w fun v17 w =>
  cnd v17 (
    R v15 w) <|
  px P (Instr.makeSlice 43 (.int .i64 512) (.int .i64 512)) w fun v19 w =>
  dr w fun w =>
  py P (fun _ => True) (Instr.sliceAt 43 v19 none (some (.int .i64 4)) none) fun v21 =>
  py P (Ext w) (Instr.loadAt 3 v2) fun v22 =>
  cl P 153 #[v21, v22] w fun _ w =>
  px P (Instr.sliceAt 43 v19 (some (.int .i64 4)) none none) w fun v25 w =>
  px P (Builtin.copy_ #[43, 9] 3 #[v25, v0]) w fun _ w =>
  pu P (Instr.storeAt 3 v2 v14) w fun w =>
  px P (Instr.loadAt 27 v1) w fun v29 w =>
  nc v29 w fun v30 w =>
  px P (Instr.fieldAt 165 v30 0) w fun v31 w =>
  px P (Instr.loadAt 26 v31) w fun v32 w =>
  cl P 31 #[v32, v14, v19] w fun v35 w =>
  R v35 w
theorem c152 (h : F152 R v0 v1 v2 w) : cl P 152 #[v0, v1, v2] w R := cq ⟨[], [], [], [], []⟩ Tryz.func152 (by kernel_rfl) (by kernel_rfl) h
def F153 (R : Value → World → Prop) (v0 v1 : Value) (w : World) : Prop :=
  px P (Builtin.len_ #[43] 3 #[v0]) w fun v6 w =>
  lp [(.int .i64 0)] w fun again1 vs1 w =>
  px P (bin false .lss 3 (g0 vs1) v6) w fun v8 w =>
  cnd v8 (
    px P (Builtin.len_ #[43] 3 #[v0]) w fun v12 w =>
    px P (bin true .sub 3 v12 (.int .i64 1)) w fun v13 w =>
    px P (bin false .sub 3 v13 (g0 vs1)) w fun v15 w =>
    px P (bin true .mul 3 (.int .i64 8) (g0 vs1)) w fun v18 w =>
    px P (bin false .shr 3 v1 v18) w fun v19 w =>
    px P (convert 3 5 v19) w fun v20 w =>
    px P (Instr.indexAt 43 v0 v15) w fun v21 w =>
    pu P (Instr.storeAt 5 v21 v20) w fun w =>
    px P (bin true .add 3 (g0 vs1) (.int .i64 1)) w fun v22 w =>
    again1 [v22] w) (
    R (.tuple #[]) w)
theorem c153 (h : F153 R v0 v1 w) : cl P 153 #[v0, v1] w R := cq ⟨[], [], [(1, [7])], [], []⟩ Tryz.func153 (by kernel_rfl) (by kernel_rfl) h
def F154 (R : Value → World → Prop) (v0 v1 v2 : Value) (w : World) : Prop :=
  px P (Instr.box 155 v2) w fun v5 w =>
  px P (Instr.loadAt 155 v5) w fun v10 w =>
  cl P 213 #[v10] w fun v11 w =>
  px P (Instr.extract v11 0) w fun v12 w =>
  px P (Instr.extract v11 1) w fun v13 w =>
  px P (bin true .neq 32 v13 (.int .i64 0)) w fun v15 w =>
  cnd v15 (
    R v13 w) <|
  dr w fun w =>
  held w fun S =>
  ny v0 fun v18 =>
  py P (fun _ => True) (Instr.fieldAt 165 v18 0) fun v19 =>
  py P S (Instr.loadAt 26 v19) fun v20 =>
  py P (fun _ => True) (Builtin.len_ #[43] 3 #[v12]) fun v24 =>
  py P (fun _ => True) (bin true .sub 3 (.int .i64 512) v24) fun v25 =>
  px P (Builtin.append_ #[43, 3] 43 #[v12, v25]) w fun v26 w => hs S w <|
  cl P 31 #[v20, v1, v26] w fun v27 w => hs S w <|
  R v27 w
theorem c154 (h : F154 R v0 v1 v2 w) : cl P 154 #[v0, v1, v2] w R := cq ⟨[], [], [], [], [4]⟩ Tryz.func154 (by kernel_rfl) (by kernel_rfl) h
def F157 (R : Value → World → Prop) (v0 v1 v2 : Value) (w : World) : Prop :=
  px P (Instr.box 155 v2) w fun v5 w =>
  px P (Builtin.len_ #[150] 3 #[v1]) w fun v20 w =>
  px P (bin true .sub 3 v20 (.int .i64 1)) w fun v21 w =>
  px P (Instr.indexAt 150 v1 v21) w fun v22 w =>
  px P (Instr.loadAt 157 v22) w fun v23 w =>
  px P (Instr.alloc 157 true (.tuple #[])) w fun v7 w =>
  pu P (Instr.storeAt 157 v7 v23) w fun w =>
  px P (Builtin.len_ #[150] 3 #[v1]) w fun v26 w =>
  px P (bin true .sub 3 v26 (.int .i64 1)) w fun v27 w =>
  px P (Builtin.len_ #[150] 3 #[v1]) w fun v29 w =>
  px P (bin true .sub 3 v29 (.int .i64 1)) w fun v30 w =>
  px P (Instr.sliceAt 150 v1 none (some v27) (some v30)) w fun v31 w =>
  px P (Instr.loadAt 155 v5) w fun v32 w =>
  cl P 158 #[v32] w fun v33 w =>
  px P (bin true .leq 3 v33 (.int .i64 512)) w fun v34 w =>
  cnd v34 (
    px P (Instr.fieldAt 157 v7 0) w fun v36 w =>
    px P (Instr.loadAt 3 v36) w fun v37 w =>
    px P (Instr.loadAt 155 v5) w fun v38 w =>
    cl P 154 #[v0, v37, v38] w fun v39 w =>
    R v39 w) <|
  px P (Instr.loadAt 155 v5) w fun v41 w =>
  cl P 162 #[v41] w fun v42 w =>
  px P (Instr.extract v42 0) w fun v43 w =>
  px P (Instr.extract v42 1) w fun v44 w =>
  px P (Instr.extract v42 2) w fun v45 w =>
  px P (Instr.alloc 155 true (.tuple #[])) w fun v8 w =>
  px P (Instr.alloc 155 true (.tuple #[])) w fun v10 w =>
  pu P (Instr.storeAt 155 v8 v43) w fun w =>
  pu P (Instr.storeAt 155 v10 v45) w fun w =>
  px P (Instr.fieldAt 157 v7 0) w fun v47 w =>
  px P (Instr.loadAt 3 v47) w fun v48 w =>
  px P (Instr.loadAt 155 v8) w fun v49 w =>
  cl P 154 #[v0, v48, v49] w fun v50 w =>
  px P (bin true .neq 32 v50 (.int .i64 0)) w fun v52 w =>
  cnd v52 (
    R v50 w) <|
  px P (Instr.loadAt 155 v10) w fun v56 w =>
  cl P 82 #[v0, v56] w fun v57 w =>
  px P (Instr.extract v57 0) w fun v58 w =>
  px P (Instr.extract v57 1) w fun v59 w =>
  px P (bin true .neq 32 v59 (.int .i64 0)) w fun v61 w =>
  cnd v61 (
    R v59 w) <|
  px P (Builtin.len_ #[150] 3 #[v31]) w fun v64 w =>
  px P (bin true .eql 3 v64 (.int .i64 0)) w fun v65 w =>
  cnd v65 (
    px P (Instr.build 159 #[(0, v44)]) w fun v69 w =>
    px P (Instr.buildSlice 153 1 #[(0, v69)]) w fun v70 w =>
    px P (Instr.fieldAt 157 v7 0) w fun v71 w =>
    px P (Instr.loadAt 3 v71) w fun v72 w =>
    px P (Instr.buildSlice 48 2 #[(0, v72), (1, v58)]) w fun v74 w =>
    px P (Instr.build 155 #[(1, v70), (2, v74)]) w fun v75 w =>
    cl P 82 #[v0, v75] w fun v76 w =>
    px P (Instr.extract v76 0) w fun v77 w =>
    px P (Instr.extract v76 1) w fun v78 w =>
    px P (bin true .neq 32 v78 (.int .i64 0)) w fun v80 w =>
    cnd v80 (
      R v78 w) <|
    nc v0 w fun v83 w =>
    px P (Instr.fieldAt 165 v83 0) w fun v84 w =>
    px P (Instr.loadAt 26 v84) w fun v85 w =>
    cl P 32 #[v85, v77] w fun v87 w =>
    R v87 w) <|
  px P (Builtin.len_ #[150] 3 #[v31]) w fun v90 w =>
  px P (bin true .sub 3 v90 (.int .i64 1)) w fun v91 w =>
  px P (Instr.indexAt 150 v31 v91) w fun v92 w =>
  px P (Instr.loadAt 157 v92) w fun v93 w =>
  px P (Instr.alloc 157 true (.tuple #[])) w fun v16 w =>
  pu P (Instr.storeAt 157 v16 v93) w fun w =>
  px P (Instr.fieldAt 157 v16 2) w fun v94 w =>
  px P (Instr.loadAt 155 v94) w fun v95 w =>
  px P (Instr.alloc 155 true (.tuple #[])) w fun v17 w =>
  pu P (Instr.storeAt 155 v17 v95) w fun w =>
  cut (fun J1 =>
    dr w fun w =>
    held w fun S =>
    py P (fun _ => True) (Instr.fieldAt 155 v17 1) fun v96 =>
    py P (Ext w) (Instr.loadAt 153 v96) fun v97 =>
    py P (fun _ => True) (Instr.fieldAt 157 v16 1) fun v99 =>
    py P S (Instr.loadAt 3 v99) fun v100 =>
    py P (fun _ => True) (Instr.build 159 #[(0, v44)]) fun v102 =>
    (
      cl P 83 #[v97] w fun v98 w => hs S w <|
      pg P (Instr.buildSlice 153 1 #[(0, v102)]) w fun v103 w => hs S w <|
      cl P 84 #[v98, v100, v103] w fun v104 w => hs S w <|
      py P (fun _ => True) (Instr.fieldAt 155 v17 1) fun v105 =>
      pu P (Instr.storeAt 153 v105 v104) w fun w => hs S w <|
      J1 [] w) ∧
    (
      pg P (Instr.buildSlice 153 1 #[(0, v102)]) w fun v103_1 w => hs S w <|
      cl P 83 #[v97] w fun v98_1 w => hs S w <|
      cl P 84 #[v98_1, v100, v103_1] w fun v104_1 w => hs S w <|
      py P (fun _ => True) (Instr.fieldAt 155 v17 1) fun v105_1 =>
      pu P (Instr.storeAt 153 v105_1 v104_1) w fun w => hs S w <|
      J1 [] w)) fun _ w =>
  cut (fun J2 =>
    dr w fun w =>
    held w fun S =>
    py P (fun _ => True) (Instr.fieldAt 155 v17 2) fun v106 =>
    py P (Ext w) (Instr.loadAt 48 v106) fun v107 =>
    py P (fun _ => True) (Instr.fieldAt 157 v16 1) fun v109 =>
    py P S (Instr.loadAt 3 v109) fun v110 =>
    py P (fun _ => True) (bin true .add 3 v110 (.int .i64 1)) fun v111 =>
    (
      cl P 159 #[v107] w fun v108 w => hs S w <|
      pg P (Instr.buildSlice 48 1 #[(0, v58)]) w fun v113 w => hs S w <|
      cl P 215 #[v108, v111, v113] w fun v114 w => hs S w <|
      py P (fun _ => True) (Instr.fieldAt 155 v17 2) fun v115 =>
      pu P (Instr.storeAt 48 v115 v114) w fun w => hs S w <|
      J2 [] w) ∧
    (
      pg P (Instr.buildSlice 48 1 #[(0, v58)]) w fun v113_1 w => hs S w <|
      cl P 159 #[v107] w fun v108_1 w => hs S w <|
      cl P 215 #[v108_1, v111, v113_1] w fun v114_1 w => hs S w <|
      py P (fun _ => True) (Instr.fieldAt 155 v17 2) fun v115_1 =>
      pu P (Instr.storeAt 48 v115_1 v114_1) w fun w => hs S w <|
      J2 [] w)) fun _ w =>
  px P (Instr.loadAt 155 v17) w fun v118 w =>
  cl P 157 #[v0, v31, v118] w fun v119 w =>
  R v119 w
theorem c157 (h : F157 R v0 v1 v2 w) : cl P 157 #[v0, v1, v2] w R := cq ⟨[], [], [], [(19, []), (20, [])], [19, 20]⟩ Tryz.func157 (by kernel_rfl) (by kernel_rfl) h
def F163 (R : Value → World → Prop) (_v0 v1 v2 : Value) (w : World) : Prop :=
  px P (Instr.loadAt 43 v2) w fun v6 w =>
  px P (Builtin.append_ #[43, 43] 43 #[v6, v1]) w fun v8 w =>
  pu P (Instr.storeAt 43 v2 v8) w fun w =>
  R (.int .i64 0) w
theorem c163 (h : F163 R v0 v1 v2 w) : cl P 163 #[v0, v1, v2] w R := cq ⟨[], [], [], [], []⟩ Tryz.func163 (by kernel_rfl) (by kernel_rfl) h
def F212 (R : Value → World → Prop) (v0 : Value) (w : World) : Prop :=
  px P (Builtin.len_ #[43] 3 #[v0]) w fun v7 w =>
  lp [(.int .i64 0), (.int .i64 0)] w fun again1 vs1 w =>
  px P (bin false .lss 3 (g1 vs1) v7) w fun v9 w =>
  cnd v9 (
    px P (Instr.indexAt 43 v0 (g1 vs1)) w fun v10 w =>
    px P (Instr.loadAt 5 v10) w fun v11 w =>
    px P (bin true .shl 3 (g0 vs1) (.int .u64 8)) w fun v13 w =>
    px P (convert 5 3 v11) w fun v15 w =>
    px P (bin false .or 3 v13 v15) w fun v16 w =>
    px P (bin true .add 3 (g1 vs1) (.int .i64 1)) w fun v17 w =>
    again1 [v16, v17] w) (
    R (g0 vs1) w)
theorem c212 (h : F212 R v0 w) : cl P 212 #[v0] w R := cq ⟨[], [], [(3, [3, 8])], [], []⟩ Tryz.func212 (by kernel_rfl) (by kernel_rfl) h
end Go.Proofs.YtomggfibpbaodaaGreatDoor
