/- What calls of the program's functions ask, step by step. -/
import Derived.Test.YtomggfibpbaodaaGreatDoorCA
set_option maxRecDepth 100000
namespace Go.Proofs.YtomggfibpbaodaaGreatDoor
open Go.V
variable {R : Value → World → Prop} {v0 v1 v2 v3 v4 v5 v6 v7 v8 v9 v10 v11 : Value} {w : World}
def F6 (R : Value → World → Prop) (v0 v1 v2 : Value) (w : World) : Prop :=
  cl P 15 #[] w fun v16 w =>
  px P (Op.unary .not v16) w fun v17 w =>
  gd v17 false w (fun k => k v0 w) fun v19 w =>
  gd v17 false w (fun k => px P (Builtin.len_ #[59] 3 #[v19]) w fun v w => k v w) fun v20 w =>
  gd v17 false w (fun k => px P (bin true .gtr 3 v20 (.int .i64 40)) w fun v w => k v w) fun v21 w =>
  pk v17 (.bool true) v21 w fun v22 w =>
  gd v22 false w (fun k => k v2 w) fun v24 w =>
  gd v22 false w (fun k => cl P 16 #[v24] w fun v w => k v w) fun v25 w =>
  pk v22 (.bool true) v25 w fun v26 w =>
  cnd v26 (
    cl P 15 #[] w fun v27 w =>
    R v27 w) <|
  cl P 17 #[(.int .i64 400)] w fun v29 w =>
  px P (Instr.extract v29 0) w fun _ w =>
  px P (Instr.extract v29 1) w fun v31 w =>
  px P (Instr.extract v29 2) w fun _ w =>
  lp [(.int .i64 0)] w fun again1 vs1 w =>
  px P (Builtin.len_ #[59] 3 #[v0]) w fun v35 w =>
  px P (bin false .lss 3 (g0 vs1) v35) w fun v36 w =>
  cnd v36 (
    cl P 30 #[v31] w fun v41 w =>
    px P (Instr.extract v41 0) w fun v42 w =>
    px P (Instr.extract v41 1) w fun v43 w =>
    px P (Instr.makeSlice 43 (.int .i64 512) (.int .i64 512)) w fun v44 w =>
    px P (Instr.indexAt 59 v0 (g0 vs1)) w fun v48 w =>
    px P (Instr.loadAt 43 v48) w fun v49 w =>
    px P (Builtin.copy_ #[43, 43] 3 #[v44, v49]) w fun _ w =>
    px P (bin true .neq 32 v43 (.int .i64 0)) w fun v52 w =>
    gd v52 false w (fun k => k v31 w) fun v54 w =>
    gd v52 false w (fun k => k v42 w) fun v55 w =>
    gd v52 false w (fun k => k v44 w) fun v56 w =>
    gd v52 false w (fun k => cl P 31 #[v54, v55, v56] w fun v w => k v w) fun v57 w =>
    gd v52 false w (fun k => px P (bin true .neq 32 v57 (.int .i64 0)) w fun v w => k v w) fun v58 w =>
    pk v52 (.bool true) v58 w fun v59 w =>
    cnd v59 (
      R (.bool false) w) <|
    px P (bin true .add 3 (g0 vs1) (.int .i64 1)) w fun v38 w =>
    again1 [v38] w) (
    px P (Builtin.len_ #[59] 3 #[v0]) w fun v61 w =>
    px P (bin true .gtr 3 v61 (.int .i64 0)) w fun v62 w =>
    gd v62 true w (fun k => k v31 w) fun v64 w =>
    gd v62 true w (fun k => k v1 w) fun v65 w =>
    gd v62 true w (fun k => px P (convert 3 50 v65) w fun v w => k v w) fun v66 w =>
    gd v62 true w (fun k => k v0 w) fun v67 w =>
    gd v62 true w (fun k => px P (Builtin.len_ #[59] 3 #[v67]) w fun v w => k v w) fun v68 w =>
    gd v62 true w (fun k => px P (convert 3 50 v68) w fun v w => k v w) fun v69 w =>
    gd v62 true w (fun k => px P (bin false .rem 50 v66 v69) w fun v w => k v w) fun v70 w =>
    gd v62 true w (fun k => px P (convert 50 3 v70) w fun v w => k v w) fun v71 w =>
    gd v62 true w (fun k => px P (bin true .add 3 (.int .i64 1) v71) w fun v w => k v w) fun v72 w =>
    gd v62 true w (fun k => cl P 32 #[v64, v72] w fun v w => k v w) fun v73 w =>
    gd v62 true w (fun k => px P (bin true .eql 32 v73 (.int .i64 2)) w fun v w => k v w) fun v74 w =>
    pk v62 v74 (.bool false) w fun v75 w =>
    cnd v75 (
      R (.bool false) w) <|
    cl P 26 #[v31] w fun v77 w =>
    lp [(.int .i64 0)] w fun again2 vs2 w =>
    px P (Builtin.len_ #[22] 3 #[v2]) w fun v80 w =>
    px P (bin false .lss 3 (g0 vs2) v80) w fun v81 w =>
    cnd v81 (
      px P (Instr.indexAt 22 v2 (g0 vs2)) w fun v86 w =>
      px P (Instr.fieldAt 31 v86 0) w fun v87 w =>
      px P (Instr.loadAt 3 v87) w fun v88 w =>
      px P (bin true .eql 3 v88 (.int .i64 0)) w fun v90 w =>
      cut (fun J3 =>
        cnd v90 (
          dr w fun w =>
          held w fun S =>
          py P (fun _ => True) (Instr.indexAt 22 v2 (g0 vs2)) fun v94 =>
          py P (fun _ => True) (Instr.fieldAt 31 v94 1) fun v95 =>
          py P S (Instr.loadAt 9 v95) fun v96 =>
          py P (fun _ => True) (Instr.indexAt 22 v2 (g0 vs2)) fun v99 =>
          py P (Ext w) (Instr.loadAt 31 v99) fun v100 =>
          cl P 19 #[v100] w fun v101 w => hs S w <|
          cl P 18 #[v77, v96, v101] w fun _ w => hs S w <|
          J3 [] w) (
          px P (bin true .eql 3 v88 (.int .i64 1)) w fun v104 w =>
          cut (fun J4 =>
            cnd v104 (
              px P (Instr.indexAt 22 v2 (g0 vs2)) w fun v108 w =>
              px P (Instr.fieldAt 31 v108 1) w fun v109 w =>
              px P (Instr.loadAt 9 v109) w fun v110 w =>
              cl P 22 #[v77, v110] w fun _ w =>
              J4 [] w) (
              px P (bin true .eql 3 v88 (.int .i64 2)) w fun v113 w =>
              cut (fun J5 =>
                cnd v113 (
                  px P (Instr.indexAt 22 v2 (g0 vs2)) w fun v117 w =>
                  px P (Instr.fieldAt 31 v117 1) w fun v118 w =>
                  px P (Instr.loadAt 9 v118) w fun v119 w =>
                  cl P 20 #[v77, v119] w fun _ w =>
                  J5 [] w) (
                  px P (bin true .eql 3 v88 (.int .i64 3)) w fun v122 w =>
                  cut (fun J6 =>
                    cnd v122 (
                      px P (Instr.indexAt 22 v2 (g0 vs2)) w fun v126 w =>
                      px P (Instr.fieldAt 31 v126 1) w fun v127 w =>
                      px P (Instr.loadAt 9 v127) w fun v128 w =>
                      cl P 21 #[v77, v128, (.string ⟨#[]⟩)] w fun _ w =>
                      J6 [] w) (
                      px P (bin true .eql 3 v88 (.int .i64 4)) w fun v131 w =>
                      cut (fun J7 =>
                        cnd v131 (
                          cl P 25 #[v77] w fun _ w =>
                          J7 [] w) (
                          J7 [] w)) fun _ w =>
                      J6 [] w)) fun _ w =>
                  J5 [] w)) fun _ w =>
              J4 [] w)) fun _ w =>
          J3 [] w)) fun _ w =>
      px P (bin true .add 3 (g0 vs2) (.int .i64 1)) w fun v83 w =>
      again2 [v83] w) (
      cl P 33 #[v31] w fun v135 w =>
      px P (bin true .eql 3 v135 (.int .i64 299)) w fun v136 w =>
      R v136 w))
theorem c6 (h : F6 R v0 v1 v2 w) : cl P 6 #[v0, v1, v2] w R := cq ⟨[(20, []), (22, []), (24, []), (26, []), (28, [])], [], [(5, [10]), (16, [15])], [], [20]⟩ Tryz.func6 (by kernel_rfl) (by kernel_rfl) h
end Go.Proofs.YtomggfibpbaodaaGreatDoor
