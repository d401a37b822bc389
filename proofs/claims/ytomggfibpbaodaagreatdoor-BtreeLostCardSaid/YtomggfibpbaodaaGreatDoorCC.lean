/- What calls of the program's functions ask, step by step. -/
import Derived.Test.YtomggfibpbaodaaGreatDoorCA
set_option maxRecDepth 100000
namespace Go.Proofs.YtomggfibpbaodaaGreatDoor
open Go.V
variable {R : Value → World → Prop} {v0 v1 v2 v3 v4 v5 v6 v7 v8 v9 v10 v11 : Value} {w : World}
def F167 (R : Value → World → Prop) (v0 v1 : Value) (w : World) : Prop :=
  px P (Builtin.len_ #[9] 3 #[v1]) w fun v6 w =>
  px P (bin true .gtr 3 v6 (.int .i64 2147483647)) w fun v7 w =>
  cnd v7 (
    cl P 175 #[v0] w fun v9 w =>
    R v9 w) <|
  px P (Builtin.len_ #[9] 3 #[v1]) w fun v12 w =>
  cl P 168 #[v0, v12] w fun v13 w =>
  px P (Builtin.append_ #[43, 9] 43 #[v13, v1]) w fun v15 w =>
  R v15 w
theorem c167 (h : F167 R v0 v1 w) : cl P 167 #[v0, v1] w R := cq ⟨[], [], [], [], []⟩ Tryz.func167 (by kernel_rfl) (by kernel_rfl) h
def F168 (R : Value → World → Prop) (v0 v1 : Value) (w : World) : Prop :=
  px P (bin true .lss 3 v1 (.int .i64 0)) w fun v6 w =>
  gd v6 false w (fun k => k v1 w) fun v8 w =>
  gd v6 false w (fun k => px P (bin true .gtr 3 v8 (.int .i64 2147483647)) w fun v w => k v w) fun v9 w =>
  pk v6 (.bool true) v9 w fun v10 w =>
  cnd v10 (
    cl P 175 #[v0] w fun v12 w =>
    R v12 w) <|
  px P (convert 3 321 v1) w fun v15 w =>
  cl P 227 #[v0, v15] w fun v16 w =>
  R v16 w
theorem c168 (h : F168 R v0 v1 w) : cl P 168 #[v0, v1] w R := cq ⟨[], [], [], [], []⟩ Tryz.func168 (by kernel_rfl) (by kernel_rfl) h
def F178 (R : Value → World → Prop) (v0 : Value) (w : World) : Prop :=
  cl P 175 #[v0] w fun v4 w =>
  px P (Instr.build 337 #[(0, v4)]) w fun v5 w =>
  px P (Instr.box 337 v5) w fun v6 w =>
  px P (Instr.build 339 #[(0, v6)]) w fun v7 w =>
  px P (Instr.box 339 v7) w fun v8 w =>
  R v8 w
theorem c178 (h : F178 R v0 w) : cl P 178 #[v0] w R := cq ⟨[], [], [], [], []⟩ Tryz.func178 (by kernel_rfl) (by kernel_rfl) h
def F179 (R : Value → World → Prop) (v0 : Value) (w : World) : Prop :=
  px P (bin true .neq 288 v0 (.pointer none)) w fun v4 w =>
  gd v4 true w (fun k => k v0 w) fun v6 w =>
  gd v4 true w (fun k => nc v6 w fun v w => k v w) fun v7 w =>
  gd v4 true w (fun k => px P (Instr.fieldAt 339 v7 0) w fun v w => k v w) fun v8 w =>
  gd v4 true w (fun k => px P (Instr.loadAt 335 v8) w fun v w => k v w) fun v9 w =>
  gd v4 true w (fun k => cl P 240 #[v9] w fun v w => k v w) fun v10 w =>
  pk v4 v10 (.bool false) w fun v11 w =>
  R v11 w
theorem c179 (h : F179 R v0 w) : cl P 179 #[v0] w R := cq ⟨[], [], [], [], []⟩ Tryz.func179 (by kernel_rfl) (by kernel_rfl) h
def F180 (R : Value → World → Prop) (v0 : Value) (w : World) : Prop :=
  cl P 179 #[v0] w fun v4 w =>
  gd v4 true w (fun k => k v0 w) fun v6 w =>
  gd v4 true w (fun k => cl P 241 #[v6] w fun v w => k v w) fun v7 w =>
  gd v4 true w (fun k => px P (bin true .eql 3 v7 (.int .i64 0)) w fun v w => k v w) fun v8 w =>
  pk v4 v8 (.bool false) w fun v9 w =>
  R v9 w
theorem c180 (h : F180 R v0 w) : cl P 180 #[v0] w R := cq ⟨[], [], [], [], []⟩ Tryz.func180 (by kernel_rfl) (by kernel_rfl) h
def F181 (R : Value → World → Prop) (v0 v1 : Value) (w : World) : Prop :=
  px P (bin true .eql 288 v0 (.pointer none)) w fun v8 w =>
  cnd v8 (
    R (.int .i64 0) w) <|
  cl P 242 #[v0] w fun v11 w =>
  px P (Instr.extract v11 0) w fun v12 w =>
  px P (Instr.extract v11 1) w fun v13 w =>
  px P (convert 321 3 v12) w fun v16 w =>
  gd v13 true w (fun k => k v1 w) fun v19 w =>
  gd v13 true w (fun k => px P (bin true .geq 3 v19 (.int .i64 0)) w fun v w => k v w) fun v20 w =>
  pk v13 v20 (.bool false) w fun v21 w =>
  gd v21 true w (fun k => k v12 w) fun v23 w =>
  gd v21 true w (fun k => px P (bin true .leq 321 v23 (.int .u64 2147483647)) w fun v w => k v w) fun v24 w =>
  pk v21 v24 (.bool false) w fun v25 w =>
  gd v25 true w (fun k => k v12 w) fun v27 w =>
  gd v25 true w (fun k => px P (convert 321 3 v27) w fun v w => k v w) fun v28 w =>
  gd v25 true w (fun k => k v1 w) fun v29 w =>
  gd v25 true w (fun k => px P (bin false .leq 3 v28 v29) w fun v w => k v w) fun v30 w =>
  pk v25 v30 (.bool false) w fun v31 w =>
  cl P 243 #[v0, v16, v31] w fun v32 w =>
  R v32 w
theorem c181 (h : F181 R v0 v1 w) : cl P 181 #[v0, v1] w R := cq ⟨[], [], [], [], []⟩ Tryz.func181 (by kernel_rfl) (by kernel_rfl) h
def F182 (R : Value → World → Prop) (v0 v1 : Value) (w : World) : Prop :=
  px P (bin true .eql 288 v0 (.pointer none)) w fun v7 w =>
  cnd v7 (
    R (.string ⟨#[]⟩) w) <|
  cl P 181 #[v0, v1] w fun v10 w =>
  cl P 179 #[v0] w fun v12 w =>
  px P (Op.unary .not v12) w fun v13 w =>
  gd v13 false w (fun k => k v10 w) fun v15 w =>
  gd v13 false w (fun k => k v0 w) fun v16 w =>
  gd v13 false w (fun k => nc v16 w fun v w => k v w) fun v17 w =>
  gd v13 false w (fun k => px P (Instr.fieldAt 339 v17 0) w fun v w => k v w) fun v18 w =>
  gd v13 false w (fun k => px P (Instr.loadAt 335 v18) w fun v w => k v w) fun v19 w =>
  gd v13 false w (fun k => nc v19 w fun v w => k v w) fun v20 w =>
  gd v13 false w (fun k => px P (Instr.fieldAt 337 v20 0) w fun v w => k v w) fun v21 w =>
  gd v13 false w (fun k => px P (Instr.loadAt 43 v21) w fun v w => k v w) fun v22 w =>
  gd v13 false w (fun k => px P (Builtin.len_ #[43] 3 #[v22]) w fun v w => k v w) fun v23 w =>
  gd v13 false w (fun k => px P (bin false .gtr 3 v15 v23) w fun v w => k v w) fun v24 w =>
  pk v13 (.bool true) v24 w fun v25 w =>
  cnd v25 (
    cl P 244 #[v0, (.string ⟨#[]⟩), (.bool false)] w fun v27 w =>
    R v27 w) <|
  nc v0 w fun v30 w =>
  px P (Instr.fieldAt 339 v30 0) w fun v31 w =>
  px P (Instr.loadAt 335 v31) w fun v32 w =>
  cl P 245 #[v32, v10] w fun v34 w =>
  px P (convert 43 9 v34) w fun v35 w =>
  cl P 244 #[v0, v35, (.bool true)] w fun v36 w =>
  R v36 w
theorem c182 (h : F182 R v0 v1 w) : cl P 182 #[v0, v1] w R := cq ⟨[], [], [], [], []⟩ Tryz.func182 (by kernel_rfl) (by kernel_rfl) h
def F195 (R : Value → World → Prop) (v0 : Value) (w : World) : Prop :=
  px P (bin true .eql 288 v0 (.pointer none)) w fun v4 w =>
  cnd v4 (
    R (.bool false) w) <|
  cl P 181 #[v0, (.int .i64 1)] w fun v6 w =>
  px P (bin true .eql 3 v6 (.int .i64 1)) w fun v7 w =>
  R v7 w
theorem c195 (h : F195 R v0 w) : cl P 195 #[v0] w R := cq ⟨[], [], [], [], []⟩ Tryz.func195 (by kernel_rfl) (by kernel_rfl) h
def F227 (R : Value → World → Prop) (v0 v1 : Value) (w : World) : Prop :=
  cl P 175 #[v0] w fun v7 w =>
  lp [v1, v7] w fun again1 vs1 w =>
  px P (bin true .gtr 321 (g0 vs1) (.int .u64 127)) w fun v9 w =>
  cnd v9 (
    px P (convert 321 5 (g0 vs1)) w fun v14 w =>
    px P (bin true .or 5 v14 (.int .u8 128)) w fun v15 w =>
    px P (Instr.buildSlice 43 1 #[(0, v15)]) w fun v16 w =>
    px P (Builtin.append_ #[43, 43] 43 #[(g1 vs1), v16]) w fun v17 w =>
    px P (bin true .shr 321 (g0 vs1) (.int .u64 7)) w fun v11 w =>
    again1 [v11, v17] w) (
    px P (convert 321 5 (g0 vs1)) w fun v20 w =>
    px P (Instr.buildSlice 43 1 #[(0, v20)]) w fun v21 w =>
    px P (Builtin.append_ #[43, 43] 43 #[(g1 vs1), v21]) w fun v22 w =>
    R v22 w)
theorem c227 (h : F227 R v0 v1 w) : cl P 227 #[v0, v1] w R := cq ⟨[], [], [(2, [1, 5])], [], []⟩ Tryz.func227 (by kernel_rfl) (by kernel_rfl) h
def F240 (R : Value → World → Prop) (v0 : Value) (w : World) : Prop :=
  px P (bin true .neq 335 v0 (.pointer none)) w fun v4 w =>
  gd v4 true w (fun k => k v0 w) fun v6 w =>
  gd v4 true w (fun k => nc v6 w fun v w => k v w) fun v7 w =>
  gd v4 true w (fun k => px P (Instr.fieldAt 337 v7 1) w fun v w => k v w) fun v8 w =>
  gd v4 true w (fun k => px P (Instr.loadAt 4 v8) w fun v w => k v w) fun v9 w =>
  gd v4 true w (fun k => px P (Op.unary .not v9) w fun v w => k v w) fun v10 w =>
  pk v4 v10 (.bool false) w fun v11 w =>
  R v11 w
theorem c240 (h : F240 R v0 w) : cl P 240 #[v0] w R := cq ⟨[], [], [], [], []⟩ Tryz.func240 (by kernel_rfl) (by kernel_rfl) h
def F241 (R : Value → World → Prop) (v0 : Value) (w : World) : Prop :=
  px P (bin true .eql 288 v0 (.pointer none)) w fun v4 w =>
  cnd v4 (
    R (.int .i64 0) w) <|
  nc v0 w fun v6 w =>
  px P (Instr.fieldAt 339 v6 0) w fun v7 w =>
  px P (Instr.loadAt 335 v7) w fun v8 w =>
  cl P 277 #[v8] w fun v9 w =>
  R v9 w
theorem c241 (h : F241 R v0 w) : cl P 241 #[v0] w R := cq ⟨[], [], [], [], []⟩ Tryz.func241 (by kernel_rfl) (by kernel_rfl) h
def F242 (R : Value → World → Prop) (v0 : Value) (w : World) : Prop :=
  cl P 179 #[v0] w fun v7 w =>
  px P (Op.unary .not v7) w fun v8 w =>
  cnd v8 (
    R (.tuple #[(.int .u64 0), (.bool false)]) w) <|
  nc v0 w fun v11 w =>
  px P (Instr.fieldAt 339 v11 0) w fun v12 w =>
  px P (Instr.loadAt 335 v12) w fun v13 w =>
  nc v13 w fun v14 w =>
  px P (Instr.fieldAt 337 v14 0) w fun v15 w =>
  px P (Instr.loadAt 43 v15) w fun v16 w =>
  cl P 278 #[v16] w fun v17 w =>
  px P (Instr.extract v17 0) w fun v18 w =>
  px P (Instr.extract v17 1) w fun v19 w =>
  px P (bin true .leq 3 v19 (.int .i64 0)) w fun v21 w =>
  gd v21 false w (fun k => k v19 w) fun v23 w =>
  gd v21 false w (fun k => px P (bin true .gtr 3 v23 (.int .i64 1)) w fun v w => k v w) fun v24 w =>
  gd v21 false w (fun k => k v24 w) fun v25 w =>
  gd v25 true w (fun k => k v0 w) fun v26 w =>
  gd v25 true w (fun k => nc v26 w fun v w => k v w) fun v27 w =>
  gd v25 true w (fun k => px P (Instr.fieldAt 339 v27 0) w fun v w => k v w) fun v28 w =>
  gd v25 true w (fun k => px P (Instr.loadAt 335 v28) w fun v w => k v w) fun v29 w =>
  gd v25 true w (fun k => nc v29 w fun v w => k v w) fun v30 w =>
  gd v25 true w (fun k => px P (Instr.fieldAt 337 v30 0) w fun v w => k v w) fun v31 w =>
  gd v25 true w (fun k => px P (Instr.loadAt 43 v31) w fun v w => k v w) fun v32 w =>
  gd v25 true w (fun k => k v19 w) fun v33 w =>
  gd v25 true w (fun k => px P (bin true .sub 3 v33 (.int .i64 1)) w fun v w => k v w) fun v34 w =>
  gd v25 true w (fun k => px P (Instr.indexAt 43 v32 v34) w fun v w => k v w) fun v35 w =>
  gd v25 true w (fun k => px P (Instr.loadAt 5 v35) w fun v w => k v w) fun v36 w =>
  gd v25 true w (fun k => px P (bin true .eql 5 v36 (.int .u8 0)) w fun v w => k v w) fun v37 w =>
  gd v21 false w (fun k => pk v25 v37 (.bool false) w fun v w => k v w) fun v38 w =>
  pk v21 (.bool true) v38 w fun v39 w =>
  cnd v39 (
    R (.tuple #[(.int .u64 0), (.bool false)]) w) <|
  nc v0 w fun v41 w =>
  px P (Instr.fieldAt 339 v41 0) w fun v42 w =>
  px P (Instr.loadAt 335 v42) w fun v43 w =>
  cl P 245 #[v43, v19] w fun _ w =>
  R (.tuple #[v18, (.bool true)]) w
theorem c242 (h : F242 R v0 w) : cl P 242 #[v0] w R := cq ⟨[], [], [], [], []⟩ Tryz.func242 (by kernel_rfl) (by kernel_rfl) h
def F243 (R : Value → World → Prop) (v0 v1 v2 : Value) (w : World) : Prop :=
  px P (Op.unary .not v2) w fun v9 w =>
  cut (fun J1 =>
    cnd v9 (
      nc v0 w fun v11 w =>
      px P (Instr.fieldAt 339 v11 0) w fun v12 w =>
      px P (Instr.loadAt 335 v12) w fun v13 w =>
      nc v13 w fun v14 w =>
      px P (Instr.fieldAt 337 v14 1) w fun v15 w =>
      pu P (Instr.storeAt 4 v15 (.bool true)) w fun w =>
      J1 [] w) (
      J1 [] w)) fun _ w =>
  nc v0 w fun v17 w =>
  px P (Instr.fieldAt 339 v17 0) w fun v18 w =>
  px P (Instr.loadAt 335 v18) w fun v19 w =>
  nc v19 w fun v20 w =>
  px P (Instr.fieldAt 337 v20 1) w fun v21 w =>
  px P (Instr.loadAt 4 v21) w fun v22 w =>
  cnd v22 (
    R (.int .i64 0) w) <|
  R v1 w
theorem c243 (h : F243 R v0 v1 v2 w) : cl P 243 #[v0, v1, v2] w R := cq ⟨[(2, [])], [], [], [], []⟩ Tryz.func243 (by kernel_rfl) (by kernel_rfl) h
def F244 (R : Value → World → Prop) (v0 v1 v2 : Value) (w : World) : Prop :=
  px P (Op.unary .not v2) w fun v9 w =>
  cut (fun J1 =>
    cnd v9 (
      nc v0 w fun v11 w =>
      px P (Instr.fieldAt 339 v11 0) w fun v12 w =>
      px P (Instr.loadAt 335 v12) w fun v13 w =>
      nc v13 w fun v14 w =>
      px P (Instr.fieldAt 337 v14 1) w fun v15 w =>
      pu P (Instr.storeAt 4 v15 (.bool true)) w fun w =>
      J1 [] w) (
      J1 [] w)) fun _ w =>
  nc v0 w fun v17 w =>
  px P (Instr.fieldAt 339 v17 0) w fun v18 w =>
  px P (Instr.loadAt 335 v18) w fun v19 w =>
  nc v19 w fun v20 w =>
  px P (Instr.fieldAt 337 v20 1) w fun v21 w =>
  px P (Instr.loadAt 4 v21) w fun v22 w =>
  cnd v22 (
    R (.string ⟨#[]⟩) w) <|
  R v1 w
theorem c244 (h : F244 R v0 v1 v2 w) : cl P 244 #[v0, v1, v2] w R := cq ⟨[(2, [])], [], [], [], []⟩ Tryz.func244 (by kernel_rfl) (by kernel_rfl) h
def F245 (R : Value → World → Prop) (v0 v1 : Value) (w : World) : Prop :=
  nc v0 w fun v7 w =>
  px P (Instr.fieldAt 337 v7 0) w fun v8 w =>
  px P (Instr.loadAt 43 v8) w fun v9 w =>
  px P (Instr.sliceAt 43 v9 none (some v1) none) w fun v11 w =>
  nc v0 w fun v14 w =>
  px P (Instr.fieldAt 337 v14 0) w fun v15 w =>
  px P (Instr.loadAt 43 v15) w fun v16 w =>
  px P (Instr.sliceAt 43 v16 (some v1) none none) w fun v18 w =>
  nc v0 w fun v19 w =>
  px P (Instr.fieldAt 337 v19 0) w fun v20 w =>
  pu P (Instr.storeAt 43 v20 v18) w fun w =>
  R v11 w
theorem c245 (h : F245 R v0 v1 w) : cl P 245 #[v0, v1] w R := cq ⟨[], [], [], [], []⟩ Tryz.func245 (by kernel_rfl) (by kernel_rfl) h
def F251 (R : Value → World → Prop) (v0 v1 : Value) (w : World) : Prop :=
  cut (fun J1 =>
    cnd v1 (
      J1 [(.int .i64 1)] w) (
      J1 [(.int .i64 0)] w)) fun vs1 w =>
  cl P 168 #[v0, (g0 vs1)] w fun v9 w =>
  R v9 w
theorem c251 (h : F251 R v0 v1 w) : cl P 251 #[v0, v1] w R := cq ⟨[(3, [5])], [], [], [], []⟩ Tryz.func251 (by kernel_rfl) (by kernel_rfl) h
def F277 (R : Value → World → Prop) (v0 : Value) (w : World) : Prop :=
  px P (bin true .eql 335 v0 (.pointer none)) w fun v4 w =>
  gd v4 false w (fun k => k v0 w) fun v6 w =>
  gd v4 false w (fun k => nc v6 w fun v w => k v w) fun v7 w =>
  gd v4 false w (fun k => px P (Instr.fieldAt 337 v7 1) w fun v w => k v w) fun v8 w =>
  gd v4 false w (fun k => px P (Instr.loadAt 4 v8) w fun v w => k v w) fun v9 w =>
  pk v4 (.bool true) v9 w fun v10 w =>
  cnd v10 (
    R (.int .i64 0) w) <|
  nc v0 w fun v12 w =>
  px P (Instr.fieldAt 337 v12 0) w fun v13 w =>
  px P (Instr.loadAt 43 v13) w fun v14 w =>
  px P (Builtin.len_ #[43] 3 #[v14]) w fun v15 w =>
  R v15 w
theorem c277 (h : F277 R v0 w) : cl P 277 #[v0] w R := cq ⟨[], [], [], [], []⟩ Tryz.func277 (by kernel_rfl) (by kernel_rfl) h
def F278 (R : Value → World → Prop) (v0 : Value) (w : World) : Prop :=
  px P (Builtin.len_ #[43] 3 #[v0]) w fun v8 w =>
  lp [(.int .u64 0), (.int .i64 0)] w fun again1 vs1 w =>
  px P (bin false .lss 3 (g1 vs1) v8) w fun v10 w =>
  cnd v10 (
    px P (Instr.indexAt 43 v0 (g1 vs1)) w fun v12 w =>
    px P (Instr.loadAt 5 v12) w fun v13 w =>
    px P (bin true .eql 3 (g1 vs1) (.int .i64 10)) w fun v15 w =>
    gd v15 false w (fun k => k (g1 vs1) w) fun v17 w =>
    gd v15 false w (fun k => px P (bin true .eql 3 v17 (.int .i64 9)) w fun v w => k v w) fun v18 w =>
    gd v15 false w (fun k => k v18 w) fun v19 w =>
    gd v19 true w (fun k => k v13 w) fun v20 w =>
    gd v19 true w (fun k => px P (bin true .gtr 5 v20 (.int .u8 1)) w fun v w => k v w) fun v21 w =>
    gd v15 false w (fun k => pk v19 v21 (.bool false) w fun v w => k v w) fun v22 w =>
    pk v15 (.bool true) v22 w fun v23 w =>
    cnd v23 (
      R (.tuple #[(.int .u64 0), (.int .i64 0)]) w) <|
    px P (bin true .and 5 v13 (.int .u8 127)) w fun v26 w =>
    px P (convert 5 321 v26) w fun v27 w =>
    px P (bin true .mul 3 (.int .i64 7) (g1 vs1)) w fun v29 w =>
    px P (bin false .shl 321 v27 v29) w fun v30 w =>
    px P (bin false .or 321 (g0 vs1) v30) w fun v31 w =>
    px P (bin true .lss 5 v13 (.int .u8 128)) w fun v33 w =>
    cnd v33 (
      px P (bin true .add 3 (g1 vs1) (.int .i64 1)) w fun v36 w =>
      R (.tuple #[v31, v36]) w) <|
    px P (bin true .add 3 (g1 vs1) (.int .i64 1)) w fun v37 w =>
    again1 [v31, v37] w) (
    R (.tuple #[(.int .u64 0), (.int .i64 0)]) w)
theorem c278 (h : F278 R v0 w) : cl P 278 #[v0] w R := cq ⟨[], [], [(3, [4, 9])], [], []⟩ Tryz.func278 (by kernel_rfl) (by kernel_rfl) h
def F147 (R : Value → World → Prop) (v0 v1 : Value) (w : World) : Prop :=
  px P (Instr.box 155 v0) w fun v2 w =>
  px P (Instr.box 9 v1) w fun v3 w =>
  px P (Instr.fieldAt 155 v2 1) w fun v7 w =>
  px P (Instr.loadAt 153 v7) w fun v8 w =>
  px P (Instr.makeFunc (.func 211) #[] #[v3]) w fun v9 w =>
  cl P 210 #[v8, v9] w fun v10 w =>
  px P (bin true .lss 3 v10 (.int .i64 0)) w fun v12 w =>
  cnd v12 (
    px P (Instr.fieldAt 155 v2 1) w fun v13 w =>
    px P (Instr.loadAt 153 v13) w fun v14 w =>
    px P (Builtin.len_ #[153] 3 #[v14]) w fun v15 w =>
    R (.tuple #[v15, (.bool false)]) w) <|
  dr w fun w =>
  py P (fun _ => True) (Instr.fieldAt 155 v2 1) fun v17 =>
  py P (Ext w) (Instr.loadAt 153 v17) fun v18 =>
  py P (fun _ => True) (Instr.indexAt 153 v18 v10) fun v20 =>
  py P (fun _ => True) (Instr.fieldAt 159 v20 0) fun v21 =>
  py P (Ext w) (Instr.loadAt 9 v21) fun v22 =>
  py P (Ext w) (Instr.loadAt 9 v3) fun v23 =>
  py P (fun _ => True) (bin false .eql 9 v22 v23) fun v24 =>
  R (.tuple #[v10, v24]) w
theorem c147 (h : F147 R v0 v1 w) : cl P 147 #[v0, v1] w R := cq ⟨[], [], [], [], []⟩ Tryz.func147 (by kernel_rfl) (by kernel_rfl) h
def F158 (R : Value → World → Prop) (v0 : Value) (w : World) : Prop :=
  px P (Instr.box 155 v0) w fun v1 w =>
  px P (Instr.loadAt 155 v1) w fun v3 w =>
  cl P 216 #[v3] w fun v4 w =>
  px P (Op.unary .not v4) w fun v5 w =>
  cnd v5 (
    R (.int .i64 0) w) <|
  px P (Instr.loadAt 155 v1) w fun v6 w =>
  cl P 217 #[v6] w fun v7 w =>
  px P (Builtin.len_ #[43] 3 #[v7]) w fun v8 w =>
  R v8 w
theorem c158 (h : F158 R v0 w) : cl P 158 #[v0] w R := cq ⟨[], [], [], [], []⟩ Tryz.func158 (by kernel_rfl) (by kernel_rfl) h
def F160 (R : Value → World → Prop) (v0 v1 v2 : Value) (w : World) : Prop :=
  px P (Instr.box 155 v0) w fun v3 w =>
  px P (Instr.box 155 v2) w fun v5 w =>
  px P (Instr.alloc 155 true (.tuple #[])) w fun v6 w =>
  px P (Instr.fieldAt 155 v3 0) w fun v7 w =>
  px P (Instr.loadAt 4 v7) w fun v8 w =>
  cnd v8 (
    px P (Instr.fieldAt 155 v3 1) w fun v9 w =>
    px P (Instr.loadAt 153 v9) w fun v10 w =>
    px P (Instr.fieldAt 155 v5 1) w fun v11 w =>
    px P (Instr.loadAt 153 v11) w fun v12 w =>
    px P (Instr.buildSlice 370 2 #[(0, v10), (1, v12)]) w fun v13 w =>
    cl P 218 #[v13] w fun v14 w =>
    px P (Instr.build 155 #[(0, (.bool true)), (1, v14)]) w fun v15 w =>
    pu P (Instr.storeAt 155 v6 v15) w fun w =>
    pla P 155 v6 w fun v6_1 =>
    R v6_1 w) <|
  cut (fun J1 =>
    dr w fun w =>
    held w fun S =>
    py P (fun _ => True) (Instr.fieldAt 155 v3 1) fun v16 =>
    py P (Ext w) (Instr.loadAt 153 v16) fun v17 =>
    py P (fun _ => True) (Instr.build 159 #[(0, v1)]) fun v19 =>
    py P (fun _ => True) (Instr.fieldAt 155 v5 1) fun v21 =>
    py P (Ext w) (Instr.loadAt 153 v21) fun v22 =>
    py P (fun _ => True) (Instr.fieldAt 155 v3 2) fun v25 =>
    py P S (Instr.loadAt 48 v25) fun v26 =>
    py P (fun _ => True) (Instr.fieldAt 155 v5 2) fun v27 =>
    py P S (Instr.loadAt 48 v27) fun v28 =>
    (
      pg P (Instr.buildSlice 153 1 #[(0, v19)]) w fun v20 w => hs S w <|
      (
        pg P (Instr.buildSlice 370 3 #[(0, v17), (1, v20), (2, v22)]) w fun v23 w => hs S w <|
        (
          cl P 218 #[v23] w fun v24 w => hs S w <|
          pg P (Instr.buildSlice 372 2 #[(0, v26), (1, v28)]) w fun v29 w => hs S w <|
          cl P 219 #[v29] w fun v30 w => hs S w <|
          py P (fun _ => True) (Instr.build 155 #[(1, v24), (2, v30)]) fun v31 =>
          pu P (Instr.storeAt 155 v6 v31) w fun w => hs S w <|
          J1 [] w) ∧
        (
          pg P (Instr.buildSlice 372 2 #[(0, v26), (1, v28)]) w fun v29_1 w => hs S w <|
          cl P 218 #[v23] w fun v24_1 w => hs S w <|
          cl P 219 #[v29_1] w fun v30_1 w => hs S w <|
          py P (fun _ => True) (Instr.build 155 #[(1, v24_1), (2, v30_1)]) fun v31_1 =>
          pu P (Instr.storeAt 155 v6 v31_1) w fun w => hs S w <|
          J1 [] w)) ∧
      (
        pg P (Instr.buildSlice 372 2 #[(0, v26), (1, v28)]) w fun v29_2 w => hs S w <|
        pg P (Instr.buildSlice 370 3 #[(0, v17), (1, v20), (2, v22)]) w fun v23_1 w => hs S w <|
        cl P 218 #[v23_1] w fun v24_2 w => hs S w <|
        cl P 219 #[v29_2] w fun v30_2 w => hs S w <|
        py P (fun _ => True) (Instr.build 155 #[(1, v24_2), (2, v30_2)]) fun v31_2 =>
        pu P (Instr.storeAt 155 v6 v31_2) w fun w => hs S w <|
        J1 [] w)) ∧
    (
      pg P (Instr.buildSlice 372 2 #[(0, v26), (1, v28)]) w fun v29_3 w => hs S w <|
      pg P (Instr.buildSlice 153 1 #[(0, v19)]) w fun v20_1 w => hs S w <|
      pg P (Instr.buildSlice 370 3 #[(0, v17), (1, v20_1), (2, v22)]) w fun v23_2 w => hs S w <|
      cl P 218 #[v23_2] w fun v24_3 w => hs S w <|
      cl P 219 #[v29_3] w fun v30_3 w => hs S w <|
      py P (fun _ => True) (Instr.build 155 #[(1, v24_3), (2, v30_3)]) fun v31_3 =>
      pu P (Instr.storeAt 155 v6 v31_3) w fun w => hs S w <|
      J1 [] w)) fun _ w =>
  pla P 155 v6 w fun v6_2 =>
  R v6_2 w
theorem c160 (h : F160 R v0 v1 v2 w) : cl P 160 #[v0, v1, v2] w R := cq ⟨[], [], [], [(3, [])], [3]⟩ Tryz.func160 (by kernel_rfl) (by kernel_rfl) h
def F162 (R : Value → World → Prop) (v0 : Value) (w : World) : Prop :=
  px P (Instr.box 155 v0) w fun v1 w =>
  px P (Instr.alloc 155 true (.tuple #[])) w fun v2 w =>
  px P (Instr.alloc 155 true (.tuple #[])) w fun v4 w =>
  px P (Instr.fieldAt 155 v1 0) w fun v9 w =>
  px P (Instr.loadAt 4 v9) w fun v10 w =>
  cut (fun J1 =>
    cnd v10 (
      J1 [(.int .i64 1)] w) (
      J1 [(.int .i64 0)] w)) fun vs1 w =>
  px P (Instr.fieldAt 155 v1 1) w fun v11 w =>
  px P (Instr.loadAt 153 v11) w fun v12 w =>
  px P (Builtin.len_ #[153] 3 #[v12]) w fun v13 w =>
  px P (bin false .leq 3 v13 (g0 vs1)) w fun v15 w =>
  cnd v15 (
    px P (Instr.loadAt 155 v1) w fun v16 w =>
    cl P 220 #[v16] w fun v17 w =>
    px P (Instr.build 155 #[]) w fun v18 w =>
    pu P (Instr.storeAt 155 v2 v17) w fun w =>
    pu P (Instr.storeAt 155 v4 v18) w fun w =>
    pla P 155 v2 w fun v2_1 =>
    pla P 155 v4 w fun v4_1 =>
    R (.tuple #[v2_1, (.string ⟨#[]⟩), v4_1]) w) <|
  px P (Instr.makeFunc (.func 221) #[] #[v1]) w fun v19 w =>
  px P (bin true .add 3 (g0 vs1) (.int .i64 1)) w fun v22 w =>
  lp [(g0 vs1), v22] w fun again2 vs2 w =>
  px P (Instr.fieldAt 155 v1 1) w fun v24 w =>
  px P (Instr.loadAt 153 v24) w fun v25 w =>
  px P (Builtin.len_ #[153] 3 #[v25]) w fun v26 w =>
  px P (bin false .lss 3 (g1 vs2) v26) w fun v27 w =>
  cnd v27 (
    cv P v19 #[(g1 vs2)] w fun v32 w =>
    cv P v19 #[(g0 vs2)] w fun v35 w =>
    px P (bin false .lss 3 v32 v35) w fun v36 w =>
    cut (fun J3 =>
      cnd v36 (
        J3 [(g1 vs2)] w) (
        J3 [(g0 vs2)] w)) fun vs3 w =>
    px P (bin true .add 3 (g1 vs2) (.int .i64 1)) w fun v29 w =>
    again2 [(g0 vs3), v29] w) (
    px P (Instr.loadAt 155 v1) w fun v38 w =>
    cl P 222 #[v38, (g0 vs2)] w fun v40 w =>
    px P (Instr.extract v40 0) w fun v41 w =>
    px P (Instr.extract v40 1) w fun v42 w =>
    px P (Instr.extract v40 2) w fun v43 w =>
    pu P (Instr.storeAt 155 v2 v41) w fun w =>
    pu P (Instr.storeAt 155 v4 v43) w fun w =>
    pla P 155 v2 w fun v2_2 =>
    pla P 155 v4 w fun v4_2 =>
    R (.tuple #[v2_2, v42, v4_2]) w)
theorem c162 (h : F162 R v0 w) : cl P 162 #[v0] w R := cq ⟨[(3, [5]), (12, [7])], [], [(9, [7, 8])], [], []⟩ Tryz.func162 (by kernel_rfl) (by kernel_rfl) h
def F209 (R : Value → World → Prop) (v0 : Value) (w : World) : Prop :=
  px P (Instr.alloc 155 true (.tuple #[])) w fun v2 w =>
  px P (Builtin.len_ #[43] 3 #[v0]) w fun v9 w =>
  px P (bin true .gtr 3 v9 (.int .i64 512)) w fun v10 w =>
  cnd v10 (
    px P (Instr.build 155 #[]) w fun v11 w =>
    pu P (Instr.storeAt 155 v2 v11) w fun w =>
    pla P 155 v2 w fun v2_1 =>
    R (.tuple #[v2_1, (.int .i64 4)]) w) <|
  cl P 178 #[v0] w fun v13 w =>
  cl P 195 #[v13] w fun v15 w =>
  px P (Instr.build 155 #[(0, v15)]) w fun v16 w =>
  px P (Instr.alloc 155 true (.tuple #[])) w fun v5 w =>
  pu P (Instr.storeAt 155 v5 v16) w fun w =>
  cl P 181 #[v13, (.int .i64 512)] w fun v18 w =>
  cut (fun J1 =>
    lp [(.int .i64 0)] w fun again2 vs2 w =>
    px P (bin false .lss 3 (g0 vs2) v18) w fun v20 w =>
    cnd v20 (
      cl P 179 #[v13] w fun v22 w =>
      px P (Op.unary .not v22) w fun v23 w =>
      cnd v23 (
        J1 [] w) <|
      cut (fun J3 =>
        dr w fun w =>
        py P (fun _ => True) (Instr.fieldAt 155 v5 1) fun v24 =>
        py P (fun _ => True) (Instr.fieldAt 155 v5 0) fun v27 =>
        py P (Ext w) (Instr.loadAt 4 v27) fun v28 =>
        (
          pg P (Instr.loadAt 153 v24) w fun v25 w =>
          cl P 257 #[v13, v28] w fun v29 w =>
          pg P (Instr.buildSlice 153 1 #[(0, v29)]) w fun v30 w =>
          px P (Builtin.append_ #[153, 153] 153 #[v25, v30]) w fun v31 w =>
          py P (fun _ => True) (Instr.fieldAt 155 v5 1) fun v32 =>
          pu P (Instr.storeAt 153 v32 v31) w fun w =>
          J3 [] w) ∧
        (
          cl P 257 #[v13, v28] w fun v29_1 w =>
          py P (Ext w) (Instr.loadAt 153 v24) fun v25_1 =>
          pg P (Instr.buildSlice 153 1 #[(0, v29_1)]) w fun v30_1 w =>
          px P (Builtin.append_ #[153, 153] 153 #[v25_1, v30_1]) w fun v31_1 w =>
          py P (fun _ => True) (Instr.fieldAt 155 v5 1) fun v32_1 =>
          pu P (Instr.storeAt 153 v32_1 v31_1) w fun w =>
          J3 [] w)) fun _ w =>
      px P (bin true .add 3 (g0 vs2) (.int .i64 1)) w fun v33 w =>
      again2 [v33] w) (
      J1 [] w)) fun _ w =>
  lp [(.int .i64 0)] w fun again4 vs4 w =>
  px P (Instr.fieldAt 155 v5 1) w fun v35 w =>
  px P (Instr.loadAt 153 v35) w fun v36 w =>
  px P (Builtin.len_ #[153] 3 #[v36]) w fun v37 w =>
  px P (bin false .leq 3 (g0 vs4) v37) w fun v38 w =>
  gd v38 true w (fun k => k v13 w) fun v40 w =>
  gd v38 true w (fun k => cl P 179 #[v40] w fun v w => k v w) fun v41 w =>
  pk v38 v41 (.bool false) w fun v42 w =>
  gd v42 true w (fun k => px P (Instr.fieldAt 155 v5 0) w fun v w => k v w) fun v44 w =>
  gd v42 true w (fun k => px P (Instr.loadAt 4 v44) w fun v w => k v w) fun v45 w =>
  gd v42 true w (fun k => px P (Op.unary .not v45) w fun v w => k v w) fun v46 w =>
  pk v42 v46 (.bool false) w fun v47 w =>
  cnd v47 (
    cut (fun J5 =>
      dr w fun w =>
      py P (fun _ => True) (Instr.fieldAt 155 v5 2) fun v50 =>
      (
        pg P (Instr.loadAt 48 v50) w fun v51 w =>
        cl P 181 #[v13, (.int .i64 2147483647)] w fun v53 w =>
        pg P (Instr.buildSlice 48 1 #[(0, v53)]) w fun v54 w =>
        px P (Builtin.append_ #[48, 48] 48 #[v51, v54]) w fun v55 w =>
        py P (fun _ => True) (Instr.fieldAt 155 v5 2) fun v56 =>
        pu P (Instr.storeAt 48 v56 v55) w fun w =>
        J5 [] w) ∧
      (
        cl P 181 #[v13, (.int .i64 2147483647)] w fun v53_1 w =>
        py P (Ext w) (Instr.loadAt 48 v50) fun v51_1 =>
        pg P (Instr.buildSlice 48 1 #[(0, v53_1)]) w fun v54_1 w =>
        px P (Builtin.append_ #[48, 48] 48 #[v51_1, v54_1]) w fun v55_1 w =>
        py P (fun _ => True) (Instr.fieldAt 155 v5 2) fun v56_1 =>
        pu P (Instr.storeAt 48 v56_1 v55_1) w fun w =>
        J5 [] w)) fun _ w =>
    px P (bin true .add 3 (g0 vs4) (.int .i64 1)) w fun v49 w =>
    again4 [v49] w) (
    px P (Builtin.len_ #[43] 3 #[v0]) w fun v59 w =>
    cl P 241 #[v13] w fun v61 w =>
    px P (bin false .sub 3 v59 v61) w fun v62 w =>
    px P (Instr.sliceAt 43 v0 (some v62) none none) w fun v63 w =>
    cl P 179 #[v13] w fun v65 w =>
    px P (Op.unary .not v65) w fun v66 w =>
    gd v66 false w (fun k => px P (Instr.loadAt 155 v5) w fun v w => k v w) fun v68 w =>
    gd v66 false w (fun k => cl P 216 #[v68] w fun v w => k v w) fun v69 w =>
    gd v66 false w (fun k => px P (Op.unary .not v69) w fun v w => k v w) fun v70 w =>
    pk v66 (.bool true) v70 w fun v71 w =>
    gd v71 false w (fun k => k v63 w) fun v73 w =>
    gd v71 false w (fun k => cl P 258 #[v73, (.func (.func 259) #[] #[])] w fun v w => k v w) fun v74 w =>
    pk v71 (.bool true) v74 w fun v75 w =>
    cnd v75 (
      px P (Instr.build 155 #[]) w fun v76 w =>
      pu P (Instr.storeAt 155 v2 v76) w fun w =>
      pla P 155 v2 w fun v2_2 =>
      R (.tuple #[v2_2, (.int .i64 4)]) w) <|
    px P (Instr.loadAt 155 v5) w fun v77 w =>
    pu P (Instr.storeAt 155 v2 v77) w fun w =>
    pla P 155 v2 w fun v2_3 =>
    R (.tuple #[v2_3, (.int .i64 0)]) w)
theorem c209 (h : F209 R v0 w) : cl P 209 #[v0] w R := cq ⟨[], [(0, [])], [(6, [19]), (11, [6])], [(8, []), (13, [])], []⟩ Tryz.func209 (by kernel_rfl) (by kernel_rfl) h
def F211 (R : Value → World → Prop) (v0 v1 : Value) (w : World) : Prop :=
  px P (Instr.box 159 v0) w fun v2 w =>
  px P (Instr.fieldAt 159 v2 0) w fun v4 w =>
  px P (Instr.loadAt 9 v4) w fun v5 w =>
  px P (Instr.loadAt 9 v1) w fun v6 w =>
  px P (bin false .geq 9 v5 v6) w fun v7 w =>
  R v7 w
theorem c211 (h : F211 R v0 v1 w) : cl P 211 #[v0, v1] w R := cq ⟨[], [], [], [], []⟩ Tryz.func211 (by kernel_rfl) (by kernel_rfl) h
def F213 (R : Value → World → Prop) (v0 : Value) (w : World) : Prop :=
  px P (Instr.box 155 v0) w fun v1 w =>
  px P (Instr.loadAt 155 v1) w fun v5 w =>
  cl P 216 #[v5] w fun v6 w =>
  px P (Op.unary .not v6) w fun v7 w =>
  cnd v7 (
    R (.tuple #[(.slice none 0 0), (.int .i64 4)]) w) <|
  px P (Instr.loadAt 155 v1) w fun v8 w =>
  cl P 217 #[v8] w fun v9 w =>
  px P (Builtin.len_ #[43] 3 #[v9]) w fun v11 w =>
  px P (bin true .gtr 3 v11 (.int .i64 512)) w fun v12 w =>
  cnd v12 (
    R (.tuple #[(.slice none 0 0), (.int .i64 40)]) w) <|
  R (.tuple #[v9, (.int .i64 0)]) w
theorem c213 (h : F213 R v0 w) : cl P 213 #[v0] w R := cq ⟨[], [], [], [], []⟩ Tryz.func213 (by kernel_rfl) (by kernel_rfl) h
def F216 (R : Value → World → Prop) (v0 : Value) (w : World) : Prop :=
  px P (Instr.box 155 v0) w fun v1 w =>
  px P (Instr.fieldAt 155 v1 1) w fun v6 w =>
  px P (Instr.loadAt 153 v6) w fun v7 w =>
  px P (Builtin.len_ #[153] 3 #[v7]) w fun v8 w =>
  lp [(.int .i64 0)] w fun again1 vs1 w =>
  px P (bin false .lss 3 (g0 vs1) v8) w fun v10 w =>
  cnd v10 (
    px P (Instr.indexAt 153 v7 (g0 vs1)) w fun v12 w =>
    px P (Instr.loadAt 159 v12) w fun v13 w =>
    px P (Instr.alloc 159 true (.tuple #[])) w fun v4 w =>
    pu P (Instr.storeAt 159 v4 v13) w fun w =>
    dr w fun w =>
    py P (Ext w) (Instr.loadAt 159 v4) fun v14 =>
    py P (fun _ => True) (Instr.fieldAt 155 v1 0) fun v15 =>
    py P (Ext w) (Instr.loadAt 4 v15) fun v16 =>
    cl P 263 #[v14, v16] w fun v17 w =>
    py P (fun _ => True) (Op.unary .not v17) fun v18 =>
    gy v18 false (fun k => k (g0 vs1)) fun v20 =>
    gy v18 false (fun k => py P (fun _ => True) (bin true .gtr 3 v20 (.int .i64 0)) fun v => k v) fun v21 =>
    gy v18 false (fun k => k v21) fun v22 =>
    gy v22 true (fun k => py P (fun _ => True) (Instr.fieldAt 155 v1 1) fun v => k v) fun v23 =>
    gy v22 true (fun k => py P (Ext w) (Instr.loadAt 153 v23) fun v => k v) fun v24 =>
    gy v22 true (fun k => k (g0 vs1)) fun v25 =>
    gy v22 true (fun k => py P (fun _ => True) (bin true .sub 3 v25 (.int .i64 1)) fun v => k v) fun v26 =>
    gy v22 true (fun k => py P (fun _ => True) (Instr.indexAt 153 v24 v26) fun v => k v) fun v27 =>
    gy v22 true (fun k => py P (fun _ => True) (Instr.fieldAt 159 v27 0) fun v => k v) fun v28 =>
    gy v22 true (fun k => py P (Ext w) (Instr.loadAt 9 v28) fun v => k v) fun v29 =>
    gy v22 true (fun k => py P (fun _ => True) (Instr.fieldAt 159 v4 0) fun v => k v) fun v30 =>
    gy v22 true (fun k => py P (Ext w) (Instr.loadAt 9 v30) fun v => k v) fun v31 =>
    gy v22 true (fun k => py P (fun _ => True) (bin false .geq 9 v29 v31) fun v => k v) fun v32 =>
    gy v18 false (fun k => pky v22 v32 (.bool false) fun v => k v) fun v33 =>
    pky v18 (.bool true) v33 fun v34 =>
    cnd v34 (
      R (.bool false) w) <|
    px P (bin true .add 3 (g0 vs1) (.int .i64 1)) w fun v35 w =>
    again1 [v35] w) (
    px P (Instr.fieldAt 155 v1 1) w fun v36 w =>
    px P (Instr.loadAt 153 v36) w fun v37 w =>
    px P (Builtin.len_ #[153] 3 #[v37]) w fun v38 w =>
    px P (bin true .add 3 v38 (.int .i64 1)) w fun v39 w =>
    px P (Instr.fieldAt 155 v1 0) w fun v40 w =>
    px P (Instr.loadAt 4 v40) w fun v41 w =>
    cut (fun J2 =>
      cnd v41 (
        J2 [(.int .i64 0)] w) (
        J2 [v39] w)) fun vs2 w =>
    px P (Instr.fieldAt 155 v1 2) w fun v42 w =>
    px P (Instr.loadAt 48 v42) w fun v43 w =>
    px P (Builtin.len_ #[48] 3 #[v43]) w fun v44 w =>
    px P (bin false .eql 3 v44 (g0 vs2)) w fun v46 w =>
    gd v46 true w (fun k => px P (Instr.fieldAt 155 v1 2) w fun v w => k v w) fun v48 w =>
    gd v46 true w (fun k => px P (Instr.loadAt 48 v48) w fun v w => k v w) fun v49 w =>
    gd v46 true w (fun k => cl P 264 #[v49, (.func (.func 265) #[] #[])] w fun v w => k v w) fun v50 w =>
    gd v46 true w (fun k => px P (Op.unary .not v50) w fun v w => k v w) fun v51 w =>
    pk v46 v51 (.bool false) w fun v52 w =>
    R v52 w)
theorem c216 (h : F216 R v0 w) : cl P 216 #[v0] w R := cq ⟨[(9, [5])], [], [(2, [9])], [], []⟩ Tryz.func216 (by kernel_rfl) (by kernel_rfl) h
def F217 (R : Value → World → Prop) (v0 : Value) (w : World) : Prop :=
  px P (Instr.box 155 v0) w fun v1 w =>
  cut (fun J1 =>
    dr w fun w =>
    held w fun S =>
    py P (fun _ => True) (Instr.fieldAt 155 v1 0) fun v6 =>
    py P (Ext w) (Instr.loadAt 4 v6) fun v7 =>
    py P (fun _ => True) (Instr.fieldAt 155 v1 1) fun v9 =>
    py P S (Instr.loadAt 153 v9) fun v10 =>
    py P (fun _ => True) (Builtin.len_ #[153] 3 #[v10]) fun v11 =>
    (
      cl P 251 #[(.slice none 0 0), v7] w fun v8 w => hs S w <|
      pg P (Instr.buildSlice 48 1 #[(0, v11)]) w fun v12 w => hs S w <|
      cl P 267 #[v8, v12] w fun v13 w => hs S w <|
      J1 [v13] w) ∧
    (
      pg P (Instr.buildSlice 48 1 #[(0, v11)]) w fun v12_1 w => hs S w <|
      cl P 251 #[(.slice none 0 0), v7] w fun v8_1 w => hs S w <|
      cl P 267 #[v8_1, v12_1] w fun v13_1 w => hs S w <|
      J1 [v13_1] w)) fun vs1 w =>
  px P (Instr.fieldAt 155 v1 1) w fun v14 w =>
  px P (Instr.loadAt 153 v14) w fun v15 w =>
  px P (Builtin.len_ #[153] 3 #[v15]) w fun v16 w =>
  lp [(g0 vs1), (.int .i64 0)] w fun again2 vs2 w =>
  px P (bin false .lss 3 (g1 vs2) v16) w fun v18 w =>
  cnd v18 (
    px P (Instr.indexAt 153 v15 (g1 vs2)) w fun v19 w =>
    px P (Instr.loadAt 159 v19) w fun v20 w =>
    px P (Instr.alloc 159 true (.tuple #[])) w fun v5 w =>
    pu P (Instr.storeAt 159 v5 v20) w fun w =>
    px P (Instr.fieldAt 159 v5 0) w fun v22 w =>
    px P (Instr.loadAt 9 v22) w fun v23 w =>
    cl P 167 #[(g0 vs2), v23] w fun v24 w =>
    px P (Instr.fieldAt 155 v1 0) w fun v33 w =>
    px P (Instr.loadAt 4 v33) w fun v34 w =>
    px P (Op.unary .not v34) w fun v35 w =>
    cut (fun J3 =>
      cnd v35 (
        J3 [v24] w) (
        px P (Instr.fieldAt 159 v5 2) w fun v37 w =>
        px P (Instr.loadAt 3 v37) w fun v38 w =>
        px P (bin true .eql 3 v38 (.int .i64 0)) w fun v39 w =>
        cut (fun J4 =>
          cnd v39 (
            dr w fun w =>
            held w fun S =>
            py P (fun _ => True) (Instr.fieldAt 159 v5 1) fun v43 =>
            py P S (Instr.loadAt 9 v43) fun v44 =>
            pg P (Instr.buildSlice 48 1 #[(0, (.int .i64 0))]) w fun v41 w => hs S w <|
            cl P 267 #[v24, v41] w fun v42 w => hs S w <|
            cl P 167 #[v42, v44] w fun v45 w => hs S w <|
            J4 [v45] w) (
            px P (Instr.fieldAt 159 v5 2) w fun v26 w =>
            px P (Instr.loadAt 3 v26) w fun v27 w =>
            px P (Instr.fieldAt 159 v5 3) w fun v28 w =>
            px P (Instr.loadAt 3 v28) w fun v29 w =>
            px P (Instr.buildSlice 48 2 #[(0, v27), (1, v29)]) w fun v30 w =>
            cl P 267 #[v24, v30] w fun v31 w =>
            J4 [v31] w)) fun vs4 w =>
        J3 [(g0 vs4)] w)) fun vs3 w =>
    px P (bin true .add 3 (g1 vs2) (.int .i64 1)) w fun v46 w =>
    again2 [(g0 vs3), v46] w) (
    px P (Instr.fieldAt 155 v1 0) w fun v47 w =>
    px P (Instr.loadAt 4 v47) w fun v48 w =>
    cnd v48 (
      R (g0 vs2) w) <|
    px P (Instr.fieldAt 155 v1 2) w fun v51 w =>
    px P (Instr.loadAt 48 v51) w fun v52 w =>
    cl P 267 #[(g0 vs2), v52] w fun v53 w =>
    R v53 w)
theorem c217 (h : F217 R v0 w) : cl P 217 #[v0] w R := cq ⟨[(8, [3]), (9, [3])], [], [(3, [3, 17])], [(1, [3])], [1, 9]⟩ Tryz.func217 (by kernel_rfl) (by kernel_rfl) h
def F220 (R : Value → World → Prop) (v0 : Value) (w : World) : Prop :=
  px P (Instr.box 155 v0) w fun v1 w =>
  px P (Instr.alloc 155 true (.tuple #[])) w fun v2 w =>
  dr w fun w =>
  held w fun S =>
  py P (fun _ => True) (Instr.fieldAt 155 v1 0) fun v3 =>
  py P S (Instr.loadAt 4 v3) fun v4 =>
  py P (fun _ => True) (Instr.fieldAt 155 v1 1) fun v5 =>
  py P (Ext w) (Instr.loadAt 153 v5) fun v6 =>
  py P (fun _ => True) (Instr.fieldAt 155 v1 2) fun v8 =>
  py P S (Instr.loadAt 48 v8) fun v9 =>
  cl P 83 #[v6] w fun v7 w => hs S w <|
  cl P 159 #[v9] w fun v10 w => hs S w <|
  py P (fun _ => True) (Instr.build 155 #[(0, v4), (1, v7), (2, v10)]) fun v11 =>
  pu P (Instr.storeAt 155 v2 v11) w fun w => hs S w <|
  pla P 155 v2 w fun v2_1 =>
  R v2_1 w
theorem c220 (h : F220 R v0 w) : cl P 220 #[v0] w R := cq ⟨[], [], [], [], [1]⟩ Tryz.func220 (by kernel_rfl) (by kernel_rfl) h
def F221 (R : Value → World → Prop) (v0 v1 : Value) (w : World) : Prop :=
  px P (Instr.loadAt 155 v1) w fun v9 w =>
  cl P 222 #[v9, v0] w fun v11 w =>
  px P (Instr.extract v11 0) w fun v12 w =>
  px P (Instr.extract v11 1) w fun _ w =>
  px P (Instr.extract v11 2) w fun v14 w =>
  px P (Instr.alloc 155 true (.tuple #[])) w fun v4 w =>
  px P (Instr.alloc 155 true (.tuple #[])) w fun v6 w =>
  pu P (Instr.storeAt 155 v4 v12) w fun w =>
  pu P (Instr.storeAt 155 v6 v14) w fun w =>
  dr w fun w =>
  held w fun S =>
  py P (Ext w) (Instr.loadAt 155 v4) fun v15 =>
  py P S (Instr.loadAt 155 v6) fun v18 =>
  cl P 217 #[v15] w fun v16 w => hs S w <|
  py P (fun _ => True) (Builtin.len_ #[43] 3 #[v16]) fun v17 =>
  cl P 217 #[v18] w fun v19 w => hs S w <|
  py P (fun _ => True) (Builtin.len_ #[43] 3 #[v19]) fun v20 =>
  py P (fun _ => True) (bin false .sub 3 v17 v20) fun v21 =>
  px P (Op.unary .neg v21) w fun v24 w =>
  px P (Builtin.max_ #[3, 3] 3 #[v21, v24]) w fun v25 w =>
  R v25 w
theorem c221 (h : F221 R v0 v1 w) : cl P 221 #[v0, v1] w R := cq ⟨[], [], [], [], [2]⟩ Tryz.func221 (by kernel_rfl) (by kernel_rfl) h
def F222 (R : Value → World → Prop) (v0 v1 : Value) (w : World) : Prop :=
  px P (Instr.box 155 v0) w fun v2 w =>
  px P (Instr.alloc 155 true (.tuple #[])) w fun v4 w =>
  px P (Instr.alloc 155 true (.tuple #[])) w fun v6 w =>
  px P (Instr.fieldAt 155 v2 0) w fun v8 w =>
  px P (Instr.loadAt 4 v8) w fun v9 w =>
  cnd v9 (
    dr w fun w =>
    held w fun S =>
    py P (fun _ => True) (Instr.fieldAt 155 v2 1) fun v10 =>
    py P (Ext w) (Instr.loadAt 153 v10) fun v11 =>
    py P (fun _ => True) (Instr.sliceAt 153 v11 none (some v1) none) fun v13 =>
    py P (fun _ => True) (Instr.build 155 #[(0, (.bool true)), (1, v13)]) fun v14 =>
    py P (fun _ => True) (Instr.fieldAt 155 v2 1) fun v16 =>
    py P S (Instr.loadAt 153 v16) fun v17 =>
    py P (fun _ => True) (Instr.indexAt 153 v17 v1) fun v19 =>
    py P (fun _ => True) (Instr.fieldAt 159 v19 0) fun v20 =>
    py P S (Instr.loadAt 9 v20) fun v21 =>
    py P (fun _ => True) (Instr.fieldAt 155 v2 1) fun v22 =>
    py P S (Instr.loadAt 153 v22) fun v23 =>
    py P (fun _ => True) (Instr.sliceAt 153 v23 (some v1) none none) fun v25 =>
    py P (fun _ => True) (Instr.build 155 #[(0, (.bool true)), (1, v25)]) fun v26 =>
    cl P 220 #[v14] w fun v15 w => hs S w <|
    cl P 220 #[v26] w fun v27 w => hs S w <|
    pu P (Instr.storeAt 155 v4 v15) w fun w => hs S w <|
    pu P (Instr.storeAt 155 v6 v27) w fun w => hs S w <|
    pla P 155 v4 w fun v4_1 =>
    pla P 155 v6 w fun v6_1 =>
    R (.tuple #[v4_1, v21, v6_1]) w) <|
  px P (bin true .add 3 v1 (.int .i64 1)) w fun v29 w =>
  px P (Instr.fieldAt 155 v2 2) w fun v30 w =>
  px P (Instr.loadAt 48 v30) w fun v31 w =>
  px P (Builtin.len_ #[48] 3 #[v31]) w fun v32 w =>
  px P (Builtin.min_ #[3, 3] 3 #[v29, v32]) w fun v33 w =>
  dr w fun w =>
  held w fun S =>
  py P (fun _ => True) (Instr.fieldAt 155 v2 1) fun v34 =>
  py P (Ext w) (Instr.loadAt 153 v34) fun v35 =>
  py P (fun _ => True) (Instr.sliceAt 153 v35 none (some v1) none) fun v37 =>
  py P (fun _ => True) (Instr.fieldAt 155 v2 2) fun v38 =>
  py P (Ext w) (Instr.loadAt 48 v38) fun v39 =>
  py P (fun _ => True) (Instr.sliceAt 48 v39 none (some v33) none) fun v41 =>
  py P (fun _ => True) (Instr.build 155 #[(1, v37), (2, v41)]) fun v42 =>
  py P (fun _ => True) (Instr.fieldAt 155 v2 1) fun v44 =>
  py P S (Instr.loadAt 153 v44) fun v45 =>
  py P (fun _ => True) (Instr.indexAt 153 v45 v1) fun v47 =>
  py P (fun _ => True) (Instr.fieldAt 159 v47 0) fun v48 =>
  py P S (Instr.loadAt 9 v48) fun v49 =>
  py P (fun _ => True) (Instr.fieldAt 155 v2 1) fun v50 =>
  py P S (Instr.loadAt 153 v50) fun v51 =>
  py P (fun _ => True) (bin true .add 3 v1 (.int .i64 1)) fun v53 =>
  py P (fun _ => True) (Instr.sliceAt 153 v51 (some v53) none none) fun v54 =>
  py P (fun _ => True) (Instr.fieldAt 155 v2 2) fun v55 =>
  py P S (Instr.loadAt 48 v55) fun v56 =>
  py P (fun _ => True) (Instr.sliceAt 48 v56 (some v33) none none) fun v58 =>
  py P (fun _ => True) (Instr.build 155 #[(1, v54), (2, v58)]) fun v59 =>
  cl P 220 #[v42] w fun v43 w => hs S w <|
  cl P 220 #[v59] w fun v60 w => hs S w <|
  pu P (Instr.storeAt 155 v4 v43) w fun w => hs S w <|
  pu P (Instr.storeAt 155 v6 v60) w fun w => hs S w <|
  pla P 155 v4 w fun v4_2 =>
  pla P 155 v6 w fun v6_2 =>
  R (.tuple #[v4_2, v49, v6_2]) w
theorem c222 (h : F222 R v0 v1 w) : cl P 222 #[v0, v1] w R := cq ⟨[], [], [], [], [2, 4]⟩ Tryz.func222 (by kernel_rfl) (by kernel_rfl) h
def F257 (R : Value → World → Prop) (v0 v1 : Value) (w : World) : Prop :=
  px P (Instr.alloc 159 true (.tuple #[])) w fun v4 w =>
  cl P 182 #[v0, (.int .i64 48)] w fun v7 w =>
  px P (Instr.build 159 #[(0, v7)]) w fun v8 w =>
  px P (Instr.alloc 159 true (.tuple #[])) w fun v5 w =>
  pu P (Instr.storeAt 159 v5 v8) w fun w =>
  px P (Op.unary .not v1) w fun v10 w =>
  cnd v10 (
    px P (Instr.loadAt 159 v5) w fun v11 w =>
    pu P (Instr.storeAt 159 v4 v11) w fun w =>
    pla P 159 v4 w fun v4_1 =>
    R v4_1 w) <|
  cl P 181 #[v0, (.int .i64 2147483647)] w fun v13 w =>
  px P (Instr.fieldAt 159 v5 2) w fun v14 w =>
  pu P (Instr.storeAt 3 v14 v13) w fun w =>
  px P (Instr.fieldAt 159 v5 2) w fun v15 w =>
  px P (Instr.loadAt 3 v15) w fun v16 w =>
  px P (bin true .eql 3 v16 (.int .i64 0)) w fun v17 w =>
  cut (fun J1 =>
    cnd v17 (
      cl P 182 #[v0, (.int .i64 64)] w fun v19 w =>
      px P (Instr.fieldAt 159 v5 1) w fun v20 w =>
      pu P (Instr.storeAt 9 v20 v19) w fun w =>
      J1 [] w) (
      cl P 181 #[v0, (.int .i64 2147483647)] w fun v22 w =>
      px P (Instr.fieldAt 159 v5 3) w fun v23 w =>
      pu P (Instr.storeAt 3 v23 v22) w fun w =>
      J1 [] w)) fun _ w =>
  px P (Instr.loadAt 159 v5) w fun v24 w =>
  pu P (Instr.storeAt 159 v4 v24) w fun w =>
  pla P 159 v4 w fun v4_2 =>
  R v4_2 w
theorem c257 (h : F257 R v0 v1 w) : cl P 257 #[v0, v1] w R := cq ⟨[(6, [])], [], [], [], []⟩ Tryz.func257 (by kernel_rfl) (by kernel_rfl) h
def F259 (R : Value → World → Prop) (v0 : Value) (w : World) : Prop :=
  px P (bin true .neq 5 v0 (.int .u8 0)) w fun v4 w =>
  R v4 w
theorem c259 (h : F259 R v0 w) : cl P 259 #[v0] w R := cq ⟨[], [], [], [], []⟩ Tryz.func259 (by kernel_rfl) (by kernel_rfl) h
def F263 (R : Value → World → Prop) (v0 v1 : Value) (w : World) : Prop :=
  px P (Instr.box 159 v0) w fun v2 w =>
  px P (Instr.fieldAt 159 v2 0) w fun v6 w =>
  px P (Instr.loadAt 9 v6) w fun v7 w =>
  px P (Builtin.len_ #[9] 3 #[v7]) w fun v8 w =>
  px P (bin true .gtr 3 v8 (.int .i64 48)) w fun v9 w =>
  cnd v9 (
    R (.bool false) w) <|
  px P (Op.unary .not v1) w fun v12 w =>
  cnd v12 (
    px P (Instr.loadAt 159 v2) w fun v13 w =>
    px P (Instr.fieldAt 159 v2 0) w fun v14 w =>
    px P (Instr.loadAt 9 v14) w fun v15 w =>
    px P (Instr.build 159 #[(0, v15)]) w fun v16 w =>
    px P (bin false .eql 159 v13 v16) w fun v17 w =>
    R v17 w) <|
  px P (Instr.fieldAt 159 v2 2) w fun v19 w =>
  px P (Instr.loadAt 3 v19) w fun v20 w =>
  px P (bin true .eql 3 v20 (.int .i64 0)) w fun v21 w =>
  cnd v21 (
    px P (Instr.fieldAt 159 v2 3) w fun v22 w =>
    px P (Instr.loadAt 3 v22) w fun v23 w =>
    px P (bin true .eql 3 v23 (.int .i64 0)) w fun v24 w =>
    gd v24 true w (fun k => px P (Instr.fieldAt 159 v2 1) w fun v w => k v w) fun v26 w =>
    gd v24 true w (fun k => px P (Instr.loadAt 9 v26) w fun v w => k v w) fun v27 w =>
    gd v24 true w (fun k => px P (Builtin.len_ #[9] 3 #[v27]) w fun v w => k v w) fun v28 w =>
    gd v24 true w (fun k => px P (bin true .leq 3 v28 (.int .i64 64)) w fun v w => k v w) fun v29 w =>
    pk v24 v29 (.bool false) w fun v30 w =>
    R v30 w) <|
  px P (Instr.fieldAt 159 v2 1) w fun v31 w =>
  px P (Instr.loadAt 9 v31) w fun v32 w =>
  px P (bin true .eql 9 v32 (.string ⟨#[]⟩)) w fun v33 w =>
  gd v33 true w (fun k => px P (Instr.fieldAt 159 v2 2) w fun v w => k v w) fun v35 w =>
  gd v33 true w (fun k => px P (Instr.loadAt 3 v35) w fun v w => k v w) fun v36 w =>
  gd v33 true w (fun k => cl P 266 #[v36, (.int .i64 1)] w fun v w => k v w) fun v37 w =>
  pk v33 v37 (.bool false) w fun v38 w =>
  gd v38 true w (fun k => px P (Instr.fieldAt 159 v2 3) w fun v w => k v w) fun v40 w =>
  gd v38 true w (fun k => px P (Instr.loadAt 3 v40) w fun v w => k v w) fun v41 w =>
  gd v38 true w (fun k => cl P 266 #[v41, (.int .i64 1)] w fun v w => k v w) fun v42 w =>
  pk v38 v42 (.bool false) w fun v43 w =>
  R v43 w
theorem c263 (h : F263 R v0 v1 w) : cl P 263 #[v0, v1] w R := cq ⟨[], [], [], [], []⟩ Tryz.func263 (by kernel_rfl) (by kernel_rfl) h
def F265 (R : Value → World → Prop) (v0 : Value) (w : World) : Prop :=
  cl P 266 #[v0, (.int .i64 0)] w fun v4 w =>
  px P (Op.unary .not v4) w fun v5 w =>
  R v5 w
theorem c265 (h : F265 R v0 w) : cl P 265 #[v0] w R := cq ⟨[], [], [], [], []⟩ Tryz.func265 (by kernel_rfl) (by kernel_rfl) h
def F266 (R : Value → World → Prop) (v0 v1 : Value) (w : World) : Prop :=
  px P (bin false .geq 3 v0 v1) w fun v7 w =>
  gd v7 true w (fun k => k v0 w) fun v9 w =>
  gd v7 true w (fun k => px P (bin true .leq 3 v9 (.int .i64 2147483647)) w fun v w => k v w) fun v10 w =>
  pk v7 v10 (.bool false) w fun v11 w =>
  R v11 w
theorem c266 (h : F266 R v0 v1 w) : cl P 266 #[v0, v1] w R := cq ⟨[], [], [], [], []⟩ Tryz.func266 (by kernel_rfl) (by kernel_rfl) h
def F267 (R : Value → World → Prop) (v0 v1 : Value) (w : World) : Prop :=
  px P (Builtin.len_ #[48] 3 #[v1]) w fun v8 w =>
  lp [v0, (.int .i64 0)] w fun again1 vs1 w =>
  px P (bin false .lss 3 (g1 vs1) v8) w fun v10 w =>
  cnd v10 (
    px P (Instr.indexAt 48 v1 (g1 vs1)) w fun v11 w =>
    px P (Instr.loadAt 3 v11) w fun v12 w =>
    cl P 168 #[(g0 vs1), v12] w fun v15 w =>
    px P (bin true .add 3 (g1 vs1) (.int .i64 1)) w fun v16 w =>
    again1 [v15, v16] w) (
    R (g0 vs1) w)
theorem c267 (h : F267 R v0 v1 w) : cl P 267 #[v0, v1] w R := cq ⟨[], [], [(2, [0, 9])], [], []⟩ Tryz.func267 (by kernel_rfl) (by kernel_rfl) h
end Go.Proofs.YtomggfibpbaodaaGreatDoor
