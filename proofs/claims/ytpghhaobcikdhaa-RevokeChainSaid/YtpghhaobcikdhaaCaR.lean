/- What the code of Go functions comes to, in words; written by a program of ours out of the given translation. -/
import Derived.Test.YtpghhaobcikdhaaHwD
import Derived.Test.YtpghhaobcikdhaaProg
import Derived.KernelRfl
import Derived.Test.YtpghhaobcikdhaaCaH
namespace Go.Proofs.Ytpghhaobcikdhaa
open Go Go.Hw
set_option linter.unusedVariables false
set_option maxRecDepth 100000

/-- donjon/donjonlaw11.RevokeChain · n:0, steps:1, extra:2 -/
def p_donjonlaw11_RevokeChain : Pl := .seq (.leaf) (.seq (.seq (.leaf) (.cond (.seq (.leaf) (.leaf)) (.leaf))) (.seq (.leaf) (.seq (.leaf) (.seq (.seq (.leaf) (.block (.loop [8] [6, 8, 33, 34, 35, 36, 37, 38, 39, 40, 41, 42, 43, 44] (.seq (.seq (.leaf) (.cond (.leaf) (.leaf))) (.seq (.block (.seq (.leaf) (.cond (.seq (.leaf) (.leaf)) (.leaf)))) (.leaf)))))) (.seq (.seq (.leaf) (.block (.loop [9] [6, 9, 45, 46, 47, 48, 49, 50, 51, 52, 53, 54, 55, 56, 57] (.seq (.seq (.leaf) (.cond (.leaf) (.leaf))) (.seq (.block (.seq (.leaf) (.cond (.seq (.leaf) (.leaf)) (.leaf)))) (.leaf)))))) (.seq (.leaf) (.seq (.seq (.leaf) (.block (.loop [10, 11] [10, 11, 12, 58, 59, 60, 61, 62, 63, 64, 65, 66, 67, 68, 69, 70, 71, 72, 73, 74, 75, 76, 77, 78, 79, 80, 81, 82, 83, 84, 85, 86, 87, 88, 89, 90] (.seq (.seq (.leaf) (.cond (.leaf) (.leaf))) (.jseq [10] [10, 12, 68, 69, 70, 71, 72, 73, 74, 75, 76, 77, 78, 79, 80, 81, 82, 83, 84, 85, 86, 87, 88, 89, 90] (.block (.seq (.leaf) (.seq (.leaf) (.cond (.leaf) (.leaf))))) (.leaf)))))) (.seq (.leaf) (.jseq [13] [6, 13, 14, 15, 16, 17, 91, 92, 93, 94, 95, 96, 97, 98, 99, 100, 101, 102, 103, 104, 105, 106, 107, 108] (.seq (.leaf) (.block (.loop [13, 14] [6, 13, 14, 15, 16, 17, 91, 92, 93, 94, 95, 96, 97, 98, 99, 100, 101, 102, 103, 104, 105, 106, 107, 108] (.seq (.seq (.leaf) (.cond (.leaf) (.leaf))) (.seq (.block (.seq (.leaf) (.seq (.leaf) (.seq (.seq (.leaf) (.cond (.leaf) (.leaf))) (.seq (.leaf) (.cond (.seq (.leaf) (.leaf)) (.leaf))))))) (.leaf)))))) (.seq (.seq (.leaf) (.cond (.seq (.leaf) (.leaf)) (.leaf))) (.seq (.leaf) (.seq (.seq (.leaf) (.block (.loop [18, 19] [6, 18, 19, 127, 128, 129, 130, 131, 132, 133, 134, 135, 136, 137, 138, 139, 140, 141, 142, 143, 144, 145, 146, 147, 148, 149, 150, 151, 152, 153, 154, 155, 156, 157, 158, 159, 160, 161, 162] (.seq (.seq (.leaf) (.cond (.leaf) (.leaf))) (.jseq [18] [6, 18, 133, 134, 135, 136, 137, 138, 139, 140, 141, 142, 143, 144, 145, 146, 147, 148, 149, 150, 151, 152, 153, 154, 155, 156, 157, 158, 159, 160, 161, 162] (.block (.seq (.leaf) (.cond (.seq (.seq (.reg (.leaf [0, 1, 2, 3, 5, 6, 4, 7, 8, 9, 10, 11, 12, 14, 15, 16, 17, 13, 18, 19, 20, 21] [[], [], [0, 1], [2], [3], [], [5], [4, 6], [4, 7], [4, 8], [4, 8, 9], [4, 8, 10], [4, 8, 11], [4, 8, 12], [8], [8], [8, 14, 15], [8, 16], [8, 17], [4, 8, 13, 18], [8, 19], [8, 19, 20]])) (.cond (.seq (.leaf) (.leaf)) (.leaf))) (.leaf)) (.leaf)))) (.leaf)))))) (.seq (.leaf) (.leaf))))))))))))))
def h_donjonlaw11_RevokeChain (x0 x1 x2 : Value) (R : Ending → World → Prop) (w : World) : Prop :=
 oC Try.prog (EP R) 15 #[] (fun v1 w => 
 oP Try.prog (Op.unary .not v1) (fun v2 w => 
 oCond v2 (R (.returned (.bool false)) w)
 (oP Try.prog (convert 3 54 x0) (fun v3 w => 
 oP Try.prog (bsem .rem 54 true v3 (.int .u64 8)) (fun v4 w => 
 oP Try.prog (convert 54 3 v4) (fun v5 w => 
 oP Try.prog (bsem .add 3 true (.int .i64 1) v5) (fun v6 w => 
 oP Try.prog (convert 3 54 x1) (fun v7 w => 
 oP Try.prog (bsem .rem 54 true v7 (.int .u64 4)) (fun v8 w => 
 oP Try.prog (convert 54 3 v8) (fun v9 w => 
 oP Try.prog (bsem .add 3 true (.int .i64 1) v9) (fun v10 w => 
 oC Try.prog (EP R) 16 #[] (fun v11 w => 
 oLoop (σ := Value) (fun _ s13 n12 w =>
 oP Try.prog (bsem .leq 3 false s13 v6) (fun v14 w => 
 oCond v14 (oNil v11 (fun v15 w => 
 oP Try.prog (Instr.fieldAt 63 v15 0) (fun v16 w => 
 oR Try.prog (Instr.loadAt 60 v16) (fun v17 w => 
 oC Try.prog (EP R) 17 #[v17, s13, (.int .i64 2)] (fun v18 w => 
 oP Try.prog (bsem .neq 42 true v18 (.int .i64 0)) (fun v19 w => 
 oCond v19 (R (.returned (.bool false)) w)
 (oP Try.prog (bsem .add 3 true s13 (.int .i64 1)) (fun v20 w => 
 n12 v20 w) w)) w) w) w) w) w)
 (oLoop (σ := Value) (fun _ s22 n21 w =>
 oP Try.prog (bsem .leq 3 false s22 v6) (fun v23 w => 
 oCond v23 (oP Try.prog (bsem .sub 3 true s22 (.int .i64 1)) (fun v24 w => 
 oP Try.prog (Instr.build 66 #[(0, v24), (1, (.int .i64 1))]) (fun v25 w => 
 oP Try.prog (Instr.build 68 #[(0, (.int .i64 2)), (1, s22)]) (fun v26 w => 
 oC Try.prog (EP R) 18 #[v11, v25, v26] (fun v27 w => 
 oP Try.prog (bsem .neq 42 true v27 (.int .i64 0)) (fun v28 w => 
 oCond v28 (R (.returned (.bool false)) w)
 (oP Try.prog (bsem .add 3 true s22 (.int .i64 1)) (fun v29 w => 
 n21 v29 w) w)) w) w) w) w) w)
 (oLoop (σ := Value × Value) (fun _ s31 n30 w =>
 oR Try.prog (Builtin.len_ #[52] 3 #[x2]) (fun v32 w => 
 oP Try.prog (bsem .lss 3 false s31.2 v32) (fun v33 w => 
 oGk (gb true v33) (fun k w => k s31.2 w) (fun v34 w =>
 oGk (gb true v33) (oP Try.prog (bsem .lss 3 true v34 (.int .i64 12))) (fun v35 w =>
 oPick v33 v35 (.bool false) (fun v36 w => 
 oCond v36 (oJoin (σ := Value) (fun k37 =>
 oP Try.prog (Instr.indexAt 52 x2 s31.2) (fun v39 w => 
 oR Try.prog (Instr.loadAt 3 v39) (fun v40 w => 
 oP Try.prog (convert 3 54 v40) (fun v41 w => 
 oP Try.prog (convert 3 54 v6) (fun v42 w => 
 oP Try.prog (bsem .rem 54 false v41 v42) (fun v43 w => 
 oP Try.prog (convert 54 3 v43) (fun v44 w => 
 oP Try.prog (bsem .add 3 true (.int .i64 1) v44) (fun v45 w => 
 oP Try.prog (bsem .rem 3 true s31.2 (.int .i64 2)) (fun v46 w => 
 oP Try.prog (bsem .mul 3 true (.int .i64 2) v46) (fun v47 w => 
 oP Try.prog (Instr.build 66 #[(0, v45), (1, v47)]) (fun v48 w => 
 oV Try.prog (EP R) (Instr.alloc 66 true (.tuple #[])) (fun v49 w => 
 oS Try.prog (EP R) (Instr.storeAt 66 v49 v48) (fun v50 w => 
 oR Try.prog (Instr.loadAt 66 v49) (fun v51 w => 
 oP Try.prog (bsem .add 3 true (.int .i64 20) s31.2) (fun v52 w => 
 oP Try.prog (Instr.build 68 #[(0, (.int .i64 6)), (1, v52), (2, (.int .i64 1))]) (fun v53 w => 
 oC Try.prog (EP R) 18 #[v11, v51, v53] (fun v54 w => 
 oP Try.prog (bsem .eql 42 true v54 (.int .i64 0)) (fun v55 w => 
 oCond v55 (oP Try.prog (bsem .add 3 true s31.1 (.int .i64 1)) (fun v56 w => 
 k37 v56 w) w)
 (k37 s31.1 w)) w) w) w) w) w) w) w) w) w) w) w) w) w) w) w) w) w)
 (fun _ s38 w =>
 oP Try.prog (bsem .add 3 true s31.2 (.int .i64 1)) (fun v57 w => 
 n30 (s38, v57) w) w))
 (oJoin (σ := Value) (fun k58 =>
 oLoop (σ := Value × Value) (fun _ s61 n60 w =>
 oP Try.prog (bsem .lss 3 true s61.2 (.int .i64 60)) (fun v62 w => 
 oCond v62 (oP Try.prog (Instr.build 66 #[(1, (.int .i64 1))]) (fun v63 w => 
 oC Try.prog (EP R) 19 #[v11, v63, v10] (fun v64 w => 
 oP Try.prog (Instr.extract v64 0) (fun v65 w => 
 oP Try.prog (Instr.extract v64 1) (fun v66 w => 
 oP Try.prog (Instr.extract v64 2) (fun v67 w => 
 oV Try.prog (EP R) (Builtin.append_ #[69, 69] 69 #[s61.1, v65]) (fun v68 w => 
 oCond v66 (k58 v68 w)
 (oP Try.prog (bsem .neq 42 true v67 (.int .i64 11)) (fun v69 w => 
 oCond v69 (R (.returned (.bool false)) w)
 (oP Try.prog (bsem .add 3 true s61.2 (.int .i64 1)) (fun v70 w => 
 n60 (v68, v70) w) w)) w)) w) w) w) w) w) w)
 (k58 s61.1 w)) w)
 ((.slice none 0 0), (.int .i64 0)) w)
 (fun _ s59 w =>
 oNil v11 (fun v71 w => 
 oP Try.prog (Instr.fieldAt 63 v71 0) (fun v72 w => 
 oP Try.prog (Instr.fieldAt 60 v72 0) (fun v73 w => 
 oR Try.prog (Instr.loadAt 58 v73) (fun v74 w => 
 oC Try.prog (EP R) 20 #[v74] (fun v75 w => 
 oR Try.prog (Builtin.len_ #[72] 3 #[v75]) (fun v76 w => 
 oP Try.prog (bsem .neq 3 true v76 (.int .i64 0)) (fun v77 w => 
 oGk (gb false v77) (fun k w => k s59 w) (fun v78 w =>
 oGk (gb false v77) (oR Try.prog (Builtin.len_ #[69] 3 #[v78])) (fun v79 w =>
 oGk (gb false v77) (fun k w => k v6 w) (fun v80 w =>
 oGk (gb false v77) (fun k w => k s31.1 w) (fun v81 w =>
 oGk (gb false v77) (oP Try.prog (bsem .add 3 false v80 v81)) (fun v82 w =>
 oGk (gb false v77) (oP Try.prog (bsem .neq 3 false v79 v82)) (fun v83 w =>
 oPick v77 (.bool true) v83 (fun v84 w => 
 oCond v84 (R (.returned (.bool false)) w)
 (oP Try.prog (bsem .add 3 true v6 (.int .i64 1)) (fun v85 w => 
 oLoop (σ := Value × Value) (fun _ s87 n86 w =>
 oR Try.prog (Builtin.len_ #[69] 3 #[s59]) (fun v88 w => 
 oP Try.prog (bsem .lss 3 false s87.2 v88) (fun v89 w => 
 oCond v89 (oJoin (σ := Value) (fun k90 =>
 oP Try.prog (Instr.indexAt 69 s59 s87.2) (fun v92 w => 
 oP Try.prog (Instr.fieldAt 68 v92 0) (fun v93 w => 
 oR Try.prog (Instr.loadAt 3 v93) (fun v94 w => 
 oP Try.prog (bsem .eql 3 true v94 (.int .i64 2)) (fun v95 w => 
 oCond v95 (oDraw (fun w => oP Try.prog (Instr.indexAt 69 s59 s87.2) (fun v96 w => 
 oP Try.prog (Instr.fieldAt 68 v96 1) (fun v97 w => 
 oP Try.prog (bsem .sub 3 true s87.1 (.int .i64 1)) (fun v98 w => 
 oR Try.prog (Instr.loadAt 3 v97) (fun v99 w => 
 oP Try.prog (bsem .neq 3 false v99 v98) (fun v100 w => 
 oGk (gb false v100) (fun k w => k v11 w) (fun v101 w =>
 oGk (gb false v100) (oNil v101) (fun v102 w =>
 oGk (gb false v100) (oP Try.prog (Instr.fieldAt 63 v102 0)) (fun v103 w =>
 oGk (gb false v100) (oP Try.prog (Instr.fieldAt 60 v103 0)) (fun v104 w =>
 oGk (gb false v100) (fun k w => k s59 w) (fun v105 w =>
 oGk (gb false v100) (fun k w => k s87.2 w) (fun v106 w =>
 oGk (gb false v100) (oP Try.prog (Instr.indexAt 69 v105 v106)) (fun v107 w =>
 oGk (gb false v100) (oP Try.prog (Instr.fieldAt 68 v107 1)) (fun v108 w =>
 oGk (gb false v100) (oR Try.prog (Instr.loadAt 58 v104)) (fun v109 w =>
 oGk (gb false v100) (oR Try.prog (Instr.loadAt 3 v108)) (fun v110 w =>
 oGk (gb false v100) (oC Try.prog (EP R) 21 #[v109, v110]) (fun v111 w =>
 oGk (gb false v100) (oP Try.prog (bsem .neq 3 true v111 (.int .i64 0))) (fun v112 w =>
 oPick v100 (.bool true) v112 (fun v113 w => 
 oCond v113 (R (.returned (.bool false)) w)
 (oP Try.prog (bsem .sub 3 true s87.1 (.int .i64 1)) (fun v114 w => 
 k90 v114 w) w)) w) w) w) w) w) w) w) w) w) w) w) w) w) w) w) w) w) w) w)
 (k90 s87.1 w)) w) w) w) w)
 (fun _ s91 w =>
 oP Try.prog (bsem .add 3 true s87.2 (.int .i64 1)) (fun v115 w => 
 n86 (s91, v115) w) w))
 (oP Try.prog (bsem .eql 3 true s87.1 (.int .i64 1)) (fun v116 w => 
 oGk (gb true v116) (fun k w => k v11 w) (fun v117 w =>
 oGk (gb true v116) (oNil v117) (fun v118 w =>
 oGk (gb true v116) (oP Try.prog (Instr.fieldAt 63 v118 0)) (fun v119 w =>
 oGk (gb true v116) (oP Try.prog (Instr.fieldAt 60 v119 0)) (fun v120 w =>
 oGk (gb true v116) (oR Try.prog (Instr.loadAt 58 v120)) (fun v121 w =>
 oGk (gb true v116) (oC Try.prog (EP R) 21 #[v121, (.int .i64 0)]) (fun v122 w =>
 oGk (gb true v116) (oP Try.prog (bsem .eql 3 true v122 (.int .i64 2))) (fun v123 w =>
 oPick v116 v123 (.bool false) (fun v124 w => 
 R (.returned v124) w) w) w) w) w) w) w) w) w) w)) w) w)
 (v85, (.int .i64 0)) w) w)) w) w) w) w) w) w) w) w) w) w) w) w) w) w))) w) w) w) w) w)
 ((.int .i64 0), (.int .i64 0)) w)) w)
 (.int .i64 1) w)) w)
 (.int .i64 0) w) w) w) w) w) w) w) w) w) w)) w) w
theorem e_donjonlaw11_RevokeChain (x0 x1 x2 : Value) (R : Ending → World → Prop) (w : World) : dFn Try.prog Try.f4 p_donjonlaw11_RevokeChain R [x0, x1, x2] w = h_donjonlaw11_RevokeChain x0 x1 x2 R w := by kernel_rfl
theorem c_donjonlaw11_RevokeChain {x0 x1 x2 : Value} {R : Ending → World → Prop} {w : World} (h : h_donjonlaw11_RevokeChain x0 x1 x2 R w) : Calls Try.prog 4 #[x0, x1, x2] w R :=
  calls_of_dFn (by kernel_rfl) (by kernel_rfl) (by kernel_rfl : fnOk Try.prog Try.f4 p_donjonlaw11_RevokeChain 3 = true) ((e_donjonlaw11_RevokeChain x0 x1 x2 R w).mpr h)

/-- donjon/donjonlaw11.RevokeCopies · of:0, steps:1 -/
def p_donjonlaw11_RevokeCopies : Pl := .seq (.leaf) (.seq (.seq (.leaf) (.cond (.seq (.leaf) (.leaf)) (.leaf))) (.seq (.leaf) (.seq (.leaf) (.seq (.leaf) (.seq (.leaf) (.seq (.leaf) (.seq (.seq (.leaf) (.block (.loop [6, 7] [4, 6, 7, 30, 31, 32, 33, 34, 35, 36, 37, 38, 39, 40, 41, 42, 43, 44, 45, 46, 47, 48, 49, 50, 51, 52, 53, 54, 55, 56] (.seq (.seq (.leaf) (.cond (.leaf) (.leaf))) (.seq (.block (.seq (.seq (.leaf) (.cond (.seq (.leaf) (.leaf)) (.leaf))) (.leaf))) (.leaf)))))) (.seq (.seq (.leaf) (.cond (.seq (.leaf) (.leaf)) (.leaf))) (.seq (.leaf) (.jseq [8] [4, 8, 9, 10, 11, 12, 63, 64, 65, 66, 67, 68, 69, 70, 71, 72, 73, 74, 75, 76, 77, 78, 79, 80] (.seq (.leaf) (.block (.loop [8, 9] [4, 8, 9, 10, 11, 12, 63, 64, 65, 66, 67, 68, 69, 70, 71, 72, 73, 74, 75, 76, 77, 78, 79, 80] (.seq (.seq (.leaf) (.cond (.leaf) (.leaf))) (.seq (.block (.seq (.leaf) (.seq (.leaf) (.seq (.seq (.leaf) (.cond (.seq (.leaf) (.leaf)) (.leaf))) (.seq (.leaf) (.cond (.leaf) (.leaf))))))) (.leaf)))))) (.seq (.reg (.leaf [0, 1, 2, 3, 4, 5, 6, 7, 8, 9, 10, 11, 12, 13, 14, 15, 16, 17, 18, 19, 20, 21, 22, 23, 24, 25, 26, 27] [[], [0], [1], [2], [3], [4], [4, 5], [4, 5, 6], [4, 5, 6, 7], [4, 5, 6, 8], [4, 5, 6, 8], [4, 5, 6, 8, 9, 10], [4, 5, 6, 8, 10, 11], [4, 5, 6, 10, 11, 12], [5, 10, 11, 13], [5, 10, 11, 13], [5, 10, 11, 13, 15], [5, 10, 11, 13], [5, 10, 11, 13, 16, 17], [5, 10, 11, 13, 18], [4, 5, 6, 10, 11, 13], [4, 5, 6, 10, 11, 13, 20], [5, 10, 11, 13], [4, 5, 6, 10, 11, 13, 21, 22], [5, 10, 11, 13, 19, 23], [5, 10, 11, 13, 14, 23, 24], [5, 10, 11, 13, 23, 25], [5, 10, 11, 23, 26]])) (.leaf))))))))))))
def h_donjonlaw11_RevokeCopies (x0 x1 : Value) (R : Ending → World → Prop) (w : World) : Prop :=
 oC Try.prog (EP R) 15 #[] (fun v1 w => 
 oP Try.prog (Op.unary .not v1) (fun v2 w => 
 oCond v2 (R (.returned (.bool false)) w)
 (oP Try.prog (convert 3 54 x1) (fun v3 w => 
 oP Try.prog (bsem .rem 54 true v3 (.int .u64 6)) (fun v4 w => 
 oP Try.prog (convert 54 3 v4) (fun v5 w => 
 oP Try.prog (bsem .add 3 true (.int .i64 1) v5) (fun v6 w => 
 oC Try.prog (EP R) 16 #[] (fun v7 w => 
 oNil v7 (fun v8 w => 
 oP Try.prog (Instr.fieldAt 63 v8 0) (fun v9 w => 
 oR Try.prog (Instr.loadAt 60 v9) (fun v10 w => 
 oC Try.prog (EP R) 17 #[v10, (.int .i64 0), (.int .i64 4)] (fun v11 w => 
 oC Try.prog (EP R) 22 #[(.int .i64 0)] (fun v12 w => 
 oP Try.prog (Instr.build 68 #[(0, (.int .i64 4)), (1, (.int .i64 7)), (2, (.int .i64 7))]) (fun v13 w => 
 oC Try.prog (EP R) 18 #[v7, v12, v13] (fun v14 w => 
 oLoop (σ := Value × Value) (fun _ s16 n15 w =>
 oR Try.prog (Builtin.len_ #[52] 3 #[x0]) (fun v17 w => 
 oP Try.prog (bsem .lss 3 false s16.2 v17) (fun v18 w => 
 oGk (gb true v18) (fun k w => k s16.1 w) (fun v19 w =>
 oGk (gb true v18) (oP Try.prog (bsem .lss 3 true v19 (.int .i64 16))) (fun v20 w =>
 oPick v18 v20 (.bool false) (fun v21 w => 
 oCond v21 (oP Try.prog (Instr.indexAt 52 x0 s16.2) (fun v22 w => 
 oR Try.prog (Instr.loadAt 3 v22) (fun v23 w => 
 oP Try.prog (convert 3 54 v23) (fun v24 w => 
 oP Try.prog (convert 3 54 s16.1) (fun v25 w => 
 oP Try.prog (bsem .rem 54 false v24 v25) (fun v26 w => 
 oP Try.prog (convert 54 3 v26) (fun v27 w => 
 oC Try.prog (EP R) 22 #[v27] (fun v28 w => 
 oC Try.prog (EP R) 22 #[s16.1] (fun v29 w => 
 oC Try.prog (EP R) 23 #[v7, v28, v29, (.int .i64 7)] (fun v30 w => 
 oP Try.prog (bsem .neq 42 true v30 (.int .i64 0)) (fun v31 w => 
 oCond v31 (R (.returned (.bool false)) w)
 (oP Try.prog (bsem .add 3 true s16.1 (.int .i64 1)) (fun v32 w => 
 oP Try.prog (bsem .add 3 true s16.2 (.int .i64 1)) (fun v33 w => 
 n15 (v32, v33) w) w) w)) w) w) w) w) w) w) w) w) w) w)
 (oC Try.prog (EP R) 22 #[(.int .i64 0)] (fun v34 w => 
 oC Try.prog (EP R) 24 #[v7, v34] (fun v35 w => 
 oP Try.prog (bsem .eql 3 true s16.1 (.int .i64 1)) (fun v36 w => 
 oP Try.prog (bsem .neq 4 false v35 v36) (fun v37 w => 
 oCond v37 (R (.returned (.bool false)) w)
 (oJoin (σ := Value) (fun k38 =>
 oLoop (σ := Value × Value) (fun _ s41 n40 w =>
 oP Try.prog (bsem .lss 3 true s41.2 (.int .i64 20)) (fun v42 w => 
 oCond v42 (oP Try.prog (bsem .add 3 true s41.1 (.int .i64 1)) (fun v43 w => 
 oC Try.prog (EP R) 22 #[(.int .i64 0)] (fun v44 w => 
 oC Try.prog (EP R) 25 #[v7, v44, v6] (fun v45 w => 
 oP Try.prog (Instr.extract v45 0) (fun v46 w => 
 oP Try.prog (Instr.extract v45 1) (fun v47 w => 
 oP Try.prog (Instr.extract v45 2) (fun v48 w => 
 oR Try.prog (Builtin.len_ #[69] 3 #[v46]) (fun v49 w => 
 oP Try.prog (bsem .neq 3 true v49 (.int .i64 0)) (fun v50 w => 
 oCond v50 (R (.returned (.bool false)) w)
 (oCond v47 (k38 v43 w)
 (oP Try.prog (bsem .add 3 true s41.2 (.int .i64 1)) (fun v51 w => 
 n40 (v43, v51) w) w))) w) w) w) w) w) w) w) w)
 (k38 s41.1 w)) w)
 ((.int .i64 0), (.int .i64 0)) w)
 (fun _ s39 w =>
 oDraw (fun w => oNil v7 (fun v52 w => 
 oP Try.prog (Instr.fieldAt 63 v52 0) (fun v53 w => 
 oP Try.prog (Instr.fieldAt 60 v53 0) (fun v54 w => 
 oR Try.prog (Instr.loadAt 58 v54) (fun v55 w => 
 oC Try.prog (EP R) 20 #[v55] (fun v56 w => 
 oR Try.prog (Builtin.len_ #[72] 3 #[v56]) (fun v57 w => 
 oP Try.prog (bsem .eql 3 true v57 (.int .i64 1)) (fun v58 w => 
 oGk (gb true v58) (fun k w => k v7 w) (fun v59 w =>
 oGk (gb true v58) (oC Try.prog (EP R) 22 #[(.int .i64 0)]) (fun v60 w =>
 oGk (gb true v58) (oC Try.prog (EP R) 24 #[v59, v60]) (fun v61 w =>
 oPick v58 v61 (.bool false) (fun v62 w => 
 oGk (gb true v62) (fun k w => k s39 w) (fun v63 w =>
 oGk (gb true v62) (fun k w => k s16.1 w) (fun v64 w =>
 oGk (gb true v62) (oP Try.prog (bsem .sub 3 true v64 (.int .i64 1))) (fun v65 w =>
 oGk (gb true v62) (fun k w => k v6 w) (fun v66 w =>
 oGk (gb true v62) (oP Try.prog (bsem .quo 3 false v65 v66)) (fun v67 w =>
 oGk (gb true v62) (oP Try.prog (bsem .add 3 true v67 (.int .i64 1))) (fun v68 w =>
 oGk (gb true v62) (fun k w => k s16.1 w) (fun v69 w =>
 oGk (gb true v62) (oP Try.prog (bsem .sub 3 true v69 (.int .i64 1))) (fun v70 w =>
 oGk (gb true v62) (fun k w => k v6 w) (fun v71 w =>
 oGk (gb true v62) (oC Try.prog (EP R) 26 #[v70, v71]) (fun v72 w =>
 oGk (gb true v62) (oP Try.prog (bsem .sub 3 false v68 v72)) (fun v73 w =>
 oGk (gb true v62) (oP Try.prog (bsem .eql 3 false v63 v73)) (fun v74 w =>
 oPick v62 v74 (.bool false) (fun v75 w => 
 R (.returned v75) w) w) w) w) w) w) w) w) w) w) w) w) w) w) w) w) w) w) w) w) w) w) w) w) w) w))) w) w) w) w)) w) w) w) w) w)
 ((.int .i64 1), (.int .i64 0)) w) w) w) w) w) w) w) w) w) w) w) w) w)) w) w
theorem e_donjonlaw11_RevokeCopies (x0 x1 : Value) (R : Ending → World → Prop) (w : World) : dFn Try.prog Try.f5 p_donjonlaw11_RevokeCopies R [x0, x1] w = h_donjonlaw11_RevokeCopies x0 x1 R w := by kernel_rfl
theorem c_donjonlaw11_RevokeCopies {x0 x1 : Value} {R : Ending → World → Prop} {w : World} (h : h_donjonlaw11_RevokeCopies x0 x1 R w) : Calls Try.prog 5 #[x0, x1] w R :=
  calls_of_dFn (by kernel_rfl) (by kernel_rfl) (by kernel_rfl : fnOk Try.prog Try.f5 p_donjonlaw11_RevokeCopies 2 = true) ((e_donjonlaw11_RevokeCopies x0 x1 R w).mpr h)

/-- donjon/donjonlaw11.RevokeTells · l:0, at:1, steps:2, all:3 -/
def p_donjonlaw11_RevokeTells : Pl := .seq (.leaf) (.seq (.seq (.leaf) (.cond (.seq (.leaf) (.leaf)) (.leaf))) (.seq (.leaf) (.seq (.leaf) (.jseq [11, 12] [11, 12, 38, 39, 40, 41, 42, 43, 44, 45, 46, 47] (.reg (.split 6 10 (.leaf [0, 1, 2, 3, 4, 5, 6, 7, 8, 9, 10, 11, 12] [[], [0], [1], [2], [3], [], [4, 5], [6], [6, 7], [6, 7], [4, 5, 6], [4, 5, 6, 8, 10], [6, 9, 10, 11]]) (.leaf [0, 1, 2, 3, 4, 5, 10, 6, 7, 8, 9, 11, 12] [[], [0], [1], [2], [3], [], [4, 5, 10], [6, 10], [6, 7, 10], [6, 7, 10], [], [4, 5, 6, 8, 10], [6, 9, 10, 11]]))) (.seq (.seq (.leaf) (.cond (.seq (.leaf) (.leaf)) (.leaf))) (.seq (.leaf) (.seq (.leaf) (.seq (.leaf) (.seq (.seq (.leaf) (.block (.loop [15, 16] [15, 16, 17, 18, 19, 62, 63, 64, 65, 66, 67, 68, 69, 70, 71, 72, 73, 74, 75, 76, 77, 78, 79, 80, 81, 82, 83, 84, 85, 86, 87, 88, 89, 90, 91, 92, 93, 94, 95, 96, 97, 98, 99] (.seq (.seq (.leaf) (.cond (.leaf) (.leaf))) (.seq (.block (.jseq [17] [17, 18, 68, 69, 70, 71, 72, 73, 74, 75, 76, 77, 78, 79, 80] (.reg (.split 9 13 (.leaf [0, 1, 2, 3, 5, 6, 7, 4, 8, 9, 10, 11, 12, 13, 14, 15] [[], [0], [1], [2], [3], [], [], [5, 6], [7], [4, 8], [9], [9, 10], [9, 10], [4, 8, 9], [4, 8, 9, 11, 13], [9, 12, 13, 14]]) (.leaf [0, 1, 2, 3, 5, 6, 7, 4, 8, 13, 9, 10, 11, 12, 14, 15] [[], [0], [1], [2], [3], [], [], [5, 6], [7], [4, 8, 13], [9, 13], [9, 10, 13], [9, 10, 13], [], [4, 8, 9, 11, 13], [9, 12, 13, 14]]))) (.seq (.leaf) (.jseq [15] [15, 86, 87, 88, 89, 90, 91, 92, 93] (.seq (.leaf) (.cond (.leaf) (.leaf))) (.reg (.leaf [0, 1, 2, 3, 4, 5, 6] [[], [], [0, 1], [2], [0, 1], [4], [0, 1, 2, 3, 4, 5]])))))) (.leaf)))))) (.seq (.leaf) (.jseq [20] [12, 20, 22, 23, 100, 101, 102, 103, 104, 105, 106, 107, 108, 109, 110, 111, 112, 113, 114, 115, 116, 117, 118, 119, 120, 121, 122, 123, 124, 125] (.seq (.leaf) (.block (.loop [20, 22] [12, 20, 22, 23, 100, 101, 102, 103, 104, 105, 106, 107, 108, 109, 110, 111, 112, 113, 114, 115, 116, 117, 118, 119, 120, 121, 122, 123, 124, 125] (.seq (.seq (.leaf) (.cond (.leaf) (.leaf))) (.seq (.block (.seq (.leaf) (.jseq [12, 23] [12, 23, 104, 105, 106, 107, 108, 109, 110, 111, 112, 113, 114, 115, 116, 117, 118, 119, 120] (.seq (.leaf) (.cond (.leaf) (.leaf))) (.seq (.leaf) (.seq (.leaf) (.cond (.leaf) (.leaf))))))) (.leaf)))))) (.jseq [21] [21, 126, 127, 128, 129, 130, 131, 132, 133, 134, 135, 136, 137, 138, 139, 140] (.seq (.leaf) (.cond (.leaf) (.leaf))) (.seq (.seq (.reg (.leaf [0, 1, 2, 3, 4, 5, 6, 7, 8, 11, 12, 13, 14, 9, 15, 10, 16, 17, 18, 19] [[], [], [0, 1], [2], [2, 3], [2, 4], [2, 4, 5], [2, 4, 6], [2, 4, 7], [2, 4, 8], [2, 4, 9], [2, 4], [2, 4, 11], [2, 4, 12], [2, 4, 13], [2, 4, 14], [2, 4, 9, 10, 15], [2, 4, 9, 10, 15, 16], [2, 4, 10, 16, 17], [2, 4, 10, 16, 17, 18]])) (.cond (.seq (.leaf) (.leaf)) (.leaf))) (.seq (.seq (.leaf) (.block (.loop [24] [8, 24, 25, 26, 161, 162, 163, 164, 165, 166, 167, 168, 169, 170, 171, 172, 173, 174, 175, 176, 177, 178, 179, 180, 181, 182, 183, 184, 185, 186, 187, 188, 189, 190, 191, 192, 193, 194, 195, 196, 197, 198, 199, 200, 201, 202, 203, 204, 205, 206, 207, 208, 209, 210, 211, 212, 213, 214, 215, 216, 217, 218, 219, 220, 221, 222] (.seq (.seq (.leaf) (.cond (.leaf) (.leaf))) (.seq (.block (.seq (.leaf) (.seq (.seq (.leaf) (.block (.loop [25, 26] [25, 26, 167, 168, 169, 170, 171, 172, 173, 174, 175, 176, 177, 178, 179, 180, 181, 182, 183, 184, 185, 186, 187, 188, 189, 190, 191, 192, 193, 194, 195, 196, 197, 198] (.seq (.seq (.leaf) (.cond (.leaf) (.leaf))) (.jseq [25] [25, 173, 174, 175, 176, 177, 178, 179, 180, 181, 182, 183, 184, 185, 186, 187, 188, 189, 190, 191, 192, 193, 194, 195, 196, 197, 198] (.block (.seq (.reg (.leaf [0, 1, 2, 3, 5, 6, 7, 8, 4, 9, 10, 11, 12, 13, 14, 15, 17, 18, 19, 20, 16, 21, 22, 23] [[], [], [0, 1], [2], [3], [], [], [5, 6], [7], [8], [4, 9], [10], [11], [11], [11, 12, 13], [11, 14], [11, 15], [11], [11], [11, 17, 18], [11, 19], [11, 20], [11, 16, 21], [11, 22]])) (.cond (.leaf) (.leaf)))) (.leaf)))))) (.seq (.reg (.leaf [0, 1, 2, 3, 4, 5, 7, 8, 9, 10, 12, 13, 14, 15, 6, 11, 16, 17, 18, 19, 20, 21, 22, 23] [[], [0], [], [2], [3], [4], [5], [], [], [7, 8], [9], [10], [], [], [12, 13], [14], [15], [6, 11, 16], [17], [1, 17, 18], [17, 19], [17, 20], [17, 20, 21], [17, 20, 22]])) (.cond (.seq (.leaf) (.leaf)) (.leaf)))))) (.leaf)))))) (.seq (.leaf) (.leaf))))))))))))))))
def h_donjonlaw11_RevokeTells (x0 x1 x2 x3 : Value) (R : Ending → World → Prop) (w : World) : Prop :=
 oV Try.prog (EP R) (Instr.box 66 x1) (fun v1 w => 
 oC Try.prog (EP R) 15 #[] (fun v2 w => 
 oP Try.prog (Op.unary .not v2) (fun v3 w => 
 oCond v3 (R (.returned (.bool false)) w)
 (oC Try.prog (EP R) 27 #[x0] (fun v4 w => 
 oC Try.prog (EP R) 27 #[x0] (fun v5 w => 
 oP Try.prog (convert 3 54 x2) (fun v6 w => 
 oP Try.prog (bsem .rem 54 true v6 (.int .u64 5)) (fun v7 w => 
 oP Try.prog (convert 54 3 v7) (fun v8 w => 
 oP Try.prog (bsem .add 3 true (.int .i64 1) v8) (fun v9 w => 
 oJoin (σ := Value × Value) (fun k10 =>
 oDraw (fun w => (oNil v4 (fun v12 w => 
 oP Try.prog (Instr.fieldAt 63 v12 0) (fun v13 w => 
 oP Try.prog (Instr.fieldAt 60 v13 0) (fun v14 w => 
 oR Try.prog (Instr.loadAt 58 v14) (fun v15 w => 
 oR Try.prog (Instr.loadAt 66 v1) (fun v16 w => 
 oC Try.prog (EP R) 28 #[v15, v16] (fun v17 w => 
 oP Try.prog (Instr.extract v17 0) (fun v18 w => 
 oP Try.prog (Instr.extract v17 1) (fun v19 w => 
 oV Try.prog (EP R) (Instr.alloc 68 true (.tuple #[])) (fun v20 w => 
 oS Try.prog (EP R) (Instr.storeAt 68 v20 v18) (fun v21 w => 
 k10 (v20, v19) w) w) w) w) w) w) w) w) w) w) w) ∧ (oNil v4 (fun v22 w => 
 oP Try.prog (Instr.fieldAt 63 v22 0) (fun v23 w => 
 oP Try.prog (Instr.fieldAt 60 v23 0) (fun v24 w => 
 oR Try.prog (Instr.loadAt 58 v24) (fun v25 w => 
 oR Try.prog (Instr.loadAt 66 v1) (fun v26 w => 
 oV Try.prog (EP R) (Instr.alloc 68 true (.tuple #[])) (fun v27 w => oRd true Try.prog (Instr.loadAt 66 v1) v26 w ∧ oRd true Try.prog (Instr.loadAt 58 v24) v25 w ∧ 
 oC Try.prog (EP R) 28 #[v25, v26] (fun v28 w => 
 oP Try.prog (Instr.extract v28 0) (fun v29 w => 
 oP Try.prog (Instr.extract v28 1) (fun v30 w => 
 oS Try.prog (EP R) (Instr.storeAt 68 v27 v29) (fun v31 w => 
 k10 (v27, v30) w) w) w) w) w) w) w) w) w) w) w)) w)
 (fun _ s11 w =>
 oP Try.prog (bsem .neq 42 true s11.2 (.int .i64 0)) (fun v32 w => 
 oGk (gb false v32) (oP Try.prog (Instr.fieldAt 68 s11.1 0)) (fun v33 w =>
 oGk (gb false v32) (oR Try.prog (Instr.loadAt 3 v33)) (fun v34 w =>
 oGk (gb false v32) (oP Try.prog (bsem .eql 3 true v34 (.int .i64 0))) (fun v35 w =>
 oPick v32 (.bool true) v35 (fun v36 w => 
 oCond v36 (R (.returned (.bool true)) w)
 (oNil v4 (fun v37 w => 
 oP Try.prog (Instr.fieldAt 63 v37 0) (fun v38 w => 
 oP Try.prog (Instr.fieldAt 60 v38 0) (fun v39 w => 
 oR Try.prog (Instr.loadAt 58 v39) (fun v40 w => 
 oC Try.prog (EP R) 20 #[v40] (fun v41 w => 
 oV Try.prog (EP R) (Instr.makeMap 85 none) (fun v42 w => 
 oLoop (σ := Value × Value) (fun _ s44 n43 w =>
 oR Try.prog (Builtin.len_ #[72] 3 #[v41]) (fun v45 w => 
 oP Try.prog (bsem .lss 3 false s44.2 v45) (fun v46 w => 
 oCond v46 (oJoin (σ := Value) (fun k47 =>
 oDraw (fun w => (oNil v4 (fun v49 w => 
 oP Try.prog (Instr.fieldAt 63 v49 0) (fun v50 w => 
 oP Try.prog (Instr.fieldAt 60 v50 0) (fun v51 w => 
 oP Try.prog (Instr.indexAt 72 v41 s44.2) (fun v52 w => 
 oR Try.prog (Instr.loadAt 58 v51) (fun v53 w => 
 oR Try.prog (Instr.loadAt 66 v52) (fun v54 w => 
 oC Try.prog (EP R) 28 #[v53, v54] (fun v55 w => 
 oP Try.prog (Instr.extract v55 0) (fun v56 w => 
 oP Try.prog (Instr.extract v55 1) (fun v57 w => 
 oV Try.prog (EP R) (Instr.alloc 68 true (.tuple #[])) (fun v58 w => 
 oS Try.prog (EP R) (Instr.storeAt 68 v58 v56) (fun v59 w => 
 k47 v58 w) w) w) w) w) w) w) w) w) w) w) w) ∧ (oNil v4 (fun v60 w => 
 oP Try.prog (Instr.fieldAt 63 v60 0) (fun v61 w => 
 oP Try.prog (Instr.fieldAt 60 v61 0) (fun v62 w => 
 oP Try.prog (Instr.indexAt 72 v41 s44.2) (fun v63 w => 
 oR Try.prog (Instr.loadAt 58 v62) (fun v64 w => 
 oR Try.prog (Instr.loadAt 66 v63) (fun v65 w => 
 oV Try.prog (EP R) (Instr.alloc 68 true (.tuple #[])) (fun v66 w => oRd true Try.prog (Instr.loadAt 66 v63) v65 w ∧ oRd true Try.prog (Instr.loadAt 58 v62) v64 w ∧ 
 oC Try.prog (EP R) 28 #[v64, v65] (fun v67 w => 
 oP Try.prog (Instr.extract v67 0) (fun v68 w => 
 oP Try.prog (Instr.extract v67 1) (fun v69 w => 
 oS Try.prog (EP R) (Instr.storeAt 68 v66 v68) (fun v70 w => 
 k47 v66 w) w) w) w) w) w) w) w) w) w) w) w)) w)
 (fun _ s48 w =>
 oP Try.prog (Instr.fieldAt 68 s48 0) (fun v71 w => 
 oR Try.prog (Instr.loadAt 3 v71) (fun v72 w => 
 oP Try.prog (Instr.fieldAt 68 s48 1) (fun v73 w => 
 oR Try.prog (Instr.loadAt 3 v73) (fun v74 w => 
 oP Try.prog (Instr.build 68 #[(0, v72), (1, v74)]) (fun v75 w => 
 oV Try.prog (EP R) (Instr.alloc 68 true (.tuple #[])) (fun v76 w => 
 oS Try.prog (EP R) (Instr.storeAt 68 v76 v75) (fun v77 w => 
 oJoin (σ := Value) (fun k78 =>
 oR Try.prog (Instr.loadAt 68 v76) (fun v80 w => 
 oR Try.prog (Instr.lookup 85 v42 v80 false) (fun v81 w => 
 oP Try.prog (bsem .eql 3 true v81 (.int .i64 0)) (fun v82 w => 
 oCond v82 (oR Try.prog (Instr.loadAt 68 v76) (fun v83 w => 
 oV Try.prog (EP R) (Instr.buildSlice 69 1 #[(0, v83)]) (fun v84 w => 
 oV Try.prog (EP R) (Builtin.append_ #[69, 69] 69 #[s44.1, v84]) (fun v85 w => 
 k78 v85 w) w) w) w)
 (k78 s44.1 w)) w) w) w)
 (fun _ s79 w =>
 oDraw (fun w => oR Try.prog (Instr.loadAt 68 v76) (fun v86 w => 
 oR Try.prog (Instr.lookup 85 v42 v86 false) (fun v87 w => 
 oP Try.prog (bsem .add 3 true v87 (.int .i64 1)) (fun v88 w => 
 oV Try.prog (EP R) (Instr.mapEntry 85 v42 v86) (fun v89 w => oRd true Try.prog (Instr.lookup 85 v42 v86 false) v87 w ∧ 
 oP Try.prog (Instr.extract v89 1) (fun v90 w => 
 oS Try.prog (EP R) (Instr.entryStore 85 v42 v90 v88) (fun v91 w => 
 oP Try.prog (bsem .add 3 true s44.2 (.int .i64 1)) (fun v92 w => 
 n43 (s79, v92) w) w) w) w) w) w) w) w) w)) w) w) w) w) w) w) w))
 (oJoin (σ := Value) (fun k93 =>
 oLoop (σ := Value × Value) (fun _ s96 n95 w =>
 oP Try.prog (bsem .lss 3 true s96.2 (.int .i64 100)) (fun v97 w => 
 oCond v97 (oJoin (σ := Value × Value) (fun k98 =>
 oCond x3 (oR Try.prog (Instr.loadAt 66 v1) (fun v100 w => 
 oC Try.prog (EP R) 25 #[v4, v100, v9] (fun v101 w => 
 oP Try.prog (Instr.extract v101 0) (fun v102 w => 
 oP Try.prog (Instr.extract v101 1) (fun v103 w => 
 oP Try.prog (Instr.extract v101 2) (fun v104 w => 
 k98 (v104, v102) w) w) w) w) w) w)
 (oR Try.prog (Instr.loadAt 66 v1) (fun v105 w => 
 oC Try.prog (EP R) 19 #[v4, v105, v9] (fun v106 w => 
 oP Try.prog (Instr.extract v106 0) (fun v107 w => 
 oP Try.prog (Instr.extract v106 1) (fun v108 w => 
 oP Try.prog (Instr.extract v106 2) (fun v109 w => 
 k98 (v109, v107) w) w) w) w) w) w))
 (fun _ s99 w =>
 oV Try.prog (EP R) (Builtin.append_ #[69, 69] 69 #[s96.1, s99.2]) (fun v110 w => 
 oP Try.prog (bsem .neq 42 true s99.1 (.int .i64 11)) (fun v111 w => 
 oCond v111 (k93 v110 w)
 (oP Try.prog (bsem .add 3 true s96.2 (.int .i64 1)) (fun v112 w => 
 n95 (v110, v112) w) w)) w) w))
 (k93 s96.1 w)) w)
 ((.slice none 0 0), (.int .i64 0)) w)
 (fun _ s94 w =>
 oJoin (σ := Value) (fun k113 =>
 oCond x3 (oR Try.prog (Instr.loadAt 66 v1) (fun v115 w => 
 oC Try.prog (EP R) 25 #[v5, v115, (.int .i64 1000)] (fun v116 w => 
 oP Try.prog (Instr.extract v116 0) (fun v117 w => 
 oP Try.prog (Instr.extract v116 1) (fun v118 w => 
 oP Try.prog (Instr.extract v116 2) (fun v119 w => 
 k113 v117 w) w) w) w) w) w)
 (oR Try.prog (Instr.loadAt 66 v1) (fun v120 w => 
 oC Try.prog (EP R) 19 #[v5, v120, (.int .i64 1000)] (fun v121 w => 
 oP Try.prog (Instr.extract v121 0) (fun v122 w => 
 oP Try.prog (Instr.extract v121 1) (fun v123 w => 
 oP Try.prog (Instr.extract v121 2) (fun v124 w => 
 k113 v122 w) w) w) w) w) w))
 (fun _ s114 w =>
 oDraw (fun w => oC Try.prog (EP R) 29 #[s94, s114] (fun v125 w => 
 oP Try.prog (Op.unary .not v125) (fun v126 w => 
 oGk (gb false v126) (fun k w => k v4 w) (fun v127 w =>
 oGk (gb false v126) (oNil v127) (fun v128 w =>
 oGk (gb false v126) (oP Try.prog (Instr.fieldAt 63 v128 0)) (fun v129 w =>
 oGk (gb false v126) (oP Try.prog (Instr.fieldAt 60 v129 0)) (fun v130 w =>
 oGk (gb false v126) (fun k w => k v5 w) (fun v131 w =>
 oGk (gb false v126) (oNil v131) (fun v132 w =>
 oGk (gb false v126) (oP Try.prog (Instr.fieldAt 63 v132 0)) (fun v133 w =>
 oGk (gb false v126) (oP Try.prog (Instr.fieldAt 60 v133 0)) (fun v134 w =>
 oGk (gb false v126) (oR Try.prog (Instr.loadAt 58 v130)) (fun v135 w =>
 oGk (gb false v126) (oR Try.prog (Instr.loadAt 58 v134)) (fun v136 w =>
 oGk (gb false v126) (fun k w => oC Try.prog (EP R) 20 #[v135] (fun v w => oRd (gb false v126) Try.prog (Instr.loadAt 58 v134) v136 w ∧ k v w) w) (fun v137 w =>
 oGk (gb false v126) (oC Try.prog (EP R) 20 #[v136]) (fun v138 w =>
 oGk (gb false v126) (oC Try.prog (EP R) 30 #[v137, v138]) (fun v139 w =>
 oGk (gb false v126) (oP Try.prog (Op.unary .not v139)) (fun v140 w =>
 oPick v126 (.bool true) v140 (fun v141 w => 
 oCond v141 (R (.returned (.bool false)) w)
 (oLoop (σ := Value) (fun _ s143 n142 w =>
 oR Try.prog (Builtin.len_ #[69] 3 #[s44.1]) (fun v144 w => 
 oP Try.prog (bsem .lss 3 false s143 v144) (fun v145 w => 
 oCond v145 (oLoop (σ := Value × Value) (fun _ s147 n146 w =>
 oR Try.prog (Builtin.len_ #[69] 3 #[s94]) (fun v148 w => 
 oP Try.prog (bsem .lss 3 false s147.2 v148) (fun v149 w => 
 oCond v149 (oJoin (σ := Value) (fun k150 =>
 oDraw (fun w => oP Try.prog (Instr.indexAt 69 s94 s147.2) (fun v152 w => 
 oP Try.prog (Instr.fieldAt 68 v152 0) (fun v153 w => 
 oP Try.prog (Instr.indexAt 69 s44.1 s143) (fun v154 w => 
 oP Try.prog (Instr.fieldAt 68 v154 0) (fun v155 w => 
 oR Try.prog (Instr.loadAt 3 v153) (fun v156 w => 
 oR Try.prog (Instr.loadAt 3 v155) (fun v157 w => 
 oP Try.prog (bsem .eql 3 false v156 v157) (fun v158 w => 
 oGk (gb true v158) (fun k w => k s94 w) (fun v159 w =>
 oGk (gb true v158) (fun k w => k s147.2 w) (fun v160 w =>
 oGk (gb true v158) (oP Try.prog (Instr.indexAt 69 v159 v160)) (fun v161 w =>
 oGk (gb true v158) (oP Try.prog (Instr.fieldAt 68 v161 1)) (fun v162 w =>
 oGk (gb true v158) (fun k w => k s44.1 w) (fun v163 w =>
 oGk (gb true v158) (fun k w => k s143 w) (fun v164 w =>
 oGk (gb true v158) (oP Try.prog (Instr.indexAt 69 v163 v164)) (fun v165 w =>
 oGk (gb true v158) (oP Try.prog (Instr.fieldAt 68 v165 1)) (fun v166 w =>
 oGk (gb true v158) (oR Try.prog (Instr.loadAt 3 v162)) (fun v167 w =>
 oGk (gb true v158) (oR Try.prog (Instr.loadAt 3 v166)) (fun v168 w =>
 oGk (gb true v158) (oP Try.prog (bsem .eql 3 false v167 v168)) (fun v169 w =>
 oPick v158 v169 (.bool false) (fun v170 w => 
 oCond v170 (oP Try.prog (bsem .add 3 true s147.1 (.int .i64 1)) (fun v171 w => 
 k150 v171 w) w)
 (k150 s147.1 w)) w) w) w) w) w) w) w) w) w) w) w) w) w) w) w) w) w) w) w) w)
 (fun _ s151 w =>
 oP Try.prog (bsem .add 3 true s147.2 (.int .i64 1)) (fun v172 w => 
 n146 (s151, v172) w) w))
 (oDraw (fun w => oP Try.prog (bsem .eql 3 true s147.1 (.int .i64 1)) (fun v173 w => 
 oNil v4 (fun v174 w => 
 oP Try.prog (Instr.fieldAt 63 v174 0) (fun v175 w => 
 oP Try.prog (Instr.fieldAt 60 v175 0) (fun v176 w => 
 oP Try.prog (Instr.indexAt 69 s44.1 s143) (fun v177 w => 
 oP Try.prog (Instr.fieldAt 68 v177 0) (fun v178 w => 
 oP Try.prog (Instr.indexAt 69 s44.1 s143) (fun v179 w => 
 oP Try.prog (Instr.fieldAt 68 v179 1) (fun v180 w => 
 oR Try.prog (Instr.loadAt 58 v176) (fun v181 w => 
 oR Try.prog (Instr.loadAt 3 v178) (fun v182 w => 
 oR Try.prog (Instr.loadAt 3 v180) (fun v183 w => 
 oC Try.prog (EP R) 31 #[v181, v182, v183] (fun v184 w => 
 oP Try.prog (bsem .eql 3 true v184 (.int .i64 0)) (fun v185 w => 
 oP Try.prog (bsem .neq 4 false v173 v185) (fun v186 w => 
 oGk (gb false v186) (fun k w => k s147.1 w) (fun v187 w =>
 oGk (gb false v186) (oP Try.prog (bsem .gtr 3 true v187 (.int .i64 1))) (fun v188 w =>
 oPick v186 (.bool true) v188 (fun v189 w => 
 oCond v189 (R (.returned (.bool false)) w)
 (oP Try.prog (bsem .add 3 true s143 (.int .i64 1)) (fun v190 w => 
 n142 v190 w) w)) w) w) w) w) w) w) w) w) w) w) w) w) w) w) w) w) w) w)) w) w)
 ((.int .i64 0), (.int .i64 0)) w)
 (R (.returned (.bool true)) w)) w) w)
 (.int .i64 0) w)) w) w) w) w) w) w) w) w) w) w) w) w) w) w) w) w) w) w)))) w) w)
 ((.slice none 0 0), (.int .i64 0)) w) w) w) w) w) w) w)) w) w) w) w) w)) w) w) w) w) w) w)) w) w) w
theorem e_donjonlaw11_RevokeTells (x0 x1 x2 x3 : Value) (R : Ending → World → Prop) (w : World) : dFn Try.prog Try.f6 p_donjonlaw11_RevokeTells R [x0, x1, x2, x3] w = h_donjonlaw11_RevokeTells x0 x1 x2 x3 R w := by kernel_rfl
theorem c_donjonlaw11_RevokeTells {x0 x1 x2 x3 : Value} {R : Ending → World → Prop} {w : World} (h : h_donjonlaw11_RevokeTells x0 x1 x2 x3 R w) : Calls Try.prog 6 #[x0, x1, x2, x3] w R :=
  calls_of_dFn (by kernel_rfl) (by kernel_rfl) (by kernel_rfl : fnOk Try.prog Try.f6 p_donjonlaw11_RevokeTells 4 = true) ((e_donjonlaw11_RevokeTells x0 x1 x2 x3 R w).mpr h)

/-- donjon/donjonlaw11.RevokeOthers · l:0, at:1 -/
def p_donjonlaw11_RevokeOthers : Pl := .seq (.leaf) (.seq (.seq (.leaf) (.cond (.seq (.leaf) (.leaf)) (.leaf))) (.seq (.leaf) (.jseq [6, 7] [6, 7, 27, 28, 29, 30, 31, 32, 33, 34, 35, 36] (.reg (.split 6 10 (.leaf [0, 1, 2, 3, 4, 5, 6, 7, 8, 9, 10, 11, 12] [[], [0], [1], [2], [3], [], [4, 5], [6], [6, 7], [6, 7], [4, 5, 6], [4, 5, 6, 8, 10], [6, 9, 10, 11]]) (.leaf [0, 1, 2, 3, 4, 5, 10, 6, 7, 8, 9, 11, 12] [[], [0], [1], [2], [3], [], [4, 5, 10], [6, 10], [6, 7, 10], [6, 7, 10], [], [4, 5, 6, 8, 10], [6, 9, 10, 11]]))) (.seq (.seq (.leaf) (.cond (.seq (.leaf) (.leaf)) (.leaf))) (.seq (.leaf) (.seq (.leaf) (.seq (.leaf) (.seq (.seq (.leaf) (.block (.loop [11] [11, 12, 13, 54, 55, 56, 57, 58, 59, 60, 61, 62, 63, 64, 65, 66, 67, 68, 69, 70, 71, 72, 73, 74, 75, 76, 77, 78] (.seq (.seq (.leaf) (.cond (.leaf) (.leaf))) (.seq (.block (.jseq [12] [12, 13, 60, 61, 62, 63, 64, 65, 66, 67, 68, 69, 70, 71, 72] (.reg (.split 9 13 (.leaf [0, 1, 2, 3, 5, 6, 7, 4, 8, 9, 10, 11, 12, 13, 14, 15] [[], [0], [1], [2], [3], [], [], [5, 6], [7], [4, 8], [9], [9, 10], [9, 10], [4, 8, 9], [4, 8, 9, 11, 13], [9, 12, 13, 14]]) (.leaf [0, 1, 2, 3, 5, 6, 7, 4, 8, 13, 9, 10, 11, 12, 14, 15] [[], [0], [1], [2], [3], [], [], [5, 6], [7], [4, 8, 13], [9, 13], [9, 10, 13], [9, 10, 13], [], [4, 8, 9, 11, 13], [9, 12, 13, 14]]))) (.reg (.leaf [0, 1, 2, 3, 4, 5, 6] [[], [], [], [1, 2], [3], [], [0, 4, 5]])))) (.leaf)))))) (.seq (.leaf) (.seq (.seq (.leaf) (.block (.loop [17] [4, 17, 18, 19, 20, 21, 22, 86, 87, 88, 89, 90, 91, 92, 93, 94, 95, 96, 97, 98, 99, 100, 101, 102, 103, 104, 105, 106, 107, 108, 109, 110, 111, 112, 113, 114, 115, 116, 117, 118, 119, 120, 121, 122, 123, 124, 125, 126, 127, 128, 129, 130, 131, 132, 133, 134, 135, 136, 137, 138, 139, 140, 141, 142, 143, 144, 145, 146, 147, 148, 149, 150, 151, 152, 153, 154, 155, 156, 157, 158, 159, 160, 161, 162, 163, 164, 165, 166] (.seq (.seq (.leaf) (.cond (.leaf) (.leaf))) (.seq (.block (.seq (.leaf) (.seq (.seq (.leaf) (.block (.loop [18, 19] [18, 19, 92, 93, 94, 95, 96, 97, 98, 99, 100, 101, 102, 103, 104, 105, 106, 107, 108, 109] (.seq (.seq (.leaf) (.cond (.leaf) (.leaf))) (.seq (.block (.reg (.leaf [0, 1, 2, 3, 4, 6, 7, 8, 5, 9, 10, 11, 12] [[], [0], [1], [1], [1, 2, 3], [1, 4], [1], [1], [1, 6, 7], [1, 8], [1, 5, 9], [1, 10], [0, 10, 11]]))) (.leaf)))))) (.seq (.seq (.leaf) (.block (.loop [18, 20] [18, 20, 110, 111, 112, 113, 114, 115, 116, 117, 118, 119, 120, 121, 122, 123, 124, 125, 126, 127, 128, 129, 130, 131, 132, 133, 134, 135, 136, 137] (.seq (.seq (.leaf) (.cond (.leaf) (.leaf))) (.seq (.block (.reg (.leaf [0, 1, 2, 3, 4, 5, 6, 7, 8, 9, 10, 11, 12, 14, 15, 16, 17, 13, 18, 19, 20, 21, 22] [[], [0], [1], [1], [1, 2, 3], [1, 4], [1, 5], [1, 6], [1, 7], [8], [8], [8, 9, 10], [8, 11], [8, 12], [8], [8], [8, 14, 15], [8, 16], [8, 17], [8, 13, 18], [1, 8, 19], [1, 20], [0, 21]]))) (.leaf)))))) (.jseq [21, 22] [21, 22, 138, 139, 140, 141, 142, 143, 144, 145, 146, 147, 148, 149, 150] (.reg (.split 9 13 (.leaf [0, 1, 2, 3, 5, 6, 7, 4, 8, 9, 10, 11, 12, 13, 14, 15] [[], [0], [1], [2], [3], [], [], [5, 6], [7], [4, 8], [9], [9, 10], [9, 10], [4, 8, 9], [4, 8, 9, 11, 13], [9, 12, 13, 14]]) (.leaf [0, 1, 2, 3, 5, 6, 7, 4, 8, 13, 9, 10, 11, 12, 14, 15] [[], [0], [1], [2], [3], [], [], [5, 6], [7], [4, 8, 13], [9, 13], [9, 10, 13], [9, 10, 13], [], [4, 8, 9, 11, 13], [9, 12, 13, 14]]))) (.seq (.reg (.leaf [0, 1, 2, 3, 4, 5, 7, 8, 9, 10, 6, 11, 12, 13, 14, 15] [[], [0], [1], [2], [2, 3], [2, 4], [5], [5], [5], [5], [5, 8, 9], [5, 10], [5, 7, 11], [5, 6, 11, 12], [2, 5, 13], [2, 13, 14]])) (.cond (.seq (.leaf) (.leaf)) (.leaf)))))))) (.leaf)))))) (.seq (.leaf) (.leaf))))))))))))
def h_donjonlaw11_RevokeOthers (x0 x1 : Value) (R : Ending → World → Prop) (w : World) : Prop :=
 oV Try.prog (EP R) (Instr.box 66 x1) (fun v1 w => 
 oC Try.prog (EP R) 15 #[] (fun v2 w => 
 oP Try.prog (Op.unary .not v2) (fun v3 w => 
 oCond v3 (R (.returned (.bool false)) w)
 (oC Try.prog (EP R) 27 #[x0] (fun v4 w => 
 oJoin (σ := Value × Value) (fun k5 =>
 oDraw (fun w => (oNil v4 (fun v7 w => 
 oP Try.prog (Instr.fieldAt 63 v7 0) (fun v8 w => 
 oP Try.prog (Instr.fieldAt 60 v8 0) (fun v9 w => 
 oR Try.prog (Instr.loadAt 58 v9) (fun v10 w => 
 oR Try.prog (Instr.loadAt 66 v1) (fun v11 w => 
 oC Try.prog (EP R) 28 #[v10, v11] (fun v12 w => 
 oP Try.prog (Instr.extract v12 0) (fun v13 w => 
 oP Try.prog (Instr.extract v12 1) (fun v14 w => 
 oV Try.prog (EP R) (Instr.alloc 68 true (.tuple #[])) (fun v15 w => 
 oS Try.prog (EP R) (Instr.storeAt 68 v15 v13) (fun v16 w => 
 k5 (v15, v14) w) w) w) w) w) w) w) w) w) w) w) ∧ (oNil v4 (fun v17 w => 
 oP Try.prog (Instr.fieldAt 63 v17 0) (fun v18 w => 
 oP Try.prog (Instr.fieldAt 60 v18 0) (fun v19 w => 
 oR Try.prog (Instr.loadAt 58 v19) (fun v20 w => 
 oR Try.prog (Instr.loadAt 66 v1) (fun v21 w => 
 oV Try.prog (EP R) (Instr.alloc 68 true (.tuple #[])) (fun v22 w => oRd true Try.prog (Instr.loadAt 66 v1) v21 w ∧ oRd true Try.prog (Instr.loadAt 58 v19) v20 w ∧ 
 oC Try.prog (EP R) 28 #[v20, v21] (fun v23 w => 
 oP Try.prog (Instr.extract v23 0) (fun v24 w => 
 oP Try.prog (Instr.extract v23 1) (fun v25 w => 
 oS Try.prog (EP R) (Instr.storeAt 68 v22 v24) (fun v26 w => 
 k5 (v22, v25) w) w) w) w) w) w) w) w) w) w) w)) w)
 (fun _ s6 w =>
 oP Try.prog (bsem .neq 42 true s6.2 (.int .i64 0)) (fun v27 w => 
 oGk (gb false v27) (oP Try.prog (Instr.fieldAt 68 s6.1 0)) (fun v28 w =>
 oGk (gb false v27) (oR Try.prog (Instr.loadAt 3 v28)) (fun v29 w =>
 oGk (gb false v27) (oP Try.prog (bsem .eql 3 true v29 (.int .i64 0))) (fun v30 w =>
 oPick v27 (.bool true) v30 (fun v31 w => 
 oCond v31 (R (.returned (.bool true)) w)
 (oR Try.prog (Instr.loadAt 66 v1) (fun v32 w => 
 oC Try.prog (EP R) 32 #[v4, v32] (fun v33 w => 
 oNil v4 (fun v34 w => 
 oP Try.prog (Instr.fieldAt 63 v34 0) (fun v35 w => 
 oP Try.prog (Instr.fieldAt 60 v35 0) (fun v36 w => 
 oR Try.prog (Instr.loadAt 58 v36) (fun v37 w => 
 oC Try.prog (EP R) 20 #[v37] (fun v38 w => 
 oV Try.prog (EP R) (Instr.makeMap 90 none) (fun v39 w => 
 oLoop (σ := Value) (fun _ s41 n40 w =>
 oR Try.prog (Builtin.len_ #[72] 3 #[v38]) (fun v42 w => 
 oP Try.prog (bsem .lss 3 false s41 v42) (fun v43 w => 
 oCond v43 (oJoin (σ := Value) (fun k44 =>
 oDraw (fun w => (oNil v4 (fun v46 w => 
 oP Try.prog (Instr.fieldAt 63 v46 0) (fun v47 w => 
 oP Try.prog (Instr.fieldAt 60 v47 0) (fun v48 w => 
 oP Try.prog (Instr.indexAt 72 v38 s41) (fun v49 w => 
 oR Try.prog (Instr.loadAt 58 v48) (fun v50 w => 
 oR Try.prog (Instr.loadAt 66 v49) (fun v51 w => 
 oC Try.prog (EP R) 28 #[v50, v51] (fun v52 w => 
 oP Try.prog (Instr.extract v52 0) (fun v53 w => 
 oP Try.prog (Instr.extract v52 1) (fun v54 w => 
 oV Try.prog (EP R) (Instr.alloc 68 true (.tuple #[])) (fun v55 w => 
 oS Try.prog (EP R) (Instr.storeAt 68 v55 v53) (fun v56 w => 
 k44 v55 w) w) w) w) w) w) w) w) w) w) w) w) ∧ (oNil v4 (fun v57 w => 
 oP Try.prog (Instr.fieldAt 63 v57 0) (fun v58 w => 
 oP Try.prog (Instr.fieldAt 60 v58 0) (fun v59 w => 
 oP Try.prog (Instr.indexAt 72 v38 s41) (fun v60 w => 
 oR Try.prog (Instr.loadAt 58 v59) (fun v61 w => 
 oR Try.prog (Instr.loadAt 66 v60) (fun v62 w => 
 oV Try.prog (EP R) (Instr.alloc 68 true (.tuple #[])) (fun v63 w => oRd true Try.prog (Instr.loadAt 66 v60) v62 w ∧ oRd true Try.prog (Instr.loadAt 58 v59) v61 w ∧ 
 oC Try.prog (EP R) 28 #[v61, v62] (fun v64 w => 
 oP Try.prog (Instr.extract v64 0) (fun v65 w => 
 oP Try.prog (Instr.extract v64 1) (fun v66 w => 
 oS Try.prog (EP R) (Instr.storeAt 68 v63 v65) (fun v67 w => 
 k44 v63 w) w) w) w) w) w) w) w) w) w) w) w)) w)
 (fun _ s45 w =>
 oDraw (fun w => oP Try.prog (Instr.indexAt 72 v38 s41) (fun v68 w => 
 oR Try.prog (Instr.loadAt 66 v68) (fun v69 w => 
 oR Try.prog (Instr.loadAt 68 s45) (fun v70 w => 
 oS Try.prog (EP R) (Instr.mapUpdate 90 v39 v69 v70) (fun v71 w => 
 oP Try.prog (bsem .add 3 true s41 (.int .i64 1)) (fun v72 w => 
 n40 v72 w) w) w) w) w) w) w))
 (oR Try.prog (Instr.loadAt 66 v1) (fun v73 w => 
 oC Try.prog (EP R) 25 #[v4, v73, (.int .i64 1000)] (fun v74 w => 
 oP Try.prog (Instr.extract v74 0) (fun v75 w => 
 oP Try.prog (Instr.extract v74 1) (fun v76 w => 
 oP Try.prog (Instr.extract v74 2) (fun v77 w => 
 oLoop (σ := Value) (fun _ s79 n78 w =>
 oR Try.prog (Builtin.len_ #[72] 3 #[v38]) (fun v80 w => 
 oP Try.prog (bsem .lss 3 false s79 v80) (fun v81 w => 
 oCond v81 (oLoop (σ := Value × Value) (fun _ s83 n82 w =>
 oR Try.prog (Builtin.len_ #[72] 3 #[v33]) (fun v84 w => 
 oP Try.prog (bsem .lss 3 false s83.2 v84) (fun v85 w => 
 oCond v85 (oDraw (fun w => oGk (gb false s83.1) (fun k w => k v33 w) (fun v86 w =>
 oGk (gb false s83.1) (fun k w => k s83.2 w) (fun v87 w =>
 oGk (gb false s83.1) (oP Try.prog (Instr.indexAt 72 v86 v87)) (fun v88 w =>
 oGk (gb false s83.1) (fun k w => k v38 w) (fun v89 w =>
 oGk (gb false s83.1) (fun k w => k s79 w) (fun v90 w =>
 oGk (gb false s83.1) (oP Try.prog (Instr.indexAt 72 v89 v90)) (fun v91 w =>
 oGk (gb false s83.1) (oR Try.prog (Instr.loadAt 66 v88)) (fun v92 w =>
 oGk (gb false s83.1) (oR Try.prog (Instr.loadAt 66 v91)) (fun v93 w =>
 oGk (gb false s83.1) (oV Try.prog (EP R) (bsem .eql 66 false v92 v93)) (fun v94 w =>
 oPick s83.1 (.bool true) v94 (fun v95 w => 
 oP Try.prog (bsem .add 3 true s83.2 (.int .i64 1)) (fun v96 w => 
 n82 (v95, v96) w) w) w) w) w) w) w) w) w) w) w) w) w)
 (oLoop (σ := Value × Value) (fun _ s98 n97 w =>
 oR Try.prog (Builtin.len_ #[69] 3 #[v75]) (fun v99 w => 
 oP Try.prog (bsem .lss 3 false s98.2 v99) (fun v100 w => 
 oCond v100 (oDraw (fun w => oGk (gb false s98.1) (fun k w => k v75 w) (fun v101 w =>
 oGk (gb false s98.1) (fun k w => k s98.2 w) (fun v102 w =>
 oGk (gb false s98.1) (oP Try.prog (Instr.indexAt 69 v101 v102)) (fun v103 w =>
 oGk (gb false s98.1) (oP Try.prog (Instr.fieldAt 68 v103 0)) (fun v104 w =>
 oGk (gb false s98.1) (oR Try.prog (Instr.loadAt 3 v104)) (fun v105 w =>
 oGk (gb false s98.1) (oP Try.prog (bsem .eql 3 true v105 (.int .i64 2))) (fun v106 w =>
 oGk (gb false s98.1) (fun k w => k v106 w) (fun v107 w =>
 oGk (gb true v107) (fun k w => k v75 w) (fun v108 w =>
 oGk (gb true v107) (fun k w => k s98.2 w) (fun v109 w =>
 oGk (gb true v107) (oP Try.prog (Instr.indexAt 69 v108 v109)) (fun v110 w =>
 oGk (gb true v107) (oP Try.prog (Instr.fieldAt 68 v110 1)) (fun v111 w =>
 oGk (gb true v107) (fun k w => k v38 w) (fun v112 w =>
 oGk (gb true v107) (fun k w => k s79 w) (fun v113 w =>
 oGk (gb true v107) (oP Try.prog (Instr.indexAt 72 v112 v113)) (fun v114 w =>
 oGk (gb true v107) (oP Try.prog (Instr.fieldAt 66 v114 0)) (fun v115 w =>
 oGk (gb true v107) (oR Try.prog (Instr.loadAt 3 v111)) (fun v116 w =>
 oGk (gb true v107) (oR Try.prog (Instr.loadAt 3 v115)) (fun v117 w =>
 oGk (gb true v107) (oP Try.prog (bsem .eql 3 false v116 v117)) (fun v118 w =>
 oGk (gb false s98.1) (oPick v107 v118 (.bool false)) (fun v119 w =>
 oPick s98.1 (.bool true) v119 (fun v120 w => 
 oP Try.prog (bsem .add 3 true s98.2 (.int .i64 1)) (fun v121 w => 
 n97 (v120, v121) w) w) w) w) w) w) w) w) w) w) w) w) w) w) w) w) w) w) w) w) w) w) w)
 (oJoin (σ := Value × Value) (fun k122 =>
 oDraw (fun w => (oNil v4 (fun v124 w => 
 oP Try.prog (Instr.fieldAt 63 v124 0) (fun v125 w => 
 oP Try.prog (Instr.fieldAt 60 v125 0) (fun v126 w => 
 oP Try.prog (Instr.indexAt 72 v38 s79) (fun v127 w => 
 oR Try.prog (Instr.loadAt 58 v126) (fun v128 w => 
 oR Try.prog (Instr.loadAt 66 v127) (fun v129 w => 
 oC Try.prog (EP R) 28 #[v128, v129] (fun v130 w => 
 oP Try.prog (Instr.extract v130 0) (fun v131 w => 
 oP Try.prog (Instr.extract v130 1) (fun v132 w => 
 oV Try.prog (EP R) (Instr.alloc 68 true (.tuple #[])) (fun v133 w => 
 oS Try.prog (EP R) (Instr.storeAt 68 v133 v131) (fun v134 w => 
 k122 (v133, v132) w) w) w) w) w) w) w) w) w) w) w) w) ∧ (oNil v4 (fun v135 w => 
 oP Try.prog (Instr.fieldAt 63 v135 0) (fun v136 w => 
 oP Try.prog (Instr.fieldAt 60 v136 0) (fun v137 w => 
 oP Try.prog (Instr.indexAt 72 v38 s79) (fun v138 w => 
 oR Try.prog (Instr.loadAt 58 v137) (fun v139 w => 
 oR Try.prog (Instr.loadAt 66 v138) (fun v140 w => 
 oV Try.prog (EP R) (Instr.alloc 68 true (.tuple #[])) (fun v141 w => oRd true Try.prog (Instr.loadAt 66 v138) v140 w ∧ oRd true Try.prog (Instr.loadAt 58 v137) v139 w ∧ 
 oC Try.prog (EP R) 28 #[v139, v140] (fun v142 w => 
 oP Try.prog (Instr.extract v142 0) (fun v143 w => 
 oP Try.prog (Instr.extract v142 1) (fun v144 w => 
 oS Try.prog (EP R) (Instr.storeAt 68 v141 v143) (fun v145 w => 
 k122 (v141, v144) w) w) w) w) w) w) w) w) w) w) w) w)) w)
 (fun _ s123 w =>
 oDraw (fun w => oP Try.prog (Op.unary .not s98.1) (fun v146 w => 
 oGk (gb true v146) (fun k w => k s123.2 w) (fun v147 w =>
 oGk (gb true v146) (oP Try.prog (bsem .neq 42 true v147 (.int .i64 0))) (fun v148 w =>
 oGk (gb true v146) (fun k w => k v148 w) (fun v149 w =>
 oGk (gb false v149) (fun k w => k v39 w) (fun v150 w =>
 oGk (gb false v149) (fun k w => k v38 w) (fun v151 w =>
 oGk (gb false v149) (fun k w => k s79 w) (fun v152 w =>
 oGk (gb false v149) (oP Try.prog (Instr.indexAt 72 v151 v152)) (fun v153 w =>
 oGk (gb false v149) (oR Try.prog (Instr.loadAt 68 s123.1)) (fun v154 w =>
 oGk (gb false v149) (oR Try.prog (Instr.loadAt 66 v153)) (fun v155 w =>
 oGk (gb false v149) (oR Try.prog (Instr.lookup 90 v150 v155 false)) (fun v156 w =>
 oGk (gb false v149) (oV Try.prog (EP R) (bsem .neq 68 false v154 v156)) (fun v157 w =>
 oGk (gb true v146) (oPick v149 (.bool true) v157) (fun v158 w =>
 oPick v146 v158 (.bool false) (fun v159 w => 
 oCond v159 (R (.returned (.bool false)) w)
 (oP Try.prog (bsem .add 3 true s79 (.int .i64 1)) (fun v160 w => 
 n78 v160 w) w)) w) w) w) w) w) w) w) w) w) w) w) w) w) w) w))) w) w)
 (s83.1, (.int .i64 0)) w)) w) w)
 ((.bool false), (.int .i64 0)) w)
 (R (.returned (.bool true)) w)) w) w)
 (.int .i64 0) w) w) w) w) w) w)) w) w)
 (.int .i64 0) w) w) w) w) w) w) w) w) w)) w) w) w) w) w)) w)) w) w) w
theorem e_donjonlaw11_RevokeOthers (x0 x1 : Value) (R : Ending → World → Prop) (w : World) : dFn Try.prog Try.f7 p_donjonlaw11_RevokeOthers R [x0, x1] w = h_donjonlaw11_RevokeOthers x0 x1 R w := by kernel_rfl
theorem c_donjonlaw11_RevokeOthers {x0 x1 : Value} {R : Ending → World → Prop} {w : World} (h : h_donjonlaw11_RevokeOthers x0 x1 R w) : Calls Try.prog 7 #[x0, x1] w R :=
  calls_of_dFn (by kernel_rfl) (by kernel_rfl) (by kernel_rfl : fnOk Try.prog Try.f7 p_donjonlaw11_RevokeOthers 2 = true) ((e_donjonlaw11_RevokeOthers x0 x1 R w).mpr h)

/-- donjon/donjonlaw11.works ·  -/
def p_donjonlaw11_works : Pl := .seq (.leaf) (.seq (.leaf) (.seq (.seq (.leaf) (.cond (.seq (.leaf) (.leaf)) (.leaf))) (.seq (.leaf) (.seq (.reg (.leaf [0, 2, 1, 3] [[], [], [], [0, 1, 2]])) (.seq (.leaf) (.seq (.leaf) (.seq (.seq (.leaf) (.cond (.seq (.leaf) (.leaf)) (.leaf))) (.seq (.leaf) (.seq (.leaf) (.seq (.seq (.leaf) (.cond (.seq (.leaf) (.leaf)) (.leaf))) (.seq (.leaf) (.seq (.leaf) (.leaf)))))))))))))
def h_donjonlaw11_works (R : Ending → World → Prop) (w : World) : Prop :=
 oC Try.prog (EP R) 16 #[] (fun v1 w => 
 oP Try.prog (bsem .eql 55 true v1 (.pointer none)) (fun v2 w => 
 oGk (gb false v2) (fun k w => k v1 w) (fun v3 w =>
 oGk (gb false v2) (oNil v3) (fun v4 w =>
 oGk (gb false v2) (oP Try.prog (Instr.fieldAt 63 v4 0)) (fun v5 w =>
 oGk (gb false v2) (oR Try.prog (Instr.loadAt 60 v5)) (fun v6 w =>
 oGk (gb false v2) (oC Try.prog (EP R) 17 #[v6, (.int .i64 0), (.int .i64 3)]) (fun v7 w =>
 oGk (gb false v2) (oP Try.prog (bsem .neq 42 true v7 (.int .i64 0))) (fun v8 w =>
 oPick v2 (.bool true) v8 (fun v9 w => 
 oCond v9 (R (.returned (.bool false)) w)
 (oP Try.prog (Instr.build 68 #[(0, (.int .i64 6)), (1, (.int .i64 9)), (2, (.int .i64 3))]) (fun v10 w => 
 oV Try.prog (EP R) (Instr.alloc 68 true (.tuple #[])) (fun v11 w => 
 oS Try.prog (EP R) (Instr.storeAt 68 v11 v10) (fun v12 w => 
 oDraw (fun w => oR Try.prog (Instr.loadAt 68 v11) (fun v13 w => 
 oC Try.prog (EP R) 22 #[(.int .i64 0)] (fun v14 w => oRd true Try.prog (Instr.loadAt 68 v11) v13 w ∧ 
 oC Try.prog (EP R) 18 #[v1, v14, v13] (fun v15 w => 
 oC Try.prog (EP R) 22 #[(.int .i64 0)] (fun v16 w => 
 oC Try.prog (EP R) 22 #[(.int .i64 1)] (fun v17 w => 
 oC Try.prog (EP R) 23 #[v1, v16, v17, (.int .i64 3)] (fun v18 w => 
 oC Try.prog (EP R) 22 #[(.int .i64 1)] (fun v19 w => 
 oC Try.prog (EP R) 22 #[(.int .i64 2)] (fun v20 w => 
 oC Try.prog (EP R) 23 #[v1, v19, v20, (.int .i64 1)] (fun v21 w => 
 oC Try.prog (EP R) 22 #[(.int .i64 0)] (fun v22 w => 
 oC Try.prog (EP R) 24 #[v1, v22] (fun v23 w => 
 oCond v23 (R (.returned (.bool false)) w)
 (oC Try.prog (EP R) 22 #[(.int .i64 0)] (fun v24 w => 
 oC Try.prog (EP R) 25 #[v1, v24, (.int .i64 1)] (fun v25 w => 
 oP Try.prog (Instr.extract v25 0) (fun v26 w => 
 oP Try.prog (Instr.extract v25 1) (fun v27 w => 
 oP Try.prog (Instr.extract v25 2) (fun v28 w => 
 oC Try.prog (EP R) 22 #[(.int .i64 0)] (fun v29 w => 
 oC Try.prog (EP R) 25 #[v1, v29, (.int .i64 1)] (fun v30 w => 
 oP Try.prog (Instr.extract v30 0) (fun v31 w => 
 oP Try.prog (Instr.extract v30 1) (fun v32 w => 
 oP Try.prog (Instr.extract v30 2) (fun v33 w => 
 oGk (gb false v27) (fun k w => k v28 w) (fun v34 w =>
 oGk (gb false v27) (oP Try.prog (bsem .neq 42 true v34 (.int .i64 11))) (fun v35 w =>
 oPick v27 (.bool true) v35 (fun v36 w => 
 oGk (gb false v36) (fun k w => k v32 w) (fun v37 w =>
 oGk (gb false v36) (oP Try.prog (Op.unary .not v37)) (fun v38 w =>
 oPick v36 (.bool true) v38 (fun v39 w => 
 oGk (gb false v39) (fun k w => k v33 w) (fun v40 w =>
 oGk (gb false v39) (oP Try.prog (bsem .neq 42 true v40 (.int .i64 0))) (fun v41 w =>
 oPick v39 (.bool true) v41 (fun v42 w => 
 oGk (gb false v42) (fun k w => k v1 w) (fun v43 w =>
 oGk (gb false v42) (oC Try.prog (EP R) 22 #[(.int .i64 0)]) (fun v44 w =>
 oGk (gb false v42) (oC Try.prog (EP R) 24 #[v43, v44]) (fun v45 w =>
 oGk (gb false v42) (oP Try.prog (Op.unary .not v45)) (fun v46 w =>
 oPick v42 (.bool true) v46 (fun v47 w => 
 oCond v47 (R (.returned (.bool false)) w)
 (oC Try.prog (EP R) 22 #[(.int .i64 0)] (fun v48 w => 
 oC Try.prog (EP R) 19 #[v1, v48, (.int .i64 9)] (fun v49 w => 
 oP Try.prog (Instr.extract v49 0) (fun v50 w => 
 oP Try.prog (Instr.extract v49 1) (fun v51 w => 
 oP Try.prog (Instr.extract v49 2) (fun v52 w => 
 oR Try.prog (Instr.loadAt 68 v11) (fun v53 w => 
 oV Try.prog (EP R) (Instr.buildSlice 69 1 #[(0, v53)]) (fun v54 w => 
 oC Try.prog (EP R) 29 #[v50, v54] (fun v55 w => 
 oGk (gb true v55) (fun k w => k v51 w) (fun v56 w =>
 oPick v55 v56 (.bool false) (fun v57 w => 
 oGk (gb true v57) (fun k w => k v52 w) (fun v58 w =>
 oGk (gb true v57) (oP Try.prog (bsem .eql 42 true v58 (.int .i64 0))) (fun v59 w =>
 oPick v57 v59 (.bool false) (fun v60 w => 
 oGk (gb true v60) (fun k w => k v1 w) (fun v61 w =>
 oGk (gb true v60) (oNil v61) (fun v62 w =>
 oGk (gb true v60) (oP Try.prog (Instr.fieldAt 63 v62 0)) (fun v63 w =>
 oGk (gb true v60) (oP Try.prog (Instr.fieldAt 60 v63 0)) (fun v64 w =>
 oGk (gb true v60) (oR Try.prog (Instr.loadAt 58 v64)) (fun v65 w =>
 oGk (gb true v60) (oC Try.prog (EP R) 20 #[v65]) (fun v66 w =>
 oGk (gb true v60) (oR Try.prog (Builtin.len_ #[72] 3 #[v66])) (fun v67 w =>
 oGk (gb true v60) (oP Try.prog (bsem .eql 3 true v67 (.int .i64 0))) (fun v68 w =>
 oPick v60 v68 (.bool false) (fun v69 w => 
 R (.returned v69) w) w) w) w) w) w) w) w) w) w) w) w) w) w) w) w) w) w) w) w) w) w) w)) w) w) w) w) w) w) w) w) w) w) w) w) w) w) w) w) w) w) w) w) w) w) w) w)) w) w) w) w) w) w) w) w) w) w) w) w) w) w) w)) w) w) w) w) w) w) w) w) w
theorem e_donjonlaw11_works (R : Ending → World → Prop) (w : World) : dFn Try.prog Try.f15 p_donjonlaw11_works R [] w = h_donjonlaw11_works  R w := by kernel_rfl
theorem c_donjonlaw11_works {R : Ending → World → Prop} {w : World} (h : h_donjonlaw11_works  R w) : Calls Try.prog 15 #[] w R :=
  calls_of_dFn (by kernel_rfl) (by kernel_rfl) (by kernel_rfl : fnOk Try.prog Try.f15 p_donjonlaw11_works 0 = true) ((e_donjonlaw11_works  R w).mpr h)

/-- donjon/moves.New ·  -/
def p_moves_New : Pl := .seq (.leaf) (.seq (.leaf) (.leaf))
def h_moves_New (R : Ending → World → Prop) (w : World) : Prop :=
 oC Try.prog (EP R) 43 #[] (fun v1 w => 
 oP Try.prog (Instr.build 60 #[(0, v1)]) (fun v2 w => 
 oC Try.prog (EP R) 44 #[] (fun v3 w => 
 oP Try.prog (Instr.build 63 #[(0, v2), (1, v3)]) (fun v4 w => 
 oV Try.prog (EP R) (Instr.box 63 v4) (fun v5 w => 
 R (.returned v5) w) w) w) w) w) w
theorem e_moves_New (R : Ending → World → Prop) (w : World) : dFn Try.prog Try.f16 p_moves_New R [] w = h_moves_New  R w := by kernel_rfl
theorem c_moves_New {R : Ending → World → Prop} {w : World} (h : h_moves_New  R w) : Calls Try.prog 16 #[] w R :=
  calls_of_dFn (by kernel_rfl) (by kernel_rfl) (by kernel_rfl : fnOk Try.prog Try.f16 p_moves_New 0 = true) ((e_moves_New  R w).mpr h)

/-- (donjon/moves.store).Node · s:0, id:1, radix:2 -/
def p_moves_store_Node : Pl := .seq (.leaf) (.seq (.leaf) (.leaf))
def h_moves_store_Node (x0 x1 x2 : Value) (R : Ending → World → Prop) (w : World) : Prop :=
 oV Try.prog (EP R) (Instr.box 60 x0) (fun v1 w => 
 oP Try.prog (Instr.fieldAt 60 v1 0) (fun v2 w => 
 oR Try.prog (Instr.loadAt 58 v2) (fun v3 w => 
 oC Try.prog (EP R) 45 #[v3, x1, x2] (fun v4 w => 
 R (.returned v4) w) w) w) w) w
theorem e_moves_store_Node (x0 x1 x2 : Value) (R : Ending → World → Prop) (w : World) : dFn Try.prog Try.f17 p_moves_store_Node R [x0, x1, x2] w = h_moves_store_Node x0 x1 x2 R w := by kernel_rfl
theorem c_moves_store_Node {x0 x1 x2 : Value} {R : Ending → World → Prop} {w : World} (h : h_moves_store_Node x0 x1 x2 R w) : Calls Try.prog 17 #[x0, x1, x2] w R :=
  calls_of_dFn (by kernel_rfl) (by kernel_rfl) (by kernel_rfl : fnOk Try.prog Try.f17 p_moves_store_Node 3 = true) ((e_moves_store_Node x0 x1 x2 R w).mpr h)

/-- (*donjon/moves.Caps).Plant · c:0, at:1, x:2 -/
def p_moves_Caps_Plant : Pl := .seq (.leaf) (.seq (.reg (.leaf [0, 1, 2, 3, 4, 5, 6, 7, 8] [[], [0], [1], [2], [3], [], [], [4, 5, 6], [7]])) (.seq (.seq (.leaf) (.cond (.reg (.leaf [0, 1, 2, 3, 4, 5] [[], [0], [1], [2], [], [3, 4]])) (.leaf))) (.seq (.leaf) (.leaf))))
def h_moves_Caps_Plant (x0 x1 x2 : Value) (R : Ending → World → Prop) (w : World) : Prop :=
 oV Try.prog (EP R) (Instr.box 66 x1) (fun v1 w => 
 oV Try.prog (EP R) (Instr.box 68 x2) (fun v2 w => 
 oDraw (fun w => oNil x0 (fun v3 w => 
 oP Try.prog (Instr.fieldAt 63 v3 0) (fun v4 w => 
 oP Try.prog (Instr.fieldAt 60 v4 0) (fun v5 w => 
 oR Try.prog (Instr.loadAt 58 v5) (fun v6 w => 
 oR Try.prog (Instr.loadAt 66 v1) (fun v7 w => 
 oR Try.prog (Instr.loadAt 68 v2) (fun v8 w => 
 oC Try.prog (EP R) 46 #[v6, v7, v8] (fun v9 w => 
 oP Try.prog (bsem .eql 42 true v9 (.int .i64 0)) (fun v10 w => 
 oCond v10 (oDraw (fun w => oNil x0 (fun v11 w => 
 oP Try.prog (Instr.fieldAt 63 v11 1) (fun v12 w => 
 oR Try.prog (Instr.loadAt 61 v12) (fun v13 w => 
 oR Try.prog (Instr.loadAt 66 v1) (fun v14 w => 
 oC Try.prog (EP R) 47 #[v13, v14] (fun v15 w => 
 R (.returned v9) w) w) w) w) w) w) w)
 (R (.returned v9) w)) w) w) w) w) w) w) w) w) w) w) w
theorem e_moves_Caps_Plant (x0 x1 x2 : Value) (R : Ending → World → Prop) (w : World) : dFn Try.prog Try.f18 p_moves_Caps_Plant R [x0, x1, x2] w = h_moves_Caps_Plant x0 x1 x2 R w := by kernel_rfl
theorem c_moves_Caps_Plant {x0 x1 x2 : Value} {R : Ending → World → Prop} {w : World} (h : h_moves_Caps_Plant x0 x1 x2 R w) : Calls Try.prog 18 #[x0, x1, x2] w R :=
  calls_of_dFn (by kernel_rfl) (by kernel_rfl) (by kernel_rfl : fnOk Try.prog Try.f18 p_moves_Caps_Plant 3 = true) ((e_moves_Caps_Plant x0 x1 x2 R w).mpr h)

/-- donjon/revoke.Delete · c:0, at:1, steps:2 -/
def p_revoke_Delete : Pl := .seq (.leaf) (.seq (.seq (.leaf) (.seq (.leaf) (.cond (.seq (.leaf) (.leaf)) (.leaf)))) (.seq (.leaf) (.seq (.leaf) (.seq (.leaf) (.leaf)))))
def h_revoke_Delete (x0 x1 x2 : Value) (R : Ending → World → Prop) (w : World) : Prop :=
 oV Try.prog (EP R) (Instr.box 66 x1) (fun v1 w => 
 oR Try.prog (Instr.loadAt 66 v1) (fun v2 w => 
 oC Try.prog (EP R) 48 #[x0, v2, x2] (fun v3 w => 
 oP Try.prog (bsem .neq 42 true v3 (.int .i64 0)) (fun v4 w => 
 oCond v4 (R (.returned (.tuple #[(.slice none 0 0), (.bool false), v3])) w)
 (oP Try.prog (Instr.build 143 #[(0, x0), (1, x2)]) (fun v5 w => 
 oV Try.prog (EP R) (Instr.box 143 v5) (fun v6 w => 
 oV Try.prog (EP R) (Instr.alloc 141 true (.tuple #[])) (fun v7 w => 
 oS Try.prog (EP R) (Instr.storeAt 141 v7 v6) (fun v8 w => 
 oR Try.prog (Instr.loadAt 141 v7) (fun v9 w => 
 oC Try.prog (EP R) 49 #[v9, (.func (.func 50) #[] #[v7, v1])] (fun v10 w => 
 oP Try.prog (Instr.extract v10 0) (fun v11 w => 
 oP Try.prog (Instr.extract v10 1) (fun v12 w => 
 oR Try.prog (Instr.loadAt 141 v7) (fun v13 w => 
 oNil v13 (fun v14 w => 
 oP Try.prog (Instr.fieldAt 143 v14 2) (fun v15 w => 
 oR Try.prog (Instr.loadAt 69 v15) (fun v16 w => 
 R (.returned (.tuple #[v16, v11, v12])) w) w) w) w) w) w) w) w) w) w) w) w) w)) w) w) w) w
theorem e_revoke_Delete (x0 x1 x2 : Value) (R : Ending → World → Prop) (w : World) : dFn Try.prog Try.f19 p_revoke_Delete R [x0, x1, x2] w = h_revoke_Delete x0 x1 x2 R w := by kernel_rfl
theorem c_revoke_Delete {x0 x1 x2 : Value} {R : Ending → World → Prop} {w : World} (h : h_revoke_Delete x0 x1 x2 R w) : Calls Try.prog 19 #[x0, x1, x2] w R :=
  calls_of_dFn (by kernel_rfl) (by kernel_rfl) (by kernel_rfl : fnOk Try.prog Try.f19 p_revoke_Delete 3 = true) ((e_revoke_Delete x0 x1 x2 R w).mpr h)

/-- (*donjon/slots.Store).Full · s:0 -/
def p_slots_Store_Full : Pl := .seq (.leaf) (.seq (.leaf) (.seq (.seq (.leaf) (.block (.loop [3, 8] [3, 4, 5, 6, 7, 8, 9, 10, 11, 12, 13, 14, 15, 16, 17, 18, 19, 20, 21, 22, 23, 24, 25, 26, 27, 28, 29, 30, 31, 32, 33, 34, 35, 36, 37] (.seq (.leaf) (.seq (.cond (.leaf) (.leaf)) (.jseq [3] [3, 4, 5, 6, 7, 10, 11, 12, 13, 14, 15, 16, 17, 18, 19, 20, 21, 22, 23, 24, 25, 26, 27, 28, 29, 30, 31, 32, 33, 34, 35, 36] (.block (.seq (.leaf) (.seq (.leaf) (.seq (.leaf) (.cond (.seq (.leaf) (.block (.loop [3, 23] [3, 6, 7, 23, 24, 25, 26, 27, 28, 29, 30, 31, 32, 33, 34, 35, 36] (.seq (.leaf) (.seq (.cond (.leaf) (.leaf)) (.jseq [3] [3, 6, 7, 25, 26, 27, 28, 29, 30, 31, 32, 33, 34, 35] (.block (.seq (.leaf) (.seq (.leaf) (.cond (.leaf) (.leaf))))) (.leaf))))))) (.leaf)))))) (.leaf))))))) (.seq (.leaf) (.leaf))))
def h_slots_Store_Full (x0 : Value) (R : Ending → World → Prop) (w : World) : Prop :=
 oLoop (σ := Value × Value) (fun _ s2 n1 w =>
 oP Try.prog (bsem .lss 3 true s2.2 (.int .i64 64)) (fun v3 w => 
 oCond v3 (oJoin (σ := Value) (fun k4 =>
 oNil x0 (fun v6 w => 
 oP Try.prog (Instr.fieldAt 150 v6 0) (fun v7 w => 
 oR Try.prog (Instr.loadAt 148 v7) (fun v8 w => 
 oR Try.prog (Instr.lookup 148 v8 s2.2 false) (fun v9 w => 
 oP Try.prog (bsem .neq 147 true v9 (.pointer none)) (fun v10 w => 
 oCond v10 (oNil v9 (fun v11 w => 
 oP Try.prog (Instr.fieldAt 153 v11 1) (fun v12 w => 
 oR Try.prog (Instr.loadAt 151 v12) (fun v13 w => 
 oLoop (σ := Value × Value) (fun _ s15 n14 w =>
 oP Try.prog (bsem .lss 3 true s15.2 (.int .i64 16)) (fun v16 w => 
 oCond v16 (oJoin (σ := Value) (fun k17 =>
 oP Try.prog (Instr.index 151 v13 s15.2) (fun v19 w => 
 oV Try.prog (EP R) (Instr.alloc 68 true (.tuple #[])) (fun v20 w => 
 oS Try.prog (EP R) (Instr.storeAt 68 v20 v19) (fun v21 w => 
 oP Try.prog (Instr.fieldAt 68 v20 0) (fun v22 w => 
 oR Try.prog (Instr.loadAt 3 v22) (fun v23 w => 
 oP Try.prog (bsem .neq 3 true v23 (.int .i64 0)) (fun v24 w => 
 oCond v24 (oP Try.prog (Instr.build 66 #[(0, s2.2), (1, s15.2)]) (fun v25 w => 
 oV Try.prog (EP R) (Instr.buildSlice 72 1 #[(0, v25)]) (fun v26 w => 
 oV Try.prog (EP R) (Builtin.append_ #[72, 72] 72 #[s15.1, v26]) (fun v27 w => 
 k17 v27 w) w) w) w)
 (k17 s15.1 w)) w) w) w) w) w) w)
 (fun _ s18 w =>
 oP Try.prog (bsem .add 3 true s15.2 (.int .i64 1)) (fun v28 w => 
 n14 (s18, v28) w) w))
 (k4 s15.1 w)) w)
 (s2.1, (.int .i64 0)) w) w) w) w)
 (k4 s2.1 w)) w) w) w) w) w)
 (fun _ s5 w =>
 oP Try.prog (bsem .add 3 true s2.2 (.int .i64 1)) (fun v29 w => 
 n1 (s5, v29) w) w))
 (R (.returned s2.1) w)) w)
 ((.slice none 0 0), (.int .i64 0)) w
theorem e_slots_Store_Full (x0 : Value) (R : Ending → World → Prop) (w : World) : dFn Try.prog Try.f20 p_slots_Store_Full R [x0] w = h_slots_Store_Full x0 R w := by kernel_rfl
theorem c_slots_Store_Full {x0 : Value} {R : Ending → World → Prop} {w : World} (h : h_slots_Store_Full x0 R w) : Calls Try.prog 20 #[x0] w R :=
  calls_of_dFn (by kernel_rfl) (by kernel_rfl) (by kernel_rfl : fnOk Try.prog Try.f20 p_slots_Store_Full 1 = true) ((e_slots_Store_Full x0 R w).mpr h)

/-- (*donjon/slots.Store).Radix · s:0, id:1 -/
def p_slots_Store_Radix : Pl := .seq (.leaf) (.seq (.seq (.leaf) (.seq (.leaf) (.cond (.seq (.leaf) (.leaf)) (.leaf)))) (.seq (.leaf) (.leaf)))
def h_slots_Store_Radix (x0 x1 : Value) (R : Ending → World → Prop) (w : World) : Prop :=
 oNil x0 (fun v1 w => 
 oP Try.prog (Instr.fieldAt 150 v1 0) (fun v2 w => 
 oR Try.prog (Instr.loadAt 148 v2) (fun v3 w => 
 oR Try.prog (Instr.lookup 148 v3 x1 false) (fun v4 w => 
 oP Try.prog (bsem .neq 147 true v4 (.pointer none)) (fun v5 w => 
 oCond v5 (oNil v4 (fun v6 w => 
 oP Try.prog (Instr.fieldAt 153 v6 0) (fun v7 w => 
 oR Try.prog (Instr.loadAt 3 v7) (fun v8 w => 
 R (.returned v8) w) w) w) w)
 (R (.returned (.int .i64 0)) w)) w) w) w) w) w
theorem e_slots_Store_Radix (x0 x1 : Value) (R : Ending → World → Prop) (w : World) : dFn Try.prog Try.f21 p_slots_Store_Radix R [x0, x1] w = h_slots_Store_Radix x0 x1 R w := by kernel_rfl
theorem c_slots_Store_Radix {x0 x1 : Value} {R : Ending → World → Prop} {w : World} (h : h_slots_Store_Radix x0 x1 R w) : Calls Try.prog 21 #[x0, x1] w R :=
  calls_of_dFn (by kernel_rfl) (by kernel_rfl) (by kernel_rfl : fnOk Try.prog Try.f21 p_slots_Store_Radix 2 = true) ((e_slots_Store_Radix x0 x1 R w).mpr h)

/-- donjon/donjonlaw11.slot · n:0 -/
def p_donjonlaw11_slot : Pl := .seq (.leaf) (.seq (.leaf) (.leaf))
def h_donjonlaw11_slot (x0 : Value) (R : Ending → World → Prop) (w : World) : Prop :=
 oV Try.prog (EP R) (Instr.alloc 66 true (.tuple #[])) (fun v1 w => 
 oP Try.prog (Instr.build 66 #[(1, x0)]) (fun v2 w => 
 oS Try.prog (EP R) (Instr.storeAt 66 v1 v2) (fun v3 w => 
 oR Try.prog (resSem 66 v1) (fun v4 w => R (.returned v4) w) w) w) w) w
theorem e_donjonlaw11_slot (x0 : Value) (R : Ending → World → Prop) (w : World) : dFn Try.prog Try.f22 p_donjonlaw11_slot R [x0] w = h_donjonlaw11_slot x0 R w := by kernel_rfl
theorem c_donjonlaw11_slot {x0 : Value} {R : Ending → World → Prop} {w : World} (h : h_donjonlaw11_slot x0 R w) : Calls Try.prog 22 #[x0] w R :=
  calls_of_dFn (by kernel_rfl) (by kernel_rfl) (by kernel_rfl : fnOk Try.prog Try.f22 p_donjonlaw11_slot 1 = true) ((e_donjonlaw11_slot x0 R w).mpr h)

/-- (*donjon/moves.Caps).Copy · c:0, src:1, dst:2, rights:3 -/
def p_moves_Caps_Copy : Pl := .seq (.leaf) (.jseq [9] [9, 10, 11, 12, 13, 14, 15, 16, 17, 18, 19, 20] (.reg (.split 6 10 (.leaf [0, 1, 2, 3, 4, 5, 6, 7, 8, 9, 10, 11, 12] [[], [0], [1], [2], [3], [], [4, 5], [6], [6, 7], [6, 7], [4, 5, 6], [4, 5, 6, 8, 10], [6, 9, 10, 11]]) (.leaf [0, 1, 2, 3, 4, 5, 10, 6, 7, 8, 9, 11, 12] [[], [0], [1], [2], [3], [], [4, 5, 10], [6, 10], [6, 7, 10], [6, 7, 10], [], [4, 5, 6, 8, 10], [6, 9, 10, 11]]))) (.seq (.leaf) (.leaf)))
def h_moves_Caps_Copy (x0 x1 x2 x3 : Value) (R : Ending → World → Prop) (w : World) : Prop :=
 oV Try.prog (EP R) (Instr.box 66 x1) (fun v1 w => 
 oV Try.prog (EP R) (Instr.box 66 x2) (fun v2 w => 
 oJoin (σ := Value) (fun k3 =>
 oDraw (fun w => (oNil x0 (fun v5 w => 
 oP Try.prog (Instr.fieldAt 63 v5 0) (fun v6 w => 
 oP Try.prog (Instr.fieldAt 60 v6 0) (fun v7 w => 
 oR Try.prog (Instr.loadAt 58 v7) (fun v8 w => 
 oR Try.prog (Instr.loadAt 66 v1) (fun v9 w => 
 oC Try.prog (EP R) 28 #[v8, v9] (fun v10 w => 
 oP Try.prog (Instr.extract v10 0) (fun v11 w => 
 oP Try.prog (Instr.extract v10 1) (fun v12 w => 
 oV Try.prog (EP R) (Instr.alloc 68 true (.tuple #[])) (fun v13 w => 
 oS Try.prog (EP R) (Instr.storeAt 68 v13 v11) (fun v14 w => 
 k3 v13 w) w) w) w) w) w) w) w) w) w) w) ∧ (oNil x0 (fun v15 w => 
 oP Try.prog (Instr.fieldAt 63 v15 0) (fun v16 w => 
 oP Try.prog (Instr.fieldAt 60 v16 0) (fun v17 w => 
 oR Try.prog (Instr.loadAt 58 v17) (fun v18 w => 
 oR Try.prog (Instr.loadAt 66 v1) (fun v19 w => 
 oV Try.prog (EP R) (Instr.alloc 68 true (.tuple #[])) (fun v20 w => oRd true Try.prog (Instr.loadAt 66 v1) v19 w ∧ oRd true Try.prog (Instr.loadAt 58 v17) v18 w ∧ 
 oC Try.prog (EP R) 28 #[v18, v19] (fun v21 w => 
 oP Try.prog (Instr.extract v21 0) (fun v22 w => 
 oP Try.prog (Instr.extract v21 1) (fun v23 w => 
 oS Try.prog (EP R) (Instr.storeAt 68 v20 v22) (fun v24 w => 
 k3 v20 w) w) w) w) w) w) w) w) w) w) w)) w)
 (fun _ s4 w =>
 oR Try.prog (Instr.loadAt 66 v1) (fun v25 w => 
 oR Try.prog (Instr.loadAt 66 v2) (fun v26 w => 
 oP Try.prog (Instr.fieldAt 68 s4 4) (fun v27 w => 
 oR Try.prog (Instr.loadAt 54 v27) (fun v28 w => 
 oP Try.prog (Instr.fieldAt 68 s4 5) (fun v29 w => 
 oR Try.prog (Instr.loadAt 3 v29) (fun v30 w => 
 oC Try.prog (EP R) 52 #[x0, v25, v26, x3, (.int .u64 0), v28, v30] (fun v31 w => 
 R (.returned v31) w) w) w) w) w) w) w) w)) w) w
theorem e_moves_Caps_Copy (x0 x1 x2 x3 : Value) (R : Ending → World → Prop) (w : World) : dFn Try.prog Try.f23 p_moves_Caps_Copy R [x0, x1, x2, x3] w = h_moves_Caps_Copy x0 x1 x2 x3 R w := by kernel_rfl
theorem c_moves_Caps_Copy {x0 x1 x2 x3 : Value} {R : Ending → World → Prop} {w : World} (h : h_moves_Caps_Copy x0 x1 x2 x3 R w) : Calls Try.prog 23 #[x0, x1, x2, x3] w R :=
  calls_of_dFn (by kernel_rfl) (by kernel_rfl) (by kernel_rfl : fnOk Try.prog Try.f23 p_moves_Caps_Copy 4 = true) ((e_moves_Caps_Copy x0 x1 x2 x3 R w).mpr h)

/-- donjon/revoke.Final · c:0, at:1 -/
def p_revoke_Final : Pl := .seq (.leaf) (.jseq [5, 6] [5, 6, 7, 8, 9, 10, 11, 12, 13, 14, 15, 16] (.reg (.split 6 10 (.leaf [0, 1, 2, 3, 4, 5, 6, 7, 8, 9, 10, 11, 12] [[], [0], [1], [2], [3], [], [4, 5], [6], [6, 7], [6, 7], [4, 5, 6], [4, 5, 6, 8, 10], [6, 9, 10, 11]]) (.leaf [0, 1, 2, 3, 4, 5, 10, 6, 7, 8, 9, 11, 12] [[], [0], [1], [2], [3], [], [4, 5, 10], [6, 10], [6, 7, 10], [6, 7, 10], [], [4, 5, 6, 8, 10], [6, 9, 10, 11]]))) (.seq (.reg (.leaf [0, 1, 2, 3, 4, 5, 6, 7, 8, 9, 10, 11, 13, 15, 12, 14, 16, 17, 18, 19, 20] [[], [0], [1], [2], [2, 3], [2, 4], [2, 4, 5], [4, 6], [4, 7], [4, 7, 8], [4, 7, 9], [4, 7, 10], [4, 7, 11], [7], [7, 13], [7], [7, 15], [4, 7, 12, 14, 16], [7, 17], [7, 17, 18], [17, 19]])) (.leaf)))
def h_revoke_Final (x0 x1 : Value) (R : Ending → World → Prop) (w : World) : Prop :=
 oV Try.prog (EP R) (Instr.box 66 x1) (fun v1 w => 
 oJoin (σ := Value × Value) (fun k2 =>
 oDraw (fun w => (oNil x0 (fun v4 w => 
 oP Try.prog (Instr.fieldAt 63 v4 0) (fun v5 w => 
 oP Try.prog (Instr.fieldAt 60 v5 0) (fun v6 w => 
 oR Try.prog (Instr.loadAt 58 v6) (fun v7 w => 
 oR Try.prog (Instr.loadAt 66 v1) (fun v8 w => 
 oC Try.prog (EP R) 28 #[v7, v8] (fun v9 w => 
 oP Try.prog (Instr.extract v9 0) (fun v10 w => 
 oP Try.prog (Instr.extract v9 1) (fun v11 w => 
 oV Try.prog (EP R) (Instr.alloc 68 true (.tuple #[])) (fun v12 w => 
 oS Try.prog (EP R) (Instr.storeAt 68 v12 v10) (fun v13 w => 
 k2 (v12, v11) w) w) w) w) w) w) w) w) w) w) w) ∧ (oNil x0 (fun v14 w => 
 oP Try.prog (Instr.fieldAt 63 v14 0) (fun v15 w => 
 oP Try.prog (Instr.fieldAt 60 v15 0) (fun v16 w => 
 oR Try.prog (Instr.loadAt 58 v16) (fun v17 w => 
 oR Try.prog (Instr.loadAt 66 v1) (fun v18 w => 
 oV Try.prog (EP R) (Instr.alloc 68 true (.tuple #[])) (fun v19 w => oRd true Try.prog (Instr.loadAt 66 v1) v18 w ∧ oRd true Try.prog (Instr.loadAt 58 v16) v17 w ∧ 
 oC Try.prog (EP R) 28 #[v17, v18] (fun v20 w => 
 oP Try.prog (Instr.extract v20 0) (fun v21 w => 
 oP Try.prog (Instr.extract v20 1) (fun v22 w => 
 oS Try.prog (EP R) (Instr.storeAt 68 v19 v21) (fun v23 w => 
 k2 (v19, v22) w) w) w) w) w) w) w) w) w) w) w)) w)
 (fun _ s3 w =>
 oDraw (fun w => oP Try.prog (bsem .eql 42 true s3.2 (.int .i64 0)) (fun v24 w => 
 oGk (gb true v24) (oP Try.prog (Instr.fieldAt 68 s3.1 0)) (fun v25 w =>
 oGk (gb true v24) (oR Try.prog (Instr.loadAt 3 v25)) (fun v26 w =>
 oGk (gb true v24) (oP Try.prog (bsem .neq 3 true v26 (.int .i64 0))) (fun v27 w =>
 oPick v24 v27 (.bool false) (fun v28 w => 
 oGk (gb true v28) (fun k w => k x0 w) (fun v29 w =>
 oGk (gb true v28) (oNil v29) (fun v30 w =>
 oGk (gb true v28) (oP Try.prog (Instr.fieldAt 63 v30 0)) (fun v31 w =>
 oGk (gb true v28) (oP Try.prog (Instr.fieldAt 60 v31 0)) (fun v32 w =>
 oGk (gb true v28) (oP Try.prog (Instr.fieldAt 68 s3.1 0)) (fun v33 w =>
 oGk (gb true v28) (oP Try.prog (Instr.fieldAt 68 s3.1 1)) (fun v34 w =>
 oGk (gb true v28) (oR Try.prog (Instr.loadAt 58 v32)) (fun v35 w =>
 oGk (gb true v28) (oR Try.prog (Instr.loadAt 3 v33)) (fun v36 w =>
 oGk (gb true v28) (oR Try.prog (Instr.loadAt 3 v34)) (fun v37 w =>
 oGk (gb true v28) (oC Try.prog (EP R) 31 #[v35, v36, v37]) (fun v38 w =>
 oGk (gb true v28) (oP Try.prog (bsem .eql 3 true v38 (.int .i64 1))) (fun v39 w =>
 oPick v28 v39 (.bool false) (fun v40 w => 
 R (.returned v40) w) w) w) w) w) w) w) w) w) w) w) w) w) w) w) w) w) w) w)) w
theorem e_revoke_Final (x0 x1 : Value) (R : Ending → World → Prop) (w : World) : dFn Try.prog Try.f24 p_revoke_Final R [x0, x1] w = h_revoke_Final x0 x1 R w := by kernel_rfl
theorem c_revoke_Final {x0 x1 : Value} {R : Ending → World → Prop} {w : World} (h : h_revoke_Final x0 x1 R w) : Calls Try.prog 24 #[x0, x1] w R :=
  calls_of_dFn (by kernel_rfl) (by kernel_rfl) (by kernel_rfl : fnOk Try.prog Try.f24 p_revoke_Final 2 = true) ((e_revoke_Final x0 x1 R w).mpr h)

/-- donjon/revoke.Revoke · c:0, at:1, steps:2 -/
def p_revoke_Revoke : Pl := .seq (.leaf) (.seq (.seq (.leaf) (.seq (.leaf) (.cond (.seq (.leaf) (.leaf)) (.leaf)))) (.seq (.leaf) (.seq (.leaf) (.seq (.leaf) (.leaf)))))
def h_revoke_Revoke (x0 x1 x2 : Value) (R : Ending → World → Prop) (w : World) : Prop :=
 oV Try.prog (EP R) (Instr.box 55 x0) (fun v1 w => 
 oV Try.prog (EP R) (Instr.box 66 x1) (fun v2 w => 
 oR Try.prog (Instr.loadAt 55 v1) (fun v3 w => 
 oR Try.prog (Instr.loadAt 66 v2) (fun v4 w => 
 oC Try.prog (EP R) 48 #[v3, v4, x2] (fun v5 w => 
 oP Try.prog (bsem .neq 42 true v5 (.int .i64 0)) (fun v6 w => 
 oCond v6 (R (.returned (.tuple #[(.slice none 0 0), (.bool false), v5])) w)
 (oR Try.prog (Instr.loadAt 55 v1) (fun v7 w => 
 oP Try.prog (Instr.build 143 #[(0, v7), (1, x2)]) (fun v8 w => 
 oV Try.prog (EP R) (Instr.box 143 v8) (fun v9 w => 
 oV Try.prog (EP R) (Instr.alloc 141 true (.tuple #[])) (fun v10 w => 
 oS Try.prog (EP R) (Instr.storeAt 141 v10 v9) (fun v11 w => 
 oR Try.prog (Instr.loadAt 141 v10) (fun v12 w => 
 oC Try.prog (EP R) 49 #[v12, (.func (.func 53) #[] #[v10, v2, v1])] (fun v13 w => 
 oP Try.prog (Instr.extract v13 0) (fun v14 w => 
 oP Try.prog (Instr.extract v13 1) (fun v15 w => 
 oR Try.prog (Instr.loadAt 141 v10) (fun v16 w => 
 oNil v16 (fun v17 w => 
 oP Try.prog (Instr.fieldAt 143 v17 2) (fun v18 w => 
 oR Try.prog (Instr.loadAt 69 v18) (fun v19 w => 
 R (.returned (.tuple #[v19, v14, v15])) w) w) w) w) w) w) w) w) w) w) w) w) w) w)) w) w) w) w) w) w
theorem e_revoke_Revoke (x0 x1 x2 : Value) (R : Ending → World → Prop) (w : World) : dFn Try.prog Try.f25 p_revoke_Revoke R [x0, x1, x2] w = h_revoke_Revoke x0 x1 x2 R w := by kernel_rfl
theorem c_revoke_Revoke {x0 x1 x2 : Value} {R : Ending → World → Prop} {w : World} (h : h_revoke_Revoke x0 x1 x2 R w) : Calls Try.prog 25 #[x0, x1, x2] w R :=
  calls_of_dFn (by kernel_rfl) (by kernel_rfl) (by kernel_rfl : fnOk Try.prog Try.f25 p_revoke_Revoke 3 = true) ((e_revoke_Revoke x0 x1 x2 R w).mpr h)

/-- donjon/donjonlaw11.over · n:0, steps:1 -/
def p_donjonlaw11_over : Pl := .seq (.leaf) (.seq (.seq (.leaf) (.cond (.seq (.leaf) (.leaf)) (.leaf))) (.seq (.leaf) (.leaf)))
def h_donjonlaw11_over (x0 x1 : Value) (R : Ending → World → Prop) (w : World) : Prop :=
 oP Try.prog (bsem .gtr 3 true x0 (.int .i64 0)) (fun v1 w => 
 oGk (gb true v1) (fun k w => k x0 w) (fun v2 w =>
 oGk (gb true v1) (fun k w => k x1 w) (fun v3 w =>
 oGk (gb true v1) (oP Try.prog (bsem .rem 3 false v2 v3)) (fun v4 w =>
 oGk (gb true v1) (oP Try.prog (bsem .eql 3 true v4 (.int .i64 0))) (fun v5 w =>
 oPick v1 v5 (.bool false) (fun v6 w => 
 oCond v6 (R (.returned (.int .i64 1)) w)
 (R (.returned (.int .i64 0)) w)) w) w) w) w) w) w
theorem e_donjonlaw11_over (x0 x1 : Value) (R : Ending → World → Prop) (w : World) : dFn Try.prog Try.f26 p_donjonlaw11_over R [x0, x1] w = h_donjonlaw11_over x0 x1 R w := by kernel_rfl
theorem c_donjonlaw11_over {x0 x1 : Value} {R : Ending → World → Prop} {w : World} (h : h_donjonlaw11_over x0 x1 R w) : Calls Try.prog 26 #[x0, x1] w R :=
  calls_of_dFn (by kernel_rfl) (by kernel_rfl) (by kernel_rfl : fnOk Try.prog Try.f26 p_donjonlaw11_over 2 = true) ((e_donjonlaw11_over x0 x1 R w).mpr h)

/-- donjon/donjonlaw11.made · l:0 -/
def p_donjonlaw11_made : Pl := .seq (.leaf) (.seq (.leaf) (.seq (.seq (.leaf) (.block (.loop [4] [4, 8, 9, 10, 11, 12, 13, 14, 15, 16, 17] (.seq (.seq (.leaf) (.cond (.leaf) (.leaf))) (.seq (.block (.leaf)) (.leaf)))))) (.seq (.seq (.leaf) (.block (.loop [5] [5, 6, 18, 19, 20, 21, 22, 23, 24, 25, 26, 27, 28, 29, 30, 31, 32, 33, 34, 35, 36, 37, 38, 39, 40, 41, 42, 43, 44, 45, 46, 47, 48, 49, 50, 51, 52, 53, 54, 55, 56, 57, 58, 59, 60, 61, 62, 63, 64, 65, 66, 67, 68, 69, 70, 71, 72, 73, 74, 75, 76] (.seq (.seq (.leaf) (.cond (.leaf) (.leaf))) (.jseq [] [6, 28, 29, 30, 31, 32, 33, 34, 35, 36, 37, 38, 39, 40, 41, 42, 43, 44, 45, 46, 47, 48, 49, 50, 51, 52, 53, 54, 55, 56, 57, 58, 59, 60, 61, 62, 63, 64, 65, 66, 67, 68, 69, 70, 71, 72, 73, 74, 75, 76] (.block (.seq (.leaf) (.seq (.leaf) (.block (.seq (.leaf) (.cond (.leaf) (.seq (.leaf) (.cond (.leaf) (.seq (.leaf) (.cond (.leaf) (.seq (.leaf) (.cond (.leaf) (.leaf))))))))))))) (.leaf)))))) (.seq (.leaf) (.leaf)))))
def h_donjonlaw11_made (x0 : Value) (R : Ending → World → Prop) (w : World) : Prop :=
 oC Try.prog (EP R) 16 #[] (fun v1 w => 
 oLoop (σ := Value) (fun _ s3 n2 w =>
 oP Try.prog (bsem .lss 3 true s3 (.int .i64 3)) (fun v4 w => 
 oCond v4 (oNil v1 (fun v5 w => 
 oP Try.prog (Instr.fieldAt 63 v5 0) (fun v6 w => 
 oR Try.prog (Instr.loadAt 60 v6) (fun v7 w => 
 oC Try.prog (EP R) 17 #[v7, s3, (.int .i64 3)] (fun v8 w => 
 oP Try.prog (bsem .add 3 true s3 (.int .i64 1)) (fun v9 w => 
 n2 v9 w) w) w) w) w) w)
 (oLoop (σ := Value) (fun _ s11 n10 w =>
 oR Try.prog (Builtin.len_ #[81] 3 #[x0]) (fun v12 w => 
 oP Try.prog (bsem .lss 3 false s11 v12) (fun v13 w => 
 oGk (gb true v13) (fun k w => k s11 w) (fun v14 w =>
 oGk (gb true v13) (oP Try.prog (bsem .lss 3 true v14 (.int .i64 50))) (fun v15 w =>
 oPick v13 v15 (.bool false) (fun v16 w => 
 oCond v16 (oJoin (σ := Unit) (fun k17 =>
 oP Try.prog (Instr.indexAt 81 x0 s11) (fun v19 w => 
 oP Try.prog (Instr.fieldAt 159 v19 0) (fun v20 w => 
 oR Try.prog (Instr.loadAt 157 v20) (fun v21 w => 
 oV Try.prog (EP R) (Instr.alloc 157 true (.tuple #[])) (fun v22 w => 
 oS Try.prog (EP R) (Instr.storeAt 157 v22 v21) (fun v23 w => 
 oP Try.prog (Instr.fieldAt 157 v22 0) (fun v24 w => 
 oR Try.prog (Instr.loadAt 3 v24) (fun v25 w => 
 oP Try.prog (bsem .eql 3 true v25 (.int .i64 2)) (fun v26 w => 
 oCond v26 (oP Try.prog (Instr.fieldAt 157 v22 1) (fun v27 w => 
 oR Try.prog (Instr.loadAt 66 v27) (fun v28 w => 
 oP Try.prog (Instr.fieldAt 157 v22 4) (fun v29 w => 
 oR Try.prog (Instr.loadAt 68 v29) (fun v30 w => 
 oC Try.prog (EP R) 18 #[v1, v28, v30] (fun v31 w => 
 k17 () w) w) w) w) w) w)
 (oP Try.prog (bsem .eql 3 true v25 (.int .i64 4)) (fun v32 w => 
 oCond v32 (oP Try.prog (Instr.fieldAt 157 v22 1) (fun v33 w => 
 oR Try.prog (Instr.loadAt 66 v33) (fun v34 w => 
 oP Try.prog (Instr.fieldAt 157 v22 2) (fun v35 w => 
 oR Try.prog (Instr.loadAt 66 v35) (fun v36 w => 
 oP Try.prog (Instr.fieldAt 157 v22 6) (fun v37 w => 
 oR Try.prog (Instr.loadAt 3 v37) (fun v38 w => 
 oC Try.prog (EP R) 23 #[v1, v34, v36, v38] (fun v39 w => 
 k17 () w) w) w) w) w) w) w) w)
 (oP Try.prog (bsem .eql 3 true v25 (.int .i64 5)) (fun v40 w => 
 oCond v40 (oP Try.prog (Instr.fieldAt 157 v22 1) (fun v41 w => 
 oR Try.prog (Instr.loadAt 66 v41) (fun v42 w => 
 oP Try.prog (Instr.fieldAt 157 v22 2) (fun v43 w => 
 oR Try.prog (Instr.loadAt 66 v43) (fun v44 w => 
 oP Try.prog (Instr.fieldAt 157 v22 6) (fun v45 w => 
 oR Try.prog (Instr.loadAt 3 v45) (fun v46 w => 
 oP Try.prog (Instr.fieldAt 157 v22 7) (fun v47 w => 
 oR Try.prog (Instr.loadAt 54 v47) (fun v48 w => 
 oP Try.prog (Instr.fieldAt 157 v22 8) (fun v49 w => 
 oR Try.prog (Instr.loadAt 54 v49) (fun v50 w => 
 oP Try.prog (Instr.fieldAt 157 v22 9) (fun v51 w => 
 oR Try.prog (Instr.loadAt 3 v51) (fun v52 w => 
 oC Try.prog (EP R) 52 #[v1, v42, v44, v46, v48, v50, v52] (fun v53 w => 
 k17 () w) w) w) w) w) w) w) w) w) w) w) w) w) w)
 (oP Try.prog (bsem .eql 3 true v25 (.int .i64 6)) (fun v54 w => 
 oCond v54 (oP Try.prog (Instr.fieldAt 157 v22 1) (fun v55 w => 
 oR Try.prog (Instr.loadAt 66 v55) (fun v56 w => 
 oP Try.prog (Instr.fieldAt 157 v22 2) (fun v57 w => 
 oR Try.prog (Instr.loadAt 66 v57) (fun v58 w => 
 oC Try.prog (EP R) 55 #[v1, v56, v58] (fun v59 w => 
 k17 () w) w) w) w) w) w)
 (k17 () w)) w)) w)) w)) w) w) w) w) w) w) w) w)
 (fun _ s18 w =>
 oP Try.prog (bsem .add 3 true s11 (.int .i64 1)) (fun v60 w => 
 n10 v60 w) w))
 (R (.returned v1) w)) w) w) w) w) w)
 (.int .i64 0) w)) w)
 (.int .i64 0) w) w
theorem e_donjonlaw11_made (x0 : Value) (R : Ending → World → Prop) (w : World) : dFn Try.prog Try.f27 p_donjonlaw11_made R [x0] w = h_donjonlaw11_made x0 R w := by kernel_rfl
theorem c_donjonlaw11_made {x0 : Value} {R : Ending → World → Prop} {w : World} (h : h_donjonlaw11_made x0 R w) : Calls Try.prog 27 #[x0] w R :=
  calls_of_dFn (by kernel_rfl) (by kernel_rfl) (by kernel_rfl : fnOk Try.prog Try.f27 p_donjonlaw11_made 1 = true) ((e_donjonlaw11_made x0 R w).mpr h)

/-- (*donjon/slots.Store).Get · s:0, at:1 -/
def p_slots_Store_Get : Pl := .seq (.leaf) (.seq (.leaf) (.seq (.seq (.leaf) (.cond (.seq (.leaf) (.leaf)) (.leaf))) (.seq (.leaf) (.leaf))))
def h_slots_Store_Get (x0 x1 : Value) (R : Ending → World → Prop) (w : World) : Prop :=
 oV Try.prog (EP R) (Instr.box 66 x1) (fun v1 w => 
 oV Try.prog (EP R) (Instr.alloc 68 true (.tuple #[])) (fun v2 w => 
 oR Try.prog (Instr.loadAt 66 v1) (fun v3 w => 
 oC Try.prog (EP R) 56 #[x0, v3] (fun v4 w => 
 oP Try.prog (bsem .eql 161 true v4 (.pointer none)) (fun v5 w => 
 oCond v5 (oP Try.prog (Instr.build 68 #[]) (fun v6 w => 
 oS Try.prog (EP R) (Instr.storeAt 68 v2 v6) (fun v7 w => 
 oR Try.prog (resSem 68 v2) (fun v8 w => R (.returned (.tuple #[v8, (.int .i64 6)])) w) w) w) w)
 (oNil v4 (fun v9 w => 
 oR Try.prog (Instr.loadAt 68 v9) (fun v10 w => 
 oS Try.prog (EP R) (Instr.storeAt 68 v2 v10) (fun v11 w => 
 oR Try.prog (resSem 68 v2) (fun v12 w => R (.returned (.tuple #[v12, (.int .i64 0)])) w) w) w) w) w)) w) w) w) w) w
theorem e_slots_Store_Get (x0 x1 : Value) (R : Ending → World → Prop) (w : World) : dFn Try.prog Try.f28 p_slots_Store_Get R [x0, x1] w = h_slots_Store_Get x0 x1 R w := by kernel_rfl
theorem c_slots_Store_Get {x0 x1 : Value} {R : Ending → World → Prop} {w : World} (h : h_slots_Store_Get x0 x1 R w) : Calls Try.prog 28 #[x0, x1] w R :=
  calls_of_dFn (by kernel_rfl) (by kernel_rfl) (by kernel_rfl : fnOk Try.prog Try.f28 p_slots_Store_Get 2 = true) ((e_slots_Store_Get x0 x1 R w).mpr h)

/-- donjon/donjonlaw11.SameCaps · a:0, b:1 -/
def p_donjonlaw11_SameCaps : Pl := .seq (.leaf) (.seq (.seq (.leaf) (.cond (.seq (.leaf) (.leaf)) (.leaf))) (.seq (.seq (.leaf) (.block (.loop [5] [4, 5, 11, 12, 13, 14, 15, 16, 17, 18, 19, 20, 21, 22, 23, 24, 25] (.seq (.seq (.leaf) (.cond (.leaf) (.leaf))) (.seq (.block (.seq (.reg (.leaf [0, 1, 2, 4, 5, 6, 3, 7, 8] [[], [], [0, 1], [2], [], [], [4, 5], [6], [3, 7]])) (.cond (.seq (.leaf) (.leaf)) (.leaf)))) (.leaf)))))) (.seq (.leaf) (.leaf))))
def h_donjonlaw11_SameCaps (x0 x1 : Value) (R : Ending → World → Prop) (w : World) : Prop :=
 oR Try.prog (Builtin.len_ #[69] 3 #[x0]) (fun v1 w => 
 oR Try.prog (Builtin.len_ #[69] 3 #[x1]) (fun v2 w => 
 oP Try.prog (bsem .neq 3 false v1 v2) (fun v3 w => 
 oCond v3 (R (.returned (.bool false)) w)
 (oLoop (σ := Value) (fun _ s5 n4 w =>
 oR Try.prog (Builtin.len_ #[69] 3 #[x0]) (fun v6 w => 
 oP Try.prog (bsem .lss 3 false s5 v6) (fun v7 w => 
 oCond v7 (oDraw (fun w => oP Try.prog (Instr.indexAt 69 x0 s5) (fun v8 w => 
 oP Try.prog (Instr.indexAt 69 x1 s5) (fun v9 w => 
 oR Try.prog (Instr.loadAt 68 v8) (fun v10 w => 
 oR Try.prog (Instr.loadAt 68 v9) (fun v11 w => 
 oV Try.prog (EP R) (bsem .neq 68 false v10 v11) (fun v12 w => 
 oCond v12 (R (.returned (.bool false)) w)
 (oP Try.prog (bsem .add 3 true s5 (.int .i64 1)) (fun v13 w => 
 n4 v13 w) w)) w) w) w) w) w) w)
 (R (.returned (.bool true)) w)) w) w)
 (.int .i64 0) w)) w) w) w
theorem e_donjonlaw11_SameCaps (x0 x1 : Value) (R : Ending → World → Prop) (w : World) : dFn Try.prog Try.f29 p_donjonlaw11_SameCaps R [x0, x1] w = h_donjonlaw11_SameCaps x0 x1 R w := by kernel_rfl
theorem c_donjonlaw11_SameCaps {x0 x1 : Value} {R : Ending → World → Prop} {w : World} (h : h_donjonlaw11_SameCaps x0 x1 R w) : Calls Try.prog 29 #[x0, x1] w R :=
  calls_of_dFn (by kernel_rfl) (by kernel_rfl) (by kernel_rfl : fnOk Try.prog Try.f29 p_donjonlaw11_SameCaps 2 = true) ((e_donjonlaw11_SameCaps x0 x1 R w).mpr h)

/-- donjon/donjonref07.SameSlots · a:0, b:1 -/
def p_donjonref07_SameSlots : Pl := .seq (.leaf) (.seq (.seq (.leaf) (.cond (.seq (.leaf) (.leaf)) (.leaf))) (.seq (.seq (.leaf) (.block (.loop [5] [4, 5, 11, 12, 13, 14, 15, 16, 17, 18, 19, 20, 21, 22, 23, 24, 25] (.seq (.seq (.leaf) (.cond (.leaf) (.leaf))) (.seq (.block (.seq (.reg (.leaf [0, 1, 2, 4, 5, 6, 3, 7, 8] [[], [], [0, 1], [2], [], [], [4, 5], [6], [3, 7]])) (.cond (.seq (.leaf) (.leaf)) (.leaf)))) (.leaf)))))) (.seq (.leaf) (.leaf))))
def h_donjonref07_SameSlots (x0 x1 : Value) (R : Ending → World → Prop) (w : World) : Prop :=
 oR Try.prog (Builtin.len_ #[72] 3 #[x0]) (fun v1 w => 
 oR Try.prog (Builtin.len_ #[72] 3 #[x1]) (fun v2 w => 
 oP Try.prog (bsem .neq 3 false v1 v2) (fun v3 w => 
 oCond v3 (R (.returned (.bool false)) w)
 (oLoop (σ := Value) (fun _ s5 n4 w =>
 oR Try.prog (Builtin.len_ #[72] 3 #[x0]) (fun v6 w => 
 oP Try.prog (bsem .lss 3 false s5 v6) (fun v7 w => 
 oCond v7 (oDraw (fun w => oP Try.prog (Instr.indexAt 72 x0 s5) (fun v8 w => 
 oP Try.prog (Instr.indexAt 72 x1 s5) (fun v9 w => 
 oR Try.prog (Instr.loadAt 66 v8) (fun v10 w => 
 oR Try.prog (Instr.loadAt 66 v9) (fun v11 w => 
 oV Try.prog (EP R) (bsem .neq 66 false v10 v11) (fun v12 w => 
 oCond v12 (R (.returned (.bool false)) w)
 (oP Try.prog (bsem .add 3 true s5 (.int .i64 1)) (fun v13 w => 
 n4 v13 w) w)) w) w) w) w) w) w)
 (R (.returned (.bool true)) w)) w) w)
 (.int .i64 0) w)) w) w) w
theorem e_donjonref07_SameSlots (x0 x1 : Value) (R : Ending → World → Prop) (w : World) : dFn Try.prog Try.f30 p_donjonref07_SameSlots R [x0, x1] w = h_donjonref07_SameSlots x0 x1 R w := by kernel_rfl
theorem c_donjonref07_SameSlots {x0 x1 : Value} {R : Ending → World → Prop} {w : World} (h : h_donjonref07_SameSlots x0 x1 R w) : Calls Try.prog 30 #[x0, x1] w R :=
  calls_of_dFn (by kernel_rfl) (by kernel_rfl) (by kernel_rfl : fnOk Try.prog Try.f30 p_donjonref07_SameSlots 2 = true) ((e_donjonref07_SameSlots x0 x1 R w).mpr h)

/-- (*donjon/slots.Store).Count · s:0, kind:1, object:2 -/
def p_slots_Store_Count : Pl := .seq (.leaf) (.seq (.leaf) (.seq (.seq (.leaf) (.block (.loop [7, 14] [7, 9, 10, 14, 15, 16, 17, 18, 19, 20, 21, 22, 23, 24, 25, 26, 27, 28, 29, 30, 31, 32, 33, 34, 35, 36, 37] (.seq (.leaf) (.seq (.cond (.leaf) (.leaf)) (.jseq [7] [7, 9, 10, 16, 17, 18, 19, 20, 21, 22, 23, 24, 25, 26, 27, 28, 29, 30, 31, 32, 33, 34, 35, 36] (.block (.seq (.leaf) (.seq (.leaf) (.seq (.leaf) (.cond (.leaf) (.leaf)))))) (.leaf))))))) (.seq (.leaf) (.leaf))))
def h_slots_Store_Count (x0 x1 x2 : Value) (R : Ending → World → Prop) (w : World) : Prop :=
 oC Try.prog (EP R) 20 #[x0] (fun v1 w => 
 oR Try.prog (Builtin.len_ #[72] 3 #[v1]) (fun v2 w => 
 oLoop (σ := Value × Value) (fun _ s4 n3 w =>
 oP Try.prog (bsem .lss 3 false s4.2 v2) (fun v5 w => 
 oCond v5 (oJoin (σ := Value) (fun k6 =>
 oP Try.prog (Instr.indexAt 72 v1 s4.2) (fun v8 w => 
 oR Try.prog (Instr.loadAt 66 v8) (fun v9 w => 
 oV Try.prog (EP R) (Instr.alloc 66 true (.tuple #[])) (fun v10 w => 
 oS Try.prog (EP R) (Instr.storeAt 66 v10 v9) (fun v11 w => 
 oR Try.prog (Instr.loadAt 66 v10) (fun v12 w => 
 oC Try.prog (EP R) 56 #[x0, v12] (fun v13 w => 
 oNil v13 (fun v14 w => 
 oP Try.prog (Instr.fieldAt 68 v14 0) (fun v15 w => 
 oR Try.prog (Instr.loadAt 3 v15) (fun v16 w => 
 oP Try.prog (bsem .eql 3 false v16 x1) (fun v17 w => 
 oGk (gb true v17) (fun k w => k v13 w) (fun v18 w =>
 oGk (gb true v17) (oNil v18) (fun v19 w =>
 oGk (gb true v17) (oP Try.prog (Instr.fieldAt 68 v19 1)) (fun v20 w =>
 oGk (gb true v17) (oR Try.prog (Instr.loadAt 3 v20)) (fun v21 w =>
 oGk (gb true v17) (fun k w => k x2 w) (fun v22 w =>
 oGk (gb true v17) (oP Try.prog (bsem .eql 3 false v21 v22)) (fun v23 w =>
 oPick v17 v23 (.bool false) (fun v24 w => 
 oCond v24 (oP Try.prog (bsem .add 3 true s4.1 (.int .i64 1)) (fun v25 w => 
 k6 v25 w) w)
 (k6 s4.1 w)) w) w) w) w) w) w) w) w) w) w) w) w) w) w) w) w) w)
 (fun _ s7 w =>
 oP Try.prog (bsem .add 3 true s4.2 (.int .i64 1)) (fun v26 w => 
 n3 (s7, v26) w) w))
 (R (.returned s4.1) w)) w)
 ((.int .i64 0), (.int .i64 0)) w) w) w
theorem e_slots_Store_Count (x0 x1 x2 : Value) (R : Ending → World → Prop) (w : World) : dFn Try.prog Try.f31 p_slots_Store_Count R [x0, x1, x2] w = h_slots_Store_Count x0 x1 x2 R w := by kernel_rfl
theorem c_slots_Store_Count {x0 x1 x2 : Value} {R : Ending → World → Prop} {w : World} (h : h_slots_Store_Count x0 x1 x2 R w) : Calls Try.prog 31 #[x0, x1, x2] w R :=
  calls_of_dFn (by kernel_rfl) (by kernel_rfl) (by kernel_rfl : fnOk Try.prog Try.f31 p_slots_Store_Count 3 = true) ((e_slots_Store_Count x0 x1 x2 R w).mpr h)

/-- (*donjon/moves.Caps).Kin · c:0, at:1 -/
def p_moves_Caps_Kin : Pl := .seq (.leaf) (.seq (.reg (.leaf [0, 1, 2, 3, 4, 5, 6] [[], [0], [1], [2], [], [3, 4], [5]])) (.leaf))
def h_moves_Caps_Kin (x0 x1 : Value) (R : Ending → World → Prop) (w : World) : Prop :=
 oV Try.prog (EP R) (Instr.box 66 x1) (fun v1 w => 
 oDraw (fun w => oNil x0 (fun v2 w => 
 oP Try.prog (Instr.fieldAt 63 v2 1) (fun v3 w => 
 oR Try.prog (Instr.loadAt 61 v3) (fun v4 w => 
 oR Try.prog (Instr.loadAt 66 v1) (fun v5 w => 
 oC Try.prog (EP R) 57 #[v4, v5] (fun v6 w => 
 R (.returned v6) w) w) w) w) w) w) w) w
theorem e_moves_Caps_Kin (x0 x1 : Value) (R : Ending → World → Prop) (w : World) : dFn Try.prog Try.f32 p_moves_Caps_Kin R [x0, x1] w = h_moves_Caps_Kin x0 x1 R w := by kernel_rfl
theorem c_moves_Caps_Kin {x0 x1 : Value} {R : Ending → World → Prop} {w : World} (h : h_moves_Caps_Kin x0 x1 R w) : Calls Try.prog 32 #[x0, x1] w R :=
  calls_of_dFn (by kernel_rfl) (by kernel_rfl) (by kernel_rfl : fnOk Try.prog Try.f32 p_moves_Caps_Kin 2 = true) ((e_moves_Caps_Kin x0 x1 R w).mpr h)

/-- donjon/slots.New ·  -/
def p_slots_New : Pl := .seq (.leaf) (.seq (.leaf) (.leaf))
def h_slots_New (R : Ending → World → Prop) (w : World) : Prop :=
 oV Try.prog (EP R) (Instr.makeMap 148 none) (fun v1 w => 
 oP Try.prog (Instr.build 150 #[(0, v1)]) (fun v2 w => 
 oV Try.prog (EP R) (Instr.box 150 v2) (fun v3 w => 
 R (.returned v3) w) w) w) w
theorem e_slots_New (R : Ending → World → Prop) (w : World) : dFn Try.prog Try.f43 p_slots_New R [] w = h_slots_New  R w := by kernel_rfl
theorem c_slots_New {R : Ending → World → Prop} {w : World} (h : h_slots_New  R w) : Calls Try.prog 43 #[] w R :=
  calls_of_dFn (by kernel_rfl) (by kernel_rfl) (by kernel_rfl : fnOk Try.prog Try.f43 p_slots_New 0 = true) ((e_slots_New  R w).mpr h)

/-- donjon/tree.New ·  -/
def p_tree_New : Pl := .seq (.leaf) (.seq (.leaf) (.leaf))
def h_tree_New (R : Ending → World → Prop) (w : World) : Prop :=
 oV Try.prog (EP R) (Instr.makeMap 175 none) (fun v1 w => 
 oP Try.prog (Instr.build 177 #[(0, v1)]) (fun v2 w => 
 oV Try.prog (EP R) (Instr.box 177 v2) (fun v3 w => 
 R (.returned v3) w) w) w) w
theorem e_tree_New (R : Ending → World → Prop) (w : World) : dFn Try.prog Try.f44 p_tree_New R [] w = h_tree_New  R w := by kernel_rfl
theorem c_tree_New {R : Ending → World → Prop} {w : World} (h : h_tree_New  R w) : Calls Try.prog 44 #[] w R :=
  calls_of_dFn (by kernel_rfl) (by kernel_rfl) (by kernel_rfl : fnOk Try.prog Try.f44 p_tree_New 0 = true) ((e_tree_New  R w).mpr h)

/-- (*donjon/slots.Store).Add · s:0, id:1, radix:2 -/
def p_slots_Store_Add : Pl := .seq (.leaf) (.seq (.block (.seq (.leaf) (.cond (.seq (.leaf) (.leaf)) (.seq (.leaf) (.cond (.seq (.leaf) (.leaf)) (.leaf)))))) (.seq (.leaf) (.seq (.leaf) (.leaf))))
def h_slots_Store_Add (x0 x1 x2 : Value) (R : Ending → World → Prop) (w : World) : Prop :=
 oP Try.prog (bsem .lss 3 true x1 (.int .i64 0)) (fun v1 w => 
 oGk (gb false v1) (fun k w => k x1 w) (fun v2 w =>
 oGk (gb false v1) (oP Try.prog (bsem .geq 3 true v2 (.int .i64 64))) (fun v3 w =>
 oPick v1 (.bool true) v3 (fun v4 w => 
 oGk (gb false v4) (fun k w => k x2 w) (fun v5 w =>
 oGk (gb false v4) (oP Try.prog (bsem .lss 3 true v5 (.int .i64 1))) (fun v6 w =>
 oPick v4 (.bool true) v6 (fun v7 w => 
 oGk (gb false v7) (fun k w => k x2 w) (fun v8 w =>
 oGk (gb false v7) (oP Try.prog (bsem .gtr 3 true v8 (.int .i64 4))) (fun v9 w =>
 oPick v7 (.bool true) v9 (fun v10 w => 
 oCond v10 (R (.returned (.int .i64 1)) w)
 (oNil x0 (fun v11 w => 
 oP Try.prog (Instr.fieldAt 150 v11 0) (fun v12 w => 
 oR Try.prog (Instr.loadAt 148 v12) (fun v13 w => 
 oR Try.prog (Instr.lookup 148 v13 x1 false) (fun v14 w => 
 oP Try.prog (bsem .neq 147 true v14 (.pointer none)) (fun v15 w => 
 oCond v15 (R (.returned (.int .i64 4)) w)
 (oNil x0 (fun v16 w => 
 oP Try.prog (Instr.fieldAt 150 v16 0) (fun v17 w => 
 oR Try.prog (Instr.loadAt 148 v17) (fun v18 w => 
 oP Try.prog (Instr.build 153 #[(0, x2)]) (fun v19 w => 
 oV Try.prog (EP R) (Instr.box 153 v19) (fun v20 w => 
 oS Try.prog (EP R) (Instr.mapUpdate 148 v18 x1 v20) (fun v21 w => 
 R (.returned (.int .i64 0)) w) w) w) w) w) w) w)) w) w) w) w) w)) w) w) w) w) w) w) w) w) w) w
theorem e_slots_Store_Add (x0 x1 x2 : Value) (R : Ending → World → Prop) (w : World) : dFn Try.prog Try.f45 p_slots_Store_Add R [x0, x1, x2] w = h_slots_Store_Add x0 x1 x2 R w := by kernel_rfl
theorem c_slots_Store_Add {x0 x1 x2 : Value} {R : Ending → World → Prop} {w : World} (h : h_slots_Store_Add x0 x1 x2 R w) : Calls Try.prog 45 #[x0, x1, x2] w R :=
  calls_of_dFn (by kernel_rfl) (by kernel_rfl) (by kernel_rfl : fnOk Try.prog Try.f45 p_slots_Store_Add 3 = true) ((e_slots_Store_Add x0 x1 x2 R w).mpr h)

/-- (*donjon/slots.Store).Put · s:0, at:1, c:2 -/
def p_slots_Store_Put : Pl := .seq (.leaf) (.seq (.leaf) (.seq (.seq (.leaf) (.cond (.seq (.leaf) (.leaf)) (.leaf))) (.seq (.seq (.leaf) (.block (.seq (.leaf) (.cond (.seq (.leaf) (.leaf)) (.seq (.leaf) (.cond (.seq (.leaf) (.leaf)) (.seq (.leaf) (.cond (.seq (.leaf) (.leaf)) (.leaf))))))))) (.seq (.leaf) (.seq (.leaf) (.leaf))))))
def h_slots_Store_Put (x0 x1 x2 : Value) (R : Ending → World → Prop) (w : World) : Prop :=
 oV Try.prog (EP R) (Instr.box 66 x1) (fun v1 w => 
 oV Try.prog (EP R) (Instr.box 68 x2) (fun v2 w => 
 oR Try.prog (Instr.loadAt 66 v1) (fun v3 w => 
 oC Try.prog (EP R) 56 #[x0, v3] (fun v4 w => 
 oP Try.prog (bsem .eql 161 true v4 (.pointer none)) (fun v5 w => 
 oCond v5 (R (.returned (.int .i64 6)) w)
 (oR Try.prog (Instr.loadAt 68 v2) (fun v6 w => 
 oC Try.prog (EP R) 70 #[v6] (fun v7 w => 
 oP Try.prog (bsem .neq 42 true v7 (.int .i64 0)) (fun v8 w => 
 oCond v8 (R (.returned v7) w)
 (oP Try.prog (Instr.fieldAt 68 v2 0) (fun v9 w => 
 oR Try.prog (Instr.loadAt 3 v9) (fun v10 w => 
 oP Try.prog (bsem .eql 3 true v10 (.int .i64 0)) (fun v11 w => 
 oCond v11 (R (.returned (.int .i64 3)) w)
 (oNil v4 (fun v12 w => 
 oP Try.prog (Instr.fieldAt 68 v12 0) (fun v13 w => 
 oR Try.prog (Instr.loadAt 3 v13) (fun v14 w => 
 oP Try.prog (bsem .neq 3 true v14 (.int .i64 0)) (fun v15 w => 
 oCond v15 (R (.returned (.int .i64 4)) w)
 (oR Try.prog (Instr.loadAt 68 v2) (fun v16 w => 
 oNil v4 (fun v17 w => 
 oS Try.prog (EP R) (Instr.storeAt 68 v17 v16) (fun v18 w => 
 R (.returned (.int .i64 0)) w) w) w) w)) w) w) w) w)) w) w) w)) w) w) w)) w) w) w) w) w
theorem e_slots_Store_Put (x0 x1 x2 : Value) (R : Ending → World → Prop) (w : World) : dFn Try.prog Try.f46 p_slots_Store_Put R [x0, x1, x2] w = h_slots_Store_Put x0 x1 x2 R w := by kernel_rfl
theorem c_slots_Store_Put {x0 x1 x2 : Value} {R : Ending → World → Prop} {w : World} (h : h_slots_Store_Put x0 x1 x2 R w) : Calls Try.prog 46 #[x0, x1, x2] w R :=
  calls_of_dFn (by kernel_rfl) (by kernel_rfl) (by kernel_rfl : fnOk Try.prog Try.f46 p_slots_Store_Put 3 = true) ((e_slots_Store_Put x0 x1 x2 R w).mpr h)

/-- (*donjon/tree.Tree).Root · t:0, s:1 -/
def p_tree_Tree_Root : Pl := .seq (.leaf) (.seq (.leaf) (.leaf))
def h_tree_Tree_Root (x0 x1 : Value) (R : Ending → World → Prop) (w : World) : Prop :=
 oV Try.prog (EP R) (Instr.box 66 x1) (fun v1 w => 
 oR Try.prog (Instr.loadAt 66 v1) (fun v2 w => 
 oC Try.prog (EP R) 71 #[x0, v2, (.pointer none)] (fun v3 w => 
 R (.returned v3) w) w) w) w
theorem e_tree_Tree_Root (x0 x1 : Value) (R : Ending → World → Prop) (w : World) : dFn Try.prog Try.f47 p_tree_Tree_Root R [x0, x1] w = h_tree_Tree_Root x0 x1 R w := by kernel_rfl
theorem c_tree_Tree_Root {x0 x1 : Value} {R : Ending → World → Prop} {w : World} (h : h_tree_Tree_Root x0 x1 R w) : Calls Try.prog 47 #[x0, x1] w R :=
  calls_of_dFn (by kernel_rfl) (by kernel_rfl) (by kernel_rfl : fnOk Try.prog Try.f47 p_tree_Tree_Root 2 = true) ((e_tree_Tree_Root x0 x1 R w).mpr h)

/-- donjon/revoke.check · c:0, at:1, steps:2 -/
def p_revoke_check : Pl := .seq (.leaf) (.seq (.seq (.leaf) (.cond (.seq (.leaf) (.leaf)) (.leaf))) (.jseq [7, 8] [7, 8, 15, 16, 17, 18, 19, 20, 21, 22, 23, 24] (.reg (.split 6 10 (.leaf [0, 1, 2, 3, 4, 5, 6, 7, 8, 9, 10, 11, 12] [[], [0], [1], [2], [3], [], [4, 5], [6], [6, 7], [6, 7], [4, 5, 6], [4, 5, 6, 8, 10], [6, 9, 10, 11]]) (.leaf [0, 1, 2, 3, 4, 5, 10, 6, 7, 8, 9, 11, 12] [[], [0], [1], [2], [3], [], [4, 5, 10], [6, 10], [6, 7, 10], [6, 7, 10], [], [4, 5, 6, 8, 10], [6, 9, 10, 11]]))) (.seq (.seq (.leaf) (.cond (.leaf) (.leaf))) (.seq (.leaf) (.leaf)))))
def h_revoke_check (x0 x1 x2 : Value) (R : Ending → World → Prop) (w : World) : Prop :=
 oV Try.prog (EP R) (Instr.box 66 x1) (fun v1 w => 
 oP Try.prog (bsem .lss 3 true x2 (.int .i64 1)) (fun v2 w => 
 oGk (gb false v2) (fun k w => k x2 w) (fun v3 w =>
 oGk (gb false v2) (oP Try.prog (bsem .gtr 3 true v3 (.int .i64 1000))) (fun v4 w =>
 oPick v2 (.bool true) v4 (fun v5 w => 
 oCond v5 (R (.returned (.int .i64 1)) w)
 (oJoin (σ := Value × Value) (fun k6 =>
 oDraw (fun w => (oNil x0 (fun v8 w => 
 oP Try.prog (Instr.fieldAt 63 v8 0) (fun v9 w => 
 oP Try.prog (Instr.fieldAt 60 v9 0) (fun v10 w => 
 oR Try.prog (Instr.loadAt 58 v10) (fun v11 w => 
 oR Try.prog (Instr.loadAt 66 v1) (fun v12 w => 
 oC Try.prog (EP R) 28 #[v11, v12] (fun v13 w => 
 oP Try.prog (Instr.extract v13 0) (fun v14 w => 
 oP Try.prog (Instr.extract v13 1) (fun v15 w => 
 oV Try.prog (EP R) (Instr.alloc 68 true (.tuple #[])) (fun v16 w => 
 oS Try.prog (EP R) (Instr.storeAt 68 v16 v14) (fun v17 w => 
 k6 (v16, v15) w) w) w) w) w) w) w) w) w) w) w) ∧ (oNil x0 (fun v18 w => 
 oP Try.prog (Instr.fieldAt 63 v18 0) (fun v19 w => 
 oP Try.prog (Instr.fieldAt 60 v19 0) (fun v20 w => 
 oR Try.prog (Instr.loadAt 58 v20) (fun v21 w => 
 oR Try.prog (Instr.loadAt 66 v1) (fun v22 w => 
 oV Try.prog (EP R) (Instr.alloc 68 true (.tuple #[])) (fun v23 w => oRd true Try.prog (Instr.loadAt 66 v1) v22 w ∧ oRd true Try.prog (Instr.loadAt 58 v20) v21 w ∧ 
 oC Try.prog (EP R) 28 #[v21, v22] (fun v24 w => 
 oP Try.prog (Instr.extract v24 0) (fun v25 w => 
 oP Try.prog (Instr.extract v24 1) (fun v26 w => 
 oS Try.prog (EP R) (Instr.storeAt 68 v23 v25) (fun v27 w => 
 k6 (v23, v26) w) w) w) w) w) w) w) w) w) w) w)) w)
 (fun _ s7 w =>
 oP Try.prog (bsem .eql 42 true s7.2 (.int .i64 0)) (fun v28 w => 
 oGk (gb true v28) (oP Try.prog (Instr.fieldAt 68 s7.1 0)) (fun v29 w =>
 oGk (gb true v28) (oR Try.prog (Instr.loadAt 3 v29)) (fun v30 w =>
 oGk (gb true v28) (oP Try.prog (bsem .eql 3 true v30 (.int .i64 0))) (fun v31 w =>
 oPick v28 v31 (.bool false) (fun v32 w => 
 oCond v32 (R (.returned (.int .i64 3)) w)
 (R (.returned s7.2) w)) w) w) w) w) w))) w) w) w) w) w
theorem e_revoke_check (x0 x1 x2 : Value) (R : Ending → World → Prop) (w : World) : dFn Try.prog Try.f48 p_revoke_check R [x0, x1, x2] w = h_revoke_check x0 x1 x2 R w := by kernel_rfl
theorem c_revoke_check {x0 x1 x2 : Value} {R : Ending → World → Prop} {w : World} (h : h_revoke_check x0 x1 x2 R w) : Calls Try.prog 48 #[x0, x1, x2] w R :=
  calls_of_dFn (by kernel_rfl) (by kernel_rfl) (by kernel_rfl : fnOk Try.prog Try.f48 p_revoke_check 3 = true) ((e_revoke_check x0 x1 x2 R w).mpr h)

/-- donjon/revoke.Delete$1 · :0, :1 -/
def p_revoke_Delete_1 : Pl := .leaf
def h_revoke_Delete_1 (x0 x1 : Value) (R : Ending → World → Prop) (w : World) : Prop :=
 oR Try.prog (Instr.loadAt 141 x0) (fun v1 w => 
 oR Try.prog (Instr.loadAt 66 x1) (fun v2 w => 
 oC Try.prog (EP R) 51 #[v1, v2, (.slice none 0 0)] (fun v3 w => 
 R (.returned (.tuple #[])) w) w) w) w
theorem e_revoke_Delete_1 (x0 x1 : Value) (R : Ending → World → Prop) (w : World) : dFn Try.prog Try.f50 p_revoke_Delete_1 R [x0, x1] w = h_revoke_Delete_1 x0 x1 R w := by kernel_rfl
theorem c_revoke_Delete_1 {x0 x1 : Value} {R : Ending → World → Prop} {w : World} (h : h_revoke_Delete_1 x0 x1 R w) : Calls Try.prog 50 #[x0, x1] w R :=
  calls_of_dFn (by kernel_rfl) (by kernel_rfl) (by kernel_rfl : fnOk Try.prog Try.f50 p_revoke_Delete_1 2 = true) ((e_revoke_Delete_1 x0 x1 R w).mpr h)

/-- (*donjon/revoke.taker).away · t:0, at:1, of:2 -/
def p_revoke_taker_away : Pl := .seq (.leaf) (.jseq [6] [6, 9, 10, 11, 12, 13] (.reg (.split 1 3 (.leaf [0, 2, 1, 3, 4, 5] [[], [0], [], [1, 2], [1, 2, 3], [1, 3, 4]]) (.leaf [0, 2, 3, 1, 4, 5] [[], [0, 2, 3], [], [2], [1, 2, 3], [1, 3, 4]]))) (.jseq [] [7, 8, 14, 15, 16, 17, 18, 19, 20, 21, 22, 23, 24, 25, 26, 27, 28, 29, 30, 31, 32, 33, 34, 35, 36, 37, 38, 39, 40, 41, 42] (.block (.loop [] [7, 8, 14, 15, 16, 17, 18, 19, 20, 21, 22, 23, 24, 25, 26, 27, 28, 29, 30, 31, 32, 33, 34, 35, 36, 37, 38, 39, 40, 41, 42] (.seq (.seq (.reg (.leaf [0, 1, 2, 3, 4, 5, 6, 7, 8, 9, 10, 11, 12] [[], [], [0, 1], [1, 2], [1, 2, 3], [1, 2, 4], [1, 2, 5], [1, 2, 5, 6], [1, 2, 5, 7], [1, 2, 5, 8], [2, 5], [1, 2, 5, 9, 10], [2, 5, 11]])) (.cond (.leaf) (.leaf))) (.block (.seq (.leaf) (.seq (.seq (.leaf) (.cond (.leaf) (.leaf))) (.leaf))))))) (.leaf)))
def h_revoke_taker_away (x0 x1 x2 : Value) (R : Ending → World → Prop) (w : World) : Prop :=
 oV Try.prog (EP R) (Instr.box 66 x1) (fun v1 w => 
 oJoin (σ := Value) (fun k2 =>
 oDraw (fun w => (oR Try.prog (Instr.loadAt 66 v1) (fun v4 w => 
 oC Try.prog (EP R) 73 #[x2] (fun v5 w => oRd true Try.prog (Instr.loadAt 66 v1) v4 w ∧ 
 oV Try.prog (EP R) (Instr.buildSlice 72 1 #[(0, v4)]) (fun v6 w => 
 oV Try.prog (EP R) (Builtin.append_ #[72, 72] 72 #[v5, v6]) (fun v7 w => 
 k2 v7 w) w) w) w) w) ∧ (oR Try.prog (Instr.loadAt 66 v1) (fun v8 w => 
 oV Try.prog (EP R) (Instr.buildSlice 72 1 #[(0, v8)]) (fun v9 w => 
 oC Try.prog (EP R) 73 #[x2] (fun v10 w => 
 oV Try.prog (EP R) (Builtin.append_ #[72, 72] 72 #[v10, v9]) (fun v11 w => 
 k2 v11 w) w) w) w) w)) w)
 (fun _ s3 w =>
 oJoin (σ := Unit) (fun k12 =>
 oLoop (σ := Unit) (fun _ s15 n14 w =>
 oDraw (fun w => oR Try.prog (Instr.loadAt 66 v1) (fun v16 w => 
 oC Try.prog (EP R) 54 #[x0, v16] (fun v17 w => 
 oP Try.prog (Instr.field 68 v17 0) (fun v18 w => 
 oP Try.prog (bsem .eql 3 true v18 (.int .i64 2)) (fun v19 w => 
 oGk (gb true v19) (fun k w => k x0 w) (fun v20 w =>
 oGk (gb true v19) (oNil v20) (fun v21 w =>
 oGk (gb true v19) (oP Try.prog (Instr.fieldAt 143 v21 0)) (fun v22 w =>
 oGk (gb true v19) (oR Try.prog (Instr.loadAt 55 v22)) (fun v23 w =>
 oGk (gb true v19) (oR Try.prog (Instr.loadAt 66 v1)) (fun v24 w =>
 oGk (gb true v19) (oC Try.prog (EP R) 24 #[v23, v24]) (fun v25 w =>
 oPick v19 v25 (.bool false) (fun v26 w => 
 oCond v26 (oR Try.prog (Instr.loadAt 66 v1) (fun v27 w => 
 oC Try.prog (EP R) 54 #[x0, v27] (fun v28 w => 
 oP Try.prog (Instr.field 68 v28 1) (fun v29 w => 
 oC Try.prog (EP R) 74 #[x0, v29, s3] (fun v30 w => 
 oP Try.prog (Instr.extract v30 0) (fun v31 w => 
 oP Try.prog (Instr.extract v30 1) (fun v32 w => 
 oV Try.prog (EP R) (Instr.alloc 66 true (.tuple #[])) (fun v33 w => 
 oS Try.prog (EP R) (Instr.storeAt 66 v33 v31) (fun v34 w => 
 oP Try.prog (Op.unary .not v32) (fun v35 w => 
 oCond v35 (k12 () w)
 (oR Try.prog (Instr.loadAt 66 v33) (fun v36 w => 
 oC Try.prog (EP R) 51 #[x0, v36, s3] (fun v37 w => 
 n14 () w) w) w)) w) w) w) w) w) w) w) w) w)
 (k12 () w)) w) w) w) w) w) w) w) w) w) w) w) w)
 () w)
 (fun _ s13 w =>
 oR Try.prog (Instr.loadAt 66 v1) (fun v38 w => 
 oC Try.prog (EP R) 75 #[x0, v38] (fun v39 w => 
 R (.returned (.tuple #[])) w) w) w))) w
theorem e_revoke_taker_away (x0 x1 x2 : Value) (R : Ending → World → Prop) (w : World) : dFn Try.prog Try.f51 p_revoke_taker_away R [x0, x1, x2] w = h_revoke_taker_away x0 x1 x2 R w := by kernel_rfl
theorem c_revoke_taker_away {x0 x1 x2 : Value} {R : Ending → World → Prop} {w : World} (h : h_revoke_taker_away x0 x1 x2 R w) : Calls Try.prog 51 #[x0, x1, x2] w R :=
  calls_of_dFn (by kernel_rfl) (by kernel_rfl) (by kernel_rfl : fnOk Try.prog Try.f51 p_revoke_taker_away 3 = true) ((e_revoke_taker_away x0 x1 x2 R w).mpr h)

/-- (*donjon/moves.Caps).Mint · c:0, src:1, dst:2, rights:3, badge:4, guard:5, bits:6 -/
def p_moves_Caps_Mint : Pl := .seq (.leaf) (.seq (.leaf) (.seq (.seq (.leaf) (.cond (.seq (.leaf) (.leaf)) (.leaf))) (.seq (.leaf) (.seq (.seq (.leaf) (.cond (.seq (.leaf) (.leaf)) (.leaf))) (.seq (.leaf) (.leaf))))))
def h_moves_Caps_Mint (x0 x1 x2 x3 x4 x5 x6 : Value) (R : Ending → World → Prop) (w : World) : Prop :=
 oV Try.prog (EP R) (Instr.box 66 x1) (fun v1 w => 
 oV Try.prog (EP R) (Instr.box 66 x2) (fun v2 w => 
 oR Try.prog (Instr.loadAt 66 v1) (fun v3 w => 
 oR Try.prog (Instr.loadAt 66 v2) (fun v4 w => 
 oC Try.prog (EP R) 76 #[x0, v3, v4] (fun v5 w => 
 oP Try.prog (Instr.extract v5 0) (fun v6 w => 
 oP Try.prog (Instr.extract v5 1) (fun v7 w => 
 oV Try.prog (EP R) (Instr.alloc 68 true (.tuple #[])) (fun v8 w => 
 oS Try.prog (EP R) (Instr.storeAt 68 v8 v6) (fun v9 w => 
 oP Try.prog (bsem .neq 42 true v7 (.int .i64 0)) (fun v10 w => 
 oCond v10 (R (.returned v7) w)
 (oR Try.prog (Instr.loadAt 68 v8) (fun v11 w => 
 oC Try.prog (EP R) 77 #[v11, x3, x4, x5, x6] (fun v12 w => 
 oP Try.prog (Instr.extract v12 0) (fun v13 w => 
 oP Try.prog (Instr.extract v12 1) (fun v14 w => 
 oV Try.prog (EP R) (Instr.alloc 68 true (.tuple #[])) (fun v15 w => 
 oS Try.prog (EP R) (Instr.storeAt 68 v15 v13) (fun v16 w => 
 oP Try.prog (bsem .neq 42 true v14 (.int .i64 0)) (fun v17 w => 
 oCond v17 (R (.returned v14) w)
 (oR Try.prog (Instr.loadAt 66 v1) (fun v18 w => 
 oR Try.prog (Instr.loadAt 66 v2) (fun v19 w => 
 oR Try.prog (Instr.loadAt 68 v15) (fun v20 w => 
 oC Try.prog (EP R) 78 #[x0, v18, v19, v20] (fun v21 w => 
 R (.returned v21) w) w) w) w) w)) w) w) w) w) w) w) w)) w) w) w) w) w) w) w) w) w) w
theorem e_moves_Caps_Mint (x0 x1 x2 x3 x4 x5 x6 : Value) (R : Ending → World → Prop) (w : World) : dFn Try.prog Try.f52 p_moves_Caps_Mint R [x0, x1, x2, x3, x4, x5, x6] w = h_moves_Caps_Mint x0 x1 x2 x3 x4 x5 x6 R w := by kernel_rfl
theorem c_moves_Caps_Mint {x0 x1 x2 x3 x4 x5 x6 : Value} {R : Ending → World → Prop} {w : World} (h : h_moves_Caps_Mint x0 x1 x2 x3 x4 x5 x6 R w) : Calls Try.prog 52 #[x0, x1, x2, x3, x4, x5, x6] w R :=
  calls_of_dFn (by kernel_rfl) (by kernel_rfl) (by kernel_rfl : fnOk Try.prog Try.f52 p_moves_Caps_Mint 7 = true) ((e_moves_Caps_Mint x0 x1 x2 x3 x4 x5 x6 R w).mpr h)

/-- donjon/revoke.Revoke$1 · :0, :1, :2 -/
def p_revoke_Revoke_1 : Pl := .block (.loop [] [3, 4, 5, 6, 7, 8, 9, 10, 11, 12, 13, 14, 15, 16, 17, 18, 19, 20, 21, 22] (.seq (.seq (.leaf) (.cond (.leaf) (.leaf))) (.block (.seq (.leaf) (.seq (.seq (.leaf) (.cond (.leaf) (.leaf))) (.reg (.leaf [1, 2, 0, 3, 4, 5, 6, 7] [[], [], [], [2], [3], [1, 3, 4], [3, 5], [0, 3, 6]])))))))
def h_revoke_Revoke_1 (x0 x1 x2 : Value) (R : Ending → World → Prop) (w : World) : Prop :=
 oLoop (σ := Unit) (fun _ s2 n1 w =>
 oR Try.prog (Instr.loadAt 141 x0) (fun v3 w => 
 oR Try.prog (Instr.loadAt 66 x1) (fun v4 w => 
 oC Try.prog (EP R) 54 #[v3, v4] (fun v5 w => 
 oP Try.prog (Instr.field 68 v5 0) (fun v6 w => 
 oP Try.prog (bsem .neq 3 true v6 (.int .i64 0)) (fun v7 w => 
 oCond v7 (oR Try.prog (Instr.loadAt 55 x2) (fun v8 w => 
 oR Try.prog (Instr.loadAt 66 x1) (fun v9 w => 
 oC Try.prog (EP R) 32 #[v8, v9] (fun v10 w => 
 oR Try.prog (Builtin.len_ #[72] 3 #[v10]) (fun v11 w => 
 oP Try.prog (bsem .eql 3 true v11 (.int .i64 0)) (fun v12 w => 
 oCond v12 (R (.returned (.tuple #[])) w)
 (oDraw (fun w => oR Try.prog (Instr.loadAt 141 x0) (fun v13 w => 
 oR Try.prog (Builtin.len_ #[72] 3 #[v10]) (fun v14 w => 
 oP Try.prog (bsem .sub 3 true v14 (.int .i64 1)) (fun v15 w => 
 oP Try.prog (Instr.indexAt 72 v10 v15) (fun v16 w => 
 oR Try.prog (Instr.loadAt 66 v16) (fun v17 w => 
 oC Try.prog (EP R) 51 #[v13, v17, (.slice none 0 0)] (fun v18 w => 
 n1 () w) w) w) w) w) w) w) w)) w) w) w) w) w)
 (R (.returned (.tuple #[])) w)) w) w) w) w) w)
 () w
theorem e_revoke_Revoke_1 (x0 x1 x2 : Value) (R : Ending → World → Prop) (w : World) : dFn Try.prog Try.f53 p_revoke_Revoke_1 R [x0, x1, x2] w = h_revoke_Revoke_1 x0 x1 x2 R w := by kernel_rfl
theorem c_revoke_Revoke_1 {x0 x1 x2 : Value} {R : Ending → World → Prop} {w : World} (h : h_revoke_Revoke_1 x0 x1 x2 R w) : Calls Try.prog 53 #[x0, x1, x2] w R :=
  calls_of_dFn (by kernel_rfl) (by kernel_rfl) (by kernel_rfl : fnOk Try.prog Try.f53 p_revoke_Revoke_1 3 = true) ((e_revoke_Revoke_1 x0 x1 x2 R w).mpr h)

/-- (*donjon/revoke.taker).get · t:0, at:1 -/
def p_revoke_taker_get : Pl := .seq (.leaf) (.jseq [5] [5, 6, 7, 8, 9, 10, 11, 12, 13, 14, 15, 16, 17, 18, 19] (.reg (.split 9 13 (.leaf [0, 1, 2, 3, 4, 5, 6, 7, 8, 9, 10, 11, 12, 13, 14, 15] [[], [0], [1], [2], [3], [3, 4], [3, 5], [3, 6], [], [3, 7, 8], [9], [9, 10], [9, 10], [3, 7, 8, 9], [3, 7, 8, 9, 11, 13], [9, 12, 13, 14]]) (.leaf [0, 1, 2, 3, 4, 5, 6, 7, 8, 13, 9, 10, 11, 12, 14, 15] [[], [0], [1], [2], [3], [3, 4], [3, 5], [3, 6], [], [3, 7, 8, 13], [9, 13], [9, 10, 13], [9, 10, 13], [], [3, 7, 8, 9, 11, 13], [9, 12, 13, 14]]))) (.seq (.leaf) (.leaf)))
def h_revoke_taker_get (x0 x1 : Value) (R : Ending → World → Prop) (w : World) : Prop :=
 oV Try.prog (EP R) (Instr.box 66 x1) (fun v1 w => 
 oV Try.prog (EP R) (Instr.alloc 68 true (.tuple #[])) (fun v2 w => 
 oJoin (σ := Value) (fun k3 =>
 oDraw (fun w => (oNil x0 (fun v5 w => 
 oP Try.prog (Instr.fieldAt 143 v5 0) (fun v6 w => 
 oR Try.prog (Instr.loadAt 55 v6) (fun v7 w => 
 oNil v7 (fun v8 w => 
 oP Try.prog (Instr.fieldAt 63 v8 0) (fun v9 w => 
 oP Try.prog (Instr.fieldAt 60 v9 0) (fun v10 w => 
 oR Try.prog (Instr.loadAt 58 v10) (fun v11 w => 
 oR Try.prog (Instr.loadAt 66 v1) (fun v12 w => 
 oC Try.prog (EP R) 28 #[v11, v12] (fun v13 w => 
 oP Try.prog (Instr.extract v13 0) (fun v14 w => 
 oP Try.prog (Instr.extract v13 1) (fun v15 w => 
 oV Try.prog (EP R) (Instr.alloc 68 true (.tuple #[])) (fun v16 w => 
 oS Try.prog (EP R) (Instr.storeAt 68 v16 v14) (fun v17 w => 
 k3 v16 w) w) w) w) w) w) w) w) w) w) w) w) w) w) ∧ (oNil x0 (fun v18 w => 
 oP Try.prog (Instr.fieldAt 143 v18 0) (fun v19 w => 
 oR Try.prog (Instr.loadAt 55 v19) (fun v20 w => 
 oNil v20 (fun v21 w => 
 oP Try.prog (Instr.fieldAt 63 v21 0) (fun v22 w => 
 oP Try.prog (Instr.fieldAt 60 v22 0) (fun v23 w => 
 oR Try.prog (Instr.loadAt 58 v23) (fun v24 w => 
 oR Try.prog (Instr.loadAt 66 v1) (fun v25 w => 
 oV Try.prog (EP R) (Instr.alloc 68 true (.tuple #[])) (fun v26 w => oRd true Try.prog (Instr.loadAt 66 v1) v25 w ∧ oRd true Try.prog (Instr.loadAt 58 v23) v24 w ∧ oRd true Try.prog (Instr.loadAt 55 v19) v20 w ∧ 
 oC Try.prog (EP R) 28 #[v24, v25] (fun v27 w => 
 oP Try.prog (Instr.extract v27 0) (fun v28 w => 
 oP Try.prog (Instr.extract v27 1) (fun v29 w => 
 oS Try.prog (EP R) (Instr.storeAt 68 v26 v28) (fun v30 w => 
 k3 v26 w) w) w) w) w) w) w) w) w) w) w) w) w) w)) w)
 (fun _ s4 w =>
 oR Try.prog (Instr.loadAt 68 s4) (fun v31 w => 
 oS Try.prog (EP R) (Instr.storeAt 68 v2 v31) (fun v32 w => 
 oR Try.prog (resSem 68 v2) (fun v33 w => R (.returned v33) w) w) w) w)) w) w
theorem e_revoke_taker_get (x0 x1 : Value) (R : Ending → World → Prop) (w : World) : dFn Try.prog Try.f54 p_revoke_taker_get R [x0, x1] w = h_revoke_taker_get x0 x1 R w := by kernel_rfl
theorem c_revoke_taker_get {x0 x1 : Value} {R : Ending → World → Prop} {w : World} (h : h_revoke_taker_get x0 x1 R w) : Calls Try.prog 54 #[x0, x1] w R :=
  calls_of_dFn (by kernel_rfl) (by kernel_rfl) (by kernel_rfl : fnOk Try.prog Try.f54 p_revoke_taker_get 2 = true) ((e_revoke_taker_get x0 x1 R w).mpr h)

/-- (*donjon/moves.Caps).Move · c:0, src:1, dst:2 -/
def p_moves_Caps_Move : Pl := .seq (.leaf) (.seq (.leaf) (.seq (.seq (.leaf) (.cond (.leaf) (.leaf))) (.seq (.leaf) (.leaf))))
def h_moves_Caps_Move (x0 x1 x2 : Value) (R : Ending → World → Prop) (w : World) : Prop :=
 oV Try.prog (EP R) (Instr.box 66 x1) (fun v1 w => 
 oV Try.prog (EP R) (Instr.box 66 x2) (fun v2 w => 
 oR Try.prog (Instr.loadAt 66 v1) (fun v3 w => 
 oR Try.prog (Instr.loadAt 66 v2) (fun v4 w => 
 oC Try.prog (EP R) 76 #[x0, v3, v4] (fun v5 w => 
 oP Try.prog (Instr.extract v5 0) (fun v6 w => 
 oP Try.prog (Instr.extract v5 1) (fun v7 w => 
 oV Try.prog (EP R) (Instr.alloc 68 true (.tuple #[])) (fun v8 w => 
 oS Try.prog (EP R) (Instr.storeAt 68 v8 v6) (fun v9 w => 
 oP Try.prog (bsem .eql 42 true v7 (.int .i64 0)) (fun v10 w => 
 oCond v10 (oR Try.prog (Instr.loadAt 66 v1) (fun v11 w => 
 oR Try.prog (Instr.loadAt 66 v2) (fun v12 w => 
 oR Try.prog (Instr.loadAt 68 v8) (fun v13 w => 
 oC Try.prog (EP R) 79 #[x0, v11, v12, v13] (fun v14 w => 
 R (.returned v7) w) w) w) w) w)
 (R (.returned v7) w)) w) w) w) w) w) w) w) w) w) w
theorem e_moves_Caps_Move (x0 x1 x2 : Value) (R : Ending → World → Prop) (w : World) : dFn Try.prog Try.f55 p_moves_Caps_Move R [x0, x1, x2] w = h_moves_Caps_Move x0 x1 x2 R w := by kernel_rfl
theorem c_moves_Caps_Move {x0 x1 x2 : Value} {R : Ending → World → Prop} {w : World} (h : h_moves_Caps_Move x0 x1 x2 R w) : Calls Try.prog 55 #[x0, x1, x2] w R :=
  calls_of_dFn (by kernel_rfl) (by kernel_rfl) (by kernel_rfl : fnOk Try.prog Try.f55 p_moves_Caps_Move 3 = true) ((e_moves_Caps_Move x0 x1 x2 R w).mpr h)

/-- (*donjon/slots.Store).slot · s:0, at:1 -/
def p_slots_Store_slot : Pl := .seq (.leaf) (.seq (.reg (.leaf [0, 1, 2, 4, 3, 5, 6, 7] [[], [0], [1], [2], [], [4], [3, 5], [6]])) (.seq (.seq (.reg (.leaf [0, 1, 2, 3, 4, 5, 6, 7, 8, 10, 9, 11, 12, 13] [[], [0], [1], [2], [2, 3], [2, 4], [2, 4, 5], [4, 6], [7], [7, 8], [4, 7], [4, 7, 10], [7, 9, 11], [7, 11, 12]])) (.cond (.seq (.leaf) (.leaf)) (.leaf))) (.seq (.reg (.leaf [0, 1, 3, 4, 2, 5, 6] [[], [], [1], [0], [3], [2, 4], [5]])) (.leaf))))
def h_slots_Store_slot (x0 x1 : Value) (R : Ending → World → Prop) (w : World) : Prop :=
 oV Try.prog (EP R) (Instr.box 66 x1) (fun v1 w => 
 oDraw (fun w => oNil x0 (fun v2 w => 
 oP Try.prog (Instr.fieldAt 150 v2 0) (fun v3 w => 
 oP Try.prog (Instr.fieldAt 66 v1 0) (fun v4 w => 
 oR Try.prog (Instr.loadAt 148 v3) (fun v5 w => 
 oR Try.prog (Instr.loadAt 3 v4) (fun v6 w => 
 oR Try.prog (Instr.lookup 148 v5 v6 false) (fun v7 w => 
 oDraw (fun w => oP Try.prog (bsem .eql 147 true v7 (.pointer none)) (fun v8 w => 
 oGk (gb false v8) (oP Try.prog (Instr.fieldAt 66 v1 1)) (fun v9 w =>
 oGk (gb false v8) (oR Try.prog (Instr.loadAt 3 v9)) (fun v10 w =>
 oGk (gb false v8) (oP Try.prog (bsem .lss 3 true v10 (.int .i64 0))) (fun v11 w =>
 oPick v8 (.bool true) v11 (fun v12 w => 
 oGk (gb false v12) (oP Try.prog (Instr.fieldAt 66 v1 1)) (fun v13 w =>
 oGk (gb false v12) (fun k w => k v7 w) (fun v14 w =>
 oGk (gb false v12) (oR Try.prog (Instr.loadAt 3 v13)) (fun v15 w =>
 oGk (gb false v12) (fun k w => oC Try.prog (EP R) 80 #[v14] (fun v w => oRd (gb false v12) Try.prog (Instr.loadAt 3 v13) v15 w ∧ k v w) w) (fun v16 w =>
 oGk (gb false v12) (oP Try.prog (bsem .geq 3 false v15 v16)) (fun v17 w =>
 oPick v12 (.bool true) v17 (fun v18 w => 
 oCond v18 (R (.returned (.pointer none)) w)
 (oDraw (fun w => oP Try.prog (Instr.fieldAt 66 v1 1) (fun v19 w => 
 oNil v7 (fun v20 w => 
 oP Try.prog (Instr.fieldAt 153 v20 1) (fun v21 w => 
 oR Try.prog (Instr.loadAt 3 v19) (fun v22 w => 
 oP Try.prog (Instr.indexAt 151 v21 v22) (fun v23 w => 
 R (.returned v23) w) w) w) w) w) w) w)) w) w) w) w) w) w) w) w) w) w) w) w) w) w) w) w) w) w) w) w
theorem e_slots_Store_slot (x0 x1 : Value) (R : Ending → World → Prop) (w : World) : dFn Try.prog Try.f56 p_slots_Store_slot R [x0, x1] w = h_slots_Store_slot x0 x1 R w := by kernel_rfl
theorem c_slots_Store_slot {x0 x1 : Value} {R : Ending → World → Prop} {w : World} (h : h_slots_Store_slot x0 x1 R w) : Calls Try.prog 56 #[x0, x1] w R :=
  calls_of_dFn (by kernel_rfl) (by kernel_rfl) (by kernel_rfl : fnOk Try.prog Try.f56 p_slots_Store_slot 2 = true) ((e_slots_Store_slot x0 x1 R w).mpr h)

/-- (*donjon/tree.Tree).Kin · t:0, s:1 -/
def p_tree_Tree_Kin : Pl := .seq (.leaf) (.seq (.leaf) (.seq (.reg (.leaf [0, 1, 2, 3, 4, 5, 6] [[], [0], [1], [2], [], [3, 4], [5]])) (.seq (.seq (.leaf) (.cond (.seq (.leaf) (.leaf)) (.leaf))) (.seq (.seq (.leaf) (.block (.loop [5, 7] [5, 7, 8, 22, 23, 24, 25, 26, 27, 28, 29, 30, 31, 32, 33, 34, 35, 36, 37, 38, 39, 40, 41, 42] (.seq (.seq (.leaf) (.cond (.leaf) (.leaf))) (.block (.seq (.leaf) (.seq (.leaf) (.reg (.leaf [0, 1, 2, 4, 5, 3, 6, 7, 8] [[], [0], [1], [2], [], [4], [3, 5], [3, 6], [4, 6, 7]]))))))))) (.seq (.leaf) (.leaf))))))
def h_tree_Tree_Kin (x0 x1 : Value) (R : Ending → World → Prop) (w : World) : Prop :=
 oV Try.prog (EP R) (Instr.box 66 x1) (fun v1 w => 
 oDraw (fun w => oNil x0 (fun v2 w => 
 oP Try.prog (Instr.fieldAt 177 v2 0) (fun v3 w => 
 oR Try.prog (Instr.loadAt 175 v3) (fun v4 w => 
 oR Try.prog (Instr.loadAt 66 v1) (fun v5 w => 
 oR Try.prog (Instr.lookup 175 v4 v5 false) (fun v6 w => 
 oP Try.prog (bsem .eql 189 true v6 (.pointer none)) (fun v7 w => 
 oCond v7 (R (.returned (.slice none 0 0)) w)
 (oNil v6 (fun v8 w => 
 oP Try.prog (Instr.fieldAt 193 v8 2) (fun v9 w => 
 oR Try.prog (Instr.loadAt 190 v9) (fun v10 w => 
 oC Try.prog (EP R) 81 #[v10] (fun v11 w => 
 oLoop (σ := Value × Value) (fun _ s13 n12 w =>
 oR Try.prog (Builtin.len_ #[190] 3 #[s13.2]) (fun v14 w => 
 oP Try.prog (bsem .gtr 3 true v14 (.int .i64 0)) (fun v15 w => 
 oCond v15 (oP Try.prog (Instr.indexAt 190 s13.2 (.int .i64 0)) (fun v16 w => 
 oR Try.prog (Instr.loadAt 189 v16) (fun v17 w => 
 oNil v17 (fun v18 w => 
 oP Try.prog (Instr.fieldAt 193 v18 0) (fun v19 w => 
 oR Try.prog (Instr.loadAt 66 v19) (fun v20 w => 
 oV Try.prog (EP R) (Instr.buildSlice 72 1 #[(0, v20)]) (fun v21 w => 
 oV Try.prog (EP R) (Builtin.append_ #[72, 72] 72 #[s13.1, v21]) (fun v22 w => 
 oDraw (fun w => oNil v17 (fun v23 w => 
 oP Try.prog (Instr.fieldAt 193 v23 2) (fun v24 w => 
 oP Try.prog (Instr.sliceAt 190 s13.2 (some (.int .i64 1)) none none) (fun v25 w => 
 oR Try.prog (Instr.loadAt 190 v24) (fun v26 w => 
 oV Try.prog (EP R) (Instr.buildSlice 238 2 #[(0, v26), (1, v25)]) (fun v27 w => 
 oC Try.prog (EP R) 82 #[v27] (fun v28 w => 
 n12 (v22, v28) w) w) w) w) w) w) w) w) w) w) w) w) w) w) w)
 (R (.returned s13.1) w)) w) w)
 ((.slice none 0 0), v11) w) w) w) w) w)) w) w) w) w) w) w) w) w
theorem e_tree_Tree_Kin (x0 x1 : Value) (R : Ending → World → Prop) (w : World) : dFn Try.prog Try.f57 p_tree_Tree_Kin R [x0, x1] w = h_tree_Tree_Kin x0 x1 R w := by kernel_rfl
theorem c_tree_Tree_Kin {x0 x1 : Value} {R : Ending → World → Prop} {w : World} (h : h_tree_Tree_Kin x0 x1 R w) : Calls Try.prog 57 #[x0, x1] w R :=
  calls_of_dFn (by kernel_rfl) (by kernel_rfl) (by kernel_rfl : fnOk Try.prog Try.f57 p_tree_Tree_Kin 2 = true) ((e_tree_Tree_Kin x0 x1 R w).mpr h)

/-- donjon/cap.Check · c:0 -/
def p_cap_Check : Pl := .seq (.leaf) (.seq (.block (.seq (.leaf) (.cond (.seq (.leaf) (.leaf)) (.jseq [12] [12, 13, 14, 15, 16, 17, 18, 19, 20, 21, 22, 23, 24, 25, 26, 27, 28, 29, 30, 31, 32, 33, 34, 35, 36, 37, 38, 39] (.seq (.reg (.leaf [0, 2, 1, 3, 4] [[], [0], [], [0, 1, 2], [1, 3]])) (.cond (.leaf) (.seq (.leaf) (.cond (.leaf) (.seq (.leaf) (.cond (.leaf) (.seq (.leaf) (.cond (.leaf) (.leaf))))))))) (.cond (.seq (.leaf) (.leaf)) (.leaf)))))) (.seq (.leaf) (.leaf)))
def h_cap_Check (x0 : Value) (R : Ending → World → Prop) (w : World) : Prop :=
 oV Try.prog (EP R) (Instr.box 68 x0) (fun v1 w => 
 oP Try.prog (Instr.fieldAt 68 v1 0) (fun v2 w => 
 oR Try.prog (Instr.loadAt 3 v2) (fun v3 w => 
 oP Try.prog (bsem .lss 3 true v3 (.int .i64 0)) (fun v4 w => 
 oGk (gb false v4) (oP Try.prog (Instr.fieldAt 68 v1 0)) (fun v5 w =>
 oGk (gb false v4) (oR Try.prog (Instr.loadAt 3 v5)) (fun v6 w =>
 oGk (gb false v4) (oP Try.prog (bsem .gtr 3 true v6 (.int .i64 11))) (fun v7 w =>
 oPick v4 (.bool true) v7 (fun v8 w => 
 oCond v8 (R (.returned (.int .i64 2)) w)
 (oJoin (σ := Value) (fun k9 =>
 oDraw (fun w => oR Try.prog (Instr.loadAt 68 v1) (fun v11 w => 
 oR Try.prog (Instr.loadAt 68 v1) (fun v12 w => 
 oC Try.prog (EP R) 102 #[v11] (fun v13 w => oRd true Try.prog (Instr.loadAt 68 v1) v12 w ∧ 
 oV Try.prog (EP R) (bsem .neq 68 false v13 v12) (fun v14 w => 
 oCond v14 (k9 v14 w)
 (oP Try.prog (Instr.fieldAt 68 v1 1) (fun v15 w => 
 oR Try.prog (Instr.loadAt 3 v15) (fun v16 w => 
 oP Try.prog (bsem .lss 3 true v16 (.int .i64 0)) (fun v17 w => 
 oGk (gb false v17) (oP Try.prog (Instr.fieldAt 68 v1 1)) (fun v18 w =>
 oGk (gb false v17) (oR Try.prog (Instr.loadAt 3 v18)) (fun v19 w =>
 oGk (gb false v17) (oP Try.prog (bsem .shr 3 true v19 (.int .u64 6))) (fun v20 w =>
 oGk (gb false v17) (oP Try.prog (bsem .neq 3 true v20 (.int .i64 0))) (fun v21 w =>
 oPick v17 (.bool true) v21 (fun v22 w => 
 oCond v22 (k9 v22 w)
 (oP Try.prog (Instr.fieldAt 68 v1 2) (fun v23 w => 
 oR Try.prog (Instr.loadAt 3 v23) (fun v24 w => 
 oC Try.prog (EP R) 103 #[v24] (fun v25 w => 
 oP Try.prog (Op.unary .not v25) (fun v26 w => 
 oCond v26 (k9 v26 w)
 (oP Try.prog (Instr.fieldAt 68 v1 3) (fun v27 w => 
 oR Try.prog (Instr.loadAt 54 v27) (fun v28 w => 
 oP Try.prog (bsem .shr 54 true v28 (.int .u64 28)) (fun v29 w => 
 oP Try.prog (bsem .neq 54 true v29 (.int .u64 0)) (fun v30 w => 
 oCond v30 (k9 v30 w)
 (oP Try.prog (Instr.fieldAt 68 v1 4) (fun v31 w => 
 oR Try.prog (Instr.loadAt 54 v31) (fun v32 w => 
 oP Try.prog (Instr.fieldAt 68 v1 5) (fun v33 w => 
 oR Try.prog (Instr.loadAt 3 v33) (fun v34 w => 
 oC Try.prog (EP R) 104 #[v32, v34] (fun v35 w => 
 oP Try.prog (Op.unary .not v35) (fun v36 w => 
 k9 v36 w) w) w) w) w) w) w)) w) w) w) w)) w) w) w) w)) w) w) w) w) w) w) w) w)) w) w) w) w) w)
 (fun _ s10 w =>
 oCond s10 (R (.returned (.int .i64 10)) w)
 (R (.returned (.int .i64 0)) w)))) w) w) w) w) w) w) w) w
theorem e_cap_Check (x0 : Value) (R : Ending → World → Prop) (w : World) : dFn Try.prog Try.f70 p_cap_Check R [x0] w = h_cap_Check x0 R w := by kernel_rfl
theorem c_cap_Check {x0 : Value} {R : Ending → World → Prop} {w : World} (h : h_cap_Check x0 R w) : Calls Try.prog 70 #[x0] w R :=
  calls_of_dFn (by kernel_rfl) (by kernel_rfl) (by kernel_rfl : fnOk Try.prog Try.f70 p_cap_Check 1 = true) ((e_cap_Check x0 R w).mpr h)

/-- (*donjon/tree.Tree).add · t:0, s:1, parent:2 -/
def p_tree_Tree_add : Pl := .seq (.leaf) (.seq (.seq (.leaf) (.cond (.seq (.leaf) (.leaf)) (.leaf))) (.seq (.leaf) (.seq (.reg (.leaf [0, 1, 2, 5, 3, 4, 6] [[], [0], [1], [2], [], [], [3, 4, 5]])) (.seq (.seq (.leaf) (.cond (.leaf) (.leaf))) (.seq (.leaf) (.leaf))))))
def h_tree_Tree_add (x0 x1 x2 : Value) (R : Ending → World → Prop) (w : World) : Prop :=
 oV Try.prog (EP R) (Instr.box 66 x1) (fun v1 w => 
 oR Try.prog (Instr.loadAt 66 v1) (fun v2 w => 
 oC Try.prog (EP R) 105 #[x0, v2] (fun v3 w => 
 oCond v3 (R (.returned (.int .i64 4)) w)
 (oR Try.prog (Instr.loadAt 66 v1) (fun v4 w => 
 oP Try.prog (Instr.build 193 #[(0, v4), (1, x2)]) (fun v5 w => 
 oV Try.prog (EP R) (Instr.box 193 v5) (fun v6 w => 
 oDraw (fun w => oNil x0 (fun v7 w => 
 oP Try.prog (Instr.fieldAt 177 v7 0) (fun v8 w => 
 oR Try.prog (Instr.loadAt 175 v8) (fun v9 w => 
 oR Try.prog (Instr.loadAt 66 v1) (fun v10 w => 
 oS Try.prog (EP R) (Instr.mapUpdate 175 v9 v10 v6) (fun v11 w => 
 oP Try.prog (bsem .neq 189 true x2 (.pointer none)) (fun v12 w => 
 oCond v12 (oNil x2 (fun v13 w => 
 oP Try.prog (Instr.fieldAt 193 v13 2) (fun v14 w => 
 oR Try.prog (Instr.loadAt 190 v14) (fun v15 w => 
 oV Try.prog (EP R) (Instr.buildSlice 190 1 #[(0, v6)]) (fun v16 w => 
 oV Try.prog (EP R) (Builtin.append_ #[190, 190] 190 #[v15, v16]) (fun v17 w => 
 oNil x2 (fun v18 w => 
 oP Try.prog (Instr.fieldAt 193 v18 2) (fun v19 w => 
 oS Try.prog (EP R) (Instr.storeAt 190 v19 v17) (fun v20 w => 
 R (.returned (.int .i64 0)) w) w) w) w) w) w) w) w) w)
 (R (.returned (.int .i64 0)) w)) w) w) w) w) w) w) w) w) w) w)) w) w) w
theorem e_tree_Tree_add (x0 x1 x2 : Value) (R : Ending → World → Prop) (w : World) : dFn Try.prog Try.f71 p_tree_Tree_add R [x0, x1, x2] w = h_tree_Tree_add x0 x1 x2 R w := by kernel_rfl
theorem c_tree_Tree_add {x0 x1 x2 : Value} {R : Ending → World → Prop} {w : World} (h : h_tree_Tree_add x0 x1 x2 R w) : Calls Try.prog 71 #[x0, x1, x2] w R :=
  calls_of_dFn (by kernel_rfl) (by kernel_rfl) (by kernel_rfl : fnOk Try.prog Try.f71 p_tree_Tree_add 3 = true) ((e_tree_Tree_add x0 x1 x2 R w).mpr h)

/-- slices.Clone[[]donjon/api.Slot,donjon/api.Slot] · s:0 -/
def p_slices_Clone_api_Slot : Pl := .seq (.leaf) (.seq (.seq (.leaf) (.cond (.seq (.leaf) (.leaf)) (.leaf))) (.seq (.leaf) (.leaf)))
def h_slices_Clone_api_Slot (x0 : Value) (R : Ending → World → Prop) (w : World) : Prop :=
 oP Try.prog (bsem .eql 72 true x0 (.slice none 0 0)) (fun v1 w => 
 oCond v1 (R (.returned (.slice none 0 0)) w)
 (oV Try.prog (EP R) (Instr.buildSlice 72 0 #[]) (fun v2 w => 
 oV Try.prog (EP R) (Builtin.append_ #[72, 72] 72 #[v2, x0]) (fun v3 w => 
 R (.returned v3) w) w) w)) w
theorem e_slices_Clone_api_Slot (x0 : Value) (R : Ending → World → Prop) (w : World) : dFn Try.prog Try.f73 p_slices_Clone_api_Slot R [x0] w = h_slices_Clone_api_Slot x0 R w := by kernel_rfl
theorem c_slices_Clone_api_Slot {x0 : Value} {R : Ending → World → Prop} {w : World} (h : h_slices_Clone_api_Slot x0 R w) : Calls Try.prog 73 #[x0] w R :=
  calls_of_dFn (by kernel_rfl) (by kernel_rfl) (by kernel_rfl : fnOk Try.prog Try.f73 p_slices_Clone_api_Slot 1 = true) ((e_slices_Clone_api_Slot x0 R w).mpr h)

/-- (*donjon/revoke.taker).inner · t:0, node:1, but:2 -/
def p_revoke_taker_inner : Pl := .seq (.leaf) (.seq (.leaf) (.seq (.seq (.leaf) (.cond (.seq (.leaf) (.leaf)) (.leaf))) (.seq (.seq (.leaf) (.block (.loop [26] [7, 9, 10, 26, 27, 28, 29, 30, 31, 32, 33, 34, 35, 36, 37, 38, 39, 40, 41, 42, 43, 44] (.seq (.leaf) (.seq (.cond (.leaf) (.leaf)) (.seq (.block (.seq (.leaf) (.seq (.leaf) (.seq (.leaf) (.cond (.seq (.leaf) (.leaf)) (.leaf)))))) (.leaf))))))) (.seq (.leaf) (.leaf)))))
def h_revoke_taker_inner (x0 x1 x2 : Value) (R : Ending → World → Prop) (w : World) : Prop :=
 oV Try.prog (EP R) (Instr.alloc 66 true (.tuple #[])) (fun v1 w => 
 oNil x0 (fun v2 w => 
 oP Try.prog (Instr.fieldAt 143 v2 0) (fun v3 w => 
 oR Try.prog (Instr.loadAt 55 v3) (fun v4 w => 
 oNil v4 (fun v5 w => 
 oP Try.prog (Instr.fieldAt 63 v5 0) (fun v6 w => 
 oP Try.prog (Instr.fieldAt 60 v6 0) (fun v7 w => 
 oR Try.prog (Instr.loadAt 58 v7) (fun v8 w => 
 oC Try.prog (EP R) 21 #[v8, x1] (fun v9 w => 
 oP Try.prog (bsem .eql 3 true v9 (.int .i64 0)) (fun v10 w => 
 oCond v10 (oP Try.prog (Instr.build 66 #[]) (fun v11 w => 
 oS Try.prog (EP R) (Instr.storeAt 66 v1 v11) (fun v12 w => 
 oR Try.prog (resSem 66 v1) (fun v13 w => R (.returned (.tuple #[v13, (.bool false)])) w) w) w) w)
 (oP Try.prog (bsem .shl 3 true (.int .i64 1) v9) (fun v14 w => 
 oLoop (σ := Value) (fun _ s16 n15 w =>
 oP Try.prog (bsem .lss 3 false s16 v14) (fun v17 w => 
 oCond v17 (oP Try.prog (Instr.build 66 #[(0, x1), (1, s16)]) (fun v18 w => 
 oV Try.prog (EP R) (Instr.alloc 66 true (.tuple #[])) (fun v19 w => 
 oS Try.prog (EP R) (Instr.storeAt 66 v19 v18) (fun v20 w => 
 oR Try.prog (Instr.loadAt 66 v19) (fun v21 w => 
 oC Try.prog (EP R) 106 #[x2, v21] (fun v22 w => 
 oP Try.prog (Op.unary .not v22) (fun v23 w => 
 oGk (gb true v23) (fun k w => k x0 w) (fun v24 w =>
 oGk (gb true v23) (oR Try.prog (Instr.loadAt 66 v19)) (fun v25 w =>
 oGk (gb true v23) (oC Try.prog (EP R) 54 #[v24, v25]) (fun v26 w =>
 oGk (gb true v23) (oP Try.prog (Instr.field 68 v26 0)) (fun v27 w =>
 oGk (gb true v23) (oP Try.prog (bsem .neq 3 true v27 (.int .i64 0))) (fun v28 w =>
 oPick v23 v28 (.bool false) (fun v29 w => 
 oCond v29 (oR Try.prog (Instr.loadAt 66 v19) (fun v30 w => 
 oS Try.prog (EP R) (Instr.storeAt 66 v1 v30) (fun v31 w => 
 oR Try.prog (resSem 66 v1) (fun v32 w => R (.returned (.tuple #[v32, (.bool true)])) w) w) w) w)
 (oP Try.prog (bsem .add 3 true s16 (.int .i64 1)) (fun v33 w => 
 n15 v33 w) w)) w) w) w) w) w) w) w) w) w) w) w) w)
 (oP Try.prog (Instr.build 66 #[]) (fun v34 w => 
 oS Try.prog (EP R) (Instr.storeAt 66 v1 v34) (fun v35 w => 
 oR Try.prog (resSem 66 v1) (fun v36 w => R (.returned (.tuple #[v36, (.bool false)])) w) w) w) w)) w)
 (.int .i64 0) w) w)) w) w) w) w) w) w) w) w) w) w
theorem e_revoke_taker_inner (x0 x1 x2 : Value) (R : Ending → World → Prop) (w : World) : dFn Try.prog Try.f74 p_revoke_taker_inner R [x0, x1, x2] w = h_revoke_taker_inner x0 x1 x2 R w := by kernel_rfl
theorem c_revoke_taker_inner {x0 x1 x2 : Value} {R : Ending → World → Prop} {w : World} (h : h_revoke_taker_inner x0 x1 x2 R w) : Calls Try.prog 74 #[x0, x1, x2] w R :=
  calls_of_dFn (by kernel_rfl) (by kernel_rfl) (by kernel_rfl : fnOk Try.prog Try.f74 p_revoke_taker_inner 3 = true) ((e_revoke_taker_inner x0 x1 x2 R w).mpr h)

/-- (*donjon/revoke.taker).step · t:0, at:1 -/
def p_revoke_taker_step : Pl := .seq (.leaf) (.jseq [] [7, 8, 9, 10, 11, 12, 13] (.seq (.leaf) (.cond (.leaf) (.leaf))) (.seq (.leaf) (.seq (.reg (.leaf [0, 1, 2, 3, 4, 5, 6] [[], [0], [1], [2], [], [3, 4], [5]])) (.jseq [5] [5, 6, 27, 28, 29, 30, 31, 32, 33, 34, 35] (.reg (.split 5 9 (.leaf [0, 1, 2, 3, 4, 5, 6, 7, 8, 9, 10, 11] [[], [0], [1], [2], [], [3, 4], [5], [5, 6], [5, 6], [3, 4, 5], [3, 4, 5, 7, 9], [5, 8, 9, 10]]) (.leaf [0, 1, 2, 3, 4, 9, 5, 6, 7, 8, 10, 11] [[], [0], [1], [2], [], [3, 4, 9], [5, 9], [5, 6, 9], [5, 6, 9], [], [3, 4, 5, 7, 9], [5, 8, 9, 10]]))) (.seq (.seq (.leaf) (.cond (.leaf) (.leaf))) (.seq (.reg (.leaf [0, 1, 2, 3, 4, 5, 6, 7, 8, 9, 10] [[], [], [1], [2], [3], [], [5], [4, 5, 6], [0, 6, 7], [6, 7, 8], [4, 5, 6, 7, 9]])) (.seq (.leaf) (.cond (.reg (.leaf [0, 1, 2, 7, 3, 4, 5, 6, 8, 9] [[], [0], [1], [2], [3], [3, 4], [3, 5], [], [7], [3, 6, 8]])) (.leaf)))))))))
def h_revoke_taker_step (x0 x1 : Value) (R : Ending → World → Prop) (w : World) : Prop :=
 oV Try.prog (EP R) (Instr.box 66 x1) (fun v1 w => 
 oJoin (σ := Unit) (fun k2 =>
 oNil x0 (fun v4 w => 
 oP Try.prog (Instr.fieldAt 143 v4 1) (fun v5 w => 
 oR Try.prog (Instr.loadAt 3 v5) (fun v6 w => 
 oP Try.prog (bsem .eql 3 true v6 (.int .i64 0)) (fun v7 w => 
 oCond v7 (oP Try.prog (Instr.build 180 #[]) (fun v8 w => 
 oP Try.prog (Instr.makeInterface 180 v8) (fun v9 w => 
 oV Try.prog (EP R) (Instr.panic v9) (fun v10 w => 
 k2 () w) w) w) w)
 (k2 () w)) w) w) w) w)
 (fun _ s3 w =>
 oNil x0 (fun v11 w => 
 oP Try.prog (Instr.fieldAt 143 v11 1) (fun v12 w => 
 oR Try.prog (Instr.loadAt 3 v12) (fun v13 w => 
 oP Try.prog (bsem .sub 3 true v13 (.int .i64 1)) (fun v14 w => 
 oNil x0 (fun v15 w => 
 oP Try.prog (Instr.fieldAt 143 v15 1) (fun v16 w => 
 oS Try.prog (EP R) (Instr.storeAt 3 v16 v14) (fun v17 w => 
 oDraw (fun w => oNil x0 (fun v18 w => 
 oP Try.prog (Instr.fieldAt 143 v18 0) (fun v19 w => 
 oR Try.prog (Instr.loadAt 55 v19) (fun v20 w => 
 oR Try.prog (Instr.loadAt 66 v1) (fun v21 w => 
 oC Try.prog (EP R) 24 #[v20, v21] (fun v22 w => 
 oJoin (σ := Value) (fun k23 =>
 oDraw (fun w => (oNil x0 (fun v25 w => 
 oP Try.prog (Instr.fieldAt 143 v25 0) (fun v26 w => 
 oR Try.prog (Instr.loadAt 55 v26) (fun v27 w => 
 oR Try.prog (Instr.loadAt 66 v1) (fun v28 w => 
 oC Try.prog (EP R) 107 #[v27, v28] (fun v29 w => 
 oP Try.prog (Instr.extract v29 0) (fun v30 w => 
 oP Try.prog (Instr.extract v29 1) (fun v31 w => 
 oV Try.prog (EP R) (Instr.alloc 68 true (.tuple #[])) (fun v32 w => 
 oS Try.prog (EP R) (Instr.storeAt 68 v32 v30) (fun v33 w => 
 k23 v32 w) w) w) w) w) w) w) w) w) w) ∧ (oNil x0 (fun v34 w => 
 oP Try.prog (Instr.fieldAt 143 v34 0) (fun v35 w => 
 oR Try.prog (Instr.loadAt 55 v35) (fun v36 w => 
 oR Try.prog (Instr.loadAt 66 v1) (fun v37 w => 
 oV Try.prog (EP R) (Instr.alloc 68 true (.tuple #[])) (fun v38 w => oRd true Try.prog (Instr.loadAt 66 v1) v37 w ∧ oRd true Try.prog (Instr.loadAt 55 v35) v36 w ∧ 
 oC Try.prog (EP R) 107 #[v36, v37] (fun v39 w => 
 oP Try.prog (Instr.extract v39 0) (fun v40 w => 
 oP Try.prog (Instr.extract v39 1) (fun v41 w => 
 oS Try.prog (EP R) (Instr.storeAt 68 v38 v40) (fun v42 w => 
 k23 v38 w) w) w) w) w) w) w) w) w) w)) w)
 (fun _ s24 w =>
 oP Try.prog (Op.unary .not v22) (fun v43 w => 
 oCond v43 (R (.returned (.tuple #[])) w)
 (oDraw (fun w => oNil x0 (fun v44 w => 
 oP Try.prog (Instr.fieldAt 143 v44 2) (fun v45 w => 
 oR Try.prog (Instr.loadAt 69 v45) (fun v46 w => 
 oR Try.prog (Instr.loadAt 68 s24) (fun v47 w => 
 oV Try.prog (EP R) (Instr.buildSlice 69 1 #[(0, v47)]) (fun v48 w => oRd true Try.prog (Instr.loadAt 69 v45) v46 w ∧ 
 oV Try.prog (EP R) (Builtin.append_ #[69, 69] 69 #[v46, v48]) (fun v49 w => 
 oNil x0 (fun v50 w => 
 oP Try.prog (Instr.fieldAt 143 v50 2) (fun v51 w => 
 oS Try.prog (EP R) (Instr.storeAt 69 v51 v49) (fun v52 w => 
 oP Try.prog (Instr.fieldAt 68 s24 0) (fun v53 w => 
 oR Try.prog (Instr.loadAt 3 v53) (fun v54 w => 
 oP Try.prog (bsem .eql 3 true v54 (.int .i64 2)) (fun v55 w => 
 oCond v55 (oDraw (fun w => oNil x0 (fun v56 w => 
 oP Try.prog (Instr.fieldAt 143 v56 0) (fun v57 w => 
 oP Try.prog (Instr.fieldAt 68 s24 1) (fun v58 w => 
 oR Try.prog (Instr.loadAt 55 v57) (fun v59 w => 
 oNil v59 (fun v60 w => 
 oP Try.prog (Instr.fieldAt 63 v60 0) (fun v61 w => 
 oR Try.prog (Instr.loadAt 60 v61) (fun v62 w => 
 oR Try.prog (Instr.loadAt 3 v58) (fun v63 w => 
 oC Try.prog (EP R) 108 #[v62, v63] (fun v64 w => 
 R (.returned (.tuple #[])) w) w) w) w) w) w) w) w) w) w) w)
 (R (.returned (.tuple #[])) w)) w) w) w) w) w) w) w) w) w) w) w) w) w)) w)) w) w) w) w) w) w) w) w) w) w) w) w) w)) w
theorem e_revoke_taker_step (x0 x1 : Value) (R : Ending → World → Prop) (w : World) : dFn Try.prog Try.f75 p_revoke_taker_step R [x0, x1] w = h_revoke_taker_step x0 x1 R w := by kernel_rfl
theorem c_revoke_taker_step {x0 x1 : Value} {R : Ending → World → Prop} {w : World} (h : h_revoke_taker_step x0 x1 R w) : Calls Try.prog 75 #[x0, x1] w R :=
  calls_of_dFn (by kernel_rfl) (by kernel_rfl) (by kernel_rfl : fnOk Try.prog Try.f75 p_revoke_taker_step 2 = true) ((e_revoke_taker_step x0 x1 R w).mpr h)

/-- (*donjon/moves.Caps).both · c:0, src:1, dst:2 -/
def p_moves_Caps_both : Pl := .seq (.leaf) (.seq (.leaf) (.jseq [9] [9, 16, 17, 18, 19, 20] (.seq (.leaf) (.cond (.leaf) (.leaf))) (.seq (.leaf) (.leaf))))
def h_moves_Caps_both (x0 x1 x2 : Value) (R : Ending → World → Prop) (w : World) : Prop :=
 oV Try.prog (EP R) (Instr.box 66 x1) (fun v1 w => 
 oV Try.prog (EP R) (Instr.box 66 x2) (fun v2 w => 
 oV Try.prog (EP R) (Instr.alloc 68 true (.tuple #[])) (fun v3 w => 
 oR Try.prog (Instr.loadAt 66 v1) (fun v4 w => 
 oC Try.prog (EP R) 109 #[x0, v4] (fun v5 w => 
 oP Try.prog (Instr.extract v5 0) (fun v6 w => 
 oP Try.prog (Instr.extract v5 1) (fun v7 w => 
 oV Try.prog (EP R) (Instr.alloc 68 true (.tuple #[])) (fun v8 w => 
 oS Try.prog (EP R) (Instr.storeAt 68 v8 v6) (fun v9 w => 
 oJoin (σ := Value) (fun k10 =>
 oP Try.prog (bsem .eql 42 true v7 (.int .i64 0)) (fun v12 w => 
 oCond v12 (oR Try.prog (Instr.loadAt 66 v2) (fun v13 w => 
 oC Try.prog (EP R) 110 #[x0, v13] (fun v14 w => 
 k10 v14 w) w) w)
 (k10 v7 w)) w)
 (fun _ s11 w =>
 oR Try.prog (Instr.loadAt 68 v8) (fun v15 w => 
 oS Try.prog (EP R) (Instr.storeAt 68 v3 v15) (fun v16 w => 
 oR Try.prog (resSem 68 v3) (fun v17 w => R (.returned (.tuple #[v17, s11])) w) w) w) w)) w) w) w) w) w) w) w) w) w
theorem e_moves_Caps_both (x0 x1 x2 : Value) (R : Ending → World → Prop) (w : World) : dFn Try.prog Try.f76 p_moves_Caps_both R [x0, x1, x2] w = h_moves_Caps_both x0 x1 x2 R w := by kernel_rfl
theorem c_moves_Caps_both {x0 x1 x2 : Value} {R : Ending → World → Prop} {w : World} (h : h_moves_Caps_both x0 x1 x2 R w) : Calls Try.prog 76 #[x0, x1, x2] w R :=
  calls_of_dFn (by kernel_rfl) (by kernel_rfl) (by kernel_rfl : fnOk Try.prog Try.f76 p_moves_Caps_both 3 = true) ((e_moves_Caps_both x0 x1 x2 R w).mpr h)

/-- donjon/cap.Derive · c:0, r:1, badge:2, guard:3, n:4 -/
def p_cap_Derive : Pl := .seq (.leaf) (.seq (.seq (.leaf) (.seq (.leaf) (.cond (.seq (.leaf) (.leaf)) (.leaf)))) (.seq (.seq (.leaf) (.block (.seq (.leaf) (.cond (.seq (.leaf) (.leaf)) (.jseq [24] [24, 25, 26, 27] (.seq (.leaf) (.cond (.leaf) (.seq (.leaf) (.cond (.leaf) (.leaf))))) (.cond (.seq (.leaf) (.leaf)) (.leaf))))))) (.seq (.seq (.leaf) (.cond (.seq (.leaf) (.leaf)) (.leaf))) (.jseq [] [11, 33, 34, 35, 36, 37, 38, 39, 40, 41, 42, 43, 44, 45, 46, 47, 48, 49, 50, 51, 52, 53, 54, 55, 56, 57, 58, 59, 60, 61, 62, 63, 64, 65, 66, 67, 68, 69, 70, 71, 72, 73] (.seq (.leaf) (.block (.seq (.leaf) (.cond (.leaf) (.seq (.leaf) (.cond (.seq (.seq (.leaf) (.cond (.seq (.leaf) (.leaf)) (.leaf))) (.leaf)) (.jseq [53] [53, 54, 55] (.seq (.leaf) (.cond (.leaf) (.leaf))) (.cond (.seq (.leaf) (.jseq [] [11, 61, 62, 63, 64, 65, 66, 67, 68] (.seq (.leaf) (.cond (.seq (.seq (.leaf) (.cond (.seq (.leaf) (.leaf)) (.leaf))) (.leaf)) (.leaf))) (.seq (.leaf) (.cond (.seq (.leaf) (.leaf)) (.leaf))))) (.leaf))))))))) (.seq (.leaf) (.leaf))))))
def h_cap_Derive (x0 x1 x2 x3 x4 : Value) (R : Ending → World → Prop) (w : World) : Prop :=
 oV Try.prog (EP R) (Instr.box 68 x0) (fun v1 w => 
 oV Try.prog (EP R) (Instr.alloc 68 true (.tuple #[])) (fun v2 w => 
 oR Try.prog (Instr.loadAt 68 v1) (fun v3 w => 
 oC Try.prog (EP R) 70 #[v3] (fun v4 w => 
 oP Try.prog (bsem .neq 42 true v4 (.int .i64 0)) (fun v5 w => 
 oCond v5 (oP Try.prog (Instr.build 68 #[]) (fun v6 w => 
 oS Try.prog (EP R) (Instr.storeAt 68 v2 v6) (fun v7 w => 
 oR Try.prog (resSem 68 v2) (fun v8 w => R (.returned (.tuple #[v8, v4])) w) w) w) w)
 (oP Try.prog (Instr.fieldAt 68 v1 0) (fun v9 w => 
 oR Try.prog (Instr.loadAt 3 v9) (fun v10 w => 
 oP Try.prog (bsem .eql 3 true v10 (.int .i64 0)) (fun v11 w => 
 oCond v11 (oP Try.prog (Instr.build 68 #[]) (fun v12 w => 
 oS Try.prog (EP R) (Instr.storeAt 68 v2 v12) (fun v13 w => 
 oR Try.prog (resSem 68 v2) (fun v14 w => R (.returned (.tuple #[v14, (.int .i64 3)])) w) w) w) w)
 (oJoin (σ := Value) (fun k15 =>
 oP Try.prog (bsem .eql 3 true v10 (.int .i64 1)) (fun v17 w => 
 oCond v17 (k15 v17 w)
 (oP Try.prog (bsem .eql 3 true v10 (.int .i64 10)) (fun v18 w => 
 oCond v18 (k15 v18 w)
 (oP Try.prog (bsem .eql 3 true v10 (.int .i64 11)) (fun v19 w => 
 k15 v19 w) w)) w)) w)
 (fun _ s16 w =>
 oCond s16 (oP Try.prog (Instr.build 68 #[]) (fun v20 w => 
 oS Try.prog (EP R) (Instr.storeAt 68 v2 v20) (fun v21 w => 
 oR Try.prog (resSem 68 v2) (fun v22 w => R (.returned (.tuple #[v22, (.int .i64 2)])) w) w) w) w)
 (oC Try.prog (EP R) 103 #[x1] (fun v23 w => 
 oP Try.prog (Op.unary .not v23) (fun v24 w => 
 oCond v24 (oP Try.prog (Instr.build 68 #[]) (fun v25 w => 
 oS Try.prog (EP R) (Instr.storeAt 68 v2 v25) (fun v26 w => 
 oR Try.prog (resSem 68 v2) (fun v27 w => R (.returned (.tuple #[v27, (.int .i64 5)])) w) w) w) w)
 (oJoin (σ := Unit) (fun k28 =>
 oP Try.prog (Instr.fieldAt 68 v1 0) (fun v30 w => 
 oR Try.prog (Instr.loadAt 3 v30) (fun v31 w => 
 oP Try.prog (bsem .eql 3 true v31 (.int .i64 6)) (fun v32 w => 
 oCond v32 (oP Try.prog (Instr.fieldAt 68 v1 2) (fun v33 w => 
 oR Try.prog (Instr.loadAt 3 v33) (fun v34 w => 
 oC Try.prog (EP R) 111 #[v34, x1] (fun v35 w => 
 oP Try.prog (Instr.fieldAt 68 v1 2) (fun v36 w => 
 oS Try.prog (EP R) (Instr.storeAt 3 v36 v35) (fun v37 w => 
 k28 () w) w) w) w) w) w)
 (oP Try.prog (bsem .eql 3 true v31 (.int .i64 2)) (fun v38 w => 
 oCond v38 (oC Try.prog (EP R) 104 #[x3, x4] (fun v39 w => 
 oP Try.prog (Op.unary .not v39) (fun v40 w => 
 oCond v40 (oP Try.prog (Instr.build 68 #[]) (fun v41 w => 
 oS Try.prog (EP R) (Instr.storeAt 68 v2 v41) (fun v42 w => 
 oR Try.prog (resSem 68 v2) (fun v43 w => R (.returned (.tuple #[v43, (.int .i64 10)])) w) w) w) w)
 (oP Try.prog (Instr.fieldAt 68 v1 4) (fun v44 w => 
 oS Try.prog (EP R) (Instr.storeAt 54 v44 x3) (fun v45 w => 
 oP Try.prog (Instr.fieldAt 68 v1 5) (fun v46 w => 
 oS Try.prog (EP R) (Instr.storeAt 3 v46 x4) (fun v47 w => 
 k28 () w) w) w) w) w)) w) w)
 (oJoin (σ := Value) (fun k48 =>
 oP Try.prog (bsem .eql 3 true v31 (.int .i64 4)) (fun v50 w => 
 oCond v50 (k48 v50 w)
 (oP Try.prog (bsem .eql 3 true v31 (.int .i64 5)) (fun v51 w => 
 k48 v51 w) w)) w)
 (fun _ s49 w =>
 oCond s49 (oP Try.prog (Instr.fieldAt 68 v1 2) (fun v52 w => 
 oR Try.prog (Instr.loadAt 3 v52) (fun v53 w => 
 oC Try.prog (EP R) 111 #[v53, x1] (fun v54 w => 
 oP Try.prog (Instr.fieldAt 68 v1 2) (fun v55 w => 
 oS Try.prog (EP R) (Instr.storeAt 3 v55 v54) (fun v56 w => 
 oJoin (σ := Unit) (fun k57 =>
 oP Try.prog (bsem .neq 54 true x2 (.int .u64 0)) (fun v59 w => 
 oCond v59 (oP Try.prog (Instr.fieldAt 68 v1 3) (fun v60 w => 
 oR Try.prog (Instr.loadAt 54 v60) (fun v61 w => 
 oP Try.prog (bsem .neq 54 true v61 (.int .u64 0)) (fun v62 w => 
 oCond v62 (oP Try.prog (Instr.build 68 #[]) (fun v63 w => 
 oS Try.prog (EP R) (Instr.storeAt 68 v2 v63) (fun v64 w => 
 oR Try.prog (resSem 68 v2) (fun v65 w => R (.returned (.tuple #[v65, (.int .i64 8)])) w) w) w) w)
 (oP Try.prog (Instr.fieldAt 68 v1 3) (fun v66 w => 
 oS Try.prog (EP R) (Instr.storeAt 54 v66 x2) (fun v67 w => 
 k57 () w) w) w)) w) w) w)
 (k57 () w)) w)
 (fun _ s58 w =>
 oP Try.prog (Instr.fieldAt 68 v1 3) (fun v68 w => 
 oR Try.prog (Instr.loadAt 54 v68) (fun v69 w => 
 oP Try.prog (bsem .shr 54 true v69 (.int .u64 28)) (fun v70 w => 
 oP Try.prog (bsem .neq 54 true v70 (.int .u64 0)) (fun v71 w => 
 oCond v71 (oP Try.prog (Instr.build 68 #[]) (fun v72 w => 
 oS Try.prog (EP R) (Instr.storeAt 68 v2 v72) (fun v73 w => 
 oR Try.prog (resSem 68 v2) (fun v74 w => R (.returned (.tuple #[v74, (.int .i64 10)])) w) w) w) w)
 (k28 () w)) w) w) w) w)) w) w) w) w) w)
 (k28 () w)))) w)) w) w) w)
 (fun _ s29 w =>
 oR Try.prog (Instr.loadAt 68 v1) (fun v75 w => 
 oS Try.prog (EP R) (Instr.storeAt 68 v2 v75) (fun v76 w => 
 oR Try.prog (resSem 68 v2) (fun v77 w => R (.returned (.tuple #[v77, (.int .i64 0)])) w) w) w) w))) w) w)))) w) w) w)) w) w) w) w) w
theorem e_cap_Derive (x0 x1 x2 x3 x4 : Value) (R : Ending → World → Prop) (w : World) : dFn Try.prog Try.f77 p_cap_Derive R [x0, x1, x2, x3, x4] w = h_cap_Derive x0 x1 x2 x3 x4 R w := by kernel_rfl
theorem c_cap_Derive {x0 x1 x2 x3 x4 : Value} {R : Ending → World → Prop} {w : World} (h : h_cap_Derive x0 x1 x2 x3 x4 R w) : Calls Try.prog 77 #[x0, x1, x2, x3, x4] w R :=
  calls_of_dFn (by kernel_rfl) (by kernel_rfl) (by kernel_rfl : fnOk Try.prog Try.f77 p_cap_Derive 5 = true) ((e_cap_Derive x0 x1 x2 x3 x4 R w).mpr h)

/-- (*donjon/moves.Caps).Child · c:0, of:1, at:2, x:3 -/
def p_moves_Caps_Child : Pl := .seq (.leaf) (.seq (.seq (.leaf) (.seq (.leaf) (.cond (.seq (.leaf) (.leaf)) (.leaf)))) (.seq (.reg (.leaf [0, 1, 2, 3, 4, 5, 6, 7, 8] [[], [0], [1], [2], [3], [], [], [4, 5, 6], [7]])) (.seq (.seq (.leaf) (.cond (.reg (.leaf [0, 1, 2, 3, 4, 5, 6] [[], [0], [1], [2], [], [], [3, 4, 5]])) (.leaf))) (.seq (.leaf) (.leaf)))))
def h_moves_Caps_Child (x0 x1 x2 x3 : Value) (R : Ending → World → Prop) (w : World) : Prop :=
 oV Try.prog (EP R) (Instr.box 66 x1) (fun v1 w => 
 oV Try.prog (EP R) (Instr.box 66 x2) (fun v2 w => 
 oV Try.prog (EP R) (Instr.box 68 x3) (fun v3 w => 
 oR Try.prog (Instr.loadAt 66 v1) (fun v4 w => 
 oR Try.prog (Instr.loadAt 66 v2) (fun v5 w => 
 oC Try.prog (EP R) 76 #[x0, v4, v5] (fun v6 w => 
 oP Try.prog (Instr.extract v6 0) (fun v7 w => 
 oP Try.prog (Instr.extract v6 1) (fun v8 w => 
 oV Try.prog (EP R) (Instr.alloc 68 true (.tuple #[])) (fun v9 w => 
 oS Try.prog (EP R) (Instr.storeAt 68 v9 v7) (fun v10 w => 
 oP Try.prog (bsem .neq 42 true v8 (.int .i64 0)) (fun v11 w => 
 oCond v11 (R (.returned v8) w)
 (oDraw (fun w => oNil x0 (fun v12 w => 
 oP Try.prog (Instr.fieldAt 63 v12 0) (fun v13 w => 
 oP Try.prog (Instr.fieldAt 60 v13 0) (fun v14 w => 
 oR Try.prog (Instr.loadAt 58 v14) (fun v15 w => 
 oR Try.prog (Instr.loadAt 66 v2) (fun v16 w => 
 oR Try.prog (Instr.loadAt 68 v3) (fun v17 w => 
 oC Try.prog (EP R) 46 #[v15, v16, v17] (fun v18 w => 
 oP Try.prog (bsem .eql 42 true v18 (.int .i64 0)) (fun v19 w => 
 oCond v19 (oDraw (fun w => oNil x0 (fun v20 w => 
 oP Try.prog (Instr.fieldAt 63 v20 1) (fun v21 w => 
 oR Try.prog (Instr.loadAt 61 v21) (fun v22 w => 
 oR Try.prog (Instr.loadAt 66 v1) (fun v23 w => 
 oR Try.prog (Instr.loadAt 66 v2) (fun v24 w => 
 oC Try.prog (EP R) 112 #[v22, v23, v24] (fun v25 w => 
 R (.returned v18) w) w) w) w) w) w) w) w)
 (R (.returned v18) w)) w) w) w) w) w) w) w) w) w)) w) w) w) w) w) w) w) w) w) w) w
theorem e_moves_Caps_Child (x0 x1 x2 x3 : Value) (R : Ending → World → Prop) (w : World) : dFn Try.prog Try.f78 p_moves_Caps_Child R [x0, x1, x2, x3] w = h_moves_Caps_Child x0 x1 x2 x3 R w := by kernel_rfl
theorem c_moves_Caps_Child {x0 x1 x2 x3 : Value} {R : Ending → World → Prop} {w : World} (h : h_moves_Caps_Child x0 x1 x2 x3 R w) : Calls Try.prog 78 #[x0, x1, x2, x3] w R :=
  calls_of_dFn (by kernel_rfl) (by kernel_rfl) (by kernel_rfl : fnOk Try.prog Try.f78 p_moves_Caps_Child 4 = true) ((e_moves_Caps_Child x0 x1 x2 x3 R w).mpr h)

/-- (*donjon/moves.Caps).carry · c:0, src:1, dst:2, x:3 -/
def p_moves_Caps_carry : Pl := .seq (.leaf) (.seq (.reg (.leaf [0, 1, 2, 3, 4, 5, 6] [[], [0], [1], [2], [3], [], [4, 5]])) (.seq (.reg (.leaf [0, 1, 2, 3, 4, 5, 6, 7] [[], [0], [1], [2], [3], [], [], [4, 5, 6]])) (.reg (.leaf [0, 1, 2, 3, 4, 5, 6] [[], [0], [1], [2], [], [], [3, 4, 5]]))))
def h_moves_Caps_carry (x0 x1 x2 x3 : Value) (R : Ending → World → Prop) (w : World) : Prop :=
 oV Try.prog (EP R) (Instr.box 66 x1) (fun v1 w => 
 oV Try.prog (EP R) (Instr.box 66 x2) (fun v2 w => 
 oV Try.prog (EP R) (Instr.box 68 x3) (fun v3 w => 
 oDraw (fun w => oNil x0 (fun v4 w => 
 oP Try.prog (Instr.fieldAt 63 v4 0) (fun v5 w => 
 oP Try.prog (Instr.fieldAt 60 v5 0) (fun v6 w => 
 oR Try.prog (Instr.loadAt 58 v6) (fun v7 w => 
 oR Try.prog (Instr.loadAt 66 v1) (fun v8 w => 
 oC Try.prog (EP R) 113 #[v7, v8] (fun v9 w => 
 oDraw (fun w => oNil x0 (fun v10 w => 
 oP Try.prog (Instr.fieldAt 63 v10 0) (fun v11 w => 
 oP Try.prog (Instr.fieldAt 60 v11 0) (fun v12 w => 
 oR Try.prog (Instr.loadAt 58 v12) (fun v13 w => 
 oR Try.prog (Instr.loadAt 66 v2) (fun v14 w => 
 oR Try.prog (Instr.loadAt 68 v3) (fun v15 w => 
 oC Try.prog (EP R) 46 #[v13, v14, v15] (fun v16 w => 
 oDraw (fun w => oNil x0 (fun v17 w => 
 oP Try.prog (Instr.fieldAt 63 v17 1) (fun v18 w => 
 oR Try.prog (Instr.loadAt 61 v18) (fun v19 w => 
 oR Try.prog (Instr.loadAt 66 v1) (fun v20 w => 
 oR Try.prog (Instr.loadAt 66 v2) (fun v21 w => 
 oC Try.prog (EP R) 114 #[v19, v20, v21] (fun v22 w => 
 R (.returned (.tuple #[])) w) w) w) w) w) w) w) w) w) w) w) w) w) w) w) w) w) w) w) w) w) w) w) w) w) w
theorem e_moves_Caps_carry (x0 x1 x2 x3 : Value) (R : Ending → World → Prop) (w : World) : dFn Try.prog Try.f79 p_moves_Caps_carry R [x0, x1, x2, x3] w = h_moves_Caps_carry x0 x1 x2 x3 R w := by kernel_rfl
theorem c_moves_Caps_carry {x0 x1 x2 x3 : Value} {R : Ending → World → Prop} {w : World} (h : h_moves_Caps_carry x0 x1 x2 x3 R w) : Calls Try.prog 79 #[x0, x1, x2, x3] w R :=
  calls_of_dFn (by kernel_rfl) (by kernel_rfl) (by kernel_rfl : fnOk Try.prog Try.f79 p_moves_Caps_carry 4 = true) ((e_moves_Caps_carry x0 x1 x2 x3 R w).mpr h)

/-- (*donjon/slots.node).size · n:0 -/
def p_slots_node_size : Pl := .seq (.leaf) (.seq (.leaf) (.leaf))
def h_slots_node_size (x0 : Value) (R : Ending → World → Prop) (w : World) : Prop :=
 oNil x0 (fun v1 w => 
 oP Try.prog (Instr.fieldAt 153 v1 0) (fun v2 w => 
 oR Try.prog (Instr.loadAt 3 v2) (fun v3 w => 
 oP Try.prog (bsem .shl 3 true (.int .i64 1) v3) (fun v4 w => 
 R (.returned v4) w) w) w) w) w
theorem e_slots_node_size (x0 : Value) (R : Ending → World → Prop) (w : World) : dFn Try.prog Try.f80 p_slots_node_size R [x0] w = h_slots_node_size x0 R w := by kernel_rfl
theorem c_slots_node_size {x0 : Value} {R : Ending → World → Prop} {w : World} (h : h_slots_node_size x0 R w) : Calls Try.prog 80 #[x0] w R :=
  calls_of_dFn (by kernel_rfl) (by kernel_rfl) (by kernel_rfl : fnOk Try.prog Try.f80 p_slots_node_size 1 = true) ((e_slots_node_size x0 R w).mpr h)

/-- slices.Clone[[]*donjon/tree.knot,*donjon/tree.knot] · s:0 -/
def p_slices_Clone_tree_knot : Pl := .seq (.leaf) (.seq (.seq (.leaf) (.cond (.seq (.leaf) (.leaf)) (.leaf))) (.seq (.leaf) (.leaf)))
def h_slices_Clone_tree_knot (x0 : Value) (R : Ending → World → Prop) (w : World) : Prop :=
 oP Try.prog (bsem .eql 190 true x0 (.slice none 0 0)) (fun v1 w => 
 oCond v1 (R (.returned (.slice none 0 0)) w)
 (oV Try.prog (EP R) (Instr.buildSlice 190 0 #[]) (fun v2 w => 
 oV Try.prog (EP R) (Builtin.append_ #[190, 190] 190 #[v2, x0]) (fun v3 w => 
 R (.returned v3) w) w) w)) w
theorem e_slices_Clone_tree_knot (x0 : Value) (R : Ending → World → Prop) (w : World) : dFn Try.prog Try.f81 p_slices_Clone_tree_knot R [x0] w = h_slices_Clone_tree_knot x0 R w := by kernel_rfl
theorem c_slices_Clone_tree_knot {x0 : Value} {R : Ending → World → Prop} {w : World} (h : h_slices_Clone_tree_knot x0 R w) : Calls Try.prog 81 #[x0] w R :=
  calls_of_dFn (by kernel_rfl) (by kernel_rfl) (by kernel_rfl : fnOk Try.prog Try.f81 p_slices_Clone_tree_knot 1 = true) ((e_slices_Clone_tree_knot x0 R w).mpr h)

/-- slices.Concat[[]*donjon/tree.knot,*donjon/tree.knot] · slices:0 -/
def p_slices_Concat_tree_knot : Pl := .seq (.leaf) (.seq (.leaf) (.seq (.seq (.leaf) (.block (.loop [3, 11] [3, 5, 11, 12, 13, 14, 15, 16, 17, 18, 19, 20, 21, 22] (.seq (.leaf) (.seq (.cond (.leaf) (.leaf)) (.jseq [3] [3, 5, 13, 14, 15, 16, 17, 18, 19, 20, 21] (.block (.seq (.leaf) (.seq (.leaf) (.seq (.leaf) (.cond (.leaf) (.leaf)))))) (.leaf))))))) (.seq (.leaf) (.seq (.seq (.leaf) (.block (.loop [6, 27] [6, 8, 27, 28, 29, 30, 31, 32, 33, 34] (.seq (.leaf) (.seq (.cond (.leaf) (.leaf)) (.seq (.block (.seq (.leaf) (.leaf))) (.leaf))))))) (.seq (.leaf) (.leaf))))))
def h_slices_Concat_tree_knot (x0 : Value) (R : Ending → World → Prop) (w : World) : Prop :=
 oR Try.prog (Builtin.len_ #[238] 3 #[x0]) (fun v1 w => 
 oLoop (σ := Value × Value) (fun _ s3 n2 w =>
 oP Try.prog (bsem .lss 3 false s3.2 v1) (fun v4 w => 
 oCond v4 (oJoin (σ := Value) (fun k5 =>
 oP Try.prog (Instr.indexAt 238 x0 s3.2) (fun v7 w => 
 oR Try.prog (Instr.loadAt 190 v7) (fun v8 w => 
 oR Try.prog (Builtin.len_ #[190] 3 #[v8]) (fun v9 w => 
 oP Try.prog (bsem .add 3 false s3.1 v9) (fun v10 w => 
 oP Try.prog (bsem .lss 3 true v10 (.int .i64 0)) (fun v11 w => 
 oCond v11 (oP Try.prog (Instr.makeInterface 9 (.string ⟨#[108, 101, 110, 32, 111, 117, 116, 32, 111, 102, 32, 114, 97, 110, 103, 101]⟩)) (fun v12 w => 
 oV Try.prog (EP R) (Instr.panic v12) (fun v13 w => 
 k5 v10 w) w) w)
 (k5 v10 w)) w) w) w) w) w)
 (fun _ s6 w =>
 oP Try.prog (bsem .add 3 true s3.2 (.int .i64 1)) (fun v14 w => 
 n2 (s6, v14) w) w))
 (oC Try.prog (EP R) 115 #[(.slice none 0 0), s3.1] (fun v15 w => 
 oR Try.prog (Builtin.len_ #[238] 3 #[x0]) (fun v16 w => 
 oLoop (σ := Value × Value) (fun _ s18 n17 w =>
 oP Try.prog (bsem .lss 3 false s18.2 v16) (fun v19 w => 
 oCond v19 (oP Try.prog (Instr.indexAt 238 x0 s18.2) (fun v20 w => 
 oR Try.prog (Instr.loadAt 190 v20) (fun v21 w => 
 oV Try.prog (EP R) (Builtin.append_ #[190, 190] 190 #[s18.1, v21]) (fun v22 w => 
 oP Try.prog (bsem .add 3 true s18.2 (.int .i64 1)) (fun v23 w => 
 n17 (v22, v23) w) w) w) w) w)
 (R (.returned s18.1) w)) w)
 (v15, (.int .i64 0)) w) w) w)) w)
 ((.int .i64 0), (.int .i64 0)) w) w
theorem e_slices_Concat_tree_knot (x0 : Value) (R : Ending → World → Prop) (w : World) : dFn Try.prog Try.f82 p_slices_Concat_tree_knot R [x0] w = h_slices_Concat_tree_knot x0 R w := by kernel_rfl
theorem c_slices_Concat_tree_knot {x0 : Value} {R : Ending → World → Prop} {w : World} (h : h_slices_Concat_tree_knot x0 R w) : Calls Try.prog 82 #[x0] w R :=
  calls_of_dFn (by kernel_rfl) (by kernel_rfl) (by kernel_rfl : fnOk Try.prog Try.f82 p_slices_Concat_tree_knot 1 = true) ((e_slices_Concat_tree_knot x0 R w).mpr h)

/-- donjon/cap.plain · c:0 -/
def p_cap_plain : Pl := .seq (.leaf) (.seq (.leaf) (.jseq [] [7, 8, 9, 10, 11, 12, 13, 14, 15, 16, 17, 18, 19, 20, 21, 22, 23, 24, 25, 26, 27, 28, 29, 30, 31, 32, 33, 34, 35, 36, 37, 38, 39, 40, 41, 42, 43, 44, 45] (.seq (.leaf) (.block (.jseq [12] [12, 13, 14] (.seq (.leaf) (.cond (.leaf) (.leaf))) (.cond (.leaf) (.jseq [15] [15, 16, 17] (.seq (.leaf) (.cond (.leaf) (.leaf))) (.cond (.reg (.leaf [0, 2, 4, 1, 6, 3, 5, 7, 8, 9, 10, 11] [[], [0], [], [2], [], [4], [], [1, 6], [7], [1, 3, 7, 8], [7, 9], [1, 3, 5, 7, 9, 10]])) (.seq (.leaf) (.cond (.reg (.leaf [0, 2, 1, 4, 3, 5, 6, 7] [[], [0], [], [2], [], [1, 4], [5], [1, 3, 5, 6]])) (.seq (.leaf) (.cond (.reg (.leaf [0, 2, 4, 1, 6, 3, 5, 7, 8, 9, 10, 11] [[], [0], [], [2], [], [4], [], [1, 6], [7], [1, 3, 7, 8], [7, 9], [1, 3, 5, 7, 9, 10]])) (.leaf))))))))))) (.seq (.leaf) (.leaf))))
def h_cap_plain (x0 : Value) (R : Ending → World → Prop) (w : World) : Prop :=
 oV Try.prog (EP R) (Instr.box 68 x0) (fun v1 w => 
 oV Try.prog (EP R) (Instr.alloc 68 true (.tuple #[])) (fun v2 w => 
 oP Try.prog (Instr.fieldAt 68 v1 0) (fun v3 w => 
 oR Try.prog (Instr.loadAt 3 v3) (fun v4 w => 
 oP Try.prog (Instr.build 68 #[(0, v4)]) (fun v5 w => 
 oV Try.prog (EP R) (Instr.alloc 68 true (.tuple #[])) (fun v6 w => 
 oS Try.prog (EP R) (Instr.storeAt 68 v6 v5) (fun v7 w => 
 oJoin (σ := Unit) (fun k8 =>
 oP Try.prog (Instr.fieldAt 68 v1 0) (fun v10 w => 
 oR Try.prog (Instr.loadAt 3 v10) (fun v11 w => 
 oJoin (σ := Value) (fun k12 =>
 oP Try.prog (bsem .eql 3 true v11 (.int .i64 0)) (fun v14 w => 
 oCond v14 (k12 v14 w)
 (oP Try.prog (bsem .eql 3 true v11 (.int .i64 10)) (fun v15 w => 
 k12 v15 w) w)) w)
 (fun _ s13 w =>
 oCond s13 (k8 () w)
 (oJoin (σ := Value) (fun k16 =>
 oP Try.prog (bsem .eql 3 true v11 (.int .i64 4)) (fun v18 w => 
 oCond v18 (k16 v18 w)
 (oP Try.prog (bsem .eql 3 true v11 (.int .i64 5)) (fun v19 w => 
 k16 v19 w) w)) w)
 (fun _ s17 w =>
 oCond s17 (oDraw (fun w => oP Try.prog (Instr.fieldAt 68 v1 1) (fun v20 w => 
 oP Try.prog (Instr.fieldAt 68 v1 2) (fun v21 w => 
 oP Try.prog (Instr.fieldAt 68 v1 3) (fun v22 w => 
 oR Try.prog (Instr.loadAt 3 v20) (fun v23 w => 
 oP Try.prog (Instr.fieldAt 68 v6 1) (fun v24 w => 
 oR Try.prog (Instr.loadAt 3 v21) (fun v25 w => 
 oR Try.prog (Instr.loadAt 54 v22) (fun v26 w => 
 oS Try.prog (EP R) (Instr.storeAt 3 v24 v23) (fun v27 w => oRd true Try.prog (Instr.loadAt 54 v22) v26 w ∧ oRd true Try.prog (Instr.loadAt 3 v21) v25 w ∧ 
 oP Try.prog (Instr.fieldAt 68 v6 2) (fun v28 w => 
 oS Try.prog (EP R) (Instr.storeAt 3 v28 v25) (fun v29 w => oRd true Try.prog (Instr.loadAt 54 v22) v26 w ∧ 
 oP Try.prog (Instr.fieldAt 68 v6 3) (fun v30 w => 
 oS Try.prog (EP R) (Instr.storeAt 54 v30 v26) (fun v31 w => 
 k8 () w) w) w) w) w) w) w) w) w) w) w) w) w) w)
 (oP Try.prog (bsem .eql 3 true v11 (.int .i64 6)) (fun v32 w => 
 oCond v32 (oDraw (fun w => oP Try.prog (Instr.fieldAt 68 v1 1) (fun v33 w => 
 oP Try.prog (Instr.fieldAt 68 v1 2) (fun v34 w => 
 oR Try.prog (Instr.loadAt 3 v33) (fun v35 w => 
 oP Try.prog (Instr.fieldAt 68 v6 1) (fun v36 w => 
 oR Try.prog (Instr.loadAt 3 v34) (fun v37 w => 
 oS Try.prog (EP R) (Instr.storeAt 3 v36 v35) (fun v38 w => oRd true Try.prog (Instr.loadAt 3 v34) v37 w ∧ 
 oP Try.prog (Instr.fieldAt 68 v6 2) (fun v39 w => 
 oS Try.prog (EP R) (Instr.storeAt 3 v39 v37) (fun v40 w => 
 k8 () w) w) w) w) w) w) w) w) w) w)
 (oP Try.prog (bsem .eql 3 true v11 (.int .i64 2)) (fun v41 w => 
 oCond v41 (oDraw (fun w => oP Try.prog (Instr.fieldAt 68 v1 1) (fun v42 w => 
 oP Try.prog (Instr.fieldAt 68 v1 4) (fun v43 w => 
 oP Try.prog (Instr.fieldAt 68 v1 5) (fun v44 w => 
 oR Try.prog (Instr.loadAt 3 v42) (fun v45 w => 
 oP Try.prog (Instr.fieldAt 68 v6 1) (fun v46 w => 
 oR Try.prog (Instr.loadAt 54 v43) (fun v47 w => 
 oR Try.prog (Instr.loadAt 3 v44) (fun v48 w => 
 oS Try.prog (EP R) (Instr.storeAt 3 v46 v45) (fun v49 w => oRd true Try.prog (Instr.loadAt 3 v44) v48 w ∧ oRd true Try.prog (Instr.loadAt 54 v43) v47 w ∧ 
 oP Try.prog (Instr.fieldAt 68 v6 4) (fun v50 w => 
 oS Try.prog (EP R) (Instr.storeAt 54 v50 v47) (fun v51 w => oRd true Try.prog (Instr.loadAt 3 v44) v48 w ∧ 
 oP Try.prog (Instr.fieldAt 68 v6 5) (fun v52 w => 
 oS Try.prog (EP R) (Instr.storeAt 3 v52 v48) (fun v53 w => 
 k8 () w) w) w) w) w) w) w) w) w) w) w) w) w) w)
 (oP Try.prog (Instr.fieldAt 68 v1 1) (fun v54 w => 
 oR Try.prog (Instr.loadAt 3 v54) (fun v55 w => 
 oP Try.prog (Instr.fieldAt 68 v6 1) (fun v56 w => 
 oS Try.prog (EP R) (Instr.storeAt 3 v56 v55) (fun v57 w => 
 k8 () w) w) w) w) w)) w)) w))))) w) w)
 (fun _ s9 w =>
 oR Try.prog (Instr.loadAt 68 v6) (fun v58 w => 
 oS Try.prog (EP R) (Instr.storeAt 68 v2 v58) (fun v59 w => 
 oR Try.prog (resSem 68 v2) (fun v60 w => R (.returned v60) w) w) w) w)) w) w) w) w) w) w) w
theorem e_cap_plain (x0 : Value) (R : Ending → World → Prop) (w : World) : dFn Try.prog Try.f102 p_cap_plain R [x0] w = h_cap_plain x0 R w := by kernel_rfl
theorem c_cap_plain {x0 : Value} {R : Ending → World → Prop} {w : World} (h : h_cap_plain x0 R w) : Calls Try.prog 102 #[x0] w R :=
  calls_of_dFn (by kernel_rfl) (by kernel_rfl) (by kernel_rfl : fnOk Try.prog Try.f102 p_cap_plain 1 = true) ((e_cap_plain x0 R w).mpr h)

/-- donjon/rights.Check · r:0 -/
def p_rights_Check : Pl := .seq (.leaf) (.seq (.leaf) (.leaf))
def h_rights_Check (x0 : Value) (R : Ending → World → Prop) (w : World) : Prop :=
 oP Try.prog (bsem .andNot 3 true x0 (.int .i64 7)) (fun v1 w => 
 oP Try.prog (bsem .eql 3 true v1 (.int .i64 0)) (fun v2 w => 
 R (.returned v2) w) w) w
theorem e_rights_Check (x0 : Value) (R : Ending → World → Prop) (w : World) : dFn Try.prog Try.f103 p_rights_Check R [x0] w = h_rights_Check x0 R w := by kernel_rfl
theorem c_rights_Check {x0 : Value} {R : Ending → World → Prop} {w : World} (h : h_rights_Check x0 R w) : Calls Try.prog 103 #[x0] w R :=
  calls_of_dFn (by kernel_rfl) (by kernel_rfl) (by kernel_rfl : fnOk Try.prog Try.f103 p_rights_Check 1 = true) ((e_rights_Check x0 R w).mpr h)

/-- donjon/cap.fits · guard:0, n:1 -/
def p_cap_fits : Pl := .seq (.leaf) (.seq (.leaf) (.leaf))
def h_cap_fits (x0 x1 : Value) (R : Ending → World → Prop) (w : World) : Prop :=
 oP Try.prog (bsem .geq 3 true x1 (.int .i64 0)) (fun v1 w => 
 oGk (gb true v1) (fun k w => k x1 w) (fun v2 w =>
 oGk (gb true v1) (oP Try.prog (bsem .leq 3 true v2 (.int .i64 16))) (fun v3 w =>
 oPick v1 v3 (.bool false) (fun v4 w => 
 oGk (gb true v4) (fun k w => k x0 w) (fun v5 w =>
 oGk (gb true v4) (fun k w => k x1 w) (fun v6 w =>
 oGk (gb true v4) (oP Try.prog (bsem .shr 54 false v5 v6)) (fun v7 w =>
 oGk (gb true v4) (oP Try.prog (bsem .eql 54 true v7 (.int .u64 0))) (fun v8 w =>
 oPick v4 v8 (.bool false) (fun v9 w => 
 R (.returned v9) w) w) w) w) w) w) w) w) w) w
theorem e_cap_fits (x0 x1 : Value) (R : Ending → World → Prop) (w : World) : dFn Try.prog Try.f104 p_cap_fits R [x0, x1] w = h_cap_fits x0 x1 R w := by kernel_rfl
theorem c_cap_fits {x0 x1 : Value} {R : Ending → World → Prop} {w : World} (h : h_cap_fits x0 x1 R w) : Calls Try.prog 104 #[x0, x1] w R :=
  calls_of_dFn (by kernel_rfl) (by kernel_rfl) (by kernel_rfl : fnOk Try.prog Try.f104 p_cap_fits 2 = true) ((e_cap_fits x0 x1 R w).mpr h)

/-- (*donjon/tree.Tree).Has · t:0, s:1 -/
def p_tree_Tree_Has : Pl := .seq (.leaf) (.seq (.reg (.leaf [0, 1, 2, 3, 4, 5, 6, 7] [[], [0], [1], [2], [], [3, 4], [5], [6]])) (.leaf))
def h_tree_Tree_Has (x0 x1 : Value) (R : Ending → World → Prop) (w : World) : Prop :=
 oV Try.prog (EP R) (Instr.box 66 x1) (fun v1 w => 
 oDraw (fun w => oNil x0 (fun v2 w => 
 oP Try.prog (Instr.fieldAt 177 v2 0) (fun v3 w => 
 oR Try.prog (Instr.loadAt 175 v3) (fun v4 w => 
 oR Try.prog (Instr.loadAt 66 v1) (fun v5 w => 
 oR Try.prog (Instr.lookup 175 v4 v5 false) (fun v6 w => 
 oP Try.prog (bsem .neq 189 true v6 (.pointer none)) (fun v7 w => 
 R (.returned v7) w) w) w) w) w) w) w) w) w
theorem e_tree_Tree_Has (x0 x1 : Value) (R : Ending → World → Prop) (w : World) : dFn Try.prog Try.f105 p_tree_Tree_Has R [x0, x1] w = h_tree_Tree_Has x0 x1 R w := by kernel_rfl
theorem c_tree_Tree_Has {x0 x1 : Value} {R : Ending → World → Prop} {w : World} (h : h_tree_Tree_Has x0 x1 R w) : Calls Try.prog 105 #[x0, x1] w R :=
  calls_of_dFn (by kernel_rfl) (by kernel_rfl) (by kernel_rfl : fnOk Try.prog Try.f105 p_tree_Tree_Has 2 = true) ((e_tree_Tree_Has x0 x1 R w).mpr h)

/-- slices.Contains[[]donjon/api.Slot,donjon/api.Slot] · s:0, v:1 -/
def p_slices_Contains_api_Slot : Pl := .seq (.leaf) (.seq (.leaf) (.leaf))
def h_slices_Contains_api_Slot (x0 x1 : Value) (R : Ending → World → Prop) (w : World) : Prop :=
 oV Try.prog (EP R) (Instr.box 66 x1) (fun v1 w => 
 oR Try.prog (Instr.loadAt 66 v1) (fun v2 w => 
 oC Try.prog (EP R) 117 #[x0, v2] (fun v3 w => 
 oP Try.prog (bsem .geq 3 true v3 (.int .i64 0)) (fun v4 w => 
 R (.returned v4) w) w) w) w) w
theorem e_slices_Contains_api_Slot (x0 x1 : Value) (R : Ending → World → Prop) (w : World) : dFn Try.prog Try.f106 p_slices_Contains_api_Slot R [x0, x1] w = h_slices_Contains_api_Slot x0 x1 R w := by kernel_rfl
theorem c_slices_Contains_api_Slot {x0 x1 : Value} {R : Ending → World → Prop} {w : World} (h : h_slices_Contains_api_Slot x0 x1 R w) : Calls Try.prog 106 #[x0, x1] w R :=
  calls_of_dFn (by kernel_rfl) (by kernel_rfl) (by kernel_rfl : fnOk Try.prog Try.f106 p_slices_Contains_api_Slot 2 = true) ((e_slices_Contains_api_Slot x0 x1 R w).mpr h)

/-- (*donjon/moves.Caps).Take · c:0, at:1 -/
def p_moves_Caps_Take : Pl := .seq (.leaf) (.jseq [6, 7] [6, 7, 8, 9, 10, 11, 12, 13, 14, 15, 16, 17] (.reg (.split 6 10 (.leaf [0, 1, 2, 3, 4, 5, 6, 7, 8, 9, 10, 11, 12] [[], [0], [1], [2], [3], [], [4, 5], [6], [6, 7], [6, 7], [4, 5, 6], [4, 5, 6, 8, 10], [6, 9, 10, 11]]) (.leaf [0, 1, 2, 3, 4, 5, 10, 6, 7, 8, 9, 11, 12] [[], [0], [1], [2], [3], [], [4, 5, 10], [6, 10], [6, 7, 10], [6, 7, 10], [], [4, 5, 6, 8, 10], [6, 9, 10, 11]]))) (.jseq [] [18, 19, 20, 21, 22, 23, 24, 25] (.seq (.leaf) (.cond (.reg (.leaf [0, 1, 2, 3, 4, 5] [[], [0], [1], [2], [], [3, 4]])) (.leaf))) (.seq (.leaf) (.leaf))))
def h_moves_Caps_Take (x0 x1 : Value) (R : Ending → World → Prop) (w : World) : Prop :=
 oV Try.prog (EP R) (Instr.box 66 x1) (fun v1 w => 
 oV Try.prog (EP R) (Instr.alloc 68 true (.tuple #[])) (fun v2 w => 
 oJoin (σ := Value × Value) (fun k3 =>
 oDraw (fun w => (oNil x0 (fun v5 w => 
 oP Try.prog (Instr.fieldAt 63 v5 0) (fun v6 w => 
 oP Try.prog (Instr.fieldAt 60 v6 0) (fun v7 w => 
 oR Try.prog (Instr.loadAt 58 v7) (fun v8 w => 
 oR Try.prog (Instr.loadAt 66 v1) (fun v9 w => 
 oC Try.prog (EP R) 113 #[v8, v9] (fun v10 w => 
 oP Try.prog (Instr.extract v10 0) (fun v11 w => 
 oP Try.prog (Instr.extract v10 1) (fun v12 w => 
 oV Try.prog (EP R) (Instr.alloc 68 true (.tuple #[])) (fun v13 w => 
 oS Try.prog (EP R) (Instr.storeAt 68 v13 v11) (fun v14 w => 
 k3 (v13, v12) w) w) w) w) w) w) w) w) w) w) w) ∧ (oNil x0 (fun v15 w => 
 oP Try.prog (Instr.fieldAt 63 v15 0) (fun v16 w => 
 oP Try.prog (Instr.fieldAt 60 v16 0) (fun v17 w => 
 oR Try.prog (Instr.loadAt 58 v17) (fun v18 w => 
 oR Try.prog (Instr.loadAt 66 v1) (fun v19 w => 
 oV Try.prog (EP R) (Instr.alloc 68 true (.tuple #[])) (fun v20 w => oRd true Try.prog (Instr.loadAt 66 v1) v19 w ∧ oRd true Try.prog (Instr.loadAt 58 v17) v18 w ∧ 
 oC Try.prog (EP R) 113 #[v18, v19] (fun v21 w => 
 oP Try.prog (Instr.extract v21 0) (fun v22 w => 
 oP Try.prog (Instr.extract v21 1) (fun v23 w => 
 oS Try.prog (EP R) (Instr.storeAt 68 v20 v22) (fun v24 w => 
 k3 (v20, v23) w) w) w) w) w) w) w) w) w) w) w)) w)
 (fun _ s4 w =>
 oJoin (σ := Unit) (fun k25 =>
 oP Try.prog (bsem .eql 42 true s4.2 (.int .i64 0)) (fun v27 w => 
 oCond v27 (oDraw (fun w => oNil x0 (fun v28 w => 
 oP Try.prog (Instr.fieldAt 63 v28 1) (fun v29 w => 
 oR Try.prog (Instr.loadAt 61 v29) (fun v30 w => 
 oR Try.prog (Instr.loadAt 66 v1) (fun v31 w => 
 oC Try.prog (EP R) 118 #[v30, v31] (fun v32 w => 
 k25 () w) w) w) w) w) w) w)
 (k25 () w)) w)
 (fun _ s26 w =>
 oR Try.prog (Instr.loadAt 68 s4.1) (fun v33 w => 
 oS Try.prog (EP R) (Instr.storeAt 68 v2 v33) (fun v34 w => 
 oR Try.prog (resSem 68 v2) (fun v35 w => R (.returned (.tuple #[v35, s4.2])) w) w) w) w))) w) w
theorem e_moves_Caps_Take (x0 x1 : Value) (R : Ending → World → Prop) (w : World) : dFn Try.prog Try.f107 p_moves_Caps_Take R [x0, x1] w = h_moves_Caps_Take x0 x1 R w := by kernel_rfl
theorem c_moves_Caps_Take {x0 x1 : Value} {R : Ending → World → Prop} {w : World} (h : h_moves_Caps_Take x0 x1 R w) : Calls Try.prog 107 #[x0, x1] w R :=
  calls_of_dFn (by kernel_rfl) (by kernel_rfl) (by kernel_rfl : fnOk Try.prog Try.f107 p_moves_Caps_Take 2 = true) ((e_moves_Caps_Take x0 x1 R w).mpr h)

/-- (donjon/moves.store).Clear · s:0, id:1 -/
def p_moves_store_Clear : Pl := .seq (.leaf) (.seq (.leaf) (.leaf))
def h_moves_store_Clear (x0 x1 : Value) (R : Ending → World → Prop) (w : World) : Prop :=
 oV Try.prog (EP R) (Instr.box 60 x0) (fun v1 w => 
 oP Try.prog (Instr.fieldAt 60 v1 0) (fun v2 w => 
 oR Try.prog (Instr.loadAt 58 v2) (fun v3 w => 
 oC Try.prog (EP R) 119 #[v3, x1] (fun v4 w => 
 R (.returned v4) w) w) w) w) w
theorem e_moves_store_Clear (x0 x1 : Value) (R : Ending → World → Prop) (w : World) : dFn Try.prog Try.f108 p_moves_store_Clear R [x0, x1] w = h_moves_store_Clear x0 x1 R w := by kernel_rfl
theorem c_moves_store_Clear {x0 x1 : Value} {R : Ending → World → Prop} {w : World} (h : h_moves_store_Clear x0 x1 R w) : Calls Try.prog 108 #[x0, x1] w R :=
  calls_of_dFn (by kernel_rfl) (by kernel_rfl) (by kernel_rfl : fnOk Try.prog Try.f108 p_moves_store_Clear 2 = true) ((e_moves_store_Clear x0 x1 R w).mpr h)

/-- (*donjon/moves.Caps).source · c:0, at:1 -/
def p_moves_Caps_source : Pl := .seq (.leaf) (.jseq [6, 7] [6, 7, 8, 9, 10, 11, 12, 13, 14, 15, 16, 17] (.reg (.split 6 10 (.leaf [0, 1, 2, 3, 4, 5, 6, 7, 8, 9, 10, 11, 12] [[], [0], [1], [2], [3], [], [4, 5], [6], [6, 7], [6, 7], [4, 5, 6], [4, 5, 6, 8, 10], [6, 9, 10, 11]]) (.leaf [0, 1, 2, 3, 4, 5, 10, 6, 7, 8, 9, 11, 12] [[], [0], [1], [2], [3], [], [4, 5, 10], [6, 10], [6, 7, 10], [6, 7, 10], [], [4, 5, 6, 8, 10], [6, 9, 10, 11]]))) (.jseq [7] [7, 18, 19, 20, 21, 22, 23, 24] (.seq (.leaf) (.cond (.leaf) (.leaf))) (.seq (.leaf) (.leaf))))
def h_moves_Caps_source (x0 x1 : Value) (R : Ending → World → Prop) (w : World) : Prop :=
 oV Try.prog (EP R) (Instr.box 66 x1) (fun v1 w => 
 oV Try.prog (EP R) (Instr.alloc 68 true (.tuple #[])) (fun v2 w => 
 oJoin (σ := Value × Value) (fun k3 =>
 oDraw (fun w => (oNil x0 (fun v5 w => 
 oP Try.prog (Instr.fieldAt 63 v5 0) (fun v6 w => 
 oP Try.prog (Instr.fieldAt 60 v6 0) (fun v7 w => 
 oR Try.prog (Instr.loadAt 58 v7) (fun v8 w => 
 oR Try.prog (Instr.loadAt 66 v1) (fun v9 w => 
 oC Try.prog (EP R) 28 #[v8, v9] (fun v10 w => 
 oP Try.prog (Instr.extract v10 0) (fun v11 w => 
 oP Try.prog (Instr.extract v10 1) (fun v12 w => 
 oV Try.prog (EP R) (Instr.alloc 68 true (.tuple #[])) (fun v13 w => 
 oS Try.prog (EP R) (Instr.storeAt 68 v13 v11) (fun v14 w => 
 k3 (v13, v12) w) w) w) w) w) w) w) w) w) w) w) ∧ (oNil x0 (fun v15 w => 
 oP Try.prog (Instr.fieldAt 63 v15 0) (fun v16 w => 
 oP Try.prog (Instr.fieldAt 60 v16 0) (fun v17 w => 
 oR Try.prog (Instr.loadAt 58 v17) (fun v18 w => 
 oR Try.prog (Instr.loadAt 66 v1) (fun v19 w => 
 oV Try.prog (EP R) (Instr.alloc 68 true (.tuple #[])) (fun v20 w => oRd true Try.prog (Instr.loadAt 66 v1) v19 w ∧ oRd true Try.prog (Instr.loadAt 58 v17) v18 w ∧ 
 oC Try.prog (EP R) 28 #[v18, v19] (fun v21 w => 
 oP Try.prog (Instr.extract v21 0) (fun v22 w => 
 oP Try.prog (Instr.extract v21 1) (fun v23 w => 
 oS Try.prog (EP R) (Instr.storeAt 68 v20 v22) (fun v24 w => 
 k3 (v20, v23) w) w) w) w) w) w) w) w) w) w) w)) w)
 (fun _ s4 w =>
 oJoin (σ := Value) (fun k25 =>
 oP Try.prog (bsem .eql 42 true s4.2 (.int .i64 0)) (fun v27 w => 
 oGk (gb true v27) (oP Try.prog (Instr.fieldAt 68 s4.1 0)) (fun v28 w =>
 oGk (gb true v27) (oR Try.prog (Instr.loadAt 3 v28)) (fun v29 w =>
 oGk (gb true v27) (oP Try.prog (bsem .eql 3 true v29 (.int .i64 0))) (fun v30 w =>
 oPick v27 v30 (.bool false) (fun v31 w => 
 oCond v31 (k25 (.int .i64 3) w)
 (k25 s4.2 w)) w) w) w) w) w)
 (fun _ s26 w =>
 oR Try.prog (Instr.loadAt 68 s4.1) (fun v32 w => 
 oS Try.prog (EP R) (Instr.storeAt 68 v2 v32) (fun v33 w => 
 oR Try.prog (resSem 68 v2) (fun v34 w => R (.returned (.tuple #[v34, s26])) w) w) w) w))) w) w
theorem e_moves_Caps_source (x0 x1 : Value) (R : Ending → World → Prop) (w : World) : dFn Try.prog Try.f109 p_moves_Caps_source R [x0, x1] w = h_moves_Caps_source x0 x1 R w := by kernel_rfl
theorem c_moves_Caps_source {x0 x1 : Value} {R : Ending → World → Prop} {w : World} (h : h_moves_Caps_source x0 x1 R w) : Calls Try.prog 109 #[x0, x1] w R :=
  calls_of_dFn (by kernel_rfl) (by kernel_rfl) (by kernel_rfl : fnOk Try.prog Try.f109 p_moves_Caps_source 2 = true) ((e_moves_Caps_source x0 x1 R w).mpr h)

/-- (*donjon/moves.Caps).place · c:0, at:1 -/
def p_moves_Caps_place : Pl := .seq (.leaf) (.jseq [5, 6] [5, 6, 7, 8, 9, 10, 11, 12, 13, 14, 15, 16] (.reg (.split 6 10 (.leaf [0, 1, 2, 3, 4, 5, 6, 7, 8, 9, 10, 11, 12] [[], [0], [1], [2], [3], [], [4, 5], [6], [6, 7], [6, 7], [4, 5, 6], [4, 5, 6, 8, 10], [6, 9, 10, 11]]) (.leaf [0, 1, 2, 3, 4, 5, 10, 6, 7, 8, 9, 11, 12] [[], [0], [1], [2], [3], [], [4, 5, 10], [6, 10], [6, 7, 10], [6, 7, 10], [], [4, 5, 6, 8, 10], [6, 9, 10, 11]]))) (.seq (.seq (.leaf) (.cond (.leaf) (.leaf))) (.seq (.leaf) (.leaf))))
def h_moves_Caps_place (x0 x1 : Value) (R : Ending → World → Prop) (w : World) : Prop :=
 oV Try.prog (EP R) (Instr.box 66 x1) (fun v1 w => 
 oJoin (σ := Value × Value) (fun k2 =>
 oDraw (fun w => (oNil x0 (fun v4 w => 
 oP Try.prog (Instr.fieldAt 63 v4 0) (fun v5 w => 
 oP Try.prog (Instr.fieldAt 60 v5 0) (fun v6 w => 
 oR Try.prog (Instr.loadAt 58 v6) (fun v7 w => 
 oR Try.prog (Instr.loadAt 66 v1) (fun v8 w => 
 oC Try.prog (EP R) 28 #[v7, v8] (fun v9 w => 
 oP Try.prog (Instr.extract v9 0) (fun v10 w => 
 oP Try.prog (Instr.extract v9 1) (fun v11 w => 
 oV Try.prog (EP R) (Instr.alloc 68 true (.tuple #[])) (fun v12 w => 
 oS Try.prog (EP R) (Instr.storeAt 68 v12 v10) (fun v13 w => 
 k2 (v12, v11) w) w) w) w) w) w) w) w) w) w) w) ∧ (oNil x0 (fun v14 w => 
 oP Try.prog (Instr.fieldAt 63 v14 0) (fun v15 w => 
 oP Try.prog (Instr.fieldAt 60 v15 0) (fun v16 w => 
 oR Try.prog (Instr.loadAt 58 v16) (fun v17 w => 
 oR Try.prog (Instr.loadAt 66 v1) (fun v18 w => 
 oV Try.prog (EP R) (Instr.alloc 68 true (.tuple #[])) (fun v19 w => oRd true Try.prog (Instr.loadAt 66 v1) v18 w ∧ oRd true Try.prog (Instr.loadAt 58 v16) v17 w ∧ 
 oC Try.prog (EP R) 28 #[v17, v18] (fun v20 w => 
 oP Try.prog (Instr.extract v20 0) (fun v21 w => 
 oP Try.prog (Instr.extract v20 1) (fun v22 w => 
 oS Try.prog (EP R) (Instr.storeAt 68 v19 v21) (fun v23 w => 
 k2 (v19, v22) w) w) w) w) w) w) w) w) w) w) w)) w)
 (fun _ s3 w =>
 oP Try.prog (bsem .eql 42 true s3.2 (.int .i64 0)) (fun v24 w => 
 oGk (gb true v24) (oP Try.prog (Instr.fieldAt 68 s3.1 0)) (fun v25 w =>
 oGk (gb true v24) (oR Try.prog (Instr.loadAt 3 v25)) (fun v26 w =>
 oGk (gb true v24) (oP Try.prog (bsem .neq 3 true v26 (.int .i64 0))) (fun v27 w =>
 oPick v24 v27 (.bool false) (fun v28 w => 
 oCond v28 (R (.returned (.int .i64 4)) w)
 (R (.returned s3.2) w)) w) w) w) w) w)) w
theorem e_moves_Caps_place (x0 x1 : Value) (R : Ending → World → Prop) (w : World) : dFn Try.prog Try.f110 p_moves_Caps_place R [x0, x1] w = h_moves_Caps_place x0 x1 R w := by kernel_rfl
theorem c_moves_Caps_place {x0 x1 : Value} {R : Ending → World → Prop} {w : World} (h : h_moves_Caps_place x0 x1 R w) : Calls Try.prog 110 #[x0, x1] w R :=
  calls_of_dFn (by kernel_rfl) (by kernel_rfl) (by kernel_rfl : fnOk Try.prog Try.f110 p_moves_Caps_place 2 = true) ((e_moves_Caps_place x0 x1 R w).mpr h)

/-- donjon/rights.Mask · a:0, b:1 -/
def p_rights_Mask : Pl := .seq (.leaf) (.seq (.seq (.leaf) (.cond (.seq (.leaf) (.leaf)) (.leaf))) (.seq (.leaf) (.leaf)))
def h_rights_Mask (x0 x1 : Value) (R : Ending → World → Prop) (w : World) : Prop :=
 oC Try.prog (EP R) 103 #[x0] (fun v1 w => 
 oP Try.prog (Op.unary .not v1) (fun v2 w => 
 oGk (gb false v2) (fun k w => k x1 w) (fun v3 w =>
 oGk (gb false v2) (oC Try.prog (EP R) 103 #[v3]) (fun v4 w =>
 oGk (gb false v2) (oP Try.prog (Op.unary .not v4)) (fun v5 w =>
 oPick v2 (.bool true) v5 (fun v6 w => 
 oCond v6 (R (.returned (.int .i64 0)) w)
 (oP Try.prog (bsem .and 3 false x0 x1) (fun v7 w => 
 R (.returned v7) w) w)) w) w) w) w) w) w
theorem e_rights_Mask (x0 x1 : Value) (R : Ending → World → Prop) (w : World) : dFn Try.prog Try.f111 p_rights_Mask R [x0, x1] w = h_rights_Mask x0 x1 R w := by kernel_rfl
theorem c_rights_Mask {x0 x1 : Value} {R : Ending → World → Prop} {w : World} (h : h_rights_Mask x0 x1 R w) : Calls Try.prog 111 #[x0, x1] w R :=
  calls_of_dFn (by kernel_rfl) (by kernel_rfl) (by kernel_rfl : fnOk Try.prog Try.f111 p_rights_Mask 2 = true) ((e_rights_Mask x0 x1 R w).mpr h)

/-- (*donjon/tree.Tree).Child · t:0, of:1, s:2 -/
def p_tree_Tree_Child : Pl := .seq (.leaf) (.seq (.reg (.leaf [0, 1, 2, 3, 4, 5, 6] [[], [0], [1], [2], [], [3, 4], [5]])) (.seq (.seq (.leaf) (.cond (.seq (.leaf) (.leaf)) (.leaf))) (.seq (.leaf) (.leaf))))
def h_tree_Tree_Child (x0 x1 x2 : Value) (R : Ending → World → Prop) (w : World) : Prop :=
 oV Try.prog (EP R) (Instr.box 66 x1) (fun v1 w => 
 oV Try.prog (EP R) (Instr.box 66 x2) (fun v2 w => 
 oDraw (fun w => oNil x0 (fun v3 w => 
 oP Try.prog (Instr.fieldAt 177 v3 0) (fun v4 w => 
 oR Try.prog (Instr.loadAt 175 v4) (fun v5 w => 
 oR Try.prog (Instr.loadAt 66 v1) (fun v6 w => 
 oR Try.prog (Instr.lookup 175 v5 v6 false) (fun v7 w => 
 oP Try.prog (bsem .eql 189 true v7 (.pointer none)) (fun v8 w => 
 oCond v8 (R (.returned (.int .i64 3)) w)
 (oR Try.prog (Instr.loadAt 66 v2) (fun v9 w => 
 oC Try.prog (EP R) 71 #[x0, v9, v7] (fun v10 w => 
 R (.returned v10) w) w) w)) w) w) w) w) w) w) w) w) w
theorem e_tree_Tree_Child (x0 x1 x2 : Value) (R : Ending → World → Prop) (w : World) : dFn Try.prog Try.f112 p_tree_Tree_Child R [x0, x1, x2] w = h_tree_Tree_Child x0 x1 x2 R w := by kernel_rfl
theorem c_tree_Tree_Child {x0 x1 x2 : Value} {R : Ending → World → Prop} {w : World} (h : h_tree_Tree_Child x0 x1 x2 R w) : Calls Try.prog 112 #[x0, x1, x2] w R :=
  calls_of_dFn (by kernel_rfl) (by kernel_rfl) (by kernel_rfl : fnOk Try.prog Try.f112 p_tree_Tree_Child 3 = true) ((e_tree_Tree_Child x0 x1 x2 R w).mpr h)

/-- (*donjon/slots.Store).Take · s:0, at:1 -/
def p_slots_Store_Take : Pl := .seq (.leaf) (.seq (.leaf) (.seq (.block (.seq (.leaf) (.cond (.seq (.leaf) (.leaf)) (.seq (.leaf) (.cond (.seq (.leaf) (.leaf)) (.leaf)))))) (.seq (.leaf) (.seq (.leaf) (.seq (.leaf) (.leaf))))))
def h_slots_Store_Take (x0 x1 : Value) (R : Ending → World → Prop) (w : World) : Prop :=
 oV Try.prog (EP R) (Instr.box 66 x1) (fun v1 w => 
 oV Try.prog (EP R) (Instr.alloc 68 true (.tuple #[])) (fun v2 w => 
 oR Try.prog (Instr.loadAt 66 v1) (fun v3 w => 
 oC Try.prog (EP R) 56 #[x0, v3] (fun v4 w => 
 oP Try.prog (bsem .eql 161 true v4 (.pointer none)) (fun v5 w => 
 oCond v5 (oP Try.prog (Instr.build 68 #[]) (fun v6 w => 
 oS Try.prog (EP R) (Instr.storeAt 68 v2 v6) (fun v7 w => 
 oR Try.prog (resSem 68 v2) (fun v8 w => R (.returned (.tuple #[v8, (.int .i64 6)])) w) w) w) w)
 (oNil v4 (fun v9 w => 
 oP Try.prog (Instr.fieldAt 68 v9 0) (fun v10 w => 
 oR Try.prog (Instr.loadAt 3 v10) (fun v11 w => 
 oP Try.prog (bsem .eql 3 true v11 (.int .i64 0)) (fun v12 w => 
 oCond v12 (oP Try.prog (Instr.build 68 #[]) (fun v13 w => 
 oS Try.prog (EP R) (Instr.storeAt 68 v2 v13) (fun v14 w => 
 oR Try.prog (resSem 68 v2) (fun v15 w => R (.returned (.tuple #[v15, (.int .i64 3)])) w) w) w) w)
 (oNil v4 (fun v16 w => 
 oR Try.prog (Instr.loadAt 68 v16) (fun v17 w => 
 oV Try.prog (EP R) (Instr.alloc 68 true (.tuple #[])) (fun v18 w => 
 oS Try.prog (EP R) (Instr.storeAt 68 v18 v17) (fun v19 w => 
 oP Try.prog (Instr.build 68 #[]) (fun v20 w => 
 oNil v4 (fun v21 w => 
 oS Try.prog (EP R) (Instr.storeAt 68 v21 v20) (fun v22 w => 
 oR Try.prog (Instr.loadAt 68 v18) (fun v23 w => 
 oS Try.prog (EP R) (Instr.storeAt 68 v2 v23) (fun v24 w => 
 oR Try.prog (resSem 68 v2) (fun v25 w => R (.returned (.tuple #[v25, (.int .i64 0)])) w) w) w) w) w) w) w) w) w) w) w)) w) w) w) w)) w) w) w) w) w
theorem e_slots_Store_Take (x0 x1 : Value) (R : Ending → World → Prop) (w : World) : dFn Try.prog Try.f113 p_slots_Store_Take R [x0, x1] w = h_slots_Store_Take x0 x1 R w := by kernel_rfl
theorem c_slots_Store_Take {x0 x1 : Value} {R : Ending → World → Prop} {w : World} (h : h_slots_Store_Take x0 x1 R w) : Calls Try.prog 113 #[x0, x1] w R :=
  calls_of_dFn (by kernel_rfl) (by kernel_rfl) (by kernel_rfl : fnOk Try.prog Try.f113 p_slots_Store_Take 2 = true) ((e_slots_Store_Take x0 x1 R w).mpr h)

/-- (*donjon/tree.Tree).Move · t:0, from:1, to:2 -/
def p_tree_Tree_Move : Pl := .seq (.leaf) (.seq (.reg (.leaf [0, 1, 2, 3, 4, 5, 6] [[], [0], [1], [2], [], [3, 4], [5]])) (.seq (.block (.seq (.leaf) (.cond (.seq (.leaf) (.leaf)) (.seq (.leaf) (.cond (.seq (.leaf) (.leaf)) (.leaf)))))) (.seq (.reg (.leaf [0, 1, 2, 3, 4, 5] [[], [0], [1], [2], [], [3, 4]])) (.seq (.leaf) (.seq (.reg (.leaf [0, 1, 2, 5, 3, 4, 6] [[], [0], [1], [2], [], [], [3, 4, 5]])) (.seq (.leaf) (.leaf)))))))
def h_tree_Tree_Move (x0 x1 x2 : Value) (R : Ending → World → Prop) (w : World) : Prop :=
 oV Try.prog (EP R) (Instr.box 66 x1) (fun v1 w => 
 oV Try.prog (EP R) (Instr.box 66 x2) (fun v2 w => 
 oDraw (fun w => oNil x0 (fun v3 w => 
 oP Try.prog (Instr.fieldAt 177 v3 0) (fun v4 w => 
 oR Try.prog (Instr.loadAt 175 v4) (fun v5 w => 
 oR Try.prog (Instr.loadAt 66 v1) (fun v6 w => 
 oR Try.prog (Instr.lookup 175 v5 v6 false) (fun v7 w => 
 oP Try.prog (bsem .eql 189 true v7 (.pointer none)) (fun v8 w => 
 oCond v8 (R (.returned (.int .i64 3)) w)
 (oR Try.prog (Instr.loadAt 66 v2) (fun v9 w => 
 oC Try.prog (EP R) 105 #[x0, v9] (fun v10 w => 
 oCond v10 (R (.returned (.int .i64 4)) w)
 (oDraw (fun w => oNil x0 (fun v11 w => 
 oP Try.prog (Instr.fieldAt 177 v11 0) (fun v12 w => 
 oR Try.prog (Instr.loadAt 175 v12) (fun v13 w => 
 oR Try.prog (Instr.loadAt 66 v1) (fun v14 w => 
 oV Try.prog (EP R) (Builtin.delete_ #[175, 66] 0 #[v13, v14]) (fun v15 w => 
 oR Try.prog (Instr.loadAt 66 v2) (fun v16 w => 
 oNil v7 (fun v17 w => 
 oP Try.prog (Instr.fieldAt 193 v17 0) (fun v18 w => 
 oS Try.prog (EP R) (Instr.storeAt 66 v18 v16) (fun v19 w => 
 oDraw (fun w => oNil x0 (fun v20 w => 
 oP Try.prog (Instr.fieldAt 177 v20 0) (fun v21 w => 
 oR Try.prog (Instr.loadAt 175 v21) (fun v22 w => 
 oR Try.prog (Instr.loadAt 66 v2) (fun v23 w => 
 oS Try.prog (EP R) (Instr.mapUpdate 175 v22 v23 v7) (fun v24 w => 
 R (.returned (.int .i64 0)) w) w) w) w) w) w) w) w) w) w) w) w) w) w) w) w) w)) w) w)) w) w) w) w) w) w) w) w) w
theorem e_tree_Tree_Move (x0 x1 x2 : Value) (R : Ending → World → Prop) (w : World) : dFn Try.prog Try.f114 p_tree_Tree_Move R [x0, x1, x2] w = h_tree_Tree_Move x0 x1 x2 R w := by kernel_rfl
theorem c_tree_Tree_Move {x0 x1 x2 : Value} {R : Ending → World → Prop} {w : World} (h : h_tree_Tree_Move x0 x1 x2 R w) : Calls Try.prog 114 #[x0, x1, x2] w R :=
  calls_of_dFn (by kernel_rfl) (by kernel_rfl) (by kernel_rfl : fnOk Try.prog Try.f114 p_tree_Tree_Move 3 = true) ((e_tree_Tree_Move x0 x1 x2 R w).mpr h)

/-- slices.Grow[[]*donjon/tree.knot,*donjon/tree.knot] · s:0, n:1 -/
def p_slices_Grow_tree_knot : Pl := .seq (.leaf) (.jseq [] [5, 6, 7] (.seq (.leaf) (.cond (.leaf) (.leaf))) (.seq (.seq (.leaf) (.seq (.leaf) (.cond (.leaf) (.leaf)))) (.seq (.leaf) (.leaf))))
def h_slices_Grow_tree_knot (x0 x1 : Value) (R : Ending → World → Prop) (w : World) : Prop :=
 oJoin (σ := Unit) (fun k1 =>
 oP Try.prog (bsem .lss 3 true x1 (.int .i64 0)) (fun v3 w => 
 oCond v3 (oP Try.prog (Instr.makeInterface 9 (.string ⟨#[99, 97, 110, 110, 111, 116, 32, 98, 101, 32, 110, 101, 103, 97, 116, 105, 118, 101]⟩)) (fun v4 w => 
 oV Try.prog (EP R) (Instr.panic v4) (fun v5 w => 
 k1 () w) w) w)
 (k1 () w)) w)
 (fun _ s2 w =>
 oR Try.prog (Builtin.cap_ #[190] 3 #[x0]) (fun v6 w => 
 oR Try.prog (Builtin.len_ #[190] 3 #[x0]) (fun v7 w => 
 oP Try.prog (bsem .sub 3 false v6 v7) (fun v8 w => 
 oP Try.prog (bsem .sub 3 false x1 v8) (fun v9 w => 
 oP Try.prog (bsem .gtr 3 true v9 (.int .i64 0)) (fun v10 w => 
 oCond v10 (oR Try.prog (Builtin.cap_ #[190] 3 #[x0]) (fun v11 w => 
 oP Try.prog (Instr.sliceAt 190 x0 none (some v11) none) (fun v12 w => 
 oV Try.prog (EP R) (Builtin.append_ #[190, 3] 190 #[v12, v9]) (fun v13 w => 
 oR Try.prog (Builtin.len_ #[190] 3 #[x0]) (fun v14 w => 
 oP Try.prog (Instr.sliceAt 190 v13 none (some v14) none) (fun v15 w => 
 R (.returned v15) w) w) w) w) w) w)
 (R (.returned x0) w)) w) w) w) w) w)
theorem e_slices_Grow_tree_knot (x0 x1 : Value) (R : Ending → World → Prop) (w : World) : dFn Try.prog Try.f115 p_slices_Grow_tree_knot R [x0, x1] w = h_slices_Grow_tree_knot x0 x1 R w := by kernel_rfl
theorem c_slices_Grow_tree_knot {x0 x1 : Value} {R : Ending → World → Prop} {w : World} (h : h_slices_Grow_tree_knot x0 x1 R w) : Calls Try.prog 115 #[x0, x1] w R :=
  calls_of_dFn (by kernel_rfl) (by kernel_rfl) (by kernel_rfl : fnOk Try.prog Try.f115 p_slices_Grow_tree_knot 2 = true) ((e_slices_Grow_tree_knot x0 x1 R w).mpr h)

/-- slices.Index[[]donjon/api.Slot,donjon/api.Slot] · s:0, v:1 -/
def p_slices_Index_api_Slot : Pl := .seq (.leaf) (.seq (.seq (.leaf) (.block (.loop [8] [4, 5, 8, 9, 10, 11, 12, 13, 14, 15, 16, 17, 18] (.seq (.leaf) (.seq (.cond (.leaf) (.leaf)) (.seq (.block (.seq (.leaf) (.seq (.reg (.leaf [1, 2, 3, 0, 4, 5] [[], [], [], [1, 2], [3], [0, 4]])) (.cond (.seq (.leaf) (.leaf)) (.leaf))))) (.leaf))))))) (.seq (.leaf) (.leaf)))
def h_slices_Index_api_Slot (x0 x1 : Value) (R : Ending → World → Prop) (w : World) : Prop :=
 oV Try.prog (EP R) (Instr.box 66 x1) (fun v1 w => 
 oR Try.prog (Builtin.len_ #[72] 3 #[x0]) (fun v2 w => 
 oLoop (σ := Value) (fun _ s4 n3 w =>
 oP Try.prog (bsem .lss 3 false s4 v2) (fun v5 w => 
 oCond v5 (oDraw (fun w => oP Try.prog (Instr.indexAt 72 x0 s4) (fun v6 w => 
 oR Try.prog (Instr.loadAt 66 v1) (fun v7 w => 
 oR Try.prog (Instr.loadAt 66 v6) (fun v8 w => 
 oV Try.prog (EP R) (bsem .eql 66 false v7 v8) (fun v9 w => 
 oCond v9 (R (.returned s4) w)
 (oP Try.prog (bsem .add 3 true s4 (.int .i64 1)) (fun v10 w => 
 n3 v10 w) w)) w) w) w) w) w)
 (R (.returned (.int .i64 (-1))) w)) w)
 (.int .i64 0) w) w) w
theorem e_slices_Index_api_Slot (x0 x1 : Value) (R : Ending → World → Prop) (w : World) : dFn Try.prog Try.f117 p_slices_Index_api_Slot R [x0, x1] w = h_slices_Index_api_Slot x0 x1 R w := by kernel_rfl
theorem c_slices_Index_api_Slot {x0 x1 : Value} {R : Ending → World → Prop} {w : World} (h : h_slices_Index_api_Slot x0 x1 R w) : Calls Try.prog 117 #[x0, x1] w R :=
  calls_of_dFn (by kernel_rfl) (by kernel_rfl) (by kernel_rfl : fnOk Try.prog Try.f117 p_slices_Index_api_Slot 2 = true) ((e_slices_Index_api_Slot x0 x1 R w).mpr h)

/-- (*donjon/tree.Tree).Drop · t:0, s:1 -/
def p_tree_Tree_Drop : Pl := .seq (.leaf) (.seq (.reg (.leaf [0, 1, 2, 3, 4, 5, 6] [[], [0], [1], [2], [], [3, 4], [5]])) (.seq (.seq (.leaf) (.cond (.seq (.leaf) (.leaf)) (.leaf))) (.seq (.seq (.leaf) (.block (.loop [23] [7, 23, 24, 25, 26, 27, 28, 29, 30, 31, 32, 33, 34] (.seq (.leaf) (.seq (.cond (.leaf) (.leaf)) (.seq (.block (.seq (.leaf) (.leaf))) (.leaf))))))) (.jseq [] [8, 9, 35, 36, 37, 38, 39, 40, 41, 42, 43, 44, 45, 46, 47, 48, 49, 50, 51, 52, 53, 54, 55, 56, 57, 58, 59, 60, 61, 62, 63, 64, 65, 66, 67, 68] (.seq (.leaf) (.seq (.leaf) (.cond (.seq (.leaf) (.reg (.leaf [0, 1, 2, 3, 5, 7, 8, 9, 11, 12, 13, 15, 16, 4, 6, 10, 14, 17, 18, 19, 20, 21, 22] [[], [], [1], [2], [3], [], [4, 5], [], [7], [8], [9], [], [11], [12], [13], [], [15], [14, 16], [4, 6, 10, 14, 17], [4, 10, 14, 18], [0, 18, 19], [18, 19, 20], [4, 10, 14, 18, 19, 21]]))) (.leaf)))) (.seq (.reg (.leaf [0, 1, 2, 3, 4, 5] [[], [0], [1], [2], [], [3, 4]])) (.seq (.leaf) (.leaf)))))))
def h_tree_Tree_Drop (x0 x1 : Value) (R : Ending → World → Prop) (w : World) : Prop :=
 oV Try.prog (EP R) (Instr.box 66 x1) (fun v1 w => 
 oDraw (fun w => oNil x0 (fun v2 w => 
 oP Try.prog (Instr.fieldAt 177 v2 0) (fun v3 w => 
 oR Try.prog (Instr.loadAt 175 v3) (fun v4 w => 
 oR Try.prog (Instr.loadAt 66 v1) (fun v5 w => 
 oR Try.prog (Instr.lookup 175 v4 v5 false) (fun v6 w => 
 oP Try.prog (bsem .eql 189 true v6 (.pointer none)) (fun v7 w => 
 oCond v7 (R (.returned (.int .i64 3)) w)
 (oNil v6 (fun v8 w => 
 oP Try.prog (Instr.fieldAt 193 v8 2) (fun v9 w => 
 oR Try.prog (Instr.loadAt 190 v9) (fun v10 w => 
 oR Try.prog (Builtin.len_ #[190] 3 #[v10]) (fun v11 w => 
 oLoop (σ := Value) (fun _ s13 n12 w =>
 oP Try.prog (bsem .lss 3 false s13 v11) (fun v14 w => 
 oCond v14 (oP Try.prog (Instr.indexAt 190 v10 s13) (fun v15 w => 
 oR Try.prog (Instr.loadAt 189 v15) (fun v16 w => 
 oNil v6 (fun v17 w => 
 oP Try.prog (Instr.fieldAt 193 v17 1) (fun v18 w => 
 oR Try.prog (Instr.loadAt 189 v18) (fun v19 w => 
 oNil v16 (fun v20 w => 
 oP Try.prog (Instr.fieldAt 193 v20 1) (fun v21 w => 
 oS Try.prog (EP R) (Instr.storeAt 189 v21 v19) (fun v22 w => 
 oP Try.prog (bsem .add 3 true s13 (.int .i64 1)) (fun v23 w => 
 n12 v23 w) w) w) w) w) w) w) w) w) w)
 (oJoin (σ := Unit) (fun k24 =>
 oNil v6 (fun v26 w => 
 oP Try.prog (Instr.fieldAt 193 v26 1) (fun v27 w => 
 oR Try.prog (Instr.loadAt 189 v27) (fun v28 w => 
 oP Try.prog (bsem .neq 189 true v28 (.pointer none)) (fun v29 w => 
 oCond v29 (oNil v28 (fun v30 w => 
 oP Try.prog (Instr.fieldAt 193 v30 2) (fun v31 w => 
 oR Try.prog (Instr.loadAt 190 v31) (fun v32 w => 
 oC Try.prog (EP R) 120 #[v32, v6] (fun v33 w => 
 oDraw (fun w => oNil v28 (fun v34 w => 
 oP Try.prog (Instr.fieldAt 193 v34 2) (fun v35 w => 
 oNil v6 (fun v36 w => 
 oP Try.prog (Instr.fieldAt 193 v36 2) (fun v37 w => 
 oNil v28 (fun v38 w => 
 oP Try.prog (Instr.fieldAt 193 v38 2) (fun v39 w => 
 oP Try.prog (bsem .add 3 true v33 (.int .i64 1)) (fun v40 w => 
 oR Try.prog (Instr.loadAt 190 v35) (fun v41 w => 
 oP Try.prog (Instr.sliceAt 190 v41 none (some v33) none) (fun v42 w => 
 oR Try.prog (Instr.loadAt 190 v37) (fun v43 w => 
 oR Try.prog (Instr.loadAt 190 v39) (fun v44 w => 
 oP Try.prog (Instr.sliceAt 190 v44 (some v40) none none) (fun v45 w => 
 oV Try.prog (EP R) (Instr.buildSlice 238 3 #[(0, v42), (1, v43), (2, v45)]) (fun v46 w => 
 oC Try.prog (EP R) 82 #[v46] (fun v47 w => 
 oNil v28 (fun v48 w => 
 oP Try.prog (Instr.fieldAt 193 v48 2) (fun v49 w => 
 oS Try.prog (EP R) (Instr.storeAt 190 v49 v47) (fun v50 w => 
 k24 () w) w) w) w) w) w) w) w) w) w) w) w) w) w) w) w) w) w) w) w) w) w) w)
 (k24 () w)) w) w) w) w)
 (fun _ s25 w =>
 oDraw (fun w => oNil x0 (fun v51 w => 
 oP Try.prog (Instr.fieldAt 177 v51 0) (fun v52 w => 
 oR Try.prog (Instr.loadAt 175 v52) (fun v53 w => 
 oR Try.prog (Instr.loadAt 66 v1) (fun v54 w => 
 oV Try.prog (EP R) (Builtin.delete_ #[175, 66] 0 #[v53, v54]) (fun v55 w => 
 R (.returned (.int .i64 0)) w) w) w) w) w) w) w))) w)
 (.int .i64 0) w) w) w) w) w)) w) w) w) w) w) w) w) w
theorem e_tree_Tree_Drop (x0 x1 : Value) (R : Ending → World → Prop) (w : World) : dFn Try.prog Try.f118 p_tree_Tree_Drop R [x0, x1] w = h_tree_Tree_Drop x0 x1 R w := by kernel_rfl
theorem c_tree_Tree_Drop {x0 x1 : Value} {R : Ending → World → Prop} {w : World} (h : h_tree_Tree_Drop x0 x1 R w) : Calls Try.prog 118 #[x0, x1] w R :=
  calls_of_dFn (by kernel_rfl) (by kernel_rfl) (by kernel_rfl : fnOk Try.prog Try.f118 p_tree_Tree_Drop 2 = true) ((e_tree_Tree_Drop x0 x1 R w).mpr h)

/-- (*donjon/slots.Store).Drop · s:0, id:1 -/
def p_slots_Store_Drop : Pl := .seq (.leaf) (.seq (.leaf) (.seq (.block (.seq (.leaf) (.cond (.seq (.leaf) (.leaf)) (.seq (.leaf) (.cond (.seq (.leaf) (.leaf)) (.leaf)))))) (.seq (.leaf) (.seq (.leaf) (.leaf)))))
def h_slots_Store_Drop (x0 x1 : Value) (R : Ending → World → Prop) (w : World) : Prop :=
 oNil x0 (fun v1 w => 
 oP Try.prog (Instr.fieldAt 150 v1 0) (fun v2 w => 
 oR Try.prog (Instr.loadAt 148 v2) (fun v3 w => 
 oR Try.prog (Instr.lookup 148 v3 x1 false) (fun v4 w => 
 oP Try.prog (bsem .eql 147 true v4 (.pointer none)) (fun v5 w => 
 oCond v5 (R (.returned (.int .i64 3)) w)
 (oNil v4 (fun v6 w => 
 oP Try.prog (Instr.fieldAt 153 v6 1) (fun v7 w => 
 oR Try.prog (Instr.loadAt 151 v7) (fun v8 w => 
 oP Try.prog (Instr.build 151 #[]) (fun v9 w => 
 oV Try.prog (EP R) (bsem .neq 151 false v8 v9) (fun v10 w => 
 oCond v10 (R (.returned (.int .i64 8)) w)
 (oNil x0 (fun v11 w => 
 oP Try.prog (Instr.fieldAt 150 v11 0) (fun v12 w => 
 oR Try.prog (Instr.loadAt 148 v12) (fun v13 w => 
 oV Try.prog (EP R) (Builtin.delete_ #[148, 3] 0 #[v13, x1]) (fun v14 w => 
 R (.returned (.int .i64 0)) w) w) w) w) w)) w) w) w) w) w)) w) w) w) w) w
theorem e_slots_Store_Drop (x0 x1 : Value) (R : Ending → World → Prop) (w : World) : dFn Try.prog Try.f119 p_slots_Store_Drop R [x0, x1] w = h_slots_Store_Drop x0 x1 R w := by kernel_rfl
theorem c_slots_Store_Drop {x0 x1 : Value} {R : Ending → World → Prop} {w : World} (h : h_slots_Store_Drop x0 x1 R w) : Calls Try.prog 119 #[x0, x1] w R :=
  calls_of_dFn (by kernel_rfl) (by kernel_rfl) (by kernel_rfl : fnOk Try.prog Try.f119 p_slots_Store_Drop 2 = true) ((e_slots_Store_Drop x0 x1 R w).mpr h)

/-- slices.Index[[]*donjon/tree.knot,*donjon/tree.knot] · s:0, v:1 -/
def p_slices_Index_tree_knot : Pl := .seq (.leaf) (.seq (.seq (.leaf) (.block (.loop [8] [4, 5, 8, 9, 10, 11, 12, 13, 14, 15, 16, 17, 18] (.seq (.leaf) (.seq (.cond (.leaf) (.leaf)) (.seq (.block (.seq (.leaf) (.seq (.leaf) (.cond (.seq (.leaf) (.leaf)) (.leaf))))) (.leaf))))))) (.seq (.leaf) (.leaf)))
def h_slices_Index_tree_knot (x0 x1 : Value) (R : Ending → World → Prop) (w : World) : Prop :=
 oR Try.prog (Builtin.len_ #[190] 3 #[x0]) (fun v1 w => 
 oLoop (σ := Value) (fun _ s3 n2 w =>
 oP Try.prog (bsem .lss 3 false s3 v1) (fun v4 w => 
 oCond v4 (oP Try.prog (Instr.indexAt 190 x0 s3) (fun v5 w => 
 oR Try.prog (Instr.loadAt 189 v5) (fun v6 w => 
 oV Try.prog (EP R) (bsem .eql 189 false x1 v6) (fun v7 w => 
 oCond v7 (R (.returned s3) w)
 (oP Try.prog (bsem .add 3 true s3 (.int .i64 1)) (fun v8 w => 
 n2 v8 w) w)) w) w) w)
 (R (.returned (.int .i64 (-1))) w)) w)
 (.int .i64 0) w) w
theorem e_slices_Index_tree_knot (x0 x1 : Value) (R : Ending → World → Prop) (w : World) : dFn Try.prog Try.f120 p_slices_Index_tree_knot R [x0, x1] w = h_slices_Index_tree_knot x0 x1 R w := by kernel_rfl
theorem c_slices_Index_tree_knot {x0 x1 : Value} {R : Ending → World → Prop} {w : World} (h : h_slices_Index_tree_knot x0 x1 R w) : Calls Try.prog 120 #[x0, x1] w R :=
  calls_of_dFn (by kernel_rfl) (by kernel_rfl) (by kernel_rfl : fnOk Try.prog Try.f120 p_slices_Index_tree_knot 2 = true) ((e_slices_Index_tree_knot x0 x1 R w).mpr h)

end Go.Proofs.Ytpghhaobcikdhaa
