import Derived.Test.YtkpinncakbnikaaNp1
import Derived.Test.YtkpinncakbnikaaProg
namespace Go.Proofs.Ytkpinncakbnikaa
open Go Np Go.Proofs
set_option linter.unusedVariables false
theorem follows : Try.prog.follows .mixedOrders = true := by kernel_rfl

/-- nameplate/nameplatelaw09.RdataTexts -/
abbrev F_nameplatelaw09_RdataTexts : Nat := 3
def T_nameplatelaw09_RdataTexts (x0 : Value) (x1 : Value) (w : World) (R : Value → World → Prop) : Prop :=
Gv Try.prog 8 #[] w fun v1 w2 =>
pu Try.prog (Op.unary .not v1) fun v3 =>
brV v3 (
R (.bool false) w2) (
CutL [0, 1, 27] (fun J4 =>
pu Try.prog (bltS .len #[22] 3 #[x0]) fun v7 =>
pu Try.prog (bin .eql 3 false true v7 (.int .i64 0)) fun v8 =>
brV v8 (
J4 [x0, x1, (.bool true)] w2) (
pu Try.prog (bltS .len #[22] 3 #[x0]) fun v9 =>
pu Try.prog (bin .gtr 3 false true v9 (.int .i64 20)) fun v10 =>
brV v10 (
J4 [x0, x1, (.bool true)] w2) (
pu Try.prog (bltS .len #[9] 3 #[x1]) fun v11 =>
pu Try.prog (bin .gtr 3 false true v11 (.int .i64 1500)) fun v12 =>
J4 [x0, x1, v12] w2))) (fun ρ5 w6 =>
brV (ρ5 27) (
R (.bool true) w6) (
LoopL [0, 1, 5, 6] (fun ρ14 w15 N13 =>
pu Try.prog (bltS .len #[22] 3 #[(ρ14 0)]) fun v16 =>
pu Try.prog (bin .lss 3 false false (ρ14 6) v16) fun v17 =>
brV v17 (
pu Try.prog (Instr.indexAt 22 (ρ14 0) (ρ14 6)) fun v18 =>
rd Try.prog (Instr.loadAt 9 v18) w15 fun v19 =>
pu Try.prog (bltS .len #[9] 3 #[v19]) fun v20 =>
pu Try.prog (bin .gtr 3 false true v20 (.int .i64 255)) fun v21 =>
brV v21 (
pu Try.prog (Instr.build 33 #[(4, (ρ14 0))]) fun v22 =>
Gv Try.prog 9 #[(.int .i64 16), v22] w15 fun v23 w24 =>
pu Try.prog (bin .eql 24 false true v23 (.int .i64 3)) fun v25 =>
R v25 w24) (
dw w15 fun w26 =>
pu Try.prog (Instr.indexAt 22 (ρ14 0) (ρ14 6)) fun v27 =>
rd Try.prog (Instr.loadAt 9 v27) w26 fun v28 =>
pu Try.prog (bltS .len #[9] 3 #[v28]) fun v29 =>
pu Try.prog (convert 3 5 v29) fun v30 =>
pu Try.prog (Instr.indexAt 22 (ρ14 0) (ρ14 6)) fun v31 =>
rd Try.prog (Instr.loadAt 9 v31) w26 fun v32 =>
ef Try.prog (Instr.buildSlice 34 1 #[(0, v30)]) w26 fun v33 w34 =>
rdV Try.prog (Instr.loadAt 9 v31) v32 w34 ∧ (rd Try.prog (convert 34 9 v33) w34 fun v35 =>
pu Try.prog (bin .add 9 false false (ρ14 5) v35) fun v36 =>
pu Try.prog (bin .add 9 false false v36 v32) fun v37 =>
pu Try.prog (bin .add 3 false true (ρ14 6) (.int .i64 1)) fun v38 =>
N13 [(ρ14 0), (ρ14 1), v37, v38] w34))) (
Gv Try.prog 10 #[(.int .i64 65535)] w15 fun v39 w40 =>
Gv Try.prog 10 #[(.int .i64 65535)] w40 fun v41 w42 =>
pu Try.prog (Instr.build 33 #[(4, (ρ14 0))]) fun v43 =>
Gv Try.prog 11 #[v39, (.int .i64 16), v43] w42 fun v44 w45 =>
pu Try.prog (Instr.build 33 #[(5, (ρ14 1))]) fun v46 =>
Gv Try.prog 11 #[v41, (.int .i64 9999), v46] w45 fun v47 w48 =>
pu Try.prog (bltS .len #[9] 3 #[(ρ14 1)]) fun v49 =>
Gv Try.prog 12 #[(ρ14 1), (.int .i64 0), v49, (.int .i64 9999)] w48 fun v50 w51 =>
ext v50 0 fun v52 =>
ext v50 1 fun v53 =>
ef Try.prog (Instr.alloc 33 true (.tuple #[])) w51 fun v54 w55 =>
efU Try.prog (Instr.storeAt 33 v54 v52) w55 fun w57 =>
pu Try.prog (bin .eql 24 false true v44 (.int .i64 0)) fun v58 =>
brV v58 (
Gv Try.prog 13 #[v39] w57 fun v59 w60 =>
pu Try.prog (bin .eql 9 false false v59 (ρ14 5)) fun v61 =>
brV v61 (
pu Try.prog (Instr.build 33 #[(4, (ρ14 0))]) fun v62 =>
Gv Try.prog 14 #[(.int .i64 16), v62] w60 fun v63 w64 =>
pu Try.prog (bltS .len #[9] 3 #[(ρ14 5)]) fun v65 =>
pu Try.prog (bin .eql 3 false false v63 v65) fun v66 =>
brV v66 (
pu Try.prog (bin .eql 24 false true v47 (.int .i64 0)) fun v67 =>
brV v67 (
Gv Try.prog 13 #[v41] w64 fun v68 w69 =>
pu Try.prog (bin .eql 9 false false v68 (ρ14 1)) fun v70 =>
brV v70 (
pu Try.prog (bin .eql 24 false true v53 (.int .i64 0)) fun v71 =>
brV v71 (
pu Try.prog (Instr.fieldAt 33 v54 5) fun v72 =>
rd Try.prog (Instr.loadAt 9 v72) w69 fun v73 =>
pu Try.prog (bin .eql 9 false false v73 (ρ14 1)) fun v74 =>
R v74 w69) (
R (.bool false) w69)) (
R (.bool false) w69)) (
R (.bool false) w64)) (
R (.bool false) w64)) (
R (.bool false) w60)) (
R (.bool false) w57))) [(ρ5 0), (ρ5 1), (.string { data := #[] }), (.int .i64 0)] w6)))
theorem e_nameplatelaw09_RdataTexts (x0 : Value) (x1 : Value) (w : World) (R : Value → World → Prop) : fnD Try.prog Try.f3 (.two .nil (.two .nil (.two (.cut [0, 1, 27] .nil .nil) (.two .nil (.two (.two .nil (.loop [0, 1, 5, 6] (.two .nil (.two (.two .nil (.plan [0, 0, 0, 6, 14, 30, 62, 126, 254, 511, 0, 0, 3072, 7168, 16383, 32767] (.q 0 (.q 1 (.q 2 (.q 3 (.q 4 (.q 5 (.q 6 (.q 10 (.q 11 (.q 12 (.q 13 (.e 7 (.q 8 (.q 9 (.q 14 (.q 15 .done)))) .nil)))))))))))))) .nil)))) .nil))))) [x0, x1] w R = T_nameplatelaw09_RdataTexts x0 x1 w R := by kernel_rfl
theorem ok_nameplatelaw09_RdataTexts {x0 x1 w : _} {R : Value → World → Prop} (h : T_nameplatelaw09_RdataTexts x0 x1 w R) : Gv Try.prog 3 #[x0, x1] w R :=
  fn_of_D (fn := Try.f3) follows Try.func3 (by kernel_rfl) ((e_nameplatelaw09_RdataTexts x0 x1 w R).symm ▸ h)

/-- nameplate/nameplatelaw09.RdataUnlike -/
abbrev F_nameplatelaw09_RdataUnlike : Nat := 4
def T_nameplatelaw09_RdataUnlike (x0 : Value) (x1 : Value) (x2 : Value) (w : World) (R : Value → World → Prop) : Prop :=
ef Try.prog (Instr.box 33 x1) w fun v1 w2 =>
ef Try.prog (Instr.box 33 x2) w2 fun v3 w4 =>
Gv Try.prog 8 #[] w4 fun v5 w6 =>
pu Try.prog (Op.unary .not v5) fun v7 =>
brV v7 (
R (.bool false) w6) (
CutL [0, 4, 5, 18] (fun J8 =>
rd Try.prog (Instr.loadAt 33 v1) w6 fun v11 =>
Gv Try.prog 15 #[v11] w6 fun v12 w13 =>
pu Try.prog (Op.unary .not v12) fun v14 =>
brV v14 (
J8 [x0, v1, v3, (.bool true)] w13) (
rd Try.prog (Instr.loadAt 33 v3) w13 fun v15 =>
Gv Try.prog 15 #[v15] w13 fun v16 w17 =>
pu Try.prog (Op.unary .not v16) fun v18 =>
J8 [x0, v1, v3, v18] w17)) (fun ρ9 w10 =>
brV (ρ9 18) (
R (.bool true) w10) (
Gv Try.prog 10 #[(.int .i64 65535)] w10 fun v19 w20 =>
Gv Try.prog 10 #[(.int .i64 65535)] w20 fun v21 w22 =>
rd Try.prog (Instr.loadAt 33 (ρ9 4)) w22 fun v23 =>
Gv Try.prog 11 #[v19, (ρ9 0), v23] w22 fun v24 w25 =>
pu Try.prog (bin .neq 24 false true v24 (.int .i64 0)) fun v26 =>
brV v26 (
R (.bool true) w25) (
rd Try.prog (Instr.loadAt 33 (ρ9 5)) w25 fun v27 =>
Gv Try.prog 11 #[v21, (ρ9 0), v27] w25 fun v28 w29 =>
pu Try.prog (bin .neq 24 false true v28 (.int .i64 0)) fun v30 =>
brV v30 (
R (.bool true) w29) (
dw w29 fun w31 =>
rd Try.prog (Instr.loadAt 33 (ρ9 4)) w31 fun v32 =>
rd Try.prog (Instr.loadAt 33 (ρ9 5)) w31 fun v33 =>
Gv Try.prog 13 #[v19] w31 fun v34 w35 =>
rdV Try.prog (Instr.loadAt 33 (ρ9 5)) v33 w35 ∧ (rdV Try.prog (Instr.loadAt 33 (ρ9 4)) v32 w35 ∧ (Gv Try.prog 13 #[v21] w35 fun v36 w37 =>
rdV Try.prog (Instr.loadAt 33 (ρ9 5)) v33 w37 ∧ (rdV Try.prog (Instr.loadAt 33 (ρ9 4)) v32 w37 ∧ (pu Try.prog (bin .eql 9 false false v34 v36) fun v38 =>
Gv Try.prog 16 #[v32, v33] w37 fun v39 w40 =>
pu Try.prog (bin .eql 4 false false v38 v39) fun v41 =>
R v41 w40)))))))))
theorem e_nameplatelaw09_RdataUnlike (x0 : Value) (x1 : Value) (x2 : Value) (w : World) (R : Value → World → Prop) : fnD Try.prog Try.f4 (.two .nil (.two .nil (.two (.cut [0, 4, 5, 18] .nil .nil) (.two .nil (.two .nil (.two (.plan [0, 1, 0, 7, 15, 0, 0, 111, 255, 511] (.q 0 (.q 2 (.q 5 (.q 6 (.e 1 (.e 3 (.q 4 (.e 7 (.q 8 (.q 9 .done)) .nil)) .nil) .nil)))))) .nil)))))) [x0, x1, x2] w R = T_nameplatelaw09_RdataUnlike x0 x1 x2 w R := by kernel_rfl
theorem ok_nameplatelaw09_RdataUnlike {x0 x1 x2 w : _} {R : Value → World → Prop} (h : T_nameplatelaw09_RdataUnlike x0 x1 x2 w R) : Gv Try.prog 4 #[x0, x1, x2] w R :=
  fn_of_D (fn := Try.f4) follows Try.func4 (by kernel_rfl) ((e_nameplatelaw09_RdataUnlike x0 x1 x2 w R).symm ▸ h)

/-- nameplate/nameplatelaw09.RdataBack -/
abbrev F_nameplatelaw09_RdataBack : Nat := 5
def T_nameplatelaw09_RdataBack (x0 : Value) (x1 : Value) (x2 : Value) (w : World) (R : Value → World → Prop) : Prop :=
ef Try.prog (Instr.box 33 x1) w fun v1 w2 =>
Gv Try.prog 8 #[] w2 fun v3 w4 =>
pu Try.prog (Op.unary .not v3) fun v5 =>
brV v5 (
R (.bool false) w4) (
CutL [0, 2, 4, 33] (fun J6 =>
rd Try.prog (Instr.loadAt 33 v1) w4 fun v9 =>
Gv Try.prog 15 #[v9] w4 fun v10 w11 =>
pu Try.prog (Op.unary .not v10) fun v12 =>
brV v12 (
J6 [x0, x2, v1, (.bool true)] w11) (
pu Try.prog (bltS .len #[29] 3 #[x2]) fun v13 =>
pu Try.prog (bin .gtr 3 false true v13 (.int .i64 400)) fun v14 =>
brV v14 (
J6 [x0, x2, v1, (.bool true)] w11) (
rd Try.prog (Instr.loadAt 33 v1) w11 fun v15 =>
Gv Try.prog 9 #[x0, v15] w11 fun v16 w17 =>
pu Try.prog (bin .neq 24 false true v16 (.int .i64 0)) fun v18 =>
J6 [x0, x2, v1, v18] w17))) (fun ρ7 w8 =>
brV (ρ7 33) (
R (.bool true) w8) (
Gv Try.prog 10 #[(.int .i64 65535)] w8 fun v19 w20 =>
Gv Try.prog 17 #[v19, (ρ7 2)] w20 fun v21 w22 =>
Gv Try.prog 18 #[v19] w22 fun v23 w24 =>
rd Try.prog (Instr.loadAt 33 (ρ7 4)) w24 fun v25 =>
Gv Try.prog 11 #[v19, (ρ7 0), v25] w24 fun v26 w27 =>
pu Try.prog (bin .neq 24 false true v26 (.int .i64 0)) fun v28 =>
brV v28 (
R (.bool false) w27) (
Gv Try.prog 18 #[v19] w27 fun v29 w30 =>
pu Try.prog (bin .sub 3 false false v29 v23) fun v31 =>
rd Try.prog (Instr.loadAt 33 (ρ7 4)) w30 fun v32 =>
Gv Try.prog 14 #[(ρ7 0), v32] w30 fun v33 w34 =>
pu Try.prog (bin .gtr 3 false false v31 v33) fun v35 =>
brV v35 (
R (.bool false) w34) (
Gv Try.prog 13 #[v19] w34 fun v36 w37 =>
pu Try.prog (bin .add 9 false true v36 (.string { data := #[0] })) fun v38 =>
Gv Try.prog 12 #[v38, v23, v29, (ρ7 0)] w37 fun v39 w40 =>
ext v39 0 fun v41 =>
ext v39 1 fun v42 =>
ef Try.prog (Instr.alloc 33 true (.tuple #[])) w40 fun v43 w44 =>
efU Try.prog (Instr.storeAt 33 v43 v41) w44 fun w46 =>
CutL [0, 8, 9, 10, 72] (fun J47 =>
pu Try.prog (bin .neq 24 false true v42 (.int .i64 0)) fun v50 =>
brV v50 (
J47 [(ρ7 0), v23, v29, v38, (.bool true)] w46) (
rd Try.prog (Instr.loadAt 33 v43) w46 fun v51 =>
rd Try.prog (Instr.loadAt 33 (ρ7 4)) w46 fun v52 =>
Gv Try.prog 16 #[v51, v52] w46 fun v53 w54 =>
pu Try.prog (Op.unary .not v53) fun v55 =>
J47 [(ρ7 0), v23, v29, v38, v55] w54)) (fun ρ48 w49 =>
brV (ρ48 72) (
R (.bool false) w49) (
pu Try.prog (bin .add 3 false true (ρ48 9) (.int .i64 1)) fun v56 =>
Gv Try.prog 12 #[(ρ48 10), (ρ48 8), v56, (ρ48 0)] w49 fun v57 w58 =>
ext v57 0 fun v59 =>
ext v57 1 fun v60 =>
ef Try.prog (Instr.alloc 33 true (.tuple #[])) w58 fun v61 w62 =>
efU Try.prog (Instr.storeAt 33 v61 v59) w62 fun w64 =>
CutL [0, 8, 9, 10, 14, 15] (fun J65 =>
Gv Try.prog 19 #[(ρ48 0)] w64 fun v68 w69 =>
pu Try.prog (Op.unary .not v68) fun v70 =>
brV v70 (
J65 [(ρ48 0), (ρ48 8), (ρ48 9), (ρ48 10), v60, (.bool true)] w69) (
pu Try.prog (bin .eql 3 false true (ρ48 0) (.int .i64 41)) fun v71 =>
J65 [(ρ48 0), (ρ48 8), (ρ48 9), (ρ48 10), v60, v71] w69)) (fun ρ66 w67 =>
CutL [0, 8, 9, 10, 14, 15, 98] (fun J72 =>
pu Try.prog (Op.unary .not (ρ66 15)) fun v75 =>
brV v75 (
pu Try.prog (bin .neq 3 false true (ρ66 0) (.int .i64 16)) fun v76 =>
brV v76 (
pu Try.prog (bin .neq 24 false true (ρ66 14) (.int .i64 4)) fun v77 =>
J72 [(ρ66 0), (ρ66 8), (ρ66 9), (ρ66 10), (ρ66 14), (ρ66 15), v77] w67) (
J72 [(ρ66 0), (ρ66 8), (ρ66 9), (ρ66 10), (ρ66 14), (ρ66 15), (.bool false)] w67)) (
J72 [(ρ66 0), (ρ66 8), (ρ66 9), (ρ66 10), (ρ66 14), (ρ66 15), (.bool false)] w67)) (fun ρ73 w74 =>
brV (ρ73 98) (
R (.bool false) w74) (
pu Try.prog (bin .eql 3 false false (ρ73 9) (ρ73 8)) fun v78 =>
brV v78 (
pu Try.prog (bin .eql 24 false true (ρ73 14) (.int .i64 0)) fun v79 =>
R v79 w74) (
brV (ρ73 15) (
pu Try.prog (bin .eql 24 false true (ρ73 14) (.int .i64 0)) fun v80 =>
R v80 w74) (
pu Try.prog (bin .sub 3 false true (ρ73 9) (.int .i64 1)) fun v81 =>
Gv Try.prog 12 #[(ρ73 10), (ρ73 8), v81, (ρ73 0)] w74 fun v82 w83 =>
ext v82 0 fun v84 =>
ext v82 1 fun v85 =>
ef Try.prog (Instr.alloc 33 true (.tuple #[])) w83 fun v86 w87 =>
efU Try.prog (Instr.storeAt 33 v86 v84) w87 fun w89 =>
pu Try.prog (bin .eql 3 false true (ρ73 0) (.int .i64 16)) fun v90 =>
brV v90 (
R (.bool true) w89) (
pu Try.prog (bin .neq 24 false true v85 (.int .i64 0)) fun v91 =>
R v91 w89)))))))))))))
theorem e_nameplatelaw09_RdataBack (x0 : Value) (x1 : Value) (x2 : Value) (w : World) (R : Value → World → Prop) : fnD Try.prog Try.f5 (.two .nil (.two .nil (.two (.cut [0, 2, 4, 33] .nil .nil) (.two .nil (.two .nil (.two .nil (.two .nil (.two .nil (.two .nil (.two .nil (.two .nil (.two (.cut [0, 8, 9, 10, 72] .nil .nil) (.two .nil (.cut [0, 8, 9, 10, 14, 15] .nil (.two (.cut [0, 8, 9, 10, 14, 15, 98] .nil .nil) .nil))))))))))))))) [x0, x1, x2] w R = T_nameplatelaw09_RdataBack x0 x1 x2 w R := by kernel_rfl
theorem ok_nameplatelaw09_RdataBack {x0 x1 x2 w : _} {R : Value → World → Prop} (h : T_nameplatelaw09_RdataBack x0 x1 x2 w R) : Gv Try.prog 5 #[x0, x1, x2] w R :=
  fn_of_D (fn := Try.f5) follows Try.func5 (by kernel_rfl) ((e_nameplatelaw09_RdataBack x0 x1 x2 w R).symm ▸ h)

/-- nameplate/nameplatelaw10.RecordNames -/
abbrev F_nameplatelaw10_RecordNames : Nat := 6
def T_nameplatelaw10_RecordNames (w : World) (R : Value → World → Prop) : Prop :=
Gv Try.prog 20 #[] w fun v1 w2 =>
pu Try.prog (Op.unary .not v1) fun v3 =>
brV v3 (
R (.bool false) w2) (
Gv Try.prog 21 #[(.string { data := #[0, 0, 1, 0, 1, 0, 0, 0, 5, 0, 5, 1, 2, 3, 4] }), (.int .i64 0)] w2 fun v4 w5 =>
ext v4 0 fun v6 =>
ext v4 1 fun v7 =>
ext v4 2 fun v8 =>
ef Try.prog (Instr.alloc 51 true (.tuple #[])) w5 fun v9 w10 =>
efU Try.prog (Instr.storeAt 51 v9 v6) w10 fun w12 =>
Gv Try.prog 21 #[(.string { data := #[0, 0, 1, 0, 1, 0, 0, 0, 5, 0, 5, 1, 2, 3, 4, 5] }), (.int .i64 0)] w12 fun v13 w14 =>
ext v13 0 fun v15 =>
ext v13 1 fun v16 =>
ext v13 2 fun v17 =>
ef Try.prog (Instr.alloc 51 true (.tuple #[])) w14 fun v18 w19 =>
efU Try.prog (Instr.storeAt 51 v18 v15) w19 fun w21 =>
Gv Try.prog 21 #[(.string { data := #[0, 0, 1, 0, 1, 0, 0, 0, 5, 0] }), (.int .i64 0)] w21 fun v22 w23 =>
ext v22 0 fun v24 =>
ext v22 1 fun v25 =>
ext v22 2 fun v26 =>
ef Try.prog (Instr.alloc 51 true (.tuple #[])) w23 fun v27 w28 =>
efU Try.prog (Instr.storeAt 51 v27 v24) w28 fun w30 =>
Gv Try.prog 22 #[(.string { data := #[120, 1, 97, 0, 0, 28, 0, 1] }), (.int .i64 1)] w30 fun v31 w32 =>
ext v31 0 fun v33 =>
ext v31 1 fun v34 =>
ext v31 2 fun v35 =>
ef Try.prog (Instr.alloc 55 true (.tuple #[])) w32 fun v36 w37 =>
efU Try.prog (Instr.storeAt 55 v36 v33) w37 fun w39 =>
Gv Try.prog 22 #[(.string { data := #[0, 0, 28, 0] }), (.int .i64 0)] w39 fun v40 w41 =>
ext v40 0 fun v42 =>
ext v40 1 fun v43 =>
ext v40 2 fun v44 =>
ef Try.prog (Instr.alloc 55 true (.tuple #[])) w41 fun v45 w46 =>
efU Try.prog (Instr.storeAt 55 v45 v42) w46 fun w48 =>
pu Try.prog (bin .eql 24 false true v8 (.int .i64 8)) fun v49 =>
brV v49 (
pu Try.prog (bin .eql 24 false true v17 (.int .i64 4)) fun v50 =>
brV v50 (
pu Try.prog (bin .eql 24 false true v26 (.int .i64 8)) fun v51 =>
brV v51 (
pu Try.prog (bin .eql 24 false true v35 (.int .i64 0)) fun v52 =>
brV v52 (
rd Try.prog (Instr.loadAt 55 v36) w48 fun v53 =>
pu Try.prog (Instr.build 55 #[(0, (.string { data := #[1, 97] })), (1, (.int .i64 28)), (2, (.int .i64 1))]) fun v54 =>
pu Try.prog (bin .eql 55 false false v53 v54) fun v55 =>
brV v55 (
pu Try.prog (bin .eql 3 false true v34 (.int .i64 8)) fun v56 =>
brV v56 (
pu Try.prog (bin .eql 24 false true v44 (.int .i64 8)) fun v57 =>
brV v57 (
pu Try.prog (Instr.build 51 #[]) fun v58 =>
Gv Try.prog 23 #[(.pointer none), v58] w48 fun v59 w60 =>
pu Try.prog (bin .eql 24 false true v59 (.int .i64 1)) fun v61 =>
brV v61 (
rd Try.prog (Instr.loadAt 55 v36) w60 fun v62 =>
Gv Try.prog 24 #[(.pointer none), v62] w60 fun v63 w64 =>
pu Try.prog (bin .eql 24 false true v63 (.int .i64 1)) fun v65 =>
brV v65 (
pu Try.prog (Instr.build 51 #[(1, (.int .i64 65536))]) fun v66 =>
Gv Try.prog 25 #[v66] w64 fun v67 w68 =>
pu Try.prog (bin .eql 24 false true v67 (.int .i64 2)) fun v69 =>
brV v69 (
pu Try.prog (Instr.build 51 #[(0, (.string { data := #[0] }))]) fun v70 =>
Gv Try.prog 25 #[v70] w68 fun v71 w72 =>
pu Try.prog (bin .eql 24 false true v71 (.int .i64 4)) fun v73 =>
brV v73 (
pu Try.prog (Instr.build 55 #[(2, (.int .i64 (-1)))]) fun v74 =>
Gv Try.prog 26 #[v74] w72 fun v75 w76 =>
pu Try.prog (bin .eql 24 false true v75 (.int .i64 2)) fun v77 =>
brV v77 (
rd Try.prog (Instr.loadAt 55 v36) w76 fun v78 =>
rd Try.prog (Instr.loadAt 55 v36) w76 fun v79 =>
Gv Try.prog 27 #[v78, v79] w76 fun v80 w81 =>
brV v80 (
rd Try.prog (Instr.loadAt 55 v36) w81 fun v82 =>
pu Try.prog (Instr.build 55 #[(0, (.string { data := #[1, 65] })), (1, (.int .i64 28)), (2, (.int .i64 1))]) fun v83 =>
Gv Try.prog 27 #[v82, v83] w81 fun v84 w85 =>
pu Try.prog (Op.unary .not v84) fun v86 =>
brV v86 (
pu Try.prog (Instr.build 51 #[(1, (.int .i64 (-1)))]) fun v87 =>
Gv Try.prog 28 #[v87] w85 fun v88 w89 =>
pu Try.prog (bin .eql 3 false true v88 (.int .i64 0)) fun v90 =>
R v90 w89) (
R (.bool false) w85)) (
R (.bool false) w81)) (
R (.bool false) w76)) (
R (.bool false) w72)) (
R (.bool false) w68)) (
R (.bool false) w64)) (
R (.bool false) w60)) (
R (.bool false) w48)) (
R (.bool false) w48)) (
R (.bool false) w48)) (
R (.bool false) w48)) (
R (.bool false) w48)) (
R (.bool false) w48)) (
R (.bool false) w48))
theorem e_nameplatelaw10_RecordNames (w : World) (R : Value → World → Prop) : fnD Try.prog Try.f6 .nil [] w R = T_nameplatelaw10_RecordNames w R := by kernel_rfl
theorem ok_nameplatelaw10_RecordNames { w : _} {R : Value → World → Prop} (h : T_nameplatelaw10_RecordNames w R) : Gv Try.prog 6 #[] w R :=
  fn_of_D (fn := Try.f6) follows Try.func6 (by kernel_rfl) ((e_nameplatelaw10_RecordNames w R).symm ▸ h)

/-- nameplate/nameplatelaw10.RecordBack -/
abbrev F_nameplatelaw10_RecordBack : Nat := 7
def T_nameplatelaw10_RecordBack (x0 : Value) (x1 : Value) (w : World) (R : Value → World → Prop) : Prop :=
Gv Try.prog 20 #[] w fun v1 w2 =>
pu Try.prog (Op.unary .not v1) fun v3 =>
brV v3 (
R (.bool false) w2) (
CutL [0, 1, 31] (fun J4 =>
pu Try.prog (bltS .len #[64] 3 #[x0]) fun v7 =>
pu Try.prog (bin .gtr 3 false true v7 (.int .i64 20)) fun v8 =>
brV v8 (
J4 [x0, x1, (.bool true)] w2) (
pu Try.prog (bltS .len #[65] 3 #[x1]) fun v9 =>
pu Try.prog (bin .gtr 3 false true v9 (.int .i64 20)) fun v10 =>
J4 [x0, x1, v10] w2)) (fun ρ5 w6 =>
brV (ρ5 31) (
R (.bool true) w6) (
Gv Try.prog 10 #[(.int .i64 65535)] w6 fun v11 w12 =>
LoopL [0, 1, 5, 6, 7, 8, 9] (fun ρ14 w15 N13 =>
pu Try.prog (bltS .len #[64] 3 #[(ρ14 0)]) fun v16 =>
pu Try.prog (bin .lss 3 false false (ρ14 9) v16) fun v17 =>
brV v17 (
pu Try.prog (Instr.indexAt 64 (ρ14 0) (ρ14 9)) fun v18 =>
pu Try.prog (Instr.fieldAt 55 v18 0) fun v19 =>
rd Try.prog (Instr.loadAt 29 v19) w15 fun v20 =>
pu Try.prog (bltS .len #[29] 3 #[v20]) fun v21 =>
pu Try.prog (bin .gtr 3 false true v21 (.int .i64 400)) fun v22 =>
brV v22 (
R (.bool true) w15) (
pu Try.prog (Instr.indexAt 64 (ρ14 0) (ρ14 9)) fun v23 =>
rd Try.prog (Instr.loadAt 55 v23) w15 fun v24 =>
Gv Try.prog 24 #[(ρ14 5), v24] w15 fun v25 w26 =>
pu Try.prog (bin .eql 24 false true v25 (.int .i64 0)) fun v27 =>
brV v27 (
pu Try.prog (Instr.indexAt 64 (ρ14 0) (ρ14 9)) fun v28 =>
rd Try.prog (Instr.loadAt 55 v28) w26 fun v29 =>
ef Try.prog (Instr.buildSlice 64 1 #[(0, v29)]) w26 fun v30 w31 =>
ef Try.prog (bltS .append #[64, 64] 64 #[(ρ14 7), v30]) w31 fun v32 w33 =>
Gv Try.prog 18 #[(ρ14 5)] w33 fun v34 w35 =>
ef Try.prog (Instr.buildSlice 66 1 #[(0, v34)]) w35 fun v36 w37 =>
ef Try.prog (bltS .append #[66, 66] 66 #[(ρ14 6), v36]) w37 fun v38 w39 =>
pu Try.prog (bin .add 3 false true (ρ14 9) (.int .i64 1)) fun v40 =>
N13 [(ρ14 0), (ρ14 1), (ρ14 5), v38, v32, (ρ14 8), v40] w39) (
pu Try.prog (bin .add 3 false true (ρ14 9) (.int .i64 1)) fun v41 =>
N13 [(ρ14 0), (ρ14 1), (ρ14 5), (ρ14 6), (ρ14 7), (ρ14 8), v41] w26))) (
LoopL [1, 5, 6, 7, 8, 10] (fun ρ43 w44 N42 =>
pu Try.prog (bltS .len #[65] 3 #[(ρ43 1)]) fun v45 =>
pu Try.prog (bin .lss 3 false false (ρ43 10) v45) fun v46 =>
brV v46 (
pu Try.prog (Instr.indexAt 65 (ρ43 1) (ρ43 10)) fun v47 =>
rd Try.prog (Instr.loadAt 51 v47) w44 fun v48 =>
Gv Try.prog 29 #[v48] w44 fun v49 w50 =>
pu Try.prog (Op.unary .not v49) fun v51 =>
brV v51 (
R (.bool true) w50) (
Gv Try.prog 18 #[(ρ43 5)] w50 fun v52 w53 =>
pu Try.prog (Instr.indexAt 65 (ρ43 1) (ρ43 10)) fun v54 =>
rd Try.prog (Instr.loadAt 51 v54) w53 fun v55 =>
Gv Try.prog 23 #[(ρ43 5), v55] w53 fun v56 w57 =>
pu Try.prog (bin .eql 24 false true v56 (.int .i64 0)) fun v58 =>
brV v58 (
pu Try.prog (Instr.indexAt 65 (ρ43 1) (ρ43 10)) fun v59 =>
rd Try.prog (Instr.loadAt 51 v59) w57 fun v60 =>
ef Try.prog (Instr.buildSlice 65 1 #[(0, v60)]) w57 fun v61 w62 =>
ef Try.prog (bltS .append #[65, 65] 65 #[(ρ43 8), v61]) w62 fun v63 w64 =>
Gv Try.prog 18 #[(ρ43 5)] w64 fun v65 w66 =>
ef Try.prog (Instr.buildSlice 66 1 #[(0, v65)]) w66 fun v67 w68 =>
ef Try.prog (bltS .append #[66, 66] 66 #[(ρ43 6), v67]) w68 fun v69 w70 =>
dw w70 fun w71 =>
pu Try.prog (Instr.indexAt 65 (ρ43 1) (ρ43 10)) fun v72 =>
rd Try.prog (Instr.loadAt 51 v72) w71 fun v73 =>
Gv Try.prog 18 #[(ρ43 5)] w71 fun v74 w75 =>
rdV Try.prog (Instr.loadAt 51 v72) v73 w75 ∧ (pu Try.prog (bin .sub 3 false false v74 v52) fun v76 =>
Gv Try.prog 28 #[v73] w75 fun v77 w78 =>
pu Try.prog (bin .gtr 3 false false v76 v77) fun v79 =>
brV v79 (
R (.bool false) w78) (
pu Try.prog (bin .add 3 false true (ρ43 10) (.int .i64 1)) fun v80 =>
N42 [(ρ43 1), (ρ43 5), v69, (ρ43 7), v63, v80] w78))) (
pu Try.prog (bin .add 3 false true (ρ43 10) (.int .i64 1)) fun v81 =>
N42 [(ρ43 1), (ρ43 5), (ρ43 6), (ρ43 7), (ρ43 8), v81] w57))) (
Gv Try.prog 13 #[(ρ43 5)] w44 fun v82 w83 =>
LoopL [6, 7, 8, 12, 13, 14] (fun ρ85 w86 N84 =>
pu Try.prog (bltS .len #[64] 3 #[(ρ85 7)]) fun v87 =>
pu Try.prog (bin .lss 3 false false (ρ85 14) v87) fun v88 =>
brV v88 (
Gv Try.prog 22 #[(ρ85 12), (ρ85 13)] w86 fun v89 w90 =>
ext v89 0 fun v91 =>
ext v89 1 fun v92 =>
ext v89 2 fun v93 =>
ef Try.prog (Instr.alloc 55 true (.tuple #[])) w90 fun v94 w95 =>
efU Try.prog (Instr.storeAt 55 v94 v91) w95 fun w97 =>
dw w97 fun w98 =>
pu Try.prog (bin .neq 24 false true v93 (.int .i64 0)) fun v99 =>
brV v99 (
R (.bool false) w98) (
rd Try.prog (Instr.loadAt 55 v94) w98 fun v100 =>
pu Try.prog (Instr.indexAt 64 (ρ85 7) (ρ85 14)) fun v101 =>
rd Try.prog (Instr.loadAt 55 v101) w98 fun v102 =>
pu Try.prog (bin .neq 55 false false v100 v102) fun v103 =>
brV v103 (
R (.bool false) w98) (
pu Try.prog (Instr.indexAt 66 (ρ85 6) (ρ85 14)) fun v104 =>
rd Try.prog (Instr.loadAt 3 v104) w98 fun v105 =>
pu Try.prog (bin .neq 3 false false v92 v105) fun v106 =>
brV v106 (
R (.bool false) w98) (
pu Try.prog (bin .add 3 false true (ρ85 14) (.int .i64 1)) fun v107 =>
N84 [(ρ85 6), (ρ85 7), (ρ85 8), (ρ85 12), v92, v107] w98)))) (
LoopL [6, 7, 8, 12, 13, 18] (fun ρ109 w110 N108 =>
pu Try.prog (bltS .len #[65] 3 #[(ρ109 8)]) fun v111 =>
pu Try.prog (bin .lss 3 false false (ρ109 18) v111) fun v112 =>
brV v112 (
Gv Try.prog 21 #[(ρ109 12), (ρ109 13)] w110 fun v113 w114 =>
ext v113 0 fun v115 =>
ext v113 1 fun v116 =>
ext v113 2 fun v117 =>
ef Try.prog (Instr.alloc 51 true (.tuple #[])) w114 fun v118 w119 =>
efU Try.prog (Instr.storeAt 51 v118 v115) w119 fun w121 =>
dw w121 fun w122 =>
pu Try.prog (bin .neq 24 false true v117 (.int .i64 0)) fun v123 =>
brV v123 (
R (.bool false) w122) (
rd Try.prog (Instr.loadAt 51 v118) w122 fun v124 =>
pu Try.prog (Instr.indexAt 65 (ρ109 8) (ρ109 18)) fun v125 =>
rd Try.prog (Instr.loadAt 51 v125) w122 fun v126 =>
Gv Try.prog 30 #[v124, v126] w122 fun v127 w128 =>
pu Try.prog (Op.unary .not v127) fun v129 =>
brV v129 (
R (.bool false) w128) (
pu Try.prog (bltS .len #[64] 3 #[(ρ109 7)]) fun v130 =>
pu Try.prog (bin .add 3 false false v130 (ρ109 18)) fun v131 =>
pu Try.prog (Instr.indexAt 66 (ρ109 6) v131) fun v132 =>
rd Try.prog (Instr.loadAt 3 v132) w128 fun v133 =>
pu Try.prog (bin .neq 3 false false v116 v133) fun v134 =>
brV v134 (
R (.bool false) w128) (
pu Try.prog (bin .add 3 false true (ρ109 18) (.int .i64 1)) fun v135 =>
N108 [(ρ109 6), (ρ109 7), (ρ109 8), (ρ109 12), v116, v135] w128)))) (
pu Try.prog (bltS .len #[9] 3 #[(ρ109 12)]) fun v136 =>
pu Try.prog (bin .eql 3 false false (ρ109 13) v136) fun v137 =>
R v137 w110)) [(ρ85 6), (ρ85 7), (ρ85 8), (ρ85 12), (ρ85 13), (.int .i64 0)] w86)) [(ρ43 6), (ρ43 7), (ρ43 8), v82, (.int .i64 0), (.int .i64 0)] w83)) [(ρ14 1), (ρ14 5), (ρ14 6), (ρ14 7), (ρ14 8), (.int .i64 0)] w15)) [(ρ5 0), (ρ5 1), v11, (.slice none 0 0), (.slice none 0 0), (.slice none 0 0), (.int .i64 0)] w12)))
theorem e_nameplatelaw10_RecordBack (x0 : Value) (x1 : Value) (w : World) (R : Value → World → Prop) : fnD Try.prog Try.f7 (.two .nil (.two .nil (.two (.cut [0, 1, 31] .nil .nil) (.two .nil (.two .nil (.two .nil (.two .nil (.two (.two .nil (.loop [0, 1, 5, 6, 7, 8, 9] .nil)) (.two (.two .nil (.loop [1, 5, 6, 7, 8, 10] (.two .nil (.two (.two .nil (.two .nil (.two .nil (.two (.two .nil (.two (.plan [0, 1, 0, 7, 0, 0, 48, 112, 243, 511] (.q 0 (.q 2 (.q 4 (.q 5 (.q 6 (.q 7 (.e 1 (.q 3 (.e 8 (.q 9 .done) .nil)) .nil)))))))) .nil)) .nil)))) .nil)))) (.two .nil (.two (.two .nil (.loop [6, 7, 8, 12, 13, 14] (.two .nil (.two (.two .nil (.two (.two (.plan [0, 1, 3, 7, 7, 7, 55, 119, 255, 511, 1023, 2047, 2047, 2047, 14335, 30719, 65535, 131071] (.q 0 (.q 1 (.q 2 (.q 3 (.q 4 (.q 5 (.q 6 (.q 7 (.q 8 (.q 9 (.q 10 (.q 11 (.q 12 (.q 13 (.q 14 (.q 15 (.q 16 (.q 17 .done))))))))))))))))))) .nil) .nil)) .nil)))) (.two (.two .nil (.loop [6, 7, 8, 12, 13, 18] (.two .nil (.two (.two .nil (.two (.two (.plan [0, 1, 3, 7, 7, 7, 55, 119, 255, 511, 1023, 2047, 4095, 4095, 4095, 20479, 4095, 118783, 258047, 520191, 1048575, 2097151] (.q 0 (.q 1 (.q 2 (.q 3 (.q 4 (.q 5 (.q 6 (.q 7 (.e 8 (.q 9 (.q 10 (.q 11 (.q 12 (.q 13 (.q 14 (.q 15 (.q 16 (.q 17 (.q 18 (.q 19 (.q 20 (.q 21 .done))))))))))))) .nil)))))))))) .nil) .nil)) .nil)))) .nil)))))))))))) [x0, x1] w R = T_nameplatelaw10_RecordBack x0 x1 w R := by kernel_rfl
theorem ok_nameplatelaw10_RecordBack {x0 x1 w : _} {R : Value → World → Prop} (h : T_nameplatelaw10_RecordBack x0 x1 w R) : Gv Try.prog 7 #[x0, x1] w R :=
  fn_of_D (fn := Try.f7) follows Try.func7 (by kernel_rfl) ((e_nameplatelaw10_RecordBack x0 x1 w R).symm ▸ h)

/-- nameplate/nameplatelaw09.lives -/
abbrev F_nameplatelaw09_lives : Nat := 8
def T_nameplatelaw09_lives (w : World) (R : Value → World → Prop) : Prop :=
Gv Try.prog 12 #[(.string { data := #[1, 2, 3, 4] }), (.int .i64 0), (.int .i64 4), (.int .i64 1)] w fun v1 w2 =>
ext v1 0 fun v3 =>
ext v1 1 fun v4 =>
ef Try.prog (Instr.alloc 33 true (.tuple #[])) w2 fun v5 w6 =>
efU Try.prog (Instr.storeAt 33 v5 v3) w6 fun w8 =>
pu Try.prog (Instr.build 31 #[(0, (.int .u32 10))]) fun v9 =>
pu Try.prog (Instr.build 33 #[(1, (.string { data := #[1, 97, 1, 98] })), (3, v9)]) fun v10 =>
Gv Try.prog 14 #[(.int .i64 15), v10] w8 fun v11 w12 =>
pu Try.prog (bin .eql 3 false true v11 (.int .i64 7)) fun v13 =>
brV v13 (
pu Try.prog (bin .eql 24 false true v4 (.int .i64 0)) fun v14 =>
brV v14 (
pu Try.prog (Instr.fieldAt 33 v5 0) fun v15 =>
rd Try.prog (Instr.loadAt 28 v15) w12 fun v16 =>
pu Try.prog (Instr.build 28 #[(2, (.int .u64 16909060))]) fun v17 =>
pu Try.prog (bin .eql 28 false false v16 v17) fun v18 =>
R v18 w12) (
R (.bool false) w12)) (
R (.bool false) w12)
theorem e_nameplatelaw09_lives (w : World) (R : Value → World → Prop) : fnD Try.prog Try.f8 .nil [] w R = T_nameplatelaw09_lives w R := by kernel_rfl
theorem ok_nameplatelaw09_lives { w : _} {R : Value → World → Prop} (h : T_nameplatelaw09_lives w R) : Gv Try.prog 8 #[] w R :=
  fn_of_D (fn := Try.f8) follows Try.func8 (by kernel_rfl) ((e_nameplatelaw09_lives w R).symm ▸ h)

/-- nameplate/rdata.Check -/
abbrev F_rdata_Check : Nat := 9
def T_rdata_Check (x0 : Value) (x1 : Value) (w : World) (R : Value → World → Prop) : Prop :=
ef Try.prog (Instr.box 33 x1) w fun v1 w2 =>
rd Try.prog (Instr.loadAt 33 v1) w2 fun v3 =>
Gv Try.prog 31 #[x0, v3] w2 fun v4 w5 =>
pu Try.prog (bin .neq 24 false true v4 (.int .i64 0)) fun v6 =>
brV v6 (
R v4 w5) (
rd Try.prog (Instr.loadAt 33 v1) w5 fun v7 =>
Gv Try.prog 14 #[x0, v7] w5 fun v8 w9 =>
pu Try.prog (bin .gtr 3 false true v8 (.int .i64 65535)) fun v10 =>
brV v10 (
R (.int .i64 3) w9) (
R (.int .i64 0) w9))
theorem e_rdata_Check (x0 : Value) (x1 : Value) (w : World) (R : Value → World → Prop) : fnD Try.prog Try.f9 .nil [x0, x1] w R = T_rdata_Check x0 x1 w R := by kernel_rfl
theorem ok_rdata_Check {x0 x1 w : _} {R : Value → World → Prop} (h : T_rdata_Check x0 x1 w R) : Gv Try.prog 9 #[x0, x1] w R :=
  fn_of_D (fn := Try.f9) follows Try.func9 (by kernel_rfl) ((e_rdata_Check x0 x1 w R).symm ▸ h)

/-- nameplate/pack.New -/
abbrev F_pack_New : Nat := 10
def T_pack_New (x0 : Value) (w : World) (R : Value → World → Prop) : Prop :=
pu Try.prog (bltS .min #[3, 3] 3 #[x0, (.int .i64 65535)]) fun v1 =>
Gv Try.prog 32 #[v1] w fun v2 w3 =>
ef Try.prog (Instr.makeMap 72 none) w3 fun v4 w5 =>
pu Try.prog (Instr.build 76 #[(0, v2), (1, v4)]) fun v6 =>
ef Try.prog (Instr.box 76 v6) w5 fun v7 w8 =>
R v7 w8
theorem e_pack_New (x0 : Value) (w : World) (R : Value → World → Prop) : fnD Try.prog Try.f10 .nil [x0] w R = T_pack_New x0 w R := by kernel_rfl
theorem ok_pack_New {x0 w : _} {R : Value → World → Prop} (h : T_pack_New x0 w R) : Gv Try.prog 10 #[x0] w R :=
  fn_of_D (fn := Try.f10) follows Try.func10 (by kernel_rfl) ((e_pack_New x0 w R).symm ▸ h)

/-- nameplate/rdata.Put -/
abbrev F_rdata_Put : Nat := 11
def T_rdata_Put (x0 : Value) (x1 : Value) (x2 : Value) (w : World) (R : Value → World → Prop) : Prop :=
ef Try.prog (Instr.box 35 x0) w fun v1 w2 =>
ef Try.prog (Instr.box 33 x2) w2 fun v3 w4 =>
rd Try.prog (Instr.loadAt 35 v1) w4 fun v5 =>
pu Try.prog (bin .eql 35 false true v5 (.pointer none)) fun v6 =>
brV v6 (
R (.int .i64 1) w4) (
rd Try.prog (Instr.loadAt 33 v3) w4 fun v7 =>
Gv Try.prog 9 #[x1, v7] w4 fun v8 w9 =>
pu Try.prog (bin .neq 24 false true v8 (.int .i64 0)) fun v10 =>
brV v10 (
R v8 w9) (
Gv Try.prog 33 #[x1] w9 fun v11 w12 =>
ef Try.prog (Instr.alloc 78 true (.tuple #[])) w12 fun v13 w14 =>
efU Try.prog (Instr.storeAt 78 v13 v11) w14 fun w16 =>
CutL [3, 5, 8] (fun J17 =>
pu Try.prog (Instr.fieldAt 78 v13 1) fun v20 =>
rd Try.prog (Instr.loadAt 3 v20) w16 fun v21 =>
pu Try.prog (bin .gtr 3 false true v21 (.int .i64 0)) fun v22 =>
brV v22 (
pu Try.prog (Instr.fieldAt 33 v3 0) fun v23 =>
rd Try.prog (Instr.loadAt 28 v23) w16 fun v24 =>
Gv Try.prog 34 #[v24] w16 fun v25 w26 =>
ext v25 0 fun v27 =>
ext v25 1 fun v28 =>
rd Try.prog (Instr.loadAt 35 v1) w26 fun v29 =>
Gv Try.prog 35 #[v29, v27] w26 fun v30 w31 =>
J17 [v1, v3, v13] w31) (
J17 [v1, v3, v13] w16)) (fun ρ18 w19 =>
rd Try.prog (Instr.loadAt 35 (ρ18 3)) w19 fun v32 =>
CutL [3, 5, 8, 11, 12] (fun J33 =>
pu Try.prog (Instr.fieldAt 78 (ρ18 8) 3) fun v36 =>
rd Try.prog (Instr.loadAt 4 v36) w19 fun v37 =>
brV v37 (
rd Try.prog (Instr.loadAt 35 (ρ18 3)) w19 fun v38 =>
J33 [(ρ18 3), (ρ18 5), (ρ18 8), (.func (.func 36) #[] #[(ρ18 5), (ρ18 8), (ρ18 3)]), (.func (.func 38) #[v38] #[])] w19) (
J33 [(ρ18 3), (ρ18 5), (ρ18 8), (.func (.func 36) #[] #[(ρ18 5), (ρ18 8), (ρ18 3)]), (.func (.func 17) #[v32] #[])] w19)) (fun ρ34 w35 =>
CutL [3, 5, 8, 11, 12] (fun J39 =>
pu Try.prog (Instr.fieldAt 78 (ρ34 8) 4) fun v42 =>
rd Try.prog (Instr.loadAt 4 v42) w35 fun v43 =>
brV v43 (
callV Try.prog (ρ34 11) [] w35 fun v44 w45 =>
J39 [(ρ34 3), (ρ34 5), (ρ34 8), (ρ34 11), (ρ34 12)] w45) (
J39 [(ρ34 3), (ρ34 5), (ρ34 8), (ρ34 11), (ρ34 12)] w35)) (fun ρ40 w41 =>
pu Try.prog (Instr.fieldAt 33 (ρ40 5) 1) fun v46 =>
rd Try.prog (Instr.loadAt 29 v46) w41 fun v47 =>
pu Try.prog (Instr.fieldAt 33 (ρ40 5) 2) fun v48 =>
rd Try.prog (Instr.loadAt 29 v48) w41 fun v49 =>
ef Try.prog (Instr.buildSlice 85 2 #[(0, v47), (1, v49)]) w41 fun v50 w51 =>
pu Try.prog (Instr.fieldAt 78 (ρ40 8) 2) fun v52 =>
rd Try.prog (Instr.loadAt 3 v52) w51 fun v53 =>
pu Try.prog (Instr.sliceAt 85 v50 none (some v53) none) fun v54 =>
pu Try.prog (bltS .len #[85] 3 #[v54]) fun v55 =>
LoopL [3, 5, 8, 11, 12, 57, 58, 59] (fun ρ57 w58 N56 =>
pu Try.prog (bin .lss 3 false false (ρ57 59) (ρ57 58)) fun v59 =>
brV v59 (
pu Try.prog (Instr.indexAt 85 (ρ57 57) (ρ57 59)) fun v60 =>
rd Try.prog (Instr.loadAt 29 v60) w58 fun v61 =>
callV Try.prog (ρ57 12) [v61] w58 fun v62 w63 =>
pu Try.prog (bin .add 3 false true (ρ57 59) (.int .i64 1)) fun v64 =>
N56 [(ρ57 3), (ρ57 5), (ρ57 8), (ρ57 11), (ρ57 12), (ρ57 57), (ρ57 58), v64] w63) (
pu Try.prog (Instr.fieldAt 78 (ρ57 8) 4) fun v65 =>
rd Try.prog (Instr.loadAt 4 v65) w58 fun v66 =>
pu Try.prog (Op.unary .not v66) fun v67 =>
brV v67 (
callV Try.prog (ρ57 11) [] w58 fun v68 w69 =>
pu Try.prog (Instr.fieldAt 33 (ρ57 5) 4) fun v70 =>
rd Try.prog (Instr.loadAt 22 v70) w69 fun v71 =>
pu Try.prog (bltS .len #[22] 3 #[v71]) fun v72 =>
LoopL [3, 5, 73, 74, 75] (fun ρ74 w75 N73 =>
pu Try.prog (bin .lss 3 false false (ρ74 75) (ρ74 74)) fun v76 =>
brV v76 (
pu Try.prog (Instr.indexAt 22 (ρ74 73) (ρ74 75)) fun v77 =>
rd Try.prog (Instr.loadAt 9 v77) w75 fun v78 =>
rd Try.prog (Instr.loadAt 35 (ρ74 3)) w75 fun v79 =>
pu Try.prog (bltS .len #[9] 3 #[v78]) fun v80 =>
pu Try.prog (convert 3 30 v80) fun v81 =>
Gv Try.prog 37 #[v79, v81, (.int .i64 1)] w75 fun v82 w83 =>
rd Try.prog (Instr.loadAt 35 (ρ74 3)) w83 fun v84 =>
Gv Try.prog 35 #[v84, v78] w83 fun v85 w86 =>
pu Try.prog (bin .add 3 false true (ρ74 75) (.int .i64 1)) fun v87 =>
N73 [(ρ74 3), (ρ74 5), (ρ74 73), (ρ74 74), v87] w86) (
rd Try.prog (Instr.loadAt 35 (ρ74 3)) w75 fun v88 =>
pu Try.prog (Instr.fieldAt 33 (ρ74 5) 5) fun v89 =>
rd Try.prog (Instr.loadAt 9 v89) w75 fun v90 =>
Gv Try.prog 35 #[v88, v90] w75 fun v91 w92 =>
rd Try.prog (Instr.loadAt 35 (ρ74 3)) w92 fun v93 =>
Gv Try.prog 39 #[v93] w92 fun v94 w95 =>
R v94 w95)) [(ρ57 3), (ρ57 5), v71, v72, (.int .i64 0)] w69) (
pu Try.prog (Instr.fieldAt 33 (ρ57 5) 4) fun v96 =>
rd Try.prog (Instr.loadAt 22 v96) w58 fun v97 =>
pu Try.prog (bltS .len #[22] 3 #[v97]) fun v98 =>
LoopL [3, 5, 73, 74, 75] (fun ρ100 w101 N99 =>
pu Try.prog (bin .lss 3 false false (ρ100 75) (ρ100 74)) fun v102 =>
brV v102 (
pu Try.prog (Instr.indexAt 22 (ρ100 73) (ρ100 75)) fun v103 =>
rd Try.prog (Instr.loadAt 9 v103) w101 fun v104 =>
rd Try.prog (Instr.loadAt 35 (ρ100 3)) w101 fun v105 =>
pu Try.prog (bltS .len #[9] 3 #[v104]) fun v106 =>
pu Try.prog (convert 3 30 v106) fun v107 =>
Gv Try.prog 37 #[v105, v107, (.int .i64 1)] w101 fun v108 w109 =>
rd Try.prog (Instr.loadAt 35 (ρ100 3)) w109 fun v110 =>
Gv Try.prog 35 #[v110, v104] w109 fun v111 w112 =>
pu Try.prog (bin .add 3 false true (ρ100 75) (.int .i64 1)) fun v113 =>
N99 [(ρ100 3), (ρ100 5), (ρ100 73), (ρ100 74), v113] w112) (
rd Try.prog (Instr.loadAt 35 (ρ100 3)) w101 fun v114 =>
pu Try.prog (Instr.fieldAt 33 (ρ100 5) 5) fun v115 =>
rd Try.prog (Instr.loadAt 9 v115) w101 fun v116 =>
Gv Try.prog 35 #[v114, v116] w101 fun v117 w118 =>
rd Try.prog (Instr.loadAt 35 (ρ100 3)) w118 fun v119 =>
Gv Try.prog 39 #[v119] w118 fun v120 w121 =>
R v120 w121)) [(ρ57 3), (ρ57 5), v97, v98, (.int .i64 0)] w58))) [(ρ40 3), (ρ40 5), (ρ40 8), (ρ40 11), (ρ40 12), v54, v55, (.int .i64 0)] w51)))))
theorem e_rdata_Put (x0 : Value) (x1 : Value) (x2 : Value) (w : World) (R : Value → World → Prop) : fnD Try.prog Try.f11 (.two .nil (.two .nil (.two .nil (.two .nil (.cut [3, 5, 8] .nil (.two .nil (.two .nil (.cut [3, 5, 8, 11, 12] .nil (.cut [3, 5, 8, 11, 12] .nil (.two (.two .nil (.loop [3, 5, 8, 11, 12, 57, 58, 59] .nil)) (.two .nil (.two (.two .nil (.loop [3, 5, 73, 74, 75] .nil)) .nil)))))))))))) [x0, x1, x2] w R = T_rdata_Put x0 x1 x2 w R := by kernel_rfl
theorem ok_rdata_Put {x0 x1 x2 w : _} {R : Value → World → Prop} (h : T_rdata_Put x0 x1 x2 w R) : Gv Try.prog 11 #[x0, x1, x2] w R :=
  fn_of_D (fn := Try.f11) follows Try.func11 (by kernel_rfl) ((e_rdata_Put x0 x1 x2 w R).symm ▸ h)

/-- nameplate/rdata.Read -/
abbrev F_rdata_Read : Nat := 12
def T_rdata_Read (x0 : Value) (x1 : Value) (x2 : Value) (x3 : Value) (w : World) (R : Value → World → Prop) : Prop :=
ef Try.prog (Instr.alloc 33 true (.tuple #[])) w fun v1 w2 =>
CutL [0, 1, 2, 3, 8, 29] (fun J3 =>
pu Try.prog (bin .lss 3 false true x1 (.int .i64 0)) fun v6 =>
brV v6 (
J3 [x0, x1, x2, x3, v1, (.bool true)] w2) (
pu Try.prog (bin .gtr 3 false false x1 x2) fun v7 =>
brV v7 (
J3 [x0, x1, x2, x3, v1, (.bool true)] w2) (
pu Try.prog (bltS .len #[9] 3 #[x0]) fun v8 =>
pu Try.prog (bin .gtr 3 false false x2 v8) fun v9 =>
brV v9 (
J3 [x0, x1, x2, x3, v1, (.bool true)] w2) (
Gv Try.prog 40 #[x3] w2 fun v10 w11 =>
pu Try.prog (Op.unary .not v10) fun v12 =>
J3 [x0, x1, x2, x3, v1, v12] w11)))) (fun ρ4 w5 =>
brV (ρ4 29) (
pu Try.prog (Instr.build 33 #[]) fun v13 =>
efU Try.prog (Instr.storeAt 33 (ρ4 8) v13) w5 fun w15 =>
rcell Try.prog 33 (ρ4 8) w15 fun v16 =>
R (.tuple #[v16, (.int .i64 2)]) w15) (
dw w5 fun w17 =>
pu Try.prog (Instr.sliceAt 9 (ρ4 0) none (some (ρ4 2)) none) fun v18 =>
pu Try.prog (Instr.sliceAt 9 (ρ4 0) none (some (ρ4 2)) none) fun v19 =>
Gv Try.prog 41 #[v18] w17 fun v20 w21 =>
pu Try.prog (Instr.build 91 #[(0, v20), (1, v19), (3, (ρ4 0))]) fun v22 =>
ef Try.prog (Instr.box 91 v22) w21 fun v23 w24 =>
nck v23 fun v25 =>
pu Try.prog (Instr.fieldAt 91 v25 0) fun v26 =>
rd Try.prog (Instr.loadAt 88 v26) w24 fun v27 =>
Gv Try.prog 42 #[v27, (ρ4 1)] w24 fun v28 w29 =>
Gv Try.prog 33 #[(ρ4 3)] w29 fun v30 w31 =>
Gv Try.prog 43 #[v23, v30] w31 fun v32 w33 =>
ef Try.prog (Instr.alloc 33 true (.tuple #[])) w33 fun v34 w35 =>
efU Try.prog (Instr.storeAt 33 v34 v32) w35 fun w37 =>
nck v23 fun v38 =>
pu Try.prog (Instr.fieldAt 91 v38 2) fun v39 =>
rd Try.prog (Instr.loadAt 24 v39) w37 fun v40 =>
pu Try.prog (bin .neq 24 false true v40 (.int .i64 0)) fun v41 =>
brV v41 (
dw w37 fun w42 =>
pu Try.prog (Instr.build 33 #[]) fun v43 =>
nck v23 fun v44 =>
pu Try.prog (Instr.fieldAt 91 v44 2) fun v45 =>
rd Try.prog (Instr.loadAt 24 v45) w42 fun v46 =>
efU Try.prog (Instr.storeAt 33 (ρ4 8) v43) w42 fun w48 =>
rdV Try.prog (Instr.loadAt 24 v45) v46 w48 ∧ (rcell Try.prog 33 (ρ4 8) w48 fun v49 =>
R (.tuple #[v49, v46]) w48)) (
nck v23 fun v50 =>
pu Try.prog (Instr.fieldAt 91 v50 0) fun v51 =>
rd Try.prog (Instr.loadAt 88 v51) w37 fun v52 =>
Gv Try.prog 44 #[v52] w37 fun v53 w54 =>
pu Try.prog (bin .gtr 3 false true v53 (.int .i64 0)) fun v55 =>
brV v55 (
pu Try.prog (Instr.build 33 #[]) fun v56 =>
efU Try.prog (Instr.storeAt 33 (ρ4 8) v56) w54 fun w58 =>
rcell Try.prog 33 (ρ4 8) w58 fun v59 =>
R (.tuple #[v59, (.int .i64 4)]) w58) (
rd Try.prog (Instr.loadAt 33 v34) w54 fun v60 =>
Gv Try.prog 9 #[(ρ4 3), v60] w54 fun v61 w62 =>
pu Try.prog (bin .neq 24 false true v61 (.int .i64 0)) fun v63 =>
brV v63 (
pu Try.prog (Instr.build 33 #[]) fun v64 =>
efU Try.prog (Instr.storeAt 33 (ρ4 8) v64) w62 fun w66 =>
rcell Try.prog 33 (ρ4 8) w66 fun v67 =>
R (.tuple #[v67, (.int .i64 4)]) w66) (
rd Try.prog (Instr.loadAt 33 v34) w62 fun v68 =>
efU Try.prog (Instr.storeAt 33 (ρ4 8) v68) w62 fun w70 =>
rcell Try.prog 33 (ρ4 8) w70 fun v71 =>
R (.tuple #[v71, (.int .i64 0)]) w70)))))
theorem e_rdata_Read (x0 : Value) (x1 : Value) (x2 : Value) (x3 : Value) (w : World) (R : Value → World → Prop) : fnD Try.prog Try.f12 (.two .nil (.two (.cut [0, 1, 2, 3, 8, 29] .nil .nil) (.two (.plan [0, 0, 3, 7, 0, 0, 48, 0, 255, 511, 1023] (.q 0 (.q 1 (.q 2 (.q 4 (.q 5 (.q 6 (.q 7 (.e 3 (.q 8 (.e 9 (.q 10 .done) .nil)) .nil))))))))) (.two .nil (.two .nil (.two (.two .nil (.two (.two (.plan [0, 0, 2, 6, 14, 1, 63] (.q 0 (.q 1 (.q 2 (.q 3 (.q 4 (.e 5 (.q 6 .done) .nil))))))) .nil) .nil)) .nil)))))) [x0, x1, x2, x3] w R = T_rdata_Read x0 x1 x2 x3 w R := by kernel_rfl
theorem ok_rdata_Read {x0 x1 x2 x3 w : _} {R : Value → World → Prop} (h : T_rdata_Read x0 x1 x2 x3 w R) : Gv Try.prog 12 #[x0, x1, x2, x3] w R :=
  fn_of_D (fn := Try.f12) follows Try.func12 (by kernel_rfl) ((e_rdata_Read x0 x1 x2 x3 w R).symm ▸ h)

/-- (*nameplate/pack.Packer).Text -/
abbrev F_pack_Packer_Text : Nat := 13
def T_pack_Packer_Text (x0 : Value) (w : World) (R : Value → World → Prop) : Prop :=
pu Try.prog (bin .eql 35 false true x0 (.pointer none)) fun v1 =>
brV v1 (
R (.string { data := #[] }) w) (
nck x0 fun v2 =>
pu Try.prog (Instr.fieldAt 76 v2 0) fun v3 =>
rd Try.prog (Instr.loadAt 70 v3) w fun v4 =>
Gv Try.prog 45 #[v4] w fun v5 w6 =>
R v5 w6)
theorem e_pack_Packer_Text (x0 : Value) (w : World) (R : Value → World → Prop) : fnD Try.prog Try.f13 .nil [x0] w R = T_pack_Packer_Text x0 w R := by kernel_rfl
theorem ok_pack_Packer_Text {x0 w : _} {R : Value → World → Prop} (h : T_pack_Packer_Text x0 w R) : Gv Try.prog 13 #[x0] w R :=
  fn_of_D (fn := Try.f13) follows Try.func13 (by kernel_rfl) ((e_pack_Packer_Text x0 w R).symm ▸ h)

/-- nameplate/rdata.Size -/
abbrev F_rdata_Size : Nat := 14
def T_rdata_Size (x0 : Value) (x1 : Value) (w : World) (R : Value → World → Prop) : Prop :=
ef Try.prog (Instr.box 33 x1) w fun v1 w2 =>
rd Try.prog (Instr.loadAt 33 v1) w2 fun v3 =>
Gv Try.prog 31 #[x0, v3] w2 fun v4 w5 =>
pu Try.prog (bin .neq 24 false true v4 (.int .i64 0)) fun v6 =>
brV v6 (
R (.int .i64 0) w5) (
dw w5 fun w7 =>
rd Try.prog (Instr.loadAt 33 v1) w7 fun v8 =>
Gv Try.prog 33 #[x0] w7 fun v9 w10 =>
rdV Try.prog (Instr.loadAt 33 v1) v8 w10 ∧ (Gv Try.prog 46 #[v9, v8] w10 fun v11 w12 =>
R v11 w12))
theorem e_rdata_Size (x0 : Value) (x1 : Value) (w : World) (R : Value → World → Prop) : fnD Try.prog Try.f14 (.two .nil (.two .nil (.two (.plan [0, 1, 0, 7, 15] (.q 0 (.q 2 (.e 1 (.e 3 (.q 4 .done) .nil) .nil)))) .nil))) [x0, x1] w R = T_rdata_Size x0 x1 w R := by kernel_rfl
theorem ok_rdata_Size {x0 x1 w : _} {R : Value → World → Prop} (h : T_rdata_Size x0 x1 w R) : Gv Try.prog 14 #[x0, x1] w R :=
  fn_of_D (fn := Try.f14) follows Try.func14 (by kernel_rfl) ((e_rdata_Size x0 x1 w R).symm ▸ h)

/-- nameplate/nameplatekit.LightData -/
abbrev F_nameplatekit_LightData : Nat := 15
def T_nameplatekit_LightData (x0 : Value) (w : World) (R : Value → World → Prop) : Prop :=
ef Try.prog (Instr.box 33 x0) w fun v1 w2 =>
pu Try.prog (Instr.fieldAt 33 v1 5) fun v3 =>
rd Try.prog (Instr.loadAt 9 v3) w2 fun v4 =>
pu Try.prog (bltS .len #[9] 3 #[v4]) fun v5 =>
pu Try.prog (Instr.fieldAt 33 v1 1) fun v6 =>
rd Try.prog (Instr.loadAt 29 v6) w2 fun v7 =>
pu Try.prog (bltS .len #[29] 3 #[v7]) fun v8 =>
pu Try.prog (bin .add 3 false false v5 v8) fun v9 =>
pu Try.prog (Instr.fieldAt 33 v1 2) fun v10 =>
rd Try.prog (Instr.loadAt 29 v10) w2 fun v11 =>
pu Try.prog (bltS .len #[29] 3 #[v11]) fun v12 =>
pu Try.prog (bin .add 3 false false v9 v12) fun v13 =>
LoopL [1, 3, 4] (fun ρ15 w16 N14 =>
pu Try.prog (Instr.fieldAt 33 (ρ15 1) 4) fun v17 =>
rd Try.prog (Instr.loadAt 22 v17) w16 fun v18 =>
pu Try.prog (bltS .len #[22] 3 #[v18]) fun v19 =>
pu Try.prog (bin .lss 3 false false (ρ15 4) v19) fun v20 =>
brV v20 (
pu Try.prog (Instr.fieldAt 33 (ρ15 1) 4) fun v21 =>
rd Try.prog (Instr.loadAt 22 v21) w16 fun v22 =>
pu Try.prog (Instr.indexAt 22 v22 (ρ15 4)) fun v23 =>
rd Try.prog (Instr.loadAt 9 v23) w16 fun v24 =>
pu Try.prog (bltS .len #[9] 3 #[v24]) fun v25 =>
pu Try.prog (bin .add 3 false false (ρ15 3) v25) fun v26 =>
pu Try.prog (bin .add 3 false true v26 (.int .i64 1)) fun v27 =>
pu Try.prog (bin .add 3 false true (ρ15 4) (.int .i64 1)) fun v28 =>
N14 [(ρ15 1), v27, v28] w16) (
pu Try.prog (bin .leq 3 false true (ρ15 3) (.int .i64 2000)) fun v29 =>
R v29 w16)) [v1, v13, (.int .i64 0)] w2
theorem e_nameplatekit_LightData (x0 : Value) (w : World) (R : Value → World → Prop) : fnD Try.prog Try.f15 (.two .nil (.two .nil (.two (.two .nil (.loop [1, 3, 4] .nil)) .nil))) [x0] w R = T_nameplatekit_LightData x0 w R := by kernel_rfl
theorem ok_nameplatekit_LightData {x0 w : _} {R : Value → World → Prop} (h : T_nameplatekit_LightData x0 w R) : Gv Try.prog 15 #[x0] w R :=
  fn_of_D (fn := Try.f15) follows Try.func15 (by kernel_rfl) ((e_nameplatekit_LightData x0 w R).symm ▸ h)

/-- nameplate/rdata.Same -/
abbrev F_rdata_Same : Nat := 16
def T_rdata_Same (x0 : Value) (x1 : Value) (w : World) (R : Value → World → Prop) : Prop :=
ef Try.prog (Instr.box 33 x0) w fun v1 w2 =>
ef Try.prog (Instr.box 33 x1) w2 fun v3 w4 =>
pu Try.prog (Instr.fieldAt 33 v1 0) fun v5 =>
rd Try.prog (Instr.loadAt 28 v5) w4 fun v6 =>
pu Try.prog (Instr.fieldAt 33 v3 0) fun v7 =>
rd Try.prog (Instr.loadAt 28 v7) w4 fun v8 =>
pu Try.prog (bin .eql 28 false false v6 v8) fun v9 =>
brV v9 (
pu Try.prog (Instr.fieldAt 33 v1 1) fun v10 =>
rd Try.prog (Instr.loadAt 29 v10) w4 fun v11 =>
pu Try.prog (Instr.fieldAt 33 v3 1) fun v12 =>
rd Try.prog (Instr.loadAt 29 v12) w4 fun v13 =>
pu Try.prog (bin .eql 29 false false v11 v13) fun v14 =>
brV v14 (
pu Try.prog (Instr.fieldAt 33 v1 2) fun v15 =>
rd Try.prog (Instr.loadAt 29 v15) w4 fun v16 =>
pu Try.prog (Instr.fieldAt 33 v3 2) fun v17 =>
rd Try.prog (Instr.loadAt 29 v17) w4 fun v18 =>
pu Try.prog (bin .eql 29 false false v16 v18) fun v19 =>
brV v19 (
pu Try.prog (Instr.fieldAt 33 v1 3) fun v20 =>
rd Try.prog (Instr.loadAt 31 v20) w4 fun v21 =>
pu Try.prog (Instr.fieldAt 33 v3 3) fun v22 =>
rd Try.prog (Instr.loadAt 31 v22) w4 fun v23 =>
pu Try.prog (bin .eql 31 false false v21 v23) fun v24 =>
brV v24 (
pu Try.prog (Instr.fieldAt 33 v1 5) fun v25 =>
rd Try.prog (Instr.loadAt 9 v25) w4 fun v26 =>
pu Try.prog (Instr.fieldAt 33 v3 5) fun v27 =>
rd Try.prog (Instr.loadAt 9 v27) w4 fun v28 =>
pu Try.prog (bin .eql 9 false false v26 v28) fun v29 =>
brV v29 (
pu Try.prog (Instr.fieldAt 33 v1 4) fun v30 =>
rd Try.prog (Instr.loadAt 22 v30) w4 fun v31 =>
pu Try.prog (Instr.fieldAt 33 v3 4) fun v32 =>
rd Try.prog (Instr.loadAt 22 v32) w4 fun v33 =>
Gv Try.prog 47 #[v31, v33] w4 fun v34 w35 =>
R v34 w35) (
R (.bool false) w4)) (
R (.bool false) w4)) (
R (.bool false) w4)) (
R (.bool false) w4)) (
R (.bool false) w4)
theorem e_rdata_Same (x0 : Value) (x1 : Value) (w : World) (R : Value → World → Prop) : fnD Try.prog Try.f16 .nil [x0, x1] w R = T_rdata_Same x0 x1 w R := by kernel_rfl
theorem ok_rdata_Same {x0 x1 w : _} {R : Value → World → Prop} (h : T_rdata_Same x0 x1 w R) : Gv Try.prog 16 #[x0, x1] w R :=
  fn_of_D (fn := Try.f16) follows Try.func16 (by kernel_rfl) ((e_rdata_Same x0 x1 w R).symm ▸ h)

/-- (*nameplate/pack.Packer).Name -/
abbrev F_pack_Packer_Name : Nat := 17
def T_pack_Packer_Name (x0 : Value) (x1 : Value) (w : World) (R : Value → World → Prop) : Prop :=
Gv Try.prog 48 #[x0, x1] w fun v1 w2 =>
pu Try.prog (bin .neq 24 false true v1 (.int .i64 0)) fun v3 =>
brV v3 (
R v1 w2) (
LoopL [0, 1] (fun ρ5 w6 N4 =>
pu Try.prog (bin .neq 29 false true (ρ5 1) (.string { data := #[] })) fun v7 =>
brV v7 (
nck (ρ5 0) fun v8 =>
pu Try.prog (Instr.fieldAt 76 v8 1) fun v9 =>
rd Try.prog (Instr.loadAt 72 v9) w6 fun v10 =>
rd Try.prog (Instr.lookup 72 v10 (ρ5 1) true) w6 fun v11 =>
ext v11 0 fun v12 =>
ext v11 1 fun v13 =>
brV v13 (
nck (ρ5 0) fun v14 =>
pu Try.prog (Instr.fieldAt 76 v14 0) fun v15 =>
rd Try.prog (Instr.loadAt 70 v15) w6 fun v16 =>
pu Try.prog (bin .add 3 true false (.int .i64 49152) v12) fun v17 =>
pu Try.prog (convert 3 30 v17) fun v18 =>
Gv Try.prog 49 #[v16, v18, (.int .i64 2)] w6 fun v19 w20 =>
R v19 w20) (
dw w6 fun w21 =>
nck (ρ5 0) fun v22 =>
pu Try.prog (Instr.fieldAt 76 v22 0) fun v23 =>
rd Try.prog (Instr.loadAt 70 v23) w21 fun v24 =>
pu Try.prog (Instr.index 29 (ρ5 1) (.int .i64 0)) fun v25 =>
pu Try.prog (convert 5 3 v25) fun v26 =>
pu Try.prog (bin .add 3 true false (.int .i64 1) v26) fun v27 =>
Gv Try.prog 50 #[v24] w21 fun v28 w29 =>
dw w29 fun w30 =>
nck (ρ5 0) fun v31 =>
pu Try.prog (Instr.fieldAt 76 v31 0) fun v32 =>
rd Try.prog (Instr.loadAt 70 v32) w30 fun v33 =>
pu Try.prog (Instr.sliceAt 29 (ρ5 1) none (some v27) none) fun v34 =>
Gv Try.prog 51 #[v33, v34] w30 fun v35 w36 =>
pu Try.prog (bin .neq 24 false true v35 (.int .i64 0)) fun v37 =>
brV v37 (
R v35 w36) (
pu Try.prog (bin .lss 3 false true v28 (.int .i64 16384)) fun v38 =>
brV v38 (
nck (ρ5 0) fun v39 =>
pu Try.prog (Instr.fieldAt 76 v39 1) fun v40 =>
rd Try.prog (Instr.loadAt 72 v40) w36 fun v41 =>
efU Try.prog (Instr.mapUpdate 72 v41 (ρ5 1) v28) w36 fun w43 =>
pu Try.prog (Instr.sliceAt 29 (ρ5 1) (some v27) none none) fun v44 =>
N4 [(ρ5 0), v44] w43) (
pu Try.prog (Instr.sliceAt 29 (ρ5 1) (some v27) none none) fun v45 =>
N4 [(ρ5 0), v45] w36)))) (
nck (ρ5 0) fun v46 =>
pu Try.prog (Instr.fieldAt 76 v46 0) fun v47 =>
rd Try.prog (Instr.loadAt 70 v47) w6 fun v48 =>
Gv Try.prog 51 #[v48, (.string { data := #[0] })] w6 fun v49 w50 =>
R v49 w50)) [x0, x1] w2)
theorem e_pack_Packer_Name (x0 : Value) (x1 : Value) (w : World) (R : Value → World → Prop) : fnD Try.prog Try.f17 (.two .nil (.two .nil (.two (.loop [0, 1] (.two .nil (.two .nil (.two (.plan [0, 1, 3, 7, 15, 0, 32, 96, 224, 31, 1023] (.q 0 (.q 1 (.q 2 (.q 3 (.q 5 (.q 6 (.q 7 (.q 8 (.e 4 (.q 9 (.q 10 .done)) .nil)))))))))) (.two (.two (.plan [0, 1, 3, 7, 0, 0, 48, 127, 255] (.q 0 (.q 1 (.q 2 (.q 3 (.q 4 (.q 5 (.q 6 (.e 7 (.q 8 .done) .nil))))))))) .nil) .nil))))) .nil))) [x0, x1] w R = T_pack_Packer_Name x0 x1 w R := by kernel_rfl
theorem ok_pack_Packer_Name {x0 x1 w : _} {R : Value → World → Prop} (h : T_pack_Packer_Name x0 x1 w R) : Gv Try.prog 17 #[x0, x1] w R :=
  fn_of_D (fn := Try.f17) follows Try.func17 (by kernel_rfl) ((e_pack_Packer_Name x0 x1 w R).symm ▸ h)

/-- (*nameplate/pack.Packer).Len -/
abbrev F_pack_Packer_Len : Nat := 18
def T_pack_Packer_Len (x0 : Value) (w : World) (R : Value → World → Prop) : Prop :=
pu Try.prog (bin .eql 35 false true x0 (.pointer none)) fun v1 =>
brV v1 (
R (.int .i64 0) w) (
nck x0 fun v2 =>
pu Try.prog (Instr.fieldAt 76 v2 0) fun v3 =>
rd Try.prog (Instr.loadAt 70 v3) w fun v4 =>
Gv Try.prog 50 #[v4] w fun v5 w6 =>
R v5 w6)
theorem e_pack_Packer_Len (x0 : Value) (w : World) (R : Value → World → Prop) : fnD Try.prog Try.f18 .nil [x0] w R = T_pack_Packer_Len x0 w R := by kernel_rfl
theorem ok_pack_Packer_Len {x0 w : _} {R : Value → World → Prop} (h : T_pack_Packer_Len x0 w R) : Gv Try.prog 18 #[x0] w R :=
  fn_of_D (fn := Try.f18) follows Try.func18 (by kernel_rfl) ((e_pack_Packer_Len x0 w R).symm ▸ h)

/-- nameplate/rdata.Known -/
abbrev F_rdata_Known : Nat := 19
def T_rdata_Known (x0 : Value) (w : World) (R : Value → World → Prop) : Prop :=
Gv Try.prog 52 #[] w fun v1 w2 =>
rd Try.prog (Instr.lookup 98 v1 x0 true) w2 fun v3 =>
ext v3 0 fun v4 =>
ext v3 1 fun v5 =>
ef Try.prog (Instr.alloc 78 true (.tuple #[])) w2 fun v6 w7 =>
efU Try.prog (Instr.storeAt 78 v6 v4) w7 fun w9 =>
R v5 w9
theorem e_rdata_Known (x0 : Value) (w : World) (R : Value → World → Prop) : fnD Try.prog Try.f19 .nil [x0] w R = T_rdata_Known x0 w R := by kernel_rfl
theorem ok_rdata_Known {x0 w : _} {R : Value → World → Prop} (h : T_rdata_Known x0 w R) : Gv Try.prog 19 #[x0] w R :=
  fn_of_D (fn := Try.f19) follows Try.func19 (by kernel_rfl) ((e_rdata_Known x0 w R).symm ▸ h)

/-- nameplate/nameplatelaw10.lives -/
abbrev F_nameplatelaw10_lives : Nat := 20
def T_nameplatelaw10_lives (w : World) (R : Value → World → Prop) : Prop :=
pu Try.prog (Instr.build 28 #[(2, (.int .u64 16909060))]) fun v1 =>
pu Try.prog (Instr.build 33 #[(0, v1)]) fun v2 =>
pu Try.prog (Instr.build 51 #[(0, (.string { data := #[1, 97, 1, 98] })), (1, (.int .i64 1)), (2, (.int .i64 1)), (3, (.int .u32 5)), (4, v2)]) fun v3 =>
ef Try.prog (Instr.alloc 51 true (.tuple #[])) w fun v4 w5 =>
efU Try.prog (Instr.storeAt 51 v4 v3) w5 fun w7 =>
Gv Try.prog 10 #[(.int .i64 99)] w7 fun v8 w9 =>
pu Try.prog (bin .eql 35 false true v8 (.pointer none)) fun v10 =>
brV v10 (
R (.bool false) w9) (
rd Try.prog (Instr.loadAt 51 v4) w9 fun v11 =>
Gv Try.prog 23 #[v8, v11] w9 fun v12 w13 =>
rd Try.prog (Instr.loadAt 51 v4) w13 fun v14 =>
Gv Try.prog 28 #[v14] w13 fun v15 w16 =>
pu Try.prog (bin .eql 3 false true v15 (.int .i64 19)) fun v17 =>
brV v17 (
pu Try.prog (bin .eql 24 false true v12 (.int .i64 0)) fun v18 =>
brV v18 (
Gv Try.prog 13 #[v8] w16 fun v19 w20 =>
pu Try.prog (bin .eql 9 false true v19 (.string { data := #[1, 97, 1, 98, 0, 0, 1, 0, 1, 0, 0, 0, 5, 0, 4, 1, 2, 3, 4] })) fun v21 =>
R v21 w20) (
R (.bool false) w16)) (
R (.bool false) w16))
theorem e_nameplatelaw10_lives (w : World) (R : Value → World → Prop) : fnD Try.prog Try.f20 .nil [] w R = T_nameplatelaw10_lives w R := by kernel_rfl
theorem ok_nameplatelaw10_lives { w : _} {R : Value → World → Prop} (h : T_nameplatelaw10_lives w R) : Gv Try.prog 20 #[] w R :=
  fn_of_D (fn := Try.f20) follows Try.func20 (by kernel_rfl) ((e_nameplatelaw10_lives w R).symm ▸ h)

/-- nameplate/record.Read -/
abbrev F_record_Read : Nat := 21
def T_record_Read (x0 : Value) (x1 : Value) (w : World) (R : Value → World → Prop) : Prop :=
ef Try.prog (Instr.alloc 51 true (.tuple #[])) w fun v1 w2 =>
ef Try.prog (Instr.alloc 3 true (.tuple #[])) w2 fun v3 w4 =>
ef Try.prog (Instr.alloc 3 true (.tuple #[])) w4 fun v5 w6 =>
Gv Try.prog 53 #[x0, x1] w6 fun v7 w8 =>
pu Try.prog (Instr.fieldAt 51 v1 0) fun v9 =>
Gv Try.prog 54 #[v7, v9] w8 fun v10 w11 =>
Gv Try.prog 55 #[v10, (.int .i64 10)] w11 fun v12 w13 =>
pu Try.prog (Instr.fieldAt 51 v1 1) fun v14 =>
Gv Try.prog 56 #[v12, (.int .i64 2), v14] w13 fun v15 w16 =>
pu Try.prog (Instr.fieldAt 51 v1 2) fun v17 =>
Gv Try.prog 56 #[v15, (.int .i64 2), v17] w16 fun v18 w19 =>
Gv Try.prog 56 #[v18, (.int .i64 4), v3] w19 fun v20 w21 =>
Gv Try.prog 56 #[v20, (.int .i64 2), v5] w21 fun v22 w23 =>
rd Try.prog (Instr.loadAt 3 v5) w23 fun v24 =>
Gv Try.prog 55 #[v22, v24] w23 fun v25 w26 =>
nck v22 fun v27 =>
pu Try.prog (Instr.fieldAt 108 v27 2) fun v28 =>
rd Try.prog (Instr.loadAt 24 v28) w26 fun v29 =>
pu Try.prog (bin .neq 24 false true v29 (.int .i64 0)) fun v30 =>
brV v30 (
pu Try.prog (Instr.build 51 #[]) fun v31 =>
nck v22 fun v32 =>
pu Try.prog (Instr.fieldAt 108 v32 2) fun v33 =>
rd Try.prog (Instr.loadAt 24 v33) w26 fun v34 =>
efU Try.prog (Instr.storeAt 51 v1 v31) w26 fun w36 =>
rcell Try.prog 51 v1 w36 fun v37 =>
R (.tuple #[v37, (.int .i64 0), v34]) w36) (
rd Try.prog (Instr.loadAt 3 v3) w26 fun v38 =>
pu Try.prog (convert 3 30 v38) fun v39 =>
pu Try.prog (Instr.fieldAt 51 v1 3) fun v40 =>
efU Try.prog (Instr.storeAt 30 v40 v39) w26 fun w42 =>
dw w42 fun w43 =>
nck v22 fun v44 =>
pu Try.prog (Instr.fieldAt 108 v44 1) fun v45 =>
rd Try.prog (Instr.loadAt 88 v45) w43 fun v46 =>
rd Try.prog (Instr.loadAt 3 v5) w43 fun v47 =>
Gv Try.prog 57 #[v46] w43 fun v48 w49 =>
rdV Try.prog (Instr.loadAt 3 v5) v47 w49 ∧ (pu Try.prog (bin .add 3 false false v48 v47) fun v50 =>
dw w49 fun w51 =>
nck v22 fun v52 =>
pu Try.prog (Instr.fieldAt 108 v52 1) fun v53 =>
rd Try.prog (Instr.loadAt 88 v53) w51 fun v54 =>
pu Try.prog (Instr.fieldAt 51 v1 1) fun v55 =>
rd Try.prog (Instr.loadAt 3 v55) w51 fun v56 =>
Gv Try.prog 57 #[v54] w51 fun v57 w58 =>
rdV Try.prog (Instr.loadAt 3 v55) v56 w58 ∧ (Gv Try.prog 12 #[x0, v57, v50, v56] w58 fun v59 w60 =>
ext v59 0 fun v61 =>
ext v59 1 fun v62 =>
pu Try.prog (Instr.fieldAt 51 v1 4) fun v63 =>
efU Try.prog (Instr.storeAt 33 v63 v61) w60 fun w65 =>
pu Try.prog (bin .neq 24 false true v62 (.int .i64 0)) fun v66 =>
brV v66 (
pu Try.prog (Instr.build 51 #[]) fun v67 =>
efU Try.prog (Instr.storeAt 51 v1 v67) w65 fun w69 =>
rcell Try.prog 51 v1 w69 fun v70 =>
R (.tuple #[v70, (.int .i64 0), v62]) w69) (
rd Try.prog (Instr.loadAt 51 v1) w65 fun v71 =>
efU Try.prog (Instr.storeAt 51 v1 v71) w65 fun w73 =>
rcell Try.prog 51 v1 w73 fun v74 =>
R (.tuple #[v74, v50, (.int .i64 0)]) w73))))
theorem e_record_Read (x0 : Value) (x1 : Value) (w : World) (R : Value → World → Prop) : fnD Try.prog Try.f21 (.two .nil (.two .nil (.two .nil (.two .nil (.two .nil (.two (.plan [0, 1, 3, 7, 15, 0, 63, 127] (.q 0 (.q 1 (.q 2 (.q 3 (.q 5 (.e 4 (.q 6 (.q 7 .done)) .nil))))))) (.two (.two (.plan [0, 0, 2, 6, 14, 30, 0, 0, 128, 511, 1023, 2047, 2047, 4095, 12287, 32767] (.q 0 (.q 1 (.q 2 (.q 3 (.q 4 (.q 6 (.q 7 (.q 8 (.e 5 (.e 9 (.q 10 (.q 11 (.q 12 (.q 13 (.e 14 (.q 15 .done) .nil))))) .nil) .nil)))))))))) .nil) .nil))))))) [x0, x1] w R = T_record_Read x0 x1 w R := by kernel_rfl
theorem ok_record_Read {x0 x1 w : _} {R : Value → World → Prop} (h : T_record_Read x0 x1 w R) : Gv Try.prog 21 #[x0, x1] w R :=
  fn_of_D (fn := Try.f21) follows Try.func21 (by kernel_rfl) ((e_record_Read x0 x1 w R).symm ▸ h)

/-- nameplate/record.ReadQuestion -/
abbrev F_record_ReadQuestion : Nat := 22
def T_record_ReadQuestion (x0 : Value) (x1 : Value) (w : World) (R : Value → World → Prop) : Prop :=
ef Try.prog (Instr.alloc 55 true (.tuple #[])) w fun v1 w2 =>
Gv Try.prog 53 #[x0, x1] w2 fun v3 w4 =>
pu Try.prog (Instr.fieldAt 55 v1 0) fun v5 =>
Gv Try.prog 54 #[v3, v5] w4 fun v6 w7 =>
Gv Try.prog 55 #[v6, (.int .i64 4)] w7 fun v8 w9 =>
pu Try.prog (Instr.fieldAt 55 v1 1) fun v10 =>
Gv Try.prog 56 #[v8, (.int .i64 2), v10] w9 fun v11 w12 =>
pu Try.prog (Instr.fieldAt 55 v1 2) fun v13 =>
Gv Try.prog 56 #[v11, (.int .i64 2), v13] w12 fun v14 w15 =>
nck v14 fun v16 =>
pu Try.prog (Instr.fieldAt 108 v16 2) fun v17 =>
rd Try.prog (Instr.loadAt 24 v17) w15 fun v18 =>
pu Try.prog (bin .neq 24 false true v18 (.int .i64 0)) fun v19 =>
brV v19 (
pu Try.prog (Instr.build 55 #[]) fun v20 =>
nck v14 fun v21 =>
pu Try.prog (Instr.fieldAt 108 v21 2) fun v22 =>
rd Try.prog (Instr.loadAt 24 v22) w15 fun v23 =>
efU Try.prog (Instr.storeAt 55 v1 v20) w15 fun w25 =>
rcell Try.prog 55 v1 w25 fun v26 =>
R (.tuple #[v26, (.int .i64 0), v23]) w25) (
dw w15 fun w27 =>
rd Try.prog (Instr.loadAt 55 v1) w27 fun v28 =>
nck v14 fun v29 =>
pu Try.prog (Instr.fieldAt 108 v29 1) fun v30 =>
rd Try.prog (Instr.loadAt 88 v30) w27 fun v31 =>
Gv Try.prog 57 #[v31] w27 fun v32 w33 =>
rdV Try.prog (Instr.loadAt 55 v1) v28 w33 ∧ (efU Try.prog (Instr.storeAt 55 v1 v28) w33 fun w35 =>
rcell Try.prog 55 v1 w35 fun v36 =>
R (.tuple #[v36, v32, (.int .i64 0)]) w35))
theorem e_record_ReadQuestion (x0 : Value) (x1 : Value) (w : World) (R : Value → World → Prop) : fnD Try.prog Try.f22 (.two .nil (.two .nil (.two .nil (.two (.plan [0, 0, 2, 6, 14, 30, 63, 127, 255] (.q 0 (.q 1 (.q 2 (.q 3 (.q 4 (.e 5 (.e 6 (.q 7 (.q 8 .done)) .nil) .nil))))))) .nil)))) [x0, x1] w R = T_record_ReadQuestion x0 x1 w R := by kernel_rfl
theorem ok_record_ReadQuestion {x0 x1 w : _} {R : Value → World → Prop} (h : T_record_ReadQuestion x0 x1 w R) : Gv Try.prog 22 #[x0, x1] w R :=
  fn_of_D (fn := Try.f22) follows Try.func22 (by kernel_rfl) ((e_record_ReadQuestion x0 x1 w R).symm ▸ h)

/-- nameplate/record.Put -/
abbrev F_record_Put : Nat := 23
def T_record_Put (x0 : Value) (x1 : Value) (w : World) (R : Value → World → Prop) : Prop :=
ef Try.prog (Instr.box 51 x1) w fun v1 w2 =>
pu Try.prog (bin .eql 35 false true x0 (.pointer none)) fun v3 =>
brV v3 (
R (.int .i64 1) w2) (
rd Try.prog (Instr.loadAt 51 v1) w2 fun v4 =>
Gv Try.prog 25 #[v4] w2 fun v5 w6 =>
pu Try.prog (bin .neq 24 false true v5 (.int .i64 0)) fun v7 =>
brV v7 (
R v5 w6) (
pu Try.prog (Instr.fieldAt 51 v1 0) fun v8 =>
rd Try.prog (Instr.loadAt 29 v8) w6 fun v9 =>
pu Try.prog (Instr.fieldAt 51 v1 1) fun v10 =>
rd Try.prog (Instr.loadAt 3 v10) w6 fun v11 =>
pu Try.prog (Instr.fieldAt 51 v1 2) fun v12 =>
rd Try.prog (Instr.loadAt 3 v12) w6 fun v13 =>
Gv Try.prog 58 #[x0, v9, v11, v13] w6 fun v14 w15 =>
pu Try.prog (Instr.fieldAt 51 v1 3) fun v16 =>
rd Try.prog (Instr.loadAt 30 v16) w15 fun v17 =>
Gv Try.prog 37 #[x0, v17, (.int .i64 4)] w15 fun v18 w19 =>
Gv Try.prog 59 #[x0] w19 fun v20 w21 =>
ext v20 0 fun v22 =>
ext v20 1 fun v23 =>
pu Try.prog (Instr.fieldAt 51 v1 1) fun v24 =>
rd Try.prog (Instr.loadAt 3 v24) w21 fun v25 =>
pu Try.prog (Instr.fieldAt 51 v1 4) fun v26 =>
rd Try.prog (Instr.loadAt 33 v26) w21 fun v27 =>
Gv Try.prog 11 #[x0, v25, v27] w21 fun v28 w29 =>
pu Try.prog (bin .neq 24 false true v28 (.int .i64 0)) fun v30 =>
brV v30 (
R v28 w29) (
Gv Try.prog 60 #[x0, v22] w29 fun v31 w32 =>
R v31 w32)))
theorem e_record_Put (x0 : Value) (x1 : Value) (w : World) (R : Value → World → Prop) : fnD Try.prog Try.f23 .nil [x0, x1] w R = T_record_Put x0 x1 w R := by kernel_rfl
theorem ok_record_Put {x0 x1 w : _} {R : Value → World → Prop} (h : T_record_Put x0 x1 w R) : Gv Try.prog 23 #[x0, x1] w R :=
  fn_of_D (fn := Try.f23) follows Try.func23 (by kernel_rfl) ((e_record_Put x0 x1 w R).symm ▸ h)

/-- nameplate/record.PutQuestion -/
abbrev F_record_PutQuestion : Nat := 24
def T_record_PutQuestion (x0 : Value) (x1 : Value) (w : World) (R : Value → World → Prop) : Prop :=
ef Try.prog (Instr.box 55 x1) w fun v1 w2 =>
pu Try.prog (bin .eql 35 false true x0 (.pointer none)) fun v3 =>
brV v3 (
R (.int .i64 1) w2) (
rd Try.prog (Instr.loadAt 55 v1) w2 fun v4 =>
Gv Try.prog 26 #[v4] w2 fun v5 w6 =>
pu Try.prog (bin .neq 24 false true v5 (.int .i64 0)) fun v7 =>
brV v7 (
R v5 w6) (
pu Try.prog (Instr.fieldAt 55 v1 0) fun v8 =>
rd Try.prog (Instr.loadAt 29 v8) w6 fun v9 =>
pu Try.prog (Instr.fieldAt 55 v1 1) fun v10 =>
rd Try.prog (Instr.loadAt 3 v10) w6 fun v11 =>
pu Try.prog (Instr.fieldAt 55 v1 2) fun v12 =>
rd Try.prog (Instr.loadAt 3 v12) w6 fun v13 =>
Gv Try.prog 58 #[x0, v9, v11, v13] w6 fun v14 w15 =>
Gv Try.prog 39 #[x0] w15 fun v16 w17 =>
R v16 w17))
theorem e_record_PutQuestion (x0 : Value) (x1 : Value) (w : World) (R : Value → World → Prop) : fnD Try.prog Try.f24 .nil [x0, x1] w R = T_record_PutQuestion x0 x1 w R := by kernel_rfl
theorem ok_record_PutQuestion {x0 x1 w : _} {R : Value → World → Prop} (h : T_record_PutQuestion x0 x1 w R) : Gv Try.prog 24 #[x0, x1] w R :=
  fn_of_D (fn := Try.f24) follows Try.func24 (by kernel_rfl) ((e_record_PutQuestion x0 x1 w R).symm ▸ h)

/-- nameplate/record.Check -/
abbrev F_record_Check : Nat := 25
def T_record_Check (x0 : Value) (w : World) (R : Value → World → Prop) : Prop :=
ef Try.prog (Instr.box 51 x0) w fun v1 w2 =>
pu Try.prog (Instr.fieldAt 51 v1 0) fun v3 =>
rd Try.prog (Instr.loadAt 29 v3) w2 fun v4 =>
pu Try.prog (Instr.fieldAt 51 v1 1) fun v5 =>
rd Try.prog (Instr.loadAt 3 v5) w2 fun v6 =>
pu Try.prog (Instr.fieldAt 51 v1 2) fun v7 =>
rd Try.prog (Instr.loadAt 3 v7) w2 fun v8 =>
Gv Try.prog 61 #[v4, v6, v8] w2 fun v9 w10 =>
pu Try.prog (bin .neq 24 false true v9 (.int .i64 0)) fun v11 =>
brV v11 (
R v9 w10) (
pu Try.prog (Instr.fieldAt 51 v1 1) fun v12 =>
rd Try.prog (Instr.loadAt 3 v12) w10 fun v13 =>
pu Try.prog (Instr.fieldAt 51 v1 4) fun v14 =>
rd Try.prog (Instr.loadAt 33 v14) w10 fun v15 =>
Gv Try.prog 9 #[v13, v15] w10 fun v16 w17 =>
R v16 w17)
theorem e_record_Check (x0 : Value) (w : World) (R : Value → World → Prop) : fnD Try.prog Try.f25 .nil [x0] w R = T_record_Check x0 w R := by kernel_rfl
theorem ok_record_Check {x0 w : _} {R : Value → World → Prop} (h : T_record_Check x0 w R) : Gv Try.prog 25 #[x0] w R :=
  fn_of_D (fn := Try.f25) follows Try.func25 (by kernel_rfl) ((e_record_Check x0 w R).symm ▸ h)

/-- nameplate/record.CheckQuestion -/
abbrev F_record_CheckQuestion : Nat := 26
def T_record_CheckQuestion (x0 : Value) (w : World) (R : Value → World → Prop) : Prop :=
ef Try.prog (Instr.box 55 x0) w fun v1 w2 =>
pu Try.prog (Instr.fieldAt 55 v1 0) fun v3 =>
rd Try.prog (Instr.loadAt 29 v3) w2 fun v4 =>
pu Try.prog (Instr.fieldAt 55 v1 1) fun v5 =>
rd Try.prog (Instr.loadAt 3 v5) w2 fun v6 =>
pu Try.prog (Instr.fieldAt 55 v1 2) fun v7 =>
rd Try.prog (Instr.loadAt 3 v7) w2 fun v8 =>
Gv Try.prog 61 #[v4, v6, v8] w2 fun v9 w10 =>
R v9 w10
theorem e_record_CheckQuestion (x0 : Value) (w : World) (R : Value → World → Prop) : fnD Try.prog Try.f26 .nil [x0] w R = T_record_CheckQuestion x0 w R := by kernel_rfl
theorem ok_record_CheckQuestion {x0 w : _} {R : Value → World → Prop} (h : T_record_CheckQuestion x0 w R) : Gv Try.prog 26 #[x0] w R :=
  fn_of_D (fn := Try.f26) follows Try.func26 (by kernel_rfl) ((e_record_CheckQuestion x0 w R).symm ▸ h)

/-- nameplate/record.SameQuestion -/
abbrev F_record_SameQuestion : Nat := 27
def T_record_SameQuestion (x0 : Value) (x1 : Value) (w : World) (R : Value → World → Prop) : Prop :=
ef Try.prog (Instr.box 55 x0) w fun v1 w2 =>
ef Try.prog (Instr.box 55 x1) w2 fun v3 w4 =>
rd Try.prog (Instr.loadAt 55 v1) w4 fun v5 =>
rd Try.prog (Instr.loadAt 55 v3) w4 fun v6 =>
pu Try.prog (bin .eql 55 false false v5 v6) fun v7 =>
R v7 w4
theorem e_record_SameQuestion (x0 : Value) (x1 : Value) (w : World) (R : Value → World → Prop) : fnD Try.prog Try.f27 .nil [x0, x1] w R = T_record_SameQuestion x0 x1 w R := by kernel_rfl
theorem ok_record_SameQuestion {x0 x1 w : _} {R : Value → World → Prop} (h : T_record_SameQuestion x0 x1 w R) : Gv Try.prog 27 #[x0, x1] w R :=
  fn_of_D (fn := Try.f27) follows Try.func27 (by kernel_rfl) ((e_record_SameQuestion x0 x1 w R).symm ▸ h)

/-- nameplate/record.Size -/
abbrev F_record_Size : Nat := 28
def T_record_Size (x0 : Value) (w : World) (R : Value → World → Prop) : Prop :=
ef Try.prog (Instr.box 51 x0) w fun v1 w2 =>
rd Try.prog (Instr.loadAt 51 v1) w2 fun v3 =>
Gv Try.prog 25 #[v3] w2 fun v4 w5 =>
pu Try.prog (bin .neq 24 false true v4 (.int .i64 0)) fun v6 =>
brV v6 (
R (.int .i64 0) w5) (
dw w5 fun w7 =>
pu Try.prog (Instr.fieldAt 51 v1 0) fun v8 =>
rd Try.prog (Instr.loadAt 29 v8) w7 fun v9 =>
pu Try.prog (Instr.fieldAt 51 v1 1) fun v10 =>
rd Try.prog (Instr.loadAt 3 v10) w7 fun v11 =>
pu Try.prog (Instr.fieldAt 51 v1 4) fun v12 =>
rd Try.prog (Instr.loadAt 33 v12) w7 fun v13 =>
Gv Try.prog 62 #[v9] w7 fun v14 w15 =>
rdV Try.prog (Instr.loadAt 33 v12) v13 w15 ∧ (rdV Try.prog (Instr.loadAt 3 v10) v11 w15 ∧ (pu Try.prog (bin .add 3 false true v14 (.int .i64 10)) fun v16 =>
Gv Try.prog 14 #[v11, v13] w15 fun v17 w18 =>
pu Try.prog (bin .add 3 false false v16 v17) fun v19 =>
R v19 w18)))
theorem e_record_Size (x0 : Value) (w : World) (R : Value → World → Prop) : fnD Try.prog Try.f28 (.two .nil (.two .nil (.two (.plan [0, 1, 3, 7, 0, 16, 0, 64, 247, 511, 1023] (.q 0 (.q 1 (.q 4 (.q 5 (.q 6 (.q 7 (.e 2 (.q 3 (.e 8 (.q 9 (.q 10 .done)) .nil)) .nil)))))))) .nil))) [x0] w R = T_record_Size x0 w R := by kernel_rfl
theorem ok_record_Size {x0 w : _} {R : Value → World → Prop} (h : T_record_Size x0 w R) : Gv Try.prog 28 #[x0] w R :=
  fn_of_D (fn := Try.f28) follows Try.func28 (by kernel_rfl) ((e_record_Size x0 w R).symm ▸ h)

/-- nameplate/nameplatelaw10.light -/
abbrev F_nameplatelaw10_light : Nat := 29
def T_nameplatelaw10_light (x0 : Value) (w : World) (R : Value → World → Prop) : Prop :=
ef Try.prog (Instr.box 51 x0) w fun v1 w2 =>
pu Try.prog (Instr.fieldAt 51 v1 0) fun v3 =>
rd Try.prog (Instr.loadAt 29 v3) w2 fun v4 =>
pu Try.prog (bltS .len #[29] 3 #[v4]) fun v5 =>
pu Try.prog (bin .leq 3 false true v5 (.int .i64 400)) fun v6 =>
brV v6 (
pu Try.prog (Instr.fieldAt 51 v1 4) fun v7 =>
rd Try.prog (Instr.loadAt 33 v7) w2 fun v8 =>
Gv Try.prog 15 #[v8] w2 fun v9 w10 =>
R v9 w10) (
R (.bool false) w2)
theorem e_nameplatelaw10_light (x0 : Value) (w : World) (R : Value → World → Prop) : fnD Try.prog Try.f29 .nil [x0] w R = T_nameplatelaw10_light x0 w R := by kernel_rfl
theorem ok_nameplatelaw10_light {x0 w : _} {R : Value → World → Prop} (h : T_nameplatelaw10_light x0 w R) : Gv Try.prog 29 #[x0] w R :=
  fn_of_D (fn := Try.f29) follows Try.func29 (by kernel_rfl) ((e_nameplatelaw10_light x0 w R).symm ▸ h)

/-- nameplate/record.Same -/
abbrev F_record_Same : Nat := 30
def T_record_Same (x0 : Value) (x1 : Value) (w : World) (R : Value → World → Prop) : Prop :=
ef Try.prog (Instr.box 51 x0) w fun v1 w2 =>
ef Try.prog (Instr.box 51 x1) w2 fun v3 w4 =>
dw w4 fun w5 =>
pu Try.prog (Instr.fieldAt 51 v1 0) fun v6 =>
rd Try.prog (Instr.loadAt 29 v6) w5 fun v7 =>
pu Try.prog (Instr.fieldAt 51 v3 0) fun v8 =>
rd Try.prog (Instr.loadAt 29 v8) w5 fun v9 =>
pu Try.prog (Instr.fieldAt 51 v1 1) fun v10 =>
rd Try.prog (Instr.loadAt 3 v10) w5 fun v11 =>
pu Try.prog (Instr.fieldAt 51 v3 1) fun v12 =>
rd Try.prog (Instr.loadAt 3 v12) w5 fun v13 =>
pu Try.prog (Instr.fieldAt 51 v1 2) fun v14 =>
rd Try.prog (Instr.loadAt 3 v14) w5 fun v15 =>
pu Try.prog (Instr.fieldAt 51 v3 2) fun v16 =>
rd Try.prog (Instr.loadAt 3 v16) w5 fun v17 =>
pu Try.prog (Instr.fieldAt 51 v1 3) fun v18 =>
rd Try.prog (Instr.loadAt 30 v18) w5 fun v19 =>
pu Try.prog (Instr.fieldAt 51 v3 3) fun v20 =>
rd Try.prog (Instr.loadAt 30 v20) w5 fun v21 =>
Gv Try.prog 64 #[v7, v9] w5 fun v22 w23 =>
rdV Try.prog (Instr.loadAt 30 v20) v21 w23 ∧ (rdV Try.prog (Instr.loadAt 30 v18) v19 w23 ∧ (rdV Try.prog (Instr.loadAt 3 v16) v17 w23 ∧ (rdV Try.prog (Instr.loadAt 3 v14) v15 w23 ∧ (rdV Try.prog (Instr.loadAt 3 v12) v13 w23 ∧ (rdV Try.prog (Instr.loadAt 3 v10) v11 w23 ∧ (Gv Try.prog 65 #[v11, v13] w23 fun v24 w25 =>
rdV Try.prog (Instr.loadAt 30 v20) v21 w25 ∧ (rdV Try.prog (Instr.loadAt 30 v18) v19 w25 ∧ (rdV Try.prog (Instr.loadAt 3 v16) v17 w25 ∧ (rdV Try.prog (Instr.loadAt 3 v14) v15 w25 ∧ (Gv Try.prog 65 #[v15, v17] w25 fun v26 w27 =>
rdV Try.prog (Instr.loadAt 30 v20) v21 w27 ∧ (rdV Try.prog (Instr.loadAt 30 v18) v19 w27 ∧ (Gv Try.prog 66 #[v19, v21] w27 fun v28 w29 =>
ef Try.prog (Instr.buildSlice 66 4 #[(0, v22), (1, v24), (2, v26), (3, v28)]) w29 fun v30 w31 =>
Gv Try.prog 63 #[v30] w31 fun v32 w33 =>
pu Try.prog (bin .eql 3 false true v32 (.int .i64 0)) fun v34 =>
brV v34 (
pu Try.prog (Instr.fieldAt 51 v1 4) fun v35 =>
rd Try.prog (Instr.loadAt 33 v35) w33 fun v36 =>
pu Try.prog (Instr.fieldAt 51 v3 4) fun v37 =>
rd Try.prog (Instr.loadAt 33 v37) w33 fun v38 =>
Gv Try.prog 16 #[v36, v38] w33 fun v39 w40 =>
R v39 w40) (
R (.bool false) w33)))))))))))))
theorem e_record_Same (x0 : Value) (x1 : Value) (w : World) (R : Value → World → Prop) : fnD Try.prog Try.f30 (.two .nil (.two (.plan [0, 1, 0, 4, 15, 0, 32, 0, 128, 511, 0, 1024, 0, 4096, 16383, 0, 32768, 0, 131072, 524287, 1048575, 2097151, 4194303] (.q 0 (.q 1 (.q 2 (.q 3 (.q 5 (.q 6 (.q 7 (.q 8 (.q 10 (.q 11 (.q 12 (.q 13 (.q 15 (.q 16 (.q 17 (.q 18 (.e 4 (.e 9 (.e 14 (.e 19 (.e 20 (.e 21 (.q 22 .done) .nil) .nil) .nil) .nil) .nil) .nil)))))))))))))))))) .nil)) [x0, x1] w R = T_record_Same x0 x1 w R := by kernel_rfl
theorem ok_record_Same {x0 x1 w : _} {R : Value → World → Prop} (h : T_record_Same x0 x1 w R) : Gv Try.prog 30 #[x0, x1] w R :=
  fn_of_D (fn := Try.f30) follows Try.func30 (by kernel_rfl) ((e_record_Same x0 x1 w R).symm ▸ h)

/-- nameplate/rdata.check -/
abbrev F_rdata_check : Nat := 31
def T_rdata_check (x0 : Value) (x1 : Value) (w : World) (R : Value → World → Prop) : Prop :=
ef Try.prog (Instr.box 33 x1) w fun v1 w2 =>
CutL [3, 17] (fun J3 =>
dw w2 fun w6 =>
Gv Try.prog 40 #[x0] w6 fun v7 w8 =>
pu Try.prog (Op.unary .not v7) fun v9 =>
brV v9 (
J3 [v1, (.bool true)] w8) (
rd Try.prog (Instr.loadAt 33 v1) w8 fun v10 =>
Gv Try.prog 33 #[x0] w8 fun v11 w12 =>
rdV Try.prog (Instr.loadAt 33 v1) v10 w12 ∧ (Gv Try.prog 67 #[v11, v10] w12 fun v13 w14 =>
pu Try.prog (Op.unary .not v13) fun v15 =>
J3 [v1, v15] w14))) (fun ρ4 w5 =>
brV (ρ4 17) (
R (.int .i64 2) w5) (
pu Try.prog (Instr.fieldAt 33 (ρ4 3) 1) fun v16 =>
rd Try.prog (Instr.loadAt 29 v16) w5 fun v17 =>
pu Try.prog (Instr.fieldAt 33 (ρ4 3) 2) fun v18 =>
rd Try.prog (Instr.loadAt 29 v18) w5 fun v19 =>
ef Try.prog (Instr.buildSlice 85 2 #[(0, v17), (1, v19)]) w5 fun v20 w21 =>
pu Try.prog (bltS .len #[85] 3 #[v20]) fun v22 =>
LoopL [3, 22, 23, 24] (fun ρ24 w25 N23 =>
pu Try.prog (bin .lss 3 false false (ρ24 24) (ρ24 23)) fun v26 =>
brV v26 (
pu Try.prog (Instr.indexAt 85 (ρ24 22) (ρ24 24)) fun v27 =>
rd Try.prog (Instr.loadAt 29 v27) w25 fun v28 =>
Gv Try.prog 68 #[v28] w25 fun v29 w30 =>
pu Try.prog (bin .neq 24 false true v29 (.int .i64 0)) fun v31 =>
brV v31 (
R v29 w30) (
pu Try.prog (bin .add 3 false true (ρ24 24) (.int .i64 1)) fun v32 =>
N23 [(ρ24 3), (ρ24 22), (ρ24 23), v32] w30)) (
pu Try.prog (Instr.fieldAt 33 (ρ24 3) 4) fun v33 =>
rd Try.prog (Instr.loadAt 22 v33) w25 fun v34 =>
Gv Try.prog 69 #[v34, (.func (.func 70) #[] #[])] w25 fun v35 w36 =>
brV v35 (
R (.int .i64 3) w36) (
R (.int .i64 0) w36))) [(ρ4 3), v20, v22, (.int .i64 0)] w21))
theorem e_rdata_check (x0 : Value) (x1 : Value) (w : World) (R : Value → World → Prop) : fnD Try.prog Try.f31 (.two .nil (.two (.cut [3, 17] (.plan [0, 1, 3, 7, 15, 31, 15, 127, 255, 511] (.q 0 (.e 1 (.q 2 (.q 3 (.q 4 (.q 6 (.e 5 (.e 7 (.q 8 (.q 9 .done)) .nil) .nil))))) .nil))) .nil) (.two (.two .nil (.loop [3, 22, 23, 24] .nil)) .nil))) [x0, x1] w R = T_rdata_check x0 x1 w R := by kernel_rfl
theorem ok_rdata_check {x0 x1 w : _} {R : Value → World → Prop} (h : T_rdata_check x0 x1 w R) : Gv Try.prog 31 #[x0, x1] w R :=
  fn_of_D (fn := Try.f31) follows Try.func31 (by kernel_rfl) ((e_rdata_check x0 x1 w R).symm ▸ h)

/-- nameplate/octets.NewWriter -/
abbrev F_octets_NewWriter : Nat := 32
def T_octets_NewWriter (x0 : Value) (w : World) (R : Value → World → Prop) : Prop :=
pu Try.prog (bltS .max #[3, 3] 3 #[(.int .i64 0), x0]) fun v1 =>
pu Try.prog (Instr.build 121 #[(1, v1)]) fun v2 =>
ef Try.prog (Instr.box 121 v2) w fun v3 w4 =>
R v3 w4
theorem e_octets_NewWriter (x0 : Value) (w : World) (R : Value → World → Prop) : fnD Try.prog Try.f32 .nil [x0] w R = T_octets_NewWriter x0 w R := by kernel_rfl
theorem ok_octets_NewWriter {x0 w : _} {R : Value → World → Prop} (h : T_octets_NewWriter x0 w R) : Gv Try.prog 32 #[x0] w R :=
  fn_of_D (fn := Try.f32) follows Try.func32 (by kernel_rfl) ((e_octets_NewWriter x0 w R).symm ▸ h)

/-- nameplate/rdata.of -/
abbrev F_rdata_of : Nat := 33
def T_rdata_of (x0 : Value) (w : World) (R : Value → World → Prop) : Prop :=
ef Try.prog (Instr.alloc 78 true (.tuple #[])) w fun v1 w2 =>
Gv Try.prog 52 #[] w2 fun v3 w4 =>
rd Try.prog (Instr.lookup 98 v3 x0 true) w4 fun v5 =>
ext v5 0 fun v6 =>
ext v5 1 fun v7 =>
ef Try.prog (Instr.alloc 78 true (.tuple #[])) w4 fun v8 w9 =>
efU Try.prog (Instr.storeAt 78 v8 v6) w9 fun w11 =>
brV v7 (
rd Try.prog (Instr.loadAt 78 v8) w11 fun v12 =>
efU Try.prog (Instr.storeAt 78 v1 v12) w11 fun w14 =>
rcell Try.prog 78 v1 w14 fun v15 =>
R v15 w14) (
pu Try.prog (Instr.build 78 #[(8, (.bool true))]) fun v16 =>
efU Try.prog (Instr.storeAt 78 v1 v16) w11 fun w18 =>
rcell Try.prog 78 v1 w18 fun v19 =>
R v19 w18)
theorem e_rdata_of (x0 : Value) (w : World) (R : Value → World → Prop) : fnD Try.prog Try.f33 .nil [x0] w R = T_rdata_of x0 w R := by kernel_rfl
theorem ok_rdata_of {x0 w : _} {R : Value → World → Prop} (h : T_rdata_of x0 w R) : Gv Try.prog 33 #[x0] w R :=
  fn_of_D (fn := Try.f33) follows Try.func33 (by kernel_rfl) ((e_rdata_of x0 w R).symm ▸ h)

/-- nameplate/addr.Octets -/
abbrev F_addr_Octets : Nat := 34
def T_addr_Octets (x0 : Value) (w : World) (R : Value → World → Prop) : Prop :=
ef Try.prog (Instr.box 28 x0) w fun v1 w2 =>
rd Try.prog (Instr.loadAt 28 v1) w2 fun v3 =>
Gv Try.prog 71 #[v3] w2 fun v4 w5 =>
pu Try.prog (bin .neq 24 false true v4 (.int .i64 0)) fun v6 =>
brV v6 (
R (.tuple #[(.string { data := #[] }), v4]) w5) (
pu Try.prog (Instr.fieldAt 28 v1 0) fun v7 =>
rd Try.prog (Instr.loadAt 4 v7) w5 fun v8 =>
pu Try.prog (Op.unary .not v8) fun v9 =>
brV v9 (
pu Try.prog (Instr.fieldAt 28 v1 2) fun v10 =>
rd Try.prog (Instr.loadAt 26 v10) w5 fun v11 =>
Gv Try.prog 72 #[(.slice none 0 0), v11, (.int .i64 4)] w5 fun v12 w13 =>
rd Try.prog (convert 34 9 v12) w13 fun v14 =>
R (.tuple #[v14, (.int .i64 0)]) w13) (
dw w5 fun w15 =>
pu Try.prog (Instr.fieldAt 28 v1 1) fun v16 =>
rd Try.prog (Instr.loadAt 26 v16) w15 fun v17 =>
pu Try.prog (Instr.fieldAt 28 v1 2) fun v18 =>
rd Try.prog (Instr.loadAt 26 v18) w15 fun v19 =>
Gv Try.prog 72 #[(.slice none 0 0), v17, (.int .i64 8)] w15 fun v20 w21 =>
rdV Try.prog (Instr.loadAt 26 v18) v19 w21 ∧ (Gv Try.prog 72 #[v20, v19, (.int .i64 8)] w21 fun v22 w23 =>
rd Try.prog (convert 34 9 v22) w23 fun v24 =>
R (.tuple #[v24, (.int .i64 0)]) w23)))
theorem e_addr_Octets (x0 : Value) (w : World) (R : Value → World → Prop) : fnD Try.prog Try.f34 (.two .nil (.two .nil (.two .nil (.two (.plan [0, 1, 3, 0, 8, 31, 63, 127, 255] (.q 0 (.q 1 (.q 3 (.q 4 (.e 2 (.e 5 (.q 6 (.q 7 (.q 8 .done))) .nil) .nil)))))) .nil)))) [x0] w R = T_addr_Octets x0 w R := by kernel_rfl
theorem ok_addr_Octets {x0 w : _} {R : Value → World → Prop} (h : T_addr_Octets x0 w R) : Gv Try.prog 34 #[x0] w R :=
  fn_of_D (fn := Try.f34) follows Try.func34 (by kernel_rfl) ((e_addr_Octets x0 w R).symm ▸ h)

/-- (*nameplate/pack.Packer).Put -/
abbrev F_pack_Packer_Put : Nat := 35
def T_pack_Packer_Put (x0 : Value) (x1 : Value) (w : World) (R : Value → World → Prop) : Prop :=
pu Try.prog (bin .eql 35 false true x0 (.pointer none)) fun v1 =>
brV v1 (
R (.int .i64 1) w) (
nck x0 fun v2 =>
pu Try.prog (Instr.fieldAt 76 v2 0) fun v3 =>
rd Try.prog (Instr.loadAt 70 v3) w fun v4 =>
Gv Try.prog 51 #[v4, x1] w fun v5 w6 =>
R v5 w6)
theorem e_pack_Packer_Put (x0 : Value) (x1 : Value) (w : World) (R : Value → World → Prop) : fnD Try.prog Try.f35 .nil [x0, x1] w R = T_pack_Packer_Put x0 x1 w R := by kernel_rfl
theorem ok_pack_Packer_Put {x0 x1 w : _} {R : Value → World → Prop} (h : T_pack_Packer_Put x0 x1 w R) : Gv Try.prog 35 #[x0, x1] w R :=
  fn_of_D (fn := Try.f35) follows Try.func35 (by kernel_rfl) ((e_pack_Packer_Put x0 x1 w R).symm ▸ h)

/-- nameplate/rdata.Put$1 -/
abbrev F_rdata_Put_1 : Nat := 36
def T_rdata_Put_1 (x0 : Value) (x1 : Value) (x2 : Value) (w : World) (R : Value → World → Prop) : Prop :=
pu Try.prog (Instr.fieldAt 33 x0 3) fun v1 =>
pu Try.prog (Instr.fieldAt 78 x1 5) fun v2 =>
rd Try.prog (Instr.loadAt 3 v2) w fun v3 =>
pu Try.prog (Instr.sliceAt 31 v1 none (some v3) none) fun v4 =>
pu Try.prog (bltS .len #[83] 3 #[v4]) fun v5 =>
LoopL [1, 2, 8, 9, 10] (fun ρ7 w8 N6 =>
pu Try.prog (bin .lss 3 false false (ρ7 10) (ρ7 9)) fun v9 =>
brV v9 (
pu Try.prog (Instr.indexAt 83 (ρ7 8) (ρ7 10)) fun v10 =>
rd Try.prog (Instr.loadAt 30 v10) w8 fun v11 =>
rd Try.prog (Instr.loadAt 35 (ρ7 2)) w8 fun v12 =>
pu Try.prog (Instr.fieldAt 78 (ρ7 1) 6) fun v13 =>
rd Try.prog (Instr.loadAt 3 v13) w8 fun v14 =>
Gv Try.prog 37 #[v12, v11, v14] w8 fun v15 w16 =>
pu Try.prog (bin .add 3 false true (ρ7 10) (.int .i64 1)) fun v17 =>
N6 [(ρ7 1), (ρ7 2), (ρ7 8), (ρ7 9), v17] w16) (
R (.tuple #[]) w8)) [x1, x2, v4, v5, (.int .i64 0)] w
theorem e_rdata_Put_1 (x0 : Value) (x1 : Value) (x2 : Value) (w : World) (R : Value → World → Prop) : fnD Try.prog Try.f36 (.two .nil (.loop [1, 2, 8, 9, 10] .nil)) [x0, x1, x2] w R = T_rdata_Put_1 x0 x1 x2 w R := by kernel_rfl
theorem ok_rdata_Put_1 {x0 x1 x2 w : _} {R : Value → World → Prop} (h : T_rdata_Put_1 x0 x1 x2 w R) : Gv Try.prog 36 #[x0, x1, x2] w R :=
  fn_of_D (fn := Try.f36) follows Try.func36 (by kernel_rfl) ((e_rdata_Put_1 x0 x1 x2 w R).symm ▸ h)

/-- (*nameplate/pack.Packer).Number -/
abbrev F_pack_Packer_Number : Nat := 37
def T_pack_Packer_Number (x0 : Value) (x1 : Value) (x2 : Value) (w : World) (R : Value → World → Prop) : Prop :=
pu Try.prog (bin .eql 35 false true x0 (.pointer none)) fun v1 =>
brV v1 (
R (.int .i64 1) w) (
nck x0 fun v2 =>
pu Try.prog (Instr.fieldAt 76 v2 0) fun v3 =>
rd Try.prog (Instr.loadAt 70 v3) w fun v4 =>
Gv Try.prog 49 #[v4, x1, x2] w fun v5 w6 =>
R v5 w6)
theorem e_pack_Packer_Number (x0 : Value) (x1 : Value) (x2 : Value) (w : World) (R : Value → World → Prop) : fnD Try.prog Try.f37 .nil [x0, x1, x2] w R = T_pack_Packer_Number x0 x1 x2 w R := by kernel_rfl
theorem ok_pack_Packer_Number {x0 x1 x2 w : _} {R : Value → World → Prop} (h : T_pack_Packer_Number x0 x1 x2 w R) : Gv Try.prog 37 #[x0, x1, x2] w R :=
  fn_of_D (fn := Try.f37) follows Try.func37 (by kernel_rfl) ((e_pack_Packer_Number x0 x1 x2 w R).symm ▸ h)

/-- (*nameplate/pack.Packer).Plain -/
abbrev F_pack_Packer_Plain : Nat := 38
def T_pack_Packer_Plain (x0 : Value) (x1 : Value) (w : World) (R : Value → World → Prop) : Prop :=
Gv Try.prog 48 #[x0, x1] w fun v1 w2 =>
pu Try.prog (bin .neq 24 false true v1 (.int .i64 0)) fun v3 =>
brV v3 (
R v1 w2) (
nck x0 fun v4 =>
pu Try.prog (Instr.fieldAt 76 v4 0) fun v5 =>
rd Try.prog (Instr.loadAt 70 v5) w2 fun v6 =>
pu Try.prog (bin .add 9 false true x1 (.string { data := #[0] })) fun v7 =>
Gv Try.prog 51 #[v6, v7] w2 fun v8 w9 =>
R v8 w9)
theorem e_pack_Packer_Plain (x0 : Value) (x1 : Value) (w : World) (R : Value → World → Prop) : fnD Try.prog Try.f38 .nil [x0, x1] w R = T_pack_Packer_Plain x0 x1 w R := by kernel_rfl
theorem ok_pack_Packer_Plain {x0 x1 w : _} {R : Value → World → Prop} (h : T_pack_Packer_Plain x0 x1 w R) : Gv Try.prog 38 #[x0, x1] w R :=
  fn_of_D (fn := Try.f38) follows Try.func38 (by kernel_rfl) ((e_pack_Packer_Plain x0 x1 w R).symm ▸ h)

/-- (*nameplate/pack.Packer).Err -/
abbrev F_pack_Packer_Err : Nat := 39
def T_pack_Packer_Err (x0 : Value) (w : World) (R : Value → World → Prop) : Prop :=
pu Try.prog (bin .eql 35 false true x0 (.pointer none)) fun v1 =>
brV v1 (
R (.int .i64 1) w) (
nck x0 fun v2 =>
pu Try.prog (Instr.fieldAt 76 v2 0) fun v3 =>
rd Try.prog (Instr.loadAt 70 v3) w fun v4 =>
Gv Try.prog 73 #[v4] w fun v5 w6 =>
R v5 w6)
theorem e_pack_Packer_Err (x0 : Value) (w : World) (R : Value → World → Prop) : fnD Try.prog Try.f39 .nil [x0] w R = T_pack_Packer_Err x0 w R := by kernel_rfl
theorem ok_pack_Packer_Err {x0 w : _} {R : Value → World → Prop} (h : T_pack_Packer_Err x0 w R) : Gv Try.prog 39 #[x0] w R :=
  fn_of_D (fn := Try.f39) follows Try.func39 (by kernel_rfl) ((e_pack_Packer_Err x0 w R).symm ▸ h)

/-- nameplate/rdata.may -/
abbrev F_rdata_may : Nat := 40
def T_rdata_may (x0 : Value) (w : World) (R : Value → World → Prop) : Prop :=
pu Try.prog (bin .geq 3 false true x0 (.int .i64 0)) fun v1 =>
brV v1 (
pu Try.prog (bin .leq 3 false true x0 (.int .i64 65535)) fun v2 =>
R v2 w) (
R (.bool false) w)
theorem e_rdata_may (x0 : Value) (w : World) (R : Value → World → Prop) : fnD Try.prog Try.f40 .nil [x0] w R = T_rdata_may x0 w R := by kernel_rfl
theorem ok_rdata_may {x0 w : _} {R : Value → World → Prop} (h : T_rdata_may x0 w R) : Gv Try.prog 40 #[x0] w R :=
  fn_of_D (fn := Try.f40) follows Try.func40 (by kernel_rfl) ((e_rdata_may x0 w R).symm ▸ h)

/-- nameplate/octets.NewReader -/
abbrev F_octets_NewReader : Nat := 41
def T_octets_NewReader (x0 : Value) (w : World) (R : Value → World → Prop) : Prop :=
pu Try.prog (Instr.build 125 #[(0, x0)]) fun v1 =>
pu Try.prog (Instr.build 127 #[(0, v1)]) fun v2 =>
ef Try.prog (Instr.box 127 v2) w fun v3 w4 =>
R v3 w4
theorem e_octets_NewReader (x0 : Value) (w : World) (R : Value → World → Prop) : fnD Try.prog Try.f41 .nil [x0] w R = T_octets_NewReader x0 w R := by kernel_rfl
theorem ok_octets_NewReader {x0 w : _} {R : Value → World → Prop} (h : T_octets_NewReader x0 w R) : Gv Try.prog 41 #[x0] w R :=
  fn_of_D (fn := Try.f41) follows Try.func41 (by kernel_rfl) ((e_octets_NewReader x0 w R).symm ▸ h)

/-- (*nameplate/octets.Reader).Seek -/
abbrev F_octets_Reader_Seek : Nat := 42
def T_octets_Reader_Seek (x0 : Value) (x1 : Value) (w : World) (R : Value → World → Prop) : Prop :=
pu Try.prog (bin .eql 88 false true x0 (.pointer none)) fun v1 =>
brV v1 (
R (.int .i64 1) w) (
pu Try.prog (bin .lss 3 false true x1 (.int .i64 0)) fun v2 =>
brV v2 (
R (.int .i64 2) w) (
nck x0 fun v3 =>
pu Try.prog (Instr.fieldAt 127 v3 0) fun v4 =>
pu Try.prog (Instr.fieldAt 125 v4 0) fun v5 =>
rd Try.prog (Instr.loadAt 9 v5) w fun v6 =>
pu Try.prog (bltS .len #[9] 3 #[v6]) fun v7 =>
pu Try.prog (bin .gtr 3 false false x1 v7) fun v8 =>
brV v8 (
R (.int .i64 2) w) (
nck x0 fun v9 =>
pu Try.prog (Instr.fieldAt 127 v9 0) fun v10 =>
pu Try.prog (Instr.fieldAt 125 v10 1) fun v11 =>
efU Try.prog (Instr.storeAt 3 v11 x1) w fun w13 =>
R (.int .i64 0) w13)))
theorem e_octets_Reader_Seek (x0 : Value) (x1 : Value) (w : World) (R : Value → World → Prop) : fnD Try.prog Try.f42 .nil [x0, x1] w R = T_octets_Reader_Seek x0 x1 w R := by kernel_rfl
theorem ok_octets_Reader_Seek {x0 x1 w : _} {R : Value → World → Prop} (h : T_octets_Reader_Seek x0 x1 w R) : Gv Try.prog 42 #[x0, x1] w R :=
  fn_of_D (fn := Try.f42) follows Try.func42 (by kernel_rfl) ((e_octets_Reader_Seek x0 x1 w R).symm ▸ h)

/-- (*nameplate/rdata.cursor).data -/
abbrev F_rdata_cursor_data : Nat := 43
def T_rdata_cursor_data (x0 : Value) (x1 : Value) (w : World) (R : Value → World → Prop) : Prop :=
ef Try.prog (Instr.box 87 x0) w fun v1 w2 =>
ef Try.prog (Instr.box 78 x1) w2 fun v3 w4 =>
ef Try.prog (Instr.alloc 33 true (.tuple #[])) w4 fun v5 w6 =>
CutL [2, 3, 4] (fun J7 =>
pu Try.prog (Instr.fieldAt 78 v3 1) fun v10 =>
rd Try.prog (Instr.loadAt 3 v10) w6 fun v11 =>
pu Try.prog (bin .gtr 3 false true v11 (.int .i64 0)) fun v12 =>
brV v12 (
rd Try.prog (Instr.loadAt 87 v1) w6 fun v13 =>
pu Try.prog (Instr.fieldAt 78 v3 1) fun v14 =>
rd Try.prog (Instr.loadAt 3 v14) w6 fun v15 =>
Gv Try.prog 75 #[v13, v15] w6 fun v16 w17 =>
Gv Try.prog 74 #[v16] w17 fun v18 w19 =>
ext v18 0 fun v20 =>
ext v18 1 fun v21 =>
pu Try.prog (Instr.fieldAt 33 v5 0) fun v22 =>
efU Try.prog (Instr.storeAt 28 v22 v20) w19 fun w24 =>
J7 [v1, v3, v5] w24) (
J7 [v1, v3, v5] w6)) (fun ρ8 w9 =>
CutL [2, 3, 4, 5, 6] (fun J25 =>
pu Try.prog (Instr.fieldAt 78 (ρ8 3) 3) fun v28 =>
rd Try.prog (Instr.loadAt 4 v28) w9 fun v29 =>
brV v29 (
J25 [(ρ8 2), (ρ8 3), (ρ8 4), (.func (.func 76) #[] #[(ρ8 3), (ρ8 2), (ρ8 4)]), (.func (.func 79) #[] #[])] w9) (
J25 [(ρ8 2), (ρ8 3), (ρ8 4), (.func (.func 76) #[] #[(ρ8 3), (ρ8 2), (ρ8 4)]), (.func (.func 78) #[] #[])] w9)) (fun ρ26 w27 =>
CutL [2, 3, 4, 5, 6] (fun J30 =>
pu Try.prog (Instr.fieldAt 78 (ρ26 3) 4) fun v33 =>
rd Try.prog (Instr.loadAt 4 v33) w27 fun v34 =>
brV v34 (
callV Try.prog (ρ26 5) [] w27 fun v35 w36 =>
J30 [(ρ26 2), (ρ26 3), (ρ26 4), (ρ26 5), (ρ26 6)] w36) (
J30 [(ρ26 2), (ρ26 3), (ρ26 4), (ρ26 5), (ρ26 6)] w27)) (fun ρ31 w32 =>
pu Try.prog (Instr.fieldAt 33 (ρ31 4) 1) fun v37 =>
pu Try.prog (Instr.fieldAt 33 (ρ31 4) 2) fun v38 =>
ef Try.prog (Instr.buildSlice 133 2 #[(0, v37), (1, v38)]) w32 fun v39 w40 =>
pu Try.prog (Instr.fieldAt 78 (ρ31 3) 2) fun v41 =>
rd Try.prog (Instr.loadAt 3 v41) w40 fun v42 =>
pu Try.prog (Instr.sliceAt 133 v39 none (some v42) none) fun v43 =>
pu Try.prog (bltS .len #[133] 3 #[v43]) fun v44 =>
LoopL [2, 3, 4, 5, 6, 34, 35, 36] (fun ρ46 w47 N45 =>
pu Try.prog (bin .lss 3 false false (ρ46 36) (ρ46 35)) fun v48 =>
brV v48 (
pu Try.prog (Instr.indexAt 133 (ρ46 34) (ρ46 36)) fun v49 =>
rd Try.prog (Instr.loadAt 103 v49) w47 fun v50 =>
rd Try.prog (Instr.loadAt 87 (ρ46 2)) w47 fun v51 =>
Gv Try.prog 80 #[v51, (ρ46 6)] w47 fun v52 w53 =>
nck v50 fun v54 =>
efU Try.prog (Instr.storeAt 29 v54 v52) w53 fun w56 =>
pu Try.prog (bin .add 3 false true (ρ46 36) (.int .i64 1)) fun v57 =>
N45 [(ρ46 2), (ρ46 3), (ρ46 4), (ρ46 5), (ρ46 6), (ρ46 34), (ρ46 35), v57] w56) (
CutL [2, 3, 4] (fun J58 =>
pu Try.prog (Instr.fieldAt 78 (ρ46 3) 4) fun v61 =>
rd Try.prog (Instr.loadAt 4 v61) w47 fun v62 =>
pu Try.prog (Op.unary .not v62) fun v63 =>
brV v63 (
callV Try.prog (ρ46 5) [] w47 fun v64 w65 =>
J58 [(ρ46 2), (ρ46 3), (ρ46 4)] w65) (
J58 [(ρ46 2), (ρ46 3), (ρ46 4)] w47)) (fun ρ59 w60 =>
pu Try.prog (Instr.fieldAt 78 (ρ59 3) 7) fun v66 =>
rd Try.prog (Instr.loadAt 4 v66) w60 fun v67 =>
LoopL [2, 3, 4, 9] (fun ρ69 w70 N68 =>
brV (ρ69 9) (
rd Try.prog (Instr.loadAt 87 (ρ69 2)) w70 fun v71 =>
nck v71 fun v72 =>
pu Try.prog (Instr.fieldAt 91 v72 2) fun v73 =>
rd Try.prog (Instr.loadAt 24 v73) w70 fun v74 =>
pu Try.prog (bin .eql 24 false true v74 (.int .i64 0)) fun v75 =>
brV v75 (
dw w70 fun w76 =>
pu Try.prog (Instr.fieldAt 33 (ρ69 4) 4) fun v77 =>
rd Try.prog (Instr.loadAt 22 v77) w76 fun v78 =>
rd Try.prog (Instr.loadAt 87 (ρ69 2)) w76 fun v79 =>
rd Try.prog (Instr.loadAt 87 (ρ69 2)) w76 fun v80 =>
Gv Try.prog 77 #[v80, (.int .i64 1)] w76 fun v81 w82 =>
rdV Try.prog (Instr.loadAt 87 (ρ69 2)) v79 w82 ∧ (rdV Try.prog (Instr.loadAt 22 v77) v78 w82 ∧ (pu Try.prog (convert 30 3 v81) fun v83 =>
Gv Try.prog 75 #[v79, v83] w82 fun v84 w85 =>
rdV Try.prog (Instr.loadAt 22 v77) v78 w85 ∧ (ef Try.prog (Instr.buildSlice 22 1 #[(0, v84)]) w85 fun v86 w87 =>
rdV Try.prog (Instr.loadAt 22 v77) v78 w87 ∧ (ef Try.prog (bltS .append #[22, 22] 22 #[v78, v86]) w87 fun v88 w89 =>
pu Try.prog (Instr.fieldAt 33 (ρ69 4) 4) fun v90 =>
efU Try.prog (Instr.storeAt 22 v90 v88) w89 fun w92 =>
rd Try.prog (Instr.loadAt 87 (ρ69 2)) w92 fun v93 =>
nck v93 fun v94 =>
pu Try.prog (Instr.fieldAt 91 v94 0) fun v95 =>
rd Try.prog (Instr.loadAt 88 v95) w92 fun v96 =>
Gv Try.prog 44 #[v96] w92 fun v97 w98 =>
pu Try.prog (bin .gtr 3 false true v97 (.int .i64 0)) fun v99 =>
N68 [(ρ69 2), (ρ69 3), (ρ69 4), v99] w98))))) (
pu Try.prog (Instr.fieldAt 78 (ρ69 3) 8) fun v100 =>
rd Try.prog (Instr.loadAt 4 v100) w70 fun v101 =>
brV v101 (
dw w70 fun w102 =>
rd Try.prog (Instr.loadAt 87 (ρ69 2)) w102 fun v103 =>
rd Try.prog (Instr.loadAt 87 (ρ69 2)) w102 fun v104 =>
nck v104 fun v105 =>
pu Try.prog (Instr.fieldAt 91 v105 0) fun v106 =>
rd Try.prog (Instr.loadAt 88 v106) w102 fun v107 =>
Gv Try.prog 44 #[v107] w102 fun v108 w109 =>
rdV Try.prog (Instr.loadAt 87 (ρ69 2)) v103 w109 ∧ (Gv Try.prog 75 #[v103, v108] w109 fun v110 w111 =>
pu Try.prog (Instr.fieldAt 33 (ρ69 4) 5) fun v112 =>
efU Try.prog (Instr.storeAt 9 v112 v110) w111 fun w114 =>
rd Try.prog (Instr.loadAt 33 (ρ69 4)) w114 fun v115 =>
efU Try.prog (Instr.storeAt 33 (ρ69 4) v115) w114 fun w117 =>
rcell Try.prog 33 (ρ69 4) w117 fun v118 =>
R v118 w117)) (
rd Try.prog (Instr.loadAt 33 (ρ69 4)) w70 fun v119 =>
efU Try.prog (Instr.storeAt 33 (ρ69 4) v119) w70 fun w121 =>
rcell Try.prog 33 (ρ69 4) w121 fun v122 =>
R v122 w121))) (
pu Try.prog (Instr.fieldAt 78 (ρ69 3) 8) fun v123 =>
rd Try.prog (Instr.loadAt 4 v123) w70 fun v124 =>
brV v124 (
dw w70 fun w125 =>
rd Try.prog (Instr.loadAt 87 (ρ69 2)) w125 fun v126 =>
rd Try.prog (Instr.loadAt 87 (ρ69 2)) w125 fun v127 =>
nck v127 fun v128 =>
pu Try.prog (Instr.fieldAt 91 v128 0) fun v129 =>
rd Try.prog (Instr.loadAt 88 v129) w125 fun v130 =>
Gv Try.prog 44 #[v130] w125 fun v131 w132 =>
rdV Try.prog (Instr.loadAt 87 (ρ69 2)) v126 w132 ∧ (Gv Try.prog 75 #[v126, v131] w132 fun v133 w134 =>
pu Try.prog (Instr.fieldAt 33 (ρ69 4) 5) fun v135 =>
efU Try.prog (Instr.storeAt 9 v135 v133) w134 fun w137 =>
rd Try.prog (Instr.loadAt 33 (ρ69 4)) w137 fun v138 =>
efU Try.prog (Instr.storeAt 33 (ρ69 4) v138) w137 fun w140 =>
rcell Try.prog 33 (ρ69 4) w140 fun v141 =>
R v141 w140)) (
rd Try.prog (Instr.loadAt 33 (ρ69 4)) w70 fun v142 =>
efU Try.prog (Instr.storeAt 33 (ρ69 4) v142) w70 fun w144 =>
rcell Try.prog 33 (ρ69 4) w144 fun v145 =>
R v145 w144))) [(ρ59 2), (ρ59 3), (ρ59 4), v67] w60))) [(ρ31 2), (ρ31 3), (ρ31 4), (ρ31 5), (ρ31 6), v43, v44, (.int .i64 0)] w40)))
theorem e_rdata_cursor_data (x0 : Value) (x1 : Value) (w : World) (R : Value → World → Prop) : fnD Try.prog Try.f43 (.two .nil (.cut [2, 3, 4] .nil (.two .nil (.two .nil (.cut [2, 3, 4, 5, 6] .nil (.cut [2, 3, 4, 5, 6] .nil (.two (.two .nil (.loop [2, 3, 4, 5, 6, 34, 35, 36] .nil)) (.cut [2, 3, 4] .nil (.two (.two .nil (.loop [2, 3, 4, 9] (.two .nil (.two (.plan [0, 1, 0, 0, 8, 24, 60, 124, 255, 511, 1023] (.q 0 (.q 1 (.q 2 (.q 3 (.e 4 (.q 5 (.e 6 (.e 7 (.e 8 (.q 9 (.e 10 .done .nil)) .nil) .nil) .nil)) .nil)))))) .nil)))) (.two (.two .nil (.two (.plan [0, 0, 2, 6, 14, 30, 63, 127, 255] (.q 0 (.q 1 (.q 2 (.q 3 (.q 4 (.e 5 (.e 6 (.q 7 (.e 8 .done .nil)) .nil) .nil))))))) .nil)) .nil)))))))))) [x0, x1] w R = T_rdata_cursor_data x0 x1 w R := by kernel_rfl
theorem ok_rdata_cursor_data {x0 x1 w : _} {R : Value → World → Prop} (h : T_rdata_cursor_data x0 x1 w R) : Gv Try.prog 43 #[x0, x1] w R :=
  fn_of_D (fn := Try.f43) follows Try.func43 (by kernel_rfl) ((e_rdata_cursor_data x0 x1 w R).symm ▸ h)

/-- (*nameplate/octets.Reader).Left -/
abbrev F_octets_Reader_Left : Nat := 44
def T_octets_Reader_Left (x0 : Value) (w : World) (R : Value → World → Prop) : Prop :=
pu Try.prog (bin .eql 88 false true x0 (.pointer none)) fun v1 =>
brV v1 (
R (.int .i64 0) w) (
nck x0 fun v2 =>
pu Try.prog (Instr.fieldAt 127 v2 0) fun v3 =>
Gv Try.prog 81 #[v3] w fun v4 w5 =>
R v4 w5)
theorem e_octets_Reader_Left (x0 : Value) (w : World) (R : Value → World → Prop) : fnD Try.prog Try.f44 .nil [x0] w R = T_octets_Reader_Left x0 w R := by kernel_rfl
theorem ok_octets_Reader_Left {x0 w : _} {R : Value → World → Prop} (h : T_octets_Reader_Left x0 w R) : Gv Try.prog 44 #[x0] w R :=
  fn_of_D (fn := Try.f44) follows Try.func44 (by kernel_rfl) ((e_octets_Reader_Left x0 w R).symm ▸ h)

/-- (*nameplate/octets.Writer).Text -/
abbrev F_octets_Writer_Text : Nat := 45
def T_octets_Writer_Text (x0 : Value) (w : World) (R : Value → World → Prop) : Prop :=
pu Try.prog (bin .eql 70 false true x0 (.pointer none)) fun v1 =>
brV v1 (
R (.string { data := #[] }) w) (
nck x0 fun v2 =>
pu Try.prog (Instr.fieldAt 121 v2 0) fun v3 =>
rd Try.prog (Instr.loadAt 34 v3) w fun v4 =>
rd Try.prog (convert 34 9 v4) w fun v5 =>
R v5 w)
theorem e_octets_Writer_Text (x0 : Value) (w : World) (R : Value → World → Prop) : fnD Try.prog Try.f45 .nil [x0] w R = T_octets_Writer_Text x0 w R := by kernel_rfl
theorem ok_octets_Writer_Text {x0 w : _} {R : Value → World → Prop} (h : T_octets_Writer_Text x0 w R) : Gv Try.prog 45 #[x0] w R :=
  fn_of_D (fn := Try.f45) follows Try.func45 (by kernel_rfl) ((e_octets_Writer_Text x0 w R).symm ▸ h)

/-- (nameplate/rdata.what).size -/
abbrev F_rdata_what_size : Nat := 46
def T_rdata_what_size (x0 : Value) (x1 : Value) (w : World) (R : Value → World → Prop) : Prop :=
ef Try.prog (Instr.box 78 x0) w fun v1 w2 =>
ef Try.prog (Instr.box 33 x1) w2 fun v3 w4 =>
pu Try.prog (Instr.fieldAt 78 v1 1) fun v5 =>
rd Try.prog (Instr.loadAt 3 v5) w4 fun v6 =>
pu Try.prog (Instr.fieldAt 78 v1 5) fun v7 =>
rd Try.prog (Instr.loadAt 3 v7) w4 fun v8 =>
pu Try.prog (Instr.fieldAt 78 v1 6) fun v9 =>
rd Try.prog (Instr.loadAt 3 v9) w4 fun v10 =>
pu Try.prog (bin .mul 3 false false v8 v10) fun v11 =>
pu Try.prog (bin .add 3 false false v6 v11) fun v12 =>
pu Try.prog (Instr.fieldAt 33 v3 5) fun v13 =>
rd Try.prog (Instr.loadAt 9 v13) w4 fun v14 =>
pu Try.prog (bltS .len #[9] 3 #[v14]) fun v15 =>
pu Try.prog (bin .add 3 false false v12 v15) fun v16 =>
pu Try.prog (Instr.fieldAt 33 v3 1) fun v17 =>
rd Try.prog (Instr.loadAt 29 v17) w4 fun v18 =>
pu Try.prog (Instr.fieldAt 33 v3 2) fun v19 =>
rd Try.prog (Instr.loadAt 29 v19) w4 fun v20 =>
ef Try.prog (Instr.buildSlice 85 2 #[(0, v18), (1, v20)]) w4 fun v21 w22 =>
pu Try.prog (Instr.fieldAt 78 v1 2) fun v23 =>
rd Try.prog (Instr.loadAt 3 v23) w22 fun v24 =>
pu Try.prog (Instr.sliceAt 85 v21 none (some v24) none) fun v25 =>
pu Try.prog (bltS .len #[85] 3 #[v25]) fun v26 =>
LoopL [3, 5, 29, 30, 31] (fun ρ28 w29 N27 =>
pu Try.prog (bin .lss 3 false false (ρ28 31) (ρ28 30)) fun v30 =>
brV v30 (
pu Try.prog (Instr.indexAt 85 (ρ28 29) (ρ28 31)) fun v31 =>
rd Try.prog (Instr.loadAt 29 v31) w29 fun v32 =>
Gv Try.prog 62 #[v32] w29 fun v33 w34 =>
pu Try.prog (bin .add 3 false false (ρ28 5) v33) fun v35 =>
pu Try.prog (bin .add 3 false true (ρ28 31) (.int .i64 1)) fun v36 =>
N27 [(ρ28 3), v35, (ρ28 29), (ρ28 30), v36] w34) (
pu Try.prog (Instr.fieldAt 33 (ρ28 3) 4) fun v37 =>
rd Try.prog (Instr.loadAt 22 v37) w29 fun v38 =>
pu Try.prog (bltS .len #[22] 3 #[v38]) fun v39 =>
LoopL [5, 41, 42, 43] (fun ρ41 w42 N40 =>
pu Try.prog (bin .lss 3 false false (ρ41 43) (ρ41 42)) fun v43 =>
brV v43 (
pu Try.prog (Instr.indexAt 22 (ρ41 41) (ρ41 43)) fun v44 =>
rd Try.prog (Instr.loadAt 9 v44) w42 fun v45 =>
pu Try.prog (bltS .len #[9] 3 #[v45]) fun v46 =>
pu Try.prog (bin .add 3 true false (.int .i64 1) v46) fun v47 =>
pu Try.prog (bin .add 3 false false (ρ41 5) v47) fun v48 =>
pu Try.prog (bin .add 3 false true (ρ41 43) (.int .i64 1)) fun v49 =>
N40 [v48, (ρ41 41), (ρ41 42), v49] w42) (
R (ρ41 5) w42)) [(ρ28 5), v38, v39, (.int .i64 0)] w29)) [v3, v16, v25, v26, (.int .i64 0)] w22
theorem e_rdata_what_size (x0 : Value) (x1 : Value) (w : World) (R : Value → World → Prop) : fnD Try.prog Try.f46 (.two .nil (.two .nil (.two (.two .nil (.loop [3, 5, 29, 30, 31] .nil)) (.two (.two .nil (.loop [5, 41, 42, 43] .nil)) .nil)))) [x0, x1] w R = T_rdata_what_size x0 x1 w R := by kernel_rfl
theorem ok_rdata_what_size {x0 x1 w : _} {R : Value → World → Prop} (h : T_rdata_what_size x0 x1 w R) : Gv Try.prog 46 #[x0, x1] w R :=
  fn_of_D (fn := Try.f46) follows Try.func46 (by kernel_rfl) ((e_rdata_what_size x0 x1 w R).symm ▸ h)

/-- slices.Equal[[]string,string] -/
abbrev F_slices_Equal_string_string : Nat := 47
def T_slices_Equal_string_string (x0 : Value) (x1 : Value) (w : World) (R : Value → World → Prop) : Prop :=
pu Try.prog (bltS .len #[22] 3 #[x0]) fun v1 =>
pu Try.prog (bltS .len #[22] 3 #[x1]) fun v2 =>
pu Try.prog (bin .neq 3 false false v1 v2) fun v3 =>
brV v3 (
R (.bool false) w) (
pu Try.prog (bltS .len #[22] 3 #[x0]) fun v4 =>
LoopL [0, 1, 12, 13] (fun ρ6 w7 N5 =>
pu Try.prog (bin .lss 3 false false (ρ6 13) (ρ6 12)) fun v8 =>
brV v8 (
dw w7 fun w9 =>
pu Try.prog (Instr.indexAt 22 (ρ6 0) (ρ6 13)) fun v10 =>
rd Try.prog (Instr.loadAt 9 v10) w9 fun v11 =>
pu Try.prog (Instr.indexAt 22 (ρ6 1) (ρ6 13)) fun v12 =>
rd Try.prog (Instr.loadAt 9 v12) w9 fun v13 =>
pu Try.prog (bin .neq 9 false false v11 v13) fun v14 =>
brV v14 (
R (.bool false) w9) (
pu Try.prog (bin .add 3 false true (ρ6 13) (.int .i64 1)) fun v15 =>
N5 [(ρ6 0), (ρ6 1), (ρ6 12), v15] w9)) (
R (.bool true) w7)) [x0, x1, v4, (.int .i64 0)] w)
theorem e_slices_Equal_string_string (x0 : Value) (x1 : Value) (w : World) (R : Value → World → Prop) : fnD Try.prog Try.f47 (.two .nil (.two .nil (.two (.two .nil (.loop [0, 1, 12, 13] (.two .nil (.two .nil (.two (.two .nil (.two (.plan [0, 0, 3, 7, 0, 0, 48, 112, 255] (.q 0 (.q 1 (.q 2 (.q 3 (.q 4 (.q 5 (.q 6 (.q 7 (.q 8 .done)))))))))) .nil)) .nil))))) .nil))) [x0, x1] w R = T_slices_Equal_string_string x0 x1 w R := by kernel_rfl
theorem ok_slices_Equal_string_string {x0 x1 w : _} {R : Value → World → Prop} (h : T_slices_Equal_string_string x0 x1 w R) : Gv Try.prog 47 #[x0, x1] w R :=
  fn_of_D (fn := Try.f47) follows Try.func47 (by kernel_rfl) ((e_slices_Equal_string_string x0 x1 w R).symm ▸ h)

/-- (*nameplate/pack.Packer).ready -/
abbrev F_pack_Packer_ready : Nat := 48
def T_pack_Packer_ready (x0 : Value) (x1 : Value) (w : World) (R : Value → World → Prop) : Prop :=
Gv Try.prog 39 #[x0] w fun v1 w2 =>
pu Try.prog (bin .neq 24 false true v1 (.int .i64 0)) fun v3 =>
brV v3 (
R v1 w2) (
Gv Try.prog 68 #[x1] w2 fun v4 w5 =>
R v4 w5)
theorem e_pack_Packer_ready (x0 : Value) (x1 : Value) (w : World) (R : Value → World → Prop) : fnD Try.prog Try.f48 .nil [x0, x1] w R = T_pack_Packer_ready x0 x1 w R := by kernel_rfl
theorem ok_pack_Packer_ready {x0 x1 w : _} {R : Value → World → Prop} (h : T_pack_Packer_ready x0 x1 w R) : Gv Try.prog 48 #[x0, x1] w R :=
  fn_of_D (fn := Try.f48) follows Try.func48 (by kernel_rfl) ((e_pack_Packer_ready x0 x1 w R).symm ▸ h)

/-- (*nameplate/octets.Writer).Number -/
abbrev F_octets_Writer_Number : Nat := 49
def T_octets_Writer_Number (x0 : Value) (x1 : Value) (x2 : Value) (w : World) (R : Value → World → Prop) : Prop :=
Gv Try.prog 73 #[x0] w fun v1 w2 =>
pu Try.prog (bin .neq 24 false true v1 (.int .i64 0)) fun v3 =>
brV v3 (
R v1 w2) (
Gv Try.prog 82 #[x1, x2] w2 fun v4 w5 =>
pu Try.prog (Op.unary .not v4) fun v6 =>
brV v6 (
R (.int .i64 2) w5) (
Gv Try.prog 83 #[x1, x2] w5 fun v7 w8 =>
rd Try.prog (convert 34 9 v7) w8 fun v9 =>
Gv Try.prog 51 #[x0, v9] w8 fun v10 w11 =>
R v10 w11))
theorem e_octets_Writer_Number (x0 : Value) (x1 : Value) (x2 : Value) (w : World) (R : Value → World → Prop) : fnD Try.prog Try.f49 .nil [x0, x1, x2] w R = T_octets_Writer_Number x0 x1 x2 w R := by kernel_rfl
theorem ok_octets_Writer_Number {x0 x1 x2 w : _} {R : Value → World → Prop} (h : T_octets_Writer_Number x0 x1 x2 w R) : Gv Try.prog 49 #[x0, x1, x2] w R :=
  fn_of_D (fn := Try.f49) follows Try.func49 (by kernel_rfl) ((e_octets_Writer_Number x0 x1 x2 w R).symm ▸ h)

/-- (*nameplate/octets.Writer).Len -/
abbrev F_octets_Writer_Len : Nat := 50
def T_octets_Writer_Len (x0 : Value) (w : World) (R : Value → World → Prop) : Prop :=
pu Try.prog (bin .eql 70 false true x0 (.pointer none)) fun v1 =>
brV v1 (
R (.int .i64 0) w) (
nck x0 fun v2 =>
pu Try.prog (Instr.fieldAt 121 v2 0) fun v3 =>
rd Try.prog (Instr.loadAt 34 v3) w fun v4 =>
pu Try.prog (bltS .len #[34] 3 #[v4]) fun v5 =>
R v5 w)
theorem e_octets_Writer_Len (x0 : Value) (w : World) (R : Value → World → Prop) : fnD Try.prog Try.f50 .nil [x0] w R = T_octets_Writer_Len x0 w R := by kernel_rfl
theorem ok_octets_Writer_Len {x0 w : _} {R : Value → World → Prop} (h : T_octets_Writer_Len x0 w R) : Gv Try.prog 50 #[x0] w R :=
  fn_of_D (fn := Try.f50) follows Try.func50 (by kernel_rfl) ((e_octets_Writer_Len x0 w R).symm ▸ h)

/-- (*nameplate/octets.Writer).Put -/
abbrev F_octets_Writer_Put : Nat := 51
def T_octets_Writer_Put (x0 : Value) (x1 : Value) (w : World) (R : Value → World → Prop) : Prop :=
Gv Try.prog 73 #[x0] w fun v1 w2 =>
pu Try.prog (bin .neq 24 false true v1 (.int .i64 0)) fun v3 =>
brV v3 (
R v1 w2) (
dw w2 fun w4 =>
pu Try.prog (bltS .len #[9] 3 #[x1]) fun v5 =>
nck x0 fun v6 =>
pu Try.prog (Instr.fieldAt 121 v6 1) fun v7 =>
rd Try.prog (Instr.loadAt 3 v7) w4 fun v8 =>
nck x0 fun v9 =>
pu Try.prog (Instr.fieldAt 121 v9 0) fun v10 =>
rd Try.prog (Instr.loadAt 34 v10) w4 fun v11 =>
pu Try.prog (bltS .len #[34] 3 #[v11]) fun v12 =>
pu Try.prog (bin .sub 3 false false v8 v12) fun v13 =>
pu Try.prog (bin .gtr 3 false false v5 v13) fun v14 =>
brV v14 (
nck x0 fun v15 =>
pu Try.prog (Instr.fieldAt 121 v15 2) fun v16 =>
efU Try.prog (Instr.storeAt 24 v16 (.int .i64 3)) w4 fun w18 =>
nck x0 fun v19 =>
pu Try.prog (Instr.fieldAt 121 v19 2) fun v20 =>
rd Try.prog (Instr.loadAt 24 v20) w18 fun v21 =>
R v21 w18) (
nck x0 fun v22 =>
pu Try.prog (Instr.fieldAt 121 v22 0) fun v23 =>
rd Try.prog (Instr.loadAt 34 v23) w4 fun v24 =>
ef Try.prog (bltS .append #[34, 9] 34 #[v24, x1]) w4 fun v25 w26 =>
nck x0 fun v27 =>
pu Try.prog (Instr.fieldAt 121 v27 0) fun v28 =>
efU Try.prog (Instr.storeAt 34 v28 v25) w26 fun w30 =>
R (.int .i64 0) w30))
theorem e_octets_Writer_Put (x0 : Value) (x1 : Value) (w : World) (R : Value → World → Prop) : fnD Try.prog Try.f51 (.two .nil (.two .nil (.two (.two (.plan [0, 1, 0, 4, 12, 28, 0, 64, 192, 448, 960, 2044, 4095] (.q 0 (.q 1 (.q 2 (.q 3 (.q 4 (.q 5 (.q 6 (.q 7 (.q 8 (.q 9 (.q 10 (.q 11 (.q 12 .done)))))))))))))) .nil) .nil))) [x0, x1] w R = T_octets_Writer_Put x0 x1 w R := by kernel_rfl
theorem ok_octets_Writer_Put {x0 x1 w : _} {R : Value → World → Prop} (h : T_octets_Writer_Put x0 x1 w R) : Gv Try.prog 51 #[x0, x1] w R :=
  fn_of_D (fn := Try.f51) follows Try.func51 (by kernel_rfl) ((e_octets_Writer_Put x0 x1 w R).symm ▸ h)

/-- nameplate/rdata.types -/
abbrev F_rdata_types : Nat := 52
def T_rdata_types (w : World) (R : Value → World → Prop) : Prop :=
ef Try.prog (Instr.makeMap 98 none) w fun v1 w2 =>
pu Try.prog (Instr.build 78 #[(0, (.string { data := #[65] })), (1, (.int .i64 4))]) fun v3 =>
efU Try.prog (Instr.mapUpdate 98 v1 (.int .i64 1) v3) w2 fun w5 =>
pu Try.prog (Instr.build 78 #[(0, (.string { data := #[65, 65, 65, 65] })), (1, (.int .i64 16))]) fun v6 =>
efU Try.prog (Instr.mapUpdate 98 v1 (.int .i64 28) v6) w5 fun w8 =>
pu Try.prog (Instr.build 78 #[(0, (.string { data := #[78, 83] })), (2, (.int .i64 1))]) fun v9 =>
efU Try.prog (Instr.mapUpdate 98 v1 (.int .i64 2) v9) w8 fun w11 =>
pu Try.prog (Instr.build 78 #[(0, (.string { data := #[67, 78, 65, 77, 69] })), (2, (.int .i64 1))]) fun v12 =>
efU Try.prog (Instr.mapUpdate 98 v1 (.int .i64 5) v12) w11 fun w14 =>
pu Try.prog (Instr.build 78 #[(0, (.string { data := #[80, 84, 82] })), (2, (.int .i64 1))]) fun v15 =>
efU Try.prog (Instr.mapUpdate 98 v1 (.int .i64 12) v15) w14 fun w17 =>
pu Try.prog (Instr.build 78 #[(0, (.string { data := #[83, 79, 65] })), (2, (.int .i64 2)), (5, (.int .i64 5)), (6, (.int .i64 4))]) fun v18 =>
efU Try.prog (Instr.mapUpdate 98 v1 (.int .i64 6) v18) w17 fun w20 =>
pu Try.prog (Instr.build 78 #[(0, (.string { data := #[77, 88] })), (2, (.int .i64 1)), (5, (.int .i64 1)), (6, (.int .i64 2)), (4, (.bool true))]) fun v21 =>
efU Try.prog (Instr.mapUpdate 98 v1 (.int .i64 15) v21) w20 fun w23 =>
pu Try.prog (Instr.build 78 #[(0, (.string { data := #[83, 82, 86] })), (2, (.int .i64 1)), (5, (.int .i64 3)), (6, (.int .i64 2)), (4, (.bool true)), (3, (.bool true))]) fun v24 =>
efU Try.prog (Instr.mapUpdate 98 v1 (.int .i64 33) v24) w23 fun w26 =>
pu Try.prog (Instr.build 78 #[(0, (.string { data := #[84, 88, 84] })), (7, (.bool true))]) fun v27 =>
efU Try.prog (Instr.mapUpdate 98 v1 (.int .i64 16) v27) w26 fun w29 =>
pu Try.prog (Instr.build 78 #[(0, (.string { data := #[79, 80, 84] })), (8, (.bool true))]) fun v30 =>
efU Try.prog (Instr.mapUpdate 98 v1 (.int .i64 41) v30) w29 fun w32 =>
R v1 w32
theorem e_rdata_types (w : World) (R : Value → World → Prop) : fnD Try.prog Try.f52 .nil [] w R = T_rdata_types w R := by kernel_rfl
theorem ok_rdata_types { w : _} {R : Value → World → Prop} (h : T_rdata_types w R) : Gv Try.prog 52 #[] w R :=
  fn_of_D (fn := Try.f52) follows Try.func52 (by kernel_rfl) ((e_rdata_types w R).symm ▸ h)

/-- nameplate/record.at -/
abbrev F_record_at : Nat := 53
def T_record_at (x0 : Value) (x1 : Value) (w : World) (R : Value → World → Prop) : Prop :=
Gv Try.prog 41 #[x0] w fun v1 w2 =>
pu Try.prog (Instr.build 108 #[(0, x0), (1, v1)]) fun v3 =>
ef Try.prog (Instr.box 108 v3) w2 fun v4 w5 =>
nck v4 fun v6 =>
pu Try.prog (Instr.fieldAt 108 v6 1) fun v7 =>
rd Try.prog (Instr.loadAt 88 v7) w5 fun v8 =>
Gv Try.prog 42 #[v8, x1] w5 fun v9 w10 =>
nck v4 fun v11 =>
pu Try.prog (Instr.fieldAt 108 v11 2) fun v12 =>
efU Try.prog (Instr.storeAt 24 v12 v9) w10 fun w14 =>
R v4 w14
theorem e_record_at (x0 : Value) (x1 : Value) (w : World) (R : Value → World → Prop) : fnD Try.prog Try.f53 .nil [x0, x1] w R = T_record_at x0 x1 w R := by kernel_rfl
theorem ok_record_at {x0 x1 w : _} {R : Value → World → Prop} (h : T_record_at x0 x1 w R) : Gv Try.prog 53 #[x0, x1] w R :=
  fn_of_D (fn := Try.f53) follows Try.func53 (by kernel_rfl) ((e_record_at x0 x1 w R).symm ▸ h)

/-- (*nameplate/record.cursor).name -/
abbrev F_record_cursor_name : Nat := 54
def T_record_cursor_name (x0 : Value) (x1 : Value) (w : World) (R : Value → World → Prop) : Prop :=
nck x0 fun v1 =>
pu Try.prog (Instr.fieldAt 108 v1 2) fun v2 =>
rd Try.prog (Instr.loadAt 24 v2) w fun v3 =>
pu Try.prog (bin .neq 24 false true v3 (.int .i64 0)) fun v4 =>
brV v4 (
R x0 w) (
dw w fun w5 =>
nck x0 fun v6 =>
pu Try.prog (Instr.fieldAt 108 v6 0) fun v7 =>
rd Try.prog (Instr.loadAt 9 v7) w5 fun v8 =>
nck x0 fun v9 =>
pu Try.prog (Instr.fieldAt 108 v9 1) fun v10 =>
rd Try.prog (Instr.loadAt 88 v10) w5 fun v11 =>
Gv Try.prog 57 #[v11] w5 fun v12 w13 =>
rdV Try.prog (Instr.loadAt 9 v7) v8 w13 ∧ (Gv Try.prog 78 #[v8, v12] w13 fun v14 w15 =>
ext v14 0 fun v16 =>
ext v14 1 fun v17 =>
ext v14 2 fun v18 =>
nck x1 fun v19 =>
efU Try.prog (Instr.storeAt 29 v19 v16) w15 fun w21 =>
nck x0 fun v22 =>
pu Try.prog (Instr.fieldAt 108 v22 2) fun v23 =>
efU Try.prog (Instr.storeAt 24 v23 v18) w21 fun w25 =>
nck x0 fun v26 =>
pu Try.prog (Instr.fieldAt 108 v26 2) fun v27 =>
rd Try.prog (Instr.loadAt 24 v27) w25 fun v28 =>
pu Try.prog (bin .eql 24 false true v28 (.int .i64 0)) fun v29 =>
brV v29 (
nck x0 fun v30 =>
pu Try.prog (Instr.fieldAt 108 v30 1) fun v31 =>
rd Try.prog (Instr.loadAt 88 v31) w25 fun v32 =>
Gv Try.prog 42 #[v32, v17] w25 fun v33 w34 =>
nck x0 fun v35 =>
pu Try.prog (Instr.fieldAt 108 v35 2) fun v36 =>
efU Try.prog (Instr.storeAt 24 v36 v33) w34 fun w38 =>
R x0 w38) (
R x0 w25)))
theorem e_record_cursor_name (x0 : Value) (x1 : Value) (w : World) (R : Value → World → Prop) : fnD Try.prog Try.f54 (.two .nil (.two .nil (.two .nil (.two (.two (.plan [0, 0, 0, 4, 12, 28, 0, 64, 192, 448, 960, 2044, 4092, 8188, 8188, 8188, 16381, 81917, 229373, 524287, 1048575, 2097151] (.q 0 (.q 1 (.q 2 (.q 3 (.q 4 (.q 5 (.q 6 (.q 7 (.q 8 (.q 9 (.e 10 (.e 11 (.q 12 (.q 13 (.q 14 (.q 15 (.q 16 (.e 17 (.q 18 (.q 19 (.q 20 (.e 21 .done .nil)))) .nil)))))) .nil) .nil)))))))))))) .nil) .nil)))) [x0, x1] w R = T_record_cursor_name x0 x1 w R := by kernel_rfl
theorem ok_record_cursor_name {x0 x1 w : _} {R : Value → World → Prop} (h : T_record_cursor_name x0 x1 w R) : Gv Try.prog 54 #[x0, x1] w R :=
  fn_of_D (fn := Try.f54) follows Try.func54 (by kernel_rfl) ((e_record_cursor_name x0 x1 w R).symm ▸ h)

/-- (*nameplate/record.cursor).has -/
abbrev F_record_cursor_has : Nat := 55
def T_record_cursor_has (x0 : Value) (x1 : Value) (w : World) (R : Value → World → Prop) : Prop :=
nck x0 fun v1 =>
pu Try.prog (Instr.fieldAt 108 v1 2) fun v2 =>
rd Try.prog (Instr.loadAt 24 v2) w fun v3 =>
pu Try.prog (bin .eql 24 false true v3 (.int .i64 0)) fun v4 =>
brV v4 (
nck x0 fun v5 =>
pu Try.prog (Instr.fieldAt 108 v5 1) fun v6 =>
rd Try.prog (Instr.loadAt 88 v6) w fun v7 =>
Gv Try.prog 44 #[v7] w fun v8 w9 =>
pu Try.prog (bin .lss 3 false false v8 x1) fun v10 =>
brV v10 (
nck x0 fun v11 =>
pu Try.prog (Instr.fieldAt 108 v11 2) fun v12 =>
efU Try.prog (Instr.storeAt 24 v12 (.int .i64 8)) w9 fun w14 =>
R x0 w14) (
R x0 w9)) (
R x0 w)
theorem e_record_cursor_has (x0 : Value) (x1 : Value) (w : World) (R : Value → World → Prop) : fnD Try.prog Try.f55 .nil [x0, x1] w R = T_record_cursor_has x0 x1 w R := by kernel_rfl
theorem ok_record_cursor_has {x0 x1 w : _} {R : Value → World → Prop} (h : T_record_cursor_has x0 x1 w R) : Gv Try.prog 55 #[x0, x1] w R :=
  fn_of_D (fn := Try.f55) follows Try.func55 (by kernel_rfl) ((e_record_cursor_has x0 x1 w R).symm ▸ h)

/-- (*nameplate/record.cursor).number -/
abbrev F_record_cursor_number : Nat := 56
def T_record_cursor_number (x0 : Value) (x1 : Value) (x2 : Value) (w : World) (R : Value → World → Prop) : Prop :=
nck x0 fun v1 =>
pu Try.prog (Instr.fieldAt 108 v1 2) fun v2 =>
rd Try.prog (Instr.loadAt 24 v2) w fun v3 =>
pu Try.prog (bin .eql 24 false true v3 (.int .i64 0)) fun v4 =>
brV v4 (
nck x0 fun v5 =>
pu Try.prog (Instr.fieldAt 108 v5 1) fun v6 =>
rd Try.prog (Instr.loadAt 88 v6) w fun v7 =>
Gv Try.prog 84 #[v7, x1] w fun v8 w9 =>
ext v8 0 fun v10 =>
ext v8 1 fun v11 =>
nck x0 fun v12 =>
pu Try.prog (Instr.fieldAt 108 v12 2) fun v13 =>
efU Try.prog (Instr.storeAt 24 v13 v11) w9 fun w15 =>
pu Try.prog (convert 30 3 v10) fun v16 =>
nck x2 fun v17 =>
efU Try.prog (Instr.storeAt 3 v17 v16) w15 fun w19 =>
R x0 w19) (
R x0 w)
theorem e_record_cursor_number (x0 : Value) (x1 : Value) (x2 : Value) (w : World) (R : Value → World → Prop) : fnD Try.prog Try.f56 .nil [x0, x1, x2] w R = T_record_cursor_number x0 x1 x2 w R := by kernel_rfl
theorem ok_record_cursor_number {x0 x1 x2 w : _} {R : Value → World → Prop} (h : T_record_cursor_number x0 x1 x2 w R) : Gv Try.prog 56 #[x0, x1, x2] w R :=
  fn_of_D (fn := Try.f56) follows Try.func56 (by kernel_rfl) ((e_record_cursor_number x0 x1 x2 w R).symm ▸ h)

/-- (*nameplate/octets.Reader).At -/
abbrev F_octets_Reader_At : Nat := 57
def T_octets_Reader_At (x0 : Value) (w : World) (R : Value → World → Prop) : Prop :=
pu Try.prog (bin .eql 88 false true x0 (.pointer none)) fun v1 =>
brV v1 (
R (.int .i64 0) w) (
nck x0 fun v2 =>
pu Try.prog (Instr.fieldAt 127 v2 0) fun v3 =>
pu Try.prog (Instr.fieldAt 125 v3 1) fun v4 =>
rd Try.prog (Instr.loadAt 3 v4) w fun v5 =>
R v5 w)
theorem e_octets_Reader_At (x0 : Value) (w : World) (R : Value → World → Prop) : fnD Try.prog Try.f57 .nil [x0] w R = T_octets_Reader_At x0 w R := by kernel_rfl
theorem ok_octets_Reader_At {x0 w : _} {R : Value → World → Prop} (h : T_octets_Reader_At x0 w R) : Gv Try.prog 57 #[x0] w R :=
  fn_of_D (fn := Try.f57) follows Try.func57 (by kernel_rfl) ((e_octets_Reader_At x0 w R).symm ▸ h)

/-- nameplate/record.head -/
abbrev F_record_head : Nat := 58
def T_record_head (x0 : Value) (x1 : Value) (x2 : Value) (x3 : Value) (w : World) (R : Value → World → Prop) : Prop :=
Gv Try.prog 17 #[x0, x1] w fun v1 w2 =>
pu Try.prog (convert 3 30 x2) fun v3 =>
Gv Try.prog 37 #[x0, v3, (.int .i64 2)] w2 fun v4 w5 =>
pu Try.prog (convert 3 30 x3) fun v6 =>
Gv Try.prog 37 #[x0, v6, (.int .i64 2)] w5 fun v7 w8 =>
R (.tuple #[]) w8
theorem e_record_head (x0 : Value) (x1 : Value) (x2 : Value) (x3 : Value) (w : World) (R : Value → World → Prop) : fnD Try.prog Try.f58 .nil [x0, x1, x2, x3] w R = T_record_head x0 x1 x2 x3 w R := by kernel_rfl
theorem ok_record_head {x0 x1 x2 x3 w : _} {R : Value → World → Prop} (h : T_record_head x0 x1 x2 x3 w R) : Gv Try.prog 58 #[x0, x1, x2, x3] w R :=
  fn_of_D (fn := Try.f58) follows Try.func58 (by kernel_rfl) ((e_record_head x0 x1 x2 x3 w R).symm ▸ h)

/-- (*nameplate/pack.Packer).Begin -/
abbrev F_pack_Packer_Begin : Nat := 59
def T_pack_Packer_Begin (x0 : Value) (w : World) (R : Value → World → Prop) : Prop :=
pu Try.prog (bin .eql 35 false true x0 (.pointer none)) fun v1 =>
brV v1 (
R (.tuple #[(.int .i64 0), (.int .i64 1)]) w) (
nck x0 fun v2 =>
pu Try.prog (Instr.fieldAt 76 v2 0) fun v3 =>
rd Try.prog (Instr.loadAt 70 v3) w fun v4 =>
Gv Try.prog 50 #[v4] w fun v5 w6 =>
nck x0 fun v7 =>
pu Try.prog (Instr.fieldAt 76 v7 0) fun v8 =>
rd Try.prog (Instr.loadAt 70 v8) w6 fun v9 =>
Gv Try.prog 49 #[v9, (.int .u32 0), (.int .i64 2)] w6 fun v10 w11 =>
pu Try.prog (bin .neq 24 false true v10 (.int .i64 0)) fun v12 =>
brV v12 (
R (.tuple #[(.int .i64 0), v10]) w11) (
nck x0 fun v13 =>
pu Try.prog (Instr.fieldAt 76 v13 2) fun v14 =>
Gv Try.prog 85 #[v14, v5] w11 fun v15 w16 =>
R (.tuple #[v5, (.int .i64 0)]) w16))
theorem e_pack_Packer_Begin (x0 : Value) (w : World) (R : Value → World → Prop) : fnD Try.prog Try.f59 .nil [x0] w R = T_pack_Packer_Begin x0 w R := by kernel_rfl
theorem ok_pack_Packer_Begin {x0 w : _} {R : Value → World → Prop} (h : T_pack_Packer_Begin x0 w R) : Gv Try.prog 59 #[x0] w R :=
  fn_of_D (fn := Try.f59) follows Try.func59 (by kernel_rfl) ((e_pack_Packer_Begin x0 w R).symm ▸ h)

/-- (*nameplate/pack.Packer).End -/
abbrev F_pack_Packer_End : Nat := 60
def T_pack_Packer_End (x0 : Value) (x1 : Value) (w : World) (R : Value → World → Prop) : Prop :=
Gv Try.prog 39 #[x0] w fun v1 w2 =>
pu Try.prog (bin .neq 24 false true v1 (.int .i64 0)) fun v3 =>
brV v3 (
R v1 w2) (
nck x0 fun v4 =>
pu Try.prog (Instr.fieldAt 76 v4 2) fun v5 =>
Gv Try.prog 86 #[v5, x1] w2 fun v6 w7 =>
pu Try.prog (Op.unary .not v6) fun v8 =>
brV v8 (
R (.int .i64 9) w7) (
dw w7 fun w9 =>
nck x0 fun v10 =>
pu Try.prog (Instr.fieldAt 76 v10 0) fun v11 =>
rd Try.prog (Instr.loadAt 70 v11) w9 fun v12 =>
nck x0 fun v13 =>
pu Try.prog (Instr.fieldAt 76 v13 0) fun v14 =>
rd Try.prog (Instr.loadAt 70 v14) w9 fun v15 =>
Gv Try.prog 50 #[v15] w9 fun v16 w17 =>
rdV Try.prog (Instr.loadAt 70 v11) v12 w17 ∧ (pu Try.prog (bin .sub 3 false false v16 x1) fun v18 =>
pu Try.prog (bin .sub 3 false true v18 (.int .i64 2)) fun v19 =>
pu Try.prog (convert 3 30 v19) fun v20 =>
Gv Try.prog 87 #[v12, x1, v20, (.int .i64 2)] w17 fun v21 w22 =>
R v21 w22)))
theorem e_pack_Packer_End (x0 : Value) (x1 : Value) (w : World) (R : Value → World → Prop) : fnD Try.prog Try.f60 (.two .nil (.two .nil (.two .nil (.two (.plan [0, 1, 3, 7, 0, 0, 32, 96, 224, 480, 0, 2016, 4064, 8160, 16383, 32767] (.q 0 (.q 1 (.q 2 (.q 3 (.q 4 (.q 5 (.q 6 (.q 7 (.q 8 (.q 10 (.e 9 (.q 11 (.q 12 (.q 13 (.e 14 (.q 15 .done) .nil)))) .nil)))))))))))) .nil)))) [x0, x1] w R = T_pack_Packer_End x0 x1 w R := by kernel_rfl
theorem ok_pack_Packer_End {x0 x1 w : _} {R : Value → World → Prop} (h : T_pack_Packer_End x0 x1 w R) : Gv Try.prog 60 #[x0, x1] w R :=
  fn_of_D (fn := Try.f60) follows Try.func60 (by kernel_rfl) ((e_pack_Packer_End x0 x1 w R).symm ▸ h)

/-- nameplate/record.may -/
abbrev F_record_may : Nat := 61
def T_record_may (x0 : Value) (x1 : Value) (x2 : Value) (w : World) (R : Value → World → Prop) : Prop :=
Gv Try.prog 68 #[x0] w fun v1 w2 =>
pu Try.prog (bin .neq 24 false true v1 (.int .i64 0)) fun v3 =>
brV v3 (
R v1 w2) (
pu Try.prog (bltS .min #[3, 3] 3 #[x1, x2]) fun v4 =>
pu Try.prog (bin .lss 3 false true v4 (.int .i64 0)) fun v5 =>
brV v5 (
R (.int .i64 2) w2) (
pu Try.prog (bltS .max #[3, 3] 3 #[x1, x2]) fun v6 =>
pu Try.prog (bin .gtr 3 false true v6 (.int .i64 65535)) fun v7 =>
brV v7 (
R (.int .i64 2) w2) (
R (.int .i64 0) w2)))
theorem e_record_may (x0 : Value) (x1 : Value) (x2 : Value) (w : World) (R : Value → World → Prop) : fnD Try.prog Try.f61 .nil [x0, x1, x2] w R = T_record_may x0 x1 x2 w R := by kernel_rfl
theorem ok_record_may {x0 x1 x2 w : _} {R : Value → World → Prop} (h : T_record_may x0 x1 x2 w R) : Gv Try.prog 61 #[x0, x1, x2] w R :=
  fn_of_D (fn := Try.f61) follows Try.func61 (by kernel_rfl) ((e_record_may x0 x1 x2 w R).symm ▸ h)

/-- nameplate/pack.Size -/
abbrev F_pack_Size : Nat := 62
def T_pack_Size (x0 : Value) (w : World) (R : Value → World → Prop) : Prop :=
Gv Try.prog 68 #[x0] w fun v1 w2 =>
pu Try.prog (bin .neq 24 false true v1 (.int .i64 0)) fun v3 =>
brV v3 (
R (.int .i64 0) w2) (
pu Try.prog (bltS .len #[29] 3 #[x0]) fun v4 =>
pu Try.prog (bin .add 3 false true v4 (.int .i64 1)) fun v5 =>
R v5 w2)
theorem e_pack_Size (x0 : Value) (w : World) (R : Value → World → Prop) : fnD Try.prog Try.f62 .nil [x0] w R = T_pack_Size x0 w R := by kernel_rfl
theorem ok_pack_Size {x0 w : _} {R : Value → World → Prop} (h : T_pack_Size x0 w R) : Gv Try.prog 62 #[x0] w R :=
  fn_of_D (fn := Try.f62) follows Try.func62 (by kernel_rfl) ((e_pack_Size x0 w R).symm ▸ h)

/-- cmp.Or[int] -/
abbrev F_cmp_Or_int : Nat := 63
def T_cmp_Or_int (x0 : Value) (w : World) (R : Value → World → Prop) : Prop :=
pu Try.prog (bltS .len #[66] 3 #[x0]) fun v1 =>
LoopL [3, 6, 7, 8] (fun ρ3 w4 N2 =>
pu Try.prog (bin .lss 3 false false (ρ3 8) (ρ3 7)) fun v5 =>
brV v5 (
pu Try.prog (Instr.indexAt 66 (ρ3 6) (ρ3 8)) fun v6 =>
rd Try.prog (Instr.loadAt 3 v6) w4 fun v7 =>
pu Try.prog (bin .neq 3 false false v7 (ρ3 3)) fun v8 =>
brV v8 (
R v7 w4) (
pu Try.prog (bin .add 3 false true (ρ3 8) (.int .i64 1)) fun v9 =>
N2 [(ρ3 3), (ρ3 6), (ρ3 7), v9] w4)) (
R (ρ3 3) w4)) [(.int .i64 0), x0, v1, (.int .i64 0)] w
theorem e_cmp_Or_int (x0 : Value) (w : World) (R : Value → World → Prop) : fnD Try.prog Try.f63 (.two .nil (.two .nil (.two (.two .nil (.loop [3, 6, 7, 8] .nil)) .nil))) [x0] w R = T_cmp_Or_int x0 w R := by kernel_rfl
theorem ok_cmp_Or_int {x0 w : _} {R : Value → World → Prop} (h : T_cmp_Or_int x0 w R) : Gv Try.prog 63 #[x0] w R :=
  fn_of_D (fn := Try.f63) follows Try.func63 (by kernel_rfl) ((e_cmp_Or_int x0 w R).symm ▸ h)

/-- cmp.Compare[nameplate/api.Name] -/
abbrev F_cmp_Compare_api_Name : Nat := 64
def T_cmp_Compare_api_Name (x0 : Value) (x1 : Value) (w : World) (R : Value → World → Prop) : Prop :=
Gv Try.prog 88 #[x0] w fun v1 w2 =>
Gv Try.prog 88 #[x1] w2 fun v3 w4 =>
brV v1 (
brV v3 (
R (.int .i64 0) w4) (
R (.int .i64 (-1)) w4)) (
brV v3 (
R (.int .i64 1) w4) (
pu Try.prog (bin .lss 29 false false x0 x1) fun v5 =>
brV v5 (
R (.int .i64 (-1)) w4) (
pu Try.prog (bin .gtr 29 false false x0 x1) fun v6 =>
brV v6 (
R (.int .i64 1) w4) (
R (.int .i64 0) w4))))
theorem e_cmp_Compare_api_Name (x0 : Value) (x1 : Value) (w : World) (R : Value → World → Prop) : fnD Try.prog Try.f64 .nil [x0, x1] w R = T_cmp_Compare_api_Name x0 x1 w R := by kernel_rfl
theorem ok_cmp_Compare_api_Name {x0 x1 w : _} {R : Value → World → Prop} (h : T_cmp_Compare_api_Name x0 x1 w R) : Gv Try.prog 64 #[x0, x1] w R :=
  fn_of_D (fn := Try.f64) follows Try.func64 (by kernel_rfl) ((e_cmp_Compare_api_Name x0 x1 w R).symm ▸ h)

/-- cmp.Compare[int] -/
abbrev F_cmp_Compare_int : Nat := 65
def T_cmp_Compare_int (x0 : Value) (x1 : Value) (w : World) (R : Value → World → Prop) : Prop :=
Gv Try.prog 89 #[x0] w fun v1 w2 =>
Gv Try.prog 89 #[x1] w2 fun v3 w4 =>
brV v1 (
brV v3 (
R (.int .i64 0) w4) (
R (.int .i64 (-1)) w4)) (
brV v3 (
R (.int .i64 1) w4) (
pu Try.prog (bin .lss 3 false false x0 x1) fun v5 =>
brV v5 (
R (.int .i64 (-1)) w4) (
pu Try.prog (bin .gtr 3 false false x0 x1) fun v6 =>
brV v6 (
R (.int .i64 1) w4) (
R (.int .i64 0) w4))))
theorem e_cmp_Compare_int (x0 : Value) (x1 : Value) (w : World) (R : Value → World → Prop) : fnD Try.prog Try.f65 .nil [x0, x1] w R = T_cmp_Compare_int x0 x1 w R := by kernel_rfl
theorem ok_cmp_Compare_int {x0 x1 w : _} {R : Value → World → Prop} (h : T_cmp_Compare_int x0 x1 w R) : Gv Try.prog 65 #[x0, x1] w R :=
  fn_of_D (fn := Try.f65) follows Try.func65 (by kernel_rfl) ((e_cmp_Compare_int x0 x1 w R).symm ▸ h)

/-- cmp.Compare[uint32] -/
abbrev F_cmp_Compare_uint32 : Nat := 66
def T_cmp_Compare_uint32 (x0 : Value) (x1 : Value) (w : World) (R : Value → World → Prop) : Prop :=
Gv Try.prog 90 #[x0] w fun v1 w2 =>
Gv Try.prog 90 #[x1] w2 fun v3 w4 =>
brV v1 (
brV v3 (
R (.int .i64 0) w4) (
R (.int .i64 (-1)) w4)) (
brV v3 (
R (.int .i64 1) w4) (
pu Try.prog (bin .lss 30 false false x0 x1) fun v5 =>
brV v5 (
R (.int .i64 (-1)) w4) (
pu Try.prog (bin .gtr 30 false false x0 x1) fun v6 =>
brV v6 (
R (.int .i64 1) w4) (
R (.int .i64 0) w4))))
theorem e_cmp_Compare_uint32 (x0 : Value) (x1 : Value) (w : World) (R : Value → World → Prop) : fnD Try.prog Try.f66 .nil [x0, x1] w R = T_cmp_Compare_uint32 x0 x1 w R := by kernel_rfl
theorem ok_cmp_Compare_uint32 {x0 x1 w : _} {R : Value → World → Prop} (h : T_cmp_Compare_uint32 x0 x1 w R) : Gv Try.prog 66 #[x0, x1] w R :=
  fn_of_D (fn := Try.f66) follows Try.func66 (by kernel_rfl) ((e_cmp_Compare_uint32 x0 x1 w R).symm ▸ h)

/-- (nameplate/rdata.what).bare -/
abbrev F_rdata_what_bare : Nat := 67
def T_rdata_what_bare (x0 : Value) (x1 : Value) (w : World) (R : Value → World → Prop) : Prop :=
ef Try.prog (Instr.box 78 x0) w fun v1 w2 =>
ef Try.prog (Instr.box 33 x1) w2 fun v3 w4 =>
CutL [2, 3, 43] (fun J5 =>
pu Try.prog (Instr.fieldAt 78 v1 2) fun v8 =>
rd Try.prog (Instr.loadAt 3 v8) w4 fun v9 =>
pu Try.prog (bin .lss 3 false true v9 (.int .i64 1)) fun v10 =>
brV v10 (
pu Try.prog (Instr.fieldAt 33 v3 1) fun v11 =>
rd Try.prog (Instr.loadAt 29 v11) w4 fun v12 =>
pu Try.prog (bin .neq 29 false true v12 (.string { data := #[] })) fun v13 =>
brV v13 (
J5 [v1, v3, (.bool true)] w4) (
pu Try.prog (Instr.fieldAt 78 v1 2) fun v14 =>
rd Try.prog (Instr.loadAt 3 v14) w4 fun v15 =>
pu Try.prog (bin .lss 3 false true v15 (.int .i64 2)) fun v16 =>
brV v16 (
pu Try.prog (Instr.fieldAt 33 v3 2) fun v17 =>
rd Try.prog (Instr.loadAt 29 v17) w4 fun v18 =>
pu Try.prog (bin .neq 29 false true v18 (.string { data := #[] })) fun v19 =>
brV v19 (
J5 [v1, v3, (.bool true)] w4) (
pu Try.prog (Instr.fieldAt 78 v1 8) fun v20 =>
rd Try.prog (Instr.loadAt 4 v20) w4 fun v21 =>
pu Try.prog (Op.unary .not v21) fun v22 =>
brV v22 (
pu Try.prog (Instr.fieldAt 33 v3 5) fun v23 =>
rd Try.prog (Instr.loadAt 9 v23) w4 fun v24 =>
pu Try.prog (bin .neq 9 false true v24 (.string { data := #[] })) fun v25 =>
brV v25 (
J5 [v1, v3, (.bool true)] w4) (
pu Try.prog (Instr.fieldAt 78 v1 7) fun v26 =>
rd Try.prog (Instr.loadAt 4 v26) w4 fun v27 =>
pu Try.prog (Instr.fieldAt 33 v3 4) fun v28 =>
rd Try.prog (Instr.loadAt 22 v28) w4 fun v29 =>
pu Try.prog (bltS .len #[22] 3 #[v29]) fun v30 =>
pu Try.prog (bin .gtr 3 false true v30 (.int .i64 0)) fun v31 =>
pu Try.prog (bin .neq 4 false false v27 v31) fun v32 =>
J5 [v1, v3, v32] w4)) (
pu Try.prog (Instr.fieldAt 78 v1 7) fun v33 =>
rd Try.prog (Instr.loadAt 4 v33) w4 fun v34 =>
pu Try.prog (Instr.fieldAt 33 v3 4) fun v35 =>
rd Try.prog (Instr.loadAt 22 v35) w4 fun v36 =>
pu Try.prog (bltS .len #[22] 3 #[v36]) fun v37 =>
pu Try.prog (bin .gtr 3 false true v37 (.int .i64 0)) fun v38 =>
pu Try.prog (bin .neq 4 false false v34 v38) fun v39 =>
J5 [v1, v3, v39] w4))) (
pu Try.prog (Instr.fieldAt 78 v1 8) fun v40 =>
rd Try.prog (Instr.loadAt 4 v40) w4 fun v41 =>
pu Try.prog (Op.unary .not v41) fun v42 =>
brV v42 (
pu Try.prog (Instr.fieldAt 33 v3 5) fun v43 =>
rd Try.prog (Instr.loadAt 9 v43) w4 fun v44 =>
pu Try.prog (bin .neq 9 false true v44 (.string { data := #[] })) fun v45 =>
brV v45 (
J5 [v1, v3, (.bool true)] w4) (
pu Try.prog (Instr.fieldAt 78 v1 7) fun v46 =>
rd Try.prog (Instr.loadAt 4 v46) w4 fun v47 =>
pu Try.prog (Instr.fieldAt 33 v3 4) fun v48 =>
rd Try.prog (Instr.loadAt 22 v48) w4 fun v49 =>
pu Try.prog (bltS .len #[22] 3 #[v49]) fun v50 =>
pu Try.prog (bin .gtr 3 false true v50 (.int .i64 0)) fun v51 =>
pu Try.prog (bin .neq 4 false false v47 v51) fun v52 =>
J5 [v1, v3, v52] w4)) (
pu Try.prog (Instr.fieldAt 78 v1 7) fun v53 =>
rd Try.prog (Instr.loadAt 4 v53) w4 fun v54 =>
pu Try.prog (Instr.fieldAt 33 v3 4) fun v55 =>
rd Try.prog (Instr.loadAt 22 v55) w4 fun v56 =>
pu Try.prog (bltS .len #[22] 3 #[v56]) fun v57 =>
pu Try.prog (bin .gtr 3 false true v57 (.int .i64 0)) fun v58 =>
pu Try.prog (bin .neq 4 false false v54 v58) fun v59 =>
J5 [v1, v3, v59] w4)))) (
pu Try.prog (Instr.fieldAt 78 v1 2) fun v60 =>
rd Try.prog (Instr.loadAt 3 v60) w4 fun v61 =>
pu Try.prog (bin .lss 3 false true v61 (.int .i64 2)) fun v62 =>
brV v62 (
pu Try.prog (Instr.fieldAt 33 v3 2) fun v63 =>
rd Try.prog (Instr.loadAt 29 v63) w4 fun v64 =>
pu Try.prog (bin .neq 29 false true v64 (.string { data := #[] })) fun v65 =>
brV v65 (
J5 [v1, v3, (.bool true)] w4) (
pu Try.prog (Instr.fieldAt 78 v1 8) fun v66 =>
rd Try.prog (Instr.loadAt 4 v66) w4 fun v67 =>
pu Try.prog (Op.unary .not v67) fun v68 =>
brV v68 (
pu Try.prog (Instr.fieldAt 33 v3 5) fun v69 =>
rd Try.prog (Instr.loadAt 9 v69) w4 fun v70 =>
pu Try.prog (bin .neq 9 false true v70 (.string { data := #[] })) fun v71 =>
brV v71 (
J5 [v1, v3, (.bool true)] w4) (
pu Try.prog (Instr.fieldAt 78 v1 7) fun v72 =>
rd Try.prog (Instr.loadAt 4 v72) w4 fun v73 =>
pu Try.prog (Instr.fieldAt 33 v3 4) fun v74 =>
rd Try.prog (Instr.loadAt 22 v74) w4 fun v75 =>
pu Try.prog (bltS .len #[22] 3 #[v75]) fun v76 =>
pu Try.prog (bin .gtr 3 false true v76 (.int .i64 0)) fun v77 =>
pu Try.prog (bin .neq 4 false false v73 v77) fun v78 =>
J5 [v1, v3, v78] w4)) (
pu Try.prog (Instr.fieldAt 78 v1 7) fun v79 =>
rd Try.prog (Instr.loadAt 4 v79) w4 fun v80 =>
pu Try.prog (Instr.fieldAt 33 v3 4) fun v81 =>
rd Try.prog (Instr.loadAt 22 v81) w4 fun v82 =>
pu Try.prog (bltS .len #[22] 3 #[v82]) fun v83 =>
pu Try.prog (bin .gtr 3 false true v83 (.int .i64 0)) fun v84 =>
pu Try.prog (bin .neq 4 false false v80 v84) fun v85 =>
J5 [v1, v3, v85] w4))) (
pu Try.prog (Instr.fieldAt 78 v1 8) fun v86 =>
rd Try.prog (Instr.loadAt 4 v86) w4 fun v87 =>
pu Try.prog (Op.unary .not v87) fun v88 =>
brV v88 (
pu Try.prog (Instr.fieldAt 33 v3 5) fun v89 =>
rd Try.prog (Instr.loadAt 9 v89) w4 fun v90 =>
pu Try.prog (bin .neq 9 false true v90 (.string { data := #[] })) fun v91 =>
brV v91 (
J5 [v1, v3, (.bool true)] w4) (
pu Try.prog (Instr.fieldAt 78 v1 7) fun v92 =>
rd Try.prog (Instr.loadAt 4 v92) w4 fun v93 =>
pu Try.prog (Instr.fieldAt 33 v3 4) fun v94 =>
rd Try.prog (Instr.loadAt 22 v94) w4 fun v95 =>
pu Try.prog (bltS .len #[22] 3 #[v95]) fun v96 =>
pu Try.prog (bin .gtr 3 false true v96 (.int .i64 0)) fun v97 =>
pu Try.prog (bin .neq 4 false false v93 v97) fun v98 =>
J5 [v1, v3, v98] w4)) (
pu Try.prog (Instr.fieldAt 78 v1 7) fun v99 =>
rd Try.prog (Instr.loadAt 4 v99) w4 fun v100 =>
pu Try.prog (Instr.fieldAt 33 v3 4) fun v101 =>
rd Try.prog (Instr.loadAt 22 v101) w4 fun v102 =>
pu Try.prog (bltS .len #[22] 3 #[v102]) fun v103 =>
pu Try.prog (bin .gtr 3 false true v103 (.int .i64 0)) fun v104 =>
pu Try.prog (bin .neq 4 false false v100 v104) fun v105 =>
J5 [v1, v3, v105] w4)))) (fun ρ6 w7 =>
brV (ρ6 43) (
R (.bool false) w7) (
CutL [2, 3, 44] (fun J106 =>
pu Try.prog (Instr.fieldAt 78 (ρ6 2) 1) fun v109 =>
rd Try.prog (Instr.loadAt 3 v109) w7 fun v110 =>
pu Try.prog (bin .eql 3 false true v110 (.int .i64 0)) fun v111 =>
brV v111 (
pu Try.prog (Instr.fieldAt 33 (ρ6 3) 0) fun v112 =>
rd Try.prog (Instr.loadAt 28 v112) w7 fun v113 =>
pu Try.prog (Instr.build 28 #[]) fun v114 =>
pu Try.prog (bin .neq 28 false false v113 v114) fun v115 =>
J106 [(ρ6 2), (ρ6 3), v115] w7) (
J106 [(ρ6 2), (ρ6 3), (.bool false)] w7)) (fun ρ107 w108 =>
brV (ρ107 44) (
R (.bool false) w108) (
CutL [2, 3, 54] (fun J116 =>
pu Try.prog (Instr.fieldAt 78 (ρ107 2) 1) fun v119 =>
rd Try.prog (Instr.loadAt 3 v119) w108 fun v120 =>
pu Try.prog (bin .gtr 3 false true v120 (.int .i64 0)) fun v121 =>
brV v121 (
pu Try.prog (Instr.fieldAt 33 (ρ107 3) 0) fun v122 =>
rd Try.prog (Instr.loadAt 28 v122) w108 fun v123 =>
Gv Try.prog 71 #[v123] w108 fun v124 w125 =>
pu Try.prog (bin .neq 24 false true v124 (.int .i64 0)) fun v126 =>
brV v126 (
J116 [(ρ107 2), (ρ107 3), (.bool true)] w125) (
pu Try.prog (Instr.fieldAt 33 (ρ107 3) 0) fun v127 =>
pu Try.prog (Instr.fieldAt 28 v127 0) fun v128 =>
rd Try.prog (Instr.loadAt 4 v128) w125 fun v129 =>
pu Try.prog (Instr.fieldAt 78 (ρ107 2) 1) fun v130 =>
rd Try.prog (Instr.loadAt 3 v130) w125 fun v131 =>
pu Try.prog (bin .eql 3 false true v131 (.int .i64 16)) fun v132 =>
pu Try.prog (bin .neq 4 false false v129 v132) fun v133 =>
J116 [(ρ107 2), (ρ107 3), v133] w125)) (
J116 [(ρ107 2), (ρ107 3), (.bool false)] w108)) (fun ρ117 w118 =>
brV (ρ117 54) (
R (.bool false) w118) (
pu Try.prog (Instr.fieldAt 33 (ρ117 3) 3) fun v134 =>
rd Try.prog (Instr.loadAt 31 v134) w118 fun v135 =>
LoopL [2, 74, 75] (fun ρ137 w138 N136 =>
pu Try.prog (bin .lss 3 false true (ρ137 75) (.int .i64 5)) fun v139 =>
brV v139 (
pu Try.prog (Instr.index 31 (ρ137 74) (ρ137 75)) fun v140 =>
CutL [2, 74, 75, 95] (fun J141 =>
pu Try.prog (Instr.fieldAt 78 (ρ137 2) 5) fun v144 =>
rd Try.prog (Instr.loadAt 3 v144) w138 fun v145 =>
pu Try.prog (bin .geq 3 false false (ρ137 75) v145) fun v146 =>
brV v146 (
pu Try.prog (bin .neq 30 false true v140 (.int .u32 0)) fun v147 =>
brV v147 (
J141 [(ρ137 2), (ρ137 74), (ρ137 75), (.bool true)] w138) (
pu Try.prog (Instr.fieldAt 78 (ρ137 2) 6) fun v148 =>
rd Try.prog (Instr.loadAt 3 v148) w138 fun v149 =>
pu Try.prog (bin .eql 3 false true v149 (.int .i64 2)) fun v150 =>
brV v150 (
pu Try.prog (bin .gtr 30 false true v140 (.int .u32 65535)) fun v151 =>
J141 [(ρ137 2), (ρ137 74), (ρ137 75), v151] w138) (
J141 [(ρ137 2), (ρ137 74), (ρ137 75), (.bool false)] w138))) (
pu Try.prog (Instr.fieldAt 78 (ρ137 2) 6) fun v152 =>
rd Try.prog (Instr.loadAt 3 v152) w138 fun v153 =>
pu Try.prog (bin .eql 3 false true v153 (.int .i64 2)) fun v154 =>
brV v154 (
pu Try.prog (bin .gtr 30 false true v140 (.int .u32 65535)) fun v155 =>
J141 [(ρ137 2), (ρ137 74), (ρ137 75), v155] w138) (
J141 [(ρ137 2), (ρ137 74), (ρ137 75), (.bool false)] w138))) (fun ρ142 w143 =>
brV (ρ142 95) (
R (.bool false) w143) (
pu Try.prog (bin .add 3 false true (ρ142 75) (.int .i64 1)) fun v156 =>
N136 [(ρ142 2), (ρ142 74), v156] w143))) (
R (.bool true) w138)) [(ρ117 2), v135, (.int .i64 0)] w118))))))
theorem e_rdata_what_bare (x0 : Value) (x1 : Value) (w : World) (R : Value → World → Prop) : fnD Try.prog Try.f67 (.two .nil (.two (.cut [2, 3, 43] .nil .nil) (.two (.cut [2, 3, 44] .nil (.two .nil (.cut [2, 3, 54] .nil .nil))) (.two (.two .nil (.loop [2, 74, 75] (.two .nil (.two .nil (.two (.two .nil (.cut [2, 74, 75, 95] .nil .nil)) .nil))))) .nil)))) [x0, x1] w R = T_rdata_what_bare x0 x1 w R := by kernel_rfl
theorem ok_rdata_what_bare {x0 x1 w : _} {R : Value → World → Prop} (h : T_rdata_what_bare x0 x1 w R) : Gv Try.prog 67 #[x0, x1] w R :=
  fn_of_D (fn := Try.f67) follows Try.func67 (by kernel_rfl) ((e_rdata_what_bare x0 x1 w R).symm ▸ h)

/-- nameplate/name.Check -/
abbrev F_name_Check : Nat := 68
def T_name_Check (x0 : Value) (w : World) (R : Value → World → Prop) : Prop :=
pu Try.prog (bltS .len #[29] 3 #[x0]) fun v1 =>
pu Try.prog (bin .gtr 3 false true v1 (.int .i64 254)) fun v2 =>
brV v2 (
R (.int .i64 3) w) (
LoopL [0] (fun ρ4 w5 N3 =>
pu Try.prog (bin .neq 29 false true (ρ4 0) (.string { data := #[] })) fun v6 =>
brV v6 (
Gv Try.prog 91 #[(ρ4 0)] w5 fun v7 w8 =>
ext v7 0 fun v9 =>
ext v7 1 fun v10 =>
ext v7 2 fun v11 =>
pu Try.prog (Op.unary .not v11) fun v12 =>
brV v12 (
R (.int .i64 4) w8) (
N3 [v10] w8)) (
R (.int .i64 0) w5)) [x0] w)
theorem e_name_Check (x0 : Value) (w : World) (R : Value → World → Prop) : fnD Try.prog Try.f68 (.two .nil (.two .nil (.two (.loop [0] .nil) .nil))) [x0] w R = T_name_Check x0 w R := by kernel_rfl
theorem ok_name_Check {x0 w : _} {R : Value → World → Prop} (h : T_name_Check x0 w R) : Gv Try.prog 68 #[x0] w R :=
  fn_of_D (fn := Try.f68) follows Try.func68 (by kernel_rfl) ((e_name_Check x0 w R).symm ▸ h)

/-- slices.ContainsFunc[[]string,string] -/
abbrev F_slices_ContainsFunc_string_string : Nat := 69
def T_slices_ContainsFunc_string_string (x0 : Value) (x1 : Value) (w : World) (R : Value → World → Prop) : Prop :=
Gv Try.prog 92 #[x0, x1] w fun v1 w2 =>
pu Try.prog (bin .geq 3 false true v1 (.int .i64 0)) fun v3 =>
R v3 w2
theorem e_slices_ContainsFunc_string_string (x0 : Value) (x1 : Value) (w : World) (R : Value → World → Prop) : fnD Try.prog Try.f69 .nil [x0, x1] w R = T_slices_ContainsFunc_string_string x0 x1 w R := by kernel_rfl
theorem ok_slices_ContainsFunc_string_string {x0 x1 w : _} {R : Value → World → Prop} (h : T_slices_ContainsFunc_string_string x0 x1 w R) : Gv Try.prog 69 #[x0, x1] w R :=
  fn_of_D (fn := Try.f69) follows Try.func69 (by kernel_rfl) ((e_slices_ContainsFunc_string_string x0 x1 w R).symm ▸ h)

/-- nameplate/rdata.check$1 -/
abbrev F_rdata_check_1 : Nat := 70
def T_rdata_check_1 (x0 : Value) (w : World) (R : Value → World → Prop) : Prop :=
pu Try.prog (bltS .len #[9] 3 #[x0]) fun v1 =>
pu Try.prog (bin .gtr 3 false true v1 (.int .i64 255)) fun v2 =>
R v2 w
theorem e_rdata_check_1 (x0 : Value) (w : World) (R : Value → World → Prop) : fnD Try.prog Try.f70 .nil [x0] w R = T_rdata_check_1 x0 w R := by kernel_rfl
theorem ok_rdata_check_1 {x0 w : _} {R : Value → World → Prop} (h : T_rdata_check_1 x0 w R) : Gv Try.prog 70 #[x0] w R :=
  fn_of_D (fn := Try.f70) follows Try.func70 (by kernel_rfl) ((e_rdata_check_1 x0 w R).symm ▸ h)

/-- nameplate/addr.Check -/
abbrev F_addr_Check : Nat := 71
def T_addr_Check (x0 : Value) (w : World) (R : Value → World → Prop) : Prop :=
ef Try.prog (Instr.box 28 x0) w fun v1 w2 =>
pu Try.prog (Instr.fieldAt 28 v1 0) fun v3 =>
rd Try.prog (Instr.loadAt 4 v3) w2 fun v4 =>
pu Try.prog (Op.unary .not v4) fun v5 =>
brV v5 (
pu Try.prog (Instr.fieldAt 28 v1 1) fun v6 =>
rd Try.prog (Instr.loadAt 26 v6) w2 fun v7 =>
pu Try.prog (bin .neq 26 false true v7 (.int .u64 0)) fun v8 =>
brV v8 (
R (.int .i64 2) w2) (
pu Try.prog (Instr.fieldAt 28 v1 2) fun v9 =>
rd Try.prog (Instr.loadAt 26 v9) w2 fun v10 =>
pu Try.prog (bin .shr 26 false true v10 (.int .u64 32)) fun v11 =>
pu Try.prog (bin .neq 26 false true v11 (.int .u64 0)) fun v12 =>
brV v12 (
R (.int .i64 2) w2) (
R (.int .i64 0) w2))) (
R (.int .i64 0) w2)
theorem e_addr_Check (x0 : Value) (w : World) (R : Value → World → Prop) : fnD Try.prog Try.f71 .nil [x0] w R = T_addr_Check x0 w R := by kernel_rfl
theorem ok_addr_Check {x0 w : _} {R : Value → World → Prop} (h : T_addr_Check x0 w R) : Gv Try.prog 71 #[x0] w R :=
  fn_of_D (fn := Try.f71) follows Try.func71 (by kernel_rfl) ((e_addr_Check x0 w R).symm ▸ h)

/-- nameplate/addr.parted -/
abbrev F_addr_parted : Nat := 72
def T_addr_parted (x0 : Value) (x1 : Value) (x2 : Value) (w : World) (R : Value → World → Prop) : Prop :=
pu Try.prog (bin .sub 3 false true x2 (.int .i64 1)) fun v1 =>
LoopL [0, 1, 7] (fun ρ3 w4 N2 =>
pu Try.prog (bin .geq 3 false true (ρ3 7) (.int .i64 0)) fun v5 =>
brV v5 (
pu Try.prog (bin .mul 3 true false (.int .i64 8) (ρ3 7)) fun v6 =>
pu Try.prog (bin .shr 26 false false (ρ3 1) v6) fun v7 =>
pu Try.prog (convert 26 5 v7) fun v8 =>
ef Try.prog (Instr.buildSlice 34 1 #[(0, v8)]) w4 fun v9 w10 =>
ef Try.prog (bltS .append #[34, 34] 34 #[(ρ3 0), v9]) w10 fun v11 w12 =>
pu Try.prog (bin .sub 3 false true (ρ3 7) (.int .i64 1)) fun v13 =>
N2 [v11, (ρ3 1), v13] w12) (
R (ρ3 0) w4)) [x0, x1, v1] w
theorem e_addr_parted (x0 : Value) (x1 : Value) (x2 : Value) (w : World) (R : Value → World → Prop) : fnD Try.prog Try.f72 (.two .nil (.two (.two .nil (.loop [0, 1, 7] .nil)) .nil)) [x0, x1, x2] w R = T_addr_parted x0 x1 x2 w R := by kernel_rfl
theorem ok_addr_parted {x0 x1 x2 w : _} {R : Value → World → Prop} (h : T_addr_parted x0 x1 x2 w R) : Gv Try.prog 72 #[x0, x1, x2] w R :=
  fn_of_D (fn := Try.f72) follows Try.func72 (by kernel_rfl) ((e_addr_parted x0 x1 x2 w R).symm ▸ h)

/-- (*nameplate/octets.Writer).Err -/
abbrev F_octets_Writer_Err : Nat := 73
def T_octets_Writer_Err (x0 : Value) (w : World) (R : Value → World → Prop) : Prop :=
pu Try.prog (bin .eql 70 false true x0 (.pointer none)) fun v1 =>
brV v1 (
R (.int .i64 1) w) (
nck x0 fun v2 =>
pu Try.prog (Instr.fieldAt 121 v2 2) fun v3 =>
rd Try.prog (Instr.loadAt 24 v3) w fun v4 =>
R v4 w)
theorem e_octets_Writer_Err (x0 : Value) (w : World) (R : Value → World → Prop) : fnD Try.prog Try.f73 .nil [x0] w R = T_octets_Writer_Err x0 w R := by kernel_rfl
theorem ok_octets_Writer_Err {x0 w : _} {R : Value → World → Prop} (h : T_octets_Writer_Err x0 w R) : Gv Try.prog 73 #[x0] w R :=
  fn_of_D (fn := Try.f73) follows Try.func73 (by kernel_rfl) ((e_octets_Writer_Err x0 w R).symm ▸ h)

/-- nameplate/addr.Of -/
abbrev F_addr_Of : Nat := 74
def T_addr_Of (x0 : Value) (w : World) (R : Value → World → Prop) : Prop :=
ef Try.prog (Instr.alloc 28 true (.tuple #[])) w fun v1 w2 =>
ef Try.prog (convert 9 34 x0) w2 fun v3 w4 =>
pu Try.prog (bltS .len #[34] 3 #[v3]) fun v5 =>
pu Try.prog (bin .eql 3 false true v5 (.int .i64 4)) fun v6 =>
brV v6 (
dw w4 fun w7 =>
pu Try.prog (Instr.indexAt 34 v3 (.int .i64 0)) fun v8 =>
rd Try.prog (Instr.loadAt 5 v8) w7 fun v9 =>
pu Try.prog (Instr.indexAt 34 v3 (.int .i64 1)) fun v10 =>
rd Try.prog (Instr.loadAt 5 v10) w7 fun v11 =>
pu Try.prog (Instr.indexAt 34 v3 (.int .i64 2)) fun v12 =>
rd Try.prog (Instr.loadAt 5 v12) w7 fun v13 =>
pu Try.prog (Instr.indexAt 34 v3 (.int .i64 3)) fun v14 =>
rd Try.prog (Instr.loadAt 5 v14) w7 fun v15 =>
Gv Try.prog 93 #[v9, v11, v13, v15] w7 fun v16 w17 =>
efU Try.prog (Instr.storeAt 28 v1 v16) w17 fun w19 =>
rcell Try.prog 28 v1 w19 fun v20 =>
R (.tuple #[v20, (.int .i64 0)]) w19) (
pu Try.prog (bin .eql 3 false true v5 (.int .i64 16)) fun v21 =>
brV v21 (
dw w4 fun w22 =>
pu Try.prog (Instr.sliceAt 34 v3 none (some (.int .i64 8)) none) fun v23 =>
pu Try.prog (Instr.sliceAt 34 v3 (some (.int .i64 8)) none none) fun v24 =>
Gv Try.prog 94 #[v23] w22 fun v25 w26 =>
Gv Try.prog 94 #[v24] w26 fun v27 w28 =>
pu Try.prog (Instr.build 28 #[(0, (.bool true)), (1, v25), (2, v27)]) fun v29 =>
efU Try.prog (Instr.storeAt 28 v1 v29) w28 fun w31 =>
rcell Try.prog 28 v1 w31 fun v32 =>
R (.tuple #[v32, (.int .i64 0)]) w31) (
pu Try.prog (Instr.build 28 #[]) fun v33 =>
efU Try.prog (Instr.storeAt 28 v1 v33) w4 fun w35 =>
rcell Try.prog 28 v1 w35 fun v36 =>
R (.tuple #[v36, (.int .i64 2)]) w35))
theorem e_addr_Of (x0 : Value) (w : World) (R : Value → World → Prop) : fnD Try.prog Try.f74 (.two .nil (.two .nil (.two (.two .nil (.two .nil (.two (.two (.plan [0, 1, 3, 0, 8, 24, 0, 64, 192, 0, 512, 1536, 4095, 8191, 16383] (.q 0 (.q 1 (.q 2 (.q 3 (.q 4 (.q 5 (.q 6 (.q 7 (.q 8 (.q 9 (.q 10 (.q 11 (.e 12 (.e 13 (.q 14 .done) .nil) .nil)))))))))))))) .nil) (.two .nil (.two (.two (.plan [0, 1, 3, 0, 8, 31, 63, 127, 255] (.q 0 (.q 1 (.q 3 (.q 4 (.e 2 (.e 5 (.q 6 (.e 7 (.q 8 .done) .nil)) .nil) .nil)))))) .nil) .nil))))) .nil))) [x0] w R = T_addr_Of x0 w R := by kernel_rfl
theorem ok_addr_Of {x0 w : _} {R : Value → World → Prop} (h : T_addr_Of x0 w R) : Gv Try.prog 74 #[x0] w R :=
  fn_of_D (fn := Try.f74) follows Try.func74 (by kernel_rfl) ((e_addr_Of x0 w R).symm ▸ h)

/-- (*nameplate/rdata.cursor).take -/
abbrev F_rdata_cursor_take : Nat := 75
def T_rdata_cursor_take (x0 : Value) (x1 : Value) (w : World) (R : Value → World → Prop) : Prop :=
nck x0 fun v1 =>
pu Try.prog (Instr.fieldAt 91 v1 2) fun v2 =>
rd Try.prog (Instr.loadAt 24 v2) w fun v3 =>
pu Try.prog (bin .neq 24 false true v3 (.int .i64 0)) fun v4 =>
brV v4 (
R (.string { data := #[] }) w) (
nck x0 fun v5 =>
pu Try.prog (Instr.fieldAt 91 v5 0) fun v6 =>
rd Try.prog (Instr.loadAt 88 v6) w fun v7 =>
Gv Try.prog 95 #[v7, x1] w fun v8 w9 =>
ext v8 0 fun v10 =>
ext v8 1 fun v11 =>
nck x0 fun v12 =>
pu Try.prog (Instr.fieldAt 91 v12 2) fun v13 =>
efU Try.prog (Instr.storeAt 24 v13 v11) w9 fun w15 =>
R v10 w15)
theorem e_rdata_cursor_take (x0 : Value) (x1 : Value) (w : World) (R : Value → World → Prop) : fnD Try.prog Try.f75 .nil [x0, x1] w R = T_rdata_cursor_take x0 x1 w R := by kernel_rfl
theorem ok_rdata_cursor_take {x0 x1 w : _} {R : Value → World → Prop} (h : T_rdata_cursor_take x0 x1 w R) : Gv Try.prog 75 #[x0, x1] w R :=
  fn_of_D (fn := Try.f75) follows Try.func75 (by kernel_rfl) ((e_rdata_cursor_take x0 x1 w R).symm ▸ h)

/-- (*nameplate/rdata.cursor).data$1 -/
abbrev F_rdata_cursor_data_1 : Nat := 76
def T_rdata_cursor_data_1 (x0 : Value) (x1 : Value) (x2 : Value) (w : World) (R : Value → World → Prop) : Prop :=
pu Try.prog (Instr.fieldAt 78 x0 5) fun v1 =>
rd Try.prog (Instr.loadAt 3 v1) w fun v2 =>
LoopL [0, 1, 2, 5, 6] (fun ρ4 w5 N3 =>
pu Try.prog (bin .lss 3 false false (ρ4 6) (ρ4 5)) fun v6 =>
brV v6 (
rd Try.prog (Instr.loadAt 87 (ρ4 1)) w5 fun v7 =>
pu Try.prog (Instr.fieldAt 78 (ρ4 0) 6) fun v8 =>
rd Try.prog (Instr.loadAt 3 v8) w5 fun v9 =>
Gv Try.prog 77 #[v7, v9] w5 fun v10 w11 =>
pu Try.prog (Instr.fieldAt 33 (ρ4 2) 3) fun v12 =>
pu Try.prog (Instr.indexAt 31 v12 (ρ4 6)) fun v13 =>
efU Try.prog (Instr.storeAt 30 v13 v10) w11 fun w15 =>
pu Try.prog (bin .add 3 false true (ρ4 6) (.int .i64 1)) fun v16 =>
N3 [(ρ4 0), (ρ4 1), (ρ4 2), (ρ4 5), v16] w15) (
R (.tuple #[]) w5)) [x0, x1, x2, v2, (.int .i64 0)] w
theorem e_rdata_cursor_data_1 (x0 : Value) (x1 : Value) (x2 : Value) (w : World) (R : Value → World → Prop) : fnD Try.prog Try.f76 (.two .nil (.loop [0, 1, 2, 5, 6] .nil)) [x0, x1, x2] w R = T_rdata_cursor_data_1 x0 x1 x2 w R := by kernel_rfl
theorem ok_rdata_cursor_data_1 {x0 x1 x2 w : _} {R : Value → World → Prop} (h : T_rdata_cursor_data_1 x0 x1 x2 w R) : Gv Try.prog 76 #[x0, x1, x2] w R :=
  fn_of_D (fn := Try.f76) follows Try.func76 (by kernel_rfl) ((e_rdata_cursor_data_1 x0 x1 x2 w R).symm ▸ h)

/-- (*nameplate/rdata.cursor).number -/
abbrev F_rdata_cursor_number : Nat := 77
def T_rdata_cursor_number (x0 : Value) (x1 : Value) (w : World) (R : Value → World → Prop) : Prop :=
nck x0 fun v1 =>
pu Try.prog (Instr.fieldAt 91 v1 2) fun v2 =>
rd Try.prog (Instr.loadAt 24 v2) w fun v3 =>
pu Try.prog (bin .neq 24 false true v3 (.int .i64 0)) fun v4 =>
brV v4 (
R (.int .u32 0) w) (
nck x0 fun v5 =>
pu Try.prog (Instr.fieldAt 91 v5 0) fun v6 =>
rd Try.prog (Instr.loadAt 88 v6) w fun v7 =>
Gv Try.prog 84 #[v7, x1] w fun v8 w9 =>
ext v8 0 fun v10 =>
ext v8 1 fun v11 =>
nck x0 fun v12 =>
pu Try.prog (Instr.fieldAt 91 v12 2) fun v13 =>
efU Try.prog (Instr.storeAt 24 v13 v11) w9 fun w15 =>
R v10 w15)
theorem e_rdata_cursor_number (x0 : Value) (x1 : Value) (w : World) (R : Value → World → Prop) : fnD Try.prog Try.f77 .nil [x0, x1] w R = T_rdata_cursor_number x0 x1 w R := by kernel_rfl
theorem ok_rdata_cursor_number {x0 x1 w : _} {R : Value → World → Prop} (h : T_rdata_cursor_number x0 x1 w R) : Gv Try.prog 77 #[x0, x1] w R :=
  fn_of_D (fn := Try.f77) follows Try.func77 (by kernel_rfl) ((e_rdata_cursor_number x0 x1 w R).symm ▸ h)

/-- nameplate/unpack.Name -/
abbrev F_unpack_Name : Nat := 78
def T_unpack_Name (x0 : Value) (x1 : Value) (w : World) (R : Value → World → Prop) : Prop :=
Gv Try.prog 96 #[x0, x1, (.bool true)] w fun v1 w2 =>
Gv Try.prog 97 #[v1] w2 fun v3 w4 =>
ext v3 0 fun v5 =>
ext v3 1 fun v6 =>
ext v3 2 fun v7 =>
R (.tuple #[v5, v6, v7]) w4
theorem e_unpack_Name (x0 : Value) (x1 : Value) (w : World) (R : Value → World → Prop) : fnD Try.prog Try.f78 .nil [x0, x1] w R = T_unpack_Name x0 x1 w R := by kernel_rfl
theorem ok_unpack_Name {x0 x1 w : _} {R : Value → World → Prop} (h : T_unpack_Name x0 x1 w R) : Gv Try.prog 78 #[x0, x1] w R :=
  fn_of_D (fn := Try.f78) follows Try.func78 (by kernel_rfl) ((e_unpack_Name x0 x1 w R).symm ▸ h)

/-- nameplate/unpack.Plain -/
abbrev F_unpack_Plain : Nat := 79
def T_unpack_Plain (x0 : Value) (x1 : Value) (w : World) (R : Value → World → Prop) : Prop :=
Gv Try.prog 96 #[x0, x1, (.bool false)] w fun v1 w2 =>
Gv Try.prog 97 #[v1] w2 fun v3 w4 =>
ext v3 0 fun v5 =>
ext v3 1 fun v6 =>
ext v3 2 fun v7 =>
R (.tuple #[v5, v6, v7]) w4
theorem e_unpack_Plain (x0 : Value) (x1 : Value) (w : World) (R : Value → World → Prop) : fnD Try.prog Try.f79 .nil [x0, x1] w R = T_unpack_Plain x0 x1 w R := by kernel_rfl
theorem ok_unpack_Plain {x0 x1 w : _} {R : Value → World → Prop} (h : T_unpack_Plain x0 x1 w R) : Gv Try.prog 79 #[x0, x1] w R :=
  fn_of_D (fn := Try.f79) follows Try.func79 (by kernel_rfl) ((e_unpack_Plain x0 x1 w R).symm ▸ h)

/-- (*nameplate/rdata.cursor).name -/
abbrev F_rdata_cursor_name : Nat := 80
def T_rdata_cursor_name (x0 : Value) (x1 : Value) (w : World) (R : Value → World → Prop) : Prop :=
nck x0 fun v1 =>
pu Try.prog (Instr.fieldAt 91 v1 2) fun v2 =>
rd Try.prog (Instr.loadAt 24 v2) w fun v3 =>
pu Try.prog (bin .neq 24 false true v3 (.int .i64 0)) fun v4 =>
brV v4 (
R (.string { data := #[] }) w) (
dw w fun w5 =>
nck x0 fun v6 =>
pu Try.prog (Instr.fieldAt 91 v6 3) fun v7 =>
rd Try.prog (Instr.loadAt 9 v7) w5 fun v8 =>
nck x0 fun v9 =>
pu Try.prog (Instr.fieldAt 91 v9 0) fun v10 =>
rd Try.prog (Instr.loadAt 88 v10) w5 fun v11 =>
Gv Try.prog 57 #[v11] w5 fun v12 w13 =>
rdV Try.prog (Instr.loadAt 9 v7) v8 w13 ∧ (callV Try.prog x1 [v8, v12] w13 fun v14 w15 =>
ext v14 0 fun v16 =>
ext v14 1 fun v17 =>
ext v14 2 fun v18 =>
pu Try.prog (bin .neq 24 false true v18 (.int .i64 0)) fun v19 =>
brV v19 (
nck x0 fun v20 =>
pu Try.prog (Instr.fieldAt 91 v20 2) fun v21 =>
efU Try.prog (Instr.storeAt 24 v21 v18) w15 fun w23 =>
nck x0 fun v24 =>
pu Try.prog (Instr.fieldAt 91 v24 2) fun v25 =>
rd Try.prog (Instr.loadAt 24 v25) w23 fun v26 =>
pu Try.prog (bin .neq 24 false true v26 (.int .i64 0)) fun v27 =>
brV v27 (
R (.string { data := #[] }) w23) (
R v16 w23)) (
nck x0 fun v28 =>
pu Try.prog (Instr.fieldAt 91 v28 1) fun v29 =>
rd Try.prog (Instr.loadAt 9 v29) w15 fun v30 =>
pu Try.prog (bltS .len #[9] 3 #[v30]) fun v31 =>
pu Try.prog (bin .gtr 3 false false v17 v31) fun v32 =>
brV v32 (
nck x0 fun v33 =>
pu Try.prog (Instr.fieldAt 91 v33 2) fun v34 =>
efU Try.prog (Instr.storeAt 24 v34 (.int .i64 8)) w15 fun w36 =>
nck x0 fun v37 =>
pu Try.prog (Instr.fieldAt 91 v37 2) fun v38 =>
rd Try.prog (Instr.loadAt 24 v38) w36 fun v39 =>
pu Try.prog (bin .neq 24 false true v39 (.int .i64 0)) fun v40 =>
brV v40 (
R (.string { data := #[] }) w36) (
R v16 w36)) (
nck x0 fun v41 =>
pu Try.prog (Instr.fieldAt 91 v41 0) fun v42 =>
rd Try.prog (Instr.loadAt 88 v42) w15 fun v43 =>
Gv Try.prog 42 #[v43, v17] w15 fun v44 w45 =>
nck x0 fun v46 =>
pu Try.prog (Instr.fieldAt 91 v46 2) fun v47 =>
efU Try.prog (Instr.storeAt 24 v47 v44) w45 fun w49 =>
nck x0 fun v50 =>
pu Try.prog (Instr.fieldAt 91 v50 2) fun v51 =>
rd Try.prog (Instr.loadAt 24 v51) w49 fun v52 =>
pu Try.prog (bin .neq 24 false true v52 (.int .i64 0)) fun v53 =>
brV v53 (
R (.string { data := #[] }) w49) (
R v16 w49)))))
theorem e_rdata_cursor_name (x0 : Value) (x1 : Value) (w : World) (R : Value → World → Prop) : fnD Try.prog Try.f80 (.two .nil (.two .nil (.two (.plan [0, 0, 2, 6, 14, 0, 32, 96, 224, 480, 1023, 2047, 4095, 4095, 4095, 8191, 49151, 131071] (.q 0 (.q 1 (.q 2 (.q 3 (.q 4 (.q 5 (.q 6 (.q 7 (.q 8 (.e 9 (.e 10 (.q 11 (.q 12 (.q 13 (.q 14 (.q 15 (.q 16 (.q 17 .done))))))) .nil) .nil))))))))))) .nil))) [x0, x1] w R = T_rdata_cursor_name x0 x1 w R := by kernel_rfl
theorem ok_rdata_cursor_name {x0 x1 w : _} {R : Value → World → Prop} (h : T_rdata_cursor_name x0 x1 w R) : Gv Try.prog 80 #[x0, x1] w R :=
  fn_of_D (fn := Try.f80) follows Try.func80 (by kernel_rfl) ((e_rdata_cursor_name x0 x1 w R).symm ▸ h)

/-- (*nameplate/octets.place).left -/
abbrev F_octets_place_left : Nat := 81
def T_octets_place_left (x0 : Value) (w : World) (R : Value → World → Prop) : Prop :=
dw w fun w1 =>
nck x0 fun v2 =>
pu Try.prog (Instr.fieldAt 125 v2 0) fun v3 =>
rd Try.prog (Instr.loadAt 9 v3) w1 fun v4 =>
pu Try.prog (bltS .len #[9] 3 #[v4]) fun v5 =>
nck x0 fun v6 =>
pu Try.prog (Instr.fieldAt 125 v6 1) fun v7 =>
rd Try.prog (Instr.loadAt 3 v7) w1 fun v8 =>
pu Try.prog (bin .sub 3 false false v5 v8) fun v9 =>
R v9 w1
theorem e_octets_place_left (x0 : Value) (w : World) (R : Value → World → Prop) : fnD Try.prog Try.f81 (.two .nil (.two (.plan [0, 1, 3, 7, 15, 0, 32, 96, 224, 511, 1023] (.q 0 (.q 1 (.q 2 (.q 3 (.q 4 (.q 5 (.q 6 (.q 7 (.q 8 (.q 9 (.q 10 .done)))))))))))) .nil)) [x0] w R = T_octets_place_left x0 w R := by kernel_rfl
theorem ok_octets_place_left {x0 w : _} {R : Value → World → Prop} (h : T_octets_place_left x0 w R) : Gv Try.prog 81 #[x0] w R :=
  fn_of_D (fn := Try.f81) follows Try.func81 (by kernel_rfl) ((e_octets_place_left x0 w R).symm ▸ h)

/-- nameplate/octets.fits -/
abbrev F_octets_fits : Nat := 82
def T_octets_fits (x0 : Value) (x1 : Value) (w : World) (R : Value → World → Prop) : Prop :=
pu Try.prog (bin .geq 3 false true x1 (.int .i64 1)) fun v1 =>
brV v1 (
pu Try.prog (bin .leq 3 false true x1 (.int .i64 4)) fun v2 =>
brV v2 (
pu Try.prog (convert 30 26 x0) fun v3 =>
pu Try.prog (bin .mul 3 true false (.int .i64 8) x1) fun v4 =>
pu Try.prog (bin .shr 26 false false v3 v4) fun v5 =>
pu Try.prog (bin .eql 26 false true v5 (.int .u64 0)) fun v6 =>
R v6 w) (
R (.bool false) w)) (
R (.bool false) w)
theorem e_octets_fits (x0 : Value) (x1 : Value) (w : World) (R : Value → World → Prop) : fnD Try.prog Try.f82 .nil [x0, x1] w R = T_octets_fits x0 x1 w R := by kernel_rfl
theorem ok_octets_fits {x0 x1 w : _} {R : Value → World → Prop} (h : T_octets_fits x0 x1 w R) : Gv Try.prog 82 #[x0, x1] w R :=
  fn_of_D (fn := Try.f82) follows Try.func82 (by kernel_rfl) ((e_octets_fits x0 x1 w R).symm ▸ h)

/-- nameplate/octets.cut -/
abbrev F_octets_cut : Nat := 83
def T_octets_cut (x0 : Value) (x1 : Value) (w : World) (R : Value → World → Prop) : Prop :=
ef Try.prog (Instr.makeSlice 34 x1 x1) w fun v1 w2 =>
LoopL [0, 1, 5, 9, 10] (fun ρ4 w5 N3 =>
pu Try.prog (bin .lss 3 false false (ρ4 10) (ρ4 9)) fun v6 =>
brV v6 (
pu Try.prog (bin .sub 3 false true (ρ4 1) (.int .i64 1)) fun v7 =>
pu Try.prog (bin .sub 3 false false v7 (ρ4 10)) fun v8 =>
pu Try.prog (bin .mul 3 true false (.int .i64 8) (ρ4 10)) fun v9 =>
pu Try.prog (bin .shr 30 false false (ρ4 0) v9) fun v10 =>
pu Try.prog (convert 30 5 v10) fun v11 =>
pu Try.prog (Instr.indexAt 34 (ρ4 5) v8) fun v12 =>
efU Try.prog (Instr.storeAt 5 v12 v11) w5 fun w14 =>
pu Try.prog (bin .add 3 false true (ρ4 10) (.int .i64 1)) fun v15 =>
N3 [(ρ4 0), (ρ4 1), (ρ4 5), (ρ4 9), v15] w14) (
R (ρ4 5) w5)) [x0, x1, v1, x1, (.int .i64 0)] w2
theorem e_octets_cut (x0 : Value) (x1 : Value) (w : World) (R : Value → World → Prop) : fnD Try.prog Try.f83 (.two .nil (.two .nil (.two (.two .nil (.loop [0, 1, 5, 9, 10] .nil)) .nil))) [x0, x1] w R = T_octets_cut x0 x1 w R := by kernel_rfl
theorem ok_octets_cut {x0 x1 w : _} {R : Value → World → Prop} (h : T_octets_cut x0 x1 w R) : Gv Try.prog 83 #[x0, x1] w R :=
  fn_of_D (fn := Try.f83) follows Try.func83 (by kernel_rfl) ((e_octets_cut x0 x1 w R).symm ▸ h)

/-- (*nameplate/octets.Reader).Number -/
abbrev F_octets_Reader_Number : Nat := 84
def T_octets_Reader_Number (x0 : Value) (x1 : Value) (w : World) (R : Value → World → Prop) : Prop :=
pu Try.prog (bin .eql 88 false true x0 (.pointer none)) fun v1 =>
brV v1 (
R (.tuple #[(.int .u32 0), (.int .i64 1)]) w) (
CutL [0, 1, 14] (fun J2 =>
pu Try.prog (bin .lss 3 false true x1 (.int .i64 1)) fun v5 =>
brV v5 (
J2 [x0, x1, (.bool true)] w) (
pu Try.prog (bin .gtr 3 false true x1 (.int .i64 4)) fun v6 =>
J2 [x0, x1, v6] w)) (fun ρ3 w4 =>
brV (ρ3 14) (
R (.tuple #[(.int .u32 0), (.int .i64 2)]) w4) (
Gv Try.prog 95 #[(ρ3 0), (ρ3 1)] w4 fun v7 w8 =>
ext v7 0 fun v9 =>
ext v7 1 fun v10 =>
ef Try.prog (convert 9 34 v9) w8 fun v11 w12 =>
pu Try.prog (bltS .len #[34] 3 #[v11]) fun v13 =>
LoopL [7, 8, 28, 29, 30] (fun ρ15 w16 N14 =>
pu Try.prog (bin .lss 3 false false (ρ15 30) (ρ15 29)) fun v17 =>
brV v17 (
pu Try.prog (Instr.indexAt 34 (ρ15 28) (ρ15 30)) fun v18 =>
rd Try.prog (Instr.loadAt 5 v18) w16 fun v19 =>
pu Try.prog (bin .shl 30 false true (ρ15 8) (.int .u64 8)) fun v20 =>
pu Try.prog (convert 5 30 v19) fun v21 =>
pu Try.prog (bin .or 30 false false v20 v21) fun v22 =>
pu Try.prog (bin .add 3 false true (ρ15 30) (.int .i64 1)) fun v23 =>
N14 [(ρ15 7), v22, (ρ15 28), (ρ15 29), v23] w16) (
R (.tuple #[(ρ15 8), (ρ15 7)]) w16)) [v10, (.int .u32 0), v11, v13, (.int .i64 0)] w12)))
theorem e_octets_Reader_Number (x0 : Value) (x1 : Value) (w : World) (R : Value → World → Prop) : fnD Try.prog Try.f84 (.two .nil (.two (.two .nil (.two .nil (.cut [0, 1, 14] .nil .nil))) (.two .nil (.two .nil (.two (.two .nil (.loop [7, 8, 28, 29, 30] .nil)) .nil))))) [x0, x1] w R = T_octets_Reader_Number x0 x1 w R := by kernel_rfl
theorem ok_octets_Reader_Number {x0 x1 w : _} {R : Value → World → Prop} (h : T_octets_Reader_Number x0 x1 w R) : Gv Try.prog 84 #[x0, x1] w R :=
  fn_of_D (fn := Try.f84) follows Try.func84 (by kernel_rfl) ((e_octets_Reader_Number x0 x1 w R).symm ▸ h)

/-- (*nameplate/pack.stack).push -/
abbrev F_pack_stack_push : Nat := 85
def T_pack_stack_push (x0 : Value) (x1 : Value) (w : World) (R : Value → World → Prop) : Prop :=
nck x0 fun v1 =>
pu Try.prog (Instr.fieldAt 74 v1 0) fun v2 =>
rd Try.prog (Instr.loadAt 66 v2) w fun v3 =>
ef Try.prog (Instr.buildSlice 66 1 #[(0, x1)]) w fun v4 w5 =>
ef Try.prog (bltS .append #[66, 66] 66 #[v3, v4]) w5 fun v6 w7 =>
nck x0 fun v8 =>
pu Try.prog (Instr.fieldAt 74 v8 0) fun v9 =>
efU Try.prog (Instr.storeAt 66 v9 v6) w7 fun w11 =>
R (.tuple #[]) w11
theorem e_pack_stack_push (x0 : Value) (x1 : Value) (w : World) (R : Value → World → Prop) : fnD Try.prog Try.f85 .nil [x0, x1] w R = T_pack_stack_push x0 x1 w R := by kernel_rfl
theorem ok_pack_stack_push {x0 x1 w : _} {R : Value → World → Prop} (h : T_pack_stack_push x0 x1 w R) : Gv Try.prog 85 #[x0, x1] w R :=
  fn_of_D (fn := Try.f85) follows Try.func85 (by kernel_rfl) ((e_pack_stack_push x0 x1 w R).symm ▸ h)

/-- (*nameplate/pack.stack).pop -/
abbrev F_pack_stack_pop : Nat := 86
def T_pack_stack_pop (x0 : Value) (x1 : Value) (w : World) (R : Value → World → Prop) : Prop :=
nck x0 fun v1 =>
pu Try.prog (Instr.fieldAt 74 v1 0) fun v2 =>
rd Try.prog (Instr.loadAt 66 v2) w fun v3 =>
pu Try.prog (bltS .len #[66] 3 #[v3]) fun v4 =>
pu Try.prog (bin .sub 3 false true v4 (.int .i64 1)) fun v5 =>
pu Try.prog (bin .lss 3 false true v5 (.int .i64 0)) fun v6 =>
brV v6 (
R (.bool false) w) (
nck x0 fun v7 =>
pu Try.prog (Instr.fieldAt 74 v7 0) fun v8 =>
rd Try.prog (Instr.loadAt 66 v8) w fun v9 =>
pu Try.prog (Instr.indexAt 66 v9 v5) fun v10 =>
rd Try.prog (Instr.loadAt 3 v10) w fun v11 =>
pu Try.prog (bin .neq 3 false false v11 x1) fun v12 =>
brV v12 (
R (.bool false) w) (
nck x0 fun v13 =>
pu Try.prog (Instr.fieldAt 74 v13 0) fun v14 =>
rd Try.prog (Instr.loadAt 66 v14) w fun v15 =>
pu Try.prog (Instr.sliceAt 66 v15 none (some v5) none) fun v16 =>
nck x0 fun v17 =>
pu Try.prog (Instr.fieldAt 74 v17 0) fun v18 =>
efU Try.prog (Instr.storeAt 66 v18 v16) w fun w20 =>
R (.bool true) w20))
theorem e_pack_stack_pop (x0 : Value) (x1 : Value) (w : World) (R : Value → World → Prop) : fnD Try.prog Try.f86 .nil [x0, x1] w R = T_pack_stack_pop x0 x1 w R := by kernel_rfl
theorem ok_pack_stack_pop {x0 x1 w : _} {R : Value → World → Prop} (h : T_pack_stack_pop x0 x1 w R) : Gv Try.prog 86 #[x0, x1] w R :=
  fn_of_D (fn := Try.f86) follows Try.func86 (by kernel_rfl) ((e_pack_stack_pop x0 x1 w R).symm ▸ h)

/-- (*nameplate/octets.Writer).Patch -/
abbrev F_octets_Writer_Patch : Nat := 87
def T_octets_Writer_Patch (x0 : Value) (x1 : Value) (x2 : Value) (x3 : Value) (w : World) (R : Value → World → Prop) : Prop :=
Gv Try.prog 73 #[x0] w fun v1 w2 =>
pu Try.prog (bin .neq 24 false true v1 (.int .i64 0)) fun v3 =>
brV v3 (
R v1 w2) (
Gv Try.prog 82 #[x2, x3] w2 fun v4 w5 =>
pu Try.prog (Op.unary .not v4) fun v6 =>
brV v6 (
R (.int .i64 2) w5) (
pu Try.prog (bin .lss 3 false true x1 (.int .i64 0)) fun v7 =>
brV v7 (
R (.int .i64 2) w5) (
nck x0 fun v8 =>
pu Try.prog (Instr.fieldAt 121 v8 0) fun v9 =>
rd Try.prog (Instr.loadAt 34 v9) w5 fun v10 =>
pu Try.prog (bltS .len #[34] 3 #[v10]) fun v11 =>
pu Try.prog (bin .sub 3 false false v11 x3) fun v12 =>
pu Try.prog (bin .gtr 3 false false x1 v12) fun v13 =>
brV v13 (
R (.int .i64 2) w5) (
dw w5 fun w14 =>
nck x0 fun v15 =>
pu Try.prog (Instr.fieldAt 121 v15 0) fun v16 =>
rd Try.prog (Instr.loadAt 34 v16) w14 fun v17 =>
pu Try.prog (Instr.sliceAt 34 v17 (some x1) none none) fun v18 =>
Gv Try.prog 83 #[x2, x3] w14 fun v19 w20 =>
rdV Try.prog (Instr.loadAt 34 v16) v17 w20 ∧ (ef Try.prog (bltS .copy #[34, 34] 3 #[v18, v19]) w20 fun v21 w22 =>
R (.int .i64 0) w22)))))
theorem e_octets_Writer_Patch (x0 : Value) (x1 : Value) (x2 : Value) (x3 : Value) (w : World) (R : Value → World → Prop) : fnD Try.prog Try.f87 (.two .nil (.two .nil (.two .nil (.two (.plan [0, 1, 3, 7, 0, 31, 0, 0, 192, 511] (.q 0 (.q 1 (.q 2 (.q 3 (.q 4 (.q 5 (.q 6 (.q 7 (.e 8 (.e 9 .done .nil) .nil)))))))))) .nil)))) [x0, x1, x2, x3] w R = T_octets_Writer_Patch x0 x1 x2 x3 w R := by kernel_rfl
theorem ok_octets_Writer_Patch {x0 x1 x2 x3 w : _} {R : Value → World → Prop} (h : T_octets_Writer_Patch x0 x1 x2 x3 w R) : Gv Try.prog 87 #[x0, x1, x2, x3] w R :=
  fn_of_D (fn := Try.f87) follows Try.func87 (by kernel_rfl) ((e_octets_Writer_Patch x0 x1 x2 x3 w R).symm ▸ h)

/-- cmp.isNaN[nameplate/api.Name] -/
abbrev F_cmp_isNaN_api_Name : Nat := 88
def T_cmp_isNaN_api_Name (x0 : Value) (w : World) (R : Value → World → Prop) : Prop :=
pu Try.prog (bin .neq 29 false false x0 x0) fun v1 =>
R v1 w
theorem e_cmp_isNaN_api_Name (x0 : Value) (w : World) (R : Value → World → Prop) : fnD Try.prog Try.f88 .nil [x0] w R = T_cmp_isNaN_api_Name x0 w R := by kernel_rfl
theorem ok_cmp_isNaN_api_Name {x0 w : _} {R : Value → World → Prop} (h : T_cmp_isNaN_api_Name x0 w R) : Gv Try.prog 88 #[x0] w R :=
  fn_of_D (fn := Try.f88) follows Try.func88 (by kernel_rfl) ((e_cmp_isNaN_api_Name x0 w R).symm ▸ h)

/-- cmp.isNaN[int] -/
abbrev F_cmp_isNaN_int : Nat := 89
def T_cmp_isNaN_int (x0 : Value) (w : World) (R : Value → World → Prop) : Prop :=
pu Try.prog (bin .neq 3 false false x0 x0) fun v1 =>
R v1 w
theorem e_cmp_isNaN_int (x0 : Value) (w : World) (R : Value → World → Prop) : fnD Try.prog Try.f89 .nil [x0] w R = T_cmp_isNaN_int x0 w R := by kernel_rfl
theorem ok_cmp_isNaN_int {x0 w : _} {R : Value → World → Prop} (h : T_cmp_isNaN_int x0 w R) : Gv Try.prog 89 #[x0] w R :=
  fn_of_D (fn := Try.f89) follows Try.func89 (by kernel_rfl) ((e_cmp_isNaN_int x0 w R).symm ▸ h)

/-- cmp.isNaN[uint32] -/
abbrev F_cmp_isNaN_uint32 : Nat := 90
def T_cmp_isNaN_uint32 (x0 : Value) (w : World) (R : Value → World → Prop) : Prop :=
pu Try.prog (bin .neq 30 false false x0 x0) fun v1 =>
R v1 w
theorem e_cmp_isNaN_uint32 (x0 : Value) (w : World) (R : Value → World → Prop) : fnD Try.prog Try.f90 .nil [x0] w R = T_cmp_isNaN_uint32 x0 w R := by kernel_rfl
theorem ok_cmp_isNaN_uint32 {x0 w : _} {R : Value → World → Prop} (h : T_cmp_isNaN_uint32 x0 w R) : Gv Try.prog 90 #[x0] w R :=
  fn_of_D (fn := Try.f90) follows Try.func90 (by kernel_rfl) ((e_cmp_isNaN_uint32 x0 w R).symm ▸ h)

/-- nameplate/name.cut -/
abbrev F_name_cut : Nat := 91
def T_name_cut (x0 : Value) (w : World) (R : Value → World → Prop) : Prop :=
pu Try.prog (bin .eql 29 false true x0 (.string { data := #[] })) fun v1 =>
brV v1 (
R (.tuple #[(.string { data := #[] }), (.string { data := #[] }), (.bool false)]) w) (
pu Try.prog (Instr.index 29 x0 (.int .i64 0)) fun v2 =>
pu Try.prog (convert 5 3 v2) fun v3 =>
pu Try.prog (bin .lss 3 false true v3 (.int .i64 1)) fun v4 =>
brV v4 (
R (.tuple #[(.string { data := #[] }), x0, (.bool false)]) w) (
pu Try.prog (bin .gtr 3 false true v3 (.int .i64 63)) fun v5 =>
brV v5 (
R (.tuple #[(.string { data := #[] }), x0, (.bool false)]) w) (
pu Try.prog (bltS .len #[29] 3 #[x0]) fun v6 =>
pu Try.prog (bin .geq 3 false false v3 v6) fun v7 =>
brV v7 (
R (.tuple #[(.string { data := #[] }), x0, (.bool false)]) w) (
dw w fun w8 =>
pu Try.prog (bin .add 3 true false (.int .i64 1) v3) fun v9 =>
pu Try.prog (Instr.sliceAt 29 x0 (some (.int .i64 1)) (some v9) none) fun v10 =>
pu Try.prog (bin .add 3 true false (.int .i64 1) v3) fun v11 =>
pu Try.prog (Instr.sliceAt 29 x0 (some v11) none none) fun v12 =>
R (.tuple #[v10, v12, (.bool true)]) w8))))
theorem e_name_cut (x0 : Value) (w : World) (R : Value → World → Prop) : fnD Try.prog Try.f91 (.two .nil (.two .nil (.two .nil (.two .nil (.two (.plan [0, 0, 2, 7, 0, 0, 32, 112, 15, 511, 1023] (.q 0 (.q 1 (.q 2 (.q 3 (.q 4 (.q 5 (.q 6 (.q 7 (.q 8 (.q 9 (.q 10 .done)))))))))))) .nil))))) [x0] w R = T_name_cut x0 w R := by kernel_rfl
theorem ok_name_cut {x0 w : _} {R : Value → World → Prop} (h : T_name_cut x0 w R) : Gv Try.prog 91 #[x0] w R :=
  fn_of_D (fn := Try.f91) follows Try.func91 (by kernel_rfl) ((e_name_cut x0 w R).symm ▸ h)

/-- slices.IndexFunc[[]string,string] -/
abbrev F_slices_IndexFunc_string_string : Nat := 92
def T_slices_IndexFunc_string_string (x0 : Value) (x1 : Value) (w : World) (R : Value → World → Prop) : Prop :=
pu Try.prog (bltS .len #[22] 3 #[x0]) fun v1 =>
LoopL [0, 1, 7, 8] (fun ρ3 w4 N2 =>
pu Try.prog (bin .lss 3 false false (ρ3 8) (ρ3 7)) fun v5 =>
brV v5 (
pu Try.prog (Instr.indexAt 22 (ρ3 0) (ρ3 8)) fun v6 =>
rd Try.prog (Instr.loadAt 9 v6) w4 fun v7 =>
callV Try.prog (ρ3 1) [v7] w4 fun v8 w9 =>
brV v8 (
R (ρ3 8) w9) (
pu Try.prog (bin .add 3 false true (ρ3 8) (.int .i64 1)) fun v10 =>
N2 [(ρ3 0), (ρ3 1), (ρ3 7), v10] w9)) (
R (.int .i64 (-1)) w4)) [x0, x1, v1, (.int .i64 0)] w
theorem e_slices_IndexFunc_string_string (x0 : Value) (x1 : Value) (w : World) (R : Value → World → Prop) : fnD Try.prog Try.f92 (.two .nil (.two (.two .nil (.loop [0, 1, 7, 8] .nil)) .nil)) [x0, x1] w R = T_slices_IndexFunc_string_string x0 x1 w R := by kernel_rfl
theorem ok_slices_IndexFunc_string_string {x0 x1 w : _} {R : Value → World → Prop} (h : T_slices_IndexFunc_string_string x0 x1 w R) : Gv Try.prog 92 #[x0, x1] w R :=
  fn_of_D (fn := Try.f92) follows Try.func92 (by kernel_rfl) ((e_slices_IndexFunc_string_string x0 x1 w R).symm ▸ h)

/-- nameplate/addr.Four -/
abbrev F_addr_Four : Nat := 93
def T_addr_Four (x0 : Value) (x1 : Value) (x2 : Value) (x3 : Value) (w : World) (R : Value → World → Prop) : Prop :=
ef Try.prog (Instr.alloc 28 true (.tuple #[])) w fun v1 w2 =>
ef Try.prog (Instr.buildSlice 34 4 #[(0, x0), (1, x1), (2, x2), (3, x3)]) w2 fun v3 w4 =>
Gv Try.prog 94 #[v3] w4 fun v5 w6 =>
pu Try.prog (Instr.build 28 #[(2, v5)]) fun v7 =>
efU Try.prog (Instr.storeAt 28 v1 v7) w6 fun w9 =>
rcell Try.prog 28 v1 w9 fun v10 =>
R v10 w9
theorem e_addr_Four (x0 : Value) (x1 : Value) (x2 : Value) (x3 : Value) (w : World) (R : Value → World → Prop) : fnD Try.prog Try.f93 .nil [x0, x1, x2, x3] w R = T_addr_Four x0 x1 x2 x3 w R := by kernel_rfl
theorem ok_addr_Four {x0 x1 x2 x3 w : _} {R : Value → World → Prop} (h : T_addr_Four x0 x1 x2 x3 w R) : Gv Try.prog 93 #[x0, x1, x2, x3] w R :=
  fn_of_D (fn := Try.f93) follows Try.func93 (by kernel_rfl) ((e_addr_Four x0 x1 x2 x3 w R).symm ▸ h)

/-- nameplate/addr.whole -/
abbrev F_addr_whole : Nat := 94
def T_addr_whole (x0 : Value) (w : World) (R : Value → World → Prop) : Prop :=
pu Try.prog (bltS .len #[34] 3 #[x0]) fun v1 =>
LoopL [3, 6, 7, 8] (fun ρ3 w4 N2 =>
pu Try.prog (bin .lss 3 false false (ρ3 8) (ρ3 7)) fun v5 =>
brV v5 (
pu Try.prog (Instr.indexAt 34 (ρ3 6) (ρ3 8)) fun v6 =>
rd Try.prog (Instr.loadAt 5 v6) w4 fun v7 =>
pu Try.prog (bin .shl 26 false true (ρ3 3) (.int .u64 8)) fun v8 =>
pu Try.prog (convert 5 26 v7) fun v9 =>
pu Try.prog (bin .or 26 false false v8 v9) fun v10 =>
pu Try.prog (bin .add 3 false true (ρ3 8) (.int .i64 1)) fun v11 =>
N2 [v10, (ρ3 6), (ρ3 7), v11] w4) (
R (ρ3 3) w4)) [(.int .u64 0), x0, v1, (.int .i64 0)] w
theorem e_addr_whole (x0 : Value) (w : World) (R : Value → World → Prop) : fnD Try.prog Try.f94 (.two .nil (.two .nil (.two (.two .nil (.loop [3, 6, 7, 8] .nil)) .nil))) [x0] w R = T_addr_whole x0 w R := by kernel_rfl
theorem ok_addr_whole {x0 w : _} {R : Value → World → Prop} (h : T_addr_whole x0 w R) : Gv Try.prog 94 #[x0] w R :=
  fn_of_D (fn := Try.f94) follows Try.func94 (by kernel_rfl) ((e_addr_whole x0 w R).symm ▸ h)

/-- (*nameplate/octets.Reader).Take -/
abbrev F_octets_Reader_Take : Nat := 95
def T_octets_Reader_Take (x0 : Value) (x1 : Value) (w : World) (R : Value → World → Prop) : Prop :=
pu Try.prog (bin .eql 88 false true x0 (.pointer none)) fun v1 =>
brV v1 (
R (.tuple #[(.string { data := #[] }), (.int .i64 1)]) w) (
pu Try.prog (bin .lss 3 false true x1 (.int .i64 0)) fun v2 =>
brV v2 (
R (.tuple #[(.string { data := #[] }), (.int .i64 2)]) w) (
Gv Try.prog 44 #[x0] w fun v3 w4 =>
pu Try.prog (bin .gtr 3 false false x1 v3) fun v5 =>
brV v5 (
R (.tuple #[(.string { data := #[] }), (.int .i64 8)]) w4) (
dw w4 fun w6 =>
nck x0 fun v7 =>
pu Try.prog (Instr.fieldAt 127 v7 0) fun v8 =>
pu Try.prog (Instr.fieldAt 125 v8 0) fun v9 =>
rd Try.prog (Instr.loadAt 9 v9) w6 fun v10 =>
nck x0 fun v11 =>
pu Try.prog (Instr.fieldAt 127 v11 0) fun v12 =>
pu Try.prog (Instr.fieldAt 125 v12 1) fun v13 =>
rd Try.prog (Instr.loadAt 3 v13) w6 fun v14 =>
nck x0 fun v15 =>
pu Try.prog (Instr.fieldAt 127 v15 0) fun v16 =>
pu Try.prog (Instr.fieldAt 125 v16 1) fun v17 =>
rd Try.prog (Instr.loadAt 3 v17) w6 fun v18 =>
pu Try.prog (bin .add 3 false false v18 x1) fun v19 =>
pu Try.prog (Instr.sliceAt 9 v10 (some v14) (some v19) none) fun v20 =>
nck x0 fun v21 =>
pu Try.prog (Instr.fieldAt 127 v21 0) fun v22 =>
pu Try.prog (Instr.fieldAt 125 v22 1) fun v23 =>
rd Try.prog (Instr.loadAt 3 v23) w6 fun v24 =>
pu Try.prog (bin .add 3 false false v24 x1) fun v25 =>
nck x0 fun v26 =>
pu Try.prog (Instr.fieldAt 127 v26 0) fun v27 =>
pu Try.prog (Instr.fieldAt 125 v27 1) fun v28 =>
efU Try.prog (Instr.storeAt 3 v28 v25) w6 fun w30 =>
R (.tuple #[v20, (.int .i64 0)]) w30)))
theorem e_octets_Reader_Take (x0 : Value) (x1 : Value) (w : World) (R : Value → World → Prop) : fnD Try.prog Try.f95 (.two .nil (.two .nil (.two (.plan [0, 1, 3, 7, 15, 0, 32, 96, 224, 480, 0, 1024, 3072, 7168, 15360, 0, 64512, 131071, 262143] (.q 0 (.q 1 (.q 2 (.q 3 (.q 4 (.q 5 (.q 6 (.q 7 (.q 8 (.q 9 (.q 10 (.q 11 (.q 12 (.q 13 (.q 14 (.q 15 (.q 16 (.q 17 (.q 18 .done)))))))))))))))))))) .nil))) [x0, x1] w R = T_octets_Reader_Take x0 x1 w R := by kernel_rfl
theorem ok_octets_Reader_Take {x0 x1 w : _} {R : Value → World → Prop} (h : T_octets_Reader_Take x0 x1 w R) : Gv Try.prog 95 #[x0, x1] w R :=
  fn_of_D (fn := Try.f95) follows Try.func95 (by kernel_rfl) ((e_octets_Reader_Take x0 x1 w R).symm ▸ h)

/-- nameplate/unpack.read -/
abbrev F_unpack_read : Nat := 96
def T_unpack_read (x0 : Value) (x1 : Value) (x2 : Value) (w : World) (R : Value → World → Prop) : Prop :=
pu Try.prog (Instr.build 160 #[(0, x0), (1, x1), (2, x1), (3, (.int .i64 (-1))), (5, x2)]) fun v1 =>
ef Try.prog (Instr.box 160 v1) w fun v2 w3 =>
pu Try.prog (bin .lss 3 false true x1 (.int .i64 0)) fun v4 =>
brV v4 (
Gv Try.prog 98 #[v2, (.int .i64 2)] w3 fun v5 w6 =>
R v2 w6) (
pu Try.prog (bltS .len #[9] 3 #[x0]) fun v7 =>
pu Try.prog (bin .gtr 3 false false x1 v7) fun v8 =>
brV v8 (
Gv Try.prog 98 #[v2, (.int .i64 2)] w3 fun v9 w10 =>
R v2 w10) (
LoopL [7] (fun ρ12 w13 N11 =>
Gv Try.prog 99 #[(ρ12 7)] w13 fun v14 w15 =>
brV v14 (
N11 [(ρ12 7)] w15) (
R (ρ12 7) w15)) [v2] w3))
theorem e_unpack_read (x0 : Value) (x1 : Value) (x2 : Value) (w : World) (R : Value → World → Prop) : fnD Try.prog Try.f96 (.two .nil (.two .nil (.two .nil (.two .nil (.loop [7] .nil))))) [x0, x1, x2] w R = T_unpack_read x0 x1 x2 w R := by kernel_rfl
theorem ok_unpack_read {x0 x1 x2 w : _} {R : Value → World → Prop} (h : T_unpack_read x0 x1 x2 w R) : Gv Try.prog 96 #[x0, x1, x2] w R :=
  fn_of_D (fn := Try.f96) follows Try.func96 (by kernel_rfl) ((e_unpack_read x0 x1 x2 w R).symm ▸ h)

/-- (*nameplate/unpack.reader).told -/
abbrev F_unpack_reader_told : Nat := 97
def T_unpack_reader_told (x0 : Value) (w : World) (R : Value → World → Prop) : Prop :=
nck x0 fun v1 =>
pu Try.prog (Instr.fieldAt 160 v1 7) fun v2 =>
rd Try.prog (Instr.loadAt 24 v2) w fun v3 =>
pu Try.prog (bin .neq 24 false true v3 (.int .i64 0)) fun v4 =>
brV v4 (
dw w fun w5 =>
nck x0 fun v6 =>
pu Try.prog (Instr.fieldAt 160 v6 7) fun v7 =>
rd Try.prog (Instr.loadAt 24 v7) w5 fun v8 =>
R (.tuple #[(.string { data := #[] }), (.int .i64 0), v8]) w5) (
dw w fun w9 =>
nck x0 fun v10 =>
pu Try.prog (Instr.fieldAt 160 v10 6) fun v11 =>
nck x0 fun v12 =>
pu Try.prog (Instr.fieldAt 160 v12 3) fun v13 =>
rd Try.prog (Instr.loadAt 3 v13) w9 fun v14 =>
Gv Try.prog 100 #[v11] w9 fun v15 w16 =>
rdV Try.prog (Instr.loadAt 3 v13) v14 w16 ∧ (R (.tuple #[v15, v14, (.int .i64 0)]) w16))
theorem e_unpack_reader_told (x0 : Value) (w : World) (R : Value → World → Prop) : fnD Try.prog Try.f97 (.two .nil (.two (.two .nil (.two (.two (.plan [0, 1, 3, 7, 0, 16, 63] (.q 0 (.q 1 (.q 2 (.q 3 (.q 4 (.q 5 (.q 6 .done)))))))) .nil) .nil)) (.two (.plan [0, 1, 3, 7, 0, 16, 48, 112, 15, 511, 1023] (.q 0 (.q 1 (.q 2 (.q 4 (.q 5 (.q 6 (.q 7 (.e 3 (.q 8 (.q 9 (.q 10 .done))) .nil))))))))) .nil))) [x0] w R = T_unpack_reader_told x0 w R := by kernel_rfl
theorem ok_unpack_reader_told {x0 w : _} {R : Value → World → Prop} (h : T_unpack_reader_told x0 w R) : Gv Try.prog 97 #[x0] w R :=
  fn_of_D (fn := Try.f97) follows Try.func97 (by kernel_rfl) ((e_unpack_reader_told x0 w R).symm ▸ h)

/-- (*nameplate/unpack.reader).fail -/
abbrev F_unpack_reader_fail : Nat := 98
def T_unpack_reader_fail (x0 : Value) (x1 : Value) (w : World) (R : Value → World → Prop) : Prop :=
nck x0 fun v1 =>
pu Try.prog (Instr.fieldAt 160 v1 7) fun v2 =>
efU Try.prog (Instr.storeAt 24 v2 x1) w fun w4 =>
R (.bool false) w4
theorem e_unpack_reader_fail (x0 : Value) (x1 : Value) (w : World) (R : Value → World → Prop) : fnD Try.prog Try.f98 .nil [x0, x1] w R = T_unpack_reader_fail x0 x1 w R := by kernel_rfl
theorem ok_unpack_reader_fail {x0 x1 w : _} {R : Value → World → Prop} (h : T_unpack_reader_fail x0 x1 w R) : Gv Try.prog 98 #[x0, x1] w R :=
  fn_of_D (fn := Try.f98) follows Try.func98 (by kernel_rfl) ((e_unpack_reader_fail x0 x1 w R).symm ▸ h)

/-- (*nameplate/unpack.reader).step -/
abbrev F_unpack_reader_step : Nat := 99
def T_unpack_reader_step (x0 : Value) (w : World) (R : Value → World → Prop) : Prop :=
dw w fun w1 =>
nck x0 fun v2 =>
pu Try.prog (Instr.fieldAt 160 v2 1) fun v3 =>
rd Try.prog (Instr.loadAt 3 v3) w1 fun v4 =>
nck x0 fun v5 =>
pu Try.prog (Instr.fieldAt 160 v5 0) fun v6 =>
rd Try.prog (Instr.loadAt 9 v6) w1 fun v7 =>
pu Try.prog (bltS .len #[9] 3 #[v7]) fun v8 =>
pu Try.prog (bin .geq 3 false false v4 v8) fun v9 =>
brV v9 (
Gv Try.prog 98 #[x0, (.int .i64 8)] w1 fun v10 w11 =>
R v10 w11) (
dw w1 fun w12 =>
nck x0 fun v13 =>
pu Try.prog (Instr.fieldAt 160 v13 0) fun v14 =>
rd Try.prog (Instr.loadAt 9 v14) w12 fun v15 =>
nck x0 fun v16 =>
pu Try.prog (Instr.fieldAt 160 v16 1) fun v17 =>
rd Try.prog (Instr.loadAt 3 v17) w12 fun v18 =>
pu Try.prog (Instr.index 9 v15 v18) fun v19 =>
pu Try.prog (convert 5 3 v19) fun v20 =>
pu Try.prog (bin .eql 3 false true v20 (.int .i64 0)) fun v21 =>
brV v21 (
Gv Try.prog 101 #[x0, (.int .i64 1)] w12 fun v22 w23 =>
R (.bool false) w23) (
pu Try.prog (bin .lss 3 false true v20 (.int .i64 64)) fun v24 =>
brV v24 (
Gv Try.prog 102 #[x0, v20] w12 fun v25 w26 =>
R v25 w26) (
pu Try.prog (bin .geq 3 false true v20 (.int .i64 192)) fun v27 =>
brV v27 (
nck x0 fun v28 =>
pu Try.prog (Instr.fieldAt 160 v28 5) fun v29 =>
rd Try.prog (Instr.loadAt 4 v29) w12 fun v30 =>
brV v30 (
pu Try.prog (bin .sub 3 false true v20 (.int .i64 192)) fun v31 =>
Gv Try.prog 103 #[x0, v31] w12 fun v32 w33 =>
R v32 w33) (
Gv Try.prog 98 #[x0, (.int .i64 4)] w12 fun v34 w35 =>
R v34 w35)) (
Gv Try.prog 98 #[x0, (.int .i64 4)] w12 fun v36 w37 =>
R v36 w37))))
theorem e_unpack_reader_step (x0 : Value) (w : World) (R : Value → World → Prop) : fnD Try.prog Try.f99 (.two .nil (.two (.two (.plan [0, 1, 3, 7, 0, 16, 48, 112, 240, 511] (.q 0 (.q 1 (.q 2 (.q 3 (.q 4 (.q 5 (.q 6 (.q 7 (.q 8 (.q 9 .done))))))))))) .nil) (.two (.two (.plan [0, 1, 3, 7, 0, 16, 48, 112, 255, 511, 1023] (.q 0 (.q 1 (.q 2 (.q 3 (.q 4 (.q 5 (.q 6 (.q 7 (.q 8 (.q 9 (.q 10 .done)))))))))))) .nil) .nil))) [x0] w R = T_unpack_reader_step x0 w R := by kernel_rfl
theorem ok_unpack_reader_step {x0 w : _} {R : Value → World → Prop} (h : T_unpack_reader_step x0 w R) : Gv Try.prog 99 #[x0] w R :=
  fn_of_D (fn := Try.f99) follows Try.func99 (by kernel_rfl) ((e_unpack_reader_step x0 w R).symm ▸ h)

/-- (*strings.Builder).String -/
abbrev F_strings_Builder_String : Nat := 100
def T_strings_Builder_String (x0 : Value) (w : World) (R : Value → World → Prop) : Prop :=
dw w fun w1 =>
nck x0 fun v2 =>
pu Try.prog (Instr.fieldAt 158 v2 1) fun v3 =>
rd Try.prog (Instr.loadAt 34 v3) w1 fun v4 =>
pu Try.prog (bltS .unsafeSliceData #[34] 162 #[v4]) fun v5 =>
nck x0 fun v6 =>
pu Try.prog (Instr.fieldAt 158 v6 1) fun v7 =>
rd Try.prog (Instr.loadAt 34 v7) w1 fun v8 =>
pu Try.prog (bltS .len #[34] 3 #[v8]) fun v9 =>
ef Try.prog (bltS .unsafeString #[162, 3] 9 #[v5, v9]) w1 fun v10 w11 =>
R v10 w11
theorem e_strings_Builder_String (x0 : Value) (w : World) (R : Value → World → Prop) : fnD Try.prog Try.f100 (.two .nil (.two (.plan [0, 1, 3, 7, 15, 0, 32, 96, 224, 480, 1023, 2047] (.q 0 (.q 1 (.q 2 (.q 3 (.q 4 (.q 5 (.q 6 (.q 7 (.q 8 (.q 9 (.e 10 (.q 11 .done) .nil)))))))))))) .nil)) [x0] w R = T_strings_Builder_String x0 w R := by kernel_rfl
theorem ok_strings_Builder_String {x0 w : _} {R : Value → World → Prop} (h : T_strings_Builder_String x0 w R) : Gv Try.prog 100 #[x0] w R :=
  fn_of_D (fn := Try.f100) follows Try.func100 (by kernel_rfl) ((e_strings_Builder_String x0 w R).symm ▸ h)

/-- (*nameplate/unpack.reader).leave -/
abbrev F_unpack_reader_leave : Nat := 101
def T_unpack_reader_leave (x0 : Value) (x1 : Value) (w : World) (R : Value → World → Prop) : Prop :=
nck x0 fun v1 =>
pu Try.prog (Instr.fieldAt 160 v1 3) fun v2 =>
rd Try.prog (Instr.loadAt 3 v2) w fun v3 =>
pu Try.prog (bin .lss 3 false true v3 (.int .i64 0)) fun v4 =>
brV v4 (
nck x0 fun v5 =>
pu Try.prog (Instr.fieldAt 160 v5 1) fun v6 =>
rd Try.prog (Instr.loadAt 3 v6) w fun v7 =>
pu Try.prog (bin .add 3 false false v7 x1) fun v8 =>
nck x0 fun v9 =>
pu Try.prog (Instr.fieldAt 160 v9 3) fun v10 =>
efU Try.prog (Instr.storeAt 3 v10 v8) w fun w12 =>
R (.tuple #[]) w12) (
R (.tuple #[]) w)
theorem e_unpack_reader_leave (x0 : Value) (x1 : Value) (w : World) (R : Value → World → Prop) : fnD Try.prog Try.f101 .nil [x0, x1] w R = T_unpack_reader_leave x0 x1 w R := by kernel_rfl
theorem ok_unpack_reader_leave {x0 x1 w : _} {R : Value → World → Prop} (h : T_unpack_reader_leave x0 x1 w R) : Gv Try.prog 101 #[x0, x1] w R :=
  fn_of_D (fn := Try.f101) follows Try.func101 (by kernel_rfl) ((e_unpack_reader_leave x0 x1 w R).symm ▸ h)

/-- (*nameplate/unpack.reader).label -/
abbrev F_unpack_reader_label : Nat := 102
def T_unpack_reader_label (x0 : Value) (x1 : Value) (w : World) (R : Value → World → Prop) : Prop :=
dw w fun w1 =>
nck x0 fun v2 =>
pu Try.prog (Instr.fieldAt 160 v2 1) fun v3 =>
rd Try.prog (Instr.loadAt 3 v3) w1 fun v4 =>
pu Try.prog (bin .add 3 false true v4 (.int .i64 1)) fun v5 =>
pu Try.prog (bin .add 3 false false v5 x1) fun v6 =>
nck x0 fun v7 =>
pu Try.prog (Instr.fieldAt 160 v7 0) fun v8 =>
rd Try.prog (Instr.loadAt 9 v8) w1 fun v9 =>
pu Try.prog (bltS .len #[9] 3 #[v9]) fun v10 =>
pu Try.prog (bin .gtr 3 false false v6 v10) fun v11 =>
brV v11 (
Gv Try.prog 98 #[x0, (.int .i64 8)] w1 fun v12 w13 =>
R v12 w13) (
dw w1 fun w14 =>
nck x0 fun v15 =>
pu Try.prog (Instr.fieldAt 160 v15 6) fun v16 =>
nck x0 fun v17 =>
pu Try.prog (Instr.fieldAt 160 v17 0) fun v18 =>
rd Try.prog (Instr.loadAt 9 v18) w14 fun v19 =>
nck x0 fun v20 =>
pu Try.prog (Instr.fieldAt 160 v20 1) fun v21 =>
rd Try.prog (Instr.loadAt 3 v21) w14 fun v22 =>
nck x0 fun v23 =>
pu Try.prog (Instr.fieldAt 160 v23 1) fun v24 =>
rd Try.prog (Instr.loadAt 3 v24) w14 fun v25 =>
pu Try.prog (bin .add 3 false true v25 (.int .i64 1)) fun v26 =>
pu Try.prog (bin .add 3 false false v26 x1) fun v27 =>
pu Try.prog (Instr.sliceAt 9 v19 (some v22) (some v27) none) fun v28 =>
Gv Try.prog 104 #[v16, v28] w14 fun v29 w30 =>
nck x0 fun v31 =>
pu Try.prog (Instr.fieldAt 160 v31 1) fun v32 =>
rd Try.prog (Instr.loadAt 3 v32) w30 fun v33 =>
pu Try.prog (bin .add 3 true false (.int .i64 1) x1) fun v34 =>
pu Try.prog (bin .add 3 false false v33 v34) fun v35 =>
nck x0 fun v36 =>
pu Try.prog (Instr.fieldAt 160 v36 1) fun v37 =>
efU Try.prog (Instr.storeAt 3 v37 v35) w30 fun w39 =>
nck x0 fun v40 =>
pu Try.prog (Instr.fieldAt 160 v40 6) fun v41 =>
Gv Try.prog 105 #[v41] w39 fun v42 w43 =>
pu Try.prog (bin .gtr 3 false true v42 (.int .i64 254)) fun v44 =>
brV v44 (
Gv Try.prog 98 #[x0, (.int .i64 3)] w43 fun v45 w46 =>
R v45 w46) (
R (.bool true) w43))
theorem e_unpack_reader_label (x0 : Value) (x1 : Value) (w : World) (R : Value → World → Prop) : fnD Try.prog Try.f102 (.two .nil (.two (.two (.plan [0, 1, 3, 7, 15, 0, 63, 0, 128, 384, 896, 1920, 4095] (.q 0 (.q 1 (.q 2 (.q 3 (.q 4 (.q 5 (.q 6 (.q 7 (.q 8 (.q 9 (.q 10 (.q 11 (.q 12 .done)))))))))))))) .nil) (.two (.plan [0, 1, 3, 0, 8, 24, 56, 0, 128, 384, 896, 0, 2048, 6144, 14336, 30720, 0, 129024, 262136, 524287] (.q 0 (.q 1 (.q 2 (.q 3 (.q 4 (.q 5 (.q 6 (.q 7 (.q 8 (.q 9 (.q 10 (.q 11 (.q 12 (.q 13 (.q 14 (.q 15 (.q 16 (.q 17 (.q 18 (.e 19 .done .nil))))))))))))))))))))) .nil))) [x0, x1] w R = T_unpack_reader_label x0 x1 w R := by kernel_rfl
theorem ok_unpack_reader_label {x0 x1 w : _} {R : Value → World → Prop} (h : T_unpack_reader_label x0 x1 w R) : Gv Try.prog 102 #[x0, x1] w R :=
  fn_of_D (fn := Try.f102) follows Try.func102 (by kernel_rfl) ((e_unpack_reader_label x0 x1 w R).symm ▸ h)

/-- (*nameplate/unpack.reader).jump -/
abbrev F_unpack_reader_jump : Nat := 103
def T_unpack_reader_jump (x0 : Value) (x1 : Value) (w : World) (R : Value → World → Prop) : Prop :=
dw w fun w1 =>
nck x0 fun v2 =>
pu Try.prog (Instr.fieldAt 160 v2 1) fun v3 =>
rd Try.prog (Instr.loadAt 3 v3) w1 fun v4 =>
pu Try.prog (bin .add 3 false true v4 (.int .i64 2)) fun v5 =>
nck x0 fun v6 =>
pu Try.prog (Instr.fieldAt 160 v6 0) fun v7 =>
rd Try.prog (Instr.loadAt 9 v7) w1 fun v8 =>
pu Try.prog (bltS .len #[9] 3 #[v8]) fun v9 =>
pu Try.prog (bin .gtr 3 false false v5 v9) fun v10 =>
brV v10 (
Gv Try.prog 98 #[x0, (.int .i64 8)] w1 fun v11 w12 =>
R v11 w12) (
dw w1 fun w13 =>
pu Try.prog (bin .shl 3 false true x1 (.int .u64 8)) fun v14 =>
nck x0 fun v15 =>
pu Try.prog (Instr.fieldAt 160 v15 0) fun v16 =>
rd Try.prog (Instr.loadAt 9 v16) w13 fun v17 =>
nck x0 fun v18 =>
pu Try.prog (Instr.fieldAt 160 v18 1) fun v19 =>
rd Try.prog (Instr.loadAt 3 v19) w13 fun v20 =>
pu Try.prog (bin .add 3 false true v20 (.int .i64 1)) fun v21 =>
pu Try.prog (Instr.index 9 v17 v21) fun v22 =>
pu Try.prog (convert 5 3 v22) fun v23 =>
pu Try.prog (bin .or 3 false false v14 v23) fun v24 =>
nck x0 fun v25 =>
pu Try.prog (Instr.fieldAt 160 v25 2) fun v26 =>
rd Try.prog (Instr.loadAt 3 v26) w13 fun v27 =>
pu Try.prog (bin .geq 3 false false v24 v27) fun v28 =>
brV v28 (
Gv Try.prog 98 #[x0, (.int .i64 4)] w13 fun v29 w30 =>
R v29 w30) (
Gv Try.prog 101 #[x0, (.int .i64 2)] w13 fun v31 w32 =>
nck x0 fun v33 =>
pu Try.prog (Instr.fieldAt 160 v33 1) fun v34 =>
efU Try.prog (Instr.storeAt 3 v34 v24) w32 fun w36 =>
nck x0 fun v37 =>
pu Try.prog (Instr.fieldAt 160 v37 2) fun v38 =>
efU Try.prog (Instr.storeAt 3 v38 v24) w36 fun w40 =>
nck x0 fun v41 =>
pu Try.prog (Instr.fieldAt 160 v41 4) fun v42 =>
rd Try.prog (Instr.loadAt 3 v42) w40 fun v43 =>
pu Try.prog (bin .add 3 false true v43 (.int .i64 1)) fun v44 =>
nck x0 fun v45 =>
pu Try.prog (Instr.fieldAt 160 v45 4) fun v46 =>
efU Try.prog (Instr.storeAt 3 v46 v44) w40 fun w48 =>
R (.bool true) w48))
theorem e_unpack_reader_jump (x0 : Value) (x1 : Value) (w : World) (R : Value → World → Prop) : fnD Try.prog Try.f103 (.two .nil (.two (.two (.plan [0, 1, 3, 7, 15, 0, 32, 96, 224, 480, 1023] (.q 0 (.q 1 (.q 2 (.q 3 (.q 4 (.q 5 (.q 6 (.q 7 (.q 8 (.q 9 (.q 10 .done)))))))))))) .nil) (.two (.plan [0, 1, 0, 4, 12, 28, 0, 64, 192, 448, 960, 2044, 4092, 8191, 16383] (.q 0 (.q 1 (.q 2 (.q 3 (.q 4 (.q 5 (.q 6 (.q 7 (.q 8 (.q 9 (.q 10 (.q 11 (.q 12 (.q 13 (.q 14 .done)))))))))))))))) .nil))) [x0, x1] w R = T_unpack_reader_jump x0 x1 w R := by kernel_rfl
theorem ok_unpack_reader_jump {x0 x1 w : _} {R : Value → World → Prop} (h : T_unpack_reader_jump x0 x1 w R) : Gv Try.prog 103 #[x0, x1] w R :=
  fn_of_D (fn := Try.f103) follows Try.func103 (by kernel_rfl) ((e_unpack_reader_jump x0 x1 w R).symm ▸ h)

/-- (*strings.Builder).WriteString -/
abbrev F_strings_Builder_WriteString : Nat := 104
def T_strings_Builder_WriteString (x0 : Value) (x1 : Value) (w : World) (R : Value → World → Prop) : Prop :=
Gv Try.prog 106 #[x0] w fun v1 w2 =>
nck x0 fun v3 =>
pu Try.prog (Instr.fieldAt 158 v3 1) fun v4 =>
rd Try.prog (Instr.loadAt 34 v4) w2 fun v5 =>
ef Try.prog (bltS .append #[34, 9] 34 #[v5, x1]) w2 fun v6 w7 =>
nck x0 fun v8 =>
pu Try.prog (Instr.fieldAt 158 v8 1) fun v9 =>
efU Try.prog (Instr.storeAt 34 v9 v6) w7 fun w11 =>
pu Try.prog (bltS .len #[9] 3 #[x1]) fun v12 =>
R (.tuple #[v12, .nilIface]) w11
theorem e_strings_Builder_WriteString (x0 : Value) (x1 : Value) (w : World) (R : Value → World → Prop) : fnD Try.prog Try.f104 .nil [x0, x1] w R = T_strings_Builder_WriteString x0 x1 w R := by kernel_rfl
theorem ok_strings_Builder_WriteString {x0 x1 w : _} {R : Value → World → Prop} (h : T_strings_Builder_WriteString x0 x1 w R) : Gv Try.prog 104 #[x0, x1] w R :=
  fn_of_D (fn := Try.f104) follows Try.func104 (by kernel_rfl) ((e_strings_Builder_WriteString x0 x1 w R).symm ▸ h)

/-- (*strings.Builder).Len -/
abbrev F_strings_Builder_Len : Nat := 105
def T_strings_Builder_Len (x0 : Value) (w : World) (R : Value → World → Prop) : Prop :=
nck x0 fun v1 =>
pu Try.prog (Instr.fieldAt 158 v1 1) fun v2 =>
rd Try.prog (Instr.loadAt 34 v2) w fun v3 =>
pu Try.prog (bltS .len #[34] 3 #[v3]) fun v4 =>
R v4 w
theorem e_strings_Builder_Len (x0 : Value) (w : World) (R : Value → World → Prop) : fnD Try.prog Try.f105 .nil [x0] w R = T_strings_Builder_Len x0 w R := by kernel_rfl
theorem ok_strings_Builder_Len {x0 w : _} {R : Value → World → Prop} (h : T_strings_Builder_Len x0 w R) : Gv Try.prog 105 #[x0] w R :=
  fn_of_D (fn := Try.f105) follows Try.func105 (by kernel_rfl) ((e_strings_Builder_Len x0 w R).symm ▸ h)

/-- (*strings.Builder).copyCheck -/
abbrev F_strings_Builder_copyCheck : Nat := 106
def T_strings_Builder_copyCheck (x0 : Value) (w : World) (R : Value → World → Prop) : Prop :=
nck x0 fun v1 =>
pu Try.prog (Instr.fieldAt 158 v1 0) fun v2 =>
rd Try.prog (Instr.loadAt 156 v2) w fun v3 =>
pu Try.prog (bin .eql 156 false true v3 (.pointer none)) fun v4 =>
brV v4 (
rd Try.prog (convert 156 167 x0) w fun v5 =>
xt Try.prog 107 #[v5] w fun v6 w7 =>
rd Try.prog (convert 167 156 v6) w7 fun v8 =>
nck x0 fun v9 =>
pu Try.prog (Instr.fieldAt 158 v9 0) fun v10 =>
efU Try.prog (Instr.storeAt 156 v10 v8) w7 fun w12 =>
R (.tuple #[]) w12) (
nck x0 fun v13 =>
pu Try.prog (Instr.fieldAt 158 v13 0) fun v14 =>
rd Try.prog (Instr.loadAt 156 v14) w fun v15 =>
pu Try.prog (bin .neq 156 false false v15 x0) fun v16 =>
brV v16 (
False) (
R (.tuple #[]) w))
theorem e_strings_Builder_copyCheck (x0 : Value) (w : World) (R : Value → World → Prop) : fnD Try.prog Try.f106 .nil [x0] w R = T_strings_Builder_copyCheck x0 w R := by kernel_rfl
theorem ok_strings_Builder_copyCheck {x0 w : _} {R : Value → World → Prop} (h : T_strings_Builder_copyCheck x0 w R) : Gv Try.prog 106 #[x0] w R :=
  fn_of_D (fn := Try.f106) follows Try.func106 (by kernel_rfl) ((e_strings_Builder_copyCheck x0 w R).symm ▸ h)
end Go.Proofs.Ytkpinncakbnikaa
