/-
  The shallow functions of the seat, and that they are what the machine does.
-/
import Derived.Test.YtejokpfeepbfeaaAmSh
import Derived.Test.YtejokpfeepbfeaaAmTab
set_option linter.unusedSimpArgs false
set_option linter.unusedVariables false
set_option linter.unnecessarySimpa false
namespace Go.Proofs.YtejokpfeepbfeaaAm
open Go.AM

-- hedgewright/hands.Run
def f9j6 (cr : FuncId → List Value → Heap → Res) (n : Nat) (t8 t20 : Value) (h : Heap) : Res :=
  bindR (ldNR h 2 t20) fun t126 h21 =>
  bindR (stNR h21 2 t8 t126) fun _ h22 =>
  bindR (some (.ret (.int .i64 0) h22)) fun t9 h23 =>
  (((some []).bind fun l => bif clean t9 then some (t9 :: l) else none).bind fun l => ((ldN h23 2 t8).map fun c => Value.agg c.toArray).map fun v => v :: l).bind fun l => some (.ret (tup l) h23)
def f9j9 (cr : FuncId → List Value → Heap → Res) (n : Nat) (nx10 : List Value → Heap → Res) (t8 t20 t114 t115 t116 : Value) (h : Heap) : Res :=
  bindR (pureR (intB .add t116 (.int .i64 1)) h) fun t125 h31 =>
  bindR (some (.ret t125 h31)) fun t116 h32 =>
  nx10 [t116] h32
def f9j8 (cr : FuncId → List Value → Heap → Res) (n : Nat) (nx10 : List Value → Heap → Res) (t8 t20 t114 t115 t116 : Value) (h : Heap) : Res :=
  bindR (pureR (idxS 1 t114 t116) h) fun t118 h33 =>
  bindR (ldR h33 t118) fun t119 h34 =>
  bindR (some (.ret t119 h34)) fun t22 h35 =>
  bindR (pureR (padd 0 t20) h35) fun t120 h36 =>
  bindR (ldR h36 t120) fun t121 h37 =>
  bindR (some (.ret t22 h37)) fun t122 h38 =>
  bindR (appR 5 40 h38 t121 t122) fun t123 h39 =>
  bindR (pureR (padd 0 t20) h39) fun t124 h40 =>
  bindR (stR h40 t124 t123) fun _ h41 =>
  f9j9 cr n nx10 t8 t20 t114 t115 t116 h41
def f9j7 (cr : FuncId → List Value → Heap → Res) (n : Nat) (nx10 : List Value → Heap → Res) (t8 t20 t114 t115 t116 : Value) (h : Heap) : Res :=
  bindR (pureR (intB .lss t116 t115) h) fun t117 h30 =>
  ifR t117
  (f9j8 cr n nx10 t8 t20 t114 t115 t116 h30)
  (cond (Nat.beq 10 10) (f9j6 cr n t8 t20 h30) (none))
def f9j5 (cr : FuncId → List Value → Heap → Res) (n : Nat) (t8 t13 : Value) (h : Heap) : Res :=
  bindR (some (.ret t13 h)) fun t108 h16 =>
  bindR (cr 19 [t108] h16) fun t109 h17 =>
  bindR (pureR ((fillL [(.slice none 0 0), (.slice none 0 0)] [(1, 1, t109)]).map fun c => .agg c.toArray) h17) fun t110 h18 =>
  bindR (newR h18 [(.slice none 0 0), (.slice none 0 0)]) fun t20 h19 =>
  bindR (stNR h19 2 t20 t110) fun _ h20 =>
  bindR (some (.ret t13 h20)) fun t111 h24 =>
  bindR (pureR (nonnil t111) h24) fun t112 h25 =>
  bindR (pureR (padd 4 t112) h25) fun t113 h26 =>
  bindR (ldR h26 t113) fun t114 h27 =>
  bindR (lenRS h27 t114) fun t115 h28 =>
  bindR (some (.ret (.int .i64 0) h28)) fun t116 h29 =>
  iterK n (fun nx10 (σ : List Value) h => f9j7 cr n nx10 t8 t20 t114 t115 (σ.headD undef) h) [t116] h29
def f9j14 (cr : FuncId → List Value → Heap → Res) (n : Nat) (nx6 : List Value → Heap → Res) (nx8 : List Value → Heap → Res) (t2 t8 t13 t18 t93 t94 : Value) (h : Heap) : Res :=
  bindR (pureR (intB .add t94 (.int .i64 1)) h) fun t107 h48 =>
  bindR (some (.ret t107 h48)) fun t94 h49 =>
  nx8 [t18, t94] h49
def f9j13 (cr : FuncId → List Value → Heap → Res) (n : Nat) (nx6 : List Value → Heap → Res) (nx8 : List Value → Heap → Res) (t2 t8 t13 t18 t93 t94 : Value) (h : Heap) : Res :=
  bindR (some (.ret t94 h)) fun t96 h50 =>
  bindR (some (.ret t96 h50)) fun t19 h51 =>
  bindR (some (.ret t13 h51)) fun t97 h52 =>
  bindR (pureR (nonnil t97) h52) fun t98 h53 =>
  bindR (pureR (padd 3 t98) h53) fun t99 h54 =>
  bindR (ldR h54 t99) fun t100 h55 =>
  bindR (pureR (intB .lss t100 (.int .i64 4000)) h55) fun t101 h56 =>
  bindR (some (.ret t101 h56)) fun t102 h57 =>
  bindR (gd true t102 (some (.ret t13 h57)) h57) fun t103 h58 =>
  bindR (gd true t102 (some (.ret t19 h58)) h58) fun t104 h59 =>
  bindR (gd true t102 (cr 18 [t103, t104] h59) h59) fun t105 h60 =>
  bindR (pureR (pickV t102 t105 (.bool false)) h60) fun t106 h61 =>
  ifR t106
  (bindR (some (.ret (.bool true) h61)) fun t18 h62 =>
  f9j14 cr n nx6 nx8 t2 t8 t13 t18 t93 t94 h62)
  (f9j14 cr n nx6 nx8 t2 t8 t13 t18 t93 t94 h61)
def f9j12 (cr : FuncId → List Value → Heap → Res) (n : Nat) (nx6 : List Value → Heap → Res) (nx8 : List Value → Heap → Res) (t2 t8 t13 t18 t93 t94 : Value) (h : Heap) : Res :=
  bindR (pureR (intB .lss t94 t93) h) fun t95 h47 =>
  ifR t95
  (f9j13 cr n nx6 nx8 t2 t8 t13 t18 t93 t94 h47)
  (cond (Nat.beq 8 8) (nx6 [t18] h47) (cond (Nat.beq 8 7) (nx6 [t18] h47) (cond (Nat.beq 8 6) (f9j5 cr n t8 t13 h47) (none))))
def f9j11 (cr : FuncId → List Value → Heap → Res) (n : Nat) (nx6 : List Value → Heap → Res) (t2 t8 t13 : Value) (h : Heap) : Res :=
  bindR (some (.ret (.bool false) h)) fun t18 h43 =>
  bindR (some (.ret t2 h43)) fun t92 h44 =>
  bindR (lenRS h44 t92) fun t93 h45 =>
  bindR (some (.ret (.int .i64 0) h45)) fun t94 h46 =>
  iterK n (fun nx8 (σ : List Value) h => f9j12 cr n nx6 nx8 t2 t8 t13 (σ.headD undef) t93 (σ.tail.headD undef) h) [t18, t94] h46
def f9j10 (cr : FuncId → List Value → Heap → Res) (n : Nat) (nx6 : List Value → Heap → Res) (t2 t8 t13 t18 : Value) (h : Heap) : Res :=
  bindR (some (.ret t18 h)) fun t91 h63 =>
  ifR t91
  (f9j11 cr n nx6 t2 t8 t13 h63)
  (cond (Nat.beq 6 6) (f9j5 cr n t8 t13 h63) (none))
def f9j4 (cr : FuncId → List Value → Heap → Res) (n : Nat) (t2 t8 t13 : Value) (h : Heap) : Res :=
  bindR (some (.ret (.bool true) h)) fun t18 h42 =>
  iterK n (fun nx6 (σ : List Value) h => f9j10 cr n nx6 t2 t8 t13 (σ.headD undef) h) [t18] h42
def f9j17 (cr : FuncId → List Value → Heap → Res) (n : Nat) (nx4 : List Value → Heap → Res) (t2 t8 t13 t76 t77 t78 : Value) (h : Heap) : Res :=
  bindR (pureR (intB .add t78 (.int .i64 1)) h) fun t90 h68 =>
  bindR (some (.ret t90 h68)) fun t78 h69 =>
  nx4 [t78] h69
def f9j16 (cr : FuncId → List Value → Heap → Res) (n : Nat) (nx4 : List Value → Heap → Res) (t2 t8 t13 t76 t77 t78 : Value) (h : Heap) : Res :=
  bindR (pureR (idxS 1 t76 t78) h) fun t80 h70 =>
  bindR (ldR h70 t80) fun t81 h71 =>
  bindR (some (.ret t81 h71)) fun t17 h72 =>
  bindR (some (.ret t17 h72)) fun t82 h73 =>
  bindR (some (.ret t2 h73)) fun t83 h74 =>
  bindR (lenRS h74 t83) fun t84 h75 =>
  bindR (pureR (intB .sub t84 (.int .i64 1)) h75) fun t85 h76 =>
  bindR (cr 17 [t82, (.int .i64 0), t85] h76) fun t86 h77 =>
  ifR t86
  (bindR (some (.ret t13 h77)) fun t87 h78 =>
  bindR (some (.ret t17 h78)) fun t88 h79 =>
  bindR (cr 18 [t87, t88] h79) fun t89 h80 =>
  f9j17 cr n nx4 t2 t8 t13 t76 t77 t78 h80)
  (f9j17 cr n nx4 t2 t8 t13 t76 t77 t78 h77)
def f9j15 (cr : FuncId → List Value → Heap → Res) (n : Nat) (nx4 : List Value → Heap → Res) (t2 t8 t13 t76 t77 t78 : Value) (h : Heap) : Res :=
  bindR (pureR (intB .lss t78 t77) h) fun t79 h67 =>
  ifR t79
  (f9j16 cr n nx4 t2 t8 t13 t76 t77 t78 h67)
  (cond (Nat.beq 4 4) (f9j4 cr n t2 t8 t13 h67) (none))
def f9j3 (cr : FuncId → List Value → Heap → Res) (n : Nat) (t2 t3 t8 t13 : Value) (h : Heap) : Res :=
  bindR (some (.ret t3 h)) fun t76 h64 =>
  bindR (lenRS h64 t76) fun t77 h65 =>
  bindR (some (.ret (.int .i64 0) h65)) fun t78 h66 =>
  iterK n (fun nx4 (σ : List Value) h => f9j15 cr n nx4 t2 t8 t13 t76 t77 (σ.headD undef) h) [t78] h66
def f9j20 (cr : FuncId → List Value → Heap → Res) (n : Nat) (nx2 : List Value → Heap → Res) (t2 t3 t8 t13 t57 t58 t59 : Value) (h : Heap) : Res :=
  bindR (pureR (intB .add t59 (.int .i64 1)) h) fun t75 h85 =>
  bindR (some (.ret t75 h85)) fun t59 h86 =>
  nx2 [t59] h86
def f9j19 (cr : FuncId → List Value → Heap → Res) (n : Nat) (nx2 : List Value → Heap → Res) (t2 t3 t8 t13 t57 t58 t59 : Value) (h : Heap) : Res :=
  bindR (pureR (idxS 1 t57 t59) h) fun t61 h87 =>
  bindR (ldR h87 t61) fun t62 h88 =>
  bindR (some (.ret t62 h88)) fun t15 h89 =>
  bindR (some (.ret t13 h89)) fun t63 h90 =>
  bindR (some (.ret t13 h90)) fun t64 h91 =>
  bindR (pureR (nonnil t64) h91) fun t65 h92 =>
  bindR (pureR (padd 2 t65) h92) fun t66 h93 =>
  bindR (ldR h93 t66) fun t67 h94 =>
  bindR (some (.ret t15 h94)) fun t68 h95 =>
  bindR (pureR ((fillL [(.slice none 0 0), (.int .i64 0), .nilFunc, (.pointer none), (.pointer none), (.bool false)] [(0, 1, t68)]).map fun c => .agg c.toArray) h95) fun t69 h96 =>
  bindR (boxR 6 h96 t69) fun t70 h97 =>
  bindR (buildSliceR 1 [(.pointer none)] h97 [(0, 1, t70)]) fun t71 h98 =>
  bindR (appR 1 8 h98 t67 t71) fun t72 h99 =>
  bindR (pureR (nonnil t63) h99) fun t73 h100 =>
  bindR (pureR (padd 2 t73) h100) fun t74 h101 =>
  bindR (stR h101 t74 t72) fun _ h102 =>
  f9j20 cr n nx2 t2 t3 t8 t13 t57 t58 t59 h102
def f9j18 (cr : FuncId → List Value → Heap → Res) (n : Nat) (nx2 : List Value → Heap → Res) (t2 t3 t8 t13 t57 t58 t59 : Value) (h : Heap) : Res :=
  bindR (pureR (intB .lss t59 t58) h) fun t60 h84 =>
  ifR t60
  (f9j19 cr n nx2 t2 t3 t8 t13 t57 t58 t59 h84)
  (cond (Nat.beq 2 2) (f9j3 cr n t2 t3 t8 t13 h84) (none))
def f9j2 (cr : FuncId → List Value → Heap → Res) (n : Nat) (t0 t2 t3 t8 t11 : Value) (h : Heap) : Res :=
  bindR (some (.ret t0 h)) fun t48 h6 =>
  bindR (some (.ret t11 h6)) fun t49 h7 =>
  bindR (pureR ((fillL [(.int .i64 0), (.pointer none), (.bool false), (.bool false)] [(0, 1, (.int .i64 (-1))), (1, 1, t49)]).map fun c => .agg c.toArray) h7) fun t50 h8 =>
  bindR (boxR 4 h8 t50) fun t51 h9 =>
  bindR (some (.ret t2 h9)) fun t52 h10 =>
  bindR (lenRS h10 t52) fun t53 h11 =>
  bindR (makeR [(.slice none 0 0)] 24 h11 t53 t53) fun t54 h12 =>
  bindR (pureR ((fillL [(.int .i64 0), (.pointer none), (.slice none 0 0), (.int .i64 0), (.slice none 0 0)] [(0, 1, t48), (1, 1, t51), (4, 1, t54)]).map fun c => .agg c.toArray) h12) fun t55 h13 =>
  bindR (boxR 5 h13 t55) fun t56 h14 =>
  bindR (some (.ret t56 h14)) fun t13 h15 =>
  bindR (some (.ret t2 h15)) fun t57 h81 =>
  bindR (lenRS h81 t57) fun t58 h82 =>
  bindR (some (.ret (.int .i64 0) h82)) fun t59 h83 =>
  iterK n (fun nx2 (σ : List Value) h => f9j18 cr n nx2 t2 t3 t8 t13 t57 t58 (σ.headD undef) h) [t59] h83
def f9j23 (cr : FuncId → List Value → Heap → Res) (n : Nat) (nx0 : List Value → Heap → Res) (t0 t1 t2 t3 t8 t11 t12 : Value) (h : Heap) : Res :=
  bindR (some (.ret t12 h)) fun t39 h107 =>
  bindR (pureR (intB .sub t39 (.int .i64 1)) h107) fun t40 h108 =>
  bindR (some (.ret t40 h108)) fun t12 h109 =>
  nx0 [t11, t12] h109
def f9j22 (cr : FuncId → List Value → Heap → Res) (n : Nat) (nx0 : List Value → Heap → Res) (t0 t1 t2 t3 t8 t11 t12 : Value) (h : Heap) : Res :=
  bindR (some (.ret t1 h)) fun t41 h110 =>
  bindR (some (.ret t12 h110)) fun t42 h111 =>
  bindR (pureR (idxS 1 t41 t42) h111) fun t43 h112 =>
  bindR (ldR h112 t43) fun t44 h113 =>
  bindR (some (.ret t11 h113)) fun t45 h114 =>
  bindR (pureR ((fillL [(.int .i64 0), (.pointer none), (.bool false), (.bool false)] [(0, 1, t44), (1, 1, t45)]).map fun c => .agg c.toArray) h114) fun t46 h115 =>
  bindR (boxR 4 h115 t46) fun t47 h116 =>
  bindR (some (.ret t47 h116)) fun t11 h117 =>
  f9j23 cr n nx0 t0 t1 t2 t3 t8 t11 t12 h117
def f9j21 (cr : FuncId → List Value → Heap → Res) (n : Nat) (nx0 : List Value → Heap → Res) (t0 t1 t2 t3 t8 t11 t12 : Value) (h : Heap) : Res :=
  bindR (some (.ret t12 h)) fun t37 h118 =>
  bindR (pureR (intB .geq t37 (.int .i64 0)) h118) fun t38 h119 =>
  ifR t38
  (f9j22 cr n nx0 t0 t1 t2 t3 t8 t11 t12 h119)
  (cond (Nat.beq 0 0) (f9j2 cr n t0 t2 t3 t8 t11 h119) (none))
def f9j1 (cr : FuncId → List Value → Heap → Res) (n : Nat) (t0 t1 t2 t3 t8 : Value) (h : Heap) : Res :=
  bindR (pureR ((fillL [(.int .i64 0), (.pointer none), (.bool false), (.bool false)] [(0, 1, (.int .i64 10))]).map fun c => .agg c.toArray) h) fun t32 h3 =>
  bindR (boxR 4 h3 t32) fun t33 h4 =>
  bindR (some (.ret t33 h4)) fun t11 h5 =>
  bindR (some (.ret t1 h5)) fun t34 h103 =>
  bindR (lenRS h103 t34) fun t35 h104 =>
  bindR (pureR (intB .sub t35 (.int .i64 1)) h104) fun t36 h105 =>
  bindR (some (.ret t36 h105)) fun t12 h106 =>
  iterK n (fun nx0 (σ : List Value) h => f9j21 cr n nx0 t0 t1 t2 t3 t8 (σ.headD undef) (σ.tail.headD undef) h) [t11, t12] h106
def f9 (cr : FuncId → List Value → Heap → Res) (n : Nat) (a0 a1 a2 a3 : Value) (h : Heap) : Res :=
  bindR (newR h [(.slice none 0 0), (.slice none 0 0)]) fun t8 h1 =>
  bindR (some (.ret (.int .i64 0) h1)) fun t9 h2 =>
  bindR (some (.ret a0 h2)) fun t23 h120 =>
  bindR (some (.ret a1 h120)) fun t24 h121 =>
  bindR (some (.ret a2 h121)) fun t25 h122 =>
  bindR (some (.ret a3 h122)) fun t26 h123 =>
  bindR (cr 16 [t23, t24, t25, t26] h123) fun t27 h124 =>
  bindR (some (.ret t27 h124)) fun t10 h125 =>
  bindR (some (.ret t10 h125)) fun t28 h126 =>
  bindR (pureR (intB .neq t28 (.int .i64 0)) h126) fun t29 h127 =>
  ifR t29
  (bindR (pureR ((fillL [(.slice none 0 0), (.slice none 0 0)] []).map fun c => .agg c.toArray) h127) fun t30 h128 =>
  bindR (some (.ret t10 h128)) fun t31 h129 =>
  bindR (stNR h129 2 t8 t30) fun _ h130 =>
  bindR (some (.ret t31 h130)) fun t9 h131 =>
  (((some []).bind fun l => bif clean t9 then some (t9 :: l) else none).bind fun l => ((ldN h131 2 t8).map fun c => Value.agg c.toArray).map fun v => v :: l).bind fun l => some (.ret (tup l) h131))
  (f9j1 cr n a0 a1 a2 a3 t8 h127)
theorem eq9 (cr : FuncId → List Value → Heap → Res) (n : Nat) (a0 a1 a2 a3 : Value) (h : Heap) : runR Try.prog cfg cr n 9 [a0, a1, a2, a3] h = f9 cr n a0 a1 a2 a3 h := by kernel_rfl
-- hedgewright/hands.right
def f16j5 (cr : FuncId → List Value → Heap → Res) (n : Nat) (h : Heap) : Res :=
  bindR (some (.ret (.int .i64 0) h)) fun t8 h2 =>
  ((some []).bind fun l => bif clean t8 then some (t8 :: l) else none).bind fun l => some (.ret (tup l) h2)
def f16j8 (cr : FuncId → List Value → Heap → Res) (n : Nat) (nx4 : List Value → Heap → Res) (t62 t63 t64 : Value) (h : Heap) : Res :=
  bindR (pureR (intB .add t64 (.int .i64 1)) h) fun t85 h7 =>
  bindR (some (.ret t85 h7)) fun t64 h8 =>
  nx4 [t64] h8
def f16j11 (cr : FuncId → List Value → Heap → Res) (n : Nat) (nx4 : List Value → Heap → Res) (nx6 : List Value → Heap → Res) (t62 t63 t64 t68 t69 t70 : Value) (h : Heap) : Res :=
  bindR (pureR (intB .add t70 (.int .i64 1)) h) fun t84 h16 =>
  bindR (some (.ret t84 h16)) fun t70 h17 =>
  nx6 [t70] h17
def f16j10 (cr : FuncId → List Value → Heap → Res) (n : Nat) (nx4 : List Value → Heap → Res) (nx6 : List Value → Heap → Res) (t62 t63 t64 t68 t69 t70 : Value) (h : Heap) : Res :=
  bindR (pureR (idxS 2 t68 t70) h) fun t72 h18 =>
  bindR (ldNR h18 2 t72) fun t73 h19 =>
  bindR (newR h19 [(.int .i64 0), (.int .i64 0)]) fun t16 h20 =>
  bindR (stNR h20 2 t16 t73) fun _ h21 =>
  bindR (pureR (padd 0 t16) h21) fun t74 h22 =>
  bindR (ldR h22 t74) fun t75 h23 =>
  bindR (cr 17 [t75, (.int .i64 1), (.int .i64 3)] h23) fun t76 h24 =>
  bindR (pureR (unV .not t76) h24) fun t77 h25 =>
  bindR (some (.ret t77 h25)) fun t78 h26 =>
  bindR (gd false t78 (pureR (padd 1 t16) h26) h26) fun t79 h27 =>
  bindR (gd false t78 (ldR h27 t79) h27) fun t80 h28 =>
  bindR (gd false t78 (cr 17 [t80, (.int .i64 0), (.int .i64 9)] h28) h28) fun t81 h29 =>
  bindR (gd false t78 (pureR (unV .not t81) h29) h29) fun t82 h30 =>
  bindR (pureR (pickV t78 (.bool true) t82) h30) fun t83 h31 =>
  ifR t83
  (bindR (some (.ret (.int .i64 3) h31)) fun t8 h32 =>
  ((some []).bind fun l => bif clean t8 then some (t8 :: l) else none).bind fun l => some (.ret (tup l) h32))
  (f16j11 cr n nx4 nx6 t62 t63 t64 t68 t69 t70 h31)
def f16j9 (cr : FuncId → List Value → Heap → Res) (n : Nat) (nx4 : List Value → Heap → Res) (nx6 : List Value → Heap → Res) (t62 t63 t64 t68 t69 t70 : Value) (h : Heap) : Res :=
  bindR (pureR (intB .lss t70 t69) h) fun t71 h15 =>
  ifR t71
  (f16j10 cr n nx4 nx6 t62 t63 t64 t68 t69 t70 h15)
  (cond (Nat.beq 6 6) (f16j8 cr n nx4 t62 t63 t64 h15) (cond (Nat.beq 6 5) (f16j8 cr n nx4 t62 t63 t64 h15) (cond (Nat.beq 6 4) (f16j5 cr n h15) (none))))
def f16j7 (cr : FuncId → List Value → Heap → Res) (n : Nat) (nx4 : List Value → Heap → Res) (t62 t63 t64 : Value) (h : Heap) : Res :=
  bindR (pureR (idxS 1 t62 t64) h) fun t66 h9 =>
  bindR (ldR h9 t66) fun t67 h10 =>
  bindR (some (.ret t67 h10)) fun t14 h11 =>
  bindR (some (.ret t14 h11)) fun t68 h12 =>
  bindR (lenRS h12 t68) fun t69 h13 =>
  bindR (some (.ret (.int .i64 0) h13)) fun t70 h14 =>
  iterK n (fun nx6 (σ : List Value) h => f16j9 cr n nx4 nx6 t62 t63 t64 t68 t69 (σ.headD undef) h) [t70] h14
def f16j6 (cr : FuncId → List Value → Heap → Res) (n : Nat) (nx4 : List Value → Heap → Res) (t62 t63 t64 : Value) (h : Heap) : Res :=
  bindR (pureR (intB .lss t64 t63) h) fun t65 h6 =>
  ifR t65
  (f16j7 cr n nx4 t62 t63 t64 h6)
  (cond (Nat.beq 4 4) (f16j5 cr n h6) (none))
def f16j4 (cr : FuncId → List Value → Heap → Res) (n : Nat) (t2 : Value) (h : Heap) : Res :=
  bindR (some (.ret t2 h)) fun t62 h3 =>
  bindR (lenRS h3 t62) fun t63 h4 =>
  bindR (some (.ret (.int .i64 0) h4)) fun t64 h5 =>
  iterK n (fun nx4 (σ : List Value) h => f16j6 cr n nx4 t62 t63 (σ.headD undef) h) [t64] h5
def f16j14 (cr : FuncId → List Value → Heap → Res) (n : Nat) (nx2 : List Value → Heap → Res) (t1 t2 t38 t39 t40 : Value) (h : Heap) : Res :=
  bindR (pureR (intB .add t40 (.int .i64 1)) h) fun t61 h37 =>
  bindR (some (.ret t61 h37)) fun t40 h38 =>
  nx2 [t40] h38
def f16j13 (cr : FuncId → List Value → Heap → Res) (n : Nat) (nx2 : List Value → Heap → Res) (t1 t2 t38 t39 t40 : Value) (h : Heap) : Res :=
  bindR (some (.ret t40 h)) fun t42 h39 =>
  bindR (pureR (idxS 1 t38 t40) h39) fun t43 h40 =>
  bindR (ldR h40 t43) fun t44 h41 =>
  bindR (some (.ret t42 h41)) fun t11 h42 =>
  bindR (some (.ret t44 h42)) fun t12 h43 =>
  bindR (some (.ret t12 h43)) fun t45 h44 =>
  bindR (cr 17 [t45, (.int .i64 0), (.int .i64 9)] h44) fun t46 h45 =>
  bindR (pureR (unV .not t46) h45) fun t47 h46 =>
  bindR (some (.ret t47 h46)) fun t48 h47 =>
  bindR (gd false t48 (some (.ret t11 h47)) h47) fun t49 h48 =>
  bindR (gd false t48 (pureR (intB .gtr t49 (.int .i64 0)) h48) h48) fun t50 h49 =>
  bindR (gd false t48 (some (.ret t50 h49)) h49) fun t51 h50 =>
  bindR (gd true t51 (some (.ret t1 h50)) h50) fun t52 h51 =>
  bindR (gd true t51 (some (.ret t11 h51)) h51) fun t53 h52 =>
  bindR (gd true t51 (pureR (intB .sub t53 (.int .i64 1)) h52) h52) fun t54 h53 =>
  bindR (gd true t51 (pureR (idxS 1 t52 t54) h53) h53) fun t55 h54 =>
  bindR (gd true t51 (ldR h54 t55) h54) fun t56 h55 =>
  bindR (gd true t51 (some (.ret t12 h55)) h55) fun t57 h56 =>
  bindR (gd true t51 (pureR (intB .geq t56 t57) h56) h56) fun t58 h57 =>
  bindR (gd false t48 (pureR (pickV t51 t58 (.bool false)) h57) h57) fun t59 h58 =>
  bindR (pureR (pickV t48 (.bool true) t59) h58) fun t60 h59 =>
  ifR t60
  (bindR (some (.ret (.int .i64 3) h59)) fun t8 h60 =>
  ((some []).bind fun l => bif clean t8 then some (t8 :: l) else none).bind fun l => some (.ret (tup l) h60))
  (f16j14 cr n nx2 t1 t2 t38 t39 t40 h59)
def f16j12 (cr : FuncId → List Value → Heap → Res) (n : Nat) (nx2 : List Value → Heap → Res) (t1 t2 t38 t39 t40 : Value) (h : Heap) : Res :=
  bindR (pureR (intB .lss t40 t39) h) fun t41 h36 =>
  ifR t41
  (f16j13 cr n nx2 t1 t2 t38 t39 t40 h36)
  (cond (Nat.beq 2 2) (f16j4 cr n t2 h36) (none))
def f16j3 (cr : FuncId → List Value → Heap → Res) (n : Nat) (t1 t2 : Value) (h : Heap) : Res :=
  bindR (some (.ret t1 h)) fun t38 h33 =>
  bindR (lenRS h33 t38) fun t39 h34 =>
  bindR (some (.ret (.int .i64 0) h34)) fun t40 h35 =>
  iterK n (fun nx2 (σ : List Value) h => f16j12 cr n nx2 t1 t2 t38 t39 (σ.headD undef) h) [t40] h35
def f16j17 (cr : FuncId → List Value → Heap → Res) (n : Nat) (nx0 : List Value → Heap → Res) (t1 t2 t28 t29 t30 : Value) (h : Heap) : Res :=
  bindR (pureR (intB .add t30 (.int .i64 1)) h) fun t37 h65 =>
  bindR (some (.ret t37 h65)) fun t30 h66 =>
  nx0 [t30] h66
def f16j16 (cr : FuncId → List Value → Heap → Res) (n : Nat) (nx0 : List Value → Heap → Res) (t1 t2 t28 t29 t30 : Value) (h : Heap) : Res :=
  bindR (pureR (idxS 1 t28 t30) h) fun t32 h67 =>
  bindR (ldR h67 t32) fun t33 h68 =>
  bindR (some (.ret t33 h68)) fun t10 h69 =>
  bindR (some (.ret t10 h69)) fun t34 h70 =>
  bindR (lenRS h70 t34) fun t35 h71 =>
  bindR (pureR (intB .gtr t35 (.int .i64 4)) h71) fun t36 h72 =>
  ifR t36
  (bindR (some (.ret (.int .i64 2) h72)) fun t8 h73 =>
  ((some []).bind fun l => bif clean t8 then some (t8 :: l) else none).bind fun l => some (.ret (tup l) h73))
  (f16j17 cr n nx0 t1 t2 t28 t29 t30 h72)
def f16j15 (cr : FuncId → List Value → Heap → Res) (n : Nat) (nx0 : List Value → Heap → Res) (t1 t2 t28 t29 t30 : Value) (h : Heap) : Res :=
  bindR (pureR (intB .lss t30 t29) h) fun t31 h64 =>
  ifR t31
  (f16j16 cr n nx0 t1 t2 t28 t29 t30 h64)
  (cond (Nat.beq 0 0) (f16j3 cr n t1 t2 h64) (none))
def f16j2 (cr : FuncId → List Value → Heap → Res) (n : Nat) (t1 t2 : Value) (h : Heap) : Res :=
  bindR (some (.ret t2 h)) fun t28 h61 =>
  bindR (lenRS h61 t28) fun t29 h62 =>
  bindR (some (.ret (.int .i64 0) h62)) fun t30 h63 =>
  iterK n (fun nx0 (σ : List Value) h => f16j15 cr n nx0 t1 t2 t28 t29 (σ.headD undef) h) [t30] h63
def f16j1 (cr : FuncId → List Value → Heap → Res) (n : Nat) (t1 t2 t3 : Value) (h : Heap) : Res :=
  bindR (some (.ret t2 h)) fun t20 h74 =>
  bindR (lenRS h74 t20) fun t21 h75 =>
  bindR (pureR (intB .gtr t21 (.int .i64 4)) h75) fun t22 h76 =>
  bindR (some (.ret t22 h76)) fun t23 h77 =>
  bindR (gd false t23 (some (.ret t3 h77)) h77) fun t24 h78 =>
  bindR (gd false t23 (lenRS h78 t24) h78) fun t25 h79 =>
  bindR (gd false t23 (pureR (intB .gtr t25 (.int .i64 500)) h79) h79) fun t26 h80 =>
  bindR (pureR (pickV t23 (.bool true) t26) h80) fun t27 h81 =>
  ifR t27
  (bindR (some (.ret (.int .i64 2) h81)) fun t8 h82 =>
  ((some []).bind fun l => bif clean t8 then some (t8 :: l) else none).bind fun l => some (.ret (tup l) h82))
  (f16j2 cr n t1 t2 h81)
def f16 (cr : FuncId → List Value → Heap → Res) (n : Nat) (a0 a1 a2 a3 : Value) (h : Heap) : Res :=
  bindR (some (.ret (.int .i64 0) h)) fun t8 h1 =>
  bindR (some (.ret a0 h1)) fun t17 h83 =>
  bindR (cr 17 [t17, (.int .i64 1), (.int .i64 4)] h83) fun t18 h84 =>
  bindR (pureR (unV .not t18) h84) fun t19 h85 =>
  ifR t19
  (bindR (some (.ret (.int .i64 1) h85)) fun t8 h86 =>
  ((some []).bind fun l => bif clean t8 then some (t8 :: l) else none).bind fun l => some (.ret (tup l) h86))
  (f16j1 cr n a1 a2 a3 h85)
theorem eq16 (cr : FuncId → List Value → Heap → Res) (n : Nat) (a0 a1 a2 a3 : Value) (h : Heap) : runR Try.prog cfg cr n 16 [a0, a1, a2, a3] h = f16 cr n a0 a1 a2 a3 h := by kernel_rfl
-- hedgewright/hands.within
def f17 (cr : FuncId → List Value → Heap → Res) (n : Nat) (a0 a1 a2 : Value) (h : Heap) : Res :=
  bindR (some (.ret (.bool false) h)) fun t6 h1 =>
  bindR (some (.ret a0 h1)) fun t7 h2 =>
  bindR (some (.ret a1 h2)) fun t8 h3 =>
  bindR (pureR (intB .geq t7 t8) h3) fun t9 h4 =>
  bindR (some (.ret t9 h4)) fun t10 h5 =>
  bindR (gd true t10 (some (.ret a0 h5)) h5) fun t11 h6 =>
  bindR (gd true t10 (some (.ret a2 h6)) h6) fun t12 h7 =>
  bindR (gd true t10 (pureR (intB .leq t11 t12) h7) h7) fun t13 h8 =>
  bindR (pureR (pickV t10 t13 (.bool false)) h8) fun t14 h9 =>
  bindR (some (.ret t14 h9)) fun t6 h10 =>
  ((some []).bind fun l => bif clean t6 then some (t6 :: l) else none).bind fun l => some (.ret (tup l) h10)
theorem eq17 (cr : FuncId → List Value → Heap → Res) (n : Nat) (a0 a1 a2 : Value) (h : Heap) : runR Try.prog cfg cr n 17 [a0, a1, a2] h = f17 cr n a0 a1 a2 h := by kernel_rfl
-- (*hedgewright/hands.table).step
def f18j3 (cr : FuncId → List Value → Heap → Res) (n : Nat) (t0 : Value) (h : Heap) : Res :=
  bindR (some (.ret t0 h)) fun t121 h10 =>
  bindR (pureR (nonnil t121) h10) fun t122 h11 =>
  bindR (pureR (padd 3 t122) h11) fun t123 h12 =>
  bindR (ldR h12 t123) fun t124 h13 =>
  bindR (pureR (intB .add t124 (.int .i64 1)) h13) fun t125 h14 =>
  bindR (pureR (nonnil t121) h14) fun t126 h15 =>
  bindR (pureR (padd 3 t126) h15) fun t127 h16 =>
  bindR (stR h16 t127 t125) fun _ h17 =>
  bindR (some (.ret (.bool true) h17)) fun t4 h18 =>
  ((some []).bind fun l => bif clean t4 then some (t4 :: l) else none).bind fun l => some (.ret (tup l) h18)
def f18j2 (cr : FuncId → List Value → Heap → Res) (n : Nat) (t0 t1 t5 : Value) (h : Heap) : Res :=
  bindR (some (.ret t5 h)) fun t79 h19 =>
  bindR (pureR (nonnil t79) h19) fun t80 h20 =>
  bindR (pureR (padd 2 t80) h20) fun t81 h21 =>
  bindR (ldR h21 t81) fun t82 h22 =>
  bindR (callV cr h22 t82 []) fun t83 h23 =>
  ifR t83
  (noPan (some (.ret t0 h23)) fun t84 h24 =>
  guardR (true && true) <|
  noPan (pureR (nonnil t84) h24) fun t85 h25 =>
  guardR (true && true) <|
  noPan (pureR (padd 4 t85) h25) fun t86 h26 =>
  guardR (true && true) <|
  noPan (ldR h26 t86) fun t87 h27 =>
  guardR (true && true) <|
  noPan (some (.ret t1 h27)) fun t88 h28 =>
  guardR (true && true) <|
  noPan (pureR (idxS 1 t87 t88) h28) fun t89 h29 =>
  guardR (true && true) <|
  noPan (ldR h29 t89) fun t90 h30 =>
  guardR (true && true) <|
  noPan (some (.ret t5 h30)) fun t91 h31 =>
  guardR (true && true) <|
  noPan (pureR (nonnil t91) h31) fun t92 h32 =>
  guardR (true && true) <|
  noPan (pureR (padd 1 t92) h32) fun t93 h33 =>
  guardR (true && true) <|
  noPan (ldR h33 t93) fun t94 h34 =>
  guardR (true && true) <|
  noPan (pureR (idxS 5 t90 t94) h34) fun t95 h35 =>
  guardR (true && true) <|
  noPan (some (.ret t95 h35)) fun t7 h36 =>
  guardR (true && true) <|
  noPan (some (.ret t7 h36)) fun t96 h37 =>
  guardR (true && true) <|
  noPan (some (.ret t7 h37)) fun t97 h38 =>
  guardR (true && true) <|
  noPan (some (.ret t0 h38)) fun t98 h39 =>
  guardR (true && true) <|
  noPan (pureR (nonnil t98) h39) fun t99 h40 =>
  guardR (true && true) <|
  noPan (pureR (padd 3 t99) h40) fun t100 h41 =>
  guardR (true && true) <|
  noPan (ldR h41 t100) fun t101 h42 =>
  guardR (true && true) <|
  noPan (some (.ret t5 h42)) fun t102 h43 =>
  guardR (true && true) <|
  noPan (pureR (nonnil t102) h43) fun t103 h44 =>
  guardR (true && true) <|
  noPan (pureR (padd 5 t103) h44) fun t104 h45 =>
  guardR (true && true) <|
  noPan (ldR h45 t104) fun t105 h46 =>
  guardR (true && true) <|
  noPan (pureR (nonnil t96) h46) fun t106 h47 =>
  guardR (true && true) <|
  noPan (pureR (padd 3 t106) h47) fun t107 h48 =>
  guardR (true && true) <|
  noPan (stR h48 t107 t101) fun _ h49 =>
  guardR (true && true) <|
  noPan (pureR (nonnil t97) h49) fun t108 h50 =>
  guardR (true && true) <|
  noPan (pureR (padd 4 t108) h50) fun t109 h51 =>
  guardR (true && true) <|
  noPan (stR h51 t109 t105) fun _ h52 =>
  guardR (true && true) <|
  bindR (some (.ret t5 h52)) fun t110 h53 =>
  bindR (some (.ret t5 h53)) fun t111 h54 =>
  bindR (some (.ret t5 h54)) fun t112 h55 =>
  bindR (pureR (nonnil t112) h55) fun t113 h56 =>
  bindR (pureR (padd 1 t113) h56) fun t114 h57 =>
  bindR (ldR h57 t114) fun t115 h58 =>
  bindR (pureR (intB .add t115 (.int .i64 1)) h58) fun t116 h59 =>
  bindR (pureR (nonnil t110) h59) fun t117 h60 =>
  bindR (pureR (padd 1 t117) h60) fun t118 h61 =>
  bindR (stR h61 t118 t116) fun _ h62 =>
  bindR (pureR (nonnil t111) h62) fun t119 h63 =>
  bindR (pureR (padd 2 t119) h63) fun t120 h64 =>
  bindR (stR h64 t120 .nilFunc) fun _ h65 =>
  f18j3 cr n t0 h65)
  (f18j3 cr n t0 h23)
def f18j1 (cr : FuncId → List Value → Heap → Res) (n : Nat) (t0 t1 t5 : Value) (h : Heap) : Res :=
  bindR (some (.ret t5 h)) fun t25 h66 =>
  bindR (pureR (nonnil t25) h66) fun t26 h67 =>
  bindR (pureR (padd 2 t26) h67) fun t27 h68 =>
  bindR (ldR h68 t27) fun t28 h69 =>
  bindR (pureR (eqNeq .eql (funcE t28 .nilFunc)) h69) fun t29 h70 =>
  ifR t29
  (bindR (newMapR true h70) fun t30 h71 =>
  bindR (some (.ret t0 h71)) fun t31 h72 =>
  bindR (pureR (funcV (.func 29) [t31] []) h72) fun t32 h73 =>
  bindR (updR true h73 t30 (.int .i64 1) t32) fun _ h74 =>
  bindR (some (.ret t0 h74)) fun t33 h75 =>
  bindR (pureR (funcV (.func 30) [t33] []) h75) fun t34 h76 =>
  bindR (updR true h76 t30 (.int .i64 2) t34) fun _ h77 =>
  bindR (some (.ret t0 h77)) fun t35 h78 =>
  bindR (pureR (funcV (.func 31) [t35] []) h78) fun t36 h79 =>
  bindR (updR true h79 t30 (.int .i64 3) t36) fun _ h80 =>
  bindR (some (.ret t0 h80)) fun t37 h81 =>
  bindR (pureR (funcV (.func 31) [t37] []) h81) fun t38 h82 =>
  bindR (updR true h82 t30 (.int .i64 4) t38) fun _ h83 =>
  bindR (some (.ret t30 h83)) fun t39 h84 =>
  bindR (some (.ret t39 h84)) fun t6 h85 =>
  bindR (some (.ret t5 h85)) fun t40 h86 =>
  bindR (some (.ret t5 h86)) fun t41 h87 =>
  bindR (some (.ret t6 h87)) fun t42 h88 =>
  bindR (some (.ret t0 h88)) fun t43 h89 =>
  bindR (pureR (nonnil t43) h89) fun t44 h90 =>
  bindR (pureR (padd 0 t44) h90) fun t45 h91 =>
  bindR (ldR h91 t45) fun t46 h92 =>
  bindR (lookR true .nilFunc false h92 t42 t46) fun t47 h93 =>
  bindR (some (.ret t5 h93)) fun t48 h94 =>
  bindR (callV cr h94 t47 [t48]) fun t49 h95 =>
  bindR (pureR (nonnil t40) h95) fun t50 h96 =>
  bindR (pureR (padd 2 t50) h96) fun t51 h97 =>
  bindR (stR h97 t51 t49) fun _ h98 =>
  bindR (pureR (nonnil t41) h98) fun t52 h99 =>
  bindR (pureR (padd 5 t52) h99) fun t53 h100 =>
  bindR (stR h100 t53 (.bool false)) fun _ h101 =>
  noPan (some (.ret t0 h101)) fun t54 h102 =>
  guardR (true && true) <|
  noPan (pureR (nonnil t54) h102) fun t55 h103 =>
  guardR (true && true) <|
  noPan (pureR (padd 4 t55) h103) fun t56 h104 =>
  guardR (true && true) <|
  noPan (ldR h104 t56) fun t57 h105 =>
  guardR (true && true) <|
  noPan (some (.ret t1 h105)) fun t58 h106 =>
  guardR (true && true) <|
  noPan (some (.ret t0 h106)) fun t59 h107 =>
  guardR (true && true) <|
  noPan (pureR (nonnil t59) h107) fun t60 h108 =>
  guardR (true && true) <|
  noPan (pureR (padd 4 t60) h108) fun t61 h109 =>
  guardR (true && true) <|
  noPan (ldR h109 t61) fun t62 h110 =>
  guardR (true && true) <|
  noPan (some (.ret t1 h110)) fun t63 h111 =>
  guardR (true && true) <|
  noPan (pureR (idxS 1 t62 t63) h111) fun t64 h112 =>
  guardR (true && true) <|
  noPan (ldR h112 t64) fun t65 h113 =>
  guardR (true && true) <|
  noPan (some (.ret t1 h113)) fun t66 h114 =>
  guardR (true && true) <|
  noPan (some (.ret t5 h114)) fun t67 h115 =>
  guardR (true && true) <|
  noPan (pureR (nonnil t67) h115) fun t68 h116 =>
  guardR (true && true) <|
  noPan (pureR (padd 1 t68) h116) fun t69 h117 =>
  guardR (true && true) <|
  noPan (ldR h117 t69) fun t70 h118 =>
  guardR (true && true) <|
  noPan (some (.ret t0 h118)) fun t71 h119 =>
  guardR (true && true) <|
  noPan (pureR (nonnil t71) h119) fun t72 h120 =>
  guardR (true && true) <|
  noPan (pureR (padd 3 t72) h120) fun t73 h121 =>
  guardR (true && true) <|
  noPan (ldR h121 t73) fun t74 h122 =>
  guardR (true && true) <|
  noPan (pureR ((fillL [(.int .i64 0), (.int .i64 0), (.int .i64 0), (.int .i64 0), (.bool false)] [(0, 1, t66), (1, 1, t70), (2, 1, t74), (3, 1, (.int .i64 (-1)))]).map fun c => .agg c.toArray) h122) fun t75 h123 =>
  guardR (true && true) <|
  noPan (buildSliceR 1 [(.int .i64 0), (.int .i64 0), (.int .i64 0), (.int .i64 0), (.bool false)] h123 [(0, 5, t75)]) fun t76 h124 =>
  guardR (true && true) <|
  noPan (appR 5 40 h124 t65 t76) fun t77 h125 =>
  guardR (((agn1 h125 t56 t57) && true) && true) <|
  noPan (pureR (idxS 1 t57 t58) h125) fun t78 h126 =>
  guardR (true && true) <|
  noPan (stR h126 t78 t77) fun _ h127 =>
  guardR (true && true) <|
  f18j2 cr n t0 t1 t5 h127)
  (f18j2 cr n t0 t1 t5 h70)
def f18 (cr : FuncId → List Value → Heap → Res) (n : Nat) (a0 a1 : Value) (h : Heap) : Res :=
  bindR (some (.ret (.bool false) h)) fun t4 h1 =>
  bindR (some (.ret a0 h1)) fun t8 h2 =>
  bindR (pureR (nonnil t8) h2) fun t9 h3 =>
  bindR (pureR (padd 2 t9) h3) fun t10 h4 =>
  bindR (ldR h4 t10) fun t11 h5 =>
  bindR (some (.ret a1 h5)) fun t12 h6 =>
  bindR (pureR (idxS 1 t11 t12) h6) fun t13 h7 =>
  bindR (ldR h7 t13) fun t14 h8 =>
  bindR (some (.ret t14 h8)) fun t5 h9 =>
  noPan (some (.ret t5 h9)) fun t15 h128 =>
  guardR (true && true) <|
  noPan (pureR (nonnil t15) h128) fun t16 h129 =>
  guardR (true && true) <|
  noPan (pureR (padd 1 t16) h129) fun t17 h130 =>
  guardR (true && true) <|
  noPan (ldR h130 t17) fun t18 h131 =>
  guardR (true && true) <|
  noPan (some (.ret t5 h131)) fun t19 h132 =>
  guardR (true && true) <|
  noPan (pureR (nonnil t19) h132) fun t20 h133 =>
  guardR (true && true) <|
  noPan (pureR (padd 0 t20) h133) fun t21 h134 =>
  guardR (true && true) <|
  noPan (ldR h134 t21) fun t22 h135 =>
  guardR (true && true) <|
  noPan (lenRS h135 t22) fun t23 h136 =>
  guardR (true && true) <|
  noPan (pureR (intB .eql t18 t23) h136) fun t24 h137 =>
  guardR (true && true) <|
  ifR t24
  (bindR (some (.ret (.bool false) h137)) fun t4 h138 =>
  ((some []).bind fun l => bif clean t4 then some (t4 :: l) else none).bind fun l => some (.ret (tup l) h138))
  (f18j1 cr n a0 a1 t5 h137)
theorem eq18 (cr : FuncId → List Value → Heap → Res) (n : Nat) (a0 a1 : Value) (h : Heap) : runR Try.prog cfg cr n 18 [a0, a1] h = f18 cr n a0 a1 h := by kernel_rfl
-- (*hedgewright/hands.table).left
def f19j1 (cr : FuncId → List Value → Heap → Res) (n : Nat) (t3 : Value) (h : Heap) : Res :=
  bindR (some (.ret t3 h)) fun t33 h3 =>
  bindR (some (.ret t33 h3)) fun t2 h4 =>
  ((some []).bind fun l => bif clean t2 then some (t2 :: l) else none).bind fun l => some (.ret (tup l) h4)
def f19j4 (cr : FuncId → List Value → Heap → Res) (n : Nat) (nx0 : List Value → Heap → Res) (t3 t4 : Value) (h : Heap) : Res :=
  bindR (some (.ret t4 h)) fun t17 h13 =>
  bindR (pureR (nonnil t17) h13) fun t18 h14 =>
  bindR (pureR (padd 1 t18) h14) fun t19 h15 =>
  bindR (ldR h15 t19) fun t20 h16 =>
  bindR (some (.ret t20 h16)) fun t4 h17 =>
  nx0 [t3, t4] h17
def f19j3 (cr : FuncId → List Value → Heap → Res) (n : Nat) (nx0 : List Value → Heap → Res) (t3 t4 : Value) (h : Heap) : Res :=
  bindR (some (.ret t4 h)) fun t21 h18 =>
  bindR (pureR (nonnil t21) h18) fun t22 h19 =>
  bindR (pureR (padd 2 t22) h19) fun t23 h20 =>
  bindR (ldR h20 t23) fun t24 h21 =>
  bindR (pureR (unV .not t24) h21) fun t25 h22 =>
  ifR t25
  (bindR (some (.ret t3 h22)) fun t26 h23 =>
  bindR (some (.ret t4 h23)) fun t27 h24 =>
  bindR (pureR (nonnil t27) h24) fun t28 h25 =>
  bindR (pureR (padd 0 t28) h25) fun t29 h26 =>
  bindR (ldR h26 t29) fun t30 h27 =>
  bindR (buildSliceR 1 [(.int .i64 0)] h27 [(0, 1, t30)]) fun t31 h28 =>
  bindR (appR 1 8 h28 t26 t31) fun t32 h29 =>
  bindR (some (.ret t32 h29)) fun t3 h30 =>
  f19j4 cr n nx0 t3 t4 h30)
  (f19j4 cr n nx0 t3 t4 h22)
def f19j2 (cr : FuncId → List Value → Heap → Res) (n : Nat) (nx0 : List Value → Heap → Res) (t3 t4 : Value) (h : Heap) : Res :=
  bindR (some (.ret t4 h)) fun t12 h31 =>
  bindR (pureR (nonnil t12) h31) fun t13 h32 =>
  bindR (pureR (padd 1 t13) h32) fun t14 h33 =>
  bindR (ldR h33 t14) fun t15 h34 =>
  bindR (pureR (eqNeq .neq (ptrE h34 t15 (.pointer none))) h34) fun t16 h35 =>
  ifR t16
  (f19j3 cr n nx0 t3 t4 h35)
  (cond (Nat.beq 0 0) (f19j1 cr n t3 h35) (none))
def f19 (cr : FuncId → List Value → Heap → Res) (n : Nat) (a0 : Value) (h : Heap) : Res :=
  bindR (some (.ret (.slice none 0 0) h)) fun t2 h1 =>
  bindR (some (.ret (.slice none 0 0) h1)) fun t3 h2 =>
  bindR (some (.ret a0 h2)) fun t5 h5 =>
  bindR (pureR (nonnil t5) h5) fun t6 h6 =>
  bindR (pureR (padd 1 t6) h6) fun t7 h7 =>
  bindR (ldR h7 t7) fun t8 h8 =>
  bindR (pureR (nonnil t8) h8) fun t9 h9 =>
  bindR (pureR (padd 1 t9) h9) fun t10 h10 =>
  bindR (ldR h10 t10) fun t11 h11 =>
  bindR (some (.ret t11 h11)) fun t4 h12 =>
  iterK n (fun nx0 (σ : List Value) h => f19j2 cr n nx0 (σ.headD undef) (σ.tail.headD undef) h) [t3, t4] h12
theorem eq19 (cr : FuncId → List Value → Heap → Res) (n : Nat) (a0 : Value) (h : Heap) : runR Try.prog cfg cr n 19 [a0] h = f19 cr n a0 h := by kernel_rfl
-- (*hedgewright/hands.table).lock
def f29 (cr : FuncId → List Value → Heap → Res) (n : Nat) (a0 a1 : Value) (h : Heap) : Res :=
  bindR (boxR 1 h a0) fun t2 h1 =>
  bindR (boxR 1 h1 a1) fun t3 h2 =>
  bindR (some (.ret .nilFunc h2)) fun t4 h3 =>
  bindR (newR h3 [.nilFunc]) fun t5 h4 =>
  bindR (newR h4 [.nilFunc]) fun t6 h5 =>
  bindR (pureR (funcV (.func 37) [] [t3, t6]) h5) fun t7 h6 =>
  bindR (stR h6 t5 t7) fun _ h7 =>
  bindR (pureR (funcV (.func 39) [] [t3, t5]) h7) fun t8 h8 =>
  bindR (stR h8 t6 t8) fun _ h9 =>
  bindR (pureR (funcV (.func 45) [] [t2, t3, t5]) h9) fun t9 h10 =>
  bindR (some (.ret t9 h10)) fun t4 h11 =>
  ((some []).bind fun l => bif clean t4 then some (t4 :: l) else none).bind fun l => some (.ret (tup l) h11)
theorem eq29 (cr : FuncId → List Value → Heap → Res) (n : Nat) (a0 a1 : Value) (h : Heap) : runR Try.prog cfg cr n 29 [a0, a1] h = f29 cr n a0 a1 h := by kernel_rfl
-- (*hedgewright/hands.table).lazy
def f30 (cr : FuncId → List Value → Heap → Res) (n : Nat) (a0 a1 : Value) (h : Heap) : Res :=
  bindR (boxR 1 h a0) fun t2 h1 =>
  bindR (boxR 1 h1 a1) fun t3 h2 =>
  bindR (some (.ret .nilFunc h2)) fun t4 h3 =>
  bindR (newR h3 [.nilFunc]) fun t5 h4 =>
  bindR (newR h4 [.nilFunc]) fun t6 h5 =>
  bindR (newR h5 [.nilFunc]) fun t7 h6 =>
  bindR (newR h6 [.nilFunc]) fun t8 h7 =>
  bindR (newR h7 [.nilFunc]) fun t9 h8 =>
  bindR (newR h8 [.nilFunc]) fun t10 h9 =>
  bindR (pureR (funcV (.func 47) [] [t2, t3, t6]) h9) fun t11 h10 =>
  bindR (stR h10 t5 t11) fun _ h11 =>
  bindR (pureR (funcV (.func 48) [] [t3, t7]) h11) fun t12 h12 =>
  bindR (stR h12 t6 t12) fun _ h13 =>
  bindR (pureR (funcV (.func 49) [] [t7, t3, t8]) h13) fun t13 h14 =>
  bindR (stR h14 t7 t13) fun _ h15 =>
  bindR (pureR (funcV (.func 50) [] [t3, t9]) h15) fun t14 h16 =>
  bindR (stR h16 t8 t14) fun _ h17 =>
  bindR (pureR (funcV (.func 51) [] [t3, t5, t10]) h17) fun t15 h18 =>
  bindR (stR h18 t9 t15) fun _ h19 =>
  bindR (pureR (funcV (.func 52) [] [t3]) h19) fun t16 h20 =>
  bindR (stR h20 t10 t16) fun _ h21 =>
  bindR (ldR h21 t5) fun t17 h22 =>
  bindR (some (.ret t17 h22)) fun t4 h23 =>
  ((some []).bind fun l => bif clean t4 then some (t4 :: l) else none).bind fun l => some (.ret (tup l) h23)
theorem eq30 (cr : FuncId → List Value → Heap → Res) (n : Nat) (a0 a1 : Value) (h : Heap) : runR Try.prog cfg cr n 30 [a0, a1] h = f30 cr n a0 a1 h := by kernel_rfl
-- (*hedgewright/hands.table).mark
def f31 (cr : FuncId → List Value → Heap → Res) (n : Nat) (a0 a1 : Value) (h : Heap) : Res :=
  bindR (boxR 1 h a0) fun t2 h1 =>
  bindR (boxR 1 h1 a1) fun t3 h2 =>
  bindR (some (.ret .nilFunc h2)) fun t4 h3 =>
  bindR (newR h3 [.nilFunc]) fun t5 h4 =>
  bindR (newR h4 [.nilFunc]) fun t6 h5 =>
  bindR (newR h5 [.nilFunc]) fun t7 h6 =>
  bindR (newR h6 [.nilFunc]) fun t8 h7 =>
  bindR (pureR (funcV (.func 53) [] [t3]) h7) fun t10 h8 =>
  bindR (newR h8 [.nilFunc]) fun t9 h9 =>
  bindR (stR h9 t9 t10) fun _ h10 =>
  bindR (pureR (funcV (.func 54) [] [t2, t3, t6]) h10) fun t11 h11 =>
  bindR (stR h11 t5 t11) fun _ h12 =>
  bindR (pureR (funcV (.func 55) [] [t3, t9, t5, t7]) h12) fun t12 h13 =>
  bindR (stR h13 t6 t12) fun _ h14 =>
  bindR (pureR (funcV (.func 56) [] [t2, t3, t9, t8, t5]) h14) fun t13 h15 =>
  bindR (stR h15 t7 t13) fun _ h16 =>
  bindR (pureR (funcV (.func 57) [] [t9, t3]) h16) fun t14 h17 =>
  bindR (stR h17 t8 t14) fun _ h18 =>
  bindR (ldR h18 t5) fun t15 h19 =>
  bindR (some (.ret t15 h19)) fun t4 h20 =>
  ((some []).bind fun l => bif clean t4 then some (t4 :: l) else none).bind fun l => some (.ret (tup l) h20)
theorem eq31 (cr : FuncId → List Value → Heap → Res) (n : Nat) (a0 a1 : Value) (h : Heap) : runR Try.prog cfg cr n 31 [a0, a1] h = f31 cr n a0 a1 h := by kernel_rfl
-- (*hedgewright/hands.table).lock$1
def f37j1 (cr : FuncId → List Value → Heap → Res) (n : Nat) (h : Heap) : Res :=
  bindR (some (.ret (.bool false) h)) fun t2 h2 =>
  ((some []).bind fun l => bif clean t2 then some (t2 :: l) else none).bind fun l => some (.ret (tup l) h2)
def f37 (cr : FuncId → List Value → Heap → Res) (n : Nat) (a0 a1 : Value) (h : Heap) : Res :=
  bindR (some (.ret (.bool false) h)) fun t2 h1 =>
  bindR (ldR h1 a0) fun t3 h3 =>
  bindR (pureR (nonnil t3) h3) fun t4 h4 =>
  bindR (pureR (padd 4 t4) h4) fun t5 h5 =>
  bindR (ldR h5 t5) fun t6 h6 =>
  bindR (cr 38 [t6] h6) fun t7 h7 =>
  ifR t7
  (bindR (ldR h7 a0) fun t8 h8 =>
  bindR (ldR h8 a1) fun t9 h9 =>
  bindR (pureR (nonnil t8) h9) fun t10 h10 =>
  bindR (pureR (padd 2 t10) h10) fun t11 h11 =>
  bindR (stR h11 t11 t9) fun _ h12 =>
  f37j1 cr n h12)
  (f37j1 cr n h7)
theorem eq37 (cr : FuncId → List Value → Heap → Res) (n : Nat) (a0 a1 : Value) (h : Heap) : runR Try.prog cfg cr n 37 [a0, a1] h = f37 cr n a0 a1 h := by kernel_rfl
-- hedgewright/hands.take
def f38j1 (cr : FuncId → List Value → Heap → Res) (n : Nat) (t0 : Value) (h : Heap) : Res :=
  bindR (some (.ret t0 h)) fun t7 h2 =>
  bindR (pureR (nonnil t7) h2) fun t8 h3 =>
  bindR (pureR (padd 3 t8) h3) fun t9 h4 =>
  bindR (stR h4 t9 (.bool true)) fun _ h5 =>
  bindR (some (.ret (.bool true) h5)) fun t2 h6 =>
  ((some []).bind fun l => bif clean t2 then some (t2 :: l) else none).bind fun l => some (.ret (tup l) h6)
def f38 (cr : FuncId → List Value → Heap → Res) (n : Nat) (a0 : Value) (h : Heap) : Res :=
  bindR (some (.ret (.bool false) h)) fun t2 h1 =>
  bindR (some (.ret a0 h1)) fun t3 h7 =>
  bindR (pureR (nonnil t3) h7) fun t4 h8 =>
  bindR (pureR (padd 3 t4) h8) fun t5 h9 =>
  bindR (ldR h9 t5) fun t6 h10 =>
  ifR t6
  (bindR (some (.ret (.bool false) h10)) fun t2 h11 =>
  ((some []).bind fun l => bif clean t2 then some (t2 :: l) else none).bind fun l => some (.ret (tup l) h11))
  (f38j1 cr n a0 h10)
theorem eq38 (cr : FuncId → List Value → Heap → Res) (n : Nat) (a0 : Value) (h : Heap) : runR Try.prog cfg cr n 38 [a0] h = f38 cr n a0 h := by kernel_rfl
-- (*hedgewright/hands.table).lock$2
def f39j2 (cr : FuncId → List Value → Heap → Res) (n : Nat) (t0 : Value) (h : Heap) : Res :=
  bindR (ldR h t0) fun t85 h22 =>
  bindR (cr 44 [t85] h22) fun t86 h23 =>
  bindR (some (.ret (.bool true) h23)) fun t2 h24 =>
  ((some []).bind fun l => bif clean t2 then some (t2 :: l) else none).bind fun l => some (.ret (tup l) h24)
def f39j1 (cr : FuncId → List Value → Heap → Res) (n : Nat) (t0 : Value) (h : Heap) : Res :=
  noPan (ldR h t0) fun t26 h2 =>
  guardR (true && true) <|
  noPan (pureR (nonnil t26) h2) fun t27 h3 =>
  guardR (true && true) <|
  noPan (pureR (padd 4 t27) h3) fun t28 h4 =>
  guardR (true && true) <|
  noPan (ldR h4 t28) fun t29 h5 =>
  guardR (true && true) <|
  noPan (pureR (nonnil t29) h5) fun t30 h6 =>
  guardR (true && true) <|
  noPan (pureR (padd 0 t30) h6) fun t31 h7 =>
  guardR (true && true) <|
  noPan (ldR h7 t31) fun t32 h8 =>
  guardR (true && true) <|
  noPan (ldR h8 t0) fun t33 h9 =>
  guardR (true && true) <|
  noPan (cr 40 [t33] h9) fun t34 h10 =>
  guardR (((agn1 h10 t0 t26) && ((agn1 h10 t28 t29) && ((agn1 h10 t31 t32) && true))) && true) <|
  noPan (pureR (intB .eql t32 t34) h10) fun t35 h11 =>
  guardR (true && true) <|
  noPan (some (.ret t35 h11)) fun t3 h12 =>
  guardR (true && true) <|
  noPan (ldR h12 t0) fun t36 h13 =>
  guardR (true && true) <|
  noPan (some (.ret t3 h13)) fun t37 h14 =>
  guardR (true && true) <|
  noPan (ldR h14 t0) fun t38 h15 =>
  guardR (true && true) <|
  noPan (cr 42 [t38] h15) fun t39 h16 =>
  guardR (((agn1 h16 t0 t36) && true) && true) <|
  noPan (pureR (intB .neq t39 (.int .i64 1)) h16) fun t40 h17 =>
  guardR (true && true) <|
  noPan (pureR (eqNeq .eql (boolE t37 t40)) h17) fun t41 h18 =>
  guardR (true && true) <|
  noPan (pureR (nonnil t36) h18) fun t42 h19 =>
  guardR (true && true) <|
  noPan (pureR (padd 5 t42) h19) fun t43 h20 =>
  guardR (true && true) <|
  noPan (stR h20 t43 t41) fun _ h21 =>
  guardR (true && true) <|
  bindR (ldR h21 t0) fun t45 h25 =>
  bindR (cr 42 [t45] h25) fun t46 h26 =>
  bindR (pureR (intB .eql t46 (.int .i64 1)) h26) fun t47 h27 =>
  bindR (some (.ret t47 h27)) fun t48 h28 =>
  bindR (gd true t48 (ldR h28 t0) h28) fun t49 h29 =>
  bindR (gd true t48 (pureR (nonnil t49) h29) h29) fun t50 h30 =>
  bindR (gd true t48 (pureR (padd 5 t50) h30) h30) fun t51 h31 =>
  bindR (gd true t48 (ldR h31 t51) h31) fun t52 h32 =>
  bindR (pureR (pickV t48 t52 (.bool false)) h32) fun t53 h33 =>
  bindR (some (.ret t53 h33)) fun t44 h34 =>
  ifR t44
  (bindR (ldR h34 t0) fun t54 h35 =>
  bindR (cr 43 [t54] h35) fun t55 h36 =>
  f39j2 cr n t0 h36)
  (bindR (ldR h34 t0) fun t57 h37 =>
  bindR (cr 42 [t57] h37) fun t58 h38 =>
  bindR (pureR (intB .eql t58 (.int .i64 2)) h38) fun t59 h39 =>
  bindR (some (.ret t59 h39)) fun t60 h40 =>
  bindR (gd true t60 (ldR h40 t0) h40) fun t61 h41 =>
  bindR (gd true t60 (pureR (nonnil t61) h41) h41) fun t62 h42 =>
  bindR (gd true t60 (pureR (padd 5 t62) h42) h42) fun t63 h43 =>
  bindR (gd true t60 (ldR h43 t63) h43) fun t64 h44 =>
  bindR (pureR (pickV t60 t64 (.bool false)) h44) fun t65 h45 =>
  bindR (some (.ret t65 h45)) fun t56 h46 =>
  ifR t56
  (noPan (ldR h46 t0) fun t66 h47 =>
  guardR (true && true) <|
  noPan (pureR (nonnil t66) h47) fun t67 h48 =>
  guardR (true && true) <|
  noPan (pureR (padd 3 t67) h48) fun t68 h49 =>
  guardR (true && true) <|
  noPan (ldR h49 t68) fun t69 h50 =>
  guardR (true && true) <|
  noPan (ldR h50 t0) fun t70 h51 =>
  guardR (true && true) <|
  noPan (pureR (nonnil t70) h51) fun t71 h52 =>
  guardR (true && true) <|
  noPan (pureR (padd 4 t71) h52) fun t72 h53 =>
  guardR (true && true) <|
  noPan (ldR h53 t72) fun t73 h54 =>
  guardR (true && true) <|
  noPan (ldR h54 t0) fun t74 h55 =>
  guardR (true && true) <|
  noPan (pureR (nonnil t74) h55) fun t75 h56 =>
  guardR (true && true) <|
  noPan (pureR (padd 4 t75) h56) fun t76 h57 =>
  guardR (true && true) <|
  noPan (ldR h57 t76) fun t77 h58 =>
  guardR (true && true) <|
  noPan (pureR (nonnil t77) h58) fun t78 h59 =>
  guardR (true && true) <|
  noPan (pureR (padd 1 t78) h59) fun t79 h60 =>
  guardR (true && true) <|
  noPan (ldR h60 t79) fun t80 h61 =>
  guardR (true && true) <|
  noPan (pureR (nonnil t69) h61) fun t81 h62 =>
  guardR (true && true) <|
  noPan (pureR (padd 1 t81) h62) fun t82 h63 =>
  guardR (true && true) <|
  noPan (stR h63 t82 t80) fun _ h64 =>
  guardR (true && true) <|
  noPan (pureR (nonnil t73) h64) fun t83 h65 =>
  guardR (true && true) <|
  noPan (pureR (padd 2 t83) h65) fun t84 h66 =>
  guardR (true && true) <|
  noPan (stR h66 t84 (.bool true)) fun _ h67 =>
  guardR (true && true) <|
  f39j2 cr n t0 h67)
  (f39j2 cr n t0 h46))
def f39 (cr : FuncId → List Value → Heap → Res) (n : Nat) (a0 a1 : Value) (h : Heap) : Res :=
  bindR (some (.ret (.bool false) h)) fun t2 h1 =>
  noPan (ldR h1 a0) fun t4 h68 =>
  guardR (true && true) <|
  noPan (pureR (nonnil t4) h68) fun t5 h69 =>
  guardR (true && true) <|
  noPan (pureR (padd 4 t5) h69) fun t6 h70 =>
  guardR (true && true) <|
  noPan (ldR h70 t6) fun t7 h71 =>
  guardR (true && true) <|
  noPan (pureR (nonnil t7) h71) fun t8 h72 =>
  guardR (true && true) <|
  noPan (pureR (padd 0 t8) h72) fun t9 h73 =>
  guardR (true && true) <|
  noPan (ldR h73 t9) fun t10 h74 =>
  guardR (true && true) <|
  noPan (ldR h74 a0) fun t11 h75 =>
  guardR (true && true) <|
  noPan (cr 40 [t11] h75) fun t12 h76 =>
  guardR (((agn1 h76 a0 t4) && ((agn1 h76 t6 t7) && ((agn1 h76 t9 t10) && true))) && true) <|
  noPan (pureR (intB .lss t10 t12) h76) fun t13 h77 =>
  guardR (true && true) <|
  ifR t13
  (bindR (ldR h77 a0) fun t14 h78 =>
  bindR (pureR (nonnil t14) h78) fun t15 h79 =>
  bindR (pureR (padd 3 t15) h79) fun t16 h80 =>
  bindR (ldR h80 t16) fun t17 h81 =>
  bindR (pureR (nonnil t17) h81) fun t18 h82 =>
  bindR (pureR (padd 3 t18) h82) fun t19 h83 =>
  bindR (stR h83 t19 (.bool false)) fun _ h84 =>
  bindR (ldR h84 a0) fun t20 h85 =>
  bindR (cr 41 [t20] h85) fun t21 h86 =>
  bindR (ldR h86 a0) fun t22 h87 =>
  bindR (ldR h87 a1) fun t23 h88 =>
  bindR (pureR (nonnil t22) h88) fun t24 h89 =>
  bindR (pureR (padd 2 t24) h89) fun t25 h90 =>
  bindR (stR h90 t25 t23) fun _ h91 =>
  bindR (some (.ret (.bool false) h91)) fun t2 h92 =>
  ((some []).bind fun l => bif clean t2 then some (t2 :: l) else none).bind fun l => some (.ret (tup l) h92))
  (f39j1 cr n a0 h77)
theorem eq39 (cr : FuncId → List Value → Heap → Res) (n : Nat) (a0 a1 : Value) (h : Heap) : runR Try.prog cfg cr n 39 [a0, a1] h = f39 cr n a0 a1 h := by kernel_rfl
-- (*hedgewright/hands.hand).key
def f40 (cr : FuncId → List Value → Heap → Res) (n : Nat) (a0 : Value) (h : Heap) : Res :=
  bindR (some (.ret (.int .i64 0) h)) fun t2 h1 =>
  noPan (some (.ret a0 h1)) fun t3 h2 =>
  guardR (true && true) <|
  noPan (pureR (nonnil t3) h2) fun t4 h3 =>
  guardR (true && true) <|
  noPan (pureR (padd 0 t4) h3) fun t5 h4 =>
  guardR (true && true) <|
  noPan (ldR h4 t5) fun t6 h5 =>
  guardR (true && true) <|
  noPan (some (.ret a0 h5)) fun t7 h6 =>
  guardR (true && true) <|
  noPan (pureR (nonnil t7) h6) fun t8 h7 =>
  guardR (true && true) <|
  noPan (pureR (padd 1 t8) h7) fun t9 h8 =>
  guardR (true && true) <|
  noPan (ldR h8 t9) fun t10 h9 =>
  guardR (true && true) <|
  noPan (pureR (idxS 2 t6 t10) h9) fun t11 h10 =>
  guardR (true && true) <|
  noPan (pureR (padd 1 t11) h10) fun t12 h11 =>
  guardR (true && true) <|
  noPan (ldR h11 t12) fun t13 h12 =>
  guardR (true && true) <|
  noPan (some (.ret t13 h12)) fun t2 h13 =>
  guardR (true && true) <|
  ((some []).bind fun l => bif clean t2 then some (t2 :: l) else none).bind fun l => some (.ret (tup l) h13)
theorem eq40 (cr : FuncId → List Value → Heap → Res) (n : Nat) (a0 : Value) (h : Heap) : runR Try.prog cfg cr n 40 [a0] h = f40 cr n a0 h := by kernel_rfl
-- (*hedgewright/hands.hand).on
def f41 (cr : FuncId → List Value → Heap → Res) (n : Nat) (a0 : Value) (h : Heap) : Res :=
  noPan (some (.ret a0 h)) fun t2 h1 =>
  guardR (true && true) <|
  noPan (some (.ret a0 h1)) fun t3 h2 =>
  guardR (true && true) <|
  noPan (some (.ret a0 h2)) fun t4 h3 =>
  guardR (true && true) <|
  noPan (pureR (nonnil t4) h3) fun t5 h4 =>
  guardR (true && true) <|
  noPan (pureR (padd 4 t5) h4) fun t6 h5 =>
  guardR (true && true) <|
  noPan (ldR h5 t6) fun t7 h6 =>
  guardR (true && true) <|
  noPan (some (.ret a0 h6)) fun t8 h7 =>
  guardR (true && true) <|
  noPan (pureR (nonnil t8) h7) fun t9 h8 =>
  guardR (true && true) <|
  noPan (pureR (padd 4 t9) h8) fun t10 h9 =>
  guardR (true && true) <|
  noPan (ldR h9 t10) fun t11 h10 =>
  guardR (true && true) <|
  noPan (pureR (nonnil t11) h10) fun t12 h11 =>
  guardR (true && true) <|
  noPan (pureR (padd 1 t12) h11) fun t13 h12 =>
  guardR (true && true) <|
  noPan (ldR h12 t13) fun t14 h13 =>
  guardR (true && true) <|
  noPan (pureR (nonnil t2) h13) fun t15 h14 =>
  guardR (true && true) <|
  noPan (pureR (padd 3 t15) h14) fun t16 h15 =>
  guardR (true && true) <|
  noPan (stR h15 t16 t7) fun _ h16 =>
  guardR (true && true) <|
  noPan (pureR (nonnil t3) h16) fun t17 h17 =>
  guardR (true && true) <|
  noPan (pureR (padd 4 t17) h17) fun t18 h18 =>
  guardR (true && true) <|
  noPan (stR h18 t18 t14) fun _ h19 =>
  guardR (true && true) <|
  (some []).bind fun l => some (.ret (tup l) h19)
theorem eq41 (cr : FuncId → List Value → Heap → Res) (n : Nat) (a0 : Value) (h : Heap) : runR Try.prog cfg cr n 41 [a0] h = f41 cr n a0 h := by kernel_rfl
-- (*hedgewright/hands.hand).kind
def f42 (cr : FuncId → List Value → Heap → Res) (n : Nat) (a0 : Value) (h : Heap) : Res :=
  bindR (some (.ret (.int .i64 0) h)) fun t2 h1 =>
  noPan (some (.ret a0 h1)) fun t3 h2 =>
  guardR (true && true) <|
  noPan (pureR (nonnil t3) h2) fun t4 h3 =>
  guardR (true && true) <|
  noPan (pureR (padd 0 t4) h3) fun t5 h4 =>
  guardR (true && true) <|
  noPan (ldR h4 t5) fun t6 h5 =>
  guardR (true && true) <|
  noPan (some (.ret a0 h5)) fun t7 h6 =>
  guardR (true && true) <|
  noPan (pureR (nonnil t7) h6) fun t8 h7 =>
  guardR (true && true) <|
  noPan (pureR (padd 1 t8) h7) fun t9 h8 =>
  guardR (true && true) <|
  noPan (ldR h8 t9) fun t10 h9 =>
  guardR (true && true) <|
  noPan (pureR (idxS 2 t6 t10) h9) fun t11 h10 =>
  guardR (true && true) <|
  noPan (pureR (padd 0 t11) h10) fun t12 h11 =>
  guardR (true && true) <|
  noPan (ldR h11 t12) fun t13 h12 =>
  guardR (true && true) <|
  noPan (some (.ret t13 h12)) fun t2 h13 =>
  guardR (true && true) <|
  ((some []).bind fun l => bif clean t2 then some (t2 :: l) else none).bind fun l => some (.ret (tup l) h13)
theorem eq42 (cr : FuncId → List Value → Heap → Res) (n : Nat) (a0 : Value) (h : Heap) : runR Try.prog cfg cr n 42 [a0] h = f42 cr n a0 h := by kernel_rfl
-- (*hedgewright/hands.hand).add
def f43 (cr : FuncId → List Value → Heap → Res) (n : Nat) (a0 : Value) (h : Heap) : Res :=
  noPan (some (.ret a0 h)) fun t2 h1 =>
  guardR (true && true) <|
  noPan (pureR (nonnil t2) h1) fun t3 h2 =>
  guardR (true && true) <|
  noPan (pureR (padd 3 t3) h2) fun t4 h3 =>
  guardR (true && true) <|
  noPan (ldR h3 t4) fun t5 h4 =>
  guardR (true && true) <|
  noPan (some (.ret a0 h4)) fun t6 h5 =>
  guardR (true && true) <|
  noPan (cr 40 [t6] h5) fun t7 h6 =>
  guardR (((agn1 h6 t4 t5) && true) && true) <|
  noPan (some (.ret a0 h6)) fun t8 h7 =>
  guardR (true && true) <|
  noPan (pureR (nonnil t8) h7) fun t9 h8 =>
  guardR (true && true) <|
  noPan (pureR (padd 4 t9) h8) fun t10 h9 =>
  guardR (true && true) <|
  noPan (ldR h9 t10) fun t11 h10 =>
  guardR (true && ((agn1 h5 t10 t11) && true)) <|
  noPan (pureR ((fillL [(.int .i64 0), (.pointer none), (.bool false), (.bool false)] [(0, 1, t7), (1, 1, t11)]).map fun c => .agg c.toArray) h10) fun t12 h11 =>
  guardR (true && true) <|
  noPan (boxR 4 h11 t12) fun t13 h12 =>
  guardR (true && true) <|
  noPan (pureR (nonnil t5) h12) fun t14 h13 =>
  guardR (true && true) <|
  noPan (pureR (padd 1 t14) h13) fun t15 h14 =>
  guardR (true && true) <|
  noPan (stR h14 t15 t13) fun _ h15 =>
  guardR (true && true) <|
  (some []).bind fun l => some (.ret (tup l) h15)
theorem eq43 (cr : FuncId → List Value → Heap → Res) (n : Nat) (a0 : Value) (h : Heap) : runR Try.prog cfg cr n 43 [a0] h = f43 cr n a0 h := by kernel_rfl
-- (*hedgewright/hands.hand).free
def f44 (cr : FuncId → List Value → Heap → Res) (n : Nat) (a0 : Value) (h : Heap) : Res :=
  noPan (some (.ret a0 h)) fun t2 h1 =>
  guardR (true && true) <|
  noPan (pureR (nonnil t2) h1) fun t3 h2 =>
  guardR (true && true) <|
  noPan (pureR (padd 3 t3) h2) fun t4 h3 =>
  guardR (true && true) <|
  noPan (ldR h3 t4) fun t5 h4 =>
  guardR (true && true) <|
  noPan (some (.ret a0 h4)) fun t6 h5 =>
  guardR (true && true) <|
  noPan (pureR (nonnil t6) h5) fun t7 h6 =>
  guardR (true && true) <|
  noPan (pureR (padd 4 t7) h6) fun t8 h7 =>
  guardR (true && true) <|
  noPan (ldR h7 t8) fun t9 h8 =>
  guardR (true && true) <|
  noPan (pureR (nonnil t5) h8) fun t10 h9 =>
  guardR (true && true) <|
  noPan (pureR (padd 3 t10) h9) fun t11 h10 =>
  guardR (true && true) <|
  noPan (stR h10 t11 (.bool false)) fun _ h11 =>
  guardR (true && true) <|
  noPan (pureR (nonnil t9) h11) fun t12 h12 =>
  guardR (true && true) <|
  noPan (pureR (padd 3 t12) h12) fun t13 h13 =>
  guardR (true && true) <|
  noPan (stR h13 t13 (.bool false)) fun _ h14 =>
  guardR (true && true) <|
  (some []).bind fun l => some (.ret (tup l) h14)
theorem eq44 (cr : FuncId → List Value → Heap → Res) (n : Nat) (a0 : Value) (h : Heap) : runR Try.prog cfg cr n 44 [a0] h = f44 cr n a0 h := by kernel_rfl
-- (*hedgewright/hands.table).lock$3
def f45j1 (cr : FuncId → List Value → Heap → Res) (n : Nat) (h : Heap) : Res :=
  bindR (some (.ret (.bool false) h)) fun t3 h2 =>
  ((some []).bind fun l => bif clean t3 then some (t3 :: l) else none).bind fun l => some (.ret (tup l) h2)
def f45 (cr : FuncId → List Value → Heap → Res) (n : Nat) (a0 a1 a2 : Value) (h : Heap) : Res :=
  bindR (some (.ret (.bool false) h)) fun t3 h1 =>
  bindR (ldR h1 a0) fun t4 h3 =>
  bindR (pureR (nonnil t4) h3) fun t5 h4 =>
  bindR (pureR (padd 1 t5) h4) fun t6 h5 =>
  bindR (ldR h5 t6) fun t7 h6 =>
  bindR (cr 38 [t7] h6) fun t8 h7 =>
  ifR t8
  (bindR (ldR h7 a0) fun t9 h8 =>
  bindR (ldR h8 a1) fun t10 h9 =>
  bindR (cr 46 [t9, t10] h9) fun t11 h10 =>
  bindR (ldR h10 a1) fun t12 h11 =>
  bindR (ldR h11 a2) fun t13 h12 =>
  bindR (pureR (nonnil t12) h12) fun t14 h13 =>
  bindR (pureR (padd 2 t14) h13) fun t15 h14 =>
  bindR (stR h14 t15 t13) fun _ h15 =>
  f45j1 cr n h15)
  (f45j1 cr n h7)
theorem eq45 (cr : FuncId → List Value → Heap → Res) (n : Nat) (a0 a1 a2 : Value) (h : Heap) : runR Try.prog cfg cr n 45 [a0, a1, a2] h = f45 cr n a0 a1 a2 h := by kernel_rfl
-- (*hedgewright/hands.table).begin
def f46 (cr : FuncId → List Value → Heap → Res) (n : Nat) (a0 a1 : Value) (h : Heap) : Res :=
  noPan (some (.ret a1 h)) fun t4 h1 =>
  guardR (true && true) <|
  noPan (some (.ret a1 h1)) fun t5 h2 =>
  guardR (true && true) <|
  noPan (some (.ret a0 h2)) fun t6 h3 =>
  guardR (true && true) <|
  noPan (pureR (nonnil t6) h3) fun t7 h4 =>
  guardR (true && true) <|
  noPan (pureR (padd 1 t7) h4) fun t8 h5 =>
  guardR (true && true) <|
  noPan (ldR h5 t8) fun t9 h6 =>
  guardR (true && true) <|
  noPan (some (.ret a0 h6)) fun t10 h7 =>
  guardR (true && true) <|
  noPan (pureR (nonnil t10) h7) fun t11 h8 =>
  guardR (true && true) <|
  noPan (pureR (padd 1 t11) h8) fun t12 h9 =>
  guardR (true && true) <|
  noPan (ldR h9 t12) fun t13 h10 =>
  guardR (true && true) <|
  noPan (pureR (nonnil t13) h10) fun t14 h11 =>
  guardR (true && true) <|
  noPan (pureR (padd 1 t14) h11) fun t15 h12 =>
  guardR (true && true) <|
  noPan (ldR h12 t15) fun t16 h13 =>
  guardR (true && true) <|
  noPan (pureR (nonnil t4) h13) fun t17 h14 =>
  guardR (true && true) <|
  noPan (pureR (padd 3 t17) h14) fun t18 h15 =>
  guardR (true && true) <|
  noPan (stR h15 t18 t9) fun _ h16 =>
  guardR (true && true) <|
  noPan (pureR (nonnil t5) h16) fun t19 h17 =>
  guardR (true && true) <|
  noPan (pureR (padd 4 t19) h17) fun t20 h18 =>
  guardR (true && true) <|
  noPan (stR h18 t20 t16) fun _ h19 =>
  guardR (true && true) <|
  (some []).bind fun l => some (.ret (tup l) h19)
theorem eq46 (cr : FuncId → List Value → Heap → Res) (n : Nat) (a0 a1 : Value) (h : Heap) : runR Try.prog cfg cr n 46 [a0, a1] h = f46 cr n a0 a1 h := by kernel_rfl
-- (*hedgewright/hands.table).lazy$1
def f47 (cr : FuncId → List Value → Heap → Res) (n : Nat) (a0 a1 a2 : Value) (h : Heap) : Res :=
  bindR (some (.ret (.bool false) h)) fun t3 h1 =>
  bindR (ldR h1 a0) fun t4 h2 =>
  bindR (ldR h2 a1) fun t5 h3 =>
  bindR (cr 46 [t4, t5] h3) fun t6 h4 =>
  bindR (ldR h4 a1) fun t7 h5 =>
  bindR (ldR h5 a2) fun t8 h6 =>
  bindR (pureR (nonnil t7) h6) fun t9 h7 =>
  bindR (pureR (padd 2 t9) h7) fun t10 h8 =>
  bindR (stR h8 t10 t8) fun _ h9 =>
  bindR (some (.ret (.bool false) h9)) fun t3 h10 =>
  ((some []).bind fun l => bif clean t3 then some (t3 :: l) else none).bind fun l => some (.ret (tup l) h10)
theorem eq47 (cr : FuncId → List Value → Heap → Res) (n : Nat) (a0 a1 a2 : Value) (h : Heap) : runR Try.prog cfg cr n 47 [a0, a1, a2] h = f47 cr n a0 a1 a2 h := by kernel_rfl
-- (*hedgewright/hands.table).lazy$2
def f48j1 (cr : FuncId → List Value → Heap → Res) (n : Nat) (h : Heap) : Res :=
  bindR (some (.ret (.bool false) h)) fun t2 h2 =>
  ((some []).bind fun l => bif clean t2 then some (t2 :: l) else none).bind fun l => some (.ret (tup l) h2)
def f48 (cr : FuncId → List Value → Heap → Res) (n : Nat) (a0 a1 : Value) (h : Heap) : Res :=
  bindR (some (.ret (.bool false) h)) fun t2 h1 =>
  noPan (ldR h1 a0) fun t6 h3 =>
  guardR (true && true) <|
  noPan (pureR (nonnil t6) h3) fun t7 h4 =>
  guardR (true && true) <|
  noPan (pureR (padd 4 t7) h4) fun t8 h5 =>
  guardR (true && true) <|
  noPan (ldR h5 t8) fun t9 h6 =>
  guardR (true && true) <|
  noPan (pureR (nonnil t9) h6) fun t10 h7 =>
  guardR (true && true) <|
  noPan (pureR (padd 0 t10) h7) fun t11 h8 =>
  guardR (true && true) <|
  noPan (ldR h8 t11) fun t12 h9 =>
  guardR (true && true) <|
  noPan (ldR h9 a0) fun t13 h10 =>
  guardR (true && true) <|
  noPan (cr 40 [t13] h10) fun t14 h11 =>
  guardR (((agn1 h11 a0 t6) && ((agn1 h11 t8 t9) && ((agn1 h11 t11 t12) && true))) && true) <|
  noPan (pureR (intB .lss t12 t14) h11) fun t15 h12 =>
  guardR (true && true) <|
  noPan (some (.ret t15 h12)) fun t5 h13 =>
  guardR (true && true) <|
  ifR t5
  (bindR (ldR h13 a0) fun t16 h14 =>
  bindR (cr 41 [t16] h14) fun t17 h15 =>
  f48j1 cr n h15)
  (bindR (ldR h13 a0) fun t19 h16 =>
  bindR (cr 42 [t19] h16) fun t20 h17 =>
  bindR (pureR (intB .eql t20 (.int .i64 3)) h17) fun t21 h18 =>
  bindR (some (.ret t21 h18)) fun t18 h19 =>
  ifR t18
  (noPan (ldR h19 a0) fun t22 h20 =>
  guardR (true && true) <|
  noPan (ldR h20 a0) fun t23 h21 =>
  guardR (true && true) <|
  noPan (pureR (nonnil t23) h21) fun t24 h22 =>
  guardR (true && true) <|
  noPan (pureR (padd 4 t24) h22) fun t25 h23 =>
  guardR (true && true) <|
  noPan (ldR h23 t25) fun t26 h24 =>
  guardR (true && true) <|
  noPan (pureR (nonnil t26) h24) fun t27 h25 =>
  guardR (true && true) <|
  noPan (pureR (padd 0 t27) h25) fun t28 h26 =>
  guardR (true && true) <|
  noPan (ldR h26 t28) fun t29 h27 =>
  guardR (true && true) <|
  noPan (ldR h27 a0) fun t30 h28 =>
  guardR (true && true) <|
  noPan (cr 40 [t30] h28) fun t31 h29 =>
  guardR (((agn1 h29 a0 t22) && ((agn1 h29 a0 t23) && ((agn1 h29 t25 t26) && ((agn1 h29 t28 t29) && true)))) && true) <|
  noPan (pureR (intB .eql t29 t31) h29) fun t32 h30 =>
  guardR (true && true) <|
  noPan (some (.ret t32 h30)) fun t33 h31 =>
  guardR (true && true) <|
  noPan (gd true t33 (ldR h31 a0) h31) fun t34 h32 =>
  guardR (true && true) <|
  noPan (gd true t33 (pureR (nonnil t34) h32) h32) fun t35 h33 =>
  guardR (true && true) <|
  noPan (gd true t33 (pureR (padd 4 t35) h33) h33) fun t36 h34 =>
  guardR (true && true) <|
  noPan (gd true t33 (ldR h34 t36) h34) fun t37 h35 =>
  guardR (true && true) <|
  noPan (gd true t33 (pureR (nonnil t37) h35) h35) fun t38 h36 =>
  guardR (true && true) <|
  noPan (gd true t33 (pureR (padd 2 t38) h36) h36) fun t39 h37 =>
  guardR (true && true) <|
  noPan (gd true t33 (ldR h37 t39) h37) fun t40 h38 =>
  guardR (true && true) <|
  noPan (gd true t33 (pureR (unV .not t40) h38) h38) fun t41 h39 =>
  guardR (true && true) <|
  noPan (pureR (pickV t33 t41 (.bool false)) h39) fun t42 h40 =>
  guardR (true && true) <|
  noPan (pureR (nonnil t22) h40) fun t43 h41 =>
  guardR (true && true) <|
  noPan (pureR (padd 5 t43) h41) fun t44 h42 =>
  guardR (true && true) <|
  noPan (stR h42 t44 t42) fun _ h43 =>
  guardR (true && true) <|
  bindR (some (.ret (.bool true) h43)) fun t2 h44 =>
  ((some []).bind fun l => bif clean t2 then some (t2 :: l) else none).bind fun l => some (.ret (tup l) h44))
  (bindR (ldR h19 a1) fun t3 h45 =>
  bindR (callV cr h45 t3 []) fun t4 h46 =>
  bindR (some (.ret t4 h46)) fun t2 h47 =>
  ((some []).bind fun l => bif clean t2 then some (t2 :: l) else none).bind fun l => some (.ret (tup l) h47)))
theorem eq48 (cr : FuncId → List Value → Heap → Res) (n : Nat) (a0 a1 : Value) (h : Heap) : runR Try.prog cfg cr n 48 [a0, a1] h = f48 cr n a0 a1 h := by kernel_rfl
-- (*hedgewright/hands.table).lazy$3
def f49j1 (cr : FuncId → List Value → Heap → Res) (n : Nat) (h : Heap) : Res :=
  bindR (some (.ret (.bool false) h)) fun t3 h7 =>
  ((some []).bind fun l => bif clean t3 then some (t3 :: l) else none).bind fun l => some (.ret (tup l) h7)
def f49 (cr : FuncId → List Value → Heap → Res) (n : Nat) (a0 a1 a2 : Value) (h : Heap) : Res :=
  bindR (some (.ret (.bool false) h)) fun t3 h1 =>
  bindR (ldR h1 a1) fun t4 h2 =>
  bindR (ldR h2 a0) fun t5 h3 =>
  bindR (pureR (nonnil t4) h3) fun t6 h4 =>
  bindR (pureR (padd 2 t6) h4) fun t7 h5 =>
  bindR (stR h5 t7 t5) fun _ h6 =>
  bindR (ldR h6 a1) fun t8 h8 =>
  bindR (pureR (nonnil t8) h8) fun t9 h9 =>
  bindR (pureR (padd 3 t9) h9) fun t10 h10 =>
  bindR (ldR h10 t10) fun t11 h11 =>
  bindR (cr 38 [t11] h11) fun t12 h12 =>
  ifR t12
  (bindR (ldR h12 a1) fun t13 h13 =>
  bindR (ldR h13 a2) fun t14 h14 =>
  bindR (pureR (nonnil t13) h14) fun t15 h15 =>
  bindR (pureR (padd 2 t15) h15) fun t16 h16 =>
  bindR (stR h16 t16 t14) fun _ h17 =>
  f49j1 cr n h17)
  (f49j1 cr n h12)
theorem eq49 (cr : FuncId → List Value → Heap → Res) (n : Nat) (a0 a1 a2 : Value) (h : Heap) : runR Try.prog cfg cr n 49 [a0, a1, a2] h = f49 cr n a0 a1 a2 h := by kernel_rfl
-- (*hedgewright/hands.table).lazy$4
def f50j1 (cr : FuncId → List Value → Heap → Res) (n : Nat) (h : Heap) : Res :=
  bindR (some (.ret (.bool false) h)) fun t2 h2 =>
  ((some []).bind fun l => bif clean t2 then some (t2 :: l) else none).bind fun l => some (.ret (tup l) h2)
def f50 (cr : FuncId → List Value → Heap → Res) (n : Nat) (a0 a1 : Value) (h : Heap) : Res :=
  bindR (some (.ret (.bool false) h)) fun t2 h1 =>
  bindR (ldR h1 a0) fun t3 h3 =>
  bindR (pureR (nonnil t3) h3) fun t4 h4 =>
  bindR (pureR (padd 4 t4) h4) fun t5 h5 =>
  bindR (ldR h5 t5) fun t6 h6 =>
  bindR (cr 38 [t6] h6) fun t7 h7 =>
  ifR t7
  (bindR (ldR h7 a0) fun t8 h8 =>
  bindR (ldR h8 a1) fun t9 h9 =>
  bindR (pureR (nonnil t8) h9) fun t10 h10 =>
  bindR (pureR (padd 2 t10) h10) fun t11 h11 =>
  bindR (stR h11 t11 t9) fun _ h12 =>
  f50j1 cr n h12)
  (f50j1 cr n h7)
theorem eq50 (cr : FuncId → List Value → Heap → Res) (n : Nat) (a0 a1 : Value) (h : Heap) : runR Try.prog cfg cr n 50 [a0, a1] h = f50 cr n a0 a1 h := by kernel_rfl
-- (*hedgewright/hands.table).lazy$5
def f51j1 (cr : FuncId → List Value → Heap → Res) (n : Nat) (t0 : Value) (h : Heap) : Res :=
  bindR (ldR h t0) fun t85 h2 =>
  bindR (cr 44 [t85] h2) fun t86 h3 =>
  bindR (some (.ret (.bool true) h3)) fun t3 h4 =>
  ((some []).bind fun l => bif clean t3 then some (t3 :: l) else none).bind fun l => some (.ret (tup l) h4)
def f51 (cr : FuncId → List Value → Heap → Res) (n : Nat) (a0 a1 a2 : Value) (h : Heap) : Res :=
  bindR (some (.ret (.bool false) h)) fun t3 h1 =>
  noPan (ldR h1 a0) fun t5 h5 =>
  guardR (true && true) <|
  noPan (pureR (nonnil t5) h5) fun t6 h6 =>
  guardR (true && true) <|
  noPan (pureR (padd 4 t6) h6) fun t7 h7 =>
  guardR (true && true) <|
  noPan (ldR h7 t7) fun t8 h8 =>
  guardR (true && true) <|
  noPan (pureR (nonnil t8) h8) fun t9 h9 =>
  guardR (true && true) <|
  noPan (pureR (padd 0 t9) h9) fun t10 h10 =>
  guardR (true && true) <|
  noPan (ldR h10 t10) fun t11 h11 =>
  guardR (true && true) <|
  noPan (ldR h11 a0) fun t12 h12 =>
  guardR (true && true) <|
  noPan (cr 40 [t12] h12) fun t13 h13 =>
  guardR (((agn1 h13 a0 t5) && ((agn1 h13 t7 t8) && ((agn1 h13 t10 t11) && true))) && true) <|
  noPan (pureR (intB .eql t11 t13) h13) fun t14 h14 =>
  guardR (true && true) <|
  noPan (some (.ret t14 h14)) fun t4 h15 =>
  guardR (true && true) <|
  noPan (ldR h15 a0) fun t19 h16 =>
  guardR (true && true) <|
  noPan (pureR (nonnil t19) h16) fun t20 h17 =>
  guardR (true && true) <|
  noPan (pureR (padd 3 t20) h17) fun t21 h18 =>
  guardR (true && true) <|
  noPan (ldR h18 t21) fun t22 h19 =>
  guardR (true && true) <|
  noPan (pureR (nonnil t22) h19) fun t23 h20 =>
  guardR (true && true) <|
  noPan (pureR (padd 2 t23) h20) fun t24 h21 =>
  guardR (true && true) <|
  noPan (ldR h21 t24) fun t25 h22 =>
  guardR (true && true) <|
  noPan (some (.ret t25 h22)) fun t26 h23 =>
  guardR (true && true) <|
  noPan (gd false t26 (ldR h23 a0) h23) fun t27 h24 =>
  guardR (true && true) <|
  noPan (gd false t26 (pureR (nonnil t27) h24) h24) fun t28 h25 =>
  guardR (true && true) <|
  noPan (gd false t26 (pureR (padd 4 t28) h25) h25) fun t29 h26 =>
  guardR (true && true) <|
  noPan (gd false t26 (ldR h26 t29) h26) fun t30 h27 =>
  guardR (true && true) <|
  noPan (gd false t26 (pureR (nonnil t30) h27) h27) fun t31 h28 =>
  guardR (true && true) <|
  noPan (gd false t26 (pureR (padd 2 t31) h28) h28) fun t32 h29 =>
  guardR (true && true) <|
  noPan (gd false t26 (ldR h29 t32) h29) fun t33 h30 =>
  guardR (true && true) <|
  noPan (pureR (pickV t26 (.bool true) t33) h30) fun t34 h31 =>
  guardR (true && true) <|
  noPan (some (.ret t34 h31)) fun t35 h32 =>
  guardR (true && true) <|
  noPan (gd false t35 (ldR h32 a0) h32) fun t36 h33 =>
  guardR (true && true) <|
  noPan (gd false t35 (pureR (nonnil t36) h33) h33) fun t37 h34 =>
  guardR (true && true) <|
  noPan (gd false t35 (pureR (padd 3 t37) h34) h34) fun t38 h35 =>
  guardR (true && true) <|
  noPan (gd false t35 (ldR h35 t38) h35) fun t39 h36 =>
  guardR (true && true) <|
  noPan (gd false t35 (pureR (nonnil t39) h36) h36) fun t40 h37 =>
  guardR (true && true) <|
  noPan (gd false t35 (pureR (padd 1 t40) h37) h37) fun t41 h38 =>
  guardR (true && true) <|
  noPan (gd false t35 (ldR h38 t41) h38) fun t42 h39 =>
  guardR (true && true) <|
  noPan (gd false t35 (ldR h39 a0) h39) fun t43 h40 =>
  guardR (true && true) <|
  noPan (gd false t35 (pureR (nonnil t43) h40) h40) fun t44 h41 =>
  guardR (true && true) <|
  noPan (gd false t35 (pureR (padd 4 t44) h41) h41) fun t45 h42 =>
  guardR (true && true) <|
  noPan (gd false t35 (ldR h42 t45) h42) fun t46 h43 =>
  guardR (true && true) <|
  noPan (gd false t35 (pureR (eqNeq .neq (ptrE h43 t42 t46)) h43) h43) fun t47 h44 =>
  guardR (true && true) <|
  noPan (pureR (pickV t35 (.bool true) t47) h44) fun t48 h45 =>
  guardR (true && true) <|
  noPan (some (.ret t48 h45)) fun t18 h46 =>
  guardR (true && true) <|
  ifR t18
  (bindR (ldR h46 a0) fun t49 h47 =>
  bindR (cr 44 [t49] h47) fun t50 h48 =>
  bindR (ldR h48 a0) fun t51 h49 =>
  bindR (ldR h49 a1) fun t52 h50 =>
  bindR (pureR (nonnil t51) h50) fun t53 h51 =>
  bindR (pureR (padd 2 t53) h51) fun t54 h52 =>
  bindR (stR h52 t54 t52) fun _ h53 =>
  bindR (some (.ret (.bool false) h53)) fun t3 h54 =>
  ((some []).bind fun l => bif clean t3 then some (t3 :: l) else none).bind fun l => some (.ret (tup l) h54))
  (bindR (ldR h46 a0) fun t56 h55 =>
  bindR (cr 42 [t56] h55) fun t57 h56 =>
  bindR (pureR (intB .eql t57 (.int .i64 1)) h56) fun t58 h57 =>
  bindR (some (.ret t58 h57)) fun t55 h58 =>
  ifR t55
  (bindR (ldR h58 a0) fun t59 h59 =>
  bindR (some (.ret t4 h59)) fun t60 h60 =>
  bindR (pureR (unV .not t60) h60) fun t61 h61 =>
  bindR (pureR (nonnil t59) h61) fun t62 h62 =>
  bindR (pureR (padd 5 t62) h62) fun t63 h63 =>
  bindR (stR h63 t63 t61) fun _ h64 =>
  bindR (ldR h64 a0) fun t64 h65 =>
  bindR (pureR (nonnil t64) h65) fun t65 h66 =>
  bindR (pureR (padd 5 t65) h66) fun t66 h67 =>
  bindR (ldR h67 t66) fun t67 h68 =>
  ifR t67
  (bindR (ldR h68 a0) fun t68 h69 =>
  bindR (cr 43 [t68] h69) fun t69 h70 =>
  f51j1 cr n a0 h70)
  (f51j1 cr n a0 h68))
  (bindR (some (.ret t4 h58)) fun t71 h71 =>
  bindR (some (.ret t71 h71)) fun t70 h72 =>
  ifR t70
  (noPan (ldR h72 a0) fun t72 h73 =>
  guardR (true && true) <|
  noPan (pureR (nonnil t72) h73) fun t73 h74 =>
  guardR (true && true) <|
  noPan (pureR (padd 4 t73) h74) fun t74 h75 =>
  guardR (true && true) <|
  noPan (ldR h75 t74) fun t75 h76 =>
  guardR (true && true) <|
  noPan (ldR h76 a0) fun t76 h77 =>
  guardR (true && true) <|
  noPan (pureR (nonnil t75) h77) fun t77 h78 =>
  guardR (true && true) <|
  noPan (pureR (padd 2 t77) h78) fun t78 h79 =>
  guardR (true && true) <|
  noPan (stR h79 t78 (.bool true)) fun _ h80 =>
  guardR (((agn1 h80 a0 t76) && true) && true) <|
  noPan (pureR (nonnil t76) h80) fun t79 h81 =>
  guardR (true && true) <|
  noPan (pureR (padd 5 t79) h81) fun t80 h82 =>
  guardR (true && true) <|
  noPan (stR h82 t80 (.bool true)) fun _ h83 =>
  guardR (true && true) <|
  bindR (ldR h83 a0) fun t81 h84 =>
  bindR (ldR h84 a2) fun t82 h85 =>
  bindR (pureR (nonnil t81) h85) fun t83 h86 =>
  bindR (pureR (padd 2 t83) h86) fun t84 h87 =>
  bindR (stR h87 t84 t82) fun _ h88 =>
  bindR (some (.ret (.bool false) h88)) fun t3 h89 =>
  ((some []).bind fun l => bif clean t3 then some (t3 :: l) else none).bind fun l => some (.ret (tup l) h89))
  (bindR (ldR h72 a0) fun t15 h90 =>
  bindR (pureR (nonnil t15) h90) fun t16 h91 =>
  bindR (pureR (padd 5 t16) h91) fun t17 h92 =>
  bindR (stR h92 t17 (.bool false)) fun _ h93 =>
  f51j1 cr n a0 h93)))
theorem eq51 (cr : FuncId → List Value → Heap → Res) (n : Nat) (a0 a1 a2 : Value) (h : Heap) : runR Try.prog cfg cr n 51 [a0, a1, a2] h = f51 cr n a0 a1 a2 h := by kernel_rfl
-- (*hedgewright/hands.table).lazy$6
def f52 (cr : FuncId → List Value → Heap → Res) (n : Nat) (a0 : Value) (h : Heap) : Res :=
  bindR (some (.ret (.bool false) h)) fun t1 h1 =>
  noPan (ldR h1 a0) fun t2 h2 =>
  guardR (true && true) <|
  noPan (pureR (nonnil t2) h2) fun t3 h3 =>
  guardR (true && true) <|
  noPan (pureR (padd 3 t3) h3) fun t4 h4 =>
  guardR (true && true) <|
  noPan (ldR h4 t4) fun t5 h5 =>
  guardR (true && true) <|
  noPan (ldR h5 a0) fun t6 h6 =>
  guardR (true && true) <|
  noPan (pureR (nonnil t6) h6) fun t7 h7 =>
  guardR (true && true) <|
  noPan (pureR (padd 4 t7) h7) fun t8 h8 =>
  guardR (true && true) <|
  noPan (ldR h8 t8) fun t9 h9 =>
  guardR (true && true) <|
  noPan (pureR (nonnil t9) h9) fun t10 h10 =>
  guardR (true && true) <|
  noPan (pureR (padd 1 t10) h10) fun t11 h11 =>
  guardR (true && true) <|
  noPan (ldR h11 t11) fun t12 h12 =>
  guardR (true && true) <|
  noPan (pureR (nonnil t5) h12) fun t13 h13 =>
  guardR (true && true) <|
  noPan (pureR (padd 1 t13) h13) fun t14 h14 =>
  guardR (true && true) <|
  noPan (stR h14 t14 t12) fun _ h15 =>
  guardR (true && true) <|
  bindR (ldR h15 a0) fun t15 h16 =>
  bindR (cr 44 [t15] h16) fun t16 h17 =>
  bindR (some (.ret (.bool true) h17)) fun t1 h18 =>
  ((some []).bind fun l => bif clean t1 then some (t1 :: l) else none).bind fun l => some (.ret (tup l) h18)
theorem eq52 (cr : FuncId → List Value → Heap → Res) (n : Nat) (a0 : Value) (h : Heap) : runR Try.prog cfg cr n 52 [a0] h = f52 cr n a0 h := by kernel_rfl
-- (*hedgewright/hands.table).mark$1
def f53 (cr : FuncId → List Value → Heap → Res) (n : Nat) (a0 : Value) (h : Heap) : Res :=
  bindR (some (.ret (.bool false) h)) fun t1 h1 =>
  noPan (ldR h1 a0) fun t2 h2 =>
  guardR (true && true) <|
  noPan (pureR (nonnil t2) h2) fun t3 h3 =>
  guardR (true && true) <|
  noPan (pureR (padd 3 t3) h3) fun t4 h4 =>
  guardR (true && true) <|
  noPan (ldR h4 t4) fun t5 h5 =>
  guardR (true && true) <|
  noPan (pureR (nonnil t5) h5) fun t6 h6 =>
  guardR (true && true) <|
  noPan (pureR (padd 2 t6) h6) fun t7 h7 =>
  guardR (true && true) <|
  noPan (ldR h7 t7) fun t8 h8 =>
  guardR (true && true) <|
  noPan (pureR (unV .not t8) h8) fun t9 h9 =>
  guardR (true && true) <|
  noPan (some (.ret t9 h9)) fun t10 h10 =>
  guardR (true && true) <|
  noPan (gd true t10 (ldR h10 a0) h10) fun t11 h11 =>
  guardR (true && true) <|
  noPan (gd true t10 (pureR (nonnil t11) h11) h11) fun t12 h12 =>
  guardR (true && true) <|
  noPan (gd true t10 (pureR (padd 3 t12) h12) h12) fun t13 h13 =>
  guardR (true && true) <|
  noPan (gd true t10 (ldR h13 t13) h13) fun t14 h14 =>
  guardR (true && true) <|
  noPan (gd true t10 (pureR (nonnil t14) h14) h14) fun t15 h15 =>
  guardR (true && true) <|
  noPan (gd true t10 (pureR (padd 1 t15) h15) h15) fun t16 h16 =>
  guardR (true && true) <|
  noPan (gd true t10 (ldR h16 t16) h16) fun t17 h17 =>
  guardR (true && true) <|
  noPan (gd true t10 (ldR h17 a0) h17) fun t18 h18 =>
  guardR (true && true) <|
  noPan (gd true t10 (pureR (nonnil t18) h18) h18) fun t19 h19 =>
  guardR (true && true) <|
  noPan (gd true t10 (pureR (padd 4 t19) h19) h19) fun t20 h20 =>
  guardR (true && true) <|
  noPan (gd true t10 (ldR h20 t20) h20) fun t21 h21 =>
  guardR (true && true) <|
  noPan (gd true t10 (pureR (eqNeq .eql (ptrE h21 t17 t21)) h21) h21) fun t22 h22 =>
  guardR (true && true) <|
  noPan (pureR (pickV t10 t22 (.bool false)) h22) fun t23 h23 =>
  guardR (true && true) <|
  noPan (some (.ret t23 h23)) fun t1 h24 =>
  guardR (true && true) <|
  ((some []).bind fun l => bif clean t1 then some (t1 :: l) else none).bind fun l => some (.ret (tup l) h24)
theorem eq53 (cr : FuncId → List Value → Heap → Res) (n : Nat) (a0 : Value) (h : Heap) : runR Try.prog cfg cr n 53 [a0] h = f53 cr n a0 h := by kernel_rfl
-- (*hedgewright/hands.table).mark$2
def f54 (cr : FuncId → List Value → Heap → Res) (n : Nat) (a0 a1 a2 : Value) (h : Heap) : Res :=
  bindR (some (.ret (.bool false) h)) fun t3 h1 =>
  bindR (ldR h1 a0) fun t4 h2 =>
  bindR (ldR h2 a1) fun t5 h3 =>
  bindR (cr 46 [t4, t5] h3) fun t6 h4 =>
  bindR (ldR h4 a1) fun t7 h5 =>
  bindR (ldR h5 a2) fun t8 h6 =>
  bindR (pureR (nonnil t7) h6) fun t9 h7 =>
  bindR (pureR (padd 2 t9) h7) fun t10 h8 =>
  bindR (stR h8 t10 t8) fun _ h9 =>
  bindR (some (.ret (.bool false) h9)) fun t3 h10 =>
  ((some []).bind fun l => bif clean t3 then some (t3 :: l) else none).bind fun l => some (.ret (tup l) h10)
theorem eq54 (cr : FuncId → List Value → Heap → Res) (n : Nat) (a0 a1 a2 : Value) (h : Heap) : runR Try.prog cfg cr n 54 [a0, a1, a2] h = f54 cr n a0 a1 a2 h := by kernel_rfl
-- (*hedgewright/hands.table).mark$3
def f55j1 (cr : FuncId → List Value → Heap → Res) (n : Nat) (h : Heap) : Res :=
  bindR (some (.ret (.bool false) h)) fun t4 h13 =>
  ((some []).bind fun l => bif clean t4 then some (t4 :: l) else none).bind fun l => some (.ret (tup l) h13)
def f55 (cr : FuncId → List Value → Heap → Res) (n : Nat) (a0 a1 a2 a3 : Value) (h : Heap) : Res :=
  bindR (some (.ret (.bool false) h)) fun t4 h1 =>
  noPan (ldR h1 a0) fun t6 h2 =>
  guardR (true && true) <|
  noPan (pureR (nonnil t6) h2) fun t7 h3 =>
  guardR (true && true) <|
  noPan (pureR (padd 4 t7) h3) fun t8 h4 =>
  guardR (true && true) <|
  noPan (ldR h4 t8) fun t9 h5 =>
  guardR (true && true) <|
  noPan (pureR (nonnil t9) h5) fun t10 h6 =>
  guardR (true && true) <|
  noPan (pureR (padd 0 t10) h6) fun t11 h7 =>
  guardR (true && true) <|
  noPan (ldR h7 t11) fun t12 h8 =>
  guardR (true && true) <|
  noPan (ldR h8 a0) fun t13 h9 =>
  guardR (true && true) <|
  noPan (cr 40 [t13] h9) fun t14 h10 =>
  guardR (((agn1 h10 a0 t6) && ((agn1 h10 t8 t9) && ((agn1 h10 t11 t12) && true))) && true) <|
  noPan (pureR (intB .eql t12 t14) h10) fun t15 h11 =>
  guardR (true && true) <|
  noPan (some (.ret t15 h11)) fun t5 h12 =>
  guardR (true && true) <|
  bindR (ldR h12 a0) fun t21 h14 =>
  bindR (pureR (nonnil t21) h14) fun t22 h15 =>
  bindR (pureR (padd 4 t22) h15) fun t23 h16 =>
  bindR (ldR h16 t23) fun t24 h17 =>
  bindR (pureR (nonnil t24) h17) fun t25 h18 =>
  bindR (pureR (padd 2 t25) h18) fun t26 h19 =>
  bindR (ldR h19 t26) fun t27 h20 =>
  bindR (some (.ret t27 h20)) fun t28 h21 =>
  bindR (gd true t28 (ldR h21 a0) h21) fun t29 h22 =>
  bindR (gd true t28 (cr 42 [t29] h22) h22) fun t30 h23 =>
  bindR (gd true t28 (pureR (intB .neq t30 (.int .i64 3)) h23) h23) fun t31 h24 =>
  bindR (pureR (pickV t28 t31 (.bool false)) h24) fun t32 h25 =>
  bindR (some (.ret t32 h25)) fun t20 h26 =>
  ifR t20
  (bindR (ldR h26 a1) fun t33 h27 =>
  bindR (callV cr h27 t33 []) fun t34 h28 =>
  ifR t34
  (noPan (ldR h28 a0) fun t35 h29 =>
  guardR (true && true) <|
  noPan (pureR (nonnil t35) h29) fun t36 h30 =>
  guardR (true && true) <|
  noPan (pureR (padd 3 t36) h30) fun t37 h31 =>
  guardR (true && true) <|
  noPan (ldR h31 t37) fun t38 h32 =>
  guardR (true && true) <|
  noPan (ldR h32 a0) fun t39 h33 =>
  guardR (true && true) <|
  noPan (pureR (nonnil t39) h33) fun t40 h34 =>
  guardR (true && true) <|
  noPan (pureR (padd 4 t40) h34) fun t41 h35 =>
  guardR (true && true) <|
  noPan (ldR h35 t41) fun t42 h36 =>
  guardR (true && true) <|
  noPan (pureR (nonnil t42) h36) fun t43 h37 =>
  guardR (true && true) <|
  noPan (pureR (padd 1 t43) h37) fun t44 h38 =>
  guardR (true && true) <|
  noPan (ldR h38 t44) fun t45 h39 =>
  guardR (true && true) <|
  noPan (pureR (nonnil t38) h39) fun t46 h40 =>
  guardR (true && true) <|
  noPan (pureR (padd 1 t46) h40) fun t47 h41 =>
  guardR (true && true) <|
  noPan (stR h41 t47 t45) fun _ h42 =>
  guardR (true && true) <|
  noPan (ldR h42 a0) fun t48 h43 =>
  guardR (true && true) <|
  noPan (ldR h43 a0) fun t49 h44 =>
  guardR (true && true) <|
  noPan (pureR (nonnil t49) h44) fun t50 h45 =>
  guardR (true && true) <|
  noPan (pureR (padd 4 t50) h45) fun t51 h46 =>
  guardR (true && true) <|
  noPan (ldR h46 t51) fun t52 h47 =>
  guardR (true && true) <|
  noPan (pureR (nonnil t52) h47) fun t53 h48 =>
  guardR (true && true) <|
  noPan (pureR (padd 1 t53) h48) fun t54 h49 =>
  guardR (true && true) <|
  noPan (ldR h49 t54) fun t55 h50 =>
  guardR (true && true) <|
  noPan (pureR (nonnil t48) h50) fun t56 h51 =>
  guardR (true && true) <|
  noPan (pureR (padd 4 t56) h51) fun t57 h52 =>
  guardR (true && true) <|
  noPan (stR h52 t57 t55) fun _ h53 =>
  guardR (true && true) <|
  f55j1 cr n h53)
  (bindR (ldR h28 a0) fun t58 h54 =>
  bindR (ldR h54 a2) fun t59 h55 =>
  bindR (pureR (nonnil t58) h55) fun t60 h56 =>
  bindR (pureR (padd 2 t60) h56) fun t61 h57 =>
  bindR (stR h57 t61 t59) fun _ h58 =>
  f55j1 cr n h58))
  (noPan (ldR h26 a0) fun t63 h59 =>
  guardR (true && true) <|
  noPan (pureR (nonnil t63) h59) fun t64 h60 =>
  guardR (true && true) <|
  noPan (pureR (padd 4 t64) h60) fun t65 h61 =>
  guardR (true && true) <|
  noPan (ldR h61 t65) fun t66 h62 =>
  guardR (true && true) <|
  noPan (pureR (nonnil t66) h62) fun t67 h63 =>
  guardR (true && true) <|
  noPan (pureR (padd 0 t67) h63) fun t68 h64 =>
  guardR (true && true) <|
  noPan (ldR h64 t68) fun t69 h65 =>
  guardR (true && true) <|
  noPan (ldR h65 a0) fun t70 h66 =>
  guardR (true && true) <|
  noPan (cr 40 [t70] h66) fun t71 h67 =>
  guardR (((agn1 h67 a0 t63) && ((agn1 h67 t65 t66) && ((agn1 h67 t68 t69) && true))) && true) <|
  noPan (pureR (intB .lss t69 t71) h67) fun t72 h68 =>
  guardR (true && true) <|
  noPan (some (.ret t72 h68)) fun t62 h69 =>
  guardR (true && true) <|
  ifR t62
  (bindR (ldR h69 a0) fun t73 h70 =>
  bindR (cr 41 [t73] h70) fun t74 h71 =>
  f55j1 cr n h71)
  (bindR (ldR h69 a0) fun t76 h72 =>
  bindR (cr 42 [t76] h72) fun t77 h73 =>
  bindR (pureR (intB .eql t77 (.int .i64 3)) h73) fun t78 h74 =>
  bindR (some (.ret t78 h74)) fun t75 h75 =>
  ifR t75
  (noPan (ldR h75 a0) fun t79 h76 =>
  guardR (true && true) <|
  noPan (some (.ret t5 h76)) fun t80 h77 =>
  guardR (true && true) <|
  noPan (some (.ret t80 h77)) fun t81 h78 =>
  guardR (true && true) <|
  noPan (gd true t81 (ldR h78 a0) h78) fun t82 h79 =>
  guardR (true && true) <|
  noPan (gd true t81 (pureR (nonnil t82) h79) h79) fun t83 h80 =>
  guardR (true && true) <|
  noPan (gd true t81 (pureR (padd 4 t83) h80) h80) fun t84 h81 =>
  guardR (true && true) <|
  noPan (gd true t81 (ldR h81 t84) h81) fun t85 h82 =>
  guardR (true && true) <|
  noPan (gd true t81 (pureR (nonnil t85) h82) h82) fun t86 h83 =>
  guardR (true && true) <|
  noPan (gd true t81 (pureR (padd 2 t86) h83) h83) fun t87 h84 =>
  guardR (true && true) <|
  noPan (gd true t81 (ldR h84 t87) h84) fun t88 h85 =>
  guardR (true && true) <|
  noPan (gd true t81 (pureR (unV .not t88) h85) h85) fun t89 h86 =>
  guardR (true && true) <|
  noPan (pureR (pickV t81 t89 (.bool false)) h86) fun t90 h87 =>
  guardR (true && true) <|
  noPan (pureR (nonnil t79) h87) fun t91 h88 =>
  guardR (true && true) <|
  noPan (pureR (padd 5 t91) h88) fun t92 h89 =>
  guardR (true && true) <|
  noPan (stR h89 t92 t90) fun _ h90 =>
  guardR (true && true) <|
  bindR (some (.ret (.bool true) h90)) fun t4 h91 =>
  ((some []).bind fun l => bif clean t4 then some (t4 :: l) else none).bind fun l => some (.ret (tup l) h91))
  (bindR (some (.ret t5 h75)) fun t94 h92 =>
  bindR (ldR h92 a0) fun t95 h93 =>
  bindR (cr 42 [t95] h93) fun t96 h94 =>
  bindR (pureR (intB .eql t96 (.int .i64 1)) h94) fun t97 h95 =>
  bindR (pureR (eqNeq .eql (boolE t94 t97)) h95) fun t98 h96 =>
  bindR (some (.ret t98 h96)) fun t93 h97 =>
  ifR t93
  (bindR (ldR h97 a0) fun t99 h98 =>
  bindR (pureR (nonnil t99) h98) fun t100 h99 =>
  bindR (pureR (padd 5 t100) h99) fun t101 h100 =>
  bindR (stR h100 t101 (.bool false)) fun _ h101 =>
  bindR (some (.ret (.bool true) h101)) fun t4 h102 =>
  ((some []).bind fun l => bif clean t4 then some (t4 :: l) else none).bind fun l => some (.ret (tup l) h102))
  (bindR (ldR h97 a0) fun t16 h103 =>
  bindR (ldR h103 a3) fun t17 h104 =>
  bindR (pureR (nonnil t16) h104) fun t18 h105 =>
  bindR (pureR (padd 2 t18) h105) fun t19 h106 =>
  bindR (stR h106 t19 t17) fun _ h107 =>
  f55j1 cr n h107))))
theorem eq55 (cr : FuncId → List Value → Heap → Res) (n : Nat) (a0 a1 a2 a3 : Value) (h : Heap) : runR Try.prog cfg cr n 55 [a0, a1, a2, a3] h = f55 cr n a0 a1 a2 a3 h := by kernel_rfl
-- (*hedgewright/hands.table).mark$4
def f56j1 (cr : FuncId → List Value → Heap → Res) (n : Nat) (h : Heap) : Res :=
  bindR (some (.ret (.bool false) h)) fun t5 h8 =>
  ((some []).bind fun l => bif clean t5 then some (t5 :: l) else none).bind fun l => some (.ret (tup l) h8)
def f56 (cr : FuncId → List Value → Heap → Res) (n : Nat) (a0 a1 a2 a3 a4 : Value) (h : Heap) : Res :=
  bindR (some (.ret (.bool false) h)) fun t5 h1 =>
  bindR (ldR h1 a0) fun t7 h2 =>
  bindR (pureR (nonnil t7) h2) fun t8 h3 =>
  bindR (pureR (padd 0 t8) h3) fun t9 h4 =>
  bindR (ldR h4 t9) fun t10 h5 =>
  bindR (pureR (intB .eql t10 (.int .i64 4)) h5) fun t11 h6 =>
  bindR (some (.ret t11 h6)) fun t6 h7 =>
  bindR (ldR h7 a1) fun t17 h9 =>
  bindR (cr 42 [t17] h9) fun t18 h10 =>
  bindR (pureR (intB .eql t18 (.int .i64 1)) h10) fun t19 h11 =>
  bindR (some (.ret t19 h11)) fun t20 h12 =>
  bindR (gd true t20 (some (.ret t6 h12)) h12) fun t21 h13 =>
  bindR (gd true t20 (some (.ret t21 h13)) h13) fun t22 h14 =>
  bindR (gd false t22 (ldR h14 a2) h14) fun t23 h15 =>
  bindR (gd false t22 (callV cr h15 t23 []) h15) fun t24 h16 =>
  bindR (gd true t20 (pureR (pickV t22 (.bool true) t24) h16) h16) fun t25 h17 =>
  bindR (pureR (pickV t20 t25 (.bool false)) h17) fun t26 h18 =>
  bindR (some (.ret t26 h18)) fun t16 h19 =>
  ifR t16
  (bindR (ldR h19 a1) fun t27 h20 =>
  bindR (cr 43 [t27] h20) fun t28 h21 =>
  bindR (ldR h21 a1) fun t29 h22 =>
  bindR (pureR (nonnil t29) h22) fun t30 h23 =>
  bindR (pureR (padd 5 t30) h23) fun t31 h24 =>
  bindR (stR h24 t31 (.bool true)) fun _ h25 =>
  bindR (some (.ret (.bool true) h25)) fun t5 h26 =>
  ((some []).bind fun l => bif clean t5 then some (t5 :: l) else none).bind fun l => some (.ret (tup l) h26))
  (bindR (ldR h19 a1) fun t33 h27 =>
  bindR (cr 42 [t33] h27) fun t34 h28 =>
  bindR (pureR (intB .eql t34 (.int .i64 2)) h28) fun t35 h29 =>
  bindR (some (.ret t35 h29)) fun t36 h30 =>
  bindR (gd true t36 (some (.ret t6 h30)) h30) fun t37 h31 =>
  bindR (pureR (pickV t36 t37 (.bool false)) h31) fun t38 h32 =>
  bindR (some (.ret t38 h32)) fun t32 h33 =>
  ifR t32
  (noPan (ldR h33 a1) fun t39 h34 =>
  guardR (true && true) <|
  noPan (pureR (nonnil t39) h34) fun t40 h35 =>
  guardR (true && true) <|
  noPan (pureR (padd 3 t40) h35) fun t41 h36 =>
  guardR (true && true) <|
  noPan (ldR h36 t41) fun t42 h37 =>
  guardR (true && true) <|
  noPan (ldR h37 a1) fun t43 h38 =>
  guardR (true && true) <|
  noPan (ldR h38 a1) fun t44 h39 =>
  guardR (true && true) <|
  noPan (pureR (nonnil t44) h39) fun t45 h40 =>
  guardR (true && true) <|
  noPan (pureR (padd 4 t45) h40) fun t46 h41 =>
  guardR (true && true) <|
  noPan (ldR h41 t46) fun t47 h42 =>
  guardR (true && true) <|
  noPan (pureR (nonnil t47) h42) fun t48 h43 =>
  guardR (true && true) <|
  noPan (pureR (padd 1 t48) h43) fun t49 h44 =>
  guardR (true && true) <|
  noPan (ldR h44 t49) fun t50 h45 =>
  guardR (true && true) <|
  noPan (pureR (nonnil t42) h45) fun t51 h46 =>
  guardR (true && true) <|
  noPan (pureR (padd 1 t51) h46) fun t52 h47 =>
  guardR (true && true) <|
  noPan (stR h47 t52 t50) fun _ h48 =>
  guardR (((agn1 h48 a1 t43) && true) && true) <|
  noPan (pureR (nonnil t43) h48) fun t53 h49 =>
  guardR (true && true) <|
  noPan (pureR (padd 5 t53) h49) fun t54 h50 =>
  guardR (true && true) <|
  noPan (stR h50 t54 (.bool true)) fun _ h51 =>
  guardR (true && true) <|
  bindR (some (.ret (.bool true) h51)) fun t5 h52 =>
  ((some []).bind fun l => bif clean t5 then some (t5 :: l) else none).bind fun l => some (.ret (tup l) h52))
  (bindR (ldR h33 a1) fun t56 h53 =>
  bindR (cr 42 [t56] h53) fun t57 h54 =>
  bindR (pureR (intB .eql t57 (.int .i64 2)) h54) fun t58 h55 =>
  bindR (some (.ret t58 h55)) fun t59 h56 =>
  bindR (gd true t59 (ldR h56 a1) h56) fun t60 h57 =>
  bindR (gd true t59 (pureR (nonnil t60) h57) h57) fun t61 h58 =>
  bindR (gd true t59 (pureR (padd 4 t61) h58) h58) fun t62 h59 =>
  bindR (gd true t59 (ldR h59 t62) h59) fun t63 h60 =>
  bindR (gd true t59 (pureR (nonnil t63) h60) h60) fun t64 h61 =>
  bindR (gd true t59 (pureR (padd 2 t64) h61) h61) fun t65 h62 =>
  bindR (gd true t59 (ldR h62 t65) h62) fun t66 h63 =>
  bindR (gd true t59 (pureR (unV .not t66) h63) h63) fun t67 h64 =>
  bindR (pureR (pickV t59 t67 (.bool false)) h64) fun t68 h65 =>
  bindR (some (.ret t68 h65)) fun t55 h66 =>
  ifR t55
  (noPan (ldR h66 a1) fun t69 h67 =>
  guardR (true && true) <|
  noPan (pureR (nonnil t69) h67) fun t70 h68 =>
  guardR (true && true) <|
  noPan (pureR (padd 4 t70) h68) fun t71 h69 =>
  guardR (true && true) <|
  noPan (ldR h69 t71) fun t72 h70 =>
  guardR (true && true) <|
  noPan (ldR h70 a1) fun t73 h71 =>
  guardR (true && true) <|
  noPan (pureR (nonnil t72) h71) fun t74 h72 =>
  guardR (true && true) <|
  noPan (pureR (padd 2 t74) h72) fun t75 h73 =>
  guardR (true && true) <|
  noPan (stR h73 t75 (.bool true)) fun _ h74 =>
  guardR (((agn1 h74 a1 t73) && true) && true) <|
  noPan (pureR (nonnil t73) h74) fun t76 h75 =>
  guardR (true && true) <|
  noPan (pureR (padd 5 t76) h75) fun t77 h76 =>
  guardR (true && true) <|
  noPan (stR h76 t77 (.bool true)) fun _ h77 =>
  guardR (true && true) <|
  bindR (ldR h77 a1) fun t78 h78 =>
  bindR (ldR h78 a3) fun t79 h79 =>
  bindR (pureR (nonnil t78) h79) fun t80 h80 =>
  bindR (pureR (padd 2 t80) h80) fun t81 h81 =>
  bindR (stR h81 t81 t79) fun _ h82 =>
  f56j1 cr n h82)
  (bindR (ldR h66 a1) fun t12 h83 =>
  bindR (ldR h83 a4) fun t13 h84 =>
  bindR (pureR (nonnil t12) h84) fun t14 h85 =>
  bindR (pureR (padd 2 t14) h85) fun t15 h86 =>
  bindR (stR h86 t15 t13) fun _ h87 =>
  f56j1 cr n h87)))
theorem eq56 (cr : FuncId → List Value → Heap → Res) (n : Nat) (a0 a1 a2 a3 a4 : Value) (h : Heap) : runR Try.prog cfg cr n 56 [a0, a1, a2, a3, a4] h = f56 cr n a0 a1 a2 a3 a4 h := by kernel_rfl
-- (*hedgewright/hands.table).mark$5
def f57j1 (cr : FuncId → List Value → Heap → Res) (n : Nat) (h : Heap) : Res :=
  bindR (some (.ret (.bool true) h)) fun t2 h2 =>
  ((some []).bind fun l => bif clean t2 then some (t2 :: l) else none).bind fun l => some (.ret (tup l) h2)
def f57 (cr : FuncId → List Value → Heap → Res) (n : Nat) (a0 a1 : Value) (h : Heap) : Res :=
  bindR (some (.ret (.bool false) h)) fun t2 h1 =>
  bindR (ldR h1 a0) fun t3 h3 =>
  bindR (callV cr h3 t3 []) fun t4 h4 =>
  ifR t4
  (noPan (ldR h4 a1) fun t5 h5 =>
  guardR (true && true) <|
  noPan (pureR (nonnil t5) h5) fun t6 h6 =>
  guardR (true && true) <|
  noPan (pureR (padd 3 t6) h6) fun t7 h7 =>
  guardR (true && true) <|
  noPan (ldR h7 t7) fun t8 h8 =>
  guardR (true && true) <|
  noPan (ldR h8 a1) fun t9 h9 =>
  guardR (true && true) <|
  noPan (pureR (nonnil t9) h9) fun t10 h10 =>
  guardR (true && true) <|
  noPan (pureR (padd 4 t10) h10) fun t11 h11 =>
  guardR (true && true) <|
  noPan (ldR h11 t11) fun t12 h12 =>
  guardR (true && true) <|
  noPan (pureR (nonnil t12) h12) fun t13 h13 =>
  guardR (true && true) <|
  noPan (pureR (padd 1 t13) h13) fun t14 h14 =>
  guardR (true && true) <|
  noPan (ldR h14 t14) fun t15 h15 =>
  guardR (true && true) <|
  noPan (pureR (nonnil t8) h15) fun t16 h16 =>
  guardR (true && true) <|
  noPan (pureR (padd 1 t16) h16) fun t17 h17 =>
  guardR (true && true) <|
  noPan (stR h17 t17 t15) fun _ h18 =>
  guardR (true && true) <|
  f57j1 cr n h18)
  (f57j1 cr n h4)
theorem eq57 (cr : FuncId → List Value → Heap → Res) (n : Nat) (a0 a1 : Value) (h : Heap) : runR Try.prog cfg cr n 57 [a0, a1] h = f57 cr n a0 a1 h := by kernel_rfl
-- hedgewright/hedgkeep.HandsCount
def f4j4 (cr : FuncId → List Value → Heap → Res) (n : Nat) (t11 : Value) (h : Heap) : Res :=
  bindR (ldNR h 10 t11) fun t115 h15 =>
  bindR (pureR ((fillL [(.int .i64 0), (.int .i64 0), (.int .i64 0), (.int .i64 0), (.int .i64 0), (.int .i64 0), (.int .i64 0), (.int .i64 0), (.int .i64 0), (.int .i64 0)] []).map fun c => .agg c.toArray) h15) fun t116 h16 =>
  bindR (pureR (eqNeq .eql (aggE [.int .i64, .int .i64, .int .i64, .int .i64, .int .i64, .int .i64, .int .i64, .int .i64, .int .i64, .int .i64] t115 t116)) h16) fun t117 h17 =>
  bindR (some (.ret t117 h17)) fun t8 h18 =>
  ((some []).bind fun l => bif clean t8 then some (t8 :: l) else none).bind fun l => some (.ret (tup l) h18)
def f4j7 (cr : FuncId → List Value → Heap → Res) (n : Nat) (nx4 : List Value → Heap → Res) (t11 t17 t95 t96 t97 : Value) (h : Heap) : Res :=
  bindR (pureR (intB .add t97 (.int .i64 1)) h) fun t114 h24 =>
  bindR (some (.ret t114 h24)) fun t97 h25 =>
  nx4 [t17, t97] h25
def f4j8 (cr : FuncId → List Value → Heap → Res) (n : Nat) (nx4 : List Value → Heap → Res) (t11 t19 t95 t96 t97 : Value) (h : Heap) : Res :=
  bindR (some (.ret t19 h)) fun t108 h29 =>
  bindR (some (.ret t108 h29)) fun t17 h30 =>
  bindR (some (.ret t19 h30)) fun t109 h31 =>
  bindR (pureR (idxA 10 1 t11 t109) h31) fun t110 h32 =>
  bindR (ldR h32 t110) fun t111 h33 =>
  bindR (pureR (intB .sub t111 (.int .i64 1)) h33) fun t112 h34 =>
  bindR (pureR (idxA 10 1 t11 t109) h34) fun t113 h35 =>
  bindR (stR h35 t113 t112) fun _ h36 =>
  f4j7 cr n nx4 t11 t17 t95 t96 t97 h36
def f4j6 (cr : FuncId → List Value → Heap → Res) (n : Nat) (nx4 : List Value → Heap → Res) (t11 t17 t95 t96 t97 : Value) (h : Heap) : Res :=
  bindR (pureR (idxS 1 t95 t97) h) fun t99 h26 =>
  bindR (ldR h26 t99) fun t100 h27 =>
  bindR (some (.ret t100 h27)) fun t19 h28 =>
  bindR (some (.ret t19 h28)) fun t101 h37 =>
  bindR (some (.ret t17 h37)) fun t102 h38 =>
  bindR (pureR (intB .leq t101 t102) h38) fun t103 h39 =>
  bindR (some (.ret t103 h39)) fun t104 h40 =>
  bindR (gd false t104 (some (.ret t19 h40)) h40) fun t105 h41 =>
  bindR (gd false t104 (pureR (intB .gtr t105 (.int .i64 9)) h41) h41) fun t106 h42 =>
  bindR (pureR (pickV t104 (.bool true) t106) h42) fun t107 h43 =>
  ifR t107
  (bindR (some (.ret (.bool false) h43)) fun t8 h44 =>
  ((some []).bind fun l => bif clean t8 then some (t8 :: l) else none).bind fun l => some (.ret (tup l) h44))
  (f4j8 cr n nx4 t11 t19 t95 t96 t97 h43)
def f4j5 (cr : FuncId → List Value → Heap → Res) (n : Nat) (nx4 : List Value → Heap → Res) (t11 t17 t95 t96 t97 : Value) (h : Heap) : Res :=
  bindR (pureR (intB .lss t97 t96) h) fun t98 h23 =>
  ifR t98
  (f4j6 cr n nx4 t11 t17 t95 t96 t97 h23)
  (cond (Nat.beq 4 4) (f4j4 cr n t11 h23) (none))
def f4j3 (cr : FuncId → List Value → Heap → Res) (n : Nat) (t9 t11 : Value) (h : Heap) : Res :=
  bindR (some (.ret (.int .i64 (-1)) h)) fun t17 h14 =>
  bindR (pureR (padd 1 t9) h14) fun t94 h19 =>
  bindR (ldR h19 t94) fun t95 h20 =>
  bindR (lenRS h20 t95) fun t96 h21 =>
  bindR (some (.ret (.int .i64 0) h21)) fun t97 h22 =>
  iterK n (fun nx4 (σ : List Value) h => f4j5 cr n nx4 t11 (σ.headD undef) t95 t96 (σ.tail.headD undef) h) [t17, t97] h22
def f4j11 (cr : FuncId → List Value → Heap → Res) (n : Nat) (nx2 : List Value → Heap → Res) (t2 t9 t11 t52 t53 t54 : Value) (h : Heap) : Res :=
  bindR (pureR (intB .add t54 (.int .i64 1)) h) fun t93 h50 =>
  bindR (some (.ret t93 h50)) fun t54 h51 =>
  nx2 [t54] h51
def f4j12 (cr : FuncId → List Value → Heap → Res) (n : Nat) (nx2 : List Value → Heap → Res) (t2 t9 t11 t15 t16 t52 t53 t54 : Value) (h : Heap) : Res :=
  bindR (pureR (padd 4 t15) h) fun t80 h67 =>
  bindR (ldR h67 t80) fun t81 h68 =>
  bindR (some (.ret t81 h68)) fun t82 h69 =>
  bindR (gd true t82 (pureR (padd 0 t16) h69) h69) fun t83 h70 =>
  bindR (gd true t82 (ldR h70 t83) h70) fun t84 h71 =>
  bindR (gd true t82 (pureR (intB .eql t84 (.int .i64 2)) h71) h71) fun t85 h72 =>
  bindR (pureR (pickV t82 t85 (.bool false)) h72) fun t86 h73 =>
  ifR t86
  (bindR (pureR (padd 1 t16) h73) fun t87 h74 =>
  bindR (ldR h74 t87) fun t88 h75 =>
  bindR (pureR (idxA 10 1 t11 t88) h75) fun t89 h76 =>
  bindR (ldR h76 t89) fun t90 h77 =>
  bindR (pureR (intB .sub t90 (.int .i64 1)) h77) fun t91 h78 =>
  bindR (pureR (idxA 10 1 t11 t88) h78) fun t92 h79 =>
  bindR (stR h79 t92 t91) fun _ h80 =>
  f4j11 cr n nx2 t2 t9 t11 t52 t53 t54 h80)
  (f4j11 cr n nx2 t2 t9 t11 t52 t53 t54 h73)
def f4j10 (cr : FuncId → List Value → Heap → Res) (n : Nat) (nx2 : List Value → Heap → Res) (t2 t9 t11 t52 t53 t54 : Value) (h : Heap) : Res :=
  bindR (pureR (idxS 5 t52 t54) h) fun t56 h52 =>
  bindR (ldNR h52 5 t56) fun t57 h53 =>
  bindR (newR h53 [(.int .i64 0), (.int .i64 0), (.int .i64 0), (.int .i64 0), (.bool false)]) fun t15 h54 =>
  bindR (stNR h54 5 t15 t57) fun _ h55 =>
  noPan (some (.ret t2 h55)) fun t58 h56 =>
  guardR (true && true) <|
  noPan (pureR (padd 0 t15) h56) fun t59 h57 =>
  guardR (true && true) <|
  noPan (ldR h57 t59) fun t60 h58 =>
  guardR (true && true) <|
  noPan (pureR (idxS 1 t58 t60) h58) fun t61 h59 =>
  guardR (true && true) <|
  noPan (ldR h59 t61) fun t62 h60 =>
  guardR (true && true) <|
  noPan (pureR (padd 1 t15) h60) fun t63 h61 =>
  guardR (true && true) <|
  noPan (ldR h61 t63) fun t64 h62 =>
  guardR (true && true) <|
  noPan (pureR (idxS 2 t62 t64) h62) fun t65 h63 =>
  guardR (true && true) <|
  noPan (ldNR h63 2 t65) fun t66 h64 =>
  guardR (true && true) <|
  noPan (newR h64 [(.int .i64 0), (.int .i64 0)]) fun t16 h65 =>
  guardR (true && true) <|
  noPan (stNR h65 2 t16 t66) fun _ h66 =>
  guardR (true && true) <|
  bindR (pureR (padd 4 t15) h66) fun t67 h81 =>
  bindR (ldR h81 t67) fun t68 h82 =>
  bindR (some (.ret t68 h82)) fun t69 h83 =>
  bindR (gd true t69 (pureR (padd 0 t16) h83) h83) fun t70 h84 =>
  bindR (gd true t69 (ldR h84 t70) h84) fun t71 h85 =>
  bindR (gd true t69 (pureR (intB .eql t71 (.int .i64 1)) h85) h85) fun t72 h86 =>
  bindR (pureR (pickV t69 t72 (.bool false)) h86) fun t73 h87 =>
  ifR t73
  (bindR (pureR (padd 1 t16) h87) fun t74 h88 =>
  bindR (ldR h88 t74) fun t75 h89 =>
  bindR (pureR (idxA 10 1 t11 t75) h89) fun t76 h90 =>
  bindR (ldR h90 t76) fun t77 h91 =>
  bindR (pureR (intB .add t77 (.int .i64 1)) h91) fun t78 h92 =>
  bindR (pureR (idxA 10 1 t11 t75) h92) fun t79 h93 =>
  bindR (stR h93 t79 t78) fun _ h94 =>
  f4j12 cr n nx2 t2 t9 t11 t15 t16 t52 t53 t54 h94)
  (f4j12 cr n nx2 t2 t9 t11 t15 t16 t52 t53 t54 h87)
def f4j9 (cr : FuncId → List Value → Heap → Res) (n : Nat) (nx2 : List Value → Heap → Res) (t2 t9 t11 t52 t53 t54 : Value) (h : Heap) : Res :=
  bindR (pureR (intB .lss t54 t53) h) fun t55 h49 =>
  ifR t55
  (f4j10 cr n nx2 t2 t9 t11 t52 t53 t54 h49)
  (cond (Nat.beq 2 2) (f4j3 cr n t9 t11 h49) (none))
def f4j2 (cr : FuncId → List Value → Heap → Res) (n : Nat) (t2 t9 t11 : Value) (h : Heap) : Res :=
  bindR (pureR (padd 0 t9) h) fun t51 h45 =>
  bindR (ldR h45 t51) fun t52 h46 =>
  bindR (lenRS h46 t52) fun t53 h47 =>
  bindR (some (.ret (.int .i64 0) h47)) fun t54 h48 =>
  iterK n (fun nx2 (σ : List Value) h => f4j9 cr n nx2 t2 t9 t11 t52 t53 (σ.headD undef) h) [t54] h48
def f4j15 (cr : FuncId → List Value → Heap → Res) (n : Nat) (nx0 : List Value → Heap → Res) (t2 t9 t11 t39 t40 t41 : Value) (h : Heap) : Res :=
  bindR (pureR (intB .add t41 (.int .i64 1)) h) fun t50 h99 =>
  bindR (some (.ret t50 h99)) fun t41 h100 =>
  nx0 [t41] h100
def f4j14 (cr : FuncId → List Value → Heap → Res) (n : Nat) (nx0 : List Value → Heap → Res) (t2 t9 t11 t39 t40 t41 : Value) (h : Heap) : Res :=
  bindR (pureR (idxS 1 t39 t41) h) fun t43 h101 =>
  bindR (ldR h101 t43) fun t44 h102 =>
  bindR (some (.ret t44 h102)) fun t13 h103 =>
  bindR (some (.ret t13 h103)) fun t45 h104 =>
  bindR (pureR (idxA 10 1 t11 t45) h104) fun t46 h105 =>
  bindR (ldR h105 t46) fun t47 h106 =>
  bindR (pureR (intB .add t47 (.int .i64 1)) h106) fun t48 h107 =>
  bindR (pureR (idxA 10 1 t11 t45) h107) fun t49 h108 =>
  bindR (stR h108 t49 t48) fun _ h109 =>
  f4j15 cr n nx0 t2 t9 t11 t39 t40 t41 h109
def f4j13 (cr : FuncId → List Value → Heap → Res) (n : Nat) (nx0 : List Value → Heap → Res) (t2 t9 t11 t39 t40 t41 : Value) (h : Heap) : Res :=
  bindR (pureR (intB .lss t41 t40) h) fun t42 h98 =>
  ifR t42
  (f4j14 cr n nx0 t2 t9 t11 t39 t40 t41 h98)
  (cond (Nat.beq 0 0) (f4j2 cr n t2 t9 t11 h98) (none))
def f4j1 (cr : FuncId → List Value → Heap → Res) (n : Nat) (t1 t2 t9 : Value) (h : Heap) : Res :=
  bindR (newR h [(.int .i64 0), (.int .i64 0), (.int .i64 0), (.int .i64 0), (.int .i64 0), (.int .i64 0), (.int .i64 0), (.int .i64 0), (.int .i64 0), (.int .i64 0)]) fun t11 h13 =>
  bindR (some (.ret t1 h13)) fun t39 h95 =>
  bindR (lenRS h95 t39) fun t40 h96 =>
  bindR (some (.ret (.int .i64 0) h96)) fun t41 h97 =>
  iterK n (fun nx0 (σ : List Value) h => f4j13 cr n nx0 t2 t9 t11 t39 t40 (σ.headD undef) h) [t41] h97
def f4 (cr : FuncId → List Value → Heap → Res) (n : Nat) (a0 a1 a2 a3 : Value) (h : Heap) : Res :=
  bindR (some (.ret (.bool false) h)) fun t8 h1 =>
  bindR (some (.ret a0 h1)) fun t21 h2 =>
  bindR (some (.ret a1 h2)) fun t22 h3 =>
  bindR (some (.ret a2 h3)) fun t23 h4 =>
  bindR (some (.ret a3 h4)) fun t24 h5 =>
  bindR (cr 9 [t21, t22, t23, t24] h5) fun t25 h6 =>
  bindR (some (.ret t25 h6)) fun t20 h7 =>
  bindR (pureR (extr 0 t20) h7) fun t26 h8 =>
  bindR (pureR (extr 1 t20) h8) fun t27 h9 =>
  bindR (newR h9 [(.slice none 0 0), (.slice none 0 0)]) fun t9 h10 =>
  bindR (stNR h10 2 t9 t26) fun _ h11 =>
  bindR (some (.ret t27 h11)) fun t10 h12 =>
  bindR (cr 10 [] h12) fun t28 h110 =>
  bindR (pureR (unV .not t28) h110) fun t29 h111 =>
  bindR (some (.ret t29 h111)) fun t30 h112 =>
  bindR (gd false t30 (some (.ret t10 h112)) h112) fun t31 h113 =>
  bindR (gd false t30 (pureR (intB .neq t31 (.int .i64 0)) h113) h113) fun t32 h114 =>
  bindR (pureR (pickV t30 (.bool true) t32) h114) fun t33 h115 =>
  bindR (some (.ret t33 h115)) fun t34 h116 =>
  bindR (gd false t34 (some (.ret a0 h116)) h116) fun t35 h117 =>
  bindR (gd false t34 (pureR (intB .eql t35 (.int .i64 4)) h117) h117) fun t36 h118 =>
  bindR (pureR (pickV t34 (.bool true) t36) h118) fun t37 h119 =>
  ifR t37
  (bindR (cr 10 [] h119) fun t38 h120 =>
  bindR (some (.ret t38 h120)) fun t8 h121 =>
  ((some []).bind fun l => bif clean t8 then some (t8 :: l) else none).bind fun l => some (.ret (tup l) h121))
  (f4j1 cr n a1 a2 t9 h119)
theorem eq4 (cr : FuncId → List Value → Heap → Res) (n : Nat) (a0 a1 a2 a3 : Value) (h : Heap) : runR Try.prog cfg cr n 4 [a0, a1, a2, a3] h = f4 cr n a0 a1 a2 a3 h := by kernel_rfl
-- hedgewright/hedgkeep.HandsAlone
def f5j1 (cr : FuncId → List Value → Heap → Res) (n : Nat) (t1 t5 t7 : Value) (h : Heap) : Res :=
  noPan (some (.ret t1 h)) fun t26 h15 =>
  guardR (true && true) <|
  noPan (cr 11 [t26] h15) fun t27 h16 =>
  guardR (true && true) <|
  noPan (pureR (padd 1 t5) h16) fun t28 h17 =>
  guardR (true && true) <|
  noPan (ldR h17 t28) fun t29 h18 =>
  guardR (true && ((agn1 h15 t28 t29) && true)) <|
  noPan (pureR (idxAgg false 10 1 t27 t29) h18) fun t30 h19 =>
  guardR (true && true) <|
  noPan (some (.ret t30 h19)) fun t9 h20 =>
  guardR (true && true) <|
  noPan (pureR (padd 0 t7) h20) fun t31 h21 =>
  guardR (true && true) <|
  noPan (ldR h21 t31) fun t32 h22 =>
  guardR (true && true) <|
  noPan (lenRS h22 t32) fun t33 h23 =>
  guardR (true && true) <|
  noPan (pureR (intB .eql t33 (.int .i64 1)) h23) fun t34 h24 =>
  guardR (true && true) <|
  noPan (some (.ret t34 h24)) fun t35 h25 =>
  guardR (true && true) <|
  noPan (gd true t35 (pureR (padd 0 t7) h25) h25) fun t36 h26 =>
  guardR (true && true) <|
  noPan (gd true t35 (ldR h26 t36) h26) fun t37 h27 =>
  guardR (true && true) <|
  noPan (gd true t35 (pureR (idxS 5 t37 (.int .i64 0)) h27) h27) fun t38 h28 =>
  guardR (true && true) <|
  noPan (gd true t35 (pureR (padd 3 t38) h28) h28) fun t39 h29 =>
  guardR (true && true) <|
  noPan (gd true t35 (ldR h29 t39) h29) fun t40 h30 =>
  guardR (true && true) <|
  noPan (gd true t35 (pureR (intB .geq t40 (.int .i64 0)) h30) h30) fun t41 h31 =>
  guardR (true && true) <|
  noPan (pureR (pickV t35 t41 (.bool false)) h31) fun t42 h32 =>
  guardR (true && true) <|
  noPan (some (.ret t42 h32)) fun t43 h33 =>
  guardR (true && true) <|
  noPan (gd true t43 (pureR (padd 0 t7) h33) h33) fun t44 h34 =>
  guardR (true && true) <|
  noPan (gd true t43 (ldR h34 t44) h34) fun t45 h35 =>
  guardR (true && true) <|
  noPan (gd true t43 (pureR (idxS 5 t45 (.int .i64 0)) h35) h35) fun t46 h36 =>
  guardR (true && true) <|
  noPan (gd true t43 (pureR (padd 3 t46) h36) h36) fun t47 h37 =>
  guardR (true && true) <|
  noPan (gd true t43 (ldR h37 t47) h37) fun t48 h38 =>
  guardR (true && true) <|
  noPan (gd true t43 (some (.ret t1 h38)) h38) fun t49 h39 =>
  guardR (true && true) <|
  noPan (gd true t43 (lenRS h39 t49) h39) fun t50 h40 =>
  guardR (true && true) <|
  noPan (gd true t43 (pureR (intB .mul (.int .i64 3) t50) h40) h40) fun t51 h41 =>
  guardR (true && true) <|
  noPan (gd true t43 (pureR (intB .add t51 (.int .i64 8)) h41) h41) fun t52 h42 =>
  guardR (true && true) <|
  noPan (gd true t43 (pureR (intB .lss t48 t52) h42) h42) fun t53 h43 =>
  guardR (true && true) <|
  noPan (pureR (pickV t43 t53 (.bool false)) h43) fun t54 h44 =>
  guardR (true && true) <|
  noPan (some (.ret t54 h44)) fun t55 h45 =>
  guardR (true && true) <|
  noPan (gd true t55 (pureR (padd 0 t7) h45) h45) fun t56 h46 =>
  guardR (true && true) <|
  noPan (gd true t55 (ldR h46 t56) h46) fun t57 h47 =>
  guardR (true && true) <|
  noPan (gd true t55 (pureR (idxS 5 t57 (.int .i64 0)) h47) h47) fun t58 h48 =>
  guardR (true && true) <|
  noPan (gd true t55 (pureR (padd 4 t58) h48) h48) fun t59 h49 =>
  guardR (true && true) <|
  noPan (gd true t55 (ldR h49 t59) h49) fun t60 h50 =>
  guardR (true && true) <|
  noPan (gd true t55 (some (.ret t9 h50)) h50) fun t61 h51 =>
  guardR (true && true) <|
  noPan (gd true t55 (pureR (padd 0 t5) h51) h51) fun t62 h52 =>
  guardR (true && true) <|
  noPan (gd true t55 (ldR h52 t62) h52) fun t63 h53 =>
  guardR (true && true) <|
  noPan (gd true t55 (pureR (intB .neq t63 (.int .i64 1)) h53) h53) fun t64 h54 =>
  guardR (true && true) <|
  noPan (gd true t55 (pureR (eqNeq .eql (boolE t61 t64)) h54) h54) fun t65 h55 =>
  guardR (true && true) <|
  noPan (gd true t55 (pureR (eqNeq .eql (boolE t60 t65)) h55) h55) fun t66 h56 =>
  guardR (true && true) <|
  noPan (pureR (pickV t55 t66 (.bool false)) h56) fun t67 h57 =>
  guardR (true && true) <|
  noPan (some (.ret t67 h57)) fun t6 h58 =>
  guardR (true && true) <|
  ((some []).bind fun l => bif clean t6 then some (t6 :: l) else none).bind fun l => some (.ret (tup l) h58)
def f5 (cr : FuncId → List Value → Heap → Res) (n : Nat) (a0 a1 a2 : Value) (h : Heap) : Res :=
  bindR (boxR 2 h a2) fun t5 h1 =>
  bindR (some (.ret (.bool false) h1)) fun t6 h2 =>
  bindR (some (.ret a0 h2)) fun t11 h3 =>
  bindR (some (.ret a1 h3)) fun t12 h4 =>
  bindR (ldNR h4 2 t5) fun t13 h5 =>
  bindR (buildSliceR 1 [(.int .i64 0), (.int .i64 0)] h5 [(0, 2, t13)]) fun t14 h6 =>
  bindR (buildSliceR 1 [(.slice none 0 0)] h6 [(0, 1, t14)]) fun t15 h7 =>
  bindR (cr 9 [t11, t12, t15, (.slice none 0 0)] h7) fun t16 h8 =>
  bindR (some (.ret t16 h8)) fun t10 h9 =>
  bindR (pureR (extr 0 t10) h9) fun t17 h10 =>
  bindR (pureR (extr 1 t10) h10) fun t18 h11 =>
  bindR (newR h11 [(.slice none 0 0), (.slice none 0 0)]) fun t7 h12 =>
  bindR (stNR h12 2 t7 t17) fun _ h13 =>
  bindR (some (.ret t18 h13)) fun t8 h14 =>
  bindR (cr 10 [] h14) fun t19 h59 =>
  bindR (pureR (unV .not t19) h59) fun t20 h60 =>
  bindR (some (.ret t20 h60)) fun t21 h61 =>
  bindR (gd false t21 (some (.ret t8 h61)) h61) fun t22 h62 =>
  bindR (gd false t21 (pureR (intB .neq t22 (.int .i64 0)) h62) h62) fun t23 h63 =>
  bindR (pureR (pickV t21 (.bool true) t23) h63) fun t24 h64 =>
  ifR t24
  (bindR (cr 10 [] h64) fun t25 h65 =>
  bindR (some (.ret t25 h65)) fun t6 h66 =>
  ((some []).bind fun l => bif clean t6 then some (t6 :: l) else none).bind fun l => some (.ret (tup l) h66))
  (f5j1 cr n a1 t5 t7 h64)
theorem eq5 (cr : FuncId → List Value → Heap → Res) (n : Nat) (a0 a1 a2 : Value) (h : Heap) : runR Try.prog cfg cr n 5 [a0, a1, a2] h = f5 cr n a0 a1 a2 h := by kernel_rfl
-- hedgewright/hedgkeep.HandsFree
def f6j4 (cr : FuncId → List Value → Heap → Res) (n : Nat) (h : Heap) : Res :=
  bindR (some (.ret (.bool true) h)) fun t8 h16 =>
  ((some []).bind fun l => bif clean t8 then some (t8 :: l) else none).bind fun l => some (.ret (tup l) h16)
def f6j7 (cr : FuncId → List Value → Heap → Res) (n : Nat) (nx2 : List Value → Heap → Res) (t3 t9 t66 t67 t68 : Value) (h : Heap) : Res :=
  bindR (pureR (intB .add t68 (.int .i64 1)) h) fun t88 h22 =>
  bindR (some (.ret t88 h22)) fun t68 h23 =>
  nx2 [t68] h23
def f6j6 (cr : FuncId → List Value → Heap → Res) (n : Nat) (nx2 : List Value → Heap → Res) (t3 t9 t66 t67 t68 : Value) (h : Heap) : Res :=
  bindR (pureR (idxS 5 t66 t68) h) fun t70 h24 =>
  bindR (ldNR h24 5 t70) fun t71 h25 =>
  bindR (newR h25 [(.int .i64 0), (.int .i64 0), (.int .i64 0), (.int .i64 0), (.bool false)]) fun t13 h26 =>
  bindR (stNR h26 5 t13 t71) fun _ h27 =>
  bindR (pureR (padd 0 t13) h27) fun t72 h28 =>
  bindR (ldR h28 t72) fun t73 h29 =>
  bindR (some (.ret t3 h29)) fun t74 h30 =>
  bindR (pureR (intB .neq t73 t74) h30) fun t75 h31 =>
  bindR (some (.ret t75 h31)) fun t76 h32 =>
  bindR (gd true t76 (pureR (padd 3 t13) h32) h32) fun t77 h33 =>
  bindR (gd true t76 (ldR h33 t77) h33) fun t78 h34 =>
  bindR (gd true t76 (pureR (intB .lss t78 (.int .i64 0)) h34) h34) fun t79 h35 =>
  bindR (gd true t76 (some (.ret t79 h35)) h35) fun t80 h36 =>
  bindR (gd false t80 (pureR (padd 3 t13) h36) h36) fun t81 h37 =>
  bindR (gd false t80 (ldR h37 t81) h37) fun t82 h38 =>
  bindR (gd false t80 (some (.ret t9 h38)) h38) fun t83 h39 =>
  bindR (gd false t80 (lenRS h39 t83) h39) fun t84 h40 =>
  bindR (gd false t80 (pureR (intB .geq t82 t84) h40) h40) fun t85 h41 =>
  bindR (gd true t76 (pureR (pickV t80 (.bool true) t85) h41) h41) fun t86 h42 =>
  bindR (pureR (pickV t76 t86 (.bool false)) h42) fun t87 h43 =>
  ifR t87
  (bindR (some (.ret (.bool false) h43)) fun t8 h44 =>
  ((some []).bind fun l => bif clean t8 then some (t8 :: l) else none).bind fun l => some (.ret (tup l) h44))
  (f6j7 cr n nx2 t3 t9 t66 t67 t68 h43)
def f6j5 (cr : FuncId → List Value → Heap → Res) (n : Nat) (nx2 : List Value → Heap → Res) (t3 t9 t66 t67 t68 : Value) (h : Heap) : Res :=
  bindR (pureR (intB .lss t68 t67) h) fun t69 h21 =>
  ifR t69
  (f6j6 cr n nx2 t3 t9 t66 t67 t68 h21)
  (cond (Nat.beq 2 2) (f6j4 cr n h21) (none))
def f6j3 (cr : FuncId → List Value → Heap → Res) (n : Nat) (t3 t9 t10 : Value) (h : Heap) : Res :=
  bindR (pureR (padd 0 t10) h) fun t65 h17 =>
  bindR (ldR h17 t65) fun t66 h18 =>
  bindR (lenRS h18 t66) fun t67 h19 =>
  bindR (some (.ret (.int .i64 0) h19)) fun t68 h20 =>
  iterK n (fun nx2 (σ : List Value) h => f6j5 cr n nx2 t3 t9 t66 t67 (σ.headD undef) h) [t68] h20
def f6j2 (cr : FuncId → List Value → Heap → Res) (n : Nat) (t0 t1 t3 t9 : Value) (h : Heap) : Res :=
  bindR (some (.ret t0 h)) fun t54 h6 =>
  bindR (some (.ret t1 h6)) fun t55 h7 =>
  bindR (some (.ret t9 h7)) fun t56 h8 =>
  bindR (cr 9 [(.int .i64 3), t54, t55, t56] h8) fun t57 h9 =>
  bindR (some (.ret t57 h9)) fun t53 h10 =>
  bindR (pureR (extr 0 t53) h10) fun t58 h11 =>
  bindR (pureR (extr 1 t53) h11) fun t59 h12 =>
  bindR (newR h12 [(.slice none 0 0), (.slice none 0 0)]) fun t10 h13 =>
  bindR (stNR h13 2 t10 t58) fun _ h14 =>
  bindR (some (.ret t59 h14)) fun t11 h15 =>
  bindR (some (.ret t11 h15)) fun t60 h45 =>
  bindR (pureR (intB .neq t60 (.int .i64 0)) h45) fun t61 h46 =>
  ifR t61
  (bindR (some (.ret t9 h46)) fun t62 h47 =>
  bindR (lenRS h47 t62) fun t63 h48 =>
  bindR (pureR (intB .gtr t63 (.int .i64 500)) h48) fun t64 h49 =>
  bindR (some (.ret t64 h49)) fun t8 h50 =>
  ((some []).bind fun l => bif clean t8 then some (t8 :: l) else none).bind fun l => some (.ret (tup l) h50))
  (f6j3 cr n t3 t9 t10 h46)
def f6j10 (cr : FuncId → List Value → Heap → Res) (n : Nat) (nx0 : List Value → Heap → Res) (t0 t1 t3 t9 t45 : Value) (h : Heap) : Res :=
  bindR (pureR (intB .add t45 (.int .i64 1)) h) fun t52 h53 =>
  bindR (some (.ret t52 h53)) fun t45 h54 =>
  nx0 [t9, t45] h54
def f6j9 (cr : FuncId → List Value → Heap → Res) (n : Nat) (nx0 : List Value → Heap → Res) (t0 t1 t3 t9 t45 : Value) (h : Heap) : Res :=
  bindR (some (.ret t9 h)) fun t47 h55 =>
  bindR (some (.ret t3 h55)) fun t48 h56 =>
  bindR (pureR (intB .sub (.int .i64 1) t48) h56) fun t49 h57 =>
  bindR (buildSliceR 1 [(.int .i64 0)] h57 [(0, 1, t49)]) fun t50 h58 =>
  bindR (appR 1 8 h58 t47 t50) fun t51 h59 =>
  bindR (some (.ret t51 h59)) fun t9 h60 =>
  f6j10 cr n nx0 t0 t1 t3 t9 t45 h60
def f6j8 (cr : FuncId → List Value → Heap → Res) (n : Nat) (nx0 : List Value → Heap → Res) (t0 t1 t3 t9 t45 : Value) (h : Heap) : Res :=
  bindR (pureR (intB .lss t45 (.int .i64 200)) h) fun t46 h52 =>
  ifR t46
  (f6j9 cr n nx0 t0 t1 t3 t9 t45 h52)
  (cond (Nat.beq 0 0) (f6j2 cr n t0 t1 t3 t9 h52) (none))
def f6j1 (cr : FuncId → List Value → Heap → Res) (n : Nat) (t0 t1 t2 t3 : Value) (h : Heap) : Res :=
  bindR (buildSliceR 0 [(.int .i64 0)] h []) fun t42 h2 =>
  bindR (some (.ret t2 h2)) fun t43 h3 =>
  bindR (appR 1 8 h3 t42 t43) fun t44 h4 =>
  bindR (some (.ret t44 h4)) fun t9 h5 =>
  bindR (some (.ret (.int .i64 0) h5)) fun t45 h51 =>
  iterK n (fun nx0 (σ : List Value) h => f6j8 cr n nx0 t0 t1 t3 (σ.headD undef) (σ.tail.headD undef) h) [t9, t45] h51
def f6 (cr : FuncId → List Value → Heap → Res) (n : Nat) (a0 a1 a2 a3 : Value) (h : Heap) : Res :=
  bindR (some (.ret (.bool false) h)) fun t8 h1 =>
  bindR (cr 10 [] h1) fun t14 h61 =>
  bindR (pureR (unV .not t14) h61) fun t15 h62 =>
  bindR (some (.ret t15 h62)) fun t16 h63 =>
  bindR (gd false t16 (some (.ret a0 h63)) h63) fun t17 h64 =>
  bindR (gd false t16 (some (.ret a1 h64)) h64) fun t18 h65 =>
  bindR (gd false t16 (some (.ret a2 h65)) h65) fun t19 h66 =>
  bindR (gd false t16 (cr 12 [(.int .i64 3), t17, t18, t19] h66) h66) fun t20 h67 =>
  bindR (gd false t16 (pureR (intB .neq t20 (.int .i64 0)) h67) h67) fun t21 h68 =>
  bindR (pureR (pickV t16 (.bool true) t21) h68) fun t22 h69 =>
  bindR (some (.ret t22 h69)) fun t23 h70 =>
  bindR (gd false t23 (some (.ret a1 h70)) h70) fun t24 h71 =>
  bindR (gd false t23 (lenRS h71 t24) h71) fun t25 h72 =>
  bindR (gd false t23 (pureR (intB .neq t25 (.int .i64 2)) h72) h72) fun t26 h73 =>
  bindR (pureR (pickV t23 (.bool true) t26) h73) fun t27 h74 =>
  bindR (some (.ret t27 h74)) fun t28 h75 =>
  bindR (gd false t28 (some (.ret a3 h75)) h75) fun t29 h76 =>
  bindR (gd false t28 (pureR (intB .lss t29 (.int .i64 0)) h76) h76) fun t30 h77 =>
  bindR (pureR (pickV t28 (.bool true) t30) h77) fun t31 h78 =>
  bindR (some (.ret t31 h78)) fun t32 h79 =>
  bindR (gd false t32 (some (.ret a3 h79)) h79) fun t33 h80 =>
  bindR (gd false t32 (pureR (intB .gtr t33 (.int .i64 1)) h80) h80) fun t34 h81 =>
  bindR (pureR (pickV t32 (.bool true) t34) h81) fun t35 h82 =>
  bindR (some (.ret t35 h82)) fun t36 h83 =>
  bindR (gd false t36 (some (.ret a2 h83)) h83) fun t37 h84 =>
  bindR (gd false t36 (lenRS h84 t37) h84) fun t38 h85 =>
  bindR (gd false t36 (pureR (intB .gtr t38 (.int .i64 60)) h85) h85) fun t39 h86 =>
  bindR (pureR (pickV t36 (.bool true) t39) h86) fun t40 h87 =>
  ifR t40
  (bindR (cr 10 [] h87) fun t41 h88 =>
  bindR (some (.ret t41 h88)) fun t8 h89 =>
  ((some []).bind fun l => bif clean t8 then some (t8 :: l) else none).bind fun l => some (.ret (tup l) h89))
  (f6j1 cr n a0 a1 a2 a3 h87)
theorem eq6 (cr : FuncId → List Value → Heap → Res) (n : Nat) (a0 a1 a2 a3 : Value) (h : Heap) : runR Try.prog cfg cr n 6 [a0, a1, a2, a3] h = f6 cr n a0 a1 a2 a3 h := by kernel_rfl
-- hedgewright/hedglaw.HandsSay
def f7j1 (cr : FuncId → List Value → Heap → Res) (n : Nat) (t0 t1 t2 t3 t9 t10 : Value) (h : Heap) : Res :=
  noPan (ldNR h 2 t9) fun t35 h13 =>
  guardR (true && true) <|
  noPan (some (.ret t0 h13)) fun t36 h14 =>
  guardR (true && true) <|
  noPan (some (.ret t1 h14)) fun t37 h15 =>
  guardR (true && true) <|
  noPan (some (.ret t2 h15)) fun t38 h16 =>
  guardR (true && true) <|
  noPan (some (.ret t3 h16)) fun t39 h17 =>
  guardR (true && true) <|
  noPan (cr 14 [t36, t37, t38, t39] h17) fun t40 h18 =>
  guardR (((agnN h18 2 t9 t35) && true) && true) <|
  noPan (cr 13 [t35, t40] h18) fun t41 h19 =>
  guardR (true && true) <|
  noPan (some (.ret t41 h19)) fun t42 h20 =>
  guardR (true && true) <|
  noPan (gd true t42 (some (.ret t10 h20)) h20) fun t43 h21 =>
  guardR (true && true) <|
  noPan (gd true t42 (pureR (intB .eql t43 (.int .i64 0)) h21) h21) fun t44 h22 =>
  guardR (true && true) <|
  noPan (pureR (pickV t42 t44 (.bool false)) h22) fun t45 h23 =>
  guardR (true && true) <|
  noPan (some (.ret t45 h23)) fun t8 h24 =>
  guardR (true && true) <|
  ((some []).bind fun l => bif clean t8 then some (t8 :: l) else none).bind fun l => some (.ret (tup l) h24)
def f7 (cr : FuncId → List Value → Heap → Res) (n : Nat) (a0 a1 a2 a3 : Value) (h : Heap) : Res :=
  bindR (some (.ret (.bool false) h)) fun t8 h1 =>
  bindR (some (.ret a0 h1)) fun t13 h2 =>
  bindR (some (.ret a1 h2)) fun t14 h3 =>
  bindR (some (.ret a2 h3)) fun t15 h4 =>
  bindR (some (.ret a3 h4)) fun t16 h5 =>
  bindR (cr 9 [t13, t14, t15, t16] h5) fun t17 h6 =>
  bindR (some (.ret t17 h6)) fun t12 h7 =>
  bindR (pureR (extr 0 t12) h7) fun t18 h8 =>
  bindR (pureR (extr 1 t12) h8) fun t19 h9 =>
  bindR (newR h9 [(.slice none 0 0), (.slice none 0 0)]) fun t9 h10 =>
  bindR (stNR h10 2 t9 t18) fun _ h11 =>
  bindR (some (.ret t19 h11)) fun t10 h12 =>
  bindR (some (.ret a0 h12)) fun t20 h25 =>
  bindR (some (.ret a1 h25)) fun t21 h26 =>
  bindR (some (.ret a2 h26)) fun t22 h27 =>
  bindR (some (.ret a3 h27)) fun t23 h28 =>
  bindR (cr 12 [t20, t21, t22, t23] h28) fun t24 h29 =>
  bindR (some (.ret t24 h29)) fun t11 h30 =>
  bindR (some (.ret t11 h30)) fun t25 h31 =>
  bindR (pureR (intB .neq t25 (.int .i64 0)) h31) fun t26 h32 =>
  ifR t26
  (bindR (ldNR h32 2 t9) fun t27 h33 =>
  bindR (pureR ((fillL [(.slice none 0 0), (.slice none 0 0)] []).map fun c => .agg c.toArray) h33) fun t28 h34 =>
  bindR (cr 13 [t27, t28] h34) fun t29 h35 =>
  bindR (some (.ret t29 h35)) fun t30 h36 =>
  bindR (gd true t30 (some (.ret t10 h36)) h36) fun t31 h37 =>
  bindR (gd true t30 (some (.ret t11 h37)) h37) fun t32 h38 =>
  bindR (gd true t30 (pureR (intB .eql t31 t32) h38) h38) fun t33 h39 =>
  bindR (pureR (pickV t30 t33 (.bool false)) h39) fun t34 h40 =>
  bindR (some (.ret t34 h40)) fun t8 h41 =>
  ((some []).bind fun l => bif clean t8 then some (t8 :: l) else none).bind fun l => some (.ret (tup l) h41))
  (f7j1 cr n a0 a1 a2 a3 t9 t10 h32)
theorem eq7 (cr : FuncId → List Value → Heap → Res) (n : Nat) (a0 a1 a2 a3 : Value) (h : Heap) : runR Try.prog cfg cr n 7 [a0, a1, a2, a3] h = f7 cr n a0 a1 a2 a3 h := by kernel_rfl
-- hedgewright/hedgkeep.HandsOrder
def f8j4 (cr : FuncId → List Value → Heap → Res) (n : Nat) (t1 t2 t9 t11 : Value) (h : Heap) : Res :=
  noPan (some (.ret t11 h)) fun t74 h14 =>
  guardR (true && true) <|
  noPan (pureR (intB .gtr t74 (.int .i64 7)) h14) fun t75 h15 =>
  guardR (true && true) <|
  noPan (some (.ret t75 h15)) fun t76 h16 =>
  guardR (true && true) <|
  noPan (gd false t76 (some (.ret t1 h16)) h16) fun t77 h17 =>
  guardR (true && true) <|
  noPan (gd false t76 (cr 11 [t77] h17) h17) fun t78 h18 =>
  guardR (true && true) <|
  noPan (gd false t76 (some (.ret t2 h18)) h18) fun t79 h19 =>
  guardR (true && true) <|
  noPan (gd false t76 (pureR (padd 0 t9) h19) h19) fun t80 h20 =>
  guardR (true && true) <|
  noPan (gd false t76 (ldR h20 t80) h20) fun t81 h21 =>
  guardR (true && ((agnG false t76 (agn1 h17 t80 t81)) && true)) <|
  noPan (gd false t76 (pureR (padd 1 t9) h21) h21) fun t82 h22 =>
  guardR (true && true) <|
  noPan (gd false t76 (ldR h22 t82) h22) fun t83 h23 =>
  guardR (true && ((agnG false t76 (agn1 h17 t82 t83)) && true)) <|
  noPan (gd false t76 (cr 11 [t83] h23) h23) fun t84 h24 =>
  guardR (((agnG false t76 (agn1 h24 t80 t81)) && true) && true) <|
  noPan (gd false t76 (cr 15 [t78, t79, t81, t84] h24) h24) fun t85 h25 =>
  guardR (true && true) <|
  noPan (pureR (pickV t76 (.bool true) t85) h25) fun t86 h26 =>
  guardR (true && true) <|
  noPan (some (.ret t86 h26)) fun t8 h27 =>
  guardR (true && true) <|
  ((some []).bind fun l => bif clean t8 then some (t8 :: l) else none).bind fun l => some (.ret (tup l) h27)
def f8j7 (cr : FuncId → List Value → Heap → Res) (n : Nat) (nx2 : List Value → Heap → Res) (t1 t2 t9 t11 t62 t63 t64 : Value) (h : Heap) : Res :=
  bindR (pureR (intB .add t64 (.int .i64 1)) h) fun t73 h33 =>
  bindR (some (.ret t73 h33)) fun t64 h34 =>
  nx2 [t64] h34
def f8j6 (cr : FuncId → List Value → Heap → Res) (n : Nat) (nx2 : List Value → Heap → Res) (t1 t2 t9 t11 t62 t63 t64 : Value) (h : Heap) : Res :=
  bindR (pureR (idxS 5 t62 t64) h) fun t66 h35 =>
  bindR (ldNR h35 5 t66) fun t67 h36 =>
  bindR (newR h36 [(.int .i64 0), (.int .i64 0), (.int .i64 0), (.int .i64 0), (.bool false)]) fun t15 h37 =>
  bindR (stNR h37 5 t15 t67) fun _ h38 =>
  bindR (pureR (padd 3 t15) h38) fun t68 h39 =>
  bindR (ldR h39 t68) fun t69 h40 =>
  bindR (pureR (padd 2 t15) h40) fun t70 h41 =>
  bindR (ldR h41 t70) fun t71 h42 =>
  bindR (pureR (intB .lss t69 t71) h42) fun t72 h43 =>
  ifR t72
  (bindR (some (.ret (.bool false) h43)) fun t8 h44 =>
  ((some []).bind fun l => bif clean t8 then some (t8 :: l) else none).bind fun l => some (.ret (tup l) h44))
  (f8j7 cr n nx2 t1 t2 t9 t11 t62 t63 t64 h43)
def f8j5 (cr : FuncId → List Value → Heap → Res) (n : Nat) (nx2 : List Value → Heap → Res) (t1 t2 t9 t11 t62 t63 t64 : Value) (h : Heap) : Res :=
  bindR (pureR (intB .lss t64 t63) h) fun t65 h32 =>
  ifR t65
  (f8j6 cr n nx2 t1 t2 t9 t11 t62 t63 t64 h32)
  (cond (Nat.beq 2 2) (f8j4 cr n t1 t2 t9 t11 h32) (none))
def f8j3 (cr : FuncId → List Value → Heap → Res) (n : Nat) (t1 t2 t9 t11 : Value) (h : Heap) : Res :=
  bindR (pureR (padd 0 t9) h) fun t61 h28 =>
  bindR (ldR h28 t61) fun t62 h29 =>
  bindR (lenRS h29 t62) fun t63 h30 =>
  bindR (some (.ret (.int .i64 0) h30)) fun t64 h31 =>
  iterK n (fun nx2 (σ : List Value) h => f8j5 cr n nx2 t1 t2 t9 t11 t62 t63 (σ.headD undef) h) [t64] h31
def f8j2 (cr : FuncId → List Value → Heap → Res) (n : Nat) (t1 t2 t9 t11 : Value) (h : Heap) : Res :=
  bindR (pureR (padd 0 t9) h) fun t56 h45 =>
  bindR (ldR h45 t56) fun t57 h46 =>
  bindR (lenRS h46 t57) fun t58 h47 =>
  bindR (some (.ret t11 h47)) fun t59 h48 =>
  bindR (pureR (intB .neq t58 t59) h48) fun t60 h49 =>
  ifR t60
  (bindR (some (.ret (.bool false) h49)) fun t8 h50 =>
  ((some []).bind fun l => bif clean t8 then some (t8 :: l) else none).bind fun l => some (.ret (tup l) h50))
  (f8j3 cr n t1 t2 t9 t11 h49)
def f8j10 (cr : FuncId → List Value → Heap → Res) (n : Nat) (nx0 : List Value → Heap → Res) (t1 t2 t9 t11 t45 t46 t47 : Value) (h : Heap) : Res :=
  bindR (pureR (intB .add t47 (.int .i64 1)) h) fun t55 h55 =>
  bindR (some (.ret t55 h55)) fun t47 h56 =>
  nx0 [t11, t47] h56
def f8j9 (cr : FuncId → List Value → Heap → Res) (n : Nat) (nx0 : List Value → Heap → Res) (t1 t2 t9 t11 t45 t46 t47 : Value) (h : Heap) : Res :=
  bindR (pureR (idxS 1 t45 t47) h) fun t49 h57 =>
  bindR (ldR h57 t49) fun t50 h58 =>
  bindR (some (.ret t50 h58)) fun t13 h59 =>
  bindR (some (.ret t11 h59)) fun t51 h60 =>
  bindR (some (.ret t13 h60)) fun t52 h61 =>
  bindR (lenRS h61 t52) fun t53 h62 =>
  bindR (pureR (intB .add t51 t53) h62) fun t54 h63 =>
  bindR (some (.ret t54 h63)) fun t11 h64 =>
  f8j10 cr n nx0 t1 t2 t9 t11 t45 t46 t47 h64
def f8j8 (cr : FuncId → List Value → Heap → Res) (n : Nat) (nx0 : List Value → Heap → Res) (t1 t2 t9 t11 t45 t46 t47 : Value) (h : Heap) : Res :=
  bindR (pureR (intB .lss t47 t46) h) fun t48 h54 =>
  ifR t48
  (f8j9 cr n nx0 t1 t2 t9 t11 t45 t46 t47 h54)
  (cond (Nat.beq 0 0) (f8j2 cr n t1 t2 t9 t11 h54) (none))
def f8j1 (cr : FuncId → List Value → Heap → Res) (n : Nat) (t1 t2 t9 : Value) (h : Heap) : Res :=
  bindR (some (.ret (.int .i64 0) h)) fun t11 h13 =>
  bindR (some (.ret t2 h13)) fun t45 h51 =>
  bindR (lenRS h51 t45) fun t46 h52 =>
  bindR (some (.ret (.int .i64 0) h52)) fun t47 h53 =>
  iterK n (fun nx0 (σ : List Value) h => f8j8 cr n nx0 t1 t2 t9 (σ.headD undef) t45 t46 (σ.tail.headD undef) h) [t11, t47] h53
def f8 (cr : FuncId → List Value → Heap → Res) (n : Nat) (a0 a1 a2 a3 : Value) (h : Heap) : Res :=
  bindR (some (.ret (.bool false) h)) fun t8 h1 =>
  bindR (some (.ret a0 h1)) fun t17 h2 =>
  bindR (some (.ret a1 h2)) fun t18 h3 =>
  bindR (some (.ret a2 h3)) fun t19 h4 =>
  bindR (some (.ret a3 h4)) fun t20 h5 =>
  bindR (cr 9 [t17, t18, t19, t20] h5) fun t21 h6 =>
  bindR (some (.ret t21 h6)) fun t16 h7 =>
  bindR (pureR (extr 0 t16) h7) fun t22 h8 =>
  bindR (pureR (extr 1 t16) h8) fun t23 h9 =>
  bindR (newR h9 [(.slice none 0 0), (.slice none 0 0)]) fun t9 h10 =>
  bindR (stNR h10 2 t9 t22) fun _ h11 =>
  bindR (some (.ret t23 h11)) fun t10 h12 =>
  bindR (cr 10 [] h12) fun t24 h65 =>
  bindR (pureR (unV .not t24) h65) fun t25 h66 =>
  bindR (some (.ret t25 h66)) fun t26 h67 =>
  bindR (gd false t26 (some (.ret t10 h67)) h67) fun t27 h68 =>
  bindR (gd false t26 (pureR (intB .neq t27 (.int .i64 0)) h68) h68) fun t28 h69 =>
  bindR (pureR (pickV t26 (.bool true) t28) h69) fun t29 h70 =>
  bindR (some (.ret t29 h70)) fun t30 h71 =>
  bindR (gd false t30 (some (.ret a0 h71)) h71) fun t31 h72 =>
  bindR (gd false t30 (pureR (intB .eql t31 (.int .i64 4)) h72) h72) fun t32 h73 =>
  bindR (pureR (pickV t30 (.bool true) t32) h73) fun t33 h74 =>
  ifR t33
  (bindR (cr 10 [] h74) fun t34 h75 =>
  bindR (some (.ret t34 h75)) fun t35 h76 =>
  bindR (gd true t35 (some (.ret t10 h76)) h76) fun t36 h77 =>
  bindR (gd true t35 (pureR (intB .eql t36 (.int .i64 0)) h77) h77) fun t37 h78 =>
  bindR (gd true t35 (some (.ret t37 h78)) h78) fun t38 h79 =>
  bindR (gd false t38 (pureR (padd 0 t9) h79) h79) fun t39 h80 =>
  bindR (gd false t38 (ldR h80 t39) h80) fun t40 h81 =>
  bindR (gd false t38 (lenRS h81 t40) h81) fun t41 h82 =>
  bindR (gd false t38 (pureR (intB .eql t41 (.int .i64 0)) h82) h82) fun t42 h83 =>
  bindR (gd true t35 (pureR (pickV t38 (.bool true) t42) h83) h83) fun t43 h84 =>
  bindR (pureR (pickV t35 t43 (.bool false)) h84) fun t44 h85 =>
  bindR (some (.ret t44 h85)) fun t8 h86 =>
  ((some []).bind fun l => bif clean t8 then some (t8 :: l) else none).bind fun l => some (.ret (tup l) h86))
  (f8j1 cr n a1 a2 t9 h74)
theorem eq8 (cr : FuncId → List Value → Heap → Res) (n : Nat) (a0 a1 a2 a3 : Value) (h : Heap) : runR Try.prog cfg cr n 8 [a0, a1, a2, a3] h = f8 cr n a0 a1 a2 a3 h := by kernel_rfl
-- hedgewright/hedgkeep.handsLives
def f10 (cr : FuncId → List Value → Heap → Res) (n : Nat) (h : Heap) : Res :=
  bindR (some (.ret (.bool false) h)) fun t0 h1 =>
  bindR (buildSliceR 1 [(.int .i64 0)] h1 [(0, 1, (.int .i64 3))]) fun t4 h2 =>
  bindR (pureR ((fillL [(.int .i64 0), (.int .i64 0)] [(0, 1, (.int .i64 1)), (1, 1, (.int .i64 5))]).map fun c => .agg c.toArray) h2) fun t5 h3 =>
  bindR (buildSliceR 1 [(.int .i64 0), (.int .i64 0)] h3 [(0, 2, t5)]) fun t6 h4 =>
  bindR (pureR ((fillL [(.int .i64 0), (.int .i64 0)] [(0, 1, (.int .i64 3)), (1, 1, (.int .i64 5))]).map fun c => .agg c.toArray) h4) fun t7 h5 =>
  bindR (buildSliceR 1 [(.int .i64 0), (.int .i64 0)] h5 [(0, 2, t7)]) fun t8 h6 =>
  bindR (buildSliceR 2 [(.slice none 0 0)] h6 [(0, 1, t6), (1, 1, t8)]) fun t9 h7 =>
  bindR (buildSliceR 5 [(.int .i64 0)] h7 [(0, 1, (.int .i64 0)), (1, 1, (.int .i64 0)), (2, 1, (.int .i64 0)), (3, 1, (.int .i64 0)), (4, 1, (.int .i64 0))]) fun t10 h8 =>
  bindR (cr 9 [(.int .i64 1), t4, t9, t10] h8) fun t11 h9 =>
  bindR (some (.ret t11 h9)) fun t3 h10 =>
  bindR (pureR (extr 0 t3) h10) fun t12 h11 =>
  bindR (pureR (extr 1 t3) h11) fun t13 h12 =>
  bindR (newR h12 [(.slice none 0 0), (.slice none 0 0)]) fun t1 h13 =>
  bindR (stNR h13 2 t1 t12) fun _ h14 =>
  bindR (some (.ret t13 h14)) fun t2 h15 =>
  bindR (some (.ret t2 h15)) fun t14 h16 =>
  bindR (pureR (intB .eql t14 (.int .i64 0)) h16) fun t15 h17 =>
  bindR (some (.ret t15 h17)) fun t16 h18 =>
  bindR (gd true t16 (pureR (padd 0 t1) h18) h18) fun t17 h19 =>
  bindR (gd true t16 (ldR h19 t17) h19) fun t18 h20 =>
  bindR (gd true t16 (lenRS h20 t18) h20) fun t19 h21 =>
  bindR (gd true t16 (pureR (intB .eql t19 (.int .i64 2)) h21) h21) fun t20 h22 =>
  bindR (pureR (pickV t16 t20 (.bool false)) h22) fun t21 h23 =>
  bindR (some (.ret t21 h23)) fun t22 h24 =>
  bindR (gd true t22 (pureR (padd 0 t1) h24) h24) fun t23 h25 =>
  bindR (gd true t22 (ldR h25 t23) h25) fun t24 h26 =>
  bindR (gd true t22 (pureR (idxS 5 t24 (.int .i64 0)) h26) h26) fun t25 h27 =>
  bindR (gd true t22 (ldNR h27 5 t25) h27) fun t26 h28 =>
  bindR (gd true t22 (pureR ((fillL [(.int .i64 0), (.int .i64 0), (.int .i64 0), (.int .i64 0), (.bool false)] [(2, 1, (.int .i64 0)), (3, 1, (.int .i64 4)), (4, 1, (.bool true))]).map fun c => .agg c.toArray) h28) h28) fun t27 h29 =>
  bindR (gd true t22 (pureR (eqNeq .eql (aggE [.int .i64, .int .i64, .int .i64, .int .i64, .bool] t26 t27)) h29) h29) fun t28 h30 =>
  bindR (pureR (pickV t22 t28 (.bool false)) h30) fun t29 h31 =>
  bindR (some (.ret t29 h31)) fun t30 h32 =>
  bindR (gd true t30 (pureR (padd 0 t1) h32) h32) fun t31 h33 =>
  bindR (gd true t30 (ldR h33 t31) h33) fun t32 h34 =>
  bindR (gd true t30 (pureR (idxS 5 t32 (.int .i64 1)) h34) h34) fun t33 h35 =>
  bindR (gd true t30 (pureR (padd 4 t33) h35) h35) fun t34 h36 =>
  bindR (gd true t30 (ldR h36 t34) h36) fun t35 h37 =>
  bindR (pureR (pickV t30 t35 (.bool false)) h37) fun t36 h38 =>
  bindR (some (.ret t36 h38)) fun t37 h39 =>
  bindR (gd true t37 (pureR (padd 1 t1) h39) h39) fun t38 h40 =>
  bindR (gd true t37 (ldR h40 t38) h40) fun t39 h41 =>
  bindR (gd true t37 (buildSliceR 2 [(.int .i64 0)] h41 [(0, 1, (.int .i64 3)), (1, 1, (.int .i64 5))]) h41) fun t40 h42 =>
  bindR (gd true t37 (cr 20 [t39, t40] h42) h42) fun t41 h43 =>
  bindR (pureR (pickV t37 t41 (.bool false)) h43) fun t42 h44 =>
  bindR (some (.ret t42 h44)) fun t0 h45 =>
  ((some []).bind fun l => bif clean t0 then some (t0 :: l) else none).bind fun l => some (.ret (tup l) h45)
theorem eq10 (cr : FuncId → List Value → Heap → Res) (n : Nat) (h : Heap) : runR Try.prog cfg cr n 10 [] h = f10 cr n h := by kernel_rfl
-- hedgewright/hedgref.KeySet
def f11j1 (cr : FuncId → List Value → Heap → Res) (n : Nat) (t2 t3 : Value) (h : Heap) : Res :=
  bindR (ldNR h 10 t3) fun t17 h3 =>
  bindR (stNR h3 10 t2 t17) fun _ h4 =>
  ((some []).bind fun l => ((ldN h4 10 t2).map fun c => Value.agg c.toArray).map fun v => v :: l).bind fun l => some (.ret (tup l) h4)
def f11j4 (cr : FuncId → List Value → Heap → Res) (n : Nat) (nx0 : List Value → Heap → Res) (t2 t3 t6 t7 t8 : Value) (h : Heap) : Res :=
  bindR (pureR (intB .add t8 (.int .i64 1)) h) fun t16 h9 =>
  bindR (some (.ret t16 h9)) fun t8 h10 =>
  nx0 [t8] h10
def f11j3 (cr : FuncId → List Value → Heap → Res) (n : Nat) (nx0 : List Value → Heap → Res) (t2 t3 t6 t7 t8 : Value) (h : Heap) : Res :=
  bindR (pureR (idxS 1 t6 t8) h) fun t10 h11 =>
  bindR (ldR h11 t10) fun t11 h12 =>
  bindR (some (.ret t11 h12)) fun t5 h13 =>
  bindR (some (.ret t5 h13)) fun t12 h14 =>
  bindR (cr 21 [t12, (.int .i64 0), (.int .i64 9)] h14) fun t13 h15 =>
  ifR t13
  (bindR (some (.ret t5 h15)) fun t14 h16 =>
  bindR (pureR (idxA 10 1 t3 t14) h16) fun t15 h17 =>
  bindR (stR h17 t15 (.bool true)) fun _ h18 =>
  f11j4 cr n nx0 t2 t3 t6 t7 t8 h18)
  (f11j4 cr n nx0 t2 t3 t6 t7 t8 h15)
def f11j2 (cr : FuncId → List Value → Heap → Res) (n : Nat) (nx0 : List Value → Heap → Res) (t2 t3 t6 t7 t8 : Value) (h : Heap) : Res :=
  bindR (pureR (intB .lss t8 t7) h) fun t9 h8 =>
  ifR t9
  (f11j3 cr n nx0 t2 t3 t6 t7 t8 h8)
  (cond (Nat.beq 0 0) (f11j1 cr n t2 t3 h8) (none))
def f11 (cr : FuncId → List Value → Heap → Res) (n : Nat) (a0 : Value) (h : Heap) : Res :=
  bindR (newR h [(.bool false), (.bool false), (.bool false), (.bool false), (.bool false), (.bool false), (.bool false), (.bool false), (.bool false), (.bool false)]) fun t2 h1 =>
  bindR (newR h1 [(.bool false), (.bool false), (.bool false), (.bool false), (.bool false), (.bool false), (.bool false), (.bool false), (.bool false), (.bool false)]) fun t3 h2 =>
  bindR (some (.ret a0 h2)) fun t6 h5 =>
  bindR (lenRS h5 t6) fun t7 h6 =>
  bindR (some (.ret (.int .i64 0) h6)) fun t8 h7 =>
  iterK n (fun nx0 (σ : List Value) h => f11j2 cr n nx0 t2 t3 t6 t7 (σ.headD undef) h) [t8] h7
theorem eq11 (cr : FuncId → List Value → Heap → Res) (n : Nat) (a0 : Value) (h : Heap) : runR Try.prog cfg cr n 11 [a0] h = f11 cr n a0 h := by kernel_rfl
-- hedgewright/hedgref.HandsRight
def f12j3 (cr : FuncId → List Value → Heap → Res) (n : Nat) (h : Heap) : Res :=
  bindR (some (.ret (.int .i64 0) h)) fun t8 h13 =>
  ((some []).bind fun l => bif clean t8 then some (t8 :: l) else none).bind fun l => some (.ret (tup l) h13)
def f12j2 (cr : FuncId → List Value → Heap → Res) (n : Nat) (t0 t9 t10 : Value) (h : Heap) : Res :=
  bindR (some (.ret t0 h)) fun t73 h14 =>
  bindR (cr 21 [t73, (.int .i64 1), (.int .i64 4)] h14) fun t74 h15 =>
  bindR (pureR (unV .not t74) h15) fun t75 h16 =>
  bindR (some (.ret t75 h16)) fun t72 h17 =>
  ifR t72
  (bindR (some (.ret (.int .i64 1) h17)) fun t8 h18 =>
  ((some []).bind fun l => bif clean t8 then some (t8 :: l) else none).bind fun l => some (.ret (tup l) h18))
  (bindR (some (.ret t9 h17)) fun t77 h19 =>
  bindR (some (.ret t77 h19)) fun t76 h20 =>
  ifR t76
  (bindR (some (.ret (.int .i64 2) h20)) fun t8 h21 =>
  ((some []).bind fun l => bif clean t8 then some (t8 :: l) else none).bind fun l => some (.ret (tup l) h21))
  (bindR (some (.ret t10 h20)) fun t79 h22 =>
  bindR (pureR (unV .not t79) h22) fun t80 h23 =>
  bindR (some (.ret t80 h23)) fun t78 h24 =>
  ifR t78
  (bindR (some (.ret (.int .i64 3) h24)) fun t8 h25 =>
  ((some []).bind fun l => bif clean t8 then some (t8 :: l) else none).bind fun l => some (.ret (tup l) h25))
  (f12j3 cr n h24)))
def f12j6 (cr : FuncId → List Value → Heap → Res) (n : Nat) (nx2 : List Value → Heap → Res) (t0 t9 t10 t41 t42 t43 : Value) (h : Heap) : Res :=
  bindR (pureR (intB .add t43 (.int .i64 1)) h) fun t71 h30 =>
  bindR (some (.ret t71 h30)) fun t43 h31 =>
  nx2 [t9, t10, t43] h31
def f12j9 (cr : FuncId → List Value → Heap → Res) (n : Nat) (nx2 : List Value → Heap → Res) (nx4 : List Value → Heap → Res) (t0 t9 t10 t41 t42 t43 t53 t54 t55 : Value) (h : Heap) : Res :=
  bindR (pureR (intB .add t55 (.int .i64 1)) h) fun t70 h46 =>
  bindR (some (.ret t70 h46)) fun t55 h47 =>
  nx4 [t10, t55] h47
def f12j8 (cr : FuncId → List Value → Heap → Res) (n : Nat) (nx2 : List Value → Heap → Res) (nx4 : List Value → Heap → Res) (t0 t9 t10 t41 t42 t43 t53 t54 t55 : Value) (h : Heap) : Res :=
  bindR (pureR (idxS 2 t53 t55) h) fun t57 h48 =>
  bindR (ldNR h48 2 t57) fun t58 h49 =>
  bindR (newR h49 [(.int .i64 0), (.int .i64 0)]) fun t17 h50 =>
  bindR (stNR h50 2 t17 t58) fun _ h51 =>
  bindR (some (.ret t10 h51)) fun t59 h52 =>
  bindR (some (.ret t59 h52)) fun t60 h53 =>
  bindR (gd true t60 (pureR (padd 0 t17) h53) h53) fun t61 h54 =>
  bindR (gd true t60 (ldR h54 t61) h54) fun t62 h55 =>
  bindR (gd true t60 (cr 21 [t62, (.int .i64 1), (.int .i64 3)] h55) h55) fun t63 h56 =>
  bindR (pureR (pickV t60 t63 (.bool false)) h56) fun t64 h57 =>
  bindR (some (.ret t64 h57)) fun t65 h58 =>
  bindR (gd true t65 (pureR (padd 1 t17) h58) h58) fun t66 h59 =>
  bindR (gd true t65 (ldR h59 t66) h59) fun t67 h60 =>
  bindR (gd true t65 (cr 21 [t67, (.int .i64 0), (.int .i64 9)] h60) h60) fun t68 h61 =>
  bindR (pureR (pickV t65 t68 (.bool false)) h61) fun t69 h62 =>
  bindR (some (.ret t69 h62)) fun t10 h63 =>
  f12j9 cr n nx2 nx4 t0 t9 t10 t41 t42 t43 t53 t54 t55 h63
def f12j7 (cr : FuncId → List Value → Heap → Res) (n : Nat) (nx2 : List Value → Heap → Res) (nx4 : List Value → Heap → Res) (t0 t9 t10 t41 t42 t43 t53 t54 t55 : Value) (h : Heap) : Res :=
  bindR (pureR (intB .lss t55 t54) h) fun t56 h45 =>
  ifR t56
  (f12j8 cr n nx2 nx4 t0 t9 t10 t41 t42 t43 t53 t54 t55 h45)
  (cond (Nat.beq 4 4) (f12j6 cr n nx2 t0 t9 t10 t41 t42 t43 h45) (cond (Nat.beq 4 3) (f12j6 cr n nx2 t0 t9 t10 t41 t42 t43 h45) (cond (Nat.beq 4 2) (f12j2 cr n t0 t9 t10 h45) (none))))
def f12j5 (cr : FuncId → List Value → Heap → Res) (n : Nat) (nx2 : List Value → Heap → Res) (t0 t9 t10 t41 t42 t43 : Value) (h : Heap) : Res :=
  bindR (pureR (idxS 1 t41 t43) h) fun t45 h32 =>
  bindR (ldR h32 t45) fun t46 h33 =>
  bindR (some (.ret t46 h33)) fun t15 h34 =>
  bindR (some (.ret t9 h34)) fun t47 h35 =>
  bindR (some (.ret t47 h35)) fun t48 h36 =>
  bindR (gd false t48 (some (.ret t15 h36)) h36) fun t49 h37 =>
  bindR (gd false t48 (lenRS h37 t49) h37) fun t50 h38 =>
  bindR (gd false t48 (pureR (intB .gtr t50 (.int .i64 4)) h38) h38) fun t51 h39 =>
  bindR (pureR (pickV t48 (.bool true) t51) h39) fun t52 h40 =>
  bindR (some (.ret t52 h40)) fun t9 h41 =>
  bindR (some (.ret t15 h41)) fun t53 h42 =>
  bindR (lenRS h42 t53) fun t54 h43 =>
  bindR (some (.ret (.int .i64 0) h43)) fun t55 h44 =>
  iterK n (fun nx4 (σ : List Value) h => f12j7 cr n nx2 nx4 t0 t9 (σ.headD undef) t41 t42 t43 t53 t54 (σ.tail.headD undef) h) [t10, t55] h44
def f12j4 (cr : FuncId → List Value → Heap → Res) (n : Nat) (nx2 : List Value → Heap → Res) (t0 t9 t10 t41 t42 t43 : Value) (h : Heap) : Res :=
  bindR (pureR (intB .lss t43 t42) h) fun t44 h29 =>
  ifR t44
  (f12j5 cr n nx2 t0 t9 t10 t41 t42 t43 h29)
  (cond (Nat.beq 2 2) (f12j2 cr n t0 t9 t10 h29) (none))
def f12j1 (cr : FuncId → List Value → Heap → Res) (n : Nat) (t0 t2 t9 t10 : Value) (h : Heap) : Res :=
  bindR (some (.ret t2 h)) fun t41 h26 =>
  bindR (lenRS h26 t41) fun t42 h27 =>
  bindR (some (.ret (.int .i64 0) h27)) fun t43 h28 =>
  iterK n (fun nx2 (σ : List Value) h => f12j4 cr n nx2 t0 (σ.headD undef) (σ.tail.headD undef) t41 t42 (σ.tail.tail.headD undef) h) [t9, t10, t43] h28
def f12j12 (cr : FuncId → List Value → Heap → Res) (n : Nat) (nx0 : List Value → Heap → Res) (t0 t2 t9 t10 t11 t26 t27 t28 : Value) (h : Heap) : Res :=
  bindR (pureR (intB .add t28 (.int .i64 1)) h) fun t40 h68 =>
  bindR (some (.ret t40 h68)) fun t28 h69 =>
  nx0 [t10, t11, t28] h69
def f12j11 (cr : FuncId → List Value → Heap → Res) (n : Nat) (nx0 : List Value → Heap → Res) (t0 t2 t9 t10 t11 t26 t27 t28 : Value) (h : Heap) : Res :=
  bindR (pureR (idxS 1 t26 t28) h) fun t30 h70 =>
  bindR (ldR h70 t30) fun t31 h71 =>
  bindR (some (.ret t31 h71)) fun t13 h72 =>
  bindR (some (.ret t10 h72)) fun t32 h73 =>
  bindR (some (.ret t32 h73)) fun t33 h74 =>
  bindR (gd true t33 (some (.ret t13 h74)) h74) fun t34 h75 =>
  bindR (gd true t33 (some (.ret t11 h75)) h75) fun t35 h76 =>
  bindR (gd true t33 (pureR (intB .add t35 (.int .i64 1)) h76) h76) fun t36 h77 =>
  bindR (gd true t33 (cr 21 [t34, t36, (.int .i64 9)] h77) h77) fun t37 h78 =>
  bindR (pureR (pickV t33 t37 (.bool false)) h78) fun t38 h79 =>
  bindR (some (.ret t38 h79)) fun t10 h80 =>
  bindR (some (.ret t13 h80)) fun t39 h81 =>
  bindR (some (.ret t39 h81)) fun t11 h82 =>
  f12j12 cr n nx0 t0 t2 t9 t10 t11 t26 t27 t28 h82
def f12j10 (cr : FuncId → List Value → Heap → Res) (n : Nat) (nx0 : List Value → Heap → Res) (t0 t2 t9 t10 t11 t26 t27 t28 : Value) (h : Heap) : Res :=
  bindR (pureR (intB .lss t28 t27) h) fun t29 h67 =>
  ifR t29
  (f12j11 cr n nx0 t0 t2 t9 t10 t11 t26 t27 t28 h67)
  (cond (Nat.beq 0 0) (f12j1 cr n t0 t2 t9 t10 h67) (none))
def f12 (cr : FuncId → List Value → Heap → Res) (n : Nat) (a0 a1 a2 a3 : Value) (h : Heap) : Res :=
  bindR (some (.ret (.int .i64 0) h)) fun t8 h1 =>
  bindR (some (.ret a2 h1)) fun t18 h2 =>
  bindR (lenRS h2 t18) fun t19 h3 =>
  bindR (pureR (intB .gtr t19 (.int .i64 4)) h3) fun t20 h4 =>
  bindR (some (.ret t20 h4)) fun t21 h5 =>
  bindR (gd false t21 (some (.ret a3 h5)) h5) fun t22 h6 =>
  bindR (gd false t21 (lenRS h6 t22) h6) fun t23 h7 =>
  bindR (gd false t21 (pureR (intB .gtr t23 (.int .i64 500)) h7) h7) fun t24 h8 =>
  bindR (pureR (pickV t21 (.bool true) t24) h8) fun t25 h9 =>
  bindR (some (.ret t25 h9)) fun t9 h10 =>
  bindR (some (.ret (.bool true) h10)) fun t10 h11 =>
  bindR (some (.ret (.int .i64 (-1)) h11)) fun t11 h12 =>
  bindR (some (.ret a1 h12)) fun t26 h64 =>
  bindR (lenRS h64 t26) fun t27 h65 =>
  bindR (some (.ret (.int .i64 0) h65)) fun t28 h66 =>
  iterK n (fun nx0 (σ : List Value) h => f12j10 cr n nx0 a0 a2 t9 (σ.headD undef) (σ.tail.headD undef) t26 t27 (σ.tail.tail.headD undef) h) [t10, t11, t28] h66
theorem eq12 (cr : FuncId → List Value → Heap → Res) (n : Nat) (a0 a1 a2 a3 : Value) (h : Heap) : runR Try.prog cfg cr n 12 [a0, a1, a2, a3] h = f12 cr n a0 a1 a2 a3 h := by kernel_rfl
-- hedgewright/hedgref.SameTold
def f13 (cr : FuncId → List Value → Heap → Res) (n : Nat) (a0 a1 : Value) (h : Heap) : Res :=
  bindR (boxR 2 h a0) fun t2 h1 =>
  bindR (boxR 2 h1 a1) fun t3 h2 =>
  bindR (some (.ret (.bool false) h2)) fun t4 h3 =>
  bindR (pureR (padd 0 t2) h3) fun t5 h4 =>
  bindR (ldR h4 t5) fun t6 h5 =>
  bindR (pureR (padd 0 t3) h5) fun t7 h6 =>
  bindR (ldR h6 t7) fun t8 h7 =>
  bindR (cr 22 [t6, t8] h7) fun t9 h8 =>
  bindR (some (.ret t9 h8)) fun t10 h9 =>
  bindR (gd true t10 (pureR (padd 1 t2) h9) h9) fun t11 h10 =>
  bindR (gd true t10 (ldR h10 t11) h10) fun t12 h11 =>
  bindR (gd true t10 (pureR (padd 1 t3) h11) h11) fun t13 h12 =>
  bindR (gd true t10 (ldR h12 t13) h12) fun t14 h13 =>
  bindR (gd true t10 (cr 20 [t12, t14] h13) h13) fun t15 h14 =>
  bindR (pureR (pickV t10 t15 (.bool false)) h14) fun t16 h15 =>
  bindR (some (.ret t16 h15)) fun t4 h16 =>
  ((some []).bind fun l => bif clean t4 then some (t4 :: l) else none).bind fun l => some (.ret (tup l) h16)
theorem eq13 (cr : FuncId → List Value → Heap → Res) (n : Nat) (a0 a1 : Value) (h : Heap) : runR Try.prog cfg cr n 13 [a0, a1] h = f13 cr n a0 a1 h := by kernel_rfl
-- hedgewright/hedgref.Handled
def f14j5 (cr : FuncId → List Value → Heap → Res) (n : Nat) (t8 t16 : Value) (h : Heap) : Res :=
  bindR (ldNR h 2 t16) fun t187 h28 =>
  bindR (stNR h28 2 t8 t187) fun _ h29 =>
  ((some []).bind fun l => ((ldN h29 2 t8).map fun c => Value.agg c.toArray).map fun v => v :: l).bind fun l => some (.ret (tup l) h29)
def f14j8 (cr : FuncId → List Value → Heap → Res) (n : Nat) (nx14 : List Value → Heap → Res) (t8 t9 t16 t21 : Value) (h : Heap) : Res :=
  bindR (some (.ret t9 h)) fun t157 h38 =>
  bindR (pureR (nonnil t157) h38) fun t158 h39 =>
  bindR (pureR (padd 1 t158) h39) fun t159 h40 =>
  bindR (ldR h40 t159) fun t160 h41 =>
  bindR (some (.ret t21 h41)) fun t161 h42 =>
  bindR (pureR (idxS 4 t160 t161) h42) fun t162 h43 =>
  bindR (pureR (padd 1 t162) h43) fun t163 h44 =>
  bindR (ldR h44 t163) fun t164 h45 =>
  bindR (some (.ret t164 h45)) fun t21 h46 =>
  nx14 [t21] h46
def f14j7 (cr : FuncId → List Value → Heap → Res) (n : Nat) (nx14 : List Value → Heap → Res) (t8 t9 t16 t21 : Value) (h : Heap) : Res :=
  bindR (some (.ret t9 h)) fun t165 h47 =>
  bindR (pureR (nonnil t165) h47) fun t166 h48 =>
  bindR (pureR (padd 1 t166) h48) fun t167 h49 =>
  bindR (ldR h49 t167) fun t168 h50 =>
  bindR (some (.ret t21 h50)) fun t169 h51 =>
  bindR (pureR (idxS 4 t168 t169) h51) fun t170 h52 =>
  bindR (pureR (padd 2 t170) h52) fun t171 h53 =>
  bindR (ldR h53 t171) fun t172 h54 =>
  bindR (pureR (unV .not t172) h54) fun t173 h55 =>
  ifR t173
  (noPan (pureR (padd 1 t16) h55) fun t174 h56 =>
  guardR (true && true) <|
  noPan (ldR h56 t174) fun t175 h57 =>
  guardR (true && true) <|
  noPan (some (.ret t9 h57)) fun t176 h58 =>
  guardR (true && true) <|
  noPan (pureR (nonnil t176) h58) fun t177 h59 =>
  guardR (true && true) <|
  noPan (pureR (padd 1 t177) h59) fun t178 h60 =>
  guardR (true && true) <|
  noPan (ldR h60 t178) fun t179 h61 =>
  guardR (true && true) <|
  noPan (some (.ret t21 h61)) fun t180 h62 =>
  guardR (true && true) <|
  noPan (pureR (idxS 4 t179 t180) h62) fun t181 h63 =>
  guardR (true && true) <|
  noPan (pureR (padd 0 t181) h63) fun t182 h64 =>
  guardR (true && true) <|
  noPan (ldR h64 t182) fun t183 h65 =>
  guardR (true && true) <|
  noPan (buildSliceR 1 [(.int .i64 0)] h65 [(0, 1, t183)]) fun t184 h66 =>
  guardR (true && true) <|
  noPan (appR 1 8 h66 t175 t184) fun t185 h67 =>
  guardR (true && true) <|
  noPan (pureR (padd 1 t16) h67) fun t186 h68 =>
  guardR (true && true) <|
  noPan (stR h68 t186 t185) fun _ h69 =>
  guardR (true && true) <|
  f14j8 cr n nx14 t8 t9 t16 t21 h69)
  (f14j8 cr n nx14 t8 t9 t16 t21 h55)
def f14j6 (cr : FuncId → List Value → Heap → Res) (n : Nat) (nx14 : List Value → Heap → Res) (t8 t9 t16 t21 : Value) (h : Heap) : Res :=
  bindR (some (.ret t9 h)) fun t148 h70 =>
  bindR (pureR (nonnil t148) h70) fun t149 h71 =>
  bindR (pureR (padd 1 t149) h71) fun t150 h72 =>
  bindR (ldR h72 t150) fun t151 h73 =>
  bindR (some (.ret t21 h73)) fun t152 h74 =>
  bindR (pureR (idxS 4 t151 t152) h74) fun t153 h75 =>
  bindR (pureR (padd 1 t153) h75) fun t154 h76 =>
  bindR (ldR h76 t154) fun t155 h77 =>
  bindR (pureR (intB .geq t155 (.int .i64 0)) h77) fun t156 h78 =>
  ifR t156
  (f14j7 cr n nx14 t8 t9 t16 t21 h78)
  (cond (Nat.beq 14 14) (f14j5 cr n t8 t16 h78) (none))
def f14j4 (cr : FuncId → List Value → Heap → Res) (n : Nat) (t8 t9 t16 : Value) (h : Heap) : Res :=
  bindR (some (.ret t9 h)) fun t141 h30 =>
  bindR (pureR (nonnil t141) h30) fun t142 h31 =>
  bindR (pureR (padd 1 t142) h31) fun t143 h32 =>
  bindR (ldR h32 t143) fun t144 h33 =>
  bindR (pureR (idxS 4 t144 (.int .i64 0)) h33) fun t145 h34 =>
  bindR (pureR (padd 1 t145) h34) fun t146 h35 =>
  bindR (ldR h35 t146) fun t147 h36 =>
  bindR (some (.ret t147 h36)) fun t21 h37 =>
  iterK n (fun nx14 (σ : List Value) h => f14j6 cr n nx14 t8 t9 t16 (σ.headD undef) h) [t21] h37
def f14j11 (cr : FuncId → List Value → Heap → Res) (n : Nat) (nx8 : List Value → Heap → Res) (t2 t8 t9 t16 t101 t102 : Value) (h : Heap) : Res :=
  bindR (pureR (intB .add t102 (.int .i64 1)) h) fun t140 h83 =>
  bindR (some (.ret t140 h83)) fun t102 h84 =>
  nx8 [t102] h84
def f14j14 (cr : FuncId → List Value → Heap → Res) (n : Nat) (nx8 : List Value → Heap → Res) (nx10 : List Value → Heap → Res) (t2 t8 t9 t16 t17 t101 t102 t109 t110 : Value) (h : Heap) : Res :=
  bindR (pureR (intB .add t110 (.int .i64 1)) h) fun t139 h94 =>
  bindR (some (.ret t139 h94)) fun t110 h95 =>
  nx10 [t110] h95
def f14j17 (cr : FuncId → List Value → Heap → Res) (n : Nat) (nx8 : List Value → Heap → Res) (nx10 : List Value → Heap → Res) (nx12 : List Value → Heap → Res) (t2 t8 t9 t16 t17 t18 t101 t102 t109 t110 t116 t117 t118 : Value) (h : Heap) : Res :=
  bindR (pureR (intB .add t118 (.int .i64 1)) h) fun t138 h105 =>
  bindR (some (.ret t138 h105)) fun t118 h106 =>
  nx12 [t118] h106
def f14j16 (cr : FuncId → List Value → Heap → Res) (n : Nat) (nx8 : List Value → Heap → Res) (nx10 : List Value → Heap → Res) (nx12 : List Value → Heap → Res) (t2 t8 t9 t16 t17 t18 t101 t102 t109 t110 t116 t117 t118 : Value) (h : Heap) : Res :=
  bindR (pureR (idxS 5 t116 t118) h) fun t120 h107 =>
  bindR (ldNR h107 5 t120) fun t121 h108 =>
  bindR (newR h108 [(.int .i64 0), (.int .i64 0), (.int .i64 0), (.int .i64 0), (.bool false)]) fun t20 h109 =>
  bindR (stNR h109 5 t20 t121) fun _ h110 =>
  bindR (pureR (padd 0 t20) h110) fun t122 h111 =>
  bindR (ldR h111 t122) fun t123 h112 =>
  bindR (some (.ret t17 h112)) fun t124 h113 =>
  bindR (pureR (intB .eql t123 t124) h113) fun t125 h114 =>
  bindR (some (.ret t125 h114)) fun t126 h115 =>
  bindR (gd true t126 (pureR (padd 1 t20) h115) h115) fun t127 h116 =>
  bindR (gd true t126 (ldR h116 t127) h116) fun t128 h117 =>
  bindR (gd true t126 (some (.ret t18 h117)) h117) fun t129 h118 =>
  bindR (gd true t126 (pureR (intB .eql t128 t129) h118) h118) fun t130 h119 =>
  bindR (pureR (pickV t126 t130 (.bool false)) h119) fun t131 h120 =>
  ifR t131
  (bindR (pureR (padd 0 t16) h120) fun t132 h121 =>
  bindR (ldR h121 t132) fun t133 h122 =>
  bindR (ldNR h122 5 t20) fun t134 h123 =>
  bindR (buildSliceR 1 [(.int .i64 0), (.int .i64 0), (.int .i64 0), (.int .i64 0), (.bool false)] h123 [(0, 5, t134)]) fun t135 h124 =>
  bindR (appR 5 40 h124 t133 t135) fun t136 h125 =>
  bindR (pureR (padd 0 t16) h125) fun t137 h126 =>
  bindR (stR h126 t137 t136) fun _ h127 =>
  f14j17 cr n nx8 nx10 nx12 t2 t8 t9 t16 t17 t18 t101 t102 t109 t110 t116 t117 t118 h127)
  (f14j17 cr n nx8 nx10 nx12 t2 t8 t9 t16 t17 t18 t101 t102 t109 t110 t116 t117 t118 h120)
def f14j15 (cr : FuncId → List Value → Heap → Res) (n : Nat) (nx8 : List Value → Heap → Res) (nx10 : List Value → Heap → Res) (nx12 : List Value → Heap → Res) (t2 t8 t9 t16 t17 t18 t101 t102 t109 t110 t116 t117 t118 : Value) (h : Heap) : Res :=
  bindR (pureR (intB .lss t118 t117) h) fun t119 h104 =>
  ifR t119
  (f14j16 cr n nx8 nx10 nx12 t2 t8 t9 t16 t17 t18 t101 t102 t109 t110 t116 t117 t118 h104)
  (cond (Nat.beq 12 12) (f14j14 cr n nx8 nx10 t2 t8 t9 t16 t17 t101 t102 t109 t110 h104) (cond (Nat.beq 12 11) (f14j14 cr n nx8 nx10 t2 t8 t9 t16 t17 t101 t102 t109 t110 h104) (cond (Nat.beq 12 10) (f14j11 cr n nx8 t2 t8 t9 t16 t101 t102 h104) (cond (Nat.beq 12 9) (f14j11 cr n nx8 t2 t8 t9 t16 t101 t102 h104) (cond (Nat.beq 12 8) (f14j4 cr n t8 t9 t16 h104) (none))))))
def f14j13 (cr : FuncId → List Value → Heap → Res) (n : Nat) (nx8 : List Value → Heap → Res) (nx10 : List Value → Heap → Res) (t2 t8 t9 t16 t17 t101 t102 t109 t110 : Value) (h : Heap) : Res :=
  bindR (some (.ret t110 h)) fun t112 h96 =>
  bindR (some (.ret t112 h96)) fun t18 h97 =>
  bindR (some (.ret t9 h97)) fun t113 h98 =>
  bindR (pureR (nonnil t113) h98) fun t114 h99 =>
  bindR (pureR (padd 5 t114) h99) fun t115 h100 =>
  bindR (ldR h100 t115) fun t116 h101 =>
  bindR (lenRS h101 t116) fun t117 h102 =>
  bindR (some (.ret (.int .i64 0) h102)) fun t118 h103 =>
  iterK n (fun nx12 (σ : List Value) h => f14j15 cr n nx8 nx10 nx12 t2 t8 t9 t16 t17 t18 t101 t102 t109 t110 t116 t117 (σ.headD undef) h) [t118] h103
def f14j12 (cr : FuncId → List Value → Heap → Res) (n : Nat) (nx8 : List Value → Heap → Res) (nx10 : List Value → Heap → Res) (t2 t8 t9 t16 t17 t101 t102 t109 t110 : Value) (h : Heap) : Res :=
  bindR (pureR (intB .lss t110 t109) h) fun t111 h93 =>
  ifR t111
  (f14j13 cr n nx8 nx10 t2 t8 t9 t16 t17 t101 t102 t109 t110 h93)
  (cond (Nat.beq 10 10) (f14j11 cr n nx8 t2 t8 t9 t16 t101 t102 h93) (cond (Nat.beq 10 9) (f14j11 cr n nx8 t2 t8 t9 t16 t101 t102 h93) (cond (Nat.beq 10 8) (f14j4 cr n t8 t9 t16 h93) (none))))
def f14j10 (cr : FuncId → List Value → Heap → Res) (n : Nat) (nx8 : List Value → Heap → Res) (t2 t8 t9 t16 t101 t102 : Value) (h : Heap) : Res :=
  bindR (some (.ret t102 h)) fun t104 h85 =>
  bindR (some (.ret t104 h85)) fun t17 h86 =>
  bindR (some (.ret t2 h86)) fun t105 h87 =>
  bindR (some (.ret t17 h87)) fun t106 h88 =>
  bindR (pureR (idxS 1 t105 t106) h88) fun t107 h89 =>
  bindR (ldR h89 t107) fun t108 h90 =>
  bindR (lenRS h90 t108) fun t109 h91 =>
  bindR (some (.ret (.int .i64 0) h91)) fun t110 h92 =>
  iterK n (fun nx10 (σ : List Value) h => f14j12 cr n nx8 nx10 t2 t8 t9 t16 t17 t101 t102 t109 (σ.headD undef) h) [t110] h92
def f14j9 (cr : FuncId → List Value → Heap → Res) (n : Nat) (nx8 : List Value → Heap → Res) (t2 t8 t9 t16 t101 t102 : Value) (h : Heap) : Res :=
  bindR (pureR (intB .lss t102 t101) h) fun t103 h82 =>
  ifR t103
  (f14j10 cr n nx8 t2 t8 t9 t16 t101 t102 h82)
  (cond (Nat.beq 8 8) (f14j4 cr n t8 t9 t16 h82) (none))
def f14j3 (cr : FuncId → List Value → Heap → Res) (n : Nat) (t2 t8 t9 : Value) (h : Heap) : Res :=
  bindR (pureR ((fillL [(.slice none 0 0), (.slice none 0 0)] []).map fun c => .agg c.toArray) h) fun t99 h25 =>
  bindR (newR h25 [(.slice none 0 0), (.slice none 0 0)]) fun t16 h26 =>
  bindR (stNR h26 2 t16 t99) fun _ h27 =>
  bindR (some (.ret t2 h27)) fun t100 h79 =>
  bindR (lenRS h79 t100) fun t101 h80 =>
  bindR (some (.ret (.int .i64 0) h80)) fun t102 h81 =>
  iterK n (fun nx8 (σ : List Value) h => f14j9 cr n nx8 t2 t8 t9 t16 t101 (σ.headD undef) h) [t102] h81
def f14j22 (cr : FuncId → List Value → Heap → Res) (n : Nat) (nx4 : List Value → Heap → Res) (nx6 : List Value → Heap → Res) (t2 t8 t9 t14 t84 t85 : Value) (h : Heap) : Res :=
  bindR (pureR (intB .add t85 (.int .i64 1)) h) fun t98 h134 =>
  bindR (some (.ret t98 h134)) fun t85 h135 =>
  nx6 [t14, t85] h135
def f14j21 (cr : FuncId → List Value → Heap → Res) (n : Nat) (nx4 : List Value → Heap → Res) (nx6 : List Value → Heap → Res) (t2 t8 t9 t14 t84 t85 : Value) (h : Heap) : Res :=
  bindR (some (.ret t85 h)) fun t87 h136 =>
  bindR (some (.ret t87 h136)) fun t15 h137 =>
  bindR (some (.ret t9 h137)) fun t88 h138 =>
  bindR (pureR (nonnil t88) h138) fun t89 h139 =>
  bindR (pureR (padd 4 t89) h139) fun t90 h140 =>
  bindR (ldR h140 t90) fun t91 h141 =>
  bindR (pureR (intB .lss t91 (.int .i64 4000)) h141) fun t92 h142 =>
  bindR (some (.ret t92 h142)) fun t93 h143 =>
  bindR (gd true t93 (some (.ret t9 h143)) h143) fun t94 h144 =>
  bindR (gd true t93 (some (.ret t15 h144)) h144) fun t95 h145 =>
  bindR (gd true t93 (cr 24 [t94, t95] h145) h145) fun t96 h146 =>
  bindR (pureR (pickV t93 t96 (.bool false)) h146) fun t97 h147 =>
  ifR t97
  (bindR (some (.ret (.bool true) h147)) fun t14 h148 =>
  f14j22 cr n nx4 nx6 t2 t8 t9 t14 t84 t85 h148)
  (f14j22 cr n nx4 nx6 t2 t8 t9 t14 t84 t85 h147)
def f14j20 (cr : FuncId → List Value → Heap → Res) (n : Nat) (nx4 : List Value → Heap → Res) (nx6 : List Value → Heap → Res) (t2 t8 t9 t14 t84 t85 : Value) (h : Heap) : Res :=
  bindR (pureR (intB .lss t85 t84) h) fun t86 h133 =>
  ifR t86
  (f14j21 cr n nx4 nx6 t2 t8 t9 t14 t84 t85 h133)
  (cond (Nat.beq 6 6) (nx4 [t14] h133) (cond (Nat.beq 6 5) (nx4 [t14] h133) (cond (Nat.beq 6 4) (f14j3 cr n t2 t8 t9 h133) (none))))
def f14j19 (cr : FuncId → List Value → Heap → Res) (n : Nat) (nx4 : List Value → Heap → Res) (t2 t8 t9 : Value) (h : Heap) : Res :=
  bindR (some (.ret (.bool false) h)) fun t14 h129 =>
  bindR (some (.ret t2 h129)) fun t83 h130 =>
  bindR (lenRS h130 t83) fun t84 h131 =>
  bindR (some (.ret (.int .i64 0) h131)) fun t85 h132 =>
  iterK n (fun nx6 (σ : List Value) h => f14j20 cr n nx4 nx6 t2 t8 t9 (σ.headD undef) t84 (σ.tail.headD undef) h) [t14, t85] h132
def f14j18 (cr : FuncId → List Value → Heap → Res) (n : Nat) (nx4 : List Value → Heap → Res) (t2 t8 t9 t14 : Value) (h : Heap) : Res :=
  bindR (some (.ret t14 h)) fun t82 h149 =>
  ifR t82
  (f14j19 cr n nx4 t2 t8 t9 h149)
  (cond (Nat.beq 4 4) (f14j3 cr n t2 t8 t9 h149) (none))
def f14j2 (cr : FuncId → List Value → Heap → Res) (n : Nat) (t2 t8 t9 : Value) (h : Heap) : Res :=
  bindR (some (.ret (.bool true) h)) fun t14 h128 =>
  iterK n (fun nx4 (σ : List Value) h => f14j18 cr n nx4 t2 t8 t9 (σ.headD undef) h) [t14] h128
def f14j25 (cr : FuncId → List Value → Heap → Res) (n : Nat) (nx2 : List Value → Heap → Res) (t2 t8 t9 t67 t68 t69 : Value) (h : Heap) : Res :=
  bindR (pureR (intB .add t69 (.int .i64 1)) h) fun t81 h154 =>
  bindR (some (.ret t81 h154)) fun t69 h155 =>
  nx2 [t69] h155
def f14j24 (cr : FuncId → List Value → Heap → Res) (n : Nat) (nx2 : List Value → Heap → Res) (t2 t8 t9 t67 t68 t69 : Value) (h : Heap) : Res :=
  bindR (pureR (idxS 1 t67 t69) h) fun t71 h156 =>
  bindR (ldR h156 t71) fun t72 h157 =>
  bindR (some (.ret t72 h157)) fun t13 h158 =>
  bindR (some (.ret t13 h158)) fun t73 h159 =>
  bindR (some (.ret t2 h159)) fun t74 h160 =>
  bindR (lenRS h160 t74) fun t75 h161 =>
  bindR (pureR (intB .sub t75 (.int .i64 1)) h161) fun t76 h162 =>
  bindR (cr 21 [t73, (.int .i64 0), t76] h162) fun t77 h163 =>
  ifR t77
  (bindR (some (.ret t9 h163)) fun t78 h164 =>
  bindR (some (.ret t13 h164)) fun t79 h165 =>
  bindR (cr 24 [t78, t79] h165) fun t80 h166 =>
  f14j25 cr n nx2 t2 t8 t9 t67 t68 t69 h166)
  (f14j25 cr n nx2 t2 t8 t9 t67 t68 t69 h163)
def f14j23 (cr : FuncId → List Value → Heap → Res) (n : Nat) (nx2 : List Value → Heap → Res) (t2 t8 t9 t67 t68 t69 : Value) (h : Heap) : Res :=
  bindR (pureR (intB .lss t69 t68) h) fun t70 h153 =>
  ifR t70
  (f14j24 cr n nx2 t2 t8 t9 t67 t68 t69 h153)
  (cond (Nat.beq 2 2) (f14j2 cr n t2 t8 t9 h153) (none))
def f14j1 (cr : FuncId → List Value → Heap → Res) (n : Nat) (t2 t3 t8 t9 : Value) (h : Heap) : Res :=
  noPan (some (.ret t9 h)) fun t55 h12 =>
  guardR (true && true) <|
  noPan (pureR (nonnil t55) h12) fun t56 h13 =>
  guardR (true && true) <|
  noPan (pureR (padd 1 t56) h13) fun t57 h14 =>
  guardR (true && true) <|
  noPan (ldR h14 t57) fun t58 h15 =>
  guardR (true && true) <|
  noPan (some (.ret t9 h15)) fun t59 h16 =>
  guardR (true && true) <|
  noPan (pureR (nonnil t59) h16) fun t60 h17 =>
  guardR (true && true) <|
  noPan (pureR (padd 1 t60) h17) fun t61 h18 =>
  guardR (true && true) <|
  noPan (ldR h18 t61) fun t62 h19 =>
  guardR (true && true) <|
  noPan (lenRS h19 t62) fun t63 h20 =>
  guardR (true && true) <|
  noPan (pureR (intB .sub t63 (.int .i64 1)) h20) fun t64 h21 =>
  guardR (true && true) <|
  noPan (pureR (idxS 4 t58 t64) h21) fun t65 h22 =>
  guardR (true && true) <|
  noPan (pureR (padd 1 t65) h22) fun t66 h23 =>
  guardR (true && true) <|
  noPan (stR h23 t66 (.int .i64 (-1))) fun _ h24 =>
  guardR (true && true) <|
  bindR (some (.ret t3 h24)) fun t67 h150 =>
  bindR (lenRS h150 t67) fun t68 h151 =>
  bindR (some (.ret (.int .i64 0) h151)) fun t69 h152 =>
  iterK n (fun nx2 (σ : List Value) h => f14j23 cr n nx2 t2 t8 t9 t67 t68 (σ.headD undef) h) [t69] h152
def f14j28 (cr : FuncId → List Value → Heap → Res) (n : Nat) (nx0 : List Value → Heap → Res) (t2 t3 t8 t9 t34 t35 t36 : Value) (h : Heap) : Res :=
  bindR (pureR (intB .add t36 (.int .i64 1)) h) fun t54 h174 =>
  bindR (some (.ret t54 h174)) fun t36 h175 =>
  nx0 [t36] h175
def f14j27 (cr : FuncId → List Value → Heap → Res) (n : Nat) (nx0 : List Value → Heap → Res) (t2 t3 t8 t9 t34 t35 t36 : Value) (h : Heap) : Res :=
  bindR (some (.ret t36 h)) fun t38 h176 =>
  bindR (pureR (idxS 1 t34 t36) h176) fun t39 h177 =>
  bindR (ldR h177 t39) fun t40 h178 =>
  bindR (some (.ret t38 h178)) fun t10 h179 =>
  bindR (some (.ret t40 h179)) fun t11 h180 =>
  bindR (some (.ret t9 h180)) fun t41 h181 =>
  bindR (some (.ret t9 h181)) fun t42 h182 =>
  bindR (pureR (nonnil t42) h182) fun t43 h183 =>
  bindR (pureR (padd 1 t43) h183) fun t44 h184 =>
  bindR (ldR h184 t44) fun t45 h185 =>
  bindR (some (.ret t11 h185)) fun t46 h186 =>
  bindR (some (.ret t10 h186)) fun t47 h187 =>
  bindR (pureR (intB .add t47 (.int .i64 2)) h187) fun t48 h188 =>
  bindR (pureR ((fillL [(.int .i64 0), (.int .i64 0), (.bool false), (.bool false)] [(0, 1, t46), (1, 1, t48)]).map fun c => .agg c.toArray) h188) fun t49 h189 =>
  bindR (buildSliceR 1 [(.int .i64 0), (.int .i64 0), (.bool false), (.bool false)] h189 [(0, 4, t49)]) fun t50 h190 =>
  bindR (appR 4 24 h190 t45 t50) fun t51 h191 =>
  bindR (pureR (nonnil t41) h191) fun t52 h192 =>
  bindR (pureR (padd 1 t52) h192) fun t53 h193 =>
  bindR (stR h193 t53 t51) fun _ h194 =>
  f14j28 cr n nx0 t2 t3 t8 t9 t34 t35 t36 h194
def f14j26 (cr : FuncId → List Value → Heap → Res) (n : Nat) (nx0 : List Value → Heap → Res) (t2 t3 t8 t9 t34 t35 t36 : Value) (h : Heap) : Res :=
  bindR (pureR (intB .lss t36 t35) h) fun t37 h173 =>
  ifR t37
  (f14j27 cr n nx0 t2 t3 t8 t9 t34 t35 t36 h173)
  (cond (Nat.beq 0 0) (f14j1 cr n t2 t3 t8 t9 h173) (none))
def f14 (cr : FuncId → List Value → Heap → Res) (n : Nat) (a0 a1 a2 a3 : Value) (h : Heap) : Res :=
  bindR (newR h [(.slice none 0 0), (.slice none 0 0)]) fun t8 h1 =>
  bindR (some (.ret a0 h1)) fun t22 h2 =>
  bindR (some (.ret a2 h2)) fun t23 h3 =>
  bindR (some (.ret a2 h3)) fun t24 h4 =>
  bindR (lenRS h4 t24) fun t25 h5 =>
  bindR (makeR [(.int .i64 0), (.int .i64 0), (.int .i64 0), (.int .i64 0), (.bool false)] 40 h5 t25 t25) fun t26 h6 =>
  bindR (pureR ((fillL [(.int .i64 0), (.int .i64 0), (.bool false), (.bool false)] [(0, 1, (.int .i64 (-1))), (1, 1, (.int .i64 1))]).map fun c => .agg c.toArray) h6) fun t27 h7 =>
  bindR (buildSliceR 1 [(.int .i64 0), (.int .i64 0), (.bool false), (.bool false)] h7 [(0, 4, t27)]) fun t28 h8 =>
  bindR (pureR ((fillL [(.int .i64 0), (.slice none 0 0), (.slice none 0 0), (.slice none 0 0), (.int .i64 0), (.slice none 0 0)] [(0, 1, t22), (3, 1, t23), (2, 1, t26), (1, 1, t28)]).map fun c => .agg c.toArray) h8) fun t29 h9 =>
  bindR (boxR 6 h9 t29) fun t30 h10 =>
  bindR (some (.ret t30 h10)) fun t9 h11 =>
  bindR (some (.ret a1 h11)) fun t31 h167 =>
  bindR (cr 23 [t31] h167) fun t32 h168 =>
  bindR (buildSliceR 1 [(.int .i64 0)] h168 [(0, 1, (.int .i64 10))]) fun t33 h169 =>
  bindR (appR 1 8 h169 t32 t33) fun t34 h170 =>
  bindR (lenRS h170 t34) fun t35 h171 =>
  bindR (some (.ret (.int .i64 0) h171)) fun t36 h172 =>
  iterK n (fun nx0 (σ : List Value) h => f14j26 cr n nx0 a2 a3 t8 t9 t34 t35 (σ.headD undef) h) [t36] h172
theorem eq14 (cr : FuncId → List Value → Heap → Res) (n : Nat) (a0 a1 a2 a3 : Value) (h : Heap) : runR Try.prog cfg cr n 14 [a0, a1, a2, a3] h = f14 cr n a0 a1 a2 a3 h := by kernel_rfl
-- hedgewright/hedgref.Orders
def f15j2 (cr : FuncId → List Value → Heap → Res) (n : Nat) (h : Heap) : Res :=
  bindR (some (.ret (.bool false) h)) fun t8 h4 =>
  ((some []).bind fun l => bif clean t8 then some (t8 :: l) else none).bind fun l => some (.ret (tup l) h4)
def f15j5 (cr : FuncId → List Value → Heap → Res) (n : Nat) (nx0 : List Value → Heap → Res) (t1 t2 t4 t7 t20 t21 t22 : Value) (h : Heap) : Res :=
  bindR (pureR (intB .add t22 (.int .i64 1)) h) fun t74 h9 =>
  bindR (some (.ret t74 h9)) fun t22 h10 =>
  nx0 [t22] h10
def f15j7 (cr : FuncId → List Value → Heap → Res) (n : Nat) (nx0 : List Value → Heap → Res) (t1 t2 t4 t7 t9 t10 t12 t13 t20 t21 t22 : Value) (h : Heap) : Res :=
  noPan (some (.ret t12 h)) fun t58 h36 =>
  guardR (true && true) <|
  noPan (pureR (padd 4 t10) h36) fun t59 h37 =>
  guardR (true && true) <|
  noPan (ldR h37 t59) fun t60 h38 =>
  guardR (true && true) <|
  noPan (pureR (eqNeq .eql (boolE t58 t60)) h38) fun t61 h39 =>
  guardR (true && true) <|
  noPan (some (.ret t61 h39)) fun t62 h40 =>
  guardR (true && true) <|
  noPan (gd true t62 (ldNR h40 10 t13) h40) fun t63 h41 =>
  guardR (true && true) <|
  noPan (gd true t62 (some (.ret t1 h41)) h41) fun t64 h42 =>
  guardR (true && true) <|
  noPan (gd true t62 (some (.ret t2 h42)) h42) fun t65 h43 =>
  guardR (true && true) <|
  noPan (gd true t62 (cr 28 [t65] h43) h43) fun t66 h44 =>
  guardR (((agnG true t62 (agnN h44 10 t13 t63)) && true) && true) <|
  noPan (gd true t62 (some (.ret t9 h44)) h44) fun t67 h45 =>
  guardR (true && true) <|
  noPan (gd true t62 (some (.ret t9 h45)) h45) fun t68 h46 =>
  guardR (true && true) <|
  noPan (gd true t62 (pureR (intB .add t68 (.int .i64 1)) h46) h46) fun t69 h47 =>
  guardR (true && true) <|
  noPan (gd true t62 (cr 27 [t66, t67, t69] h47) h47) fun t70 h48 =>
  guardR (((agnG true t62 (agnN h48 10 t13 t63)) && true) && true) <|
  noPan (gd true t62 (ldNR h48 10 t7) h48) fun t71 h49 =>
  guardR (true && ((agnG true t62 (agnN h43 10 t7 t71)) && ((agnG true t62 (agnN h47 10 t7 t71)) && true))) <|
  noPan (gd true t62 (cr 15 [t63, t64, t70, t71] h49) h49) fun t72 h50 =>
  guardR (true && true) <|
  noPan (pureR (pickV t62 t72 (.bool false)) h50) fun t73 h51 =>
  guardR (true && true) <|
  ifR t73
  (bindR (some (.ret (.bool true) h51)) fun t8 h52 =>
  ((some []).bind fun l => bif clean t8 then some (t8 :: l) else none).bind fun l => some (.ret (tup l) h52))
  (f15j5 cr n nx0 t1 t2 t4 t7 t20 t21 t22 h51)
def f15j6 (cr : FuncId → List Value → Heap → Res) (n : Nat) (nx0 : List Value → Heap → Res) (t1 t2 t4 t7 t9 t10 t20 t21 t22 : Value) (h : Heap) : Res :=
  noPan (some (.ret t1 h)) fun t30 h17 =>
  guardR (true && true) <|
  noPan (pureR (padd 0 t10) h17) fun t31 h18 =>
  guardR (true && true) <|
  noPan (ldR h18 t31) fun t32 h19 =>
  guardR (true && true) <|
  noPan (pureR (idxS 1 t30 t32) h19) fun t33 h20 =>
  guardR (true && true) <|
  noPan (ldR h20 t33) fun t34 h21 =>
  guardR (true && true) <|
  noPan (pureR (padd 1 t10) h21) fun t35 h22 =>
  guardR (true && true) <|
  noPan (ldR h22 t35) fun t36 h23 =>
  guardR (true && true) <|
  noPan (pureR (idxS 2 t34 t36) h23) fun t37 h24 =>
  guardR (true && true) <|
  noPan (ldNR h24 2 t37) fun t38 h25 =>
  guardR (true && true) <|
  noPan (newR h25 [(.int .i64 0), (.int .i64 0)]) fun t11 h26 =>
  guardR (true && true) <|
  noPan (stNR h26 2 t11 t38) fun _ h27 =>
  guardR (true && true) <|
  bindR (pureR (padd 1 t11) h27) fun t39 h28 =>
  bindR (ldR h28 t39) fun t40 h29 =>
  bindR (pureR (idxA 10 1 t4 t40) h29) fun t41 h30 =>
  bindR (ldR h30 t41) fun t42 h31 =>
  bindR (some (.ret t42 h31)) fun t12 h32 =>
  bindR (ldNR h32 10 t4) fun t43 h33 =>
  bindR (newR h33 [(.bool false), (.bool false), (.bool false), (.bool false), (.bool false), (.bool false), (.bool false), (.bool false), (.bool false), (.bool false)]) fun t13 h34 =>
  bindR (stNR h34 10 t13 t43) fun _ h35 =>
  bindR (pureR (padd 0 t11) h35) fun t44 h53 =>
  bindR (ldR h53 t44) fun t45 h54 =>
  bindR (pureR (intB .eql t45 (.int .i64 1)) h54) fun t47 h55 =>
  bindR (some (.ret t47 h55)) fun t46 h56 =>
  ifR t46
  (bindR (pureR (padd 1 t11) h56) fun t48 h57 =>
  bindR (ldR h57 t48) fun t49 h58 =>
  bindR (pureR (idxA 10 1 t13 t49) h58) fun t50 h59 =>
  bindR (stR h59 t50 (.bool true)) fun _ h60 =>
  bindR (some (.ret t12 h60)) fun t51 h61 =>
  bindR (pureR (unV .not t51) h61) fun t52 h62 =>
  bindR (some (.ret t52 h62)) fun t12 h63 =>
  f15j7 cr n nx0 t1 t2 t4 t7 t9 t10 t12 t13 t20 t21 t22 h63)
  (bindR (pureR (intB .eql t45 (.int .i64 2)) h56) fun t54 h64 =>
  bindR (some (.ret t54 h64)) fun t53 h65 =>
  ifR t53
  (bindR (pureR (padd 1 t11) h65) fun t55 h66 =>
  bindR (ldR h66 t55) fun t56 h67 =>
  bindR (pureR (idxA 10 1 t13 t56) h67) fun t57 h68 =>
  bindR (stR h68 t57 (.bool false)) fun _ h69 =>
  f15j7 cr n nx0 t1 t2 t4 t7 t9 t10 t12 t13 t20 t21 t22 h69)
  (f15j7 cr n nx0 t1 t2 t4 t7 t9 t10 t12 t13 t20 t21 t22 h65))
def f15j4 (cr : FuncId → List Value → Heap → Res) (n : Nat) (nx0 : List Value → Heap → Res) (t1 t2 t4 t7 t20 t21 t22 : Value) (h : Heap) : Res :=
  bindR (some (.ret t22 h)) fun t24 h11 =>
  bindR (pureR (idxS 5 t20 t22) h11) fun t25 h12 =>
  bindR (ldNR h12 5 t25) fun t26 h13 =>
  bindR (newR h13 [(.int .i64 0), (.int .i64 0), (.int .i64 0), (.int .i64 0), (.bool false)]) fun t10 h14 =>
  bindR (some (.ret t24 h14)) fun t9 h15 =>
  bindR (stNR h15 5 t10 t26) fun _ h16 =>
  bindR (some (.ret t2 h16)) fun t27 h70 =>
  bindR (pureR (funcV (.func 26) [] [t10]) h70) fun t28 h71 =>
  bindR (cr 25 [t27, t28] h71) fun t29 h72 =>
  ifR t29
  (cond (Nat.beq 1 1) (f15j5 cr n nx0 t1 t2 t4 t7 t20 t21 t22 h72) (cond (Nat.beq 1 0) (f15j2 cr n h72) (none)))
  (f15j6 cr n nx0 t1 t2 t4 t7 t9 t10 t20 t21 t22 h72)
def f15j3 (cr : FuncId → List Value → Heap → Res) (n : Nat) (nx0 : List Value → Heap → Res) (t1 t2 t4 t7 t20 t21 t22 : Value) (h : Heap) : Res :=
  bindR (pureR (intB .lss t22 t21) h) fun t23 h8 =>
  ifR t23
  (f15j4 cr n nx0 t1 t2 t4 t7 t20 t21 t22 h8)
  (cond (Nat.beq 0 0) (f15j2 cr n h8) (none))
def f15j1 (cr : FuncId → List Value → Heap → Res) (n : Nat) (t1 t2 t4 t7 : Value) (h : Heap) : Res :=
  bindR (some (.ret t2 h)) fun t20 h5 =>
  bindR (lenRS h5 t20) fun t21 h6 =>
  bindR (some (.ret (.int .i64 0) h6)) fun t22 h7 =>
  iterK n (fun nx0 (σ : List Value) h => f15j3 cr n nx0 t1 t2 t4 t7 t20 t21 (σ.headD undef) h) [t22] h7
def f15 (cr : FuncId → List Value → Heap → Res) (n : Nat) (a0 a1 a2 a3 : Value) (h : Heap) : Res :=
  bindR (boxR 10 h a0) fun t4 h1 =>
  bindR (boxR 10 h1 a3) fun t7 h2 =>
  bindR (some (.ret (.bool false) h2)) fun t8 h3 =>
  bindR (some (.ret a2 h3)) fun t14 h73 =>
  bindR (lenRS h73 t14) fun t15 h74 =>
  bindR (pureR (intB .eql t15 (.int .i64 0)) h74) fun t16 h75 =>
  ifR t16
  (bindR (ldNR h75 10 t4) fun t17 h76 =>
  bindR (ldNR h76 10 t7) fun t18 h77 =>
  bindR (pureR (eqNeq .eql (aggE [.bool, .bool, .bool, .bool, .bool, .bool, .bool, .bool, .bool, .bool] t17 t18)) h77) fun t19 h78 =>
  bindR (some (.ret t19 h78)) fun t8 h79 =>
  ((some []).bind fun l => bif clean t8 then some (t8 :: l) else none).bind fun l => some (.ret (tup l) h79))
  (f15j1 cr n a1 a2 t4 t7 h75)
theorem eq15 (cr : FuncId → List Value → Heap → Res) (n : Nat) (a0 a1 a2 a3 : Value) (h : Heap) : runR Try.prog cfg cr n 15 [a0, a1, a2, a3] h = f15 cr n a0 a1 a2 a3 h := by kernel_rfl
-- hedgewright/hedgref.SameInts
def f20j2 (cr : FuncId → List Value → Heap → Res) (n : Nat) (h : Heap) : Res :=
  bindR (some (.ret (.bool true) h)) fun t4 h2 =>
  ((some []).bind fun l => bif clean t4 then some (t4 :: l) else none).bind fun l => some (.ret (tup l) h2)
def f20j5 (cr : FuncId → List Value → Heap → Res) (n : Nat) (nx0 : List Value → Heap → Res) (t0 t1 t12 t13 : Value) (h : Heap) : Res :=
  bindR (pureR (intB .add t13 (.int .i64 1)) h) fun t25 h7 =>
  bindR (some (.ret t25 h7)) fun t13 h8 =>
  nx0 [t13] h8
def f20j4 (cr : FuncId → List Value → Heap → Res) (n : Nat) (nx0 : List Value → Heap → Res) (t0 t1 t12 t13 : Value) (h : Heap) : Res :=
  bindR (some (.ret t13 h)) fun t15 h9 =>
  bindR (some (.ret t15 h9)) fun t5 h10 =>
  noPan (some (.ret t0 h10)) fun t16 h11 =>
  guardR (true && true) <|
  noPan (some (.ret t5 h11)) fun t17 h12 =>
  guardR (true && true) <|
  noPan (pureR (idxS 1 t16 t17) h12) fun t18 h13 =>
  guardR (true && true) <|
  noPan (ldR h13 t18) fun t19 h14 =>
  guardR (true && true) <|
  noPan (some (.ret t1 h14)) fun t20 h15 =>
  guardR (true && true) <|
  noPan (some (.ret t5 h15)) fun t21 h16 =>
  guardR (true && true) <|
  noPan (pureR (idxS 1 t20 t21) h16) fun t22 h17 =>
  guardR (true && true) <|
  noPan (ldR h17 t22) fun t23 h18 =>
  guardR (true && true) <|
  noPan (pureR (intB .neq t19 t23) h18) fun t24 h19 =>
  guardR (true && true) <|
  ifR t24
  (bindR (some (.ret (.bool false) h19)) fun t4 h20 =>
  ((some []).bind fun l => bif clean t4 then some (t4 :: l) else none).bind fun l => some (.ret (tup l) h20))
  (f20j5 cr n nx0 t0 t1 t12 t13 h19)
def f20j3 (cr : FuncId → List Value → Heap → Res) (n : Nat) (nx0 : List Value → Heap → Res) (t0 t1 t12 t13 : Value) (h : Heap) : Res :=
  bindR (pureR (intB .lss t13 t12) h) fun t14 h6 =>
  ifR t14
  (f20j4 cr n nx0 t0 t1 t12 t13 h6)
  (cond (Nat.beq 0 0) (f20j2 cr n h6) (none))
def f20j1 (cr : FuncId → List Value → Heap → Res) (n : Nat) (t0 t1 : Value) (h : Heap) : Res :=
  bindR (some (.ret t0 h)) fun t11 h3 =>
  bindR (lenRS h3 t11) fun t12 h4 =>
  bindR (some (.ret (.int .i64 0) h4)) fun t13 h5 =>
  iterK n (fun nx0 (σ : List Value) h => f20j3 cr n nx0 t0 t1 t12 (σ.headD undef) h) [t13] h5
def f20 (cr : FuncId → List Value → Heap → Res) (n : Nat) (a0 a1 : Value) (h : Heap) : Res :=
  bindR (some (.ret (.bool false) h)) fun t4 h1 =>
  bindR (some (.ret a0 h1)) fun t6 h21 =>
  bindR (lenRS h21 t6) fun t7 h22 =>
  bindR (some (.ret a1 h22)) fun t8 h23 =>
  bindR (lenRS h23 t8) fun t9 h24 =>
  bindR (pureR (intB .neq t7 t9) h24) fun t10 h25 =>
  ifR t10
  (bindR (some (.ret (.bool false) h25)) fun t4 h26 =>
  ((some []).bind fun l => bif clean t4 then some (t4 :: l) else none).bind fun l => some (.ret (tup l) h26))
  (f20j1 cr n a0 a1 h25)
theorem eq20 (cr : FuncId → List Value → Heap → Res) (n : Nat) (a0 a1 : Value) (h : Heap) : runR Try.prog cfg cr n 20 [a0, a1] h = f20 cr n a0 a1 h := by kernel_rfl
-- hedgewright/hedgref.Between
def f21 (cr : FuncId → List Value → Heap → Res) (n : Nat) (a0 a1 a2 : Value) (h : Heap) : Res :=
  bindR (some (.ret (.bool false) h)) fun t6 h1 =>
  bindR (some (.ret a1 h1)) fun t7 h2 =>
  bindR (some (.ret a0 h2)) fun t8 h3 =>
  bindR (pureR (intB .leq t7 t8) h3) fun t9 h4 =>
  bindR (some (.ret t9 h4)) fun t10 h5 =>
  bindR (gd true t10 (some (.ret a0 h5)) h5) fun t11 h6 =>
  bindR (gd true t10 (some (.ret a2 h6)) h6) fun t12 h7 =>
  bindR (gd true t10 (pureR (intB .leq t11 t12) h7) h7) fun t13 h8 =>
  bindR (pureR (pickV t10 t13 (.bool false)) h8) fun t14 h9 =>
  bindR (some (.ret t14 h9)) fun t6 h10 =>
  ((some []).bind fun l => bif clean t6 then some (t6 :: l) else none).bind fun l => some (.ret (tup l) h10)
theorem eq21 (cr : FuncId → List Value → Heap → Res) (n : Nat) (a0 a1 a2 : Value) (h : Heap) : runR Try.prog cfg cr n 21 [a0, a1, a2] h = f21 cr n a0 a1 a2 h := by kernel_rfl
-- slices.Equal[[]hedgewright/api.Done,hedgewright/api.Done]
def f22j2 (cr : FuncId → List Value → Heap → Res) (n : Nat) (h : Heap) : Res :=
  bindR (some (.ret (.bool true) h)) fun t4 h2 =>
  ((some []).bind fun l => bif clean t4 then some (t4 :: l) else none).bind fun l => some (.ret (tup l) h2)
def f22j5 (cr : FuncId → List Value → Heap → Res) (n : Nat) (nx0 : List Value → Heap → Res) (t0 t1 t12 t13 : Value) (h : Heap) : Res :=
  bindR (pureR (intB .add t13 (.int .i64 1)) h) fun t25 h7 =>
  bindR (some (.ret t25 h7)) fun t13 h8 =>
  nx0 [t13] h8
def f22j4 (cr : FuncId → List Value → Heap → Res) (n : Nat) (nx0 : List Value → Heap → Res) (t0 t1 t12 t13 : Value) (h : Heap) : Res :=
  bindR (some (.ret t13 h)) fun t15 h9 =>
  bindR (some (.ret t15 h9)) fun t5 h10 =>
  noPan (some (.ret t0 h10)) fun t16 h11 =>
  guardR (true && true) <|
  noPan (some (.ret t5 h11)) fun t17 h12 =>
  guardR (true && true) <|
  noPan (pureR (idxS 5 t16 t17) h12) fun t18 h13 =>
  guardR (true && true) <|
  noPan (ldNR h13 5 t18) fun t19 h14 =>
  guardR (true && true) <|
  noPan (some (.ret t1 h14)) fun t20 h15 =>
  guardR (true && true) <|
  noPan (some (.ret t5 h15)) fun t21 h16 =>
  guardR (true && true) <|
  noPan (pureR (idxS 5 t20 t21) h16) fun t22 h17 =>
  guardR (true && true) <|
  noPan (ldNR h17 5 t22) fun t23 h18 =>
  guardR (true && true) <|
  noPan (pureR (eqNeq .neq (aggE [.int .i64, .int .i64, .int .i64, .int .i64, .bool] t19 t23)) h18) fun t24 h19 =>
  guardR (true && true) <|
  ifR t24
  (bindR (some (.ret (.bool false) h19)) fun t4 h20 =>
  ((some []).bind fun l => bif clean t4 then some (t4 :: l) else none).bind fun l => some (.ret (tup l) h20))
  (f22j5 cr n nx0 t0 t1 t12 t13 h19)
def f22j3 (cr : FuncId → List Value → Heap → Res) (n : Nat) (nx0 : List Value → Heap → Res) (t0 t1 t12 t13 : Value) (h : Heap) : Res :=
  bindR (pureR (intB .lss t13 t12) h) fun t14 h6 =>
  ifR t14
  (f22j4 cr n nx0 t0 t1 t12 t13 h6)
  (cond (Nat.beq 0 0) (f22j2 cr n h6) (none))
def f22j1 (cr : FuncId → List Value → Heap → Res) (n : Nat) (t0 t1 : Value) (h : Heap) : Res :=
  bindR (some (.ret t0 h)) fun t11 h3 =>
  bindR (lenRS h3 t11) fun t12 h4 =>
  bindR (some (.ret (.int .i64 0) h4)) fun t13 h5 =>
  iterK n (fun nx0 (σ : List Value) h => f22j3 cr n nx0 t0 t1 t12 (σ.headD undef) h) [t13] h5
def f22 (cr : FuncId → List Value → Heap → Res) (n : Nat) (a0 a1 : Value) (h : Heap) : Res :=
  bindR (some (.ret (.bool false) h)) fun t4 h1 =>
  bindR (some (.ret a0 h1)) fun t6 h21 =>
  bindR (lenRS h21 t6) fun t7 h22 =>
  bindR (some (.ret a1 h22)) fun t8 h23 =>
  bindR (lenRS h23 t8) fun t9 h24 =>
  bindR (pureR (intB .neq t7 t9) h24) fun t10 h25 =>
  ifR t10
  (bindR (some (.ret (.bool false) h25)) fun t4 h26 =>
  ((some []).bind fun l => bif clean t4 then some (t4 :: l) else none).bind fun l => some (.ret (tup l) h26))
  (f22j1 cr n a0 a1 h25)
theorem eq22 (cr : FuncId → List Value → Heap → Res) (n : Nat) (a0 a1 : Value) (h : Heap) : runR Try.prog cfg cr n 22 [a0, a1] h = f22 cr n a0 a1 h := by kernel_rfl
-- slices.Clone[[]int,int]
def f23j1 (cr : FuncId → List Value → Heap → Res) (n : Nat) (t0 : Value) (h : Heap) : Res :=
  bindR (buildSliceR 0 [(.int .i64 0)] h []) fun t5 h2 =>
  bindR (some (.ret t0 h2)) fun t6 h3 =>
  bindR (appR 1 8 h3 t5 t6) fun t7 h4 =>
  bindR (some (.ret t7 h4)) fun t2 h5 =>
  ((some []).bind fun l => bif clean t2 then some (t2 :: l) else none).bind fun l => some (.ret (tup l) h5)
def f23 (cr : FuncId → List Value → Heap → Res) (n : Nat) (a0 : Value) (h : Heap) : Res :=
  bindR (some (.ret (.slice none 0 0) h)) fun t2 h1 =>
  bindR (some (.ret a0 h1)) fun t3 h6 =>
  bindR (pureR (eqNeq .eql (sliceE t3 (.slice none 0 0))) h6) fun t4 h7 =>
  ifR t4
  (bindR (some (.ret (.slice none 0 0) h7)) fun t2 h8 =>
  ((some []).bind fun l => bif clean t2 then some (t2 :: l) else none).bind fun l => some (.ret (tup l) h8))
  (f23j1 cr n a0 h7)
theorem eq23 (cr : FuncId → List Value → Heap → Res) (n : Nat) (a0 : Value) (h : Heap) : runR Try.prog cfg cr n 23 [a0] h = f23 cr n a0 h := by kernel_rfl
-- (*hedgewright/hedgref.Bench).step
def f24j4 (cr : FuncId → List Value → Heap → Res) (n : Nat) (t0 : Value) (h : Heap) : Res :=
  bindR (some (.ret t0 h)) fun t124 h34 =>
  bindR (pureR (nonnil t124) h34) fun t125 h35 =>
  bindR (pureR (padd 4 t125) h35) fun t126 h36 =>
  bindR (ldR h36 t126) fun t127 h37 =>
  bindR (pureR (intB .add t127 (.int .i64 1)) h37) fun t128 h38 =>
  bindR (pureR (nonnil t124) h38) fun t129 h39 =>
  bindR (pureR (padd 4 t129) h39) fun t130 h40 =>
  bindR (stR h40 t130 t128) fun _ h41 =>
  bindR (some (.ret (.bool true) h41)) fun t4 h42 =>
  ((some []).bind fun l => bif clean t4 then some (t4 :: l) else none).bind fun l => some (.ret (tup l) h42)
def f24j3 (cr : FuncId → List Value → Heap → Res) (n : Nat) (t0 t5 t7 t8 : Value) (h : Heap) : Res :=
  bindR (some (.ret t8 h)) fun t93 h43 =>
  ifR t93
  (noPan (some (.ret t0 h43)) fun t94 h44 =>
  guardR (true && true) <|
  noPan (pureR (nonnil t94) h44) fun t95 h45 =>
  guardR (true && true) <|
  noPan (pureR (padd 5 t95) h45) fun t96 h46 =>
  guardR (true && true) <|
  noPan (ldR h46 t96) fun t97 h47 =>
  guardR (true && true) <|
  noPan (some (.ret t7 h47)) fun t98 h48 =>
  guardR (true && true) <|
  noPan (some (.ret t0 h48)) fun t99 h49 =>
  guardR (true && true) <|
  noPan (pureR (nonnil t99) h49) fun t100 h50 =>
  guardR (true && true) <|
  noPan (pureR (padd 5 t100) h50) fun t101 h51 =>
  guardR (true && true) <|
  noPan (ldR h51 t101) fun t102 h52 =>
  guardR (true && true) <|
  noPan (some (.ret t7 h52)) fun t103 h53 =>
  guardR (true && true) <|
  noPan (some (.ret t0 h53)) fun t104 h54 =>
  guardR (true && true) <|
  noPan (pureR (nonnil t104) h54) fun t105 h55 =>
  guardR (true && true) <|
  noPan (pureR (padd 4 t105) h55) fun t106 h56 =>
  guardR (true && true) <|
  noPan (ldR h56 t106) fun t107 h57 =>
  guardR (true && true) <|
  noPan (ldR h57 t5) fun t108 h58 =>
  guardR (true && true) <|
  noPan (pureR (nonnil t108) h58) fun t109 h59 =>
  guardR (true && true) <|
  noPan (pureR (padd 4 t109) h59) fun t110 h60 =>
  guardR (true && true) <|
  noPan (ldR h60 t110) fun t111 h61 =>
  guardR (true && true) <|
  noPan (pureR (idxS 5 t97 t98) h61) fun t112 h62 =>
  guardR (true && true) <|
  noPan (pureR (padd 3 t112) h62) fun t113 h63 =>
  guardR (true && true) <|
  noPan (stR h63 t113 t107) fun _ h64 =>
  guardR (true && true) <|
  noPan (pureR (idxS 5 t102 t103) h64) fun t114 h65 =>
  guardR (true && true) <|
  noPan (pureR (padd 4 t114) h65) fun t115 h66 =>
  guardR (true && true) <|
  noPan (stR h66 t115 t111) fun _ h67 =>
  guardR (true && true) <|
  noPan (ldR h67 t5) fun t116 h68 =>
  guardR (true && true) <|
  noPan (ldR h68 t5) fun t117 h69 =>
  guardR (true && true) <|
  noPan (pureR (nonnil t117) h69) fun t118 h70 =>
  guardR (true && true) <|
  noPan (pureR (padd 0 t118) h70) fun t119 h71 =>
  guardR (true && true) <|
  noPan (ldR h71 t119) fun t120 h72 =>
  guardR (true && true) <|
  noPan (pureR (intB .add t120 (.int .i64 1)) h72) fun t121 h73 =>
  guardR (true && true) <|
  noPan (pureR ((fillL [(.int .i64 0), (.int .i64 0), (.int .i64 0), (.int .i64 0), (.bool false)] [(0, 1, t121)]).map fun c => .agg c.toArray) h73) fun t122 h74 =>
  guardR (true && true) <|
  noPan (pureR (nonnil t116) h74) fun t123 h75 =>
  guardR (true && true) <|
  noPan (stNR h75 5 t123 t122) fun _ h76 =>
  guardR (true && true) <|
  f24j4 cr n t0 h76)
  (f24j4 cr n t0 h43)
def f24j2 (cr : FuncId → List Value → Heap → Res) (n : Nat) (t0 t5 t6 t7 : Value) (h : Heap) : Res :=
  bindR (some (.ret (.bool false) h)) fun t8 h33 =>
  bindR (some (.ret t0 h33)) fun t73 h77 =>
  bindR (pureR (nonnil t73) h77) fun t74 h78 =>
  bindR (pureR (padd 0 t74) h78) fun t75 h79 =>
  bindR (ldR h79 t75) fun t76 h80 =>
  bindR (pureR (intB .eql t76 (.int .i64 1)) h80) fun t82 h81 =>
  bindR (some (.ret t82 h81)) fun t81 h82 =>
  ifR t81
  (bindR (some (.ret t0 h82)) fun t83 h83 =>
  bindR (ldR h83 t5) fun t84 h84 =>
  bindR (ldNR h84 2 t6) fun t85 h85 =>
  bindR (cr 34 [t83, t84, t85] h85) fun t86 h86 =>
  bindR (some (.ret t86 h86)) fun t8 h87 =>
  f24j3 cr n t0 t5 t7 t8 h87)
  (bindR (pureR (intB .eql t76 (.int .i64 2)) h82) fun t88 h88 =>
  bindR (some (.ret t88 h88)) fun t87 h89 =>
  ifR t87
  (bindR (some (.ret t0 h89)) fun t89 h90 =>
  bindR (ldR h90 t5) fun t90 h91 =>
  bindR (ldNR h91 2 t6) fun t91 h92 =>
  bindR (cr 35 [t89, t90, t91] h92) fun t92 h93 =>
  bindR (some (.ret t92 h93)) fun t8 h94 =>
  f24j3 cr n t0 t5 t7 t8 h94)
  (bindR (some (.ret t0 h89)) fun t77 h95 =>
  bindR (ldR h95 t5) fun t78 h96 =>
  bindR (ldNR h96 2 t6) fun t79 h97 =>
  bindR (cr 36 [t77, t78, t79] h97) fun t80 h98 =>
  bindR (some (.ret t80 h98)) fun t8 h99 =>
  f24j3 cr n t0 t5 t7 t8 h99))
def f24j1 (cr : FuncId → List Value → Heap → Res) (n : Nat) (t0 t3 t5 : Value) (h : Heap) : Res :=
  noPan (some (.ret t0 h)) fun t28 h11 =>
  guardR (true && true) <|
  noPan (pureR (nonnil t28) h11) fun t29 h12 =>
  guardR (true && true) <|
  noPan (pureR (padd 3 t29) h12) fun t30 h13 =>
  guardR (true && true) <|
  noPan (ldR h13 t30) fun t31 h14 =>
  guardR (true && true) <|
  noPan (ldR h14 t3) fun t32 h15 =>
  guardR (true && true) <|
  noPan (pureR (idxS 1 t31 t32) h15) fun t33 h16 =>
  guardR (true && true) <|
  noPan (ldR h16 t33) fun t34 h17 =>
  guardR (true && true) <|
  noPan (ldR h17 t5) fun t35 h18 =>
  guardR (true && true) <|
  noPan (pureR (nonnil t35) h18) fun t36 h19 =>
  guardR (true && true) <|
  noPan (pureR (padd 0 t36) h19) fun t37 h20 =>
  guardR (true && true) <|
  noPan (ldR h20 t37) fun t38 h21 =>
  guardR (true && true) <|
  noPan (pureR (idxS 2 t34 t38) h21) fun t39 h22 =>
  guardR (true && true) <|
  noPan (ldNR h22 2 t39) fun t40 h23 =>
  guardR (true && true) <|
  noPan (newR h23 [(.int .i64 0), (.int .i64 0)]) fun t6 h24 =>
  guardR (true && true) <|
  noPan (stNR h24 2 t6 t40) fun _ h25 =>
  guardR (true && true) <|
  bindR (some (.ret t0 h25)) fun t41 h26 =>
  bindR (pureR (nonnil t41) h26) fun t42 h27 =>
  bindR (pureR (padd 5 t42) h27) fun t43 h28 =>
  bindR (ldR h28 t43) fun t44 h29 =>
  bindR (pureR (funcV (.func 33) [] [t3, t5]) h29) fun t45 h30 =>
  bindR (cr 32 [t44, t45] h30) fun t46 h31 =>
  bindR (some (.ret t46 h31)) fun t7 h32 =>
  bindR (some (.ret t7 h32)) fun t47 h100 =>
  bindR (pureR (intB .lss t47 (.int .i64 0)) h100) fun t48 h101 =>
  ifR t48
  (bindR (some (.ret t0 h101)) fun t49 h102 =>
  bindR (pureR (nonnil t49) h102) fun t50 h103 =>
  bindR (pureR (padd 5 t50) h103) fun t51 h104 =>
  bindR (ldR h104 t51) fun t52 h105 =>
  bindR (lenRS h105 t52) fun t53 h106 =>
  bindR (some (.ret t53 h106)) fun t7 h107 =>
  noPan (some (.ret t0 h107)) fun t54 h108 =>
  guardR (true && true) <|
  noPan (some (.ret t0 h108)) fun t55 h109 =>
  guardR (true && true) <|
  noPan (pureR (nonnil t55) h109) fun t56 h110 =>
  guardR (true && true) <|
  noPan (pureR (padd 5 t56) h110) fun t57 h111 =>
  guardR (true && true) <|
  noPan (ldR h111 t57) fun t58 h112 =>
  guardR (true && true) <|
  noPan (ldR h112 t3) fun t59 h113 =>
  guardR (true && true) <|
  noPan (ldR h113 t5) fun t60 h114 =>
  guardR (true && true) <|
  noPan (pureR (nonnil t60) h114) fun t61 h115 =>
  guardR (true && true) <|
  noPan (pureR (padd 0 t61) h115) fun t62 h116 =>
  guardR (true && true) <|
  noPan (ldR h116 t62) fun t63 h117 =>
  guardR (true && true) <|
  noPan (some (.ret t0 h117)) fun t64 h118 =>
  guardR (true && true) <|
  noPan (pureR (nonnil t64) h118) fun t65 h119 =>
  guardR (true && true) <|
  noPan (pureR (padd 4 t65) h119) fun t66 h120 =>
  guardR (true && true) <|
  noPan (ldR h120 t66) fun t67 h121 =>
  guardR (true && true) <|
  noPan (pureR ((fillL [(.int .i64 0), (.int .i64 0), (.int .i64 0), (.int .i64 0), (.bool false)] [(0, 1, t59), (1, 1, t63), (2, 1, t67), (3, 1, (.int .i64 (-1)))]).map fun c => .agg c.toArray) h121) fun t68 h122 =>
  guardR (true && true) <|
  noPan (buildSliceR 1 [(.int .i64 0), (.int .i64 0), (.int .i64 0), (.int .i64 0), (.bool false)] h122 [(0, 5, t68)]) fun t69 h123 =>
  guardR (true && true) <|
  noPan (appR 5 40 h123 t58 t69) fun t70 h124 =>
  guardR (true && true) <|
  noPan (pureR (nonnil t54) h124) fun t71 h125 =>
  guardR (true && true) <|
  noPan (pureR (padd 5 t71) h125) fun t72 h126 =>
  guardR (true && true) <|
  noPan (stR h126 t72 t70) fun _ h127 =>
  guardR (true && true) <|
  f24j2 cr n t0 t5 t6 t7 h127)
  (f24j2 cr n t0 t5 t6 t7 h101)
def f24 (cr : FuncId → List Value → Heap → Res) (n : Nat) (a0 a1 : Value) (h : Heap) : Res :=
  bindR (boxR 1 h a1) fun t3 h1 =>
  bindR (some (.ret (.bool false) h1)) fun t4 h2 =>
  noPan (some (.ret a0 h2)) fun t9 h3 =>
  guardR (true && true) <|
  noPan (pureR (nonnil t9) h3) fun t10 h4 =>
  guardR (true && true) <|
  noPan (pureR (padd 2 t10) h4) fun t11 h5 =>
  guardR (true && true) <|
  noPan (ldR h5 t11) fun t12 h6 =>
  guardR (true && true) <|
  noPan (ldR h6 t3) fun t13 h7 =>
  guardR (true && true) <|
  noPan (pureR (idxS 5 t12 t13) h7) fun t14 h8 =>
  guardR (true && true) <|
  noPan (newR h8 [(.pointer none)]) fun t5 h9 =>
  guardR (true && true) <|
  noPan (stR h9 t5 t14) fun _ h10 =>
  guardR (true && true) <|
  noPan (ldR h10 t5) fun t15 h128 =>
  guardR (true && true) <|
  noPan (pureR (nonnil t15) h128) fun t16 h129 =>
  guardR (true && true) <|
  noPan (pureR (padd 0 t16) h129) fun t17 h130 =>
  guardR (true && true) <|
  noPan (ldR h130 t17) fun t18 h131 =>
  guardR (true && true) <|
  noPan (some (.ret a0 h131)) fun t19 h132 =>
  guardR (true && true) <|
  noPan (pureR (nonnil t19) h132) fun t20 h133 =>
  guardR (true && true) <|
  noPan (pureR (padd 3 t20) h133) fun t21 h134 =>
  guardR (true && true) <|
  noPan (ldR h134 t21) fun t22 h135 =>
  guardR (true && true) <|
  noPan (ldR h135 t3) fun t23 h136 =>
  guardR (true && true) <|
  noPan (pureR (idxS 1 t22 t23) h136) fun t24 h137 =>
  guardR (true && true) <|
  noPan (ldR h137 t24) fun t25 h138 =>
  guardR (true && true) <|
  noPan (lenRS h138 t25) fun t26 h139 =>
  guardR (true && true) <|
  noPan (pureR (intB .eql t18 t26) h139) fun t27 h140 =>
  guardR (true && true) <|
  ifR t27
  (bindR (some (.ret (.bool false) h140)) fun t4 h141 =>
  ((some []).bind fun l => bif clean t4 then some (t4 :: l) else none).bind fun l => some (.ret (tup l) h141))
  (f24j1 cr n a0 t3 t5 h140)
theorem eq24 (cr : FuncId → List Value → Heap → Res) (n : Nat) (a0 a1 : Value) (h : Heap) : runR Try.prog cfg cr n 24 [a0, a1] h = f24 cr n a0 a1 h := by kernel_rfl
-- slices.ContainsFunc[[]hedgewright/api.Done,hedgewright/api.Done]
def f25 (cr : FuncId → List Value → Heap → Res) (n : Nat) (a0 a1 : Value) (h : Heap) : Res :=
  bindR (some (.ret (.bool false) h)) fun t4 h1 =>
  bindR (some (.ret a0 h1)) fun t5 h2 =>
  bindR (some (.ret a1 h2)) fun t6 h3 =>
  bindR (cr 32 [t5, t6] h3) fun t7 h4 =>
  bindR (pureR (intB .geq t7 (.int .i64 0)) h4) fun t8 h5 =>
  bindR (some (.ret t8 h5)) fun t4 h6 =>
  ((some []).bind fun l => bif clean t4 then some (t4 :: l) else none).bind fun l => some (.ret (tup l) h6)
theorem eq25 (cr : FuncId → List Value → Heap → Res) (n : Nat) (a0 a1 : Value) (h : Heap) : runR Try.prog cfg cr n 25 [a0, a1] h = f25 cr n a0 a1 h := by kernel_rfl
-- hedgewright/hedgref.Orders$1
def f26 (cr : FuncId → List Value → Heap → Res) (n : Nat) (a0 a1 : Value) (h : Heap) : Res :=
  bindR (boxR 5 h a0) fun t2 h1 =>
  bindR (some (.ret (.bool false) h1)) fun t3 h2 =>
  bindR (pureR (padd 3 t2) h2) fun t4 h3 =>
  bindR (ldR h3 t4) fun t5 h4 =>
  bindR (pureR (padd 2 a1) h4) fun t6 h5 =>
  bindR (ldR h5 t6) fun t7 h6 =>
  bindR (pureR (intB .lss t5 t7) h6) fun t8 h7 =>
  bindR (some (.ret t8 h7)) fun t3 h8 =>
  ((some []).bind fun l => bif clean t3 then some (t3 :: l) else none).bind fun l => some (.ret (tup l) h8)
theorem eq26 (cr : FuncId → List Value → Heap → Res) (n : Nat) (a0 a1 : Value) (h : Heap) : runR Try.prog cfg cr n 26 [a0, a1] h = f26 cr n a0 a1 h := by kernel_rfl
-- slices.Clone[[]hedgewright/api.Done,hedgewright/api.Done]
def f28j1 (cr : FuncId → List Value → Heap → Res) (n : Nat) (t0 : Value) (h : Heap) : Res :=
  bindR (buildSliceR 0 [(.int .i64 0), (.int .i64 0), (.int .i64 0), (.int .i64 0), (.bool false)] h []) fun t5 h2 =>
  bindR (some (.ret t0 h2)) fun t6 h3 =>
  bindR (appR 5 40 h3 t5 t6) fun t7 h4 =>
  bindR (some (.ret t7 h4)) fun t2 h5 =>
  ((some []).bind fun l => bif clean t2 then some (t2 :: l) else none).bind fun l => some (.ret (tup l) h5)
def f28 (cr : FuncId → List Value → Heap → Res) (n : Nat) (a0 : Value) (h : Heap) : Res :=
  bindR (some (.ret (.slice none 0 0) h)) fun t2 h1 =>
  bindR (some (.ret a0 h1)) fun t3 h6 =>
  bindR (pureR (eqNeq .eql (sliceE t3 (.slice none 0 0))) h6) fun t4 h7 =>
  ifR t4
  (bindR (some (.ret (.slice none 0 0) h7)) fun t2 h8 =>
  ((some []).bind fun l => bif clean t2 then some (t2 :: l) else none).bind fun l => some (.ret (tup l) h8))
  (f28j1 cr n a0 h7)
theorem eq28 (cr : FuncId → List Value → Heap → Res) (n : Nat) (a0 : Value) (h : Heap) : runR Try.prog cfg cr n 28 [a0] h = f28 cr n a0 h := by kernel_rfl
-- slices.IndexFunc[[]hedgewright/api.Done,hedgewright/api.Done]
def f32j1 (cr : FuncId → List Value → Heap → Res) (n : Nat) (h : Heap) : Res :=
  bindR (some (.ret (.int .i64 (-1)) h)) fun t4 h2 =>
  ((some []).bind fun l => bif clean t4 then some (t4 :: l) else none).bind fun l => some (.ret (tup l) h2)
def f32j4 (cr : FuncId → List Value → Heap → Res) (n : Nat) (nx0 : List Value → Heap → Res) (t0 t1 t7 t8 : Value) (h : Heap) : Res :=
  bindR (pureR (intB .add t8 (.int .i64 1)) h) fun t18 h7 =>
  bindR (some (.ret t18 h7)) fun t8 h8 =>
  nx0 [t8] h8
def f32j3 (cr : FuncId → List Value → Heap → Res) (n : Nat) (nx0 : List Value → Heap → Res) (t0 t1 t7 t8 : Value) (h : Heap) : Res :=
  bindR (some (.ret t8 h)) fun t10 h9 =>
  bindR (some (.ret t10 h9)) fun t5 h10 =>
  bindR (some (.ret t1 h10)) fun t11 h11 =>
  bindR (some (.ret t0 h11)) fun t12 h12 =>
  bindR (some (.ret t5 h12)) fun t13 h13 =>
  bindR (pureR (idxS 5 t12 t13) h13) fun t14 h14 =>
  bindR (ldNR h14 5 t14) fun t15 h15 =>
  bindR (callV cr h15 t11 [t15]) fun t16 h16 =>
  ifR t16
  (bindR (some (.ret t5 h16)) fun t17 h17 =>
  bindR (some (.ret t17 h17)) fun t4 h18 =>
  ((some []).bind fun l => bif clean t4 then some (t4 :: l) else none).bind fun l => some (.ret (tup l) h18))
  (f32j4 cr n nx0 t0 t1 t7 t8 h16)
def f32j2 (cr : FuncId → List Value → Heap → Res) (n : Nat) (nx0 : List Value → Heap → Res) (t0 t1 t7 t8 : Value) (h : Heap) : Res :=
  bindR (pureR (intB .lss t8 t7) h) fun t9 h6 =>
  ifR t9
  (f32j3 cr n nx0 t0 t1 t7 t8 h6)
  (cond (Nat.beq 0 0) (f32j1 cr n h6) (none))
def f32 (cr : FuncId → List Value → Heap → Res) (n : Nat) (a0 a1 : Value) (h : Heap) : Res :=
  bindR (some (.ret (.int .i64 0) h)) fun t4 h1 =>
  bindR (some (.ret a0 h1)) fun t6 h3 =>
  bindR (lenRS h3 t6) fun t7 h4 =>
  bindR (some (.ret (.int .i64 0) h4)) fun t8 h5 =>
  iterK n (fun nx0 (σ : List Value) h => f32j2 cr n nx0 a0 a1 t7 (σ.headD undef) h) [t8] h5
theorem eq32 (cr : FuncId → List Value → Heap → Res) (n : Nat) (a0 a1 : Value) (h : Heap) : runR Try.prog cfg cr n 32 [a0, a1] h = f32 cr n a0 a1 h := by kernel_rfl
-- (*hedgewright/hedgref.Bench).step$1
def f33 (cr : FuncId → List Value → Heap → Res) (n : Nat) (a0 a1 a2 : Value) (h : Heap) : Res :=
  bindR (boxR 5 h a0) fun t3 h1 =>
  bindR (some (.ret (.bool false) h1)) fun t4 h2 =>
  noPan (pureR (padd 0 t3) h2) fun t5 h3 =>
  guardR (true && true) <|
  noPan (ldR h3 t5) fun t6 h4 =>
  guardR (true && true) <|
  noPan (ldR h4 a1) fun t7 h5 =>
  guardR (true && true) <|
  noPan (pureR (intB .eql t6 t7) h5) fun t8 h6 =>
  guardR (true && true) <|
  noPan (some (.ret t8 h6)) fun t9 h7 =>
  guardR (true && true) <|
  noPan (gd true t9 (pureR (padd 1 t3) h7) h7) fun t10 h8 =>
  guardR (true && true) <|
  noPan (gd true t9 (ldR h8 t10) h8) fun t11 h9 =>
  guardR (true && true) <|
  noPan (gd true t9 (ldR h9 a2) h9) fun t12 h10 =>
  guardR (true && true) <|
  noPan (gd true t9 (pureR (nonnil t12) h10) h10) fun t13 h11 =>
  guardR (true && true) <|
  noPan (gd true t9 (pureR (padd 0 t13) h11) h11) fun t14 h12 =>
  guardR (true && true) <|
  noPan (gd true t9 (ldR h12 t14) h12) fun t15 h13 =>
  guardR (true && true) <|
  noPan (gd true t9 (pureR (intB .eql t11 t15) h13) h13) fun t16 h14 =>
  guardR (true && true) <|
  noPan (pureR (pickV t9 t16 (.bool false)) h14) fun t17 h15 =>
  guardR (true && true) <|
  noPan (some (.ret t17 h15)) fun t4 h16 =>
  guardR (true && true) <|
  ((some []).bind fun l => bif clean t4 then some (t4 :: l) else none).bind fun l => some (.ret (tup l) h16)
theorem eq33 (cr : FuncId → List Value → Heap → Res) (n : Nat) (a0 a1 a2 : Value) (h : Heap) : runR Try.prog cfg cr n 33 [a0, a1, a2] h = f33 cr n a0 a1 a2 h := by kernel_rfl
-- (*hedgewright/hedgref.Bench).handOver
def f34j1 (cr : FuncId → List Value → Heap → Res) (n : Nat) (h : Heap) : Res :=
  bindR (some (.ret (.bool false) h)) fun t6 h13 =>
  ((some []).bind fun l => bif clean t6 then some (t6 :: l) else none).bind fun l => some (.ret (tup l) h13)
def f34j4 (cr : FuncId → List Value → Heap → Res) (n : Nat) (h : Heap) : Res :=
  bindR (some (.ret (.bool true) h)) fun t6 h69 =>
  ((some []).bind fun l => bif clean t6 then some (t6 :: l) else none).bind fun l => some (.ret (tup l) h69)
def f34j3 (cr : FuncId → List Value → Heap → Res) (n : Nat) (t0 t1 t5 : Value) (h : Heap) : Res :=
  bindR (pureR (padd 0 t5) h) fun t117 h70 =>
  bindR (ldR h70 t117) fun t118 h71 =>
  bindR (pureR (intB .eql t118 (.int .i64 1)) h71) fun t119 h72 =>
  ifR t119
  (bindR (some (.ret t1 h72)) fun t120 h73 =>
  bindR (some (.ret t1 h73)) fun t121 h74 =>
  bindR (pureR (nonnil t121) h74) fun t122 h75 =>
  bindR (pureR (padd 4 t122) h75) fun t123 h76 =>
  bindR (ldR h76 t123) fun t124 h77 =>
  bindR (pureR (unV .not t124) h77) fun t125 h78 =>
  bindR (pureR (nonnil t120) h78) fun t126 h79 =>
  bindR (pureR (padd 4 t126) h79) fun t127 h80 =>
  bindR (stR h80 t127 t125) fun _ h81 =>
  bindR (some (.ret t1 h81)) fun t128 h82 =>
  bindR (pureR (nonnil t128) h82) fun t129 h83 =>
  bindR (pureR (padd 4 t129) h83) fun t130 h84 =>
  bindR (ldR h84 t130) fun t131 h85 =>
  ifR t131
  (bindR (some (.ret t0 h85)) fun t132 h86 =>
  bindR (some (.ret t1 h86)) fun t133 h87 =>
  bindR (pureR (padd 1 t5) h87) fun t134 h88 =>
  bindR (ldR h88 t134) fun t135 h89 =>
  bindR (cr 61 [t132, t133, t135] h89) fun t136 h90 =>
  f34j4 cr n h90)
  (f34j4 cr n h85))
  (f34j4 cr n h72)
def f34j2 (cr : FuncId → List Value → Heap → Res) (n : Nat) (t0 t1 t5 t7 : Value) (h : Heap) : Res :=
  noPan (some (.ret t1 h)) fun t78 h55 =>
  guardR (true && true) <|
  noPan (some (.ret t7 h55)) fun t79 h56 =>
  guardR (true && true) <|
  noPan (pureR (nonnil t79) h56) fun t80 h57 =>
  guardR (true && true) <|
  noPan (pureR (padd 0 t80) h57) fun t81 h58 =>
  guardR (true && true) <|
  noPan (ldR h58 t81) fun t82 h59 =>
  guardR (true && true) <|
  noPan (pureR (padd 1 t5) h59) fun t83 h60 =>
  guardR (true && true) <|
  noPan (ldR h60 t83) fun t84 h61 =>
  guardR (true && true) <|
  noPan (pureR (intB .eql t82 t84) h61) fun t85 h62 =>
  guardR (true && true) <|
  noPan (pureR (nonnil t78) h62) fun t86 h63 =>
  guardR (true && true) <|
  noPan (pureR (padd 4 t86) h63) fun t87 h64 =>
  guardR (true && true) <|
  noPan (stR h64 t87 t85) fun _ h65 =>
  guardR (true && true) <|
  bindR (some (.ret t0 h65)) fun t88 h66 =>
  bindR (some (.ret t1 h66)) fun t89 h67 =>
  bindR (cr 60 [t88, t89] h67) fun t90 h68 =>
  bindR (pureR (padd 0 t5) h68) fun t91 h91 =>
  bindR (ldR h91 t91) fun t92 h92 =>
  bindR (pureR (intB .eql t92 (.int .i64 2)) h92) fun t93 h93 =>
  bindR (some (.ret t93 h93)) fun t94 h94 =>
  bindR (gd true t94 (some (.ret t1 h94)) h94) fun t95 h95 =>
  bindR (gd true t94 (pureR (nonnil t95) h95) h95) fun t96 h96 =>
  bindR (gd true t94 (pureR (padd 4 t96) h96) h96) fun t97 h97 =>
  bindR (gd true t94 (ldR h97 t97) h97) fun t98 h98 =>
  bindR (pureR (pickV t94 t98 (.bool false)) h98) fun t99 h99 =>
  ifR t99
  (bindR (some (.ret t7 h99)) fun t100 h100 =>
  bindR (pureR (nonnil t100) h100) fun t101 h101 =>
  bindR (pureR (padd 2 t101) h101) fun t102 h102 =>
  bindR (stR h102 t102 (.bool true)) fun _ h103 =>
  noPan (some (.ret t0 h103)) fun t103 h104 =>
  guardR (true && true) <|
  noPan (pureR (nonnil t103) h104) fun t104 h105 =>
  guardR (true && true) <|
  noPan (pureR (padd 1 t104) h105) fun t105 h106 =>
  guardR (true && true) <|
  noPan (ldR h106 t105) fun t106 h107 =>
  guardR (true && true) <|
  noPan (some (.ret t1 h107)) fun t107 h108 =>
  guardR (true && true) <|
  noPan (pureR (nonnil t107) h108) fun t108 h109 =>
  guardR (true && true) <|
  noPan (pureR (padd 2 t108) h109) fun t109 h110 =>
  guardR (true && true) <|
  noPan (ldR h110 t109) fun t110 h111 =>
  guardR (true && true) <|
  noPan (some (.ret t7 h111)) fun t111 h112 =>
  guardR (true && true) <|
  noPan (pureR (nonnil t111) h112) fun t112 h113 =>
  guardR (true && true) <|
  noPan (pureR (padd 1 t112) h113) fun t113 h114 =>
  guardR (true && true) <|
  noPan (ldR h114 t113) fun t114 h115 =>
  guardR (true && true) <|
  noPan (pureR (idxS 4 t106 t110) h115) fun t115 h116 =>
  guardR (true && true) <|
  noPan (pureR (padd 1 t115) h116) fun t116 h117 =>
  guardR (true && true) <|
  noPan (stR h117 t116 t114) fun _ h118 =>
  guardR (true && true) <|
  f34j3 cr n t0 t1 t5 h118)
  (f34j3 cr n t0 t1 t5 h99)
def f34 (cr : FuncId → List Value → Heap → Res) (n : Nat) (a0 a1 a2 : Value) (h : Heap) : Res :=
  bindR (boxR 2 h a2) fun t5 h1 =>
  bindR (some (.ret (.bool false) h1)) fun t6 h2 =>
  noPan (some (.ret a0 h2)) fun t8 h3 =>
  guardR (true && true) <|
  noPan (pureR (nonnil t8) h3) fun t9 h4 =>
  guardR (true && true) <|
  noPan (pureR (padd 1 t9) h4) fun t10 h5 =>
  guardR (true && true) <|
  noPan (ldR h5 t10) fun t11 h6 =>
  guardR (true && true) <|
  noPan (some (.ret a1 h6)) fun t12 h7 =>
  guardR (true && true) <|
  noPan (pureR (nonnil t12) h7) fun t13 h8 =>
  guardR (true && true) <|
  noPan (pureR (padd 3 t13) h8) fun t14 h9 =>
  guardR (true && true) <|
  noPan (ldR h9 t14) fun t15 h10 =>
  guardR (true && true) <|
  noPan (pureR (idxS 4 t11 t15) h10) fun t16 h11 =>
  guardR (true && true) <|
  noPan (some (.ret t16 h11)) fun t7 h12 =>
  guardR (true && true) <|
  bindR (some (.ret a1 h12)) fun t17 h14 =>
  bindR (pureR (nonnil t17) h14) fun t18 h15 =>
  bindR (pureR (padd 1 t18) h15) fun t19 h16 =>
  bindR (ldR h16 t19) fun t20 h17 =>
  bindR (pureR (intB .eql t20 (.int .i64 0)) h17) fun t22 h18 =>
  bindR (some (.ret t22 h18)) fun t21 h19 =>
  ifR t21
  (bindR (some (.ret a0 h19)) fun t23 h20 =>
  bindR (pureR (nonnil t23) h20) fun t24 h21 =>
  bindR (pureR (padd 1 t24) h21) fun t25 h22 =>
  bindR (ldR h22 t25) fun t26 h23 =>
  bindR (pureR (idxS 4 t26 (.int .i64 0)) h23) fun t27 h24 =>
  bindR (pureR (padd 3 t27) h24) fun t28 h25 =>
  bindR (ldR h25 t28) fun t29 h26 =>
  bindR (pureR (unV .not t29) h26) fun t30 h27 =>
  ifR t30
  (bindR (some (.ret a0 h27)) fun t31 h28 =>
  bindR (pureR (nonnil t31) h28) fun t32 h29 =>
  bindR (pureR (padd 1 t32) h29) fun t33 h30 =>
  bindR (ldR h30 t33) fun t34 h31 =>
  bindR (pureR (idxS 4 t34 (.int .i64 0)) h31) fun t35 h32 =>
  bindR (pureR (padd 3 t35) h32) fun t36 h33 =>
  bindR (stR h33 t36 (.bool true)) fun _ h34 =>
  bindR (some (.ret a0 h34)) fun t37 h35 =>
  bindR (some (.ret a1 h35)) fun t38 h36 =>
  bindR (cr 58 [t37, t38] h36) fun t39 h37 =>
  f34j1 cr n h37)
  (f34j1 cr n h27))
  (bindR (pureR (intB .eql t20 (.int .i64 1)) h19) fun t41 h38 =>
  bindR (some (.ret t41 h38)) fun t40 h39 =>
  ifR t40
  (bindR (some (.ret t7 h39)) fun t42 h40 =>
  bindR (pureR (nonnil t42) h40) fun t43 h41 =>
  bindR (pureR (padd 3 t43) h41) fun t44 h42 =>
  bindR (ldR h42 t44) fun t45 h43 =>
  bindR (pureR (unV .not t45) h43) fun t46 h44 =>
  ifR t46
  (bindR (some (.ret t7 h44)) fun t47 h45 =>
  bindR (some (.ret a1 h45)) fun t48 h46 =>
  bindR (pureR (nonnil t47) h46) fun t49 h47 =>
  bindR (pureR (padd 3 t49) h47) fun t50 h48 =>
  bindR (stR h48 t50 (.bool true)) fun _ h49 =>
  bindR (pureR (nonnil t48) h49) fun t51 h50 =>
  bindR (pureR (padd 1 t51) h50) fun t52 h51 =>
  bindR (stR h51 t52 (.int .i64 2)) fun _ h52 =>
  f34j1 cr n h52)
  (f34j1 cr n h44))
  (bindR (pureR (intB .eql t20 (.int .i64 2)) h39) fun t54 h53 =>
  bindR (some (.ret t54 h53)) fun t53 h54 =>
  ifR t53
  (noPan (some (.ret t7 h54)) fun t55 h119 =>
  guardR (true && true) <|
  noPan (pureR (nonnil t55) h119) fun t56 h120 =>
  guardR (true && true) <|
  noPan (pureR (padd 0 t56) h120) fun t57 h121 =>
  guardR (true && true) <|
  noPan (ldR h121 t57) fun t58 h122 =>
  guardR (true && true) <|
  noPan (pureR (padd 1 t5) h122) fun t59 h123 =>
  guardR (true && true) <|
  noPan (ldR h123 t59) fun t60 h124 =>
  guardR (true && true) <|
  noPan (pureR (intB .lss t58 t60) h124) fun t61 h125 =>
  guardR (true && true) <|
  ifR t61
  (noPan (some (.ret a0 h125)) fun t62 h126 =>
  guardR (true && true) <|
  noPan (pureR (nonnil t62) h126) fun t63 h127 =>
  guardR (true && true) <|
  noPan (pureR (padd 1 t63) h127) fun t64 h128 =>
  guardR (true && true) <|
  noPan (ldR h128 t64) fun t65 h129 =>
  guardR (true && true) <|
  noPan (some (.ret a1 h129)) fun t66 h130 =>
  guardR (true && true) <|
  noPan (pureR (nonnil t66) h130) fun t67 h131 =>
  guardR (true && true) <|
  noPan (pureR (padd 2 t67) h131) fun t68 h132 =>
  guardR (true && true) <|
  noPan (ldR h132 t68) fun t69 h133 =>
  guardR (true && true) <|
  noPan (pureR (idxS 4 t65 t69) h133) fun t70 h134 =>
  guardR (true && true) <|
  noPan (pureR (padd 3 t70) h134) fun t71 h135 =>
  guardR (true && true) <|
  noPan (stR h135 t71 (.bool false)) fun _ h136 =>
  guardR (true && true) <|
  bindR (some (.ret a0 h136)) fun t72 h137 =>
  bindR (some (.ret a1 h137)) fun t73 h138 =>
  bindR (cr 59 [t72, t73] h138) fun t74 h139 =>
  bindR (some (.ret a1 h139)) fun t75 h140 =>
  bindR (pureR (nonnil t75) h140) fun t76 h141 =>
  bindR (pureR (padd 1 t76) h141) fun t77 h142 =>
  bindR (stR h142 t77 (.int .i64 1)) fun _ h143 =>
  bindR (some (.ret (.bool false) h143)) fun t6 h144 =>
  ((some []).bind fun l => bif clean t6 then some (t6 :: l) else none).bind fun l => some (.ret (tup l) h144))
  (f34j2 cr n a0 a1 t5 t7 h125))
  (f34j1 cr n h54)))
theorem eq34 (cr : FuncId → List Value → Heap → Res) (n : Nat) (a0 a1 a2 : Value) (h : Heap) : runR Try.prog cfg cr n 34 [a0, a1, a2] h = f34 cr n a0 a1 a2 h := by kernel_rfl
-- (*hedgewright/hedgref.Bench).lookTwice
def f35j1 (cr : FuncId → List Value → Heap → Res) (n : Nat) (h : Heap) : Res :=
  bindR (some (.ret (.bool false) h)) fun t6 h31 =>
  ((some []).bind fun l => bif clean t6 then some (t6 :: l) else none).bind fun l => some (.ret (tup l) h31)
def f35j4 (cr : FuncId → List Value → Heap → Res) (n : Nat) (h : Heap) : Res :=
  bindR (some (.ret (.bool true) h)) fun t6 h124 =>
  ((some []).bind fun l => bif clean t6 then some (t6 :: l) else none).bind fun l => some (.ret (tup l) h124)
def f35j3 (cr : FuncId → List Value → Heap → Res) (n : Nat) (t0 t1 t5 : Value) (h : Heap) : Res :=
  bindR (some (.ret t0 h)) fun t154 h121 =>
  bindR (some (.ret t1 h121)) fun t155 h122 =>
  bindR (cr 60 [t154, t155] h122) fun t156 h123 =>
  bindR (some (.ret t1 h123)) fun t157 h125 =>
  bindR (pureR (nonnil t157) h125) fun t158 h126 =>
  bindR (pureR (padd 4 t158) h126) fun t159 h127 =>
  bindR (ldR h127 t159) fun t160 h128 =>
  ifR t160
  (bindR (some (.ret t0 h128)) fun t161 h129 =>
  bindR (some (.ret t1 h129)) fun t162 h130 =>
  bindR (pureR (padd 1 t5) h130) fun t163 h131 =>
  bindR (ldR h131 t163) fun t164 h132 =>
  bindR (cr 61 [t161, t162, t164] h132) fun t165 h133 =>
  f35j4 cr n h133)
  (f35j4 cr n h128)
def f35j2 (cr : FuncId → List Value → Heap → Res) (n : Nat) (t0 t1 t5 t8 t9 : Value) (h : Heap) : Res :=
  bindR (some (.ret t1 h)) fun t134 h112 =>
  bindR (some (.ret t9 h112)) fun t135 h113 =>
  bindR (pureR (padd 0 t5) h113) fun t136 h114 =>
  bindR (ldR h114 t136) fun t137 h115 =>
  bindR (pureR (intB .eql t137 (.int .i64 2)) h115) fun t138 h116 =>
  bindR (pureR (eqNeq .eql (boolE t135 t138)) h116) fun t139 h117 =>
  bindR (pureR (nonnil t134) h117) fun t140 h118 =>
  bindR (pureR (padd 4 t140) h118) fun t141 h119 =>
  bindR (stR h119 t141 t139) fun _ h120 =>
  bindR (pureR (padd 0 t5) h120) fun t142 h134 =>
  bindR (ldR h134 t142) fun t143 h135 =>
  bindR (pureR (intB .eql t143 (.int .i64 2)) h135) fun t144 h136 =>
  bindR (some (.ret t144 h136)) fun t145 h137 =>
  bindR (gd true t145 (some (.ret t9 h137)) h137) fun t146 h138 =>
  bindR (pureR (pickV t145 t146 (.bool false)) h138) fun t147 h139 =>
  ifR t147
  (bindR (some (.ret t8 h139)) fun t148 h140 =>
  bindR (some (.ret t1 h140)) fun t149 h141 =>
  bindR (pureR (nonnil t148) h141) fun t150 h142 =>
  bindR (pureR (padd 2 t150) h142) fun t151 h143 =>
  bindR (stR h143 t151 (.bool true)) fun _ h144 =>
  bindR (pureR (nonnil t149) h144) fun t152 h145 =>
  bindR (pureR (padd 1 t152) h145) fun t153 h146 =>
  bindR (stR h146 t153 (.int .i64 5)) fun _ h147 =>
  bindR (some (.ret (.bool false) h147)) fun t6 h148 =>
  ((some []).bind fun l => bif clean t6 then some (t6 :: l) else none).bind fun l => some (.ret (tup l) h148))
  (f35j3 cr n t0 t1 t5 h139)
def f35 (cr : FuncId → List Value → Heap → Res) (n : Nat) (a0 a1 a2 : Value) (h : Heap) : Res :=
  bindR (boxR 2 h a2) fun t5 h1 =>
  bindR (some (.ret (.bool false) h1)) fun t6 h2 =>
  noPan (some (.ret a0 h2)) fun t10 h3 =>
  guardR (true && true) <|
  noPan (pureR (nonnil t10) h3) fun t11 h4 =>
  guardR (true && true) <|
  noPan (pureR (padd 1 t11) h4) fun t12 h5 =>
  guardR (true && true) <|
  noPan (ldR h5 t12) fun t13 h6 =>
  guardR (true && true) <|
  noPan (some (.ret a1 h6)) fun t14 h7 =>
  guardR (true && true) <|
  noPan (pureR (nonnil t14) h7) fun t15 h8 =>
  guardR (true && true) <|
  noPan (pureR (padd 2 t15) h8) fun t16 h9 =>
  guardR (true && true) <|
  noPan (ldR h9 t16) fun t17 h10 =>
  guardR (true && true) <|
  noPan (pureR (idxS 4 t13 t17) h10) fun t18 h11 =>
  guardR (true && true) <|
  noPan (some (.ret a0 h11)) fun t19 h12 =>
  guardR (true && true) <|
  noPan (pureR (nonnil t19) h12) fun t20 h13 =>
  guardR (true && true) <|
  noPan (pureR (padd 1 t20) h13) fun t21 h14 =>
  guardR (true && true) <|
  noPan (ldR h14 t21) fun t22 h15 =>
  guardR (true && true) <|
  noPan (some (.ret a1 h15)) fun t23 h16 =>
  guardR (true && true) <|
  noPan (pureR (nonnil t23) h16) fun t24 h17 =>
  guardR (true && true) <|
  noPan (pureR (padd 3 t24) h17) fun t25 h18 =>
  guardR (true && true) <|
  noPan (ldR h18 t25) fun t26 h19 =>
  guardR (true && true) <|
  noPan (pureR (idxS 4 t22 t26) h19) fun t27 h20 =>
  guardR (true && true) <|
  noPan (some (.ret t18 h20)) fun t7 h21 =>
  guardR (true && true) <|
  noPan (some (.ret t27 h21)) fun t8 h22 =>
  guardR (true && true) <|
  noPan (some (.ret t8 h22)) fun t28 h23 =>
  guardR (true && true) <|
  noPan (pureR (nonnil t28) h23) fun t29 h24 =>
  guardR (true && true) <|
  noPan (pureR (padd 0 t29) h24) fun t30 h25 =>
  guardR (true && true) <|
  noPan (ldR h25 t30) fun t31 h26 =>
  guardR (true && true) <|
  noPan (pureR (padd 1 t5) h26) fun t32 h27 =>
  guardR (true && true) <|
  noPan (ldR h27 t32) fun t33 h28 =>
  guardR (true && true) <|
  noPan (pureR (intB .eql t31 t33) h28) fun t34 h29 =>
  guardR (true && true) <|
  noPan (some (.ret t34 h29)) fun t9 h30 =>
  guardR (true && true) <|
  bindR (some (.ret a1 h30)) fun t35 h32 =>
  bindR (pureR (nonnil t35) h32) fun t36 h33 =>
  bindR (pureR (padd 1 t36) h33) fun t37 h34 =>
  bindR (ldR h34 t37) fun t38 h35 =>
  bindR (pureR (intB .eql t38 (.int .i64 0)) h35) fun t40 h36 =>
  bindR (some (.ret t40 h36)) fun t39 h37 =>
  ifR t39
  (bindR (some (.ret a0 h37)) fun t41 h38 =>
  bindR (some (.ret a1 h38)) fun t42 h39 =>
  bindR (cr 58 [t41, t42] h39) fun t43 h40 =>
  f35j1 cr n h40)
  (bindR (pureR (intB .eql t38 (.int .i64 1)) h37) fun t45 h41 =>
  bindR (some (.ret t45 h41)) fun t44 h42 =>
  ifR t44
  (noPan (some (.ret t8 h42)) fun t54 h43 =>
  guardR (true && true) <|
  noPan (pureR (nonnil t54) h43) fun t55 h44 =>
  guardR (true && true) <|
  noPan (pureR (padd 0 t55) h44) fun t56 h45 =>
  guardR (true && true) <|
  noPan (ldR h45 t56) fun t57 h46 =>
  guardR (true && true) <|
  noPan (pureR (padd 1 t5) h46) fun t58 h47 =>
  guardR (true && true) <|
  noPan (ldR h47 t58) fun t59 h48 =>
  guardR (true && true) <|
  noPan (pureR (intB .lss t57 t59) h48) fun t60 h49 =>
  guardR (true && true) <|
  noPan (some (.ret t60 h49)) fun t53 h50 =>
  guardR (true && true) <|
  ifR t53
  (bindR (some (.ret a0 h50)) fun t61 h51 =>
  bindR (some (.ret a1 h51)) fun t62 h52 =>
  bindR (cr 59 [t61, t62] h52) fun t63 h53 =>
  f35j1 cr n h53)
  (bindR (pureR (padd 0 t5) h50) fun t65 h54 =>
  bindR (ldR h54 t65) fun t66 h55 =>
  bindR (pureR (intB .eql t66 (.int .i64 3)) h55) fun t67 h56 =>
  bindR (some (.ret t67 h56)) fun t64 h57 =>
  ifR t64
  (bindR (some (.ret a1 h57)) fun t68 h58 =>
  bindR (some (.ret t9 h58)) fun t69 h59 =>
  bindR (some (.ret t69 h59)) fun t70 h60 =>
  bindR (gd true t70 (some (.ret t8 h60)) h60) fun t71 h61 =>
  bindR (gd true t70 (pureR (nonnil t71) h61) h61) fun t72 h62 =>
  bindR (gd true t70 (pureR (padd 2 t72) h62) h62) fun t73 h63 =>
  bindR (gd true t70 (ldR h63 t73) h63) fun t74 h64 =>
  bindR (gd true t70 (pureR (unV .not t74) h64) h64) fun t75 h65 =>
  bindR (pureR (pickV t70 t75 (.bool false)) h65) fun t76 h66 =>
  bindR (pureR (nonnil t68) h66) fun t77 h67 =>
  bindR (pureR (padd 4 t77) h67) fun t78 h68 =>
  bindR (stR h68 t78 t76) fun _ h69 =>
  bindR (some (.ret (.bool true) h69)) fun t6 h70 =>
  ((some []).bind fun l => bif clean t6 then some (t6 :: l) else none).bind fun l => some (.ret (tup l) h70))
  (bindR (some (.ret a1 h57)) fun t46 h71 =>
  bindR (pureR (nonnil t46) h71) fun t47 h72 =>
  bindR (pureR (padd 1 t47) h72) fun t48 h73 =>
  bindR (stR h73 t48 (.int .i64 2)) fun _ h74 =>
  bindR (some (.ret a0 h74)) fun t49 h75 =>
  bindR (some (.ret a1 h75)) fun t50 h76 =>
  bindR (ldNR h76 2 t5) fun t51 h77 =>
  bindR (cr 35 [t49, t50, t51] h77) fun t52 h78 =>
  bindR (some (.ret t52 h78)) fun t6 h79 =>
  ((some []).bind fun l => bif clean t6 then some (t6 :: l) else none).bind fun l => some (.ret (tup l) h79))))
  (bindR (pureR (intB .eql t38 (.int .i64 2)) h42) fun t80 h80 =>
  bindR (some (.ret t80 h80)) fun t79 h81 =>
  ifR t79
  (bindR (some (.ret t7 h81)) fun t81 h82 =>
  bindR (pureR (nonnil t81) h82) fun t82 h83 =>
  bindR (pureR (padd 3 t82) h83) fun t83 h84 =>
  bindR (ldR h84 t83) fun t84 h85 =>
  bindR (pureR (unV .not t84) h85) fun t85 h86 =>
  ifR t85
  (bindR (some (.ret t7 h86)) fun t86 h87 =>
  bindR (some (.ret a1 h87)) fun t87 h88 =>
  bindR (pureR (nonnil t86) h88) fun t88 h89 =>
  bindR (pureR (padd 3 t88) h89) fun t89 h90 =>
  bindR (stR h90 t89 (.bool true)) fun _ h91 =>
  bindR (pureR (nonnil t87) h91) fun t90 h92 =>
  bindR (pureR (padd 1 t90) h92) fun t91 h93 =>
  bindR (stR h93 t91 (.int .i64 3)) fun _ h94 =>
  f35j1 cr n h94)
  (f35j1 cr n h86))
  (bindR (pureR (intB .eql t38 (.int .i64 3)) h81) fun t93 h95 =>
  bindR (some (.ret t93 h95)) fun t92 h96 =>
  ifR t92
  (bindR (some (.ret t8 h96)) fun t94 h97 =>
  bindR (pureR (nonnil t94) h97) fun t95 h98 =>
  bindR (pureR (padd 3 t95) h98) fun t96 h99 =>
  bindR (ldR h99 t96) fun t97 h100 =>
  bindR (pureR (unV .not t97) h100) fun t98 h101 =>
  ifR t98
  (bindR (some (.ret t8 h101)) fun t99 h102 =>
  bindR (some (.ret a1 h102)) fun t100 h103 =>
  bindR (pureR (nonnil t99) h103) fun t101 h104 =>
  bindR (pureR (padd 3 t101) h104) fun t102 h105 =>
  bindR (stR h105 t102 (.bool true)) fun _ h106 =>
  bindR (pureR (nonnil t100) h106) fun t103 h107 =>
  bindR (pureR (padd 1 t103) h107) fun t104 h108 =>
  bindR (stR h108 t104 (.int .i64 4)) fun _ h109 =>
  f35j1 cr n h109)
  (f35j1 cr n h101))
  (bindR (pureR (intB .eql t38 (.int .i64 4)) h96) fun t106 h110 =>
  bindR (some (.ret t106 h110)) fun t105 h111 =>
  ifR t105
  (noPan (some (.ret t7 h111)) fun t107 h149 =>
  guardR (true && true) <|
  noPan (pureR (nonnil t107) h149) fun t108 h150 =>
  guardR (true && true) <|
  noPan (pureR (padd 2 t108) h150) fun t109 h151 =>
  guardR (true && true) <|
  noPan (ldR h151 t109) fun t110 h152 =>
  guardR (true && true) <|
  noPan (some (.ret t110 h152)) fun t111 h153 =>
  guardR (true && true) <|
  noPan (gd false t111 (some (.ret t8 h153)) h153) fun t112 h154 =>
  guardR (true && true) <|
  noPan (gd false t111 (pureR (nonnil t112) h154) h154) fun t113 h155 =>
  guardR (true && true) <|
  noPan (gd false t111 (pureR (padd 2 t113) h155) h155) fun t114 h156 =>
  guardR (true && true) <|
  noPan (gd false t111 (ldR h156 t114) h156) fun t115 h157 =>
  guardR (true && true) <|
  noPan (pureR (pickV t111 (.bool true) t115) h157) fun t116 h158 =>
  guardR (true && true) <|
  noPan (some (.ret t116 h158)) fun t117 h159 =>
  guardR (true && true) <|
  noPan (gd false t117 (some (.ret t7 h159)) h159) fun t118 h160 =>
  guardR (true && true) <|
  noPan (gd false t117 (pureR (nonnil t118) h160) h160) fun t119 h161 =>
  guardR (true && true) <|
  noPan (gd false t117 (pureR (padd 1 t119) h161) h161) fun t120 h162 =>
  guardR (true && true) <|
  noPan (gd false t117 (ldR h162 t120) h162) fun t121 h163 =>
  guardR (true && true) <|
  noPan (gd false t117 (some (.ret a1 h163)) h163) fun t122 h164 =>
  guardR (true && true) <|
  noPan (gd false t117 (pureR (nonnil t122) h164) h164) fun t123 h165 =>
  guardR (true && true) <|
  noPan (gd false t117 (pureR (padd 3 t123) h165) h165) fun t124 h166 =>
  guardR (true && true) <|
  noPan (gd false t117 (ldR h166 t124) h166) fun t125 h167 =>
  guardR (true && true) <|
  noPan (gd false t117 (pureR (intB .neq t121 t125) h167) h167) fun t126 h168 =>
  guardR (true && true) <|
  noPan (pureR (pickV t117 (.bool true) t126) h168) fun t127 h169 =>
  guardR (true && true) <|
  ifR t127
  (bindR (some (.ret a0 h169)) fun t128 h170 =>
  bindR (some (.ret a1 h170)) fun t129 h171 =>
  bindR (cr 60 [t128, t129] h171) fun t130 h172 =>
  bindR (some (.ret a1 h172)) fun t131 h173 =>
  bindR (pureR (nonnil t131) h173) fun t132 h174 =>
  bindR (pureR (padd 1 t132) h174) fun t133 h175 =>
  bindR (stR h175 t133 (.int .i64 0)) fun _ h176 =>
  bindR (some (.ret (.bool false) h176)) fun t6 h177 =>
  ((some []).bind fun l => bif clean t6 then some (t6 :: l) else none).bind fun l => some (.ret (tup l) h177))
  (f35j2 cr n a0 a1 t5 t8 t9 h169))
  (bindR (pureR (intB .eql t38 (.int .i64 5)) h111) fun t167 h178 =>
  bindR (some (.ret t167 h178)) fun t166 h179 =>
  ifR t166
  (bindR (some (.ret t7 h179)) fun t168 h180 =>
  bindR (some (.ret t8 h180)) fun t169 h181 =>
  bindR (pureR (nonnil t169) h181) fun t170 h182 =>
  bindR (pureR (padd 1 t170) h182) fun t171 h183 =>
  bindR (ldR h183 t171) fun t172 h184 =>
  bindR (pureR (nonnil t168) h184) fun t173 h185 =>
  bindR (pureR (padd 1 t173) h185) fun t174 h186 =>
  bindR (stR h186 t174 t172) fun _ h187 =>
  bindR (some (.ret a0 h187)) fun t175 h188 =>
  bindR (some (.ret a1 h188)) fun t176 h189 =>
  bindR (cr 60 [t175, t176] h189) fun t177 h190 =>
  bindR (some (.ret (.bool true) h190)) fun t6 h191 =>
  ((some []).bind fun l => bif clean t6 then some (t6 :: l) else none).bind fun l => some (.ret (tup l) h191))
  (f35j1 cr n h179))))))
theorem eq35 (cr : FuncId → List Value → Heap → Res) (n : Nat) (a0 a1 a2 : Value) (h : Heap) : runR Try.prog cfg cr n 35 [a0, a1, a2] h = f35 cr n a0 a1 a2 h := by kernel_rfl
-- (*hedgewright/hedgref.Bench).marks
def f36j1 (cr : FuncId → List Value → Heap → Res) (n : Nat) (h : Heap) : Res :=
  bindR (some (.ret (.bool false) h)) fun t6 h21 =>
  ((some []).bind fun l => bif clean t6 then some (t6 :: l) else none).bind fun l => some (.ret (tup l) h21)
def f36j2 (cr : FuncId → List Value → Heap → Res) (n : Nat) (h : Heap) : Res :=
  bindR (some (.ret (.bool true) h)) fun t6 h215 =>
  ((some []).bind fun l => bif clean t6 then some (t6 :: l) else none).bind fun l => some (.ret (tup l) h215)
def f36 (cr : FuncId → List Value → Heap → Res) (n : Nat) (a0 a1 a2 : Value) (h : Heap) : Res :=
  bindR (boxR 2 h a2) fun t5 h1 =>
  bindR (some (.ret (.bool false) h1)) fun t6 h2 =>
  noPan (some (.ret a0 h2)) fun t9 h3 =>
  guardR (true && true) <|
  noPan (pureR (nonnil t9) h3) fun t10 h4 =>
  guardR (true && true) <|
  noPan (pureR (padd 1 t10) h4) fun t11 h5 =>
  guardR (true && true) <|
  noPan (ldR h5 t11) fun t12 h6 =>
  guardR (true && true) <|
  noPan (some (.ret a1 h6)) fun t13 h7 =>
  guardR (true && true) <|
  noPan (pureR (nonnil t13) h7) fun t14 h8 =>
  guardR (true && true) <|
  noPan (pureR (padd 3 t14) h8) fun t15 h9 =>
  guardR (true && true) <|
  noPan (ldR h9 t15) fun t16 h10 =>
  guardR (true && true) <|
  noPan (pureR (idxS 4 t12 t16) h10) fun t17 h11 =>
  guardR (true && true) <|
  noPan (some (.ret t17 h11)) fun t7 h12 =>
  guardR (true && true) <|
  noPan (some (.ret t7 h12)) fun t18 h13 =>
  guardR (true && true) <|
  noPan (pureR (nonnil t18) h13) fun t19 h14 =>
  guardR (true && true) <|
  noPan (pureR (padd 0 t19) h14) fun t20 h15 =>
  guardR (true && true) <|
  noPan (ldR h15 t20) fun t21 h16 =>
  guardR (true && true) <|
  noPan (pureR (padd 1 t5) h16) fun t22 h17 =>
  guardR (true && true) <|
  noPan (ldR h17 t22) fun t23 h18 =>
  guardR (true && true) <|
  noPan (pureR (intB .eql t21 t23) h18) fun t24 h19 =>
  guardR (true && true) <|
  noPan (some (.ret t24 h19)) fun t8 h20 =>
  guardR (true && true) <|
  bindR (some (.ret a1 h20)) fun t25 h22 =>
  bindR (pureR (nonnil t25) h22) fun t26 h23 =>
  bindR (pureR (padd 1 t26) h23) fun t27 h24 =>
  bindR (ldR h24 t27) fun t28 h25 =>
  bindR (pureR (intB .eql t28 (.int .i64 0)) h25) fun t30 h26 =>
  bindR (some (.ret t30 h26)) fun t29 h27 =>
  ifR t29
  (bindR (some (.ret a0 h27)) fun t31 h28 =>
  bindR (some (.ret a1 h28)) fun t32 h29 =>
  bindR (cr 58 [t31, t32] h29) fun t33 h30 =>
  f36j1 cr n h30)
  (bindR (pureR (intB .eql t28 (.int .i64 1)) h27) fun t35 h31 =>
  bindR (some (.ret t35 h31)) fun t34 h32 =>
  ifR t34
  (bindR (some (.ret t7 h32)) fun t40 h33 =>
  bindR (pureR (nonnil t40) h33) fun t41 h34 =>
  bindR (pureR (padd 2 t41) h34) fun t42 h35 =>
  bindR (ldR h35 t42) fun t43 h36 =>
  bindR (some (.ret t43 h36)) fun t44 h37 =>
  bindR (gd true t44 (pureR (padd 0 t5) h37) h37) fun t45 h38 =>
  bindR (gd true t44 (ldR h38 t45) h38) fun t46 h39 =>
  bindR (gd true t44 (pureR (intB .neq t46 (.int .i64 3)) h39) h39) fun t47 h40 =>
  bindR (pureR (pickV t44 t47 (.bool false)) h40) fun t48 h41 =>
  bindR (some (.ret t48 h41)) fun t39 h42 =>
  ifR t39
  (bindR (some (.ret a0 h42)) fun t49 h43 =>
  bindR (some (.ret a1 h43)) fun t50 h44 =>
  bindR (cr 62 [t49, t50] h44) fun t51 h45 =>
  bindR (pureR (unV .not t51) h45) fun t52 h46 =>
  ifR t52
  (bindR (some (.ret a1 h46)) fun t53 h47 =>
  bindR (pureR (nonnil t53) h47) fun t54 h48 =>
  bindR (pureR (padd 1 t54) h48) fun t55 h49 =>
  bindR (stR h49 t55 (.int .i64 0)) fun _ h50 =>
  f36j1 cr n h50)
  (noPan (some (.ret a0 h46)) fun t56 h51 =>
  guardR (true && true) <|
  noPan (pureR (nonnil t56) h51) fun t57 h52 =>
  guardR (true && true) <|
  noPan (pureR (padd 1 t57) h52) fun t58 h53 =>
  guardR (true && true) <|
  noPan (ldR h53 t58) fun t59 h54 =>
  guardR (true && true) <|
  noPan (some (.ret a1 h54)) fun t60 h55 =>
  guardR (true && true) <|
  noPan (pureR (nonnil t60) h55) fun t61 h56 =>
  guardR (true && true) <|
  noPan (pureR (padd 2 t61) h56) fun t62 h57 =>
  guardR (true && true) <|
  noPan (ldR h57 t62) fun t63 h58 =>
  guardR (true && true) <|
  noPan (some (.ret t7 h58)) fun t64 h59 =>
  guardR (true && true) <|
  noPan (pureR (nonnil t64) h59) fun t65 h60 =>
  guardR (true && true) <|
  noPan (pureR (padd 1 t65) h60) fun t66 h61 =>
  guardR (true && true) <|
  noPan (ldR h61 t66) fun t67 h62 =>
  guardR (true && true) <|
  noPan (pureR (idxS 4 t59 t63) h62) fun t68 h63 =>
  guardR (true && true) <|
  noPan (pureR (padd 1 t68) h63) fun t69 h64 =>
  guardR (true && true) <|
  noPan (stR h64 t69 t67) fun _ h65 =>
  guardR (true && true) <|
  bindR (some (.ret a1 h65)) fun t70 h66 =>
  bindR (some (.ret t7 h66)) fun t71 h67 =>
  bindR (pureR (nonnil t71) h67) fun t72 h68 =>
  bindR (pureR (padd 1 t72) h68) fun t73 h69 =>
  bindR (ldR h69 t73) fun t74 h70 =>
  bindR (pureR (nonnil t70) h70) fun t75 h71 =>
  bindR (pureR (padd 3 t75) h71) fun t76 h72 =>
  bindR (stR h72 t76 t74) fun _ h73 =>
  f36j1 cr n h73))
  (noPan (some (.ret t7 h42)) fun t78 h74 =>
  guardR (true && true) <|
  noPan (pureR (nonnil t78) h74) fun t79 h75 =>
  guardR (true && true) <|
  noPan (pureR (padd 0 t79) h75) fun t80 h76 =>
  guardR (true && true) <|
  noPan (ldR h76 t80) fun t81 h77 =>
  guardR (true && true) <|
  noPan (pureR (padd 1 t5) h77) fun t82 h78 =>
  guardR (true && true) <|
  noPan (ldR h78 t82) fun t83 h79 =>
  guardR (true && true) <|
  noPan (pureR (intB .lss t81 t83) h79) fun t84 h80 =>
  guardR (true && true) <|
  noPan (some (.ret t84 h80)) fun t77 h81 =>
  guardR (true && true) <|
  ifR t77
  (bindR (some (.ret a0 h81)) fun t85 h82 =>
  bindR (some (.ret a1 h82)) fun t86 h83 =>
  bindR (cr 59 [t85, t86] h83) fun t87 h84 =>
  f36j1 cr n h84)
  (bindR (pureR (padd 0 t5) h81) fun t89 h85 =>
  bindR (ldR h85 t89) fun t90 h86 =>
  bindR (pureR (intB .eql t90 (.int .i64 3)) h86) fun t91 h87 =>
  bindR (some (.ret t91 h87)) fun t88 h88 =>
  ifR t88
  (bindR (some (.ret a1 h88)) fun t92 h89 =>
  bindR (some (.ret t8 h89)) fun t93 h90 =>
  bindR (some (.ret t93 h90)) fun t94 h91 =>
  bindR (gd true t94 (some (.ret t7 h91)) h91) fun t95 h92 =>
  bindR (gd true t94 (pureR (nonnil t95) h92) h92) fun t96 h93 =>
  bindR (gd true t94 (pureR (padd 2 t96) h93) h93) fun t97 h94 =>
  bindR (gd true t94 (ldR h94 t97) h94) fun t98 h95 =>
  bindR (gd true t94 (pureR (unV .not t98) h95) h95) fun t99 h96 =>
  bindR (pureR (pickV t94 t99 (.bool false)) h96) fun t100 h97 =>
  bindR (pureR (nonnil t92) h97) fun t101 h98 =>
  bindR (pureR (padd 4 t101) h98) fun t102 h99 =>
  bindR (stR h99 t102 t100) fun _ h100 =>
  bindR (some (.ret (.bool true) h100)) fun t6 h101 =>
  ((some []).bind fun l => bif clean t6 then some (t6 :: l) else none).bind fun l => some (.ret (tup l) h101))
  (bindR (pureR (padd 0 t5) h88) fun t104 h102 =>
  bindR (ldR h102 t104) fun t105 h103 =>
  bindR (pureR (intB .eql t105 (.int .i64 1)) h103) fun t106 h104 =>
  bindR (some (.ret t106 h104)) fun t107 h105 =>
  bindR (gd true t107 (some (.ret t8 h105)) h105) fun t108 h106 =>
  bindR (pureR (pickV t107 t108 (.bool false)) h106) fun t109 h107 =>
  bindR (some (.ret t109 h107)) fun t110 h108 =>
  bindR (gd false t110 (pureR (padd 0 t5) h108) h108) fun t111 h109 =>
  bindR (gd false t110 (ldR h109 t111) h109) fun t112 h110 =>
  bindR (gd false t110 (pureR (intB .eql t112 (.int .i64 2)) h110) h110) fun t113 h111 =>
  bindR (gd false t110 (some (.ret t113 h111)) h111) fun t114 h112 =>
  bindR (gd true t114 (some (.ret t8 h112)) h112) fun t115 h113 =>
  bindR (gd true t114 (pureR (unV .not t115) h113) h113) fun t116 h114 =>
  bindR (gd false t110 (pureR (pickV t114 t116 (.bool false)) h114) h114) fun t117 h115 =>
  bindR (pureR (pickV t110 (.bool true) t117) h115) fun t118 h116 =>
  bindR (some (.ret t118 h116)) fun t103 h117 =>
  ifR t103
  (bindR (some (.ret a1 h117)) fun t119 h118 =>
  bindR (pureR (nonnil t119) h118) fun t120 h119 =>
  bindR (pureR (padd 4 t120) h119) fun t121 h120 =>
  bindR (stR h120 t121 (.bool false)) fun _ h121 =>
  bindR (some (.ret (.bool true) h121)) fun t6 h122 =>
  ((some []).bind fun l => bif clean t6 then some (t6 :: l) else none).bind fun l => some (.ret (tup l) h122))
  (bindR (some (.ret a1 h117)) fun t36 h123 =>
  bindR (pureR (nonnil t36) h123) fun t37 h124 =>
  bindR (pureR (padd 1 t37) h124) fun t38 h125 =>
  bindR (stR h125 t38 (.int .i64 2)) fun _ h126 =>
  f36j1 cr n h126)))))
  (bindR (pureR (intB .eql t28 (.int .i64 2)) h32) fun t123 h127 =>
  bindR (some (.ret t123 h127)) fun t122 h128 =>
  ifR t122
  (bindR (pureR (padd 0 t5) h128) fun t128 h129 =>
  bindR (ldR h129 t128) fun t129 h130 =>
  bindR (pureR (intB .eql t129 (.int .i64 1)) h130) fun t130 h131 =>
  bindR (some (.ret t130 h131)) fun t131 h132 =>
  bindR (gd true t131 (some (.ret a0 h132)) h132) fun t132 h133 =>
  bindR (gd true t131 (pureR (nonnil t132) h133) h133) fun t133 h134 =>
  bindR (gd true t131 (pureR (padd 0 t133) h134) h134) fun t134 h135 =>
  bindR (gd true t131 (ldR h135 t134) h135) fun t135 h136 =>
  bindR (gd true t131 (pureR (intB .eql t135 (.int .i64 4)) h136) h136) fun t136 h137 =>
  bindR (gd true t131 (some (.ret t136 h137)) h137) fun t137 h138 =>
  bindR (gd false t137 (some (.ret a0 h138)) h138) fun t138 h139 =>
  bindR (gd false t137 (some (.ret a1 h139)) h139) fun t139 h140 =>
  bindR (gd false t137 (cr 62 [t138, t139] h140) h140) fun t140 h141 =>
  bindR (gd true t131 (pureR (pickV t137 (.bool true) t140) h141) h141) fun t141 h142 =>
  bindR (pureR (pickV t131 t141 (.bool false)) h142) fun t142 h143 =>
  bindR (some (.ret t142 h143)) fun t127 h144 =>
  ifR t127
  (bindR (some (.ret a0 h144)) fun t143 h145 =>
  bindR (some (.ret a1 h145)) fun t144 h146 =>
  bindR (pureR (padd 1 t5) h146) fun t145 h147 =>
  bindR (ldR h147 t145) fun t146 h148 =>
  bindR (cr 61 [t143, t144, t146] h148) fun t147 h149 =>
  bindR (some (.ret a1 h149)) fun t148 h150 =>
  bindR (pureR (nonnil t148) h150) fun t149 h151 =>
  bindR (pureR (padd 4 t149) h151) fun t150 h152 =>
  bindR (stR h152 t150 (.bool true)) fun _ h153 =>
  bindR (some (.ret (.bool true) h153)) fun t6 h154 =>
  ((some []).bind fun l => bif clean t6 then some (t6 :: l) else none).bind fun l => some (.ret (tup l) h154))
  (bindR (pureR (padd 0 t5) h144) fun t152 h155 =>
  bindR (ldR h155 t152) fun t153 h156 =>
  bindR (pureR (intB .eql t153 (.int .i64 2)) h156) fun t154 h157 =>
  bindR (some (.ret t154 h157)) fun t155 h158 =>
  bindR (gd true t155 (some (.ret a0 h158)) h158) fun t156 h159 =>
  bindR (gd true t155 (pureR (nonnil t156) h159) h159) fun t157 h160 =>
  bindR (gd true t155 (pureR (padd 0 t157) h160) h160) fun t158 h161 =>
  bindR (gd true t155 (ldR h161 t158) h161) fun t159 h162 =>
  bindR (gd true t155 (pureR (intB .eql t159 (.int .i64 4)) h162) h162) fun t160 h163 =>
  bindR (pureR (pickV t155 t160 (.bool false)) h163) fun t161 h164 =>
  bindR (some (.ret t161 h164)) fun t151 h165 =>
  ifR t151
  (noPan (some (.ret a0 h165)) fun t162 h166 =>
  guardR (true && true) <|
  noPan (pureR (nonnil t162) h166) fun t163 h167 =>
  guardR (true && true) <|
  noPan (pureR (padd 1 t163) h167) fun t164 h168 =>
  guardR (true && true) <|
  noPan (ldR h168 t164) fun t165 h169 =>
  guardR (true && true) <|
  noPan (some (.ret a1 h169)) fun t166 h170 =>
  guardR (true && true) <|
  noPan (pureR (nonnil t166) h170) fun t167 h171 =>
  guardR (true && true) <|
  noPan (pureR (padd 2 t167) h171) fun t168 h172 =>
  guardR (true && true) <|
  noPan (ldR h172 t168) fun t169 h173 =>
  guardR (true && true) <|
  noPan (some (.ret t7 h173)) fun t170 h174 =>
  guardR (true && true) <|
  noPan (pureR (nonnil t170) h174) fun t171 h175 =>
  guardR (true && true) <|
  noPan (pureR (padd 1 t171) h175) fun t172 h176 =>
  guardR (true && true) <|
  noPan (ldR h176 t172) fun t173 h177 =>
  guardR (true && true) <|
  noPan (pureR (idxS 4 t165 t169) h177) fun t174 h178 =>
  guardR (true && true) <|
  noPan (pureR (padd 1 t174) h178) fun t175 h179 =>
  guardR (true && true) <|
  noPan (stR h179 t175 t173) fun _ h180 =>
  guardR (true && true) <|
  bindR (some (.ret a1 h180)) fun t176 h181 =>
  bindR (pureR (nonnil t176) h181) fun t177 h182 =>
  bindR (pureR (padd 4 t177) h182) fun t178 h183 =>
  bindR (stR h183 t178 (.bool true)) fun _ h184 =>
  bindR (some (.ret (.bool true) h184)) fun t6 h185 =>
  ((some []).bind fun l => bif clean t6 then some (t6 :: l) else none).bind fun l => some (.ret (tup l) h185))
  (bindR (pureR (padd 0 t5) h165) fun t180 h186 =>
  bindR (ldR h186 t180) fun t181 h187 =>
  bindR (pureR (intB .eql t181 (.int .i64 2)) h187) fun t182 h188 =>
  bindR (some (.ret t182 h188)) fun t183 h189 =>
  bindR (gd true t183 (some (.ret t7 h189)) h189) fun t184 h190 =>
  bindR (gd true t183 (pureR (nonnil t184) h190) h190) fun t185 h191 =>
  bindR (gd true t183 (pureR (padd 2 t185) h191) h191) fun t186 h192 =>
  bindR (gd true t183 (ldR h192 t186) h192) fun t187 h193 =>
  bindR (gd true t183 (pureR (unV .not t187) h193) h193) fun t188 h194 =>
  bindR (pureR (pickV t183 t188 (.bool false)) h194) fun t189 h195 =>
  bindR (some (.ret t189 h195)) fun t179 h196 =>
  ifR t179
  (bindR (some (.ret t7 h196)) fun t190 h197 =>
  bindR (some (.ret a1 h197)) fun t191 h198 =>
  bindR (some (.ret a1 h198)) fun t192 h199 =>
  bindR (pureR (nonnil t190) h199) fun t193 h200 =>
  bindR (pureR (padd 2 t193) h200) fun t194 h201 =>
  bindR (stR h201 t194 (.bool true)) fun _ h202 =>
  bindR (pureR (nonnil t191) h202) fun t195 h203 =>
  bindR (pureR (padd 4 t195) h203) fun t196 h204 =>
  bindR (stR h204 t196 (.bool true)) fun _ h205 =>
  bindR (pureR (nonnil t192) h205) fun t197 h206 =>
  bindR (pureR (padd 1 t197) h206) fun t198 h207 =>
  bindR (stR h207 t198 (.int .i64 3)) fun _ h208 =>
  f36j1 cr n h208)
  (bindR (some (.ret a1 h196)) fun t124 h209 =>
  bindR (pureR (nonnil t124) h209) fun t125 h210 =>
  bindR (pureR (padd 1 t125) h210) fun t126 h211 =>
  bindR (stR h211 t126 (.int .i64 0)) fun _ h212 =>
  f36j1 cr n h212))))
  (bindR (pureR (intB .eql t28 (.int .i64 3)) h128) fun t200 h213 =>
  bindR (some (.ret t200 h213)) fun t199 h214 =>
  ifR t199
  (bindR (some (.ret a0 h214)) fun t201 h216 =>
  bindR (some (.ret a1 h216)) fun t202 h217 =>
  bindR (cr 62 [t201, t202] h217) fun t203 h218 =>
  ifR t203
  (noPan (some (.ret a0 h218)) fun t204 h219 =>
  guardR (true && true) <|
  noPan (pureR (nonnil t204) h219) fun t205 h220 =>
  guardR (true && true) <|
  noPan (pureR (padd 1 t205) h220) fun t206 h221 =>
  guardR (true && true) <|
  noPan (ldR h221 t206) fun t207 h222 =>
  guardR (true && true) <|
  noPan (some (.ret a1 h222)) fun t208 h223 =>
  guardR (true && true) <|
  noPan (pureR (nonnil t208) h223) fun t209 h224 =>
  guardR (true && true) <|
  noPan (pureR (padd 2 t209) h224) fun t210 h225 =>
  guardR (true && true) <|
  noPan (ldR h225 t210) fun t211 h226 =>
  guardR (true && true) <|
  noPan (some (.ret t7 h226)) fun t212 h227 =>
  guardR (true && true) <|
  noPan (pureR (nonnil t212) h227) fun t213 h228 =>
  guardR (true && true) <|
  noPan (pureR (padd 1 t213) h228) fun t214 h229 =>
  guardR (true && true) <|
  noPan (ldR h229 t214) fun t215 h230 =>
  guardR (true && true) <|
  noPan (pureR (idxS 4 t207 t211) h230) fun t216 h231 =>
  guardR (true && true) <|
  noPan (pureR (padd 1 t216) h231) fun t217 h232 =>
  guardR (true && true) <|
  noPan (stR h232 t217 t215) fun _ h233 =>
  guardR (true && true) <|
  f36j2 cr n h233)
  (f36j2 cr n h218))
  (f36j1 cr n h214))))
theorem eq36 (cr : FuncId → List Value → Heap → Res) (n : Nat) (a0 a1 a2 : Value) (h : Heap) : runR Try.prog cfg cr n 36 [a0, a1, a2] h = f36 cr n a0 a1 a2 h := by kernel_rfl
-- (*hedgewright/hedgref.Bench).again
def f58 (cr : FuncId → List Value → Heap → Res) (n : Nat) (a0 a1 : Value) (h : Heap) : Res :=
  bindR (some (.ret a1 h)) fun t4 h1 =>
  bindR (some (.ret a1 h1)) fun t5 h2 =>
  bindR (some (.ret a1 h2)) fun t6 h3 =>
  bindR (some (.ret a0 h3)) fun t7 h4 =>
  bindR (pureR (nonnil t7) h4) fun t8 h5 =>
  bindR (pureR (padd 1 t8) h5) fun t9 h6 =>
  bindR (ldR h6 t9) fun t10 h7 =>
  bindR (pureR (idxS 4 t10 (.int .i64 0)) h7) fun t11 h8 =>
  bindR (pureR (padd 1 t11) h8) fun t12 h9 =>
  bindR (ldR h9 t12) fun t13 h10 =>
  bindR (pureR (nonnil t4) h10) fun t14 h11 =>
  bindR (pureR (padd 2 t14) h11) fun t15 h12 =>
  bindR (stR h12 t15 (.int .i64 0)) fun _ h13 =>
  bindR (pureR (nonnil t5) h13) fun t16 h14 =>
  bindR (pureR (padd 3 t16) h14) fun t17 h15 =>
  bindR (stR h15 t17 t13) fun _ h16 =>
  bindR (pureR (nonnil t6) h16) fun t18 h17 =>
  bindR (pureR (padd 1 t18) h17) fun t19 h18 =>
  bindR (stR h18 t19 (.int .i64 1)) fun _ h19 =>
  (some []).bind fun l => some (.ret (tup l) h19)
theorem eq58 (cr : FuncId → List Value → Heap → Res) (n : Nat) (a0 a1 : Value) (h : Heap) : runR Try.prog cfg cr n 58 [a0, a1] h = f58 cr n a0 a1 h := by kernel_rfl
-- (*hedgewright/hedgref.Bench).on
def f59 (cr : FuncId → List Value → Heap → Res) (n : Nat) (a0 a1 : Value) (h : Heap) : Res :=
  noPan (some (.ret a1 h)) fun t4 h1 =>
  guardR (true && true) <|
  noPan (some (.ret a1 h1)) fun t5 h2 =>
  guardR (true && true) <|
  noPan (some (.ret a1 h2)) fun t6 h3 =>
  guardR (true && true) <|
  noPan (pureR (nonnil t6) h3) fun t7 h4 =>
  guardR (true && true) <|
  noPan (pureR (padd 3 t7) h4) fun t8 h5 =>
  guardR (true && true) <|
  noPan (ldR h5 t8) fun t9 h6 =>
  guardR (true && true) <|
  noPan (some (.ret a0 h6)) fun t10 h7 =>
  guardR (true && true) <|
  noPan (pureR (nonnil t10) h7) fun t11 h8 =>
  guardR (true && true) <|
  noPan (pureR (padd 1 t11) h8) fun t12 h9 =>
  guardR (true && true) <|
  noPan (ldR h9 t12) fun t13 h10 =>
  guardR (true && true) <|
  noPan (some (.ret a1 h10)) fun t14 h11 =>
  guardR (true && true) <|
  noPan (pureR (nonnil t14) h11) fun t15 h12 =>
  guardR (true && true) <|
  noPan (pureR (padd 3 t15) h12) fun t16 h13 =>
  guardR (true && true) <|
  noPan (ldR h13 t16) fun t17 h14 =>
  guardR (true && true) <|
  noPan (pureR (idxS 4 t13 t17) h14) fun t18 h15 =>
  guardR (true && true) <|
  noPan (pureR (padd 1 t18) h15) fun t19 h16 =>
  guardR (true && true) <|
  noPan (ldR h16 t19) fun t20 h17 =>
  guardR (true && true) <|
  noPan (pureR (nonnil t4) h17) fun t21 h18 =>
  guardR (true && true) <|
  noPan (pureR (padd 2 t21) h18) fun t22 h19 =>
  guardR (true && true) <|
  noPan (stR h19 t22 t9) fun _ h20 =>
  guardR (true && true) <|
  noPan (pureR (nonnil t5) h20) fun t23 h21 =>
  guardR (true && true) <|
  noPan (pureR (padd 3 t23) h21) fun t24 h22 =>
  guardR (true && true) <|
  noPan (stR h22 t24 t20) fun _ h23 =>
  guardR (true && true) <|
  (some []).bind fun l => some (.ret (tup l) h23)
theorem eq59 (cr : FuncId → List Value → Heap → Res) (n : Nat) (a0 a1 : Value) (h : Heap) : runR Try.prog cfg cr n 59 [a0, a1] h = f59 cr n a0 a1 h := by kernel_rfl
-- (*hedgewright/hedgref.Bench).free
def f60 (cr : FuncId → List Value → Heap → Res) (n : Nat) (a0 a1 : Value) (h : Heap) : Res :=
  noPan (some (.ret a0 h)) fun t4 h1 =>
  guardR (true && true) <|
  noPan (pureR (nonnil t4) h1) fun t5 h2 =>
  guardR (true && true) <|
  noPan (pureR (padd 1 t5) h2) fun t6 h3 =>
  guardR (true && true) <|
  noPan (ldR h3 t6) fun t7 h4 =>
  guardR (true && true) <|
  noPan (some (.ret a1 h4)) fun t8 h5 =>
  guardR (true && true) <|
  noPan (pureR (nonnil t8) h5) fun t9 h6 =>
  guardR (true && true) <|
  noPan (pureR (padd 2 t9) h6) fun t10 h7 =>
  guardR (true && true) <|
  noPan (ldR h7 t10) fun t11 h8 =>
  guardR (true && true) <|
  noPan (some (.ret a0 h8)) fun t12 h9 =>
  guardR (true && true) <|
  noPan (pureR (nonnil t12) h9) fun t13 h10 =>
  guardR (true && true) <|
  noPan (pureR (padd 1 t13) h10) fun t14 h11 =>
  guardR (true && true) <|
  noPan (ldR h11 t14) fun t15 h12 =>
  guardR (true && true) <|
  noPan (some (.ret a1 h12)) fun t16 h13 =>
  guardR (true && true) <|
  noPan (pureR (nonnil t16) h13) fun t17 h14 =>
  guardR (true && true) <|
  noPan (pureR (padd 3 t17) h14) fun t18 h15 =>
  guardR (true && true) <|
  noPan (ldR h15 t18) fun t19 h16 =>
  guardR (true && true) <|
  noPan (pureR (idxS 4 t7 t11) h16) fun t20 h17 =>
  guardR (true && true) <|
  noPan (pureR (padd 3 t20) h17) fun t21 h18 =>
  guardR (true && true) <|
  noPan (stR h18 t21 (.bool false)) fun _ h19 =>
  guardR (true && true) <|
  noPan (pureR (idxS 4 t15 t19) h19) fun t22 h20 =>
  guardR (true && true) <|
  noPan (pureR (padd 3 t22) h20) fun t23 h21 =>
  guardR (true && true) <|
  noPan (stR h21 t23 (.bool false)) fun _ h22 =>
  guardR (true && true) <|
  (some []).bind fun l => some (.ret (tup l) h22)
theorem eq60 (cr : FuncId → List Value → Heap → Res) (n : Nat) (a0 a1 : Value) (h : Heap) : runR Try.prog cfg cr n 60 [a0, a1] h = f60 cr n a0 a1 h := by kernel_rfl
-- (*hedgewright/hedgref.Bench).insert
def f61 (cr : FuncId → List Value → Heap → Res) (n : Nat) (a0 a1 a2 : Value) (h : Heap) : Res :=
  noPan (some (.ret a0 h)) fun t6 h1 =>
  guardR (true && true) <|
  noPan (some (.ret a0 h1)) fun t7 h2 =>
  guardR (true && true) <|
  noPan (pureR (nonnil t7) h2) fun t8 h3 =>
  guardR (true && true) <|
  noPan (pureR (padd 1 t8) h3) fun t9 h4 =>
  guardR (true && true) <|
  noPan (ldR h4 t9) fun t10 h5 =>
  guardR (true && true) <|
  noPan (some (.ret a2 h5)) fun t11 h6 =>
  guardR (true && true) <|
  noPan (some (.ret a1 h6)) fun t12 h7 =>
  guardR (true && true) <|
  noPan (pureR (nonnil t12) h7) fun t13 h8 =>
  guardR (true && true) <|
  noPan (pureR (padd 3 t13) h8) fun t14 h9 =>
  guardR (true && true) <|
  noPan (ldR h9 t14) fun t15 h10 =>
  guardR (true && true) <|
  noPan (pureR ((fillL [(.int .i64 0), (.int .i64 0), (.bool false), (.bool false)] [(0, 1, t11), (1, 1, t15)]).map fun c => .agg c.toArray) h10) fun t16 h11 =>
  guardR (true && true) <|
  noPan (buildSliceR 1 [(.int .i64 0), (.int .i64 0), (.bool false), (.bool false)] h11 [(0, 4, t16)]) fun t17 h12 =>
  guardR (true && true) <|
  noPan (appR 4 24 h12 t10 t17) fun t18 h13 =>
  guardR (true && true) <|
  noPan (pureR (nonnil t6) h13) fun t19 h14 =>
  guardR (true && true) <|
  noPan (pureR (padd 1 t19) h14) fun t20 h15 =>
  guardR (true && true) <|
  noPan (stR h15 t20 t18) fun _ h16 =>
  guardR (true && true) <|
  noPan (some (.ret a0 h16)) fun t21 h17 =>
  guardR (true && true) <|
  noPan (pureR (nonnil t21) h17) fun t22 h18 =>
  guardR (true && true) <|
  noPan (pureR (padd 1 t22) h18) fun t23 h19 =>
  guardR (true && true) <|
  noPan (ldR h19 t23) fun t24 h20 =>
  guardR (true && true) <|
  noPan (some (.ret a1 h20)) fun t25 h21 =>
  guardR (true && true) <|
  noPan (pureR (nonnil t25) h21) fun t26 h22 =>
  guardR (true && true) <|
  noPan (pureR (padd 2 t26) h22) fun t27 h23 =>
  guardR (true && true) <|
  noPan (ldR h23 t27) fun t28 h24 =>
  guardR (true && true) <|
  noPan (some (.ret a0 h24)) fun t29 h25 =>
  guardR (true && true) <|
  noPan (pureR (nonnil t29) h25) fun t30 h26 =>
  guardR (true && true) <|
  noPan (pureR (padd 1 t30) h26) fun t31 h27 =>
  guardR (true && true) <|
  noPan (ldR h27 t31) fun t32 h28 =>
  guardR (true && true) <|
  noPan (lenRS h28 t32) fun t33 h29 =>
  guardR (true && true) <|
  noPan (pureR (intB .sub t33 (.int .i64 1)) h29) fun t34 h30 =>
  guardR (true && true) <|
  noPan (pureR (idxS 4 t24 t28) h30) fun t35 h31 =>
  guardR (true && true) <|
  noPan (pureR (padd 1 t35) h31) fun t36 h32 =>
  guardR (true && true) <|
  noPan (stR h32 t36 t34) fun _ h33 =>
  guardR (true && true) <|
  (some []).bind fun l => some (.ret (tup l) h33)
theorem eq61 (cr : FuncId → List Value → Heap → Res) (n : Nat) (a0 a1 a2 : Value) (h : Heap) : runR Try.prog cfg cr n 61 [a0, a1, a2] h = f61 cr n a0 a1 a2 h := by kernel_rfl
-- (*hedgewright/hedgref.Bench).clean
def f62 (cr : FuncId → List Value → Heap → Res) (n : Nat) (a0 a1 : Value) (h : Heap) : Res :=
  bindR (some (.ret (.bool false) h)) fun t4 h1 =>
  noPan (some (.ret a0 h1)) fun t5 h2 =>
  guardR (true && true) <|
  noPan (pureR (nonnil t5) h2) fun t6 h3 =>
  guardR (true && true) <|
  noPan (pureR (padd 1 t6) h3) fun t7 h4 =>
  guardR (true && true) <|
  noPan (ldR h4 t7) fun t8 h5 =>
  guardR (true && true) <|
  noPan (some (.ret a1 h5)) fun t9 h6 =>
  guardR (true && true) <|
  noPan (pureR (nonnil t9) h6) fun t10 h7 =>
  guardR (true && true) <|
  noPan (pureR (padd 2 t10) h7) fun t11 h8 =>
  guardR (true && true) <|
  noPan (ldR h8 t11) fun t12 h9 =>
  guardR (true && true) <|
  noPan (pureR (idxS 4 t8 t12) h9) fun t13 h10 =>
  guardR (true && true) <|
  noPan (pureR (padd 2 t13) h10) fun t14 h11 =>
  guardR (true && true) <|
  noPan (ldR h11 t14) fun t15 h12 =>
  guardR (true && true) <|
  noPan (pureR (unV .not t15) h12) fun t16 h13 =>
  guardR (true && true) <|
  noPan (some (.ret t16 h13)) fun t17 h14 =>
  guardR (true && true) <|
  noPan (gd true t17 (some (.ret a0 h14)) h14) fun t18 h15 =>
  guardR (true && true) <|
  noPan (gd true t17 (pureR (nonnil t18) h15) h15) fun t19 h16 =>
  guardR (true && true) <|
  noPan (gd true t17 (pureR (padd 1 t19) h16) h16) fun t20 h17 =>
  guardR (true && true) <|
  noPan (gd true t17 (ldR h17 t20) h17) fun t21 h18 =>
  guardR (true && true) <|
  noPan (gd true t17 (some (.ret a1 h18)) h18) fun t22 h19 =>
  guardR (true && true) <|
  noPan (gd true t17 (pureR (nonnil t22) h19) h19) fun t23 h20 =>
  guardR (true && true) <|
  noPan (gd true t17 (pureR (padd 2 t23) h20) h20) fun t24 h21 =>
  guardR (true && true) <|
  noPan (gd true t17 (ldR h21 t24) h21) fun t25 h22 =>
  guardR (true && true) <|
  noPan (gd true t17 (pureR (idxS 4 t21 t25) h22) h22) fun t26 h23 =>
  guardR (true && true) <|
  noPan (gd true t17 (pureR (padd 1 t26) h23) h23) fun t27 h24 =>
  guardR (true && true) <|
  noPan (gd true t17 (ldR h24 t27) h24) fun t28 h25 =>
  guardR (true && true) <|
  noPan (gd true t17 (some (.ret a1 h25)) h25) fun t29 h26 =>
  guardR (true && true) <|
  noPan (gd true t17 (pureR (nonnil t29) h26) h26) fun t30 h27 =>
  guardR (true && true) <|
  noPan (gd true t17 (pureR (padd 3 t30) h27) h27) fun t31 h28 =>
  guardR (true && true) <|
  noPan (gd true t17 (ldR h28 t31) h28) fun t32 h29 =>
  guardR (true && true) <|
  noPan (gd true t17 (pureR (intB .eql t28 t32) h29) h29) fun t33 h30 =>
  guardR (true && true) <|
  noPan (pureR (pickV t17 t33 (.bool false)) h30) fun t34 h31 =>
  guardR (true && true) <|
  noPan (some (.ret t34 h31)) fun t4 h32 =>
  guardR (true && true) <|
  ((some []).bind fun l => bif clean t4 then some (t4 :: l) else none).bind fun l => some (.ret (tup l) h32)
theorem eq62 (cr : FuncId → List Value → Heap → Res) (n : Nat) (a0 a1 : Value) (h : Heap) : runR Try.prog cfg cr n 62 [a0, a1] h = f62 cr n a0 a1 h := by kernel_rfl
end Go.Proofs.YtejokpfeepbfeaaAm
