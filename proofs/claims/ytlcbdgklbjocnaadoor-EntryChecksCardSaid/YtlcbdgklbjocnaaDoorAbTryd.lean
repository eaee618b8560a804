/- A seat's program in the abstract view: its surroundings and its table of types. -/
import Derived.Test.YtlcbdgklbjocnaaDoorAb20

import Derived.Test.YtlcbdgklbjocnaaDoorProg
set_option linter.unusedVariables false
namespace Go.Ab.Tryd
open Go Go.Ab Go.Proofs
theorem mixed_all : Tryd.prog.follows .mixedOrders = true := by kernel_rfl
/-- The surroundings. -/
noncomputable def env (n0 : Nat) (w0 : World) (gl : Nat → List AV) : Env := envOf Tryd.prog mixed_all n0 w0 gl
variable {n0 : Nat} {w0 : World} {gl : Nat → List AV}
theorem env_P : (env n0 w0 gl).P = Tryd.prog := rfl
theorem env_gl : (env n0 w0 gl).gl = gl := rfl
theorem env_n0 : (env n0 w0 gl).n0 = n0 := rfl
theorem env_w0 : (env n0 w0 gl).w0 = w0 := rfl
theorem env_ty : (env n0 w0 gl).ty = tyOf Tryd.prog := by kernel_rfl
theorem ty2_ : tyOf Tryd.prog 2 = some (TyI.mk (UT.int IntKind.i64) 1 8 [AV.int IntKind.i64 0]) := by kernel_rfl
theorem ty2 : (env n0 w0 gl).ty 2 = some (TyI.mk (UT.int IntKind.i64) 1 8 [AV.int IntKind.i64 0]) := (congrFun env_ty 2).trans ty2_
theorem ty3_ : tyOf Tryd.prog 3 = some (TyI.mk (UT.int IntKind.i64) 1 8 [AV.int IntKind.i64 0]) := by kernel_rfl
theorem ty3 : (env n0 w0 gl).ty 3 = some (TyI.mk (UT.int IntKind.i64) 1 8 [AV.int IntKind.i64 0]) := (congrFun env_ty 3).trans ty3_
theorem ty4_ : tyOf Tryd.prog 4 = some (TyI.mk UT.bool 1 1 [AV.bool false]) := by kernel_rfl
theorem ty4 : (env n0 w0 gl).ty 4 = some (TyI.mk UT.bool 1 1 [AV.bool false]) := (congrFun env_ty 4).trans ty4_
theorem ty5_ : tyOf Tryd.prog 5 = some (TyI.mk (UT.int IntKind.u8) 1 1 [AV.int IntKind.u8 0]) := by kernel_rfl
theorem ty5 : (env n0 w0 gl).ty 5 = some (TyI.mk (UT.int IntKind.u8) 1 1 [AV.int IntKind.u8 0]) := (congrFun env_ty 5).trans ty5_
theorem ty6_ : tyOf Tryd.prog 6 = some (TyI.mk (UT.int IntKind.u8) 1 1 [AV.int IntKind.u8 0]) := by kernel_rfl
theorem ty6 : (env n0 w0 gl).ty 6 = some (TyI.mk (UT.int IntKind.u8) 1 1 [AV.int IntKind.u8 0]) := (congrFun env_ty 6).trans ty6_
theorem ty7_ : tyOf Tryd.prog 7 = some (TyI.mk (UT.struct [(0, 2), (1, 3), (2, 4), (3, 6)]) 4 24 [AV.int IntKind.i64 0, AV.int IntKind.i64 0, AV.bool false, AV.int IntKind.u8 0]) := by kernel_rfl
theorem ty7 : (env n0 w0 gl).ty 7 = some (TyI.mk (UT.struct [(0, 2), (1, 3), (2, 4), (3, 6)]) 4 24 [AV.int IntKind.i64 0, AV.int IntKind.i64 0, AV.bool false, AV.int IntKind.u8 0]) := (congrFun env_ty 7).trans ty7_
theorem ty8_ : tyOf Tryd.prog 8 = some (TyI.mk (UT.struct [(0, 2), (1, 3), (2, 4), (3, 6)]) 4 24 [AV.int IntKind.i64 0, AV.int IntKind.i64 0, AV.bool false, AV.int IntKind.u8 0]) := by kernel_rfl
theorem ty8 : (env n0 w0 gl).ty 8 = some (TyI.mk (UT.struct [(0, 2), (1, 3), (2, 4), (3, 6)]) 4 24 [AV.int IntKind.i64 0, AV.int IntKind.i64 0, AV.bool false, AV.int IntKind.u8 0]) := (congrFun env_ty 8).trans ty8_
theorem ty9_ : tyOf Tryd.prog 9 = some (TyI.mk UT.str 1 16 [AV.str []]) := by kernel_rfl
theorem ty9 : (env n0 w0 gl).ty 9 = some (TyI.mk UT.str 1 16 [AV.str []]) := (congrFun env_ty 9).trans ty9_
theorem ty10_ : tyOf Tryd.prog 10 = some (TyI.mk UT.str 1 16 [AV.str []]) := by kernel_rfl
theorem ty10 : (env n0 w0 gl).ty 10 = some (TyI.mk UT.str 1 16 [AV.str []]) := (congrFun env_ty 10).trans ty10_
theorem ty11_ : tyOf Tryd.prog 11 = some (TyI.mk UT.str 1 16 [AV.str []]) := by kernel_rfl
theorem ty11 : (env n0 w0 gl).ty 11 = some (TyI.mk UT.str 1 16 [AV.str []]) := (congrFun env_ty 11).trans ty11_
theorem ty12_ : tyOf Tryd.prog 12 = some (TyI.mk (UT.int IntKind.u64) 1 8 [AV.int IntKind.u64 0]) := by kernel_rfl
theorem ty12 : (env n0 w0 gl).ty 12 = some (TyI.mk (UT.int IntKind.u64) 1 8 [AV.int IntKind.u64 0]) := (congrFun env_ty 12).trans ty12_
theorem ty13_ : tyOf Tryd.prog 13 = some (TyI.mk (UT.struct [(0, 9), (1, 12)]) 2 24 [AV.str [], AV.int IntKind.u64 0]) := by kernel_rfl
theorem ty13 : (env n0 w0 gl).ty 13 = some (TyI.mk (UT.struct [(0, 9), (1, 12)]) 2 24 [AV.str [], AV.int IntKind.u64 0]) := (congrFun env_ty 13).trans ty13_
theorem ty14_ : tyOf Tryd.prog 14 = some (TyI.mk (UT.struct [(0, 9), (1, 12)]) 2 24 [AV.str [], AV.int IntKind.u64 0]) := by kernel_rfl
theorem ty14 : (env n0 w0 gl).ty 14 = some (TyI.mk (UT.struct [(0, 9), (1, 12)]) 2 24 [AV.str [], AV.int IntKind.u64 0]) := (congrFun env_ty 14).trans ty14_
theorem ty15_ : tyOf Tryd.prog 15 = some (TyI.mk UT.ptr 1 8 [AV.nilp]) := by kernel_rfl
theorem ty15 : (env n0 w0 gl).ty 15 = some (TyI.mk UT.ptr 1 8 [AV.nilp]) := (congrFun env_ty 15).trans ty15_
theorem ty16_ : tyOf Tryd.prog 16 = some (TyI.mk UT.ptr 1 8 [AV.nilp]) := by kernel_rfl
theorem ty16 : (env n0 w0 gl).ty 16 = some (TyI.mk UT.ptr 1 8 [AV.nilp]) := (congrFun env_ty 16).trans ty16_
theorem ty17_ : tyOf Tryd.prog 17 = some (TyI.mk UT.ptr 1 8 [AV.nilp]) := by kernel_rfl
theorem ty17 : (env n0 w0 gl).ty 17 = some (TyI.mk UT.ptr 1 8 [AV.nilp]) := (congrFun env_ty 17).trans ty17_
theorem ty18_ : tyOf Tryd.prog 18 = some (TyI.mk (UT.struct [(0, 17)]) 1 8 [AV.nilp]) := by kernel_rfl
theorem ty18 : (env n0 w0 gl).ty 18 = some (TyI.mk (UT.struct [(0, 17)]) 1 8 [AV.nilp]) := (congrFun env_ty 18).trans ty18_
theorem ty19_ : tyOf Tryd.prog 19 = some (TyI.mk (UT.struct [(0, 17)]) 1 8 [AV.nilp]) := by kernel_rfl
theorem ty19 : (env n0 w0 gl).ty 19 = some (TyI.mk (UT.struct [(0, 17)]) 1 8 [AV.nilp]) := (congrFun env_ty 19).trans ty19_
theorem ty20_ : tyOf Tryd.prog 20 = some (TyI.mk (UT.iface true) 1 16 [AV.nili]) := by kernel_rfl
theorem ty20 : (env n0 w0 gl).ty 20 = some (TyI.mk (UT.iface true) 1 16 [AV.nili]) := (congrFun env_ty 20).trans ty20_
theorem ty21_ : tyOf Tryd.prog 21 = some (TyI.mk (UT.int IntKind.i32) 1 4 [AV.int IntKind.i32 0]) := by kernel_rfl
theorem ty21 : (env n0 w0 gl).ty 21 = some (TyI.mk (UT.int IntKind.i32) 1 4 [AV.int IntKind.i32 0]) := (congrFun env_ty 21).trans ty21_
theorem ty22_ : tyOf Tryd.prog 22 = some (TyI.mk (UT.sl 9) 1 24 [AV.sl 0 [] Tok.full]) := by kernel_rfl
theorem ty22 : (env n0 w0 gl).ty 22 = some (TyI.mk (UT.sl 9) 1 24 [AV.sl 0 [] Tok.full]) := (congrFun env_ty 22).trans ty22_
theorem ty23_ : tyOf Tryd.prog 23 = some (TyI.mk (UT.struct [(0, 9), (1, 22), (2, 2)]) 3 48 [AV.str [], AV.sl 0 [] Tok.full, AV.int IntKind.i64 0]) := by kernel_rfl
theorem ty23 : (env n0 w0 gl).ty 23 = some (TyI.mk (UT.struct [(0, 9), (1, 22), (2, 2)]) 3 48 [AV.str [], AV.sl 0 [] Tok.full, AV.int IntKind.i64 0]) := (congrFun env_ty 23).trans ty23_
theorem ty24_ : tyOf Tryd.prog 24 = some (TyI.mk (UT.struct [(0, 9), (1, 22), (2, 2)]) 3 48 [AV.str [], AV.sl 0 [] Tok.full, AV.int IntKind.i64 0]) := by kernel_rfl
theorem ty24 : (env n0 w0 gl).ty 24 = some (TyI.mk (UT.struct [(0, 9), (1, 22), (2, 2)]) 3 48 [AV.str [], AV.sl 0 [] Tok.full, AV.int IntKind.i64 0]) := (congrFun env_ty 24).trans ty24_
theorem ty25_ : tyOf Tryd.prog 25 = some (TyI.mk (UT.sl 5) 1 24 [AV.sl 0 [] Tok.full]) := by kernel_rfl
theorem ty25 : (env n0 w0 gl).ty 25 = some (TyI.mk (UT.sl 5) 1 24 [AV.sl 0 [] Tok.full]) := (congrFun env_ty 25).trans ty25_
theorem ty26_ : tyOf Tryd.prog 26 = some (TyI.mk (UT.struct [(0, 2), (1, 9), (2, 24), (5, 25)]) 6 96 [AV.int IntKind.i64 0, AV.str [], AV.str [], AV.sl 0 [] Tok.full, AV.int IntKind.i64 0, AV.sl 0 [] Tok.full]) := by kernel_rfl
theorem ty26 : (env n0 w0 gl).ty 26 = some (TyI.mk (UT.struct [(0, 2), (1, 9), (2, 24), (5, 25)]) 6 96 [AV.int IntKind.i64 0, AV.str [], AV.str [], AV.sl 0 [] Tok.full, AV.int IntKind.i64 0, AV.sl 0 [] Tok.full]) := (congrFun env_ty 26).trans ty26_
theorem ty27_ : tyOf Tryd.prog 27 = some (TyI.mk (UT.struct [(0, 2), (1, 9), (2, 24), (5, 25)]) 6 96 [AV.int IntKind.i64 0, AV.str [], AV.str [], AV.sl 0 [] Tok.full, AV.int IntKind.i64 0, AV.sl 0 [] Tok.full]) := by kernel_rfl
theorem ty27 : (env n0 w0 gl).ty 27 = some (TyI.mk (UT.struct [(0, 2), (1, 9), (2, 24), (5, 25)]) 6 96 [AV.int IntKind.i64 0, AV.str [], AV.str [], AV.sl 0 [] Tok.full, AV.int IntKind.i64 0, AV.sl 0 [] Tok.full]) := (congrFun env_ty 27).trans ty27_
theorem ty30_ : tyOf Tryd.prog 30 = some (TyI.mk (UT.int IntKind.i64) 1 8 [AV.int IntKind.i64 0]) := by kernel_rfl
theorem ty30 : (env n0 w0 gl).ty 30 = some (TyI.mk (UT.int IntKind.i64) 1 8 [AV.int IntKind.i64 0]) := (congrFun env_ty 30).trans ty30_
theorem ty41_ : tyOf Tryd.prog 41 = some (TyI.mk (UT.sl 79) 1 24 [AV.sl 0 [] Tok.full]) := by kernel_rfl
theorem ty41 : (env n0 w0 gl).ty 41 = some (TyI.mk (UT.sl 79) 1 24 [AV.sl 0 [] Tok.full]) := (congrFun env_ty 41).trans ty41_
theorem ty71_ : tyOf Tryd.prog 71 = some (TyI.mk (UT.sl 25) 1 24 [AV.sl 0 [] Tok.full]) := by kernel_rfl
theorem ty71 : (env n0 w0 gl).ty 71 = some (TyI.mk (UT.sl 25) 1 24 [AV.sl 0 [] Tok.full]) := (congrFun env_ty 71).trans ty71_
theorem ty78_ : tyOf Tryd.prog 78 = some (TyI.mk (UT.struct [(0, 9), (1, 9)]) 2 32 [AV.str [], AV.str []]) := by kernel_rfl
theorem ty78 : (env n0 w0 gl).ty 78 = some (TyI.mk (UT.struct [(0, 9), (1, 9)]) 2 32 [AV.str [], AV.str []]) := (congrFun env_ty 78).trans ty78_
theorem ty79_ : tyOf Tryd.prog 79 = some (TyI.mk (UT.struct [(0, 9), (1, 9)]) 2 32 [AV.str [], AV.str []]) := by kernel_rfl
theorem ty79 : (env n0 w0 gl).ty 79 = some (TyI.mk (UT.struct [(0, 9), (1, 9)]) 2 32 [AV.str [], AV.str []]) := (congrFun env_ty 79).trans ty79_
theorem ty92_ : tyOf Tryd.prog 92 = some (TyI.mk (UT.iface false) 1 16 [AV.nili]) := by kernel_rfl
theorem ty92 : (env n0 w0 gl).ty 92 = some (TyI.mk (UT.iface false) 1 16 [AV.nili]) := (congrFun env_ty 92).trans ty92_
theorem ty93_ : tyOf Tryd.prog 93 = some (TyI.mk (UT.iface false) 1 16 [AV.nili]) := by kernel_rfl
theorem ty93 : (env n0 w0 gl).ty 93 = some (TyI.mk (UT.iface false) 1 16 [AV.nili]) := (congrFun env_ty 93).trans ty93_
theorem ty98_ : tyOf Tryd.prog 98 = some (TyI.mk (UT.struct []) 0 0 []) := by kernel_rfl
theorem ty98 : (env n0 w0 gl).ty 98 = some (TyI.mk (UT.struct []) 0 0 []) := (congrFun env_ty 98).trans ty98_
theorem ty99_ : tyOf Tryd.prog 99 = some (TyI.mk (UT.struct []) 0 0 []) := by kernel_rfl
theorem ty99 : (env n0 w0 gl).ty 99 = some (TyI.mk (UT.struct []) 0 0 []) := (congrFun env_ty 99).trans ty99_
theorem ty105_ : tyOf Tryd.prog 105 = some (TyI.mk (UT.struct [(0, 30)]) 1 8 [AV.int IntKind.i64 0]) := by kernel_rfl
theorem ty105 : (env n0 w0 gl).ty 105 = some (TyI.mk (UT.struct [(0, 30)]) 1 8 [AV.int IntKind.i64 0]) := (congrFun env_ty 105).trans ty105_
theorem ty106_ : tyOf Tryd.prog 106 = some (TyI.mk (UT.struct [(0, 30)]) 1 8 [AV.int IntKind.i64 0]) := by kernel_rfl
theorem ty106 : (env n0 w0 gl).ty 106 = some (TyI.mk (UT.struct [(0, 30)]) 1 8 [AV.int IntKind.i64 0]) := (congrFun env_ty 106).trans ty106_
theorem ty117_ : tyOf Tryd.prog 117 = some (TyI.mk UT.ptr 1 8 [AV.nilp]) := by kernel_rfl
theorem ty117 : (env n0 w0 gl).ty 117 = some (TyI.mk UT.ptr 1 8 [AV.nilp]) := (congrFun env_ty 117).trans ty117_
theorem ty120_ : tyOf Tryd.prog 120 = some (TyI.mk (UT.int IntKind.u64) 1 8 [AV.int IntKind.u64 0]) := by kernel_rfl
theorem ty120 : (env n0 w0 gl).ty 120 = some (TyI.mk (UT.int IntKind.u64) 1 8 [AV.int IntKind.u64 0]) := (congrFun env_ty 120).trans ty120_
theorem ty126_ : tyOf Tryd.prog 126 = some (TyI.mk (UT.int IntKind.i64) 1 8 [AV.int IntKind.i64 0]) := by kernel_rfl
theorem ty126 : (env n0 w0 gl).ty 126 = some (TyI.mk (UT.int IntKind.i64) 1 8 [AV.int IntKind.i64 0]) := (congrFun env_ty 126).trans ty126_
theorem ty129_ : tyOf Tryd.prog 129 = some (TyI.mk (UT.int IntKind.u64) 1 8 [AV.int IntKind.u64 0]) := by kernel_rfl
theorem ty129 : (env n0 w0 gl).ty 129 = some (TyI.mk (UT.int IntKind.u64) 1 8 [AV.int IntKind.u64 0]) := (congrFun env_ty 129).trans ty129_
theorem ty130_ : tyOf Tryd.prog 130 = some (TyI.mk UT.ptr 1 8 [AV.nilp]) := by kernel_rfl
theorem ty130 : (env n0 w0 gl).ty 130 = some (TyI.mk UT.ptr 1 8 [AV.nilp]) := (congrFun env_ty 130).trans ty130_
theorem ty133_ : tyOf Tryd.prog 133 = some (TyI.mk (UT.arr 24 5) 24 24 [AV.int IntKind.u8 0, AV.int IntKind.u8 0, AV.int IntKind.u8 0, AV.int IntKind.u8 0, AV.int IntKind.u8 0, AV.int IntKind.u8 0, AV.int IntKind.u8 0, AV.int IntKind.u8 0, AV.int IntKind.u8 0, AV.int IntKind.u8 0, AV.int IntKind.u8 0, AV.int IntKind.u8 0, AV.int IntKind.u8 0, AV.int IntKind.u8 0, AV.int IntKind.u8 0, AV.int IntKind.u8 0, AV.int IntKind.u8 0, AV.int IntKind.u8 0, AV.int IntKind.u8 0, AV.int IntKind.u8 0, AV.int IntKind.u8 0, AV.int IntKind.u8 0, AV.int IntKind.u8 0, AV.int IntKind.u8 0]) := by kernel_rfl
theorem ty133 : (env n0 w0 gl).ty 133 = some (TyI.mk (UT.arr 24 5) 24 24 [AV.int IntKind.u8 0, AV.int IntKind.u8 0, AV.int IntKind.u8 0, AV.int IntKind.u8 0, AV.int IntKind.u8 0, AV.int IntKind.u8 0, AV.int IntKind.u8 0, AV.int IntKind.u8 0, AV.int IntKind.u8 0, AV.int IntKind.u8 0, AV.int IntKind.u8 0, AV.int IntKind.u8 0, AV.int IntKind.u8 0, AV.int IntKind.u8 0, AV.int IntKind.u8 0, AV.int IntKind.u8 0, AV.int IntKind.u8 0, AV.int IntKind.u8 0, AV.int IntKind.u8 0, AV.int IntKind.u8 0, AV.int IntKind.u8 0, AV.int IntKind.u8 0, AV.int IntKind.u8 0, AV.int IntKind.u8 0]) := (congrFun env_ty 133).trans ty133_
theorem ty142_ : tyOf Tryd.prog 142 = some (TyI.mk (UT.struct [(0, 9), (1, 9), (2, 93)]) 3 48 [AV.str [], AV.str [], AV.nili]) := by kernel_rfl
theorem ty142 : (env n0 w0 gl).ty 142 = some (TyI.mk (UT.struct [(0, 9), (1, 9), (2, 93)]) 3 48 [AV.str [], AV.str [], AV.nili]) := (congrFun env_ty 142).trans ty142_
theorem ty143_ : tyOf Tryd.prog 143 = some (TyI.mk (UT.struct [(0, 9), (1, 9), (2, 93)]) 3 48 [AV.str [], AV.str [], AV.nili]) := by kernel_rfl
theorem ty143 : (env n0 w0 gl).ty 143 = some (TyI.mk (UT.struct [(0, 9), (1, 9), (2, 93)]) 3 48 [AV.str [], AV.str [], AV.nili]) := (congrFun env_ty 143).trans ty143_
theorem ty147_ : tyOf Tryd.prog 147 = some (TyI.mk (UT.arr 20 120) 20 160 [AV.int IntKind.u64 0, AV.int IntKind.u64 0, AV.int IntKind.u64 0, AV.int IntKind.u64 0, AV.int IntKind.u64 0, AV.int IntKind.u64 0, AV.int IntKind.u64 0, AV.int IntKind.u64 0, AV.int IntKind.u64 0, AV.int IntKind.u64 0, AV.int IntKind.u64 0, AV.int IntKind.u64 0, AV.int IntKind.u64 0, AV.int IntKind.u64 0, AV.int IntKind.u64 0, AV.int IntKind.u64 0, AV.int IntKind.u64 0, AV.int IntKind.u64 0, AV.int IntKind.u64 0, AV.int IntKind.u64 0]) := by kernel_rfl
theorem ty147 : (env n0 w0 gl).ty 147 = some (TyI.mk (UT.arr 20 120) 20 160 [AV.int IntKind.u64 0, AV.int IntKind.u64 0, AV.int IntKind.u64 0, AV.int IntKind.u64 0, AV.int IntKind.u64 0, AV.int IntKind.u64 0, AV.int IntKind.u64 0, AV.int IntKind.u64 0, AV.int IntKind.u64 0, AV.int IntKind.u64 0, AV.int IntKind.u64 0, AV.int IntKind.u64 0, AV.int IntKind.u64 0, AV.int IntKind.u64 0, AV.int IntKind.u64 0, AV.int IntKind.u64 0, AV.int IntKind.u64 0, AV.int IntKind.u64 0, AV.int IntKind.u64 0, AV.int IntKind.u64 0]) := (congrFun env_ty 147).trans ty147_
theorem ty148_ : tyOf Tryd.prog 148 = some (TyI.mk (UT.int IntKind.u32) 1 4 [AV.int IntKind.u32 0]) := by kernel_rfl
theorem ty148 : (env n0 w0 gl).ty 148 = some (TyI.mk (UT.int IntKind.u32) 1 4 [AV.int IntKind.u32 0]) := (congrFun env_ty 148).trans ty148_
theorem ty149_ : tyOf Tryd.prog 149 = some (TyI.mk (UT.arr 65 5) 65 65 [AV.int IntKind.u8 0, AV.int IntKind.u8 0, AV.int IntKind.u8 0, AV.int IntKind.u8 0, AV.int IntKind.u8 0, AV.int IntKind.u8 0, AV.int IntKind.u8 0, AV.int IntKind.u8 0, AV.int IntKind.u8 0, AV.int IntKind.u8 0, AV.int IntKind.u8 0, AV.int IntKind.u8 0, AV.int IntKind.u8 0, AV.int IntKind.u8 0, AV.int IntKind.u8 0, AV.int IntKind.u8 0, AV.int IntKind.u8 0, AV.int IntKind.u8 0, AV.int IntKind.u8 0, AV.int IntKind.u8 0, AV.int IntKind.u8 0, AV.int IntKind.u8 0, AV.int IntKind.u8 0, AV.int IntKind.u8 0, AV.int IntKind.u8 0, AV.int IntKind.u8 0, AV.int IntKind.u8 0, AV.int IntKind.u8 0, AV.int IntKind.u8 0, AV.int IntKind.u8 0, AV.int IntKind.u8 0, AV.int IntKind.u8 0, AV.int IntKind.u8 0, AV.int IntKind.u8 0, AV.int IntKind.u8 0, AV.int IntKind.u8 0, AV.int IntKind.u8 0, AV.int IntKind.u8 0, AV.int IntKind.u8 0, AV.int IntKind.u8 0, AV.int IntKind.u8 0, AV.int IntKind.u8 0, AV.int IntKind.u8 0, AV.int IntKind.u8 0, AV.int IntKind.u8 0, AV.int IntKind.u8 0, AV.int IntKind.u8 0, AV.int IntKind.u8 0, AV.int IntKind.u8 0, AV.int IntKind.u8 0, AV.int IntKind.u8 0, AV.int IntKind.u8 0, AV.int IntKind.u8 0, AV.int IntKind.u8 0, AV.int IntKind.u8 0, AV.int IntKind.u8 0, AV.int IntKind.u8 0, AV.int IntKind.u8 0, AV.int IntKind.u8 0, AV.int IntKind.u8 0, AV.int IntKind.u8 0, AV.int IntKind.u8 0, AV.int IntKind.u8 0, AV.int IntKind.u8 0, AV.int IntKind.u8 0]) := by kernel_rfl
theorem ty149 : (env n0 w0 gl).ty 149 = some (TyI.mk (UT.arr 65 5) 65 65 [AV.int IntKind.u8 0, AV.int IntKind.u8 0, AV.int IntKind.u8 0, AV.int IntKind.u8 0, AV.int IntKind.u8 0, AV.int IntKind.u8 0, AV.int IntKind.u8 0, AV.int IntKind.u8 0, AV.int IntKind.u8 0, AV.int IntKind.u8 0, AV.int IntKind.u8 0, AV.int IntKind.u8 0, AV.int IntKind.u8 0, AV.int IntKind.u8 0, AV.int IntKind.u8 0, AV.int IntKind.u8 0, AV.int IntKind.u8 0, AV.int IntKind.u8 0, AV.int IntKind.u8 0, AV.int IntKind.u8 0, AV.int IntKind.u8 0, AV.int IntKind.u8 0, AV.int IntKind.u8 0, AV.int IntKind.u8 0, AV.int IntKind.u8 0, AV.int IntKind.u8 0, AV.int IntKind.u8 0, AV.int IntKind.u8 0, AV.int IntKind.u8 0, AV.int IntKind.u8 0, AV.int IntKind.u8 0, AV.int IntKind.u8 0, AV.int IntKind.u8 0, AV.int IntKind.u8 0, AV.int IntKind.u8 0, AV.int IntKind.u8 0, AV.int IntKind.u8 0, AV.int IntKind.u8 0, AV.int IntKind.u8 0, AV.int IntKind.u8 0, AV.int IntKind.u8 0, AV.int IntKind.u8 0, AV.int IntKind.u8 0, AV.int IntKind.u8 0, AV.int IntKind.u8 0, AV.int IntKind.u8 0, AV.int IntKind.u8 0, AV.int IntKind.u8 0, AV.int IntKind.u8 0, AV.int IntKind.u8 0, AV.int IntKind.u8 0, AV.int IntKind.u8 0, AV.int IntKind.u8 0, AV.int IntKind.u8 0, AV.int IntKind.u8 0, AV.int IntKind.u8 0, AV.int IntKind.u8 0, AV.int IntKind.u8 0, AV.int IntKind.u8 0, AV.int IntKind.u8 0, AV.int IntKind.u8 0, AV.int IntKind.u8 0, AV.int IntKind.u8 0, AV.int IntKind.u8 0, AV.int IntKind.u8 0]) := (congrFun env_ty 149).trans ty149_
attribute [go_sem] AAct.ev AV.isNili AV.isTop AV.one Array.size Array.toList Bool.and_false Bool.and_true Bool.false_beq Bool.false_eq_true Bool.false_or Bool.not_eq_true Bool.not_false Bool.not_true Bool.or_false Bool.or_true Bool.true_beq Bool.true_or Int.cast_ofNat_Int Int.toNat_natCast Int.zero_le_ofNat List.all_cons List.all_nil List.append_assoc List.append_eq List.append_nil List.cons_append List.drop_nil List.drop_succ_cons List.drop_zero List.getD_cons_succ List.getD_cons_zero List.getElem?_cons_succ List.getElem?_cons_zero List.headD_cons List.isEmpty_nil List.length_append List.length_cons List.length_drop List.length_map List.length_nil List.map_cons List.map_nil List.nil_append List.set_cons_succ List.set_cons_zero List.take_length List.take_nil List.take_succ_cons List.take_zero Nat.add_assoc Nat.add_zero Nat.mul_one Nat.zero_add Option.bind_some Option.getD_some Option.isSome_some Option.map_none Option.map_some TyI.isAgg and_false and_true beq_self_eq_true byteAV bytesAV_len bytesAV_one cellsOf constAV decide_eq_true_eq decide_false decide_not decide_true env_gl evArith evBin evBound evBuild evBuildSlice evBuiltin evCallArgs evCmp evConv evEq evField evFill evHeap evIndexAddr evInt evLen evParts evPure evSlice evStr evUn false_and ge_iff_le getE getE0 gt_iff_lt guardOk if_false if_neg if_pos if_true isConstOp mkVal not_false_eq_true not_true_eq_false readCells rep row1 rowStr1 setE setE0 setRange structPlace toNat_add1 toNat_addN toNat_sub1 toNat_subN true_and unbytes_bytesAV wrap_i32 wrap_i64 wrap_u32 wrap_u64 wrap_u8 writeCells
attribute [go_sem] ty2 ty3 ty4 ty5 ty6 ty7 ty8 ty9 ty10 ty11 ty12 ty13 ty14 ty15 ty16 ty17 ty18 ty19 ty20 ty21 ty22 ty23 ty24 ty25 ty26 ty27 ty30 ty41 ty71 ty78 ty79 ty92 ty93 ty98 ty99 ty105 ty106 ty117 ty120 ty126 ty129 ty130 ty133 ty142 ty143 ty147 ty148 ty149
end Go.Ab.Tryd
