/-
  Each tree is what the machine makes of the program's function: checked by evaluation.
-/
import Derived.Test.YtnglgoloeabbeaaSwT
import Derived.Test.YtnglgoloeabbeaaProg
namespace Go.Sx
open Go Go.Proofs

def d_w_big : Fd := ⟨w_big, ⟨[.val [((.sl [Y]), .ro)] false], [⟨[(.bool, .ro)], .one⟩]⟩, [], [], [], 600, t_w_big⟩
abbrev r_w_big : List Fd := d_w_big :: []
theorem k_w_big : symFn Try.prog (sigsOf []) Try.f8 d_w_big.sg d_w_big.heads d_w_big.peel d_w_big.clean d_w_big.fuel = d_w_big.t := by kernel_rfl
theorem o_w_big : TabOk Try.prog r_w_big := .cons .nil Try.func8 (by kernel_rfl) (by kernel_rfl) k_w_big

def d_s_l1New : Fd := ⟨s_l1New, ⟨[.val [((.sl [Y]), .ro)] false], [⟨[((.sl [Y]), .ro), (I, .ro), (I, .ro)], .ptr⟩]⟩, [⟨3, 2, ⟨[(0, .ro [Y] (v 0)), (4, .sc I (v 1000000)), (3, .sc I (v 1000001))], []⟩⟩], [], [], 600, t_s_l1New⟩
abbrev r_s_l1New : List Fd := d_s_l1New :: r_w_big
theorem k_s_l1New : symFn Try.prog (sigsOf r_w_big) Try.f47 d_s_l1New.sg d_s_l1New.heads d_s_l1New.peel d_s_l1New.clean d_s_l1New.fuel = d_s_l1New.t := by kernel_rfl
theorem o_s_l1New : TabOk Try.prog r_s_l1New := .cons o_w_big Try.func47 (by kernel_rfl) (by kernel_rfl) k_s_l1New

def d_s_l1Byte : Fd := ⟨s_l1Byte, ⟨[.box [((.sl [Y]), .kept), (I, .ro), (I, .ro)]], [⟨[(I, .ro)], .one⟩]⟩, [], [], [], 600, t_s_l1Byte⟩
abbrev r_s_l1Byte : List Fd := d_s_l1Byte :: r_s_l1New
theorem k_s_l1Byte : symFn Try.prog (sigsOf r_s_l1New) Try.f110 d_s_l1Byte.sg d_s_l1Byte.heads d_s_l1Byte.peel d_s_l1Byte.clean d_s_l1Byte.fuel = d_s_l1Byte.t := by kernel_rfl
theorem o_s_l1Byte : TabOk Try.prog r_s_l1Byte := .cons o_s_l1New Try.func110 (by kernel_rfl) (by kernel_rfl) k_s_l1Byte

def d_s_l1Below : Fd := ⟨s_l1Below, ⟨[.box [((.sl [Y]), .kept), (I, .ro), (I, .ro)], .val [(I, .ro)] false], [⟨[(I, .ro)], .one⟩]⟩, [], [], [], 600, t_s_l1Below⟩
abbrev r_s_l1Below : List Fd := d_s_l1Below :: r_s_l1Byte
theorem k_s_l1Below : symFn Try.prog (sigsOf r_s_l1Byte) Try.f55 d_s_l1Below.sg d_s_l1Below.heads d_s_l1Below.peel d_s_l1Below.clean d_s_l1Below.fuel = d_s_l1Below.t := by kernel_rfl
theorem o_s_l1Below : TabOk Try.prog r_s_l1Below := .cons o_s_l1Byte Try.func55 (by kernel_rfl) (by kernel_rfl) k_s_l1Below

def d_s_l1In : Fd := ⟨s_l1In, ⟨[.val [(I, .ro)] false, .val [(I, .ro)] false, .val [(I, .ro)] false], [⟨[(.bool, .ro)], .one⟩]⟩, [], [], [], 600, t_s_l1In⟩
abbrev r_s_l1In : List Fd := d_s_l1In :: r_s_l1Below
theorem k_s_l1In : symFn Try.prog (sigsOf r_s_l1Below) Try.f65 d_s_l1In.sg d_s_l1In.heads d_s_l1In.peel d_s_l1In.clean d_s_l1In.fuel = d_s_l1In.t := by kernel_rfl
theorem o_s_l1In : TabOk Try.prog r_s_l1In := .cons o_s_l1Below Try.func65 (by kernel_rfl) (by kernel_rfl) k_s_l1In

def d_s_OpSize : Fd := ⟨s_OpSize, ⟨[.val [(I, .ro), (I, .ro), (I, .ro), ((.sl [I]), .ro)] true], [⟨[(I, .ro)], .one⟩]⟩, [], [], [], 600, t_s_OpSize⟩
abbrev r_s_OpSize : List Fd := d_s_OpSize :: r_s_l1In
theorem k_s_OpSize : symFn Try.prog (sigsOf r_s_l1In) Try.f115 d_s_OpSize.sg d_s_OpSize.heads d_s_OpSize.peel d_s_OpSize.clean d_s_OpSize.fuel = d_s_OpSize.t := by kernel_rfl
theorem o_s_OpSize : TabOk Try.prog r_s_OpSize := .cons o_s_l1In Try.func115 (by kernel_rfl) (by kernel_rfl) k_s_OpSize

def d_s_l1PickInt : Fd := ⟨s_l1PickInt, ⟨[.box [((.sl [Y]), .kept), (I, .ro), (I, .ro)], .val [((.sl [I]), .ro)] false], [⟨[(I, .ro)], .one⟩]⟩, [], [], [], 600, t_s_l1PickInt⟩
abbrev r_s_l1PickInt : List Fd := d_s_l1PickInt :: r_s_OpSize
theorem k_s_l1PickInt : symFn Try.prog (sigsOf r_s_OpSize) Try.f56 d_s_l1PickInt.sg d_s_l1PickInt.heads d_s_l1PickInt.peel d_s_l1PickInt.clean d_s_l1PickInt.fuel = d_s_l1PickInt.t := by kernel_rfl
theorem o_s_l1PickInt : TabOk Try.prog r_s_l1PickInt := .cons o_s_OpSize Try.func56 (by kernel_rfl) (by kernel_rfl) k_s_l1PickInt

def d_s_l2Fix : Fd := ⟨s_l2Fix, ⟨[.box [((.sl [Y]), .kept), (I, .ro), (I, .ro)]], [⟨[(I, .ro)], .one⟩]⟩, [], [], [], 600, t_s_l2Fix⟩
abbrev r_s_l2Fix : List Fd := d_s_l2Fix :: r_s_l1PickInt
theorem k_s_l2Fix : symFn Try.prog (sigsOf r_s_l1PickInt) Try.f131 d_s_l2Fix.sg d_s_l2Fix.heads d_s_l2Fix.peel d_s_l2Fix.clean d_s_l2Fix.fuel = d_s_l2Fix.t := by kernel_rfl
theorem o_s_l2Fix : TabOk Try.prog r_s_l2Fix := .cons o_s_l1PickInt Try.func131 (by kernel_rfl) (by kernel_rfl) k_s_l2Fix

def d_s_l3Vec : Fd := ⟨s_l3Vec, ⟨[.box [((.sl [Y]), .kept), (I, .ro), (I, .ro)], .val [(I, .ro)] false], [⟨[((.sl [I]), .own)], .one⟩]⟩, [⟨3, 4, ⟨[(0, .ptr 63 0 0), (1, .sc I (v 3)), (6, .sc I (v 1000000)), (5, .row 448 0)], [(63, .box 0 [.orig [Y] 0, .sc I (v 1000001), .sc I (v 1000002)]), (448, .row 0 0 [I] (v 1000003) true false true)]⟩⟩], [], [], 600, t_s_l3Vec⟩
abbrev r_s_l3Vec : List Fd := d_s_l3Vec :: r_s_l2Fix
theorem k_s_l3Vec : symFn Try.prog (sigsOf r_s_l2Fix) Try.f86 d_s_l3Vec.sg d_s_l3Vec.heads d_s_l3Vec.peel d_s_l3Vec.clean d_s_l3Vec.fuel = d_s_l3Vec.t := by kernel_rfl
theorem o_s_l3Vec : TabOk Try.prog r_s_l3Vec := .cons o_s_l2Fix Try.func86 (by kernel_rfl) (by kernel_rfl) k_s_l3Vec

def d_s_l5Op : Fd := ⟨s_l5Op, ⟨[.box [((.sl [Y]), .kept), (I, .ro), (I, .ro)], .val [(I, .ro)] false], [⟨[(I, .ro), (I, .ro), (I, .ro), ((.sl [I]), .own)], .agg⟩]⟩, [], [], [], 600, t_s_l5Op⟩
abbrev r_s_l5Op : List Fd := d_s_l5Op :: r_s_l3Vec
theorem k_s_l5Op : symFn Try.prog (sigsOf r_s_l3Vec) Try.f105 d_s_l5Op.sg d_s_l5Op.heads d_s_l5Op.peel d_s_l5Op.clean d_s_l5Op.fuel = d_s_l5Op.t := by kernel_rfl
theorem o_s_l5Op : TabOk Try.prog r_s_l5Op := .cons o_s_l3Vec Try.func105 (by kernel_rfl) (by kernel_rfl) k_s_l5Op

def d_s_l6Model : Fd := ⟨s_l6Model, ⟨[.box [((.sl [Y]), .kept), (I, .ro), (I, .ro)]], [⟨[((.sl [I, I, I, (.sl [I])]), .own)], .agg⟩]⟩, [⟨4, 5, ⟨[(3, .ptr 192 0 0), (0, .ptr 63 0 0), (2, .ptr 128 0 0), (5, .sc I (v 1000000)), (4, .sc I (v 1000001))], [(192, .box 0 [.row 900300 0]), (900300, .row 0 0 [I, I, I, (.sl [I])] (v 1000002) true false true), (63, .box 0 [.orig [Y] 0, .sc I (v 1000003), .sc I (v 1000004)]), (128, .box 0 [.nil])]⟩⟩], [], [], 600, t_s_l6Model⟩
abbrev r_s_l6Model : List Fd := d_s_l6Model :: r_s_l5Op
theorem k_s_l6Model : symFn Try.prog (sigsOf r_s_l5Op) Try.f52 d_s_l6Model.sg d_s_l6Model.heads d_s_l6Model.peel d_s_l6Model.clean d_s_l6Model.fuel = d_s_l6Model.t := by kernel_rfl
theorem o_s_l6Model : TabOk Try.prog r_s_l6Model := .cons o_s_l5Op Try.func52 (by kernel_rfl) (by kernel_rfl) k_s_l6Model

def d_s_FixOk : Fd := ⟨s_FixOk, ⟨[.val [(I, .ro)] false], [⟨[(.bool, .ro)], .one⟩]⟩, [], [], [], 600, t_s_FixOk⟩
abbrev r_s_FixOk : List Fd := d_s_FixOk :: r_s_l6Model
theorem k_s_FixOk : symFn Try.prog (sigsOf r_s_l6Model) Try.f70 d_s_FixOk.sg d_s_FixOk.heads d_s_FixOk.peel d_s_FixOk.clean d_s_FixOk.fuel = d_s_FixOk.t := by kernel_rfl
theorem o_s_FixOk : TabOk Try.prog r_s_FixOk := .cons o_s_l6Model Try.func70 (by kernel_rfl) (by kernel_rfl) k_s_FixOk

def d_s_OpOk : Fd := ⟨s_OpOk, ⟨[.val [(I, .ro), (I, .ro), (I, .ro), ((.sl [I]), .ro)] true], [⟨[(.bool, .ro)], .one⟩]⟩, [⟨4, 1, ⟨[(1, .ptr 64 0 0), (3, .sc I (v 1000000))], [(64, .box 0 [.sc I (v 0), .sc I (v 1), .sc I (v 2), .ro [I] (v 3)])]⟩⟩], [], [], 600, t_s_OpOk⟩
abbrev r_s_OpOk : List Fd := d_s_OpOk :: r_s_FixOk
theorem k_s_OpOk : symFn Try.prog (sigsOf r_s_FixOk) Try.f64 d_s_OpOk.sg d_s_OpOk.heads d_s_OpOk.peel d_s_OpOk.clean d_s_OpOk.fuel = d_s_OpOk.t := by kernel_rfl
theorem o_s_OpOk : TabOk Try.prog r_s_OpOk := .cons o_s_FixOk Try.func64 (by kernel_rfl) (by kernel_rfl) k_s_OpOk

def d_s_ModelOk : Fd := ⟨s_ModelOk, ⟨[.val [((.sl [I, I, I, (.sl [I])]), .ro)] true], [⟨[(.bool, .ro)], .one⟩]⟩, [⟨2, 1, ⟨[(1, .ptr 64 0 0), (3, .sc I (v 1000000))], [(64, .box 0 [.ro [I, I, I, (.sl [I])] (v 0)])]⟩⟩], [], [], 600, t_s_ModelOk⟩
abbrev r_s_ModelOk : List Fd := d_s_ModelOk :: r_s_OpOk
theorem k_s_ModelOk : symFn Try.prog (sigsOf r_s_OpOk) Try.f17 d_s_ModelOk.sg d_s_ModelOk.heads d_s_ModelOk.peel d_s_ModelOk.clean d_s_ModelOk.fuel = d_s_ModelOk.t := by kernel_rfl
theorem o_s_ModelOk : TabOk Try.prog r_s_ModelOk := .cons o_s_OpOk Try.func17 (by kernel_rfl) (by kernel_rfl) k_s_ModelOk

def d_s_InOf : Fd := ⟨s_InOf, ⟨[.val [((.sl [I, I, I, (.sl [I])]), .ro)] true], [⟨[(I, .ro)], .one⟩]⟩, [], [], [], 600, t_s_InOf⟩
abbrev r_s_InOf : List Fd := d_s_InOf :: r_s_ModelOk
theorem k_s_InOf : symFn Try.prog (sigsOf r_s_ModelOk) Try.f37 d_s_InOf.sg d_s_InOf.heads d_s_InOf.peel d_s_InOf.clean d_s_InOf.fuel = d_s_InOf.t := by kernel_rfl
theorem o_s_InOf : TabOk Try.prog r_s_InOf := .cons o_s_ModelOk Try.func37 (by kernel_rfl) (by kernel_rfl) k_s_InOf

def d_s_OutOf : Fd := ⟨s_OutOf, ⟨[.val [((.sl [I, I, I, (.sl [I])]), .ro)] true], [⟨[(I, .ro)], .one⟩]⟩, [], [], [], 600, t_s_OutOf⟩
abbrev r_s_OutOf : List Fd := d_s_OutOf :: r_s_InOf
theorem k_s_OutOf : symFn Try.prog (sigsOf r_s_InOf) Try.f109 d_s_OutOf.sg d_s_OutOf.heads d_s_OutOf.peel d_s_OutOf.clean d_s_OutOf.fuel = d_s_OutOf.t := by kernel_rfl
theorem o_s_OutOf : TabOk Try.prog r_s_OutOf := .cons o_s_InOf Try.func109 (by kernel_rfl) (by kernel_rfl) k_s_OutOf

def d_s_l6Batch : Fd := ⟨s_l6Batch, ⟨[.box [((.sl [Y]), .kept), (I, .ro), (I, .ro)], .val [((.sl [I, I, I, (.sl [I])]), .ro)] true], [⟨[((.sl [(.sl [I]), (.sl [I])]), .own)], .one⟩]⟩, [⟨3, 4, ⟨[(3, .ptr 192 0 0), (0, .ptr 63 0 0), (6, .sc I (v 1000000)), (5, .row 448 0)], [(192, .box 0 [.ro [I, I, I, (.sl [I])] (v 3)]), (63, .box 0 [.orig [Y] 0, .sc I (v 1000001), .sc I (v 1000002)]), (448, .row 0 0 [(.sl [I]), (.sl [I])] (v 1000003) true false true)]⟩⟩], [], [], 600, t_s_l6Batch⟩
abbrev r_s_l6Batch : List Fd := d_s_l6Batch :: r_s_OutOf
theorem k_s_l6Batch : symFn Try.prog (sigsOf r_s_OutOf) Try.f54 d_s_l6Batch.sg d_s_l6Batch.heads d_s_l6Batch.peel d_s_l6Batch.clean d_s_l6Batch.fuel = d_s_l6Batch.t := by kernel_rfl
theorem o_s_l6Batch : TabOk Try.prog r_s_l6Batch := .cons o_s_OutOf Try.func54 (by kernel_rfl) (by kernel_rfl) k_s_l6Batch

def d_s_VecOk : Fd := ⟨s_VecOk, ⟨[.val [((.sl [I]), .ro)] false], [⟨[(.bool, .ro)], .one⟩]⟩, [⟨2, 1, ⟨[(0, .ro [I] (v 0)), (3, .sc I (v 1000000))], []⟩⟩], [], [], 600, t_s_VecOk⟩
abbrev r_s_VecOk : List Fd := d_s_VecOk :: r_s_l6Batch
theorem k_s_VecOk : symFn Try.prog (sigsOf r_s_l6Batch) Try.f36 d_s_VecOk.sg d_s_VecOk.heads d_s_VecOk.peel d_s_VecOk.clean d_s_VecOk.fuel = d_s_VecOk.t := by kernel_rfl
theorem o_s_VecOk : TabOk Try.prog r_s_VecOk := .cons o_s_l6Batch Try.func36 (by kernel_rfl) (by kernel_rfl) k_s_VecOk

def d_s_BatchOk : Fd := ⟨s_BatchOk, ⟨[.val [((.sl [I, I, I, (.sl [I])]), .ro)] true, .val [((.sl [(.sl [I]), (.sl [I])]), .ro)] false], [⟨[(.bool, .ro)], .one⟩]⟩, [⟨4, 1, ⟨[(2, .ptr 128 0 0), (1, .ro [(.sl [I]), (.sl [I])] (v 1)), (5, .sc I (v 1000000))], [(128, .box 0 [.ro [I, I, I, (.sl [I])] (v 0)])]⟩⟩], [], [], 600, t_s_BatchOk⟩
abbrev r_s_BatchOk : List Fd := d_s_BatchOk :: r_s_VecOk
theorem k_s_BatchOk : symFn Try.prog (sigsOf r_s_VecOk) Try.f106 d_s_BatchOk.sg d_s_BatchOk.heads d_s_BatchOk.peel d_s_BatchOk.clean d_s_BatchOk.fuel = d_s_BatchOk.t := by kernel_rfl
theorem o_s_BatchOk : TabOk Try.prog r_s_BatchOk := .cons o_s_VecOk Try.func106 (by kernel_rfl) (by kernel_rfl) k_s_BatchOk

def d_s_ZeroGrads : Fd := ⟨s_ZeroGrads, ⟨[.val [((.sl [I, I, I, (.sl [I])]), .ro)] true], [⟨[((.sl [(.sl [I])]), .own), (I, .ro), (.bool, .ro)], .agg⟩]⟩, [⟨3, 2, ⟨[(3, .ptr 192 0 0), (1, .ptr 64 0 0), (2, .ptr 128 0 0), (4, .sc I (v 1000000))], [(192, .box 0 [.row 900300 0, .sc I (n 0), .sc .bool ff]), (900300, .row 0 0 [(.sl [I])] (v 1000001) true false true), (64, .box 0 [.ro [I, I, I, (.sl [I])] (v 0)]), (128, .box 0 [.nil, .sc I (n 0), .sc .bool ff])]⟩⟩], [], [], 600, t_s_ZeroGrads⟩
abbrev r_s_ZeroGrads : List Fd := d_s_ZeroGrads :: r_s_BatchOk
theorem k_s_ZeroGrads : symFn Try.prog (sigsOf r_s_BatchOk) Try.f107 d_s_ZeroGrads.sg d_s_ZeroGrads.heads d_s_ZeroGrads.peel d_s_ZeroGrads.clean d_s_ZeroGrads.fuel = d_s_ZeroGrads.t := by kernel_rfl
theorem o_s_ZeroGrads : TabOk Try.prog r_s_ZeroGrads := .cons o_s_BatchOk Try.func107 (by kernel_rfl) (by kernel_rfl) k_s_ZeroGrads

def d_s_l5Mat : Fd := ⟨s_l5Mat, ⟨[.val [(I, .ro), (I, .ro), (I, .ro), ((.sl [I]), .ro)] true], [⟨[(I, .ro), (I, .ro), ((.sl [I]), .ro)], .agg⟩]⟩, [], [], [], 600, t_s_l5Mat⟩
abbrev r_s_l5Mat : List Fd := d_s_l5Mat :: r_s_ZeroGrads
theorem k_s_l5Mat : symFn Try.prog (sigsOf r_s_ZeroGrads) Try.f92 d_s_l5Mat.sg d_s_l5Mat.heads d_s_l5Mat.peel d_s_l5Mat.clean d_s_l5Mat.fuel = d_s_l5Mat.t := by kernel_rfl
theorem o_s_l5Mat : TabOk Try.prog r_s_l5Mat := .cons o_s_ZeroGrads Try.func92 (by kernel_rfl) (by kernel_rfl) k_s_l5Mat

def d_s_MatOk : Fd := ⟨s_MatOk, ⟨[.val [(I, .ro), (I, .ro), ((.sl [I]), .ro)] true], [⟨[(.bool, .ro)], .one⟩]⟩, [⟨4, 1, ⟨[(1, .ptr 64 0 0), (3, .sc I (v 1000000))], [(64, .box 0 [.sc I (v 0), .sc I (v 1), .ro [I] (v 2)])]⟩⟩], [], [], 600, t_s_MatOk⟩
abbrev r_s_MatOk : List Fd := d_s_MatOk :: r_s_l5Mat
theorem k_s_MatOk : symFn Try.prog (sigsOf r_s_l5Mat) Try.f138 d_s_MatOk.sg d_s_MatOk.heads d_s_MatOk.peel d_s_MatOk.clean d_s_MatOk.fuel = d_s_MatOk.t := by kernel_rfl
theorem o_s_MatOk : TabOk Try.prog r_s_MatOk := .cons o_s_l5Mat Try.func138 (by kernel_rfl) (by kernel_rfl) k_s_MatOk

def d_s_l4Row : Fd := ⟨s_l4Row, ⟨[.val [(I, .ro), (I, .ro), ((.sl [I]), .ro)] true, .val [(I, .ro)] false], [⟨[((.sl [I]), .ro)], .one⟩]⟩, [], [], [], 600, t_s_l4Row⟩
abbrev r_s_l4Row : List Fd := d_s_l4Row :: r_s_MatOk
theorem k_s_l4Row : symFn Try.prog (sigsOf r_s_MatOk) Try.f140 d_s_l4Row.sg d_s_l4Row.heads d_s_l4Row.peel d_s_l4Row.clean d_s_l4Row.fuel = d_s_l4Row.t := by kernel_rfl
theorem o_s_l4Row : TabOk Try.prog r_s_l4Row := .cons o_s_MatOk Try.func140 (by kernel_rfl) (by kernel_rfl) k_s_l4Row

def d_s_l3Pair : Fd := ⟨s_l3Pair, ⟨[.val [((.sl [I]), .ro)] false, .val [((.sl [I]), .ro)] false], [⟨[(.bool, .ro)], .one⟩]⟩, [], [], [], 600, t_s_l3Pair⟩
abbrev r_s_l3Pair : List Fd := d_s_l3Pair :: r_s_l4Row
theorem k_s_l3Pair : symFn Try.prog (sigsOf r_s_l4Row) Try.f141 d_s_l3Pair.sg d_s_l3Pair.heads d_s_l3Pair.peel d_s_l3Pair.clean d_s_l3Pair.fuel = d_s_l3Pair.t := by kernel_rfl
theorem o_s_l3Pair : TabOk Try.prog r_s_l3Pair := .cons o_s_l4Row Try.func141 (by kernel_rfl) (by kernel_rfl) k_s_l3Pair

def d_s_l2Sat : Fd := ⟨s_l2Sat, ⟨[.val [(I, .ro)] false], [⟨[(I, .ro)], .one⟩, ⟨[(.bool, .ro)], .one⟩]⟩, [], [], [], 600, t_s_l2Sat⟩
abbrev r_s_l2Sat : List Fd := d_s_l2Sat :: r_s_l3Pair
theorem k_s_l2Sat : symFn Try.prog (sigsOf r_s_l3Pair) Try.f120 d_s_l2Sat.sg d_s_l2Sat.heads d_s_l2Sat.peel d_s_l2Sat.clean d_s_l2Sat.fuel = d_s_l2Sat.t := by kernel_rfl
theorem o_s_l2Sat : TabOk Try.prog r_s_l2Sat := .cons o_s_l3Pair Try.func120 (by kernel_rfl) (by kernel_rfl) k_s_l2Sat

def d_s_l2In : Fd := ⟨s_l2In, ⟨[.val [(I, .ro)] false], [⟨[(I, .ro)], .one⟩]⟩, [], [], [], 600, t_s_l2In⟩
abbrev r_s_l2In : List Fd := d_s_l2In :: r_s_l2Sat
theorem k_s_l2In : symFn Try.prog (sigsOf r_s_l2Sat) Try.f122 d_s_l2In.sg d_s_l2In.heads d_s_l2In.peel d_s_l2In.clean d_s_l2In.fuel = d_s_l2In.t := by kernel_rfl
theorem o_s_l2In : TabOk Try.prog r_s_l2In := .cons o_s_l2Sat Try.func122 (by kernel_rfl) (by kernel_rfl) k_s_l2In

def d_s_l2Floor : Fd := ⟨s_l2Floor, ⟨[.val [(I, .ro)] false, .val [(I, .ro)] false], [⟨[(I, .ro)], .one⟩]⟩, [], [], [], 600, t_s_l2Floor⟩
abbrev r_s_l2Floor : List Fd := d_s_l2Floor :: r_s_l2In
theorem k_s_l2Floor : symFn Try.prog (sigsOf r_s_l2In) Try.f121 d_s_l2Floor.sg d_s_l2Floor.heads d_s_l2Floor.peel d_s_l2Floor.clean d_s_l2Floor.fuel = d_s_l2Floor.t := by kernel_rfl
theorem o_s_l2Floor : TabOk Try.prog r_s_l2Floor := .cons o_s_l2In Try.func121 (by kernel_rfl) (by kernel_rfl) k_s_l2Floor

def d_s_FixMul : Fd := ⟨s_FixMul, ⟨[.val [(I, .ro)] false, .val [(I, .ro)] false], [⟨[(I, .ro)], .one⟩, ⟨[(.bool, .ro)], .one⟩]⟩, [], [], [], 600, t_s_FixMul⟩
abbrev r_s_FixMul : List Fd := d_s_FixMul :: r_s_l2Floor
theorem k_s_FixMul : symFn Try.prog (sigsOf r_s_l2Floor) Try.f71 d_s_FixMul.sg d_s_FixMul.heads d_s_FixMul.peel d_s_FixMul.clean d_s_FixMul.fuel = d_s_FixMul.t := by kernel_rfl
theorem o_s_FixMul : TabOk Try.prog r_s_FixMul := .cons o_s_l2Floor Try.func71 (by kernel_rfl) (by kernel_rfl) k_s_FixMul

def d_s_FixAdd : Fd := ⟨s_FixAdd, ⟨[.val [(I, .ro)] false, .val [(I, .ro)] false], [⟨[(I, .ro)], .one⟩, ⟨[(.bool, .ro)], .one⟩]⟩, [], [], [], 600, t_s_FixAdd⟩
abbrev r_s_FixAdd : List Fd := d_s_FixAdd :: r_s_FixMul
theorem k_s_FixAdd : symFn Try.prog (sigsOf r_s_FixMul) Try.f72 d_s_FixAdd.sg d_s_FixAdd.heads d_s_FixAdd.peel d_s_FixAdd.clean d_s_FixAdd.fuel = d_s_FixAdd.t := by kernel_rfl
theorem o_s_FixAdd : TabOk Try.prog r_s_FixAdd := .cons o_s_FixMul Try.func72 (by kernel_rfl) (by kernel_rfl) k_s_FixAdd

def d_s_VecDot : Fd := ⟨s_VecDot, ⟨[.val [((.sl [I]), .ro)] false, .val [((.sl [I]), .ro)] false], [⟨[(I, .ro)], .one⟩, ⟨[(.bool, .ro)], .one⟩]⟩, [⟨4, 3, ⟨[(1, .ro [I] (v 1)), (0, .ro [I] (v 0)), (8, .sc I (v 1000000)), (7, .sc .bool (v 1000001)), (6, .sc I (v 1000002))], []⟩⟩], [], [], 600, t_s_VecDot⟩
abbrev r_s_VecDot : List Fd := d_s_VecDot :: r_s_FixAdd
theorem k_s_VecDot : symFn Try.prog (sigsOf r_s_FixAdd) Try.f139 d_s_VecDot.sg d_s_VecDot.heads d_s_VecDot.peel d_s_VecDot.clean d_s_VecDot.fuel = d_s_VecDot.t := by kernel_rfl
theorem o_s_VecDot : TabOk Try.prog r_s_VecDot := .cons o_s_FixAdd Try.func139 (by kernel_rfl) (by kernel_rfl) k_s_VecDot

def d_s_MatVec : Fd := ⟨s_MatVec, ⟨[.val [(I, .ro), (I, .ro), ((.sl [I]), .ro)] true, .val [((.sl [I]), .ro)] false], [⟨[((.sl [I]), .own)], .one⟩, ⟨[(.bool, .ro)], .one⟩]⟩, [⟨6, 3, ⟨[(1, .ro [I] (v 3)), (2, .ptr 128 0 0), (8, .sc I (v 1000000)), (7, .sc .bool (v 1000001)), (6, .row 704 0)], [(128, .box 0 [.sc I (v 0), .sc I (v 1), .ro [I] (v 2)]), (704, .row 0 0 [I] (v 1000002) true false true)]⟩⟩], [], [], 600, t_s_MatVec⟩
abbrev r_s_MatVec : List Fd := d_s_MatVec :: r_s_VecDot
theorem k_s_MatVec : symFn Try.prog (sigsOf r_s_VecDot) Try.f91 d_s_MatVec.sg d_s_MatVec.heads d_s_MatVec.peel d_s_MatVec.clean d_s_MatVec.fuel = d_s_MatVec.t := by kernel_rfl
theorem o_s_MatVec : TabOk Try.prog r_s_MatVec := .cons o_s_VecDot Try.func91 (by kernel_rfl) (by kernel_rfl) k_s_MatVec

def d_s_VecAdd : Fd := ⟨s_VecAdd, ⟨[.val [((.sl [I]), .ro)] false, .val [((.sl [I]), .ro)] false], [⟨[((.sl [I]), .own)], .one⟩, ⟨[(.bool, .ro)], .one⟩]⟩, [⟨4, 3, ⟨[(1, .ro [I] (v 1)), (0, .ro [I] (v 0)), (8, .sc I (v 1000000)), (7, .sc .bool (v 1000001)), (6, .row 704 0)], [(704, .row 0 0 [I] (v 1000002) true false true)]⟩⟩], [], [], 600, t_s_VecAdd⟩
abbrev r_s_VecAdd : List Fd := d_s_VecAdd :: r_s_MatVec
theorem k_s_VecAdd : symFn Try.prog (sigsOf r_s_MatVec) Try.f93 d_s_VecAdd.sg d_s_VecAdd.heads d_s_VecAdd.peel d_s_VecAdd.clean d_s_VecAdd.fuel = d_s_VecAdd.t := by kernel_rfl
theorem o_s_VecAdd : TabOk Try.prog r_s_VecAdd := .cons o_s_MatVec Try.func93 (by kernel_rfl) (by kernel_rfl) k_s_VecAdd

def d_s_Relu : Fd := ⟨s_Relu, ⟨[.val [(I, .ro)] false], [⟨[(I, .ro)], .one⟩]⟩, [], [], [], 600, t_s_Relu⟩
abbrev r_s_Relu : List Fd := d_s_Relu :: r_s_VecAdd
theorem k_s_Relu : symFn Try.prog (sigsOf r_s_VecAdd) Try.f142 d_s_Relu.sg d_s_Relu.heads d_s_Relu.peel d_s_Relu.clean d_s_Relu.fuel = d_s_Relu.t := by kernel_rfl
theorem o_s_Relu : TabOk Try.prog r_s_Relu := .cons o_s_VecAdd Try.func142 (by kernel_rfl) (by kernel_rfl) k_s_Relu

def d_s_VecRelu : Fd := ⟨s_VecRelu, ⟨[.val [((.sl [I]), .ro)] false], [⟨[((.sl [I]), .own)], .one⟩]⟩, [⟨3, 2, ⟨[(0, .ro [I] (v 0)), (4, .sc I (v 1000000)), (3, .row 320 0)], [(320, .row 0 0 [I] (v 1000001) true false true)]⟩⟩], [], [], 600, t_s_VecRelu⟩
abbrev r_s_VecRelu : List Fd := d_s_VecRelu :: r_s_Relu
theorem k_s_VecRelu : symFn Try.prog (sigsOf r_s_Relu) Try.f94 d_s_VecRelu.sg d_s_VecRelu.heads d_s_VecRelu.peel d_s_VecRelu.clean d_s_VecRelu.fuel = d_s_VecRelu.t := by kernel_rfl
theorem o_s_VecRelu : TabOk Try.prog r_s_VecRelu := .cons o_s_Relu Try.func94 (by kernel_rfl) (by kernel_rfl) k_s_VecRelu

def d_s_VecScale : Fd := ⟨s_VecScale, ⟨[.val [(I, .ro)] false, .val [((.sl [I]), .ro)] false], [⟨[((.sl [I]), .own)], .one⟩, ⟨[(.bool, .ro)], .one⟩]⟩, [⟨4, 3, ⟨[(1, .ro [I] (v 1)), (0, .sc I (v 0)), (8, .sc I (v 1000000)), (7, .sc .bool (v 1000001)), (6, .row 704 0)], [(704, .row 0 0 [I] (v 1000002) true false true)]⟩⟩], [], [], 600, t_s_VecScale⟩
abbrev r_s_VecScale : List Fd := d_s_VecScale :: r_s_VecRelu
theorem k_s_VecScale : symFn Try.prog (sigsOf r_s_VecRelu) Try.f95 d_s_VecScale.sg d_s_VecScale.heads d_s_VecScale.peel d_s_VecScale.clean d_s_VecScale.fuel = d_s_VecScale.t := by kernel_rfl
theorem o_s_VecScale : TabOk Try.prog r_s_VecScale := .cons o_s_VecRelu Try.func95 (by kernel_rfl) (by kernel_rfl) k_s_VecScale

def d_s_OpForward : Fd := ⟨s_OpForward, ⟨[.val [(I, .ro), (I, .ro), (I, .ro), ((.sl [I]), .ro)] true, .val [((.sl [I]), .ro)] false], [⟨[((.sl [I]), .own)], .one⟩, ⟨[(.bool, .ro)], .one⟩]⟩, [], [], [], 600, t_s_OpForward⟩
abbrev r_s_OpForward : List Fd := d_s_OpForward :: r_s_VecScale
theorem k_s_OpForward : symFn Try.prog (sigsOf r_s_VecScale) Try.f39 d_s_OpForward.sg d_s_OpForward.heads d_s_OpForward.peel d_s_OpForward.clean d_s_OpForward.fuel = d_s_OpForward.t := by kernel_rfl
theorem o_s_OpForward : TabOk Try.prog r_s_OpForward := .cons o_s_VecScale Try.func39 (by kernel_rfl) (by kernel_rfl) k_s_OpForward

def d_s_l7Inputs : Fd := ⟨s_l7Inputs, ⟨[.val [((.sl [I, I, I, (.sl [I])]), .ro)] false, .val [((.sl [I]), .ro)] false], [⟨[((.sl [(.sl [I])]), .own)], .one⟩, ⟨[(.bool, .ro)], .one⟩]⟩, [⟨4, 3, ⟨[(0, .ro [I, I, I, (.sl [I])] (v 0)), (8, .sc I (v 1000000)), (7, .sc .bool (v 1000001)), (6, .row 960 0)], [(960, .row 0 0 [(.sl [I])] (v 1000002) true false true)]⟩⟩], [], [], 600, t_s_l7Inputs⟩
abbrev r_s_l7Inputs : List Fd := d_s_l7Inputs :: r_s_OpForward
theorem k_s_l7Inputs : symFn Try.prog (sigsOf r_s_OpForward) Try.f148 d_s_l7Inputs.sg d_s_l7Inputs.heads d_s_l7Inputs.peel d_s_l7Inputs.clean d_s_l7Inputs.fuel = d_s_l7Inputs.t := by kernel_rfl
theorem o_s_l7Inputs : TabOk Try.prog r_s_l7Inputs := .cons o_s_OpForward Try.func148 (by kernel_rfl) (by kernel_rfl) k_s_l7Inputs

def d_s_FixSub : Fd := ⟨s_FixSub, ⟨[.val [(I, .ro)] false, .val [(I, .ro)] false], [⟨[(I, .ro)], .one⟩, ⟨[(.bool, .ro)], .one⟩]⟩, [], [], [], 600, t_s_FixSub⟩
abbrev r_s_FixSub : List Fd := d_s_FixSub :: r_s_l7Inputs
theorem k_s_FixSub : symFn Try.prog (sigsOf r_s_l7Inputs) Try.f119 d_s_FixSub.sg d_s_FixSub.heads d_s_FixSub.peel d_s_FixSub.clean d_s_FixSub.fuel = d_s_FixSub.t := by kernel_rfl
theorem o_s_FixSub : TabOk Try.prog r_s_FixSub := .cons o_s_l7Inputs Try.func119 (by kernel_rfl) (by kernel_rfl) k_s_FixSub

def d_s_VecSub : Fd := ⟨s_VecSub, ⟨[.val [((.sl [I]), .ro)] false, .val [((.sl [I]), .ro)] false], [⟨[((.sl [I]), .own)], .one⟩, ⟨[(.bool, .ro)], .one⟩]⟩, [⟨4, 3, ⟨[(1, .ro [I] (v 1)), (0, .ro [I] (v 0)), (8, .sc I (v 1000000)), (7, .sc .bool (v 1000001)), (6, .row 704 0)], [(704, .row 0 0 [I] (v 1000002) true false true)]⟩⟩], [], [], 600, t_s_VecSub⟩
abbrev r_s_VecSub : List Fd := d_s_VecSub :: r_s_FixSub
theorem k_s_VecSub : symFn Try.prog (sigsOf r_s_FixSub) Try.f150 d_s_VecSub.sg d_s_VecSub.heads d_s_VecSub.peel d_s_VecSub.clean d_s_VecSub.fuel = d_s_VecSub.t := by kernel_rfl
theorem o_s_VecSub : TabOk Try.prog r_s_VecSub := .cons o_s_FixSub Try.func150 (by kernel_rfl) (by kernel_rfl) k_s_VecSub

def d_s_LossOf : Fd := ⟨s_LossOf, ⟨[.val [((.sl [I]), .ro)] false, .val [((.sl [I]), .ro)] false], [⟨[(I, .ro)], .one⟩, ⟨[(.bool, .ro)], .one⟩]⟩, [], [], [], 600, t_s_LossOf⟩
abbrev r_s_LossOf : List Fd := d_s_LossOf :: r_s_VecSub
theorem k_s_LossOf : symFn Try.prog (sigsOf r_s_VecSub) Try.f149 d_s_LossOf.sg d_s_LossOf.heads d_s_LossOf.peel d_s_LossOf.clean d_s_LossOf.fuel = d_s_LossOf.t := by kernel_rfl
theorem o_s_LossOf : TabOk Try.prog r_s_LossOf := .cons o_s_VecSub Try.func149 (by kernel_rfl) (by kernel_rfl) k_s_LossOf

def d_s_VecMask : Fd := ⟨s_VecMask, ⟨[.val [((.sl [I]), .ro)] false, .val [((.sl [I]), .ro)] false], [⟨[((.sl [I]), .own)], .one⟩]⟩, [⟨3, 2, ⟨[(1, .ro [I] (v 1)), (0, .ro [I] (v 0)), (6, .sc I (v 1000000)), (5, .row 448 0)], [(448, .row 0 0 [I] (v 1000001) true false true)]⟩⟩], [], [], 600, t_s_VecMask⟩
abbrev r_s_VecMask : List Fd := d_s_VecMask :: r_s_LossOf
theorem k_s_VecMask : symFn Try.prog (sigsOf r_s_LossOf) Try.f163 d_s_VecMask.sg d_s_VecMask.heads d_s_VecMask.peel d_s_VecMask.clean d_s_VecMask.fuel = d_s_VecMask.t := by kernel_rfl
theorem o_s_VecMask : TabOk Try.prog r_s_VecMask := .cons o_s_LossOf Try.func163 (by kernel_rfl) (by kernel_rfl) k_s_VecMask

def d_s_l4Col : Fd := ⟨s_l4Col, ⟨[.val [(I, .ro), (I, .ro), ((.sl [I]), .ro)] true, .val [(I, .ro)] false], [⟨[((.sl [I]), .own)], .one⟩]⟩, [⟨3, 2, ⟨[(1, .sc I (v 3)), (2, .ptr 128 0 0), (6, .sc I (v 1000000)), (5, .row 448 0)], [(128, .box 0 [.sc I (v 0), .sc I (v 1), .ro [I] (v 2)]), (448, .row 0 0 [I] (v 1000001) true false true)]⟩⟩], [], [], 600, t_s_l4Col⟩
abbrev r_s_l4Col : List Fd := d_s_l4Col :: r_s_VecMask
theorem k_s_l4Col : symFn Try.prog (sigsOf r_s_VecMask) Try.f166 d_s_l4Col.sg d_s_l4Col.heads d_s_l4Col.peel d_s_l4Col.clean d_s_l4Col.fuel = d_s_l4Col.t := by kernel_rfl
theorem o_s_l4Col : TabOk Try.prog r_s_l4Col := .cons o_s_VecMask Try.func166 (by kernel_rfl) (by kernel_rfl) k_s_l4Col

def d_s_MatBack : Fd := ⟨s_MatBack, ⟨[.val [(I, .ro), (I, .ro), ((.sl [I]), .ro)] true, .val [((.sl [I]), .ro)] false], [⟨[((.sl [I]), .own)], .one⟩, ⟨[(.bool, .ro)], .one⟩]⟩, [⟨6, 3, ⟨[(1, .ro [I] (v 3)), (2, .ptr 128 0 0), (8, .sc I (v 1000000)), (7, .sc .bool (v 1000001)), (6, .row 704 0)], [(128, .box 0 [.sc I (v 0), .sc I (v 1), .ro [I] (v 2)]), (704, .row 0 0 [I] (v 1000002) true false true)]⟩⟩], [], [], 600, t_s_MatBack⟩
abbrev r_s_MatBack : List Fd := d_s_MatBack :: r_s_l4Col
theorem k_s_MatBack : symFn Try.prog (sigsOf r_s_l4Col) Try.f164 d_s_MatBack.sg d_s_MatBack.heads d_s_MatBack.peel d_s_MatBack.clean d_s_MatBack.fuel = d_s_MatBack.t := by kernel_rfl
theorem o_s_MatBack : TabOk Try.prog r_s_MatBack := .cons o_s_l4Col Try.func164 (by kernel_rfl) (by kernel_rfl) k_s_MatBack

def d_s_Outer : Fd := ⟨s_Outer, ⟨[.val [((.sl [I]), .ro)] false, .val [((.sl [I]), .ro)] false], [⟨[(I, .ro), (I, .ro), ((.sl [I]), .own)], .agg⟩, ⟨[(.bool, .ro)], .one⟩]⟩, [⟨6, 3, ⟨[(6, .ptr 384 0 0), (1, .ro [I] (v 1)), (8, .sc I (v 1000000)), (0, .ro [I] (v 0)), (4, .ptr 256 0 0), (7, .sc .bool (v 1000001))], [(384, .box 0 [.sc I (ln (v 0)), .sc I (ln (v 1)), .row 900200 0]), (900200, .row 0 0 [I] (v 1000002) true false true), (256, .box 0 [.sc I (n 0), .sc I (n 0), .nil])]⟩⟩,
  ⟨9, 4, ⟨[(6, .ptr 384 0 0), (1, .ro [I] (v 1)), (8, .sc I (v 1000000)), (0, .ro [I] (v 0)), (4, .ptr 256 0 0), (9, .sc I (v 1000001)), (7, .sc .bool (v 1000002))], [(384, .box 0 [.sc I (ln (v 0)), .sc I (ln (v 1)), .row 900200 0]), (900200, .row 0 0 [I] (v 1000003) true false true), (256, .box 0 [.sc I (n 0), .sc I (n 0), .nil])]⟩⟩], [], [], 600, t_s_Outer⟩
abbrev r_s_Outer : List Fd := d_s_Outer :: r_s_MatBack
theorem k_s_Outer : symFn Try.prog (sigsOf r_s_MatBack) Try.f165 d_s_Outer.sg d_s_Outer.heads d_s_Outer.peel d_s_Outer.clean d_s_Outer.fuel = d_s_Outer.t := by kernel_rfl
theorem o_s_Outer : TabOk Try.prog r_s_Outer := .cons o_s_MatBack Try.func165 (by kernel_rfl) (by kernel_rfl) k_s_Outer

def d_s_OpBackward : Fd := ⟨s_OpBackward, ⟨[.val [(I, .ro), (I, .ro), (I, .ro), ((.sl [I]), .ro)] true, .val [((.sl [I]), .ro)] false, .val [((.sl [I]), .ro)] false], [⟨[((.sl [I]), .own)], .one⟩, ⟨[((.sl [I]), .own)], .one⟩, ⟨[(.bool, .ro)], .one⟩]⟩, [], [], [], 600, t_s_OpBackward⟩
abbrev r_s_OpBackward : List Fd := d_s_OpBackward :: r_s_Outer
theorem k_s_OpBackward : symFn Try.prog (sigsOf r_s_Outer) Try.f161 d_s_OpBackward.sg d_s_OpBackward.heads d_s_OpBackward.peel d_s_OpBackward.clean d_s_OpBackward.fuel = d_s_OpBackward.t := by kernel_rfl
theorem o_s_OpBackward : TabOk Try.prog r_s_OpBackward := .cons o_s_Outer Try.func161 (by kernel_rfl) (by kernel_rfl) k_s_OpBackward

def d_s_l7Back : Fd := ⟨s_l7Back, ⟨[.val [((.sl [I, I, I, (.sl [I])]), .ro)] false, .val [((.sl [(.sl [I])]), .ro)] false, .val [((.sl [I]), .ro)] false], [⟨[((.sl [(.sl [I])]), .own)], .one⟩, ⟨[((.sl [I]), .ro)], .one⟩, ⟨[(.bool, .ro)], .one⟩]⟩, [⟨4, 4, ⟨[(9, .row 1088 0), (1, .ro [(.sl [I])] (v 1)), (0, .ro [I, I, I, (.sl [I])] (v 0)), (11, .sc I (v 1000000)), (10, .sc .bool (v 1000001)), (2, .ro [I] (v 1000002))], [(1088, .row 0 0 [(.sl [I])] (v 1000003) true false true)]⟩⟩], [], [], 600, t_s_l7Back⟩
abbrev r_s_l7Back : List Fd := d_s_l7Back :: r_s_OpBackward
theorem k_s_l7Back : symFn Try.prog (sigsOf r_s_OpBackward) Try.f151 d_s_l7Back.sg d_s_l7Back.heads d_s_l7Back.peel d_s_l7Back.clean d_s_l7Back.fuel = d_s_l7Back.t := by kernel_rfl
theorem o_s_l7Back : TabOk Try.prog r_s_l7Back := .cons o_s_OpBackward Try.func151 (by kernel_rfl) (by kernel_rfl) k_s_l7Back

def d_s_MicroGrads : Fd := ⟨s_MicroGrads, ⟨[.val [((.sl [I, I, I, (.sl [I])]), .ro)] true, .val [((.sl [I]), .ro), ((.sl [I]), .ro)] true], [⟨[((.sl [(.sl [I])]), .own), (I, .ro), (.bool, .ro)], .agg⟩]⟩, [], [], [], 600, t_s_MicroGrads⟩
abbrev r_s_MicroGrads : List Fd := d_s_MicroGrads :: r_s_l7Back
theorem k_s_MicroGrads : symFn Try.prog (sigsOf r_s_l7Back) Try.f108 d_s_MicroGrads.sg d_s_MicroGrads.heads d_s_MicroGrads.peel d_s_MicroGrads.clean d_s_MicroGrads.fuel = d_s_MicroGrads.t := by kernel_rfl
theorem o_s_MicroGrads : TabOk Try.prog r_s_MicroGrads := .cons o_s_l7Back Try.func108 (by kernel_rfl) (by kernel_rfl) k_s_MicroGrads

def d_s_l7Add : Fd := ⟨s_l7Add, ⟨[.val [((.sl [I]), .ro)] false, .val [((.sl [I]), .ro)] false], [⟨[((.sl [I]), .own)], .one⟩, ⟨[(.bool, .ro)], .one⟩]⟩, [⟨4, 3, ⟨[(1, .ro [I] (v 1)), (0, .ro [I] (v 0)), (8, .sc I (v 1000000)), (7, .sc .bool (v 1000001)), (6, .row 704 0)], [(704, .row 0 0 [I] (v 1000002) true false true)]⟩⟩], [], [], 600, t_s_l7Add⟩
abbrev r_s_l7Add : List Fd := d_s_l7Add :: r_s_MicroGrads
theorem k_s_l7Add : symFn Try.prog (sigsOf r_s_MicroGrads) Try.f104 d_s_l7Add.sg d_s_l7Add.heads d_s_l7Add.peel d_s_l7Add.clean d_s_l7Add.fuel = d_s_l7Add.t := by kernel_rfl
theorem o_s_l7Add : TabOk Try.prog r_s_l7Add := .cons o_s_MicroGrads Try.func104 (by kernel_rfl) (by kernel_rfl) k_s_l7Add

def d_s_AddGrads : Fd := ⟨s_AddGrads, ⟨[.val [((.sl [(.sl [I])]), .ro), (I, .ro), (.bool, .ro)] true, .val [((.sl [(.sl [I])]), .ro), (I, .ro), (.bool, .ro)] true], [⟨[((.sl [(.sl [I])]), .own), (I, .ro), (.bool, .ro)], .agg⟩]⟩, [⟨3, 3, ⟨[(5, .ptr 320 0 0), (3, .ptr 192 0 0), (2, .ptr 128 0 0), (4, .ptr 256 0 0), (6, .sc I (v 1000000))], [(320, .box 0 [.row 900400 0, .sc I (n 0), .sc .bool (v 1000001)]), (900400, .row 0 0 [(.sl [I])] (v 1000002) true false true), (192, .box 0 [.ro [(.sl [I])] (v 3), .sc I (v 4), .sc .bool (v 5)]), (128, .box 0 [.ro [(.sl [I])] (v 0), .sc I (v 1), .sc .bool (v 2)]), (256, .box 0 [.nil, .sc I (n 0), .sc .bool ff])]⟩⟩], [], [], 600, t_s_AddGrads⟩
abbrev r_s_AddGrads : List Fd := d_s_AddGrads :: r_s_l7Add
theorem k_s_AddGrads : symFn Try.prog (sigsOf r_s_l7Add) Try.f51 d_s_AddGrads.sg d_s_AddGrads.heads d_s_AddGrads.peel d_s_AddGrads.clean d_s_AddGrads.fuel = d_s_AddGrads.t := by kernel_rfl
theorem o_s_AddGrads : TabOk Try.prog r_s_AddGrads := .cons o_s_l7Add Try.func51 (by kernel_rfl) (by kernel_rfl) k_s_AddGrads

def d_s_Sequential : Fd := ⟨s_Sequential, ⟨[.val [((.sl [I, I, I, (.sl [I])]), .ro)] true, .val [((.sl [(.sl [I]), (.sl [I])]), .ro)] false], [⟨[((.sl [(.sl [I])]), .own), (I, .ro), (.bool, .ro)], .agg⟩]⟩, [⟨5, 4, ⟨[(5, .ptr 320 0 0), (1, .ro [(.sl [I]), (.sl [I])] (v 1)), (2, .ptr 128 0 0), (4, .ptr 256 0 0), (6, .sc I (v 1000000))], [(320, .box 0 [.row 832 0, .sc I (v 1000001), .sc .bool (v 1000002)]), (832, .row 0 0 [(.sl [I])] (v 1000003) true false true), (128, .box 0 [.ro [I, I, I, (.sl [I])] (v 0)]), (256, .box 0 [.nil, .sc I (n 0), .sc .bool ff])]⟩⟩], [], [], 600, t_s_Sequential⟩
abbrev r_s_Sequential : List Fd := d_s_Sequential :: r_s_AddGrads
theorem k_s_Sequential : symFn Try.prog (sigsOf r_s_AddGrads) Try.f53 d_s_Sequential.sg d_s_Sequential.heads d_s_Sequential.peel d_s_Sequential.clean d_s_Sequential.fuel = d_s_Sequential.t := by kernel_rfl
theorem o_s_Sequential : TabOk Try.prog r_s_Sequential := .cons o_s_AddGrads Try.func53 (by kernel_rfl) (by kernel_rfl) k_s_Sequential

def d_s_SwingNew : Fd := ⟨s_SwingNew, ⟨[.val [((.sl [I, I, I, (.sl [I])]), .ro)] true], [⟨[((.sl [(.sl [I])]), .own), (I, .ro)], .agg⟩]⟩, [], [], [], 600, t_s_SwingNew⟩
abbrev r_s_SwingNew : List Fd := d_s_SwingNew :: r_s_Sequential
theorem k_s_SwingNew : symFn Try.prog (sigsOf r_s_Sequential) Try.f147 d_s_SwingNew.sg d_s_SwingNew.heads d_s_SwingNew.peel d_s_SwingNew.clean d_s_SwingNew.fuel = d_s_SwingNew.t := by kernel_rfl
theorem o_s_SwingNew : TabOk Try.prog r_s_SwingNew := .cons o_s_Sequential Try.func147 (by kernel_rfl) (by kernel_rfl) k_s_SwingNew

def d_s_l11Rows : Fd := ⟨s_l11Rows, ⟨[.val [((.sl [(.sl [I])]), .ro)] false], [⟨[((.sl [(.sl [I])]), .own)], .one⟩]⟩, [⟨3, 2, ⟨[(0, .ro [(.sl [I])] (v 0)), (4, .sc I (v 1000000)), (3, .row 320 0)], [(320, .row 0 0 [(.sl [I])] (v 1000001) true false true)]⟩⟩], [], [], 600, t_s_l11Rows⟩
abbrev r_s_l11Rows : List Fd := d_s_l11Rows :: r_s_SwingNew
theorem k_s_l11Rows : symFn Try.prog (sigsOf r_s_SwingNew) Try.f68 d_s_l11Rows.sg d_s_l11Rows.heads d_s_l11Rows.peel d_s_l11Rows.clean d_s_l11Rows.fuel = d_s_l11Rows.t := by kernel_rfl
theorem o_s_l11Rows : TabOk Try.prog r_s_l11Rows := .cons o_s_SwingNew Try.func68 (by kernel_rfl) (by kernel_rfl) k_s_l11Rows

def d_s_l11Ops : Fd := ⟨s_l11Ops, ⟨[.val [((.sl [I, I, I, (.sl [I])]), .ro)] false], [⟨[((.sl [I, I, I, (.sl [I])]), .own)], .one⟩]⟩, [⟨3, 2, ⟨[(0, .ro [I, I, I, (.sl [I])] (v 0)), (4, .sc I (v 1000000)), (3, .row 384 0)], [(384, .row 0 0 [I, I, I, (.sl [I])] (v 1000001) true false true)]⟩⟩], [], [], 600, t_s_l11Ops⟩
abbrev r_s_l11Ops : List Fd := d_s_l11Ops :: r_s_l11Rows
theorem k_s_l11Ops : symFn Try.prog (sigsOf r_s_l11Rows) Try.f118 d_s_l11Ops.sg d_s_l11Ops.heads d_s_l11Ops.peel d_s_l11Ops.clean d_s_l11Ops.fuel = d_s_l11Ops.t := by kernel_rfl
theorem o_s_l11Ops : TabOk Try.prog r_s_l11Ops := .cons o_s_l11Rows Try.func118 (by kernel_rfl) (by kernel_rfl) k_s_l11Ops

def d_s_Learn : Fd := ⟨s_Learn, ⟨[.val [((.sl [I, I, I, (.sl [I])]), .ro)] true, .val [((.sl [(.sl [I])]), .ro), (I, .ro), (.bool, .ro)] true, .val [(I, .ro)] false], [⟨[((.sl [I, I, I, (.sl [I])]), .own)], .agg⟩, ⟨[(.bool, .ro)], .one⟩]⟩, [⟨6, 3, ⟨[(6, .ptr 384 0 0), (3, .ptr 192 0 0), (10, .sc I (v 1000000)), (4, .ptr 256 0 0), (2, .sc I (v 4)), (8, .ptr 512 0 0), (9, .sc .bool (v 1000001))], [(384, .box 0 [.nil]), (192, .box 0 [.ro [I, I, I, (.sl [I])] (v 0)]), (256, .box 0 [.ro [(.sl [I])] (v 1), .sc I (v 2), .sc .bool (v 3)]), (512, .box 0 [.row 1216 0]), (1216, .row 0 0 [I, I, I, (.sl [I])] (v 1000002) true false true)]⟩⟩,
  ⟨12, 5, ⟨[(10, .sc I (v 1000000)), (3, .ptr 192 0 0), (4, .ptr 256 0 0), (2, .sc I (v 4)), (6, .ptr 384 0 0), (8, .ptr 512 0 0), (12, .sc I (v 1000001)), (9, .sc .bool (v 1000002)), (11, .row 4160 0)], [(192, .box 0 [.ro [I, I, I, (.sl [I])] (v 0)]), (256, .box 0 [.ro [(.sl [I])] (v 1), .sc I (v 2), .sc .bool (v 3)]), (384, .box 0 [.nil]), (512, .box 0 [.row 1216 0]), (1216, .row 0 0 [I, I, I, (.sl [I])] (v 1000003) true false true), (4160, .row 0 0 [I] (v 1000004) true false true)]⟩⟩], [], [], 600, t_s_Learn⟩
abbrev r_s_Learn : List Fd := d_s_Learn :: r_s_l11Ops
theorem k_s_Learn : symFn Try.prog (sigsOf r_s_l11Ops) Try.f69 d_s_Learn.sg d_s_Learn.heads d_s_Learn.peel d_s_Learn.clean d_s_Learn.fuel = d_s_Learn.t := by kernel_rfl
theorem o_s_Learn : TabOk Try.prog r_s_Learn := .cons o_s_l11Ops Try.func69 (by kernel_rfl) (by kernel_rfl) k_s_Learn

def d_s_SwingOk : Fd := ⟨s_SwingOk, ⟨[.val [((.sl [I, I, I, (.sl [I])]), .ro)] true, .val [((.sl [(.sl [I])]), .ro), (I, .ro)] true], [⟨[(.bool, .ro)], .one⟩]⟩, [⟨4, 1, ⟨[(5, .sc I (v 1000000)), (3, .ptr 192 0 0), (2, .ptr 128 0 0)], [(192, .box 0 [.ro [(.sl [I])] (v 1), .sc I (v 2)]), (128, .box 0 [.ro [I, I, I, (.sl [I])] (v 0)])]⟩⟩,
  ⟨9, 2, ⟨[(5, .sc I (v 1000000)), (3, .ptr 192 0 0), (2, .ptr 128 0 0), (6, .sc I (v 1000001))], [(192, .box 0 [.ro [(.sl [I])] (v 1), .sc I (v 2)]), (128, .box 0 [.ro [I, I, I, (.sl [I])] (v 0)])]⟩⟩], [], [], 600, t_s_SwingOk⟩
abbrev r_s_SwingOk : List Fd := d_s_SwingOk :: r_s_Learn
theorem k_s_SwingOk : symFn Try.prog (sigsOf r_s_Learn) Try.f43 d_s_SwingOk.sg d_s_SwingOk.heads d_s_SwingOk.peel d_s_SwingOk.clean d_s_SwingOk.fuel = d_s_SwingOk.t := by kernel_rfl
theorem o_s_SwingOk : TabOk Try.prog r_s_SwingOk := .cons o_s_Learn Try.func43 (by kernel_rfl) (by kernel_rfl) k_s_SwingOk

def d_s_SwingStep : Fd := ⟨s_SwingStep, ⟨[.val [((.sl [I, I, I, (.sl [I])]), .ro)] true, .val [((.sl [(.sl [I])]), .ro), (I, .ro)] true, .val [((.sl [(.sl [I])]), .ro), (I, .ro), (.bool, .ro)] true, .val [(I, .ro)] false, .val [(I, .ro)] false], [⟨[((.sl [I, I, I, (.sl [I])]), .own)], .agg⟩, ⟨[((.sl [(.sl [I])]), .own), (I, .ro)], .agg⟩, ⟨[(.bool, .ro)], .one⟩]⟩, [⟨8, 3, ⟨[(10, .ptr 640 0 0), (11, .ptr 704 0 0), (13, .ptr 832 0 0), (14, .ptr 896 0 0), (18, .sc I (v 1000000)), (7, .ptr 448 0 0), (6, .ptr 384 0 0), (4, .sc I (v 7)), (17, .ptr 1088 0 0), (5, .ptr 320 0 0), (3, .sc I (v 6)), (16, .sc .bool (v 1000001))], [(640, .box 0 [.nil]), (704, .box 0 [.nil, .sc I (n 0)]), (832, .box 0 [.row 1856 0, .sc I (v 2)]), (1856, .row 0 0 [(.sl [I])] (fn s_l11Rows 0 [(v 1)]) true false true), (896, .box 0 [.row 2304 0]), (2304, .row 0 0 [I, I, I, (.sl [I])] (fn s_Learn 0 [(v 0), .nil, (n 0), ff, (n 0)]) true false true), (448, .box 0 [.ro [(.sl [I])] (v 3), .sc I (v 4), .sc .bool (v 5)]), (384, .box 0 [.ro [(.sl [I])] (v 1), .sc I (v 2)]), (1088, .box 0 [.row 901000 0, .sc I (ad (v 2) (n 1))]), (901000, .row 0 0 [(.sl [I])] (v 1000002) true false true), (320, .box 0 [.ro [I, I, I, (.sl [I])] (v 0)])]⟩⟩,
  ⟨14, 5, ⟨[(18, .sc I (v 1000000)), (7, .ptr 448 0 0), (6, .ptr 384 0 0), (4, .sc I (v 7)), (10, .ptr 640 0 0), (11, .ptr 704 0 0), (13, .ptr 832 0 0), (14, .ptr 896 0 0), (17, .ptr 1088 0 0), (5, .ptr 320 0 0), (3, .sc I (v 6)), (20, .sc I (v 1000001)), (16, .sc .bool (v 1000002)), (19, .row 6208 0)], [(448, .box 0 [.ro [(.sl [I])] (v 3), .sc I (v 4), .sc .bool (v 5)]), (384, .box 0 [.ro [(.sl [I])] (v 1), .sc I (v 2)]), (640, .box 0 [.nil]), (704, .box 0 [.nil, .sc I (n 0)]), (832, .box 0 [.row 1856 0, .sc I (v 2)]), (1856, .row 0 0 [(.sl [I])] (fn s_l11Rows 0 [(v 1)]) true false true), (896, .box 0 [.row 2304 0]), (2304, .row 0 0 [I, I, I, (.sl [I])] (fn s_Learn 0 [(v 0), .nil, (n 0), ff, (n 0)]) true false true), (1088, .box 0 [.row 901100 0, .sc I (ad (v 2) (n 1))]), (901100, .row 0 0 [(.sl [I])] (v 1000003) true false true), (320, .box 0 [.ro [I, I, I, (.sl [I])] (v 0)]), (6208, .row 0 0 [I] (v 1000004) true false true)]⟩⟩], [], [], 600, t_s_SwingStep⟩
abbrev r_s_SwingStep : List Fd := d_s_SwingStep :: r_s_SwingOk
theorem k_s_SwingStep : symFn Try.prog (sigsOf r_s_SwingOk) Try.f21 d_s_SwingStep.sg d_s_SwingStep.heads d_s_SwingStep.peel d_s_SwingStep.clean d_s_SwingStep.fuel = d_s_SwingStep.t := by kernel_rfl
theorem o_s_SwingStep : TabOk Try.prog r_s_SwingStep := .cons o_s_SwingOk Try.func21 (by kernel_rfl) (by kernel_rfl) k_s_SwingStep

def d_s_l24Swing : Fd := ⟨s_l24Swing, ⟨[.box [((.sl [Y]), .kept), (I, .ro), (I, .ro)]], [⟨[((.sl [I, I, I, (.sl [I])]), .ro)], .agg⟩, ⟨[((.sl [(.sl [I])]), .ro), (I, .ro)], .agg⟩, ⟨[((.sl [(.sl [I])]), .ro), (I, .ro), (.bool, .ro)], .agg⟩]⟩, [⟨5, 4, ⟨[(7, .ptr 448 0 0), (5, .ptr 320 0 0), (6, .ptr 384 0 0), (2, .ptr 128 0 0), (3, .ptr 192 0 0), (4, .ptr 256 0 0), (0, .ptr 63 0 0), (8, .sc I (v 1000000))], [(448, .box 0 [.row 1280 0, .sc I (v 1000001)]), (1280, .row 0 0 [(.sl [I])] (v 1000002) true false true), (320, .box 0 [.row 832 0]), (832, .row 0 0 [I, I, I, (.sl [I])] (v 1000003) true false true), (384, .box 0 [.row 1152 0, .sc I (fn s_Sequential 1 [(fn s_l6Model 0 [(v 0), (v 1), (v 2)]), (fn s_l6Batch 0 [(v 0), (fn s_l6Model 2 [(v 0), (v 1), (v 2)]), (fn s_l6Model 3 [(v 0), (v 1), (v 2)]), (fn s_l6Model 0 [(v 0), (v 1), (v 2)])])]), .sc .bool (fn s_Sequential 2 [(fn s_l6Model 0 [(v 0), (v 1), (v 2)]), (fn s_l6Batch 0 [(v 0), (fn s_l6Model 2 [(v 0), (v 1), (v 2)]), (fn s_l6Model 3 [(v 0), (v 1), (v 2)]), (fn s_l6Model 0 [(v 0), (v 1), (v 2)])])])]), (1152, .row 0 0 [(.sl [I])] (fn s_Sequential 0 [(fn s_l6Model 0 [(v 0), (v 1), (v 2)]), (fn s_l6Batch 0 [(v 0), (fn s_l6Model 2 [(v 0), (v 1), (v 2)]), (fn s_l6Model 3 [(v 0), (v 1), (v 2)]), (fn s_l6Model 0 [(v 0), (v 1), (v 2)])])]) true false true), (128, .box 0 [.nil]), (192, .box 0 [.nil, .sc I (n 0)]), (256, .box 0 [.nil, .sc I (n 0), .sc .bool ff]), (63, .box 0 [.orig [Y] 0, .sc I (fn s_l1Below 2 [(v 0), (fn s_l6Batch 2 [(v 0), (fn s_l6Model 2 [(v 0), (v 1), (v 2)]), (fn s_l6Model 3 [(v 0), (v 1), (v 2)]), (fn s_l6Model 0 [(v 0), (v 1), (v 2)])]), (fn s_l6Batch 3 [(v 0), (fn s_l6Model 2 [(v 0), (v 1), (v 2)]), (fn s_l6Model 3 [(v 0), (v 1), (v 2)]), (fn s_l6Model 0 [(v 0), (v 1), (v 2)])]), (n 3)]), .sc I (fn s_l1Below 3 [(v 0), (fn s_l6Batch 2 [(v 0), (fn s_l6Model 2 [(v 0), (v 1), (v 2)]), (fn s_l6Model 3 [(v 0), (v 1), (v 2)]), (fn s_l6Model 0 [(v 0), (v 1), (v 2)])]), (fn s_l6Batch 3 [(v 0), (fn s_l6Model 2 [(v 0), (v 1), (v 2)]), (fn s_l6Model 3 [(v 0), (v 1), (v 2)]), (fn s_l6Model 0 [(v 0), (v 1), (v 2)])]), (n 3)])])]⟩⟩], [], [], 600, t_s_l24Swing⟩
abbrev r_s_l24Swing : List Fd := d_s_l24Swing :: r_s_SwingStep
theorem k_s_l24Swing : symFn Try.prog (sigsOf r_s_SwingStep) Try.f100 d_s_l24Swing.sg d_s_l24Swing.heads d_s_l24Swing.peel d_s_l24Swing.clean d_s_l24Swing.fuel = d_s_l24Swing.t := by kernel_rfl
theorem o_s_l24Swing : TabOk Try.prog r_s_l24Swing := .cons o_s_SwingStep Try.func100 (by kernel_rfl) (by kernel_rfl) k_s_l24Swing

def d_s_DrawSwingStep : Fd := ⟨s_DrawSwingStep, ⟨[.val [((.sl [Y]), .ro)] false], [⟨[((.sl [I, I, I, (.sl [I])]), .ro)], .agg⟩, ⟨[((.sl [(.sl [I])]), .ro), (I, .ro)], .agg⟩, ⟨[((.sl [(.sl [I])]), .ro), (I, .ro), (.bool, .ro)], .agg⟩, ⟨[(I, .ro)], .one⟩, ⟨[(I, .ro)], .one⟩]⟩, [], [], [], 600, t_s_DrawSwingStep⟩
abbrev r_s_DrawSwingStep : List Fd := d_s_DrawSwingStep :: r_s_l24Swing
theorem k_s_DrawSwingStep : symFn Try.prog (sigsOf r_s_l24Swing) Try.f41 d_s_DrawSwingStep.sg d_s_DrawSwingStep.heads d_s_DrawSwingStep.peel d_s_DrawSwingStep.clean d_s_DrawSwingStep.fuel = d_s_DrawSwingStep.t := by kernel_rfl
theorem o_s_DrawSwingStep : TabOk Try.prog r_s_DrawSwingStep := .cons o_s_l24Swing Try.func41 (by kernel_rfl) (by kernel_rfl) k_s_DrawSwingStep

def d_i_copyInts : Fd := ⟨i_copyInts, ⟨[.val [((.sl [I]), .ro)] false], [⟨[((.sl [I]), .own)], .one⟩]⟩, [], [], [], 600, t_i_copyInts⟩
abbrev r_i_copyInts : List Fd := d_i_copyInts :: r_s_DrawSwingStep
theorem k_i_copyInts : symFn Try.prog (sigsOf r_s_DrawSwingStep) Try.f89 d_i_copyInts.sg d_i_copyInts.heads d_i_copyInts.peel d_i_copyInts.clean d_i_copyInts.fuel = d_i_copyInts.t := by kernel_rfl
theorem o_i_copyInts : TabOk Try.prog r_i_copyInts := .cons o_s_DrawSwingStep Try.func89 (by kernel_rfl) (by kernel_rfl) k_i_copyInts

def d_i_copyRows : Fd := ⟨i_copyRows, ⟨[.val [((.sl [(.sl [I])]), .ro)] false], [⟨[((.sl [(.sl [I])]), .own)], .one⟩]⟩, [⟨3, 2, ⟨[(7, .ro [(.sl [I])] (v 0)), (8, .sc I (ln (v 0))), (9, .sc I (v 1000000)), (3, .row 384 0)], [(384, .row 0 0 [(.sl [I])] (v 1000001) true false true)]⟩⟩], [], [], 600, t_i_copyRows⟩
abbrev r_i_copyRows : List Fd := d_i_copyRows :: r_i_copyInts
theorem k_i_copyRows : symFn Try.prog (sigsOf r_i_copyInts) Try.f75 d_i_copyRows.sg d_i_copyRows.heads d_i_copyRows.peel d_i_copyRows.clean d_i_copyRows.fuel = d_i_copyRows.t := by kernel_rfl
theorem o_i_copyRows : TabOk Try.prog r_i_copyRows := .cons o_i_copyInts Try.func75 (by kernel_rfl) (by kernel_rfl) k_i_copyRows

def d_i_OpSize : Fd := ⟨i_OpSize, ⟨[.val [(I, .ro), (I, .ro), (I, .ro), ((.sl [I]), .ro)] true], [⟨[(I, .ro)], .one⟩]⟩, [], [], [], 600, t_i_OpSize⟩
abbrev r_i_OpSize : List Fd := d_i_OpSize :: r_i_copyRows
theorem k_i_OpSize : symFn Try.prog (sigsOf r_i_copyRows) Try.f152 d_i_OpSize.sg d_i_OpSize.heads d_i_OpSize.peel d_i_OpSize.clean d_i_OpSize.fuel = d_i_OpSize.t := by kernel_rfl
theorem o_i_OpSize : TabOk Try.prog r_i_OpSize := .cons o_i_copyRows Try.func152 (by kernel_rfl) (by kernel_rfl) k_i_OpSize

def d_i_FixOk : Fd := ⟨i_FixOk, ⟨[.val [(I, .ro)] false], [⟨[(.bool, .ro)], .one⟩]⟩, [], [], [], 600, t_i_FixOk⟩
abbrev r_i_FixOk : List Fd := d_i_FixOk :: r_i_OpSize
theorem k_i_FixOk : symFn Try.prog (sigsOf r_i_OpSize) Try.f59 d_i_FixOk.sg d_i_FixOk.heads d_i_FixOk.peel d_i_FixOk.clean d_i_FixOk.fuel = d_i_FixOk.t := by kernel_rfl
theorem o_i_FixOk : TabOk Try.prog r_i_FixOk := .cons o_i_OpSize Try.func59 (by kernel_rfl) (by kernel_rfl) k_i_FixOk

def d_i_allFix : Fd := ⟨i_allFix, ⟨[.val [((.sl [I]), .ro)] false], [⟨[(.bool, .ro)], .one⟩]⟩, [⟨2, 1, ⟨[(5, .ro [I] (v 0)), (6, .sc I (ln (v 0))), (7, .sc I (v 1000000))], []⟩⟩], [], [], 600, t_i_allFix⟩
abbrev r_i_allFix : List Fd := d_i_allFix :: r_i_FixOk
theorem k_i_allFix : symFn Try.prog (sigsOf r_i_FixOk) Try.f102 d_i_allFix.sg d_i_allFix.heads d_i_allFix.peel d_i_allFix.clean d_i_allFix.fuel = d_i_allFix.t := by kernel_rfl
theorem o_i_allFix : TabOk Try.prog r_i_allFix := .cons o_i_FixOk Try.func102 (by kernel_rfl) (by kernel_rfl) k_i_allFix

def d_i_OpOk : Fd := ⟨i_OpOk, ⟨[.val [(I, .ro), (I, .ro), (I, .ro), ((.sl [I]), .ro)] true], [⟨[(.bool, .ro)], .one⟩]⟩, [], [], [], 600, t_i_OpOk⟩
abbrev r_i_OpOk : List Fd := d_i_OpOk :: r_i_allFix
theorem k_i_OpOk : symFn Try.prog (sigsOf r_i_allFix) Try.f112 d_i_OpOk.sg d_i_OpOk.heads d_i_OpOk.peel d_i_OpOk.clean d_i_OpOk.fuel = d_i_OpOk.t := by kernel_rfl
theorem o_i_OpOk : TabOk Try.prog r_i_OpOk := .cons o_i_allFix Try.func112 (by kernel_rfl) (by kernel_rfl) k_i_OpOk

def d_i_ModelOk : Fd := ⟨i_ModelOk, ⟨[.val [((.sl [I, I, I, (.sl [I])]), .ro)] true], [⟨[(.bool, .ro)], .one⟩]⟩, [⟨4, 1, ⟨[(1, .ptr 64 0 0), (16, .ro [I, I, I, (.sl [I])] (v 0)), (17, .sc I (ln (v 0))), (18, .sc I (v 1000000))], [(64, .box 0 [.ro [I, I, I, (.sl [I])] (v 0)])]⟩⟩], [], [], 600, t_i_ModelOk⟩
abbrev r_i_ModelOk : List Fd := d_i_ModelOk :: r_i_OpOk
theorem k_i_ModelOk : symFn Try.prog (sigsOf r_i_OpOk) Try.f58 d_i_ModelOk.sg d_i_ModelOk.heads d_i_ModelOk.peel d_i_ModelOk.clean d_i_ModelOk.fuel = d_i_ModelOk.t := by kernel_rfl
theorem o_i_ModelOk : TabOk Try.prog r_i_ModelOk := .cons o_i_OpOk Try.func58 (by kernel_rfl) (by kernel_rfl) k_i_ModelOk

def d_i_gradsFit : Fd := ⟨i_gradsFit, ⟨[.val [((.sl [I, I, I, (.sl [I])]), .ro)] true, .val [((.sl [(.sl [I])]), .ro)] false], [⟨[(.bool, .ro)], .one⟩]⟩, [⟨4, 1, ⟨[(1, .ro [(.sl [I])] (v 1)), (14, .ro [I, I, I, (.sl [I])] (v 0)), (15, .sc I (ln (v 0))), (16, .sc I (v 1000000))], []⟩⟩], [], [], 600, t_i_gradsFit⟩
abbrev r_i_gradsFit : List Fd := d_i_gradsFit :: r_i_ModelOk
theorem k_i_gradsFit : symFn Try.prog (sigsOf r_i_ModelOk) Try.f60 d_i_gradsFit.sg d_i_gradsFit.heads d_i_gradsFit.peel d_i_gradsFit.clean d_i_gradsFit.fuel = d_i_gradsFit.t := by kernel_rfl
theorem o_i_gradsFit : TabOk Try.prog r_i_gradsFit := .cons o_i_ModelOk Try.func60 (by kernel_rfl) (by kernel_rfl) k_i_gradsFit

def d_i_SwingOk : Fd := ⟨i_SwingOk, ⟨[.val [((.sl [I, I, I, (.sl [I])]), .ro)] true, .val [((.sl [(.sl [I])]), .ro), (I, .ro)] true], [⟨[(.bool, .ro)], .one⟩]⟩, [⟨4, 1, ⟨[(23, .ro [(.sl [I])] (v 1)), (24, .sc I (ln (v 1))), (25, .sc I (v 1000000))], []⟩⟩], [], [], 600, t_i_SwingOk⟩
abbrev r_i_SwingOk : List Fd := d_i_SwingOk :: r_i_gradsFit
theorem k_i_SwingOk : symFn Try.prog (sigsOf r_i_gradsFit) Try.f44 d_i_SwingOk.sg d_i_SwingOk.heads d_i_SwingOk.peel d_i_SwingOk.clean d_i_SwingOk.fuel = d_i_SwingOk.t := by kernel_rfl
theorem o_i_SwingOk : TabOk Try.prog r_i_SwingOk := .cons o_i_gradsFit Try.func44 (by kernel_rfl) (by kernel_rfl) k_i_SwingOk

def d_i_copyOps : Fd := ⟨i_copyOps, ⟨[.val [((.sl [I, I, I, (.sl [I])]), .ro)] false], [⟨[((.sl [I, I, I, (.sl [I])]), .own)], .one⟩]⟩, [⟨3, 2, ⟨[(7, .ro [I, I, I, (.sl [I])] (v 0)), (8, .sc I (ln (v 0))), (9, .sc I (v 1000000)), (3, .row 384 0)], [(384, .row 0 0 [I, I, I, (.sl [I])] (v 1000001) true false true)]⟩⟩], [], [], 600, t_i_copyOps⟩
abbrev r_i_copyOps : List Fd := d_i_copyOps :: r_i_SwingOk
theorem k_i_copyOps : symFn Try.prog (sigsOf r_i_SwingOk) Try.f111 d_i_copyOps.sg d_i_copyOps.heads d_i_copyOps.peel d_i_copyOps.clean d_i_copyOps.fuel = d_i_copyOps.t := by kernel_rfl
theorem o_i_copyOps : TabOk Try.prog r_i_copyOps := .cons o_i_SwingOk Try.func111 (by kernel_rfl) (by kernel_rfl) k_i_copyOps

def d_i_copyModel : Fd := ⟨i_copyModel, ⟨[.val [((.sl [I, I, I, (.sl [I])]), .ro)] true], [⟨[((.sl [I, I, I, (.sl [I])]), .own)], .agg⟩]⟩, [], [], [], 600, t_i_copyModel⟩
abbrev r_i_copyModel : List Fd := d_i_copyModel :: r_i_copyOps
theorem k_i_copyModel : symFn Try.prog (sigsOf r_i_copyOps) Try.f57 d_i_copyModel.sg d_i_copyModel.heads d_i_copyModel.peel d_i_copyModel.clean d_i_copyModel.fuel = d_i_copyModel.t := by kernel_rfl
theorem o_i_copyModel : TabOk Try.prog r_i_copyModel := .cons o_i_copyOps Try.func57 (by kernel_rfl) (by kernel_rfl) k_i_copyModel

def d_i_clamp : Fd := ⟨i_clamp, ⟨[.val [(I, .ro)] false], [⟨[(I, .ro)], .one⟩]⟩, [], [], [], 600, t_i_clamp⟩
abbrev r_i_clamp : List Fd := d_i_clamp :: r_i_copyModel
theorem k_i_clamp : symFn Try.prog (sigsOf r_i_copyModel) Try.f114 d_i_clamp.sg d_i_clamp.heads d_i_clamp.peel d_i_clamp.clean d_i_clamp.fuel = d_i_clamp.t := by kernel_rfl
theorem o_i_clamp : TabOk Try.prog r_i_clamp := .cons o_i_copyModel Try.func114 (by kernel_rfl) (by kernel_rfl) k_i_clamp

def d_i_settle : Fd := ⟨i_settle, ⟨[.val [(I, .ro)] false], [⟨[(I, .ro)], .one⟩, ⟨[(.bool, .ro)], .one⟩]⟩, [], [], [], 600, t_i_settle⟩
abbrev r_i_settle : List Fd := d_i_settle :: r_i_clamp
theorem k_i_settle : symFn Try.prog (sigsOf r_i_clamp) Try.f113 d_i_settle.sg d_i_settle.heads d_i_settle.peel d_i_settle.clean d_i_settle.fuel = d_i_settle.t := by kernel_rfl
theorem o_i_settle : TabOk Try.prog r_i_settle := .cons o_i_clamp Try.func113 (by kernel_rfl) (by kernel_rfl) k_i_settle

def d_i_FixMul : Fd := ⟨i_FixMul, ⟨[.val [(I, .ro)] false, .val [(I, .ro)] false], [⟨[(I, .ro)], .one⟩, ⟨[(.bool, .ro)], .one⟩]⟩, [], [], [], 600, t_i_FixMul⟩
abbrev r_i_FixMul : List Fd := d_i_FixMul :: r_i_settle
theorem k_i_FixMul : symFn Try.prog (sigsOf r_i_settle) Try.f61 d_i_FixMul.sg d_i_FixMul.heads d_i_FixMul.peel d_i_FixMul.clean d_i_FixMul.fuel = d_i_FixMul.t := by kernel_rfl
theorem o_i_FixMul : TabOk Try.prog r_i_FixMul := .cons o_i_settle Try.func61 (by kernel_rfl) (by kernel_rfl) k_i_FixMul

def d_i_FixAdd : Fd := ⟨i_FixAdd, ⟨[.val [(I, .ro)] false, .val [(I, .ro)] false], [⟨[(I, .ro)], .one⟩, ⟨[(.bool, .ro)], .one⟩]⟩, [], [], [], 600, t_i_FixAdd⟩
abbrev r_i_FixAdd : List Fd := d_i_FixAdd :: r_i_FixMul
theorem k_i_FixAdd : symFn Try.prog (sigsOf r_i_FixMul) Try.f76 d_i_FixAdd.sg d_i_FixAdd.heads d_i_FixAdd.peel d_i_FixAdd.clean d_i_FixAdd.fuel = d_i_FixAdd.t := by kernel_rfl
theorem o_i_FixAdd : TabOk Try.prog r_i_FixAdd := .cons o_i_FixMul Try.func76 (by kernel_rfl) (by kernel_rfl) k_i_FixAdd

def d_i_FixSub : Fd := ⟨i_FixSub, ⟨[.val [(I, .ro)] false, .val [(I, .ro)] false], [⟨[(I, .ro)], .one⟩, ⟨[(.bool, .ro)], .one⟩]⟩, [], [], [], 600, t_i_FixSub⟩
abbrev r_i_FixSub : List Fd := d_i_FixSub :: r_i_FixAdd
theorem k_i_FixSub : symFn Try.prog (sigsOf r_i_FixAdd) Try.f62 d_i_FixSub.sg d_i_FixSub.heads d_i_FixSub.peel d_i_FixSub.clean d_i_FixSub.fuel = d_i_FixSub.t := by kernel_rfl
theorem o_i_FixSub : TabOk Try.prog r_i_FixSub := .cons o_i_FixAdd Try.func62 (by kernel_rfl) (by kernel_rfl) k_i_FixSub

def d_i_Learn : Fd := ⟨i_Learn, ⟨[.val [((.sl [I, I, I, (.sl [I])]), .ro)] true, .val [((.sl [(.sl [I])]), .ro), (I, .ro), (.bool, .ro)] true, .val [(I, .ro)] false], [⟨[((.sl [I, I, I, (.sl [I])]), .own)], .agg⟩, ⟨[(.bool, .ro)], .one⟩]⟩, [⟨6, 3, ⟨[(4, .ptr 256 0 0), (2, .sc I (v 4)), (8, .ptr 512 0 0), (6, .ptr 384 0 0), (37, .sc I (ln (fn i_copyModel 0 [(v 0)]))), (38, .sc I (v 1000000)), (9, .sc .bool (v 1000001))], [(256, .box 0 [.ro [(.sl [I])] (v 1), .sc I (v 2), .sc .bool (v 3)]), (512, .box 0 [.row 1152 0]), (1152, .row 0 0 [I, I, I, (.sl [I])] (v 1000002) true true true), (384, .box 0 [.nil])]⟩⟩,
  ⟨10, 7, ⟨[(11, .under 1152 0 0 (v 1000000) 3 [I]), (10, .sc I (v 1000001)), (4, .ptr 256 0 0), (2, .sc I (v 4)), (8, .ptr 512 0 0), (6, .ptr 384 0 0), (37, .sc I (ln (fn i_copyModel 0 [(v 0)]))), (38, .sc I (v 1000002)), (48, .sc I (v 1000003)), (49, .sc I (v 1000004)), (9, .sc .bool (v 1000005))], [(1152, .row 0 0 [I, I, I, (.sl [I])] (v 1000006) true true true), (256, .box 0 [.ro [(.sl [I])] (v 1), .sc I (v 2), .sc .bool (v 3)]), (512, .box 0 [.row 1152 0]), (384, .box 0 [.nil])]⟩⟩], [], [18], 600, t_i_Learn⟩
abbrev r_i_Learn : List Fd := d_i_Learn :: r_i_FixSub
theorem k_i_Learn : symFn Try.prog (sigsOf r_i_FixSub) Try.f15 d_i_Learn.sg d_i_Learn.heads d_i_Learn.peel d_i_Learn.clean d_i_Learn.fuel = d_i_Learn.t := by kernel_rfl
theorem o_i_Learn : TabOk Try.prog r_i_Learn := .cons o_i_FixSub Try.func15 (by kernel_rfl) (by kernel_rfl) k_i_Learn

def d_i_SwingStep : Fd := ⟨i_SwingStep, ⟨[.val [((.sl [I, I, I, (.sl [I])]), .ro)] true, .val [((.sl [(.sl [I])]), .ro), (I, .ro)] true, .val [((.sl [(.sl [I])]), .ro), (I, .ro), (.bool, .ro)] true, .val [(I, .ro)] false, .val [(I, .ro)] false], [⟨[((.sl [I, I, I, (.sl [I])]), .own)], .agg⟩, ⟨[((.sl [(.sl [I])]), .own), (I, .ro)], .agg⟩, ⟨[(.bool, .ro)], .one⟩]⟩, [⟨6, 3, ⟨[(7, .ptr 448 0 0), (4, .sc I (v 7)), (13, .ptr 832 0 0), (10, .ptr 640 0 0), (11, .ptr 704 0 0), (3, .sc I (v 6)), (5, .ptr 320 0 0), (61, .sc I (ln (fn i_copyRows 0 [(v 1)]))), (62, .sc I (v 1000000)), (14, .sc .bool (v 1000001))], [(448, .box 0 [.ro [(.sl [I])] (v 3), .sc I (v 4), .sc .bool (v 5)]), (832, .box 0 [.row 1664 0, .sc I (v 2)]), (1664, .row 0 0 [(.sl [I])] (v 1000002) true true true), (640, .box 0 [.nil]), (704, .box 0 [.nil, .sc I (n 0)]), (320, .box 0 [.ro [I, I, I, (.sl [I])] (v 0)])]⟩⟩,
  ⟨10, 7, ⟨[(16, .under 1664 0 0 (v 1000000) 0 [I]), (15, .sc I (v 1000001)), (7, .ptr 448 0 0), (4, .sc I (v 7)), (13, .ptr 832 0 0), (10, .ptr 640 0 0), (11, .ptr 704 0 0), (3, .sc I (v 6)), (5, .ptr 320 0 0), (61, .sc I (ln (fn i_copyRows 0 [(v 1)]))), (62, .sc I (v 1000002)), (72, .sc I (v 1000003)), (73, .sc I (v 1000004)), (14, .sc .bool (v 1000005))], [(1664, .row 0 0 [(.sl [I])] (v 1000006) true true true), (448, .box 0 [.ro [(.sl [I])] (v 3), .sc I (v 4), .sc .bool (v 5)]), (832, .box 0 [.row 1664 0, .sc I (v 2)]), (640, .box 0 [.nil]), (704, .box 0 [.nil, .sc I (n 0)]), (320, .box 0 [.ro [I, I, I, (.sl [I])] (v 0)])]⟩⟩], [], [26], 600, t_i_SwingStep⟩
abbrev r_i_SwingStep : List Fd := d_i_SwingStep :: r_i_Learn
theorem k_i_SwingStep : symFn Try.prog (sigsOf r_i_Learn) Try.f25 d_i_SwingStep.sg d_i_SwingStep.heads d_i_SwingStep.peel d_i_SwingStep.clean d_i_SwingStep.fuel = d_i_SwingStep.t := by kernel_rfl
theorem o_i_SwingStep : TabOk Try.prog r_i_SwingStep := .cons o_i_Learn Try.func25 (by kernel_rfl) (by kernel_rfl) k_i_SwingStep

def d_s_SameVec : Fd := ⟨s_SameVec, ⟨[.val [((.sl [I]), .ro)] false, .val [((.sl [I]), .ro)] false], [⟨[(.bool, .ro)], .one⟩]⟩, [⟨4, 1, ⟨[(1, .ro [I] (v 1)), (0, .ro [I] (v 0)), (5, .sc I (v 1000000))], []⟩⟩], [], [], 600, t_s_SameVec⟩
abbrev r_s_SameVec : List Fd := d_s_SameVec :: r_i_SwingStep
theorem k_s_SameVec : symFn Try.prog (sigsOf r_i_SwingStep) Try.f101 d_s_SameVec.sg d_s_SameVec.heads d_s_SameVec.peel d_s_SameVec.clean d_s_SameVec.fuel = d_s_SameVec.t := by kernel_rfl
theorem o_s_SameVec : TabOk Try.prog r_s_SameVec := .cons o_i_SwingStep Try.func101 (by kernel_rfl) (by kernel_rfl) k_s_SameVec

def d_s_SameOp : Fd := ⟨s_SameOp, ⟨[.val [(I, .ro), (I, .ro), (I, .ro), ((.sl [I]), .ro)] true, .val [(I, .ro), (I, .ro), (I, .ro), ((.sl [I]), .ro)] true], [⟨[(.bool, .ro)], .one⟩]⟩, [], [], [], 600, t_s_SameOp⟩
abbrev r_s_SameOp : List Fd := d_s_SameOp :: r_s_SameVec
theorem k_s_SameOp : symFn Try.prog (sigsOf r_s_SameVec) Try.f63 d_s_SameOp.sg d_s_SameOp.heads d_s_SameOp.peel d_s_SameOp.clean d_s_SameOp.fuel = d_s_SameOp.t := by kernel_rfl
theorem o_s_SameOp : TabOk Try.prog r_s_SameOp := .cons o_s_SameVec Try.func63 (by kernel_rfl) (by kernel_rfl) k_s_SameOp

def d_s_SameModel : Fd := ⟨s_SameModel, ⟨[.val [((.sl [I, I, I, (.sl [I])]), .ro)] true, .val [((.sl [I, I, I, (.sl [I])]), .ro)] true], [⟨[(.bool, .ro)], .one⟩]⟩, [⟨4, 1, ⟨[(3, .ptr 192 0 0), (2, .ptr 128 0 0), (5, .sc I (v 1000000))], [(192, .box 0 [.ro [I, I, I, (.sl [I])] (v 1)]), (128, .box 0 [.ro [I, I, I, (.sl [I])] (v 0)])]⟩⟩], [], [], 600, t_s_SameModel⟩
abbrev r_s_SameModel : List Fd := d_s_SameModel :: r_s_SameOp
theorem k_s_SameModel : symFn Try.prog (sigsOf r_s_SameOp) Try.f16 d_s_SameModel.sg d_s_SameModel.heads d_s_SameModel.peel d_s_SameModel.clean d_s_SameModel.fuel = d_s_SameModel.t := by kernel_rfl
theorem o_s_SameModel : TabOk Try.prog r_s_SameModel := .cons o_s_SameOp Try.func16 (by kernel_rfl) (by kernel_rfl) k_s_SameModel

def d_s_SameRows : Fd := ⟨s_SameRows, ⟨[.val [((.sl [(.sl [I])]), .ro)] false, .val [((.sl [(.sl [I])]), .ro)] false], [⟨[(.bool, .ro)], .one⟩]⟩, [⟨4, 1, ⟨[(1, .ro [(.sl [I])] (v 1)), (0, .ro [(.sl [I])] (v 0)), (5, .sc I (v 1000000))], []⟩⟩], [], [], 600, t_s_SameRows⟩
abbrev r_s_SameRows : List Fd := d_s_SameRows :: r_s_SameModel
theorem k_s_SameRows : symFn Try.prog (sigsOf r_s_SameModel) Try.f42 d_s_SameRows.sg d_s_SameRows.heads d_s_SameRows.peel d_s_SameRows.clean d_s_SameRows.fuel = d_s_SameRows.t := by kernel_rfl
theorem o_s_SameRows : TabOk Try.prog r_s_SameRows := .cons o_s_SameModel Try.func42 (by kernel_rfl) (by kernel_rfl) k_s_SameRows

def d_i_ZeroGrads : Fd := ⟨i_ZeroGrads, ⟨[.val [((.sl [I, I, I, (.sl [I])]), .ro)] true], [⟨[((.sl [(.sl [I])]), .own), (I, .ro), (.bool, .ro)], .agg⟩]⟩, [⟨5, 2, ⟨[(3, .ptr 192 0 0), (12, .ro [I, I, I, (.sl [I])] (v 0)), (2, .ptr 128 0 0), (13, .sc I (ln (v 0))), (14, .sc I (v 1000000))], [(192, .box 0 [.row 900200 0, .sc I (n 0), .sc .bool ff]), (900200, .row 0 0 [(.sl [I])] (v 1000001) true false true), (128, .box 0 [.nil, .sc I (n 0), .sc .bool ff])]⟩⟩], [], [], 600, t_i_ZeroGrads⟩
abbrev r_i_ZeroGrads : List Fd := d_i_ZeroGrads :: r_s_SameRows
theorem k_i_ZeroGrads : symFn Try.prog (sigsOf r_s_SameRows) Try.f103 d_i_ZeroGrads.sg d_i_ZeroGrads.heads d_i_ZeroGrads.peel d_i_ZeroGrads.clean d_i_ZeroGrads.fuel = d_i_ZeroGrads.t := by kernel_rfl
theorem o_i_ZeroGrads : TabOk Try.prog r_i_ZeroGrads := .cons o_s_SameRows Try.func103 (by kernel_rfl) (by kernel_rfl) k_i_ZeroGrads

def d_i_SwingNew : Fd := ⟨i_SwingNew, ⟨[.val [((.sl [I, I, I, (.sl [I])]), .ro)] true], [⟨[((.sl [(.sl [I])]), .own), (I, .ro)], .agg⟩]⟩, [], [], [], 600, t_i_SwingNew⟩
abbrev r_i_SwingNew : List Fd := d_i_SwingNew :: r_i_ZeroGrads
theorem k_i_SwingNew : symFn Try.prog (sigsOf r_i_ZeroGrads) Try.f45 d_i_SwingNew.sg d_i_SwingNew.heads d_i_SwingNew.peel d_i_SwingNew.clean d_i_SwingNew.fuel = d_i_SwingNew.t := by kernel_rfl
theorem o_i_SwingNew : TabOk Try.prog r_i_SwingNew := .cons o_i_ZeroGrads Try.func45 (by kernel_rfl) (by kernel_rfl) k_i_SwingNew

def d_w_FnSwings : Fd := ⟨w_FnSwings, ⟨[.val [((.sl [Y]), .ro)] false], [⟨[(.bool, .ro)], .one⟩]⟩, [], [], [], 600, t_w_FnSwings⟩
abbrev r_w_FnSwings : List Fd := d_w_FnSwings :: r_i_SwingNew
theorem k_w_FnSwings : symFn Try.prog (sigsOf r_i_SwingNew) Try.f7 d_w_FnSwings.sg d_w_FnSwings.heads d_w_FnSwings.peel d_w_FnSwings.clean d_w_FnSwings.fuel = d_w_FnSwings.t := by kernel_rfl
theorem o_w_FnSwings : TabOk Try.prog r_w_FnSwings := .cons o_i_SwingNew Try.func7 (by kernel_rfl) (by kernel_rfl) k_w_FnSwings

abbrev tb : List Fd := r_w_FnSwings
theorem tb_ok : TabOk Try.prog tb := o_w_FnSwings
theorem tb_below : below tb = true := by kernel_rfl
noncomputable def G : Nat → List D → List D := (Tab tb).1
def Pr : Nat → List D → Prop := (Tab tb).2

theorem g_w_big {ds : List D} {Q : List D → Prop} (h : wpT G Pr Q [] ds t_w_big) : Pr w_big ds ∧ Q (G w_big ds) := go tb_below (look_mem (l := tb) (f := w_big) (d := d_w_big) (by kernel_rfl)) h
theorem g_s_l1New {ds : List D} {Q : List D → Prop} (h : wpT G Pr Q [] ds t_s_l1New) : Pr s_l1New ds ∧ Q (G s_l1New ds) := go tb_below (look_mem (l := tb) (f := s_l1New) (d := d_s_l1New) (by kernel_rfl)) h
theorem g_s_l1Byte {ds : List D} {Q : List D → Prop} (h : wpT G Pr Q [] ds t_s_l1Byte) : Pr s_l1Byte ds ∧ Q (G s_l1Byte ds) := go tb_below (look_mem (l := tb) (f := s_l1Byte) (d := d_s_l1Byte) (by kernel_rfl)) h
theorem g_s_l1Below {ds : List D} {Q : List D → Prop} (h : wpT G Pr Q [] ds t_s_l1Below) : Pr s_l1Below ds ∧ Q (G s_l1Below ds) := go tb_below (look_mem (l := tb) (f := s_l1Below) (d := d_s_l1Below) (by kernel_rfl)) h
theorem g_s_l1In {ds : List D} {Q : List D → Prop} (h : wpT G Pr Q [] ds t_s_l1In) : Pr s_l1In ds ∧ Q (G s_l1In ds) := go tb_below (look_mem (l := tb) (f := s_l1In) (d := d_s_l1In) (by kernel_rfl)) h
theorem g_s_OpSize {ds : List D} {Q : List D → Prop} (h : wpT G Pr Q [] ds t_s_OpSize) : Pr s_OpSize ds ∧ Q (G s_OpSize ds) := go tb_below (look_mem (l := tb) (f := s_OpSize) (d := d_s_OpSize) (by kernel_rfl)) h
theorem g_s_l1PickInt {ds : List D} {Q : List D → Prop} (h : wpT G Pr Q [] ds t_s_l1PickInt) : Pr s_l1PickInt ds ∧ Q (G s_l1PickInt ds) := go tb_below (look_mem (l := tb) (f := s_l1PickInt) (d := d_s_l1PickInt) (by kernel_rfl)) h
theorem g_s_l2Fix {ds : List D} {Q : List D → Prop} (h : wpT G Pr Q [] ds t_s_l2Fix) : Pr s_l2Fix ds ∧ Q (G s_l2Fix ds) := go tb_below (look_mem (l := tb) (f := s_l2Fix) (d := d_s_l2Fix) (by kernel_rfl)) h
theorem g_s_l3Vec {ds : List D} {Q : List D → Prop} (h : wpT G Pr Q [] ds t_s_l3Vec) : Pr s_l3Vec ds ∧ Q (G s_l3Vec ds) := go tb_below (look_mem (l := tb) (f := s_l3Vec) (d := d_s_l3Vec) (by kernel_rfl)) h
theorem g_s_l5Op {ds : List D} {Q : List D → Prop} (h : wpT G Pr Q [] ds t_s_l5Op) : Pr s_l5Op ds ∧ Q (G s_l5Op ds) := go tb_below (look_mem (l := tb) (f := s_l5Op) (d := d_s_l5Op) (by kernel_rfl)) h
theorem g_s_l6Model {ds : List D} {Q : List D → Prop} (h : wpT G Pr Q [] ds t_s_l6Model) : Pr s_l6Model ds ∧ Q (G s_l6Model ds) := go tb_below (look_mem (l := tb) (f := s_l6Model) (d := d_s_l6Model) (by kernel_rfl)) h
theorem g_s_FixOk {ds : List D} {Q : List D → Prop} (h : wpT G Pr Q [] ds t_s_FixOk) : Pr s_FixOk ds ∧ Q (G s_FixOk ds) := go tb_below (look_mem (l := tb) (f := s_FixOk) (d := d_s_FixOk) (by kernel_rfl)) h
theorem g_s_OpOk {ds : List D} {Q : List D → Prop} (h : wpT G Pr Q [] ds t_s_OpOk) : Pr s_OpOk ds ∧ Q (G s_OpOk ds) := go tb_below (look_mem (l := tb) (f := s_OpOk) (d := d_s_OpOk) (by kernel_rfl)) h
theorem g_s_ModelOk {ds : List D} {Q : List D → Prop} (h : wpT G Pr Q [] ds t_s_ModelOk) : Pr s_ModelOk ds ∧ Q (G s_ModelOk ds) := go tb_below (look_mem (l := tb) (f := s_ModelOk) (d := d_s_ModelOk) (by kernel_rfl)) h
theorem g_s_InOf {ds : List D} {Q : List D → Prop} (h : wpT G Pr Q [] ds t_s_InOf) : Pr s_InOf ds ∧ Q (G s_InOf ds) := go tb_below (look_mem (l := tb) (f := s_InOf) (d := d_s_InOf) (by kernel_rfl)) h
theorem g_s_OutOf {ds : List D} {Q : List D → Prop} (h : wpT G Pr Q [] ds t_s_OutOf) : Pr s_OutOf ds ∧ Q (G s_OutOf ds) := go tb_below (look_mem (l := tb) (f := s_OutOf) (d := d_s_OutOf) (by kernel_rfl)) h
theorem g_s_l6Batch {ds : List D} {Q : List D → Prop} (h : wpT G Pr Q [] ds t_s_l6Batch) : Pr s_l6Batch ds ∧ Q (G s_l6Batch ds) := go tb_below (look_mem (l := tb) (f := s_l6Batch) (d := d_s_l6Batch) (by kernel_rfl)) h
theorem g_s_VecOk {ds : List D} {Q : List D → Prop} (h : wpT G Pr Q [] ds t_s_VecOk) : Pr s_VecOk ds ∧ Q (G s_VecOk ds) := go tb_below (look_mem (l := tb) (f := s_VecOk) (d := d_s_VecOk) (by kernel_rfl)) h
theorem g_s_BatchOk {ds : List D} {Q : List D → Prop} (h : wpT G Pr Q [] ds t_s_BatchOk) : Pr s_BatchOk ds ∧ Q (G s_BatchOk ds) := go tb_below (look_mem (l := tb) (f := s_BatchOk) (d := d_s_BatchOk) (by kernel_rfl)) h
theorem g_s_ZeroGrads {ds : List D} {Q : List D → Prop} (h : wpT G Pr Q [] ds t_s_ZeroGrads) : Pr s_ZeroGrads ds ∧ Q (G s_ZeroGrads ds) := go tb_below (look_mem (l := tb) (f := s_ZeroGrads) (d := d_s_ZeroGrads) (by kernel_rfl)) h
theorem g_s_l5Mat {ds : List D} {Q : List D → Prop} (h : wpT G Pr Q [] ds t_s_l5Mat) : Pr s_l5Mat ds ∧ Q (G s_l5Mat ds) := go tb_below (look_mem (l := tb) (f := s_l5Mat) (d := d_s_l5Mat) (by kernel_rfl)) h
theorem g_s_MatOk {ds : List D} {Q : List D → Prop} (h : wpT G Pr Q [] ds t_s_MatOk) : Pr s_MatOk ds ∧ Q (G s_MatOk ds) := go tb_below (look_mem (l := tb) (f := s_MatOk) (d := d_s_MatOk) (by kernel_rfl)) h
theorem g_s_l4Row {ds : List D} {Q : List D → Prop} (h : wpT G Pr Q [] ds t_s_l4Row) : Pr s_l4Row ds ∧ Q (G s_l4Row ds) := go tb_below (look_mem (l := tb) (f := s_l4Row) (d := d_s_l4Row) (by kernel_rfl)) h
theorem g_s_l3Pair {ds : List D} {Q : List D → Prop} (h : wpT G Pr Q [] ds t_s_l3Pair) : Pr s_l3Pair ds ∧ Q (G s_l3Pair ds) := go tb_below (look_mem (l := tb) (f := s_l3Pair) (d := d_s_l3Pair) (by kernel_rfl)) h
theorem g_s_l2Sat {ds : List D} {Q : List D → Prop} (h : wpT G Pr Q [] ds t_s_l2Sat) : Pr s_l2Sat ds ∧ Q (G s_l2Sat ds) := go tb_below (look_mem (l := tb) (f := s_l2Sat) (d := d_s_l2Sat) (by kernel_rfl)) h
theorem g_s_l2In {ds : List D} {Q : List D → Prop} (h : wpT G Pr Q [] ds t_s_l2In) : Pr s_l2In ds ∧ Q (G s_l2In ds) := go tb_below (look_mem (l := tb) (f := s_l2In) (d := d_s_l2In) (by kernel_rfl)) h
theorem g_s_l2Floor {ds : List D} {Q : List D → Prop} (h : wpT G Pr Q [] ds t_s_l2Floor) : Pr s_l2Floor ds ∧ Q (G s_l2Floor ds) := go tb_below (look_mem (l := tb) (f := s_l2Floor) (d := d_s_l2Floor) (by kernel_rfl)) h
theorem g_s_FixMul {ds : List D} {Q : List D → Prop} (h : wpT G Pr Q [] ds t_s_FixMul) : Pr s_FixMul ds ∧ Q (G s_FixMul ds) := go tb_below (look_mem (l := tb) (f := s_FixMul) (d := d_s_FixMul) (by kernel_rfl)) h
theorem g_s_FixAdd {ds : List D} {Q : List D → Prop} (h : wpT G Pr Q [] ds t_s_FixAdd) : Pr s_FixAdd ds ∧ Q (G s_FixAdd ds) := go tb_below (look_mem (l := tb) (f := s_FixAdd) (d := d_s_FixAdd) (by kernel_rfl)) h
theorem g_s_VecDot {ds : List D} {Q : List D → Prop} (h : wpT G Pr Q [] ds t_s_VecDot) : Pr s_VecDot ds ∧ Q (G s_VecDot ds) := go tb_below (look_mem (l := tb) (f := s_VecDot) (d := d_s_VecDot) (by kernel_rfl)) h
theorem g_s_MatVec {ds : List D} {Q : List D → Prop} (h : wpT G Pr Q [] ds t_s_MatVec) : Pr s_MatVec ds ∧ Q (G s_MatVec ds) := go tb_below (look_mem (l := tb) (f := s_MatVec) (d := d_s_MatVec) (by kernel_rfl)) h
theorem g_s_VecAdd {ds : List D} {Q : List D → Prop} (h : wpT G Pr Q [] ds t_s_VecAdd) : Pr s_VecAdd ds ∧ Q (G s_VecAdd ds) := go tb_below (look_mem (l := tb) (f := s_VecAdd) (d := d_s_VecAdd) (by kernel_rfl)) h
theorem g_s_Relu {ds : List D} {Q : List D → Prop} (h : wpT G Pr Q [] ds t_s_Relu) : Pr s_Relu ds ∧ Q (G s_Relu ds) := go tb_below (look_mem (l := tb) (f := s_Relu) (d := d_s_Relu) (by kernel_rfl)) h
theorem g_s_VecRelu {ds : List D} {Q : List D → Prop} (h : wpT G Pr Q [] ds t_s_VecRelu) : Pr s_VecRelu ds ∧ Q (G s_VecRelu ds) := go tb_below (look_mem (l := tb) (f := s_VecRelu) (d := d_s_VecRelu) (by kernel_rfl)) h
theorem g_s_VecScale {ds : List D} {Q : List D → Prop} (h : wpT G Pr Q [] ds t_s_VecScale) : Pr s_VecScale ds ∧ Q (G s_VecScale ds) := go tb_below (look_mem (l := tb) (f := s_VecScale) (d := d_s_VecScale) (by kernel_rfl)) h
theorem g_s_OpForward {ds : List D} {Q : List D → Prop} (h : wpT G Pr Q [] ds t_s_OpForward) : Pr s_OpForward ds ∧ Q (G s_OpForward ds) := go tb_below (look_mem (l := tb) (f := s_OpForward) (d := d_s_OpForward) (by kernel_rfl)) h
theorem g_s_l7Inputs {ds : List D} {Q : List D → Prop} (h : wpT G Pr Q [] ds t_s_l7Inputs) : Pr s_l7Inputs ds ∧ Q (G s_l7Inputs ds) := go tb_below (look_mem (l := tb) (f := s_l7Inputs) (d := d_s_l7Inputs) (by kernel_rfl)) h
theorem g_s_FixSub {ds : List D} {Q : List D → Prop} (h : wpT G Pr Q [] ds t_s_FixSub) : Pr s_FixSub ds ∧ Q (G s_FixSub ds) := go tb_below (look_mem (l := tb) (f := s_FixSub) (d := d_s_FixSub) (by kernel_rfl)) h
theorem g_s_VecSub {ds : List D} {Q : List D → Prop} (h : wpT G Pr Q [] ds t_s_VecSub) : Pr s_VecSub ds ∧ Q (G s_VecSub ds) := go tb_below (look_mem (l := tb) (f := s_VecSub) (d := d_s_VecSub) (by kernel_rfl)) h
theorem g_s_LossOf {ds : List D} {Q : List D → Prop} (h : wpT G Pr Q [] ds t_s_LossOf) : Pr s_LossOf ds ∧ Q (G s_LossOf ds) := go tb_below (look_mem (l := tb) (f := s_LossOf) (d := d_s_LossOf) (by kernel_rfl)) h
theorem g_s_VecMask {ds : List D} {Q : List D → Prop} (h : wpT G Pr Q [] ds t_s_VecMask) : Pr s_VecMask ds ∧ Q (G s_VecMask ds) := go tb_below (look_mem (l := tb) (f := s_VecMask) (d := d_s_VecMask) (by kernel_rfl)) h
theorem g_s_l4Col {ds : List D} {Q : List D → Prop} (h : wpT G Pr Q [] ds t_s_l4Col) : Pr s_l4Col ds ∧ Q (G s_l4Col ds) := go tb_below (look_mem (l := tb) (f := s_l4Col) (d := d_s_l4Col) (by kernel_rfl)) h
theorem g_s_MatBack {ds : List D} {Q : List D → Prop} (h : wpT G Pr Q [] ds t_s_MatBack) : Pr s_MatBack ds ∧ Q (G s_MatBack ds) := go tb_below (look_mem (l := tb) (f := s_MatBack) (d := d_s_MatBack) (by kernel_rfl)) h
theorem g_s_Outer {ds : List D} {Q : List D → Prop} (h : wpT G Pr Q [] ds t_s_Outer) : Pr s_Outer ds ∧ Q (G s_Outer ds) := go tb_below (look_mem (l := tb) (f := s_Outer) (d := d_s_Outer) (by kernel_rfl)) h
theorem g_s_OpBackward {ds : List D} {Q : List D → Prop} (h : wpT G Pr Q [] ds t_s_OpBackward) : Pr s_OpBackward ds ∧ Q (G s_OpBackward ds) := go tb_below (look_mem (l := tb) (f := s_OpBackward) (d := d_s_OpBackward) (by kernel_rfl)) h
theorem g_s_l7Back {ds : List D} {Q : List D → Prop} (h : wpT G Pr Q [] ds t_s_l7Back) : Pr s_l7Back ds ∧ Q (G s_l7Back ds) := go tb_below (look_mem (l := tb) (f := s_l7Back) (d := d_s_l7Back) (by kernel_rfl)) h
theorem g_s_MicroGrads {ds : List D} {Q : List D → Prop} (h : wpT G Pr Q [] ds t_s_MicroGrads) : Pr s_MicroGrads ds ∧ Q (G s_MicroGrads ds) := go tb_below (look_mem (l := tb) (f := s_MicroGrads) (d := d_s_MicroGrads) (by kernel_rfl)) h
theorem g_s_l7Add {ds : List D} {Q : List D → Prop} (h : wpT G Pr Q [] ds t_s_l7Add) : Pr s_l7Add ds ∧ Q (G s_l7Add ds) := go tb_below (look_mem (l := tb) (f := s_l7Add) (d := d_s_l7Add) (by kernel_rfl)) h
theorem g_s_AddGrads {ds : List D} {Q : List D → Prop} (h : wpT G Pr Q [] ds t_s_AddGrads) : Pr s_AddGrads ds ∧ Q (G s_AddGrads ds) := go tb_below (look_mem (l := tb) (f := s_AddGrads) (d := d_s_AddGrads) (by kernel_rfl)) h
theorem g_s_Sequential {ds : List D} {Q : List D → Prop} (h : wpT G Pr Q [] ds t_s_Sequential) : Pr s_Sequential ds ∧ Q (G s_Sequential ds) := go tb_below (look_mem (l := tb) (f := s_Sequential) (d := d_s_Sequential) (by kernel_rfl)) h
theorem g_s_SwingNew {ds : List D} {Q : List D → Prop} (h : wpT G Pr Q [] ds t_s_SwingNew) : Pr s_SwingNew ds ∧ Q (G s_SwingNew ds) := go tb_below (look_mem (l := tb) (f := s_SwingNew) (d := d_s_SwingNew) (by kernel_rfl)) h
theorem g_s_l11Rows {ds : List D} {Q : List D → Prop} (h : wpT G Pr Q [] ds t_s_l11Rows) : Pr s_l11Rows ds ∧ Q (G s_l11Rows ds) := go tb_below (look_mem (l := tb) (f := s_l11Rows) (d := d_s_l11Rows) (by kernel_rfl)) h
theorem g_s_l11Ops {ds : List D} {Q : List D → Prop} (h : wpT G Pr Q [] ds t_s_l11Ops) : Pr s_l11Ops ds ∧ Q (G s_l11Ops ds) := go tb_below (look_mem (l := tb) (f := s_l11Ops) (d := d_s_l11Ops) (by kernel_rfl)) h
theorem g_s_Learn {ds : List D} {Q : List D → Prop} (h : wpT G Pr Q [] ds t_s_Learn) : Pr s_Learn ds ∧ Q (G s_Learn ds) := go tb_below (look_mem (l := tb) (f := s_Learn) (d := d_s_Learn) (by kernel_rfl)) h
theorem g_s_SwingOk {ds : List D} {Q : List D → Prop} (h : wpT G Pr Q [] ds t_s_SwingOk) : Pr s_SwingOk ds ∧ Q (G s_SwingOk ds) := go tb_below (look_mem (l := tb) (f := s_SwingOk) (d := d_s_SwingOk) (by kernel_rfl)) h
theorem g_s_SwingStep {ds : List D} {Q : List D → Prop} (h : wpT G Pr Q [] ds t_s_SwingStep) : Pr s_SwingStep ds ∧ Q (G s_SwingStep ds) := go tb_below (look_mem (l := tb) (f := s_SwingStep) (d := d_s_SwingStep) (by kernel_rfl)) h
theorem g_s_l24Swing {ds : List D} {Q : List D → Prop} (h : wpT G Pr Q [] ds t_s_l24Swing) : Pr s_l24Swing ds ∧ Q (G s_l24Swing ds) := go tb_below (look_mem (l := tb) (f := s_l24Swing) (d := d_s_l24Swing) (by kernel_rfl)) h
theorem g_s_DrawSwingStep {ds : List D} {Q : List D → Prop} (h : wpT G Pr Q [] ds t_s_DrawSwingStep) : Pr s_DrawSwingStep ds ∧ Q (G s_DrawSwingStep ds) := go tb_below (look_mem (l := tb) (f := s_DrawSwingStep) (d := d_s_DrawSwingStep) (by kernel_rfl)) h
theorem g_i_copyInts {ds : List D} {Q : List D → Prop} (h : wpT G Pr Q [] ds t_i_copyInts) : Pr i_copyInts ds ∧ Q (G i_copyInts ds) := go tb_below (look_mem (l := tb) (f := i_copyInts) (d := d_i_copyInts) (by kernel_rfl)) h
theorem g_i_copyRows {ds : List D} {Q : List D → Prop} (h : wpT G Pr Q [] ds t_i_copyRows) : Pr i_copyRows ds ∧ Q (G i_copyRows ds) := go tb_below (look_mem (l := tb) (f := i_copyRows) (d := d_i_copyRows) (by kernel_rfl)) h
theorem g_i_OpSize {ds : List D} {Q : List D → Prop} (h : wpT G Pr Q [] ds t_i_OpSize) : Pr i_OpSize ds ∧ Q (G i_OpSize ds) := go tb_below (look_mem (l := tb) (f := i_OpSize) (d := d_i_OpSize) (by kernel_rfl)) h
theorem g_i_FixOk {ds : List D} {Q : List D → Prop} (h : wpT G Pr Q [] ds t_i_FixOk) : Pr i_FixOk ds ∧ Q (G i_FixOk ds) := go tb_below (look_mem (l := tb) (f := i_FixOk) (d := d_i_FixOk) (by kernel_rfl)) h
theorem g_i_allFix {ds : List D} {Q : List D → Prop} (h : wpT G Pr Q [] ds t_i_allFix) : Pr i_allFix ds ∧ Q (G i_allFix ds) := go tb_below (look_mem (l := tb) (f := i_allFix) (d := d_i_allFix) (by kernel_rfl)) h
theorem g_i_OpOk {ds : List D} {Q : List D → Prop} (h : wpT G Pr Q [] ds t_i_OpOk) : Pr i_OpOk ds ∧ Q (G i_OpOk ds) := go tb_below (look_mem (l := tb) (f := i_OpOk) (d := d_i_OpOk) (by kernel_rfl)) h
theorem g_i_ModelOk {ds : List D} {Q : List D → Prop} (h : wpT G Pr Q [] ds t_i_ModelOk) : Pr i_ModelOk ds ∧ Q (G i_ModelOk ds) := go tb_below (look_mem (l := tb) (f := i_ModelOk) (d := d_i_ModelOk) (by kernel_rfl)) h
theorem g_i_gradsFit {ds : List D} {Q : List D → Prop} (h : wpT G Pr Q [] ds t_i_gradsFit) : Pr i_gradsFit ds ∧ Q (G i_gradsFit ds) := go tb_below (look_mem (l := tb) (f := i_gradsFit) (d := d_i_gradsFit) (by kernel_rfl)) h
theorem g_i_SwingOk {ds : List D} {Q : List D → Prop} (h : wpT G Pr Q [] ds t_i_SwingOk) : Pr i_SwingOk ds ∧ Q (G i_SwingOk ds) := go tb_below (look_mem (l := tb) (f := i_SwingOk) (d := d_i_SwingOk) (by kernel_rfl)) h
theorem g_i_copyOps {ds : List D} {Q : List D → Prop} (h : wpT G Pr Q [] ds t_i_copyOps) : Pr i_copyOps ds ∧ Q (G i_copyOps ds) := go tb_below (look_mem (l := tb) (f := i_copyOps) (d := d_i_copyOps) (by kernel_rfl)) h
theorem g_i_copyModel {ds : List D} {Q : List D → Prop} (h : wpT G Pr Q [] ds t_i_copyModel) : Pr i_copyModel ds ∧ Q (G i_copyModel ds) := go tb_below (look_mem (l := tb) (f := i_copyModel) (d := d_i_copyModel) (by kernel_rfl)) h
theorem g_i_clamp {ds : List D} {Q : List D → Prop} (h : wpT G Pr Q [] ds t_i_clamp) : Pr i_clamp ds ∧ Q (G i_clamp ds) := go tb_below (look_mem (l := tb) (f := i_clamp) (d := d_i_clamp) (by kernel_rfl)) h
theorem g_i_settle {ds : List D} {Q : List D → Prop} (h : wpT G Pr Q [] ds t_i_settle) : Pr i_settle ds ∧ Q (G i_settle ds) := go tb_below (look_mem (l := tb) (f := i_settle) (d := d_i_settle) (by kernel_rfl)) h
theorem g_i_FixMul {ds : List D} {Q : List D → Prop} (h : wpT G Pr Q [] ds t_i_FixMul) : Pr i_FixMul ds ∧ Q (G i_FixMul ds) := go tb_below (look_mem (l := tb) (f := i_FixMul) (d := d_i_FixMul) (by kernel_rfl)) h
theorem g_i_FixAdd {ds : List D} {Q : List D → Prop} (h : wpT G Pr Q [] ds t_i_FixAdd) : Pr i_FixAdd ds ∧ Q (G i_FixAdd ds) := go tb_below (look_mem (l := tb) (f := i_FixAdd) (d := d_i_FixAdd) (by kernel_rfl)) h
theorem g_i_FixSub {ds : List D} {Q : List D → Prop} (h : wpT G Pr Q [] ds t_i_FixSub) : Pr i_FixSub ds ∧ Q (G i_FixSub ds) := go tb_below (look_mem (l := tb) (f := i_FixSub) (d := d_i_FixSub) (by kernel_rfl)) h
theorem g_i_Learn {ds : List D} {Q : List D → Prop} (h : wpT G Pr Q [] ds t_i_Learn) : Pr i_Learn ds ∧ Q (G i_Learn ds) := go tb_below (look_mem (l := tb) (f := i_Learn) (d := d_i_Learn) (by kernel_rfl)) h
theorem g_i_SwingStep {ds : List D} {Q : List D → Prop} (h : wpT G Pr Q [] ds t_i_SwingStep) : Pr i_SwingStep ds ∧ Q (G i_SwingStep ds) := go tb_below (look_mem (l := tb) (f := i_SwingStep) (d := d_i_SwingStep) (by kernel_rfl)) h
theorem g_s_SameVec {ds : List D} {Q : List D → Prop} (h : wpT G Pr Q [] ds t_s_SameVec) : Pr s_SameVec ds ∧ Q (G s_SameVec ds) := go tb_below (look_mem (l := tb) (f := s_SameVec) (d := d_s_SameVec) (by kernel_rfl)) h
theorem g_s_SameOp {ds : List D} {Q : List D → Prop} (h : wpT G Pr Q [] ds t_s_SameOp) : Pr s_SameOp ds ∧ Q (G s_SameOp ds) := go tb_below (look_mem (l := tb) (f := s_SameOp) (d := d_s_SameOp) (by kernel_rfl)) h
theorem g_s_SameModel {ds : List D} {Q : List D → Prop} (h : wpT G Pr Q [] ds t_s_SameModel) : Pr s_SameModel ds ∧ Q (G s_SameModel ds) := go tb_below (look_mem (l := tb) (f := s_SameModel) (d := d_s_SameModel) (by kernel_rfl)) h
theorem g_s_SameRows {ds : List D} {Q : List D → Prop} (h : wpT G Pr Q [] ds t_s_SameRows) : Pr s_SameRows ds ∧ Q (G s_SameRows ds) := go tb_below (look_mem (l := tb) (f := s_SameRows) (d := d_s_SameRows) (by kernel_rfl)) h
theorem g_i_ZeroGrads {ds : List D} {Q : List D → Prop} (h : wpT G Pr Q [] ds t_i_ZeroGrads) : Pr i_ZeroGrads ds ∧ Q (G i_ZeroGrads ds) := go tb_below (look_mem (l := tb) (f := i_ZeroGrads) (d := d_i_ZeroGrads) (by kernel_rfl)) h
theorem g_i_SwingNew {ds : List D} {Q : List D → Prop} (h : wpT G Pr Q [] ds t_i_SwingNew) : Pr i_SwingNew ds ∧ Q (G i_SwingNew ds) := go tb_below (look_mem (l := tb) (f := i_SwingNew) (d := d_i_SwingNew) (by kernel_rfl)) h
theorem g_w_FnSwings {ds : List D} {Q : List D → Prop} (h : wpT G Pr Q [] ds t_w_FnSwings) : Pr w_FnSwings ds ∧ Q (G w_FnSwings ds) := go tb_below (look_mem (l := tb) (f := w_FnSwings) (d := d_w_FnSwings) (by kernel_rfl)) h

end Go.Sx
