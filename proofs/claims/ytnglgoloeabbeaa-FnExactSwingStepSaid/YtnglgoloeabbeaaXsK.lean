/-
  Each tree is what the machine makes of the program's function: checked by evaluation.
-/
import Derived.Test.YtnglgoloeabbeaaXsT
import Derived.Test.YtnglgoloeabbeaaProg
namespace Go.Sx
open Go Go.Proofs

def d_w_szIntS : Fd := ⟨w_szIntS, ⟨[.val [((.sl [I]), .ro)] false, .val [(I, .ro)] false], [⟨[(I, .ro)], .one⟩]⟩, [], [], [], 600, t_w_szIntS⟩
abbrev r_w_szIntS : List Fd := d_w_szIntS :: []
theorem k_w_szIntS : symFn Try.prog (sigsOf []) Try.f153 d_w_szIntS.sg d_w_szIntS.heads d_w_szIntS.peel d_w_szIntS.clean d_w_szIntS.fuel = d_w_szIntS.t := by kernel_rfl
theorem o_w_szIntS : TabOk Try.prog r_w_szIntS := .cons .nil Try.func153 (by kernel_rfl) (by kernel_rfl) k_w_szIntS

def d_w_szOp : Fd := ⟨w_szOp, ⟨[.val [(I, .ro), (I, .ro), (I, .ro), ((.sl [I]), .ro)] true, .val [(I, .ro)] false], [⟨[(I, .ro)], .one⟩]⟩, [], [], [], 600, t_w_szOp⟩
abbrev r_w_szOp : List Fd := d_w_szOp :: r_w_szIntS
theorem k_w_szOp : symFn Try.prog (sigsOf r_w_szIntS) Try.f116 d_w_szOp.sg d_w_szOp.heads d_w_szOp.peel d_w_szOp.clean d_w_szOp.fuel = d_w_szOp.t := by kernel_rfl
theorem o_w_szOp : TabOk Try.prog r_w_szOp := .cons o_w_szIntS Try.func116 (by kernel_rfl) (by kernel_rfl) k_w_szOp

def d_w_szOpS : Fd := ⟨w_szOpS, ⟨[.val [((.sl [I, I, I, (.sl [I])]), .ro)] false, .val [(I, .ro)] false], [⟨[(I, .ro)], .one⟩]⟩, [⟨5, 2, ⟨[(0, .ro [I, I, I, (.sl [I])] (v 0)), (5, .sc I (v 1000000)), (1, .sc I (v 1000001))], []⟩⟩], [], [], 600, t_w_szOpS⟩
abbrev r_w_szOpS : List Fd := d_w_szOpS :: r_w_szOp
theorem k_w_szOpS : symFn Try.prog (sigsOf r_w_szOp) Try.f66 d_w_szOpS.sg d_w_szOpS.heads d_w_szOpS.peel d_w_szOpS.clean d_w_szOpS.fuel = d_w_szOpS.t := by kernel_rfl
theorem o_w_szOpS : TabOk Try.prog r_w_szOpS := .cons o_w_szOp Try.func66 (by kernel_rfl) (by kernel_rfl) k_w_szOpS

def d_w_szModel : Fd := ⟨w_szModel, ⟨[.val [((.sl [I, I, I, (.sl [I])]), .ro)] true, .val [(I, .ro)] false], [⟨[(I, .ro)], .one⟩]⟩, [], [], [], 600, t_w_szModel⟩
abbrev r_w_szModel : List Fd := d_w_szModel :: r_w_szOpS
theorem k_w_szModel : symFn Try.prog (sigsOf r_w_szOpS) Try.f18 d_w_szModel.sg d_w_szModel.heads d_w_szModel.peel d_w_szModel.clean d_w_szModel.fuel = d_w_szModel.t := by kernel_rfl
theorem o_w_szModel : TabOk Try.prog r_w_szModel := .cons o_w_szOpS Try.func18 (by kernel_rfl) (by kernel_rfl) k_w_szModel

def d_w_szRow : Fd := ⟨w_szRow, ⟨[.val [((.sl [I]), .ro)] true, .val [(I, .ro)] false], [⟨[(I, .ro)], .one⟩]⟩, [], [], [], 600, t_w_szRow⟩
abbrev r_w_szRow : List Fd := d_w_szRow :: r_w_szModel
theorem k_w_szRow : symFn Try.prog (sigsOf r_w_szModel) Try.f117 d_w_szRow.sg d_w_szRow.heads d_w_szRow.peel d_w_szRow.clean d_w_szRow.fuel = d_w_szRow.t := by kernel_rfl
theorem o_w_szRow : TabOk Try.prog r_w_szRow := .cons o_w_szModel Try.func117 (by kernel_rfl) (by kernel_rfl) k_w_szRow

def d_w_szRowS : Fd := ⟨w_szRowS, ⟨[.val [((.sl [(.sl [I])]), .ro)] false, .val [(I, .ro)] false], [⟨[(I, .ro)], .one⟩]⟩, [⟨5, 2, ⟨[(0, .ro [(.sl [I])] (v 0)), (5, .sc I (v 1000000)), (1, .sc I (v 1000001))], []⟩⟩], [], [], 600, t_w_szRowS⟩
abbrev r_w_szRowS : List Fd := d_w_szRowS :: r_w_szRow
theorem k_w_szRowS : symFn Try.prog (sigsOf r_w_szRow) Try.f67 d_w_szRowS.sg d_w_szRowS.heads d_w_szRowS.peel d_w_szRowS.clean d_w_szRowS.fuel = d_w_szRowS.t := by kernel_rfl
theorem o_w_szRowS : TabOk Try.prog r_w_szRowS := .cons o_w_szRow Try.func67 (by kernel_rfl) (by kernel_rfl) k_w_szRowS

def d_w_szSwing : Fd := ⟨w_szSwing, ⟨[.val [((.sl [(.sl [I])]), .ro), (I, .ro)] true, .val [(I, .ro)] false], [⟨[(I, .ro)], .one⟩]⟩, [], [], [], 600, t_w_szSwing⟩
abbrev r_w_szSwing : List Fd := d_w_szSwing :: r_w_szRowS
theorem k_w_szSwing : symFn Try.prog (sigsOf r_w_szRowS) Try.f19 d_w_szSwing.sg d_w_szSwing.heads d_w_szSwing.peel d_w_szSwing.clean d_w_szSwing.fuel = d_w_szSwing.t := by kernel_rfl
theorem o_w_szSwing : TabOk Try.prog r_w_szSwing := .cons o_w_szRowS Try.func19 (by kernel_rfl) (by kernel_rfl) k_w_szSwing

def d_w_szGrads : Fd := ⟨w_szGrads, ⟨[.val [((.sl [(.sl [I])]), .ro), (I, .ro), (.bool, .ro)] true, .val [(I, .ro)] false], [⟨[(I, .ro)], .one⟩]⟩, [], [], [], 600, t_w_szGrads⟩
abbrev r_w_szGrads : List Fd := d_w_szGrads :: r_w_szSwing
theorem k_w_szGrads : symFn Try.prog (sigsOf r_w_szSwing) Try.f20 d_w_szGrads.sg d_w_szGrads.heads d_w_szGrads.peel d_w_szGrads.clean d_w_szGrads.fuel = d_w_szGrads.t := by kernel_rfl
theorem o_w_szGrads : TabOk Try.prog r_w_szGrads := .cons o_w_szSwing Try.func20 (by kernel_rfl) (by kernel_rfl) k_w_szGrads

def d_w_toIntS : Fd := ⟨w_toIntS, ⟨[.val [((.sl [I]), .ro)] false], [⟨[((.sl [I]), .own)], .one⟩]⟩, [⟨3, 2, ⟨[(0, .ro [I] (v 0)), (3, .row 448 0), (4, .sc I (v 1000000))], [(448, .row 0 0 [I] (v 1000001) true false true)]⟩⟩], [], [], 600, t_w_toIntS⟩
abbrev r_w_toIntS : List Fd := d_w_toIntS :: r_w_szGrads
theorem k_w_toIntS : symFn Try.prog (sigsOf r_w_szGrads) Try.f154 d_w_toIntS.sg d_w_toIntS.heads d_w_toIntS.peel d_w_toIntS.clean d_w_toIntS.fuel = d_w_toIntS.t := by kernel_rfl
theorem o_w_toIntS : TabOk Try.prog r_w_toIntS := .cons o_w_szGrads Try.func154 (by kernel_rfl) (by kernel_rfl) k_w_toIntS

def d_w_toOp : Fd := ⟨w_toOp, ⟨[.val [(I, .ro), (I, .ro), (I, .ro), ((.sl [I]), .ro)] true], [⟨[(I, .ro), (I, .ro), (I, .ro), ((.sl [I]), .own)], .agg⟩]⟩, [], [], [], 600, t_w_toOp⟩
abbrev r_w_toOp : List Fd := d_w_toOp :: r_w_toIntS
theorem k_w_toOp : symFn Try.prog (sigsOf r_w_toIntS) Try.f123 d_w_toOp.sg d_w_toOp.heads d_w_toOp.peel d_w_toOp.clean d_w_toOp.fuel = d_w_toOp.t := by kernel_rfl
theorem o_w_toOp : TabOk Try.prog r_w_toOp := .cons o_w_toIntS Try.func123 (by kernel_rfl) (by kernel_rfl) k_w_toOp

def d_w_toOpS : Fd := ⟨w_toOpS, ⟨[.val [((.sl [I, I, I, (.sl [I])]), .ro)] false], [⟨[((.sl [I, I, I, (.sl [I])]), .own)], .one⟩]⟩, [⟨3, 2, ⟨[(0, .ro [I, I, I, (.sl [I])] (v 0)), (3, .row 448 0), (4, .sc I (v 1000000))], [(448, .row 0 0 [I, I, I, (.sl [I])] (v 1000001) true false true)]⟩⟩], [], [], 600, t_w_toOpS⟩
abbrev r_w_toOpS : List Fd := d_w_toOpS :: r_w_toOp
theorem k_w_toOpS : symFn Try.prog (sigsOf r_w_toOp) Try.f73 d_w_toOpS.sg d_w_toOpS.heads d_w_toOpS.peel d_w_toOpS.clean d_w_toOpS.fuel = d_w_toOpS.t := by kernel_rfl
theorem o_w_toOpS : TabOk Try.prog r_w_toOpS := .cons o_w_toOp Try.func73 (by kernel_rfl) (by kernel_rfl) k_w_toOpS

def d_w_toModel : Fd := ⟨w_toModel, ⟨[.val [((.sl [I, I, I, (.sl [I])]), .ro)] true], [⟨[((.sl [I, I, I, (.sl [I])]), .own)], .agg⟩]⟩, [], [], [], 600, t_w_toModel⟩
abbrev r_w_toModel : List Fd := d_w_toModel :: r_w_toOpS
theorem k_w_toModel : symFn Try.prog (sigsOf r_w_toOpS) Try.f22 d_w_toModel.sg d_w_toModel.heads d_w_toModel.peel d_w_toModel.clean d_w_toModel.fuel = d_w_toModel.t := by kernel_rfl
theorem o_w_toModel : TabOk Try.prog r_w_toModel := .cons o_w_toOpS Try.func22 (by kernel_rfl) (by kernel_rfl) k_w_toModel

def d_w_toRow : Fd := ⟨w_toRow, ⟨[.val [((.sl [I]), .ro)] true], [⟨[((.sl [I]), .own)], .agg⟩]⟩, [], [], [], 600, t_w_toRow⟩
abbrev r_w_toRow : List Fd := d_w_toRow :: r_w_toModel
theorem k_w_toRow : symFn Try.prog (sigsOf r_w_toModel) Try.f124 d_w_toRow.sg d_w_toRow.heads d_w_toRow.peel d_w_toRow.clean d_w_toRow.fuel = d_w_toRow.t := by kernel_rfl
theorem o_w_toRow : TabOk Try.prog r_w_toRow := .cons o_w_toModel Try.func124 (by kernel_rfl) (by kernel_rfl) k_w_toRow

def d_w_toRowS : Fd := ⟨w_toRowS, ⟨[.val [((.sl [(.sl [I])]), .ro)] false], [⟨[((.sl [(.sl [I])]), .own)], .one⟩]⟩, [⟨3, 2, ⟨[(0, .ro [(.sl [I])] (v 0)), (3, .row 448 0), (4, .sc I (v 1000000))], [(448, .row 0 0 [(.sl [I])] (v 1000001) true false true)]⟩⟩], [], [], 600, t_w_toRowS⟩
abbrev r_w_toRowS : List Fd := d_w_toRowS :: r_w_toRow
theorem k_w_toRowS : symFn Try.prog (sigsOf r_w_toRow) Try.f74 d_w_toRowS.sg d_w_toRowS.heads d_w_toRowS.peel d_w_toRowS.clean d_w_toRowS.fuel = d_w_toRowS.t := by kernel_rfl
theorem o_w_toRowS : TabOk Try.prog r_w_toRowS := .cons o_w_toRow Try.func74 (by kernel_rfl) (by kernel_rfl) k_w_toRowS

def d_w_toSwing : Fd := ⟨w_toSwing, ⟨[.val [((.sl [(.sl [I])]), .ro), (I, .ro)] true], [⟨[((.sl [(.sl [I])]), .own), (I, .ro)], .agg⟩]⟩, [], [], [], 600, t_w_toSwing⟩
abbrev r_w_toSwing : List Fd := d_w_toSwing :: r_w_toRowS
theorem k_w_toSwing : symFn Try.prog (sigsOf r_w_toRowS) Try.f23 d_w_toSwing.sg d_w_toSwing.heads d_w_toSwing.peel d_w_toSwing.clean d_w_toSwing.fuel = d_w_toSwing.t := by kernel_rfl
theorem o_w_toSwing : TabOk Try.prog r_w_toSwing := .cons o_w_toRowS Try.func23 (by kernel_rfl) (by kernel_rfl) k_w_toSwing

def d_w_toGrads : Fd := ⟨w_toGrads, ⟨[.val [((.sl [(.sl [I])]), .ro), (I, .ro), (.bool, .ro)] true], [⟨[((.sl [(.sl [I])]), .own), (I, .ro), (.bool, .ro)], .agg⟩]⟩, [], [], [], 600, t_w_toGrads⟩
abbrev r_w_toGrads : List Fd := d_w_toGrads :: r_w_toSwing
theorem k_w_toGrads : symFn Try.prog (sigsOf r_w_toSwing) Try.f24 d_w_toGrads.sg d_w_toGrads.heads d_w_toGrads.peel d_w_toGrads.clean d_w_toGrads.fuel = d_w_toGrads.t := by kernel_rfl
theorem o_w_toGrads : TabOk Try.prog r_w_toGrads := .cons o_w_toSwing Try.func24 (by kernel_rfl) (by kernel_rfl) k_w_toGrads

def d_s_l11Rows : Fd := ⟨s_l11Rows, ⟨[.val [((.sl [(.sl [I])]), .ro)] false], [⟨[((.sl [(.sl [I])]), .own)], .one⟩]⟩, [⟨3, 2, ⟨[(0, .ro [(.sl [I])] (v 0)), (4, .sc I (v 1000000)), (3, .row 320 0)], [(320, .row 0 0 [(.sl [I])] (v 1000001) true false true)]⟩⟩], [], [], 600, t_s_l11Rows⟩
abbrev r_s_l11Rows : List Fd := d_s_l11Rows :: r_w_toGrads
theorem k_s_l11Rows : symFn Try.prog (sigsOf r_w_toGrads) Try.f68 d_s_l11Rows.sg d_s_l11Rows.heads d_s_l11Rows.peel d_s_l11Rows.clean d_s_l11Rows.fuel = d_s_l11Rows.t := by kernel_rfl
theorem o_s_l11Rows : TabOk Try.prog r_s_l11Rows := .cons o_w_toGrads Try.func68 (by kernel_rfl) (by kernel_rfl) k_s_l11Rows

def d_s_l11Ops : Fd := ⟨s_l11Ops, ⟨[.val [((.sl [I, I, I, (.sl [I])]), .ro)] false], [⟨[((.sl [I, I, I, (.sl [I])]), .own)], .one⟩]⟩, [⟨3, 2, ⟨[(0, .ro [I, I, I, (.sl [I])] (v 0)), (4, .sc I (v 1000000)), (3, .row 384 0)], [(384, .row 0 0 [I, I, I, (.sl [I])] (v 1000001) true false true)]⟩⟩], [], [], 600, t_s_l11Ops⟩
abbrev r_s_l11Ops : List Fd := d_s_l11Ops :: r_s_l11Rows
theorem k_s_l11Ops : symFn Try.prog (sigsOf r_s_l11Rows) Try.f118 d_s_l11Ops.sg d_s_l11Ops.heads d_s_l11Ops.peel d_s_l11Ops.clean d_s_l11Ops.fuel = d_s_l11Ops.t := by kernel_rfl
theorem o_s_l11Ops : TabOk Try.prog r_s_l11Ops := .cons o_s_l11Rows Try.func118 (by kernel_rfl) (by kernel_rfl) k_s_l11Ops

def d_s_l1In : Fd := ⟨s_l1In, ⟨[.val [(I, .ro)] false, .val [(I, .ro)] false, .val [(I, .ro)] false], [⟨[(.bool, .ro)], .one⟩]⟩, [], [], [], 600, t_s_l1In⟩
abbrev r_s_l1In : List Fd := d_s_l1In :: r_s_l11Ops
theorem k_s_l1In : symFn Try.prog (sigsOf r_s_l11Ops) Try.f65 d_s_l1In.sg d_s_l1In.heads d_s_l1In.peel d_s_l1In.clean d_s_l1In.fuel = d_s_l1In.t := by kernel_rfl
theorem o_s_l1In : TabOk Try.prog r_s_l1In := .cons o_s_l11Ops Try.func65 (by kernel_rfl) (by kernel_rfl) k_s_l1In

def d_s_OpSize : Fd := ⟨s_OpSize, ⟨[.val [(I, .ro), (I, .ro), (I, .ro), ((.sl [I]), .ro)] true], [⟨[(I, .ro)], .one⟩]⟩, [], [], [], 600, t_s_OpSize⟩
abbrev r_s_OpSize : List Fd := d_s_OpSize :: r_s_l1In
theorem k_s_OpSize : symFn Try.prog (sigsOf r_s_l1In) Try.f115 d_s_OpSize.sg d_s_OpSize.heads d_s_OpSize.peel d_s_OpSize.clean d_s_OpSize.fuel = d_s_OpSize.t := by kernel_rfl
theorem o_s_OpSize : TabOk Try.prog r_s_OpSize := .cons o_s_l1In Try.func115 (by kernel_rfl) (by kernel_rfl) k_s_OpSize

def d_s_FixOk : Fd := ⟨s_FixOk, ⟨[.val [(I, .ro)] false], [⟨[(.bool, .ro)], .one⟩]⟩, [], [], [], 600, t_s_FixOk⟩
abbrev r_s_FixOk : List Fd := d_s_FixOk :: r_s_OpSize
theorem k_s_FixOk : symFn Try.prog (sigsOf r_s_OpSize) Try.f70 d_s_FixOk.sg d_s_FixOk.heads d_s_FixOk.peel d_s_FixOk.clean d_s_FixOk.fuel = d_s_FixOk.t := by kernel_rfl
theorem o_s_FixOk : TabOk Try.prog r_s_FixOk := .cons o_s_OpSize Try.func70 (by kernel_rfl) (by kernel_rfl) k_s_FixOk

def d_s_OpOk : Fd := ⟨s_OpOk, ⟨[.val [(I, .ro), (I, .ro), (I, .ro), ((.sl [I]), .ro)] true], [⟨[(.bool, .ro)], .one⟩]⟩, [⟨4, 1, ⟨[(1, .ptr 64 0 0), (3, .sc I (v 1000000))], [(64, .box 0 [.sc I (v 0), .sc I (v 1), .sc I (v 2), .ro [I] (v 3)])]⟩⟩], [], [], 600, t_s_OpOk⟩
abbrev r_s_OpOk : List Fd := d_s_OpOk :: r_s_FixOk
theorem k_s_OpOk : symFn Try.prog (sigsOf r_s_FixOk) Try.f64 d_s_OpOk.sg d_s_OpOk.heads d_s_OpOk.peel d_s_OpOk.clean d_s_OpOk.fuel = d_s_OpOk.t := by kernel_rfl
theorem o_s_OpOk : TabOk Try.prog r_s_OpOk := .cons o_s_FixOk Try.func64 (by kernel_rfl) (by kernel_rfl) k_s_OpOk

def d_s_ModelOk : Fd := ⟨s_ModelOk, ⟨[.val [((.sl [I, I, I, (.sl [I])]), .ro)] true], [⟨[(.bool, .ro)], .one⟩]⟩, [⟨2, 1, ⟨[(1, .ptr 64 0 0), (3, .sc I (v 1000000))], [(64, .box 0 [.ro [I, I, I, (.sl [I])] (v 0)])]⟩⟩], [], [], 600, t_s_ModelOk⟩
abbrev r_s_ModelOk : List Fd := d_s_ModelOk :: r_s_OpOk
theorem k_s_ModelOk : symFn Try.prog (sigsOf r_s_OpOk) Try.f17 d_s_ModelOk.sg d_s_ModelOk.heads d_s_ModelOk.peel d_s_ModelOk.clean d_s_ModelOk.fuel = d_s_ModelOk.t := by kernel_rfl
theorem o_s_ModelOk : TabOk Try.prog r_s_ModelOk := .cons o_s_OpOk Try.func17 (by kernel_rfl) (by kernel_rfl) k_s_ModelOk

def d_s_l2Sat : Fd := ⟨s_l2Sat, ⟨[.val [(I, .ro)] false], [⟨[(I, .ro)], .one⟩, ⟨[(.bool, .ro)], .one⟩]⟩, [], [], [], 600, t_s_l2Sat⟩
abbrev r_s_l2Sat : List Fd := d_s_l2Sat :: r_s_ModelOk
theorem k_s_l2Sat : symFn Try.prog (sigsOf r_s_ModelOk) Try.f120 d_s_l2Sat.sg d_s_l2Sat.heads d_s_l2Sat.peel d_s_l2Sat.clean d_s_l2Sat.fuel = d_s_l2Sat.t := by kernel_rfl
theorem o_s_l2Sat : TabOk Try.prog r_s_l2Sat := .cons o_s_ModelOk Try.func120 (by kernel_rfl) (by kernel_rfl) k_s_l2Sat

def d_s_l2In : Fd := ⟨s_l2In, ⟨[.val [(I, .ro)] false], [⟨[(I, .ro)], .one⟩]⟩, [], [], [], 600, t_s_l2In⟩
abbrev r_s_l2In : List Fd := d_s_l2In :: r_s_l2Sat
theorem k_s_l2In : symFn Try.prog (sigsOf r_s_l2Sat) Try.f122 d_s_l2In.sg d_s_l2In.heads d_s_l2In.peel d_s_l2In.clean d_s_l2In.fuel = d_s_l2In.t := by kernel_rfl
theorem o_s_l2In : TabOk Try.prog r_s_l2In := .cons o_s_l2Sat Try.func122 (by kernel_rfl) (by kernel_rfl) k_s_l2In

def d_s_l2Floor : Fd := ⟨s_l2Floor, ⟨[.val [(I, .ro)] false, .val [(I, .ro)] false], [⟨[(I, .ro)], .one⟩]⟩, [], [], [], 600, t_s_l2Floor⟩
abbrev r_s_l2Floor : List Fd := d_s_l2Floor :: r_s_l2In
theorem k_s_l2Floor : symFn Try.prog (sigsOf r_s_l2In) Try.f121 d_s_l2Floor.sg d_s_l2Floor.heads d_s_l2Floor.peel d_s_l2Floor.clean d_s_l2Floor.fuel = d_s_l2Floor.t := by kernel_rfl
theorem o_s_l2Floor : TabOk Try.prog r_s_l2Floor := .cons o_s_l2In Try.func121 (by kernel_rfl) (by kernel_rfl) k_s_l2Floor

def d_s_FixMul : Fd := ⟨s_FixMul, ⟨[.val [(I, .ro)] false, .val [(I, .ro)] false], [⟨[(I, .ro)], .one⟩, ⟨[(.bool, .ro)], .one⟩]⟩, [], [], [], 600, t_s_FixMul⟩
abbrev r_s_FixMul : List Fd := d_s_FixMul :: r_s_l2Floor
theorem k_s_FixMul : symFn Try.prog (sigsOf r_s_l2Floor) Try.f71 d_s_FixMul.sg d_s_FixMul.heads d_s_FixMul.peel d_s_FixMul.clean d_s_FixMul.fuel = d_s_FixMul.t := by kernel_rfl
theorem o_s_FixMul : TabOk Try.prog r_s_FixMul := .cons o_s_l2Floor Try.func71 (by kernel_rfl) (by kernel_rfl) k_s_FixMul

def d_s_FixSub : Fd := ⟨s_FixSub, ⟨[.val [(I, .ro)] false, .val [(I, .ro)] false], [⟨[(I, .ro)], .one⟩, ⟨[(.bool, .ro)], .one⟩]⟩, [], [], [], 600, t_s_FixSub⟩
abbrev r_s_FixSub : List Fd := d_s_FixSub :: r_s_FixMul
theorem k_s_FixSub : symFn Try.prog (sigsOf r_s_FixMul) Try.f119 d_s_FixSub.sg d_s_FixSub.heads d_s_FixSub.peel d_s_FixSub.clean d_s_FixSub.fuel = d_s_FixSub.t := by kernel_rfl
theorem o_s_FixSub : TabOk Try.prog r_s_FixSub := .cons o_s_FixMul Try.func119 (by kernel_rfl) (by kernel_rfl) k_s_FixSub

def d_s_Learn : Fd := ⟨s_Learn, ⟨[.val [((.sl [I, I, I, (.sl [I])]), .ro)] true, .val [((.sl [(.sl [I])]), .ro), (I, .ro), (.bool, .ro)] true, .val [(I, .ro)] false], [⟨[((.sl [I, I, I, (.sl [I])]), .own)], .agg⟩, ⟨[(.bool, .ro)], .one⟩]⟩, [⟨6, 3, ⟨[(6, .ptr 384 0 0), (3, .ptr 192 0 0), (10, .sc I (v 1000000)), (4, .ptr 256 0 0), (2, .sc I (v 4)), (8, .ptr 512 0 0), (9, .sc .bool (v 1000001))], [(384, .box 0 [.nil]), (192, .box 0 [.ro [I, I, I, (.sl [I])] (v 0)]), (256, .box 0 [.ro [(.sl [I])] (v 1), .sc I (v 2), .sc .bool (v 3)]), (512, .box 0 [.row 1216 0]), (1216, .row 0 0 [I, I, I, (.sl [I])] (v 1000002) true false true)]⟩⟩,
  ⟨12, 5, ⟨[(10, .sc I (v 1000000)), (3, .ptr 192 0 0), (4, .ptr 256 0 0), (2, .sc I (v 4)), (6, .ptr 384 0 0), (8, .ptr 512 0 0), (12, .sc I (v 1000001)), (9, .sc .bool (v 1000002)), (11, .row 4160 0)], [(192, .box 0 [.ro [I, I, I, (.sl [I])] (v 0)]), (256, .box 0 [.ro [(.sl [I])] (v 1), .sc I (v 2), .sc .bool (v 3)]), (384, .box 0 [.nil]), (512, .box 0 [.row 1216 0]), (1216, .row 0 0 [I, I, I, (.sl [I])] (v 1000003) true false true), (4160, .row 0 0 [I] (v 1000004) true false true)]⟩⟩], [], [], 600, t_s_Learn⟩
abbrev r_s_Learn : List Fd := d_s_Learn :: r_s_FixSub
theorem k_s_Learn : symFn Try.prog (sigsOf r_s_FixSub) Try.f69 d_s_Learn.sg d_s_Learn.heads d_s_Learn.peel d_s_Learn.clean d_s_Learn.fuel = d_s_Learn.t := by kernel_rfl
theorem o_s_Learn : TabOk Try.prog r_s_Learn := .cons o_s_FixSub Try.func69 (by kernel_rfl) (by kernel_rfl) k_s_Learn

def d_s_SwingOk : Fd := ⟨s_SwingOk, ⟨[.val [((.sl [I, I, I, (.sl [I])]), .ro)] true, .val [((.sl [(.sl [I])]), .ro), (I, .ro)] true], [⟨[(.bool, .ro)], .one⟩]⟩, [⟨4, 1, ⟨[(5, .sc I (v 1000000)), (3, .ptr 192 0 0), (2, .ptr 128 0 0)], [(192, .box 0 [.ro [(.sl [I])] (v 1), .sc I (v 2)]), (128, .box 0 [.ro [I, I, I, (.sl [I])] (v 0)])]⟩⟩,
  ⟨9, 2, ⟨[(5, .sc I (v 1000000)), (3, .ptr 192 0 0), (2, .ptr 128 0 0), (6, .sc I (v 1000001))], [(192, .box 0 [.ro [(.sl [I])] (v 1), .sc I (v 2)]), (128, .box 0 [.ro [I, I, I, (.sl [I])] (v 0)])]⟩⟩], [], [], 600, t_s_SwingOk⟩
abbrev r_s_SwingOk : List Fd := d_s_SwingOk :: r_s_Learn
theorem k_s_SwingOk : symFn Try.prog (sigsOf r_s_Learn) Try.f43 d_s_SwingOk.sg d_s_SwingOk.heads d_s_SwingOk.peel d_s_SwingOk.clean d_s_SwingOk.fuel = d_s_SwingOk.t := by kernel_rfl
theorem o_s_SwingOk : TabOk Try.prog r_s_SwingOk := .cons o_s_Learn Try.func43 (by kernel_rfl) (by kernel_rfl) k_s_SwingOk

def d_s_FixAdd : Fd := ⟨s_FixAdd, ⟨[.val [(I, .ro)] false, .val [(I, .ro)] false], [⟨[(I, .ro)], .one⟩, ⟨[(.bool, .ro)], .one⟩]⟩, [], [], [], 600, t_s_FixAdd⟩
abbrev r_s_FixAdd : List Fd := d_s_FixAdd :: r_s_SwingOk
theorem k_s_FixAdd : symFn Try.prog (sigsOf r_s_SwingOk) Try.f72 d_s_FixAdd.sg d_s_FixAdd.heads d_s_FixAdd.peel d_s_FixAdd.clean d_s_FixAdd.fuel = d_s_FixAdd.t := by kernel_rfl
theorem o_s_FixAdd : TabOk Try.prog r_s_FixAdd := .cons o_s_SwingOk Try.func72 (by kernel_rfl) (by kernel_rfl) k_s_FixAdd

def d_s_SwingStep : Fd := ⟨s_SwingStep, ⟨[.val [((.sl [I, I, I, (.sl [I])]), .ro)] true, .val [((.sl [(.sl [I])]), .ro), (I, .ro)] true, .val [((.sl [(.sl [I])]), .ro), (I, .ro), (.bool, .ro)] true, .val [(I, .ro)] false, .val [(I, .ro)] false], [⟨[((.sl [I, I, I, (.sl [I])]), .own)], .agg⟩, ⟨[((.sl [(.sl [I])]), .own), (I, .ro)], .agg⟩, ⟨[(.bool, .ro)], .one⟩]⟩, [⟨8, 3, ⟨[(10, .ptr 640 0 0), (11, .ptr 704 0 0), (13, .ptr 832 0 0), (14, .ptr 896 0 0), (18, .sc I (v 1000000)), (7, .ptr 448 0 0), (6, .ptr 384 0 0), (4, .sc I (v 7)), (17, .ptr 1088 0 0), (5, .ptr 320 0 0), (3, .sc I (v 6)), (16, .sc .bool (v 1000001))], [(640, .box 0 [.nil]), (704, .box 0 [.nil, .sc I (n 0)]), (832, .box 0 [.row 1856 0, .sc I (v 2)]), (1856, .row 0 0 [(.sl [I])] (fn s_l11Rows 0 [(v 1)]) true false true), (896, .box 0 [.row 2304 0]), (2304, .row 0 0 [I, I, I, (.sl [I])] (fn s_Learn 0 [(v 0), .nil, (n 0), ff, (n 0)]) true false true), (448, .box 0 [.ro [(.sl [I])] (v 3), .sc I (v 4), .sc .bool (v 5)]), (384, .box 0 [.ro [(.sl [I])] (v 1), .sc I (v 2)]), (1088, .box 0 [.row 901000 0, .sc I (ad (v 2) (n 1))]), (901000, .row 0 0 [(.sl [I])] (v 1000002) true false true), (320, .box 0 [.ro [I, I, I, (.sl [I])] (v 0)])]⟩⟩,
  ⟨14, 5, ⟨[(18, .sc I (v 1000000)), (7, .ptr 448 0 0), (6, .ptr 384 0 0), (4, .sc I (v 7)), (10, .ptr 640 0 0), (11, .ptr 704 0 0), (13, .ptr 832 0 0), (14, .ptr 896 0 0), (17, .ptr 1088 0 0), (5, .ptr 320 0 0), (3, .sc I (v 6)), (20, .sc I (v 1000001)), (16, .sc .bool (v 1000002)), (19, .row 6208 0)], [(448, .box 0 [.ro [(.sl [I])] (v 3), .sc I (v 4), .sc .bool (v 5)]), (384, .box 0 [.ro [(.sl [I])] (v 1), .sc I (v 2)]), (640, .box 0 [.nil]), (704, .box 0 [.nil, .sc I (n 0)]), (832, .box 0 [.row 1856 0, .sc I (v 2)]), (1856, .row 0 0 [(.sl [I])] (fn s_l11Rows 0 [(v 1)]) true false true), (896, .box 0 [.row 2304 0]), (2304, .row 0 0 [I, I, I, (.sl [I])] (fn s_Learn 0 [(v 0), .nil, (n 0), ff, (n 0)]) true false true), (1088, .box 0 [.row 901100 0, .sc I (ad (v 2) (n 1))]), (901100, .row 0 0 [(.sl [I])] (v 1000003) true false true), (320, .box 0 [.ro [I, I, I, (.sl [I])] (v 0)]), (6208, .row 0 0 [I] (v 1000004) true false true)]⟩⟩], [], [], 600, t_s_SwingStep⟩
abbrev r_s_SwingStep : List Fd := d_s_SwingStep :: r_s_FixAdd
theorem k_s_SwingStep : symFn Try.prog (sigsOf r_s_FixAdd) Try.f21 d_s_SwingStep.sg d_s_SwingStep.heads d_s_SwingStep.peel d_s_SwingStep.clean d_s_SwingStep.fuel = d_s_SwingStep.t := by kernel_rfl
theorem o_s_SwingStep : TabOk Try.prog r_s_SwingStep := .cons o_s_FixAdd Try.func21 (by kernel_rfl) (by kernel_rfl) k_s_SwingStep

def d_i_copyInts : Fd := ⟨i_copyInts, ⟨[.val [((.sl [I]), .ro)] false], [⟨[((.sl [I]), .own)], .one⟩]⟩, [], [], [], 600, t_i_copyInts⟩
abbrev r_i_copyInts : List Fd := d_i_copyInts :: r_s_SwingStep
theorem k_i_copyInts : symFn Try.prog (sigsOf r_s_SwingStep) Try.f89 d_i_copyInts.sg d_i_copyInts.heads d_i_copyInts.peel d_i_copyInts.clean d_i_copyInts.fuel = d_i_copyInts.t := by kernel_rfl
theorem o_i_copyInts : TabOk Try.prog r_i_copyInts := .cons o_s_SwingStep Try.func89 (by kernel_rfl) (by kernel_rfl) k_i_copyInts

def d_i_copyRows : Fd := ⟨i_copyRows, ⟨[.val [((.sl [(.sl [I])]), .ro)] false], [⟨[((.sl [(.sl [I])]), .own)], .one⟩]⟩, [⟨3, 2, ⟨[(7, .ro [(.sl [I])] (v 0)), (8, .sc I (ln (v 0))), (9, .sc I (v 1000000)), (3, .row 384 0)], [(384, .row 0 0 [(.sl [I])] (v 1000001) true false true)]⟩⟩], [], [], 600, t_i_copyRows⟩
abbrev r_i_copyRows : List Fd := d_i_copyRows :: r_i_copyInts
theorem k_i_copyRows : symFn Try.prog (sigsOf r_i_copyInts) Try.f75 d_i_copyRows.sg d_i_copyRows.heads d_i_copyRows.peel d_i_copyRows.clean d_i_copyRows.fuel = d_i_copyRows.t := by kernel_rfl
theorem o_i_copyRows : TabOk Try.prog r_i_copyRows := .cons o_i_copyInts Try.func75 (by kernel_rfl) (by kernel_rfl) k_i_copyRows

def d_i_OpSize : Fd := ⟨i_OpSize, ⟨[.val [(I, .ro), (I, .ro), (I, .ro), ((.sl [I]), .ro)] true], [⟨[(I, .ro)], .one⟩]⟩, [], [], [], 600, t_i_OpSize⟩
abbrev r_i_OpSize : List Fd := d_i_OpSize :: r_i_copyRows
theorem k_i_OpSize : symFn Try.prog (sigsOf r_i_copyRows) Try.f152 d_i_OpSize.sg d_i_OpSize.heads d_i_OpSize.peel d_i_OpSize.clean d_i_OpSize.fuel = d_i_OpSize.t := by kernel_rfl
theorem o_i_OpSize : TabOk Try.prog r_i_OpSize := .cons o_i_copyRows Try.func152 (by kernel_rfl) (by kernel_rfl) k_i_OpSize

def d_i_FixOk : Fd := ⟨i_FixOk, ⟨[.val [(I, .ro)] false], [⟨[(.bool, .ro)], .one⟩]⟩, [], [], [], 600, t_i_FixOk⟩
abbrev r_i_FixOk : List Fd := d_i_FixOk :: r_i_OpSize
theorem k_i_FixOk : symFn Try.prog (sigsOf r_i_OpSize) Try.f59 d_i_FixOk.sg d_i_FixOk.heads d_i_FixOk.peel d_i_FixOk.clean d_i_FixOk.fuel = d_i_FixOk.t := by kernel_rfl
theorem o_i_FixOk : TabOk Try.prog r_i_FixOk := .cons o_i_OpSize Try.func59 (by kernel_rfl) (by kernel_rfl) k_i_FixOk

def d_i_allFix : Fd := ⟨i_allFix, ⟨[.val [((.sl [I]), .ro)] false], [⟨[(.bool, .ro)], .one⟩]⟩, [⟨2, 1, ⟨[(5, .ro [I] (v 0)), (6, .sc I (ln (v 0))), (7, .sc I (v 1000000))], []⟩⟩], [], [], 600, t_i_allFix⟩
abbrev r_i_allFix : List Fd := d_i_allFix :: r_i_FixOk
theorem k_i_allFix : symFn Try.prog (sigsOf r_i_FixOk) Try.f102 d_i_allFix.sg d_i_allFix.heads d_i_allFix.peel d_i_allFix.clean d_i_allFix.fuel = d_i_allFix.t := by kernel_rfl
theorem o_i_allFix : TabOk Try.prog r_i_allFix := .cons o_i_FixOk Try.func102 (by kernel_rfl) (by kernel_rfl) k_i_allFix

def d_i_OpOk : Fd := ⟨i_OpOk, ⟨[.val [(I, .ro), (I, .ro), (I, .ro), ((.sl [I]), .ro)] true], [⟨[(.bool, .ro)], .one⟩]⟩, [], [], [], 600, t_i_OpOk⟩
abbrev r_i_OpOk : List Fd := d_i_OpOk :: r_i_allFix
theorem k_i_OpOk : symFn Try.prog (sigsOf r_i_allFix) Try.f112 d_i_OpOk.sg d_i_OpOk.heads d_i_OpOk.peel d_i_OpOk.clean d_i_OpOk.fuel = d_i_OpOk.t := by kernel_rfl
theorem o_i_OpOk : TabOk Try.prog r_i_OpOk := .cons o_i_allFix Try.func112 (by kernel_rfl) (by kernel_rfl) k_i_OpOk

def d_i_ModelOk : Fd := ⟨i_ModelOk, ⟨[.val [((.sl [I, I, I, (.sl [I])]), .ro)] true], [⟨[(.bool, .ro)], .one⟩]⟩, [⟨4, 1, ⟨[(1, .ptr 64 0 0), (16, .ro [I, I, I, (.sl [I])] (v 0)), (17, .sc I (ln (v 0))), (18, .sc I (v 1000000))], [(64, .box 0 [.ro [I, I, I, (.sl [I])] (v 0)])]⟩⟩], [], [], 600, t_i_ModelOk⟩
abbrev r_i_ModelOk : List Fd := d_i_ModelOk :: r_i_OpOk
theorem k_i_ModelOk : symFn Try.prog (sigsOf r_i_OpOk) Try.f58 d_i_ModelOk.sg d_i_ModelOk.heads d_i_ModelOk.peel d_i_ModelOk.clean d_i_ModelOk.fuel = d_i_ModelOk.t := by kernel_rfl
theorem o_i_ModelOk : TabOk Try.prog r_i_ModelOk := .cons o_i_OpOk Try.func58 (by kernel_rfl) (by kernel_rfl) k_i_ModelOk

def d_i_gradsFit : Fd := ⟨i_gradsFit, ⟨[.val [((.sl [I, I, I, (.sl [I])]), .ro)] true, .val [((.sl [(.sl [I])]), .ro)] false], [⟨[(.bool, .ro)], .one⟩]⟩, [⟨4, 1, ⟨[(1, .ro [(.sl [I])] (v 1)), (14, .ro [I, I, I, (.sl [I])] (v 0)), (15, .sc I (ln (v 0))), (16, .sc I (v 1000000))], []⟩⟩], [], [], 600, t_i_gradsFit⟩
abbrev r_i_gradsFit : List Fd := d_i_gradsFit :: r_i_ModelOk
theorem k_i_gradsFit : symFn Try.prog (sigsOf r_i_ModelOk) Try.f60 d_i_gradsFit.sg d_i_gradsFit.heads d_i_gradsFit.peel d_i_gradsFit.clean d_i_gradsFit.fuel = d_i_gradsFit.t := by kernel_rfl
theorem o_i_gradsFit : TabOk Try.prog r_i_gradsFit := .cons o_i_ModelOk Try.func60 (by kernel_rfl) (by kernel_rfl) k_i_gradsFit

def d_i_SwingOk : Fd := ⟨i_SwingOk, ⟨[.val [((.sl [I, I, I, (.sl [I])]), .ro)] true, .val [((.sl [(.sl [I])]), .ro), (I, .ro)] true], [⟨[(.bool, .ro)], .one⟩]⟩, [⟨4, 1, ⟨[(23, .ro [(.sl [I])] (v 1)), (24, .sc I (ln (v 1))), (25, .sc I (v 1000000))], []⟩⟩], [], [], 600, t_i_SwingOk⟩
abbrev r_i_SwingOk : List Fd := d_i_SwingOk :: r_i_gradsFit
theorem k_i_SwingOk : symFn Try.prog (sigsOf r_i_gradsFit) Try.f44 d_i_SwingOk.sg d_i_SwingOk.heads d_i_SwingOk.peel d_i_SwingOk.clean d_i_SwingOk.fuel = d_i_SwingOk.t := by kernel_rfl
theorem o_i_SwingOk : TabOk Try.prog r_i_SwingOk := .cons o_i_gradsFit Try.func44 (by kernel_rfl) (by kernel_rfl) k_i_SwingOk

def d_i_copyOps : Fd := ⟨i_copyOps, ⟨[.val [((.sl [I, I, I, (.sl [I])]), .ro)] false], [⟨[((.sl [I, I, I, (.sl [I])]), .own)], .one⟩]⟩, [⟨3, 2, ⟨[(7, .ro [I, I, I, (.sl [I])] (v 0)), (8, .sc I (ln (v 0))), (9, .sc I (v 1000000)), (3, .row 384 0)], [(384, .row 0 0 [I, I, I, (.sl [I])] (v 1000001) true false true)]⟩⟩], [], [], 600, t_i_copyOps⟩
abbrev r_i_copyOps : List Fd := d_i_copyOps :: r_i_SwingOk
theorem k_i_copyOps : symFn Try.prog (sigsOf r_i_SwingOk) Try.f111 d_i_copyOps.sg d_i_copyOps.heads d_i_copyOps.peel d_i_copyOps.clean d_i_copyOps.fuel = d_i_copyOps.t := by kernel_rfl
theorem o_i_copyOps : TabOk Try.prog r_i_copyOps := .cons o_i_SwingOk Try.func111 (by kernel_rfl) (by kernel_rfl) k_i_copyOps

def d_i_copyModel : Fd := ⟨i_copyModel, ⟨[.val [((.sl [I, I, I, (.sl [I])]), .ro)] true], [⟨[((.sl [I, I, I, (.sl [I])]), .own)], .agg⟩]⟩, [], [], [], 600, t_i_copyModel⟩
abbrev r_i_copyModel : List Fd := d_i_copyModel :: r_i_copyOps
theorem k_i_copyModel : symFn Try.prog (sigsOf r_i_copyOps) Try.f57 d_i_copyModel.sg d_i_copyModel.heads d_i_copyModel.peel d_i_copyModel.clean d_i_copyModel.fuel = d_i_copyModel.t := by kernel_rfl
theorem o_i_copyModel : TabOk Try.prog r_i_copyModel := .cons o_i_copyOps Try.func57 (by kernel_rfl) (by kernel_rfl) k_i_copyModel

def d_i_clamp : Fd := ⟨i_clamp, ⟨[.val [(I, .ro)] false], [⟨[(I, .ro)], .one⟩]⟩, [], [], [], 600, t_i_clamp⟩
abbrev r_i_clamp : List Fd := d_i_clamp :: r_i_copyModel
theorem k_i_clamp : symFn Try.prog (sigsOf r_i_copyModel) Try.f114 d_i_clamp.sg d_i_clamp.heads d_i_clamp.peel d_i_clamp.clean d_i_clamp.fuel = d_i_clamp.t := by kernel_rfl
theorem o_i_clamp : TabOk Try.prog r_i_clamp := .cons o_i_copyModel Try.func114 (by kernel_rfl) (by kernel_rfl) k_i_clamp

def d_i_settle : Fd := ⟨i_settle, ⟨[.val [(I, .ro)] false], [⟨[(I, .ro)], .one⟩, ⟨[(.bool, .ro)], .one⟩]⟩, [], [], [], 600, t_i_settle⟩
abbrev r_i_settle : List Fd := d_i_settle :: r_i_clamp
theorem k_i_settle : symFn Try.prog (sigsOf r_i_clamp) Try.f113 d_i_settle.sg d_i_settle.heads d_i_settle.peel d_i_settle.clean d_i_settle.fuel = d_i_settle.t := by kernel_rfl
theorem o_i_settle : TabOk Try.prog r_i_settle := .cons o_i_clamp Try.func113 (by kernel_rfl) (by kernel_rfl) k_i_settle

def d_i_FixMul : Fd := ⟨i_FixMul, ⟨[.val [(I, .ro)] false, .val [(I, .ro)] false], [⟨[(I, .ro)], .one⟩, ⟨[(.bool, .ro)], .one⟩]⟩, [], [], [], 600, t_i_FixMul⟩
abbrev r_i_FixMul : List Fd := d_i_FixMul :: r_i_settle
theorem k_i_FixMul : symFn Try.prog (sigsOf r_i_settle) Try.f61 d_i_FixMul.sg d_i_FixMul.heads d_i_FixMul.peel d_i_FixMul.clean d_i_FixMul.fuel = d_i_FixMul.t := by kernel_rfl
theorem o_i_FixMul : TabOk Try.prog r_i_FixMul := .cons o_i_settle Try.func61 (by kernel_rfl) (by kernel_rfl) k_i_FixMul

def d_i_FixAdd : Fd := ⟨i_FixAdd, ⟨[.val [(I, .ro)] false, .val [(I, .ro)] false], [⟨[(I, .ro)], .one⟩, ⟨[(.bool, .ro)], .one⟩]⟩, [], [], [], 600, t_i_FixAdd⟩
abbrev r_i_FixAdd : List Fd := d_i_FixAdd :: r_i_FixMul
theorem k_i_FixAdd : symFn Try.prog (sigsOf r_i_FixMul) Try.f76 d_i_FixAdd.sg d_i_FixAdd.heads d_i_FixAdd.peel d_i_FixAdd.clean d_i_FixAdd.fuel = d_i_FixAdd.t := by kernel_rfl
theorem o_i_FixAdd : TabOk Try.prog r_i_FixAdd := .cons o_i_FixMul Try.func76 (by kernel_rfl) (by kernel_rfl) k_i_FixAdd

def d_i_FixSub : Fd := ⟨i_FixSub, ⟨[.val [(I, .ro)] false, .val [(I, .ro)] false], [⟨[(I, .ro)], .one⟩, ⟨[(.bool, .ro)], .one⟩]⟩, [], [], [], 600, t_i_FixSub⟩
abbrev r_i_FixSub : List Fd := d_i_FixSub :: r_i_FixAdd
theorem k_i_FixSub : symFn Try.prog (sigsOf r_i_FixAdd) Try.f62 d_i_FixSub.sg d_i_FixSub.heads d_i_FixSub.peel d_i_FixSub.clean d_i_FixSub.fuel = d_i_FixSub.t := by kernel_rfl
theorem o_i_FixSub : TabOk Try.prog r_i_FixSub := .cons o_i_FixAdd Try.func62 (by kernel_rfl) (by kernel_rfl) k_i_FixSub

def d_i_Learn : Fd := ⟨i_Learn, ⟨[.val [((.sl [I, I, I, (.sl [I])]), .ro)] true, .val [((.sl [(.sl [I])]), .ro), (I, .ro), (.bool, .ro)] true, .val [(I, .ro)] false], [⟨[((.sl [I, I, I, (.sl [I])]), .own)], .agg⟩, ⟨[(.bool, .ro)], .one⟩]⟩, [⟨6, 3, ⟨[(4, .ptr 256 0 0), (2, .sc I (v 4)), (8, .ptr 512 0 0), (6, .ptr 384 0 0), (37, .sc I (ln (fn i_copyModel 0 [(v 0)]))), (38, .sc I (v 1000000)), (9, .sc .bool (v 1000001))], [(256, .box 0 [.ro [(.sl [I])] (v 1), .sc I (v 2), .sc .bool (v 3)]), (512, .box 0 [.row 1152 0]), (1152, .row 0 0 [I, I, I, (.sl [I])] (v 1000002) true true true), (384, .box 0 [.nil])]⟩⟩,
  ⟨10, 7, ⟨[(11, .under 1152 0 0 (v 1000000) 3 [I]), (10, .sc I (v 1000001)), (4, .ptr 256 0 0), (2, .sc I (v 4)), (8, .ptr 512 0 0), (6, .ptr 384 0 0), (37, .sc I (ln (fn i_copyModel 0 [(v 0)]))), (38, .sc I (v 1000002)), (48, .sc I (v 1000003)), (49, .sc I (v 1000004)), (9, .sc .bool (v 1000005))], [(1152, .row 0 0 [I, I, I, (.sl [I])] (v 1000006) true true true), (256, .box 0 [.ro [(.sl [I])] (v 1), .sc I (v 2), .sc .bool (v 3)]), (512, .box 0 [.row 1152 0]), (384, .box 0 [.nil])]⟩⟩], [], [18], 600, t_i_Learn⟩
abbrev r_i_Learn : List Fd := d_i_Learn :: r_i_FixSub
theorem k_i_Learn : symFn Try.prog (sigsOf r_i_FixSub) Try.f15 d_i_Learn.sg d_i_Learn.heads d_i_Learn.peel d_i_Learn.clean d_i_Learn.fuel = d_i_Learn.t := by kernel_rfl
theorem o_i_Learn : TabOk Try.prog r_i_Learn := .cons o_i_FixSub Try.func15 (by kernel_rfl) (by kernel_rfl) k_i_Learn

def d_i_SwingStep : Fd := ⟨i_SwingStep, ⟨[.val [((.sl [I, I, I, (.sl [I])]), .ro)] true, .val [((.sl [(.sl [I])]), .ro), (I, .ro)] true, .val [((.sl [(.sl [I])]), .ro), (I, .ro), (.bool, .ro)] true, .val [(I, .ro)] false, .val [(I, .ro)] false], [⟨[((.sl [I, I, I, (.sl [I])]), .own)], .agg⟩, ⟨[((.sl [(.sl [I])]), .own), (I, .ro)], .agg⟩, ⟨[(.bool, .ro)], .one⟩]⟩, [⟨6, 3, ⟨[(7, .ptr 448 0 0), (4, .sc I (v 7)), (13, .ptr 832 0 0), (10, .ptr 640 0 0), (11, .ptr 704 0 0), (3, .sc I (v 6)), (5, .ptr 320 0 0), (61, .sc I (ln (fn i_copyRows 0 [(v 1)]))), (62, .sc I (v 1000000)), (14, .sc .bool (v 1000001))], [(448, .box 0 [.ro [(.sl [I])] (v 3), .sc I (v 4), .sc .bool (v 5)]), (832, .box 0 [.row 1664 0, .sc I (v 2)]), (1664, .row 0 0 [(.sl [I])] (v 1000002) true true true), (640, .box 0 [.nil]), (704, .box 0 [.nil, .sc I (n 0)]), (320, .box 0 [.ro [I, I, I, (.sl [I])] (v 0)])]⟩⟩,
  ⟨10, 7, ⟨[(16, .under 1664 0 0 (v 1000000) 0 [I]), (15, .sc I (v 1000001)), (7, .ptr 448 0 0), (4, .sc I (v 7)), (13, .ptr 832 0 0), (10, .ptr 640 0 0), (11, .ptr 704 0 0), (3, .sc I (v 6)), (5, .ptr 320 0 0), (61, .sc I (ln (fn i_copyRows 0 [(v 1)]))), (62, .sc I (v 1000002)), (72, .sc I (v 1000003)), (73, .sc I (v 1000004)), (14, .sc .bool (v 1000005))], [(1664, .row 0 0 [(.sl [I])] (v 1000006) true true true), (448, .box 0 [.ro [(.sl [I])] (v 3), .sc I (v 4), .sc .bool (v 5)]), (832, .box 0 [.row 1664 0, .sc I (v 2)]), (640, .box 0 [.nil]), (704, .box 0 [.nil, .sc I (n 0)]), (320, .box 0 [.ro [I, I, I, (.sl [I])] (v 0)])]⟩⟩], [], [26], 600, t_i_SwingStep⟩
abbrev r_i_SwingStep : List Fd := d_i_SwingStep :: r_i_Learn
theorem k_i_SwingStep : symFn Try.prog (sigsOf r_i_Learn) Try.f25 d_i_SwingStep.sg d_i_SwingStep.heads d_i_SwingStep.peel d_i_SwingStep.clean d_i_SwingStep.fuel = d_i_SwingStep.t := by kernel_rfl
theorem o_i_SwingStep : TabOk Try.prog r_i_SwingStep := .cons o_i_Learn Try.func25 (by kernel_rfl) (by kernel_rfl) k_i_SwingStep

def d_w_eqIntS : Fd := ⟨w_eqIntS, ⟨[.val [((.sl [I]), .ro)] false, .val [((.sl [I]), .ro)] false], [⟨[(.bool, .ro)], .one⟩]⟩, [⟨4, 1, ⟨[(1, .ro [I] (v 1)), (0, .ro [I] (v 0)), (5, .sc I (v 1000000))], []⟩⟩], [], [], 600, t_w_eqIntS⟩
abbrev r_w_eqIntS : List Fd := d_w_eqIntS :: r_i_SwingStep
theorem k_w_eqIntS : symFn Try.prog (sigsOf r_i_SwingStep) Try.f155 d_w_eqIntS.sg d_w_eqIntS.heads d_w_eqIntS.peel d_w_eqIntS.clean d_w_eqIntS.fuel = d_w_eqIntS.t := by kernel_rfl
theorem o_w_eqIntS : TabOk Try.prog r_w_eqIntS := .cons o_i_SwingStep Try.func155 (by kernel_rfl) (by kernel_rfl) k_w_eqIntS

def d_w_eqOp : Fd := ⟨w_eqOp, ⟨[.val [(I, .ro), (I, .ro), (I, .ro), ((.sl [I]), .ro)] true, .val [(I, .ro), (I, .ro), (I, .ro), ((.sl [I]), .ro)] true], [⟨[(.bool, .ro)], .one⟩]⟩, [], [], [], 600, t_w_eqOp⟩
abbrev r_w_eqOp : List Fd := d_w_eqOp :: r_w_eqIntS
theorem k_w_eqOp : symFn Try.prog (sigsOf r_w_eqIntS) Try.f125 d_w_eqOp.sg d_w_eqOp.heads d_w_eqOp.peel d_w_eqOp.clean d_w_eqOp.fuel = d_w_eqOp.t := by kernel_rfl
theorem o_w_eqOp : TabOk Try.prog r_w_eqOp := .cons o_w_eqIntS Try.func125 (by kernel_rfl) (by kernel_rfl) k_w_eqOp

def d_w_eqOpS : Fd := ⟨w_eqOpS, ⟨[.val [((.sl [I, I, I, (.sl [I])]), .ro)] false, .val [((.sl [I, I, I, (.sl [I])]), .ro)] false], [⟨[(.bool, .ro)], .one⟩]⟩, [⟨4, 1, ⟨[(1, .ro [I, I, I, (.sl [I])] (v 1)), (0, .ro [I, I, I, (.sl [I])] (v 0)), (5, .sc I (v 1000000))], []⟩⟩], [], [], 600, t_w_eqOpS⟩
abbrev r_w_eqOpS : List Fd := d_w_eqOpS :: r_w_eqOp
theorem k_w_eqOpS : symFn Try.prog (sigsOf r_w_eqOp) Try.f77 d_w_eqOpS.sg d_w_eqOpS.heads d_w_eqOpS.peel d_w_eqOpS.clean d_w_eqOpS.fuel = d_w_eqOpS.t := by kernel_rfl
theorem o_w_eqOpS : TabOk Try.prog r_w_eqOpS := .cons o_w_eqOp Try.func77 (by kernel_rfl) (by kernel_rfl) k_w_eqOpS

def d_w_eqModel : Fd := ⟨w_eqModel, ⟨[.val [((.sl [I, I, I, (.sl [I])]), .ro)] true, .val [((.sl [I, I, I, (.sl [I])]), .ro)] true], [⟨[(.bool, .ro)], .one⟩]⟩, [], [], [], 600, t_w_eqModel⟩
abbrev r_w_eqModel : List Fd := d_w_eqModel :: r_w_eqOpS
theorem k_w_eqModel : symFn Try.prog (sigsOf r_w_eqOpS) Try.f26 d_w_eqModel.sg d_w_eqModel.heads d_w_eqModel.peel d_w_eqModel.clean d_w_eqModel.fuel = d_w_eqModel.t := by kernel_rfl
theorem o_w_eqModel : TabOk Try.prog r_w_eqModel := .cons o_w_eqOpS Try.func26 (by kernel_rfl) (by kernel_rfl) k_w_eqModel

def d_w_eqRow : Fd := ⟨w_eqRow, ⟨[.val [((.sl [I]), .ro)] true, .val [((.sl [I]), .ro)] true], [⟨[(.bool, .ro)], .one⟩]⟩, [], [], [], 600, t_w_eqRow⟩
abbrev r_w_eqRow : List Fd := d_w_eqRow :: r_w_eqModel
theorem k_w_eqRow : symFn Try.prog (sigsOf r_w_eqModel) Try.f126 d_w_eqRow.sg d_w_eqRow.heads d_w_eqRow.peel d_w_eqRow.clean d_w_eqRow.fuel = d_w_eqRow.t := by kernel_rfl
theorem o_w_eqRow : TabOk Try.prog r_w_eqRow := .cons o_w_eqModel Try.func126 (by kernel_rfl) (by kernel_rfl) k_w_eqRow

def d_w_eqRowS : Fd := ⟨w_eqRowS, ⟨[.val [((.sl [(.sl [I])]), .ro)] false, .val [((.sl [(.sl [I])]), .ro)] false], [⟨[(.bool, .ro)], .one⟩]⟩, [⟨4, 1, ⟨[(1, .ro [(.sl [I])] (v 1)), (0, .ro [(.sl [I])] (v 0)), (5, .sc I (v 1000000))], []⟩⟩], [], [], 600, t_w_eqRowS⟩
abbrev r_w_eqRowS : List Fd := d_w_eqRowS :: r_w_eqRow
theorem k_w_eqRowS : symFn Try.prog (sigsOf r_w_eqRow) Try.f78 d_w_eqRowS.sg d_w_eqRowS.heads d_w_eqRowS.peel d_w_eqRowS.clean d_w_eqRowS.fuel = d_w_eqRowS.t := by kernel_rfl
theorem o_w_eqRowS : TabOk Try.prog r_w_eqRowS := .cons o_w_eqRow Try.func78 (by kernel_rfl) (by kernel_rfl) k_w_eqRowS

def d_w_eqSwing : Fd := ⟨w_eqSwing, ⟨[.val [((.sl [(.sl [I])]), .ro), (I, .ro)] true, .val [((.sl [(.sl [I])]), .ro), (I, .ro)] true], [⟨[(.bool, .ro)], .one⟩]⟩, [], [], [], 600, t_w_eqSwing⟩
abbrev r_w_eqSwing : List Fd := d_w_eqSwing :: r_w_eqRowS
theorem k_w_eqSwing : symFn Try.prog (sigsOf r_w_eqRowS) Try.f27 d_w_eqSwing.sg d_w_eqSwing.heads d_w_eqSwing.peel d_w_eqSwing.clean d_w_eqSwing.fuel = d_w_eqSwing.t := by kernel_rfl
theorem o_w_eqSwing : TabOk Try.prog r_w_eqSwing := .cons o_w_eqRowS Try.func27 (by kernel_rfl) (by kernel_rfl) k_w_eqSwing

def d_w_eqGrads : Fd := ⟨w_eqGrads, ⟨[.val [((.sl [(.sl [I])]), .ro), (I, .ro), (.bool, .ro)] true, .val [((.sl [(.sl [I])]), .ro), (I, .ro), (.bool, .ro)] true], [⟨[(.bool, .ro)], .one⟩]⟩, [], [], [], 600, t_w_eqGrads⟩
abbrev r_w_eqGrads : List Fd := d_w_eqGrads :: r_w_eqSwing
theorem k_w_eqGrads : symFn Try.prog (sigsOf r_w_eqSwing) Try.f28 d_w_eqGrads.sg d_w_eqGrads.heads d_w_eqGrads.peel d_w_eqGrads.clean d_w_eqGrads.fuel = d_w_eqGrads.t := by kernel_rfl
theorem o_w_eqGrads : TabOk Try.prog r_w_eqGrads := .cons o_w_eqSwing Try.func28 (by kernel_rfl) (by kernel_rfl) k_w_eqGrads

def d_w_markIntS : Fd := ⟨w_markIntS, ⟨[.val [((.sl [I]), .wr)] false, .val [(I, .ro)] false], [⟨[(I, .ro)], .one⟩]⟩, [⟨2, 3, ⟨[(0, .row 0 0), (5, .sc I (v 1000000)), (1, .sc I (v 1000001))], [(0, .row 0 0 [I] (v 1000002) true true true)]⟩⟩], [], [], 600, t_w_markIntS⟩
abbrev r_w_markIntS : List Fd := d_w_markIntS :: r_w_eqGrads
theorem k_w_markIntS : symFn Try.prog (sigsOf r_w_eqGrads) Try.f127 d_w_markIntS.sg d_w_markIntS.heads d_w_markIntS.peel d_w_markIntS.clean d_w_markIntS.fuel = d_w_markIntS.t := by kernel_rfl
theorem o_w_markIntS : TabOk Try.prog r_w_markIntS := .cons o_w_eqGrads Try.func127 (by kernel_rfl) (by kernel_rfl) k_w_markIntS

def d_w_markOpS : Fd := ⟨w_markOpS, ⟨[.val [((.sl [I, I, I, (.sl [I])]), .wr)] false, .val [(I, .ro)] false], [⟨[(I, .ro)], .one⟩]⟩, [⟨2, 3, ⟨[(0, .row 0 0), (5, .sc I (v 1000000)), (1, .sc I (v 1000001))], [(0, .row 0 0 [I, I, I, (.sl [I])] (v 1000002) true true true)]⟩⟩], [], [], 600, t_w_markOpS⟩
abbrev r_w_markOpS : List Fd := d_w_markOpS :: r_w_markIntS
theorem k_w_markOpS : symFn Try.prog (sigsOf r_w_markIntS) Try.f79 d_w_markOpS.sg d_w_markOpS.heads d_w_markOpS.peel d_w_markOpS.clean d_w_markOpS.fuel = d_w_markOpS.t := by kernel_rfl
theorem o_w_markOpS : TabOk Try.prog r_w_markOpS := .cons o_w_markIntS Try.func79 (by kernel_rfl) (by kernel_rfl) k_w_markOpS

def d_w_markModel : Fd := ⟨w_markModel, ⟨[.val [((.sl [I, I, I, (.sl [I])]), .wr)] true, .val [(I, .ro)] false], [⟨[(I, .ro)], .one⟩]⟩, [], [], [], 600, t_w_markModel⟩
abbrev r_w_markModel : List Fd := d_w_markModel :: r_w_markOpS
theorem k_w_markModel : symFn Try.prog (sigsOf r_w_markOpS) Try.f29 d_w_markModel.sg d_w_markModel.heads d_w_markModel.peel d_w_markModel.clean d_w_markModel.fuel = d_w_markModel.t := by kernel_rfl
theorem o_w_markModel : TabOk Try.prog r_w_markModel := .cons o_w_markOpS Try.func29 (by kernel_rfl) (by kernel_rfl) k_w_markModel

def d_w_markRowS : Fd := ⟨w_markRowS, ⟨[.val [((.sl [(.sl [I])]), .wr)] false, .val [(I, .ro)] false], [⟨[(I, .ro)], .one⟩]⟩, [⟨2, 3, ⟨[(0, .row 0 0), (5, .sc I (v 1000000)), (1, .sc I (v 1000001))], [(0, .row 0 0 [(.sl [I])] (v 1000002) true true true)]⟩⟩], [], [], 600, t_w_markRowS⟩
abbrev r_w_markRowS : List Fd := d_w_markRowS :: r_w_markModel
theorem k_w_markRowS : symFn Try.prog (sigsOf r_w_markModel) Try.f80 d_w_markRowS.sg d_w_markRowS.heads d_w_markRowS.peel d_w_markRowS.clean d_w_markRowS.fuel = d_w_markRowS.t := by kernel_rfl
theorem o_w_markRowS : TabOk Try.prog r_w_markRowS := .cons o_w_markModel Try.func80 (by kernel_rfl) (by kernel_rfl) k_w_markRowS

def d_w_markSwing : Fd := ⟨w_markSwing, ⟨[.val [((.sl [(.sl [I])]), .wr), (I, .ro)] true, .val [(I, .ro)] false], [⟨[(I, .ro)], .one⟩]⟩, [], [], [], 600, t_w_markSwing⟩
abbrev r_w_markSwing : List Fd := d_w_markSwing :: r_w_markRowS
theorem k_w_markSwing : symFn Try.prog (sigsOf r_w_markRowS) Try.f30 d_w_markSwing.sg d_w_markSwing.heads d_w_markSwing.peel d_w_markSwing.clean d_w_markSwing.fuel = d_w_markSwing.t := by kernel_rfl
theorem o_w_markSwing : TabOk Try.prog r_w_markSwing := .cons o_w_markRowS Try.func30 (by kernel_rfl) (by kernel_rfl) k_w_markSwing

def d_w_markGrads : Fd := ⟨w_markGrads, ⟨[.val [((.sl [(.sl [I])]), .wr), (I, .ro), (.bool, .ro)] true, .val [(I, .ro)] false], [⟨[(I, .ro)], .one⟩]⟩, [], [], [], 600, t_w_markGrads⟩
abbrev r_w_markGrads : List Fd := d_w_markGrads :: r_w_markSwing
theorem k_w_markGrads : symFn Try.prog (sigsOf r_w_markSwing) Try.f31 d_w_markGrads.sg d_w_markGrads.heads d_w_markGrads.peel d_w_markGrads.clean d_w_markGrads.fuel = d_w_markGrads.t := by kernel_rfl
theorem o_w_markGrads : TabOk Try.prog r_w_markGrads := .cons o_w_markSwing Try.func31 (by kernel_rfl) (by kernel_rfl) k_w_markGrads

def d_w_heldIntS : Fd := ⟨w_heldIntS, ⟨[.val [((.sl [I]), .ro)] false, .val [(I, .ro)] false], [⟨[(I, .ro)], .one⟩]⟩, [⟨2, 2, ⟨[(0, .ro [I] (v 0)), (5, .sc I (v 1000000)), (1, .sc I (v 1000001))], []⟩⟩], [], [], 600, t_w_heldIntS⟩
abbrev r_w_heldIntS : List Fd := d_w_heldIntS :: r_w_markGrads
theorem k_w_heldIntS : symFn Try.prog (sigsOf r_w_markGrads) Try.f128 d_w_heldIntS.sg d_w_heldIntS.heads d_w_heldIntS.peel d_w_heldIntS.clean d_w_heldIntS.fuel = d_w_heldIntS.t := by kernel_rfl
theorem o_w_heldIntS : TabOk Try.prog r_w_heldIntS := .cons o_w_markGrads Try.func128 (by kernel_rfl) (by kernel_rfl) k_w_heldIntS

def d_w_heldOpS : Fd := ⟨w_heldOpS, ⟨[.val [((.sl [I, I, I, (.sl [I])]), .ro)] false, .val [(I, .ro)] false], [⟨[(I, .ro)], .one⟩]⟩, [⟨2, 2, ⟨[(0, .ro [I, I, I, (.sl [I])] (v 0)), (5, .sc I (v 1000000)), (1, .sc I (v 1000001))], []⟩⟩], [], [], 600, t_w_heldOpS⟩
abbrev r_w_heldOpS : List Fd := d_w_heldOpS :: r_w_heldIntS
theorem k_w_heldOpS : symFn Try.prog (sigsOf r_w_heldIntS) Try.f81 d_w_heldOpS.sg d_w_heldOpS.heads d_w_heldOpS.peel d_w_heldOpS.clean d_w_heldOpS.fuel = d_w_heldOpS.t := by kernel_rfl
theorem o_w_heldOpS : TabOk Try.prog r_w_heldOpS := .cons o_w_heldIntS Try.func81 (by kernel_rfl) (by kernel_rfl) k_w_heldOpS

def d_w_heldModel : Fd := ⟨w_heldModel, ⟨[.val [((.sl [I, I, I, (.sl [I])]), .ro)] true, .val [(I, .ro)] false], [⟨[(I, .ro)], .one⟩]⟩, [], [], [], 600, t_w_heldModel⟩
abbrev r_w_heldModel : List Fd := d_w_heldModel :: r_w_heldOpS
theorem k_w_heldModel : symFn Try.prog (sigsOf r_w_heldOpS) Try.f32 d_w_heldModel.sg d_w_heldModel.heads d_w_heldModel.peel d_w_heldModel.clean d_w_heldModel.fuel = d_w_heldModel.t := by kernel_rfl
theorem o_w_heldModel : TabOk Try.prog r_w_heldModel := .cons o_w_heldOpS Try.func32 (by kernel_rfl) (by kernel_rfl) k_w_heldModel

def d_w_heldRowS : Fd := ⟨w_heldRowS, ⟨[.val [((.sl [(.sl [I])]), .ro)] false, .val [(I, .ro)] false], [⟨[(I, .ro)], .one⟩]⟩, [⟨2, 2, ⟨[(0, .ro [(.sl [I])] (v 0)), (5, .sc I (v 1000000)), (1, .sc I (v 1000001))], []⟩⟩], [], [], 600, t_w_heldRowS⟩
abbrev r_w_heldRowS : List Fd := d_w_heldRowS :: r_w_heldModel
theorem k_w_heldRowS : symFn Try.prog (sigsOf r_w_heldModel) Try.f82 d_w_heldRowS.sg d_w_heldRowS.heads d_w_heldRowS.peel d_w_heldRowS.clean d_w_heldRowS.fuel = d_w_heldRowS.t := by kernel_rfl
theorem o_w_heldRowS : TabOk Try.prog r_w_heldRowS := .cons o_w_heldModel Try.func82 (by kernel_rfl) (by kernel_rfl) k_w_heldRowS

def d_w_heldSwing : Fd := ⟨w_heldSwing, ⟨[.val [((.sl [(.sl [I])]), .ro), (I, .ro)] true, .val [(I, .ro)] false], [⟨[(I, .ro)], .one⟩]⟩, [], [], [], 600, t_w_heldSwing⟩
abbrev r_w_heldSwing : List Fd := d_w_heldSwing :: r_w_heldRowS
theorem k_w_heldSwing : symFn Try.prog (sigsOf r_w_heldRowS) Try.f33 d_w_heldSwing.sg d_w_heldSwing.heads d_w_heldSwing.peel d_w_heldSwing.clean d_w_heldSwing.fuel = d_w_heldSwing.t := by kernel_rfl
theorem o_w_heldSwing : TabOk Try.prog r_w_heldSwing := .cons o_w_heldRowS Try.func33 (by kernel_rfl) (by kernel_rfl) k_w_heldSwing

def d_w_FnExactSwingStep : Fd := ⟨w_FnExactSwingStep, ⟨[.val [((.sl [I, I, I, (.sl [I])]), .ro)] true, .val [((.sl [(.sl [I])]), .ro), (I, .ro)] true, .val [((.sl [(.sl [I])]), .ro), (I, .ro), (.bool, .ro)] true, .val [(I, .ro)] false, .val [(I, .ro)] false], [⟨[(.bool, .ro)], .one⟩]⟩, [], [], [0, 1, 2, 3, 4, 5, 6, 7, 8, 9, 10, 11, 12, 13, 14, 15, 16, 17, 18, 19, 20, 21, 22, 23, 24, 25, 26, 27, 28, 29, 30, 31, 32, 33, 34, 35, 36, 37, 38, 39, 40, 41, 42, 43, 44, 45, 46, 47, 48, 49, 50, 51, 52, 53, 54, 55, 56, 57, 58, 59, 60, 61, 62, 63, 64, 65, 66, 67, 68, 69, 70, 71, 72, 73, 74, 75, 76, 77, 78, 79, 80, 81, 82, 83, 84, 85, 86, 87, 88, 89, 90, 91, 92, 93, 94, 95, 96, 97, 98, 99, 100, 101, 102, 103, 104, 105, 106, 107, 108, 109, 110, 111, 112, 113, 114, 115, 116, 117, 118, 119, 120, 121, 122, 123, 124, 125, 126, 127, 128, 129, 130, 131, 132, 133, 134, 135, 136, 137, 138, 139, 140, 141, 142, 143, 144, 145, 146, 147, 148, 149, 150, 151, 152, 153, 154, 155, 156, 157, 158, 159, 160, 161, 162, 163, 164, 165, 166, 167, 168, 169, 170, 171, 172, 173, 174, 175, 176, 177, 178, 179, 180, 181, 182, 183, 184, 185, 186, 187, 188, 189, 190, 191, 192, 193, 194, 195, 196, 197, 198, 199, 200, 201, 202, 203, 204, 205, 206, 207, 208, 209, 210, 211, 212, 213, 214, 215, 216, 217, 218, 219, 220, 221, 222, 223, 224, 225, 226, 227, 228, 229, 230, 231, 232, 233, 234, 235, 236, 237, 238, 239, 240, 241, 242, 243, 244, 245, 246, 247, 248, 249, 250, 251, 252, 253, 254, 255, 256, 257, 258, 259, 260, 261, 262, 263, 264, 265, 266, 267, 268, 269, 270, 271, 272, 273, 274, 275, 276, 277, 278, 279, 280, 281, 282, 283, 284, 285, 286, 287, 288, 289, 290, 291, 292, 293, 294, 295, 296, 297, 298, 299, 300, 301, 302, 303, 304, 305, 306, 307, 308, 309, 310, 311, 312, 313, 314, 315, 316, 317, 318, 319, 320, 321, 322, 323, 324, 325, 326, 327, 328, 329, 330, 331, 332, 333, 334, 335, 336, 337, 338, 339, 340, 341, 342, 343, 344, 345, 346, 347, 348, 349, 350, 351, 352, 353, 354, 355, 356, 357, 358, 359, 360, 361, 362, 363, 364, 365, 366, 367, 368, 369, 370, 371, 372, 373, 374, 375, 376, 377, 378, 379, 380, 381, 382, 383, 384, 385, 386, 387, 388, 389, 390, 391, 392, 393, 394, 395, 396, 397, 398, 399, 400, 401, 402, 403, 404, 405, 406, 407, 408, 409, 410, 411, 412, 413, 414, 415, 416, 417, 418, 419, 420, 421, 422, 423, 424, 425, 426, 427, 428, 429, 430, 431, 432, 433, 434, 435, 436, 437, 438, 439, 440, 441, 442, 443, 444, 445, 446, 447, 448, 449, 450, 451, 452, 453, 454, 455, 456, 457, 458, 459, 460, 461, 462, 463, 464, 465, 466, 467, 468, 469, 470, 471, 472, 473, 474, 475, 476, 477, 478, 479, 480, 481, 482, 483, 484, 485, 486, 487, 488, 489, 490, 491, 492, 493, 494, 495, 496, 497, 498, 499], 600, t_w_FnExactSwingStep⟩
abbrev r_w_FnExactSwingStep : List Fd := d_w_FnExactSwingStep :: r_w_heldSwing
theorem k_w_FnExactSwingStep : symFn Try.prog (sigsOf r_w_heldSwing) Try.f5 d_w_FnExactSwingStep.sg d_w_FnExactSwingStep.heads d_w_FnExactSwingStep.peel d_w_FnExactSwingStep.clean d_w_FnExactSwingStep.fuel = d_w_FnExactSwingStep.t := by kernel_rfl
theorem o_w_FnExactSwingStep : TabOk Try.prog r_w_FnExactSwingStep := .cons o_w_heldSwing Try.func5 (by kernel_rfl) (by kernel_rfl) k_w_FnExactSwingStep

abbrev tb : List Fd := r_w_FnExactSwingStep
theorem tb_ok : TabOk Try.prog tb := o_w_FnExactSwingStep
theorem tb_below : below tb = true := by kernel_rfl
noncomputable def G : Nat → List D → List D := (Tab tb).1
def Pr : Nat → List D → Prop := (Tab tb).2

theorem g_w_szIntS {ds : List D} {Q : List D → Prop} (h : wpT G Pr Q [] ds t_w_szIntS) : Pr w_szIntS ds ∧ Q (G w_szIntS ds) := go tb_below (look_mem (l := tb) (f := w_szIntS) (d := d_w_szIntS) (by kernel_rfl)) h
theorem g_w_szOp {ds : List D} {Q : List D → Prop} (h : wpT G Pr Q [] ds t_w_szOp) : Pr w_szOp ds ∧ Q (G w_szOp ds) := go tb_below (look_mem (l := tb) (f := w_szOp) (d := d_w_szOp) (by kernel_rfl)) h
theorem g_w_szOpS {ds : List D} {Q : List D → Prop} (h : wpT G Pr Q [] ds t_w_szOpS) : Pr w_szOpS ds ∧ Q (G w_szOpS ds) := go tb_below (look_mem (l := tb) (f := w_szOpS) (d := d_w_szOpS) (by kernel_rfl)) h
theorem g_w_szModel {ds : List D} {Q : List D → Prop} (h : wpT G Pr Q [] ds t_w_szModel) : Pr w_szModel ds ∧ Q (G w_szModel ds) := go tb_below (look_mem (l := tb) (f := w_szModel) (d := d_w_szModel) (by kernel_rfl)) h
theorem g_w_szRow {ds : List D} {Q : List D → Prop} (h : wpT G Pr Q [] ds t_w_szRow) : Pr w_szRow ds ∧ Q (G w_szRow ds) := go tb_below (look_mem (l := tb) (f := w_szRow) (d := d_w_szRow) (by kernel_rfl)) h
theorem g_w_szRowS {ds : List D} {Q : List D → Prop} (h : wpT G Pr Q [] ds t_w_szRowS) : Pr w_szRowS ds ∧ Q (G w_szRowS ds) := go tb_below (look_mem (l := tb) (f := w_szRowS) (d := d_w_szRowS) (by kernel_rfl)) h
theorem g_w_szSwing {ds : List D} {Q : List D → Prop} (h : wpT G Pr Q [] ds t_w_szSwing) : Pr w_szSwing ds ∧ Q (G w_szSwing ds) := go tb_below (look_mem (l := tb) (f := w_szSwing) (d := d_w_szSwing) (by kernel_rfl)) h
theorem g_w_szGrads {ds : List D} {Q : List D → Prop} (h : wpT G Pr Q [] ds t_w_szGrads) : Pr w_szGrads ds ∧ Q (G w_szGrads ds) := go tb_below (look_mem (l := tb) (f := w_szGrads) (d := d_w_szGrads) (by kernel_rfl)) h
theorem g_w_toIntS {ds : List D} {Q : List D → Prop} (h : wpT G Pr Q [] ds t_w_toIntS) : Pr w_toIntS ds ∧ Q (G w_toIntS ds) := go tb_below (look_mem (l := tb) (f := w_toIntS) (d := d_w_toIntS) (by kernel_rfl)) h
theorem g_w_toOp {ds : List D} {Q : List D → Prop} (h : wpT G Pr Q [] ds t_w_toOp) : Pr w_toOp ds ∧ Q (G w_toOp ds) := go tb_below (look_mem (l := tb) (f := w_toOp) (d := d_w_toOp) (by kernel_rfl)) h
theorem g_w_toOpS {ds : List D} {Q : List D → Prop} (h : wpT G Pr Q [] ds t_w_toOpS) : Pr w_toOpS ds ∧ Q (G w_toOpS ds) := go tb_below (look_mem (l := tb) (f := w_toOpS) (d := d_w_toOpS) (by kernel_rfl)) h
theorem g_w_toModel {ds : List D} {Q : List D → Prop} (h : wpT G Pr Q [] ds t_w_toModel) : Pr w_toModel ds ∧ Q (G w_toModel ds) := go tb_below (look_mem (l := tb) (f := w_toModel) (d := d_w_toModel) (by kernel_rfl)) h
theorem g_w_toRow {ds : List D} {Q : List D → Prop} (h : wpT G Pr Q [] ds t_w_toRow) : Pr w_toRow ds ∧ Q (G w_toRow ds) := go tb_below (look_mem (l := tb) (f := w_toRow) (d := d_w_toRow) (by kernel_rfl)) h
theorem g_w_toRowS {ds : List D} {Q : List D → Prop} (h : wpT G Pr Q [] ds t_w_toRowS) : Pr w_toRowS ds ∧ Q (G w_toRowS ds) := go tb_below (look_mem (l := tb) (f := w_toRowS) (d := d_w_toRowS) (by kernel_rfl)) h
theorem g_w_toSwing {ds : List D} {Q : List D → Prop} (h : wpT G Pr Q [] ds t_w_toSwing) : Pr w_toSwing ds ∧ Q (G w_toSwing ds) := go tb_below (look_mem (l := tb) (f := w_toSwing) (d := d_w_toSwing) (by kernel_rfl)) h
theorem g_w_toGrads {ds : List D} {Q : List D → Prop} (h : wpT G Pr Q [] ds t_w_toGrads) : Pr w_toGrads ds ∧ Q (G w_toGrads ds) := go tb_below (look_mem (l := tb) (f := w_toGrads) (d := d_w_toGrads) (by kernel_rfl)) h
theorem g_s_l11Rows {ds : List D} {Q : List D → Prop} (h : wpT G Pr Q [] ds t_s_l11Rows) : Pr s_l11Rows ds ∧ Q (G s_l11Rows ds) := go tb_below (look_mem (l := tb) (f := s_l11Rows) (d := d_s_l11Rows) (by kernel_rfl)) h
theorem g_s_l11Ops {ds : List D} {Q : List D → Prop} (h : wpT G Pr Q [] ds t_s_l11Ops) : Pr s_l11Ops ds ∧ Q (G s_l11Ops ds) := go tb_below (look_mem (l := tb) (f := s_l11Ops) (d := d_s_l11Ops) (by kernel_rfl)) h
theorem g_s_l1In {ds : List D} {Q : List D → Prop} (h : wpT G Pr Q [] ds t_s_l1In) : Pr s_l1In ds ∧ Q (G s_l1In ds) := go tb_below (look_mem (l := tb) (f := s_l1In) (d := d_s_l1In) (by kernel_rfl)) h
theorem g_s_OpSize {ds : List D} {Q : List D → Prop} (h : wpT G Pr Q [] ds t_s_OpSize) : Pr s_OpSize ds ∧ Q (G s_OpSize ds) := go tb_below (look_mem (l := tb) (f := s_OpSize) (d := d_s_OpSize) (by kernel_rfl)) h
theorem g_s_FixOk {ds : List D} {Q : List D → Prop} (h : wpT G Pr Q [] ds t_s_FixOk) : Pr s_FixOk ds ∧ Q (G s_FixOk ds) := go tb_below (look_mem (l := tb) (f := s_FixOk) (d := d_s_FixOk) (by kernel_rfl)) h
theorem g_s_OpOk {ds : List D} {Q : List D → Prop} (h : wpT G Pr Q [] ds t_s_OpOk) : Pr s_OpOk ds ∧ Q (G s_OpOk ds) := go tb_below (look_mem (l := tb) (f := s_OpOk) (d := d_s_OpOk) (by kernel_rfl)) h
theorem g_s_ModelOk {ds : List D} {Q : List D → Prop} (h : wpT G Pr Q [] ds t_s_ModelOk) : Pr s_ModelOk ds ∧ Q (G s_ModelOk ds) := go tb_below (look_mem (l := tb) (f := s_ModelOk) (d := d_s_ModelOk) (by kernel_rfl)) h
theorem g_s_l2Sat {ds : List D} {Q : List D → Prop} (h : wpT G Pr Q [] ds t_s_l2Sat) : Pr s_l2Sat ds ∧ Q (G s_l2Sat ds) := go tb_below (look_mem (l := tb) (f := s_l2Sat) (d := d_s_l2Sat) (by kernel_rfl)) h
theorem g_s_l2In {ds : List D} {Q : List D → Prop} (h : wpT G Pr Q [] ds t_s_l2In) : Pr s_l2In ds ∧ Q (G s_l2In ds) := go tb_below (look_mem (l := tb) (f := s_l2In) (d := d_s_l2In) (by kernel_rfl)) h
theorem g_s_l2Floor {ds : List D} {Q : List D → Prop} (h : wpT G Pr Q [] ds t_s_l2Floor) : Pr s_l2Floor ds ∧ Q (G s_l2Floor ds) := go tb_below (look_mem (l := tb) (f := s_l2Floor) (d := d_s_l2Floor) (by kernel_rfl)) h
theorem g_s_FixMul {ds : List D} {Q : List D → Prop} (h : wpT G Pr Q [] ds t_s_FixMul) : Pr s_FixMul ds ∧ Q (G s_FixMul ds) := go tb_below (look_mem (l := tb) (f := s_FixMul) (d := d_s_FixMul) (by kernel_rfl)) h
theorem g_s_FixSub {ds : List D} {Q : List D → Prop} (h : wpT G Pr Q [] ds t_s_FixSub) : Pr s_FixSub ds ∧ Q (G s_FixSub ds) := go tb_below (look_mem (l := tb) (f := s_FixSub) (d := d_s_FixSub) (by kernel_rfl)) h
theorem g_s_Learn {ds : List D} {Q : List D → Prop} (h : wpT G Pr Q [] ds t_s_Learn) : Pr s_Learn ds ∧ Q (G s_Learn ds) := go tb_below (look_mem (l := tb) (f := s_Learn) (d := d_s_Learn) (by kernel_rfl)) h
theorem g_s_SwingOk {ds : List D} {Q : List D → Prop} (h : wpT G Pr Q [] ds t_s_SwingOk) : Pr s_SwingOk ds ∧ Q (G s_SwingOk ds) := go tb_below (look_mem (l := tb) (f := s_SwingOk) (d := d_s_SwingOk) (by kernel_rfl)) h
theorem g_s_FixAdd {ds : List D} {Q : List D → Prop} (h : wpT G Pr Q [] ds t_s_FixAdd) : Pr s_FixAdd ds ∧ Q (G s_FixAdd ds) := go tb_below (look_mem (l := tb) (f := s_FixAdd) (d := d_s_FixAdd) (by kernel_rfl)) h
theorem g_s_SwingStep {ds : List D} {Q : List D → Prop} (h : wpT G Pr Q [] ds t_s_SwingStep) : Pr s_SwingStep ds ∧ Q (G s_SwingStep ds) := go tb_below (look_mem (l := tb) (f := s_SwingStep) (d := d_s_SwingStep) (by kernel_rfl)) h
theorem g_i_copyInts {ds : List D} {Q : List D → Prop} (h : wpT G Pr Q [] ds t_i_copyInts) : Pr i_copyInts ds ∧ Q (G i_copyInts ds) := go tb_below (look_mem (l := tb) (f := i_copyInts) (d := d_i_copyInts) (by kernel_rfl)) h
theorem g_i_copyRows {ds : List D} {Q : List D → Prop} (h : wpT G Pr Q [] ds t_i_copyRows) : Pr i_copyRows ds ∧ Q (G i_copyRows ds) := go tb_below (look_mem (l := tb) (f := i_copyRows) (d := d_i_copyRows) (by kernel_rfl)) h
theorem g_i_OpSize {ds : List D} {Q : List D → Prop} (h : wpT G Pr Q [] ds t_i_OpSize) : Pr i_OpSize ds ∧ Q (G i_OpSize ds) := go tb_below (look_mem (l := tb) (f := i_OpSize) (d := d_i_OpSize) (by kernel_rfl)) h
theorem g_i_FixOk {ds : List D} {Q : List D → Prop} (h : wpT G Pr Q [] ds t_i_FixOk) : Pr i_FixOk ds ∧ Q (G i_FixOk ds) := go tb_below (look_mem (l := tb) (f := i_FixOk) (d := d_i_FixOk) (by kernel_rfl)) h
theorem g_i_allFix {ds : List D} {Q : List D → Prop} (h : wpT G Pr Q [] ds t_i_allFix) : Pr i_allFix ds ∧ Q (G i_allFix ds) := go tb_below (look_mem (l := tb) (f := i_allFix) (d := d_i_allFix) (by kernel_rfl)) h
theorem g_i_OpOk {ds : List D} {Q : List D → Prop} (h : wpT G Pr Q [] ds t_i_OpOk) : Pr i_OpOk ds ∧ Q (G i_OpOk ds) := go tb_below (look_mem (l := tb) (f := i_OpOk) (d := d_i_OpOk) (by kernel_rfl)) h
theorem g_i_ModelOk {ds : List D} {Q : List D → Prop} (h : wpT G Pr Q [] ds t_i_ModelOk) : Pr i_ModelOk ds ∧ Q (G i_ModelOk ds) := go tb_below (look_mem (l := tb) (f := i_ModelOk) (d := d_i_ModelOk) (by kernel_rfl)) h
theorem g_i_gradsFit {ds : List D} {Q : List D → Prop} (h : wpT G Pr Q [] ds t_i_gradsFit) : Pr i_gradsFit ds ∧ Q (G i_gradsFit ds) := go tb_below (look_mem (l := tb) (f := i_gradsFit) (d := d_i_gradsFit) (by kernel_rfl)) h
theorem g_i_SwingOk {ds : List D} {Q : List D → Prop} (h : wpT G Pr Q [] ds t_i_SwingOk) : Pr i_SwingOk ds ∧ Q (G i_SwingOk ds) := go tb_below (look_mem (l := tb) (f := i_SwingOk) (d := d_i_SwingOk) (by kernel_rfl)) h
theorem g_i_copyOps {ds : List D} {Q : List D → Prop} (h : wpT G Pr Q [] ds t_i_copyOps) : Pr i_copyOps ds ∧ Q (G i_copyOps ds) := go tb_below (look_mem (l := tb) (f := i_copyOps) (d := d_i_copyOps) (by kernel_rfl)) h
theorem g_i_copyModel {ds : List D} {Q : List D → Prop} (h : wpT G Pr Q [] ds t_i_copyModel) : Pr i_copyModel ds ∧ Q (G i_copyModel ds) := go tb_below (look_mem (l := tb) (f := i_copyModel) (d := d_i_copyModel) (by kernel_rfl)) h
theorem g_i_clamp {ds : List D} {Q : List D → Prop} (h : wpT G Pr Q [] ds t_i_clamp) : Pr i_clamp ds ∧ Q (G i_clamp ds) := go tb_below (look_mem (l := tb) (f := i_clamp) (d := d_i_clamp) (by kernel_rfl)) h
theorem g_i_settle {ds : List D} {Q : List D → Prop} (h : wpT G Pr Q [] ds t_i_settle) : Pr i_settle ds ∧ Q (G i_settle ds) := go tb_below (look_mem (l := tb) (f := i_settle) (d := d_i_settle) (by kernel_rfl)) h
theorem g_i_FixMul {ds : List D} {Q : List D → Prop} (h : wpT G Pr Q [] ds t_i_FixMul) : Pr i_FixMul ds ∧ Q (G i_FixMul ds) := go tb_below (look_mem (l := tb) (f := i_FixMul) (d := d_i_FixMul) (by kernel_rfl)) h
theorem g_i_FixAdd {ds : List D} {Q : List D → Prop} (h : wpT G Pr Q [] ds t_i_FixAdd) : Pr i_FixAdd ds ∧ Q (G i_FixAdd ds) := go tb_below (look_mem (l := tb) (f := i_FixAdd) (d := d_i_FixAdd) (by kernel_rfl)) h
theorem g_i_FixSub {ds : List D} {Q : List D → Prop} (h : wpT G Pr Q [] ds t_i_FixSub) : Pr i_FixSub ds ∧ Q (G i_FixSub ds) := go tb_below (look_mem (l := tb) (f := i_FixSub) (d := d_i_FixSub) (by kernel_rfl)) h
theorem g_i_Learn {ds : List D} {Q : List D → Prop} (h : wpT G Pr Q [] ds t_i_Learn) : Pr i_Learn ds ∧ Q (G i_Learn ds) := go tb_below (look_mem (l := tb) (f := i_Learn) (d := d_i_Learn) (by kernel_rfl)) h
theorem g_i_SwingStep {ds : List D} {Q : List D → Prop} (h : wpT G Pr Q [] ds t_i_SwingStep) : Pr i_SwingStep ds ∧ Q (G i_SwingStep ds) := go tb_below (look_mem (l := tb) (f := i_SwingStep) (d := d_i_SwingStep) (by kernel_rfl)) h
theorem g_w_eqIntS {ds : List D} {Q : List D → Prop} (h : wpT G Pr Q [] ds t_w_eqIntS) : Pr w_eqIntS ds ∧ Q (G w_eqIntS ds) := go tb_below (look_mem (l := tb) (f := w_eqIntS) (d := d_w_eqIntS) (by kernel_rfl)) h
theorem g_w_eqOp {ds : List D} {Q : List D → Prop} (h : wpT G Pr Q [] ds t_w_eqOp) : Pr w_eqOp ds ∧ Q (G w_eqOp ds) := go tb_below (look_mem (l := tb) (f := w_eqOp) (d := d_w_eqOp) (by kernel_rfl)) h
theorem g_w_eqOpS {ds : List D} {Q : List D → Prop} (h : wpT G Pr Q [] ds t_w_eqOpS) : Pr w_eqOpS ds ∧ Q (G w_eqOpS ds) := go tb_below (look_mem (l := tb) (f := w_eqOpS) (d := d_w_eqOpS) (by kernel_rfl)) h
theorem g_w_eqModel {ds : List D} {Q : List D → Prop} (h : wpT G Pr Q [] ds t_w_eqModel) : Pr w_eqModel ds ∧ Q (G w_eqModel ds) := go tb_below (look_mem (l := tb) (f := w_eqModel) (d := d_w_eqModel) (by kernel_rfl)) h
theorem g_w_eqRow {ds : List D} {Q : List D → Prop} (h : wpT G Pr Q [] ds t_w_eqRow) : Pr w_eqRow ds ∧ Q (G w_eqRow ds) := go tb_below (look_mem (l := tb) (f := w_eqRow) (d := d_w_eqRow) (by kernel_rfl)) h
theorem g_w_eqRowS {ds : List D} {Q : List D → Prop} (h : wpT G Pr Q [] ds t_w_eqRowS) : Pr w_eqRowS ds ∧ Q (G w_eqRowS ds) := go tb_below (look_mem (l := tb) (f := w_eqRowS) (d := d_w_eqRowS) (by kernel_rfl)) h
theorem g_w_eqSwing {ds : List D} {Q : List D → Prop} (h : wpT G Pr Q [] ds t_w_eqSwing) : Pr w_eqSwing ds ∧ Q (G w_eqSwing ds) := go tb_below (look_mem (l := tb) (f := w_eqSwing) (d := d_w_eqSwing) (by kernel_rfl)) h
theorem g_w_eqGrads {ds : List D} {Q : List D → Prop} (h : wpT G Pr Q [] ds t_w_eqGrads) : Pr w_eqGrads ds ∧ Q (G w_eqGrads ds) := go tb_below (look_mem (l := tb) (f := w_eqGrads) (d := d_w_eqGrads) (by kernel_rfl)) h
theorem g_w_markIntS {ds : List D} {Q : List D → Prop} (h : wpT G Pr Q [] ds t_w_markIntS) : Pr w_markIntS ds ∧ Q (G w_markIntS ds) := go tb_below (look_mem (l := tb) (f := w_markIntS) (d := d_w_markIntS) (by kernel_rfl)) h
theorem g_w_markOpS {ds : List D} {Q : List D → Prop} (h : wpT G Pr Q [] ds t_w_markOpS) : Pr w_markOpS ds ∧ Q (G w_markOpS ds) := go tb_below (look_mem (l := tb) (f := w_markOpS) (d := d_w_markOpS) (by kernel_rfl)) h
theorem g_w_markModel {ds : List D} {Q : List D → Prop} (h : wpT G Pr Q [] ds t_w_markModel) : Pr w_markModel ds ∧ Q (G w_markModel ds) := go tb_below (look_mem (l := tb) (f := w_markModel) (d := d_w_markModel) (by kernel_rfl)) h
theorem g_w_markRowS {ds : List D} {Q : List D → Prop} (h : wpT G Pr Q [] ds t_w_markRowS) : Pr w_markRowS ds ∧ Q (G w_markRowS ds) := go tb_below (look_mem (l := tb) (f := w_markRowS) (d := d_w_markRowS) (by kernel_rfl)) h
theorem g_w_markSwing {ds : List D} {Q : List D → Prop} (h : wpT G Pr Q [] ds t_w_markSwing) : Pr w_markSwing ds ∧ Q (G w_markSwing ds) := go tb_below (look_mem (l := tb) (f := w_markSwing) (d := d_w_markSwing) (by kernel_rfl)) h
theorem g_w_markGrads {ds : List D} {Q : List D → Prop} (h : wpT G Pr Q [] ds t_w_markGrads) : Pr w_markGrads ds ∧ Q (G w_markGrads ds) := go tb_below (look_mem (l := tb) (f := w_markGrads) (d := d_w_markGrads) (by kernel_rfl)) h
theorem g_w_heldIntS {ds : List D} {Q : List D → Prop} (h : wpT G Pr Q [] ds t_w_heldIntS) : Pr w_heldIntS ds ∧ Q (G w_heldIntS ds) := go tb_below (look_mem (l := tb) (f := w_heldIntS) (d := d_w_heldIntS) (by kernel_rfl)) h
theorem g_w_heldOpS {ds : List D} {Q : List D → Prop} (h : wpT G Pr Q [] ds t_w_heldOpS) : Pr w_heldOpS ds ∧ Q (G w_heldOpS ds) := go tb_below (look_mem (l := tb) (f := w_heldOpS) (d := d_w_heldOpS) (by kernel_rfl)) h
theorem g_w_heldModel {ds : List D} {Q : List D → Prop} (h : wpT G Pr Q [] ds t_w_heldModel) : Pr w_heldModel ds ∧ Q (G w_heldModel ds) := go tb_below (look_mem (l := tb) (f := w_heldModel) (d := d_w_heldModel) (by kernel_rfl)) h
theorem g_w_heldRowS {ds : List D} {Q : List D → Prop} (h : wpT G Pr Q [] ds t_w_heldRowS) : Pr w_heldRowS ds ∧ Q (G w_heldRowS ds) := go tb_below (look_mem (l := tb) (f := w_heldRowS) (d := d_w_heldRowS) (by kernel_rfl)) h
theorem g_w_heldSwing {ds : List D} {Q : List D → Prop} (h : wpT G Pr Q [] ds t_w_heldSwing) : Pr w_heldSwing ds ∧ Q (G w_heldSwing ds) := go tb_below (look_mem (l := tb) (f := w_heldSwing) (d := d_w_heldSwing) (by kernel_rfl)) h
theorem g_w_FnExactSwingStep {ds : List D} {Q : List D → Prop} (h : wpT G Pr Q [] ds t_w_FnExactSwingStep) : Pr w_FnExactSwingStep ds ∧ Q (G w_FnExactSwingStep ds) := go tb_below (look_mem (l := tb) (f := w_FnExactSwingStep) (d := d_w_FnExactSwingStep) (by kernel_rfl)) h

end Go.Sx
