/- A part of the proof: contracts of functions of this seat, and lemmas. No condition beyond those stated. -/
import Derived.Test.YtccgdcmgjdhikaaG4
import Derived.Test.YtccgdcmgjdhikaaProg
set_option linter.unusedVariables false
set_option linter.unusedSimpArgs false
set_option linter.unusedSectionVars false
set_option linter.unnecessarySimpa false
/- Facts of the types of this seat, printed by a small program. -/
namespace Go.Proofs
open Go.AM
namespace Ytccgdcmgjdhikaa
theorem ty_k0 : tkind Try.prog 0 = some false := by kernel_rfl
theorem ty_z0 : tsz Try.prog 0 = some 1 := by kernel_rfl
theorem ty_b0 : tbytes Try.prog 0 = some 0 := by kernel_rfl
theorem ty_u0 : (Try.prog.underlying 0).isSome = true := by kernel_rfl
theorem ty_zv0 : zeroV Try.prog 0 = .undef := by kernel_rfl
theorem ty_k1 : tkind Try.prog 1 = some false := by kernel_rfl
theorem ty_z1 : tsz Try.prog 1 = some 1 := by kernel_rfl
theorem ty_b1 : tbytes Try.prog 1 = some 8 := by kernel_rfl
theorem ty_u1 : (Try.prog.underlying 1).isSome = true := by kernel_rfl
theorem ty_tz1 : tzero Try.prog 1 = some (Value.nilFunc) := by kernel_rfl
theorem ty_zs1 : (Value.nilFunc).cells.size = 1 := by kernel_rfl
theorem ty_zv1 : zeroV Try.prog 1 = .d (D.raw .nilFunc) := by kernel_rfl
theorem ty_dz1 : dataZero Try.prog 1 = some (D.raw .nilFunc) := by kernel_rfl
theorem ty_k2 : tkind Try.prog 2 = some false := by kernel_rfl
theorem ty_z2 : tsz Try.prog 2 = some 1 := by kernel_rfl
theorem ty_b2 : tbytes Try.prog 2 = some 8 := by kernel_rfl
theorem ty_i2 : tintk Try.prog 2 = some .i64 := by kernel_rfl
theorem ty_u2 : (Try.prog.underlying 2).isSome = true := by kernel_rfl
theorem ty_tz2 : tzero Try.prog 2 = some (Value.int .i64 0) := by kernel_rfl
theorem ty_zs2 : (Value.int .i64 0).cells.size = 1 := by kernel_rfl
theorem ty_zv2 : zeroV Try.prog 2 = .d (D.int .i64 0) := by kernel_rfl
theorem ty_dz2 : dataZero Try.prog 2 = some (D.int .i64 0) := by kernel_rfl
theorem ty_k3 : tkind Try.prog 3 = some false := by kernel_rfl
theorem ty_z3 : tsz Try.prog 3 = some 1 := by kernel_rfl
theorem ty_b3 : tbytes Try.prog 3 = some 8 := by kernel_rfl
theorem ty_i3 : tintk Try.prog 3 = some .i64 := by kernel_rfl
theorem ty_u3 : (Try.prog.underlying 3).isSome = true := by kernel_rfl
theorem ty_tz3 : tzero Try.prog 3 = some (Value.int .i64 0) := by kernel_rfl
theorem ty_zs3 : (Value.int .i64 0).cells.size = 1 := by kernel_rfl
theorem ty_zv3 : zeroV Try.prog 3 = .d (D.int .i64 0) := by kernel_rfl
theorem ty_dz3 : dataZero Try.prog 3 = some (D.int .i64 0) := by kernel_rfl
theorem ty_k4 : tkind Try.prog 4 = some false := by kernel_rfl
theorem ty_z4 : tsz Try.prog 4 = some 1 := by kernel_rfl
theorem ty_b4 : tbytes Try.prog 4 = some 1 := by kernel_rfl
theorem ty_u4 : (Try.prog.underlying 4).isSome = true := by kernel_rfl
theorem ty_bo4 : Try.prog.underlying 4 = some .bool := by kernel_rfl
theorem ty_tz4 : tzero Try.prog 4 = some (Value.bool false) := by kernel_rfl
theorem ty_zs4 : (Value.bool false).cells.size = 1 := by kernel_rfl
theorem ty_zv4 : zeroV Try.prog 4 = .d (D.bool false) := by kernel_rfl
theorem ty_dz4 : dataZero Try.prog 4 = some (D.bool false) := by kernel_rfl
theorem ty_k5 : tkind Try.prog 5 = some false := by kernel_rfl
theorem ty_z5 : tsz Try.prog 5 = some 1 := by kernel_rfl
theorem ty_b5 : tbytes Try.prog 5 = some 1 := by kernel_rfl
theorem ty_i5 : tintk Try.prog 5 = some .u8 := by kernel_rfl
theorem ty_u5 : (Try.prog.underlying 5).isSome = true := by kernel_rfl
theorem ty_tz5 : tzero Try.prog 5 = some (Value.int .u8 0) := by kernel_rfl
theorem ty_zs5 : (Value.int .u8 0).cells.size = 1 := by kernel_rfl
theorem ty_zv5 : zeroV Try.prog 5 = .d (D.int .u8 0) := by kernel_rfl
theorem ty_dz5 : dataZero Try.prog 5 = some (D.int .u8 0) := by kernel_rfl
theorem ty_k6 : tkind Try.prog 6 = some false := by kernel_rfl
theorem ty_z6 : tsz Try.prog 6 = some 1 := by kernel_rfl
theorem ty_b6 : tbytes Try.prog 6 = some 1 := by kernel_rfl
theorem ty_i6 : tintk Try.prog 6 = some .u8 := by kernel_rfl
theorem ty_u6 : (Try.prog.underlying 6).isSome = true := by kernel_rfl
theorem ty_tz6 : tzero Try.prog 6 = some (Value.int .u8 0) := by kernel_rfl
theorem ty_zs6 : (Value.int .u8 0).cells.size = 1 := by kernel_rfl
theorem ty_zv6 : zeroV Try.prog 6 = .d (D.int .u8 0) := by kernel_rfl
theorem ty_dz6 : dataZero Try.prog 6 = some (D.int .u8 0) := by kernel_rfl
theorem ty_k7 : tkind Try.prog 7 = some true := by kernel_rfl
theorem ty_z7 : tsz Try.prog 7 = some 4 := by kernel_rfl
theorem ty_b7 : tbytes Try.prog 7 = some 24 := by kernel_rfl
theorem ty_u7 : (Try.prog.underlying 7).isSome = true := by kernel_rfl
theorem ty_c7 : tcmp Try.prog 7 = some [0, 0, 1, 0] := by kernel_rfl
theorem ty_f7_0 : tfld Try.prog 7 0 = some (0, 1, false) := by kernel_rfl
theorem ty_f7_1 : tfld Try.prog 7 1 = some (1, 1, false) := by kernel_rfl
theorem ty_f7_2 : tfld Try.prog 7 2 = some (2, 1, false) := by kernel_rfl
theorem ty_f7_3 : tfld Try.prog 7 3 = some (3, 1, false) := by kernel_rfl
theorem ty_p7 : tplaces Try.prog 7 = some [(0, 1), (1, 1), (2, 1), (3, 1)] := by kernel_rfl
theorem ty_za7 : tzeroA Try.prog 7 = some [.d (D.int .i64 0), .d (D.int .i64 0), .d (D.bool false), .d (D.int .u8 0)] := by kernel_rfl
theorem ty_tz7 : tzero Try.prog 7 = some (Value.agg #[Value.int .i64 0, Value.int .i64 0, Value.bool false, Value.int .u8 0]) := by kernel_rfl
theorem ty_zs7 : (Value.agg #[Value.int .i64 0, Value.int .i64 0, Value.bool false, Value.int .u8 0]).cells.size = 4 := by kernel_rfl
theorem ty_zv7 : zeroV Try.prog 7 = .d (D.agg [D.int .i64 0, D.int .i64 0, D.bool false, D.int .u8 0]) := by kernel_rfl
theorem ty_dz7 : dataZero Try.prog 7 = some (D.agg [D.int .i64 0, D.int .i64 0, D.bool false, D.int .u8 0]) := by kernel_rfl
theorem ty_k8 : tkind Try.prog 8 = some true := by kernel_rfl
theorem ty_z8 : tsz Try.prog 8 = some 4 := by kernel_rfl
theorem ty_b8 : tbytes Try.prog 8 = some 24 := by kernel_rfl
theorem ty_u8 : (Try.prog.underlying 8).isSome = true := by kernel_rfl
theorem ty_c8 : tcmp Try.prog 8 = some [0, 0, 1, 0] := by kernel_rfl
theorem ty_f8_0 : tfld Try.prog 8 0 = some (0, 1, false) := by kernel_rfl
theorem ty_f8_1 : tfld Try.prog 8 1 = some (1, 1, false) := by kernel_rfl
theorem ty_f8_2 : tfld Try.prog 8 2 = some (2, 1, false) := by kernel_rfl
theorem ty_f8_3 : tfld Try.prog 8 3 = some (3, 1, false) := by kernel_rfl
theorem ty_p8 : tplaces Try.prog 8 = some [(0, 1), (1, 1), (2, 1), (3, 1)] := by kernel_rfl
theorem ty_za8 : tzeroA Try.prog 8 = some [.d (D.int .i64 0), .d (D.int .i64 0), .d (D.bool false), .d (D.int .u8 0)] := by kernel_rfl
theorem ty_tz8 : tzero Try.prog 8 = some (Value.agg #[Value.int .i64 0, Value.int .i64 0, Value.bool false, Value.int .u8 0]) := by kernel_rfl
theorem ty_zs8 : (Value.agg #[Value.int .i64 0, Value.int .i64 0, Value.bool false, Value.int .u8 0]).cells.size = 4 := by kernel_rfl
theorem ty_zv8 : zeroV Try.prog 8 = .d (D.agg [D.int .i64 0, D.int .i64 0, D.bool false, D.int .u8 0]) := by kernel_rfl
theorem ty_dz8 : dataZero Try.prog 8 = some (D.agg [D.int .i64 0, D.int .i64 0, D.bool false, D.int .u8 0]) := by kernel_rfl
theorem ty_k9 : tkind Try.prog 9 = some false := by kernel_rfl
theorem ty_z9 : tsz Try.prog 9 = some 1 := by kernel_rfl
theorem ty_b9 : tbytes Try.prog 9 = some 16 := by kernel_rfl
theorem ty_s9 : tstr Try.prog 9 = true := by kernel_rfl
theorem ty_u9 : (Try.prog.underlying 9).isSome = true := by kernel_rfl
theorem ty_tz9 : tzero Try.prog 9 = some (Value.string ⟨#[]⟩) := by kernel_rfl
theorem ty_zs9 : (Value.string ⟨#[]⟩).cells.size = 1 := by kernel_rfl
theorem ty_zv9 : zeroV Try.prog 9 = .d (D.str []) := by kernel_rfl
theorem ty_dz9 : dataZero Try.prog 9 = some (D.str []) := by kernel_rfl
theorem ty_k10 : tkind Try.prog 10 = some false := by kernel_rfl
theorem ty_z10 : tsz Try.prog 10 = some 1 := by kernel_rfl
theorem ty_b10 : tbytes Try.prog 10 = some 16 := by kernel_rfl
theorem ty_s10 : tstr Try.prog 10 = true := by kernel_rfl
theorem ty_u10 : (Try.prog.underlying 10).isSome = true := by kernel_rfl
theorem ty_tz10 : tzero Try.prog 10 = some (Value.string ⟨#[]⟩) := by kernel_rfl
theorem ty_zs10 : (Value.string ⟨#[]⟩).cells.size = 1 := by kernel_rfl
theorem ty_zv10 : zeroV Try.prog 10 = .d (D.str []) := by kernel_rfl
theorem ty_dz10 : dataZero Try.prog 10 = some (D.str []) := by kernel_rfl
theorem ty_k11 : tkind Try.prog 11 = some false := by kernel_rfl
theorem ty_z11 : tsz Try.prog 11 = some 1 := by kernel_rfl
theorem ty_b11 : tbytes Try.prog 11 = some 16 := by kernel_rfl
theorem ty_s11 : tstr Try.prog 11 = true := by kernel_rfl
theorem ty_u11 : (Try.prog.underlying 11).isSome = true := by kernel_rfl
theorem ty_tz11 : tzero Try.prog 11 = some (Value.string ⟨#[]⟩) := by kernel_rfl
theorem ty_zs11 : (Value.string ⟨#[]⟩).cells.size = 1 := by kernel_rfl
theorem ty_zv11 : zeroV Try.prog 11 = .d (D.str []) := by kernel_rfl
theorem ty_dz11 : dataZero Try.prog 11 = some (D.str []) := by kernel_rfl
theorem ty_k12 : tkind Try.prog 12 = some false := by kernel_rfl
theorem ty_z12 : tsz Try.prog 12 = some 1 := by kernel_rfl
theorem ty_b12 : tbytes Try.prog 12 = some 8 := by kernel_rfl
theorem ty_i12 : tintk Try.prog 12 = some .u64 := by kernel_rfl
theorem ty_u12 : (Try.prog.underlying 12).isSome = true := by kernel_rfl
theorem ty_tz12 : tzero Try.prog 12 = some (Value.int .u64 0) := by kernel_rfl
theorem ty_zs12 : (Value.int .u64 0).cells.size = 1 := by kernel_rfl
theorem ty_zv12 : zeroV Try.prog 12 = .d (D.int .u64 0) := by kernel_rfl
theorem ty_dz12 : dataZero Try.prog 12 = some (D.int .u64 0) := by kernel_rfl
theorem ty_k13 : tkind Try.prog 13 = some true := by kernel_rfl
theorem ty_z13 : tsz Try.prog 13 = some 2 := by kernel_rfl
theorem ty_b13 : tbytes Try.prog 13 = some 24 := by kernel_rfl
theorem ty_u13 : (Try.prog.underlying 13).isSome = true := by kernel_rfl
theorem ty_f13_0 : tfld Try.prog 13 0 = some (0, 1, false) := by kernel_rfl
theorem ty_f13_1 : tfld Try.prog 13 1 = some (1, 1, false) := by kernel_rfl
theorem ty_p13 : tplaces Try.prog 13 = some [(0, 1), (1, 1)] := by kernel_rfl
theorem ty_za13 : tzeroA Try.prog 13 = some [.d (D.str []), .d (D.int .u64 0)] := by kernel_rfl
theorem ty_tz13 : tzero Try.prog 13 = some (Value.agg #[Value.string ⟨#[]⟩, Value.int .u64 0]) := by kernel_rfl
theorem ty_zs13 : (Value.agg #[Value.string ⟨#[]⟩, Value.int .u64 0]).cells.size = 2 := by kernel_rfl
theorem ty_zv13 : zeroV Try.prog 13 = .d (D.agg [D.str [], D.int .u64 0]) := by kernel_rfl
theorem ty_dz13 : dataZero Try.prog 13 = some (D.agg [D.str [], D.int .u64 0]) := by kernel_rfl
theorem ty_k14 : tkind Try.prog 14 = some true := by kernel_rfl
theorem ty_z14 : tsz Try.prog 14 = some 2 := by kernel_rfl
theorem ty_b14 : tbytes Try.prog 14 = some 24 := by kernel_rfl
theorem ty_u14 : (Try.prog.underlying 14).isSome = true := by kernel_rfl
theorem ty_f14_0 : tfld Try.prog 14 0 = some (0, 1, false) := by kernel_rfl
theorem ty_f14_1 : tfld Try.prog 14 1 = some (1, 1, false) := by kernel_rfl
theorem ty_p14 : tplaces Try.prog 14 = some [(0, 1), (1, 1)] := by kernel_rfl
theorem ty_za14 : tzeroA Try.prog 14 = some [.d (D.str []), .d (D.int .u64 0)] := by kernel_rfl
theorem ty_tz14 : tzero Try.prog 14 = some (Value.agg #[Value.string ⟨#[]⟩, Value.int .u64 0]) := by kernel_rfl
theorem ty_zs14 : (Value.agg #[Value.string ⟨#[]⟩, Value.int .u64 0]).cells.size = 2 := by kernel_rfl
theorem ty_zv14 : zeroV Try.prog 14 = .d (D.agg [D.str [], D.int .u64 0]) := by kernel_rfl
theorem ty_dz14 : dataZero Try.prog 14 = some (D.agg [D.str [], D.int .u64 0]) := by kernel_rfl
theorem ty_k15 : tkind Try.prog 15 = some false := by kernel_rfl
theorem ty_z15 : tsz Try.prog 15 = some 1 := by kernel_rfl
theorem ty_pt15 : tptr Try.prog 15 = true := by kernel_rfl
theorem ty_b15 : tbytes Try.prog 15 = some 8 := by kernel_rfl
theorem ty_u15 : (Try.prog.underlying 15).isSome = true := by kernel_rfl
theorem ty_tz15 : tzero Try.prog 15 = some (Value.pointer none) := by kernel_rfl
theorem ty_zs15 : (Value.pointer none).cells.size = 1 := by kernel_rfl
theorem ty_zv15 : zeroV Try.prog 15 = .d (D.raw (.pointer none)) := by kernel_rfl
theorem ty_dz15 : dataZero Try.prog 15 = some (D.raw (.pointer none)) := by kernel_rfl
theorem ty_k16 : tkind Try.prog 16 = some false := by kernel_rfl
theorem ty_z16 : tsz Try.prog 16 = some 1 := by kernel_rfl
theorem ty_pt16 : tptr Try.prog 16 = true := by kernel_rfl
theorem ty_b16 : tbytes Try.prog 16 = some 8 := by kernel_rfl
theorem ty_u16 : (Try.prog.underlying 16).isSome = true := by kernel_rfl
theorem ty_tz16 : tzero Try.prog 16 = some (Value.pointer none) := by kernel_rfl
theorem ty_zs16 : (Value.pointer none).cells.size = 1 := by kernel_rfl
theorem ty_zv16 : zeroV Try.prog 16 = .d (D.raw (.pointer none)) := by kernel_rfl
theorem ty_dz16 : dataZero Try.prog 16 = some (D.raw (.pointer none)) := by kernel_rfl
theorem ty_k17 : tkind Try.prog 17 = some false := by kernel_rfl
theorem ty_z17 : tsz Try.prog 17 = some 1 := by kernel_rfl
theorem ty_pt17 : tptr Try.prog 17 = true := by kernel_rfl
theorem ty_b17 : tbytes Try.prog 17 = some 8 := by kernel_rfl
theorem ty_u17 : (Try.prog.underlying 17).isSome = true := by kernel_rfl
theorem ty_tz17 : tzero Try.prog 17 = some (Value.pointer none) := by kernel_rfl
theorem ty_zs17 : (Value.pointer none).cells.size = 1 := by kernel_rfl
theorem ty_zv17 : zeroV Try.prog 17 = .d (D.raw (.pointer none)) := by kernel_rfl
theorem ty_dz17 : dataZero Try.prog 17 = some (D.raw (.pointer none)) := by kernel_rfl
theorem ty_k18 : tkind Try.prog 18 = some true := by kernel_rfl
theorem ty_z18 : tsz Try.prog 18 = some 1 := by kernel_rfl
theorem ty_b18 : tbytes Try.prog 18 = some 8 := by kernel_rfl
theorem ty_u18 : (Try.prog.underlying 18).isSome = true := by kernel_rfl
theorem ty_f18_0 : tfld Try.prog 18 0 = some (0, 1, false) := by kernel_rfl
theorem ty_p18 : tplaces Try.prog 18 = some [(0, 1)] := by kernel_rfl
theorem ty_za18 : tzeroA Try.prog 18 = some [.d (D.raw (.pointer none))] := by kernel_rfl
theorem ty_tz18 : tzero Try.prog 18 = some (Value.agg #[Value.pointer none]) := by kernel_rfl
theorem ty_zs18 : (Value.agg #[Value.pointer none]).cells.size = 1 := by kernel_rfl
theorem ty_zv18 : zeroV Try.prog 18 = .d (D.agg [D.raw (.pointer none)]) := by kernel_rfl
theorem ty_dz18 : dataZero Try.prog 18 = some (D.agg [D.raw (.pointer none)]) := by kernel_rfl
theorem ty_k19 : tkind Try.prog 19 = some true := by kernel_rfl
theorem ty_z19 : tsz Try.prog 19 = some 1 := by kernel_rfl
theorem ty_b19 : tbytes Try.prog 19 = some 8 := by kernel_rfl
theorem ty_u19 : (Try.prog.underlying 19).isSome = true := by kernel_rfl
theorem ty_f19_0 : tfld Try.prog 19 0 = some (0, 1, false) := by kernel_rfl
theorem ty_p19 : tplaces Try.prog 19 = some [(0, 1)] := by kernel_rfl
theorem ty_za19 : tzeroA Try.prog 19 = some [.d (D.raw (.pointer none))] := by kernel_rfl
theorem ty_tz19 : tzero Try.prog 19 = some (Value.agg #[Value.pointer none]) := by kernel_rfl
theorem ty_zs19 : (Value.agg #[Value.pointer none]).cells.size = 1 := by kernel_rfl
theorem ty_zv19 : zeroV Try.prog 19 = .d (D.agg [D.raw (.pointer none)]) := by kernel_rfl
theorem ty_dz19 : dataZero Try.prog 19 = some (D.agg [D.raw (.pointer none)]) := by kernel_rfl
theorem ty_k20 : tkind Try.prog 20 = some false := by kernel_rfl
theorem ty_z20 : tsz Try.prog 20 = some 1 := by kernel_rfl
theorem ty_b20 : tbytes Try.prog 20 = some 16 := by kernel_rfl
theorem ty_u20 : (Try.prog.underlying 20).isSome = true := by kernel_rfl
theorem ty_tz20 : tzero Try.prog 20 = some (Value.nilIface) := by kernel_rfl
theorem ty_zs20 : (Value.nilIface).cells.size = 1 := by kernel_rfl
theorem ty_zv20 : zeroV Try.prog 20 = .d (D.raw .nilIface) := by kernel_rfl
theorem ty_dz20 : dataZero Try.prog 20 = some (D.raw .nilIface) := by kernel_rfl
theorem ty_k21 : tkind Try.prog 21 = some false := by kernel_rfl
theorem ty_z21 : tsz Try.prog 21 = some 1 := by kernel_rfl
theorem ty_b21 : tbytes Try.prog 21 = some 4 := by kernel_rfl
theorem ty_i21 : tintk Try.prog 21 = some .i32 := by kernel_rfl
theorem ty_u21 : (Try.prog.underlying 21).isSome = true := by kernel_rfl
theorem ty_tz21 : tzero Try.prog 21 = some (Value.int .i32 0) := by kernel_rfl
theorem ty_zs21 : (Value.int .i32 0).cells.size = 1 := by kernel_rfl
theorem ty_zv21 : zeroV Try.prog 21 = .d (D.int .i32 0) := by kernel_rfl
theorem ty_dz21 : dataZero Try.prog 21 = some (D.int .i32 0) := by kernel_rfl
theorem ty_k22 : tkind Try.prog 22 = some true := by kernel_rfl
theorem ty_z22 : tsz Try.prog 22 = some 2 := by kernel_rfl
theorem ty_b22 : tbytes Try.prog 22 = some 16 := by kernel_rfl
theorem ty_u22 : (Try.prog.underlying 22).isSome = true := by kernel_rfl
theorem ty_c22 : tcmp Try.prog 22 = some [0, 0] := by kernel_rfl
theorem ty_f22_0 : tfld Try.prog 22 0 = some (0, 1, false) := by kernel_rfl
theorem ty_f22_1 : tfld Try.prog 22 1 = some (1, 1, false) := by kernel_rfl
theorem ty_p22 : tplaces Try.prog 22 = some [(0, 1), (1, 1)] := by kernel_rfl
theorem ty_za22 : tzeroA Try.prog 22 = some [.d (D.int .i64 0), .d (D.int .i64 0)] := by kernel_rfl
theorem ty_tz22 : tzero Try.prog 22 = some (Value.agg #[Value.int .i64 0, Value.int .i64 0]) := by kernel_rfl
theorem ty_zs22 : (Value.agg #[Value.int .i64 0, Value.int .i64 0]).cells.size = 2 := by kernel_rfl
theorem ty_zv22 : zeroV Try.prog 22 = .d (D.agg [D.int .i64 0, D.int .i64 0]) := by kernel_rfl
theorem ty_dz22 : dataZero Try.prog 22 = some (D.agg [D.int .i64 0, D.int .i64 0]) := by kernel_rfl
theorem ty_k23 : tkind Try.prog 23 = some true := by kernel_rfl
theorem ty_z23 : tsz Try.prog 23 = some 2 := by kernel_rfl
theorem ty_b23 : tbytes Try.prog 23 = some 16 := by kernel_rfl
theorem ty_u23 : (Try.prog.underlying 23).isSome = true := by kernel_rfl
theorem ty_c23 : tcmp Try.prog 23 = some [0, 0] := by kernel_rfl
theorem ty_f23_0 : tfld Try.prog 23 0 = some (0, 1, false) := by kernel_rfl
theorem ty_f23_1 : tfld Try.prog 23 1 = some (1, 1, false) := by kernel_rfl
theorem ty_p23 : tplaces Try.prog 23 = some [(0, 1), (1, 1)] := by kernel_rfl
theorem ty_za23 : tzeroA Try.prog 23 = some [.d (D.int .i64 0), .d (D.int .i64 0)] := by kernel_rfl
theorem ty_tz23 : tzero Try.prog 23 = some (Value.agg #[Value.int .i64 0, Value.int .i64 0]) := by kernel_rfl
theorem ty_zs23 : (Value.agg #[Value.int .i64 0, Value.int .i64 0]).cells.size = 2 := by kernel_rfl
theorem ty_zv23 : zeroV Try.prog 23 = .d (D.agg [D.int .i64 0, D.int .i64 0]) := by kernel_rfl
theorem ty_dz23 : dataZero Try.prog 23 = some (D.agg [D.int .i64 0, D.int .i64 0]) := by kernel_rfl
theorem ty_k24 : tkind Try.prog 24 = some false := by kernel_rfl
theorem ty_z24 : tsz Try.prog 24 = some 1 := by kernel_rfl
theorem ty_e24 : telem Try.prog 24 = some 60 := by kernel_rfl
theorem ty_ae24 : apEs Try.prog 24 = 3 := by kernel_rfl
theorem ty_b24 : tbytes Try.prog 24 = some 24 := by kernel_rfl
theorem ty_x24 : tidx Try.prog 24 = some (none, 3) := by kernel_rfl
theorem ty_u24 : (Try.prog.underlying 24).isSome = true := by kernel_rfl
theorem ty_tz24 : tzero Try.prog 24 = some (Value.slice none 0 0) := by kernel_rfl
theorem ty_zs24 : (Value.slice none 0 0).cells.size = 1 := by kernel_rfl
theorem ty_zv24 : zeroV Try.prog 24 = .nils := by kernel_rfl
theorem ty_dz24 : dataZero Try.prog 24 = some (D.sl []) := by kernel_rfl
theorem ty_k25 : tkind Try.prog 25 = some false := by kernel_rfl
theorem ty_z25 : tsz Try.prog 25 = some 1 := by kernel_rfl
theorem ty_e25 : telem Try.prog 25 = some 84 := by kernel_rfl
theorem ty_ae25 : apEs Try.prog 25 = 8 := by kernel_rfl
theorem ty_b25 : tbytes Try.prog 25 = some 24 := by kernel_rfl
theorem ty_x25 : tidx Try.prog 25 = some (none, 8) := by kernel_rfl
theorem ty_u25 : (Try.prog.underlying 25).isSome = true := by kernel_rfl
theorem ty_tz25 : tzero Try.prog 25 = some (Value.slice none 0 0) := by kernel_rfl
theorem ty_zs25 : (Value.slice none 0 0).cells.size = 1 := by kernel_rfl
theorem ty_zv25 : zeroV Try.prog 25 = .nils := by kernel_rfl
theorem ty_dz25 : dataZero Try.prog 25 = some (D.sl []) := by kernel_rfl
theorem ty_k26 : tkind Try.prog 26 = some false := by kernel_rfl
theorem ty_z26 : tsz Try.prog 26 = some 1 := by kernel_rfl
theorem ty_e26 : telem Try.prog 26 = some 43 := by kernel_rfl
theorem ty_ae26 : apEs Try.prog 26 = 7 := by kernel_rfl
theorem ty_b26 : tbytes Try.prog 26 = some 24 := by kernel_rfl
theorem ty_x26 : tidx Try.prog 26 = some (none, 7) := by kernel_rfl
theorem ty_u26 : (Try.prog.underlying 26).isSome = true := by kernel_rfl
theorem ty_tz26 : tzero Try.prog 26 = some (Value.slice none 0 0) := by kernel_rfl
theorem ty_zs26 : (Value.slice none 0 0).cells.size = 1 := by kernel_rfl
theorem ty_zv26 : zeroV Try.prog 26 = .nils := by kernel_rfl
theorem ty_dz26 : dataZero Try.prog 26 = some (D.sl []) := by kernel_rfl
theorem ty_k27 : tkind Try.prog 27 = some false := by kernel_rfl
theorem ty_z27 : tsz Try.prog 27 = some 1 := by kernel_rfl
theorem ty_e27 : telem Try.prog 27 = some 92 := by kernel_rfl
theorem ty_ae27 : apEs Try.prog 27 = 7 := by kernel_rfl
theorem ty_b27 : tbytes Try.prog 27 = some 24 := by kernel_rfl
theorem ty_x27 : tidx Try.prog 27 = some (none, 7) := by kernel_rfl
theorem ty_u27 : (Try.prog.underlying 27).isSome = true := by kernel_rfl
theorem ty_tz27 : tzero Try.prog 27 = some (Value.slice none 0 0) := by kernel_rfl
theorem ty_zs27 : (Value.slice none 0 0).cells.size = 1 := by kernel_rfl
theorem ty_zv27 : zeroV Try.prog 27 = .nils := by kernel_rfl
theorem ty_dz27 : dataZero Try.prog 27 = some (D.sl []) := by kernel_rfl
theorem ty_k28 : tkind Try.prog 28 = some false := by kernel_rfl
theorem ty_z28 : tsz Try.prog 28 = some 1 := by kernel_rfl
theorem ty_e28 : telem Try.prog 28 = some 65 := by kernel_rfl
theorem ty_ae28 : apEs Try.prog 28 = 4 := by kernel_rfl
theorem ty_b28 : tbytes Try.prog 28 = some 24 := by kernel_rfl
theorem ty_x28 : tidx Try.prog 28 = some (none, 4) := by kernel_rfl
theorem ty_u28 : (Try.prog.underlying 28).isSome = true := by kernel_rfl
theorem ty_tz28 : tzero Try.prog 28 = some (Value.slice none 0 0) := by kernel_rfl
theorem ty_zs28 : (Value.slice none 0 0).cells.size = 1 := by kernel_rfl
theorem ty_zv28 : zeroV Try.prog 28 = .nils := by kernel_rfl
theorem ty_dz28 : dataZero Try.prog 28 = some (D.sl []) := by kernel_rfl
theorem ty_k29 : tkind Try.prog 29 = some false := by kernel_rfl
theorem ty_z29 : tsz Try.prog 29 = some 1 := by kernel_rfl
theorem ty_e29 : telem Try.prog 29 = some 117 := by kernel_rfl
theorem ty_ae29 : apEs Try.prog 29 = 3 := by kernel_rfl
theorem ty_b29 : tbytes Try.prog 29 = some 24 := by kernel_rfl
theorem ty_x29 : tidx Try.prog 29 = some (none, 3) := by kernel_rfl
theorem ty_u29 : (Try.prog.underlying 29).isSome = true := by kernel_rfl
theorem ty_tz29 : tzero Try.prog 29 = some (Value.slice none 0 0) := by kernel_rfl
theorem ty_zs29 : (Value.slice none 0 0).cells.size = 1 := by kernel_rfl
theorem ty_zv29 : zeroV Try.prog 29 = .nils := by kernel_rfl
theorem ty_dz29 : dataZero Try.prog 29 = some (D.sl []) := by kernel_rfl
theorem ty_k30 : tkind Try.prog 30 = some false := by kernel_rfl
theorem ty_z30 : tsz Try.prog 30 = some 1 := by kernel_rfl
theorem ty_e30 : telem Try.prog 30 = some 67 := by kernel_rfl
theorem ty_ae30 : apEs Try.prog 30 = 7 := by kernel_rfl
theorem ty_b30 : tbytes Try.prog 30 = some 24 := by kernel_rfl
theorem ty_x30 : tidx Try.prog 30 = some (none, 7) := by kernel_rfl
theorem ty_u30 : (Try.prog.underlying 30).isSome = true := by kernel_rfl
theorem ty_tz30 : tzero Try.prog 30 = some (Value.slice none 0 0) := by kernel_rfl
theorem ty_zs30 : (Value.slice none 0 0).cells.size = 1 := by kernel_rfl
theorem ty_zv30 : zeroV Try.prog 30 = .nils := by kernel_rfl
theorem ty_dz30 : dataZero Try.prog 30 = some (D.sl []) := by kernel_rfl
theorem ty_k31 : tkind Try.prog 31 = some false := by kernel_rfl
theorem ty_z31 : tsz Try.prog 31 = some 1 := by kernel_rfl
theorem ty_e31 : telem Try.prog 31 = some 132 := by kernel_rfl
theorem ty_ae31 : apEs Try.prog 31 = 4 := by kernel_rfl
theorem ty_b31 : tbytes Try.prog 31 = some 24 := by kernel_rfl
theorem ty_x31 : tidx Try.prog 31 = some (none, 4) := by kernel_rfl
theorem ty_u31 : (Try.prog.underlying 31).isSome = true := by kernel_rfl
theorem ty_tz31 : tzero Try.prog 31 = some (Value.slice none 0 0) := by kernel_rfl
theorem ty_zs31 : (Value.slice none 0 0).cells.size = 1 := by kernel_rfl
theorem ty_zv31 : zeroV Try.prog 31 = .nils := by kernel_rfl
theorem ty_dz31 : dataZero Try.prog 31 = some (D.sl []) := by kernel_rfl
theorem ty_k32 : tkind Try.prog 32 = some true := by kernel_rfl
theorem ty_z32 : tsz Try.prog 32 = some 10 := by kernel_rfl
theorem ty_b32 : tbytes Try.prog 32 = some 208 := by kernel_rfl
theorem ty_u32 : (Try.prog.underlying 32).isSome = true := by kernel_rfl
theorem ty_f32_0 : tfld Try.prog 32 0 = some (0, 2, true) := by kernel_rfl
theorem ty_f32_1 : tfld Try.prog 32 1 = some (2, 1, false) := by kernel_rfl
theorem ty_f32_2 : tfld Try.prog 32 2 = some (3, 1, false) := by kernel_rfl
theorem ty_f32_3 : tfld Try.prog 32 3 = some (4, 1, false) := by kernel_rfl
theorem ty_f32_4 : tfld Try.prog 32 4 = some (5, 1, false) := by kernel_rfl
theorem ty_f32_5 : tfld Try.prog 32 5 = some (6, 1, false) := by kernel_rfl
theorem ty_f32_6 : tfld Try.prog 32 6 = some (7, 1, false) := by kernel_rfl
theorem ty_f32_7 : tfld Try.prog 32 7 = some (8, 1, false) := by kernel_rfl
theorem ty_f32_8 : tfld Try.prog 32 8 = some (9, 1, false) := by kernel_rfl
theorem ty_p32 : tplaces Try.prog 32 = some [(0, 2), (2, 1), (3, 1), (4, 1), (5, 1), (6, 1), (7, 1), (8, 1), (9, 1)] := by kernel_rfl
theorem ty_za32 : tzeroA Try.prog 32 = some [.d (D.int .i64 0), .d (D.int .i64 0), .nils, .nils, .nils, .nils, .nils, .nils, .nils, .nils] := by kernel_rfl
theorem ty_tz32 : tzero Try.prog 32 = some (Value.agg #[Value.int .i64 0, Value.int .i64 0, Value.slice none 0 0, Value.slice none 0 0, Value.slice none 0 0, Value.slice none 0 0, Value.slice none 0 0, Value.slice none 0 0, Value.slice none 0 0, Value.slice none 0 0]) := by kernel_rfl
theorem ty_zs32 : (Value.agg #[Value.int .i64 0, Value.int .i64 0, Value.slice none 0 0, Value.slice none 0 0, Value.slice none 0 0, Value.slice none 0 0, Value.slice none 0 0, Value.slice none 0 0, Value.slice none 0 0, Value.slice none 0 0]).cells.size = 10 := by kernel_rfl
theorem ty_zv32 : zeroV Try.prog 32 = .agg [.d (D.int .i64 0), .d (D.int .i64 0), .nils, .nils, .nils, .nils, .nils, .nils, .nils, .nils] := by kernel_rfl
theorem ty_dz32 : dataZero Try.prog 32 = some (D.agg [D.int .i64 0, D.int .i64 0, D.sl [], D.sl [], D.sl [], D.sl [], D.sl [], D.sl [], D.sl [], D.sl []]) := by kernel_rfl
theorem ty_k33 : tkind Try.prog 33 = some true := by kernel_rfl
theorem ty_z33 : tsz Try.prog 33 = some 10 := by kernel_rfl
theorem ty_b33 : tbytes Try.prog 33 = some 208 := by kernel_rfl
theorem ty_u33 : (Try.prog.underlying 33).isSome = true := by kernel_rfl
theorem ty_f33_0 : tfld Try.prog 33 0 = some (0, 2, true) := by kernel_rfl
theorem ty_f33_1 : tfld Try.prog 33 1 = some (2, 1, false) := by kernel_rfl
theorem ty_f33_2 : tfld Try.prog 33 2 = some (3, 1, false) := by kernel_rfl
theorem ty_f33_3 : tfld Try.prog 33 3 = some (4, 1, false) := by kernel_rfl
theorem ty_f33_4 : tfld Try.prog 33 4 = some (5, 1, false) := by kernel_rfl
theorem ty_f33_5 : tfld Try.prog 33 5 = some (6, 1, false) := by kernel_rfl
theorem ty_f33_6 : tfld Try.prog 33 6 = some (7, 1, false) := by kernel_rfl
theorem ty_f33_7 : tfld Try.prog 33 7 = some (8, 1, false) := by kernel_rfl
theorem ty_f33_8 : tfld Try.prog 33 8 = some (9, 1, false) := by kernel_rfl
theorem ty_p33 : tplaces Try.prog 33 = some [(0, 2), (2, 1), (3, 1), (4, 1), (5, 1), (6, 1), (7, 1), (8, 1), (9, 1)] := by kernel_rfl
theorem ty_za33 : tzeroA Try.prog 33 = some [.d (D.int .i64 0), .d (D.int .i64 0), .nils, .nils, .nils, .nils, .nils, .nils, .nils, .nils] := by kernel_rfl
theorem ty_tz33 : tzero Try.prog 33 = some (Value.agg #[Value.int .i64 0, Value.int .i64 0, Value.slice none 0 0, Value.slice none 0 0, Value.slice none 0 0, Value.slice none 0 0, Value.slice none 0 0, Value.slice none 0 0, Value.slice none 0 0, Value.slice none 0 0]) := by kernel_rfl
theorem ty_zs33 : (Value.agg #[Value.int .i64 0, Value.int .i64 0, Value.slice none 0 0, Value.slice none 0 0, Value.slice none 0 0, Value.slice none 0 0, Value.slice none 0 0, Value.slice none 0 0, Value.slice none 0 0, Value.slice none 0 0]).cells.size = 10 := by kernel_rfl
theorem ty_zv33 : zeroV Try.prog 33 = .agg [.d (D.int .i64 0), .d (D.int .i64 0), .nils, .nils, .nils, .nils, .nils, .nils, .nils, .nils] := by kernel_rfl
theorem ty_dz33 : dataZero Try.prog 33 = some (D.agg [D.int .i64 0, D.int .i64 0, D.sl [], D.sl [], D.sl [], D.sl [], D.sl [], D.sl [], D.sl [], D.sl []]) := by kernel_rfl
theorem ty_k34 : tkind Try.prog 34 = some false := by kernel_rfl
theorem ty_z34 : tsz Try.prog 34 = some 1 := by kernel_rfl
theorem ty_b34 : tbytes Try.prog 34 = some 8 := by kernel_rfl
theorem ty_u34 : (Try.prog.underlying 34).isSome = true := by kernel_rfl
theorem ty_tz34 : tzero Try.prog 34 = some (Value.nilFunc) := by kernel_rfl
theorem ty_zs34 : (Value.nilFunc).cells.size = 1 := by kernel_rfl
theorem ty_zv34 : zeroV Try.prog 34 = .d (D.raw .nilFunc) := by kernel_rfl
theorem ty_dz34 : dataZero Try.prog 34 = some (D.raw .nilFunc) := by kernel_rfl
theorem ty_k35 : tkind Try.prog 35 = some false := by kernel_rfl
theorem ty_z35 : tsz Try.prog 35 = some 1 := by kernel_rfl
theorem ty_b35 : tbytes Try.prog 35 = some 8 := by kernel_rfl
theorem ty_u35 : (Try.prog.underlying 35).isSome = true := by kernel_rfl
theorem ty_tz35 : tzero Try.prog 35 = some (Value.nilFunc) := by kernel_rfl
theorem ty_zs35 : (Value.nilFunc).cells.size = 1 := by kernel_rfl
theorem ty_zv35 : zeroV Try.prog 35 = .d (D.raw .nilFunc) := by kernel_rfl
theorem ty_dz35 : dataZero Try.prog 35 = some (D.raw .nilFunc) := by kernel_rfl
theorem ty_k36 : tkind Try.prog 36 = some false := by kernel_rfl
theorem ty_z36 : tsz Try.prog 36 = some 1 := by kernel_rfl
theorem ty_e36 : telem Try.prog 36 = some 41 := by kernel_rfl
theorem ty_ae36 : apEs Try.prog 36 = 4 := by kernel_rfl
theorem ty_b36 : tbytes Try.prog 36 = some 24 := by kernel_rfl
theorem ty_x36 : tidx Try.prog 36 = some (none, 4) := by kernel_rfl
theorem ty_u36 : (Try.prog.underlying 36).isSome = true := by kernel_rfl
theorem ty_tz36 : tzero Try.prog 36 = some (Value.slice none 0 0) := by kernel_rfl
theorem ty_zs36 : (Value.slice none 0 0).cells.size = 1 := by kernel_rfl
theorem ty_zv36 : zeroV Try.prog 36 = .nils := by kernel_rfl
theorem ty_dz36 : dataZero Try.prog 36 = some (D.sl []) := by kernel_rfl
theorem ty_k37 : tkind Try.prog 37 = some false := by kernel_rfl
theorem ty_z37 : tsz Try.prog 37 = some 1 := by kernel_rfl
theorem ty_b37 : tbytes Try.prog 37 = some 8 := by kernel_rfl
theorem ty_i37 : tintk Try.prog 37 = some .i64 := by kernel_rfl
theorem ty_u37 : (Try.prog.underlying 37).isSome = true := by kernel_rfl
theorem ty_tz37 : tzero Try.prog 37 = some (Value.int .i64 0) := by kernel_rfl
theorem ty_zs37 : (Value.int .i64 0).cells.size = 1 := by kernel_rfl
theorem ty_zv37 : zeroV Try.prog 37 = .d (D.int .i64 0) := by kernel_rfl
theorem ty_dz37 : dataZero Try.prog 37 = some (D.int .i64 0) := by kernel_rfl
theorem ty_k38 : tkind Try.prog 38 = some false := by kernel_rfl
theorem ty_z38 : tsz Try.prog 38 = some 1 := by kernel_rfl
theorem ty_b38 : tbytes Try.prog 38 = some 0 := by kernel_rfl
theorem ty_u38 : (Try.prog.underlying 38).isSome = true := by kernel_rfl
theorem ty_zv38 : zeroV Try.prog 38 = .undef := by kernel_rfl
theorem ty_k39 : tkind Try.prog 39 = some false := by kernel_rfl
theorem ty_z39 : tsz Try.prog 39 = some 1 := by kernel_rfl
theorem ty_b39 : tbytes Try.prog 39 = some 8 := by kernel_rfl
theorem ty_u39 : (Try.prog.underlying 39).isSome = true := by kernel_rfl
theorem ty_tz39 : tzero Try.prog 39 = some (Value.nilFunc) := by kernel_rfl
theorem ty_zs39 : (Value.nilFunc).cells.size = 1 := by kernel_rfl
theorem ty_zv39 : zeroV Try.prog 39 = .d (D.raw .nilFunc) := by kernel_rfl
theorem ty_dz39 : dataZero Try.prog 39 = some (D.raw .nilFunc) := by kernel_rfl
theorem ty_k40 : tkind Try.prog 40 = some true := by kernel_rfl
theorem ty_z40 : tsz Try.prog 40 = some 4 := by kernel_rfl
theorem ty_b40 : tbytes Try.prog 40 = some 32 := by kernel_rfl
theorem ty_u40 : (Try.prog.underlying 40).isSome = true := by kernel_rfl
theorem ty_c40 : tcmp Try.prog 40 = some [0, 0, 0, 0] := by kernel_rfl
theorem ty_f40_0 : tfld Try.prog 40 0 = some (0, 1, false) := by kernel_rfl
theorem ty_f40_1 : tfld Try.prog 40 1 = some (1, 1, false) := by kernel_rfl
theorem ty_f40_2 : tfld Try.prog 40 2 = some (2, 2, true) := by kernel_rfl
theorem ty_p40 : tplaces Try.prog 40 = some [(0, 1), (1, 1), (2, 2)] := by kernel_rfl
theorem ty_za40 : tzeroA Try.prog 40 = some [.d (D.int .i64 0), .d (D.int .i64 0), .d (D.int .i64 0), .d (D.int .i64 0)] := by kernel_rfl
theorem ty_tz40 : tzero Try.prog 40 = some (Value.agg #[Value.int .i64 0, Value.int .i64 0, Value.int .i64 0, Value.int .i64 0]) := by kernel_rfl
theorem ty_zs40 : (Value.agg #[Value.int .i64 0, Value.int .i64 0, Value.int .i64 0, Value.int .i64 0]).cells.size = 4 := by kernel_rfl
theorem ty_zv40 : zeroV Try.prog 40 = .d (D.agg [D.int .i64 0, D.int .i64 0, D.int .i64 0, D.int .i64 0]) := by kernel_rfl
theorem ty_dz40 : dataZero Try.prog 40 = some (D.agg [D.int .i64 0, D.int .i64 0, D.int .i64 0, D.int .i64 0]) := by kernel_rfl
theorem ty_k41 : tkind Try.prog 41 = some true := by kernel_rfl
theorem ty_z41 : tsz Try.prog 41 = some 4 := by kernel_rfl
theorem ty_b41 : tbytes Try.prog 41 = some 32 := by kernel_rfl
theorem ty_u41 : (Try.prog.underlying 41).isSome = true := by kernel_rfl
theorem ty_c41 : tcmp Try.prog 41 = some [0, 0, 0, 0] := by kernel_rfl
theorem ty_f41_0 : tfld Try.prog 41 0 = some (0, 1, false) := by kernel_rfl
theorem ty_f41_1 : tfld Try.prog 41 1 = some (1, 1, false) := by kernel_rfl
theorem ty_f41_2 : tfld Try.prog 41 2 = some (2, 2, true) := by kernel_rfl
theorem ty_p41 : tplaces Try.prog 41 = some [(0, 1), (1, 1), (2, 2)] := by kernel_rfl
theorem ty_za41 : tzeroA Try.prog 41 = some [.d (D.int .i64 0), .d (D.int .i64 0), .d (D.int .i64 0), .d (D.int .i64 0)] := by kernel_rfl
theorem ty_tz41 : tzero Try.prog 41 = some (Value.agg #[Value.int .i64 0, Value.int .i64 0, Value.int .i64 0, Value.int .i64 0]) := by kernel_rfl
theorem ty_zs41 : (Value.agg #[Value.int .i64 0, Value.int .i64 0, Value.int .i64 0, Value.int .i64 0]).cells.size = 4 := by kernel_rfl
theorem ty_zv41 : zeroV Try.prog 41 = .d (D.agg [D.int .i64 0, D.int .i64 0, D.int .i64 0, D.int .i64 0]) := by kernel_rfl
theorem ty_dz41 : dataZero Try.prog 41 = some (D.agg [D.int .i64 0, D.int .i64 0, D.int .i64 0, D.int .i64 0]) := by kernel_rfl
theorem ty_k42 : tkind Try.prog 42 = some true := by kernel_rfl
theorem ty_z42 : tsz Try.prog 42 = some 7 := by kernel_rfl
theorem ty_b42 : tbytes Try.prog 42 = some 56 := by kernel_rfl
theorem ty_u42 : (Try.prog.underlying 42).isSome = true := by kernel_rfl
theorem ty_c42 : tcmp Try.prog 42 = some [0, 0, 0, 0, 0, 0, 0] := by kernel_rfl
theorem ty_f42_0 : tfld Try.prog 42 0 = some (0, 1, false) := by kernel_rfl
theorem ty_f42_1 : tfld Try.prog 42 1 = some (1, 1, false) := by kernel_rfl
theorem ty_f42_2 : tfld Try.prog 42 2 = some (2, 2, true) := by kernel_rfl
theorem ty_f42_3 : tfld Try.prog 42 3 = some (4, 1, false) := by kernel_rfl
theorem ty_f42_4 : tfld Try.prog 42 4 = some (5, 1, false) := by kernel_rfl
theorem ty_f42_5 : tfld Try.prog 42 5 = some (6, 1, false) := by kernel_rfl
theorem ty_p42 : tplaces Try.prog 42 = some [(0, 1), (1, 1), (2, 2), (4, 1), (5, 1), (6, 1)] := by kernel_rfl
theorem ty_za42 : tzeroA Try.prog 42 = some [.d (D.int .i64 0), .d (D.int .i64 0), .d (D.int .i64 0), .d (D.int .i64 0), .d (D.int .i64 0), .d (D.int .i64 0), .d (D.int .i64 0)] := by kernel_rfl
theorem ty_tz42 : tzero Try.prog 42 = some (Value.agg #[Value.int .i64 0, Value.int .i64 0, Value.int .i64 0, Value.int .i64 0, Value.int .i64 0, Value.int .i64 0, Value.int .i64 0]) := by kernel_rfl
theorem ty_zs42 : (Value.agg #[Value.int .i64 0, Value.int .i64 0, Value.int .i64 0, Value.int .i64 0, Value.int .i64 0, Value.int .i64 0, Value.int .i64 0]).cells.size = 7 := by kernel_rfl
theorem ty_zv42 : zeroV Try.prog 42 = .d (D.agg [D.int .i64 0, D.int .i64 0, D.int .i64 0, D.int .i64 0, D.int .i64 0, D.int .i64 0, D.int .i64 0]) := by kernel_rfl
theorem ty_dz42 : dataZero Try.prog 42 = some (D.agg [D.int .i64 0, D.int .i64 0, D.int .i64 0, D.int .i64 0, D.int .i64 0, D.int .i64 0, D.int .i64 0]) := by kernel_rfl
theorem ty_k43 : tkind Try.prog 43 = some true := by kernel_rfl
theorem ty_z43 : tsz Try.prog 43 = some 7 := by kernel_rfl
theorem ty_b43 : tbytes Try.prog 43 = some 56 := by kernel_rfl
theorem ty_u43 : (Try.prog.underlying 43).isSome = true := by kernel_rfl
theorem ty_c43 : tcmp Try.prog 43 = some [0, 0, 0, 0, 0, 0, 0] := by kernel_rfl
theorem ty_f43_0 : tfld Try.prog 43 0 = some (0, 1, false) := by kernel_rfl
theorem ty_f43_1 : tfld Try.prog 43 1 = some (1, 1, false) := by kernel_rfl
theorem ty_f43_2 : tfld Try.prog 43 2 = some (2, 2, true) := by kernel_rfl
theorem ty_f43_3 : tfld Try.prog 43 3 = some (4, 1, false) := by kernel_rfl
theorem ty_f43_4 : tfld Try.prog 43 4 = some (5, 1, false) := by kernel_rfl
theorem ty_f43_5 : tfld Try.prog 43 5 = some (6, 1, false) := by kernel_rfl
theorem ty_p43 : tplaces Try.prog 43 = some [(0, 1), (1, 1), (2, 2), (4, 1), (5, 1), (6, 1)] := by kernel_rfl
theorem ty_za43 : tzeroA Try.prog 43 = some [.d (D.int .i64 0), .d (D.int .i64 0), .d (D.int .i64 0), .d (D.int .i64 0), .d (D.int .i64 0), .d (D.int .i64 0), .d (D.int .i64 0)] := by kernel_rfl
theorem ty_tz43 : tzero Try.prog 43 = some (Value.agg #[Value.int .i64 0, Value.int .i64 0, Value.int .i64 0, Value.int .i64 0, Value.int .i64 0, Value.int .i64 0, Value.int .i64 0]) := by kernel_rfl
theorem ty_zs43 : (Value.agg #[Value.int .i64 0, Value.int .i64 0, Value.int .i64 0, Value.int .i64 0, Value.int .i64 0, Value.int .i64 0, Value.int .i64 0]).cells.size = 7 := by kernel_rfl
theorem ty_zv43 : zeroV Try.prog 43 = .d (D.agg [D.int .i64 0, D.int .i64 0, D.int .i64 0, D.int .i64 0, D.int .i64 0, D.int .i64 0, D.int .i64 0]) := by kernel_rfl
theorem ty_dz43 : dataZero Try.prog 43 = some (D.agg [D.int .i64 0, D.int .i64 0, D.int .i64 0, D.int .i64 0, D.int .i64 0, D.int .i64 0, D.int .i64 0]) := by kernel_rfl
theorem ty_k44 : tkind Try.prog 44 = some false := by kernel_rfl
theorem ty_z44 : tsz Try.prog 44 = some 1 := by kernel_rfl
theorem ty_b44 : tbytes Try.prog 44 = some 0 := by kernel_rfl
theorem ty_u44 : (Try.prog.underlying 44).isSome = true := by kernel_rfl
theorem ty_zv44 : zeroV Try.prog 44 = .undef := by kernel_rfl
theorem ty_k45 : tkind Try.prog 45 = some false := by kernel_rfl
theorem ty_z45 : tsz Try.prog 45 = some 1 := by kernel_rfl
theorem ty_b45 : tbytes Try.prog 45 = some 8 := by kernel_rfl
theorem ty_u45 : (Try.prog.underlying 45).isSome = true := by kernel_rfl
theorem ty_tz45 : tzero Try.prog 45 = some (Value.nilFunc) := by kernel_rfl
theorem ty_zs45 : (Value.nilFunc).cells.size = 1 := by kernel_rfl
theorem ty_zv45 : zeroV Try.prog 45 = .d (D.raw .nilFunc) := by kernel_rfl
theorem ty_dz45 : dataZero Try.prog 45 = some (D.raw .nilFunc) := by kernel_rfl
theorem ty_k46 : tkind Try.prog 46 = some false := by kernel_rfl
theorem ty_z46 : tsz Try.prog 46 = some 1 := by kernel_rfl
theorem ty_b46 : tbytes Try.prog 46 = some 8 := by kernel_rfl
theorem ty_u46 : (Try.prog.underlying 46).isSome = true := by kernel_rfl
theorem ty_tz46 : tzero Try.prog 46 = some (Value.nilFunc) := by kernel_rfl
theorem ty_zs46 : (Value.nilFunc).cells.size = 1 := by kernel_rfl
theorem ty_zv46 : zeroV Try.prog 46 = .d (D.raw .nilFunc) := by kernel_rfl
theorem ty_dz46 : dataZero Try.prog 46 = some (D.raw .nilFunc) := by kernel_rfl
theorem ty_k47 : tkind Try.prog 47 = some false := by kernel_rfl
theorem ty_z47 : tsz Try.prog 47 = some 1 := by kernel_rfl
theorem ty_e47 : telem Try.prog 47 = some 3 := by kernel_rfl
theorem ty_ae47 : apEs Try.prog 47 = 1 := by kernel_rfl
theorem ty_b47 : tbytes Try.prog 47 = some 24 := by kernel_rfl
theorem ty_x47 : tidx Try.prog 47 = some (none, 1) := by kernel_rfl
theorem ty_u47 : (Try.prog.underlying 47).isSome = true := by kernel_rfl
theorem ty_tz47 : tzero Try.prog 47 = some (Value.slice none 0 0) := by kernel_rfl
theorem ty_zs47 : (Value.slice none 0 0).cells.size = 1 := by kernel_rfl
theorem ty_zv47 : zeroV Try.prog 47 = .nils := by kernel_rfl
theorem ty_dz47 : dataZero Try.prog 47 = some (D.sl []) := by kernel_rfl
theorem ty_k48 : tkind Try.prog 48 = some false := by kernel_rfl
theorem ty_z48 : tsz Try.prog 48 = some 1 := by kernel_rfl
theorem ty_b48 : tbytes Try.prog 48 = some 0 := by kernel_rfl
theorem ty_u48 : (Try.prog.underlying 48).isSome = true := by kernel_rfl
theorem ty_zv48 : zeroV Try.prog 48 = .undef := by kernel_rfl
theorem ty_k49 : tkind Try.prog 49 = some false := by kernel_rfl
theorem ty_z49 : tsz Try.prog 49 = some 1 := by kernel_rfl
theorem ty_b49 : tbytes Try.prog 49 = some 8 := by kernel_rfl
theorem ty_u49 : (Try.prog.underlying 49).isSome = true := by kernel_rfl
theorem ty_tz49 : tzero Try.prog 49 = some (Value.nilFunc) := by kernel_rfl
theorem ty_zs49 : (Value.nilFunc).cells.size = 1 := by kernel_rfl
theorem ty_zv49 : zeroV Try.prog 49 = .d (D.raw .nilFunc) := by kernel_rfl
theorem ty_dz49 : dataZero Try.prog 49 = some (D.raw .nilFunc) := by kernel_rfl
theorem ty_k50 : tkind Try.prog 50 = some false := by kernel_rfl
theorem ty_z50 : tsz Try.prog 50 = some 1 := by kernel_rfl
theorem ty_b50 : tbytes Try.prog 50 = some 8 := by kernel_rfl
theorem ty_u50 : (Try.prog.underlying 50).isSome = true := by kernel_rfl
theorem ty_tz50 : tzero Try.prog 50 = some (Value.nilFunc) := by kernel_rfl
theorem ty_zs50 : (Value.nilFunc).cells.size = 1 := by kernel_rfl
theorem ty_zv50 : zeroV Try.prog 50 = .d (D.raw .nilFunc) := by kernel_rfl
theorem ty_dz50 : dataZero Try.prog 50 = some (D.raw .nilFunc) := by kernel_rfl
theorem ty_k51 : tkind Try.prog 51 = some false := by kernel_rfl
theorem ty_z51 : tsz Try.prog 51 = some 1 := by kernel_rfl
theorem ty_b51 : tbytes Try.prog 51 = some 8 := by kernel_rfl
theorem ty_u51 : (Try.prog.underlying 51).isSome = true := by kernel_rfl
theorem ty_tz51 : tzero Try.prog 51 = some (Value.nilFunc) := by kernel_rfl
theorem ty_zs51 : (Value.nilFunc).cells.size = 1 := by kernel_rfl
theorem ty_zv51 : zeroV Try.prog 51 = .d (D.raw .nilFunc) := by kernel_rfl
theorem ty_dz51 : dataZero Try.prog 51 = some (D.raw .nilFunc) := by kernel_rfl
theorem ty_k52 : tkind Try.prog 52 = some false := by kernel_rfl
theorem ty_z52 : tsz Try.prog 52 = some 1 := by kernel_rfl
theorem ty_b52 : tbytes Try.prog 52 = some 8 := by kernel_rfl
theorem ty_u52 : (Try.prog.underlying 52).isSome = true := by kernel_rfl
theorem ty_tz52 : tzero Try.prog 52 = some (Value.nilFunc) := by kernel_rfl
theorem ty_zs52 : (Value.nilFunc).cells.size = 1 := by kernel_rfl
theorem ty_zv52 : zeroV Try.prog 52 = .d (D.raw .nilFunc) := by kernel_rfl
theorem ty_dz52 : dataZero Try.prog 52 = some (D.raw .nilFunc) := by kernel_rfl
theorem ty_k53 : tkind Try.prog 53 = some false := by kernel_rfl
theorem ty_z53 : tsz Try.prog 53 = some 1 := by kernel_rfl
theorem ty_e53 : telem Try.prog 53 = some 56 := by kernel_rfl
theorem ty_ae53 : apEs Try.prog 53 = 2 := by kernel_rfl
theorem ty_b53 : tbytes Try.prog 53 = some 24 := by kernel_rfl
theorem ty_x53 : tidx Try.prog 53 = some (none, 2) := by kernel_rfl
theorem ty_u53 : (Try.prog.underlying 53).isSome = true := by kernel_rfl
theorem ty_tz53 : tzero Try.prog 53 = some (Value.slice none 0 0) := by kernel_rfl
theorem ty_zs53 : (Value.slice none 0 0).cells.size = 1 := by kernel_rfl
theorem ty_zv53 : zeroV Try.prog 53 = .nils := by kernel_rfl
theorem ty_dz53 : dataZero Try.prog 53 = some (D.sl []) := by kernel_rfl
theorem ty_k54 : tkind Try.prog 54 = some false := by kernel_rfl
theorem ty_z54 : tsz Try.prog 54 = some 1 := by kernel_rfl
theorem ty_b54 : tbytes Try.prog 54 = some 0 := by kernel_rfl
theorem ty_u54 : (Try.prog.underlying 54).isSome = true := by kernel_rfl
theorem ty_zv54 : zeroV Try.prog 54 = .undef := by kernel_rfl
theorem ty_k55 : tkind Try.prog 55 = some false := by kernel_rfl
theorem ty_z55 : tsz Try.prog 55 = some 1 := by kernel_rfl
theorem ty_b55 : tbytes Try.prog 55 = some 8 := by kernel_rfl
theorem ty_u55 : (Try.prog.underlying 55).isSome = true := by kernel_rfl
theorem ty_tz55 : tzero Try.prog 55 = some (Value.nilFunc) := by kernel_rfl
theorem ty_zs55 : (Value.nilFunc).cells.size = 1 := by kernel_rfl
theorem ty_zv55 : zeroV Try.prog 55 = .d (D.raw .nilFunc) := by kernel_rfl
theorem ty_dz55 : dataZero Try.prog 55 = some (D.raw .nilFunc) := by kernel_rfl
theorem ty_k56 : tkind Try.prog 56 = some true := by kernel_rfl
theorem ty_z56 : tsz Try.prog 56 = some 2 := by kernel_rfl
theorem ty_b56 : tbytes Try.prog 56 = some 16 := by kernel_rfl
theorem ty_x56 : tidx Try.prog 56 = some (some 2, 1) := by kernel_rfl
theorem ty_u56 : (Try.prog.underlying 56).isSome = true := by kernel_rfl
theorem ty_c56 : tcmp Try.prog 56 = some [0, 0] := by kernel_rfl
theorem ty_p56 : tplaces Try.prog 56 = some [(0, 1), (1, 1)] := by kernel_rfl
theorem ty_za56 : tzeroA Try.prog 56 = some [.d (D.int .i64 0), .d (D.int .i64 0)] := by kernel_rfl
theorem ty_tz56 : tzero Try.prog 56 = some (Value.agg #[Value.int .i64 0, Value.int .i64 0]) := by kernel_rfl
theorem ty_zs56 : (Value.agg #[Value.int .i64 0, Value.int .i64 0]).cells.size = 2 := by kernel_rfl
theorem ty_zv56 : zeroV Try.prog 56 = .d (D.agg [D.int .i64 0, D.int .i64 0]) := by kernel_rfl
theorem ty_dz56 : dataZero Try.prog 56 = some (D.agg [D.int .i64 0, D.int .i64 0]) := by kernel_rfl
theorem ty_k57 : tkind Try.prog 57 = some false := by kernel_rfl
theorem ty_z57 : tsz Try.prog 57 = some 1 := by kernel_rfl
theorem ty_b57 : tbytes Try.prog 57 = some 8 := by kernel_rfl
theorem ty_u57 : (Try.prog.underlying 57).isSome = true := by kernel_rfl
theorem ty_tz57 : tzero Try.prog 57 = some (Value.nilFunc) := by kernel_rfl
theorem ty_zs57 : (Value.nilFunc).cells.size = 1 := by kernel_rfl
theorem ty_zv57 : zeroV Try.prog 57 = .d (D.raw .nilFunc) := by kernel_rfl
theorem ty_dz57 : dataZero Try.prog 57 = some (D.raw .nilFunc) := by kernel_rfl
theorem ty_k58 : tkind Try.prog 58 = some false := by kernel_rfl
theorem ty_z58 : tsz Try.prog 58 = some 1 := by kernel_rfl
theorem ty_b58 : tbytes Try.prog 58 = some 8 := by kernel_rfl
theorem ty_u58 : (Try.prog.underlying 58).isSome = true := by kernel_rfl
theorem ty_tz58 : tzero Try.prog 58 = some (Value.nilFunc) := by kernel_rfl
theorem ty_zs58 : (Value.nilFunc).cells.size = 1 := by kernel_rfl
theorem ty_zv58 : zeroV Try.prog 58 = .d (D.raw .nilFunc) := by kernel_rfl
theorem ty_dz58 : dataZero Try.prog 58 = some (D.raw .nilFunc) := by kernel_rfl
theorem ty_k59 : tkind Try.prog 59 = some true := by kernel_rfl
theorem ty_z59 : tsz Try.prog 59 = some 3 := by kernel_rfl
theorem ty_b59 : tbytes Try.prog 59 = some 32 := by kernel_rfl
theorem ty_u59 : (Try.prog.underlying 59).isSome = true := by kernel_rfl
theorem ty_c59 : tcmp Try.prog 59 = some [0, 2, 0] := by kernel_rfl
theorem ty_f59_0 : tfld Try.prog 59 0 = some (0, 1, false) := by kernel_rfl
theorem ty_f59_1 : tfld Try.prog 59 1 = some (1, 1, false) := by kernel_rfl
theorem ty_f59_2 : tfld Try.prog 59 2 = some (2, 1, false) := by kernel_rfl
theorem ty_p59 : tplaces Try.prog 59 = some [(0, 1), (1, 1), (2, 1)] := by kernel_rfl
theorem ty_za59 : tzeroA Try.prog 59 = some [.d (D.int .i64 0), .d (D.str []), .d (D.int .i64 0)] := by kernel_rfl
theorem ty_tz59 : tzero Try.prog 59 = some (Value.agg #[Value.int .i64 0, Value.string ⟨#[]⟩, Value.int .i64 0]) := by kernel_rfl
theorem ty_zs59 : (Value.agg #[Value.int .i64 0, Value.string ⟨#[]⟩, Value.int .i64 0]).cells.size = 3 := by kernel_rfl
theorem ty_zv59 : zeroV Try.prog 59 = .d (D.agg [D.int .i64 0, D.str [], D.int .i64 0]) := by kernel_rfl
theorem ty_dz59 : dataZero Try.prog 59 = some (D.agg [D.int .i64 0, D.str [], D.int .i64 0]) := by kernel_rfl
theorem ty_k60 : tkind Try.prog 60 = some true := by kernel_rfl
theorem ty_z60 : tsz Try.prog 60 = some 3 := by kernel_rfl
theorem ty_b60 : tbytes Try.prog 60 = some 32 := by kernel_rfl
theorem ty_u60 : (Try.prog.underlying 60).isSome = true := by kernel_rfl
theorem ty_c60 : tcmp Try.prog 60 = some [0, 2, 0] := by kernel_rfl
theorem ty_f60_0 : tfld Try.prog 60 0 = some (0, 1, false) := by kernel_rfl
theorem ty_f60_1 : tfld Try.prog 60 1 = some (1, 1, false) := by kernel_rfl
theorem ty_f60_2 : tfld Try.prog 60 2 = some (2, 1, false) := by kernel_rfl
theorem ty_p60 : tplaces Try.prog 60 = some [(0, 1), (1, 1), (2, 1)] := by kernel_rfl
theorem ty_za60 : tzeroA Try.prog 60 = some [.d (D.int .i64 0), .d (D.str []), .d (D.int .i64 0)] := by kernel_rfl
theorem ty_tz60 : tzero Try.prog 60 = some (Value.agg #[Value.int .i64 0, Value.string ⟨#[]⟩, Value.int .i64 0]) := by kernel_rfl
theorem ty_zs60 : (Value.agg #[Value.int .i64 0, Value.string ⟨#[]⟩, Value.int .i64 0]).cells.size = 3 := by kernel_rfl
theorem ty_zv60 : zeroV Try.prog 60 = .d (D.agg [D.int .i64 0, D.str [], D.int .i64 0]) := by kernel_rfl
theorem ty_dz60 : dataZero Try.prog 60 = some (D.agg [D.int .i64 0, D.str [], D.int .i64 0]) := by kernel_rfl
theorem ty_k61 : tkind Try.prog 61 = some false := by kernel_rfl
theorem ty_z61 : tsz Try.prog 61 = some 1 := by kernel_rfl
theorem ty_b61 : tbytes Try.prog 61 = some 0 := by kernel_rfl
theorem ty_u61 : (Try.prog.underlying 61).isSome = true := by kernel_rfl
theorem ty_zv61 : zeroV Try.prog 61 = .undef := by kernel_rfl
theorem ty_k62 : tkind Try.prog 62 = some false := by kernel_rfl
theorem ty_z62 : tsz Try.prog 62 = some 1 := by kernel_rfl
theorem ty_b62 : tbytes Try.prog 62 = some 8 := by kernel_rfl
theorem ty_u62 : (Try.prog.underlying 62).isSome = true := by kernel_rfl
theorem ty_tz62 : tzero Try.prog 62 = some (Value.nilFunc) := by kernel_rfl
theorem ty_zs62 : (Value.nilFunc).cells.size = 1 := by kernel_rfl
theorem ty_zv62 : zeroV Try.prog 62 = .d (D.raw .nilFunc) := by kernel_rfl
theorem ty_dz62 : dataZero Try.prog 62 = some (D.raw .nilFunc) := by kernel_rfl
theorem ty_k63 : tkind Try.prog 63 = some false := by kernel_rfl
theorem ty_z63 : tsz Try.prog 63 = some 1 := by kernel_rfl
theorem ty_e63 : telem Try.prog 63 = some 9 := by kernel_rfl
theorem ty_ae63 : apEs Try.prog 63 = 1 := by kernel_rfl
theorem ty_b63 : tbytes Try.prog 63 = some 24 := by kernel_rfl
theorem ty_x63 : tidx Try.prog 63 = some (none, 1) := by kernel_rfl
theorem ty_u63 : (Try.prog.underlying 63).isSome = true := by kernel_rfl
theorem ty_tz63 : tzero Try.prog 63 = some (Value.slice none 0 0) := by kernel_rfl
theorem ty_zs63 : (Value.slice none 0 0).cells.size = 1 := by kernel_rfl
theorem ty_zv63 : zeroV Try.prog 63 = .nils := by kernel_rfl
theorem ty_dz63 : dataZero Try.prog 63 = some (D.sl []) := by kernel_rfl
theorem ty_k64 : tkind Try.prog 64 = some true := by kernel_rfl
theorem ty_z64 : tsz Try.prog 64 = some 4 := by kernel_rfl
theorem ty_b64 : tbytes Try.prog 64 = some 48 := by kernel_rfl
theorem ty_u64 : (Try.prog.underlying 64).isSome = true := by kernel_rfl
theorem ty_f64_0 : tfld Try.prog 64 0 = some (0, 1, false) := by kernel_rfl
theorem ty_f64_1 : tfld Try.prog 64 1 = some (1, 1, false) := by kernel_rfl
theorem ty_f64_2 : tfld Try.prog 64 2 = some (2, 1, false) := by kernel_rfl
theorem ty_f64_3 : tfld Try.prog 64 3 = some (3, 1, false) := by kernel_rfl
theorem ty_p64 : tplaces Try.prog 64 = some [(0, 1), (1, 1), (2, 1), (3, 1)] := by kernel_rfl
theorem ty_za64 : tzeroA Try.prog 64 = some [.d (D.int .i64 0), .d (D.int .i64 0), .d (D.int .i64 0), .nils] := by kernel_rfl
theorem ty_tz64 : tzero Try.prog 64 = some (Value.agg #[Value.int .i64 0, Value.int .i64 0, Value.int .i64 0, Value.slice none 0 0]) := by kernel_rfl
theorem ty_zs64 : (Value.agg #[Value.int .i64 0, Value.int .i64 0, Value.int .i64 0, Value.slice none 0 0]).cells.size = 4 := by kernel_rfl
theorem ty_zv64 : zeroV Try.prog 64 = .agg [.d (D.int .i64 0), .d (D.int .i64 0), .d (D.int .i64 0), .nils] := by kernel_rfl
theorem ty_dz64 : dataZero Try.prog 64 = some (D.agg [D.int .i64 0, D.int .i64 0, D.int .i64 0, D.sl []]) := by kernel_rfl
theorem ty_k65 : tkind Try.prog 65 = some true := by kernel_rfl
theorem ty_z65 : tsz Try.prog 65 = some 4 := by kernel_rfl
theorem ty_b65 : tbytes Try.prog 65 = some 48 := by kernel_rfl
theorem ty_u65 : (Try.prog.underlying 65).isSome = true := by kernel_rfl
theorem ty_f65_0 : tfld Try.prog 65 0 = some (0, 1, false) := by kernel_rfl
theorem ty_f65_1 : tfld Try.prog 65 1 = some (1, 1, false) := by kernel_rfl
theorem ty_f65_2 : tfld Try.prog 65 2 = some (2, 1, false) := by kernel_rfl
theorem ty_f65_3 : tfld Try.prog 65 3 = some (3, 1, false) := by kernel_rfl
theorem ty_p65 : tplaces Try.prog 65 = some [(0, 1), (1, 1), (2, 1), (3, 1)] := by kernel_rfl
theorem ty_za65 : tzeroA Try.prog 65 = some [.d (D.int .i64 0), .d (D.int .i64 0), .d (D.int .i64 0), .nils] := by kernel_rfl
theorem ty_tz65 : tzero Try.prog 65 = some (Value.agg #[Value.int .i64 0, Value.int .i64 0, Value.int .i64 0, Value.slice none 0 0]) := by kernel_rfl
theorem ty_zs65 : (Value.agg #[Value.int .i64 0, Value.int .i64 0, Value.int .i64 0, Value.slice none 0 0]).cells.size = 4 := by kernel_rfl
theorem ty_zv65 : zeroV Try.prog 65 = .agg [.d (D.int .i64 0), .d (D.int .i64 0), .d (D.int .i64 0), .nils] := by kernel_rfl
theorem ty_dz65 : dataZero Try.prog 65 = some (D.agg [D.int .i64 0, D.int .i64 0, D.int .i64 0, D.sl []]) := by kernel_rfl
theorem ty_k66 : tkind Try.prog 66 = some true := by kernel_rfl
theorem ty_z66 : tsz Try.prog 66 = some 7 := by kernel_rfl
theorem ty_b66 : tbytes Try.prog 66 = some 72 := by kernel_rfl
theorem ty_u66 : (Try.prog.underlying 66).isSome = true := by kernel_rfl
theorem ty_f66_0 : tfld Try.prog 66 0 = some (0, 1, false) := by kernel_rfl
theorem ty_f66_1 : tfld Try.prog 66 1 = some (1, 1, false) := by kernel_rfl
theorem ty_f66_2 : tfld Try.prog 66 2 = some (2, 1, false) := by kernel_rfl
theorem ty_f66_3 : tfld Try.prog 66 3 = some (3, 2, true) := by kernel_rfl
theorem ty_f66_4 : tfld Try.prog 66 4 = some (5, 1, false) := by kernel_rfl
theorem ty_f66_5 : tfld Try.prog 66 5 = some (6, 1, false) := by kernel_rfl
theorem ty_p66 : tplaces Try.prog 66 = some [(0, 1), (1, 1), (2, 1), (3, 2), (5, 1), (6, 1)] := by kernel_rfl
theorem ty_za66 : tzeroA Try.prog 66 = some [.d (D.int .i64 0), .d (D.int .i64 0), .d (D.int .i64 0), .d (D.int .i64 0), .d (D.int .i64 0), .nils, .d (D.bool false)] := by kernel_rfl
theorem ty_tz66 : tzero Try.prog 66 = some (Value.agg #[Value.int .i64 0, Value.int .i64 0, Value.int .i64 0, Value.int .i64 0, Value.int .i64 0, Value.slice none 0 0, Value.bool false]) := by kernel_rfl
theorem ty_zs66 : (Value.agg #[Value.int .i64 0, Value.int .i64 0, Value.int .i64 0, Value.int .i64 0, Value.int .i64 0, Value.slice none 0 0, Value.bool false]).cells.size = 7 := by kernel_rfl
theorem ty_zv66 : zeroV Try.prog 66 = .agg [.d (D.int .i64 0), .d (D.int .i64 0), .d (D.int .i64 0), .d (D.int .i64 0), .d (D.int .i64 0), .nils, .d (D.bool false)] := by kernel_rfl
theorem ty_dz66 : dataZero Try.prog 66 = some (D.agg [D.int .i64 0, D.int .i64 0, D.int .i64 0, D.int .i64 0, D.int .i64 0, D.sl [], D.bool false]) := by kernel_rfl
theorem ty_k67 : tkind Try.prog 67 = some true := by kernel_rfl
theorem ty_z67 : tsz Try.prog 67 = some 7 := by kernel_rfl
theorem ty_b67 : tbytes Try.prog 67 = some 72 := by kernel_rfl
theorem ty_u67 : (Try.prog.underlying 67).isSome = true := by kernel_rfl
theorem ty_f67_0 : tfld Try.prog 67 0 = some (0, 1, false) := by kernel_rfl
theorem ty_f67_1 : tfld Try.prog 67 1 = some (1, 1, false) := by kernel_rfl
theorem ty_f67_2 : tfld Try.prog 67 2 = some (2, 1, false) := by kernel_rfl
theorem ty_f67_3 : tfld Try.prog 67 3 = some (3, 2, true) := by kernel_rfl
theorem ty_f67_4 : tfld Try.prog 67 4 = some (5, 1, false) := by kernel_rfl
theorem ty_f67_5 : tfld Try.prog 67 5 = some (6, 1, false) := by kernel_rfl
theorem ty_p67 : tplaces Try.prog 67 = some [(0, 1), (1, 1), (2, 1), (3, 2), (5, 1), (6, 1)] := by kernel_rfl
theorem ty_za67 : tzeroA Try.prog 67 = some [.d (D.int .i64 0), .d (D.int .i64 0), .d (D.int .i64 0), .d (D.int .i64 0), .d (D.int .i64 0), .nils, .d (D.bool false)] := by kernel_rfl
theorem ty_tz67 : tzero Try.prog 67 = some (Value.agg #[Value.int .i64 0, Value.int .i64 0, Value.int .i64 0, Value.int .i64 0, Value.int .i64 0, Value.slice none 0 0, Value.bool false]) := by kernel_rfl
theorem ty_zs67 : (Value.agg #[Value.int .i64 0, Value.int .i64 0, Value.int .i64 0, Value.int .i64 0, Value.int .i64 0, Value.slice none 0 0, Value.bool false]).cells.size = 7 := by kernel_rfl
theorem ty_zv67 : zeroV Try.prog 67 = .agg [.d (D.int .i64 0), .d (D.int .i64 0), .d (D.int .i64 0), .d (D.int .i64 0), .d (D.int .i64 0), .nils, .d (D.bool false)] := by kernel_rfl
theorem ty_dz67 : dataZero Try.prog 67 = some (D.agg [D.int .i64 0, D.int .i64 0, D.int .i64 0, D.int .i64 0, D.int .i64 0, D.sl [], D.bool false]) := by kernel_rfl
theorem ty_k68 : tkind Try.prog 68 = some false := by kernel_rfl
theorem ty_z68 : tsz Try.prog 68 = some 1 := by kernel_rfl
theorem ty_b68 : tbytes Try.prog 68 = some 8 := by kernel_rfl
theorem ty_u68 : (Try.prog.underlying 68).isSome = true := by kernel_rfl
theorem ty_tz68 : tzero Try.prog 68 = some (Value.nilFunc) := by kernel_rfl
theorem ty_zs68 : (Value.nilFunc).cells.size = 1 := by kernel_rfl
theorem ty_zv68 : zeroV Try.prog 68 = .d (D.raw .nilFunc) := by kernel_rfl
theorem ty_dz68 : dataZero Try.prog 68 = some (D.raw .nilFunc) := by kernel_rfl
theorem ty_k69 : tkind Try.prog 69 = some false := by kernel_rfl
theorem ty_z69 : tsz Try.prog 69 = some 1 := by kernel_rfl
theorem ty_b69 : tbytes Try.prog 69 = some 8 := by kernel_rfl
theorem ty_u69 : (Try.prog.underlying 69).isSome = true := by kernel_rfl
theorem ty_tz69 : tzero Try.prog 69 = some (Value.nilFunc) := by kernel_rfl
theorem ty_zs69 : (Value.nilFunc).cells.size = 1 := by kernel_rfl
theorem ty_zv69 : zeroV Try.prog 69 = .d (D.raw .nilFunc) := by kernel_rfl
theorem ty_dz69 : dataZero Try.prog 69 = some (D.raw .nilFunc) := by kernel_rfl
theorem ty_k70 : tkind Try.prog 70 = some false := by kernel_rfl
theorem ty_z70 : tsz Try.prog 70 = some 1 := by kernel_rfl
theorem ty_b70 : tbytes Try.prog 70 = some 8 := by kernel_rfl
theorem ty_u70 : (Try.prog.underlying 70).isSome = true := by kernel_rfl
theorem ty_tz70 : tzero Try.prog 70 = some (Value.nilFunc) := by kernel_rfl
theorem ty_zs70 : (Value.nilFunc).cells.size = 1 := by kernel_rfl
theorem ty_zv70 : zeroV Try.prog 70 = .d (D.raw .nilFunc) := by kernel_rfl
theorem ty_dz70 : dataZero Try.prog 70 = some (D.raw .nilFunc) := by kernel_rfl
theorem ty_k71 : tkind Try.prog 71 = some false := by kernel_rfl
theorem ty_z71 : tsz Try.prog 71 = some 1 := by kernel_rfl
theorem ty_b71 : tbytes Try.prog 71 = some 8 := by kernel_rfl
theorem ty_u71 : (Try.prog.underlying 71).isSome = true := by kernel_rfl
theorem ty_tz71 : tzero Try.prog 71 = some (Value.nilFunc) := by kernel_rfl
theorem ty_zs71 : (Value.nilFunc).cells.size = 1 := by kernel_rfl
theorem ty_zv71 : zeroV Try.prog 71 = .d (D.raw .nilFunc) := by kernel_rfl
theorem ty_dz71 : dataZero Try.prog 71 = some (D.raw .nilFunc) := by kernel_rfl
theorem ty_k72 : tkind Try.prog 72 = some false := by kernel_rfl
theorem ty_z72 : tsz Try.prog 72 = some 1 := by kernel_rfl
theorem ty_b72 : tbytes Try.prog 72 = some 8 := by kernel_rfl
theorem ty_u72 : (Try.prog.underlying 72).isSome = true := by kernel_rfl
theorem ty_tz72 : tzero Try.prog 72 = some (Value.nilFunc) := by kernel_rfl
theorem ty_zs72 : (Value.nilFunc).cells.size = 1 := by kernel_rfl
theorem ty_zv72 : zeroV Try.prog 72 = .d (D.raw .nilFunc) := by kernel_rfl
theorem ty_dz72 : dataZero Try.prog 72 = some (D.raw .nilFunc) := by kernel_rfl
theorem ty_k73 : tkind Try.prog 73 = some false := by kernel_rfl
theorem ty_z73 : tsz Try.prog 73 = some 1 := by kernel_rfl
theorem ty_b73 : tbytes Try.prog 73 = some 8 := by kernel_rfl
theorem ty_u73 : (Try.prog.underlying 73).isSome = true := by kernel_rfl
theorem ty_tz73 : tzero Try.prog 73 = some (Value.nilFunc) := by kernel_rfl
theorem ty_zs73 : (Value.nilFunc).cells.size = 1 := by kernel_rfl
theorem ty_zv73 : zeroV Try.prog 73 = .d (D.raw .nilFunc) := by kernel_rfl
theorem ty_dz73 : dataZero Try.prog 73 = some (D.raw .nilFunc) := by kernel_rfl
theorem ty_k74 : tkind Try.prog 74 = some false := by kernel_rfl
theorem ty_z74 : tsz Try.prog 74 = some 1 := by kernel_rfl
theorem ty_b74 : tbytes Try.prog 74 = some 8 := by kernel_rfl
theorem ty_u74 : (Try.prog.underlying 74).isSome = true := by kernel_rfl
theorem ty_tz74 : tzero Try.prog 74 = some (Value.nilFunc) := by kernel_rfl
theorem ty_zs74 : (Value.nilFunc).cells.size = 1 := by kernel_rfl
theorem ty_zv74 : zeroV Try.prog 74 = .d (D.raw .nilFunc) := by kernel_rfl
theorem ty_dz74 : dataZero Try.prog 74 = some (D.raw .nilFunc) := by kernel_rfl
theorem ty_k75 : tkind Try.prog 75 = some false := by kernel_rfl
theorem ty_z75 : tsz Try.prog 75 = some 1 := by kernel_rfl
theorem ty_b75 : tbytes Try.prog 75 = some 8 := by kernel_rfl
theorem ty_i75 : tintk Try.prog 75 = some .u64 := by kernel_rfl
theorem ty_u75 : (Try.prog.underlying 75).isSome = true := by kernel_rfl
theorem ty_tz75 : tzero Try.prog 75 = some (Value.int .u64 0) := by kernel_rfl
theorem ty_zs75 : (Value.int .u64 0).cells.size = 1 := by kernel_rfl
theorem ty_zv75 : zeroV Try.prog 75 = .d (D.int .u64 0) := by kernel_rfl
theorem ty_dz75 : dataZero Try.prog 75 = some (D.int .u64 0) := by kernel_rfl
theorem ty_k76 : tkind Try.prog 76 = some false := by kernel_rfl
theorem ty_z76 : tsz Try.prog 76 = some 1 := by kernel_rfl
theorem ty_b76 : tbytes Try.prog 76 = some 8 := by kernel_rfl
theorem ty_u76 : (Try.prog.underlying 76).isSome = true := by kernel_rfl
theorem ty_tz76 : tzero Try.prog 76 = some (Value.nilFunc) := by kernel_rfl
theorem ty_zs76 : (Value.nilFunc).cells.size = 1 := by kernel_rfl
theorem ty_zv76 : zeroV Try.prog 76 = .d (D.raw .nilFunc) := by kernel_rfl
theorem ty_dz76 : dataZero Try.prog 76 = some (D.raw .nilFunc) := by kernel_rfl
theorem ty_k77 : tkind Try.prog 77 = some false := by kernel_rfl
theorem ty_z77 : tsz Try.prog 77 = some 1 := by kernel_rfl
theorem ty_b77 : tbytes Try.prog 77 = some 8 := by kernel_rfl
theorem ty_u77 : (Try.prog.underlying 77).isSome = true := by kernel_rfl
theorem ty_tz77 : tzero Try.prog 77 = some (Value.nilFunc) := by kernel_rfl
theorem ty_zs77 : (Value.nilFunc).cells.size = 1 := by kernel_rfl
theorem ty_zv77 : zeroV Try.prog 77 = .d (D.raw .nilFunc) := by kernel_rfl
theorem ty_dz77 : dataZero Try.prog 77 = some (D.raw .nilFunc) := by kernel_rfl
theorem ty_k78 : tkind Try.prog 78 = some false := by kernel_rfl
theorem ty_z78 : tsz Try.prog 78 = some 1 := by kernel_rfl
theorem ty_b78 : tbytes Try.prog 78 = some 8 := by kernel_rfl
theorem ty_u78 : (Try.prog.underlying 78).isSome = true := by kernel_rfl
theorem ty_tz78 : tzero Try.prog 78 = some (Value.nilFunc) := by kernel_rfl
theorem ty_zs78 : (Value.nilFunc).cells.size = 1 := by kernel_rfl
theorem ty_zv78 : zeroV Try.prog 78 = .d (D.raw .nilFunc) := by kernel_rfl
theorem ty_dz78 : dataZero Try.prog 78 = some (D.raw .nilFunc) := by kernel_rfl
theorem ty_k79 : tkind Try.prog 79 = some false := by kernel_rfl
theorem ty_z79 : tsz Try.prog 79 = some 1 := by kernel_rfl
theorem ty_m79 : tmap Try.prog 79 = some (some .i64, 9) := by kernel_rfl
theorem ty_b79 : tbytes Try.prog 79 = some 8 := by kernel_rfl
theorem ty_u79 : (Try.prog.underlying 79).isSome = true := by kernel_rfl
theorem ty_tz79 : tzero Try.prog 79 = some (Value.map none) := by kernel_rfl
theorem ty_zs79 : (Value.map none).cells.size = 1 := by kernel_rfl
theorem ty_zv79 : zeroV Try.prog 79 = .d (D.raw (.map none)) := by kernel_rfl
theorem ty_dz79 : dataZero Try.prog 79 = some (D.raw (.map none)) := by kernel_rfl
theorem ty_k80 : tkind Try.prog 80 = some false := by kernel_rfl
theorem ty_z80 : tsz Try.prog 80 = some 1 := by kernel_rfl
theorem ty_b80 : tbytes Try.prog 80 = some 0 := by kernel_rfl
theorem ty_u80 : (Try.prog.underlying 80).isSome = true := by kernel_rfl
theorem ty_zv80 : zeroV Try.prog 80 = .undef := by kernel_rfl
theorem ty_k81 : tkind Try.prog 81 = some false := by kernel_rfl
theorem ty_z81 : tsz Try.prog 81 = some 1 := by kernel_rfl
theorem ty_b81 : tbytes Try.prog 81 = some 8 := by kernel_rfl
theorem ty_u81 : (Try.prog.underlying 81).isSome = true := by kernel_rfl
theorem ty_tz81 : tzero Try.prog 81 = some (Value.nilFunc) := by kernel_rfl
theorem ty_zs81 : (Value.nilFunc).cells.size = 1 := by kernel_rfl
theorem ty_zv81 : zeroV Try.prog 81 = .d (D.raw .nilFunc) := by kernel_rfl
theorem ty_dz81 : dataZero Try.prog 81 = some (D.raw .nilFunc) := by kernel_rfl
theorem ty_k82 : tkind Try.prog 82 = some false := by kernel_rfl
theorem ty_z82 : tsz Try.prog 82 = some 1 := by kernel_rfl
theorem ty_b82 : tbytes Try.prog 82 = some 8 := by kernel_rfl
theorem ty_u82 : (Try.prog.underlying 82).isSome = true := by kernel_rfl
theorem ty_tz82 : tzero Try.prog 82 = some (Value.nilFunc) := by kernel_rfl
theorem ty_zs82 : (Value.nilFunc).cells.size = 1 := by kernel_rfl
theorem ty_zv82 : zeroV Try.prog 82 = .d (D.raw .nilFunc) := by kernel_rfl
theorem ty_dz82 : dataZero Try.prog 82 = some (D.raw .nilFunc) := by kernel_rfl
theorem ty_k83 : tkind Try.prog 83 = some true := by kernel_rfl
theorem ty_z83 : tsz Try.prog 83 = some 8 := by kernel_rfl
theorem ty_b83 : tbytes Try.prog 83 = some 72 := by kernel_rfl
theorem ty_u83 : (Try.prog.underlying 83).isSome = true := by kernel_rfl
theorem ty_c83 : tcmp Try.prog 83 = some [0, 0, 0, 2, 0, 0, 0, 1] := by kernel_rfl
theorem ty_f83_0 : tfld Try.prog 83 0 = some (0, 1, false) := by kernel_rfl
theorem ty_f83_1 : tfld Try.prog 83 1 = some (1, 1, false) := by kernel_rfl
theorem ty_f83_2 : tfld Try.prog 83 2 = some (2, 1, false) := by kernel_rfl
theorem ty_f83_3 : tfld Try.prog 83 3 = some (3, 1, false) := by kernel_rfl
theorem ty_f83_4 : tfld Try.prog 83 4 = some (4, 2, true) := by kernel_rfl
theorem ty_f83_5 : tfld Try.prog 83 5 = some (6, 1, false) := by kernel_rfl
theorem ty_f83_6 : tfld Try.prog 83 6 = some (7, 1, false) := by kernel_rfl
theorem ty_p83 : tplaces Try.prog 83 = some [(0, 1), (1, 1), (2, 1), (3, 1), (4, 2), (6, 1), (7, 1)] := by kernel_rfl
theorem ty_za83 : tzeroA Try.prog 83 = some [.d (D.int .i64 0), .d (D.int .i64 0), .d (D.int .i64 0), .d (D.str []), .d (D.int .i64 0), .d (D.int .i64 0), .d (D.int .i64 0), .d (D.bool false)] := by kernel_rfl
theorem ty_tz83 : tzero Try.prog 83 = some (Value.agg #[Value.int .i64 0, Value.int .i64 0, Value.int .i64 0, Value.string ⟨#[]⟩, Value.int .i64 0, Value.int .i64 0, Value.int .i64 0, Value.bool false]) := by kernel_rfl
theorem ty_zs83 : (Value.agg #[Value.int .i64 0, Value.int .i64 0, Value.int .i64 0, Value.string ⟨#[]⟩, Value.int .i64 0, Value.int .i64 0, Value.int .i64 0, Value.bool false]).cells.size = 8 := by kernel_rfl
theorem ty_zv83 : zeroV Try.prog 83 = .d (D.agg [D.int .i64 0, D.int .i64 0, D.int .i64 0, D.str [], D.int .i64 0, D.int .i64 0, D.int .i64 0, D.bool false]) := by kernel_rfl
theorem ty_dz83 : dataZero Try.prog 83 = some (D.agg [D.int .i64 0, D.int .i64 0, D.int .i64 0, D.str [], D.int .i64 0, D.int .i64 0, D.int .i64 0, D.bool false]) := by kernel_rfl
theorem ty_k84 : tkind Try.prog 84 = some true := by kernel_rfl
theorem ty_z84 : tsz Try.prog 84 = some 8 := by kernel_rfl
theorem ty_b84 : tbytes Try.prog 84 = some 72 := by kernel_rfl
theorem ty_u84 : (Try.prog.underlying 84).isSome = true := by kernel_rfl
theorem ty_c84 : tcmp Try.prog 84 = some [0, 0, 0, 2, 0, 0, 0, 1] := by kernel_rfl
theorem ty_f84_0 : tfld Try.prog 84 0 = some (0, 1, false) := by kernel_rfl
theorem ty_f84_1 : tfld Try.prog 84 1 = some (1, 1, false) := by kernel_rfl
theorem ty_f84_2 : tfld Try.prog 84 2 = some (2, 1, false) := by kernel_rfl
theorem ty_f84_3 : tfld Try.prog 84 3 = some (3, 1, false) := by kernel_rfl
theorem ty_f84_4 : tfld Try.prog 84 4 = some (4, 2, true) := by kernel_rfl
theorem ty_f84_5 : tfld Try.prog 84 5 = some (6, 1, false) := by kernel_rfl
theorem ty_f84_6 : tfld Try.prog 84 6 = some (7, 1, false) := by kernel_rfl
theorem ty_p84 : tplaces Try.prog 84 = some [(0, 1), (1, 1), (2, 1), (3, 1), (4, 2), (6, 1), (7, 1)] := by kernel_rfl
theorem ty_za84 : tzeroA Try.prog 84 = some [.d (D.int .i64 0), .d (D.int .i64 0), .d (D.int .i64 0), .d (D.str []), .d (D.int .i64 0), .d (D.int .i64 0), .d (D.int .i64 0), .d (D.bool false)] := by kernel_rfl
theorem ty_tz84 : tzero Try.prog 84 = some (Value.agg #[Value.int .i64 0, Value.int .i64 0, Value.int .i64 0, Value.string ⟨#[]⟩, Value.int .i64 0, Value.int .i64 0, Value.int .i64 0, Value.bool false]) := by kernel_rfl
theorem ty_zs84 : (Value.agg #[Value.int .i64 0, Value.int .i64 0, Value.int .i64 0, Value.string ⟨#[]⟩, Value.int .i64 0, Value.int .i64 0, Value.int .i64 0, Value.bool false]).cells.size = 8 := by kernel_rfl
theorem ty_zv84 : zeroV Try.prog 84 = .d (D.agg [D.int .i64 0, D.int .i64 0, D.int .i64 0, D.str [], D.int .i64 0, D.int .i64 0, D.int .i64 0, D.bool false]) := by kernel_rfl
theorem ty_dz84 : dataZero Try.prog 84 = some (D.agg [D.int .i64 0, D.int .i64 0, D.int .i64 0, D.str [], D.int .i64 0, D.int .i64 0, D.int .i64 0, D.bool false]) := by kernel_rfl
theorem ty_k85 : tkind Try.prog 85 = some false := by kernel_rfl
theorem ty_z85 : tsz Try.prog 85 = some 1 := by kernel_rfl
theorem ty_b85 : tbytes Try.prog 85 = some 8 := by kernel_rfl
theorem ty_u85 : (Try.prog.underlying 85).isSome = true := by kernel_rfl
theorem ty_tz85 : tzero Try.prog 85 = some (Value.nilFunc) := by kernel_rfl
theorem ty_zs85 : (Value.nilFunc).cells.size = 1 := by kernel_rfl
theorem ty_zv85 : zeroV Try.prog 85 = .d (D.raw .nilFunc) := by kernel_rfl
theorem ty_dz85 : dataZero Try.prog 85 = some (D.raw .nilFunc) := by kernel_rfl
theorem ty_k86 : tkind Try.prog 86 = some false := by kernel_rfl
theorem ty_z86 : tsz Try.prog 86 = some 1 := by kernel_rfl
theorem ty_b86 : tbytes Try.prog 86 = some 8 := by kernel_rfl
theorem ty_u86 : (Try.prog.underlying 86).isSome = true := by kernel_rfl
theorem ty_tz86 : tzero Try.prog 86 = some (Value.nilFunc) := by kernel_rfl
theorem ty_zs86 : (Value.nilFunc).cells.size = 1 := by kernel_rfl
theorem ty_zv86 : zeroV Try.prog 86 = .d (D.raw .nilFunc) := by kernel_rfl
theorem ty_dz86 : dataZero Try.prog 86 = some (D.raw .nilFunc) := by kernel_rfl
theorem ty_k87 : tkind Try.prog 87 = some false := by kernel_rfl
theorem ty_z87 : tsz Try.prog 87 = some 1 := by kernel_rfl
theorem ty_b87 : tbytes Try.prog 87 = some 8 := by kernel_rfl
theorem ty_u87 : (Try.prog.underlying 87).isSome = true := by kernel_rfl
theorem ty_tz87 : tzero Try.prog 87 = some (Value.nilFunc) := by kernel_rfl
theorem ty_zs87 : (Value.nilFunc).cells.size = 1 := by kernel_rfl
theorem ty_zv87 : zeroV Try.prog 87 = .d (D.raw .nilFunc) := by kernel_rfl
theorem ty_dz87 : dataZero Try.prog 87 = some (D.raw .nilFunc) := by kernel_rfl
theorem ty_k88 : tkind Try.prog 88 = some false := by kernel_rfl
theorem ty_z88 : tsz Try.prog 88 = some 1 := by kernel_rfl
theorem ty_b88 : tbytes Try.prog 88 = some 8 := by kernel_rfl
theorem ty_u88 : (Try.prog.underlying 88).isSome = true := by kernel_rfl
theorem ty_tz88 : tzero Try.prog 88 = some (Value.nilFunc) := by kernel_rfl
theorem ty_zs88 : (Value.nilFunc).cells.size = 1 := by kernel_rfl
theorem ty_zv88 : zeroV Try.prog 88 = .d (D.raw .nilFunc) := by kernel_rfl
theorem ty_dz88 : dataZero Try.prog 88 = some (D.raw .nilFunc) := by kernel_rfl
theorem ty_k89 : tkind Try.prog 89 = some true := by kernel_rfl
theorem ty_z89 : tsz Try.prog 89 = some 2 := by kernel_rfl
theorem ty_b89 : tbytes Try.prog 89 = some 16 := by kernel_rfl
theorem ty_u89 : (Try.prog.underlying 89).isSome = true := by kernel_rfl
theorem ty_c89 : tcmp Try.prog 89 = some [0, 0] := by kernel_rfl
theorem ty_f89_0 : tfld Try.prog 89 0 = some (0, 1, false) := by kernel_rfl
theorem ty_f89_1 : tfld Try.prog 89 1 = some (1, 1, false) := by kernel_rfl
theorem ty_p89 : tplaces Try.prog 89 = some [(0, 1), (1, 1)] := by kernel_rfl
theorem ty_za89 : tzeroA Try.prog 89 = some [.d (D.int .i64 0), .d (D.int .i64 0)] := by kernel_rfl
theorem ty_tz89 : tzero Try.prog 89 = some (Value.agg #[Value.int .i64 0, Value.int .i64 0]) := by kernel_rfl
theorem ty_zs89 : (Value.agg #[Value.int .i64 0, Value.int .i64 0]).cells.size = 2 := by kernel_rfl
theorem ty_zv89 : zeroV Try.prog 89 = .d (D.agg [D.int .i64 0, D.int .i64 0]) := by kernel_rfl
theorem ty_dz89 : dataZero Try.prog 89 = some (D.agg [D.int .i64 0, D.int .i64 0]) := by kernel_rfl
theorem ty_k90 : tkind Try.prog 90 = some true := by kernel_rfl
theorem ty_z90 : tsz Try.prog 90 = some 2 := by kernel_rfl
theorem ty_b90 : tbytes Try.prog 90 = some 16 := by kernel_rfl
theorem ty_u90 : (Try.prog.underlying 90).isSome = true := by kernel_rfl
theorem ty_c90 : tcmp Try.prog 90 = some [0, 0] := by kernel_rfl
theorem ty_f90_0 : tfld Try.prog 90 0 = some (0, 1, false) := by kernel_rfl
theorem ty_f90_1 : tfld Try.prog 90 1 = some (1, 1, false) := by kernel_rfl
theorem ty_p90 : tplaces Try.prog 90 = some [(0, 1), (1, 1)] := by kernel_rfl
theorem ty_za90 : tzeroA Try.prog 90 = some [.d (D.int .i64 0), .d (D.int .i64 0)] := by kernel_rfl
theorem ty_tz90 : tzero Try.prog 90 = some (Value.agg #[Value.int .i64 0, Value.int .i64 0]) := by kernel_rfl
theorem ty_zs90 : (Value.agg #[Value.int .i64 0, Value.int .i64 0]).cells.size = 2 := by kernel_rfl
theorem ty_zv90 : zeroV Try.prog 90 = .d (D.agg [D.int .i64 0, D.int .i64 0]) := by kernel_rfl
theorem ty_dz90 : dataZero Try.prog 90 = some (D.agg [D.int .i64 0, D.int .i64 0]) := by kernel_rfl
theorem ty_k91 : tkind Try.prog 91 = some true := by kernel_rfl
theorem ty_z91 : tsz Try.prog 91 = some 7 := by kernel_rfl
theorem ty_b91 : tbytes Try.prog 91 = some 56 := by kernel_rfl
theorem ty_u91 : (Try.prog.underlying 91).isSome = true := by kernel_rfl
theorem ty_c91 : tcmp Try.prog 91 = some [0, 0, 0, 0, 0, 0, 0] := by kernel_rfl
theorem ty_f91_0 : tfld Try.prog 91 0 = some (0, 1, false) := by kernel_rfl
theorem ty_f91_1 : tfld Try.prog 91 1 = some (1, 2, true) := by kernel_rfl
theorem ty_f91_2 : tfld Try.prog 91 2 = some (3, 2, true) := by kernel_rfl
theorem ty_f91_3 : tfld Try.prog 91 3 = some (5, 1, false) := by kernel_rfl
theorem ty_f91_4 : tfld Try.prog 91 4 = some (6, 1, false) := by kernel_rfl
theorem ty_p91 : tplaces Try.prog 91 = some [(0, 1), (1, 2), (3, 2), (5, 1), (6, 1)] := by kernel_rfl
theorem ty_za91 : tzeroA Try.prog 91 = some [.d (D.int .i64 0), .d (D.int .i64 0), .d (D.int .i64 0), .d (D.int .i64 0), .d (D.int .i64 0), .d (D.int .i64 0), .d (D.int .i64 0)] := by kernel_rfl
theorem ty_tz91 : tzero Try.prog 91 = some (Value.agg #[Value.int .i64 0, Value.int .i64 0, Value.int .i64 0, Value.int .i64 0, Value.int .i64 0, Value.int .i64 0, Value.int .i64 0]) := by kernel_rfl
theorem ty_zs91 : (Value.agg #[Value.int .i64 0, Value.int .i64 0, Value.int .i64 0, Value.int .i64 0, Value.int .i64 0, Value.int .i64 0, Value.int .i64 0]).cells.size = 7 := by kernel_rfl
theorem ty_zv91 : zeroV Try.prog 91 = .d (D.agg [D.int .i64 0, D.int .i64 0, D.int .i64 0, D.int .i64 0, D.int .i64 0, D.int .i64 0, D.int .i64 0]) := by kernel_rfl
theorem ty_dz91 : dataZero Try.prog 91 = some (D.agg [D.int .i64 0, D.int .i64 0, D.int .i64 0, D.int .i64 0, D.int .i64 0, D.int .i64 0, D.int .i64 0]) := by kernel_rfl
theorem ty_k92 : tkind Try.prog 92 = some true := by kernel_rfl
theorem ty_z92 : tsz Try.prog 92 = some 7 := by kernel_rfl
theorem ty_b92 : tbytes Try.prog 92 = some 56 := by kernel_rfl
theorem ty_u92 : (Try.prog.underlying 92).isSome = true := by kernel_rfl
theorem ty_c92 : tcmp Try.prog 92 = some [0, 0, 0, 0, 0, 0, 0] := by kernel_rfl
theorem ty_f92_0 : tfld Try.prog 92 0 = some (0, 1, false) := by kernel_rfl
theorem ty_f92_1 : tfld Try.prog 92 1 = some (1, 2, true) := by kernel_rfl
theorem ty_f92_2 : tfld Try.prog 92 2 = some (3, 2, true) := by kernel_rfl
theorem ty_f92_3 : tfld Try.prog 92 3 = some (5, 1, false) := by kernel_rfl
theorem ty_f92_4 : tfld Try.prog 92 4 = some (6, 1, false) := by kernel_rfl
theorem ty_p92 : tplaces Try.prog 92 = some [(0, 1), (1, 2), (3, 2), (5, 1), (6, 1)] := by kernel_rfl
theorem ty_za92 : tzeroA Try.prog 92 = some [.d (D.int .i64 0), .d (D.int .i64 0), .d (D.int .i64 0), .d (D.int .i64 0), .d (D.int .i64 0), .d (D.int .i64 0), .d (D.int .i64 0)] := by kernel_rfl
theorem ty_tz92 : tzero Try.prog 92 = some (Value.agg #[Value.int .i64 0, Value.int .i64 0, Value.int .i64 0, Value.int .i64 0, Value.int .i64 0, Value.int .i64 0, Value.int .i64 0]) := by kernel_rfl
theorem ty_zs92 : (Value.agg #[Value.int .i64 0, Value.int .i64 0, Value.int .i64 0, Value.int .i64 0, Value.int .i64 0, Value.int .i64 0, Value.int .i64 0]).cells.size = 7 := by kernel_rfl
theorem ty_zv92 : zeroV Try.prog 92 = .d (D.agg [D.int .i64 0, D.int .i64 0, D.int .i64 0, D.int .i64 0, D.int .i64 0, D.int .i64 0, D.int .i64 0]) := by kernel_rfl
theorem ty_dz92 : dataZero Try.prog 92 = some (D.agg [D.int .i64 0, D.int .i64 0, D.int .i64 0, D.int .i64 0, D.int .i64 0, D.int .i64 0, D.int .i64 0]) := by kernel_rfl
theorem ty_k93 : tkind Try.prog 93 = some false := by kernel_rfl
theorem ty_z93 : tsz Try.prog 93 = some 1 := by kernel_rfl
theorem ty_b93 : tbytes Try.prog 93 = some 8 := by kernel_rfl
theorem ty_u93 : (Try.prog.underlying 93).isSome = true := by kernel_rfl
theorem ty_tz93 : tzero Try.prog 93 = some (Value.nilFunc) := by kernel_rfl
theorem ty_zs93 : (Value.nilFunc).cells.size = 1 := by kernel_rfl
theorem ty_zv93 : zeroV Try.prog 93 = .d (D.raw .nilFunc) := by kernel_rfl
theorem ty_dz93 : dataZero Try.prog 93 = some (D.raw .nilFunc) := by kernel_rfl
theorem ty_k94 : tkind Try.prog 94 = some false := by kernel_rfl
theorem ty_z94 : tsz Try.prog 94 = some 1 := by kernel_rfl
theorem ty_b94 : tbytes Try.prog 94 = some 8 := by kernel_rfl
theorem ty_u94 : (Try.prog.underlying 94).isSome = true := by kernel_rfl
theorem ty_tz94 : tzero Try.prog 94 = some (Value.nilFunc) := by kernel_rfl
theorem ty_zs94 : (Value.nilFunc).cells.size = 1 := by kernel_rfl
theorem ty_zv94 : zeroV Try.prog 94 = .d (D.raw .nilFunc) := by kernel_rfl
theorem ty_dz94 : dataZero Try.prog 94 = some (D.raw .nilFunc) := by kernel_rfl
theorem ty_k95 : tkind Try.prog 95 = some false := by kernel_rfl
theorem ty_z95 : tsz Try.prog 95 = some 1 := by kernel_rfl
theorem ty_b95 : tbytes Try.prog 95 = some 8 := by kernel_rfl
theorem ty_u95 : (Try.prog.underlying 95).isSome = true := by kernel_rfl
theorem ty_tz95 : tzero Try.prog 95 = some (Value.nilFunc) := by kernel_rfl
theorem ty_zs95 : (Value.nilFunc).cells.size = 1 := by kernel_rfl
theorem ty_zv95 : zeroV Try.prog 95 = .d (D.raw .nilFunc) := by kernel_rfl
theorem ty_dz95 : dataZero Try.prog 95 = some (D.raw .nilFunc) := by kernel_rfl
theorem ty_k96 : tkind Try.prog 96 = some false := by kernel_rfl
theorem ty_z96 : tsz Try.prog 96 = some 1 := by kernel_rfl
theorem ty_b96 : tbytes Try.prog 96 = some 8 := by kernel_rfl
theorem ty_u96 : (Try.prog.underlying 96).isSome = true := by kernel_rfl
theorem ty_tz96 : tzero Try.prog 96 = some (Value.nilFunc) := by kernel_rfl
theorem ty_zs96 : (Value.nilFunc).cells.size = 1 := by kernel_rfl
theorem ty_zv96 : zeroV Try.prog 96 = .d (D.raw .nilFunc) := by kernel_rfl
theorem ty_dz96 : dataZero Try.prog 96 = some (D.raw .nilFunc) := by kernel_rfl
theorem ty_k97 : tkind Try.prog 97 = some false := by kernel_rfl
theorem ty_z97 : tsz Try.prog 97 = some 1 := by kernel_rfl
theorem ty_b97 : tbytes Try.prog 97 = some 8 := by kernel_rfl
theorem ty_u97 : (Try.prog.underlying 97).isSome = true := by kernel_rfl
theorem ty_tz97 : tzero Try.prog 97 = some (Value.nilFunc) := by kernel_rfl
theorem ty_zs97 : (Value.nilFunc).cells.size = 1 := by kernel_rfl
theorem ty_zv97 : zeroV Try.prog 97 = .d (D.raw .nilFunc) := by kernel_rfl
theorem ty_dz97 : dataZero Try.prog 97 = some (D.raw .nilFunc) := by kernel_rfl
theorem ty_k98 : tkind Try.prog 98 = some false := by kernel_rfl
theorem ty_z98 : tsz Try.prog 98 = some 1 := by kernel_rfl
theorem ty_b98 : tbytes Try.prog 98 = some 8 := by kernel_rfl
theorem ty_u98 : (Try.prog.underlying 98).isSome = true := by kernel_rfl
theorem ty_tz98 : tzero Try.prog 98 = some (Value.nilFunc) := by kernel_rfl
theorem ty_zs98 : (Value.nilFunc).cells.size = 1 := by kernel_rfl
theorem ty_zv98 : zeroV Try.prog 98 = .d (D.raw .nilFunc) := by kernel_rfl
theorem ty_dz98 : dataZero Try.prog 98 = some (D.raw .nilFunc) := by kernel_rfl
theorem ty_k99 : tkind Try.prog 99 = some false := by kernel_rfl
theorem ty_z99 : tsz Try.prog 99 = some 1 := by kernel_rfl
theorem ty_b99 : tbytes Try.prog 99 = some 8 := by kernel_rfl
theorem ty_u99 : (Try.prog.underlying 99).isSome = true := by kernel_rfl
theorem ty_tz99 : tzero Try.prog 99 = some (Value.nilFunc) := by kernel_rfl
theorem ty_zs99 : (Value.nilFunc).cells.size = 1 := by kernel_rfl
theorem ty_zv99 : zeroV Try.prog 99 = .d (D.raw .nilFunc) := by kernel_rfl
theorem ty_dz99 : dataZero Try.prog 99 = some (D.raw .nilFunc) := by kernel_rfl
theorem ty_k100 : tkind Try.prog 100 = some false := by kernel_rfl
theorem ty_z100 : tsz Try.prog 100 = some 1 := by kernel_rfl
theorem ty_b100 : tbytes Try.prog 100 = some 8 := by kernel_rfl
theorem ty_u100 : (Try.prog.underlying 100).isSome = true := by kernel_rfl
theorem ty_tz100 : tzero Try.prog 100 = some (Value.nilFunc) := by kernel_rfl
theorem ty_zs100 : (Value.nilFunc).cells.size = 1 := by kernel_rfl
theorem ty_zv100 : zeroV Try.prog 100 = .d (D.raw .nilFunc) := by kernel_rfl
theorem ty_dz100 : dataZero Try.prog 100 = some (D.raw .nilFunc) := by kernel_rfl
theorem ty_k101 : tkind Try.prog 101 = some false := by kernel_rfl
theorem ty_z101 : tsz Try.prog 101 = some 1 := by kernel_rfl
theorem ty_b101 : tbytes Try.prog 101 = some 8 := by kernel_rfl
theorem ty_u101 : (Try.prog.underlying 101).isSome = true := by kernel_rfl
theorem ty_tz101 : tzero Try.prog 101 = some (Value.nilFunc) := by kernel_rfl
theorem ty_zs101 : (Value.nilFunc).cells.size = 1 := by kernel_rfl
theorem ty_zv101 : zeroV Try.prog 101 = .d (D.raw .nilFunc) := by kernel_rfl
theorem ty_dz101 : dataZero Try.prog 101 = some (D.raw .nilFunc) := by kernel_rfl
theorem ty_k102 : tkind Try.prog 102 = some false := by kernel_rfl
theorem ty_z102 : tsz Try.prog 102 = some 1 := by kernel_rfl
theorem ty_b102 : tbytes Try.prog 102 = some 8 := by kernel_rfl
theorem ty_u102 : (Try.prog.underlying 102).isSome = true := by kernel_rfl
theorem ty_tz102 : tzero Try.prog 102 = some (Value.nilFunc) := by kernel_rfl
theorem ty_zs102 : (Value.nilFunc).cells.size = 1 := by kernel_rfl
theorem ty_zv102 : zeroV Try.prog 102 = .d (D.raw .nilFunc) := by kernel_rfl
theorem ty_dz102 : dataZero Try.prog 102 = some (D.raw .nilFunc) := by kernel_rfl
theorem ty_k103 : tkind Try.prog 103 = some false := by kernel_rfl
theorem ty_z103 : tsz Try.prog 103 = some 1 := by kernel_rfl
theorem ty_b103 : tbytes Try.prog 103 = some 8 := by kernel_rfl
theorem ty_u103 : (Try.prog.underlying 103).isSome = true := by kernel_rfl
theorem ty_tz103 : tzero Try.prog 103 = some (Value.nilFunc) := by kernel_rfl
theorem ty_zs103 : (Value.nilFunc).cells.size = 1 := by kernel_rfl
theorem ty_zv103 : zeroV Try.prog 103 = .d (D.raw .nilFunc) := by kernel_rfl
theorem ty_dz103 : dataZero Try.prog 103 = some (D.raw .nilFunc) := by kernel_rfl
theorem ty_k104 : tkind Try.prog 104 = some false := by kernel_rfl
theorem ty_z104 : tsz Try.prog 104 = some 1 := by kernel_rfl
theorem ty_b104 : tbytes Try.prog 104 = some 8 := by kernel_rfl
theorem ty_u104 : (Try.prog.underlying 104).isSome = true := by kernel_rfl
theorem ty_tz104 : tzero Try.prog 104 = some (Value.nilFunc) := by kernel_rfl
theorem ty_zs104 : (Value.nilFunc).cells.size = 1 := by kernel_rfl
theorem ty_zv104 : zeroV Try.prog 104 = .d (D.raw .nilFunc) := by kernel_rfl
theorem ty_dz104 : dataZero Try.prog 104 = some (D.raw .nilFunc) := by kernel_rfl
theorem ty_k105 : tkind Try.prog 105 = some false := by kernel_rfl
theorem ty_z105 : tsz Try.prog 105 = some 1 := by kernel_rfl
theorem ty_b105 : tbytes Try.prog 105 = some 8 := by kernel_rfl
theorem ty_u105 : (Try.prog.underlying 105).isSome = true := by kernel_rfl
theorem ty_tz105 : tzero Try.prog 105 = some (Value.nilFunc) := by kernel_rfl
theorem ty_zs105 : (Value.nilFunc).cells.size = 1 := by kernel_rfl
theorem ty_zv105 : zeroV Try.prog 105 = .d (D.raw .nilFunc) := by kernel_rfl
theorem ty_dz105 : dataZero Try.prog 105 = some (D.raw .nilFunc) := by kernel_rfl
theorem ty_k106 : tkind Try.prog 106 = some false := by kernel_rfl
theorem ty_z106 : tsz Try.prog 106 = some 1 := by kernel_rfl
theorem ty_b106 : tbytes Try.prog 106 = some 8 := by kernel_rfl
theorem ty_u106 : (Try.prog.underlying 106).isSome = true := by kernel_rfl
theorem ty_tz106 : tzero Try.prog 106 = some (Value.nilFunc) := by kernel_rfl
theorem ty_zs106 : (Value.nilFunc).cells.size = 1 := by kernel_rfl
theorem ty_zv106 : zeroV Try.prog 106 = .d (D.raw .nilFunc) := by kernel_rfl
theorem ty_dz106 : dataZero Try.prog 106 = some (D.raw .nilFunc) := by kernel_rfl
theorem ty_k107 : tkind Try.prog 107 = some false := by kernel_rfl
theorem ty_z107 : tsz Try.prog 107 = some 1 := by kernel_rfl
theorem ty_b107 : tbytes Try.prog 107 = some 8 := by kernel_rfl
theorem ty_u107 : (Try.prog.underlying 107).isSome = true := by kernel_rfl
theorem ty_tz107 : tzero Try.prog 107 = some (Value.nilFunc) := by kernel_rfl
theorem ty_zs107 : (Value.nilFunc).cells.size = 1 := by kernel_rfl
theorem ty_zv107 : zeroV Try.prog 107 = .d (D.raw .nilFunc) := by kernel_rfl
theorem ty_dz107 : dataZero Try.prog 107 = some (D.raw .nilFunc) := by kernel_rfl
theorem ty_k108 : tkind Try.prog 108 = some false := by kernel_rfl
theorem ty_z108 : tsz Try.prog 108 = some 1 := by kernel_rfl
theorem ty_b108 : tbytes Try.prog 108 = some 8 := by kernel_rfl
theorem ty_u108 : (Try.prog.underlying 108).isSome = true := by kernel_rfl
theorem ty_tz108 : tzero Try.prog 108 = some (Value.nilFunc) := by kernel_rfl
theorem ty_zs108 : (Value.nilFunc).cells.size = 1 := by kernel_rfl
theorem ty_zv108 : zeroV Try.prog 108 = .d (D.raw .nilFunc) := by kernel_rfl
theorem ty_dz108 : dataZero Try.prog 108 = some (D.raw .nilFunc) := by kernel_rfl
theorem ty_k109 : tkind Try.prog 109 = some false := by kernel_rfl
theorem ty_z109 : tsz Try.prog 109 = some 1 := by kernel_rfl
theorem ty_b109 : tbytes Try.prog 109 = some 8 := by kernel_rfl
theorem ty_u109 : (Try.prog.underlying 109).isSome = true := by kernel_rfl
theorem ty_tz109 : tzero Try.prog 109 = some (Value.nilFunc) := by kernel_rfl
theorem ty_zs109 : (Value.nilFunc).cells.size = 1 := by kernel_rfl
theorem ty_zv109 : zeroV Try.prog 109 = .d (D.raw .nilFunc) := by kernel_rfl
theorem ty_dz109 : dataZero Try.prog 109 = some (D.raw .nilFunc) := by kernel_rfl
theorem ty_k110 : tkind Try.prog 110 = some false := by kernel_rfl
theorem ty_z110 : tsz Try.prog 110 = some 1 := by kernel_rfl
theorem ty_b110 : tbytes Try.prog 110 = some 8 := by kernel_rfl
theorem ty_u110 : (Try.prog.underlying 110).isSome = true := by kernel_rfl
theorem ty_tz110 : tzero Try.prog 110 = some (Value.nilFunc) := by kernel_rfl
theorem ty_zs110 : (Value.nilFunc).cells.size = 1 := by kernel_rfl
theorem ty_zv110 : zeroV Try.prog 110 = .d (D.raw .nilFunc) := by kernel_rfl
theorem ty_dz110 : dataZero Try.prog 110 = some (D.raw .nilFunc) := by kernel_rfl
theorem ty_k111 : tkind Try.prog 111 = some false := by kernel_rfl
theorem ty_z111 : tsz Try.prog 111 = some 1 := by kernel_rfl
theorem ty_b111 : tbytes Try.prog 111 = some 8 := by kernel_rfl
theorem ty_u111 : (Try.prog.underlying 111).isSome = true := by kernel_rfl
theorem ty_tz111 : tzero Try.prog 111 = some (Value.nilFunc) := by kernel_rfl
theorem ty_zs111 : (Value.nilFunc).cells.size = 1 := by kernel_rfl
theorem ty_zv111 : zeroV Try.prog 111 = .d (D.raw .nilFunc) := by kernel_rfl
theorem ty_dz111 : dataZero Try.prog 111 = some (D.raw .nilFunc) := by kernel_rfl
theorem ty_k112 : tkind Try.prog 112 = some false := by kernel_rfl
theorem ty_z112 : tsz Try.prog 112 = some 1 := by kernel_rfl
theorem ty_b112 : tbytes Try.prog 112 = some 8 := by kernel_rfl
theorem ty_u112 : (Try.prog.underlying 112).isSome = true := by kernel_rfl
theorem ty_tz112 : tzero Try.prog 112 = some (Value.nilFunc) := by kernel_rfl
theorem ty_zs112 : (Value.nilFunc).cells.size = 1 := by kernel_rfl
theorem ty_zv112 : zeroV Try.prog 112 = .d (D.raw .nilFunc) := by kernel_rfl
theorem ty_dz112 : dataZero Try.prog 112 = some (D.raw .nilFunc) := by kernel_rfl
theorem ty_k113 : tkind Try.prog 113 = some false := by kernel_rfl
theorem ty_z113 : tsz Try.prog 113 = some 1 := by kernel_rfl
theorem ty_b113 : tbytes Try.prog 113 = some 8 := by kernel_rfl
theorem ty_u113 : (Try.prog.underlying 113).isSome = true := by kernel_rfl
theorem ty_tz113 : tzero Try.prog 113 = some (Value.nilFunc) := by kernel_rfl
theorem ty_zs113 : (Value.nilFunc).cells.size = 1 := by kernel_rfl
theorem ty_zv113 : zeroV Try.prog 113 = .d (D.raw .nilFunc) := by kernel_rfl
theorem ty_dz113 : dataZero Try.prog 113 = some (D.raw .nilFunc) := by kernel_rfl
theorem ty_k114 : tkind Try.prog 114 = some false := by kernel_rfl
theorem ty_z114 : tsz Try.prog 114 = some 1 := by kernel_rfl
theorem ty_b114 : tbytes Try.prog 114 = some 8 := by kernel_rfl
theorem ty_u114 : (Try.prog.underlying 114).isSome = true := by kernel_rfl
theorem ty_tz114 : tzero Try.prog 114 = some (Value.nilFunc) := by kernel_rfl
theorem ty_zs114 : (Value.nilFunc).cells.size = 1 := by kernel_rfl
theorem ty_zv114 : zeroV Try.prog 114 = .d (D.raw .nilFunc) := by kernel_rfl
theorem ty_dz114 : dataZero Try.prog 114 = some (D.raw .nilFunc) := by kernel_rfl
theorem ty_k115 : tkind Try.prog 115 = some false := by kernel_rfl
theorem ty_z115 : tsz Try.prog 115 = some 1 := by kernel_rfl
theorem ty_b115 : tbytes Try.prog 115 = some 8 := by kernel_rfl
theorem ty_u115 : (Try.prog.underlying 115).isSome = true := by kernel_rfl
theorem ty_tz115 : tzero Try.prog 115 = some (Value.nilFunc) := by kernel_rfl
theorem ty_zs115 : (Value.nilFunc).cells.size = 1 := by kernel_rfl
theorem ty_zv115 : zeroV Try.prog 115 = .d (D.raw .nilFunc) := by kernel_rfl
theorem ty_dz115 : dataZero Try.prog 115 = some (D.raw .nilFunc) := by kernel_rfl
theorem ty_k116 : tkind Try.prog 116 = some true := by kernel_rfl
theorem ty_z116 : tsz Try.prog 116 = some 3 := by kernel_rfl
theorem ty_b116 : tbytes Try.prog 116 = some 32 := by kernel_rfl
theorem ty_u116 : (Try.prog.underlying 116).isSome = true := by kernel_rfl
theorem ty_c116 : tcmp Try.prog 116 = some [2, 0, 0] := by kernel_rfl
theorem ty_f116_0 : tfld Try.prog 116 0 = some (0, 1, false) := by kernel_rfl
theorem ty_f116_1 : tfld Try.prog 116 1 = some (1, 1, false) := by kernel_rfl
theorem ty_f116_2 : tfld Try.prog 116 2 = some (2, 1, false) := by kernel_rfl
theorem ty_p116 : tplaces Try.prog 116 = some [(0, 1), (1, 1), (2, 1)] := by kernel_rfl
theorem ty_za116 : tzeroA Try.prog 116 = some [.d (D.str []), .d (D.int .i64 0), .d (D.int .i64 0)] := by kernel_rfl
theorem ty_tz116 : tzero Try.prog 116 = some (Value.agg #[Value.string ⟨#[]⟩, Value.int .i64 0, Value.int .i64 0]) := by kernel_rfl
theorem ty_zs116 : (Value.agg #[Value.string ⟨#[]⟩, Value.int .i64 0, Value.int .i64 0]).cells.size = 3 := by kernel_rfl
theorem ty_zv116 : zeroV Try.prog 116 = .d (D.agg [D.str [], D.int .i64 0, D.int .i64 0]) := by kernel_rfl
theorem ty_dz116 : dataZero Try.prog 116 = some (D.agg [D.str [], D.int .i64 0, D.int .i64 0]) := by kernel_rfl
theorem ty_k117 : tkind Try.prog 117 = some true := by kernel_rfl
theorem ty_z117 : tsz Try.prog 117 = some 3 := by kernel_rfl
theorem ty_b117 : tbytes Try.prog 117 = some 32 := by kernel_rfl
theorem ty_u117 : (Try.prog.underlying 117).isSome = true := by kernel_rfl
theorem ty_c117 : tcmp Try.prog 117 = some [2, 0, 0] := by kernel_rfl
theorem ty_f117_0 : tfld Try.prog 117 0 = some (0, 1, false) := by kernel_rfl
theorem ty_f117_1 : tfld Try.prog 117 1 = some (1, 1, false) := by kernel_rfl
theorem ty_f117_2 : tfld Try.prog 117 2 = some (2, 1, false) := by kernel_rfl
theorem ty_p117 : tplaces Try.prog 117 = some [(0, 1), (1, 1), (2, 1)] := by kernel_rfl
theorem ty_za117 : tzeroA Try.prog 117 = some [.d (D.str []), .d (D.int .i64 0), .d (D.int .i64 0)] := by kernel_rfl
theorem ty_tz117 : tzero Try.prog 117 = some (Value.agg #[Value.string ⟨#[]⟩, Value.int .i64 0, Value.int .i64 0]) := by kernel_rfl
theorem ty_zs117 : (Value.agg #[Value.string ⟨#[]⟩, Value.int .i64 0, Value.int .i64 0]).cells.size = 3 := by kernel_rfl
theorem ty_zv117 : zeroV Try.prog 117 = .d (D.agg [D.str [], D.int .i64 0, D.int .i64 0]) := by kernel_rfl
theorem ty_dz117 : dataZero Try.prog 117 = some (D.agg [D.str [], D.int .i64 0, D.int .i64 0]) := by kernel_rfl
theorem ty_k118 : tkind Try.prog 118 = some false := by kernel_rfl
theorem ty_z118 : tsz Try.prog 118 = some 1 := by kernel_rfl
theorem ty_b118 : tbytes Try.prog 118 = some 8 := by kernel_rfl
theorem ty_u118 : (Try.prog.underlying 118).isSome = true := by kernel_rfl
theorem ty_tz118 : tzero Try.prog 118 = some (Value.nilFunc) := by kernel_rfl
theorem ty_zs118 : (Value.nilFunc).cells.size = 1 := by kernel_rfl
theorem ty_zv118 : zeroV Try.prog 118 = .d (D.raw .nilFunc) := by kernel_rfl
theorem ty_dz118 : dataZero Try.prog 118 = some (D.raw .nilFunc) := by kernel_rfl
theorem ty_k119 : tkind Try.prog 119 = some false := by kernel_rfl
theorem ty_z119 : tsz Try.prog 119 = some 1 := by kernel_rfl
theorem ty_b119 : tbytes Try.prog 119 = some 8 := by kernel_rfl
theorem ty_u119 : (Try.prog.underlying 119).isSome = true := by kernel_rfl
theorem ty_tz119 : tzero Try.prog 119 = some (Value.nilFunc) := by kernel_rfl
theorem ty_zs119 : (Value.nilFunc).cells.size = 1 := by kernel_rfl
theorem ty_zv119 : zeroV Try.prog 119 = .d (D.raw .nilFunc) := by kernel_rfl
theorem ty_dz119 : dataZero Try.prog 119 = some (D.raw .nilFunc) := by kernel_rfl
theorem ty_k120 : tkind Try.prog 120 = some false := by kernel_rfl
theorem ty_z120 : tsz Try.prog 120 = some 1 := by kernel_rfl
theorem ty_b120 : tbytes Try.prog 120 = some 8 := by kernel_rfl
theorem ty_u120 : (Try.prog.underlying 120).isSome = true := by kernel_rfl
theorem ty_tz120 : tzero Try.prog 120 = some (Value.nilFunc) := by kernel_rfl
theorem ty_zs120 : (Value.nilFunc).cells.size = 1 := by kernel_rfl
theorem ty_zv120 : zeroV Try.prog 120 = .d (D.raw .nilFunc) := by kernel_rfl
theorem ty_dz120 : dataZero Try.prog 120 = some (D.raw .nilFunc) := by kernel_rfl
theorem ty_k121 : tkind Try.prog 121 = some false := by kernel_rfl
theorem ty_z121 : tsz Try.prog 121 = some 1 := by kernel_rfl
theorem ty_b121 : tbytes Try.prog 121 = some 8 := by kernel_rfl
theorem ty_u121 : (Try.prog.underlying 121).isSome = true := by kernel_rfl
theorem ty_tz121 : tzero Try.prog 121 = some (Value.nilFunc) := by kernel_rfl
theorem ty_zs121 : (Value.nilFunc).cells.size = 1 := by kernel_rfl
theorem ty_zv121 : zeroV Try.prog 121 = .d (D.raw .nilFunc) := by kernel_rfl
theorem ty_dz121 : dataZero Try.prog 121 = some (D.raw .nilFunc) := by kernel_rfl
theorem ty_k122 : tkind Try.prog 122 = some false := by kernel_rfl
theorem ty_z122 : tsz Try.prog 122 = some 1 := by kernel_rfl
theorem ty_b122 : tbytes Try.prog 122 = some 0 := by kernel_rfl
theorem ty_u122 : (Try.prog.underlying 122).isSome = true := by kernel_rfl
theorem ty_zv122 : zeroV Try.prog 122 = .undef := by kernel_rfl
theorem ty_k123 : tkind Try.prog 123 = some false := by kernel_rfl
theorem ty_z123 : tsz Try.prog 123 = some 1 := by kernel_rfl
theorem ty_b123 : tbytes Try.prog 123 = some 8 := by kernel_rfl
theorem ty_u123 : (Try.prog.underlying 123).isSome = true := by kernel_rfl
theorem ty_tz123 : tzero Try.prog 123 = some (Value.nilFunc) := by kernel_rfl
theorem ty_zs123 : (Value.nilFunc).cells.size = 1 := by kernel_rfl
theorem ty_zv123 : zeroV Try.prog 123 = .d (D.raw .nilFunc) := by kernel_rfl
theorem ty_dz123 : dataZero Try.prog 123 = some (D.raw .nilFunc) := by kernel_rfl
theorem ty_k124 : tkind Try.prog 124 = some false := by kernel_rfl
theorem ty_z124 : tsz Try.prog 124 = some 1 := by kernel_rfl
theorem ty_b124 : tbytes Try.prog 124 = some 8 := by kernel_rfl
theorem ty_u124 : (Try.prog.underlying 124).isSome = true := by kernel_rfl
theorem ty_tz124 : tzero Try.prog 124 = some (Value.nilFunc) := by kernel_rfl
theorem ty_zs124 : (Value.nilFunc).cells.size = 1 := by kernel_rfl
theorem ty_zv124 : zeroV Try.prog 124 = .d (D.raw .nilFunc) := by kernel_rfl
theorem ty_dz124 : dataZero Try.prog 124 = some (D.raw .nilFunc) := by kernel_rfl
theorem ty_k125 : tkind Try.prog 125 = some false := by kernel_rfl
theorem ty_z125 : tsz Try.prog 125 = some 1 := by kernel_rfl
theorem ty_b125 : tbytes Try.prog 125 = some 8 := by kernel_rfl
theorem ty_u125 : (Try.prog.underlying 125).isSome = true := by kernel_rfl
theorem ty_tz125 : tzero Try.prog 125 = some (Value.nilFunc) := by kernel_rfl
theorem ty_zs125 : (Value.nilFunc).cells.size = 1 := by kernel_rfl
theorem ty_zv125 : zeroV Try.prog 125 = .d (D.raw .nilFunc) := by kernel_rfl
theorem ty_dz125 : dataZero Try.prog 125 = some (D.raw .nilFunc) := by kernel_rfl
theorem ty_k126 : tkind Try.prog 126 = some false := by kernel_rfl
theorem ty_z126 : tsz Try.prog 126 = some 1 := by kernel_rfl
theorem ty_b126 : tbytes Try.prog 126 = some 8 := by kernel_rfl
theorem ty_u126 : (Try.prog.underlying 126).isSome = true := by kernel_rfl
theorem ty_tz126 : tzero Try.prog 126 = some (Value.nilFunc) := by kernel_rfl
theorem ty_zs126 : (Value.nilFunc).cells.size = 1 := by kernel_rfl
theorem ty_zv126 : zeroV Try.prog 126 = .d (D.raw .nilFunc) := by kernel_rfl
theorem ty_dz126 : dataZero Try.prog 126 = some (D.raw .nilFunc) := by kernel_rfl
theorem ty_k127 : tkind Try.prog 127 = some false := by kernel_rfl
theorem ty_z127 : tsz Try.prog 127 = some 1 := by kernel_rfl
theorem ty_b127 : tbytes Try.prog 127 = some 8 := by kernel_rfl
theorem ty_u127 : (Try.prog.underlying 127).isSome = true := by kernel_rfl
theorem ty_tz127 : tzero Try.prog 127 = some (Value.nilFunc) := by kernel_rfl
theorem ty_zs127 : (Value.nilFunc).cells.size = 1 := by kernel_rfl
theorem ty_zv127 : zeroV Try.prog 127 = .d (D.raw .nilFunc) := by kernel_rfl
theorem ty_dz127 : dataZero Try.prog 127 = some (D.raw .nilFunc) := by kernel_rfl
theorem ty_k128 : tkind Try.prog 128 = some false := by kernel_rfl
theorem ty_z128 : tsz Try.prog 128 = some 1 := by kernel_rfl
theorem ty_b128 : tbytes Try.prog 128 = some 8 := by kernel_rfl
theorem ty_u128 : (Try.prog.underlying 128).isSome = true := by kernel_rfl
theorem ty_tz128 : tzero Try.prog 128 = some (Value.nilFunc) := by kernel_rfl
theorem ty_zs128 : (Value.nilFunc).cells.size = 1 := by kernel_rfl
theorem ty_zv128 : zeroV Try.prog 128 = .d (D.raw .nilFunc) := by kernel_rfl
theorem ty_dz128 : dataZero Try.prog 128 = some (D.raw .nilFunc) := by kernel_rfl
theorem ty_k129 : tkind Try.prog 129 = some false := by kernel_rfl
theorem ty_z129 : tsz Try.prog 129 = some 1 := by kernel_rfl
theorem ty_b129 : tbytes Try.prog 129 = some 8 := by kernel_rfl
theorem ty_u129 : (Try.prog.underlying 129).isSome = true := by kernel_rfl
theorem ty_tz129 : tzero Try.prog 129 = some (Value.nilFunc) := by kernel_rfl
theorem ty_zs129 : (Value.nilFunc).cells.size = 1 := by kernel_rfl
theorem ty_zv129 : zeroV Try.prog 129 = .d (D.raw .nilFunc) := by kernel_rfl
theorem ty_dz129 : dataZero Try.prog 129 = some (D.raw .nilFunc) := by kernel_rfl
theorem ty_k130 : tkind Try.prog 130 = some false := by kernel_rfl
theorem ty_z130 : tsz Try.prog 130 = some 1 := by kernel_rfl
theorem ty_b130 : tbytes Try.prog 130 = some 8 := by kernel_rfl
theorem ty_u130 : (Try.prog.underlying 130).isSome = true := by kernel_rfl
theorem ty_tz130 : tzero Try.prog 130 = some (Value.nilFunc) := by kernel_rfl
theorem ty_zs130 : (Value.nilFunc).cells.size = 1 := by kernel_rfl
theorem ty_zv130 : zeroV Try.prog 130 = .d (D.raw .nilFunc) := by kernel_rfl
theorem ty_dz130 : dataZero Try.prog 130 = some (D.raw .nilFunc) := by kernel_rfl
theorem ty_k131 : tkind Try.prog 131 = some true := by kernel_rfl
theorem ty_z131 : tsz Try.prog 131 = some 4 := by kernel_rfl
theorem ty_b131 : tbytes Try.prog 131 = some 32 := by kernel_rfl
theorem ty_u131 : (Try.prog.underlying 131).isSome = true := by kernel_rfl
theorem ty_c131 : tcmp Try.prog 131 = some [0, 0, 0, 0] := by kernel_rfl
theorem ty_f131_0 : tfld Try.prog 131 0 = some (0, 1, false) := by kernel_rfl
theorem ty_f131_1 : tfld Try.prog 131 1 = some (1, 2, true) := by kernel_rfl
theorem ty_f131_2 : tfld Try.prog 131 2 = some (3, 1, false) := by kernel_rfl
theorem ty_p131 : tplaces Try.prog 131 = some [(0, 1), (1, 2), (3, 1)] := by kernel_rfl
theorem ty_za131 : tzeroA Try.prog 131 = some [.d (D.int .i64 0), .d (D.int .i64 0), .d (D.int .i64 0), .d (D.int .i64 0)] := by kernel_rfl
theorem ty_tz131 : tzero Try.prog 131 = some (Value.agg #[Value.int .i64 0, Value.int .i64 0, Value.int .i64 0, Value.int .i64 0]) := by kernel_rfl
theorem ty_zs131 : (Value.agg #[Value.int .i64 0, Value.int .i64 0, Value.int .i64 0, Value.int .i64 0]).cells.size = 4 := by kernel_rfl
theorem ty_zv131 : zeroV Try.prog 131 = .d (D.agg [D.int .i64 0, D.int .i64 0, D.int .i64 0, D.int .i64 0]) := by kernel_rfl
theorem ty_dz131 : dataZero Try.prog 131 = some (D.agg [D.int .i64 0, D.int .i64 0, D.int .i64 0, D.int .i64 0]) := by kernel_rfl
theorem ty_k132 : tkind Try.prog 132 = some true := by kernel_rfl
theorem ty_z132 : tsz Try.prog 132 = some 4 := by kernel_rfl
theorem ty_b132 : tbytes Try.prog 132 = some 32 := by kernel_rfl
theorem ty_u132 : (Try.prog.underlying 132).isSome = true := by kernel_rfl
theorem ty_c132 : tcmp Try.prog 132 = some [0, 0, 0, 0] := by kernel_rfl
theorem ty_f132_0 : tfld Try.prog 132 0 = some (0, 1, false) := by kernel_rfl
theorem ty_f132_1 : tfld Try.prog 132 1 = some (1, 2, true) := by kernel_rfl
theorem ty_f132_2 : tfld Try.prog 132 2 = some (3, 1, false) := by kernel_rfl
theorem ty_p132 : tplaces Try.prog 132 = some [(0, 1), (1, 2), (3, 1)] := by kernel_rfl
theorem ty_za132 : tzeroA Try.prog 132 = some [.d (D.int .i64 0), .d (D.int .i64 0), .d (D.int .i64 0), .d (D.int .i64 0)] := by kernel_rfl
theorem ty_tz132 : tzero Try.prog 132 = some (Value.agg #[Value.int .i64 0, Value.int .i64 0, Value.int .i64 0, Value.int .i64 0]) := by kernel_rfl
theorem ty_zs132 : (Value.agg #[Value.int .i64 0, Value.int .i64 0, Value.int .i64 0, Value.int .i64 0]).cells.size = 4 := by kernel_rfl
theorem ty_zv132 : zeroV Try.prog 132 = .d (D.agg [D.int .i64 0, D.int .i64 0, D.int .i64 0, D.int .i64 0]) := by kernel_rfl
theorem ty_dz132 : dataZero Try.prog 132 = some (D.agg [D.int .i64 0, D.int .i64 0, D.int .i64 0, D.int .i64 0]) := by kernel_rfl
theorem ty_k133 : tkind Try.prog 133 = some false := by kernel_rfl
theorem ty_z133 : tsz Try.prog 133 = some 1 := by kernel_rfl
theorem ty_b133 : tbytes Try.prog 133 = some 8 := by kernel_rfl
theorem ty_u133 : (Try.prog.underlying 133).isSome = true := by kernel_rfl
theorem ty_tz133 : tzero Try.prog 133 = some (Value.nilFunc) := by kernel_rfl
theorem ty_zs133 : (Value.nilFunc).cells.size = 1 := by kernel_rfl
theorem ty_zv133 : zeroV Try.prog 133 = .d (D.raw .nilFunc) := by kernel_rfl
theorem ty_dz133 : dataZero Try.prog 133 = some (D.raw .nilFunc) := by kernel_rfl
theorem ty_k134 : tkind Try.prog 134 = some false := by kernel_rfl
theorem ty_z134 : tsz Try.prog 134 = some 1 := by kernel_rfl
theorem ty_b134 : tbytes Try.prog 134 = some 8 := by kernel_rfl
theorem ty_u134 : (Try.prog.underlying 134).isSome = true := by kernel_rfl
theorem ty_tz134 : tzero Try.prog 134 = some (Value.nilFunc) := by kernel_rfl
theorem ty_zs134 : (Value.nilFunc).cells.size = 1 := by kernel_rfl
theorem ty_zv134 : zeroV Try.prog 134 = .d (D.raw .nilFunc) := by kernel_rfl
theorem ty_dz134 : dataZero Try.prog 134 = some (D.raw .nilFunc) := by kernel_rfl
theorem ty_k135 : tkind Try.prog 135 = some false := by kernel_rfl
theorem ty_z135 : tsz Try.prog 135 = some 1 := by kernel_rfl
theorem ty_b135 : tbytes Try.prog 135 = some 8 := by kernel_rfl
theorem ty_u135 : (Try.prog.underlying 135).isSome = true := by kernel_rfl
theorem ty_tz135 : tzero Try.prog 135 = some (Value.nilFunc) := by kernel_rfl
theorem ty_zs135 : (Value.nilFunc).cells.size = 1 := by kernel_rfl
theorem ty_zv135 : zeroV Try.prog 135 = .d (D.raw .nilFunc) := by kernel_rfl
theorem ty_dz135 : dataZero Try.prog 135 = some (D.raw .nilFunc) := by kernel_rfl
theorem ty_k136 : tkind Try.prog 136 = some false := by kernel_rfl
theorem ty_z136 : tsz Try.prog 136 = some 1 := by kernel_rfl
theorem ty_b136 : tbytes Try.prog 136 = some 8 := by kernel_rfl
theorem ty_u136 : (Try.prog.underlying 136).isSome = true := by kernel_rfl
theorem ty_tz136 : tzero Try.prog 136 = some (Value.nilFunc) := by kernel_rfl
theorem ty_zs136 : (Value.nilFunc).cells.size = 1 := by kernel_rfl
theorem ty_zv136 : zeroV Try.prog 136 = .d (D.raw .nilFunc) := by kernel_rfl
theorem ty_dz136 : dataZero Try.prog 136 = some (D.raw .nilFunc) := by kernel_rfl
theorem ty_k137 : tkind Try.prog 137 = some false := by kernel_rfl
theorem ty_z137 : tsz Try.prog 137 = some 1 := by kernel_rfl
theorem ty_b137 : tbytes Try.prog 137 = some 8 := by kernel_rfl
theorem ty_u137 : (Try.prog.underlying 137).isSome = true := by kernel_rfl
theorem ty_tz137 : tzero Try.prog 137 = some (Value.nilFunc) := by kernel_rfl
theorem ty_zs137 : (Value.nilFunc).cells.size = 1 := by kernel_rfl
theorem ty_zv137 : zeroV Try.prog 137 = .d (D.raw .nilFunc) := by kernel_rfl
theorem ty_dz137 : dataZero Try.prog 137 = some (D.raw .nilFunc) := by kernel_rfl
theorem ty_k138 : tkind Try.prog 138 = some false := by kernel_rfl
theorem ty_z138 : tsz Try.prog 138 = some 1 := by kernel_rfl
theorem ty_b138 : tbytes Try.prog 138 = some 8 := by kernel_rfl
theorem ty_u138 : (Try.prog.underlying 138).isSome = true := by kernel_rfl
theorem ty_tz138 : tzero Try.prog 138 = some (Value.nilFunc) := by kernel_rfl
theorem ty_zs138 : (Value.nilFunc).cells.size = 1 := by kernel_rfl
theorem ty_zv138 : zeroV Try.prog 138 = .d (D.raw .nilFunc) := by kernel_rfl
theorem ty_dz138 : dataZero Try.prog 138 = some (D.raw .nilFunc) := by kernel_rfl
theorem ty_k139 : tkind Try.prog 139 = some false := by kernel_rfl
theorem ty_z139 : tsz Try.prog 139 = some 1 := by kernel_rfl
theorem ty_b139 : tbytes Try.prog 139 = some 8 := by kernel_rfl
theorem ty_u139 : (Try.prog.underlying 139).isSome = true := by kernel_rfl
theorem ty_tz139 : tzero Try.prog 139 = some (Value.nilFunc) := by kernel_rfl
theorem ty_zs139 : (Value.nilFunc).cells.size = 1 := by kernel_rfl
theorem ty_zv139 : zeroV Try.prog 139 = .d (D.raw .nilFunc) := by kernel_rfl
theorem ty_dz139 : dataZero Try.prog 139 = some (D.raw .nilFunc) := by kernel_rfl
theorem ty_k140 : tkind Try.prog 140 = some false := by kernel_rfl
theorem ty_z140 : tsz Try.prog 140 = some 1 := by kernel_rfl
theorem ty_b140 : tbytes Try.prog 140 = some 8 := by kernel_rfl
theorem ty_u140 : (Try.prog.underlying 140).isSome = true := by kernel_rfl
theorem ty_tz140 : tzero Try.prog 140 = some (Value.nilFunc) := by kernel_rfl
theorem ty_zs140 : (Value.nilFunc).cells.size = 1 := by kernel_rfl
theorem ty_zv140 : zeroV Try.prog 140 = .d (D.raw .nilFunc) := by kernel_rfl
theorem ty_dz140 : dataZero Try.prog 140 = some (D.raw .nilFunc) := by kernel_rfl
theorem ty_k141 : tkind Try.prog 141 = some false := by kernel_rfl
theorem ty_z141 : tsz Try.prog 141 = some 1 := by kernel_rfl
theorem ty_b141 : tbytes Try.prog 141 = some 8 := by kernel_rfl
theorem ty_u141 : (Try.prog.underlying 141).isSome = true := by kernel_rfl
theorem ty_tz141 : tzero Try.prog 141 = some (Value.nilFunc) := by kernel_rfl
theorem ty_zs141 : (Value.nilFunc).cells.size = 1 := by kernel_rfl
theorem ty_zv141 : zeroV Try.prog 141 = .d (D.raw .nilFunc) := by kernel_rfl
theorem ty_dz141 : dataZero Try.prog 141 = some (D.raw .nilFunc) := by kernel_rfl
theorem ty_k142 : tkind Try.prog 142 = some false := by kernel_rfl
theorem ty_z142 : tsz Try.prog 142 = some 1 := by kernel_rfl
theorem ty_b142 : tbytes Try.prog 142 = some 8 := by kernel_rfl
theorem ty_u142 : (Try.prog.underlying 142).isSome = true := by kernel_rfl
theorem ty_tz142 : tzero Try.prog 142 = some (Value.nilFunc) := by kernel_rfl
theorem ty_zs142 : (Value.nilFunc).cells.size = 1 := by kernel_rfl
theorem ty_zv142 : zeroV Try.prog 142 = .d (D.raw .nilFunc) := by kernel_rfl
theorem ty_dz142 : dataZero Try.prog 142 = some (D.raw .nilFunc) := by kernel_rfl
theorem ty_k143 : tkind Try.prog 143 = some false := by kernel_rfl
theorem ty_z143 : tsz Try.prog 143 = some 1 := by kernel_rfl
theorem ty_b143 : tbytes Try.prog 143 = some 8 := by kernel_rfl
theorem ty_u143 : (Try.prog.underlying 143).isSome = true := by kernel_rfl
theorem ty_tz143 : tzero Try.prog 143 = some (Value.nilFunc) := by kernel_rfl
theorem ty_zs143 : (Value.nilFunc).cells.size = 1 := by kernel_rfl
theorem ty_zv143 : zeroV Try.prog 143 = .d (D.raw .nilFunc) := by kernel_rfl
theorem ty_dz143 : dataZero Try.prog 143 = some (D.raw .nilFunc) := by kernel_rfl
theorem ty_k144 : tkind Try.prog 144 = some false := by kernel_rfl
theorem ty_z144 : tsz Try.prog 144 = some 1 := by kernel_rfl
theorem ty_b144 : tbytes Try.prog 144 = some 8 := by kernel_rfl
theorem ty_u144 : (Try.prog.underlying 144).isSome = true := by kernel_rfl
theorem ty_tz144 : tzero Try.prog 144 = some (Value.nilFunc) := by kernel_rfl
theorem ty_zs144 : (Value.nilFunc).cells.size = 1 := by kernel_rfl
theorem ty_zv144 : zeroV Try.prog 144 = .d (D.raw .nilFunc) := by kernel_rfl
theorem ty_dz144 : dataZero Try.prog 144 = some (D.raw .nilFunc) := by kernel_rfl
theorem ty_k145 : tkind Try.prog 145 = some false := by kernel_rfl
theorem ty_z145 : tsz Try.prog 145 = some 1 := by kernel_rfl
theorem ty_b145 : tbytes Try.prog 145 = some 8 := by kernel_rfl
theorem ty_u145 : (Try.prog.underlying 145).isSome = true := by kernel_rfl
theorem ty_tz145 : tzero Try.prog 145 = some (Value.nilFunc) := by kernel_rfl
theorem ty_zs145 : (Value.nilFunc).cells.size = 1 := by kernel_rfl
theorem ty_zv145 : zeroV Try.prog 145 = .d (D.raw .nilFunc) := by kernel_rfl
theorem ty_dz145 : dataZero Try.prog 145 = some (D.raw .nilFunc) := by kernel_rfl
theorem ty_k146 : tkind Try.prog 146 = some false := by kernel_rfl
theorem ty_z146 : tsz Try.prog 146 = some 1 := by kernel_rfl
theorem ty_b146 : tbytes Try.prog 146 = some 8 := by kernel_rfl
theorem ty_u146 : (Try.prog.underlying 146).isSome = true := by kernel_rfl
theorem ty_tz146 : tzero Try.prog 146 = some (Value.nilFunc) := by kernel_rfl
theorem ty_zs146 : (Value.nilFunc).cells.size = 1 := by kernel_rfl
theorem ty_zv146 : zeroV Try.prog 146 = .d (D.raw .nilFunc) := by kernel_rfl
theorem ty_dz146 : dataZero Try.prog 146 = some (D.raw .nilFunc) := by kernel_rfl
theorem ty_k147 : tkind Try.prog 147 = some true := by kernel_rfl
theorem ty_z147 : tsz Try.prog 147 = some 4 := by kernel_rfl
theorem ty_b147 : tbytes Try.prog 147 = some 40 := by kernel_rfl
theorem ty_u147 : (Try.prog.underlying 147).isSome = true := by kernel_rfl
theorem ty_f147_0 : tfld Try.prog 147 0 = some (0, 1, false) := by kernel_rfl
theorem ty_f147_1 : tfld Try.prog 147 1 = some (1, 1, false) := by kernel_rfl
theorem ty_f147_2 : tfld Try.prog 147 2 = some (2, 1, false) := by kernel_rfl
theorem ty_f147_3 : tfld Try.prog 147 3 = some (3, 1, false) := by kernel_rfl
theorem ty_p147 : tplaces Try.prog 147 = some [(0, 1), (1, 1), (2, 1), (3, 1)] := by kernel_rfl
theorem ty_za147 : tzeroA Try.prog 147 = some [.d (D.raw (.pointer none)), .d (D.raw (.pointer none)), .d (D.raw (.pointer none)), .d (D.str [])] := by kernel_rfl
theorem ty_tz147 : tzero Try.prog 147 = some (Value.agg #[Value.pointer none, Value.pointer none, Value.pointer none, Value.string ⟨#[]⟩]) := by kernel_rfl
theorem ty_zs147 : (Value.agg #[Value.pointer none, Value.pointer none, Value.pointer none, Value.string ⟨#[]⟩]).cells.size = 4 := by kernel_rfl
theorem ty_zv147 : zeroV Try.prog 147 = .d (D.agg [D.raw (.pointer none), D.raw (.pointer none), D.raw (.pointer none), D.str []]) := by kernel_rfl
theorem ty_dz147 : dataZero Try.prog 147 = some (D.agg [D.raw (.pointer none), D.raw (.pointer none), D.raw (.pointer none), D.str []]) := by kernel_rfl
theorem ty_k148 : tkind Try.prog 148 = some true := by kernel_rfl
theorem ty_z148 : tsz Try.prog 148 = some 4 := by kernel_rfl
theorem ty_b148 : tbytes Try.prog 148 = some 40 := by kernel_rfl
theorem ty_u148 : (Try.prog.underlying 148).isSome = true := by kernel_rfl
theorem ty_f148_0 : tfld Try.prog 148 0 = some (0, 1, false) := by kernel_rfl
theorem ty_f148_1 : tfld Try.prog 148 1 = some (1, 1, false) := by kernel_rfl
theorem ty_f148_2 : tfld Try.prog 148 2 = some (2, 1, false) := by kernel_rfl
theorem ty_f148_3 : tfld Try.prog 148 3 = some (3, 1, false) := by kernel_rfl
theorem ty_p148 : tplaces Try.prog 148 = some [(0, 1), (1, 1), (2, 1), (3, 1)] := by kernel_rfl
theorem ty_za148 : tzeroA Try.prog 148 = some [.d (D.raw (.pointer none)), .d (D.raw (.pointer none)), .d (D.raw (.pointer none)), .d (D.str [])] := by kernel_rfl
theorem ty_tz148 : tzero Try.prog 148 = some (Value.agg #[Value.pointer none, Value.pointer none, Value.pointer none, Value.string ⟨#[]⟩]) := by kernel_rfl
theorem ty_zs148 : (Value.agg #[Value.pointer none, Value.pointer none, Value.pointer none, Value.string ⟨#[]⟩]).cells.size = 4 := by kernel_rfl
theorem ty_zv148 : zeroV Try.prog 148 = .d (D.agg [D.raw (.pointer none), D.raw (.pointer none), D.raw (.pointer none), D.str []]) := by kernel_rfl
theorem ty_dz148 : dataZero Try.prog 148 = some (D.agg [D.raw (.pointer none), D.raw (.pointer none), D.raw (.pointer none), D.str []]) := by kernel_rfl
theorem ty_k149 : tkind Try.prog 149 = some true := by kernel_rfl
theorem ty_z149 : tsz Try.prog 149 = some 0 := by kernel_rfl
theorem ty_b149 : tbytes Try.prog 149 = some 0 := by kernel_rfl
theorem ty_x149 : tidx Try.prog 149 = some (some 0, 1) := by kernel_rfl
theorem ty_u149 : (Try.prog.underlying 149).isSome = true := by kernel_rfl
theorem ty_p149 : tplaces Try.prog 149 = some [] := by kernel_rfl
theorem ty_za149 : tzeroA Try.prog 149 = some [] := by kernel_rfl
theorem ty_tz149 : tzero Try.prog 149 = some (Value.agg #[]) := by kernel_rfl
theorem ty_zs149 : (Value.agg #[]).cells.size = 0 := by kernel_rfl
theorem ty_zv149 : zeroV Try.prog 149 = .d (D.agg []) := by kernel_rfl
theorem ty_dz149 : dataZero Try.prog 149 = some (D.agg []) := by kernel_rfl
theorem ty_k150 : tkind Try.prog 150 = some true := by kernel_rfl
theorem ty_z150 : tsz Try.prog 150 = some 0 := by kernel_rfl
theorem ty_b150 : tbytes Try.prog 150 = some 0 := by kernel_rfl
theorem ty_u150 : (Try.prog.underlying 150).isSome = true := by kernel_rfl
theorem ty_f150_0 : tfld Try.prog 150 0 = some (0, 0, true) := by kernel_rfl
theorem ty_p150 : tplaces Try.prog 150 = some [(0, 0)] := by kernel_rfl
theorem ty_za150 : tzeroA Try.prog 150 = some [] := by kernel_rfl
theorem ty_tz150 : tzero Try.prog 150 = some (Value.agg #[]) := by kernel_rfl
theorem ty_zs150 : (Value.agg #[]).cells.size = 0 := by kernel_rfl
theorem ty_zv150 : zeroV Try.prog 150 = .d (D.agg []) := by kernel_rfl
theorem ty_dz150 : dataZero Try.prog 150 = some (D.agg []) := by kernel_rfl
theorem ty_k151 : tkind Try.prog 151 = some true := by kernel_rfl
theorem ty_z151 : tsz Try.prog 151 = some 0 := by kernel_rfl
theorem ty_b151 : tbytes Try.prog 151 = some 0 := by kernel_rfl
theorem ty_u151 : (Try.prog.underlying 151).isSome = true := by kernel_rfl
theorem ty_f151_0 : tfld Try.prog 151 0 = some (0, 0, true) := by kernel_rfl
theorem ty_p151 : tplaces Try.prog 151 = some [(0, 0)] := by kernel_rfl
theorem ty_za151 : tzeroA Try.prog 151 = some [] := by kernel_rfl
theorem ty_tz151 : tzero Try.prog 151 = some (Value.agg #[]) := by kernel_rfl
theorem ty_zs151 : (Value.agg #[]).cells.size = 0 := by kernel_rfl
theorem ty_zv151 : zeroV Try.prog 151 = .d (D.agg []) := by kernel_rfl
theorem ty_dz151 : dataZero Try.prog 151 = some (D.agg []) := by kernel_rfl
theorem ty_k152 : tkind Try.prog 152 = some false := by kernel_rfl
theorem ty_z152 : tsz Try.prog 152 = some 1 := by kernel_rfl
theorem ty_b152 : tbytes Try.prog 152 = some 8 := by kernel_rfl
theorem ty_u152 : (Try.prog.underlying 152).isSome = true := by kernel_rfl
theorem ty_tz152 : tzero Try.prog 152 = some (Value.nilFunc) := by kernel_rfl
theorem ty_zs152 : (Value.nilFunc).cells.size = 1 := by kernel_rfl
theorem ty_zv152 : zeroV Try.prog 152 = .d (D.raw .nilFunc) := by kernel_rfl
theorem ty_dz152 : dataZero Try.prog 152 = some (D.raw .nilFunc) := by kernel_rfl
theorem ty_k153 : tkind Try.prog 153 = some false := by kernel_rfl
theorem ty_z153 : tsz Try.prog 153 = some 1 := by kernel_rfl
theorem ty_b153 : tbytes Try.prog 153 = some 4 := by kernel_rfl
theorem ty_i153 : tintk Try.prog 153 = some .u32 := by kernel_rfl
theorem ty_u153 : (Try.prog.underlying 153).isSome = true := by kernel_rfl
theorem ty_tz153 : tzero Try.prog 153 = some (Value.int .u32 0) := by kernel_rfl
theorem ty_zs153 : (Value.int .u32 0).cells.size = 1 := by kernel_rfl
theorem ty_zv153 : zeroV Try.prog 153 = .d (D.int .u32 0) := by kernel_rfl
theorem ty_dz153 : dataZero Try.prog 153 = some (D.int .u32 0) := by kernel_rfl
theorem ty_k154 : tkind Try.prog 154 = some false := by kernel_rfl
theorem ty_z154 : tsz Try.prog 154 = some 1 := by kernel_rfl
theorem ty_b154 : tbytes Try.prog 154 = some 1 := by kernel_rfl
theorem ty_i154 : tintk Try.prog 154 = some .u8 := by kernel_rfl
theorem ty_u154 : (Try.prog.underlying 154).isSome = true := by kernel_rfl
theorem ty_tz154 : tzero Try.prog 154 = some (Value.int .u8 0) := by kernel_rfl
theorem ty_zs154 : (Value.int .u8 0).cells.size = 1 := by kernel_rfl
theorem ty_zv154 : zeroV Try.prog 154 = .d (D.int .u8 0) := by kernel_rfl
theorem ty_dz154 : dataZero Try.prog 154 = some (D.int .u8 0) := by kernel_rfl
theorem ty_k155 : tkind Try.prog 155 = some false := by kernel_rfl
theorem ty_z155 : tsz Try.prog 155 = some 1 := by kernel_rfl
theorem ty_b155 : tbytes Try.prog 155 = some 1 := by kernel_rfl
theorem ty_i155 : tintk Try.prog 155 = some .u8 := by kernel_rfl
theorem ty_u155 : (Try.prog.underlying 155).isSome = true := by kernel_rfl
theorem ty_tz155 : tzero Try.prog 155 = some (Value.int .u8 0) := by kernel_rfl
theorem ty_zs155 : (Value.int .u8 0).cells.size = 1 := by kernel_rfl
theorem ty_zv155 : zeroV Try.prog 155 = .d (D.int .u8 0) := by kernel_rfl
theorem ty_dz155 : dataZero Try.prog 155 = some (D.int .u8 0) := by kernel_rfl
theorem ty_k156 : tkind Try.prog 156 = some false := by kernel_rfl
theorem ty_z156 : tsz Try.prog 156 = some 1 := by kernel_rfl
theorem ty_b156 : tbytes Try.prog 156 = some 8 := by kernel_rfl
theorem ty_u156 : (Try.prog.underlying 156).isSome = true := by kernel_rfl
theorem ty_tz156 : tzero Try.prog 156 = some (Value.nilFunc) := by kernel_rfl
theorem ty_zs156 : (Value.nilFunc).cells.size = 1 := by kernel_rfl
theorem ty_zv156 : zeroV Try.prog 156 = .d (D.raw .nilFunc) := by kernel_rfl
theorem ty_dz156 : dataZero Try.prog 156 = some (D.raw .nilFunc) := by kernel_rfl
theorem ty_k157 : tkind Try.prog 157 = some false := by kernel_rfl
theorem ty_z157 : tsz Try.prog 157 = some 1 := by kernel_rfl
theorem ty_pt157 : tptr Try.prog 157 = true := by kernel_rfl
theorem ty_b157 : tbytes Try.prog 157 = some 8 := by kernel_rfl
theorem ty_u157 : (Try.prog.underlying 157).isSome = true := by kernel_rfl
theorem ty_tz157 : tzero Try.prog 157 = some (Value.pointer none) := by kernel_rfl
theorem ty_zs157 : (Value.pointer none).cells.size = 1 := by kernel_rfl
theorem ty_zv157 : zeroV Try.prog 157 = .d (D.raw (.pointer none)) := by kernel_rfl
theorem ty_dz157 : dataZero Try.prog 157 = some (D.raw (.pointer none)) := by kernel_rfl
theorem ty_k158 : tkind Try.prog 158 = some false := by kernel_rfl
theorem ty_z158 : tsz Try.prog 158 = some 1 := by kernel_rfl
theorem ty_b158 : tbytes Try.prog 158 = some 4 := by kernel_rfl
theorem ty_i158 : tintk Try.prog 158 = some .i32 := by kernel_rfl
theorem ty_u158 : (Try.prog.underlying 158).isSome = true := by kernel_rfl
theorem ty_tz158 : tzero Try.prog 158 = some (Value.int .i32 0) := by kernel_rfl
theorem ty_zs158 : (Value.int .i32 0).cells.size = 1 := by kernel_rfl
theorem ty_zv158 : zeroV Try.prog 158 = .d (D.int .i32 0) := by kernel_rfl
theorem ty_dz158 : dataZero Try.prog 158 = some (D.int .i32 0) := by kernel_rfl
theorem ty_k159 : tkind Try.prog 159 = some false := by kernel_rfl
theorem ty_z159 : tsz Try.prog 159 = some 1 := by kernel_rfl
theorem ty_b159 : tbytes Try.prog 159 = some 4 := by kernel_rfl
theorem ty_i159 : tintk Try.prog 159 = some .i32 := by kernel_rfl
theorem ty_u159 : (Try.prog.underlying 159).isSome = true := by kernel_rfl
theorem ty_tz159 : tzero Try.prog 159 = some (Value.int .i32 0) := by kernel_rfl
theorem ty_zs159 : (Value.int .i32 0).cells.size = 1 := by kernel_rfl
theorem ty_zv159 : zeroV Try.prog 159 = .d (D.int .i32 0) := by kernel_rfl
theorem ty_dz159 : dataZero Try.prog 159 = some (D.int .i32 0) := by kernel_rfl
theorem ty_k160 : tkind Try.prog 160 = some true := by kernel_rfl
theorem ty_z160 : tsz Try.prog 160 = some 11 := by kernel_rfl
theorem ty_b160 : tbytes Try.prog 160 = some 48 := by kernel_rfl
theorem ty_u160 : (Try.prog.underlying 160).isSome = true := by kernel_rfl
theorem ty_f160_0 : tfld Try.prog 160 0 = some (0, 1, false) := by kernel_rfl
theorem ty_f160_1 : tfld Try.prog 160 1 = some (1, 1, false) := by kernel_rfl
theorem ty_f160_2 : tfld Try.prog 160 2 = some (2, 1, false) := by kernel_rfl
theorem ty_f160_3 : tfld Try.prog 160 3 = some (3, 1, false) := by kernel_rfl
theorem ty_f160_4 : tfld Try.prog 160 4 = some (4, 1, false) := by kernel_rfl
theorem ty_f160_5 : tfld Try.prog 160 5 = some (5, 1, false) := by kernel_rfl
theorem ty_f160_6 : tfld Try.prog 160 6 = some (6, 1, false) := by kernel_rfl
theorem ty_f160_7 : tfld Try.prog 160 7 = some (7, 1, false) := by kernel_rfl
theorem ty_f160_8 : tfld Try.prog 160 8 = some (8, 1, false) := by kernel_rfl
theorem ty_f160_9 : tfld Try.prog 160 9 = some (9, 1, false) := by kernel_rfl
theorem ty_f160_10 : tfld Try.prog 160 10 = some (10, 1, false) := by kernel_rfl
theorem ty_p160 : tplaces Try.prog 160 = some [(0, 1), (1, 1), (2, 1), (3, 1), (4, 1), (5, 1), (6, 1), (7, 1), (8, 1), (9, 1), (10, 1)] := by kernel_rfl
theorem ty_za160 : tzeroA Try.prog 160 = some [.d (D.int .u64 0), .d (D.int .u64 0), .d (D.int .u32 0), .d (D.int .u8 0), .d (D.int .u8 0), .d (D.int .u8 0), .d (D.int .u8 0), .d (D.raw .nilFunc), .d (D.raw (.pointer none)), .d (D.int .i32 0), .d (D.int .i32 0)] := by kernel_rfl
theorem ty_tz160 : tzero Try.prog 160 = some (Value.agg #[Value.int .u64 0, Value.int .u64 0, Value.int .u32 0, Value.int .u8 0, Value.int .u8 0, Value.int .u8 0, Value.int .u8 0, Value.nilFunc, Value.pointer none, Value.int .i32 0, Value.int .i32 0]) := by kernel_rfl
theorem ty_zs160 : (Value.agg #[Value.int .u64 0, Value.int .u64 0, Value.int .u32 0, Value.int .u8 0, Value.int .u8 0, Value.int .u8 0, Value.int .u8 0, Value.nilFunc, Value.pointer none, Value.int .i32 0, Value.int .i32 0]).cells.size = 11 := by kernel_rfl
theorem ty_zv160 : zeroV Try.prog 160 = .d (D.agg [D.int .u64 0, D.int .u64 0, D.int .u32 0, D.int .u8 0, D.int .u8 0, D.int .u8 0, D.int .u8 0, D.raw .nilFunc, D.raw (.pointer none), D.int .i32 0, D.int .i32 0]) := by kernel_rfl
theorem ty_dz160 : dataZero Try.prog 160 = some (D.agg [D.int .u64 0, D.int .u64 0, D.int .u32 0, D.int .u8 0, D.int .u8 0, D.int .u8 0, D.int .u8 0, D.raw .nilFunc, D.raw (.pointer none), D.int .i32 0, D.int .i32 0]) := by kernel_rfl
theorem ty_k161 : tkind Try.prog 161 = some true := by kernel_rfl
theorem ty_z161 : tsz Try.prog 161 = some 11 := by kernel_rfl
theorem ty_b161 : tbytes Try.prog 161 = some 48 := by kernel_rfl
theorem ty_u161 : (Try.prog.underlying 161).isSome = true := by kernel_rfl
theorem ty_f161_0 : tfld Try.prog 161 0 = some (0, 1, false) := by kernel_rfl
theorem ty_f161_1 : tfld Try.prog 161 1 = some (1, 1, false) := by kernel_rfl
theorem ty_f161_2 : tfld Try.prog 161 2 = some (2, 1, false) := by kernel_rfl
theorem ty_f161_3 : tfld Try.prog 161 3 = some (3, 1, false) := by kernel_rfl
theorem ty_f161_4 : tfld Try.prog 161 4 = some (4, 1, false) := by kernel_rfl
theorem ty_f161_5 : tfld Try.prog 161 5 = some (5, 1, false) := by kernel_rfl
theorem ty_f161_6 : tfld Try.prog 161 6 = some (6, 1, false) := by kernel_rfl
theorem ty_f161_7 : tfld Try.prog 161 7 = some (7, 1, false) := by kernel_rfl
theorem ty_f161_8 : tfld Try.prog 161 8 = some (8, 1, false) := by kernel_rfl
theorem ty_f161_9 : tfld Try.prog 161 9 = some (9, 1, false) := by kernel_rfl
theorem ty_f161_10 : tfld Try.prog 161 10 = some (10, 1, false) := by kernel_rfl
theorem ty_p161 : tplaces Try.prog 161 = some [(0, 1), (1, 1), (2, 1), (3, 1), (4, 1), (5, 1), (6, 1), (7, 1), (8, 1), (9, 1), (10, 1)] := by kernel_rfl
theorem ty_za161 : tzeroA Try.prog 161 = some [.d (D.int .u64 0), .d (D.int .u64 0), .d (D.int .u32 0), .d (D.int .u8 0), .d (D.int .u8 0), .d (D.int .u8 0), .d (D.int .u8 0), .d (D.raw .nilFunc), .d (D.raw (.pointer none)), .d (D.int .i32 0), .d (D.int .i32 0)] := by kernel_rfl
theorem ty_tz161 : tzero Try.prog 161 = some (Value.agg #[Value.int .u64 0, Value.int .u64 0, Value.int .u32 0, Value.int .u8 0, Value.int .u8 0, Value.int .u8 0, Value.int .u8 0, Value.nilFunc, Value.pointer none, Value.int .i32 0, Value.int .i32 0]) := by kernel_rfl
theorem ty_zs161 : (Value.agg #[Value.int .u64 0, Value.int .u64 0, Value.int .u32 0, Value.int .u8 0, Value.int .u8 0, Value.int .u8 0, Value.int .u8 0, Value.nilFunc, Value.pointer none, Value.int .i32 0, Value.int .i32 0]).cells.size = 11 := by kernel_rfl
theorem ty_zv161 : zeroV Try.prog 161 = .d (D.agg [D.int .u64 0, D.int .u64 0, D.int .u32 0, D.int .u8 0, D.int .u8 0, D.int .u8 0, D.int .u8 0, D.raw .nilFunc, D.raw (.pointer none), D.int .i32 0, D.int .i32 0]) := by kernel_rfl
theorem ty_dz161 : dataZero Try.prog 161 = some (D.agg [D.int .u64 0, D.int .u64 0, D.int .u32 0, D.int .u8 0, D.int .u8 0, D.int .u8 0, D.int .u8 0, D.raw .nilFunc, D.raw (.pointer none), D.int .i32 0, D.int .i32 0]) := by kernel_rfl
theorem ty_k162 : tkind Try.prog 162 = some false := by kernel_rfl
theorem ty_z162 : tsz Try.prog 162 = some 1 := by kernel_rfl
theorem ty_b162 : tbytes Try.prog 162 = some 8 := by kernel_rfl
theorem ty_u162 : (Try.prog.underlying 162).isSome = true := by kernel_rfl
theorem ty_tz162 : tzero Try.prog 162 = some (Value.pointer none) := by kernel_rfl
theorem ty_zs162 : (Value.pointer none).cells.size = 1 := by kernel_rfl
theorem ty_zv162 : zeroV Try.prog 162 = .d (D.raw (.pointer none)) := by kernel_rfl
theorem ty_dz162 : dataZero Try.prog 162 = some (D.raw (.pointer none)) := by kernel_rfl
theorem tyRules : type_of% (And.intro (And.intro @ty_k0 (And.intro @ty_z0 (And.intro @ty_b0 (And.intro @ty_u0 (And.intro @ty_zv0 (And.intro @ty_k1 (And.intro @ty_z1 (And.intro @ty_b1 (And.intro @ty_u1 (And.intro @ty_tz1 (And.intro @ty_zs1 (And.intro @ty_zv1 (And.intro @ty_dz1 (And.intro @ty_k2 (And.intro @ty_z2 (And.intro @ty_b2 (And.intro @ty_i2 (And.intro @ty_u2 (And.intro @ty_tz2 (And.intro @ty_zs2 (And.intro @ty_zv2 (And.intro @ty_dz2 (And.intro @ty_k3 (And.intro @ty_z3 (And.intro @ty_b3 (And.intro @ty_i3 (And.intro @ty_u3 (And.intro @ty_tz3 (And.intro @ty_zs3 (And.intro @ty_zv3 (And.intro @ty_dz3 (And.intro @ty_k4 (And.intro @ty_z4 (And.intro @ty_b4 (And.intro @ty_u4 (And.intro @ty_bo4 (And.intro @ty_tz4 (And.intro @ty_zs4 (And.intro @ty_zv4 (@ty_dz4)))))))))))))))))))))))))))))))))))))))) (And.intro (And.intro @ty_k5 (And.intro @ty_z5 (And.intro @ty_b5 (And.intro @ty_i5 (And.intro @ty_u5 (And.intro @ty_tz5 (And.intro @ty_zs5 (And.intro @ty_zv5 (And.intro @ty_dz5 (And.intro @ty_k6 (And.intro @ty_z6 (And.intro @ty_b6 (And.intro @ty_i6 (And.intro @ty_u6 (And.intro @ty_tz6 (And.intro @ty_zs6 (And.intro @ty_zv6 (And.intro @ty_dz6 (And.intro @ty_k7 (And.intro @ty_z7 (And.intro @ty_b7 (And.intro @ty_u7 (And.intro @ty_c7 (And.intro @ty_f7_0 (And.intro @ty_f7_1 (And.intro @ty_f7_2 (And.intro @ty_f7_3 (And.intro @ty_p7 (And.intro @ty_za7 (And.intro @ty_tz7 (And.intro @ty_zs7 (And.intro @ty_zv7 (And.intro @ty_dz7 (And.intro @ty_k8 (And.intro @ty_z8 (And.intro @ty_b8 (And.intro @ty_u8 (And.intro @ty_c8 (And.intro @ty_f8_0 (@ty_f8_1)))))))))))))))))))))))))))))))))))))))) (And.intro (And.intro @ty_f8_2 (And.intro @ty_f8_3 (And.intro @ty_p8 (And.intro @ty_za8 (And.intro @ty_tz8 (And.intro @ty_zs8 (And.intro @ty_zv8 (And.intro @ty_dz8 (And.intro @ty_k9 (And.intro @ty_z9 (And.intro @ty_b9 (And.intro @ty_s9 (And.intro @ty_u9 (And.intro @ty_tz9 (And.intro @ty_zs9 (And.intro @ty_zv9 (And.intro @ty_dz9 (And.intro @ty_k10 (And.intro @ty_z10 (And.intro @ty_b10 (And.intro @ty_s10 (And.intro @ty_u10 (And.intro @ty_tz10 (And.intro @ty_zs10 (And.intro @ty_zv10 (And.intro @ty_dz10 (And.intro @ty_k11 (And.intro @ty_z11 (And.intro @ty_b11 (And.intro @ty_s11 (And.intro @ty_u11 (And.intro @ty_tz11 (And.intro @ty_zs11 (And.intro @ty_zv11 (And.intro @ty_dz11 (And.intro @ty_k12 (And.intro @ty_z12 (And.intro @ty_b12 (And.intro @ty_i12 (@ty_u12)))))))))))))))))))))))))))))))))))))))) (And.intro (And.intro @ty_tz12 (And.intro @ty_zs12 (And.intro @ty_zv12 (And.intro @ty_dz12 (And.intro @ty_k13 (And.intro @ty_z13 (And.intro @ty_b13 (And.intro @ty_u13 (And.intro @ty_f13_0 (And.intro @ty_f13_1 (And.intro @ty_p13 (And.intro @ty_za13 (And.intro @ty_tz13 (And.intro @ty_zs13 (And.intro @ty_zv13 (And.intro @ty_dz13 (And.intro @ty_k14 (And.intro @ty_z14 (And.intro @ty_b14 (And.intro @ty_u14 (And.intro @ty_f14_0 (And.intro @ty_f14_1 (And.intro @ty_p14 (And.intro @ty_za14 (And.intro @ty_tz14 (And.intro @ty_zs14 (And.intro @ty_zv14 (And.intro @ty_dz14 (And.intro @ty_k15 (And.intro @ty_z15 (And.intro @ty_pt15 (And.intro @ty_b15 (And.intro @ty_u15 (And.intro @ty_tz15 (And.intro @ty_zs15 (And.intro @ty_zv15 (And.intro @ty_dz15 (And.intro @ty_k16 (And.intro @ty_z16 (@ty_pt16)))))))))))))))))))))))))))))))))))))))) (And.intro (And.intro @ty_b16 (And.intro @ty_u16 (And.intro @ty_tz16 (And.intro @ty_zs16 (And.intro @ty_zv16 (And.intro @ty_dz16 (And.intro @ty_k17 (And.intro @ty_z17 (And.intro @ty_pt17 (And.intro @ty_b17 (And.intro @ty_u17 (And.intro @ty_tz17 (And.intro @ty_zs17 (And.intro @ty_zv17 (And.intro @ty_dz17 (And.intro @ty_k18 (And.intro @ty_z18 (And.intro @ty_b18 (And.intro @ty_u18 (And.intro @ty_f18_0 (And.intro @ty_p18 (And.intro @ty_za18 (And.intro @ty_tz18 (And.intro @ty_zs18 (And.intro @ty_zv18 (And.intro @ty_dz18 (And.intro @ty_k19 (And.intro @ty_z19 (And.intro @ty_b19 (And.intro @ty_u19 (And.intro @ty_f19_0 (And.intro @ty_p19 (And.intro @ty_za19 (And.intro @ty_tz19 (And.intro @ty_zs19 (And.intro @ty_zv19 (And.intro @ty_dz19 (And.intro @ty_k20 (And.intro @ty_z20 (@ty_b20)))))))))))))))))))))))))))))))))))))))) (And.intro (And.intro @ty_u20 (And.intro @ty_tz20 (And.intro @ty_zs20 (And.intro @ty_zv20 (And.intro @ty_dz20 (And.intro @ty_k21 (And.intro @ty_z21 (And.intro @ty_b21 (And.intro @ty_i21 (And.intro @ty_u21 (And.intro @ty_tz21 (And.intro @ty_zs21 (And.intro @ty_zv21 (And.intro @ty_dz21 (And.intro @ty_k22 (And.intro @ty_z22 (And.intro @ty_b22 (And.intro @ty_u22 (And.intro @ty_c22 (And.intro @ty_f22_0 (And.intro @ty_f22_1 (And.intro @ty_p22 (And.intro @ty_za22 (And.intro @ty_tz22 (And.intro @ty_zs22 (And.intro @ty_zv22 (And.intro @ty_dz22 (And.intro @ty_k23 (And.intro @ty_z23 (And.intro @ty_b23 (And.intro @ty_u23 (And.intro @ty_c23 (And.intro @ty_f23_0 (And.intro @ty_f23_1 (And.intro @ty_p23 (And.intro @ty_za23 (And.intro @ty_tz23 (And.intro @ty_zs23 (And.intro @ty_zv23 (@ty_dz23)))))))))))))))))))))))))))))))))))))))) (And.intro (And.intro @ty_k24 (And.intro @ty_z24 (And.intro @ty_e24 (And.intro @ty_ae24 (And.intro @ty_b24 (And.intro @ty_x24 (And.intro @ty_u24 (And.intro @ty_tz24 (And.intro @ty_zs24 (And.intro @ty_zv24 (And.intro @ty_dz24 (And.intro @ty_k25 (And.intro @ty_z25 (And.intro @ty_e25 (And.intro @ty_ae25 (And.intro @ty_b25 (And.intro @ty_x25 (And.intro @ty_u25 (And.intro @ty_tz25 (And.intro @ty_zs25 (And.intro @ty_zv25 (And.intro @ty_dz25 (And.intro @ty_k26 (And.intro @ty_z26 (And.intro @ty_e26 (And.intro @ty_ae26 (And.intro @ty_b26 (And.intro @ty_x26 (And.intro @ty_u26 (And.intro @ty_tz26 (And.intro @ty_zs26 (And.intro @ty_zv26 (And.intro @ty_dz26 (And.intro @ty_k27 (And.intro @ty_z27 (And.intro @ty_e27 (And.intro @ty_ae27 (And.intro @ty_b27 (And.intro @ty_x27 (@ty_u27)))))))))))))))))))))))))))))))))))))))) (And.intro (And.intro @ty_tz27 (And.intro @ty_zs27 (And.intro @ty_zv27 (And.intro @ty_dz27 (And.intro @ty_k28 (And.intro @ty_z28 (And.intro @ty_e28 (And.intro @ty_ae28 (And.intro @ty_b28 (And.intro @ty_x28 (And.intro @ty_u28 (And.intro @ty_tz28 (And.intro @ty_zs28 (And.intro @ty_zv28 (And.intro @ty_dz28 (And.intro @ty_k29 (And.intro @ty_z29 (And.intro @ty_e29 (And.intro @ty_ae29 (And.intro @ty_b29 (And.intro @ty_x29 (And.intro @ty_u29 (And.intro @ty_tz29 (And.intro @ty_zs29 (And.intro @ty_zv29 (And.intro @ty_dz29 (And.intro @ty_k30 (And.intro @ty_z30 (And.intro @ty_e30 (And.intro @ty_ae30 (And.intro @ty_b30 (And.intro @ty_x30 (And.intro @ty_u30 (And.intro @ty_tz30 (And.intro @ty_zs30 (And.intro @ty_zv30 (And.intro @ty_dz30 (And.intro @ty_k31 (And.intro @ty_z31 (@ty_e31)))))))))))))))))))))))))))))))))))))))) (And.intro (And.intro @ty_ae31 (And.intro @ty_b31 (And.intro @ty_x31 (And.intro @ty_u31 (And.intro @ty_tz31 (And.intro @ty_zs31 (And.intro @ty_zv31 (And.intro @ty_dz31 (And.intro @ty_k32 (And.intro @ty_z32 (And.intro @ty_b32 (And.intro @ty_u32 (And.intro @ty_f32_0 (And.intro @ty_f32_1 (And.intro @ty_f32_2 (And.intro @ty_f32_3 (And.intro @ty_f32_4 (And.intro @ty_f32_5 (And.intro @ty_f32_6 (And.intro @ty_f32_7 (And.intro @ty_f32_8 (And.intro @ty_p32 (And.intro @ty_za32 (And.intro @ty_tz32 (And.intro @ty_zs32 (And.intro @ty_zv32 (And.intro @ty_dz32 (And.intro @ty_k33 (And.intro @ty_z33 (And.intro @ty_b33 (And.intro @ty_u33 (And.intro @ty_f33_0 (And.intro @ty_f33_1 (And.intro @ty_f33_2 (And.intro @ty_f33_3 (And.intro @ty_f33_4 (And.intro @ty_f33_5 (And.intro @ty_f33_6 (And.intro @ty_f33_7 (@ty_f33_8)))))))))))))))))))))))))))))))))))))))) (And.intro (And.intro @ty_p33 (And.intro @ty_za33 (And.intro @ty_tz33 (And.intro @ty_zs33 (And.intro @ty_zv33 (And.intro @ty_dz33 (And.intro @ty_k34 (And.intro @ty_z34 (And.intro @ty_b34 (And.intro @ty_u34 (And.intro @ty_tz34 (And.intro @ty_zs34 (And.intro @ty_zv34 (And.intro @ty_dz34 (And.intro @ty_k35 (And.intro @ty_z35 (And.intro @ty_b35 (And.intro @ty_u35 (And.intro @ty_tz35 (And.intro @ty_zs35 (And.intro @ty_zv35 (And.intro @ty_dz35 (And.intro @ty_k36 (And.intro @ty_z36 (And.intro @ty_e36 (And.intro @ty_ae36 (And.intro @ty_b36 (And.intro @ty_x36 (And.intro @ty_u36 (And.intro @ty_tz36 (And.intro @ty_zs36 (And.intro @ty_zv36 (And.intro @ty_dz36 (And.intro @ty_k37 (And.intro @ty_z37 (And.intro @ty_b37 (And.intro @ty_i37 (And.intro @ty_u37 (And.intro @ty_tz37 (@ty_zs37)))))))))))))))))))))))))))))))))))))))) (And.intro (And.intro @ty_zv37 (And.intro @ty_dz37 (And.intro @ty_k38 (And.intro @ty_z38 (And.intro @ty_b38 (And.intro @ty_u38 (And.intro @ty_zv38 (And.intro @ty_k39 (And.intro @ty_z39 (And.intro @ty_b39 (And.intro @ty_u39 (And.intro @ty_tz39 (And.intro @ty_zs39 (And.intro @ty_zv39 (And.intro @ty_dz39 (And.intro @ty_k40 (And.intro @ty_z40 (And.intro @ty_b40 (And.intro @ty_u40 (And.intro @ty_c40 (And.intro @ty_f40_0 (And.intro @ty_f40_1 (And.intro @ty_f40_2 (And.intro @ty_p40 (And.intro @ty_za40 (And.intro @ty_tz40 (And.intro @ty_zs40 (And.intro @ty_zv40 (And.intro @ty_dz40 (And.intro @ty_k41 (And.intro @ty_z41 (And.intro @ty_b41 (And.intro @ty_u41 (And.intro @ty_c41 (And.intro @ty_f41_0 (And.intro @ty_f41_1 (And.intro @ty_f41_2 (And.intro @ty_p41 (And.intro @ty_za41 (@ty_tz41)))))))))))))))))))))))))))))))))))))))) (And.intro (And.intro @ty_zs41 (And.intro @ty_zv41 (And.intro @ty_dz41 (And.intro @ty_k42 (And.intro @ty_z42 (And.intro @ty_b42 (And.intro @ty_u42 (And.intro @ty_c42 (And.intro @ty_f42_0 (And.intro @ty_f42_1 (And.intro @ty_f42_2 (And.intro @ty_f42_3 (And.intro @ty_f42_4 (And.intro @ty_f42_5 (And.intro @ty_p42 (And.intro @ty_za42 (And.intro @ty_tz42 (And.intro @ty_zs42 (And.intro @ty_zv42 (And.intro @ty_dz42 (And.intro @ty_k43 (And.intro @ty_z43 (And.intro @ty_b43 (And.intro @ty_u43 (And.intro @ty_c43 (And.intro @ty_f43_0 (And.intro @ty_f43_1 (And.intro @ty_f43_2 (And.intro @ty_f43_3 (And.intro @ty_f43_4 (And.intro @ty_f43_5 (And.intro @ty_p43 (And.intro @ty_za43 (And.intro @ty_tz43 (And.intro @ty_zs43 (And.intro @ty_zv43 (And.intro @ty_dz43 (And.intro @ty_k44 (And.intro @ty_z44 (@ty_b44)))))))))))))))))))))))))))))))))))))))) (And.intro (And.intro @ty_u44 (And.intro @ty_zv44 (And.intro @ty_k45 (And.intro @ty_z45 (And.intro @ty_b45 (And.intro @ty_u45 (And.intro @ty_tz45 (And.intro @ty_zs45 (And.intro @ty_zv45 (And.intro @ty_dz45 (And.intro @ty_k46 (And.intro @ty_z46 (And.intro @ty_b46 (And.intro @ty_u46 (And.intro @ty_tz46 (And.intro @ty_zs46 (And.intro @ty_zv46 (And.intro @ty_dz46 (And.intro @ty_k47 (And.intro @ty_z47 (And.intro @ty_e47 (And.intro @ty_ae47 (And.intro @ty_b47 (And.intro @ty_x47 (And.intro @ty_u47 (And.intro @ty_tz47 (And.intro @ty_zs47 (And.intro @ty_zv47 (And.intro @ty_dz47 (And.intro @ty_k48 (And.intro @ty_z48 (And.intro @ty_b48 (And.intro @ty_u48 (And.intro @ty_zv48 (And.intro @ty_k49 (And.intro @ty_z49 (And.intro @ty_b49 (And.intro @ty_u49 (And.intro @ty_tz49 (@ty_zs49)))))))))))))))))))))))))))))))))))))))) (And.intro (And.intro @ty_zv49 (And.intro @ty_dz49 (And.intro @ty_k50 (And.intro @ty_z50 (And.intro @ty_b50 (And.intro @ty_u50 (And.intro @ty_tz50 (And.intro @ty_zs50 (And.intro @ty_zv50 (And.intro @ty_dz50 (And.intro @ty_k51 (And.intro @ty_z51 (And.intro @ty_b51 (And.intro @ty_u51 (And.intro @ty_tz51 (And.intro @ty_zs51 (And.intro @ty_zv51 (And.intro @ty_dz51 (And.intro @ty_k52 (And.intro @ty_z52 (And.intro @ty_b52 (And.intro @ty_u52 (And.intro @ty_tz52 (And.intro @ty_zs52 (And.intro @ty_zv52 (And.intro @ty_dz52 (And.intro @ty_k53 (And.intro @ty_z53 (And.intro @ty_e53 (And.intro @ty_ae53 (And.intro @ty_b53 (And.intro @ty_x53 (And.intro @ty_u53 (And.intro @ty_tz53 (And.intro @ty_zs53 (And.intro @ty_zv53 (And.intro @ty_dz53 (And.intro @ty_k54 (And.intro @ty_z54 (@ty_b54)))))))))))))))))))))))))))))))))))))))) (And.intro (And.intro @ty_u54 (And.intro @ty_zv54 (And.intro @ty_k55 (And.intro @ty_z55 (And.intro @ty_b55 (And.intro @ty_u55 (And.intro @ty_tz55 (And.intro @ty_zs55 (And.intro @ty_zv55 (And.intro @ty_dz55 (And.intro @ty_k56 (And.intro @ty_z56 (And.intro @ty_b56 (And.intro @ty_x56 (And.intro @ty_u56 (And.intro @ty_c56 (And.intro @ty_p56 (And.intro @ty_za56 (And.intro @ty_tz56 (And.intro @ty_zs56 (And.intro @ty_zv56 (And.intro @ty_dz56 (And.intro @ty_k57 (And.intro @ty_z57 (And.intro @ty_b57 (And.intro @ty_u57 (And.intro @ty_tz57 (And.intro @ty_zs57 (And.intro @ty_zv57 (And.intro @ty_dz57 (And.intro @ty_k58 (And.intro @ty_z58 (And.intro @ty_b58 (And.intro @ty_u58 (And.intro @ty_tz58 (And.intro @ty_zs58 (And.intro @ty_zv58 (And.intro @ty_dz58 (And.intro @ty_k59 (@ty_z59)))))))))))))))))))))))))))))))))))))))) (And.intro (And.intro @ty_b59 (And.intro @ty_u59 (And.intro @ty_c59 (And.intro @ty_f59_0 (And.intro @ty_f59_1 (And.intro @ty_f59_2 (And.intro @ty_p59 (And.intro @ty_za59 (And.intro @ty_tz59 (And.intro @ty_zs59 (And.intro @ty_zv59 (And.intro @ty_dz59 (And.intro @ty_k60 (And.intro @ty_z60 (And.intro @ty_b60 (And.intro @ty_u60 (And.intro @ty_c60 (And.intro @ty_f60_0 (And.intro @ty_f60_1 (And.intro @ty_f60_2 (And.intro @ty_p60 (And.intro @ty_za60 (And.intro @ty_tz60 (And.intro @ty_zs60 (And.intro @ty_zv60 (And.intro @ty_dz60 (And.intro @ty_k61 (And.intro @ty_z61 (And.intro @ty_b61 (And.intro @ty_u61 (And.intro @ty_zv61 (And.intro @ty_k62 (And.intro @ty_z62 (And.intro @ty_b62 (And.intro @ty_u62 (And.intro @ty_tz62 (And.intro @ty_zs62 (And.intro @ty_zv62 (And.intro @ty_dz62 (@ty_k63)))))))))))))))))))))))))))))))))))))))) (And.intro (And.intro @ty_z63 (And.intro @ty_e63 (And.intro @ty_ae63 (And.intro @ty_b63 (And.intro @ty_x63 (And.intro @ty_u63 (And.intro @ty_tz63 (And.intro @ty_zs63 (And.intro @ty_zv63 (And.intro @ty_dz63 (And.intro @ty_k64 (And.intro @ty_z64 (And.intro @ty_b64 (And.intro @ty_u64 (And.intro @ty_f64_0 (And.intro @ty_f64_1 (And.intro @ty_f64_2 (And.intro @ty_f64_3 (And.intro @ty_p64 (And.intro @ty_za64 (And.intro @ty_tz64 (And.intro @ty_zs64 (And.intro @ty_zv64 (And.intro @ty_dz64 (And.intro @ty_k65 (And.intro @ty_z65 (And.intro @ty_b65 (And.intro @ty_u65 (And.intro @ty_f65_0 (And.intro @ty_f65_1 (And.intro @ty_f65_2 (And.intro @ty_f65_3 (And.intro @ty_p65 (And.intro @ty_za65 (And.intro @ty_tz65 (And.intro @ty_zs65 (And.intro @ty_zv65 (And.intro @ty_dz65 (And.intro @ty_k66 (@ty_z66)))))))))))))))))))))))))))))))))))))))) (And.intro (And.intro @ty_b66 (And.intro @ty_u66 (And.intro @ty_f66_0 (And.intro @ty_f66_1 (And.intro @ty_f66_2 (And.intro @ty_f66_3 (And.intro @ty_f66_4 (And.intro @ty_f66_5 (And.intro @ty_p66 (And.intro @ty_za66 (And.intro @ty_tz66 (And.intro @ty_zs66 (And.intro @ty_zv66 (And.intro @ty_dz66 (And.intro @ty_k67 (And.intro @ty_z67 (And.intro @ty_b67 (And.intro @ty_u67 (And.intro @ty_f67_0 (And.intro @ty_f67_1 (And.intro @ty_f67_2 (And.intro @ty_f67_3 (And.intro @ty_f67_4 (And.intro @ty_f67_5 (And.intro @ty_p67 (And.intro @ty_za67 (And.intro @ty_tz67 (And.intro @ty_zs67 (And.intro @ty_zv67 (And.intro @ty_dz67 (And.intro @ty_k68 (And.intro @ty_z68 (And.intro @ty_b68 (And.intro @ty_u68 (And.intro @ty_tz68 (And.intro @ty_zs68 (And.intro @ty_zv68 (And.intro @ty_dz68 (And.intro @ty_k69 (@ty_z69)))))))))))))))))))))))))))))))))))))))) (And.intro (And.intro @ty_b69 (And.intro @ty_u69 (And.intro @ty_tz69 (And.intro @ty_zs69 (And.intro @ty_zv69 (And.intro @ty_dz69 (And.intro @ty_k70 (And.intro @ty_z70 (And.intro @ty_b70 (And.intro @ty_u70 (And.intro @ty_tz70 (And.intro @ty_zs70 (And.intro @ty_zv70 (And.intro @ty_dz70 (And.intro @ty_k71 (And.intro @ty_z71 (And.intro @ty_b71 (And.intro @ty_u71 (And.intro @ty_tz71 (And.intro @ty_zs71 (And.intro @ty_zv71 (And.intro @ty_dz71 (And.intro @ty_k72 (And.intro @ty_z72 (And.intro @ty_b72 (And.intro @ty_u72 (And.intro @ty_tz72 (And.intro @ty_zs72 (And.intro @ty_zv72 (And.intro @ty_dz72 (And.intro @ty_k73 (And.intro @ty_z73 (And.intro @ty_b73 (And.intro @ty_u73 (And.intro @ty_tz73 (And.intro @ty_zs73 (And.intro @ty_zv73 (And.intro @ty_dz73 (And.intro @ty_k74 (@ty_z74)))))))))))))))))))))))))))))))))))))))) (And.intro (And.intro @ty_b74 (And.intro @ty_u74 (And.intro @ty_tz74 (And.intro @ty_zs74 (And.intro @ty_zv74 (And.intro @ty_dz74 (And.intro @ty_k75 (And.intro @ty_z75 (And.intro @ty_b75 (And.intro @ty_i75 (And.intro @ty_u75 (And.intro @ty_tz75 (And.intro @ty_zs75 (And.intro @ty_zv75 (And.intro @ty_dz75 (And.intro @ty_k76 (And.intro @ty_z76 (And.intro @ty_b76 (And.intro @ty_u76 (And.intro @ty_tz76 (And.intro @ty_zs76 (And.intro @ty_zv76 (And.intro @ty_dz76 (And.intro @ty_k77 (And.intro @ty_z77 (And.intro @ty_b77 (And.intro @ty_u77 (And.intro @ty_tz77 (And.intro @ty_zs77 (And.intro @ty_zv77 (And.intro @ty_dz77 (And.intro @ty_k78 (And.intro @ty_z78 (And.intro @ty_b78 (And.intro @ty_u78 (And.intro @ty_tz78 (And.intro @ty_zs78 (And.intro @ty_zv78 (And.intro @ty_dz78 (@ty_k79)))))))))))))))))))))))))))))))))))))))) (And.intro (And.intro @ty_z79 (And.intro @ty_m79 (And.intro @ty_b79 (And.intro @ty_u79 (And.intro @ty_tz79 (And.intro @ty_zs79 (And.intro @ty_zv79 (And.intro @ty_dz79 (And.intro @ty_k80 (And.intro @ty_z80 (And.intro @ty_b80 (And.intro @ty_u80 (And.intro @ty_zv80 (And.intro @ty_k81 (And.intro @ty_z81 (And.intro @ty_b81 (And.intro @ty_u81 (And.intro @ty_tz81 (And.intro @ty_zs81 (And.intro @ty_zv81 (And.intro @ty_dz81 (And.intro @ty_k82 (And.intro @ty_z82 (And.intro @ty_b82 (And.intro @ty_u82 (And.intro @ty_tz82 (And.intro @ty_zs82 (And.intro @ty_zv82 (And.intro @ty_dz82 (And.intro @ty_k83 (And.intro @ty_z83 (And.intro @ty_b83 (And.intro @ty_u83 (And.intro @ty_c83 (And.intro @ty_f83_0 (And.intro @ty_f83_1 (And.intro @ty_f83_2 (And.intro @ty_f83_3 (And.intro @ty_f83_4 (@ty_f83_5)))))))))))))))))))))))))))))))))))))))) (And.intro (And.intro @ty_f83_6 (And.intro @ty_p83 (And.intro @ty_za83 (And.intro @ty_tz83 (And.intro @ty_zs83 (And.intro @ty_zv83 (And.intro @ty_dz83 (And.intro @ty_k84 (And.intro @ty_z84 (And.intro @ty_b84 (And.intro @ty_u84 (And.intro @ty_c84 (And.intro @ty_f84_0 (And.intro @ty_f84_1 (And.intro @ty_f84_2 (And.intro @ty_f84_3 (And.intro @ty_f84_4 (And.intro @ty_f84_5 (And.intro @ty_f84_6 (And.intro @ty_p84 (And.intro @ty_za84 (And.intro @ty_tz84 (And.intro @ty_zs84 (And.intro @ty_zv84 (And.intro @ty_dz84 (And.intro @ty_k85 (And.intro @ty_z85 (And.intro @ty_b85 (And.intro @ty_u85 (And.intro @ty_tz85 (And.intro @ty_zs85 (And.intro @ty_zv85 (And.intro @ty_dz85 (And.intro @ty_k86 (And.intro @ty_z86 (And.intro @ty_b86 (And.intro @ty_u86 (And.intro @ty_tz86 (And.intro @ty_zs86 (@ty_zv86)))))))))))))))))))))))))))))))))))))))) (And.intro (And.intro @ty_dz86 (And.intro @ty_k87 (And.intro @ty_z87 (And.intro @ty_b87 (And.intro @ty_u87 (And.intro @ty_tz87 (And.intro @ty_zs87 (And.intro @ty_zv87 (And.intro @ty_dz87 (And.intro @ty_k88 (And.intro @ty_z88 (And.intro @ty_b88 (And.intro @ty_u88 (And.intro @ty_tz88 (And.intro @ty_zs88 (And.intro @ty_zv88 (And.intro @ty_dz88 (And.intro @ty_k89 (And.intro @ty_z89 (And.intro @ty_b89 (And.intro @ty_u89 (And.intro @ty_c89 (And.intro @ty_f89_0 (And.intro @ty_f89_1 (And.intro @ty_p89 (And.intro @ty_za89 (And.intro @ty_tz89 (And.intro @ty_zs89 (And.intro @ty_zv89 (And.intro @ty_dz89 (And.intro @ty_k90 (And.intro @ty_z90 (And.intro @ty_b90 (And.intro @ty_u90 (And.intro @ty_c90 (And.intro @ty_f90_0 (And.intro @ty_f90_1 (And.intro @ty_p90 (And.intro @ty_za90 (@ty_tz90)))))))))))))))))))))))))))))))))))))))) (And.intro (And.intro @ty_zs90 (And.intro @ty_zv90 (And.intro @ty_dz90 (And.intro @ty_k91 (And.intro @ty_z91 (And.intro @ty_b91 (And.intro @ty_u91 (And.intro @ty_c91 (And.intro @ty_f91_0 (And.intro @ty_f91_1 (And.intro @ty_f91_2 (And.intro @ty_f91_3 (And.intro @ty_f91_4 (And.intro @ty_p91 (And.intro @ty_za91 (And.intro @ty_tz91 (And.intro @ty_zs91 (And.intro @ty_zv91 (And.intro @ty_dz91 (And.intro @ty_k92 (And.intro @ty_z92 (And.intro @ty_b92 (And.intro @ty_u92 (And.intro @ty_c92 (And.intro @ty_f92_0 (And.intro @ty_f92_1 (And.intro @ty_f92_2 (And.intro @ty_f92_3 (And.intro @ty_f92_4 (And.intro @ty_p92 (And.intro @ty_za92 (And.intro @ty_tz92 (And.intro @ty_zs92 (And.intro @ty_zv92 (And.intro @ty_dz92 (And.intro @ty_k93 (And.intro @ty_z93 (And.intro @ty_b93 (And.intro @ty_u93 (@ty_tz93)))))))))))))))))))))))))))))))))))))))) (And.intro (And.intro @ty_zs93 (And.intro @ty_zv93 (And.intro @ty_dz93 (And.intro @ty_k94 (And.intro @ty_z94 (And.intro @ty_b94 (And.intro @ty_u94 (And.intro @ty_tz94 (And.intro @ty_zs94 (And.intro @ty_zv94 (And.intro @ty_dz94 (And.intro @ty_k95 (And.intro @ty_z95 (And.intro @ty_b95 (And.intro @ty_u95 (And.intro @ty_tz95 (And.intro @ty_zs95 (And.intro @ty_zv95 (And.intro @ty_dz95 (And.intro @ty_k96 (And.intro @ty_z96 (And.intro @ty_b96 (And.intro @ty_u96 (And.intro @ty_tz96 (And.intro @ty_zs96 (And.intro @ty_zv96 (And.intro @ty_dz96 (And.intro @ty_k97 (And.intro @ty_z97 (And.intro @ty_b97 (And.intro @ty_u97 (And.intro @ty_tz97 (And.intro @ty_zs97 (And.intro @ty_zv97 (And.intro @ty_dz97 (And.intro @ty_k98 (And.intro @ty_z98 (And.intro @ty_b98 (And.intro @ty_u98 (@ty_tz98)))))))))))))))))))))))))))))))))))))))) (And.intro (And.intro @ty_zs98 (And.intro @ty_zv98 (And.intro @ty_dz98 (And.intro @ty_k99 (And.intro @ty_z99 (And.intro @ty_b99 (And.intro @ty_u99 (And.intro @ty_tz99 (And.intro @ty_zs99 (And.intro @ty_zv99 (And.intro @ty_dz99 (And.intro @ty_k100 (And.intro @ty_z100 (And.intro @ty_b100 (And.intro @ty_u100 (And.intro @ty_tz100 (And.intro @ty_zs100 (And.intro @ty_zv100 (And.intro @ty_dz100 (And.intro @ty_k101 (And.intro @ty_z101 (And.intro @ty_b101 (And.intro @ty_u101 (And.intro @ty_tz101 (And.intro @ty_zs101 (And.intro @ty_zv101 (And.intro @ty_dz101 (And.intro @ty_k102 (And.intro @ty_z102 (And.intro @ty_b102 (And.intro @ty_u102 (And.intro @ty_tz102 (And.intro @ty_zs102 (And.intro @ty_zv102 (And.intro @ty_dz102 (And.intro @ty_k103 (And.intro @ty_z103 (And.intro @ty_b103 (And.intro @ty_u103 (@ty_tz103)))))))))))))))))))))))))))))))))))))))) (And.intro (And.intro @ty_zs103 (And.intro @ty_zv103 (And.intro @ty_dz103 (And.intro @ty_k104 (And.intro @ty_z104 (And.intro @ty_b104 (And.intro @ty_u104 (And.intro @ty_tz104 (And.intro @ty_zs104 (And.intro @ty_zv104 (And.intro @ty_dz104 (And.intro @ty_k105 (And.intro @ty_z105 (And.intro @ty_b105 (And.intro @ty_u105 (And.intro @ty_tz105 (And.intro @ty_zs105 (And.intro @ty_zv105 (And.intro @ty_dz105 (And.intro @ty_k106 (And.intro @ty_z106 (And.intro @ty_b106 (And.intro @ty_u106 (And.intro @ty_tz106 (And.intro @ty_zs106 (And.intro @ty_zv106 (And.intro @ty_dz106 (And.intro @ty_k107 (And.intro @ty_z107 (And.intro @ty_b107 (And.intro @ty_u107 (And.intro @ty_tz107 (And.intro @ty_zs107 (And.intro @ty_zv107 (And.intro @ty_dz107 (And.intro @ty_k108 (And.intro @ty_z108 (And.intro @ty_b108 (And.intro @ty_u108 (@ty_tz108)))))))))))))))))))))))))))))))))))))))) (And.intro (And.intro @ty_zs108 (And.intro @ty_zv108 (And.intro @ty_dz108 (And.intro @ty_k109 (And.intro @ty_z109 (And.intro @ty_b109 (And.intro @ty_u109 (And.intro @ty_tz109 (And.intro @ty_zs109 (And.intro @ty_zv109 (And.intro @ty_dz109 (And.intro @ty_k110 (And.intro @ty_z110 (And.intro @ty_b110 (And.intro @ty_u110 (And.intro @ty_tz110 (And.intro @ty_zs110 (And.intro @ty_zv110 (And.intro @ty_dz110 (And.intro @ty_k111 (And.intro @ty_z111 (And.intro @ty_b111 (And.intro @ty_u111 (And.intro @ty_tz111 (And.intro @ty_zs111 (And.intro @ty_zv111 (And.intro @ty_dz111 (And.intro @ty_k112 (And.intro @ty_z112 (And.intro @ty_b112 (And.intro @ty_u112 (And.intro @ty_tz112 (And.intro @ty_zs112 (And.intro @ty_zv112 (And.intro @ty_dz112 (And.intro @ty_k113 (And.intro @ty_z113 (And.intro @ty_b113 (And.intro @ty_u113 (@ty_tz113)))))))))))))))))))))))))))))))))))))))) (And.intro (And.intro @ty_zs113 (And.intro @ty_zv113 (And.intro @ty_dz113 (And.intro @ty_k114 (And.intro @ty_z114 (And.intro @ty_b114 (And.intro @ty_u114 (And.intro @ty_tz114 (And.intro @ty_zs114 (And.intro @ty_zv114 (And.intro @ty_dz114 (And.intro @ty_k115 (And.intro @ty_z115 (And.intro @ty_b115 (And.intro @ty_u115 (And.intro @ty_tz115 (And.intro @ty_zs115 (And.intro @ty_zv115 (And.intro @ty_dz115 (And.intro @ty_k116 (And.intro @ty_z116 (And.intro @ty_b116 (And.intro @ty_u116 (And.intro @ty_c116 (And.intro @ty_f116_0 (And.intro @ty_f116_1 (And.intro @ty_f116_2 (And.intro @ty_p116 (And.intro @ty_za116 (And.intro @ty_tz116 (And.intro @ty_zs116 (And.intro @ty_zv116 (And.intro @ty_dz116 (And.intro @ty_k117 (And.intro @ty_z117 (And.intro @ty_b117 (And.intro @ty_u117 (And.intro @ty_c117 (And.intro @ty_f117_0 (@ty_f117_1)))))))))))))))))))))))))))))))))))))))) (And.intro (And.intro @ty_f117_2 (And.intro @ty_p117 (And.intro @ty_za117 (And.intro @ty_tz117 (And.intro @ty_zs117 (And.intro @ty_zv117 (And.intro @ty_dz117 (And.intro @ty_k118 (And.intro @ty_z118 (And.intro @ty_b118 (And.intro @ty_u118 (And.intro @ty_tz118 (And.intro @ty_zs118 (And.intro @ty_zv118 (And.intro @ty_dz118 (And.intro @ty_k119 (And.intro @ty_z119 (And.intro @ty_b119 (And.intro @ty_u119 (And.intro @ty_tz119 (And.intro @ty_zs119 (And.intro @ty_zv119 (And.intro @ty_dz119 (And.intro @ty_k120 (And.intro @ty_z120 (And.intro @ty_b120 (And.intro @ty_u120 (And.intro @ty_tz120 (And.intro @ty_zs120 (And.intro @ty_zv120 (And.intro @ty_dz120 (And.intro @ty_k121 (And.intro @ty_z121 (And.intro @ty_b121 (And.intro @ty_u121 (And.intro @ty_tz121 (And.intro @ty_zs121 (And.intro @ty_zv121 (And.intro @ty_dz121 (@ty_k122)))))))))))))))))))))))))))))))))))))))) (And.intro (And.intro @ty_z122 (And.intro @ty_b122 (And.intro @ty_u122 (And.intro @ty_zv122 (And.intro @ty_k123 (And.intro @ty_z123 (And.intro @ty_b123 (And.intro @ty_u123 (And.intro @ty_tz123 (And.intro @ty_zs123 (And.intro @ty_zv123 (And.intro @ty_dz123 (And.intro @ty_k124 (And.intro @ty_z124 (And.intro @ty_b124 (And.intro @ty_u124 (And.intro @ty_tz124 (And.intro @ty_zs124 (And.intro @ty_zv124 (And.intro @ty_dz124 (And.intro @ty_k125 (And.intro @ty_z125 (And.intro @ty_b125 (And.intro @ty_u125 (And.intro @ty_tz125 (And.intro @ty_zs125 (And.intro @ty_zv125 (And.intro @ty_dz125 (And.intro @ty_k126 (And.intro @ty_z126 (And.intro @ty_b126 (And.intro @ty_u126 (And.intro @ty_tz126 (And.intro @ty_zs126 (And.intro @ty_zv126 (And.intro @ty_dz126 (And.intro @ty_k127 (And.intro @ty_z127 (And.intro @ty_b127 (@ty_u127)))))))))))))))))))))))))))))))))))))))) (And.intro (And.intro @ty_tz127 (And.intro @ty_zs127 (And.intro @ty_zv127 (And.intro @ty_dz127 (And.intro @ty_k128 (And.intro @ty_z128 (And.intro @ty_b128 (And.intro @ty_u128 (And.intro @ty_tz128 (And.intro @ty_zs128 (And.intro @ty_zv128 (And.intro @ty_dz128 (And.intro @ty_k129 (And.intro @ty_z129 (And.intro @ty_b129 (And.intro @ty_u129 (And.intro @ty_tz129 (And.intro @ty_zs129 (And.intro @ty_zv129 (And.intro @ty_dz129 (And.intro @ty_k130 (And.intro @ty_z130 (And.intro @ty_b130 (And.intro @ty_u130 (And.intro @ty_tz130 (And.intro @ty_zs130 (And.intro @ty_zv130 (And.intro @ty_dz130 (And.intro @ty_k131 (And.intro @ty_z131 (And.intro @ty_b131 (And.intro @ty_u131 (And.intro @ty_c131 (And.intro @ty_f131_0 (And.intro @ty_f131_1 (And.intro @ty_f131_2 (And.intro @ty_p131 (And.intro @ty_za131 (And.intro @ty_tz131 (@ty_zs131)))))))))))))))))))))))))))))))))))))))) (And.intro (And.intro @ty_zv131 (And.intro @ty_dz131 (And.intro @ty_k132 (And.intro @ty_z132 (And.intro @ty_b132 (And.intro @ty_u132 (And.intro @ty_c132 (And.intro @ty_f132_0 (And.intro @ty_f132_1 (And.intro @ty_f132_2 (And.intro @ty_p132 (And.intro @ty_za132 (And.intro @ty_tz132 (And.intro @ty_zs132 (And.intro @ty_zv132 (And.intro @ty_dz132 (And.intro @ty_k133 (And.intro @ty_z133 (And.intro @ty_b133 (And.intro @ty_u133 (And.intro @ty_tz133 (And.intro @ty_zs133 (And.intro @ty_zv133 (And.intro @ty_dz133 (And.intro @ty_k134 (And.intro @ty_z134 (And.intro @ty_b134 (And.intro @ty_u134 (And.intro @ty_tz134 (And.intro @ty_zs134 (And.intro @ty_zv134 (And.intro @ty_dz134 (And.intro @ty_k135 (And.intro @ty_z135 (And.intro @ty_b135 (And.intro @ty_u135 (And.intro @ty_tz135 (And.intro @ty_zs135 (And.intro @ty_zv135 (@ty_dz135)))))))))))))))))))))))))))))))))))))))) (And.intro (And.intro @ty_k136 (And.intro @ty_z136 (And.intro @ty_b136 (And.intro @ty_u136 (And.intro @ty_tz136 (And.intro @ty_zs136 (And.intro @ty_zv136 (And.intro @ty_dz136 (And.intro @ty_k137 (And.intro @ty_z137 (And.intro @ty_b137 (And.intro @ty_u137 (And.intro @ty_tz137 (And.intro @ty_zs137 (And.intro @ty_zv137 (And.intro @ty_dz137 (And.intro @ty_k138 (And.intro @ty_z138 (And.intro @ty_b138 (And.intro @ty_u138 (And.intro @ty_tz138 (And.intro @ty_zs138 (And.intro @ty_zv138 (And.intro @ty_dz138 (And.intro @ty_k139 (And.intro @ty_z139 (And.intro @ty_b139 (And.intro @ty_u139 (And.intro @ty_tz139 (And.intro @ty_zs139 (And.intro @ty_zv139 (And.intro @ty_dz139 (And.intro @ty_k140 (And.intro @ty_z140 (And.intro @ty_b140 (And.intro @ty_u140 (And.intro @ty_tz140 (And.intro @ty_zs140 (And.intro @ty_zv140 (@ty_dz140)))))))))))))))))))))))))))))))))))))))) (And.intro (And.intro @ty_k141 (And.intro @ty_z141 (And.intro @ty_b141 (And.intro @ty_u141 (And.intro @ty_tz141 (And.intro @ty_zs141 (And.intro @ty_zv141 (And.intro @ty_dz141 (And.intro @ty_k142 (And.intro @ty_z142 (And.intro @ty_b142 (And.intro @ty_u142 (And.intro @ty_tz142 (And.intro @ty_zs142 (And.intro @ty_zv142 (And.intro @ty_dz142 (And.intro @ty_k143 (And.intro @ty_z143 (And.intro @ty_b143 (And.intro @ty_u143 (And.intro @ty_tz143 (And.intro @ty_zs143 (And.intro @ty_zv143 (And.intro @ty_dz143 (And.intro @ty_k144 (And.intro @ty_z144 (And.intro @ty_b144 (And.intro @ty_u144 (And.intro @ty_tz144 (And.intro @ty_zs144 (And.intro @ty_zv144 (And.intro @ty_dz144 (And.intro @ty_k145 (And.intro @ty_z145 (And.intro @ty_b145 (And.intro @ty_u145 (And.intro @ty_tz145 (And.intro @ty_zs145 (And.intro @ty_zv145 (@ty_dz145)))))))))))))))))))))))))))))))))))))))) (And.intro (And.intro @ty_k146 (And.intro @ty_z146 (And.intro @ty_b146 (And.intro @ty_u146 (And.intro @ty_tz146 (And.intro @ty_zs146 (And.intro @ty_zv146 (And.intro @ty_dz146 (And.intro @ty_k147 (And.intro @ty_z147 (And.intro @ty_b147 (And.intro @ty_u147 (And.intro @ty_f147_0 (And.intro @ty_f147_1 (And.intro @ty_f147_2 (And.intro @ty_f147_3 (And.intro @ty_p147 (And.intro @ty_za147 (And.intro @ty_tz147 (And.intro @ty_zs147 (And.intro @ty_zv147 (And.intro @ty_dz147 (And.intro @ty_k148 (And.intro @ty_z148 (And.intro @ty_b148 (And.intro @ty_u148 (And.intro @ty_f148_0 (And.intro @ty_f148_1 (And.intro @ty_f148_2 (And.intro @ty_f148_3 (And.intro @ty_p148 (And.intro @ty_za148 (And.intro @ty_tz148 (And.intro @ty_zs148 (And.intro @ty_zv148 (And.intro @ty_dz148 (And.intro @ty_k149 (And.intro @ty_z149 (And.intro @ty_b149 (@ty_x149)))))))))))))))))))))))))))))))))))))))) (And.intro (And.intro @ty_u149 (And.intro @ty_p149 (And.intro @ty_za149 (And.intro @ty_tz149 (And.intro @ty_zs149 (And.intro @ty_zv149 (And.intro @ty_dz149 (And.intro @ty_k150 (And.intro @ty_z150 (And.intro @ty_b150 (And.intro @ty_u150 (And.intro @ty_f150_0 (And.intro @ty_p150 (And.intro @ty_za150 (And.intro @ty_tz150 (And.intro @ty_zs150 (And.intro @ty_zv150 (And.intro @ty_dz150 (And.intro @ty_k151 (And.intro @ty_z151 (And.intro @ty_b151 (And.intro @ty_u151 (And.intro @ty_f151_0 (And.intro @ty_p151 (And.intro @ty_za151 (And.intro @ty_tz151 (And.intro @ty_zs151 (And.intro @ty_zv151 (And.intro @ty_dz151 (And.intro @ty_k152 (And.intro @ty_z152 (And.intro @ty_b152 (And.intro @ty_u152 (And.intro @ty_tz152 (And.intro @ty_zs152 (And.intro @ty_zv152 (And.intro @ty_dz152 (And.intro @ty_k153 (And.intro @ty_z153 (@ty_b153)))))))))))))))))))))))))))))))))))))))) (And.intro (And.intro @ty_i153 (And.intro @ty_u153 (And.intro @ty_tz153 (And.intro @ty_zs153 (And.intro @ty_zv153 (And.intro @ty_dz153 (And.intro @ty_k154 (And.intro @ty_z154 (And.intro @ty_b154 (And.intro @ty_i154 (And.intro @ty_u154 (And.intro @ty_tz154 (And.intro @ty_zs154 (And.intro @ty_zv154 (And.intro @ty_dz154 (And.intro @ty_k155 (And.intro @ty_z155 (And.intro @ty_b155 (And.intro @ty_i155 (And.intro @ty_u155 (And.intro @ty_tz155 (And.intro @ty_zs155 (And.intro @ty_zv155 (And.intro @ty_dz155 (And.intro @ty_k156 (And.intro @ty_z156 (And.intro @ty_b156 (And.intro @ty_u156 (And.intro @ty_tz156 (And.intro @ty_zs156 (And.intro @ty_zv156 (And.intro @ty_dz156 (And.intro @ty_k157 (And.intro @ty_z157 (And.intro @ty_pt157 (And.intro @ty_b157 (And.intro @ty_u157 (And.intro @ty_tz157 (And.intro @ty_zs157 (@ty_zv157)))))))))))))))))))))))))))))))))))))))) (And.intro (And.intro @ty_dz157 (And.intro @ty_k158 (And.intro @ty_z158 (And.intro @ty_b158 (And.intro @ty_i158 (And.intro @ty_u158 (And.intro @ty_tz158 (And.intro @ty_zs158 (And.intro @ty_zv158 (And.intro @ty_dz158 (And.intro @ty_k159 (And.intro @ty_z159 (And.intro @ty_b159 (And.intro @ty_i159 (And.intro @ty_u159 (And.intro @ty_tz159 (And.intro @ty_zs159 (And.intro @ty_zv159 (And.intro @ty_dz159 (And.intro @ty_k160 (And.intro @ty_z160 (And.intro @ty_b160 (And.intro @ty_u160 (And.intro @ty_f160_0 (And.intro @ty_f160_1 (And.intro @ty_f160_2 (And.intro @ty_f160_3 (And.intro @ty_f160_4 (And.intro @ty_f160_5 (And.intro @ty_f160_6 (And.intro @ty_f160_7 (And.intro @ty_f160_8 (And.intro @ty_f160_9 (And.intro @ty_f160_10 (And.intro @ty_p160 (And.intro @ty_za160 (And.intro @ty_tz160 (And.intro @ty_zs160 (And.intro @ty_zv160 (@ty_dz160)))))))))))))))))))))))))))))))))))))))) (And.intro @ty_k161 (And.intro @ty_z161 (And.intro @ty_b161 (And.intro @ty_u161 (And.intro @ty_f161_0 (And.intro @ty_f161_1 (And.intro @ty_f161_2 (And.intro @ty_f161_3 (And.intro @ty_f161_4 (And.intro @ty_f161_5 (And.intro @ty_f161_6 (And.intro @ty_f161_7 (And.intro @ty_f161_8 (And.intro @ty_f161_9 (And.intro @ty_f161_10 (And.intro @ty_p161 (And.intro @ty_za161 (And.intro @ty_tz161 (And.intro @ty_zs161 (And.intro @ty_zv161 (And.intro @ty_dz161 (And.intro @ty_k162 (And.intro @ty_z162 (And.intro @ty_b162 (And.intro @ty_u162 (And.intro @ty_tz162 (And.intro @ty_zs162 (And.intro @ty_zv162 (@ty_dz162)))))))))))))))))))))))))))))))))))))))))))))))))))))))))))))))))))) := And.intro (And.intro @ty_k0 (And.intro @ty_z0 (And.intro @ty_b0 (And.intro @ty_u0 (And.intro @ty_zv0 (And.intro @ty_k1 (And.intro @ty_z1 (And.intro @ty_b1 (And.intro @ty_u1 (And.intro @ty_tz1 (And.intro @ty_zs1 (And.intro @ty_zv1 (And.intro @ty_dz1 (And.intro @ty_k2 (And.intro @ty_z2 (And.intro @ty_b2 (And.intro @ty_i2 (And.intro @ty_u2 (And.intro @ty_tz2 (And.intro @ty_zs2 (And.intro @ty_zv2 (And.intro @ty_dz2 (And.intro @ty_k3 (And.intro @ty_z3 (And.intro @ty_b3 (And.intro @ty_i3 (And.intro @ty_u3 (And.intro @ty_tz3 (And.intro @ty_zs3 (And.intro @ty_zv3 (And.intro @ty_dz3 (And.intro @ty_k4 (And.intro @ty_z4 (And.intro @ty_b4 (And.intro @ty_u4 (And.intro @ty_bo4 (And.intro @ty_tz4 (And.intro @ty_zs4 (And.intro @ty_zv4 (@ty_dz4)))))))))))))))))))))))))))))))))))))))) (And.intro (And.intro @ty_k5 (And.intro @ty_z5 (And.intro @ty_b5 (And.intro @ty_i5 (And.intro @ty_u5 (And.intro @ty_tz5 (And.intro @ty_zs5 (And.intro @ty_zv5 (And.intro @ty_dz5 (And.intro @ty_k6 (And.intro @ty_z6 (And.intro @ty_b6 (And.intro @ty_i6 (And.intro @ty_u6 (And.intro @ty_tz6 (And.intro @ty_zs6 (And.intro @ty_zv6 (And.intro @ty_dz6 (And.intro @ty_k7 (And.intro @ty_z7 (And.intro @ty_b7 (And.intro @ty_u7 (And.intro @ty_c7 (And.intro @ty_f7_0 (And.intro @ty_f7_1 (And.intro @ty_f7_2 (And.intro @ty_f7_3 (And.intro @ty_p7 (And.intro @ty_za7 (And.intro @ty_tz7 (And.intro @ty_zs7 (And.intro @ty_zv7 (And.intro @ty_dz7 (And.intro @ty_k8 (And.intro @ty_z8 (And.intro @ty_b8 (And.intro @ty_u8 (And.intro @ty_c8 (And.intro @ty_f8_0 (@ty_f8_1)))))))))))))))))))))))))))))))))))))))) (And.intro (And.intro @ty_f8_2 (And.intro @ty_f8_3 (And.intro @ty_p8 (And.intro @ty_za8 (And.intro @ty_tz8 (And.intro @ty_zs8 (And.intro @ty_zv8 (And.intro @ty_dz8 (And.intro @ty_k9 (And.intro @ty_z9 (And.intro @ty_b9 (And.intro @ty_s9 (And.intro @ty_u9 (And.intro @ty_tz9 (And.intro @ty_zs9 (And.intro @ty_zv9 (And.intro @ty_dz9 (And.intro @ty_k10 (And.intro @ty_z10 (And.intro @ty_b10 (And.intro @ty_s10 (And.intro @ty_u10 (And.intro @ty_tz10 (And.intro @ty_zs10 (And.intro @ty_zv10 (And.intro @ty_dz10 (And.intro @ty_k11 (And.intro @ty_z11 (And.intro @ty_b11 (And.intro @ty_s11 (And.intro @ty_u11 (And.intro @ty_tz11 (And.intro @ty_zs11 (And.intro @ty_zv11 (And.intro @ty_dz11 (And.intro @ty_k12 (And.intro @ty_z12 (And.intro @ty_b12 (And.intro @ty_i12 (@ty_u12)))))))))))))))))))))))))))))))))))))))) (And.intro (And.intro @ty_tz12 (And.intro @ty_zs12 (And.intro @ty_zv12 (And.intro @ty_dz12 (And.intro @ty_k13 (And.intro @ty_z13 (And.intro @ty_b13 (And.intro @ty_u13 (And.intro @ty_f13_0 (And.intro @ty_f13_1 (And.intro @ty_p13 (And.intro @ty_za13 (And.intro @ty_tz13 (And.intro @ty_zs13 (And.intro @ty_zv13 (And.intro @ty_dz13 (And.intro @ty_k14 (And.intro @ty_z14 (And.intro @ty_b14 (And.intro @ty_u14 (And.intro @ty_f14_0 (And.intro @ty_f14_1 (And.intro @ty_p14 (And.intro @ty_za14 (And.intro @ty_tz14 (And.intro @ty_zs14 (And.intro @ty_zv14 (And.intro @ty_dz14 (And.intro @ty_k15 (And.intro @ty_z15 (And.intro @ty_pt15 (And.intro @ty_b15 (And.intro @ty_u15 (And.intro @ty_tz15 (And.intro @ty_zs15 (And.intro @ty_zv15 (And.intro @ty_dz15 (And.intro @ty_k16 (And.intro @ty_z16 (@ty_pt16)))))))))))))))))))))))))))))))))))))))) (And.intro (And.intro @ty_b16 (And.intro @ty_u16 (And.intro @ty_tz16 (And.intro @ty_zs16 (And.intro @ty_zv16 (And.intro @ty_dz16 (And.intro @ty_k17 (And.intro @ty_z17 (And.intro @ty_pt17 (And.intro @ty_b17 (And.intro @ty_u17 (And.intro @ty_tz17 (And.intro @ty_zs17 (And.intro @ty_zv17 (And.intro @ty_dz17 (And.intro @ty_k18 (And.intro @ty_z18 (And.intro @ty_b18 (And.intro @ty_u18 (And.intro @ty_f18_0 (And.intro @ty_p18 (And.intro @ty_za18 (And.intro @ty_tz18 (And.intro @ty_zs18 (And.intro @ty_zv18 (And.intro @ty_dz18 (And.intro @ty_k19 (And.intro @ty_z19 (And.intro @ty_b19 (And.intro @ty_u19 (And.intro @ty_f19_0 (And.intro @ty_p19 (And.intro @ty_za19 (And.intro @ty_tz19 (And.intro @ty_zs19 (And.intro @ty_zv19 (And.intro @ty_dz19 (And.intro @ty_k20 (And.intro @ty_z20 (@ty_b20)))))))))))))))))))))))))))))))))))))))) (And.intro (And.intro @ty_u20 (And.intro @ty_tz20 (And.intro @ty_zs20 (And.intro @ty_zv20 (And.intro @ty_dz20 (And.intro @ty_k21 (And.intro @ty_z21 (And.intro @ty_b21 (And.intro @ty_i21 (And.intro @ty_u21 (And.intro @ty_tz21 (And.intro @ty_zs21 (And.intro @ty_zv21 (And.intro @ty_dz21 (And.intro @ty_k22 (And.intro @ty_z22 (And.intro @ty_b22 (And.intro @ty_u22 (And.intro @ty_c22 (And.intro @ty_f22_0 (And.intro @ty_f22_1 (And.intro @ty_p22 (And.intro @ty_za22 (And.intro @ty_tz22 (And.intro @ty_zs22 (And.intro @ty_zv22 (And.intro @ty_dz22 (And.intro @ty_k23 (And.intro @ty_z23 (And.intro @ty_b23 (And.intro @ty_u23 (And.intro @ty_c23 (And.intro @ty_f23_0 (And.intro @ty_f23_1 (And.intro @ty_p23 (And.intro @ty_za23 (And.intro @ty_tz23 (And.intro @ty_zs23 (And.intro @ty_zv23 (@ty_dz23)))))))))))))))))))))))))))))))))))))))) (And.intro (And.intro @ty_k24 (And.intro @ty_z24 (And.intro @ty_e24 (And.intro @ty_ae24 (And.intro @ty_b24 (And.intro @ty_x24 (And.intro @ty_u24 (And.intro @ty_tz24 (And.intro @ty_zs24 (And.intro @ty_zv24 (And.intro @ty_dz24 (And.intro @ty_k25 (And.intro @ty_z25 (And.intro @ty_e25 (And.intro @ty_ae25 (And.intro @ty_b25 (And.intro @ty_x25 (And.intro @ty_u25 (And.intro @ty_tz25 (And.intro @ty_zs25 (And.intro @ty_zv25 (And.intro @ty_dz25 (And.intro @ty_k26 (And.intro @ty_z26 (And.intro @ty_e26 (And.intro @ty_ae26 (And.intro @ty_b26 (And.intro @ty_x26 (And.intro @ty_u26 (And.intro @ty_tz26 (And.intro @ty_zs26 (And.intro @ty_zv26 (And.intro @ty_dz26 (And.intro @ty_k27 (And.intro @ty_z27 (And.intro @ty_e27 (And.intro @ty_ae27 (And.intro @ty_b27 (And.intro @ty_x27 (@ty_u27)))))))))))))))))))))))))))))))))))))))) (And.intro (And.intro @ty_tz27 (And.intro @ty_zs27 (And.intro @ty_zv27 (And.intro @ty_dz27 (And.intro @ty_k28 (And.intro @ty_z28 (And.intro @ty_e28 (And.intro @ty_ae28 (And.intro @ty_b28 (And.intro @ty_x28 (And.intro @ty_u28 (And.intro @ty_tz28 (And.intro @ty_zs28 (And.intro @ty_zv28 (And.intro @ty_dz28 (And.intro @ty_k29 (And.intro @ty_z29 (And.intro @ty_e29 (And.intro @ty_ae29 (And.intro @ty_b29 (And.intro @ty_x29 (And.intro @ty_u29 (And.intro @ty_tz29 (And.intro @ty_zs29 (And.intro @ty_zv29 (And.intro @ty_dz29 (And.intro @ty_k30 (And.intro @ty_z30 (And.intro @ty_e30 (And.intro @ty_ae30 (And.intro @ty_b30 (And.intro @ty_x30 (And.intro @ty_u30 (And.intro @ty_tz30 (And.intro @ty_zs30 (And.intro @ty_zv30 (And.intro @ty_dz30 (And.intro @ty_k31 (And.intro @ty_z31 (@ty_e31)))))))))))))))))))))))))))))))))))))))) (And.intro (And.intro @ty_ae31 (And.intro @ty_b31 (And.intro @ty_x31 (And.intro @ty_u31 (And.intro @ty_tz31 (And.intro @ty_zs31 (And.intro @ty_zv31 (And.intro @ty_dz31 (And.intro @ty_k32 (And.intro @ty_z32 (And.intro @ty_b32 (And.intro @ty_u32 (And.intro @ty_f32_0 (And.intro @ty_f32_1 (And.intro @ty_f32_2 (And.intro @ty_f32_3 (And.intro @ty_f32_4 (And.intro @ty_f32_5 (And.intro @ty_f32_6 (And.intro @ty_f32_7 (And.intro @ty_f32_8 (And.intro @ty_p32 (And.intro @ty_za32 (And.intro @ty_tz32 (And.intro @ty_zs32 (And.intro @ty_zv32 (And.intro @ty_dz32 (And.intro @ty_k33 (And.intro @ty_z33 (And.intro @ty_b33 (And.intro @ty_u33 (And.intro @ty_f33_0 (And.intro @ty_f33_1 (And.intro @ty_f33_2 (And.intro @ty_f33_3 (And.intro @ty_f33_4 (And.intro @ty_f33_5 (And.intro @ty_f33_6 (And.intro @ty_f33_7 (@ty_f33_8)))))))))))))))))))))))))))))))))))))))) (And.intro (And.intro @ty_p33 (And.intro @ty_za33 (And.intro @ty_tz33 (And.intro @ty_zs33 (And.intro @ty_zv33 (And.intro @ty_dz33 (And.intro @ty_k34 (And.intro @ty_z34 (And.intro @ty_b34 (And.intro @ty_u34 (And.intro @ty_tz34 (And.intro @ty_zs34 (And.intro @ty_zv34 (And.intro @ty_dz34 (And.intro @ty_k35 (And.intro @ty_z35 (And.intro @ty_b35 (And.intro @ty_u35 (And.intro @ty_tz35 (And.intro @ty_zs35 (And.intro @ty_zv35 (And.intro @ty_dz35 (And.intro @ty_k36 (And.intro @ty_z36 (And.intro @ty_e36 (And.intro @ty_ae36 (And.intro @ty_b36 (And.intro @ty_x36 (And.intro @ty_u36 (And.intro @ty_tz36 (And.intro @ty_zs36 (And.intro @ty_zv36 (And.intro @ty_dz36 (And.intro @ty_k37 (And.intro @ty_z37 (And.intro @ty_b37 (And.intro @ty_i37 (And.intro @ty_u37 (And.intro @ty_tz37 (@ty_zs37)))))))))))))))))))))))))))))))))))))))) (And.intro (And.intro @ty_zv37 (And.intro @ty_dz37 (And.intro @ty_k38 (And.intro @ty_z38 (And.intro @ty_b38 (And.intro @ty_u38 (And.intro @ty_zv38 (And.intro @ty_k39 (And.intro @ty_z39 (And.intro @ty_b39 (And.intro @ty_u39 (And.intro @ty_tz39 (And.intro @ty_zs39 (And.intro @ty_zv39 (And.intro @ty_dz39 (And.intro @ty_k40 (And.intro @ty_z40 (And.intro @ty_b40 (And.intro @ty_u40 (And.intro @ty_c40 (And.intro @ty_f40_0 (And.intro @ty_f40_1 (And.intro @ty_f40_2 (And.intro @ty_p40 (And.intro @ty_za40 (And.intro @ty_tz40 (And.intro @ty_zs40 (And.intro @ty_zv40 (And.intro @ty_dz40 (And.intro @ty_k41 (And.intro @ty_z41 (And.intro @ty_b41 (And.intro @ty_u41 (And.intro @ty_c41 (And.intro @ty_f41_0 (And.intro @ty_f41_1 (And.intro @ty_f41_2 (And.intro @ty_p41 (And.intro @ty_za41 (@ty_tz41)))))))))))))))))))))))))))))))))))))))) (And.intro (And.intro @ty_zs41 (And.intro @ty_zv41 (And.intro @ty_dz41 (And.intro @ty_k42 (And.intro @ty_z42 (And.intro @ty_b42 (And.intro @ty_u42 (And.intro @ty_c42 (And.intro @ty_f42_0 (And.intro @ty_f42_1 (And.intro @ty_f42_2 (And.intro @ty_f42_3 (And.intro @ty_f42_4 (And.intro @ty_f42_5 (And.intro @ty_p42 (And.intro @ty_za42 (And.intro @ty_tz42 (And.intro @ty_zs42 (And.intro @ty_zv42 (And.intro @ty_dz42 (And.intro @ty_k43 (And.intro @ty_z43 (And.intro @ty_b43 (And.intro @ty_u43 (And.intro @ty_c43 (And.intro @ty_f43_0 (And.intro @ty_f43_1 (And.intro @ty_f43_2 (And.intro @ty_f43_3 (And.intro @ty_f43_4 (And.intro @ty_f43_5 (And.intro @ty_p43 (And.intro @ty_za43 (And.intro @ty_tz43 (And.intro @ty_zs43 (And.intro @ty_zv43 (And.intro @ty_dz43 (And.intro @ty_k44 (And.intro @ty_z44 (@ty_b44)))))))))))))))))))))))))))))))))))))))) (And.intro (And.intro @ty_u44 (And.intro @ty_zv44 (And.intro @ty_k45 (And.intro @ty_z45 (And.intro @ty_b45 (And.intro @ty_u45 (And.intro @ty_tz45 (And.intro @ty_zs45 (And.intro @ty_zv45 (And.intro @ty_dz45 (And.intro @ty_k46 (And.intro @ty_z46 (And.intro @ty_b46 (And.intro @ty_u46 (And.intro @ty_tz46 (And.intro @ty_zs46 (And.intro @ty_zv46 (And.intro @ty_dz46 (And.intro @ty_k47 (And.intro @ty_z47 (And.intro @ty_e47 (And.intro @ty_ae47 (And.intro @ty_b47 (And.intro @ty_x47 (And.intro @ty_u47 (And.intro @ty_tz47 (And.intro @ty_zs47 (And.intro @ty_zv47 (And.intro @ty_dz47 (And.intro @ty_k48 (And.intro @ty_z48 (And.intro @ty_b48 (And.intro @ty_u48 (And.intro @ty_zv48 (And.intro @ty_k49 (And.intro @ty_z49 (And.intro @ty_b49 (And.intro @ty_u49 (And.intro @ty_tz49 (@ty_zs49)))))))))))))))))))))))))))))))))))))))) (And.intro (And.intro @ty_zv49 (And.intro @ty_dz49 (And.intro @ty_k50 (And.intro @ty_z50 (And.intro @ty_b50 (And.intro @ty_u50 (And.intro @ty_tz50 (And.intro @ty_zs50 (And.intro @ty_zv50 (And.intro @ty_dz50 (And.intro @ty_k51 (And.intro @ty_z51 (And.intro @ty_b51 (And.intro @ty_u51 (And.intro @ty_tz51 (And.intro @ty_zs51 (And.intro @ty_zv51 (And.intro @ty_dz51 (And.intro @ty_k52 (And.intro @ty_z52 (And.intro @ty_b52 (And.intro @ty_u52 (And.intro @ty_tz52 (And.intro @ty_zs52 (And.intro @ty_zv52 (And.intro @ty_dz52 (And.intro @ty_k53 (And.intro @ty_z53 (And.intro @ty_e53 (And.intro @ty_ae53 (And.intro @ty_b53 (And.intro @ty_x53 (And.intro @ty_u53 (And.intro @ty_tz53 (And.intro @ty_zs53 (And.intro @ty_zv53 (And.intro @ty_dz53 (And.intro @ty_k54 (And.intro @ty_z54 (@ty_b54)))))))))))))))))))))))))))))))))))))))) (And.intro (And.intro @ty_u54 (And.intro @ty_zv54 (And.intro @ty_k55 (And.intro @ty_z55 (And.intro @ty_b55 (And.intro @ty_u55 (And.intro @ty_tz55 (And.intro @ty_zs55 (And.intro @ty_zv55 (And.intro @ty_dz55 (And.intro @ty_k56 (And.intro @ty_z56 (And.intro @ty_b56 (And.intro @ty_x56 (And.intro @ty_u56 (And.intro @ty_c56 (And.intro @ty_p56 (And.intro @ty_za56 (And.intro @ty_tz56 (And.intro @ty_zs56 (And.intro @ty_zv56 (And.intro @ty_dz56 (And.intro @ty_k57 (And.intro @ty_z57 (And.intro @ty_b57 (And.intro @ty_u57 (And.intro @ty_tz57 (And.intro @ty_zs57 (And.intro @ty_zv57 (And.intro @ty_dz57 (And.intro @ty_k58 (And.intro @ty_z58 (And.intro @ty_b58 (And.intro @ty_u58 (And.intro @ty_tz58 (And.intro @ty_zs58 (And.intro @ty_zv58 (And.intro @ty_dz58 (And.intro @ty_k59 (@ty_z59)))))))))))))))))))))))))))))))))))))))) (And.intro (And.intro @ty_b59 (And.intro @ty_u59 (And.intro @ty_c59 (And.intro @ty_f59_0 (And.intro @ty_f59_1 (And.intro @ty_f59_2 (And.intro @ty_p59 (And.intro @ty_za59 (And.intro @ty_tz59 (And.intro @ty_zs59 (And.intro @ty_zv59 (And.intro @ty_dz59 (And.intro @ty_k60 (And.intro @ty_z60 (And.intro @ty_b60 (And.intro @ty_u60 (And.intro @ty_c60 (And.intro @ty_f60_0 (And.intro @ty_f60_1 (And.intro @ty_f60_2 (And.intro @ty_p60 (And.intro @ty_za60 (And.intro @ty_tz60 (And.intro @ty_zs60 (And.intro @ty_zv60 (And.intro @ty_dz60 (And.intro @ty_k61 (And.intro @ty_z61 (And.intro @ty_b61 (And.intro @ty_u61 (And.intro @ty_zv61 (And.intro @ty_k62 (And.intro @ty_z62 (And.intro @ty_b62 (And.intro @ty_u62 (And.intro @ty_tz62 (And.intro @ty_zs62 (And.intro @ty_zv62 (And.intro @ty_dz62 (@ty_k63)))))))))))))))))))))))))))))))))))))))) (And.intro (And.intro @ty_z63 (And.intro @ty_e63 (And.intro @ty_ae63 (And.intro @ty_b63 (And.intro @ty_x63 (And.intro @ty_u63 (And.intro @ty_tz63 (And.intro @ty_zs63 (And.intro @ty_zv63 (And.intro @ty_dz63 (And.intro @ty_k64 (And.intro @ty_z64 (And.intro @ty_b64 (And.intro @ty_u64 (And.intro @ty_f64_0 (And.intro @ty_f64_1 (And.intro @ty_f64_2 (And.intro @ty_f64_3 (And.intro @ty_p64 (And.intro @ty_za64 (And.intro @ty_tz64 (And.intro @ty_zs64 (And.intro @ty_zv64 (And.intro @ty_dz64 (And.intro @ty_k65 (And.intro @ty_z65 (And.intro @ty_b65 (And.intro @ty_u65 (And.intro @ty_f65_0 (And.intro @ty_f65_1 (And.intro @ty_f65_2 (And.intro @ty_f65_3 (And.intro @ty_p65 (And.intro @ty_za65 (And.intro @ty_tz65 (And.intro @ty_zs65 (And.intro @ty_zv65 (And.intro @ty_dz65 (And.intro @ty_k66 (@ty_z66)))))))))))))))))))))))))))))))))))))))) (And.intro (And.intro @ty_b66 (And.intro @ty_u66 (And.intro @ty_f66_0 (And.intro @ty_f66_1 (And.intro @ty_f66_2 (And.intro @ty_f66_3 (And.intro @ty_f66_4 (And.intro @ty_f66_5 (And.intro @ty_p66 (And.intro @ty_za66 (And.intro @ty_tz66 (And.intro @ty_zs66 (And.intro @ty_zv66 (And.intro @ty_dz66 (And.intro @ty_k67 (And.intro @ty_z67 (And.intro @ty_b67 (And.intro @ty_u67 (And.intro @ty_f67_0 (And.intro @ty_f67_1 (And.intro @ty_f67_2 (And.intro @ty_f67_3 (And.intro @ty_f67_4 (And.intro @ty_f67_5 (And.intro @ty_p67 (And.intro @ty_za67 (And.intro @ty_tz67 (And.intro @ty_zs67 (And.intro @ty_zv67 (And.intro @ty_dz67 (And.intro @ty_k68 (And.intro @ty_z68 (And.intro @ty_b68 (And.intro @ty_u68 (And.intro @ty_tz68 (And.intro @ty_zs68 (And.intro @ty_zv68 (And.intro @ty_dz68 (And.intro @ty_k69 (@ty_z69)))))))))))))))))))))))))))))))))))))))) (And.intro (And.intro @ty_b69 (And.intro @ty_u69 (And.intro @ty_tz69 (And.intro @ty_zs69 (And.intro @ty_zv69 (And.intro @ty_dz69 (And.intro @ty_k70 (And.intro @ty_z70 (And.intro @ty_b70 (And.intro @ty_u70 (And.intro @ty_tz70 (And.intro @ty_zs70 (And.intro @ty_zv70 (And.intro @ty_dz70 (And.intro @ty_k71 (And.intro @ty_z71 (And.intro @ty_b71 (And.intro @ty_u71 (And.intro @ty_tz71 (And.intro @ty_zs71 (And.intro @ty_zv71 (And.intro @ty_dz71 (And.intro @ty_k72 (And.intro @ty_z72 (And.intro @ty_b72 (And.intro @ty_u72 (And.intro @ty_tz72 (And.intro @ty_zs72 (And.intro @ty_zv72 (And.intro @ty_dz72 (And.intro @ty_k73 (And.intro @ty_z73 (And.intro @ty_b73 (And.intro @ty_u73 (And.intro @ty_tz73 (And.intro @ty_zs73 (And.intro @ty_zv73 (And.intro @ty_dz73 (And.intro @ty_k74 (@ty_z74)))))))))))))))))))))))))))))))))))))))) (And.intro (And.intro @ty_b74 (And.intro @ty_u74 (And.intro @ty_tz74 (And.intro @ty_zs74 (And.intro @ty_zv74 (And.intro @ty_dz74 (And.intro @ty_k75 (And.intro @ty_z75 (And.intro @ty_b75 (And.intro @ty_i75 (And.intro @ty_u75 (And.intro @ty_tz75 (And.intro @ty_zs75 (And.intro @ty_zv75 (And.intro @ty_dz75 (And.intro @ty_k76 (And.intro @ty_z76 (And.intro @ty_b76 (And.intro @ty_u76 (And.intro @ty_tz76 (And.intro @ty_zs76 (And.intro @ty_zv76 (And.intro @ty_dz76 (And.intro @ty_k77 (And.intro @ty_z77 (And.intro @ty_b77 (And.intro @ty_u77 (And.intro @ty_tz77 (And.intro @ty_zs77 (And.intro @ty_zv77 (And.intro @ty_dz77 (And.intro @ty_k78 (And.intro @ty_z78 (And.intro @ty_b78 (And.intro @ty_u78 (And.intro @ty_tz78 (And.intro @ty_zs78 (And.intro @ty_zv78 (And.intro @ty_dz78 (@ty_k79)))))))))))))))))))))))))))))))))))))))) (And.intro (And.intro @ty_z79 (And.intro @ty_m79 (And.intro @ty_b79 (And.intro @ty_u79 (And.intro @ty_tz79 (And.intro @ty_zs79 (And.intro @ty_zv79 (And.intro @ty_dz79 (And.intro @ty_k80 (And.intro @ty_z80 (And.intro @ty_b80 (And.intro @ty_u80 (And.intro @ty_zv80 (And.intro @ty_k81 (And.intro @ty_z81 (And.intro @ty_b81 (And.intro @ty_u81 (And.intro @ty_tz81 (And.intro @ty_zs81 (And.intro @ty_zv81 (And.intro @ty_dz81 (And.intro @ty_k82 (And.intro @ty_z82 (And.intro @ty_b82 (And.intro @ty_u82 (And.intro @ty_tz82 (And.intro @ty_zs82 (And.intro @ty_zv82 (And.intro @ty_dz82 (And.intro @ty_k83 (And.intro @ty_z83 (And.intro @ty_b83 (And.intro @ty_u83 (And.intro @ty_c83 (And.intro @ty_f83_0 (And.intro @ty_f83_1 (And.intro @ty_f83_2 (And.intro @ty_f83_3 (And.intro @ty_f83_4 (@ty_f83_5)))))))))))))))))))))))))))))))))))))))) (And.intro (And.intro @ty_f83_6 (And.intro @ty_p83 (And.intro @ty_za83 (And.intro @ty_tz83 (And.intro @ty_zs83 (And.intro @ty_zv83 (And.intro @ty_dz83 (And.intro @ty_k84 (And.intro @ty_z84 (And.intro @ty_b84 (And.intro @ty_u84 (And.intro @ty_c84 (And.intro @ty_f84_0 (And.intro @ty_f84_1 (And.intro @ty_f84_2 (And.intro @ty_f84_3 (And.intro @ty_f84_4 (And.intro @ty_f84_5 (And.intro @ty_f84_6 (And.intro @ty_p84 (And.intro @ty_za84 (And.intro @ty_tz84 (And.intro @ty_zs84 (And.intro @ty_zv84 (And.intro @ty_dz84 (And.intro @ty_k85 (And.intro @ty_z85 (And.intro @ty_b85 (And.intro @ty_u85 (And.intro @ty_tz85 (And.intro @ty_zs85 (And.intro @ty_zv85 (And.intro @ty_dz85 (And.intro @ty_k86 (And.intro @ty_z86 (And.intro @ty_b86 (And.intro @ty_u86 (And.intro @ty_tz86 (And.intro @ty_zs86 (@ty_zv86)))))))))))))))))))))))))))))))))))))))) (And.intro (And.intro @ty_dz86 (And.intro @ty_k87 (And.intro @ty_z87 (And.intro @ty_b87 (And.intro @ty_u87 (And.intro @ty_tz87 (And.intro @ty_zs87 (And.intro @ty_zv87 (And.intro @ty_dz87 (And.intro @ty_k88 (And.intro @ty_z88 (And.intro @ty_b88 (And.intro @ty_u88 (And.intro @ty_tz88 (And.intro @ty_zs88 (And.intro @ty_zv88 (And.intro @ty_dz88 (And.intro @ty_k89 (And.intro @ty_z89 (And.intro @ty_b89 (And.intro @ty_u89 (And.intro @ty_c89 (And.intro @ty_f89_0 (And.intro @ty_f89_1 (And.intro @ty_p89 (And.intro @ty_za89 (And.intro @ty_tz89 (And.intro @ty_zs89 (And.intro @ty_zv89 (And.intro @ty_dz89 (And.intro @ty_k90 (And.intro @ty_z90 (And.intro @ty_b90 (And.intro @ty_u90 (And.intro @ty_c90 (And.intro @ty_f90_0 (And.intro @ty_f90_1 (And.intro @ty_p90 (And.intro @ty_za90 (@ty_tz90)))))))))))))))))))))))))))))))))))))))) (And.intro (And.intro @ty_zs90 (And.intro @ty_zv90 (And.intro @ty_dz90 (And.intro @ty_k91 (And.intro @ty_z91 (And.intro @ty_b91 (And.intro @ty_u91 (And.intro @ty_c91 (And.intro @ty_f91_0 (And.intro @ty_f91_1 (And.intro @ty_f91_2 (And.intro @ty_f91_3 (And.intro @ty_f91_4 (And.intro @ty_p91 (And.intro @ty_za91 (And.intro @ty_tz91 (And.intro @ty_zs91 (And.intro @ty_zv91 (And.intro @ty_dz91 (And.intro @ty_k92 (And.intro @ty_z92 (And.intro @ty_b92 (And.intro @ty_u92 (And.intro @ty_c92 (And.intro @ty_f92_0 (And.intro @ty_f92_1 (And.intro @ty_f92_2 (And.intro @ty_f92_3 (And.intro @ty_f92_4 (And.intro @ty_p92 (And.intro @ty_za92 (And.intro @ty_tz92 (And.intro @ty_zs92 (And.intro @ty_zv92 (And.intro @ty_dz92 (And.intro @ty_k93 (And.intro @ty_z93 (And.intro @ty_b93 (And.intro @ty_u93 (@ty_tz93)))))))))))))))))))))))))))))))))))))))) (And.intro (And.intro @ty_zs93 (And.intro @ty_zv93 (And.intro @ty_dz93 (And.intro @ty_k94 (And.intro @ty_z94 (And.intro @ty_b94 (And.intro @ty_u94 (And.intro @ty_tz94 (And.intro @ty_zs94 (And.intro @ty_zv94 (And.intro @ty_dz94 (And.intro @ty_k95 (And.intro @ty_z95 (And.intro @ty_b95 (And.intro @ty_u95 (And.intro @ty_tz95 (And.intro @ty_zs95 (And.intro @ty_zv95 (And.intro @ty_dz95 (And.intro @ty_k96 (And.intro @ty_z96 (And.intro @ty_b96 (And.intro @ty_u96 (And.intro @ty_tz96 (And.intro @ty_zs96 (And.intro @ty_zv96 (And.intro @ty_dz96 (And.intro @ty_k97 (And.intro @ty_z97 (And.intro @ty_b97 (And.intro @ty_u97 (And.intro @ty_tz97 (And.intro @ty_zs97 (And.intro @ty_zv97 (And.intro @ty_dz97 (And.intro @ty_k98 (And.intro @ty_z98 (And.intro @ty_b98 (And.intro @ty_u98 (@ty_tz98)))))))))))))))))))))))))))))))))))))))) (And.intro (And.intro @ty_zs98 (And.intro @ty_zv98 (And.intro @ty_dz98 (And.intro @ty_k99 (And.intro @ty_z99 (And.intro @ty_b99 (And.intro @ty_u99 (And.intro @ty_tz99 (And.intro @ty_zs99 (And.intro @ty_zv99 (And.intro @ty_dz99 (And.intro @ty_k100 (And.intro @ty_z100 (And.intro @ty_b100 (And.intro @ty_u100 (And.intro @ty_tz100 (And.intro @ty_zs100 (And.intro @ty_zv100 (And.intro @ty_dz100 (And.intro @ty_k101 (And.intro @ty_z101 (And.intro @ty_b101 (And.intro @ty_u101 (And.intro @ty_tz101 (And.intro @ty_zs101 (And.intro @ty_zv101 (And.intro @ty_dz101 (And.intro @ty_k102 (And.intro @ty_z102 (And.intro @ty_b102 (And.intro @ty_u102 (And.intro @ty_tz102 (And.intro @ty_zs102 (And.intro @ty_zv102 (And.intro @ty_dz102 (And.intro @ty_k103 (And.intro @ty_z103 (And.intro @ty_b103 (And.intro @ty_u103 (@ty_tz103)))))))))))))))))))))))))))))))))))))))) (And.intro (And.intro @ty_zs103 (And.intro @ty_zv103 (And.intro @ty_dz103 (And.intro @ty_k104 (And.intro @ty_z104 (And.intro @ty_b104 (And.intro @ty_u104 (And.intro @ty_tz104 (And.intro @ty_zs104 (And.intro @ty_zv104 (And.intro @ty_dz104 (And.intro @ty_k105 (And.intro @ty_z105 (And.intro @ty_b105 (And.intro @ty_u105 (And.intro @ty_tz105 (And.intro @ty_zs105 (And.intro @ty_zv105 (And.intro @ty_dz105 (And.intro @ty_k106 (And.intro @ty_z106 (And.intro @ty_b106 (And.intro @ty_u106 (And.intro @ty_tz106 (And.intro @ty_zs106 (And.intro @ty_zv106 (And.intro @ty_dz106 (And.intro @ty_k107 (And.intro @ty_z107 (And.intro @ty_b107 (And.intro @ty_u107 (And.intro @ty_tz107 (And.intro @ty_zs107 (And.intro @ty_zv107 (And.intro @ty_dz107 (And.intro @ty_k108 (And.intro @ty_z108 (And.intro @ty_b108 (And.intro @ty_u108 (@ty_tz108)))))))))))))))))))))))))))))))))))))))) (And.intro (And.intro @ty_zs108 (And.intro @ty_zv108 (And.intro @ty_dz108 (And.intro @ty_k109 (And.intro @ty_z109 (And.intro @ty_b109 (And.intro @ty_u109 (And.intro @ty_tz109 (And.intro @ty_zs109 (And.intro @ty_zv109 (And.intro @ty_dz109 (And.intro @ty_k110 (And.intro @ty_z110 (And.intro @ty_b110 (And.intro @ty_u110 (And.intro @ty_tz110 (And.intro @ty_zs110 (And.intro @ty_zv110 (And.intro @ty_dz110 (And.intro @ty_k111 (And.intro @ty_z111 (And.intro @ty_b111 (And.intro @ty_u111 (And.intro @ty_tz111 (And.intro @ty_zs111 (And.intro @ty_zv111 (And.intro @ty_dz111 (And.intro @ty_k112 (And.intro @ty_z112 (And.intro @ty_b112 (And.intro @ty_u112 (And.intro @ty_tz112 (And.intro @ty_zs112 (And.intro @ty_zv112 (And.intro @ty_dz112 (And.intro @ty_k113 (And.intro @ty_z113 (And.intro @ty_b113 (And.intro @ty_u113 (@ty_tz113)))))))))))))))))))))))))))))))))))))))) (And.intro (And.intro @ty_zs113 (And.intro @ty_zv113 (And.intro @ty_dz113 (And.intro @ty_k114 (And.intro @ty_z114 (And.intro @ty_b114 (And.intro @ty_u114 (And.intro @ty_tz114 (And.intro @ty_zs114 (And.intro @ty_zv114 (And.intro @ty_dz114 (And.intro @ty_k115 (And.intro @ty_z115 (And.intro @ty_b115 (And.intro @ty_u115 (And.intro @ty_tz115 (And.intro @ty_zs115 (And.intro @ty_zv115 (And.intro @ty_dz115 (And.intro @ty_k116 (And.intro @ty_z116 (And.intro @ty_b116 (And.intro @ty_u116 (And.intro @ty_c116 (And.intro @ty_f116_0 (And.intro @ty_f116_1 (And.intro @ty_f116_2 (And.intro @ty_p116 (And.intro @ty_za116 (And.intro @ty_tz116 (And.intro @ty_zs116 (And.intro @ty_zv116 (And.intro @ty_dz116 (And.intro @ty_k117 (And.intro @ty_z117 (And.intro @ty_b117 (And.intro @ty_u117 (And.intro @ty_c117 (And.intro @ty_f117_0 (@ty_f117_1)))))))))))))))))))))))))))))))))))))))) (And.intro (And.intro @ty_f117_2 (And.intro @ty_p117 (And.intro @ty_za117 (And.intro @ty_tz117 (And.intro @ty_zs117 (And.intro @ty_zv117 (And.intro @ty_dz117 (And.intro @ty_k118 (And.intro @ty_z118 (And.intro @ty_b118 (And.intro @ty_u118 (And.intro @ty_tz118 (And.intro @ty_zs118 (And.intro @ty_zv118 (And.intro @ty_dz118 (And.intro @ty_k119 (And.intro @ty_z119 (And.intro @ty_b119 (And.intro @ty_u119 (And.intro @ty_tz119 (And.intro @ty_zs119 (And.intro @ty_zv119 (And.intro @ty_dz119 (And.intro @ty_k120 (And.intro @ty_z120 (And.intro @ty_b120 (And.intro @ty_u120 (And.intro @ty_tz120 (And.intro @ty_zs120 (And.intro @ty_zv120 (And.intro @ty_dz120 (And.intro @ty_k121 (And.intro @ty_z121 (And.intro @ty_b121 (And.intro @ty_u121 (And.intro @ty_tz121 (And.intro @ty_zs121 (And.intro @ty_zv121 (And.intro @ty_dz121 (@ty_k122)))))))))))))))))))))))))))))))))))))))) (And.intro (And.intro @ty_z122 (And.intro @ty_b122 (And.intro @ty_u122 (And.intro @ty_zv122 (And.intro @ty_k123 (And.intro @ty_z123 (And.intro @ty_b123 (And.intro @ty_u123 (And.intro @ty_tz123 (And.intro @ty_zs123 (And.intro @ty_zv123 (And.intro @ty_dz123 (And.intro @ty_k124 (And.intro @ty_z124 (And.intro @ty_b124 (And.intro @ty_u124 (And.intro @ty_tz124 (And.intro @ty_zs124 (And.intro @ty_zv124 (And.intro @ty_dz124 (And.intro @ty_k125 (And.intro @ty_z125 (And.intro @ty_b125 (And.intro @ty_u125 (And.intro @ty_tz125 (And.intro @ty_zs125 (And.intro @ty_zv125 (And.intro @ty_dz125 (And.intro @ty_k126 (And.intro @ty_z126 (And.intro @ty_b126 (And.intro @ty_u126 (And.intro @ty_tz126 (And.intro @ty_zs126 (And.intro @ty_zv126 (And.intro @ty_dz126 (And.intro @ty_k127 (And.intro @ty_z127 (And.intro @ty_b127 (@ty_u127)))))))))))))))))))))))))))))))))))))))) (And.intro (And.intro @ty_tz127 (And.intro @ty_zs127 (And.intro @ty_zv127 (And.intro @ty_dz127 (And.intro @ty_k128 (And.intro @ty_z128 (And.intro @ty_b128 (And.intro @ty_u128 (And.intro @ty_tz128 (And.intro @ty_zs128 (And.intro @ty_zv128 (And.intro @ty_dz128 (And.intro @ty_k129 (And.intro @ty_z129 (And.intro @ty_b129 (And.intro @ty_u129 (And.intro @ty_tz129 (And.intro @ty_zs129 (And.intro @ty_zv129 (And.intro @ty_dz129 (And.intro @ty_k130 (And.intro @ty_z130 (And.intro @ty_b130 (And.intro @ty_u130 (And.intro @ty_tz130 (And.intro @ty_zs130 (And.intro @ty_zv130 (And.intro @ty_dz130 (And.intro @ty_k131 (And.intro @ty_z131 (And.intro @ty_b131 (And.intro @ty_u131 (And.intro @ty_c131 (And.intro @ty_f131_0 (And.intro @ty_f131_1 (And.intro @ty_f131_2 (And.intro @ty_p131 (And.intro @ty_za131 (And.intro @ty_tz131 (@ty_zs131)))))))))))))))))))))))))))))))))))))))) (And.intro (And.intro @ty_zv131 (And.intro @ty_dz131 (And.intro @ty_k132 (And.intro @ty_z132 (And.intro @ty_b132 (And.intro @ty_u132 (And.intro @ty_c132 (And.intro @ty_f132_0 (And.intro @ty_f132_1 (And.intro @ty_f132_2 (And.intro @ty_p132 (And.intro @ty_za132 (And.intro @ty_tz132 (And.intro @ty_zs132 (And.intro @ty_zv132 (And.intro @ty_dz132 (And.intro @ty_k133 (And.intro @ty_z133 (And.intro @ty_b133 (And.intro @ty_u133 (And.intro @ty_tz133 (And.intro @ty_zs133 (And.intro @ty_zv133 (And.intro @ty_dz133 (And.intro @ty_k134 (And.intro @ty_z134 (And.intro @ty_b134 (And.intro @ty_u134 (And.intro @ty_tz134 (And.intro @ty_zs134 (And.intro @ty_zv134 (And.intro @ty_dz134 (And.intro @ty_k135 (And.intro @ty_z135 (And.intro @ty_b135 (And.intro @ty_u135 (And.intro @ty_tz135 (And.intro @ty_zs135 (And.intro @ty_zv135 (@ty_dz135)))))))))))))))))))))))))))))))))))))))) (And.intro (And.intro @ty_k136 (And.intro @ty_z136 (And.intro @ty_b136 (And.intro @ty_u136 (And.intro @ty_tz136 (And.intro @ty_zs136 (And.intro @ty_zv136 (And.intro @ty_dz136 (And.intro @ty_k137 (And.intro @ty_z137 (And.intro @ty_b137 (And.intro @ty_u137 (And.intro @ty_tz137 (And.intro @ty_zs137 (And.intro @ty_zv137 (And.intro @ty_dz137 (And.intro @ty_k138 (And.intro @ty_z138 (And.intro @ty_b138 (And.intro @ty_u138 (And.intro @ty_tz138 (And.intro @ty_zs138 (And.intro @ty_zv138 (And.intro @ty_dz138 (And.intro @ty_k139 (And.intro @ty_z139 (And.intro @ty_b139 (And.intro @ty_u139 (And.intro @ty_tz139 (And.intro @ty_zs139 (And.intro @ty_zv139 (And.intro @ty_dz139 (And.intro @ty_k140 (And.intro @ty_z140 (And.intro @ty_b140 (And.intro @ty_u140 (And.intro @ty_tz140 (And.intro @ty_zs140 (And.intro @ty_zv140 (@ty_dz140)))))))))))))))))))))))))))))))))))))))) (And.intro (And.intro @ty_k141 (And.intro @ty_z141 (And.intro @ty_b141 (And.intro @ty_u141 (And.intro @ty_tz141 (And.intro @ty_zs141 (And.intro @ty_zv141 (And.intro @ty_dz141 (And.intro @ty_k142 (And.intro @ty_z142 (And.intro @ty_b142 (And.intro @ty_u142 (And.intro @ty_tz142 (And.intro @ty_zs142 (And.intro @ty_zv142 (And.intro @ty_dz142 (And.intro @ty_k143 (And.intro @ty_z143 (And.intro @ty_b143 (And.intro @ty_u143 (And.intro @ty_tz143 (And.intro @ty_zs143 (And.intro @ty_zv143 (And.intro @ty_dz143 (And.intro @ty_k144 (And.intro @ty_z144 (And.intro @ty_b144 (And.intro @ty_u144 (And.intro @ty_tz144 (And.intro @ty_zs144 (And.intro @ty_zv144 (And.intro @ty_dz144 (And.intro @ty_k145 (And.intro @ty_z145 (And.intro @ty_b145 (And.intro @ty_u145 (And.intro @ty_tz145 (And.intro @ty_zs145 (And.intro @ty_zv145 (@ty_dz145)))))))))))))))))))))))))))))))))))))))) (And.intro (And.intro @ty_k146 (And.intro @ty_z146 (And.intro @ty_b146 (And.intro @ty_u146 (And.intro @ty_tz146 (And.intro @ty_zs146 (And.intro @ty_zv146 (And.intro @ty_dz146 (And.intro @ty_k147 (And.intro @ty_z147 (And.intro @ty_b147 (And.intro @ty_u147 (And.intro @ty_f147_0 (And.intro @ty_f147_1 (And.intro @ty_f147_2 (And.intro @ty_f147_3 (And.intro @ty_p147 (And.intro @ty_za147 (And.intro @ty_tz147 (And.intro @ty_zs147 (And.intro @ty_zv147 (And.intro @ty_dz147 (And.intro @ty_k148 (And.intro @ty_z148 (And.intro @ty_b148 (And.intro @ty_u148 (And.intro @ty_f148_0 (And.intro @ty_f148_1 (And.intro @ty_f148_2 (And.intro @ty_f148_3 (And.intro @ty_p148 (And.intro @ty_za148 (And.intro @ty_tz148 (And.intro @ty_zs148 (And.intro @ty_zv148 (And.intro @ty_dz148 (And.intro @ty_k149 (And.intro @ty_z149 (And.intro @ty_b149 (@ty_x149)))))))))))))))))))))))))))))))))))))))) (And.intro (And.intro @ty_u149 (And.intro @ty_p149 (And.intro @ty_za149 (And.intro @ty_tz149 (And.intro @ty_zs149 (And.intro @ty_zv149 (And.intro @ty_dz149 (And.intro @ty_k150 (And.intro @ty_z150 (And.intro @ty_b150 (And.intro @ty_u150 (And.intro @ty_f150_0 (And.intro @ty_p150 (And.intro @ty_za150 (And.intro @ty_tz150 (And.intro @ty_zs150 (And.intro @ty_zv150 (And.intro @ty_dz150 (And.intro @ty_k151 (And.intro @ty_z151 (And.intro @ty_b151 (And.intro @ty_u151 (And.intro @ty_f151_0 (And.intro @ty_p151 (And.intro @ty_za151 (And.intro @ty_tz151 (And.intro @ty_zs151 (And.intro @ty_zv151 (And.intro @ty_dz151 (And.intro @ty_k152 (And.intro @ty_z152 (And.intro @ty_b152 (And.intro @ty_u152 (And.intro @ty_tz152 (And.intro @ty_zs152 (And.intro @ty_zv152 (And.intro @ty_dz152 (And.intro @ty_k153 (And.intro @ty_z153 (@ty_b153)))))))))))))))))))))))))))))))))))))))) (And.intro (And.intro @ty_i153 (And.intro @ty_u153 (And.intro @ty_tz153 (And.intro @ty_zs153 (And.intro @ty_zv153 (And.intro @ty_dz153 (And.intro @ty_k154 (And.intro @ty_z154 (And.intro @ty_b154 (And.intro @ty_i154 (And.intro @ty_u154 (And.intro @ty_tz154 (And.intro @ty_zs154 (And.intro @ty_zv154 (And.intro @ty_dz154 (And.intro @ty_k155 (And.intro @ty_z155 (And.intro @ty_b155 (And.intro @ty_i155 (And.intro @ty_u155 (And.intro @ty_tz155 (And.intro @ty_zs155 (And.intro @ty_zv155 (And.intro @ty_dz155 (And.intro @ty_k156 (And.intro @ty_z156 (And.intro @ty_b156 (And.intro @ty_u156 (And.intro @ty_tz156 (And.intro @ty_zs156 (And.intro @ty_zv156 (And.intro @ty_dz156 (And.intro @ty_k157 (And.intro @ty_z157 (And.intro @ty_pt157 (And.intro @ty_b157 (And.intro @ty_u157 (And.intro @ty_tz157 (And.intro @ty_zs157 (@ty_zv157)))))))))))))))))))))))))))))))))))))))) (And.intro (And.intro @ty_dz157 (And.intro @ty_k158 (And.intro @ty_z158 (And.intro @ty_b158 (And.intro @ty_i158 (And.intro @ty_u158 (And.intro @ty_tz158 (And.intro @ty_zs158 (And.intro @ty_zv158 (And.intro @ty_dz158 (And.intro @ty_k159 (And.intro @ty_z159 (And.intro @ty_b159 (And.intro @ty_i159 (And.intro @ty_u159 (And.intro @ty_tz159 (And.intro @ty_zs159 (And.intro @ty_zv159 (And.intro @ty_dz159 (And.intro @ty_k160 (And.intro @ty_z160 (And.intro @ty_b160 (And.intro @ty_u160 (And.intro @ty_f160_0 (And.intro @ty_f160_1 (And.intro @ty_f160_2 (And.intro @ty_f160_3 (And.intro @ty_f160_4 (And.intro @ty_f160_5 (And.intro @ty_f160_6 (And.intro @ty_f160_7 (And.intro @ty_f160_8 (And.intro @ty_f160_9 (And.intro @ty_f160_10 (And.intro @ty_p160 (And.intro @ty_za160 (And.intro @ty_tz160 (And.intro @ty_zs160 (And.intro @ty_zv160 (@ty_dz160)))))))))))))))))))))))))))))))))))))))) (And.intro @ty_k161 (And.intro @ty_z161 (And.intro @ty_b161 (And.intro @ty_u161 (And.intro @ty_f161_0 (And.intro @ty_f161_1 (And.intro @ty_f161_2 (And.intro @ty_f161_3 (And.intro @ty_f161_4 (And.intro @ty_f161_5 (And.intro @ty_f161_6 (And.intro @ty_f161_7 (And.intro @ty_f161_8 (And.intro @ty_f161_9 (And.intro @ty_f161_10 (And.intro @ty_p161 (And.intro @ty_za161 (And.intro @ty_tz161 (And.intro @ty_zs161 (And.intro @ty_zv161 (And.intro @ty_dz161 (And.intro @ty_k162 (And.intro @ty_z162 (And.intro @ty_b162 (And.intro @ty_u162 (And.intro @ty_tz162 (And.intro @ty_zs162 (And.intro @ty_zv162 (@ty_dz162)))))))))))))))))))))))))))))))))))))))))))))))))))))))))))))))))))
end Ytccgdcmgjdhikaa
end Go.Proofs
