/- A part of the proof: contracts of functions of this seat, and lemmas. No condition beyond those stated. -/
import Derived.Test.YtlelaieadgkemaaG4
import Derived.Test.YtlelaieadgkemaaProg
set_option linter.unusedVariables false
set_option linter.unusedSimpArgs false
set_option linter.unusedSectionVars false
set_option linter.unnecessarySimpa false
/- Facts of the types of this seat, printed by a small program. -/
namespace Go.Proofs
open Go.AM
namespace Ytlelaieadgkemaa
theorem ty_k0 : tkind Try.prog 0 = some false := by kernel_rfl
theorem ty_z0 : tsz Try.prog 0 = some 1 := by kernel_rfl
theorem ty_b0 : tbytes Try.prog 0 = some 0 := by kernel_rfl
theorem ty_u0 : (Try.prog.underlying 0).isSome = true := by kernel_rfl
theorem ty_zv0 : zeroV Try.prog 0 = .undef := by kernel_rfl
theorem ty_k1 : tkind Try.prog 1 = some false := by kernel_rfl
theorem ty_z1 : tsz Try.prog 1 = some 1 := by kernel_rfl
theorem ty_b1 : tbytes Try.prog 1 = some 8 := by kernel_rfl
theorem ty_u1 : (Try.prog.underlying 1).isSome = true := by kernel_rfl
theorem ty_tz1 : tzero Try.prog 1 = some (Value.nilFunc) := by kernel_rfl
theorem ty_zs1 : (Value.nilFunc).cells.size = 1 := by kernel_rfl
theorem ty_zv1 : zeroV Try.prog 1 = .d (D.raw .nilFunc) := by kernel_rfl
theorem ty_dz1 : dataZero Try.prog 1 = some (D.raw .nilFunc) := by kernel_rfl
theorem ty_k2 : tkind Try.prog 2 = some false := by kernel_rfl
theorem ty_z2 : tsz Try.prog 2 = some 1 := by kernel_rfl
theorem ty_b2 : tbytes Try.prog 2 = some 8 := by kernel_rfl
theorem ty_i2 : tintk Try.prog 2 = some .i64 := by kernel_rfl
theorem ty_u2 : (Try.prog.underlying 2).isSome = true := by kernel_rfl
theorem ty_tz2 : tzero Try.prog 2 = some (Value.int .i64 0) := by kernel_rfl
theorem ty_zs2 : (Value.int .i64 0).cells.size = 1 := by kernel_rfl
theorem ty_zv2 : zeroV Try.prog 2 = .d (D.int .i64 0) := by kernel_rfl
theorem ty_dz2 : dataZero Try.prog 2 = some (D.int .i64 0) := by kernel_rfl
theorem ty_k3 : tkind Try.prog 3 = some false := by kernel_rfl
theorem ty_z3 : tsz Try.prog 3 = some 1 := by kernel_rfl
theorem ty_b3 : tbytes Try.prog 3 = some 8 := by kernel_rfl
theorem ty_i3 : tintk Try.prog 3 = some .i64 := by kernel_rfl
theorem ty_u3 : (Try.prog.underlying 3).isSome = true := by kernel_rfl
theorem ty_tz3 : tzero Try.prog 3 = some (Value.int .i64 0) := by kernel_rfl
theorem ty_zs3 : (Value.int .i64 0).cells.size = 1 := by kernel_rfl
theorem ty_zv3 : zeroV Try.prog 3 = .d (D.int .i64 0) := by kernel_rfl
theorem ty_dz3 : dataZero Try.prog 3 = some (D.int .i64 0) := by kernel_rfl
theorem ty_k4 : tkind Try.prog 4 = some false := by kernel_rfl
theorem ty_z4 : tsz Try.prog 4 = some 1 := by kernel_rfl
theorem ty_b4 : tbytes Try.prog 4 = some 1 := by kernel_rfl
theorem ty_u4 : (Try.prog.underlying 4).isSome = true := by kernel_rfl
theorem ty_bo4 : Try.prog.underlying 4 = some .bool := by kernel_rfl
theorem ty_tz4 : tzero Try.prog 4 = some (Value.bool false) := by kernel_rfl
theorem ty_zs4 : (Value.bool false).cells.size = 1 := by kernel_rfl
theorem ty_zv4 : zeroV Try.prog 4 = .d (D.bool false) := by kernel_rfl
theorem ty_dz4 : dataZero Try.prog 4 = some (D.bool false) := by kernel_rfl
theorem ty_k5 : tkind Try.prog 5 = some false := by kernel_rfl
theorem ty_z5 : tsz Try.prog 5 = some 1 := by kernel_rfl
theorem ty_b5 : tbytes Try.prog 5 = some 1 := by kernel_rfl
theorem ty_i5 : tintk Try.prog 5 = some .u8 := by kernel_rfl
theorem ty_u5 : (Try.prog.underlying 5).isSome = true := by kernel_rfl
theorem ty_tz5 : tzero Try.prog 5 = some (Value.int .u8 0) := by kernel_rfl
theorem ty_zs5 : (Value.int .u8 0).cells.size = 1 := by kernel_rfl
theorem ty_zv5 : zeroV Try.prog 5 = .d (D.int .u8 0) := by kernel_rfl
theorem ty_dz5 : dataZero Try.prog 5 = some (D.int .u8 0) := by kernel_rfl
theorem ty_k6 : tkind Try.prog 6 = some false := by kernel_rfl
theorem ty_z6 : tsz Try.prog 6 = some 1 := by kernel_rfl
theorem ty_b6 : tbytes Try.prog 6 = some 1 := by kernel_rfl
theorem ty_i6 : tintk Try.prog 6 = some .u8 := by kernel_rfl
theorem ty_u6 : (Try.prog.underlying 6).isSome = true := by kernel_rfl
theorem ty_tz6 : tzero Try.prog 6 = some (Value.int .u8 0) := by kernel_rfl
theorem ty_zs6 : (Value.int .u8 0).cells.size = 1 := by kernel_rfl
theorem ty_zv6 : zeroV Try.prog 6 = .d (D.int .u8 0) := by kernel_rfl
theorem ty_dz6 : dataZero Try.prog 6 = some (D.int .u8 0) := by kernel_rfl
theorem ty_k7 : tkind Try.prog 7 = some true := by kernel_rfl
theorem ty_z7 : tsz Try.prog 7 = some 4 := by kernel_rfl
theorem ty_b7 : tbytes Try.prog 7 = some 24 := by kernel_rfl
theorem ty_u7 : (Try.prog.underlying 7).isSome = true := by kernel_rfl
theorem ty_c7 : tcmp Try.prog 7 = some [0, 0, 1, 0] := by kernel_rfl
theorem ty_f7_0 : tfld Try.prog 7 0 = some (0, 1, false) := by kernel_rfl
theorem ty_f7_1 : tfld Try.prog 7 1 = some (1, 1, false) := by kernel_rfl
theorem ty_f7_2 : tfld Try.prog 7 2 = some (2, 1, false) := by kernel_rfl
theorem ty_f7_3 : tfld Try.prog 7 3 = some (3, 1, false) := by kernel_rfl
theorem ty_p7 : tplaces Try.prog 7 = some [(0, 1), (1, 1), (2, 1), (3, 1)] := by kernel_rfl
theorem ty_za7 : tzeroA Try.prog 7 = some [.d (D.int .i64 0), .d (D.int .i64 0), .d (D.bool false), .d (D.int .u8 0)] := by kernel_rfl
theorem ty_tz7 : tzero Try.prog 7 = some (Value.agg #[Value.int .i64 0, Value.int .i64 0, Value.bool false, Value.int .u8 0]) := by kernel_rfl
theorem ty_zs7 : (Value.agg #[Value.int .i64 0, Value.int .i64 0, Value.bool false, Value.int .u8 0]).cells.size = 4 := by kernel_rfl
theorem ty_zv7 : zeroV Try.prog 7 = .d (D.agg [D.int .i64 0, D.int .i64 0, D.bool false, D.int .u8 0]) := by kernel_rfl
theorem ty_dz7 : dataZero Try.prog 7 = some (D.agg [D.int .i64 0, D.int .i64 0, D.bool false, D.int .u8 0]) := by kernel_rfl
theorem ty_k8 : tkind Try.prog 8 = some true := by kernel_rfl
theorem ty_z8 : tsz Try.prog 8 = some 4 := by kernel_rfl
theorem ty_b8 : tbytes Try.prog 8 = some 24 := by kernel_rfl
theorem ty_u8 : (Try.prog.underlying 8).isSome = true := by kernel_rfl
theorem ty_c8 : tcmp Try.prog 8 = some [0, 0, 1, 0] := by kernel_rfl
theorem ty_f8_0 : tfld Try.prog 8 0 = some (0, 1, false) := by kernel_rfl
theorem ty_f8_1 : tfld Try.prog 8 1 = some (1, 1, false) := by kernel_rfl
theorem ty_f8_2 : tfld Try.prog 8 2 = some (2, 1, false) := by kernel_rfl
theorem ty_f8_3 : tfld Try.prog 8 3 = some (3, 1, false) := by kernel_rfl
theorem ty_p8 : tplaces Try.prog 8 = some [(0, 1), (1, 1), (2, 1), (3, 1)] := by kernel_rfl
theorem ty_za8 : tzeroA Try.prog 8 = some [.d (D.int .i64 0), .d (D.int .i64 0), .d (D.bool false), .d (D.int .u8 0)] := by kernel_rfl
theorem ty_tz8 : tzero Try.prog 8 = some (Value.agg #[Value.int .i64 0, Value.int .i64 0, Value.bool false, Value.int .u8 0]) := by kernel_rfl
theorem ty_zs8 : (Value.agg #[Value.int .i64 0, Value.int .i64 0, Value.bool false, Value.int .u8 0]).cells.size = 4 := by kernel_rfl
theorem ty_zv8 : zeroV Try.prog 8 = .d (D.agg [D.int .i64 0, D.int .i64 0, D.bool false, D.int .u8 0]) := by kernel_rfl
theorem ty_dz8 : dataZero Try.prog 8 = some (D.agg [D.int .i64 0, D.int .i64 0, D.bool false, D.int .u8 0]) := by kernel_rfl
theorem ty_k9 : tkind Try.prog 9 = some false := by kernel_rfl
theorem ty_z9 : tsz Try.prog 9 = some 1 := by kernel_rfl
theorem ty_b9 : tbytes Try.prog 9 = some 16 := by kernel_rfl
theorem ty_s9 : tstr Try.prog 9 = true := by kernel_rfl
theorem ty_u9 : (Try.prog.underlying 9).isSome = true := by kernel_rfl
theorem ty_tz9 : tzero Try.prog 9 = some (Value.string ⟨#[]⟩) := by kernel_rfl
theorem ty_zs9 : (Value.string ⟨#[]⟩).cells.size = 1 := by kernel_rfl
theorem ty_zv9 : zeroV Try.prog 9 = .d (D.str []) := by kernel_rfl
theorem ty_dz9 : dataZero Try.prog 9 = some (D.str []) := by kernel_rfl
theorem ty_k10 : tkind Try.prog 10 = some false := by kernel_rfl
theorem ty_z10 : tsz Try.prog 10 = some 1 := by kernel_rfl
theorem ty_b10 : tbytes Try.prog 10 = some 16 := by kernel_rfl
theorem ty_s10 : tstr Try.prog 10 = true := by kernel_rfl
theorem ty_u10 : (Try.prog.underlying 10).isSome = true := by kernel_rfl
theorem ty_tz10 : tzero Try.prog 10 = some (Value.string ⟨#[]⟩) := by kernel_rfl
theorem ty_zs10 : (Value.string ⟨#[]⟩).cells.size = 1 := by kernel_rfl
theorem ty_zv10 : zeroV Try.prog 10 = .d (D.str []) := by kernel_rfl
theorem ty_dz10 : dataZero Try.prog 10 = some (D.str []) := by kernel_rfl
theorem ty_k11 : tkind Try.prog 11 = some false := by kernel_rfl
theorem ty_z11 : tsz Try.prog 11 = some 1 := by kernel_rfl
theorem ty_b11 : tbytes Try.prog 11 = some 16 := by kernel_rfl
theorem ty_s11 : tstr Try.prog 11 = true := by kernel_rfl
theorem ty_u11 : (Try.prog.underlying 11).isSome = true := by kernel_rfl
theorem ty_tz11 : tzero Try.prog 11 = some (Value.string ⟨#[]⟩) := by kernel_rfl
theorem ty_zs11 : (Value.string ⟨#[]⟩).cells.size = 1 := by kernel_rfl
theorem ty_zv11 : zeroV Try.prog 11 = .d (D.str []) := by kernel_rfl
theorem ty_dz11 : dataZero Try.prog 11 = some (D.str []) := by kernel_rfl
theorem ty_k12 : tkind Try.prog 12 = some false := by kernel_rfl
theorem ty_z12 : tsz Try.prog 12 = some 1 := by kernel_rfl
theorem ty_b12 : tbytes Try.prog 12 = some 8 := by kernel_rfl
theorem ty_i12 : tintk Try.prog 12 = some .u64 := by kernel_rfl
theorem ty_u12 : (Try.prog.underlying 12).isSome = true := by kernel_rfl
theorem ty_tz12 : tzero Try.prog 12 = some (Value.int .u64 0) := by kernel_rfl
theorem ty_zs12 : (Value.int .u64 0).cells.size = 1 := by kernel_rfl
theorem ty_zv12 : zeroV Try.prog 12 = .d (D.int .u64 0) := by kernel_rfl
theorem ty_dz12 : dataZero Try.prog 12 = some (D.int .u64 0) := by kernel_rfl
theorem ty_k13 : tkind Try.prog 13 = some true := by kernel_rfl
theorem ty_z13 : tsz Try.prog 13 = some 2 := by kernel_rfl
theorem ty_b13 : tbytes Try.prog 13 = some 24 := by kernel_rfl
theorem ty_u13 : (Try.prog.underlying 13).isSome = true := by kernel_rfl
theorem ty_f13_0 : tfld Try.prog 13 0 = some (0, 1, false) := by kernel_rfl
theorem ty_f13_1 : tfld Try.prog 13 1 = some (1, 1, false) := by kernel_rfl
theorem ty_p13 : tplaces Try.prog 13 = some [(0, 1), (1, 1)] := by kernel_rfl
theorem ty_za13 : tzeroA Try.prog 13 = some [.d (D.str []), .d (D.int .u64 0)] := by kernel_rfl
theorem ty_tz13 : tzero Try.prog 13 = some (Value.agg #[Value.string ⟨#[]⟩, Value.int .u64 0]) := by kernel_rfl
theorem ty_zs13 : (Value.agg #[Value.string ⟨#[]⟩, Value.int .u64 0]).cells.size = 2 := by kernel_rfl
theorem ty_zv13 : zeroV Try.prog 13 = .d (D.agg [D.str [], D.int .u64 0]) := by kernel_rfl
theorem ty_dz13 : dataZero Try.prog 13 = some (D.agg [D.str [], D.int .u64 0]) := by kernel_rfl
theorem ty_k14 : tkind Try.prog 14 = some true := by kernel_rfl
theorem ty_z14 : tsz Try.prog 14 = some 2 := by kernel_rfl
theorem ty_b14 : tbytes Try.prog 14 = some 24 := by kernel_rfl
theorem ty_u14 : (Try.prog.underlying 14).isSome = true := by kernel_rfl
theorem ty_f14_0 : tfld Try.prog 14 0 = some (0, 1, false) := by kernel_rfl
theorem ty_f14_1 : tfld Try.prog 14 1 = some (1, 1, false) := by kernel_rfl
theorem ty_p14 : tplaces Try.prog 14 = some [(0, 1), (1, 1)] := by kernel_rfl
theorem ty_za14 : tzeroA Try.prog 14 = some [.d (D.str []), .d (D.int .u64 0)] := by kernel_rfl
theorem ty_tz14 : tzero Try.prog 14 = some (Value.agg #[Value.string ⟨#[]⟩, Value.int .u64 0]) := by kernel_rfl
theorem ty_zs14 : (Value.agg #[Value.string ⟨#[]⟩, Value.int .u64 0]).cells.size = 2 := by kernel_rfl
theorem ty_zv14 : zeroV Try.prog 14 = .d (D.agg [D.str [], D.int .u64 0]) := by kernel_rfl
theorem ty_dz14 : dataZero Try.prog 14 = some (D.agg [D.str [], D.int .u64 0]) := by kernel_rfl
theorem ty_k15 : tkind Try.prog 15 = some false := by kernel_rfl
theorem ty_z15 : tsz Try.prog 15 = some 1 := by kernel_rfl
theorem ty_pt15 : tptr Try.prog 15 = true := by kernel_rfl
theorem ty_b15 : tbytes Try.prog 15 = some 8 := by kernel_rfl
theorem ty_u15 : (Try.prog.underlying 15).isSome = true := by kernel_rfl
theorem ty_tz15 : tzero Try.prog 15 = some (Value.pointer none) := by kernel_rfl
theorem ty_zs15 : (Value.pointer none).cells.size = 1 := by kernel_rfl
theorem ty_zv15 : zeroV Try.prog 15 = .d (D.raw (.pointer none)) := by kernel_rfl
theorem ty_dz15 : dataZero Try.prog 15 = some (D.raw (.pointer none)) := by kernel_rfl
theorem ty_k16 : tkind Try.prog 16 = some false := by kernel_rfl
theorem ty_z16 : tsz Try.prog 16 = some 1 := by kernel_rfl
theorem ty_pt16 : tptr Try.prog 16 = true := by kernel_rfl
theorem ty_b16 : tbytes Try.prog 16 = some 8 := by kernel_rfl
theorem ty_u16 : (Try.prog.underlying 16).isSome = true := by kernel_rfl
theorem ty_tz16 : tzero Try.prog 16 = some (Value.pointer none) := by kernel_rfl
theorem ty_zs16 : (Value.pointer none).cells.size = 1 := by kernel_rfl
theorem ty_zv16 : zeroV Try.prog 16 = .d (D.raw (.pointer none)) := by kernel_rfl
theorem ty_dz16 : dataZero Try.prog 16 = some (D.raw (.pointer none)) := by kernel_rfl
theorem ty_k17 : tkind Try.prog 17 = some false := by kernel_rfl
theorem ty_z17 : tsz Try.prog 17 = some 1 := by kernel_rfl
theorem ty_pt17 : tptr Try.prog 17 = true := by kernel_rfl
theorem ty_b17 : tbytes Try.prog 17 = some 8 := by kernel_rfl
theorem ty_u17 : (Try.prog.underlying 17).isSome = true := by kernel_rfl
theorem ty_tz17 : tzero Try.prog 17 = some (Value.pointer none) := by kernel_rfl
theorem ty_zs17 : (Value.pointer none).cells.size = 1 := by kernel_rfl
theorem ty_zv17 : zeroV Try.prog 17 = .d (D.raw (.pointer none)) := by kernel_rfl
theorem ty_dz17 : dataZero Try.prog 17 = some (D.raw (.pointer none)) := by kernel_rfl
theorem ty_k18 : tkind Try.prog 18 = some true := by kernel_rfl
theorem ty_z18 : tsz Try.prog 18 = some 1 := by kernel_rfl
theorem ty_b18 : tbytes Try.prog 18 = some 8 := by kernel_rfl
theorem ty_u18 : (Try.prog.underlying 18).isSome = true := by kernel_rfl
theorem ty_f18_0 : tfld Try.prog 18 0 = some (0, 1, false) := by kernel_rfl
theorem ty_p18 : tplaces Try.prog 18 = some [(0, 1)] := by kernel_rfl
theorem ty_za18 : tzeroA Try.prog 18 = some [.d (D.raw (.pointer none))] := by kernel_rfl
theorem ty_tz18 : tzero Try.prog 18 = some (Value.agg #[Value.pointer none]) := by kernel_rfl
theorem ty_zs18 : (Value.agg #[Value.pointer none]).cells.size = 1 := by kernel_rfl
theorem ty_zv18 : zeroV Try.prog 18 = .d (D.agg [D.raw (.pointer none)]) := by kernel_rfl
theorem ty_dz18 : dataZero Try.prog 18 = some (D.agg [D.raw (.pointer none)]) := by kernel_rfl
theorem ty_k19 : tkind Try.prog 19 = some true := by kernel_rfl
theorem ty_z19 : tsz Try.prog 19 = some 1 := by kernel_rfl
theorem ty_b19 : tbytes Try.prog 19 = some 8 := by kernel_rfl
theorem ty_u19 : (Try.prog.underlying 19).isSome = true := by kernel_rfl
theorem ty_f19_0 : tfld Try.prog 19 0 = some (0, 1, false) := by kernel_rfl
theorem ty_p19 : tplaces Try.prog 19 = some [(0, 1)] := by kernel_rfl
theorem ty_za19 : tzeroA Try.prog 19 = some [.d (D.raw (.pointer none))] := by kernel_rfl
theorem ty_tz19 : tzero Try.prog 19 = some (Value.agg #[Value.pointer none]) := by kernel_rfl
theorem ty_zs19 : (Value.agg #[Value.pointer none]).cells.size = 1 := by kernel_rfl
theorem ty_zv19 : zeroV Try.prog 19 = .d (D.agg [D.raw (.pointer none)]) := by kernel_rfl
theorem ty_dz19 : dataZero Try.prog 19 = some (D.agg [D.raw (.pointer none)]) := by kernel_rfl
theorem ty_k20 : tkind Try.prog 20 = some false := by kernel_rfl
theorem ty_z20 : tsz Try.prog 20 = some 1 := by kernel_rfl
theorem ty_b20 : tbytes Try.prog 20 = some 16 := by kernel_rfl
theorem ty_u20 : (Try.prog.underlying 20).isSome = true := by kernel_rfl
theorem ty_tz20 : tzero Try.prog 20 = some (Value.nilIface) := by kernel_rfl
theorem ty_zs20 : (Value.nilIface).cells.size = 1 := by kernel_rfl
theorem ty_zv20 : zeroV Try.prog 20 = .d (D.raw .nilIface) := by kernel_rfl
theorem ty_dz20 : dataZero Try.prog 20 = some (D.raw .nilIface) := by kernel_rfl
theorem ty_k21 : tkind Try.prog 21 = some false := by kernel_rfl
theorem ty_z21 : tsz Try.prog 21 = some 1 := by kernel_rfl
theorem ty_b21 : tbytes Try.prog 21 = some 4 := by kernel_rfl
theorem ty_i21 : tintk Try.prog 21 = some .i32 := by kernel_rfl
theorem ty_u21 : (Try.prog.underlying 21).isSome = true := by kernel_rfl
theorem ty_tz21 : tzero Try.prog 21 = some (Value.int .i32 0) := by kernel_rfl
theorem ty_zs21 : (Value.int .i32 0).cells.size = 1 := by kernel_rfl
theorem ty_zv21 : zeroV Try.prog 21 = .d (D.int .i32 0) := by kernel_rfl
theorem ty_dz21 : dataZero Try.prog 21 = some (D.int .i32 0) := by kernel_rfl
theorem ty_k22 : tkind Try.prog 22 = some false := by kernel_rfl
theorem ty_z22 : tsz Try.prog 22 = some 1 := by kernel_rfl
theorem ty_e22 : telem Try.prog 22 = some 41 := by kernel_rfl
theorem ty_ae22 : apEs Try.prog 22 = 10 := by kernel_rfl
theorem ty_b22 : tbytes Try.prog 22 = some 24 := by kernel_rfl
theorem ty_x22 : tidx Try.prog 22 = some (none, 10) := by kernel_rfl
theorem ty_u22 : (Try.prog.underlying 22).isSome = true := by kernel_rfl
theorem ty_tz22 : tzero Try.prog 22 = some (Value.slice none 0 0) := by kernel_rfl
theorem ty_zs22 : (Value.slice none 0 0).cells.size = 1 := by kernel_rfl
theorem ty_zv22 : zeroV Try.prog 22 = .nils := by kernel_rfl
theorem ty_dz22 : dataZero Try.prog 22 = some (D.sl []) := by kernel_rfl
theorem ty_k23 : tkind Try.prog 23 = some false := by kernel_rfl
theorem ty_z23 : tsz Try.prog 23 = some 1 := by kernel_rfl
theorem ty_b23 : tbytes Try.prog 23 = some 8 := by kernel_rfl
theorem ty_u23 : (Try.prog.underlying 23).isSome = true := by kernel_rfl
theorem ty_tz23 : tzero Try.prog 23 = some (Value.nilFunc) := by kernel_rfl
theorem ty_zs23 : (Value.nilFunc).cells.size = 1 := by kernel_rfl
theorem ty_zv23 : zeroV Try.prog 23 = .d (D.raw .nilFunc) := by kernel_rfl
theorem ty_dz23 : dataZero Try.prog 23 = some (D.raw .nilFunc) := by kernel_rfl
theorem ty_k24 : tkind Try.prog 24 = some false := by kernel_rfl
theorem ty_z24 : tsz Try.prog 24 = some 1 := by kernel_rfl
theorem ty_b24 : tbytes Try.prog 24 = some 8 := by kernel_rfl
theorem ty_u24 : (Try.prog.underlying 24).isSome = true := by kernel_rfl
theorem ty_tz24 : tzero Try.prog 24 = some (Value.nilFunc) := by kernel_rfl
theorem ty_zs24 : (Value.nilFunc).cells.size = 1 := by kernel_rfl
theorem ty_zv24 : zeroV Try.prog 24 = .d (D.raw .nilFunc) := by kernel_rfl
theorem ty_dz24 : dataZero Try.prog 24 = some (D.raw .nilFunc) := by kernel_rfl
theorem ty_k25 : tkind Try.prog 25 = some false := by kernel_rfl
theorem ty_z25 : tsz Try.prog 25 = some 1 := by kernel_rfl
theorem ty_e25 : telem Try.prog 25 = some 45 := by kernel_rfl
theorem ty_ae25 : apEs Try.prog 25 = 3 := by kernel_rfl
theorem ty_b25 : tbytes Try.prog 25 = some 24 := by kernel_rfl
theorem ty_x25 : tidx Try.prog 25 = some (none, 3) := by kernel_rfl
theorem ty_u25 : (Try.prog.underlying 25).isSome = true := by kernel_rfl
theorem ty_tz25 : tzero Try.prog 25 = some (Value.slice none 0 0) := by kernel_rfl
theorem ty_zs25 : (Value.slice none 0 0).cells.size = 1 := by kernel_rfl
theorem ty_zv25 : zeroV Try.prog 25 = .nils := by kernel_rfl
theorem ty_dz25 : dataZero Try.prog 25 = some (D.sl []) := by kernel_rfl
theorem ty_k26 : tkind Try.prog 26 = some false := by kernel_rfl
theorem ty_z26 : tsz Try.prog 26 = some 1 := by kernel_rfl
theorem ty_b26 : tbytes Try.prog 26 = some 8 := by kernel_rfl
theorem ty_u26 : (Try.prog.underlying 26).isSome = true := by kernel_rfl
theorem ty_tz26 : tzero Try.prog 26 = some (Value.nilFunc) := by kernel_rfl
theorem ty_zs26 : (Value.nilFunc).cells.size = 1 := by kernel_rfl
theorem ty_zv26 : zeroV Try.prog 26 = .d (D.raw .nilFunc) := by kernel_rfl
theorem ty_dz26 : dataZero Try.prog 26 = some (D.raw .nilFunc) := by kernel_rfl
theorem ty_k27 : tkind Try.prog 27 = some false := by kernel_rfl
theorem ty_z27 : tsz Try.prog 27 = some 1 := by kernel_rfl
theorem ty_b27 : tbytes Try.prog 27 = some 8 := by kernel_rfl
theorem ty_u27 : (Try.prog.underlying 27).isSome = true := by kernel_rfl
theorem ty_tz27 : tzero Try.prog 27 = some (Value.nilFunc) := by kernel_rfl
theorem ty_zs27 : (Value.nilFunc).cells.size = 1 := by kernel_rfl
theorem ty_zv27 : zeroV Try.prog 27 = .d (D.raw .nilFunc) := by kernel_rfl
theorem ty_dz27 : dataZero Try.prog 27 = some (D.raw .nilFunc) := by kernel_rfl
theorem ty_k28 : tkind Try.prog 28 = some false := by kernel_rfl
theorem ty_z28 : tsz Try.prog 28 = some 1 := by kernel_rfl
theorem ty_b28 : tbytes Try.prog 28 = some 8 := by kernel_rfl
theorem ty_i28 : tintk Try.prog 28 = some .i64 := by kernel_rfl
theorem ty_u28 : (Try.prog.underlying 28).isSome = true := by kernel_rfl
theorem ty_tz28 : tzero Try.prog 28 = some (Value.int .i64 0) := by kernel_rfl
theorem ty_zs28 : (Value.int .i64 0).cells.size = 1 := by kernel_rfl
theorem ty_zv28 : zeroV Try.prog 28 = .d (D.int .i64 0) := by kernel_rfl
theorem ty_dz28 : dataZero Try.prog 28 = some (D.int .i64 0) := by kernel_rfl
theorem ty_k29 : tkind Try.prog 29 = some false := by kernel_rfl
theorem ty_z29 : tsz Try.prog 29 = some 1 := by kernel_rfl
theorem ty_b29 : tbytes Try.prog 29 = some 8 := by kernel_rfl
theorem ty_u29 : (Try.prog.underlying 29).isSome = true := by kernel_rfl
theorem ty_tz29 : tzero Try.prog 29 = some (Value.nilFunc) := by kernel_rfl
theorem ty_zs29 : (Value.nilFunc).cells.size = 1 := by kernel_rfl
theorem ty_zv29 : zeroV Try.prog 29 = .d (D.raw .nilFunc) := by kernel_rfl
theorem ty_dz29 : dataZero Try.prog 29 = some (D.raw .nilFunc) := by kernel_rfl
theorem ty_k30 : tkind Try.prog 30 = some false := by kernel_rfl
theorem ty_z30 : tsz Try.prog 30 = some 1 := by kernel_rfl
theorem ty_b30 : tbytes Try.prog 30 = some 0 := by kernel_rfl
theorem ty_u30 : (Try.prog.underlying 30).isSome = true := by kernel_rfl
theorem ty_zv30 : zeroV Try.prog 30 = .undef := by kernel_rfl
theorem ty_k31 : tkind Try.prog 31 = some false := by kernel_rfl
theorem ty_z31 : tsz Try.prog 31 = some 1 := by kernel_rfl
theorem ty_b31 : tbytes Try.prog 31 = some 8 := by kernel_rfl
theorem ty_u31 : (Try.prog.underlying 31).isSome = true := by kernel_rfl
theorem ty_tz31 : tzero Try.prog 31 = some (Value.nilFunc) := by kernel_rfl
theorem ty_zs31 : (Value.nilFunc).cells.size = 1 := by kernel_rfl
theorem ty_zv31 : zeroV Try.prog 31 = .d (D.raw .nilFunc) := by kernel_rfl
theorem ty_dz31 : dataZero Try.prog 31 = some (D.raw .nilFunc) := by kernel_rfl
theorem ty_k32 : tkind Try.prog 32 = some false := by kernel_rfl
theorem ty_z32 : tsz Try.prog 32 = some 1 := by kernel_rfl
theorem ty_b32 : tbytes Try.prog 32 = some 8 := by kernel_rfl
theorem ty_i32 : tintk Try.prog 32 = some .i64 := by kernel_rfl
theorem ty_u32 : (Try.prog.underlying 32).isSome = true := by kernel_rfl
theorem ty_tz32 : tzero Try.prog 32 = some (Value.int .i64 0) := by kernel_rfl
theorem ty_zs32 : (Value.int .i64 0).cells.size = 1 := by kernel_rfl
theorem ty_zv32 : zeroV Try.prog 32 = .d (D.int .i64 0) := by kernel_rfl
theorem ty_dz32 : dataZero Try.prog 32 = some (D.int .i64 0) := by kernel_rfl
theorem ty_k33 : tkind Try.prog 33 = some false := by kernel_rfl
theorem ty_z33 : tsz Try.prog 33 = some 1 := by kernel_rfl
theorem ty_e33 : telem Try.prog 33 = some 9 := by kernel_rfl
theorem ty_ae33 : apEs Try.prog 33 = 1 := by kernel_rfl
theorem ty_b33 : tbytes Try.prog 33 = some 24 := by kernel_rfl
theorem ty_x33 : tidx Try.prog 33 = some (none, 1) := by kernel_rfl
theorem ty_u33 : (Try.prog.underlying 33).isSome = true := by kernel_rfl
theorem ty_tz33 : tzero Try.prog 33 = some (Value.slice none 0 0) := by kernel_rfl
theorem ty_zs33 : (Value.slice none 0 0).cells.size = 1 := by kernel_rfl
theorem ty_zv33 : zeroV Try.prog 33 = .nils := by kernel_rfl
theorem ty_dz33 : dataZero Try.prog 33 = some (D.sl []) := by kernel_rfl
theorem ty_k34 : tkind Try.prog 34 = some true := by kernel_rfl
theorem ty_z34 : tsz Try.prog 34 = some 6 := by kernel_rfl
theorem ty_b34 : tbytes Try.prog 34 = some 72 := by kernel_rfl
theorem ty_u34 : (Try.prog.underlying 34).isSome = true := by kernel_rfl
theorem ty_f34_0 : tfld Try.prog 34 0 = some (0, 1, false) := by kernel_rfl
theorem ty_f34_1 : tfld Try.prog 34 1 = some (1, 1, false) := by kernel_rfl
theorem ty_f34_2 : tfld Try.prog 34 2 = some (2, 1, false) := by kernel_rfl
theorem ty_f34_3 : tfld Try.prog 34 3 = some (3, 1, false) := by kernel_rfl
theorem ty_f34_4 : tfld Try.prog 34 4 = some (4, 1, false) := by kernel_rfl
theorem ty_f34_5 : tfld Try.prog 34 5 = some (5, 1, false) := by kernel_rfl
theorem ty_p34 : tplaces Try.prog 34 = some [(0, 1), (1, 1), (2, 1), (3, 1), (4, 1), (5, 1)] := by kernel_rfl
theorem ty_za34 : tzeroA Try.prog 34 = some [.d (D.int .i64 0), .d (D.int .i64 0), .d (D.str []), .d (D.int .i64 0), .d (D.int .i64 0), .nils] := by kernel_rfl
theorem ty_tz34 : tzero Try.prog 34 = some (Value.agg #[Value.int .i64 0, Value.int .i64 0, Value.string ⟨#[]⟩, Value.int .i64 0, Value.int .i64 0, Value.slice none 0 0]) := by kernel_rfl
theorem ty_zs34 : (Value.agg #[Value.int .i64 0, Value.int .i64 0, Value.string ⟨#[]⟩, Value.int .i64 0, Value.int .i64 0, Value.slice none 0 0]).cells.size = 6 := by kernel_rfl
theorem ty_zv34 : zeroV Try.prog 34 = .agg [.d (D.int .i64 0), .d (D.int .i64 0), .d (D.str []), .d (D.int .i64 0), .d (D.int .i64 0), .nils] := by kernel_rfl
theorem ty_dz34 : dataZero Try.prog 34 = some (D.agg [D.int .i64 0, D.int .i64 0, D.str [], D.int .i64 0, D.int .i64 0, D.sl []]) := by kernel_rfl
theorem ty_k35 : tkind Try.prog 35 = some true := by kernel_rfl
theorem ty_z35 : tsz Try.prog 35 = some 6 := by kernel_rfl
theorem ty_b35 : tbytes Try.prog 35 = some 72 := by kernel_rfl
theorem ty_u35 : (Try.prog.underlying 35).isSome = true := by kernel_rfl
theorem ty_f35_0 : tfld Try.prog 35 0 = some (0, 1, false) := by kernel_rfl
theorem ty_f35_1 : tfld Try.prog 35 1 = some (1, 1, false) := by kernel_rfl
theorem ty_f35_2 : tfld Try.prog 35 2 = some (2, 1, false) := by kernel_rfl
theorem ty_f35_3 : tfld Try.prog 35 3 = some (3, 1, false) := by kernel_rfl
theorem ty_f35_4 : tfld Try.prog 35 4 = some (4, 1, false) := by kernel_rfl
theorem ty_f35_5 : tfld Try.prog 35 5 = some (5, 1, false) := by kernel_rfl
theorem ty_p35 : tplaces Try.prog 35 = some [(0, 1), (1, 1), (2, 1), (3, 1), (4, 1), (5, 1)] := by kernel_rfl
theorem ty_za35 : tzeroA Try.prog 35 = some [.d (D.int .i64 0), .d (D.int .i64 0), .d (D.str []), .d (D.int .i64 0), .d (D.int .i64 0), .nils] := by kernel_rfl
theorem ty_tz35 : tzero Try.prog 35 = some (Value.agg #[Value.int .i64 0, Value.int .i64 0, Value.string ⟨#[]⟩, Value.int .i64 0, Value.int .i64 0, Value.slice none 0 0]) := by kernel_rfl
theorem ty_zs35 : (Value.agg #[Value.int .i64 0, Value.int .i64 0, Value.string ⟨#[]⟩, Value.int .i64 0, Value.int .i64 0, Value.slice none 0 0]).cells.size = 6 := by kernel_rfl
theorem ty_zv35 : zeroV Try.prog 35 = .agg [.d (D.int .i64 0), .d (D.int .i64 0), .d (D.str []), .d (D.int .i64 0), .d (D.int .i64 0), .nils] := by kernel_rfl
theorem ty_dz35 : dataZero Try.prog 35 = some (D.agg [D.int .i64 0, D.int .i64 0, D.str [], D.int .i64 0, D.int .i64 0, D.sl []]) := by kernel_rfl
theorem ty_k36 : tkind Try.prog 36 = some true := by kernel_rfl
theorem ty_z36 : tsz Try.prog 36 = some 2 := by kernel_rfl
theorem ty_b36 : tbytes Try.prog 36 = some 16 := by kernel_rfl
theorem ty_u36 : (Try.prog.underlying 36).isSome = true := by kernel_rfl
theorem ty_c36 : tcmp Try.prog 36 = some [0, 0] := by kernel_rfl
theorem ty_f36_0 : tfld Try.prog 36 0 = some (0, 1, false) := by kernel_rfl
theorem ty_f36_1 : tfld Try.prog 36 1 = some (1, 1, false) := by kernel_rfl
theorem ty_p36 : tplaces Try.prog 36 = some [(0, 1), (1, 1)] := by kernel_rfl
theorem ty_za36 : tzeroA Try.prog 36 = some [.d (D.int .i64 0), .d (D.int .i64 0)] := by kernel_rfl
theorem ty_tz36 : tzero Try.prog 36 = some (Value.agg #[Value.int .i64 0, Value.int .i64 0]) := by kernel_rfl
theorem ty_zs36 : (Value.agg #[Value.int .i64 0, Value.int .i64 0]).cells.size = 2 := by kernel_rfl
theorem ty_zv36 : zeroV Try.prog 36 = .d (D.agg [D.int .i64 0, D.int .i64 0]) := by kernel_rfl
theorem ty_dz36 : dataZero Try.prog 36 = some (D.agg [D.int .i64 0, D.int .i64 0]) := by kernel_rfl
theorem ty_k37 : tkind Try.prog 37 = some true := by kernel_rfl
theorem ty_z37 : tsz Try.prog 37 = some 2 := by kernel_rfl
theorem ty_b37 : tbytes Try.prog 37 = some 16 := by kernel_rfl
theorem ty_u37 : (Try.prog.underlying 37).isSome = true := by kernel_rfl
theorem ty_c37 : tcmp Try.prog 37 = some [0, 0] := by kernel_rfl
theorem ty_f37_0 : tfld Try.prog 37 0 = some (0, 1, false) := by kernel_rfl
theorem ty_f37_1 : tfld Try.prog 37 1 = some (1, 1, false) := by kernel_rfl
theorem ty_p37 : tplaces Try.prog 37 = some [(0, 1), (1, 1)] := by kernel_rfl
theorem ty_za37 : tzeroA Try.prog 37 = some [.d (D.int .i64 0), .d (D.int .i64 0)] := by kernel_rfl
theorem ty_tz37 : tzero Try.prog 37 = some (Value.agg #[Value.int .i64 0, Value.int .i64 0]) := by kernel_rfl
theorem ty_zs37 : (Value.agg #[Value.int .i64 0, Value.int .i64 0]).cells.size = 2 := by kernel_rfl
theorem ty_zv37 : zeroV Try.prog 37 = .d (D.agg [D.int .i64 0, D.int .i64 0]) := by kernel_rfl
theorem ty_dz37 : dataZero Try.prog 37 = some (D.agg [D.int .i64 0, D.int .i64 0]) := by kernel_rfl
theorem ty_k38 : tkind Try.prog 38 = some true := by kernel_rfl
theorem ty_z38 : tsz Try.prog 38 = some 2 := by kernel_rfl
theorem ty_b38 : tbytes Try.prog 38 = some 16 := by kernel_rfl
theorem ty_u38 : (Try.prog.underlying 38).isSome = true := by kernel_rfl
theorem ty_c38 : tcmp Try.prog 38 = some [0, 0] := by kernel_rfl
theorem ty_f38_0 : tfld Try.prog 38 0 = some (0, 1, false) := by kernel_rfl
theorem ty_f38_1 : tfld Try.prog 38 1 = some (1, 1, false) := by kernel_rfl
theorem ty_p38 : tplaces Try.prog 38 = some [(0, 1), (1, 1)] := by kernel_rfl
theorem ty_za38 : tzeroA Try.prog 38 = some [.d (D.int .i64 0), .d (D.int .i64 0)] := by kernel_rfl
theorem ty_tz38 : tzero Try.prog 38 = some (Value.agg #[Value.int .i64 0, Value.int .i64 0]) := by kernel_rfl
theorem ty_zs38 : (Value.agg #[Value.int .i64 0, Value.int .i64 0]).cells.size = 2 := by kernel_rfl
theorem ty_zv38 : zeroV Try.prog 38 = .d (D.agg [D.int .i64 0, D.int .i64 0]) := by kernel_rfl
theorem ty_dz38 : dataZero Try.prog 38 = some (D.agg [D.int .i64 0, D.int .i64 0]) := by kernel_rfl
theorem ty_k39 : tkind Try.prog 39 = some true := by kernel_rfl
theorem ty_z39 : tsz Try.prog 39 = some 2 := by kernel_rfl
theorem ty_b39 : tbytes Try.prog 39 = some 16 := by kernel_rfl
theorem ty_u39 : (Try.prog.underlying 39).isSome = true := by kernel_rfl
theorem ty_c39 : tcmp Try.prog 39 = some [0, 0] := by kernel_rfl
theorem ty_f39_0 : tfld Try.prog 39 0 = some (0, 1, false) := by kernel_rfl
theorem ty_f39_1 : tfld Try.prog 39 1 = some (1, 1, false) := by kernel_rfl
theorem ty_p39 : tplaces Try.prog 39 = some [(0, 1), (1, 1)] := by kernel_rfl
theorem ty_za39 : tzeroA Try.prog 39 = some [.d (D.int .i64 0), .d (D.int .i64 0)] := by kernel_rfl
theorem ty_tz39 : tzero Try.prog 39 = some (Value.agg #[Value.int .i64 0, Value.int .i64 0]) := by kernel_rfl
theorem ty_zs39 : (Value.agg #[Value.int .i64 0, Value.int .i64 0]).cells.size = 2 := by kernel_rfl
theorem ty_zv39 : zeroV Try.prog 39 = .d (D.agg [D.int .i64 0, D.int .i64 0]) := by kernel_rfl
theorem ty_dz39 : dataZero Try.prog 39 = some (D.agg [D.int .i64 0, D.int .i64 0]) := by kernel_rfl
theorem ty_k40 : tkind Try.prog 40 = some true := by kernel_rfl
theorem ty_z40 : tsz Try.prog 40 = some 10 := by kernel_rfl
theorem ty_b40 : tbytes Try.prog 40 = some 104 := by kernel_rfl
theorem ty_u40 : (Try.prog.underlying 40).isSome = true := by kernel_rfl
theorem ty_f40_0 : tfld Try.prog 40 0 = some (0, 2, true) := by kernel_rfl
theorem ty_f40_1 : tfld Try.prog 40 1 = some (2, 6, true) := by kernel_rfl
theorem ty_f40_2 : tfld Try.prog 40 2 = some (8, 2, true) := by kernel_rfl
theorem ty_p40 : tplaces Try.prog 40 = some [(0, 2), (2, 6), (8, 2)] := by kernel_rfl
theorem ty_za40 : tzeroA Try.prog 40 = some [.d (D.int .i64 0), .d (D.int .i64 0), .d (D.int .i64 0), .d (D.int .i64 0), .d (D.str []), .d (D.int .i64 0), .d (D.int .i64 0), .nils, .d (D.int .i64 0), .d (D.int .i64 0)] := by kernel_rfl
theorem ty_tz40 : tzero Try.prog 40 = some (Value.agg #[Value.int .i64 0, Value.int .i64 0, Value.int .i64 0, Value.int .i64 0, Value.string ⟨#[]⟩, Value.int .i64 0, Value.int .i64 0, Value.slice none 0 0, Value.int .i64 0, Value.int .i64 0]) := by kernel_rfl
theorem ty_zs40 : (Value.agg #[Value.int .i64 0, Value.int .i64 0, Value.int .i64 0, Value.int .i64 0, Value.string ⟨#[]⟩, Value.int .i64 0, Value.int .i64 0, Value.slice none 0 0, Value.int .i64 0, Value.int .i64 0]).cells.size = 10 := by kernel_rfl
theorem ty_zv40 : zeroV Try.prog 40 = .agg [.d (D.int .i64 0), .d (D.int .i64 0), .d (D.int .i64 0), .d (D.int .i64 0), .d (D.str []), .d (D.int .i64 0), .d (D.int .i64 0), .nils, .d (D.int .i64 0), .d (D.int .i64 0)] := by kernel_rfl
theorem ty_dz40 : dataZero Try.prog 40 = some (D.agg [D.int .i64 0, D.int .i64 0, D.int .i64 0, D.int .i64 0, D.str [], D.int .i64 0, D.int .i64 0, D.sl [], D.int .i64 0, D.int .i64 0]) := by kernel_rfl
theorem ty_k41 : tkind Try.prog 41 = some true := by kernel_rfl
theorem ty_z41 : tsz Try.prog 41 = some 10 := by kernel_rfl
theorem ty_b41 : tbytes Try.prog 41 = some 104 := by kernel_rfl
theorem ty_u41 : (Try.prog.underlying 41).isSome = true := by kernel_rfl
theorem ty_f41_0 : tfld Try.prog 41 0 = some (0, 2, true) := by kernel_rfl
theorem ty_f41_1 : tfld Try.prog 41 1 = some (2, 6, true) := by kernel_rfl
theorem ty_f41_2 : tfld Try.prog 41 2 = some (8, 2, true) := by kernel_rfl
theorem ty_p41 : tplaces Try.prog 41 = some [(0, 2), (2, 6), (8, 2)] := by kernel_rfl
theorem ty_za41 : tzeroA Try.prog 41 = some [.d (D.int .i64 0), .d (D.int .i64 0), .d (D.int .i64 0), .d (D.int .i64 0), .d (D.str []), .d (D.int .i64 0), .d (D.int .i64 0), .nils, .d (D.int .i64 0), .d (D.int .i64 0)] := by kernel_rfl
theorem ty_tz41 : tzero Try.prog 41 = some (Value.agg #[Value.int .i64 0, Value.int .i64 0, Value.int .i64 0, Value.int .i64 0, Value.string ⟨#[]⟩, Value.int .i64 0, Value.int .i64 0, Value.slice none 0 0, Value.int .i64 0, Value.int .i64 0]) := by kernel_rfl
theorem ty_zs41 : (Value.agg #[Value.int .i64 0, Value.int .i64 0, Value.int .i64 0, Value.int .i64 0, Value.string ⟨#[]⟩, Value.int .i64 0, Value.int .i64 0, Value.slice none 0 0, Value.int .i64 0, Value.int .i64 0]).cells.size = 10 := by kernel_rfl
theorem ty_zv41 : zeroV Try.prog 41 = .agg [.d (D.int .i64 0), .d (D.int .i64 0), .d (D.int .i64 0), .d (D.int .i64 0), .d (D.str []), .d (D.int .i64 0), .d (D.int .i64 0), .nils, .d (D.int .i64 0), .d (D.int .i64 0)] := by kernel_rfl
theorem ty_dz41 : dataZero Try.prog 41 = some (D.agg [D.int .i64 0, D.int .i64 0, D.int .i64 0, D.int .i64 0, D.str [], D.int .i64 0, D.int .i64 0, D.sl [], D.int .i64 0, D.int .i64 0]) := by kernel_rfl
theorem ty_k42 : tkind Try.prog 42 = some false := by kernel_rfl
theorem ty_z42 : tsz Try.prog 42 = some 1 := by kernel_rfl
theorem ty_b42 : tbytes Try.prog 42 = some 8 := by kernel_rfl
theorem ty_u42 : (Try.prog.underlying 42).isSome = true := by kernel_rfl
theorem ty_tz42 : tzero Try.prog 42 = some (Value.nilFunc) := by kernel_rfl
theorem ty_zs42 : (Value.nilFunc).cells.size = 1 := by kernel_rfl
theorem ty_zv42 : zeroV Try.prog 42 = .d (D.raw .nilFunc) := by kernel_rfl
theorem ty_dz42 : dataZero Try.prog 42 = some (D.raw .nilFunc) := by kernel_rfl
theorem ty_k43 : tkind Try.prog 43 = some false := by kernel_rfl
theorem ty_z43 : tsz Try.prog 43 = some 1 := by kernel_rfl
theorem ty_b43 : tbytes Try.prog 43 = some 8 := by kernel_rfl
theorem ty_u43 : (Try.prog.underlying 43).isSome = true := by kernel_rfl
theorem ty_tz43 : tzero Try.prog 43 = some (Value.nilFunc) := by kernel_rfl
theorem ty_zs43 : (Value.nilFunc).cells.size = 1 := by kernel_rfl
theorem ty_zv43 : zeroV Try.prog 43 = .d (D.raw .nilFunc) := by kernel_rfl
theorem ty_dz43 : dataZero Try.prog 43 = some (D.raw .nilFunc) := by kernel_rfl
theorem ty_k44 : tkind Try.prog 44 = some true := by kernel_rfl
theorem ty_z44 : tsz Try.prog 44 = some 3 := by kernel_rfl
theorem ty_b44 : tbytes Try.prog 44 = some 32 := by kernel_rfl
theorem ty_u44 : (Try.prog.underlying 44).isSome = true := by kernel_rfl
theorem ty_c44 : tcmp Try.prog 44 = some [2, 0, 0] := by kernel_rfl
theorem ty_f44_0 : tfld Try.prog 44 0 = some (0, 1, false) := by kernel_rfl
theorem ty_f44_1 : tfld Try.prog 44 1 = some (1, 1, false) := by kernel_rfl
theorem ty_f44_2 : tfld Try.prog 44 2 = some (2, 1, false) := by kernel_rfl
theorem ty_p44 : tplaces Try.prog 44 = some [(0, 1), (1, 1), (2, 1)] := by kernel_rfl
theorem ty_za44 : tzeroA Try.prog 44 = some [.d (D.str []), .d (D.int .i64 0), .d (D.int .i64 0)] := by kernel_rfl
theorem ty_tz44 : tzero Try.prog 44 = some (Value.agg #[Value.string ⟨#[]⟩, Value.int .i64 0, Value.int .i64 0]) := by kernel_rfl
theorem ty_zs44 : (Value.agg #[Value.string ⟨#[]⟩, Value.int .i64 0, Value.int .i64 0]).cells.size = 3 := by kernel_rfl
theorem ty_zv44 : zeroV Try.prog 44 = .d (D.agg [D.str [], D.int .i64 0, D.int .i64 0]) := by kernel_rfl
theorem ty_dz44 : dataZero Try.prog 44 = some (D.agg [D.str [], D.int .i64 0, D.int .i64 0]) := by kernel_rfl
theorem ty_k45 : tkind Try.prog 45 = some true := by kernel_rfl
theorem ty_z45 : tsz Try.prog 45 = some 3 := by kernel_rfl
theorem ty_b45 : tbytes Try.prog 45 = some 32 := by kernel_rfl
theorem ty_u45 : (Try.prog.underlying 45).isSome = true := by kernel_rfl
theorem ty_c45 : tcmp Try.prog 45 = some [2, 0, 0] := by kernel_rfl
theorem ty_f45_0 : tfld Try.prog 45 0 = some (0, 1, false) := by kernel_rfl
theorem ty_f45_1 : tfld Try.prog 45 1 = some (1, 1, false) := by kernel_rfl
theorem ty_f45_2 : tfld Try.prog 45 2 = some (2, 1, false) := by kernel_rfl
theorem ty_p45 : tplaces Try.prog 45 = some [(0, 1), (1, 1), (2, 1)] := by kernel_rfl
theorem ty_za45 : tzeroA Try.prog 45 = some [.d (D.str []), .d (D.int .i64 0), .d (D.int .i64 0)] := by kernel_rfl
theorem ty_tz45 : tzero Try.prog 45 = some (Value.agg #[Value.string ⟨#[]⟩, Value.int .i64 0, Value.int .i64 0]) := by kernel_rfl
theorem ty_zs45 : (Value.agg #[Value.string ⟨#[]⟩, Value.int .i64 0, Value.int .i64 0]).cells.size = 3 := by kernel_rfl
theorem ty_zv45 : zeroV Try.prog 45 = .d (D.agg [D.str [], D.int .i64 0, D.int .i64 0]) := by kernel_rfl
theorem ty_dz45 : dataZero Try.prog 45 = some (D.agg [D.str [], D.int .i64 0, D.int .i64 0]) := by kernel_rfl
theorem ty_k46 : tkind Try.prog 46 = some false := by kernel_rfl
theorem ty_z46 : tsz Try.prog 46 = some 1 := by kernel_rfl
theorem ty_b46 : tbytes Try.prog 46 = some 0 := by kernel_rfl
theorem ty_u46 : (Try.prog.underlying 46).isSome = true := by kernel_rfl
theorem ty_zv46 : zeroV Try.prog 46 = .undef := by kernel_rfl
theorem ty_k47 : tkind Try.prog 47 = some false := by kernel_rfl
theorem ty_z47 : tsz Try.prog 47 = some 1 := by kernel_rfl
theorem ty_b47 : tbytes Try.prog 47 = some 8 := by kernel_rfl
theorem ty_u47 : (Try.prog.underlying 47).isSome = true := by kernel_rfl
theorem ty_tz47 : tzero Try.prog 47 = some (Value.nilFunc) := by kernel_rfl
theorem ty_zs47 : (Value.nilFunc).cells.size = 1 := by kernel_rfl
theorem ty_zv47 : zeroV Try.prog 47 = .d (D.raw .nilFunc) := by kernel_rfl
theorem ty_dz47 : dataZero Try.prog 47 = some (D.raw .nilFunc) := by kernel_rfl
theorem ty_k48 : tkind Try.prog 48 = some false := by kernel_rfl
theorem ty_z48 : tsz Try.prog 48 = some 1 := by kernel_rfl
theorem ty_b48 : tbytes Try.prog 48 = some 8 := by kernel_rfl
theorem ty_u48 : (Try.prog.underlying 48).isSome = true := by kernel_rfl
theorem ty_tz48 : tzero Try.prog 48 = some (Value.nilFunc) := by kernel_rfl
theorem ty_zs48 : (Value.nilFunc).cells.size = 1 := by kernel_rfl
theorem ty_zv48 : zeroV Try.prog 48 = .d (D.raw .nilFunc) := by kernel_rfl
theorem ty_dz48 : dataZero Try.prog 48 = some (D.raw .nilFunc) := by kernel_rfl
theorem ty_k49 : tkind Try.prog 49 = some true := by kernel_rfl
theorem ty_z49 : tsz Try.prog 49 = some 2 := by kernel_rfl
theorem ty_b49 : tbytes Try.prog 49 = some 16 := by kernel_rfl
theorem ty_u49 : (Try.prog.underlying 49).isSome = true := by kernel_rfl
theorem ty_c49 : tcmp Try.prog 49 = some [0, 0] := by kernel_rfl
theorem ty_f49_0 : tfld Try.prog 49 0 = some (0, 1, false) := by kernel_rfl
theorem ty_f49_1 : tfld Try.prog 49 1 = some (1, 1, false) := by kernel_rfl
theorem ty_p49 : tplaces Try.prog 49 = some [(0, 1), (1, 1)] := by kernel_rfl
theorem ty_za49 : tzeroA Try.prog 49 = some [.d (D.int .i64 0), .d (D.int .i64 0)] := by kernel_rfl
theorem ty_tz49 : tzero Try.prog 49 = some (Value.agg #[Value.int .i64 0, Value.int .i64 0]) := by kernel_rfl
theorem ty_zs49 : (Value.agg #[Value.int .i64 0, Value.int .i64 0]).cells.size = 2 := by kernel_rfl
theorem ty_zv49 : zeroV Try.prog 49 = .d (D.agg [D.int .i64 0, D.int .i64 0]) := by kernel_rfl
theorem ty_dz49 : dataZero Try.prog 49 = some (D.agg [D.int .i64 0, D.int .i64 0]) := by kernel_rfl
theorem ty_k50 : tkind Try.prog 50 = some true := by kernel_rfl
theorem ty_z50 : tsz Try.prog 50 = some 2 := by kernel_rfl
theorem ty_b50 : tbytes Try.prog 50 = some 16 := by kernel_rfl
theorem ty_u50 : (Try.prog.underlying 50).isSome = true := by kernel_rfl
theorem ty_c50 : tcmp Try.prog 50 = some [0, 0] := by kernel_rfl
theorem ty_f50_0 : tfld Try.prog 50 0 = some (0, 1, false) := by kernel_rfl
theorem ty_f50_1 : tfld Try.prog 50 1 = some (1, 1, false) := by kernel_rfl
theorem ty_p50 : tplaces Try.prog 50 = some [(0, 1), (1, 1)] := by kernel_rfl
theorem ty_za50 : tzeroA Try.prog 50 = some [.d (D.int .i64 0), .d (D.int .i64 0)] := by kernel_rfl
theorem ty_tz50 : tzero Try.prog 50 = some (Value.agg #[Value.int .i64 0, Value.int .i64 0]) := by kernel_rfl
theorem ty_zs50 : (Value.agg #[Value.int .i64 0, Value.int .i64 0]).cells.size = 2 := by kernel_rfl
theorem ty_zv50 : zeroV Try.prog 50 = .d (D.agg [D.int .i64 0, D.int .i64 0]) := by kernel_rfl
theorem ty_dz50 : dataZero Try.prog 50 = some (D.agg [D.int .i64 0, D.int .i64 0]) := by kernel_rfl
theorem ty_k51 : tkind Try.prog 51 = some false := by kernel_rfl
theorem ty_z51 : tsz Try.prog 51 = some 1 := by kernel_rfl
theorem ty_b51 : tbytes Try.prog 51 = some 8 := by kernel_rfl
theorem ty_u51 : (Try.prog.underlying 51).isSome = true := by kernel_rfl
theorem ty_tz51 : tzero Try.prog 51 = some (Value.nilFunc) := by kernel_rfl
theorem ty_zs51 : (Value.nilFunc).cells.size = 1 := by kernel_rfl
theorem ty_zv51 : zeroV Try.prog 51 = .d (D.raw .nilFunc) := by kernel_rfl
theorem ty_dz51 : dataZero Try.prog 51 = some (D.raw .nilFunc) := by kernel_rfl
theorem ty_k52 : tkind Try.prog 52 = some false := by kernel_rfl
theorem ty_z52 : tsz Try.prog 52 = some 1 := by kernel_rfl
theorem ty_b52 : tbytes Try.prog 52 = some 8 := by kernel_rfl
theorem ty_u52 : (Try.prog.underlying 52).isSome = true := by kernel_rfl
theorem ty_tz52 : tzero Try.prog 52 = some (Value.nilFunc) := by kernel_rfl
theorem ty_zs52 : (Value.nilFunc).cells.size = 1 := by kernel_rfl
theorem ty_zv52 : zeroV Try.prog 52 = .d (D.raw .nilFunc) := by kernel_rfl
theorem ty_dz52 : dataZero Try.prog 52 = some (D.raw .nilFunc) := by kernel_rfl
theorem ty_k53 : tkind Try.prog 53 = some false := by kernel_rfl
theorem ty_z53 : tsz Try.prog 53 = some 1 := by kernel_rfl
theorem ty_b53 : tbytes Try.prog 53 = some 8 := by kernel_rfl
theorem ty_u53 : (Try.prog.underlying 53).isSome = true := by kernel_rfl
theorem ty_tz53 : tzero Try.prog 53 = some (Value.nilFunc) := by kernel_rfl
theorem ty_zs53 : (Value.nilFunc).cells.size = 1 := by kernel_rfl
theorem ty_zv53 : zeroV Try.prog 53 = .d (D.raw .nilFunc) := by kernel_rfl
theorem ty_dz53 : dataZero Try.prog 53 = some (D.raw .nilFunc) := by kernel_rfl
theorem ty_k54 : tkind Try.prog 54 = some false := by kernel_rfl
theorem ty_z54 : tsz Try.prog 54 = some 1 := by kernel_rfl
theorem ty_b54 : tbytes Try.prog 54 = some 8 := by kernel_rfl
theorem ty_u54 : (Try.prog.underlying 54).isSome = true := by kernel_rfl
theorem ty_tz54 : tzero Try.prog 54 = some (Value.nilFunc) := by kernel_rfl
theorem ty_zs54 : (Value.nilFunc).cells.size = 1 := by kernel_rfl
theorem ty_zv54 : zeroV Try.prog 54 = .d (D.raw .nilFunc) := by kernel_rfl
theorem ty_dz54 : dataZero Try.prog 54 = some (D.raw .nilFunc) := by kernel_rfl
theorem ty_k55 : tkind Try.prog 55 = some false := by kernel_rfl
theorem ty_z55 : tsz Try.prog 55 = some 1 := by kernel_rfl
theorem ty_b55 : tbytes Try.prog 55 = some 8 := by kernel_rfl
theorem ty_u55 : (Try.prog.underlying 55).isSome = true := by kernel_rfl
theorem ty_tz55 : tzero Try.prog 55 = some (Value.nilFunc) := by kernel_rfl
theorem ty_zs55 : (Value.nilFunc).cells.size = 1 := by kernel_rfl
theorem ty_zv55 : zeroV Try.prog 55 = .d (D.raw .nilFunc) := by kernel_rfl
theorem ty_dz55 : dataZero Try.prog 55 = some (D.raw .nilFunc) := by kernel_rfl
theorem ty_k56 : tkind Try.prog 56 = some false := by kernel_rfl
theorem ty_z56 : tsz Try.prog 56 = some 1 := by kernel_rfl
theorem ty_b56 : tbytes Try.prog 56 = some 8 := by kernel_rfl
theorem ty_u56 : (Try.prog.underlying 56).isSome = true := by kernel_rfl
theorem ty_tz56 : tzero Try.prog 56 = some (Value.nilFunc) := by kernel_rfl
theorem ty_zs56 : (Value.nilFunc).cells.size = 1 := by kernel_rfl
theorem ty_zv56 : zeroV Try.prog 56 = .d (D.raw .nilFunc) := by kernel_rfl
theorem ty_dz56 : dataZero Try.prog 56 = some (D.raw .nilFunc) := by kernel_rfl
theorem ty_k57 : tkind Try.prog 57 = some false := by kernel_rfl
theorem ty_z57 : tsz Try.prog 57 = some 1 := by kernel_rfl
theorem ty_b57 : tbytes Try.prog 57 = some 8 := by kernel_rfl
theorem ty_u57 : (Try.prog.underlying 57).isSome = true := by kernel_rfl
theorem ty_tz57 : tzero Try.prog 57 = some (Value.nilFunc) := by kernel_rfl
theorem ty_zs57 : (Value.nilFunc).cells.size = 1 := by kernel_rfl
theorem ty_zv57 : zeroV Try.prog 57 = .d (D.raw .nilFunc) := by kernel_rfl
theorem ty_dz57 : dataZero Try.prog 57 = some (D.raw .nilFunc) := by kernel_rfl
theorem ty_k58 : tkind Try.prog 58 = some false := by kernel_rfl
theorem ty_z58 : tsz Try.prog 58 = some 1 := by kernel_rfl
theorem ty_b58 : tbytes Try.prog 58 = some 8 := by kernel_rfl
theorem ty_u58 : (Try.prog.underlying 58).isSome = true := by kernel_rfl
theorem ty_tz58 : tzero Try.prog 58 = some (Value.nilFunc) := by kernel_rfl
theorem ty_zs58 : (Value.nilFunc).cells.size = 1 := by kernel_rfl
theorem ty_zv58 : zeroV Try.prog 58 = .d (D.raw .nilFunc) := by kernel_rfl
theorem ty_dz58 : dataZero Try.prog 58 = some (D.raw .nilFunc) := by kernel_rfl
theorem ty_k59 : tkind Try.prog 59 = some false := by kernel_rfl
theorem ty_z59 : tsz Try.prog 59 = some 1 := by kernel_rfl
theorem ty_b59 : tbytes Try.prog 59 = some 8 := by kernel_rfl
theorem ty_u59 : (Try.prog.underlying 59).isSome = true := by kernel_rfl
theorem ty_tz59 : tzero Try.prog 59 = some (Value.nilFunc) := by kernel_rfl
theorem ty_zs59 : (Value.nilFunc).cells.size = 1 := by kernel_rfl
theorem ty_zv59 : zeroV Try.prog 59 = .d (D.raw .nilFunc) := by kernel_rfl
theorem ty_dz59 : dataZero Try.prog 59 = some (D.raw .nilFunc) := by kernel_rfl
theorem ty_k60 : tkind Try.prog 60 = some false := by kernel_rfl
theorem ty_z60 : tsz Try.prog 60 = some 1 := by kernel_rfl
theorem ty_b60 : tbytes Try.prog 60 = some 8 := by kernel_rfl
theorem ty_u60 : (Try.prog.underlying 60).isSome = true := by kernel_rfl
theorem ty_tz60 : tzero Try.prog 60 = some (Value.nilFunc) := by kernel_rfl
theorem ty_zs60 : (Value.nilFunc).cells.size = 1 := by kernel_rfl
theorem ty_zv60 : zeroV Try.prog 60 = .d (D.raw .nilFunc) := by kernel_rfl
theorem ty_dz60 : dataZero Try.prog 60 = some (D.raw .nilFunc) := by kernel_rfl
theorem ty_k61 : tkind Try.prog 61 = some false := by kernel_rfl
theorem ty_z61 : tsz Try.prog 61 = some 1 := by kernel_rfl
theorem ty_b61 : tbytes Try.prog 61 = some 8 := by kernel_rfl
theorem ty_u61 : (Try.prog.underlying 61).isSome = true := by kernel_rfl
theorem ty_tz61 : tzero Try.prog 61 = some (Value.nilFunc) := by kernel_rfl
theorem ty_zs61 : (Value.nilFunc).cells.size = 1 := by kernel_rfl
theorem ty_zv61 : zeroV Try.prog 61 = .d (D.raw .nilFunc) := by kernel_rfl
theorem ty_dz61 : dataZero Try.prog 61 = some (D.raw .nilFunc) := by kernel_rfl
theorem ty_k62 : tkind Try.prog 62 = some false := by kernel_rfl
theorem ty_z62 : tsz Try.prog 62 = some 1 := by kernel_rfl
theorem ty_pt62 : tptr Try.prog 62 = true := by kernel_rfl
theorem ty_b62 : tbytes Try.prog 62 = some 8 := by kernel_rfl
theorem ty_u62 : (Try.prog.underlying 62).isSome = true := by kernel_rfl
theorem ty_tz62 : tzero Try.prog 62 = some (Value.pointer none) := by kernel_rfl
theorem ty_zs62 : (Value.pointer none).cells.size = 1 := by kernel_rfl
theorem ty_zv62 : zeroV Try.prog 62 = .d (D.raw (.pointer none)) := by kernel_rfl
theorem ty_dz62 : dataZero Try.prog 62 = some (D.raw (.pointer none)) := by kernel_rfl
theorem ty_k63 : tkind Try.prog 63 = some true := by kernel_rfl
theorem ty_z63 : tsz Try.prog 63 = some 2 := by kernel_rfl
theorem ty_b63 : tbytes Try.prog 63 = some 16 := by kernel_rfl
theorem ty_u63 : (Try.prog.underlying 63).isSome = true := by kernel_rfl
theorem ty_c63 : tcmp Try.prog 63 = some [0, 0] := by kernel_rfl
theorem ty_f63_0 : tfld Try.prog 63 0 = some (0, 1, false) := by kernel_rfl
theorem ty_f63_1 : tfld Try.prog 63 1 = some (1, 1, false) := by kernel_rfl
theorem ty_p63 : tplaces Try.prog 63 = some [(0, 1), (1, 1)] := by kernel_rfl
theorem ty_za63 : tzeroA Try.prog 63 = some [.d (D.int .i64 0), .d (D.int .i64 0)] := by kernel_rfl
theorem ty_tz63 : tzero Try.prog 63 = some (Value.agg #[Value.int .i64 0, Value.int .i64 0]) := by kernel_rfl
theorem ty_zs63 : (Value.agg #[Value.int .i64 0, Value.int .i64 0]).cells.size = 2 := by kernel_rfl
theorem ty_zv63 : zeroV Try.prog 63 = .d (D.agg [D.int .i64 0, D.int .i64 0]) := by kernel_rfl
theorem ty_dz63 : dataZero Try.prog 63 = some (D.agg [D.int .i64 0, D.int .i64 0]) := by kernel_rfl
theorem ty_k64 : tkind Try.prog 64 = some true := by kernel_rfl
theorem ty_z64 : tsz Try.prog 64 = some 2 := by kernel_rfl
theorem ty_b64 : tbytes Try.prog 64 = some 16 := by kernel_rfl
theorem ty_u64 : (Try.prog.underlying 64).isSome = true := by kernel_rfl
theorem ty_c64 : tcmp Try.prog 64 = some [0, 0] := by kernel_rfl
theorem ty_f64_0 : tfld Try.prog 64 0 = some (0, 1, false) := by kernel_rfl
theorem ty_f64_1 : tfld Try.prog 64 1 = some (1, 1, false) := by kernel_rfl
theorem ty_p64 : tplaces Try.prog 64 = some [(0, 1), (1, 1)] := by kernel_rfl
theorem ty_za64 : tzeroA Try.prog 64 = some [.d (D.int .i64 0), .d (D.int .i64 0)] := by kernel_rfl
theorem ty_tz64 : tzero Try.prog 64 = some (Value.agg #[Value.int .i64 0, Value.int .i64 0]) := by kernel_rfl
theorem ty_zs64 : (Value.agg #[Value.int .i64 0, Value.int .i64 0]).cells.size = 2 := by kernel_rfl
theorem ty_zv64 : zeroV Try.prog 64 = .d (D.agg [D.int .i64 0, D.int .i64 0]) := by kernel_rfl
theorem ty_dz64 : dataZero Try.prog 64 = some (D.agg [D.int .i64 0, D.int .i64 0]) := by kernel_rfl
theorem ty_k65 : tkind Try.prog 65 = some false := by kernel_rfl
theorem ty_z65 : tsz Try.prog 65 = some 1 := by kernel_rfl
theorem ty_b65 : tbytes Try.prog 65 = some 8 := by kernel_rfl
theorem ty_u65 : (Try.prog.underlying 65).isSome = true := by kernel_rfl
theorem ty_tz65 : tzero Try.prog 65 = some (Value.nilFunc) := by kernel_rfl
theorem ty_zs65 : (Value.nilFunc).cells.size = 1 := by kernel_rfl
theorem ty_zv65 : zeroV Try.prog 65 = .d (D.raw .nilFunc) := by kernel_rfl
theorem ty_dz65 : dataZero Try.prog 65 = some (D.raw .nilFunc) := by kernel_rfl
theorem ty_k66 : tkind Try.prog 66 = some false := by kernel_rfl
theorem ty_z66 : tsz Try.prog 66 = some 1 := by kernel_rfl
theorem ty_b66 : tbytes Try.prog 66 = some 8 := by kernel_rfl
theorem ty_u66 : (Try.prog.underlying 66).isSome = true := by kernel_rfl
theorem ty_tz66 : tzero Try.prog 66 = some (Value.nilFunc) := by kernel_rfl
theorem ty_zs66 : (Value.nilFunc).cells.size = 1 := by kernel_rfl
theorem ty_zv66 : zeroV Try.prog 66 = .d (D.raw .nilFunc) := by kernel_rfl
theorem ty_dz66 : dataZero Try.prog 66 = some (D.raw .nilFunc) := by kernel_rfl
theorem ty_k67 : tkind Try.prog 67 = some false := by kernel_rfl
theorem ty_z67 : tsz Try.prog 67 = some 1 := by kernel_rfl
theorem ty_b67 : tbytes Try.prog 67 = some 8 := by kernel_rfl
theorem ty_u67 : (Try.prog.underlying 67).isSome = true := by kernel_rfl
theorem ty_tz67 : tzero Try.prog 67 = some (Value.nilFunc) := by kernel_rfl
theorem ty_zs67 : (Value.nilFunc).cells.size = 1 := by kernel_rfl
theorem ty_zv67 : zeroV Try.prog 67 = .d (D.raw .nilFunc) := by kernel_rfl
theorem ty_dz67 : dataZero Try.prog 67 = some (D.raw .nilFunc) := by kernel_rfl
theorem ty_k68 : tkind Try.prog 68 = some false := by kernel_rfl
theorem ty_z68 : tsz Try.prog 68 = some 1 := by kernel_rfl
theorem ty_b68 : tbytes Try.prog 68 = some 8 := by kernel_rfl
theorem ty_i68 : tintk Try.prog 68 = some .u64 := by kernel_rfl
theorem ty_u68 : (Try.prog.underlying 68).isSome = true := by kernel_rfl
theorem ty_tz68 : tzero Try.prog 68 = some (Value.int .u64 0) := by kernel_rfl
theorem ty_zs68 : (Value.int .u64 0).cells.size = 1 := by kernel_rfl
theorem ty_zv68 : zeroV Try.prog 68 = .d (D.int .u64 0) := by kernel_rfl
theorem ty_dz68 : dataZero Try.prog 68 = some (D.int .u64 0) := by kernel_rfl
theorem ty_k69 : tkind Try.prog 69 = some true := by kernel_rfl
theorem ty_z69 : tsz Try.prog 69 = some 2 := by kernel_rfl
theorem ty_b69 : tbytes Try.prog 69 = some 16 := by kernel_rfl
theorem ty_u69 : (Try.prog.underlying 69).isSome = true := by kernel_rfl
theorem ty_c69 : tcmp Try.prog 69 = some [0, 0] := by kernel_rfl
theorem ty_f69_0 : tfld Try.prog 69 0 = some (0, 1, false) := by kernel_rfl
theorem ty_f69_1 : tfld Try.prog 69 1 = some (1, 1, false) := by kernel_rfl
theorem ty_p69 : tplaces Try.prog 69 = some [(0, 1), (1, 1)] := by kernel_rfl
theorem ty_za69 : tzeroA Try.prog 69 = some [.d (D.int .u64 0), .d (D.int .u64 0)] := by kernel_rfl
theorem ty_tz69 : tzero Try.prog 69 = some (Value.agg #[Value.int .u64 0, Value.int .u64 0]) := by kernel_rfl
theorem ty_zs69 : (Value.agg #[Value.int .u64 0, Value.int .u64 0]).cells.size = 2 := by kernel_rfl
theorem ty_zv69 : zeroV Try.prog 69 = .d (D.agg [D.int .u64 0, D.int .u64 0]) := by kernel_rfl
theorem ty_dz69 : dataZero Try.prog 69 = some (D.agg [D.int .u64 0, D.int .u64 0]) := by kernel_rfl
theorem ty_k70 : tkind Try.prog 70 = some true := by kernel_rfl
theorem ty_z70 : tsz Try.prog 70 = some 2 := by kernel_rfl
theorem ty_b70 : tbytes Try.prog 70 = some 16 := by kernel_rfl
theorem ty_u70 : (Try.prog.underlying 70).isSome = true := by kernel_rfl
theorem ty_c70 : tcmp Try.prog 70 = some [0, 0] := by kernel_rfl
theorem ty_f70_0 : tfld Try.prog 70 0 = some (0, 1, false) := by kernel_rfl
theorem ty_f70_1 : tfld Try.prog 70 1 = some (1, 1, false) := by kernel_rfl
theorem ty_p70 : tplaces Try.prog 70 = some [(0, 1), (1, 1)] := by kernel_rfl
theorem ty_za70 : tzeroA Try.prog 70 = some [.d (D.int .u64 0), .d (D.int .u64 0)] := by kernel_rfl
theorem ty_tz70 : tzero Try.prog 70 = some (Value.agg #[Value.int .u64 0, Value.int .u64 0]) := by kernel_rfl
theorem ty_zs70 : (Value.agg #[Value.int .u64 0, Value.int .u64 0]).cells.size = 2 := by kernel_rfl
theorem ty_zv70 : zeroV Try.prog 70 = .d (D.agg [D.int .u64 0, D.int .u64 0]) := by kernel_rfl
theorem ty_dz70 : dataZero Try.prog 70 = some (D.agg [D.int .u64 0, D.int .u64 0]) := by kernel_rfl
theorem ty_k71 : tkind Try.prog 71 = some true := by kernel_rfl
theorem ty_z71 : tsz Try.prog 71 = some 3 := by kernel_rfl
theorem ty_b71 : tbytes Try.prog 71 = some 24 := by kernel_rfl
theorem ty_u71 : (Try.prog.underlying 71).isSome = true := by kernel_rfl
theorem ty_f71_0 : tfld Try.prog 71 0 = some (0, 1, false) := by kernel_rfl
theorem ty_f71_1 : tfld Try.prog 71 1 = some (1, 2, true) := by kernel_rfl
theorem ty_p71 : tplaces Try.prog 71 = some [(0, 1), (1, 2)] := by kernel_rfl
theorem ty_za71 : tzeroA Try.prog 71 = some [.d (D.bool false), .d (D.int .u64 0), .d (D.int .u64 0)] := by kernel_rfl
theorem ty_tz71 : tzero Try.prog 71 = some (Value.agg #[Value.bool false, Value.int .u64 0, Value.int .u64 0]) := by kernel_rfl
theorem ty_zs71 : (Value.agg #[Value.bool false, Value.int .u64 0, Value.int .u64 0]).cells.size = 3 := by kernel_rfl
theorem ty_zv71 : zeroV Try.prog 71 = .d (D.agg [D.bool false, D.int .u64 0, D.int .u64 0]) := by kernel_rfl
theorem ty_dz71 : dataZero Try.prog 71 = some (D.agg [D.bool false, D.int .u64 0, D.int .u64 0]) := by kernel_rfl
theorem ty_k72 : tkind Try.prog 72 = some true := by kernel_rfl
theorem ty_z72 : tsz Try.prog 72 = some 3 := by kernel_rfl
theorem ty_b72 : tbytes Try.prog 72 = some 24 := by kernel_rfl
theorem ty_u72 : (Try.prog.underlying 72).isSome = true := by kernel_rfl
theorem ty_f72_0 : tfld Try.prog 72 0 = some (0, 1, false) := by kernel_rfl
theorem ty_f72_1 : tfld Try.prog 72 1 = some (1, 2, true) := by kernel_rfl
theorem ty_p72 : tplaces Try.prog 72 = some [(0, 1), (1, 2)] := by kernel_rfl
theorem ty_za72 : tzeroA Try.prog 72 = some [.d (D.bool false), .d (D.int .u64 0), .d (D.int .u64 0)] := by kernel_rfl
theorem ty_tz72 : tzero Try.prog 72 = some (Value.agg #[Value.bool false, Value.int .u64 0, Value.int .u64 0]) := by kernel_rfl
theorem ty_zs72 : (Value.agg #[Value.bool false, Value.int .u64 0, Value.int .u64 0]).cells.size = 3 := by kernel_rfl
theorem ty_zv72 : zeroV Try.prog 72 = .d (D.agg [D.bool false, D.int .u64 0, D.int .u64 0]) := by kernel_rfl
theorem ty_dz72 : dataZero Try.prog 72 = some (D.agg [D.bool false, D.int .u64 0, D.int .u64 0]) := by kernel_rfl
theorem ty_k73 : tkind Try.prog 73 = some false := by kernel_rfl
theorem ty_z73 : tsz Try.prog 73 = some 1 := by kernel_rfl
theorem ty_b73 : tbytes Try.prog 73 = some 8 := by kernel_rfl
theorem ty_u73 : (Try.prog.underlying 73).isSome = true := by kernel_rfl
theorem ty_tz73 : tzero Try.prog 73 = some (Value.nilFunc) := by kernel_rfl
theorem ty_zs73 : (Value.nilFunc).cells.size = 1 := by kernel_rfl
theorem ty_zv73 : zeroV Try.prog 73 = .d (D.raw .nilFunc) := by kernel_rfl
theorem ty_dz73 : dataZero Try.prog 73 = some (D.raw .nilFunc) := by kernel_rfl
theorem ty_k74 : tkind Try.prog 74 = some false := by kernel_rfl
theorem ty_z74 : tsz Try.prog 74 = some 1 := by kernel_rfl
theorem ty_b74 : tbytes Try.prog 74 = some 8 := by kernel_rfl
theorem ty_u74 : (Try.prog.underlying 74).isSome = true := by kernel_rfl
theorem ty_tz74 : tzero Try.prog 74 = some (Value.nilFunc) := by kernel_rfl
theorem ty_zs74 : (Value.nilFunc).cells.size = 1 := by kernel_rfl
theorem ty_zv74 : zeroV Try.prog 74 = .d (D.raw .nilFunc) := by kernel_rfl
theorem ty_dz74 : dataZero Try.prog 74 = some (D.raw .nilFunc) := by kernel_rfl
theorem ty_k75 : tkind Try.prog 75 = some false := by kernel_rfl
theorem ty_z75 : tsz Try.prog 75 = some 1 := by kernel_rfl
theorem ty_b75 : tbytes Try.prog 75 = some 8 := by kernel_rfl
theorem ty_u75 : (Try.prog.underlying 75).isSome = true := by kernel_rfl
theorem ty_tz75 : tzero Try.prog 75 = some (Value.nilFunc) := by kernel_rfl
theorem ty_zs75 : (Value.nilFunc).cells.size = 1 := by kernel_rfl
theorem ty_zv75 : zeroV Try.prog 75 = .d (D.raw .nilFunc) := by kernel_rfl
theorem ty_dz75 : dataZero Try.prog 75 = some (D.raw .nilFunc) := by kernel_rfl
theorem ty_k76 : tkind Try.prog 76 = some false := by kernel_rfl
theorem ty_z76 : tsz Try.prog 76 = some 1 := by kernel_rfl
theorem ty_b76 : tbytes Try.prog 76 = some 8 := by kernel_rfl
theorem ty_u76 : (Try.prog.underlying 76).isSome = true := by kernel_rfl
theorem ty_tz76 : tzero Try.prog 76 = some (Value.nilFunc) := by kernel_rfl
theorem ty_zs76 : (Value.nilFunc).cells.size = 1 := by kernel_rfl
theorem ty_zv76 : zeroV Try.prog 76 = .d (D.raw .nilFunc) := by kernel_rfl
theorem ty_dz76 : dataZero Try.prog 76 = some (D.raw .nilFunc) := by kernel_rfl
theorem ty_k77 : tkind Try.prog 77 = some false := by kernel_rfl
theorem ty_z77 : tsz Try.prog 77 = some 1 := by kernel_rfl
theorem ty_b77 : tbytes Try.prog 77 = some 8 := by kernel_rfl
theorem ty_u77 : (Try.prog.underlying 77).isSome = true := by kernel_rfl
theorem ty_tz77 : tzero Try.prog 77 = some (Value.nilFunc) := by kernel_rfl
theorem ty_zs77 : (Value.nilFunc).cells.size = 1 := by kernel_rfl
theorem ty_zv77 : zeroV Try.prog 77 = .d (D.raw .nilFunc) := by kernel_rfl
theorem ty_dz77 : dataZero Try.prog 77 = some (D.raw .nilFunc) := by kernel_rfl
theorem ty_k78 : tkind Try.prog 78 = some false := by kernel_rfl
theorem ty_z78 : tsz Try.prog 78 = some 1 := by kernel_rfl
theorem ty_b78 : tbytes Try.prog 78 = some 8 := by kernel_rfl
theorem ty_u78 : (Try.prog.underlying 78).isSome = true := by kernel_rfl
theorem ty_tz78 : tzero Try.prog 78 = some (Value.nilFunc) := by kernel_rfl
theorem ty_zs78 : (Value.nilFunc).cells.size = 1 := by kernel_rfl
theorem ty_zv78 : zeroV Try.prog 78 = .d (D.raw .nilFunc) := by kernel_rfl
theorem ty_dz78 : dataZero Try.prog 78 = some (D.raw .nilFunc) := by kernel_rfl
theorem ty_k79 : tkind Try.prog 79 = some false := by kernel_rfl
theorem ty_z79 : tsz Try.prog 79 = some 1 := by kernel_rfl
theorem ty_b79 : tbytes Try.prog 79 = some 8 := by kernel_rfl
theorem ty_u79 : (Try.prog.underlying 79).isSome = true := by kernel_rfl
theorem ty_tz79 : tzero Try.prog 79 = some (Value.nilFunc) := by kernel_rfl
theorem ty_zs79 : (Value.nilFunc).cells.size = 1 := by kernel_rfl
theorem ty_zv79 : zeroV Try.prog 79 = .d (D.raw .nilFunc) := by kernel_rfl
theorem ty_dz79 : dataZero Try.prog 79 = some (D.raw .nilFunc) := by kernel_rfl
theorem ty_k80 : tkind Try.prog 80 = some false := by kernel_rfl
theorem ty_z80 : tsz Try.prog 80 = some 1 := by kernel_rfl
theorem ty_b80 : tbytes Try.prog 80 = some 8 := by kernel_rfl
theorem ty_u80 : (Try.prog.underlying 80).isSome = true := by kernel_rfl
theorem ty_tz80 : tzero Try.prog 80 = some (Value.nilFunc) := by kernel_rfl
theorem ty_zs80 : (Value.nilFunc).cells.size = 1 := by kernel_rfl
theorem ty_zv80 : zeroV Try.prog 80 = .d (D.raw .nilFunc) := by kernel_rfl
theorem ty_dz80 : dataZero Try.prog 80 = some (D.raw .nilFunc) := by kernel_rfl
theorem ty_k81 : tkind Try.prog 81 = some false := by kernel_rfl
theorem ty_z81 : tsz Try.prog 81 = some 1 := by kernel_rfl
theorem ty_b81 : tbytes Try.prog 81 = some 8 := by kernel_rfl
theorem ty_u81 : (Try.prog.underlying 81).isSome = true := by kernel_rfl
theorem ty_tz81 : tzero Try.prog 81 = some (Value.nilFunc) := by kernel_rfl
theorem ty_zs81 : (Value.nilFunc).cells.size = 1 := by kernel_rfl
theorem ty_zv81 : zeroV Try.prog 81 = .d (D.raw .nilFunc) := by kernel_rfl
theorem ty_dz81 : dataZero Try.prog 81 = some (D.raw .nilFunc) := by kernel_rfl
theorem ty_k82 : tkind Try.prog 82 = some false := by kernel_rfl
theorem ty_z82 : tsz Try.prog 82 = some 1 := by kernel_rfl
theorem ty_b82 : tbytes Try.prog 82 = some 8 := by kernel_rfl
theorem ty_u82 : (Try.prog.underlying 82).isSome = true := by kernel_rfl
theorem ty_tz82 : tzero Try.prog 82 = some (Value.nilFunc) := by kernel_rfl
theorem ty_zs82 : (Value.nilFunc).cells.size = 1 := by kernel_rfl
theorem ty_zv82 : zeroV Try.prog 82 = .d (D.raw .nilFunc) := by kernel_rfl
theorem ty_dz82 : dataZero Try.prog 82 = some (D.raw .nilFunc) := by kernel_rfl
theorem ty_k83 : tkind Try.prog 83 = some false := by kernel_rfl
theorem ty_z83 : tsz Try.prog 83 = some 1 := by kernel_rfl
theorem ty_b83 : tbytes Try.prog 83 = some 8 := by kernel_rfl
theorem ty_u83 : (Try.prog.underlying 83).isSome = true := by kernel_rfl
theorem ty_tz83 : tzero Try.prog 83 = some (Value.nilFunc) := by kernel_rfl
theorem ty_zs83 : (Value.nilFunc).cells.size = 1 := by kernel_rfl
theorem ty_zv83 : zeroV Try.prog 83 = .d (D.raw .nilFunc) := by kernel_rfl
theorem ty_dz83 : dataZero Try.prog 83 = some (D.raw .nilFunc) := by kernel_rfl
theorem ty_k84 : tkind Try.prog 84 = some false := by kernel_rfl
theorem ty_z84 : tsz Try.prog 84 = some 1 := by kernel_rfl
theorem ty_b84 : tbytes Try.prog 84 = some 8 := by kernel_rfl
theorem ty_u84 : (Try.prog.underlying 84).isSome = true := by kernel_rfl
theorem ty_tz84 : tzero Try.prog 84 = some (Value.nilFunc) := by kernel_rfl
theorem ty_zs84 : (Value.nilFunc).cells.size = 1 := by kernel_rfl
theorem ty_zv84 : zeroV Try.prog 84 = .d (D.raw .nilFunc) := by kernel_rfl
theorem ty_dz84 : dataZero Try.prog 84 = some (D.raw .nilFunc) := by kernel_rfl
theorem ty_k85 : tkind Try.prog 85 = some false := by kernel_rfl
theorem ty_z85 : tsz Try.prog 85 = some 1 := by kernel_rfl
theorem ty_e85 : telem Try.prog 85 = some 3 := by kernel_rfl
theorem ty_ae85 : apEs Try.prog 85 = 1 := by kernel_rfl
theorem ty_b85 : tbytes Try.prog 85 = some 24 := by kernel_rfl
theorem ty_x85 : tidx Try.prog 85 = some (none, 1) := by kernel_rfl
theorem ty_u85 : (Try.prog.underlying 85).isSome = true := by kernel_rfl
theorem ty_tz85 : tzero Try.prog 85 = some (Value.slice none 0 0) := by kernel_rfl
theorem ty_zs85 : (Value.slice none 0 0).cells.size = 1 := by kernel_rfl
theorem ty_zv85 : zeroV Try.prog 85 = .nils := by kernel_rfl
theorem ty_dz85 : dataZero Try.prog 85 = some (D.sl []) := by kernel_rfl
theorem ty_k86 : tkind Try.prog 86 = some false := by kernel_rfl
theorem ty_z86 : tsz Try.prog 86 = some 1 := by kernel_rfl
theorem ty_b86 : tbytes Try.prog 86 = some 8 := by kernel_rfl
theorem ty_i86 : tintk Try.prog 86 = some .u64 := by kernel_rfl
theorem ty_u86 : (Try.prog.underlying 86).isSome = true := by kernel_rfl
theorem ty_tz86 : tzero Try.prog 86 = some (Value.int .u64 0) := by kernel_rfl
theorem ty_zs86 : (Value.int .u64 0).cells.size = 1 := by kernel_rfl
theorem ty_zv86 : zeroV Try.prog 86 = .d (D.int .u64 0) := by kernel_rfl
theorem ty_dz86 : dataZero Try.prog 86 = some (D.int .u64 0) := by kernel_rfl
theorem ty_k87 : tkind Try.prog 87 = some false := by kernel_rfl
theorem ty_z87 : tsz Try.prog 87 = some 1 := by kernel_rfl
theorem ty_b87 : tbytes Try.prog 87 = some 0 := by kernel_rfl
theorem ty_u87 : (Try.prog.underlying 87).isSome = true := by kernel_rfl
theorem ty_zv87 : zeroV Try.prog 87 = .undef := by kernel_rfl
theorem ty_k88 : tkind Try.prog 88 = some false := by kernel_rfl
theorem ty_z88 : tsz Try.prog 88 = some 1 := by kernel_rfl
theorem ty_b88 : tbytes Try.prog 88 = some 8 := by kernel_rfl
theorem ty_u88 : (Try.prog.underlying 88).isSome = true := by kernel_rfl
theorem ty_tz88 : tzero Try.prog 88 = some (Value.nilFunc) := by kernel_rfl
theorem ty_zs88 : (Value.nilFunc).cells.size = 1 := by kernel_rfl
theorem ty_zv88 : zeroV Try.prog 88 = .d (D.raw .nilFunc) := by kernel_rfl
theorem ty_dz88 : dataZero Try.prog 88 = some (D.raw .nilFunc) := by kernel_rfl
theorem ty_k89 : tkind Try.prog 89 = some false := by kernel_rfl
theorem ty_z89 : tsz Try.prog 89 = some 1 := by kernel_rfl
theorem ty_b89 : tbytes Try.prog 89 = some 8 := by kernel_rfl
theorem ty_u89 : (Try.prog.underlying 89).isSome = true := by kernel_rfl
theorem ty_tz89 : tzero Try.prog 89 = some (Value.nilFunc) := by kernel_rfl
theorem ty_zs89 : (Value.nilFunc).cells.size = 1 := by kernel_rfl
theorem ty_zv89 : zeroV Try.prog 89 = .d (D.raw .nilFunc) := by kernel_rfl
theorem ty_dz89 : dataZero Try.prog 89 = some (D.raw .nilFunc) := by kernel_rfl
theorem ty_k90 : tkind Try.prog 90 = some false := by kernel_rfl
theorem ty_z90 : tsz Try.prog 90 = some 1 := by kernel_rfl
theorem ty_b90 : tbytes Try.prog 90 = some 8 := by kernel_rfl
theorem ty_u90 : (Try.prog.underlying 90).isSome = true := by kernel_rfl
theorem ty_tz90 : tzero Try.prog 90 = some (Value.nilFunc) := by kernel_rfl
theorem ty_zs90 : (Value.nilFunc).cells.size = 1 := by kernel_rfl
theorem ty_zv90 : zeroV Try.prog 90 = .d (D.raw .nilFunc) := by kernel_rfl
theorem ty_dz90 : dataZero Try.prog 90 = some (D.raw .nilFunc) := by kernel_rfl
theorem ty_k91 : tkind Try.prog 91 = some false := by kernel_rfl
theorem ty_z91 : tsz Try.prog 91 = some 1 := by kernel_rfl
theorem ty_b91 : tbytes Try.prog 91 = some 8 := by kernel_rfl
theorem ty_u91 : (Try.prog.underlying 91).isSome = true := by kernel_rfl
theorem ty_tz91 : tzero Try.prog 91 = some (Value.nilFunc) := by kernel_rfl
theorem ty_zs91 : (Value.nilFunc).cells.size = 1 := by kernel_rfl
theorem ty_zv91 : zeroV Try.prog 91 = .d (D.raw .nilFunc) := by kernel_rfl
theorem ty_dz91 : dataZero Try.prog 91 = some (D.raw .nilFunc) := by kernel_rfl
theorem ty_k92 : tkind Try.prog 92 = some false := by kernel_rfl
theorem ty_z92 : tsz Try.prog 92 = some 1 := by kernel_rfl
theorem ty_b92 : tbytes Try.prog 92 = some 8 := by kernel_rfl
theorem ty_u92 : (Try.prog.underlying 92).isSome = true := by kernel_rfl
theorem ty_tz92 : tzero Try.prog 92 = some (Value.nilFunc) := by kernel_rfl
theorem ty_zs92 : (Value.nilFunc).cells.size = 1 := by kernel_rfl
theorem ty_zv92 : zeroV Try.prog 92 = .d (D.raw .nilFunc) := by kernel_rfl
theorem ty_dz92 : dataZero Try.prog 92 = some (D.raw .nilFunc) := by kernel_rfl
theorem ty_k93 : tkind Try.prog 93 = some false := by kernel_rfl
theorem ty_z93 : tsz Try.prog 93 = some 1 := by kernel_rfl
theorem ty_b93 : tbytes Try.prog 93 = some 8 := by kernel_rfl
theorem ty_u93 : (Try.prog.underlying 93).isSome = true := by kernel_rfl
theorem ty_tz93 : tzero Try.prog 93 = some (Value.nilFunc) := by kernel_rfl
theorem ty_zs93 : (Value.nilFunc).cells.size = 1 := by kernel_rfl
theorem ty_zv93 : zeroV Try.prog 93 = .d (D.raw .nilFunc) := by kernel_rfl
theorem ty_dz93 : dataZero Try.prog 93 = some (D.raw .nilFunc) := by kernel_rfl
theorem ty_k94 : tkind Try.prog 94 = some false := by kernel_rfl
theorem ty_z94 : tsz Try.prog 94 = some 1 := by kernel_rfl
theorem ty_b94 : tbytes Try.prog 94 = some 8 := by kernel_rfl
theorem ty_u94 : (Try.prog.underlying 94).isSome = true := by kernel_rfl
theorem ty_tz94 : tzero Try.prog 94 = some (Value.nilFunc) := by kernel_rfl
theorem ty_zs94 : (Value.nilFunc).cells.size = 1 := by kernel_rfl
theorem ty_zv94 : zeroV Try.prog 94 = .d (D.raw .nilFunc) := by kernel_rfl
theorem ty_dz94 : dataZero Try.prog 94 = some (D.raw .nilFunc) := by kernel_rfl
theorem ty_k95 : tkind Try.prog 95 = some false := by kernel_rfl
theorem ty_z95 : tsz Try.prog 95 = some 1 := by kernel_rfl
theorem ty_b95 : tbytes Try.prog 95 = some 8 := by kernel_rfl
theorem ty_u95 : (Try.prog.underlying 95).isSome = true := by kernel_rfl
theorem ty_tz95 : tzero Try.prog 95 = some (Value.nilFunc) := by kernel_rfl
theorem ty_zs95 : (Value.nilFunc).cells.size = 1 := by kernel_rfl
theorem ty_zv95 : zeroV Try.prog 95 = .d (D.raw .nilFunc) := by kernel_rfl
theorem ty_dz95 : dataZero Try.prog 95 = some (D.raw .nilFunc) := by kernel_rfl
theorem ty_k96 : tkind Try.prog 96 = some false := by kernel_rfl
theorem ty_z96 : tsz Try.prog 96 = some 1 := by kernel_rfl
theorem ty_b96 : tbytes Try.prog 96 = some 8 := by kernel_rfl
theorem ty_u96 : (Try.prog.underlying 96).isSome = true := by kernel_rfl
theorem ty_tz96 : tzero Try.prog 96 = some (Value.nilFunc) := by kernel_rfl
theorem ty_zs96 : (Value.nilFunc).cells.size = 1 := by kernel_rfl
theorem ty_zv96 : zeroV Try.prog 96 = .d (D.raw .nilFunc) := by kernel_rfl
theorem ty_dz96 : dataZero Try.prog 96 = some (D.raw .nilFunc) := by kernel_rfl
theorem ty_k97 : tkind Try.prog 97 = some false := by kernel_rfl
theorem ty_z97 : tsz Try.prog 97 = some 1 := by kernel_rfl
theorem ty_b97 : tbytes Try.prog 97 = some 8 := by kernel_rfl
theorem ty_u97 : (Try.prog.underlying 97).isSome = true := by kernel_rfl
theorem ty_tz97 : tzero Try.prog 97 = some (Value.nilFunc) := by kernel_rfl
theorem ty_zs97 : (Value.nilFunc).cells.size = 1 := by kernel_rfl
theorem ty_zv97 : zeroV Try.prog 97 = .d (D.raw .nilFunc) := by kernel_rfl
theorem ty_dz97 : dataZero Try.prog 97 = some (D.raw .nilFunc) := by kernel_rfl
theorem ty_k98 : tkind Try.prog 98 = some false := by kernel_rfl
theorem ty_z98 : tsz Try.prog 98 = some 1 := by kernel_rfl
theorem ty_b98 : tbytes Try.prog 98 = some 8 := by kernel_rfl
theorem ty_u98 : (Try.prog.underlying 98).isSome = true := by kernel_rfl
theorem ty_tz98 : tzero Try.prog 98 = some (Value.nilFunc) := by kernel_rfl
theorem ty_zs98 : (Value.nilFunc).cells.size = 1 := by kernel_rfl
theorem ty_zv98 : zeroV Try.prog 98 = .d (D.raw .nilFunc) := by kernel_rfl
theorem ty_dz98 : dataZero Try.prog 98 = some (D.raw .nilFunc) := by kernel_rfl
theorem ty_k99 : tkind Try.prog 99 = some false := by kernel_rfl
theorem ty_z99 : tsz Try.prog 99 = some 1 := by kernel_rfl
theorem ty_b99 : tbytes Try.prog 99 = some 8 := by kernel_rfl
theorem ty_u99 : (Try.prog.underlying 99).isSome = true := by kernel_rfl
theorem ty_tz99 : tzero Try.prog 99 = some (Value.nilFunc) := by kernel_rfl
theorem ty_zs99 : (Value.nilFunc).cells.size = 1 := by kernel_rfl
theorem ty_zv99 : zeroV Try.prog 99 = .d (D.raw .nilFunc) := by kernel_rfl
theorem ty_dz99 : dataZero Try.prog 99 = some (D.raw .nilFunc) := by kernel_rfl
theorem ty_k100 : tkind Try.prog 100 = some false := by kernel_rfl
theorem ty_z100 : tsz Try.prog 100 = some 1 := by kernel_rfl
theorem ty_b100 : tbytes Try.prog 100 = some 8 := by kernel_rfl
theorem ty_u100 : (Try.prog.underlying 100).isSome = true := by kernel_rfl
theorem ty_tz100 : tzero Try.prog 100 = some (Value.nilFunc) := by kernel_rfl
theorem ty_zs100 : (Value.nilFunc).cells.size = 1 := by kernel_rfl
theorem ty_zv100 : zeroV Try.prog 100 = .d (D.raw .nilFunc) := by kernel_rfl
theorem ty_dz100 : dataZero Try.prog 100 = some (D.raw .nilFunc) := by kernel_rfl
theorem ty_k101 : tkind Try.prog 101 = some true := by kernel_rfl
theorem ty_z101 : tsz Try.prog 101 = some 4 := by kernel_rfl
theorem ty_b101 : tbytes Try.prog 101 = some 40 := by kernel_rfl
theorem ty_u101 : (Try.prog.underlying 101).isSome = true := by kernel_rfl
theorem ty_f101_0 : tfld Try.prog 101 0 = some (0, 1, false) := by kernel_rfl
theorem ty_f101_1 : tfld Try.prog 101 1 = some (1, 1, false) := by kernel_rfl
theorem ty_f101_2 : tfld Try.prog 101 2 = some (2, 1, false) := by kernel_rfl
theorem ty_f101_3 : tfld Try.prog 101 3 = some (3, 1, false) := by kernel_rfl
theorem ty_p101 : tplaces Try.prog 101 = some [(0, 1), (1, 1), (2, 1), (3, 1)] := by kernel_rfl
theorem ty_za101 : tzeroA Try.prog 101 = some [.d (D.raw (.pointer none)), .d (D.raw (.pointer none)), .d (D.raw (.pointer none)), .d (D.str [])] := by kernel_rfl
theorem ty_tz101 : tzero Try.prog 101 = some (Value.agg #[Value.pointer none, Value.pointer none, Value.pointer none, Value.string ⟨#[]⟩]) := by kernel_rfl
theorem ty_zs101 : (Value.agg #[Value.pointer none, Value.pointer none, Value.pointer none, Value.string ⟨#[]⟩]).cells.size = 4 := by kernel_rfl
theorem ty_zv101 : zeroV Try.prog 101 = .d (D.agg [D.raw (.pointer none), D.raw (.pointer none), D.raw (.pointer none), D.str []]) := by kernel_rfl
theorem ty_dz101 : dataZero Try.prog 101 = some (D.agg [D.raw (.pointer none), D.raw (.pointer none), D.raw (.pointer none), D.str []]) := by kernel_rfl
theorem ty_k102 : tkind Try.prog 102 = some true := by kernel_rfl
theorem ty_z102 : tsz Try.prog 102 = some 4 := by kernel_rfl
theorem ty_b102 : tbytes Try.prog 102 = some 40 := by kernel_rfl
theorem ty_u102 : (Try.prog.underlying 102).isSome = true := by kernel_rfl
theorem ty_f102_0 : tfld Try.prog 102 0 = some (0, 1, false) := by kernel_rfl
theorem ty_f102_1 : tfld Try.prog 102 1 = some (1, 1, false) := by kernel_rfl
theorem ty_f102_2 : tfld Try.prog 102 2 = some (2, 1, false) := by kernel_rfl
theorem ty_f102_3 : tfld Try.prog 102 3 = some (3, 1, false) := by kernel_rfl
theorem ty_p102 : tplaces Try.prog 102 = some [(0, 1), (1, 1), (2, 1), (3, 1)] := by kernel_rfl
theorem ty_za102 : tzeroA Try.prog 102 = some [.d (D.raw (.pointer none)), .d (D.raw (.pointer none)), .d (D.raw (.pointer none)), .d (D.str [])] := by kernel_rfl
theorem ty_tz102 : tzero Try.prog 102 = some (Value.agg #[Value.pointer none, Value.pointer none, Value.pointer none, Value.string ⟨#[]⟩]) := by kernel_rfl
theorem ty_zs102 : (Value.agg #[Value.pointer none, Value.pointer none, Value.pointer none, Value.string ⟨#[]⟩]).cells.size = 4 := by kernel_rfl
theorem ty_zv102 : zeroV Try.prog 102 = .d (D.agg [D.raw (.pointer none), D.raw (.pointer none), D.raw (.pointer none), D.str []]) := by kernel_rfl
theorem ty_dz102 : dataZero Try.prog 102 = some (D.agg [D.raw (.pointer none), D.raw (.pointer none), D.raw (.pointer none), D.str []]) := by kernel_rfl
theorem ty_k103 : tkind Try.prog 103 = some true := by kernel_rfl
theorem ty_z103 : tsz Try.prog 103 = some 0 := by kernel_rfl
theorem ty_b103 : tbytes Try.prog 103 = some 0 := by kernel_rfl
theorem ty_x103 : tidx Try.prog 103 = some (some 0, 1) := by kernel_rfl
theorem ty_u103 : (Try.prog.underlying 103).isSome = true := by kernel_rfl
theorem ty_p103 : tplaces Try.prog 103 = some [] := by kernel_rfl
theorem ty_za103 : tzeroA Try.prog 103 = some [] := by kernel_rfl
theorem ty_tz103 : tzero Try.prog 103 = some (Value.agg #[]) := by kernel_rfl
theorem ty_zs103 : (Value.agg #[]).cells.size = 0 := by kernel_rfl
theorem ty_zv103 : zeroV Try.prog 103 = .d (D.agg []) := by kernel_rfl
theorem ty_dz103 : dataZero Try.prog 103 = some (D.agg []) := by kernel_rfl
theorem ty_k104 : tkind Try.prog 104 = some true := by kernel_rfl
theorem ty_z104 : tsz Try.prog 104 = some 0 := by kernel_rfl
theorem ty_b104 : tbytes Try.prog 104 = some 0 := by kernel_rfl
theorem ty_u104 : (Try.prog.underlying 104).isSome = true := by kernel_rfl
theorem ty_f104_0 : tfld Try.prog 104 0 = some (0, 0, true) := by kernel_rfl
theorem ty_p104 : tplaces Try.prog 104 = some [(0, 0)] := by kernel_rfl
theorem ty_za104 : tzeroA Try.prog 104 = some [] := by kernel_rfl
theorem ty_tz104 : tzero Try.prog 104 = some (Value.agg #[]) := by kernel_rfl
theorem ty_zs104 : (Value.agg #[]).cells.size = 0 := by kernel_rfl
theorem ty_zv104 : zeroV Try.prog 104 = .d (D.agg []) := by kernel_rfl
theorem ty_dz104 : dataZero Try.prog 104 = some (D.agg []) := by kernel_rfl
theorem ty_k105 : tkind Try.prog 105 = some true := by kernel_rfl
theorem ty_z105 : tsz Try.prog 105 = some 0 := by kernel_rfl
theorem ty_b105 : tbytes Try.prog 105 = some 0 := by kernel_rfl
theorem ty_u105 : (Try.prog.underlying 105).isSome = true := by kernel_rfl
theorem ty_f105_0 : tfld Try.prog 105 0 = some (0, 0, true) := by kernel_rfl
theorem ty_p105 : tplaces Try.prog 105 = some [(0, 0)] := by kernel_rfl
theorem ty_za105 : tzeroA Try.prog 105 = some [] := by kernel_rfl
theorem ty_tz105 : tzero Try.prog 105 = some (Value.agg #[]) := by kernel_rfl
theorem ty_zs105 : (Value.agg #[]).cells.size = 0 := by kernel_rfl
theorem ty_zv105 : zeroV Try.prog 105 = .d (D.agg []) := by kernel_rfl
theorem ty_dz105 : dataZero Try.prog 105 = some (D.agg []) := by kernel_rfl
theorem ty_k106 : tkind Try.prog 106 = some false := by kernel_rfl
theorem ty_z106 : tsz Try.prog 106 = some 1 := by kernel_rfl
theorem ty_b106 : tbytes Try.prog 106 = some 8 := by kernel_rfl
theorem ty_u106 : (Try.prog.underlying 106).isSome = true := by kernel_rfl
theorem ty_tz106 : tzero Try.prog 106 = some (Value.nilFunc) := by kernel_rfl
theorem ty_zs106 : (Value.nilFunc).cells.size = 1 := by kernel_rfl
theorem ty_zv106 : zeroV Try.prog 106 = .d (D.raw .nilFunc) := by kernel_rfl
theorem ty_dz106 : dataZero Try.prog 106 = some (D.raw .nilFunc) := by kernel_rfl
theorem ty_k107 : tkind Try.prog 107 = some false := by kernel_rfl
theorem ty_z107 : tsz Try.prog 107 = some 1 := by kernel_rfl
theorem ty_b107 : tbytes Try.prog 107 = some 4 := by kernel_rfl
theorem ty_i107 : tintk Try.prog 107 = some .u32 := by kernel_rfl
theorem ty_u107 : (Try.prog.underlying 107).isSome = true := by kernel_rfl
theorem ty_tz107 : tzero Try.prog 107 = some (Value.int .u32 0) := by kernel_rfl
theorem ty_zs107 : (Value.int .u32 0).cells.size = 1 := by kernel_rfl
theorem ty_zv107 : zeroV Try.prog 107 = .d (D.int .u32 0) := by kernel_rfl
theorem ty_dz107 : dataZero Try.prog 107 = some (D.int .u32 0) := by kernel_rfl
theorem ty_k108 : tkind Try.prog 108 = some false := by kernel_rfl
theorem ty_z108 : tsz Try.prog 108 = some 1 := by kernel_rfl
theorem ty_b108 : tbytes Try.prog 108 = some 1 := by kernel_rfl
theorem ty_i108 : tintk Try.prog 108 = some .u8 := by kernel_rfl
theorem ty_u108 : (Try.prog.underlying 108).isSome = true := by kernel_rfl
theorem ty_tz108 : tzero Try.prog 108 = some (Value.int .u8 0) := by kernel_rfl
theorem ty_zs108 : (Value.int .u8 0).cells.size = 1 := by kernel_rfl
theorem ty_zv108 : zeroV Try.prog 108 = .d (D.int .u8 0) := by kernel_rfl
theorem ty_dz108 : dataZero Try.prog 108 = some (D.int .u8 0) := by kernel_rfl
theorem ty_k109 : tkind Try.prog 109 = some false := by kernel_rfl
theorem ty_z109 : tsz Try.prog 109 = some 1 := by kernel_rfl
theorem ty_b109 : tbytes Try.prog 109 = some 1 := by kernel_rfl
theorem ty_i109 : tintk Try.prog 109 = some .u8 := by kernel_rfl
theorem ty_u109 : (Try.prog.underlying 109).isSome = true := by kernel_rfl
theorem ty_tz109 : tzero Try.prog 109 = some (Value.int .u8 0) := by kernel_rfl
theorem ty_zs109 : (Value.int .u8 0).cells.size = 1 := by kernel_rfl
theorem ty_zv109 : zeroV Try.prog 109 = .d (D.int .u8 0) := by kernel_rfl
theorem ty_dz109 : dataZero Try.prog 109 = some (D.int .u8 0) := by kernel_rfl
theorem ty_k110 : tkind Try.prog 110 = some false := by kernel_rfl
theorem ty_z110 : tsz Try.prog 110 = some 1 := by kernel_rfl
theorem ty_b110 : tbytes Try.prog 110 = some 8 := by kernel_rfl
theorem ty_u110 : (Try.prog.underlying 110).isSome = true := by kernel_rfl
theorem ty_tz110 : tzero Try.prog 110 = some (Value.nilFunc) := by kernel_rfl
theorem ty_zs110 : (Value.nilFunc).cells.size = 1 := by kernel_rfl
theorem ty_zv110 : zeroV Try.prog 110 = .d (D.raw .nilFunc) := by kernel_rfl
theorem ty_dz110 : dataZero Try.prog 110 = some (D.raw .nilFunc) := by kernel_rfl
theorem ty_k111 : tkind Try.prog 111 = some false := by kernel_rfl
theorem ty_z111 : tsz Try.prog 111 = some 1 := by kernel_rfl
theorem ty_pt111 : tptr Try.prog 111 = true := by kernel_rfl
theorem ty_b111 : tbytes Try.prog 111 = some 8 := by kernel_rfl
theorem ty_u111 : (Try.prog.underlying 111).isSome = true := by kernel_rfl
theorem ty_tz111 : tzero Try.prog 111 = some (Value.pointer none) := by kernel_rfl
theorem ty_zs111 : (Value.pointer none).cells.size = 1 := by kernel_rfl
theorem ty_zv111 : zeroV Try.prog 111 = .d (D.raw (.pointer none)) := by kernel_rfl
theorem ty_dz111 : dataZero Try.prog 111 = some (D.raw (.pointer none)) := by kernel_rfl
theorem ty_k112 : tkind Try.prog 112 = some false := by kernel_rfl
theorem ty_z112 : tsz Try.prog 112 = some 1 := by kernel_rfl
theorem ty_b112 : tbytes Try.prog 112 = some 4 := by kernel_rfl
theorem ty_i112 : tintk Try.prog 112 = some .i32 := by kernel_rfl
theorem ty_u112 : (Try.prog.underlying 112).isSome = true := by kernel_rfl
theorem ty_tz112 : tzero Try.prog 112 = some (Value.int .i32 0) := by kernel_rfl
theorem ty_zs112 : (Value.int .i32 0).cells.size = 1 := by kernel_rfl
theorem ty_zv112 : zeroV Try.prog 112 = .d (D.int .i32 0) := by kernel_rfl
theorem ty_dz112 : dataZero Try.prog 112 = some (D.int .i32 0) := by kernel_rfl
theorem ty_k113 : tkind Try.prog 113 = some false := by kernel_rfl
theorem ty_z113 : tsz Try.prog 113 = some 1 := by kernel_rfl
theorem ty_b113 : tbytes Try.prog 113 = some 4 := by kernel_rfl
theorem ty_i113 : tintk Try.prog 113 = some .i32 := by kernel_rfl
theorem ty_u113 : (Try.prog.underlying 113).isSome = true := by kernel_rfl
theorem ty_tz113 : tzero Try.prog 113 = some (Value.int .i32 0) := by kernel_rfl
theorem ty_zs113 : (Value.int .i32 0).cells.size = 1 := by kernel_rfl
theorem ty_zv113 : zeroV Try.prog 113 = .d (D.int .i32 0) := by kernel_rfl
theorem ty_dz113 : dataZero Try.prog 113 = some (D.int .i32 0) := by kernel_rfl
theorem ty_k114 : tkind Try.prog 114 = some true := by kernel_rfl
theorem ty_z114 : tsz Try.prog 114 = some 11 := by kernel_rfl
theorem ty_b114 : tbytes Try.prog 114 = some 48 := by kernel_rfl
theorem ty_u114 : (Try.prog.underlying 114).isSome = true := by kernel_rfl
theorem ty_f114_0 : tfld Try.prog 114 0 = some (0, 1, false) := by kernel_rfl
theorem ty_f114_1 : tfld Try.prog 114 1 = some (1, 1, false) := by kernel_rfl
theorem ty_f114_2 : tfld Try.prog 114 2 = some (2, 1, false) := by kernel_rfl
theorem ty_f114_3 : tfld Try.prog 114 3 = some (3, 1, false) := by kernel_rfl
theorem ty_f114_4 : tfld Try.prog 114 4 = some (4, 1, false) := by kernel_rfl
theorem ty_f114_5 : tfld Try.prog 114 5 = some (5, 1, false) := by kernel_rfl
theorem ty_f114_6 : tfld Try.prog 114 6 = some (6, 1, false) := by kernel_rfl
theorem ty_f114_7 : tfld Try.prog 114 7 = some (7, 1, false) := by kernel_rfl
theorem ty_f114_8 : tfld Try.prog 114 8 = some (8, 1, false) := by kernel_rfl
theorem ty_f114_9 : tfld Try.prog 114 9 = some (9, 1, false) := by kernel_rfl
theorem ty_f114_10 : tfld Try.prog 114 10 = some (10, 1, false) := by kernel_rfl
theorem ty_p114 : tplaces Try.prog 114 = some [(0, 1), (1, 1), (2, 1), (3, 1), (4, 1), (5, 1), (6, 1), (7, 1), (8, 1), (9, 1), (10, 1)] := by kernel_rfl
theorem ty_za114 : tzeroA Try.prog 114 = some [.d (D.int .u64 0), .d (D.int .u64 0), .d (D.int .u32 0), .d (D.int .u8 0), .d (D.int .u8 0), .d (D.int .u8 0), .d (D.int .u8 0), .d (D.raw .nilFunc), .d (D.raw (.pointer none)), .d (D.int .i32 0), .d (D.int .i32 0)] := by kernel_rfl
theorem ty_tz114 : tzero Try.prog 114 = some (Value.agg #[Value.int .u64 0, Value.int .u64 0, Value.int .u32 0, Value.int .u8 0, Value.int .u8 0, Value.int .u8 0, Value.int .u8 0, Value.nilFunc, Value.pointer none, Value.int .i32 0, Value.int .i32 0]) := by kernel_rfl
theorem ty_zs114 : (Value.agg #[Value.int .u64 0, Value.int .u64 0, Value.int .u32 0, Value.int .u8 0, Value.int .u8 0, Value.int .u8 0, Value.int .u8 0, Value.nilFunc, Value.pointer none, Value.int .i32 0, Value.int .i32 0]).cells.size = 11 := by kernel_rfl
theorem ty_zv114 : zeroV Try.prog 114 = .d (D.agg [D.int .u64 0, D.int .u64 0, D.int .u32 0, D.int .u8 0, D.int .u8 0, D.int .u8 0, D.int .u8 0, D.raw .nilFunc, D.raw (.pointer none), D.int .i32 0, D.int .i32 0]) := by kernel_rfl
theorem ty_dz114 : dataZero Try.prog 114 = some (D.agg [D.int .u64 0, D.int .u64 0, D.int .u32 0, D.int .u8 0, D.int .u8 0, D.int .u8 0, D.int .u8 0, D.raw .nilFunc, D.raw (.pointer none), D.int .i32 0, D.int .i32 0]) := by kernel_rfl
theorem ty_k115 : tkind Try.prog 115 = some true := by kernel_rfl
theorem ty_z115 : tsz Try.prog 115 = some 11 := by kernel_rfl
theorem ty_b115 : tbytes Try.prog 115 = some 48 := by kernel_rfl
theorem ty_u115 : (Try.prog.underlying 115).isSome = true := by kernel_rfl
theorem ty_f115_0 : tfld Try.prog 115 0 = some (0, 1, false) := by kernel_rfl
theorem ty_f115_1 : tfld Try.prog 115 1 = some (1, 1, false) := by kernel_rfl
theorem ty_f115_2 : tfld Try.prog 115 2 = some (2, 1, false) := by kernel_rfl
theorem ty_f115_3 : tfld Try.prog 115 3 = some (3, 1, false) := by kernel_rfl
theorem ty_f115_4 : tfld Try.prog 115 4 = some (4, 1, false) := by kernel_rfl
theorem ty_f115_5 : tfld Try.prog 115 5 = some (5, 1, false) := by kernel_rfl
theorem ty_f115_6 : tfld Try.prog 115 6 = some (6, 1, false) := by kernel_rfl
theorem ty_f115_7 : tfld Try.prog 115 7 = some (7, 1, false) := by kernel_rfl
theorem ty_f115_8 : tfld Try.prog 115 8 = some (8, 1, false) := by kernel_rfl
theorem ty_f115_9 : tfld Try.prog 115 9 = some (9, 1, false) := by kernel_rfl
theorem ty_f115_10 : tfld Try.prog 115 10 = some (10, 1, false) := by kernel_rfl
theorem ty_p115 : tplaces Try.prog 115 = some [(0, 1), (1, 1), (2, 1), (3, 1), (4, 1), (5, 1), (6, 1), (7, 1), (8, 1), (9, 1), (10, 1)] := by kernel_rfl
theorem ty_za115 : tzeroA Try.prog 115 = some [.d (D.int .u64 0), .d (D.int .u64 0), .d (D.int .u32 0), .d (D.int .u8 0), .d (D.int .u8 0), .d (D.int .u8 0), .d (D.int .u8 0), .d (D.raw .nilFunc), .d (D.raw (.pointer none)), .d (D.int .i32 0), .d (D.int .i32 0)] := by kernel_rfl
theorem ty_tz115 : tzero Try.prog 115 = some (Value.agg #[Value.int .u64 0, Value.int .u64 0, Value.int .u32 0, Value.int .u8 0, Value.int .u8 0, Value.int .u8 0, Value.int .u8 0, Value.nilFunc, Value.pointer none, Value.int .i32 0, Value.int .i32 0]) := by kernel_rfl
theorem ty_zs115 : (Value.agg #[Value.int .u64 0, Value.int .u64 0, Value.int .u32 0, Value.int .u8 0, Value.int .u8 0, Value.int .u8 0, Value.int .u8 0, Value.nilFunc, Value.pointer none, Value.int .i32 0, Value.int .i32 0]).cells.size = 11 := by kernel_rfl
theorem ty_zv115 : zeroV Try.prog 115 = .d (D.agg [D.int .u64 0, D.int .u64 0, D.int .u32 0, D.int .u8 0, D.int .u8 0, D.int .u8 0, D.int .u8 0, D.raw .nilFunc, D.raw (.pointer none), D.int .i32 0, D.int .i32 0]) := by kernel_rfl
theorem ty_dz115 : dataZero Try.prog 115 = some (D.agg [D.int .u64 0, D.int .u64 0, D.int .u32 0, D.int .u8 0, D.int .u8 0, D.int .u8 0, D.int .u8 0, D.raw .nilFunc, D.raw (.pointer none), D.int .i32 0, D.int .i32 0]) := by kernel_rfl
theorem ty_k116 : tkind Try.prog 116 = some false := by kernel_rfl
theorem ty_z116 : tsz Try.prog 116 = some 1 := by kernel_rfl
theorem ty_b116 : tbytes Try.prog 116 = some 8 := by kernel_rfl
theorem ty_u116 : (Try.prog.underlying 116).isSome = true := by kernel_rfl
theorem ty_tz116 : tzero Try.prog 116 = some (Value.pointer none) := by kernel_rfl
theorem ty_zs116 : (Value.pointer none).cells.size = 1 := by kernel_rfl
theorem ty_zv116 : zeroV Try.prog 116 = .d (D.raw (.pointer none)) := by kernel_rfl
theorem ty_dz116 : dataZero Try.prog 116 = some (D.raw (.pointer none)) := by kernel_rfl
theorem tyRules : type_of% (And.intro (And.intro @ty_k0 (And.intro @ty_z0 (And.intro @ty_b0 (And.intro @ty_u0 (And.intro @ty_zv0 (And.intro @ty_k1 (And.intro @ty_z1 (And.intro @ty_b1 (And.intro @ty_u1 (And.intro @ty_tz1 (And.intro @ty_zs1 (And.intro @ty_zv1 (And.intro @ty_dz1 (And.intro @ty_k2 (And.intro @ty_z2 (And.intro @ty_b2 (And.intro @ty_i2 (And.intro @ty_u2 (And.intro @ty_tz2 (And.intro @ty_zs2 (And.intro @ty_zv2 (And.intro @ty_dz2 (And.intro @ty_k3 (And.intro @ty_z3 (And.intro @ty_b3 (And.intro @ty_i3 (And.intro @ty_u3 (And.intro @ty_tz3 (And.intro @ty_zs3 (And.intro @ty_zv3 (And.intro @ty_dz3 (And.intro @ty_k4 (And.intro @ty_z4 (And.intro @ty_b4 (And.intro @ty_u4 (And.intro @ty_bo4 (And.intro @ty_tz4 (And.intro @ty_zs4 (And.intro @ty_zv4 (@ty_dz4)))))))))))))))))))))))))))))))))))))))) (And.intro (And.intro @ty_k5 (And.intro @ty_z5 (And.intro @ty_b5 (And.intro @ty_i5 (And.intro @ty_u5 (And.intro @ty_tz5 (And.intro @ty_zs5 (And.intro @ty_zv5 (And.intro @ty_dz5 (And.intro @ty_k6 (And.intro @ty_z6 (And.intro @ty_b6 (And.intro @ty_i6 (And.intro @ty_u6 (And.intro @ty_tz6 (And.intro @ty_zs6 (And.intro @ty_zv6 (And.intro @ty_dz6 (And.intro @ty_k7 (And.intro @ty_z7 (And.intro @ty_b7 (And.intro @ty_u7 (And.intro @ty_c7 (And.intro @ty_f7_0 (And.intro @ty_f7_1 (And.intro @ty_f7_2 (And.intro @ty_f7_3 (And.intro @ty_p7 (And.intro @ty_za7 (And.intro @ty_tz7 (And.intro @ty_zs7 (And.intro @ty_zv7 (And.intro @ty_dz7 (And.intro @ty_k8 (And.intro @ty_z8 (And.intro @ty_b8 (And.intro @ty_u8 (And.intro @ty_c8 (And.intro @ty_f8_0 (@ty_f8_1)))))))))))))))))))))))))))))))))))))))) (And.intro (And.intro @ty_f8_2 (And.intro @ty_f8_3 (And.intro @ty_p8 (And.intro @ty_za8 (And.intro @ty_tz8 (And.intro @ty_zs8 (And.intro @ty_zv8 (And.intro @ty_dz8 (And.intro @ty_k9 (And.intro @ty_z9 (And.intro @ty_b9 (And.intro @ty_s9 (And.intro @ty_u9 (And.intro @ty_tz9 (And.intro @ty_zs9 (And.intro @ty_zv9 (And.intro @ty_dz9 (And.intro @ty_k10 (And.intro @ty_z10 (And.intro @ty_b10 (And.intro @ty_s10 (And.intro @ty_u10 (And.intro @ty_tz10 (And.intro @ty_zs10 (And.intro @ty_zv10 (And.intro @ty_dz10 (And.intro @ty_k11 (And.intro @ty_z11 (And.intro @ty_b11 (And.intro @ty_s11 (And.intro @ty_u11 (And.intro @ty_tz11 (And.intro @ty_zs11 (And.intro @ty_zv11 (And.intro @ty_dz11 (And.intro @ty_k12 (And.intro @ty_z12 (And.intro @ty_b12 (And.intro @ty_i12 (@ty_u12)))))))))))))))))))))))))))))))))))))))) (And.intro (And.intro @ty_tz12 (And.intro @ty_zs12 (And.intro @ty_zv12 (And.intro @ty_dz12 (And.intro @ty_k13 (And.intro @ty_z13 (And.intro @ty_b13 (And.intro @ty_u13 (And.intro @ty_f13_0 (And.intro @ty_f13_1 (And.intro @ty_p13 (And.intro @ty_za13 (And.intro @ty_tz13 (And.intro @ty_zs13 (And.intro @ty_zv13 (And.intro @ty_dz13 (And.intro @ty_k14 (And.intro @ty_z14 (And.intro @ty_b14 (And.intro @ty_u14 (And.intro @ty_f14_0 (And.intro @ty_f14_1 (And.intro @ty_p14 (And.intro @ty_za14 (And.intro @ty_tz14 (And.intro @ty_zs14 (And.intro @ty_zv14 (And.intro @ty_dz14 (And.intro @ty_k15 (And.intro @ty_z15 (And.intro @ty_pt15 (And.intro @ty_b15 (And.intro @ty_u15 (And.intro @ty_tz15 (And.intro @ty_zs15 (And.intro @ty_zv15 (And.intro @ty_dz15 (And.intro @ty_k16 (And.intro @ty_z16 (@ty_pt16)))))))))))))))))))))))))))))))))))))))) (And.intro (And.intro @ty_b16 (And.intro @ty_u16 (And.intro @ty_tz16 (And.intro @ty_zs16 (And.intro @ty_zv16 (And.intro @ty_dz16 (And.intro @ty_k17 (And.intro @ty_z17 (And.intro @ty_pt17 (And.intro @ty_b17 (And.intro @ty_u17 (And.intro @ty_tz17 (And.intro @ty_zs17 (And.intro @ty_zv17 (And.intro @ty_dz17 (And.intro @ty_k18 (And.intro @ty_z18 (And.intro @ty_b18 (And.intro @ty_u18 (And.intro @ty_f18_0 (And.intro @ty_p18 (And.intro @ty_za18 (And.intro @ty_tz18 (And.intro @ty_zs18 (And.intro @ty_zv18 (And.intro @ty_dz18 (And.intro @ty_k19 (And.intro @ty_z19 (And.intro @ty_b19 (And.intro @ty_u19 (And.intro @ty_f19_0 (And.intro @ty_p19 (And.intro @ty_za19 (And.intro @ty_tz19 (And.intro @ty_zs19 (And.intro @ty_zv19 (And.intro @ty_dz19 (And.intro @ty_k20 (And.intro @ty_z20 (@ty_b20)))))))))))))))))))))))))))))))))))))))) (And.intro (And.intro @ty_u20 (And.intro @ty_tz20 (And.intro @ty_zs20 (And.intro @ty_zv20 (And.intro @ty_dz20 (And.intro @ty_k21 (And.intro @ty_z21 (And.intro @ty_b21 (And.intro @ty_i21 (And.intro @ty_u21 (And.intro @ty_tz21 (And.intro @ty_zs21 (And.intro @ty_zv21 (And.intro @ty_dz21 (And.intro @ty_k22 (And.intro @ty_z22 (And.intro @ty_e22 (And.intro @ty_ae22 (And.intro @ty_b22 (And.intro @ty_x22 (And.intro @ty_u22 (And.intro @ty_tz22 (And.intro @ty_zs22 (And.intro @ty_zv22 (And.intro @ty_dz22 (And.intro @ty_k23 (And.intro @ty_z23 (And.intro @ty_b23 (And.intro @ty_u23 (And.intro @ty_tz23 (And.intro @ty_zs23 (And.intro @ty_zv23 (And.intro @ty_dz23 (And.intro @ty_k24 (And.intro @ty_z24 (And.intro @ty_b24 (And.intro @ty_u24 (And.intro @ty_tz24 (And.intro @ty_zs24 (@ty_zv24)))))))))))))))))))))))))))))))))))))))) (And.intro (And.intro @ty_dz24 (And.intro @ty_k25 (And.intro @ty_z25 (And.intro @ty_e25 (And.intro @ty_ae25 (And.intro @ty_b25 (And.intro @ty_x25 (And.intro @ty_u25 (And.intro @ty_tz25 (And.intro @ty_zs25 (And.intro @ty_zv25 (And.intro @ty_dz25 (And.intro @ty_k26 (And.intro @ty_z26 (And.intro @ty_b26 (And.intro @ty_u26 (And.intro @ty_tz26 (And.intro @ty_zs26 (And.intro @ty_zv26 (And.intro @ty_dz26 (And.intro @ty_k27 (And.intro @ty_z27 (And.intro @ty_b27 (And.intro @ty_u27 (And.intro @ty_tz27 (And.intro @ty_zs27 (And.intro @ty_zv27 (And.intro @ty_dz27 (And.intro @ty_k28 (And.intro @ty_z28 (And.intro @ty_b28 (And.intro @ty_i28 (And.intro @ty_u28 (And.intro @ty_tz28 (And.intro @ty_zs28 (And.intro @ty_zv28 (And.intro @ty_dz28 (And.intro @ty_k29 (And.intro @ty_z29 (@ty_b29)))))))))))))))))))))))))))))))))))))))) (And.intro (And.intro @ty_u29 (And.intro @ty_tz29 (And.intro @ty_zs29 (And.intro @ty_zv29 (And.intro @ty_dz29 (And.intro @ty_k30 (And.intro @ty_z30 (And.intro @ty_b30 (And.intro @ty_u30 (And.intro @ty_zv30 (And.intro @ty_k31 (And.intro @ty_z31 (And.intro @ty_b31 (And.intro @ty_u31 (And.intro @ty_tz31 (And.intro @ty_zs31 (And.intro @ty_zv31 (And.intro @ty_dz31 (And.intro @ty_k32 (And.intro @ty_z32 (And.intro @ty_b32 (And.intro @ty_i32 (And.intro @ty_u32 (And.intro @ty_tz32 (And.intro @ty_zs32 (And.intro @ty_zv32 (And.intro @ty_dz32 (And.intro @ty_k33 (And.intro @ty_z33 (And.intro @ty_e33 (And.intro @ty_ae33 (And.intro @ty_b33 (And.intro @ty_x33 (And.intro @ty_u33 (And.intro @ty_tz33 (And.intro @ty_zs33 (And.intro @ty_zv33 (And.intro @ty_dz33 (And.intro @ty_k34 (@ty_z34)))))))))))))))))))))))))))))))))))))))) (And.intro (And.intro @ty_b34 (And.intro @ty_u34 (And.intro @ty_f34_0 (And.intro @ty_f34_1 (And.intro @ty_f34_2 (And.intro @ty_f34_3 (And.intro @ty_f34_4 (And.intro @ty_f34_5 (And.intro @ty_p34 (And.intro @ty_za34 (And.intro @ty_tz34 (And.intro @ty_zs34 (And.intro @ty_zv34 (And.intro @ty_dz34 (And.intro @ty_k35 (And.intro @ty_z35 (And.intro @ty_b35 (And.intro @ty_u35 (And.intro @ty_f35_0 (And.intro @ty_f35_1 (And.intro @ty_f35_2 (And.intro @ty_f35_3 (And.intro @ty_f35_4 (And.intro @ty_f35_5 (And.intro @ty_p35 (And.intro @ty_za35 (And.intro @ty_tz35 (And.intro @ty_zs35 (And.intro @ty_zv35 (And.intro @ty_dz35 (And.intro @ty_k36 (And.intro @ty_z36 (And.intro @ty_b36 (And.intro @ty_u36 (And.intro @ty_c36 (And.intro @ty_f36_0 (And.intro @ty_f36_1 (And.intro @ty_p36 (And.intro @ty_za36 (@ty_tz36)))))))))))))))))))))))))))))))))))))))) (And.intro (And.intro @ty_zs36 (And.intro @ty_zv36 (And.intro @ty_dz36 (And.intro @ty_k37 (And.intro @ty_z37 (And.intro @ty_b37 (And.intro @ty_u37 (And.intro @ty_c37 (And.intro @ty_f37_0 (And.intro @ty_f37_1 (And.intro @ty_p37 (And.intro @ty_za37 (And.intro @ty_tz37 (And.intro @ty_zs37 (And.intro @ty_zv37 (And.intro @ty_dz37 (And.intro @ty_k38 (And.intro @ty_z38 (And.intro @ty_b38 (And.intro @ty_u38 (And.intro @ty_c38 (And.intro @ty_f38_0 (And.intro @ty_f38_1 (And.intro @ty_p38 (And.intro @ty_za38 (And.intro @ty_tz38 (And.intro @ty_zs38 (And.intro @ty_zv38 (And.intro @ty_dz38 (And.intro @ty_k39 (And.intro @ty_z39 (And.intro @ty_b39 (And.intro @ty_u39 (And.intro @ty_c39 (And.intro @ty_f39_0 (And.intro @ty_f39_1 (And.intro @ty_p39 (And.intro @ty_za39 (And.intro @ty_tz39 (@ty_zs39)))))))))))))))))))))))))))))))))))))))) (And.intro (And.intro @ty_zv39 (And.intro @ty_dz39 (And.intro @ty_k40 (And.intro @ty_z40 (And.intro @ty_b40 (And.intro @ty_u40 (And.intro @ty_f40_0 (And.intro @ty_f40_1 (And.intro @ty_f40_2 (And.intro @ty_p40 (And.intro @ty_za40 (And.intro @ty_tz40 (And.intro @ty_zs40 (And.intro @ty_zv40 (And.intro @ty_dz40 (And.intro @ty_k41 (And.intro @ty_z41 (And.intro @ty_b41 (And.intro @ty_u41 (And.intro @ty_f41_0 (And.intro @ty_f41_1 (And.intro @ty_f41_2 (And.intro @ty_p41 (And.intro @ty_za41 (And.intro @ty_tz41 (And.intro @ty_zs41 (And.intro @ty_zv41 (And.intro @ty_dz41 (And.intro @ty_k42 (And.intro @ty_z42 (And.intro @ty_b42 (And.intro @ty_u42 (And.intro @ty_tz42 (And.intro @ty_zs42 (And.intro @ty_zv42 (And.intro @ty_dz42 (And.intro @ty_k43 (And.intro @ty_z43 (And.intro @ty_b43 (@ty_u43)))))))))))))))))))))))))))))))))))))))) (And.intro (And.intro @ty_tz43 (And.intro @ty_zs43 (And.intro @ty_zv43 (And.intro @ty_dz43 (And.intro @ty_k44 (And.intro @ty_z44 (And.intro @ty_b44 (And.intro @ty_u44 (And.intro @ty_c44 (And.intro @ty_f44_0 (And.intro @ty_f44_1 (And.intro @ty_f44_2 (And.intro @ty_p44 (And.intro @ty_za44 (And.intro @ty_tz44 (And.intro @ty_zs44 (And.intro @ty_zv44 (And.intro @ty_dz44 (And.intro @ty_k45 (And.intro @ty_z45 (And.intro @ty_b45 (And.intro @ty_u45 (And.intro @ty_c45 (And.intro @ty_f45_0 (And.intro @ty_f45_1 (And.intro @ty_f45_2 (And.intro @ty_p45 (And.intro @ty_za45 (And.intro @ty_tz45 (And.intro @ty_zs45 (And.intro @ty_zv45 (And.intro @ty_dz45 (And.intro @ty_k46 (And.intro @ty_z46 (And.intro @ty_b46 (And.intro @ty_u46 (And.intro @ty_zv46 (And.intro @ty_k47 (And.intro @ty_z47 (@ty_b47)))))))))))))))))))))))))))))))))))))))) (And.intro (And.intro @ty_u47 (And.intro @ty_tz47 (And.intro @ty_zs47 (And.intro @ty_zv47 (And.intro @ty_dz47 (And.intro @ty_k48 (And.intro @ty_z48 (And.intro @ty_b48 (And.intro @ty_u48 (And.intro @ty_tz48 (And.intro @ty_zs48 (And.intro @ty_zv48 (And.intro @ty_dz48 (And.intro @ty_k49 (And.intro @ty_z49 (And.intro @ty_b49 (And.intro @ty_u49 (And.intro @ty_c49 (And.intro @ty_f49_0 (And.intro @ty_f49_1 (And.intro @ty_p49 (And.intro @ty_za49 (And.intro @ty_tz49 (And.intro @ty_zs49 (And.intro @ty_zv49 (And.intro @ty_dz49 (And.intro @ty_k50 (And.intro @ty_z50 (And.intro @ty_b50 (And.intro @ty_u50 (And.intro @ty_c50 (And.intro @ty_f50_0 (And.intro @ty_f50_1 (And.intro @ty_p50 (And.intro @ty_za50 (And.intro @ty_tz50 (And.intro @ty_zs50 (And.intro @ty_zv50 (And.intro @ty_dz50 (@ty_k51)))))))))))))))))))))))))))))))))))))))) (And.intro (And.intro @ty_z51 (And.intro @ty_b51 (And.intro @ty_u51 (And.intro @ty_tz51 (And.intro @ty_zs51 (And.intro @ty_zv51 (And.intro @ty_dz51 (And.intro @ty_k52 (And.intro @ty_z52 (And.intro @ty_b52 (And.intro @ty_u52 (And.intro @ty_tz52 (And.intro @ty_zs52 (And.intro @ty_zv52 (And.intro @ty_dz52 (And.intro @ty_k53 (And.intro @ty_z53 (And.intro @ty_b53 (And.intro @ty_u53 (And.intro @ty_tz53 (And.intro @ty_zs53 (And.intro @ty_zv53 (And.intro @ty_dz53 (And.intro @ty_k54 (And.intro @ty_z54 (And.intro @ty_b54 (And.intro @ty_u54 (And.intro @ty_tz54 (And.intro @ty_zs54 (And.intro @ty_zv54 (And.intro @ty_dz54 (And.intro @ty_k55 (And.intro @ty_z55 (And.intro @ty_b55 (And.intro @ty_u55 (And.intro @ty_tz55 (And.intro @ty_zs55 (And.intro @ty_zv55 (And.intro @ty_dz55 (@ty_k56)))))))))))))))))))))))))))))))))))))))) (And.intro (And.intro @ty_z56 (And.intro @ty_b56 (And.intro @ty_u56 (And.intro @ty_tz56 (And.intro @ty_zs56 (And.intro @ty_zv56 (And.intro @ty_dz56 (And.intro @ty_k57 (And.intro @ty_z57 (And.intro @ty_b57 (And.intro @ty_u57 (And.intro @ty_tz57 (And.intro @ty_zs57 (And.intro @ty_zv57 (And.intro @ty_dz57 (And.intro @ty_k58 (And.intro @ty_z58 (And.intro @ty_b58 (And.intro @ty_u58 (And.intro @ty_tz58 (And.intro @ty_zs58 (And.intro @ty_zv58 (And.intro @ty_dz58 (And.intro @ty_k59 (And.intro @ty_z59 (And.intro @ty_b59 (And.intro @ty_u59 (And.intro @ty_tz59 (And.intro @ty_zs59 (And.intro @ty_zv59 (And.intro @ty_dz59 (And.intro @ty_k60 (And.intro @ty_z60 (And.intro @ty_b60 (And.intro @ty_u60 (And.intro @ty_tz60 (And.intro @ty_zs60 (And.intro @ty_zv60 (And.intro @ty_dz60 (@ty_k61)))))))))))))))))))))))))))))))))))))))) (And.intro (And.intro @ty_z61 (And.intro @ty_b61 (And.intro @ty_u61 (And.intro @ty_tz61 (And.intro @ty_zs61 (And.intro @ty_zv61 (And.intro @ty_dz61 (And.intro @ty_k62 (And.intro @ty_z62 (And.intro @ty_pt62 (And.intro @ty_b62 (And.intro @ty_u62 (And.intro @ty_tz62 (And.intro @ty_zs62 (And.intro @ty_zv62 (And.intro @ty_dz62 (And.intro @ty_k63 (And.intro @ty_z63 (And.intro @ty_b63 (And.intro @ty_u63 (And.intro @ty_c63 (And.intro @ty_f63_0 (And.intro @ty_f63_1 (And.intro @ty_p63 (And.intro @ty_za63 (And.intro @ty_tz63 (And.intro @ty_zs63 (And.intro @ty_zv63 (And.intro @ty_dz63 (And.intro @ty_k64 (And.intro @ty_z64 (And.intro @ty_b64 (And.intro @ty_u64 (And.intro @ty_c64 (And.intro @ty_f64_0 (And.intro @ty_f64_1 (And.intro @ty_p64 (And.intro @ty_za64 (And.intro @ty_tz64 (@ty_zs64)))))))))))))))))))))))))))))))))))))))) (And.intro (And.intro @ty_zv64 (And.intro @ty_dz64 (And.intro @ty_k65 (And.intro @ty_z65 (And.intro @ty_b65 (And.intro @ty_u65 (And.intro @ty_tz65 (And.intro @ty_zs65 (And.intro @ty_zv65 (And.intro @ty_dz65 (And.intro @ty_k66 (And.intro @ty_z66 (And.intro @ty_b66 (And.intro @ty_u66 (And.intro @ty_tz66 (And.intro @ty_zs66 (And.intro @ty_zv66 (And.intro @ty_dz66 (And.intro @ty_k67 (And.intro @ty_z67 (And.intro @ty_b67 (And.intro @ty_u67 (And.intro @ty_tz67 (And.intro @ty_zs67 (And.intro @ty_zv67 (And.intro @ty_dz67 (And.intro @ty_k68 (And.intro @ty_z68 (And.intro @ty_b68 (And.intro @ty_i68 (And.intro @ty_u68 (And.intro @ty_tz68 (And.intro @ty_zs68 (And.intro @ty_zv68 (And.intro @ty_dz68 (And.intro @ty_k69 (And.intro @ty_z69 (And.intro @ty_b69 (And.intro @ty_u69 (@ty_c69)))))))))))))))))))))))))))))))))))))))) (And.intro (And.intro @ty_f69_0 (And.intro @ty_f69_1 (And.intro @ty_p69 (And.intro @ty_za69 (And.intro @ty_tz69 (And.intro @ty_zs69 (And.intro @ty_zv69 (And.intro @ty_dz69 (And.intro @ty_k70 (And.intro @ty_z70 (And.intro @ty_b70 (And.intro @ty_u70 (And.intro @ty_c70 (And.intro @ty_f70_0 (And.intro @ty_f70_1 (And.intro @ty_p70 (And.intro @ty_za70 (And.intro @ty_tz70 (And.intro @ty_zs70 (And.intro @ty_zv70 (And.intro @ty_dz70 (And.intro @ty_k71 (And.intro @ty_z71 (And.intro @ty_b71 (And.intro @ty_u71 (And.intro @ty_f71_0 (And.intro @ty_f71_1 (And.intro @ty_p71 (And.intro @ty_za71 (And.intro @ty_tz71 (And.intro @ty_zs71 (And.intro @ty_zv71 (And.intro @ty_dz71 (And.intro @ty_k72 (And.intro @ty_z72 (And.intro @ty_b72 (And.intro @ty_u72 (And.intro @ty_f72_0 (And.intro @ty_f72_1 (@ty_p72)))))))))))))))))))))))))))))))))))))))) (And.intro (And.intro @ty_za72 (And.intro @ty_tz72 (And.intro @ty_zs72 (And.intro @ty_zv72 (And.intro @ty_dz72 (And.intro @ty_k73 (And.intro @ty_z73 (And.intro @ty_b73 (And.intro @ty_u73 (And.intro @ty_tz73 (And.intro @ty_zs73 (And.intro @ty_zv73 (And.intro @ty_dz73 (And.intro @ty_k74 (And.intro @ty_z74 (And.intro @ty_b74 (And.intro @ty_u74 (And.intro @ty_tz74 (And.intro @ty_zs74 (And.intro @ty_zv74 (And.intro @ty_dz74 (And.intro @ty_k75 (And.intro @ty_z75 (And.intro @ty_b75 (And.intro @ty_u75 (And.intro @ty_tz75 (And.intro @ty_zs75 (And.intro @ty_zv75 (And.intro @ty_dz75 (And.intro @ty_k76 (And.intro @ty_z76 (And.intro @ty_b76 (And.intro @ty_u76 (And.intro @ty_tz76 (And.intro @ty_zs76 (And.intro @ty_zv76 (And.intro @ty_dz76 (And.intro @ty_k77 (And.intro @ty_z77 (@ty_b77)))))))))))))))))))))))))))))))))))))))) (And.intro (And.intro @ty_u77 (And.intro @ty_tz77 (And.intro @ty_zs77 (And.intro @ty_zv77 (And.intro @ty_dz77 (And.intro @ty_k78 (And.intro @ty_z78 (And.intro @ty_b78 (And.intro @ty_u78 (And.intro @ty_tz78 (And.intro @ty_zs78 (And.intro @ty_zv78 (And.intro @ty_dz78 (And.intro @ty_k79 (And.intro @ty_z79 (And.intro @ty_b79 (And.intro @ty_u79 (And.intro @ty_tz79 (And.intro @ty_zs79 (And.intro @ty_zv79 (And.intro @ty_dz79 (And.intro @ty_k80 (And.intro @ty_z80 (And.intro @ty_b80 (And.intro @ty_u80 (And.intro @ty_tz80 (And.intro @ty_zs80 (And.intro @ty_zv80 (And.intro @ty_dz80 (And.intro @ty_k81 (And.intro @ty_z81 (And.intro @ty_b81 (And.intro @ty_u81 (And.intro @ty_tz81 (And.intro @ty_zs81 (And.intro @ty_zv81 (And.intro @ty_dz81 (And.intro @ty_k82 (And.intro @ty_z82 (@ty_b82)))))))))))))))))))))))))))))))))))))))) (And.intro (And.intro @ty_u82 (And.intro @ty_tz82 (And.intro @ty_zs82 (And.intro @ty_zv82 (And.intro @ty_dz82 (And.intro @ty_k83 (And.intro @ty_z83 (And.intro @ty_b83 (And.intro @ty_u83 (And.intro @ty_tz83 (And.intro @ty_zs83 (And.intro @ty_zv83 (And.intro @ty_dz83 (And.intro @ty_k84 (And.intro @ty_z84 (And.intro @ty_b84 (And.intro @ty_u84 (And.intro @ty_tz84 (And.intro @ty_zs84 (And.intro @ty_zv84 (And.intro @ty_dz84 (And.intro @ty_k85 (And.intro @ty_z85 (And.intro @ty_e85 (And.intro @ty_ae85 (And.intro @ty_b85 (And.intro @ty_x85 (And.intro @ty_u85 (And.intro @ty_tz85 (And.intro @ty_zs85 (And.intro @ty_zv85 (And.intro @ty_dz85 (And.intro @ty_k86 (And.intro @ty_z86 (And.intro @ty_b86 (And.intro @ty_i86 (And.intro @ty_u86 (And.intro @ty_tz86 (And.intro @ty_zs86 (@ty_zv86)))))))))))))))))))))))))))))))))))))))) (And.intro (And.intro @ty_dz86 (And.intro @ty_k87 (And.intro @ty_z87 (And.intro @ty_b87 (And.intro @ty_u87 (And.intro @ty_zv87 (And.intro @ty_k88 (And.intro @ty_z88 (And.intro @ty_b88 (And.intro @ty_u88 (And.intro @ty_tz88 (And.intro @ty_zs88 (And.intro @ty_zv88 (And.intro @ty_dz88 (And.intro @ty_k89 (And.intro @ty_z89 (And.intro @ty_b89 (And.intro @ty_u89 (And.intro @ty_tz89 (And.intro @ty_zs89 (And.intro @ty_zv89 (And.intro @ty_dz89 (And.intro @ty_k90 (And.intro @ty_z90 (And.intro @ty_b90 (And.intro @ty_u90 (And.intro @ty_tz90 (And.intro @ty_zs90 (And.intro @ty_zv90 (And.intro @ty_dz90 (And.intro @ty_k91 (And.intro @ty_z91 (And.intro @ty_b91 (And.intro @ty_u91 (And.intro @ty_tz91 (And.intro @ty_zs91 (And.intro @ty_zv91 (And.intro @ty_dz91 (And.intro @ty_k92 (@ty_z92)))))))))))))))))))))))))))))))))))))))) (And.intro (And.intro @ty_b92 (And.intro @ty_u92 (And.intro @ty_tz92 (And.intro @ty_zs92 (And.intro @ty_zv92 (And.intro @ty_dz92 (And.intro @ty_k93 (And.intro @ty_z93 (And.intro @ty_b93 (And.intro @ty_u93 (And.intro @ty_tz93 (And.intro @ty_zs93 (And.intro @ty_zv93 (And.intro @ty_dz93 (And.intro @ty_k94 (And.intro @ty_z94 (And.intro @ty_b94 (And.intro @ty_u94 (And.intro @ty_tz94 (And.intro @ty_zs94 (And.intro @ty_zv94 (And.intro @ty_dz94 (And.intro @ty_k95 (And.intro @ty_z95 (And.intro @ty_b95 (And.intro @ty_u95 (And.intro @ty_tz95 (And.intro @ty_zs95 (And.intro @ty_zv95 (And.intro @ty_dz95 (And.intro @ty_k96 (And.intro @ty_z96 (And.intro @ty_b96 (And.intro @ty_u96 (And.intro @ty_tz96 (And.intro @ty_zs96 (And.intro @ty_zv96 (And.intro @ty_dz96 (And.intro @ty_k97 (@ty_z97)))))))))))))))))))))))))))))))))))))))) (And.intro (And.intro @ty_b97 (And.intro @ty_u97 (And.intro @ty_tz97 (And.intro @ty_zs97 (And.intro @ty_zv97 (And.intro @ty_dz97 (And.intro @ty_k98 (And.intro @ty_z98 (And.intro @ty_b98 (And.intro @ty_u98 (And.intro @ty_tz98 (And.intro @ty_zs98 (And.intro @ty_zv98 (And.intro @ty_dz98 (And.intro @ty_k99 (And.intro @ty_z99 (And.intro @ty_b99 (And.intro @ty_u99 (And.intro @ty_tz99 (And.intro @ty_zs99 (And.intro @ty_zv99 (And.intro @ty_dz99 (And.intro @ty_k100 (And.intro @ty_z100 (And.intro @ty_b100 (And.intro @ty_u100 (And.intro @ty_tz100 (And.intro @ty_zs100 (And.intro @ty_zv100 (And.intro @ty_dz100 (And.intro @ty_k101 (And.intro @ty_z101 (And.intro @ty_b101 (And.intro @ty_u101 (And.intro @ty_f101_0 (And.intro @ty_f101_1 (And.intro @ty_f101_2 (And.intro @ty_f101_3 (And.intro @ty_p101 (@ty_za101)))))))))))))))))))))))))))))))))))))))) (And.intro (And.intro @ty_tz101 (And.intro @ty_zs101 (And.intro @ty_zv101 (And.intro @ty_dz101 (And.intro @ty_k102 (And.intro @ty_z102 (And.intro @ty_b102 (And.intro @ty_u102 (And.intro @ty_f102_0 (And.intro @ty_f102_1 (And.intro @ty_f102_2 (And.intro @ty_f102_3 (And.intro @ty_p102 (And.intro @ty_za102 (And.intro @ty_tz102 (And.intro @ty_zs102 (And.intro @ty_zv102 (And.intro @ty_dz102 (And.intro @ty_k103 (And.intro @ty_z103 (And.intro @ty_b103 (And.intro @ty_x103 (And.intro @ty_u103 (And.intro @ty_p103 (And.intro @ty_za103 (And.intro @ty_tz103 (And.intro @ty_zs103 (And.intro @ty_zv103 (And.intro @ty_dz103 (And.intro @ty_k104 (And.intro @ty_z104 (And.intro @ty_b104 (And.intro @ty_u104 (And.intro @ty_f104_0 (And.intro @ty_p104 (And.intro @ty_za104 (And.intro @ty_tz104 (And.intro @ty_zs104 (And.intro @ty_zv104 (@ty_dz104)))))))))))))))))))))))))))))))))))))))) (And.intro (And.intro @ty_k105 (And.intro @ty_z105 (And.intro @ty_b105 (And.intro @ty_u105 (And.intro @ty_f105_0 (And.intro @ty_p105 (And.intro @ty_za105 (And.intro @ty_tz105 (And.intro @ty_zs105 (And.intro @ty_zv105 (And.intro @ty_dz105 (And.intro @ty_k106 (And.intro @ty_z106 (And.intro @ty_b106 (And.intro @ty_u106 (And.intro @ty_tz106 (And.intro @ty_zs106 (And.intro @ty_zv106 (And.intro @ty_dz106 (And.intro @ty_k107 (And.intro @ty_z107 (And.intro @ty_b107 (And.intro @ty_i107 (And.intro @ty_u107 (And.intro @ty_tz107 (And.intro @ty_zs107 (And.intro @ty_zv107 (And.intro @ty_dz107 (And.intro @ty_k108 (And.intro @ty_z108 (And.intro @ty_b108 (And.intro @ty_i108 (And.intro @ty_u108 (And.intro @ty_tz108 (And.intro @ty_zs108 (And.intro @ty_zv108 (And.intro @ty_dz108 (And.intro @ty_k109 (And.intro @ty_z109 (@ty_b109)))))))))))))))))))))))))))))))))))))))) (And.intro (And.intro @ty_i109 (And.intro @ty_u109 (And.intro @ty_tz109 (And.intro @ty_zs109 (And.intro @ty_zv109 (And.intro @ty_dz109 (And.intro @ty_k110 (And.intro @ty_z110 (And.intro @ty_b110 (And.intro @ty_u110 (And.intro @ty_tz110 (And.intro @ty_zs110 (And.intro @ty_zv110 (And.intro @ty_dz110 (And.intro @ty_k111 (And.intro @ty_z111 (And.intro @ty_pt111 (And.intro @ty_b111 (And.intro @ty_u111 (And.intro @ty_tz111 (And.intro @ty_zs111 (And.intro @ty_zv111 (And.intro @ty_dz111 (And.intro @ty_k112 (And.intro @ty_z112 (And.intro @ty_b112 (And.intro @ty_i112 (And.intro @ty_u112 (And.intro @ty_tz112 (And.intro @ty_zs112 (And.intro @ty_zv112 (And.intro @ty_dz112 (And.intro @ty_k113 (And.intro @ty_z113 (And.intro @ty_b113 (And.intro @ty_i113 (And.intro @ty_u113 (And.intro @ty_tz113 (And.intro @ty_zs113 (@ty_zv113)))))))))))))))))))))))))))))))))))))))) (And.intro (And.intro @ty_dz113 (And.intro @ty_k114 (And.intro @ty_z114 (And.intro @ty_b114 (And.intro @ty_u114 (And.intro @ty_f114_0 (And.intro @ty_f114_1 (And.intro @ty_f114_2 (And.intro @ty_f114_3 (And.intro @ty_f114_4 (And.intro @ty_f114_5 (And.intro @ty_f114_6 (And.intro @ty_f114_7 (And.intro @ty_f114_8 (And.intro @ty_f114_9 (And.intro @ty_f114_10 (And.intro @ty_p114 (And.intro @ty_za114 (And.intro @ty_tz114 (And.intro @ty_zs114 (And.intro @ty_zv114 (And.intro @ty_dz114 (And.intro @ty_k115 (And.intro @ty_z115 (And.intro @ty_b115 (And.intro @ty_u115 (And.intro @ty_f115_0 (And.intro @ty_f115_1 (And.intro @ty_f115_2 (And.intro @ty_f115_3 (And.intro @ty_f115_4 (And.intro @ty_f115_5 (And.intro @ty_f115_6 (And.intro @ty_f115_7 (And.intro @ty_f115_8 (And.intro @ty_f115_9 (And.intro @ty_f115_10 (And.intro @ty_p115 (And.intro @ty_za115 (@ty_tz115)))))))))))))))))))))))))))))))))))))))) (And.intro @ty_zs115 (And.intro @ty_zv115 (And.intro @ty_dz115 (And.intro @ty_k116 (And.intro @ty_z116 (And.intro @ty_b116 (And.intro @ty_u116 (And.intro @ty_tz116 (And.intro @ty_zs116 (And.intro @ty_zv116 (@ty_dz116))))))))))))))))))))))))))))))))))))))) := And.intro (And.intro @ty_k0 (And.intro @ty_z0 (And.intro @ty_b0 (And.intro @ty_u0 (And.intro @ty_zv0 (And.intro @ty_k1 (And.intro @ty_z1 (And.intro @ty_b1 (And.intro @ty_u1 (And.intro @ty_tz1 (And.intro @ty_zs1 (And.intro @ty_zv1 (And.intro @ty_dz1 (And.intro @ty_k2 (And.intro @ty_z2 (And.intro @ty_b2 (And.intro @ty_i2 (And.intro @ty_u2 (And.intro @ty_tz2 (And.intro @ty_zs2 (And.intro @ty_zv2 (And.intro @ty_dz2 (And.intro @ty_k3 (And.intro @ty_z3 (And.intro @ty_b3 (And.intro @ty_i3 (And.intro @ty_u3 (And.intro @ty_tz3 (And.intro @ty_zs3 (And.intro @ty_zv3 (And.intro @ty_dz3 (And.intro @ty_k4 (And.intro @ty_z4 (And.intro @ty_b4 (And.intro @ty_u4 (And.intro @ty_bo4 (And.intro @ty_tz4 (And.intro @ty_zs4 (And.intro @ty_zv4 (@ty_dz4)))))))))))))))))))))))))))))))))))))))) (And.intro (And.intro @ty_k5 (And.intro @ty_z5 (And.intro @ty_b5 (And.intro @ty_i5 (And.intro @ty_u5 (And.intro @ty_tz5 (And.intro @ty_zs5 (And.intro @ty_zv5 (And.intro @ty_dz5 (And.intro @ty_k6 (And.intro @ty_z6 (And.intro @ty_b6 (And.intro @ty_i6 (And.intro @ty_u6 (And.intro @ty_tz6 (And.intro @ty_zs6 (And.intro @ty_zv6 (And.intro @ty_dz6 (And.intro @ty_k7 (And.intro @ty_z7 (And.intro @ty_b7 (And.intro @ty_u7 (And.intro @ty_c7 (And.intro @ty_f7_0 (And.intro @ty_f7_1 (And.intro @ty_f7_2 (And.intro @ty_f7_3 (And.intro @ty_p7 (And.intro @ty_za7 (And.intro @ty_tz7 (And.intro @ty_zs7 (And.intro @ty_zv7 (And.intro @ty_dz7 (And.intro @ty_k8 (And.intro @ty_z8 (And.intro @ty_b8 (And.intro @ty_u8 (And.intro @ty_c8 (And.intro @ty_f8_0 (@ty_f8_1)))))))))))))))))))))))))))))))))))))))) (And.intro (And.intro @ty_f8_2 (And.intro @ty_f8_3 (And.intro @ty_p8 (And.intro @ty_za8 (And.intro @ty_tz8 (And.intro @ty_zs8 (And.intro @ty_zv8 (And.intro @ty_dz8 (And.intro @ty_k9 (And.intro @ty_z9 (And.intro @ty_b9 (And.intro @ty_s9 (And.intro @ty_u9 (And.intro @ty_tz9 (And.intro @ty_zs9 (And.intro @ty_zv9 (And.intro @ty_dz9 (And.intro @ty_k10 (And.intro @ty_z10 (And.intro @ty_b10 (And.intro @ty_s10 (And.intro @ty_u10 (And.intro @ty_tz10 (And.intro @ty_zs10 (And.intro @ty_zv10 (And.intro @ty_dz10 (And.intro @ty_k11 (And.intro @ty_z11 (And.intro @ty_b11 (And.intro @ty_s11 (And.intro @ty_u11 (And.intro @ty_tz11 (And.intro @ty_zs11 (And.intro @ty_zv11 (And.intro @ty_dz11 (And.intro @ty_k12 (And.intro @ty_z12 (And.intro @ty_b12 (And.intro @ty_i12 (@ty_u12)))))))))))))))))))))))))))))))))))))))) (And.intro (And.intro @ty_tz12 (And.intro @ty_zs12 (And.intro @ty_zv12 (And.intro @ty_dz12 (And.intro @ty_k13 (And.intro @ty_z13 (And.intro @ty_b13 (And.intro @ty_u13 (And.intro @ty_f13_0 (And.intro @ty_f13_1 (And.intro @ty_p13 (And.intro @ty_za13 (And.intro @ty_tz13 (And.intro @ty_zs13 (And.intro @ty_zv13 (And.intro @ty_dz13 (And.intro @ty_k14 (And.intro @ty_z14 (And.intro @ty_b14 (And.intro @ty_u14 (And.intro @ty_f14_0 (And.intro @ty_f14_1 (And.intro @ty_p14 (And.intro @ty_za14 (And.intro @ty_tz14 (And.intro @ty_zs14 (And.intro @ty_zv14 (And.intro @ty_dz14 (And.intro @ty_k15 (And.intro @ty_z15 (And.intro @ty_pt15 (And.intro @ty_b15 (And.intro @ty_u15 (And.intro @ty_tz15 (And.intro @ty_zs15 (And.intro @ty_zv15 (And.intro @ty_dz15 (And.intro @ty_k16 (And.intro @ty_z16 (@ty_pt16)))))))))))))))))))))))))))))))))))))))) (And.intro (And.intro @ty_b16 (And.intro @ty_u16 (And.intro @ty_tz16 (And.intro @ty_zs16 (And.intro @ty_zv16 (And.intro @ty_dz16 (And.intro @ty_k17 (And.intro @ty_z17 (And.intro @ty_pt17 (And.intro @ty_b17 (And.intro @ty_u17 (And.intro @ty_tz17 (And.intro @ty_zs17 (And.intro @ty_zv17 (And.intro @ty_dz17 (And.intro @ty_k18 (And.intro @ty_z18 (And.intro @ty_b18 (And.intro @ty_u18 (And.intro @ty_f18_0 (And.intro @ty_p18 (And.intro @ty_za18 (And.intro @ty_tz18 (And.intro @ty_zs18 (And.intro @ty_zv18 (And.intro @ty_dz18 (And.intro @ty_k19 (And.intro @ty_z19 (And.intro @ty_b19 (And.intro @ty_u19 (And.intro @ty_f19_0 (And.intro @ty_p19 (And.intro @ty_za19 (And.intro @ty_tz19 (And.intro @ty_zs19 (And.intro @ty_zv19 (And.intro @ty_dz19 (And.intro @ty_k20 (And.intro @ty_z20 (@ty_b20)))))))))))))))))))))))))))))))))))))))) (And.intro (And.intro @ty_u20 (And.intro @ty_tz20 (And.intro @ty_zs20 (And.intro @ty_zv20 (And.intro @ty_dz20 (And.intro @ty_k21 (And.intro @ty_z21 (And.intro @ty_b21 (And.intro @ty_i21 (And.intro @ty_u21 (And.intro @ty_tz21 (And.intro @ty_zs21 (And.intro @ty_zv21 (And.intro @ty_dz21 (And.intro @ty_k22 (And.intro @ty_z22 (And.intro @ty_e22 (And.intro @ty_ae22 (And.intro @ty_b22 (And.intro @ty_x22 (And.intro @ty_u22 (And.intro @ty_tz22 (And.intro @ty_zs22 (And.intro @ty_zv22 (And.intro @ty_dz22 (And.intro @ty_k23 (And.intro @ty_z23 (And.intro @ty_b23 (And.intro @ty_u23 (And.intro @ty_tz23 (And.intro @ty_zs23 (And.intro @ty_zv23 (And.intro @ty_dz23 (And.intro @ty_k24 (And.intro @ty_z24 (And.intro @ty_b24 (And.intro @ty_u24 (And.intro @ty_tz24 (And.intro @ty_zs24 (@ty_zv24)))))))))))))))))))))))))))))))))))))))) (And.intro (And.intro @ty_dz24 (And.intro @ty_k25 (And.intro @ty_z25 (And.intro @ty_e25 (And.intro @ty_ae25 (And.intro @ty_b25 (And.intro @ty_x25 (And.intro @ty_u25 (And.intro @ty_tz25 (And.intro @ty_zs25 (And.intro @ty_zv25 (And.intro @ty_dz25 (And.intro @ty_k26 (And.intro @ty_z26 (And.intro @ty_b26 (And.intro @ty_u26 (And.intro @ty_tz26 (And.intro @ty_zs26 (And.intro @ty_zv26 (And.intro @ty_dz26 (And.intro @ty_k27 (And.intro @ty_z27 (And.intro @ty_b27 (And.intro @ty_u27 (And.intro @ty_tz27 (And.intro @ty_zs27 (And.intro @ty_zv27 (And.intro @ty_dz27 (And.intro @ty_k28 (And.intro @ty_z28 (And.intro @ty_b28 (And.intro @ty_i28 (And.intro @ty_u28 (And.intro @ty_tz28 (And.intro @ty_zs28 (And.intro @ty_zv28 (And.intro @ty_dz28 (And.intro @ty_k29 (And.intro @ty_z29 (@ty_b29)))))))))))))))))))))))))))))))))))))))) (And.intro (And.intro @ty_u29 (And.intro @ty_tz29 (And.intro @ty_zs29 (And.intro @ty_zv29 (And.intro @ty_dz29 (And.intro @ty_k30 (And.intro @ty_z30 (And.intro @ty_b30 (And.intro @ty_u30 (And.intro @ty_zv30 (And.intro @ty_k31 (And.intro @ty_z31 (And.intro @ty_b31 (And.intro @ty_u31 (And.intro @ty_tz31 (And.intro @ty_zs31 (And.intro @ty_zv31 (And.intro @ty_dz31 (And.intro @ty_k32 (And.intro @ty_z32 (And.intro @ty_b32 (And.intro @ty_i32 (And.intro @ty_u32 (And.intro @ty_tz32 (And.intro @ty_zs32 (And.intro @ty_zv32 (And.intro @ty_dz32 (And.intro @ty_k33 (And.intro @ty_z33 (And.intro @ty_e33 (And.intro @ty_ae33 (And.intro @ty_b33 (And.intro @ty_x33 (And.intro @ty_u33 (And.intro @ty_tz33 (And.intro @ty_zs33 (And.intro @ty_zv33 (And.intro @ty_dz33 (And.intro @ty_k34 (@ty_z34)))))))))))))))))))))))))))))))))))))))) (And.intro (And.intro @ty_b34 (And.intro @ty_u34 (And.intro @ty_f34_0 (And.intro @ty_f34_1 (And.intro @ty_f34_2 (And.intro @ty_f34_3 (And.intro @ty_f34_4 (And.intro @ty_f34_5 (And.intro @ty_p34 (And.intro @ty_za34 (And.intro @ty_tz34 (And.intro @ty_zs34 (And.intro @ty_zv34 (And.intro @ty_dz34 (And.intro @ty_k35 (And.intro @ty_z35 (And.intro @ty_b35 (And.intro @ty_u35 (And.intro @ty_f35_0 (And.intro @ty_f35_1 (And.intro @ty_f35_2 (And.intro @ty_f35_3 (And.intro @ty_f35_4 (And.intro @ty_f35_5 (And.intro @ty_p35 (And.intro @ty_za35 (And.intro @ty_tz35 (And.intro @ty_zs35 (And.intro @ty_zv35 (And.intro @ty_dz35 (And.intro @ty_k36 (And.intro @ty_z36 (And.intro @ty_b36 (And.intro @ty_u36 (And.intro @ty_c36 (And.intro @ty_f36_0 (And.intro @ty_f36_1 (And.intro @ty_p36 (And.intro @ty_za36 (@ty_tz36)))))))))))))))))))))))))))))))))))))))) (And.intro (And.intro @ty_zs36 (And.intro @ty_zv36 (And.intro @ty_dz36 (And.intro @ty_k37 (And.intro @ty_z37 (And.intro @ty_b37 (And.intro @ty_u37 (And.intro @ty_c37 (And.intro @ty_f37_0 (And.intro @ty_f37_1 (And.intro @ty_p37 (And.intro @ty_za37 (And.intro @ty_tz37 (And.intro @ty_zs37 (And.intro @ty_zv37 (And.intro @ty_dz37 (And.intro @ty_k38 (And.intro @ty_z38 (And.intro @ty_b38 (And.intro @ty_u38 (And.intro @ty_c38 (And.intro @ty_f38_0 (And.intro @ty_f38_1 (And.intro @ty_p38 (And.intro @ty_za38 (And.intro @ty_tz38 (And.intro @ty_zs38 (And.intro @ty_zv38 (And.intro @ty_dz38 (And.intro @ty_k39 (And.intro @ty_z39 (And.intro @ty_b39 (And.intro @ty_u39 (And.intro @ty_c39 (And.intro @ty_f39_0 (And.intro @ty_f39_1 (And.intro @ty_p39 (And.intro @ty_za39 (And.intro @ty_tz39 (@ty_zs39)))))))))))))))))))))))))))))))))))))))) (And.intro (And.intro @ty_zv39 (And.intro @ty_dz39 (And.intro @ty_k40 (And.intro @ty_z40 (And.intro @ty_b40 (And.intro @ty_u40 (And.intro @ty_f40_0 (And.intro @ty_f40_1 (And.intro @ty_f40_2 (And.intro @ty_p40 (And.intro @ty_za40 (And.intro @ty_tz40 (And.intro @ty_zs40 (And.intro @ty_zv40 (And.intro @ty_dz40 (And.intro @ty_k41 (And.intro @ty_z41 (And.intro @ty_b41 (And.intro @ty_u41 (And.intro @ty_f41_0 (And.intro @ty_f41_1 (And.intro @ty_f41_2 (And.intro @ty_p41 (And.intro @ty_za41 (And.intro @ty_tz41 (And.intro @ty_zs41 (And.intro @ty_zv41 (And.intro @ty_dz41 (And.intro @ty_k42 (And.intro @ty_z42 (And.intro @ty_b42 (And.intro @ty_u42 (And.intro @ty_tz42 (And.intro @ty_zs42 (And.intro @ty_zv42 (And.intro @ty_dz42 (And.intro @ty_k43 (And.intro @ty_z43 (And.intro @ty_b43 (@ty_u43)))))))))))))))))))))))))))))))))))))))) (And.intro (And.intro @ty_tz43 (And.intro @ty_zs43 (And.intro @ty_zv43 (And.intro @ty_dz43 (And.intro @ty_k44 (And.intro @ty_z44 (And.intro @ty_b44 (And.intro @ty_u44 (And.intro @ty_c44 (And.intro @ty_f44_0 (And.intro @ty_f44_1 (And.intro @ty_f44_2 (And.intro @ty_p44 (And.intro @ty_za44 (And.intro @ty_tz44 (And.intro @ty_zs44 (And.intro @ty_zv44 (And.intro @ty_dz44 (And.intro @ty_k45 (And.intro @ty_z45 (And.intro @ty_b45 (And.intro @ty_u45 (And.intro @ty_c45 (And.intro @ty_f45_0 (And.intro @ty_f45_1 (And.intro @ty_f45_2 (And.intro @ty_p45 (And.intro @ty_za45 (And.intro @ty_tz45 (And.intro @ty_zs45 (And.intro @ty_zv45 (And.intro @ty_dz45 (And.intro @ty_k46 (And.intro @ty_z46 (And.intro @ty_b46 (And.intro @ty_u46 (And.intro @ty_zv46 (And.intro @ty_k47 (And.intro @ty_z47 (@ty_b47)))))))))))))))))))))))))))))))))))))))) (And.intro (And.intro @ty_u47 (And.intro @ty_tz47 (And.intro @ty_zs47 (And.intro @ty_zv47 (And.intro @ty_dz47 (And.intro @ty_k48 (And.intro @ty_z48 (And.intro @ty_b48 (And.intro @ty_u48 (And.intro @ty_tz48 (And.intro @ty_zs48 (And.intro @ty_zv48 (And.intro @ty_dz48 (And.intro @ty_k49 (And.intro @ty_z49 (And.intro @ty_b49 (And.intro @ty_u49 (And.intro @ty_c49 (And.intro @ty_f49_0 (And.intro @ty_f49_1 (And.intro @ty_p49 (And.intro @ty_za49 (And.intro @ty_tz49 (And.intro @ty_zs49 (And.intro @ty_zv49 (And.intro @ty_dz49 (And.intro @ty_k50 (And.intro @ty_z50 (And.intro @ty_b50 (And.intro @ty_u50 (And.intro @ty_c50 (And.intro @ty_f50_0 (And.intro @ty_f50_1 (And.intro @ty_p50 (And.intro @ty_za50 (And.intro @ty_tz50 (And.intro @ty_zs50 (And.intro @ty_zv50 (And.intro @ty_dz50 (@ty_k51)))))))))))))))))))))))))))))))))))))))) (And.intro (And.intro @ty_z51 (And.intro @ty_b51 (And.intro @ty_u51 (And.intro @ty_tz51 (And.intro @ty_zs51 (And.intro @ty_zv51 (And.intro @ty_dz51 (And.intro @ty_k52 (And.intro @ty_z52 (And.intro @ty_b52 (And.intro @ty_u52 (And.intro @ty_tz52 (And.intro @ty_zs52 (And.intro @ty_zv52 (And.intro @ty_dz52 (And.intro @ty_k53 (And.intro @ty_z53 (And.intro @ty_b53 (And.intro @ty_u53 (And.intro @ty_tz53 (And.intro @ty_zs53 (And.intro @ty_zv53 (And.intro @ty_dz53 (And.intro @ty_k54 (And.intro @ty_z54 (And.intro @ty_b54 (And.intro @ty_u54 (And.intro @ty_tz54 (And.intro @ty_zs54 (And.intro @ty_zv54 (And.intro @ty_dz54 (And.intro @ty_k55 (And.intro @ty_z55 (And.intro @ty_b55 (And.intro @ty_u55 (And.intro @ty_tz55 (And.intro @ty_zs55 (And.intro @ty_zv55 (And.intro @ty_dz55 (@ty_k56)))))))))))))))))))))))))))))))))))))))) (And.intro (And.intro @ty_z56 (And.intro @ty_b56 (And.intro @ty_u56 (And.intro @ty_tz56 (And.intro @ty_zs56 (And.intro @ty_zv56 (And.intro @ty_dz56 (And.intro @ty_k57 (And.intro @ty_z57 (And.intro @ty_b57 (And.intro @ty_u57 (And.intro @ty_tz57 (And.intro @ty_zs57 (And.intro @ty_zv57 (And.intro @ty_dz57 (And.intro @ty_k58 (And.intro @ty_z58 (And.intro @ty_b58 (And.intro @ty_u58 (And.intro @ty_tz58 (And.intro @ty_zs58 (And.intro @ty_zv58 (And.intro @ty_dz58 (And.intro @ty_k59 (And.intro @ty_z59 (And.intro @ty_b59 (And.intro @ty_u59 (And.intro @ty_tz59 (And.intro @ty_zs59 (And.intro @ty_zv59 (And.intro @ty_dz59 (And.intro @ty_k60 (And.intro @ty_z60 (And.intro @ty_b60 (And.intro @ty_u60 (And.intro @ty_tz60 (And.intro @ty_zs60 (And.intro @ty_zv60 (And.intro @ty_dz60 (@ty_k61)))))))))))))))))))))))))))))))))))))))) (And.intro (And.intro @ty_z61 (And.intro @ty_b61 (And.intro @ty_u61 (And.intro @ty_tz61 (And.intro @ty_zs61 (And.intro @ty_zv61 (And.intro @ty_dz61 (And.intro @ty_k62 (And.intro @ty_z62 (And.intro @ty_pt62 (And.intro @ty_b62 (And.intro @ty_u62 (And.intro @ty_tz62 (And.intro @ty_zs62 (And.intro @ty_zv62 (And.intro @ty_dz62 (And.intro @ty_k63 (And.intro @ty_z63 (And.intro @ty_b63 (And.intro @ty_u63 (And.intro @ty_c63 (And.intro @ty_f63_0 (And.intro @ty_f63_1 (And.intro @ty_p63 (And.intro @ty_za63 (And.intro @ty_tz63 (And.intro @ty_zs63 (And.intro @ty_zv63 (And.intro @ty_dz63 (And.intro @ty_k64 (And.intro @ty_z64 (And.intro @ty_b64 (And.intro @ty_u64 (And.intro @ty_c64 (And.intro @ty_f64_0 (And.intro @ty_f64_1 (And.intro @ty_p64 (And.intro @ty_za64 (And.intro @ty_tz64 (@ty_zs64)))))))))))))))))))))))))))))))))))))))) (And.intro (And.intro @ty_zv64 (And.intro @ty_dz64 (And.intro @ty_k65 (And.intro @ty_z65 (And.intro @ty_b65 (And.intro @ty_u65 (And.intro @ty_tz65 (And.intro @ty_zs65 (And.intro @ty_zv65 (And.intro @ty_dz65 (And.intro @ty_k66 (And.intro @ty_z66 (And.intro @ty_b66 (And.intro @ty_u66 (And.intro @ty_tz66 (And.intro @ty_zs66 (And.intro @ty_zv66 (And.intro @ty_dz66 (And.intro @ty_k67 (And.intro @ty_z67 (And.intro @ty_b67 (And.intro @ty_u67 (And.intro @ty_tz67 (And.intro @ty_zs67 (And.intro @ty_zv67 (And.intro @ty_dz67 (And.intro @ty_k68 (And.intro @ty_z68 (And.intro @ty_b68 (And.intro @ty_i68 (And.intro @ty_u68 (And.intro @ty_tz68 (And.intro @ty_zs68 (And.intro @ty_zv68 (And.intro @ty_dz68 (And.intro @ty_k69 (And.intro @ty_z69 (And.intro @ty_b69 (And.intro @ty_u69 (@ty_c69)))))))))))))))))))))))))))))))))))))))) (And.intro (And.intro @ty_f69_0 (And.intro @ty_f69_1 (And.intro @ty_p69 (And.intro @ty_za69 (And.intro @ty_tz69 (And.intro @ty_zs69 (And.intro @ty_zv69 (And.intro @ty_dz69 (And.intro @ty_k70 (And.intro @ty_z70 (And.intro @ty_b70 (And.intro @ty_u70 (And.intro @ty_c70 (And.intro @ty_f70_0 (And.intro @ty_f70_1 (And.intro @ty_p70 (And.intro @ty_za70 (And.intro @ty_tz70 (And.intro @ty_zs70 (And.intro @ty_zv70 (And.intro @ty_dz70 (And.intro @ty_k71 (And.intro @ty_z71 (And.intro @ty_b71 (And.intro @ty_u71 (And.intro @ty_f71_0 (And.intro @ty_f71_1 (And.intro @ty_p71 (And.intro @ty_za71 (And.intro @ty_tz71 (And.intro @ty_zs71 (And.intro @ty_zv71 (And.intro @ty_dz71 (And.intro @ty_k72 (And.intro @ty_z72 (And.intro @ty_b72 (And.intro @ty_u72 (And.intro @ty_f72_0 (And.intro @ty_f72_1 (@ty_p72)))))))))))))))))))))))))))))))))))))))) (And.intro (And.intro @ty_za72 (And.intro @ty_tz72 (And.intro @ty_zs72 (And.intro @ty_zv72 (And.intro @ty_dz72 (And.intro @ty_k73 (And.intro @ty_z73 (And.intro @ty_b73 (And.intro @ty_u73 (And.intro @ty_tz73 (And.intro @ty_zs73 (And.intro @ty_zv73 (And.intro @ty_dz73 (And.intro @ty_k74 (And.intro @ty_z74 (And.intro @ty_b74 (And.intro @ty_u74 (And.intro @ty_tz74 (And.intro @ty_zs74 (And.intro @ty_zv74 (And.intro @ty_dz74 (And.intro @ty_k75 (And.intro @ty_z75 (And.intro @ty_b75 (And.intro @ty_u75 (And.intro @ty_tz75 (And.intro @ty_zs75 (And.intro @ty_zv75 (And.intro @ty_dz75 (And.intro @ty_k76 (And.intro @ty_z76 (And.intro @ty_b76 (And.intro @ty_u76 (And.intro @ty_tz76 (And.intro @ty_zs76 (And.intro @ty_zv76 (And.intro @ty_dz76 (And.intro @ty_k77 (And.intro @ty_z77 (@ty_b77)))))))))))))))))))))))))))))))))))))))) (And.intro (And.intro @ty_u77 (And.intro @ty_tz77 (And.intro @ty_zs77 (And.intro @ty_zv77 (And.intro @ty_dz77 (And.intro @ty_k78 (And.intro @ty_z78 (And.intro @ty_b78 (And.intro @ty_u78 (And.intro @ty_tz78 (And.intro @ty_zs78 (And.intro @ty_zv78 (And.intro @ty_dz78 (And.intro @ty_k79 (And.intro @ty_z79 (And.intro @ty_b79 (And.intro @ty_u79 (And.intro @ty_tz79 (And.intro @ty_zs79 (And.intro @ty_zv79 (And.intro @ty_dz79 (And.intro @ty_k80 (And.intro @ty_z80 (And.intro @ty_b80 (And.intro @ty_u80 (And.intro @ty_tz80 (And.intro @ty_zs80 (And.intro @ty_zv80 (And.intro @ty_dz80 (And.intro @ty_k81 (And.intro @ty_z81 (And.intro @ty_b81 (And.intro @ty_u81 (And.intro @ty_tz81 (And.intro @ty_zs81 (And.intro @ty_zv81 (And.intro @ty_dz81 (And.intro @ty_k82 (And.intro @ty_z82 (@ty_b82)))))))))))))))))))))))))))))))))))))))) (And.intro (And.intro @ty_u82 (And.intro @ty_tz82 (And.intro @ty_zs82 (And.intro @ty_zv82 (And.intro @ty_dz82 (And.intro @ty_k83 (And.intro @ty_z83 (And.intro @ty_b83 (And.intro @ty_u83 (And.intro @ty_tz83 (And.intro @ty_zs83 (And.intro @ty_zv83 (And.intro @ty_dz83 (And.intro @ty_k84 (And.intro @ty_z84 (And.intro @ty_b84 (And.intro @ty_u84 (And.intro @ty_tz84 (And.intro @ty_zs84 (And.intro @ty_zv84 (And.intro @ty_dz84 (And.intro @ty_k85 (And.intro @ty_z85 (And.intro @ty_e85 (And.intro @ty_ae85 (And.intro @ty_b85 (And.intro @ty_x85 (And.intro @ty_u85 (And.intro @ty_tz85 (And.intro @ty_zs85 (And.intro @ty_zv85 (And.intro @ty_dz85 (And.intro @ty_k86 (And.intro @ty_z86 (And.intro @ty_b86 (And.intro @ty_i86 (And.intro @ty_u86 (And.intro @ty_tz86 (And.intro @ty_zs86 (@ty_zv86)))))))))))))))))))))))))))))))))))))))) (And.intro (And.intro @ty_dz86 (And.intro @ty_k87 (And.intro @ty_z87 (And.intro @ty_b87 (And.intro @ty_u87 (And.intro @ty_zv87 (And.intro @ty_k88 (And.intro @ty_z88 (And.intro @ty_b88 (And.intro @ty_u88 (And.intro @ty_tz88 (And.intro @ty_zs88 (And.intro @ty_zv88 (And.intro @ty_dz88 (And.intro @ty_k89 (And.intro @ty_z89 (And.intro @ty_b89 (And.intro @ty_u89 (And.intro @ty_tz89 (And.intro @ty_zs89 (And.intro @ty_zv89 (And.intro @ty_dz89 (And.intro @ty_k90 (And.intro @ty_z90 (And.intro @ty_b90 (And.intro @ty_u90 (And.intro @ty_tz90 (And.intro @ty_zs90 (And.intro @ty_zv90 (And.intro @ty_dz90 (And.intro @ty_k91 (And.intro @ty_z91 (And.intro @ty_b91 (And.intro @ty_u91 (And.intro @ty_tz91 (And.intro @ty_zs91 (And.intro @ty_zv91 (And.intro @ty_dz91 (And.intro @ty_k92 (@ty_z92)))))))))))))))))))))))))))))))))))))))) (And.intro (And.intro @ty_b92 (And.intro @ty_u92 (And.intro @ty_tz92 (And.intro @ty_zs92 (And.intro @ty_zv92 (And.intro @ty_dz92 (And.intro @ty_k93 (And.intro @ty_z93 (And.intro @ty_b93 (And.intro @ty_u93 (And.intro @ty_tz93 (And.intro @ty_zs93 (And.intro @ty_zv93 (And.intro @ty_dz93 (And.intro @ty_k94 (And.intro @ty_z94 (And.intro @ty_b94 (And.intro @ty_u94 (And.intro @ty_tz94 (And.intro @ty_zs94 (And.intro @ty_zv94 (And.intro @ty_dz94 (And.intro @ty_k95 (And.intro @ty_z95 (And.intro @ty_b95 (And.intro @ty_u95 (And.intro @ty_tz95 (And.intro @ty_zs95 (And.intro @ty_zv95 (And.intro @ty_dz95 (And.intro @ty_k96 (And.intro @ty_z96 (And.intro @ty_b96 (And.intro @ty_u96 (And.intro @ty_tz96 (And.intro @ty_zs96 (And.intro @ty_zv96 (And.intro @ty_dz96 (And.intro @ty_k97 (@ty_z97)))))))))))))))))))))))))))))))))))))))) (And.intro (And.intro @ty_b97 (And.intro @ty_u97 (And.intro @ty_tz97 (And.intro @ty_zs97 (And.intro @ty_zv97 (And.intro @ty_dz97 (And.intro @ty_k98 (And.intro @ty_z98 (And.intro @ty_b98 (And.intro @ty_u98 (And.intro @ty_tz98 (And.intro @ty_zs98 (And.intro @ty_zv98 (And.intro @ty_dz98 (And.intro @ty_k99 (And.intro @ty_z99 (And.intro @ty_b99 (And.intro @ty_u99 (And.intro @ty_tz99 (And.intro @ty_zs99 (And.intro @ty_zv99 (And.intro @ty_dz99 (And.intro @ty_k100 (And.intro @ty_z100 (And.intro @ty_b100 (And.intro @ty_u100 (And.intro @ty_tz100 (And.intro @ty_zs100 (And.intro @ty_zv100 (And.intro @ty_dz100 (And.intro @ty_k101 (And.intro @ty_z101 (And.intro @ty_b101 (And.intro @ty_u101 (And.intro @ty_f101_0 (And.intro @ty_f101_1 (And.intro @ty_f101_2 (And.intro @ty_f101_3 (And.intro @ty_p101 (@ty_za101)))))))))))))))))))))))))))))))))))))))) (And.intro (And.intro @ty_tz101 (And.intro @ty_zs101 (And.intro @ty_zv101 (And.intro @ty_dz101 (And.intro @ty_k102 (And.intro @ty_z102 (And.intro @ty_b102 (And.intro @ty_u102 (And.intro @ty_f102_0 (And.intro @ty_f102_1 (And.intro @ty_f102_2 (And.intro @ty_f102_3 (And.intro @ty_p102 (And.intro @ty_za102 (And.intro @ty_tz102 (And.intro @ty_zs102 (And.intro @ty_zv102 (And.intro @ty_dz102 (And.intro @ty_k103 (And.intro @ty_z103 (And.intro @ty_b103 (And.intro @ty_x103 (And.intro @ty_u103 (And.intro @ty_p103 (And.intro @ty_za103 (And.intro @ty_tz103 (And.intro @ty_zs103 (And.intro @ty_zv103 (And.intro @ty_dz103 (And.intro @ty_k104 (And.intro @ty_z104 (And.intro @ty_b104 (And.intro @ty_u104 (And.intro @ty_f104_0 (And.intro @ty_p104 (And.intro @ty_za104 (And.intro @ty_tz104 (And.intro @ty_zs104 (And.intro @ty_zv104 (@ty_dz104)))))))))))))))))))))))))))))))))))))))) (And.intro (And.intro @ty_k105 (And.intro @ty_z105 (And.intro @ty_b105 (And.intro @ty_u105 (And.intro @ty_f105_0 (And.intro @ty_p105 (And.intro @ty_za105 (And.intro @ty_tz105 (And.intro @ty_zs105 (And.intro @ty_zv105 (And.intro @ty_dz105 (And.intro @ty_k106 (And.intro @ty_z106 (And.intro @ty_b106 (And.intro @ty_u106 (And.intro @ty_tz106 (And.intro @ty_zs106 (And.intro @ty_zv106 (And.intro @ty_dz106 (And.intro @ty_k107 (And.intro @ty_z107 (And.intro @ty_b107 (And.intro @ty_i107 (And.intro @ty_u107 (And.intro @ty_tz107 (And.intro @ty_zs107 (And.intro @ty_zv107 (And.intro @ty_dz107 (And.intro @ty_k108 (And.intro @ty_z108 (And.intro @ty_b108 (And.intro @ty_i108 (And.intro @ty_u108 (And.intro @ty_tz108 (And.intro @ty_zs108 (And.intro @ty_zv108 (And.intro @ty_dz108 (And.intro @ty_k109 (And.intro @ty_z109 (@ty_b109)))))))))))))))))))))))))))))))))))))))) (And.intro (And.intro @ty_i109 (And.intro @ty_u109 (And.intro @ty_tz109 (And.intro @ty_zs109 (And.intro @ty_zv109 (And.intro @ty_dz109 (And.intro @ty_k110 (And.intro @ty_z110 (And.intro @ty_b110 (And.intro @ty_u110 (And.intro @ty_tz110 (And.intro @ty_zs110 (And.intro @ty_zv110 (And.intro @ty_dz110 (And.intro @ty_k111 (And.intro @ty_z111 (And.intro @ty_pt111 (And.intro @ty_b111 (And.intro @ty_u111 (And.intro @ty_tz111 (And.intro @ty_zs111 (And.intro @ty_zv111 (And.intro @ty_dz111 (And.intro @ty_k112 (And.intro @ty_z112 (And.intro @ty_b112 (And.intro @ty_i112 (And.intro @ty_u112 (And.intro @ty_tz112 (And.intro @ty_zs112 (And.intro @ty_zv112 (And.intro @ty_dz112 (And.intro @ty_k113 (And.intro @ty_z113 (And.intro @ty_b113 (And.intro @ty_i113 (And.intro @ty_u113 (And.intro @ty_tz113 (And.intro @ty_zs113 (@ty_zv113)))))))))))))))))))))))))))))))))))))))) (And.intro (And.intro @ty_dz113 (And.intro @ty_k114 (And.intro @ty_z114 (And.intro @ty_b114 (And.intro @ty_u114 (And.intro @ty_f114_0 (And.intro @ty_f114_1 (And.intro @ty_f114_2 (And.intro @ty_f114_3 (And.intro @ty_f114_4 (And.intro @ty_f114_5 (And.intro @ty_f114_6 (And.intro @ty_f114_7 (And.intro @ty_f114_8 (And.intro @ty_f114_9 (And.intro @ty_f114_10 (And.intro @ty_p114 (And.intro @ty_za114 (And.intro @ty_tz114 (And.intro @ty_zs114 (And.intro @ty_zv114 (And.intro @ty_dz114 (And.intro @ty_k115 (And.intro @ty_z115 (And.intro @ty_b115 (And.intro @ty_u115 (And.intro @ty_f115_0 (And.intro @ty_f115_1 (And.intro @ty_f115_2 (And.intro @ty_f115_3 (And.intro @ty_f115_4 (And.intro @ty_f115_5 (And.intro @ty_f115_6 (And.intro @ty_f115_7 (And.intro @ty_f115_8 (And.intro @ty_f115_9 (And.intro @ty_f115_10 (And.intro @ty_p115 (And.intro @ty_za115 (@ty_tz115)))))))))))))))))))))))))))))))))))))))) (And.intro @ty_zs115 (And.intro @ty_zv115 (And.intro @ty_dz115 (And.intro @ty_k116 (And.intro @ty_z116 (And.intro @ty_b116 (And.intro @ty_u116 (And.intro @ty_tz116 (And.intro @ty_zs116 (And.intro @ty_zv116 (@ty_dz116))))))))))))))))))))))))))))))))))))))
end Ytlelaieadgkemaa
end Go.Proofs
