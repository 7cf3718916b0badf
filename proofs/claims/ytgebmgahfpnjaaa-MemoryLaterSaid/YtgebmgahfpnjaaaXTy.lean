/- A part of the proof: contracts of functions of this seat, and lemmas. No condition beyond those stated. -/
import Derived.Test.YtgebmgahfpnjaaaG4
import Derived.Test.YtgebmgahfpnjaaaProg
set_option linter.unusedVariables false
set_option linter.unusedSimpArgs false
set_option linter.unusedSectionVars false
set_option linter.unnecessarySimpa false
/- Facts of the types of this seat, printed by a small program. -/
namespace Go.Proofs
open Go.AM
namespace Ytgebmgahfpnjaaa
theorem ty_k0 : tkind Try.prog 0 = some false := by kernel_rfl
theorem ty_z0 : tsz Try.prog 0 = some 1 := by kernel_rfl
theorem ty_b0 : tbytes Try.prog 0 = some 0 := by kernel_rfl
theorem ty_u0 : (Try.prog.underlying 0).isSome = true := by kernel_rfl
theorem ty_zv0 : zeroV Try.prog 0 = .undef := by kernel_rfl
theorem ty_k1 : tkind Try.prog 1 = some false := by kernel_rfl
theorem ty_z1 : tsz Try.prog 1 = some 1 := by kernel_rfl
theorem ty_b1 : tbytes Try.prog 1 = some 8 := by kernel_rfl
theorem ty_u1 : (Try.prog.underlying 1).isSome = true := by kernel_rfl
theorem ty_tz1 : tzero Try.prog 1 = some (Value.nilFunc) := by kernel_rfl
theorem ty_zs1 : (Value.nilFunc).cells.size = 1 := by kernel_rfl
theorem ty_zv1 : zeroV Try.prog 1 = .d (D.raw .nilFunc) := by kernel_rfl
theorem ty_dz1 : dataZero Try.prog 1 = some (D.raw .nilFunc) := by kernel_rfl
theorem ty_k2 : tkind Try.prog 2 = some false := by kernel_rfl
theorem ty_z2 : tsz Try.prog 2 = some 1 := by kernel_rfl
theorem ty_b2 : tbytes Try.prog 2 = some 8 := by kernel_rfl
theorem ty_i2 : tintk Try.prog 2 = some .i64 := by kernel_rfl
theorem ty_u2 : (Try.prog.underlying 2).isSome = true := by kernel_rfl
theorem ty_tz2 : tzero Try.prog 2 = some (Value.int .i64 0) := by kernel_rfl
theorem ty_zs2 : (Value.int .i64 0).cells.size = 1 := by kernel_rfl
theorem ty_zv2 : zeroV Try.prog 2 = .d (D.int .i64 0) := by kernel_rfl
theorem ty_dz2 : dataZero Try.prog 2 = some (D.int .i64 0) := by kernel_rfl
theorem ty_k3 : tkind Try.prog 3 = some false := by kernel_rfl
theorem ty_z3 : tsz Try.prog 3 = some 1 := by kernel_rfl
theorem ty_b3 : tbytes Try.prog 3 = some 8 := by kernel_rfl
theorem ty_i3 : tintk Try.prog 3 = some .i64 := by kernel_rfl
theorem ty_u3 : (Try.prog.underlying 3).isSome = true := by kernel_rfl
theorem ty_tz3 : tzero Try.prog 3 = some (Value.int .i64 0) := by kernel_rfl
theorem ty_zs3 : (Value.int .i64 0).cells.size = 1 := by kernel_rfl
theorem ty_zv3 : zeroV Try.prog 3 = .d (D.int .i64 0) := by kernel_rfl
theorem ty_dz3 : dataZero Try.prog 3 = some (D.int .i64 0) := by kernel_rfl
theorem ty_k4 : tkind Try.prog 4 = some false := by kernel_rfl
theorem ty_z4 : tsz Try.prog 4 = some 1 := by kernel_rfl
theorem ty_b4 : tbytes Try.prog 4 = some 1 := by kernel_rfl
theorem ty_u4 : (Try.prog.underlying 4).isSome = true := by kernel_rfl
theorem ty_bo4 : Try.prog.underlying 4 = some .bool := by kernel_rfl
theorem ty_tz4 : tzero Try.prog 4 = some (Value.bool false) := by kernel_rfl
theorem ty_zs4 : (Value.bool false).cells.size = 1 := by kernel_rfl
theorem ty_zv4 : zeroV Try.prog 4 = .d (D.bool false) := by kernel_rfl
theorem ty_dz4 : dataZero Try.prog 4 = some (D.bool false) := by kernel_rfl
theorem ty_k5 : tkind Try.prog 5 = some false := by kernel_rfl
theorem ty_z5 : tsz Try.prog 5 = some 1 := by kernel_rfl
theorem ty_b5 : tbytes Try.prog 5 = some 1 := by kernel_rfl
theorem ty_i5 : tintk Try.prog 5 = some .u8 := by kernel_rfl
theorem ty_u5 : (Try.prog.underlying 5).isSome = true := by kernel_rfl
theorem ty_tz5 : tzero Try.prog 5 = some (Value.int .u8 0) := by kernel_rfl
theorem ty_zs5 : (Value.int .u8 0).cells.size = 1 := by kernel_rfl
theorem ty_zv5 : zeroV Try.prog 5 = .d (D.int .u8 0) := by kernel_rfl
theorem ty_dz5 : dataZero Try.prog 5 = some (D.int .u8 0) := by kernel_rfl
theorem ty_k6 : tkind Try.prog 6 = some false := by kernel_rfl
theorem ty_z6 : tsz Try.prog 6 = some 1 := by kernel_rfl
theorem ty_b6 : tbytes Try.prog 6 = some 1 := by kernel_rfl
theorem ty_i6 : tintk Try.prog 6 = some .u8 := by kernel_rfl
theorem ty_u6 : (Try.prog.underlying 6).isSome = true := by kernel_rfl
theorem ty_tz6 : tzero Try.prog 6 = some (Value.int .u8 0) := by kernel_rfl
theorem ty_zs6 : (Value.int .u8 0).cells.size = 1 := by kernel_rfl
theorem ty_zv6 : zeroV Try.prog 6 = .d (D.int .u8 0) := by kernel_rfl
theorem ty_dz6 : dataZero Try.prog 6 = some (D.int .u8 0) := by kernel_rfl
theorem ty_k7 : tkind Try.prog 7 = some true := by kernel_rfl
theorem ty_z7 : tsz Try.prog 7 = some 4 := by kernel_rfl
theorem ty_b7 : tbytes Try.prog 7 = some 24 := by kernel_rfl
theorem ty_u7 : (Try.prog.underlying 7).isSome = true := by kernel_rfl
theorem ty_c7 : tcmp Try.prog 7 = some [0, 0, 1, 0] := by kernel_rfl
theorem ty_f7_0 : tfld Try.prog 7 0 = some (0, 1, false) := by kernel_rfl
theorem ty_f7_1 : tfld Try.prog 7 1 = some (1, 1, false) := by kernel_rfl
theorem ty_f7_2 : tfld Try.prog 7 2 = some (2, 1, false) := by kernel_rfl
theorem ty_f7_3 : tfld Try.prog 7 3 = some (3, 1, false) := by kernel_rfl
theorem ty_p7 : tplaces Try.prog 7 = some [(0, 1), (1, 1), (2, 1), (3, 1)] := by kernel_rfl
theorem ty_za7 : tzeroA Try.prog 7 = some [.d (D.int .i64 0), .d (D.int .i64 0), .d (D.bool false), .d (D.int .u8 0)] := by kernel_rfl
theorem ty_tz7 : tzero Try.prog 7 = some (Value.agg #[Value.int .i64 0, Value.int .i64 0, Value.bool false, Value.int .u8 0]) := by kernel_rfl
theorem ty_zs7 : (Value.agg #[Value.int .i64 0, Value.int .i64 0, Value.bool false, Value.int .u8 0]).cells.size = 4 := by kernel_rfl
theorem ty_zv7 : zeroV Try.prog 7 = .d (D.agg [D.int .i64 0, D.int .i64 0, D.bool false, D.int .u8 0]) := by kernel_rfl
theorem ty_dz7 : dataZero Try.prog 7 = some (D.agg [D.int .i64 0, D.int .i64 0, D.bool false, D.int .u8 0]) := by kernel_rfl
theorem ty_k8 : tkind Try.prog 8 = some true := by kernel_rfl
theorem ty_z8 : tsz Try.prog 8 = some 4 := by kernel_rfl
theorem ty_b8 : tbytes Try.prog 8 = some 24 := by kernel_rfl
theorem ty_u8 : (Try.prog.underlying 8).isSome = true := by kernel_rfl
theorem ty_c8 : tcmp Try.prog 8 = some [0, 0, 1, 0] := by kernel_rfl
theorem ty_f8_0 : tfld Try.prog 8 0 = some (0, 1, false) := by kernel_rfl
theorem ty_f8_1 : tfld Try.prog 8 1 = some (1, 1, false) := by kernel_rfl
theorem ty_f8_2 : tfld Try.prog 8 2 = some (2, 1, false) := by kernel_rfl
theorem ty_f8_3 : tfld Try.prog 8 3 = some (3, 1, false) := by kernel_rfl
theorem ty_p8 : tplaces Try.prog 8 = some [(0, 1), (1, 1), (2, 1), (3, 1)] := by kernel_rfl
theorem ty_za8 : tzeroA Try.prog 8 = some [.d (D.int .i64 0), .d (D.int .i64 0), .d (D.bool false), .d (D.int .u8 0)] := by kernel_rfl
theorem ty_tz8 : tzero Try.prog 8 = some (Value.agg #[Value.int .i64 0, Value.int .i64 0, Value.bool false, Value.int .u8 0]) := by kernel_rfl
theorem ty_zs8 : (Value.agg #[Value.int .i64 0, Value.int .i64 0, Value.bool false, Value.int .u8 0]).cells.size = 4 := by kernel_rfl
theorem ty_zv8 : zeroV Try.prog 8 = .d (D.agg [D.int .i64 0, D.int .i64 0, D.bool false, D.int .u8 0]) := by kernel_rfl
theorem ty_dz8 : dataZero Try.prog 8 = some (D.agg [D.int .i64 0, D.int .i64 0, D.bool false, D.int .u8 0]) := by kernel_rfl
theorem ty_k9 : tkind Try.prog 9 = some false := by kernel_rfl
theorem ty_z9 : tsz Try.prog 9 = some 1 := by kernel_rfl
theorem ty_b9 : tbytes Try.prog 9 = some 16 := by kernel_rfl
theorem ty_s9 : tstr Try.prog 9 = true := by kernel_rfl
theorem ty_u9 : (Try.prog.underlying 9).isSome = true := by kernel_rfl
theorem ty_tz9 : tzero Try.prog 9 = some (Value.string ⟨#[]⟩) := by kernel_rfl
theorem ty_zs9 : (Value.string ⟨#[]⟩).cells.size = 1 := by kernel_rfl
theorem ty_zv9 : zeroV Try.prog 9 = .d (D.str []) := by kernel_rfl
theorem ty_dz9 : dataZero Try.prog 9 = some (D.str []) := by kernel_rfl
theorem ty_k10 : tkind Try.prog 10 = some false := by kernel_rfl
theorem ty_z10 : tsz Try.prog 10 = some 1 := by kernel_rfl
theorem ty_b10 : tbytes Try.prog 10 = some 16 := by kernel_rfl
theorem ty_s10 : tstr Try.prog 10 = true := by kernel_rfl
theorem ty_u10 : (Try.prog.underlying 10).isSome = true := by kernel_rfl
theorem ty_tz10 : tzero Try.prog 10 = some (Value.string ⟨#[]⟩) := by kernel_rfl
theorem ty_zs10 : (Value.string ⟨#[]⟩).cells.size = 1 := by kernel_rfl
theorem ty_zv10 : zeroV Try.prog 10 = .d (D.str []) := by kernel_rfl
theorem ty_dz10 : dataZero Try.prog 10 = some (D.str []) := by kernel_rfl
theorem ty_k11 : tkind Try.prog 11 = some false := by kernel_rfl
theorem ty_z11 : tsz Try.prog 11 = some 1 := by kernel_rfl
theorem ty_b11 : tbytes Try.prog 11 = some 16 := by kernel_rfl
theorem ty_s11 : tstr Try.prog 11 = true := by kernel_rfl
theorem ty_u11 : (Try.prog.underlying 11).isSome = true := by kernel_rfl
theorem ty_tz11 : tzero Try.prog 11 = some (Value.string ⟨#[]⟩) := by kernel_rfl
theorem ty_zs11 : (Value.string ⟨#[]⟩).cells.size = 1 := by kernel_rfl
theorem ty_zv11 : zeroV Try.prog 11 = .d (D.str []) := by kernel_rfl
theorem ty_dz11 : dataZero Try.prog 11 = some (D.str []) := by kernel_rfl
theorem ty_k12 : tkind Try.prog 12 = some false := by kernel_rfl
theorem ty_z12 : tsz Try.prog 12 = some 1 := by kernel_rfl
theorem ty_b12 : tbytes Try.prog 12 = some 8 := by kernel_rfl
theorem ty_i12 : tintk Try.prog 12 = some .u64 := by kernel_rfl
theorem ty_u12 : (Try.prog.underlying 12).isSome = true := by kernel_rfl
theorem ty_tz12 : tzero Try.prog 12 = some (Value.int .u64 0) := by kernel_rfl
theorem ty_zs12 : (Value.int .u64 0).cells.size = 1 := by kernel_rfl
theorem ty_zv12 : zeroV Try.prog 12 = .d (D.int .u64 0) := by kernel_rfl
theorem ty_dz12 : dataZero Try.prog 12 = some (D.int .u64 0) := by kernel_rfl
theorem ty_k13 : tkind Try.prog 13 = some true := by kernel_rfl
theorem ty_z13 : tsz Try.prog 13 = some 2 := by kernel_rfl
theorem ty_b13 : tbytes Try.prog 13 = some 24 := by kernel_rfl
theorem ty_u13 : (Try.prog.underlying 13).isSome = true := by kernel_rfl
theorem ty_f13_0 : tfld Try.prog 13 0 = some (0, 1, false) := by kernel_rfl
theorem ty_f13_1 : tfld Try.prog 13 1 = some (1, 1, false) := by kernel_rfl
theorem ty_p13 : tplaces Try.prog 13 = some [(0, 1), (1, 1)] := by kernel_rfl
theorem ty_za13 : tzeroA Try.prog 13 = some [.d (D.str []), .d (D.int .u64 0)] := by kernel_rfl
theorem ty_tz13 : tzero Try.prog 13 = some (Value.agg #[Value.string ⟨#[]⟩, Value.int .u64 0]) := by kernel_rfl
theorem ty_zs13 : (Value.agg #[Value.string ⟨#[]⟩, Value.int .u64 0]).cells.size = 2 := by kernel_rfl
theorem ty_zv13 : zeroV Try.prog 13 = .d (D.agg [D.str [], D.int .u64 0]) := by kernel_rfl
theorem ty_dz13 : dataZero Try.prog 13 = some (D.agg [D.str [], D.int .u64 0]) := by kernel_rfl
theorem ty_k14 : tkind Try.prog 14 = some true := by kernel_rfl
theorem ty_z14 : tsz Try.prog 14 = some 2 := by kernel_rfl
theorem ty_b14 : tbytes Try.prog 14 = some 24 := by kernel_rfl
theorem ty_u14 : (Try.prog.underlying 14).isSome = true := by kernel_rfl
theorem ty_f14_0 : tfld Try.prog 14 0 = some (0, 1, false) := by kernel_rfl
theorem ty_f14_1 : tfld Try.prog 14 1 = some (1, 1, false) := by kernel_rfl
theorem ty_p14 : tplaces Try.prog 14 = some [(0, 1), (1, 1)] := by kernel_rfl
theorem ty_za14 : tzeroA Try.prog 14 = some [.d (D.str []), .d (D.int .u64 0)] := by kernel_rfl
theorem ty_tz14 : tzero Try.prog 14 = some (Value.agg #[Value.string ⟨#[]⟩, Value.int .u64 0]) := by kernel_rfl
theorem ty_zs14 : (Value.agg #[Value.string ⟨#[]⟩, Value.int .u64 0]).cells.size = 2 := by kernel_rfl
theorem ty_zv14 : zeroV Try.prog 14 = .d (D.agg [D.str [], D.int .u64 0]) := by kernel_rfl
theorem ty_dz14 : dataZero Try.prog 14 = some (D.agg [D.str [], D.int .u64 0]) := by kernel_rfl
theorem ty_k15 : tkind Try.prog 15 = some false := by kernel_rfl
theorem ty_z15 : tsz Try.prog 15 = some 1 := by kernel_rfl
theorem ty_pt15 : tptr Try.prog 15 = true := by kernel_rfl
theorem ty_b15 : tbytes Try.prog 15 = some 8 := by kernel_rfl
theorem ty_u15 : (Try.prog.underlying 15).isSome = true := by kernel_rfl
theorem ty_tz15 : tzero Try.prog 15 = some (Value.pointer none) := by kernel_rfl
theorem ty_zs15 : (Value.pointer none).cells.size = 1 := by kernel_rfl
theorem ty_zv15 : zeroV Try.prog 15 = .d (D.raw (.pointer none)) := by kernel_rfl
theorem ty_dz15 : dataZero Try.prog 15 = some (D.raw (.pointer none)) := by kernel_rfl
theorem ty_k16 : tkind Try.prog 16 = some false := by kernel_rfl
theorem ty_z16 : tsz Try.prog 16 = some 1 := by kernel_rfl
theorem ty_pt16 : tptr Try.prog 16 = true := by kernel_rfl
theorem ty_b16 : tbytes Try.prog 16 = some 8 := by kernel_rfl
theorem ty_u16 : (Try.prog.underlying 16).isSome = true := by kernel_rfl
theorem ty_tz16 : tzero Try.prog 16 = some (Value.pointer none) := by kernel_rfl
theorem ty_zs16 : (Value.pointer none).cells.size = 1 := by kernel_rfl
theorem ty_zv16 : zeroV Try.prog 16 = .d (D.raw (.pointer none)) := by kernel_rfl
theorem ty_dz16 : dataZero Try.prog 16 = some (D.raw (.pointer none)) := by kernel_rfl
theorem ty_k17 : tkind Try.prog 17 = some false := by kernel_rfl
theorem ty_z17 : tsz Try.prog 17 = some 1 := by kernel_rfl
theorem ty_pt17 : tptr Try.prog 17 = true := by kernel_rfl
theorem ty_b17 : tbytes Try.prog 17 = some 8 := by kernel_rfl
theorem ty_u17 : (Try.prog.underlying 17).isSome = true := by kernel_rfl
theorem ty_tz17 : tzero Try.prog 17 = some (Value.pointer none) := by kernel_rfl
theorem ty_zs17 : (Value.pointer none).cells.size = 1 := by kernel_rfl
theorem ty_zv17 : zeroV Try.prog 17 = .d (D.raw (.pointer none)) := by kernel_rfl
theorem ty_dz17 : dataZero Try.prog 17 = some (D.raw (.pointer none)) := by kernel_rfl
theorem ty_k18 : tkind Try.prog 18 = some true := by kernel_rfl
theorem ty_z18 : tsz Try.prog 18 = some 1 := by kernel_rfl
theorem ty_b18 : tbytes Try.prog 18 = some 8 := by kernel_rfl
theorem ty_u18 : (Try.prog.underlying 18).isSome = true := by kernel_rfl
theorem ty_f18_0 : tfld Try.prog 18 0 = some (0, 1, false) := by kernel_rfl
theorem ty_p18 : tplaces Try.prog 18 = some [(0, 1)] := by kernel_rfl
theorem ty_za18 : tzeroA Try.prog 18 = some [.d (D.raw (.pointer none))] := by kernel_rfl
theorem ty_tz18 : tzero Try.prog 18 = some (Value.agg #[Value.pointer none]) := by kernel_rfl
theorem ty_zs18 : (Value.agg #[Value.pointer none]).cells.size = 1 := by kernel_rfl
theorem ty_zv18 : zeroV Try.prog 18 = .d (D.agg [D.raw (.pointer none)]) := by kernel_rfl
theorem ty_dz18 : dataZero Try.prog 18 = some (D.agg [D.raw (.pointer none)]) := by kernel_rfl
theorem ty_k19 : tkind Try.prog 19 = some true := by kernel_rfl
theorem ty_z19 : tsz Try.prog 19 = some 1 := by kernel_rfl
theorem ty_b19 : tbytes Try.prog 19 = some 8 := by kernel_rfl
theorem ty_u19 : (Try.prog.underlying 19).isSome = true := by kernel_rfl
theorem ty_f19_0 : tfld Try.prog 19 0 = some (0, 1, false) := by kernel_rfl
theorem ty_p19 : tplaces Try.prog 19 = some [(0, 1)] := by kernel_rfl
theorem ty_za19 : tzeroA Try.prog 19 = some [.d (D.raw (.pointer none))] := by kernel_rfl
theorem ty_tz19 : tzero Try.prog 19 = some (Value.agg #[Value.pointer none]) := by kernel_rfl
theorem ty_zs19 : (Value.agg #[Value.pointer none]).cells.size = 1 := by kernel_rfl
theorem ty_zv19 : zeroV Try.prog 19 = .d (D.agg [D.raw (.pointer none)]) := by kernel_rfl
theorem ty_dz19 : dataZero Try.prog 19 = some (D.agg [D.raw (.pointer none)]) := by kernel_rfl
theorem ty_k20 : tkind Try.prog 20 = some false := by kernel_rfl
theorem ty_z20 : tsz Try.prog 20 = some 1 := by kernel_rfl
theorem ty_b20 : tbytes Try.prog 20 = some 16 := by kernel_rfl
theorem ty_u20 : (Try.prog.underlying 20).isSome = true := by kernel_rfl
theorem ty_tz20 : tzero Try.prog 20 = some (Value.nilIface) := by kernel_rfl
theorem ty_zs20 : (Value.nilIface).cells.size = 1 := by kernel_rfl
theorem ty_zv20 : zeroV Try.prog 20 = .d (D.raw .nilIface) := by kernel_rfl
theorem ty_dz20 : dataZero Try.prog 20 = some (D.raw .nilIface) := by kernel_rfl
theorem ty_k21 : tkind Try.prog 21 = some false := by kernel_rfl
theorem ty_z21 : tsz Try.prog 21 = some 1 := by kernel_rfl
theorem ty_b21 : tbytes Try.prog 21 = some 4 := by kernel_rfl
theorem ty_i21 : tintk Try.prog 21 = some .i32 := by kernel_rfl
theorem ty_u21 : (Try.prog.underlying 21).isSome = true := by kernel_rfl
theorem ty_tz21 : tzero Try.prog 21 = some (Value.int .i32 0) := by kernel_rfl
theorem ty_zs21 : (Value.int .i32 0).cells.size = 1 := by kernel_rfl
theorem ty_zv21 : zeroV Try.prog 21 = .d (D.int .i32 0) := by kernel_rfl
theorem ty_dz21 : dataZero Try.prog 21 = some (D.int .i32 0) := by kernel_rfl
theorem ty_k22 : tkind Try.prog 22 = some false := by kernel_rfl
theorem ty_z22 : tsz Try.prog 22 = some 1 := by kernel_rfl
theorem ty_e22 : telem Try.prog 22 = some 52 := by kernel_rfl
theorem ty_ae22 : apEs Try.prog 22 = 10 := by kernel_rfl
theorem ty_b22 : tbytes Try.prog 22 = some 24 := by kernel_rfl
theorem ty_x22 : tidx Try.prog 22 = some (none, 10) := by kernel_rfl
theorem ty_u22 : (Try.prog.underlying 22).isSome = true := by kernel_rfl
theorem ty_tz22 : tzero Try.prog 22 = some (Value.slice none 0 0) := by kernel_rfl
theorem ty_zs22 : (Value.slice none 0 0).cells.size = 1 := by kernel_rfl
theorem ty_zv22 : zeroV Try.prog 22 = .nils := by kernel_rfl
theorem ty_dz22 : dataZero Try.prog 22 = some (D.sl []) := by kernel_rfl
theorem ty_k23 : tkind Try.prog 23 = some false := by kernel_rfl
theorem ty_z23 : tsz Try.prog 23 = some 1 := by kernel_rfl
theorem ty_b23 : tbytes Try.prog 23 = some 8 := by kernel_rfl
theorem ty_u23 : (Try.prog.underlying 23).isSome = true := by kernel_rfl
theorem ty_tz23 : tzero Try.prog 23 = some (Value.nilFunc) := by kernel_rfl
theorem ty_zs23 : (Value.nilFunc).cells.size = 1 := by kernel_rfl
theorem ty_zv23 : zeroV Try.prog 23 = .d (D.raw .nilFunc) := by kernel_rfl
theorem ty_dz23 : dataZero Try.prog 23 = some (D.raw .nilFunc) := by kernel_rfl
theorem ty_k24 : tkind Try.prog 24 = some false := by kernel_rfl
theorem ty_z24 : tsz Try.prog 24 = some 1 := by kernel_rfl
theorem ty_b24 : tbytes Try.prog 24 = some 8 := by kernel_rfl
theorem ty_u24 : (Try.prog.underlying 24).isSome = true := by kernel_rfl
theorem ty_tz24 : tzero Try.prog 24 = some (Value.nilFunc) := by kernel_rfl
theorem ty_zs24 : (Value.nilFunc).cells.size = 1 := by kernel_rfl
theorem ty_zv24 : zeroV Try.prog 24 = .d (D.raw .nilFunc) := by kernel_rfl
theorem ty_dz24 : dataZero Try.prog 24 = some (D.raw .nilFunc) := by kernel_rfl
theorem ty_k25 : tkind Try.prog 25 = some false := by kernel_rfl
theorem ty_z25 : tsz Try.prog 25 = some 1 := by kernel_rfl
theorem ty_b25 : tbytes Try.prog 25 = some 8 := by kernel_rfl
theorem ty_u25 : (Try.prog.underlying 25).isSome = true := by kernel_rfl
theorem ty_tz25 : tzero Try.prog 25 = some (Value.nilFunc) := by kernel_rfl
theorem ty_zs25 : (Value.nilFunc).cells.size = 1 := by kernel_rfl
theorem ty_zv25 : zeroV Try.prog 25 = .d (D.raw .nilFunc) := by kernel_rfl
theorem ty_dz25 : dataZero Try.prog 25 = some (D.raw .nilFunc) := by kernel_rfl
theorem ty_k26 : tkind Try.prog 26 = some false := by kernel_rfl
theorem ty_z26 : tsz Try.prog 26 = some 1 := by kernel_rfl
theorem ty_e26 : telem Try.prog 26 = some 43 := by kernel_rfl
theorem ty_ae26 : apEs Try.prog 26 = 7 := by kernel_rfl
theorem ty_b26 : tbytes Try.prog 26 = some 24 := by kernel_rfl
theorem ty_x26 : tidx Try.prog 26 = some (none, 7) := by kernel_rfl
theorem ty_u26 : (Try.prog.underlying 26).isSome = true := by kernel_rfl
theorem ty_tz26 : tzero Try.prog 26 = some (Value.slice none 0 0) := by kernel_rfl
theorem ty_zs26 : (Value.slice none 0 0).cells.size = 1 := by kernel_rfl
theorem ty_zv26 : zeroV Try.prog 26 = .nils := by kernel_rfl
theorem ty_dz26 : dataZero Try.prog 26 = some (D.sl []) := by kernel_rfl
theorem ty_k27 : tkind Try.prog 27 = some false := by kernel_rfl
theorem ty_z27 : tsz Try.prog 27 = some 1 := by kernel_rfl
theorem ty_b27 : tbytes Try.prog 27 = some 8 := by kernel_rfl
theorem ty_u27 : (Try.prog.underlying 27).isSome = true := by kernel_rfl
theorem ty_tz27 : tzero Try.prog 27 = some (Value.nilFunc) := by kernel_rfl
theorem ty_zs27 : (Value.nilFunc).cells.size = 1 := by kernel_rfl
theorem ty_zv27 : zeroV Try.prog 27 = .d (D.raw .nilFunc) := by kernel_rfl
theorem ty_dz27 : dataZero Try.prog 27 = some (D.raw .nilFunc) := by kernel_rfl
theorem ty_k28 : tkind Try.prog 28 = some false := by kernel_rfl
theorem ty_z28 : tsz Try.prog 28 = some 1 := by kernel_rfl
theorem ty_b28 : tbytes Try.prog 28 = some 8 := by kernel_rfl
theorem ty_u28 : (Try.prog.underlying 28).isSome = true := by kernel_rfl
theorem ty_tz28 : tzero Try.prog 28 = some (Value.nilFunc) := by kernel_rfl
theorem ty_zs28 : (Value.nilFunc).cells.size = 1 := by kernel_rfl
theorem ty_zv28 : zeroV Try.prog 28 = .d (D.raw .nilFunc) := by kernel_rfl
theorem ty_dz28 : dataZero Try.prog 28 = some (D.raw .nilFunc) := by kernel_rfl
theorem ty_k29 : tkind Try.prog 29 = some false := by kernel_rfl
theorem ty_z29 : tsz Try.prog 29 = some 1 := by kernel_rfl
theorem ty_b29 : tbytes Try.prog 29 = some 8 := by kernel_rfl
theorem ty_u29 : (Try.prog.underlying 29).isSome = true := by kernel_rfl
theorem ty_tz29 : tzero Try.prog 29 = some (Value.nilFunc) := by kernel_rfl
theorem ty_zs29 : (Value.nilFunc).cells.size = 1 := by kernel_rfl
theorem ty_zv29 : zeroV Try.prog 29 = .d (D.raw .nilFunc) := by kernel_rfl
theorem ty_dz29 : dataZero Try.prog 29 = some (D.raw .nilFunc) := by kernel_rfl
theorem ty_k30 : tkind Try.prog 30 = some false := by kernel_rfl
theorem ty_z30 : tsz Try.prog 30 = some 1 := by kernel_rfl
theorem ty_b30 : tbytes Try.prog 30 = some 8 := by kernel_rfl
theorem ty_i30 : tintk Try.prog 30 = some .i64 := by kernel_rfl
theorem ty_u30 : (Try.prog.underlying 30).isSome = true := by kernel_rfl
theorem ty_tz30 : tzero Try.prog 30 = some (Value.int .i64 0) := by kernel_rfl
theorem ty_zs30 : (Value.int .i64 0).cells.size = 1 := by kernel_rfl
theorem ty_zv30 : zeroV Try.prog 30 = .d (D.int .i64 0) := by kernel_rfl
theorem ty_dz30 : dataZero Try.prog 30 = some (D.int .i64 0) := by kernel_rfl
theorem ty_k31 : tkind Try.prog 31 = some false := by kernel_rfl
theorem ty_z31 : tsz Try.prog 31 = some 1 := by kernel_rfl
theorem ty_b31 : tbytes Try.prog 31 = some 8 := by kernel_rfl
theorem ty_u31 : (Try.prog.underlying 31).isSome = true := by kernel_rfl
theorem ty_tz31 : tzero Try.prog 31 = some (Value.nilFunc) := by kernel_rfl
theorem ty_zs31 : (Value.nilFunc).cells.size = 1 := by kernel_rfl
theorem ty_zv31 : zeroV Try.prog 31 = .d (D.raw .nilFunc) := by kernel_rfl
theorem ty_dz31 : dataZero Try.prog 31 = some (D.raw .nilFunc) := by kernel_rfl
theorem ty_k32 : tkind Try.prog 32 = some false := by kernel_rfl
theorem ty_z32 : tsz Try.prog 32 = some 1 := by kernel_rfl
theorem ty_b32 : tbytes Try.prog 32 = some 8 := by kernel_rfl
theorem ty_u32 : (Try.prog.underlying 32).isSome = true := by kernel_rfl
theorem ty_tz32 : tzero Try.prog 32 = some (Value.nilFunc) := by kernel_rfl
theorem ty_zs32 : (Value.nilFunc).cells.size = 1 := by kernel_rfl
theorem ty_zv32 : zeroV Try.prog 32 = .d (D.raw .nilFunc) := by kernel_rfl
theorem ty_dz32 : dataZero Try.prog 32 = some (D.raw .nilFunc) := by kernel_rfl
theorem ty_k33 : tkind Try.prog 33 = some false := by kernel_rfl
theorem ty_z33 : tsz Try.prog 33 = some 1 := by kernel_rfl
theorem ty_b33 : tbytes Try.prog 33 = some 0 := by kernel_rfl
theorem ty_u33 : (Try.prog.underlying 33).isSome = true := by kernel_rfl
theorem ty_zv33 : zeroV Try.prog 33 = .undef := by kernel_rfl
theorem ty_k34 : tkind Try.prog 34 = some false := by kernel_rfl
theorem ty_z34 : tsz Try.prog 34 = some 1 := by kernel_rfl
theorem ty_b34 : tbytes Try.prog 34 = some 8 := by kernel_rfl
theorem ty_u34 : (Try.prog.underlying 34).isSome = true := by kernel_rfl
theorem ty_tz34 : tzero Try.prog 34 = some (Value.nilFunc) := by kernel_rfl
theorem ty_zs34 : (Value.nilFunc).cells.size = 1 := by kernel_rfl
theorem ty_zv34 : zeroV Try.prog 34 = .d (D.raw .nilFunc) := by kernel_rfl
theorem ty_dz34 : dataZero Try.prog 34 = some (D.raw .nilFunc) := by kernel_rfl
theorem ty_k35 : tkind Try.prog 35 = some false := by kernel_rfl
theorem ty_z35 : tsz Try.prog 35 = some 1 := by kernel_rfl
theorem ty_b35 : tbytes Try.prog 35 = some 8 := by kernel_rfl
theorem ty_u35 : (Try.prog.underlying 35).isSome = true := by kernel_rfl
theorem ty_tz35 : tzero Try.prog 35 = some (Value.nilFunc) := by kernel_rfl
theorem ty_zs35 : (Value.nilFunc).cells.size = 1 := by kernel_rfl
theorem ty_zv35 : zeroV Try.prog 35 = .d (D.raw .nilFunc) := by kernel_rfl
theorem ty_dz35 : dataZero Try.prog 35 = some (D.raw .nilFunc) := by kernel_rfl
theorem ty_k36 : tkind Try.prog 36 = some false := by kernel_rfl
theorem ty_z36 : tsz Try.prog 36 = some 1 := by kernel_rfl
theorem ty_b36 : tbytes Try.prog 36 = some 8 := by kernel_rfl
theorem ty_u36 : (Try.prog.underlying 36).isSome = true := by kernel_rfl
theorem ty_tz36 : tzero Try.prog 36 = some (Value.nilFunc) := by kernel_rfl
theorem ty_zs36 : (Value.nilFunc).cells.size = 1 := by kernel_rfl
theorem ty_zv36 : zeroV Try.prog 36 = .d (D.raw .nilFunc) := by kernel_rfl
theorem ty_dz36 : dataZero Try.prog 36 = some (D.raw .nilFunc) := by kernel_rfl
theorem ty_k37 : tkind Try.prog 37 = some false := by kernel_rfl
theorem ty_z37 : tsz Try.prog 37 = some 1 := by kernel_rfl
theorem ty_b37 : tbytes Try.prog 37 = some 8 := by kernel_rfl
theorem ty_u37 : (Try.prog.underlying 37).isSome = true := by kernel_rfl
theorem ty_tz37 : tzero Try.prog 37 = some (Value.nilFunc) := by kernel_rfl
theorem ty_zs37 : (Value.nilFunc).cells.size = 1 := by kernel_rfl
theorem ty_zv37 : zeroV Try.prog 37 = .d (D.raw .nilFunc) := by kernel_rfl
theorem ty_dz37 : dataZero Try.prog 37 = some (D.raw .nilFunc) := by kernel_rfl
theorem ty_k38 : tkind Try.prog 38 = some false := by kernel_rfl
theorem ty_z38 : tsz Try.prog 38 = some 1 := by kernel_rfl
theorem ty_b38 : tbytes Try.prog 38 = some 8 := by kernel_rfl
theorem ty_i38 : tintk Try.prog 38 = some .i64 := by kernel_rfl
theorem ty_u38 : (Try.prog.underlying 38).isSome = true := by kernel_rfl
theorem ty_tz38 : tzero Try.prog 38 = some (Value.int .i64 0) := by kernel_rfl
theorem ty_zs38 : (Value.int .i64 0).cells.size = 1 := by kernel_rfl
theorem ty_zv38 : zeroV Try.prog 38 = .d (D.int .i64 0) := by kernel_rfl
theorem ty_dz38 : dataZero Try.prog 38 = some (D.int .i64 0) := by kernel_rfl
theorem ty_k39 : tkind Try.prog 39 = some true := by kernel_rfl
theorem ty_z39 : tsz Try.prog 39 = some 2 := by kernel_rfl
theorem ty_b39 : tbytes Try.prog 39 = some 16 := by kernel_rfl
theorem ty_u39 : (Try.prog.underlying 39).isSome = true := by kernel_rfl
theorem ty_c39 : tcmp Try.prog 39 = some [0, 0] := by kernel_rfl
theorem ty_f39_0 : tfld Try.prog 39 0 = some (0, 1, false) := by kernel_rfl
theorem ty_f39_1 : tfld Try.prog 39 1 = some (1, 1, false) := by kernel_rfl
theorem ty_p39 : tplaces Try.prog 39 = some [(0, 1), (1, 1)] := by kernel_rfl
theorem ty_za39 : tzeroA Try.prog 39 = some [.d (D.int .i64 0), .d (D.int .i64 0)] := by kernel_rfl
theorem ty_tz39 : tzero Try.prog 39 = some (Value.agg #[Value.int .i64 0, Value.int .i64 0]) := by kernel_rfl
theorem ty_zs39 : (Value.agg #[Value.int .i64 0, Value.int .i64 0]).cells.size = 2 := by kernel_rfl
theorem ty_zv39 : zeroV Try.prog 39 = .d (D.agg [D.int .i64 0, D.int .i64 0]) := by kernel_rfl
theorem ty_dz39 : dataZero Try.prog 39 = some (D.agg [D.int .i64 0, D.int .i64 0]) := by kernel_rfl
theorem ty_k40 : tkind Try.prog 40 = some true := by kernel_rfl
theorem ty_z40 : tsz Try.prog 40 = some 2 := by kernel_rfl
theorem ty_b40 : tbytes Try.prog 40 = some 16 := by kernel_rfl
theorem ty_u40 : (Try.prog.underlying 40).isSome = true := by kernel_rfl
theorem ty_c40 : tcmp Try.prog 40 = some [0, 0] := by kernel_rfl
theorem ty_f40_0 : tfld Try.prog 40 0 = some (0, 1, false) := by kernel_rfl
theorem ty_f40_1 : tfld Try.prog 40 1 = some (1, 1, false) := by kernel_rfl
theorem ty_p40 : tplaces Try.prog 40 = some [(0, 1), (1, 1)] := by kernel_rfl
theorem ty_za40 : tzeroA Try.prog 40 = some [.d (D.int .i64 0), .d (D.int .i64 0)] := by kernel_rfl
theorem ty_tz40 : tzero Try.prog 40 = some (Value.agg #[Value.int .i64 0, Value.int .i64 0]) := by kernel_rfl
theorem ty_zs40 : (Value.agg #[Value.int .i64 0, Value.int .i64 0]).cells.size = 2 := by kernel_rfl
theorem ty_zv40 : zeroV Try.prog 40 = .d (D.agg [D.int .i64 0, D.int .i64 0]) := by kernel_rfl
theorem ty_dz40 : dataZero Try.prog 40 = some (D.agg [D.int .i64 0, D.int .i64 0]) := by kernel_rfl
theorem ty_k41 : tkind Try.prog 41 = some false := by kernel_rfl
theorem ty_z41 : tsz Try.prog 41 = some 1 := by kernel_rfl
theorem ty_e41 : telem Try.prog 41 = some 9 := by kernel_rfl
theorem ty_ae41 : apEs Try.prog 41 = 1 := by kernel_rfl
theorem ty_b41 : tbytes Try.prog 41 = some 24 := by kernel_rfl
theorem ty_x41 : tidx Try.prog 41 = some (none, 1) := by kernel_rfl
theorem ty_u41 : (Try.prog.underlying 41).isSome = true := by kernel_rfl
theorem ty_tz41 : tzero Try.prog 41 = some (Value.slice none 0 0) := by kernel_rfl
theorem ty_zs41 : (Value.slice none 0 0).cells.size = 1 := by kernel_rfl
theorem ty_zv41 : zeroV Try.prog 41 = .nils := by kernel_rfl
theorem ty_dz41 : dataZero Try.prog 41 = some (D.sl []) := by kernel_rfl
theorem ty_k42 : tkind Try.prog 42 = some true := by kernel_rfl
theorem ty_z42 : tsz Try.prog 42 = some 7 := by kernel_rfl
theorem ty_b42 : tbytes Try.prog 42 = some 72 := by kernel_rfl
theorem ty_u42 : (Try.prog.underlying 42).isSome = true := by kernel_rfl
theorem ty_f42_0 : tfld Try.prog 42 0 = some (0, 1, false) := by kernel_rfl
theorem ty_f42_1 : tfld Try.prog 42 1 = some (1, 1, false) := by kernel_rfl
theorem ty_f42_2 : tfld Try.prog 42 2 = some (2, 1, false) := by kernel_rfl
theorem ty_f42_3 : tfld Try.prog 42 3 = some (3, 2, true) := by kernel_rfl
theorem ty_f42_4 : tfld Try.prog 42 4 = some (5, 1, false) := by kernel_rfl
theorem ty_f42_5 : tfld Try.prog 42 5 = some (6, 1, false) := by kernel_rfl
theorem ty_p42 : tplaces Try.prog 42 = some [(0, 1), (1, 1), (2, 1), (3, 2), (5, 1), (6, 1)] := by kernel_rfl
theorem ty_za42 : tzeroA Try.prog 42 = some [.d (D.int .i64 0), .d (D.int .i64 0), .d (D.int .i64 0), .d (D.int .i64 0), .d (D.int .i64 0), .nils, .d (D.bool false)] := by kernel_rfl
theorem ty_tz42 : tzero Try.prog 42 = some (Value.agg #[Value.int .i64 0, Value.int .i64 0, Value.int .i64 0, Value.int .i64 0, Value.int .i64 0, Value.slice none 0 0, Value.bool false]) := by kernel_rfl
theorem ty_zs42 : (Value.agg #[Value.int .i64 0, Value.int .i64 0, Value.int .i64 0, Value.int .i64 0, Value.int .i64 0, Value.slice none 0 0, Value.bool false]).cells.size = 7 := by kernel_rfl
theorem ty_zv42 : zeroV Try.prog 42 = .agg [.d (D.int .i64 0), .d (D.int .i64 0), .d (D.int .i64 0), .d (D.int .i64 0), .d (D.int .i64 0), .nils, .d (D.bool false)] := by kernel_rfl
theorem ty_dz42 : dataZero Try.prog 42 = some (D.agg [D.int .i64 0, D.int .i64 0, D.int .i64 0, D.int .i64 0, D.int .i64 0, D.sl [], D.bool false]) := by kernel_rfl
theorem ty_k43 : tkind Try.prog 43 = some true := by kernel_rfl
theorem ty_z43 : tsz Try.prog 43 = some 7 := by kernel_rfl
theorem ty_b43 : tbytes Try.prog 43 = some 72 := by kernel_rfl
theorem ty_u43 : (Try.prog.underlying 43).isSome = true := by kernel_rfl
theorem ty_f43_0 : tfld Try.prog 43 0 = some (0, 1, false) := by kernel_rfl
theorem ty_f43_1 : tfld Try.prog 43 1 = some (1, 1, false) := by kernel_rfl
theorem ty_f43_2 : tfld Try.prog 43 2 = some (2, 1, false) := by kernel_rfl
theorem ty_f43_3 : tfld Try.prog 43 3 = some (3, 2, true) := by kernel_rfl
theorem ty_f43_4 : tfld Try.prog 43 4 = some (5, 1, false) := by kernel_rfl
theorem ty_f43_5 : tfld Try.prog 43 5 = some (6, 1, false) := by kernel_rfl
theorem ty_p43 : tplaces Try.prog 43 = some [(0, 1), (1, 1), (2, 1), (3, 2), (5, 1), (6, 1)] := by kernel_rfl
theorem ty_za43 : tzeroA Try.prog 43 = some [.d (D.int .i64 0), .d (D.int .i64 0), .d (D.int .i64 0), .d (D.int .i64 0), .d (D.int .i64 0), .nils, .d (D.bool false)] := by kernel_rfl
theorem ty_tz43 : tzero Try.prog 43 = some (Value.agg #[Value.int .i64 0, Value.int .i64 0, Value.int .i64 0, Value.int .i64 0, Value.int .i64 0, Value.slice none 0 0, Value.bool false]) := by kernel_rfl
theorem ty_zs43 : (Value.agg #[Value.int .i64 0, Value.int .i64 0, Value.int .i64 0, Value.int .i64 0, Value.int .i64 0, Value.slice none 0 0, Value.bool false]).cells.size = 7 := by kernel_rfl
theorem ty_zv43 : zeroV Try.prog 43 = .agg [.d (D.int .i64 0), .d (D.int .i64 0), .d (D.int .i64 0), .d (D.int .i64 0), .d (D.int .i64 0), .nils, .d (D.bool false)] := by kernel_rfl
theorem ty_dz43 : dataZero Try.prog 43 = some (D.agg [D.int .i64 0, D.int .i64 0, D.int .i64 0, D.int .i64 0, D.int .i64 0, D.sl [], D.bool false]) := by kernel_rfl
theorem ty_k44 : tkind Try.prog 44 = some false := by kernel_rfl
theorem ty_z44 : tsz Try.prog 44 = some 1 := by kernel_rfl
theorem ty_b44 : tbytes Try.prog 44 = some 8 := by kernel_rfl
theorem ty_u44 : (Try.prog.underlying 44).isSome = true := by kernel_rfl
theorem ty_tz44 : tzero Try.prog 44 = some (Value.nilFunc) := by kernel_rfl
theorem ty_zs44 : (Value.nilFunc).cells.size = 1 := by kernel_rfl
theorem ty_zv44 : zeroV Try.prog 44 = .d (D.raw .nilFunc) := by kernel_rfl
theorem ty_dz44 : dataZero Try.prog 44 = some (D.raw .nilFunc) := by kernel_rfl
theorem ty_k45 : tkind Try.prog 45 = some true := by kernel_rfl
theorem ty_z45 : tsz Try.prog 45 = some 2 := by kernel_rfl
theorem ty_b45 : tbytes Try.prog 45 = some 16 := by kernel_rfl
theorem ty_u45 : (Try.prog.underlying 45).isSome = true := by kernel_rfl
theorem ty_c45 : tcmp Try.prog 45 = some [0, 0] := by kernel_rfl
theorem ty_f45_0 : tfld Try.prog 45 0 = some (0, 1, false) := by kernel_rfl
theorem ty_f45_1 : tfld Try.prog 45 1 = some (1, 1, false) := by kernel_rfl
theorem ty_p45 : tplaces Try.prog 45 = some [(0, 1), (1, 1)] := by kernel_rfl
theorem ty_za45 : tzeroA Try.prog 45 = some [.d (D.int .i64 0), .d (D.int .i64 0)] := by kernel_rfl
theorem ty_tz45 : tzero Try.prog 45 = some (Value.agg #[Value.int .i64 0, Value.int .i64 0]) := by kernel_rfl
theorem ty_zs45 : (Value.agg #[Value.int .i64 0, Value.int .i64 0]).cells.size = 2 := by kernel_rfl
theorem ty_zv45 : zeroV Try.prog 45 = .d (D.agg [D.int .i64 0, D.int .i64 0]) := by kernel_rfl
theorem ty_dz45 : dataZero Try.prog 45 = some (D.agg [D.int .i64 0, D.int .i64 0]) := by kernel_rfl
theorem ty_k46 : tkind Try.prog 46 = some true := by kernel_rfl
theorem ty_z46 : tsz Try.prog 46 = some 2 := by kernel_rfl
theorem ty_b46 : tbytes Try.prog 46 = some 16 := by kernel_rfl
theorem ty_u46 : (Try.prog.underlying 46).isSome = true := by kernel_rfl
theorem ty_c46 : tcmp Try.prog 46 = some [0, 0] := by kernel_rfl
theorem ty_f46_0 : tfld Try.prog 46 0 = some (0, 1, false) := by kernel_rfl
theorem ty_f46_1 : tfld Try.prog 46 1 = some (1, 1, false) := by kernel_rfl
theorem ty_p46 : tplaces Try.prog 46 = some [(0, 1), (1, 1)] := by kernel_rfl
theorem ty_za46 : tzeroA Try.prog 46 = some [.d (D.int .i64 0), .d (D.int .i64 0)] := by kernel_rfl
theorem ty_tz46 : tzero Try.prog 46 = some (Value.agg #[Value.int .i64 0, Value.int .i64 0]) := by kernel_rfl
theorem ty_zs46 : (Value.agg #[Value.int .i64 0, Value.int .i64 0]).cells.size = 2 := by kernel_rfl
theorem ty_zv46 : zeroV Try.prog 46 = .d (D.agg [D.int .i64 0, D.int .i64 0]) := by kernel_rfl
theorem ty_dz46 : dataZero Try.prog 46 = some (D.agg [D.int .i64 0, D.int .i64 0]) := by kernel_rfl
theorem ty_k47 : tkind Try.prog 47 = some true := by kernel_rfl
theorem ty_z47 : tsz Try.prog 47 = some 6 := by kernel_rfl
theorem ty_b47 : tbytes Try.prog 47 = some 72 := by kernel_rfl
theorem ty_u47 : (Try.prog.underlying 47).isSome = true := by kernel_rfl
theorem ty_f47_0 : tfld Try.prog 47 0 = some (0, 1, false) := by kernel_rfl
theorem ty_f47_1 : tfld Try.prog 47 1 = some (1, 1, false) := by kernel_rfl
theorem ty_f47_2 : tfld Try.prog 47 2 = some (2, 1, false) := by kernel_rfl
theorem ty_f47_3 : tfld Try.prog 47 3 = some (3, 1, false) := by kernel_rfl
theorem ty_f47_4 : tfld Try.prog 47 4 = some (4, 1, false) := by kernel_rfl
theorem ty_f47_5 : tfld Try.prog 47 5 = some (5, 1, false) := by kernel_rfl
theorem ty_p47 : tplaces Try.prog 47 = some [(0, 1), (1, 1), (2, 1), (3, 1), (4, 1), (5, 1)] := by kernel_rfl
theorem ty_za47 : tzeroA Try.prog 47 = some [.d (D.int .i64 0), .d (D.int .i64 0), .d (D.str []), .d (D.int .i64 0), .d (D.int .i64 0), .nils] := by kernel_rfl
theorem ty_tz47 : tzero Try.prog 47 = some (Value.agg #[Value.int .i64 0, Value.int .i64 0, Value.string ⟨#[]⟩, Value.int .i64 0, Value.int .i64 0, Value.slice none 0 0]) := by kernel_rfl
theorem ty_zs47 : (Value.agg #[Value.int .i64 0, Value.int .i64 0, Value.string ⟨#[]⟩, Value.int .i64 0, Value.int .i64 0, Value.slice none 0 0]).cells.size = 6 := by kernel_rfl
theorem ty_zv47 : zeroV Try.prog 47 = .agg [.d (D.int .i64 0), .d (D.int .i64 0), .d (D.str []), .d (D.int .i64 0), .d (D.int .i64 0), .nils] := by kernel_rfl
theorem ty_dz47 : dataZero Try.prog 47 = some (D.agg [D.int .i64 0, D.int .i64 0, D.str [], D.int .i64 0, D.int .i64 0, D.sl []]) := by kernel_rfl
theorem ty_k48 : tkind Try.prog 48 = some true := by kernel_rfl
theorem ty_z48 : tsz Try.prog 48 = some 6 := by kernel_rfl
theorem ty_b48 : tbytes Try.prog 48 = some 72 := by kernel_rfl
theorem ty_u48 : (Try.prog.underlying 48).isSome = true := by kernel_rfl
theorem ty_f48_0 : tfld Try.prog 48 0 = some (0, 1, false) := by kernel_rfl
theorem ty_f48_1 : tfld Try.prog 48 1 = some (1, 1, false) := by kernel_rfl
theorem ty_f48_2 : tfld Try.prog 48 2 = some (2, 1, false) := by kernel_rfl
theorem ty_f48_3 : tfld Try.prog 48 3 = some (3, 1, false) := by kernel_rfl
theorem ty_f48_4 : tfld Try.prog 48 4 = some (4, 1, false) := by kernel_rfl
theorem ty_f48_5 : tfld Try.prog 48 5 = some (5, 1, false) := by kernel_rfl
theorem ty_p48 : tplaces Try.prog 48 = some [(0, 1), (1, 1), (2, 1), (3, 1), (4, 1), (5, 1)] := by kernel_rfl
theorem ty_za48 : tzeroA Try.prog 48 = some [.d (D.int .i64 0), .d (D.int .i64 0), .d (D.str []), .d (D.int .i64 0), .d (D.int .i64 0), .nils] := by kernel_rfl
theorem ty_tz48 : tzero Try.prog 48 = some (Value.agg #[Value.int .i64 0, Value.int .i64 0, Value.string ⟨#[]⟩, Value.int .i64 0, Value.int .i64 0, Value.slice none 0 0]) := by kernel_rfl
theorem ty_zs48 : (Value.agg #[Value.int .i64 0, Value.int .i64 0, Value.string ⟨#[]⟩, Value.int .i64 0, Value.int .i64 0, Value.slice none 0 0]).cells.size = 6 := by kernel_rfl
theorem ty_zv48 : zeroV Try.prog 48 = .agg [.d (D.int .i64 0), .d (D.int .i64 0), .d (D.str []), .d (D.int .i64 0), .d (D.int .i64 0), .nils] := by kernel_rfl
theorem ty_dz48 : dataZero Try.prog 48 = some (D.agg [D.int .i64 0, D.int .i64 0, D.str [], D.int .i64 0, D.int .i64 0, D.sl []]) := by kernel_rfl
theorem ty_k49 : tkind Try.prog 49 = some true := by kernel_rfl
theorem ty_z49 : tsz Try.prog 49 = some 2 := by kernel_rfl
theorem ty_b49 : tbytes Try.prog 49 = some 16 := by kernel_rfl
theorem ty_u49 : (Try.prog.underlying 49).isSome = true := by kernel_rfl
theorem ty_c49 : tcmp Try.prog 49 = some [0, 0] := by kernel_rfl
theorem ty_f49_0 : tfld Try.prog 49 0 = some (0, 1, false) := by kernel_rfl
theorem ty_f49_1 : tfld Try.prog 49 1 = some (1, 1, false) := by kernel_rfl
theorem ty_p49 : tplaces Try.prog 49 = some [(0, 1), (1, 1)] := by kernel_rfl
theorem ty_za49 : tzeroA Try.prog 49 = some [.d (D.int .i64 0), .d (D.int .i64 0)] := by kernel_rfl
theorem ty_tz49 : tzero Try.prog 49 = some (Value.agg #[Value.int .i64 0, Value.int .i64 0]) := by kernel_rfl
theorem ty_zs49 : (Value.agg #[Value.int .i64 0, Value.int .i64 0]).cells.size = 2 := by kernel_rfl
theorem ty_zv49 : zeroV Try.prog 49 = .d (D.agg [D.int .i64 0, D.int .i64 0]) := by kernel_rfl
theorem ty_dz49 : dataZero Try.prog 49 = some (D.agg [D.int .i64 0, D.int .i64 0]) := by kernel_rfl
theorem ty_k50 : tkind Try.prog 50 = some true := by kernel_rfl
theorem ty_z50 : tsz Try.prog 50 = some 2 := by kernel_rfl
theorem ty_b50 : tbytes Try.prog 50 = some 16 := by kernel_rfl
theorem ty_u50 : (Try.prog.underlying 50).isSome = true := by kernel_rfl
theorem ty_c50 : tcmp Try.prog 50 = some [0, 0] := by kernel_rfl
theorem ty_f50_0 : tfld Try.prog 50 0 = some (0, 1, false) := by kernel_rfl
theorem ty_f50_1 : tfld Try.prog 50 1 = some (1, 1, false) := by kernel_rfl
theorem ty_p50 : tplaces Try.prog 50 = some [(0, 1), (1, 1)] := by kernel_rfl
theorem ty_za50 : tzeroA Try.prog 50 = some [.d (D.int .i64 0), .d (D.int .i64 0)] := by kernel_rfl
theorem ty_tz50 : tzero Try.prog 50 = some (Value.agg #[Value.int .i64 0, Value.int .i64 0]) := by kernel_rfl
theorem ty_zs50 : (Value.agg #[Value.int .i64 0, Value.int .i64 0]).cells.size = 2 := by kernel_rfl
theorem ty_zv50 : zeroV Try.prog 50 = .d (D.agg [D.int .i64 0, D.int .i64 0]) := by kernel_rfl
theorem ty_dz50 : dataZero Try.prog 50 = some (D.agg [D.int .i64 0, D.int .i64 0]) := by kernel_rfl
theorem ty_k51 : tkind Try.prog 51 = some true := by kernel_rfl
theorem ty_z51 : tsz Try.prog 51 = some 10 := by kernel_rfl
theorem ty_b51 : tbytes Try.prog 51 = some 104 := by kernel_rfl
theorem ty_u51 : (Try.prog.underlying 51).isSome = true := by kernel_rfl
theorem ty_f51_0 : tfld Try.prog 51 0 = some (0, 2, true) := by kernel_rfl
theorem ty_f51_1 : tfld Try.prog 51 1 = some (2, 6, true) := by kernel_rfl
theorem ty_f51_2 : tfld Try.prog 51 2 = some (8, 2, true) := by kernel_rfl
theorem ty_p51 : tplaces Try.prog 51 = some [(0, 2), (2, 6), (8, 2)] := by kernel_rfl
theorem ty_za51 : tzeroA Try.prog 51 = some [.d (D.int .i64 0), .d (D.int .i64 0), .d (D.int .i64 0), .d (D.int .i64 0), .d (D.str []), .d (D.int .i64 0), .d (D.int .i64 0), .nils, .d (D.int .i64 0), .d (D.int .i64 0)] := by kernel_rfl
theorem ty_tz51 : tzero Try.prog 51 = some (Value.agg #[Value.int .i64 0, Value.int .i64 0, Value.int .i64 0, Value.int .i64 0, Value.string ⟨#[]⟩, Value.int .i64 0, Value.int .i64 0, Value.slice none 0 0, Value.int .i64 0, Value.int .i64 0]) := by kernel_rfl
theorem ty_zs51 : (Value.agg #[Value.int .i64 0, Value.int .i64 0, Value.int .i64 0, Value.int .i64 0, Value.string ⟨#[]⟩, Value.int .i64 0, Value.int .i64 0, Value.slice none 0 0, Value.int .i64 0, Value.int .i64 0]).cells.size = 10 := by kernel_rfl
theorem ty_zv51 : zeroV Try.prog 51 = .agg [.d (D.int .i64 0), .d (D.int .i64 0), .d (D.int .i64 0), .d (D.int .i64 0), .d (D.str []), .d (D.int .i64 0), .d (D.int .i64 0), .nils, .d (D.int .i64 0), .d (D.int .i64 0)] := by kernel_rfl
theorem ty_dz51 : dataZero Try.prog 51 = some (D.agg [D.int .i64 0, D.int .i64 0, D.int .i64 0, D.int .i64 0, D.str [], D.int .i64 0, D.int .i64 0, D.sl [], D.int .i64 0, D.int .i64 0]) := by kernel_rfl
theorem ty_k52 : tkind Try.prog 52 = some true := by kernel_rfl
theorem ty_z52 : tsz Try.prog 52 = some 10 := by kernel_rfl
theorem ty_b52 : tbytes Try.prog 52 = some 104 := by kernel_rfl
theorem ty_u52 : (Try.prog.underlying 52).isSome = true := by kernel_rfl
theorem ty_f52_0 : tfld Try.prog 52 0 = some (0, 2, true) := by kernel_rfl
theorem ty_f52_1 : tfld Try.prog 52 1 = some (2, 6, true) := by kernel_rfl
theorem ty_f52_2 : tfld Try.prog 52 2 = some (8, 2, true) := by kernel_rfl
theorem ty_p52 : tplaces Try.prog 52 = some [(0, 2), (2, 6), (8, 2)] := by kernel_rfl
theorem ty_za52 : tzeroA Try.prog 52 = some [.d (D.int .i64 0), .d (D.int .i64 0), .d (D.int .i64 0), .d (D.int .i64 0), .d (D.str []), .d (D.int .i64 0), .d (D.int .i64 0), .nils, .d (D.int .i64 0), .d (D.int .i64 0)] := by kernel_rfl
theorem ty_tz52 : tzero Try.prog 52 = some (Value.agg #[Value.int .i64 0, Value.int .i64 0, Value.int .i64 0, Value.int .i64 0, Value.string ⟨#[]⟩, Value.int .i64 0, Value.int .i64 0, Value.slice none 0 0, Value.int .i64 0, Value.int .i64 0]) := by kernel_rfl
theorem ty_zs52 : (Value.agg #[Value.int .i64 0, Value.int .i64 0, Value.int .i64 0, Value.int .i64 0, Value.string ⟨#[]⟩, Value.int .i64 0, Value.int .i64 0, Value.slice none 0 0, Value.int .i64 0, Value.int .i64 0]).cells.size = 10 := by kernel_rfl
theorem ty_zv52 : zeroV Try.prog 52 = .agg [.d (D.int .i64 0), .d (D.int .i64 0), .d (D.int .i64 0), .d (D.int .i64 0), .d (D.str []), .d (D.int .i64 0), .d (D.int .i64 0), .nils, .d (D.int .i64 0), .d (D.int .i64 0)] := by kernel_rfl
theorem ty_dz52 : dataZero Try.prog 52 = some (D.agg [D.int .i64 0, D.int .i64 0, D.int .i64 0, D.int .i64 0, D.str [], D.int .i64 0, D.int .i64 0, D.sl [], D.int .i64 0, D.int .i64 0]) := by kernel_rfl
theorem ty_k53 : tkind Try.prog 53 = some false := by kernel_rfl
theorem ty_z53 : tsz Try.prog 53 = some 1 := by kernel_rfl
theorem ty_b53 : tbytes Try.prog 53 = some 8 := by kernel_rfl
theorem ty_u53 : (Try.prog.underlying 53).isSome = true := by kernel_rfl
theorem ty_tz53 : tzero Try.prog 53 = some (Value.nilFunc) := by kernel_rfl
theorem ty_zs53 : (Value.nilFunc).cells.size = 1 := by kernel_rfl
theorem ty_zv53 : zeroV Try.prog 53 = .d (D.raw .nilFunc) := by kernel_rfl
theorem ty_dz53 : dataZero Try.prog 53 = some (D.raw .nilFunc) := by kernel_rfl
theorem ty_k54 : tkind Try.prog 54 = some false := by kernel_rfl
theorem ty_z54 : tsz Try.prog 54 = some 1 := by kernel_rfl
theorem ty_b54 : tbytes Try.prog 54 = some 8 := by kernel_rfl
theorem ty_u54 : (Try.prog.underlying 54).isSome = true := by kernel_rfl
theorem ty_tz54 : tzero Try.prog 54 = some (Value.nilFunc) := by kernel_rfl
theorem ty_zs54 : (Value.nilFunc).cells.size = 1 := by kernel_rfl
theorem ty_zv54 : zeroV Try.prog 54 = .d (D.raw .nilFunc) := by kernel_rfl
theorem ty_dz54 : dataZero Try.prog 54 = some (D.raw .nilFunc) := by kernel_rfl
theorem ty_k55 : tkind Try.prog 55 = some false := by kernel_rfl
theorem ty_z55 : tsz Try.prog 55 = some 1 := by kernel_rfl
theorem ty_b55 : tbytes Try.prog 55 = some 8 := by kernel_rfl
theorem ty_u55 : (Try.prog.underlying 55).isSome = true := by kernel_rfl
theorem ty_tz55 : tzero Try.prog 55 = some (Value.nilFunc) := by kernel_rfl
theorem ty_zs55 : (Value.nilFunc).cells.size = 1 := by kernel_rfl
theorem ty_zv55 : zeroV Try.prog 55 = .d (D.raw .nilFunc) := by kernel_rfl
theorem ty_dz55 : dataZero Try.prog 55 = some (D.raw .nilFunc) := by kernel_rfl
theorem ty_k56 : tkind Try.prog 56 = some false := by kernel_rfl
theorem ty_z56 : tsz Try.prog 56 = some 1 := by kernel_rfl
theorem ty_b56 : tbytes Try.prog 56 = some 8 := by kernel_rfl
theorem ty_u56 : (Try.prog.underlying 56).isSome = true := by kernel_rfl
theorem ty_tz56 : tzero Try.prog 56 = some (Value.nilFunc) := by kernel_rfl
theorem ty_zs56 : (Value.nilFunc).cells.size = 1 := by kernel_rfl
theorem ty_zv56 : zeroV Try.prog 56 = .d (D.raw .nilFunc) := by kernel_rfl
theorem ty_dz56 : dataZero Try.prog 56 = some (D.raw .nilFunc) := by kernel_rfl
theorem ty_k57 : tkind Try.prog 57 = some false := by kernel_rfl
theorem ty_z57 : tsz Try.prog 57 = some 1 := by kernel_rfl
theorem ty_m57 : tmap Try.prog 57 = some (some .i64, 3) := by kernel_rfl
theorem ty_b57 : tbytes Try.prog 57 = some 8 := by kernel_rfl
theorem ty_u57 : (Try.prog.underlying 57).isSome = true := by kernel_rfl
theorem ty_tz57 : tzero Try.prog 57 = some (Value.map none) := by kernel_rfl
theorem ty_zs57 : (Value.map none).cells.size = 1 := by kernel_rfl
theorem ty_zv57 : zeroV Try.prog 57 = .d (D.raw (.map none)) := by kernel_rfl
theorem ty_dz57 : dataZero Try.prog 57 = some (D.raw (.map none)) := by kernel_rfl
theorem ty_k58 : tkind Try.prog 58 = some false := by kernel_rfl
theorem ty_z58 : tsz Try.prog 58 = some 1 := by kernel_rfl
theorem ty_b58 : tbytes Try.prog 58 = some 0 := by kernel_rfl
theorem ty_u58 : (Try.prog.underlying 58).isSome = true := by kernel_rfl
theorem ty_zv58 : zeroV Try.prog 58 = .undef := by kernel_rfl
theorem ty_k59 : tkind Try.prog 59 = some false := by kernel_rfl
theorem ty_z59 : tsz Try.prog 59 = some 1 := by kernel_rfl
theorem ty_b59 : tbytes Try.prog 59 = some 8 := by kernel_rfl
theorem ty_u59 : (Try.prog.underlying 59).isSome = true := by kernel_rfl
theorem ty_tz59 : tzero Try.prog 59 = some (Value.nilFunc) := by kernel_rfl
theorem ty_zs59 : (Value.nilFunc).cells.size = 1 := by kernel_rfl
theorem ty_zv59 : zeroV Try.prog 59 = .d (D.raw .nilFunc) := by kernel_rfl
theorem ty_dz59 : dataZero Try.prog 59 = some (D.raw .nilFunc) := by kernel_rfl
theorem ty_k60 : tkind Try.prog 60 = some false := by kernel_rfl
theorem ty_z60 : tsz Try.prog 60 = some 1 := by kernel_rfl
theorem ty_b60 : tbytes Try.prog 60 = some 8 := by kernel_rfl
theorem ty_u60 : (Try.prog.underlying 60).isSome = true := by kernel_rfl
theorem ty_tz60 : tzero Try.prog 60 = some (Value.nilFunc) := by kernel_rfl
theorem ty_zs60 : (Value.nilFunc).cells.size = 1 := by kernel_rfl
theorem ty_zv60 : zeroV Try.prog 60 = .d (D.raw .nilFunc) := by kernel_rfl
theorem ty_dz60 : dataZero Try.prog 60 = some (D.raw .nilFunc) := by kernel_rfl
theorem ty_k61 : tkind Try.prog 61 = some false := by kernel_rfl
theorem ty_z61 : tsz Try.prog 61 = some 1 := by kernel_rfl
theorem ty_b61 : tbytes Try.prog 61 = some 8 := by kernel_rfl
theorem ty_u61 : (Try.prog.underlying 61).isSome = true := by kernel_rfl
theorem ty_tz61 : tzero Try.prog 61 = some (Value.nilFunc) := by kernel_rfl
theorem ty_zs61 : (Value.nilFunc).cells.size = 1 := by kernel_rfl
theorem ty_zv61 : zeroV Try.prog 61 = .d (D.raw .nilFunc) := by kernel_rfl
theorem ty_dz61 : dataZero Try.prog 61 = some (D.raw .nilFunc) := by kernel_rfl
theorem ty_k62 : tkind Try.prog 62 = some false := by kernel_rfl
theorem ty_z62 : tsz Try.prog 62 = some 1 := by kernel_rfl
theorem ty_b62 : tbytes Try.prog 62 = some 8 := by kernel_rfl
theorem ty_u62 : (Try.prog.underlying 62).isSome = true := by kernel_rfl
theorem ty_tz62 : tzero Try.prog 62 = some (Value.nilFunc) := by kernel_rfl
theorem ty_zs62 : (Value.nilFunc).cells.size = 1 := by kernel_rfl
theorem ty_zv62 : zeroV Try.prog 62 = .d (D.raw .nilFunc) := by kernel_rfl
theorem ty_dz62 : dataZero Try.prog 62 = some (D.raw .nilFunc) := by kernel_rfl
theorem ty_k63 : tkind Try.prog 63 = some false := by kernel_rfl
theorem ty_z63 : tsz Try.prog 63 = some 1 := by kernel_rfl
theorem ty_b63 : tbytes Try.prog 63 = some 8 := by kernel_rfl
theorem ty_u63 : (Try.prog.underlying 63).isSome = true := by kernel_rfl
theorem ty_tz63 : tzero Try.prog 63 = some (Value.nilFunc) := by kernel_rfl
theorem ty_zs63 : (Value.nilFunc).cells.size = 1 := by kernel_rfl
theorem ty_zv63 : zeroV Try.prog 63 = .d (D.raw .nilFunc) := by kernel_rfl
theorem ty_dz63 : dataZero Try.prog 63 = some (D.raw .nilFunc) := by kernel_rfl
theorem ty_k64 : tkind Try.prog 64 = some false := by kernel_rfl
theorem ty_z64 : tsz Try.prog 64 = some 1 := by kernel_rfl
theorem ty_b64 : tbytes Try.prog 64 = some 8 := by kernel_rfl
theorem ty_u64 : (Try.prog.underlying 64).isSome = true := by kernel_rfl
theorem ty_tz64 : tzero Try.prog 64 = some (Value.nilFunc) := by kernel_rfl
theorem ty_zs64 : (Value.nilFunc).cells.size = 1 := by kernel_rfl
theorem ty_zv64 : zeroV Try.prog 64 = .d (D.raw .nilFunc) := by kernel_rfl
theorem ty_dz64 : dataZero Try.prog 64 = some (D.raw .nilFunc) := by kernel_rfl
theorem ty_k65 : tkind Try.prog 65 = some false := by kernel_rfl
theorem ty_z65 : tsz Try.prog 65 = some 1 := by kernel_rfl
theorem ty_b65 : tbytes Try.prog 65 = some 8 := by kernel_rfl
theorem ty_u65 : (Try.prog.underlying 65).isSome = true := by kernel_rfl
theorem ty_tz65 : tzero Try.prog 65 = some (Value.nilFunc) := by kernel_rfl
theorem ty_zs65 : (Value.nilFunc).cells.size = 1 := by kernel_rfl
theorem ty_zv65 : zeroV Try.prog 65 = .d (D.raw .nilFunc) := by kernel_rfl
theorem ty_dz65 : dataZero Try.prog 65 = some (D.raw .nilFunc) := by kernel_rfl
theorem ty_k66 : tkind Try.prog 66 = some false := by kernel_rfl
theorem ty_z66 : tsz Try.prog 66 = some 1 := by kernel_rfl
theorem ty_b66 : tbytes Try.prog 66 = some 8 := by kernel_rfl
theorem ty_u66 : (Try.prog.underlying 66).isSome = true := by kernel_rfl
theorem ty_tz66 : tzero Try.prog 66 = some (Value.nilFunc) := by kernel_rfl
theorem ty_zs66 : (Value.nilFunc).cells.size = 1 := by kernel_rfl
theorem ty_zv66 : zeroV Try.prog 66 = .d (D.raw .nilFunc) := by kernel_rfl
theorem ty_dz66 : dataZero Try.prog 66 = some (D.raw .nilFunc) := by kernel_rfl
theorem ty_k67 : tkind Try.prog 67 = some false := by kernel_rfl
theorem ty_z67 : tsz Try.prog 67 = some 1 := by kernel_rfl
theorem ty_b67 : tbytes Try.prog 67 = some 8 := by kernel_rfl
theorem ty_u67 : (Try.prog.underlying 67).isSome = true := by kernel_rfl
theorem ty_tz67 : tzero Try.prog 67 = some (Value.nilFunc) := by kernel_rfl
theorem ty_zs67 : (Value.nilFunc).cells.size = 1 := by kernel_rfl
theorem ty_zv67 : zeroV Try.prog 67 = .d (D.raw .nilFunc) := by kernel_rfl
theorem ty_dz67 : dataZero Try.prog 67 = some (D.raw .nilFunc) := by kernel_rfl
theorem ty_k68 : tkind Try.prog 68 = some false := by kernel_rfl
theorem ty_z68 : tsz Try.prog 68 = some 1 := by kernel_rfl
theorem ty_b68 : tbytes Try.prog 68 = some 8 := by kernel_rfl
theorem ty_u68 : (Try.prog.underlying 68).isSome = true := by kernel_rfl
theorem ty_tz68 : tzero Try.prog 68 = some (Value.nilFunc) := by kernel_rfl
theorem ty_zs68 : (Value.nilFunc).cells.size = 1 := by kernel_rfl
theorem ty_zv68 : zeroV Try.prog 68 = .d (D.raw .nilFunc) := by kernel_rfl
theorem ty_dz68 : dataZero Try.prog 68 = some (D.raw .nilFunc) := by kernel_rfl
theorem ty_k69 : tkind Try.prog 69 = some false := by kernel_rfl
theorem ty_z69 : tsz Try.prog 69 = some 1 := by kernel_rfl
theorem ty_b69 : tbytes Try.prog 69 = some 8 := by kernel_rfl
theorem ty_u69 : (Try.prog.underlying 69).isSome = true := by kernel_rfl
theorem ty_tz69 : tzero Try.prog 69 = some (Value.nilFunc) := by kernel_rfl
theorem ty_zs69 : (Value.nilFunc).cells.size = 1 := by kernel_rfl
theorem ty_zv69 : zeroV Try.prog 69 = .d (D.raw .nilFunc) := by kernel_rfl
theorem ty_dz69 : dataZero Try.prog 69 = some (D.raw .nilFunc) := by kernel_rfl
theorem ty_k70 : tkind Try.prog 70 = some false := by kernel_rfl
theorem ty_z70 : tsz Try.prog 70 = some 1 := by kernel_rfl
theorem ty_b70 : tbytes Try.prog 70 = some 8 := by kernel_rfl
theorem ty_u70 : (Try.prog.underlying 70).isSome = true := by kernel_rfl
theorem ty_tz70 : tzero Try.prog 70 = some (Value.nilFunc) := by kernel_rfl
theorem ty_zs70 : (Value.nilFunc).cells.size = 1 := by kernel_rfl
theorem ty_zv70 : zeroV Try.prog 70 = .d (D.raw .nilFunc) := by kernel_rfl
theorem ty_dz70 : dataZero Try.prog 70 = some (D.raw .nilFunc) := by kernel_rfl
theorem ty_k71 : tkind Try.prog 71 = some false := by kernel_rfl
theorem ty_z71 : tsz Try.prog 71 = some 1 := by kernel_rfl
theorem ty_b71 : tbytes Try.prog 71 = some 8 := by kernel_rfl
theorem ty_u71 : (Try.prog.underlying 71).isSome = true := by kernel_rfl
theorem ty_tz71 : tzero Try.prog 71 = some (Value.nilFunc) := by kernel_rfl
theorem ty_zs71 : (Value.nilFunc).cells.size = 1 := by kernel_rfl
theorem ty_zv71 : zeroV Try.prog 71 = .d (D.raw .nilFunc) := by kernel_rfl
theorem ty_dz71 : dataZero Try.prog 71 = some (D.raw .nilFunc) := by kernel_rfl
theorem ty_k72 : tkind Try.prog 72 = some false := by kernel_rfl
theorem ty_z72 : tsz Try.prog 72 = some 1 := by kernel_rfl
theorem ty_b72 : tbytes Try.prog 72 = some 8 := by kernel_rfl
theorem ty_u72 : (Try.prog.underlying 72).isSome = true := by kernel_rfl
theorem ty_tz72 : tzero Try.prog 72 = some (Value.nilFunc) := by kernel_rfl
theorem ty_zs72 : (Value.nilFunc).cells.size = 1 := by kernel_rfl
theorem ty_zv72 : zeroV Try.prog 72 = .d (D.raw .nilFunc) := by kernel_rfl
theorem ty_dz72 : dataZero Try.prog 72 = some (D.raw .nilFunc) := by kernel_rfl
theorem ty_k73 : tkind Try.prog 73 = some false := by kernel_rfl
theorem ty_z73 : tsz Try.prog 73 = some 1 := by kernel_rfl
theorem ty_b73 : tbytes Try.prog 73 = some 8 := by kernel_rfl
theorem ty_u73 : (Try.prog.underlying 73).isSome = true := by kernel_rfl
theorem ty_tz73 : tzero Try.prog 73 = some (Value.nilFunc) := by kernel_rfl
theorem ty_zs73 : (Value.nilFunc).cells.size = 1 := by kernel_rfl
theorem ty_zv73 : zeroV Try.prog 73 = .d (D.raw .nilFunc) := by kernel_rfl
theorem ty_dz73 : dataZero Try.prog 73 = some (D.raw .nilFunc) := by kernel_rfl
theorem ty_k74 : tkind Try.prog 74 = some false := by kernel_rfl
theorem ty_z74 : tsz Try.prog 74 = some 1 := by kernel_rfl
theorem ty_b74 : tbytes Try.prog 74 = some 8 := by kernel_rfl
theorem ty_u74 : (Try.prog.underlying 74).isSome = true := by kernel_rfl
theorem ty_tz74 : tzero Try.prog 74 = some (Value.nilFunc) := by kernel_rfl
theorem ty_zs74 : (Value.nilFunc).cells.size = 1 := by kernel_rfl
theorem ty_zv74 : zeroV Try.prog 74 = .d (D.raw .nilFunc) := by kernel_rfl
theorem ty_dz74 : dataZero Try.prog 74 = some (D.raw .nilFunc) := by kernel_rfl
theorem ty_k75 : tkind Try.prog 75 = some false := by kernel_rfl
theorem ty_z75 : tsz Try.prog 75 = some 1 := by kernel_rfl
theorem ty_b75 : tbytes Try.prog 75 = some 8 := by kernel_rfl
theorem ty_u75 : (Try.prog.underlying 75).isSome = true := by kernel_rfl
theorem ty_tz75 : tzero Try.prog 75 = some (Value.nilFunc) := by kernel_rfl
theorem ty_zs75 : (Value.nilFunc).cells.size = 1 := by kernel_rfl
theorem ty_zv75 : zeroV Try.prog 75 = .d (D.raw .nilFunc) := by kernel_rfl
theorem ty_dz75 : dataZero Try.prog 75 = some (D.raw .nilFunc) := by kernel_rfl
theorem ty_k76 : tkind Try.prog 76 = some false := by kernel_rfl
theorem ty_z76 : tsz Try.prog 76 = some 1 := by kernel_rfl
theorem ty_b76 : tbytes Try.prog 76 = some 8 := by kernel_rfl
theorem ty_u76 : (Try.prog.underlying 76).isSome = true := by kernel_rfl
theorem ty_tz76 : tzero Try.prog 76 = some (Value.nilFunc) := by kernel_rfl
theorem ty_zs76 : (Value.nilFunc).cells.size = 1 := by kernel_rfl
theorem ty_zv76 : zeroV Try.prog 76 = .d (D.raw .nilFunc) := by kernel_rfl
theorem ty_dz76 : dataZero Try.prog 76 = some (D.raw .nilFunc) := by kernel_rfl
theorem ty_k77 : tkind Try.prog 77 = some false := by kernel_rfl
theorem ty_z77 : tsz Try.prog 77 = some 1 := by kernel_rfl
theorem ty_b77 : tbytes Try.prog 77 = some 8 := by kernel_rfl
theorem ty_i77 : tintk Try.prog 77 = some .u64 := by kernel_rfl
theorem ty_u77 : (Try.prog.underlying 77).isSome = true := by kernel_rfl
theorem ty_tz77 : tzero Try.prog 77 = some (Value.int .u64 0) := by kernel_rfl
theorem ty_zs77 : (Value.int .u64 0).cells.size = 1 := by kernel_rfl
theorem ty_zv77 : zeroV Try.prog 77 = .d (D.int .u64 0) := by kernel_rfl
theorem ty_dz77 : dataZero Try.prog 77 = some (D.int .u64 0) := by kernel_rfl
theorem ty_k78 : tkind Try.prog 78 = some false := by kernel_rfl
theorem ty_z78 : tsz Try.prog 78 = some 1 := by kernel_rfl
theorem ty_b78 : tbytes Try.prog 78 = some 8 := by kernel_rfl
theorem ty_u78 : (Try.prog.underlying 78).isSome = true := by kernel_rfl
theorem ty_tz78 : tzero Try.prog 78 = some (Value.nilFunc) := by kernel_rfl
theorem ty_zs78 : (Value.nilFunc).cells.size = 1 := by kernel_rfl
theorem ty_zv78 : zeroV Try.prog 78 = .d (D.raw .nilFunc) := by kernel_rfl
theorem ty_dz78 : dataZero Try.prog 78 = some (D.raw .nilFunc) := by kernel_rfl
theorem ty_k79 : tkind Try.prog 79 = some false := by kernel_rfl
theorem ty_z79 : tsz Try.prog 79 = some 1 := by kernel_rfl
theorem ty_b79 : tbytes Try.prog 79 = some 8 := by kernel_rfl
theorem ty_u79 : (Try.prog.underlying 79).isSome = true := by kernel_rfl
theorem ty_tz79 : tzero Try.prog 79 = some (Value.nilFunc) := by kernel_rfl
theorem ty_zs79 : (Value.nilFunc).cells.size = 1 := by kernel_rfl
theorem ty_zv79 : zeroV Try.prog 79 = .d (D.raw .nilFunc) := by kernel_rfl
theorem ty_dz79 : dataZero Try.prog 79 = some (D.raw .nilFunc) := by kernel_rfl
theorem ty_k80 : tkind Try.prog 80 = some true := by kernel_rfl
theorem ty_z80 : tsz Try.prog 80 = some 4 := by kernel_rfl
theorem ty_b80 : tbytes Try.prog 80 = some 40 := by kernel_rfl
theorem ty_u80 : (Try.prog.underlying 80).isSome = true := by kernel_rfl
theorem ty_f80_0 : tfld Try.prog 80 0 = some (0, 1, false) := by kernel_rfl
theorem ty_f80_1 : tfld Try.prog 80 1 = some (1, 1, false) := by kernel_rfl
theorem ty_f80_2 : tfld Try.prog 80 2 = some (2, 1, false) := by kernel_rfl
theorem ty_f80_3 : tfld Try.prog 80 3 = some (3, 1, false) := by kernel_rfl
theorem ty_p80 : tplaces Try.prog 80 = some [(0, 1), (1, 1), (2, 1), (3, 1)] := by kernel_rfl
theorem ty_za80 : tzeroA Try.prog 80 = some [.d (D.raw (.pointer none)), .d (D.raw (.pointer none)), .d (D.raw (.pointer none)), .d (D.str [])] := by kernel_rfl
theorem ty_tz80 : tzero Try.prog 80 = some (Value.agg #[Value.pointer none, Value.pointer none, Value.pointer none, Value.string ⟨#[]⟩]) := by kernel_rfl
theorem ty_zs80 : (Value.agg #[Value.pointer none, Value.pointer none, Value.pointer none, Value.string ⟨#[]⟩]).cells.size = 4 := by kernel_rfl
theorem ty_zv80 : zeroV Try.prog 80 = .d (D.agg [D.raw (.pointer none), D.raw (.pointer none), D.raw (.pointer none), D.str []]) := by kernel_rfl
theorem ty_dz80 : dataZero Try.prog 80 = some (D.agg [D.raw (.pointer none), D.raw (.pointer none), D.raw (.pointer none), D.str []]) := by kernel_rfl
theorem ty_k81 : tkind Try.prog 81 = some true := by kernel_rfl
theorem ty_z81 : tsz Try.prog 81 = some 4 := by kernel_rfl
theorem ty_b81 : tbytes Try.prog 81 = some 40 := by kernel_rfl
theorem ty_u81 : (Try.prog.underlying 81).isSome = true := by kernel_rfl
theorem ty_f81_0 : tfld Try.prog 81 0 = some (0, 1, false) := by kernel_rfl
theorem ty_f81_1 : tfld Try.prog 81 1 = some (1, 1, false) := by kernel_rfl
theorem ty_f81_2 : tfld Try.prog 81 2 = some (2, 1, false) := by kernel_rfl
theorem ty_f81_3 : tfld Try.prog 81 3 = some (3, 1, false) := by kernel_rfl
theorem ty_p81 : tplaces Try.prog 81 = some [(0, 1), (1, 1), (2, 1), (3, 1)] := by kernel_rfl
theorem ty_za81 : tzeroA Try.prog 81 = some [.d (D.raw (.pointer none)), .d (D.raw (.pointer none)), .d (D.raw (.pointer none)), .d (D.str [])] := by kernel_rfl
theorem ty_tz81 : tzero Try.prog 81 = some (Value.agg #[Value.pointer none, Value.pointer none, Value.pointer none, Value.string ⟨#[]⟩]) := by kernel_rfl
theorem ty_zs81 : (Value.agg #[Value.pointer none, Value.pointer none, Value.pointer none, Value.string ⟨#[]⟩]).cells.size = 4 := by kernel_rfl
theorem ty_zv81 : zeroV Try.prog 81 = .d (D.agg [D.raw (.pointer none), D.raw (.pointer none), D.raw (.pointer none), D.str []]) := by kernel_rfl
theorem ty_dz81 : dataZero Try.prog 81 = some (D.agg [D.raw (.pointer none), D.raw (.pointer none), D.raw (.pointer none), D.str []]) := by kernel_rfl
theorem ty_k82 : tkind Try.prog 82 = some true := by kernel_rfl
theorem ty_z82 : tsz Try.prog 82 = some 0 := by kernel_rfl
theorem ty_b82 : tbytes Try.prog 82 = some 0 := by kernel_rfl
theorem ty_x82 : tidx Try.prog 82 = some (some 0, 1) := by kernel_rfl
theorem ty_u82 : (Try.prog.underlying 82).isSome = true := by kernel_rfl
theorem ty_p82 : tplaces Try.prog 82 = some [] := by kernel_rfl
theorem ty_za82 : tzeroA Try.prog 82 = some [] := by kernel_rfl
theorem ty_tz82 : tzero Try.prog 82 = some (Value.agg #[]) := by kernel_rfl
theorem ty_zs82 : (Value.agg #[]).cells.size = 0 := by kernel_rfl
theorem ty_zv82 : zeroV Try.prog 82 = .d (D.agg []) := by kernel_rfl
theorem ty_dz82 : dataZero Try.prog 82 = some (D.agg []) := by kernel_rfl
theorem ty_k83 : tkind Try.prog 83 = some true := by kernel_rfl
theorem ty_z83 : tsz Try.prog 83 = some 0 := by kernel_rfl
theorem ty_b83 : tbytes Try.prog 83 = some 0 := by kernel_rfl
theorem ty_u83 : (Try.prog.underlying 83).isSome = true := by kernel_rfl
theorem ty_f83_0 : tfld Try.prog 83 0 = some (0, 0, true) := by kernel_rfl
theorem ty_p83 : tplaces Try.prog 83 = some [(0, 0)] := by kernel_rfl
theorem ty_za83 : tzeroA Try.prog 83 = some [] := by kernel_rfl
theorem ty_tz83 : tzero Try.prog 83 = some (Value.agg #[]) := by kernel_rfl
theorem ty_zs83 : (Value.agg #[]).cells.size = 0 := by kernel_rfl
theorem ty_zv83 : zeroV Try.prog 83 = .d (D.agg []) := by kernel_rfl
theorem ty_dz83 : dataZero Try.prog 83 = some (D.agg []) := by kernel_rfl
theorem ty_k84 : tkind Try.prog 84 = some true := by kernel_rfl
theorem ty_z84 : tsz Try.prog 84 = some 0 := by kernel_rfl
theorem ty_b84 : tbytes Try.prog 84 = some 0 := by kernel_rfl
theorem ty_u84 : (Try.prog.underlying 84).isSome = true := by kernel_rfl
theorem ty_f84_0 : tfld Try.prog 84 0 = some (0, 0, true) := by kernel_rfl
theorem ty_p84 : tplaces Try.prog 84 = some [(0, 0)] := by kernel_rfl
theorem ty_za84 : tzeroA Try.prog 84 = some [] := by kernel_rfl
theorem ty_tz84 : tzero Try.prog 84 = some (Value.agg #[]) := by kernel_rfl
theorem ty_zs84 : (Value.agg #[]).cells.size = 0 := by kernel_rfl
theorem ty_zv84 : zeroV Try.prog 84 = .d (D.agg []) := by kernel_rfl
theorem ty_dz84 : dataZero Try.prog 84 = some (D.agg []) := by kernel_rfl
theorem ty_k85 : tkind Try.prog 85 = some false := by kernel_rfl
theorem ty_z85 : tsz Try.prog 85 = some 1 := by kernel_rfl
theorem ty_b85 : tbytes Try.prog 85 = some 8 := by kernel_rfl
theorem ty_u85 : (Try.prog.underlying 85).isSome = true := by kernel_rfl
theorem ty_tz85 : tzero Try.prog 85 = some (Value.nilFunc) := by kernel_rfl
theorem ty_zs85 : (Value.nilFunc).cells.size = 1 := by kernel_rfl
theorem ty_zv85 : zeroV Try.prog 85 = .d (D.raw .nilFunc) := by kernel_rfl
theorem ty_dz85 : dataZero Try.prog 85 = some (D.raw .nilFunc) := by kernel_rfl
theorem ty_k86 : tkind Try.prog 86 = some false := by kernel_rfl
theorem ty_z86 : tsz Try.prog 86 = some 1 := by kernel_rfl
theorem ty_b86 : tbytes Try.prog 86 = some 4 := by kernel_rfl
theorem ty_i86 : tintk Try.prog 86 = some .u32 := by kernel_rfl
theorem ty_u86 : (Try.prog.underlying 86).isSome = true := by kernel_rfl
theorem ty_tz86 : tzero Try.prog 86 = some (Value.int .u32 0) := by kernel_rfl
theorem ty_zs86 : (Value.int .u32 0).cells.size = 1 := by kernel_rfl
theorem ty_zv86 : zeroV Try.prog 86 = .d (D.int .u32 0) := by kernel_rfl
theorem ty_dz86 : dataZero Try.prog 86 = some (D.int .u32 0) := by kernel_rfl
theorem ty_k87 : tkind Try.prog 87 = some false := by kernel_rfl
theorem ty_z87 : tsz Try.prog 87 = some 1 := by kernel_rfl
theorem ty_b87 : tbytes Try.prog 87 = some 1 := by kernel_rfl
theorem ty_i87 : tintk Try.prog 87 = some .u8 := by kernel_rfl
theorem ty_u87 : (Try.prog.underlying 87).isSome = true := by kernel_rfl
theorem ty_tz87 : tzero Try.prog 87 = some (Value.int .u8 0) := by kernel_rfl
theorem ty_zs87 : (Value.int .u8 0).cells.size = 1 := by kernel_rfl
theorem ty_zv87 : zeroV Try.prog 87 = .d (D.int .u8 0) := by kernel_rfl
theorem ty_dz87 : dataZero Try.prog 87 = some (D.int .u8 0) := by kernel_rfl
theorem ty_k88 : tkind Try.prog 88 = some false := by kernel_rfl
theorem ty_z88 : tsz Try.prog 88 = some 1 := by kernel_rfl
theorem ty_b88 : tbytes Try.prog 88 = some 1 := by kernel_rfl
theorem ty_i88 : tintk Try.prog 88 = some .u8 := by kernel_rfl
theorem ty_u88 : (Try.prog.underlying 88).isSome = true := by kernel_rfl
theorem ty_tz88 : tzero Try.prog 88 = some (Value.int .u8 0) := by kernel_rfl
theorem ty_zs88 : (Value.int .u8 0).cells.size = 1 := by kernel_rfl
theorem ty_zv88 : zeroV Try.prog 88 = .d (D.int .u8 0) := by kernel_rfl
theorem ty_dz88 : dataZero Try.prog 88 = some (D.int .u8 0) := by kernel_rfl
theorem ty_k89 : tkind Try.prog 89 = some false := by kernel_rfl
theorem ty_z89 : tsz Try.prog 89 = some 1 := by kernel_rfl
theorem ty_b89 : tbytes Try.prog 89 = some 8 := by kernel_rfl
theorem ty_u89 : (Try.prog.underlying 89).isSome = true := by kernel_rfl
theorem ty_tz89 : tzero Try.prog 89 = some (Value.nilFunc) := by kernel_rfl
theorem ty_zs89 : (Value.nilFunc).cells.size = 1 := by kernel_rfl
theorem ty_zv89 : zeroV Try.prog 89 = .d (D.raw .nilFunc) := by kernel_rfl
theorem ty_dz89 : dataZero Try.prog 89 = some (D.raw .nilFunc) := by kernel_rfl
theorem ty_k90 : tkind Try.prog 90 = some false := by kernel_rfl
theorem ty_z90 : tsz Try.prog 90 = some 1 := by kernel_rfl
theorem ty_pt90 : tptr Try.prog 90 = true := by kernel_rfl
theorem ty_b90 : tbytes Try.prog 90 = some 8 := by kernel_rfl
theorem ty_u90 : (Try.prog.underlying 90).isSome = true := by kernel_rfl
theorem ty_tz90 : tzero Try.prog 90 = some (Value.pointer none) := by kernel_rfl
theorem ty_zs90 : (Value.pointer none).cells.size = 1 := by kernel_rfl
theorem ty_zv90 : zeroV Try.prog 90 = .d (D.raw (.pointer none)) := by kernel_rfl
theorem ty_dz90 : dataZero Try.prog 90 = some (D.raw (.pointer none)) := by kernel_rfl
theorem ty_k91 : tkind Try.prog 91 = some false := by kernel_rfl
theorem ty_z91 : tsz Try.prog 91 = some 1 := by kernel_rfl
theorem ty_b91 : tbytes Try.prog 91 = some 4 := by kernel_rfl
theorem ty_i91 : tintk Try.prog 91 = some .i32 := by kernel_rfl
theorem ty_u91 : (Try.prog.underlying 91).isSome = true := by kernel_rfl
theorem ty_tz91 : tzero Try.prog 91 = some (Value.int .i32 0) := by kernel_rfl
theorem ty_zs91 : (Value.int .i32 0).cells.size = 1 := by kernel_rfl
theorem ty_zv91 : zeroV Try.prog 91 = .d (D.int .i32 0) := by kernel_rfl
theorem ty_dz91 : dataZero Try.prog 91 = some (D.int .i32 0) := by kernel_rfl
theorem ty_k92 : tkind Try.prog 92 = some false := by kernel_rfl
theorem ty_z92 : tsz Try.prog 92 = some 1 := by kernel_rfl
theorem ty_b92 : tbytes Try.prog 92 = some 4 := by kernel_rfl
theorem ty_i92 : tintk Try.prog 92 = some .i32 := by kernel_rfl
theorem ty_u92 : (Try.prog.underlying 92).isSome = true := by kernel_rfl
theorem ty_tz92 : tzero Try.prog 92 = some (Value.int .i32 0) := by kernel_rfl
theorem ty_zs92 : (Value.int .i32 0).cells.size = 1 := by kernel_rfl
theorem ty_zv92 : zeroV Try.prog 92 = .d (D.int .i32 0) := by kernel_rfl
theorem ty_dz92 : dataZero Try.prog 92 = some (D.int .i32 0) := by kernel_rfl
theorem ty_k93 : tkind Try.prog 93 = some true := by kernel_rfl
theorem ty_z93 : tsz Try.prog 93 = some 11 := by kernel_rfl
theorem ty_b93 : tbytes Try.prog 93 = some 48 := by kernel_rfl
theorem ty_u93 : (Try.prog.underlying 93).isSome = true := by kernel_rfl
theorem ty_f93_0 : tfld Try.prog 93 0 = some (0, 1, false) := by kernel_rfl
theorem ty_f93_1 : tfld Try.prog 93 1 = some (1, 1, false) := by kernel_rfl
theorem ty_f93_2 : tfld Try.prog 93 2 = some (2, 1, false) := by kernel_rfl
theorem ty_f93_3 : tfld Try.prog 93 3 = some (3, 1, false) := by kernel_rfl
theorem ty_f93_4 : tfld Try.prog 93 4 = some (4, 1, false) := by kernel_rfl
theorem ty_f93_5 : tfld Try.prog 93 5 = some (5, 1, false) := by kernel_rfl
theorem ty_f93_6 : tfld Try.prog 93 6 = some (6, 1, false) := by kernel_rfl
theorem ty_f93_7 : tfld Try.prog 93 7 = some (7, 1, false) := by kernel_rfl
theorem ty_f93_8 : tfld Try.prog 93 8 = some (8, 1, false) := by kernel_rfl
theorem ty_f93_9 : tfld Try.prog 93 9 = some (9, 1, false) := by kernel_rfl
theorem ty_f93_10 : tfld Try.prog 93 10 = some (10, 1, false) := by kernel_rfl
theorem ty_p93 : tplaces Try.prog 93 = some [(0, 1), (1, 1), (2, 1), (3, 1), (4, 1), (5, 1), (6, 1), (7, 1), (8, 1), (9, 1), (10, 1)] := by kernel_rfl
theorem ty_za93 : tzeroA Try.prog 93 = some [.d (D.int .u64 0), .d (D.int .u64 0), .d (D.int .u32 0), .d (D.int .u8 0), .d (D.int .u8 0), .d (D.int .u8 0), .d (D.int .u8 0), .d (D.raw .nilFunc), .d (D.raw (.pointer none)), .d (D.int .i32 0), .d (D.int .i32 0)] := by kernel_rfl
theorem ty_tz93 : tzero Try.prog 93 = some (Value.agg #[Value.int .u64 0, Value.int .u64 0, Value.int .u32 0, Value.int .u8 0, Value.int .u8 0, Value.int .u8 0, Value.int .u8 0, Value.nilFunc, Value.pointer none, Value.int .i32 0, Value.int .i32 0]) := by kernel_rfl
theorem ty_zs93 : (Value.agg #[Value.int .u64 0, Value.int .u64 0, Value.int .u32 0, Value.int .u8 0, Value.int .u8 0, Value.int .u8 0, Value.int .u8 0, Value.nilFunc, Value.pointer none, Value.int .i32 0, Value.int .i32 0]).cells.size = 11 := by kernel_rfl
theorem ty_zv93 : zeroV Try.prog 93 = .d (D.agg [D.int .u64 0, D.int .u64 0, D.int .u32 0, D.int .u8 0, D.int .u8 0, D.int .u8 0, D.int .u8 0, D.raw .nilFunc, D.raw (.pointer none), D.int .i32 0, D.int .i32 0]) := by kernel_rfl
theorem ty_dz93 : dataZero Try.prog 93 = some (D.agg [D.int .u64 0, D.int .u64 0, D.int .u32 0, D.int .u8 0, D.int .u8 0, D.int .u8 0, D.int .u8 0, D.raw .nilFunc, D.raw (.pointer none), D.int .i32 0, D.int .i32 0]) := by kernel_rfl
theorem ty_k94 : tkind Try.prog 94 = some true := by kernel_rfl
theorem ty_z94 : tsz Try.prog 94 = some 11 := by kernel_rfl
theorem ty_b94 : tbytes Try.prog 94 = some 48 := by kernel_rfl
theorem ty_u94 : (Try.prog.underlying 94).isSome = true := by kernel_rfl
theorem ty_f94_0 : tfld Try.prog 94 0 = some (0, 1, false) := by kernel_rfl
theorem ty_f94_1 : tfld Try.prog 94 1 = some (1, 1, false) := by kernel_rfl
theorem ty_f94_2 : tfld Try.prog 94 2 = some (2, 1, false) := by kernel_rfl
theorem ty_f94_3 : tfld Try.prog 94 3 = some (3, 1, false) := by kernel_rfl
theorem ty_f94_4 : tfld Try.prog 94 4 = some (4, 1, false) := by kernel_rfl
theorem ty_f94_5 : tfld Try.prog 94 5 = some (5, 1, false) := by kernel_rfl
theorem ty_f94_6 : tfld Try.prog 94 6 = some (6, 1, false) := by kernel_rfl
theorem ty_f94_7 : tfld Try.prog 94 7 = some (7, 1, false) := by kernel_rfl
theorem ty_f94_8 : tfld Try.prog 94 8 = some (8, 1, false) := by kernel_rfl
theorem ty_f94_9 : tfld Try.prog 94 9 = some (9, 1, false) := by kernel_rfl
theorem ty_f94_10 : tfld Try.prog 94 10 = some (10, 1, false) := by kernel_rfl
theorem ty_p94 : tplaces Try.prog 94 = some [(0, 1), (1, 1), (2, 1), (3, 1), (4, 1), (5, 1), (6, 1), (7, 1), (8, 1), (9, 1), (10, 1)] := by kernel_rfl
theorem ty_za94 : tzeroA Try.prog 94 = some [.d (D.int .u64 0), .d (D.int .u64 0), .d (D.int .u32 0), .d (D.int .u8 0), .d (D.int .u8 0), .d (D.int .u8 0), .d (D.int .u8 0), .d (D.raw .nilFunc), .d (D.raw (.pointer none)), .d (D.int .i32 0), .d (D.int .i32 0)] := by kernel_rfl
theorem ty_tz94 : tzero Try.prog 94 = some (Value.agg #[Value.int .u64 0, Value.int .u64 0, Value.int .u32 0, Value.int .u8 0, Value.int .u8 0, Value.int .u8 0, Value.int .u8 0, Value.nilFunc, Value.pointer none, Value.int .i32 0, Value.int .i32 0]) := by kernel_rfl
theorem ty_zs94 : (Value.agg #[Value.int .u64 0, Value.int .u64 0, Value.int .u32 0, Value.int .u8 0, Value.int .u8 0, Value.int .u8 0, Value.int .u8 0, Value.nilFunc, Value.pointer none, Value.int .i32 0, Value.int .i32 0]).cells.size = 11 := by kernel_rfl
theorem ty_zv94 : zeroV Try.prog 94 = .d (D.agg [D.int .u64 0, D.int .u64 0, D.int .u32 0, D.int .u8 0, D.int .u8 0, D.int .u8 0, D.int .u8 0, D.raw .nilFunc, D.raw (.pointer none), D.int .i32 0, D.int .i32 0]) := by kernel_rfl
theorem ty_dz94 : dataZero Try.prog 94 = some (D.agg [D.int .u64 0, D.int .u64 0, D.int .u32 0, D.int .u8 0, D.int .u8 0, D.int .u8 0, D.int .u8 0, D.raw .nilFunc, D.raw (.pointer none), D.int .i32 0, D.int .i32 0]) := by kernel_rfl
theorem ty_k95 : tkind Try.prog 95 = some false := by kernel_rfl
theorem ty_z95 : tsz Try.prog 95 = some 1 := by kernel_rfl
theorem ty_b95 : tbytes Try.prog 95 = some 8 := by kernel_rfl
theorem ty_u95 : (Try.prog.underlying 95).isSome = true := by kernel_rfl
theorem ty_tz95 : tzero Try.prog 95 = some (Value.pointer none) := by kernel_rfl
theorem ty_zs95 : (Value.pointer none).cells.size = 1 := by kernel_rfl
theorem ty_zv95 : zeroV Try.prog 95 = .d (D.raw (.pointer none)) := by kernel_rfl
theorem ty_dz95 : dataZero Try.prog 95 = some (D.raw (.pointer none)) := by kernel_rfl
theorem tyRules : type_of% (And.intro (And.intro @ty_k0 (And.intro @ty_z0 (And.intro @ty_b0 (And.intro @ty_u0 (And.intro @ty_zv0 (And.intro @ty_k1 (And.intro @ty_z1 (And.intro @ty_b1 (And.intro @ty_u1 (And.intro @ty_tz1 (And.intro @ty_zs1 (And.intro @ty_zv1 (And.intro @ty_dz1 (And.intro @ty_k2 (And.intro @ty_z2 (And.intro @ty_b2 (And.intro @ty_i2 (And.intro @ty_u2 (And.intro @ty_tz2 (And.intro @ty_zs2 (And.intro @ty_zv2 (And.intro @ty_dz2 (And.intro @ty_k3 (And.intro @ty_z3 (And.intro @ty_b3 (And.intro @ty_i3 (And.intro @ty_u3 (And.intro @ty_tz3 (And.intro @ty_zs3 (And.intro @ty_zv3 (And.intro @ty_dz3 (And.intro @ty_k4 (And.intro @ty_z4 (And.intro @ty_b4 (And.intro @ty_u4 (And.intro @ty_bo4 (And.intro @ty_tz4 (And.intro @ty_zs4 (And.intro @ty_zv4 (@ty_dz4)))))))))))))))))))))))))))))))))))))))) (And.intro (And.intro @ty_k5 (And.intro @ty_z5 (And.intro @ty_b5 (And.intro @ty_i5 (And.intro @ty_u5 (And.intro @ty_tz5 (And.intro @ty_zs5 (And.intro @ty_zv5 (And.intro @ty_dz5 (And.intro @ty_k6 (And.intro @ty_z6 (And.intro @ty_b6 (And.intro @ty_i6 (And.intro @ty_u6 (And.intro @ty_tz6 (And.intro @ty_zs6 (And.intro @ty_zv6 (And.intro @ty_dz6 (And.intro @ty_k7 (And.intro @ty_z7 (And.intro @ty_b7 (And.intro @ty_u7 (And.intro @ty_c7 (And.intro @ty_f7_0 (And.intro @ty_f7_1 (And.intro @ty_f7_2 (And.intro @ty_f7_3 (And.intro @ty_p7 (And.intro @ty_za7 (And.intro @ty_tz7 (And.intro @ty_zs7 (And.intro @ty_zv7 (And.intro @ty_dz7 (And.intro @ty_k8 (And.intro @ty_z8 (And.intro @ty_b8 (And.intro @ty_u8 (And.intro @ty_c8 (And.intro @ty_f8_0 (@ty_f8_1)))))))))))))))))))))))))))))))))))))))) (And.intro (And.intro @ty_f8_2 (And.intro @ty_f8_3 (And.intro @ty_p8 (And.intro @ty_za8 (And.intro @ty_tz8 (And.intro @ty_zs8 (And.intro @ty_zv8 (And.intro @ty_dz8 (And.intro @ty_k9 (And.intro @ty_z9 (And.intro @ty_b9 (And.intro @ty_s9 (And.intro @ty_u9 (And.intro @ty_tz9 (And.intro @ty_zs9 (And.intro @ty_zv9 (And.intro @ty_dz9 (And.intro @ty_k10 (And.intro @ty_z10 (And.intro @ty_b10 (And.intro @ty_s10 (And.intro @ty_u10 (And.intro @ty_tz10 (And.intro @ty_zs10 (And.intro @ty_zv10 (And.intro @ty_dz10 (And.intro @ty_k11 (And.intro @ty_z11 (And.intro @ty_b11 (And.intro @ty_s11 (And.intro @ty_u11 (And.intro @ty_tz11 (And.intro @ty_zs11 (And.intro @ty_zv11 (And.intro @ty_dz11 (And.intro @ty_k12 (And.intro @ty_z12 (And.intro @ty_b12 (And.intro @ty_i12 (@ty_u12)))))))))))))))))))))))))))))))))))))))) (And.intro (And.intro @ty_tz12 (And.intro @ty_zs12 (And.intro @ty_zv12 (And.intro @ty_dz12 (And.intro @ty_k13 (And.intro @ty_z13 (And.intro @ty_b13 (And.intro @ty_u13 (And.intro @ty_f13_0 (And.intro @ty_f13_1 (And.intro @ty_p13 (And.intro @ty_za13 (And.intro @ty_tz13 (And.intro @ty_zs13 (And.intro @ty_zv13 (And.intro @ty_dz13 (And.intro @ty_k14 (And.intro @ty_z14 (And.intro @ty_b14 (And.intro @ty_u14 (And.intro @ty_f14_0 (And.intro @ty_f14_1 (And.intro @ty_p14 (And.intro @ty_za14 (And.intro @ty_tz14 (And.intro @ty_zs14 (And.intro @ty_zv14 (And.intro @ty_dz14 (And.intro @ty_k15 (And.intro @ty_z15 (And.intro @ty_pt15 (And.intro @ty_b15 (And.intro @ty_u15 (And.intro @ty_tz15 (And.intro @ty_zs15 (And.intro @ty_zv15 (And.intro @ty_dz15 (And.intro @ty_k16 (And.intro @ty_z16 (@ty_pt16)))))))))))))))))))))))))))))))))))))))) (And.intro (And.intro @ty_b16 (And.intro @ty_u16 (And.intro @ty_tz16 (And.intro @ty_zs16 (And.intro @ty_zv16 (And.intro @ty_dz16 (And.intro @ty_k17 (And.intro @ty_z17 (And.intro @ty_pt17 (And.intro @ty_b17 (And.intro @ty_u17 (And.intro @ty_tz17 (And.intro @ty_zs17 (And.intro @ty_zv17 (And.intro @ty_dz17 (And.intro @ty_k18 (And.intro @ty_z18 (And.intro @ty_b18 (And.intro @ty_u18 (And.intro @ty_f18_0 (And.intro @ty_p18 (And.intro @ty_za18 (And.intro @ty_tz18 (And.intro @ty_zs18 (And.intro @ty_zv18 (And.intro @ty_dz18 (And.intro @ty_k19 (And.intro @ty_z19 (And.intro @ty_b19 (And.intro @ty_u19 (And.intro @ty_f19_0 (And.intro @ty_p19 (And.intro @ty_za19 (And.intro @ty_tz19 (And.intro @ty_zs19 (And.intro @ty_zv19 (And.intro @ty_dz19 (And.intro @ty_k20 (And.intro @ty_z20 (@ty_b20)))))))))))))))))))))))))))))))))))))))) (And.intro (And.intro @ty_u20 (And.intro @ty_tz20 (And.intro @ty_zs20 (And.intro @ty_zv20 (And.intro @ty_dz20 (And.intro @ty_k21 (And.intro @ty_z21 (And.intro @ty_b21 (And.intro @ty_i21 (And.intro @ty_u21 (And.intro @ty_tz21 (And.intro @ty_zs21 (And.intro @ty_zv21 (And.intro @ty_dz21 (And.intro @ty_k22 (And.intro @ty_z22 (And.intro @ty_e22 (And.intro @ty_ae22 (And.intro @ty_b22 (And.intro @ty_x22 (And.intro @ty_u22 (And.intro @ty_tz22 (And.intro @ty_zs22 (And.intro @ty_zv22 (And.intro @ty_dz22 (And.intro @ty_k23 (And.intro @ty_z23 (And.intro @ty_b23 (And.intro @ty_u23 (And.intro @ty_tz23 (And.intro @ty_zs23 (And.intro @ty_zv23 (And.intro @ty_dz23 (And.intro @ty_k24 (And.intro @ty_z24 (And.intro @ty_b24 (And.intro @ty_u24 (And.intro @ty_tz24 (And.intro @ty_zs24 (@ty_zv24)))))))))))))))))))))))))))))))))))))))) (And.intro (And.intro @ty_dz24 (And.intro @ty_k25 (And.intro @ty_z25 (And.intro @ty_b25 (And.intro @ty_u25 (And.intro @ty_tz25 (And.intro @ty_zs25 (And.intro @ty_zv25 (And.intro @ty_dz25 (And.intro @ty_k26 (And.intro @ty_z26 (And.intro @ty_e26 (And.intro @ty_ae26 (And.intro @ty_b26 (And.intro @ty_x26 (And.intro @ty_u26 (And.intro @ty_tz26 (And.intro @ty_zs26 (And.intro @ty_zv26 (And.intro @ty_dz26 (And.intro @ty_k27 (And.intro @ty_z27 (And.intro @ty_b27 (And.intro @ty_u27 (And.intro @ty_tz27 (And.intro @ty_zs27 (And.intro @ty_zv27 (And.intro @ty_dz27 (And.intro @ty_k28 (And.intro @ty_z28 (And.intro @ty_b28 (And.intro @ty_u28 (And.intro @ty_tz28 (And.intro @ty_zs28 (And.intro @ty_zv28 (And.intro @ty_dz28 (And.intro @ty_k29 (And.intro @ty_z29 (And.intro @ty_b29 (@ty_u29)))))))))))))))))))))))))))))))))))))))) (And.intro (And.intro @ty_tz29 (And.intro @ty_zs29 (And.intro @ty_zv29 (And.intro @ty_dz29 (And.intro @ty_k30 (And.intro @ty_z30 (And.intro @ty_b30 (And.intro @ty_i30 (And.intro @ty_u30 (And.intro @ty_tz30 (And.intro @ty_zs30 (And.intro @ty_zv30 (And.intro @ty_dz30 (And.intro @ty_k31 (And.intro @ty_z31 (And.intro @ty_b31 (And.intro @ty_u31 (And.intro @ty_tz31 (And.intro @ty_zs31 (And.intro @ty_zv31 (And.intro @ty_dz31 (And.intro @ty_k32 (And.intro @ty_z32 (And.intro @ty_b32 (And.intro @ty_u32 (And.intro @ty_tz32 (And.intro @ty_zs32 (And.intro @ty_zv32 (And.intro @ty_dz32 (And.intro @ty_k33 (And.intro @ty_z33 (And.intro @ty_b33 (And.intro @ty_u33 (And.intro @ty_zv33 (And.intro @ty_k34 (And.intro @ty_z34 (And.intro @ty_b34 (And.intro @ty_u34 (And.intro @ty_tz34 (@ty_zs34)))))))))))))))))))))))))))))))))))))))) (And.intro (And.intro @ty_zv34 (And.intro @ty_dz34 (And.intro @ty_k35 (And.intro @ty_z35 (And.intro @ty_b35 (And.intro @ty_u35 (And.intro @ty_tz35 (And.intro @ty_zs35 (And.intro @ty_zv35 (And.intro @ty_dz35 (And.intro @ty_k36 (And.intro @ty_z36 (And.intro @ty_b36 (And.intro @ty_u36 (And.intro @ty_tz36 (And.intro @ty_zs36 (And.intro @ty_zv36 (And.intro @ty_dz36 (And.intro @ty_k37 (And.intro @ty_z37 (And.intro @ty_b37 (And.intro @ty_u37 (And.intro @ty_tz37 (And.intro @ty_zs37 (And.intro @ty_zv37 (And.intro @ty_dz37 (And.intro @ty_k38 (And.intro @ty_z38 (And.intro @ty_b38 (And.intro @ty_i38 (And.intro @ty_u38 (And.intro @ty_tz38 (And.intro @ty_zs38 (And.intro @ty_zv38 (And.intro @ty_dz38 (And.intro @ty_k39 (And.intro @ty_z39 (And.intro @ty_b39 (And.intro @ty_u39 (@ty_c39)))))))))))))))))))))))))))))))))))))))) (And.intro (And.intro @ty_f39_0 (And.intro @ty_f39_1 (And.intro @ty_p39 (And.intro @ty_za39 (And.intro @ty_tz39 (And.intro @ty_zs39 (And.intro @ty_zv39 (And.intro @ty_dz39 (And.intro @ty_k40 (And.intro @ty_z40 (And.intro @ty_b40 (And.intro @ty_u40 (And.intro @ty_c40 (And.intro @ty_f40_0 (And.intro @ty_f40_1 (And.intro @ty_p40 (And.intro @ty_za40 (And.intro @ty_tz40 (And.intro @ty_zs40 (And.intro @ty_zv40 (And.intro @ty_dz40 (And.intro @ty_k41 (And.intro @ty_z41 (And.intro @ty_e41 (And.intro @ty_ae41 (And.intro @ty_b41 (And.intro @ty_x41 (And.intro @ty_u41 (And.intro @ty_tz41 (And.intro @ty_zs41 (And.intro @ty_zv41 (And.intro @ty_dz41 (And.intro @ty_k42 (And.intro @ty_z42 (And.intro @ty_b42 (And.intro @ty_u42 (And.intro @ty_f42_0 (And.intro @ty_f42_1 (And.intro @ty_f42_2 (@ty_f42_3)))))))))))))))))))))))))))))))))))))))) (And.intro (And.intro @ty_f42_4 (And.intro @ty_f42_5 (And.intro @ty_p42 (And.intro @ty_za42 (And.intro @ty_tz42 (And.intro @ty_zs42 (And.intro @ty_zv42 (And.intro @ty_dz42 (And.intro @ty_k43 (And.intro @ty_z43 (And.intro @ty_b43 (And.intro @ty_u43 (And.intro @ty_f43_0 (And.intro @ty_f43_1 (And.intro @ty_f43_2 (And.intro @ty_f43_3 (And.intro @ty_f43_4 (And.intro @ty_f43_5 (And.intro @ty_p43 (And.intro @ty_za43 (And.intro @ty_tz43 (And.intro @ty_zs43 (And.intro @ty_zv43 (And.intro @ty_dz43 (And.intro @ty_k44 (And.intro @ty_z44 (And.intro @ty_b44 (And.intro @ty_u44 (And.intro @ty_tz44 (And.intro @ty_zs44 (And.intro @ty_zv44 (And.intro @ty_dz44 (And.intro @ty_k45 (And.intro @ty_z45 (And.intro @ty_b45 (And.intro @ty_u45 (And.intro @ty_c45 (And.intro @ty_f45_0 (And.intro @ty_f45_1 (@ty_p45)))))))))))))))))))))))))))))))))))))))) (And.intro (And.intro @ty_za45 (And.intro @ty_tz45 (And.intro @ty_zs45 (And.intro @ty_zv45 (And.intro @ty_dz45 (And.intro @ty_k46 (And.intro @ty_z46 (And.intro @ty_b46 (And.intro @ty_u46 (And.intro @ty_c46 (And.intro @ty_f46_0 (And.intro @ty_f46_1 (And.intro @ty_p46 (And.intro @ty_za46 (And.intro @ty_tz46 (And.intro @ty_zs46 (And.intro @ty_zv46 (And.intro @ty_dz46 (And.intro @ty_k47 (And.intro @ty_z47 (And.intro @ty_b47 (And.intro @ty_u47 (And.intro @ty_f47_0 (And.intro @ty_f47_1 (And.intro @ty_f47_2 (And.intro @ty_f47_3 (And.intro @ty_f47_4 (And.intro @ty_f47_5 (And.intro @ty_p47 (And.intro @ty_za47 (And.intro @ty_tz47 (And.intro @ty_zs47 (And.intro @ty_zv47 (And.intro @ty_dz47 (And.intro @ty_k48 (And.intro @ty_z48 (And.intro @ty_b48 (And.intro @ty_u48 (And.intro @ty_f48_0 (@ty_f48_1)))))))))))))))))))))))))))))))))))))))) (And.intro (And.intro @ty_f48_2 (And.intro @ty_f48_3 (And.intro @ty_f48_4 (And.intro @ty_f48_5 (And.intro @ty_p48 (And.intro @ty_za48 (And.intro @ty_tz48 (And.intro @ty_zs48 (And.intro @ty_zv48 (And.intro @ty_dz48 (And.intro @ty_k49 (And.intro @ty_z49 (And.intro @ty_b49 (And.intro @ty_u49 (And.intro @ty_c49 (And.intro @ty_f49_0 (And.intro @ty_f49_1 (And.intro @ty_p49 (And.intro @ty_za49 (And.intro @ty_tz49 (And.intro @ty_zs49 (And.intro @ty_zv49 (And.intro @ty_dz49 (And.intro @ty_k50 (And.intro @ty_z50 (And.intro @ty_b50 (And.intro @ty_u50 (And.intro @ty_c50 (And.intro @ty_f50_0 (And.intro @ty_f50_1 (And.intro @ty_p50 (And.intro @ty_za50 (And.intro @ty_tz50 (And.intro @ty_zs50 (And.intro @ty_zv50 (And.intro @ty_dz50 (And.intro @ty_k51 (And.intro @ty_z51 (And.intro @ty_b51 (@ty_u51)))))))))))))))))))))))))))))))))))))))) (And.intro (And.intro @ty_f51_0 (And.intro @ty_f51_1 (And.intro @ty_f51_2 (And.intro @ty_p51 (And.intro @ty_za51 (And.intro @ty_tz51 (And.intro @ty_zs51 (And.intro @ty_zv51 (And.intro @ty_dz51 (And.intro @ty_k52 (And.intro @ty_z52 (And.intro @ty_b52 (And.intro @ty_u52 (And.intro @ty_f52_0 (And.intro @ty_f52_1 (And.intro @ty_f52_2 (And.intro @ty_p52 (And.intro @ty_za52 (And.intro @ty_tz52 (And.intro @ty_zs52 (And.intro @ty_zv52 (And.intro @ty_dz52 (And.intro @ty_k53 (And.intro @ty_z53 (And.intro @ty_b53 (And.intro @ty_u53 (And.intro @ty_tz53 (And.intro @ty_zs53 (And.intro @ty_zv53 (And.intro @ty_dz53 (And.intro @ty_k54 (And.intro @ty_z54 (And.intro @ty_b54 (And.intro @ty_u54 (And.intro @ty_tz54 (And.intro @ty_zs54 (And.intro @ty_zv54 (And.intro @ty_dz54 (And.intro @ty_k55 (@ty_z55)))))))))))))))))))))))))))))))))))))))) (And.intro (And.intro @ty_b55 (And.intro @ty_u55 (And.intro @ty_tz55 (And.intro @ty_zs55 (And.intro @ty_zv55 (And.intro @ty_dz55 (And.intro @ty_k56 (And.intro @ty_z56 (And.intro @ty_b56 (And.intro @ty_u56 (And.intro @ty_tz56 (And.intro @ty_zs56 (And.intro @ty_zv56 (And.intro @ty_dz56 (And.intro @ty_k57 (And.intro @ty_z57 (And.intro @ty_m57 (And.intro @ty_b57 (And.intro @ty_u57 (And.intro @ty_tz57 (And.intro @ty_zs57 (And.intro @ty_zv57 (And.intro @ty_dz57 (And.intro @ty_k58 (And.intro @ty_z58 (And.intro @ty_b58 (And.intro @ty_u58 (And.intro @ty_zv58 (And.intro @ty_k59 (And.intro @ty_z59 (And.intro @ty_b59 (And.intro @ty_u59 (And.intro @ty_tz59 (And.intro @ty_zs59 (And.intro @ty_zv59 (And.intro @ty_dz59 (And.intro @ty_k60 (And.intro @ty_z60 (And.intro @ty_b60 (@ty_u60)))))))))))))))))))))))))))))))))))))))) (And.intro (And.intro @ty_tz60 (And.intro @ty_zs60 (And.intro @ty_zv60 (And.intro @ty_dz60 (And.intro @ty_k61 (And.intro @ty_z61 (And.intro @ty_b61 (And.intro @ty_u61 (And.intro @ty_tz61 (And.intro @ty_zs61 (And.intro @ty_zv61 (And.intro @ty_dz61 (And.intro @ty_k62 (And.intro @ty_z62 (And.intro @ty_b62 (And.intro @ty_u62 (And.intro @ty_tz62 (And.intro @ty_zs62 (And.intro @ty_zv62 (And.intro @ty_dz62 (And.intro @ty_k63 (And.intro @ty_z63 (And.intro @ty_b63 (And.intro @ty_u63 (And.intro @ty_tz63 (And.intro @ty_zs63 (And.intro @ty_zv63 (And.intro @ty_dz63 (And.intro @ty_k64 (And.intro @ty_z64 (And.intro @ty_b64 (And.intro @ty_u64 (And.intro @ty_tz64 (And.intro @ty_zs64 (And.intro @ty_zv64 (And.intro @ty_dz64 (And.intro @ty_k65 (And.intro @ty_z65 (And.intro @ty_b65 (@ty_u65)))))))))))))))))))))))))))))))))))))))) (And.intro (And.intro @ty_tz65 (And.intro @ty_zs65 (And.intro @ty_zv65 (And.intro @ty_dz65 (And.intro @ty_k66 (And.intro @ty_z66 (And.intro @ty_b66 (And.intro @ty_u66 (And.intro @ty_tz66 (And.intro @ty_zs66 (And.intro @ty_zv66 (And.intro @ty_dz66 (And.intro @ty_k67 (And.intro @ty_z67 (And.intro @ty_b67 (And.intro @ty_u67 (And.intro @ty_tz67 (And.intro @ty_zs67 (And.intro @ty_zv67 (And.intro @ty_dz67 (And.intro @ty_k68 (And.intro @ty_z68 (And.intro @ty_b68 (And.intro @ty_u68 (And.intro @ty_tz68 (And.intro @ty_zs68 (And.intro @ty_zv68 (And.intro @ty_dz68 (And.intro @ty_k69 (And.intro @ty_z69 (And.intro @ty_b69 (And.intro @ty_u69 (And.intro @ty_tz69 (And.intro @ty_zs69 (And.intro @ty_zv69 (And.intro @ty_dz69 (And.intro @ty_k70 (And.intro @ty_z70 (And.intro @ty_b70 (@ty_u70)))))))))))))))))))))))))))))))))))))))) (And.intro (And.intro @ty_tz70 (And.intro @ty_zs70 (And.intro @ty_zv70 (And.intro @ty_dz70 (And.intro @ty_k71 (And.intro @ty_z71 (And.intro @ty_b71 (And.intro @ty_u71 (And.intro @ty_tz71 (And.intro @ty_zs71 (And.intro @ty_zv71 (And.intro @ty_dz71 (And.intro @ty_k72 (And.intro @ty_z72 (And.intro @ty_b72 (And.intro @ty_u72 (And.intro @ty_tz72 (And.intro @ty_zs72 (And.intro @ty_zv72 (And.intro @ty_dz72 (And.intro @ty_k73 (And.intro @ty_z73 (And.intro @ty_b73 (And.intro @ty_u73 (And.intro @ty_tz73 (And.intro @ty_zs73 (And.intro @ty_zv73 (And.intro @ty_dz73 (And.intro @ty_k74 (And.intro @ty_z74 (And.intro @ty_b74 (And.intro @ty_u74 (And.intro @ty_tz74 (And.intro @ty_zs74 (And.intro @ty_zv74 (And.intro @ty_dz74 (And.intro @ty_k75 (And.intro @ty_z75 (And.intro @ty_b75 (@ty_u75)))))))))))))))))))))))))))))))))))))))) (And.intro (And.intro @ty_tz75 (And.intro @ty_zs75 (And.intro @ty_zv75 (And.intro @ty_dz75 (And.intro @ty_k76 (And.intro @ty_z76 (And.intro @ty_b76 (And.intro @ty_u76 (And.intro @ty_tz76 (And.intro @ty_zs76 (And.intro @ty_zv76 (And.intro @ty_dz76 (And.intro @ty_k77 (And.intro @ty_z77 (And.intro @ty_b77 (And.intro @ty_i77 (And.intro @ty_u77 (And.intro @ty_tz77 (And.intro @ty_zs77 (And.intro @ty_zv77 (And.intro @ty_dz77 (And.intro @ty_k78 (And.intro @ty_z78 (And.intro @ty_b78 (And.intro @ty_u78 (And.intro @ty_tz78 (And.intro @ty_zs78 (And.intro @ty_zv78 (And.intro @ty_dz78 (And.intro @ty_k79 (And.intro @ty_z79 (And.intro @ty_b79 (And.intro @ty_u79 (And.intro @ty_tz79 (And.intro @ty_zs79 (And.intro @ty_zv79 (And.intro @ty_dz79 (And.intro @ty_k80 (And.intro @ty_z80 (@ty_b80)))))))))))))))))))))))))))))))))))))))) (And.intro (And.intro @ty_u80 (And.intro @ty_f80_0 (And.intro @ty_f80_1 (And.intro @ty_f80_2 (And.intro @ty_f80_3 (And.intro @ty_p80 (And.intro @ty_za80 (And.intro @ty_tz80 (And.intro @ty_zs80 (And.intro @ty_zv80 (And.intro @ty_dz80 (And.intro @ty_k81 (And.intro @ty_z81 (And.intro @ty_b81 (And.intro @ty_u81 (And.intro @ty_f81_0 (And.intro @ty_f81_1 (And.intro @ty_f81_2 (And.intro @ty_f81_3 (And.intro @ty_p81 (And.intro @ty_za81 (And.intro @ty_tz81 (And.intro @ty_zs81 (And.intro @ty_zv81 (And.intro @ty_dz81 (And.intro @ty_k82 (And.intro @ty_z82 (And.intro @ty_b82 (And.intro @ty_x82 (And.intro @ty_u82 (And.intro @ty_p82 (And.intro @ty_za82 (And.intro @ty_tz82 (And.intro @ty_zs82 (And.intro @ty_zv82 (And.intro @ty_dz82 (And.intro @ty_k83 (And.intro @ty_z83 (And.intro @ty_b83 (@ty_u83)))))))))))))))))))))))))))))))))))))))) (And.intro (And.intro @ty_f83_0 (And.intro @ty_p83 (And.intro @ty_za83 (And.intro @ty_tz83 (And.intro @ty_zs83 (And.intro @ty_zv83 (And.intro @ty_dz83 (And.intro @ty_k84 (And.intro @ty_z84 (And.intro @ty_b84 (And.intro @ty_u84 (And.intro @ty_f84_0 (And.intro @ty_p84 (And.intro @ty_za84 (And.intro @ty_tz84 (And.intro @ty_zs84 (And.intro @ty_zv84 (And.intro @ty_dz84 (And.intro @ty_k85 (And.intro @ty_z85 (And.intro @ty_b85 (And.intro @ty_u85 (And.intro @ty_tz85 (And.intro @ty_zs85 (And.intro @ty_zv85 (And.intro @ty_dz85 (And.intro @ty_k86 (And.intro @ty_z86 (And.intro @ty_b86 (And.intro @ty_i86 (And.intro @ty_u86 (And.intro @ty_tz86 (And.intro @ty_zs86 (And.intro @ty_zv86 (And.intro @ty_dz86 (And.intro @ty_k87 (And.intro @ty_z87 (And.intro @ty_b87 (And.intro @ty_i87 (@ty_u87)))))))))))))))))))))))))))))))))))))))) (And.intro (And.intro @ty_tz87 (And.intro @ty_zs87 (And.intro @ty_zv87 (And.intro @ty_dz87 (And.intro @ty_k88 (And.intro @ty_z88 (And.intro @ty_b88 (And.intro @ty_i88 (And.intro @ty_u88 (And.intro @ty_tz88 (And.intro @ty_zs88 (And.intro @ty_zv88 (And.intro @ty_dz88 (And.intro @ty_k89 (And.intro @ty_z89 (And.intro @ty_b89 (And.intro @ty_u89 (And.intro @ty_tz89 (And.intro @ty_zs89 (And.intro @ty_zv89 (And.intro @ty_dz89 (And.intro @ty_k90 (And.intro @ty_z90 (And.intro @ty_pt90 (And.intro @ty_b90 (And.intro @ty_u90 (And.intro @ty_tz90 (And.intro @ty_zs90 (And.intro @ty_zv90 (And.intro @ty_dz90 (And.intro @ty_k91 (And.intro @ty_z91 (And.intro @ty_b91 (And.intro @ty_i91 (And.intro @ty_u91 (And.intro @ty_tz91 (And.intro @ty_zs91 (And.intro @ty_zv91 (And.intro @ty_dz91 (@ty_k92)))))))))))))))))))))))))))))))))))))))) (And.intro (And.intro @ty_z92 (And.intro @ty_b92 (And.intro @ty_i92 (And.intro @ty_u92 (And.intro @ty_tz92 (And.intro @ty_zs92 (And.intro @ty_zv92 (And.intro @ty_dz92 (And.intro @ty_k93 (And.intro @ty_z93 (And.intro @ty_b93 (And.intro @ty_u93 (And.intro @ty_f93_0 (And.intro @ty_f93_1 (And.intro @ty_f93_2 (And.intro @ty_f93_3 (And.intro @ty_f93_4 (And.intro @ty_f93_5 (And.intro @ty_f93_6 (And.intro @ty_f93_7 (And.intro @ty_f93_8 (And.intro @ty_f93_9 (And.intro @ty_f93_10 (And.intro @ty_p93 (And.intro @ty_za93 (And.intro @ty_tz93 (And.intro @ty_zs93 (And.intro @ty_zv93 (And.intro @ty_dz93 (And.intro @ty_k94 (And.intro @ty_z94 (And.intro @ty_b94 (And.intro @ty_u94 (And.intro @ty_f94_0 (And.intro @ty_f94_1 (And.intro @ty_f94_2 (And.intro @ty_f94_3 (And.intro @ty_f94_4 (And.intro @ty_f94_5 (@ty_f94_6)))))))))))))))))))))))))))))))))))))))) (And.intro @ty_f94_7 (And.intro @ty_f94_8 (And.intro @ty_f94_9 (And.intro @ty_f94_10 (And.intro @ty_p94 (And.intro @ty_za94 (And.intro @ty_tz94 (And.intro @ty_zs94 (And.intro @ty_zv94 (And.intro @ty_dz94 (And.intro @ty_k95 (And.intro @ty_z95 (And.intro @ty_b95 (And.intro @ty_u95 (And.intro @ty_tz95 (And.intro @ty_zs95 (And.intro @ty_zv95 (@ty_dz95))))))))))))))))))))))))))))))))))))))))) := And.intro (And.intro @ty_k0 (And.intro @ty_z0 (And.intro @ty_b0 (And.intro @ty_u0 (And.intro @ty_zv0 (And.intro @ty_k1 (And.intro @ty_z1 (And.intro @ty_b1 (And.intro @ty_u1 (And.intro @ty_tz1 (And.intro @ty_zs1 (And.intro @ty_zv1 (And.intro @ty_dz1 (And.intro @ty_k2 (And.intro @ty_z2 (And.intro @ty_b2 (And.intro @ty_i2 (And.intro @ty_u2 (And.intro @ty_tz2 (And.intro @ty_zs2 (And.intro @ty_zv2 (And.intro @ty_dz2 (And.intro @ty_k3 (And.intro @ty_z3 (And.intro @ty_b3 (And.intro @ty_i3 (And.intro @ty_u3 (And.intro @ty_tz3 (And.intro @ty_zs3 (And.intro @ty_zv3 (And.intro @ty_dz3 (And.intro @ty_k4 (And.intro @ty_z4 (And.intro @ty_b4 (And.intro @ty_u4 (And.intro @ty_bo4 (And.intro @ty_tz4 (And.intro @ty_zs4 (And.intro @ty_zv4 (@ty_dz4)))))))))))))))))))))))))))))))))))))))) (And.intro (And.intro @ty_k5 (And.intro @ty_z5 (And.intro @ty_b5 (And.intro @ty_i5 (And.intro @ty_u5 (And.intro @ty_tz5 (And.intro @ty_zs5 (And.intro @ty_zv5 (And.intro @ty_dz5 (And.intro @ty_k6 (And.intro @ty_z6 (And.intro @ty_b6 (And.intro @ty_i6 (And.intro @ty_u6 (And.intro @ty_tz6 (And.intro @ty_zs6 (And.intro @ty_zv6 (And.intro @ty_dz6 (And.intro @ty_k7 (And.intro @ty_z7 (And.intro @ty_b7 (And.intro @ty_u7 (And.intro @ty_c7 (And.intro @ty_f7_0 (And.intro @ty_f7_1 (And.intro @ty_f7_2 (And.intro @ty_f7_3 (And.intro @ty_p7 (And.intro @ty_za7 (And.intro @ty_tz7 (And.intro @ty_zs7 (And.intro @ty_zv7 (And.intro @ty_dz7 (And.intro @ty_k8 (And.intro @ty_z8 (And.intro @ty_b8 (And.intro @ty_u8 (And.intro @ty_c8 (And.intro @ty_f8_0 (@ty_f8_1)))))))))))))))))))))))))))))))))))))))) (And.intro (And.intro @ty_f8_2 (And.intro @ty_f8_3 (And.intro @ty_p8 (And.intro @ty_za8 (And.intro @ty_tz8 (And.intro @ty_zs8 (And.intro @ty_zv8 (And.intro @ty_dz8 (And.intro @ty_k9 (And.intro @ty_z9 (And.intro @ty_b9 (And.intro @ty_s9 (And.intro @ty_u9 (And.intro @ty_tz9 (And.intro @ty_zs9 (And.intro @ty_zv9 (And.intro @ty_dz9 (And.intro @ty_k10 (And.intro @ty_z10 (And.intro @ty_b10 (And.intro @ty_s10 (And.intro @ty_u10 (And.intro @ty_tz10 (And.intro @ty_zs10 (And.intro @ty_zv10 (And.intro @ty_dz10 (And.intro @ty_k11 (And.intro @ty_z11 (And.intro @ty_b11 (And.intro @ty_s11 (And.intro @ty_u11 (And.intro @ty_tz11 (And.intro @ty_zs11 (And.intro @ty_zv11 (And.intro @ty_dz11 (And.intro @ty_k12 (And.intro @ty_z12 (And.intro @ty_b12 (And.intro @ty_i12 (@ty_u12)))))))))))))))))))))))))))))))))))))))) (And.intro (And.intro @ty_tz12 (And.intro @ty_zs12 (And.intro @ty_zv12 (And.intro @ty_dz12 (And.intro @ty_k13 (And.intro @ty_z13 (And.intro @ty_b13 (And.intro @ty_u13 (And.intro @ty_f13_0 (And.intro @ty_f13_1 (And.intro @ty_p13 (And.intro @ty_za13 (And.intro @ty_tz13 (And.intro @ty_zs13 (And.intro @ty_zv13 (And.intro @ty_dz13 (And.intro @ty_k14 (And.intro @ty_z14 (And.intro @ty_b14 (And.intro @ty_u14 (And.intro @ty_f14_0 (And.intro @ty_f14_1 (And.intro @ty_p14 (And.intro @ty_za14 (And.intro @ty_tz14 (And.intro @ty_zs14 (And.intro @ty_zv14 (And.intro @ty_dz14 (And.intro @ty_k15 (And.intro @ty_z15 (And.intro @ty_pt15 (And.intro @ty_b15 (And.intro @ty_u15 (And.intro @ty_tz15 (And.intro @ty_zs15 (And.intro @ty_zv15 (And.intro @ty_dz15 (And.intro @ty_k16 (And.intro @ty_z16 (@ty_pt16)))))))))))))))))))))))))))))))))))))))) (And.intro (And.intro @ty_b16 (And.intro @ty_u16 (And.intro @ty_tz16 (And.intro @ty_zs16 (And.intro @ty_zv16 (And.intro @ty_dz16 (And.intro @ty_k17 (And.intro @ty_z17 (And.intro @ty_pt17 (And.intro @ty_b17 (And.intro @ty_u17 (And.intro @ty_tz17 (And.intro @ty_zs17 (And.intro @ty_zv17 (And.intro @ty_dz17 (And.intro @ty_k18 (And.intro @ty_z18 (And.intro @ty_b18 (And.intro @ty_u18 (And.intro @ty_f18_0 (And.intro @ty_p18 (And.intro @ty_za18 (And.intro @ty_tz18 (And.intro @ty_zs18 (And.intro @ty_zv18 (And.intro @ty_dz18 (And.intro @ty_k19 (And.intro @ty_z19 (And.intro @ty_b19 (And.intro @ty_u19 (And.intro @ty_f19_0 (And.intro @ty_p19 (And.intro @ty_za19 (And.intro @ty_tz19 (And.intro @ty_zs19 (And.intro @ty_zv19 (And.intro @ty_dz19 (And.intro @ty_k20 (And.intro @ty_z20 (@ty_b20)))))))))))))))))))))))))))))))))))))))) (And.intro (And.intro @ty_u20 (And.intro @ty_tz20 (And.intro @ty_zs20 (And.intro @ty_zv20 (And.intro @ty_dz20 (And.intro @ty_k21 (And.intro @ty_z21 (And.intro @ty_b21 (And.intro @ty_i21 (And.intro @ty_u21 (And.intro @ty_tz21 (And.intro @ty_zs21 (And.intro @ty_zv21 (And.intro @ty_dz21 (And.intro @ty_k22 (And.intro @ty_z22 (And.intro @ty_e22 (And.intro @ty_ae22 (And.intro @ty_b22 (And.intro @ty_x22 (And.intro @ty_u22 (And.intro @ty_tz22 (And.intro @ty_zs22 (And.intro @ty_zv22 (And.intro @ty_dz22 (And.intro @ty_k23 (And.intro @ty_z23 (And.intro @ty_b23 (And.intro @ty_u23 (And.intro @ty_tz23 (And.intro @ty_zs23 (And.intro @ty_zv23 (And.intro @ty_dz23 (And.intro @ty_k24 (And.intro @ty_z24 (And.intro @ty_b24 (And.intro @ty_u24 (And.intro @ty_tz24 (And.intro @ty_zs24 (@ty_zv24)))))))))))))))))))))))))))))))))))))))) (And.intro (And.intro @ty_dz24 (And.intro @ty_k25 (And.intro @ty_z25 (And.intro @ty_b25 (And.intro @ty_u25 (And.intro @ty_tz25 (And.intro @ty_zs25 (And.intro @ty_zv25 (And.intro @ty_dz25 (And.intro @ty_k26 (And.intro @ty_z26 (And.intro @ty_e26 (And.intro @ty_ae26 (And.intro @ty_b26 (And.intro @ty_x26 (And.intro @ty_u26 (And.intro @ty_tz26 (And.intro @ty_zs26 (And.intro @ty_zv26 (And.intro @ty_dz26 (And.intro @ty_k27 (And.intro @ty_z27 (And.intro @ty_b27 (And.intro @ty_u27 (And.intro @ty_tz27 (And.intro @ty_zs27 (And.intro @ty_zv27 (And.intro @ty_dz27 (And.intro @ty_k28 (And.intro @ty_z28 (And.intro @ty_b28 (And.intro @ty_u28 (And.intro @ty_tz28 (And.intro @ty_zs28 (And.intro @ty_zv28 (And.intro @ty_dz28 (And.intro @ty_k29 (And.intro @ty_z29 (And.intro @ty_b29 (@ty_u29)))))))))))))))))))))))))))))))))))))))) (And.intro (And.intro @ty_tz29 (And.intro @ty_zs29 (And.intro @ty_zv29 (And.intro @ty_dz29 (And.intro @ty_k30 (And.intro @ty_z30 (And.intro @ty_b30 (And.intro @ty_i30 (And.intro @ty_u30 (And.intro @ty_tz30 (And.intro @ty_zs30 (And.intro @ty_zv30 (And.intro @ty_dz30 (And.intro @ty_k31 (And.intro @ty_z31 (And.intro @ty_b31 (And.intro @ty_u31 (And.intro @ty_tz31 (And.intro @ty_zs31 (And.intro @ty_zv31 (And.intro @ty_dz31 (And.intro @ty_k32 (And.intro @ty_z32 (And.intro @ty_b32 (And.intro @ty_u32 (And.intro @ty_tz32 (And.intro @ty_zs32 (And.intro @ty_zv32 (And.intro @ty_dz32 (And.intro @ty_k33 (And.intro @ty_z33 (And.intro @ty_b33 (And.intro @ty_u33 (And.intro @ty_zv33 (And.intro @ty_k34 (And.intro @ty_z34 (And.intro @ty_b34 (And.intro @ty_u34 (And.intro @ty_tz34 (@ty_zs34)))))))))))))))))))))))))))))))))))))))) (And.intro (And.intro @ty_zv34 (And.intro @ty_dz34 (And.intro @ty_k35 (And.intro @ty_z35 (And.intro @ty_b35 (And.intro @ty_u35 (And.intro @ty_tz35 (And.intro @ty_zs35 (And.intro @ty_zv35 (And.intro @ty_dz35 (And.intro @ty_k36 (And.intro @ty_z36 (And.intro @ty_b36 (And.intro @ty_u36 (And.intro @ty_tz36 (And.intro @ty_zs36 (And.intro @ty_zv36 (And.intro @ty_dz36 (And.intro @ty_k37 (And.intro @ty_z37 (And.intro @ty_b37 (And.intro @ty_u37 (And.intro @ty_tz37 (And.intro @ty_zs37 (And.intro @ty_zv37 (And.intro @ty_dz37 (And.intro @ty_k38 (And.intro @ty_z38 (And.intro @ty_b38 (And.intro @ty_i38 (And.intro @ty_u38 (And.intro @ty_tz38 (And.intro @ty_zs38 (And.intro @ty_zv38 (And.intro @ty_dz38 (And.intro @ty_k39 (And.intro @ty_z39 (And.intro @ty_b39 (And.intro @ty_u39 (@ty_c39)))))))))))))))))))))))))))))))))))))))) (And.intro (And.intro @ty_f39_0 (And.intro @ty_f39_1 (And.intro @ty_p39 (And.intro @ty_za39 (And.intro @ty_tz39 (And.intro @ty_zs39 (And.intro @ty_zv39 (And.intro @ty_dz39 (And.intro @ty_k40 (And.intro @ty_z40 (And.intro @ty_b40 (And.intro @ty_u40 (And.intro @ty_c40 (And.intro @ty_f40_0 (And.intro @ty_f40_1 (And.intro @ty_p40 (And.intro @ty_za40 (And.intro @ty_tz40 (And.intro @ty_zs40 (And.intro @ty_zv40 (And.intro @ty_dz40 (And.intro @ty_k41 (And.intro @ty_z41 (And.intro @ty_e41 (And.intro @ty_ae41 (And.intro @ty_b41 (And.intro @ty_x41 (And.intro @ty_u41 (And.intro @ty_tz41 (And.intro @ty_zs41 (And.intro @ty_zv41 (And.intro @ty_dz41 (And.intro @ty_k42 (And.intro @ty_z42 (And.intro @ty_b42 (And.intro @ty_u42 (And.intro @ty_f42_0 (And.intro @ty_f42_1 (And.intro @ty_f42_2 (@ty_f42_3)))))))))))))))))))))))))))))))))))))))) (And.intro (And.intro @ty_f42_4 (And.intro @ty_f42_5 (And.intro @ty_p42 (And.intro @ty_za42 (And.intro @ty_tz42 (And.intro @ty_zs42 (And.intro @ty_zv42 (And.intro @ty_dz42 (And.intro @ty_k43 (And.intro @ty_z43 (And.intro @ty_b43 (And.intro @ty_u43 (And.intro @ty_f43_0 (And.intro @ty_f43_1 (And.intro @ty_f43_2 (And.intro @ty_f43_3 (And.intro @ty_f43_4 (And.intro @ty_f43_5 (And.intro @ty_p43 (And.intro @ty_za43 (And.intro @ty_tz43 (And.intro @ty_zs43 (And.intro @ty_zv43 (And.intro @ty_dz43 (And.intro @ty_k44 (And.intro @ty_z44 (And.intro @ty_b44 (And.intro @ty_u44 (And.intro @ty_tz44 (And.intro @ty_zs44 (And.intro @ty_zv44 (And.intro @ty_dz44 (And.intro @ty_k45 (And.intro @ty_z45 (And.intro @ty_b45 (And.intro @ty_u45 (And.intro @ty_c45 (And.intro @ty_f45_0 (And.intro @ty_f45_1 (@ty_p45)))))))))))))))))))))))))))))))))))))))) (And.intro (And.intro @ty_za45 (And.intro @ty_tz45 (And.intro @ty_zs45 (And.intro @ty_zv45 (And.intro @ty_dz45 (And.intro @ty_k46 (And.intro @ty_z46 (And.intro @ty_b46 (And.intro @ty_u46 (And.intro @ty_c46 (And.intro @ty_f46_0 (And.intro @ty_f46_1 (And.intro @ty_p46 (And.intro @ty_za46 (And.intro @ty_tz46 (And.intro @ty_zs46 (And.intro @ty_zv46 (And.intro @ty_dz46 (And.intro @ty_k47 (And.intro @ty_z47 (And.intro @ty_b47 (And.intro @ty_u47 (And.intro @ty_f47_0 (And.intro @ty_f47_1 (And.intro @ty_f47_2 (And.intro @ty_f47_3 (And.intro @ty_f47_4 (And.intro @ty_f47_5 (And.intro @ty_p47 (And.intro @ty_za47 (And.intro @ty_tz47 (And.intro @ty_zs47 (And.intro @ty_zv47 (And.intro @ty_dz47 (And.intro @ty_k48 (And.intro @ty_z48 (And.intro @ty_b48 (And.intro @ty_u48 (And.intro @ty_f48_0 (@ty_f48_1)))))))))))))))))))))))))))))))))))))))) (And.intro (And.intro @ty_f48_2 (And.intro @ty_f48_3 (And.intro @ty_f48_4 (And.intro @ty_f48_5 (And.intro @ty_p48 (And.intro @ty_za48 (And.intro @ty_tz48 (And.intro @ty_zs48 (And.intro @ty_zv48 (And.intro @ty_dz48 (And.intro @ty_k49 (And.intro @ty_z49 (And.intro @ty_b49 (And.intro @ty_u49 (And.intro @ty_c49 (And.intro @ty_f49_0 (And.intro @ty_f49_1 (And.intro @ty_p49 (And.intro @ty_za49 (And.intro @ty_tz49 (And.intro @ty_zs49 (And.intro @ty_zv49 (And.intro @ty_dz49 (And.intro @ty_k50 (And.intro @ty_z50 (And.intro @ty_b50 (And.intro @ty_u50 (And.intro @ty_c50 (And.intro @ty_f50_0 (And.intro @ty_f50_1 (And.intro @ty_p50 (And.intro @ty_za50 (And.intro @ty_tz50 (And.intro @ty_zs50 (And.intro @ty_zv50 (And.intro @ty_dz50 (And.intro @ty_k51 (And.intro @ty_z51 (And.intro @ty_b51 (@ty_u51)))))))))))))))))))))))))))))))))))))))) (And.intro (And.intro @ty_f51_0 (And.intro @ty_f51_1 (And.intro @ty_f51_2 (And.intro @ty_p51 (And.intro @ty_za51 (And.intro @ty_tz51 (And.intro @ty_zs51 (And.intro @ty_zv51 (And.intro @ty_dz51 (And.intro @ty_k52 (And.intro @ty_z52 (And.intro @ty_b52 (And.intro @ty_u52 (And.intro @ty_f52_0 (And.intro @ty_f52_1 (And.intro @ty_f52_2 (And.intro @ty_p52 (And.intro @ty_za52 (And.intro @ty_tz52 (And.intro @ty_zs52 (And.intro @ty_zv52 (And.intro @ty_dz52 (And.intro @ty_k53 (And.intro @ty_z53 (And.intro @ty_b53 (And.intro @ty_u53 (And.intro @ty_tz53 (And.intro @ty_zs53 (And.intro @ty_zv53 (And.intro @ty_dz53 (And.intro @ty_k54 (And.intro @ty_z54 (And.intro @ty_b54 (And.intro @ty_u54 (And.intro @ty_tz54 (And.intro @ty_zs54 (And.intro @ty_zv54 (And.intro @ty_dz54 (And.intro @ty_k55 (@ty_z55)))))))))))))))))))))))))))))))))))))))) (And.intro (And.intro @ty_b55 (And.intro @ty_u55 (And.intro @ty_tz55 (And.intro @ty_zs55 (And.intro @ty_zv55 (And.intro @ty_dz55 (And.intro @ty_k56 (And.intro @ty_z56 (And.intro @ty_b56 (And.intro @ty_u56 (And.intro @ty_tz56 (And.intro @ty_zs56 (And.intro @ty_zv56 (And.intro @ty_dz56 (And.intro @ty_k57 (And.intro @ty_z57 (And.intro @ty_m57 (And.intro @ty_b57 (And.intro @ty_u57 (And.intro @ty_tz57 (And.intro @ty_zs57 (And.intro @ty_zv57 (And.intro @ty_dz57 (And.intro @ty_k58 (And.intro @ty_z58 (And.intro @ty_b58 (And.intro @ty_u58 (And.intro @ty_zv58 (And.intro @ty_k59 (And.intro @ty_z59 (And.intro @ty_b59 (And.intro @ty_u59 (And.intro @ty_tz59 (And.intro @ty_zs59 (And.intro @ty_zv59 (And.intro @ty_dz59 (And.intro @ty_k60 (And.intro @ty_z60 (And.intro @ty_b60 (@ty_u60)))))))))))))))))))))))))))))))))))))))) (And.intro (And.intro @ty_tz60 (And.intro @ty_zs60 (And.intro @ty_zv60 (And.intro @ty_dz60 (And.intro @ty_k61 (And.intro @ty_z61 (And.intro @ty_b61 (And.intro @ty_u61 (And.intro @ty_tz61 (And.intro @ty_zs61 (And.intro @ty_zv61 (And.intro @ty_dz61 (And.intro @ty_k62 (And.intro @ty_z62 (And.intro @ty_b62 (And.intro @ty_u62 (And.intro @ty_tz62 (And.intro @ty_zs62 (And.intro @ty_zv62 (And.intro @ty_dz62 (And.intro @ty_k63 (And.intro @ty_z63 (And.intro @ty_b63 (And.intro @ty_u63 (And.intro @ty_tz63 (And.intro @ty_zs63 (And.intro @ty_zv63 (And.intro @ty_dz63 (And.intro @ty_k64 (And.intro @ty_z64 (And.intro @ty_b64 (And.intro @ty_u64 (And.intro @ty_tz64 (And.intro @ty_zs64 (And.intro @ty_zv64 (And.intro @ty_dz64 (And.intro @ty_k65 (And.intro @ty_z65 (And.intro @ty_b65 (@ty_u65)))))))))))))))))))))))))))))))))))))))) (And.intro (And.intro @ty_tz65 (And.intro @ty_zs65 (And.intro @ty_zv65 (And.intro @ty_dz65 (And.intro @ty_k66 (And.intro @ty_z66 (And.intro @ty_b66 (And.intro @ty_u66 (And.intro @ty_tz66 (And.intro @ty_zs66 (And.intro @ty_zv66 (And.intro @ty_dz66 (And.intro @ty_k67 (And.intro @ty_z67 (And.intro @ty_b67 (And.intro @ty_u67 (And.intro @ty_tz67 (And.intro @ty_zs67 (And.intro @ty_zv67 (And.intro @ty_dz67 (And.intro @ty_k68 (And.intro @ty_z68 (And.intro @ty_b68 (And.intro @ty_u68 (And.intro @ty_tz68 (And.intro @ty_zs68 (And.intro @ty_zv68 (And.intro @ty_dz68 (And.intro @ty_k69 (And.intro @ty_z69 (And.intro @ty_b69 (And.intro @ty_u69 (And.intro @ty_tz69 (And.intro @ty_zs69 (And.intro @ty_zv69 (And.intro @ty_dz69 (And.intro @ty_k70 (And.intro @ty_z70 (And.intro @ty_b70 (@ty_u70)))))))))))))))))))))))))))))))))))))))) (And.intro (And.intro @ty_tz70 (And.intro @ty_zs70 (And.intro @ty_zv70 (And.intro @ty_dz70 (And.intro @ty_k71 (And.intro @ty_z71 (And.intro @ty_b71 (And.intro @ty_u71 (And.intro @ty_tz71 (And.intro @ty_zs71 (And.intro @ty_zv71 (And.intro @ty_dz71 (And.intro @ty_k72 (And.intro @ty_z72 (And.intro @ty_b72 (And.intro @ty_u72 (And.intro @ty_tz72 (And.intro @ty_zs72 (And.intro @ty_zv72 (And.intro @ty_dz72 (And.intro @ty_k73 (And.intro @ty_z73 (And.intro @ty_b73 (And.intro @ty_u73 (And.intro @ty_tz73 (And.intro @ty_zs73 (And.intro @ty_zv73 (And.intro @ty_dz73 (And.intro @ty_k74 (And.intro @ty_z74 (And.intro @ty_b74 (And.intro @ty_u74 (And.intro @ty_tz74 (And.intro @ty_zs74 (And.intro @ty_zv74 (And.intro @ty_dz74 (And.intro @ty_k75 (And.intro @ty_z75 (And.intro @ty_b75 (@ty_u75)))))))))))))))))))))))))))))))))))))))) (And.intro (And.intro @ty_tz75 (And.intro @ty_zs75 (And.intro @ty_zv75 (And.intro @ty_dz75 (And.intro @ty_k76 (And.intro @ty_z76 (And.intro @ty_b76 (And.intro @ty_u76 (And.intro @ty_tz76 (And.intro @ty_zs76 (And.intro @ty_zv76 (And.intro @ty_dz76 (And.intro @ty_k77 (And.intro @ty_z77 (And.intro @ty_b77 (And.intro @ty_i77 (And.intro @ty_u77 (And.intro @ty_tz77 (And.intro @ty_zs77 (And.intro @ty_zv77 (And.intro @ty_dz77 (And.intro @ty_k78 (And.intro @ty_z78 (And.intro @ty_b78 (And.intro @ty_u78 (And.intro @ty_tz78 (And.intro @ty_zs78 (And.intro @ty_zv78 (And.intro @ty_dz78 (And.intro @ty_k79 (And.intro @ty_z79 (And.intro @ty_b79 (And.intro @ty_u79 (And.intro @ty_tz79 (And.intro @ty_zs79 (And.intro @ty_zv79 (And.intro @ty_dz79 (And.intro @ty_k80 (And.intro @ty_z80 (@ty_b80)))))))))))))))))))))))))))))))))))))))) (And.intro (And.intro @ty_u80 (And.intro @ty_f80_0 (And.intro @ty_f80_1 (And.intro @ty_f80_2 (And.intro @ty_f80_3 (And.intro @ty_p80 (And.intro @ty_za80 (And.intro @ty_tz80 (And.intro @ty_zs80 (And.intro @ty_zv80 (And.intro @ty_dz80 (And.intro @ty_k81 (And.intro @ty_z81 (And.intro @ty_b81 (And.intro @ty_u81 (And.intro @ty_f81_0 (And.intro @ty_f81_1 (And.intro @ty_f81_2 (And.intro @ty_f81_3 (And.intro @ty_p81 (And.intro @ty_za81 (And.intro @ty_tz81 (And.intro @ty_zs81 (And.intro @ty_zv81 (And.intro @ty_dz81 (And.intro @ty_k82 (And.intro @ty_z82 (And.intro @ty_b82 (And.intro @ty_x82 (And.intro @ty_u82 (And.intro @ty_p82 (And.intro @ty_za82 (And.intro @ty_tz82 (And.intro @ty_zs82 (And.intro @ty_zv82 (And.intro @ty_dz82 (And.intro @ty_k83 (And.intro @ty_z83 (And.intro @ty_b83 (@ty_u83)))))))))))))))))))))))))))))))))))))))) (And.intro (And.intro @ty_f83_0 (And.intro @ty_p83 (And.intro @ty_za83 (And.intro @ty_tz83 (And.intro @ty_zs83 (And.intro @ty_zv83 (And.intro @ty_dz83 (And.intro @ty_k84 (And.intro @ty_z84 (And.intro @ty_b84 (And.intro @ty_u84 (And.intro @ty_f84_0 (And.intro @ty_p84 (And.intro @ty_za84 (And.intro @ty_tz84 (And.intro @ty_zs84 (And.intro @ty_zv84 (And.intro @ty_dz84 (And.intro @ty_k85 (And.intro @ty_z85 (And.intro @ty_b85 (And.intro @ty_u85 (And.intro @ty_tz85 (And.intro @ty_zs85 (And.intro @ty_zv85 (And.intro @ty_dz85 (And.intro @ty_k86 (And.intro @ty_z86 (And.intro @ty_b86 (And.intro @ty_i86 (And.intro @ty_u86 (And.intro @ty_tz86 (And.intro @ty_zs86 (And.intro @ty_zv86 (And.intro @ty_dz86 (And.intro @ty_k87 (And.intro @ty_z87 (And.intro @ty_b87 (And.intro @ty_i87 (@ty_u87)))))))))))))))))))))))))))))))))))))))) (And.intro (And.intro @ty_tz87 (And.intro @ty_zs87 (And.intro @ty_zv87 (And.intro @ty_dz87 (And.intro @ty_k88 (And.intro @ty_z88 (And.intro @ty_b88 (And.intro @ty_i88 (And.intro @ty_u88 (And.intro @ty_tz88 (And.intro @ty_zs88 (And.intro @ty_zv88 (And.intro @ty_dz88 (And.intro @ty_k89 (And.intro @ty_z89 (And.intro @ty_b89 (And.intro @ty_u89 (And.intro @ty_tz89 (And.intro @ty_zs89 (And.intro @ty_zv89 (And.intro @ty_dz89 (And.intro @ty_k90 (And.intro @ty_z90 (And.intro @ty_pt90 (And.intro @ty_b90 (And.intro @ty_u90 (And.intro @ty_tz90 (And.intro @ty_zs90 (And.intro @ty_zv90 (And.intro @ty_dz90 (And.intro @ty_k91 (And.intro @ty_z91 (And.intro @ty_b91 (And.intro @ty_i91 (And.intro @ty_u91 (And.intro @ty_tz91 (And.intro @ty_zs91 (And.intro @ty_zv91 (And.intro @ty_dz91 (@ty_k92)))))))))))))))))))))))))))))))))))))))) (And.intro (And.intro @ty_z92 (And.intro @ty_b92 (And.intro @ty_i92 (And.intro @ty_u92 (And.intro @ty_tz92 (And.intro @ty_zs92 (And.intro @ty_zv92 (And.intro @ty_dz92 (And.intro @ty_k93 (And.intro @ty_z93 (And.intro @ty_b93 (And.intro @ty_u93 (And.intro @ty_f93_0 (And.intro @ty_f93_1 (And.intro @ty_f93_2 (And.intro @ty_f93_3 (And.intro @ty_f93_4 (And.intro @ty_f93_5 (And.intro @ty_f93_6 (And.intro @ty_f93_7 (And.intro @ty_f93_8 (And.intro @ty_f93_9 (And.intro @ty_f93_10 (And.intro @ty_p93 (And.intro @ty_za93 (And.intro @ty_tz93 (And.intro @ty_zs93 (And.intro @ty_zv93 (And.intro @ty_dz93 (And.intro @ty_k94 (And.intro @ty_z94 (And.intro @ty_b94 (And.intro @ty_u94 (And.intro @ty_f94_0 (And.intro @ty_f94_1 (And.intro @ty_f94_2 (And.intro @ty_f94_3 (And.intro @ty_f94_4 (And.intro @ty_f94_5 (@ty_f94_6)))))))))))))))))))))))))))))))))))))))) (And.intro @ty_f94_7 (And.intro @ty_f94_8 (And.intro @ty_f94_9 (And.intro @ty_f94_10 (And.intro @ty_p94 (And.intro @ty_za94 (And.intro @ty_tz94 (And.intro @ty_zs94 (And.intro @ty_zv94 (And.intro @ty_dz94 (And.intro @ty_k95 (And.intro @ty_z95 (And.intro @ty_b95 (And.intro @ty_u95 (And.intro @ty_tz95 (And.intro @ty_zs95 (And.intro @ty_zv95 (@ty_dz95))))))))))))))))))))))))))))))))))))))))
end Ytgebmgahfpnjaaa
end Go.Proofs
