/- A part of the proof: contracts of functions of this seat, and lemmas. No condition beyond those stated. -/
import Derived.Test.YtkoebmjenkajdaaDoorG4
import Derived.Test.YtkoebmjenkajdaaDoorProg
set_option linter.unusedVariables false
set_option linter.unusedSimpArgs false
set_option linter.unusedSectionVars false
set_option linter.unnecessarySimpa false
/- Facts of the types of this seat, printed by a small program. -/
namespace Go.Proofs
open Go.AM
namespace YtkoebmjenkajdaaDoor
theorem ty_k0 : tkind Tryd.prog 0 = some false := by kernel_rfl
theorem ty_z0 : tsz Tryd.prog 0 = some 1 := by kernel_rfl
theorem ty_b0 : tbytes Tryd.prog 0 = some 0 := by kernel_rfl
theorem ty_u0 : (Tryd.prog.underlying 0).isSome = true := by kernel_rfl
theorem ty_zv0 : zeroV Tryd.prog 0 = .undef := by kernel_rfl
theorem ty_k1 : tkind Tryd.prog 1 = some false := by kernel_rfl
theorem ty_z1 : tsz Tryd.prog 1 = some 1 := by kernel_rfl
theorem ty_b1 : tbytes Tryd.prog 1 = some 8 := by kernel_rfl
theorem ty_u1 : (Tryd.prog.underlying 1).isSome = true := by kernel_rfl
theorem ty_tz1 : tzero Tryd.prog 1 = some (Value.nilFunc) := by kernel_rfl
theorem ty_zs1 : (Value.nilFunc).cells.size = 1 := by kernel_rfl
theorem ty_zv1 : zeroV Tryd.prog 1 = .d (D.raw .nilFunc) := by kernel_rfl
theorem ty_dz1 : dataZero Tryd.prog 1 = some (D.raw .nilFunc) := by kernel_rfl
theorem ty_k2 : tkind Tryd.prog 2 = some false := by kernel_rfl
theorem ty_z2 : tsz Tryd.prog 2 = some 1 := by kernel_rfl
theorem ty_b2 : tbytes Tryd.prog 2 = some 8 := by kernel_rfl
theorem ty_i2 : tintk Tryd.prog 2 = some .i64 := by kernel_rfl
theorem ty_u2 : (Tryd.prog.underlying 2).isSome = true := by kernel_rfl
theorem ty_tz2 : tzero Tryd.prog 2 = some (Value.int .i64 0) := by kernel_rfl
theorem ty_zs2 : (Value.int .i64 0).cells.size = 1 := by kernel_rfl
theorem ty_zv2 : zeroV Tryd.prog 2 = .d (D.int .i64 0) := by kernel_rfl
theorem ty_dz2 : dataZero Tryd.prog 2 = some (D.int .i64 0) := by kernel_rfl
theorem ty_k3 : tkind Tryd.prog 3 = some false := by kernel_rfl
theorem ty_z3 : tsz Tryd.prog 3 = some 1 := by kernel_rfl
theorem ty_b3 : tbytes Tryd.prog 3 = some 8 := by kernel_rfl
theorem ty_i3 : tintk Tryd.prog 3 = some .i64 := by kernel_rfl
theorem ty_u3 : (Tryd.prog.underlying 3).isSome = true := by kernel_rfl
theorem ty_tz3 : tzero Tryd.prog 3 = some (Value.int .i64 0) := by kernel_rfl
theorem ty_zs3 : (Value.int .i64 0).cells.size = 1 := by kernel_rfl
theorem ty_zv3 : zeroV Tryd.prog 3 = .d (D.int .i64 0) := by kernel_rfl
theorem ty_dz3 : dataZero Tryd.prog 3 = some (D.int .i64 0) := by kernel_rfl
theorem ty_k4 : tkind Tryd.prog 4 = some false := by kernel_rfl
theorem ty_z4 : tsz Tryd.prog 4 = some 1 := by kernel_rfl
theorem ty_b4 : tbytes Tryd.prog 4 = some 1 := by kernel_rfl
theorem ty_u4 : (Tryd.prog.underlying 4).isSome = true := by kernel_rfl
theorem ty_bo4 : Tryd.prog.underlying 4 = some .bool := by kernel_rfl
theorem ty_tz4 : tzero Tryd.prog 4 = some (Value.bool false) := by kernel_rfl
theorem ty_zs4 : (Value.bool false).cells.size = 1 := by kernel_rfl
theorem ty_zv4 : zeroV Tryd.prog 4 = .d (D.bool false) := by kernel_rfl
theorem ty_dz4 : dataZero Tryd.prog 4 = some (D.bool false) := by kernel_rfl
theorem ty_k5 : tkind Tryd.prog 5 = some false := by kernel_rfl
theorem ty_z5 : tsz Tryd.prog 5 = some 1 := by kernel_rfl
theorem ty_b5 : tbytes Tryd.prog 5 = some 1 := by kernel_rfl
theorem ty_i5 : tintk Tryd.prog 5 = some .u8 := by kernel_rfl
theorem ty_u5 : (Tryd.prog.underlying 5).isSome = true := by kernel_rfl
theorem ty_tz5 : tzero Tryd.prog 5 = some (Value.int .u8 0) := by kernel_rfl
theorem ty_zs5 : (Value.int .u8 0).cells.size = 1 := by kernel_rfl
theorem ty_zv5 : zeroV Tryd.prog 5 = .d (D.int .u8 0) := by kernel_rfl
theorem ty_dz5 : dataZero Tryd.prog 5 = some (D.int .u8 0) := by kernel_rfl
theorem ty_k6 : tkind Tryd.prog 6 = some false := by kernel_rfl
theorem ty_z6 : tsz Tryd.prog 6 = some 1 := by kernel_rfl
theorem ty_b6 : tbytes Tryd.prog 6 = some 1 := by kernel_rfl
theorem ty_i6 : tintk Tryd.prog 6 = some .u8 := by kernel_rfl
theorem ty_u6 : (Tryd.prog.underlying 6).isSome = true := by kernel_rfl
theorem ty_tz6 : tzero Tryd.prog 6 = some (Value.int .u8 0) := by kernel_rfl
theorem ty_zs6 : (Value.int .u8 0).cells.size = 1 := by kernel_rfl
theorem ty_zv6 : zeroV Tryd.prog 6 = .d (D.int .u8 0) := by kernel_rfl
theorem ty_dz6 : dataZero Tryd.prog 6 = some (D.int .u8 0) := by kernel_rfl
theorem ty_k7 : tkind Tryd.prog 7 = some true := by kernel_rfl
theorem ty_z7 : tsz Tryd.prog 7 = some 4 := by kernel_rfl
theorem ty_b7 : tbytes Tryd.prog 7 = some 24 := by kernel_rfl
theorem ty_u7 : (Tryd.prog.underlying 7).isSome = true := by kernel_rfl
theorem ty_c7 : tcmp Tryd.prog 7 = some [0, 0, 1, 0] := by kernel_rfl
theorem ty_f7_0 : tfld Tryd.prog 7 0 = some (0, 1, false) := by kernel_rfl
theorem ty_f7_1 : tfld Tryd.prog 7 1 = some (1, 1, false) := by kernel_rfl
theorem ty_f7_2 : tfld Tryd.prog 7 2 = some (2, 1, false) := by kernel_rfl
theorem ty_f7_3 : tfld Tryd.prog 7 3 = some (3, 1, false) := by kernel_rfl
theorem ty_p7 : tplaces Tryd.prog 7 = some [(0, 1), (1, 1), (2, 1), (3, 1)] := by kernel_rfl
theorem ty_za7 : tzeroA Tryd.prog 7 = some [.d (D.int .i64 0), .d (D.int .i64 0), .d (D.bool false), .d (D.int .u8 0)] := by kernel_rfl
theorem ty_tz7 : tzero Tryd.prog 7 = some (Value.agg #[Value.int .i64 0, Value.int .i64 0, Value.bool false, Value.int .u8 0]) := by kernel_rfl
theorem ty_zs7 : (Value.agg #[Value.int .i64 0, Value.int .i64 0, Value.bool false, Value.int .u8 0]).cells.size = 4 := by kernel_rfl
theorem ty_zv7 : zeroV Tryd.prog 7 = .d (D.agg [D.int .i64 0, D.int .i64 0, D.bool false, D.int .u8 0]) := by kernel_rfl
theorem ty_dz7 : dataZero Tryd.prog 7 = some (D.agg [D.int .i64 0, D.int .i64 0, D.bool false, D.int .u8 0]) := by kernel_rfl
theorem ty_k8 : tkind Tryd.prog 8 = some true := by kernel_rfl
theorem ty_z8 : tsz Tryd.prog 8 = some 4 := by kernel_rfl
theorem ty_b8 : tbytes Tryd.prog 8 = some 24 := by kernel_rfl
theorem ty_u8 : (Tryd.prog.underlying 8).isSome = true := by kernel_rfl
theorem ty_c8 : tcmp Tryd.prog 8 = some [0, 0, 1, 0] := by kernel_rfl
theorem ty_f8_0 : tfld Tryd.prog 8 0 = some (0, 1, false) := by kernel_rfl
theorem ty_f8_1 : tfld Tryd.prog 8 1 = some (1, 1, false) := by kernel_rfl
theorem ty_f8_2 : tfld Tryd.prog 8 2 = some (2, 1, false) := by kernel_rfl
theorem ty_f8_3 : tfld Tryd.prog 8 3 = some (3, 1, false) := by kernel_rfl
theorem ty_p8 : tplaces Tryd.prog 8 = some [(0, 1), (1, 1), (2, 1), (3, 1)] := by kernel_rfl
theorem ty_za8 : tzeroA Tryd.prog 8 = some [.d (D.int .i64 0), .d (D.int .i64 0), .d (D.bool false), .d (D.int .u8 0)] := by kernel_rfl
theorem ty_tz8 : tzero Tryd.prog 8 = some (Value.agg #[Value.int .i64 0, Value.int .i64 0, Value.bool false, Value.int .u8 0]) := by kernel_rfl
theorem ty_zs8 : (Value.agg #[Value.int .i64 0, Value.int .i64 0, Value.bool false, Value.int .u8 0]).cells.size = 4 := by kernel_rfl
theorem ty_zv8 : zeroV Tryd.prog 8 = .d (D.agg [D.int .i64 0, D.int .i64 0, D.bool false, D.int .u8 0]) := by kernel_rfl
theorem ty_dz8 : dataZero Tryd.prog 8 = some (D.agg [D.int .i64 0, D.int .i64 0, D.bool false, D.int .u8 0]) := by kernel_rfl
theorem ty_k9 : tkind Tryd.prog 9 = some false := by kernel_rfl
theorem ty_z9 : tsz Tryd.prog 9 = some 1 := by kernel_rfl
theorem ty_b9 : tbytes Tryd.prog 9 = some 16 := by kernel_rfl
theorem ty_s9 : tstr Tryd.prog 9 = true := by kernel_rfl
theorem ty_u9 : (Tryd.prog.underlying 9).isSome = true := by kernel_rfl
theorem ty_tz9 : tzero Tryd.prog 9 = some (Value.string ⟨#[]⟩) := by kernel_rfl
theorem ty_zs9 : (Value.string ⟨#[]⟩).cells.size = 1 := by kernel_rfl
theorem ty_zv9 : zeroV Tryd.prog 9 = .d (D.str []) := by kernel_rfl
theorem ty_dz9 : dataZero Tryd.prog 9 = some (D.str []) := by kernel_rfl
theorem ty_k10 : tkind Tryd.prog 10 = some false := by kernel_rfl
theorem ty_z10 : tsz Tryd.prog 10 = some 1 := by kernel_rfl
theorem ty_b10 : tbytes Tryd.prog 10 = some 16 := by kernel_rfl
theorem ty_s10 : tstr Tryd.prog 10 = true := by kernel_rfl
theorem ty_u10 : (Tryd.prog.underlying 10).isSome = true := by kernel_rfl
theorem ty_tz10 : tzero Tryd.prog 10 = some (Value.string ⟨#[]⟩) := by kernel_rfl
theorem ty_zs10 : (Value.string ⟨#[]⟩).cells.size = 1 := by kernel_rfl
theorem ty_zv10 : zeroV Tryd.prog 10 = .d (D.str []) := by kernel_rfl
theorem ty_dz10 : dataZero Tryd.prog 10 = some (D.str []) := by kernel_rfl
theorem ty_k11 : tkind Tryd.prog 11 = some false := by kernel_rfl
theorem ty_z11 : tsz Tryd.prog 11 = some 1 := by kernel_rfl
theorem ty_b11 : tbytes Tryd.prog 11 = some 16 := by kernel_rfl
theorem ty_s11 : tstr Tryd.prog 11 = true := by kernel_rfl
theorem ty_u11 : (Tryd.prog.underlying 11).isSome = true := by kernel_rfl
theorem ty_tz11 : tzero Tryd.prog 11 = some (Value.string ⟨#[]⟩) := by kernel_rfl
theorem ty_zs11 : (Value.string ⟨#[]⟩).cells.size = 1 := by kernel_rfl
theorem ty_zv11 : zeroV Tryd.prog 11 = .d (D.str []) := by kernel_rfl
theorem ty_dz11 : dataZero Tryd.prog 11 = some (D.str []) := by kernel_rfl
theorem ty_k12 : tkind Tryd.prog 12 = some false := by kernel_rfl
theorem ty_z12 : tsz Tryd.prog 12 = some 1 := by kernel_rfl
theorem ty_b12 : tbytes Tryd.prog 12 = some 8 := by kernel_rfl
theorem ty_i12 : tintk Tryd.prog 12 = some .u64 := by kernel_rfl
theorem ty_u12 : (Tryd.prog.underlying 12).isSome = true := by kernel_rfl
theorem ty_tz12 : tzero Tryd.prog 12 = some (Value.int .u64 0) := by kernel_rfl
theorem ty_zs12 : (Value.int .u64 0).cells.size = 1 := by kernel_rfl
theorem ty_zv12 : zeroV Tryd.prog 12 = .d (D.int .u64 0) := by kernel_rfl
theorem ty_dz12 : dataZero Tryd.prog 12 = some (D.int .u64 0) := by kernel_rfl
theorem ty_k13 : tkind Tryd.prog 13 = some true := by kernel_rfl
theorem ty_z13 : tsz Tryd.prog 13 = some 2 := by kernel_rfl
theorem ty_b13 : tbytes Tryd.prog 13 = some 24 := by kernel_rfl
theorem ty_u13 : (Tryd.prog.underlying 13).isSome = true := by kernel_rfl
theorem ty_f13_0 : tfld Tryd.prog 13 0 = some (0, 1, false) := by kernel_rfl
theorem ty_f13_1 : tfld Tryd.prog 13 1 = some (1, 1, false) := by kernel_rfl
theorem ty_p13 : tplaces Tryd.prog 13 = some [(0, 1), (1, 1)] := by kernel_rfl
theorem ty_za13 : tzeroA Tryd.prog 13 = some [.d (D.str []), .d (D.int .u64 0)] := by kernel_rfl
theorem ty_tz13 : tzero Tryd.prog 13 = some (Value.agg #[Value.string ⟨#[]⟩, Value.int .u64 0]) := by kernel_rfl
theorem ty_zs13 : (Value.agg #[Value.string ⟨#[]⟩, Value.int .u64 0]).cells.size = 2 := by kernel_rfl
theorem ty_zv13 : zeroV Tryd.prog 13 = .d (D.agg [D.str [], D.int .u64 0]) := by kernel_rfl
theorem ty_dz13 : dataZero Tryd.prog 13 = some (D.agg [D.str [], D.int .u64 0]) := by kernel_rfl
theorem ty_k14 : tkind Tryd.prog 14 = some true := by kernel_rfl
theorem ty_z14 : tsz Tryd.prog 14 = some 2 := by kernel_rfl
theorem ty_b14 : tbytes Tryd.prog 14 = some 24 := by kernel_rfl
theorem ty_u14 : (Tryd.prog.underlying 14).isSome = true := by kernel_rfl
theorem ty_f14_0 : tfld Tryd.prog 14 0 = some (0, 1, false) := by kernel_rfl
theorem ty_f14_1 : tfld Tryd.prog 14 1 = some (1, 1, false) := by kernel_rfl
theorem ty_p14 : tplaces Tryd.prog 14 = some [(0, 1), (1, 1)] := by kernel_rfl
theorem ty_za14 : tzeroA Tryd.prog 14 = some [.d (D.str []), .d (D.int .u64 0)] := by kernel_rfl
theorem ty_tz14 : tzero Tryd.prog 14 = some (Value.agg #[Value.string ⟨#[]⟩, Value.int .u64 0]) := by kernel_rfl
theorem ty_zs14 : (Value.agg #[Value.string ⟨#[]⟩, Value.int .u64 0]).cells.size = 2 := by kernel_rfl
theorem ty_zv14 : zeroV Tryd.prog 14 = .d (D.agg [D.str [], D.int .u64 0]) := by kernel_rfl
theorem ty_dz14 : dataZero Tryd.prog 14 = some (D.agg [D.str [], D.int .u64 0]) := by kernel_rfl
theorem ty_k15 : tkind Tryd.prog 15 = some false := by kernel_rfl
theorem ty_z15 : tsz Tryd.prog 15 = some 1 := by kernel_rfl
theorem ty_pt15 : tptr Tryd.prog 15 = true := by kernel_rfl
theorem ty_b15 : tbytes Tryd.prog 15 = some 8 := by kernel_rfl
theorem ty_u15 : (Tryd.prog.underlying 15).isSome = true := by kernel_rfl
theorem ty_tz15 : tzero Tryd.prog 15 = some (Value.pointer none) := by kernel_rfl
theorem ty_zs15 : (Value.pointer none).cells.size = 1 := by kernel_rfl
theorem ty_zv15 : zeroV Tryd.prog 15 = .d (D.raw (.pointer none)) := by kernel_rfl
theorem ty_dz15 : dataZero Tryd.prog 15 = some (D.raw (.pointer none)) := by kernel_rfl
theorem ty_k16 : tkind Tryd.prog 16 = some false := by kernel_rfl
theorem ty_z16 : tsz Tryd.prog 16 = some 1 := by kernel_rfl
theorem ty_pt16 : tptr Tryd.prog 16 = true := by kernel_rfl
theorem ty_b16 : tbytes Tryd.prog 16 = some 8 := by kernel_rfl
theorem ty_u16 : (Tryd.prog.underlying 16).isSome = true := by kernel_rfl
theorem ty_tz16 : tzero Tryd.prog 16 = some (Value.pointer none) := by kernel_rfl
theorem ty_zs16 : (Value.pointer none).cells.size = 1 := by kernel_rfl
theorem ty_zv16 : zeroV Tryd.prog 16 = .d (D.raw (.pointer none)) := by kernel_rfl
theorem ty_dz16 : dataZero Tryd.prog 16 = some (D.raw (.pointer none)) := by kernel_rfl
theorem ty_k17 : tkind Tryd.prog 17 = some false := by kernel_rfl
theorem ty_z17 : tsz Tryd.prog 17 = some 1 := by kernel_rfl
theorem ty_pt17 : tptr Tryd.prog 17 = true := by kernel_rfl
theorem ty_b17 : tbytes Tryd.prog 17 = some 8 := by kernel_rfl
theorem ty_u17 : (Tryd.prog.underlying 17).isSome = true := by kernel_rfl
theorem ty_tz17 : tzero Tryd.prog 17 = some (Value.pointer none) := by kernel_rfl
theorem ty_zs17 : (Value.pointer none).cells.size = 1 := by kernel_rfl
theorem ty_zv17 : zeroV Tryd.prog 17 = .d (D.raw (.pointer none)) := by kernel_rfl
theorem ty_dz17 : dataZero Tryd.prog 17 = some (D.raw (.pointer none)) := by kernel_rfl
theorem ty_k18 : tkind Tryd.prog 18 = some true := by kernel_rfl
theorem ty_z18 : tsz Tryd.prog 18 = some 1 := by kernel_rfl
theorem ty_b18 : tbytes Tryd.prog 18 = some 8 := by kernel_rfl
theorem ty_u18 : (Tryd.prog.underlying 18).isSome = true := by kernel_rfl
theorem ty_f18_0 : tfld Tryd.prog 18 0 = some (0, 1, false) := by kernel_rfl
theorem ty_p18 : tplaces Tryd.prog 18 = some [(0, 1)] := by kernel_rfl
theorem ty_za18 : tzeroA Tryd.prog 18 = some [.d (D.raw (.pointer none))] := by kernel_rfl
theorem ty_tz18 : tzero Tryd.prog 18 = some (Value.agg #[Value.pointer none]) := by kernel_rfl
theorem ty_zs18 : (Value.agg #[Value.pointer none]).cells.size = 1 := by kernel_rfl
theorem ty_zv18 : zeroV Tryd.prog 18 = .d (D.agg [D.raw (.pointer none)]) := by kernel_rfl
theorem ty_dz18 : dataZero Tryd.prog 18 = some (D.agg [D.raw (.pointer none)]) := by kernel_rfl
theorem ty_k19 : tkind Tryd.prog 19 = some true := by kernel_rfl
theorem ty_z19 : tsz Tryd.prog 19 = some 1 := by kernel_rfl
theorem ty_b19 : tbytes Tryd.prog 19 = some 8 := by kernel_rfl
theorem ty_u19 : (Tryd.prog.underlying 19).isSome = true := by kernel_rfl
theorem ty_f19_0 : tfld Tryd.prog 19 0 = some (0, 1, false) := by kernel_rfl
theorem ty_p19 : tplaces Tryd.prog 19 = some [(0, 1)] := by kernel_rfl
theorem ty_za19 : tzeroA Tryd.prog 19 = some [.d (D.raw (.pointer none))] := by kernel_rfl
theorem ty_tz19 : tzero Tryd.prog 19 = some (Value.agg #[Value.pointer none]) := by kernel_rfl
theorem ty_zs19 : (Value.agg #[Value.pointer none]).cells.size = 1 := by kernel_rfl
theorem ty_zv19 : zeroV Tryd.prog 19 = .d (D.agg [D.raw (.pointer none)]) := by kernel_rfl
theorem ty_dz19 : dataZero Tryd.prog 19 = some (D.agg [D.raw (.pointer none)]) := by kernel_rfl
theorem ty_k20 : tkind Tryd.prog 20 = some false := by kernel_rfl
theorem ty_z20 : tsz Tryd.prog 20 = some 1 := by kernel_rfl
theorem ty_b20 : tbytes Tryd.prog 20 = some 16 := by kernel_rfl
theorem ty_u20 : (Tryd.prog.underlying 20).isSome = true := by kernel_rfl
theorem ty_tz20 : tzero Tryd.prog 20 = some (Value.nilIface) := by kernel_rfl
theorem ty_zs20 : (Value.nilIface).cells.size = 1 := by kernel_rfl
theorem ty_zv20 : zeroV Tryd.prog 20 = .d (D.raw .nilIface) := by kernel_rfl
theorem ty_dz20 : dataZero Tryd.prog 20 = some (D.raw .nilIface) := by kernel_rfl
theorem ty_k21 : tkind Tryd.prog 21 = some false := by kernel_rfl
theorem ty_z21 : tsz Tryd.prog 21 = some 1 := by kernel_rfl
theorem ty_b21 : tbytes Tryd.prog 21 = some 4 := by kernel_rfl
theorem ty_i21 : tintk Tryd.prog 21 = some .i32 := by kernel_rfl
theorem ty_u21 : (Tryd.prog.underlying 21).isSome = true := by kernel_rfl
theorem ty_tz21 : tzero Tryd.prog 21 = some (Value.int .i32 0) := by kernel_rfl
theorem ty_zs21 : (Value.int .i32 0).cells.size = 1 := by kernel_rfl
theorem ty_zv21 : zeroV Tryd.prog 21 = .d (D.int .i32 0) := by kernel_rfl
theorem ty_dz21 : dataZero Tryd.prog 21 = some (D.int .i32 0) := by kernel_rfl
theorem ty_k22 : tkind Tryd.prog 22 = some true := by kernel_rfl
theorem ty_z22 : tsz Tryd.prog 22 = some 2 := by kernel_rfl
theorem ty_b22 : tbytes Tryd.prog 22 = some 16 := by kernel_rfl
theorem ty_u22 : (Tryd.prog.underlying 22).isSome = true := by kernel_rfl
theorem ty_c22 : tcmp Tryd.prog 22 = some [0, 0] := by kernel_rfl
theorem ty_f22_0 : tfld Tryd.prog 22 0 = some (0, 1, false) := by kernel_rfl
theorem ty_f22_1 : tfld Tryd.prog 22 1 = some (1, 1, false) := by kernel_rfl
theorem ty_p22 : tplaces Tryd.prog 22 = some [(0, 1), (1, 1)] := by kernel_rfl
theorem ty_za22 : tzeroA Tryd.prog 22 = some [.d (D.int .i64 0), .d (D.int .i64 0)] := by kernel_rfl
theorem ty_tz22 : tzero Tryd.prog 22 = some (Value.agg #[Value.int .i64 0, Value.int .i64 0]) := by kernel_rfl
theorem ty_zs22 : (Value.agg #[Value.int .i64 0, Value.int .i64 0]).cells.size = 2 := by kernel_rfl
theorem ty_zv22 : zeroV Tryd.prog 22 = .d (D.agg [D.int .i64 0, D.int .i64 0]) := by kernel_rfl
theorem ty_dz22 : dataZero Tryd.prog 22 = some (D.agg [D.int .i64 0, D.int .i64 0]) := by kernel_rfl
theorem ty_k23 : tkind Tryd.prog 23 = some true := by kernel_rfl
theorem ty_z23 : tsz Tryd.prog 23 = some 2 := by kernel_rfl
theorem ty_b23 : tbytes Tryd.prog 23 = some 16 := by kernel_rfl
theorem ty_u23 : (Tryd.prog.underlying 23).isSome = true := by kernel_rfl
theorem ty_c23 : tcmp Tryd.prog 23 = some [0, 0] := by kernel_rfl
theorem ty_f23_0 : tfld Tryd.prog 23 0 = some (0, 1, false) := by kernel_rfl
theorem ty_f23_1 : tfld Tryd.prog 23 1 = some (1, 1, false) := by kernel_rfl
theorem ty_p23 : tplaces Tryd.prog 23 = some [(0, 1), (1, 1)] := by kernel_rfl
theorem ty_za23 : tzeroA Tryd.prog 23 = some [.d (D.int .i64 0), .d (D.int .i64 0)] := by kernel_rfl
theorem ty_tz23 : tzero Tryd.prog 23 = some (Value.agg #[Value.int .i64 0, Value.int .i64 0]) := by kernel_rfl
theorem ty_zs23 : (Value.agg #[Value.int .i64 0, Value.int .i64 0]).cells.size = 2 := by kernel_rfl
theorem ty_zv23 : zeroV Tryd.prog 23 = .d (D.agg [D.int .i64 0, D.int .i64 0]) := by kernel_rfl
theorem ty_dz23 : dataZero Tryd.prog 23 = some (D.agg [D.int .i64 0, D.int .i64 0]) := by kernel_rfl
theorem ty_k24 : tkind Tryd.prog 24 = some false := by kernel_rfl
theorem ty_z24 : tsz Tryd.prog 24 = some 1 := by kernel_rfl
theorem ty_b24 : tbytes Tryd.prog 24 = some 0 := by kernel_rfl
theorem ty_u24 : (Tryd.prog.underlying 24).isSome = true := by kernel_rfl
theorem ty_zv24 : zeroV Tryd.prog 24 = .undef := by kernel_rfl
theorem ty_k25 : tkind Tryd.prog 25 = some false := by kernel_rfl
theorem ty_z25 : tsz Tryd.prog 25 = some 1 := by kernel_rfl
theorem ty_b25 : tbytes Tryd.prog 25 = some 8 := by kernel_rfl
theorem ty_u25 : (Tryd.prog.underlying 25).isSome = true := by kernel_rfl
theorem ty_tz25 : tzero Tryd.prog 25 = some (Value.nilFunc) := by kernel_rfl
theorem ty_zs25 : (Value.nilFunc).cells.size = 1 := by kernel_rfl
theorem ty_zv25 : zeroV Tryd.prog 25 = .d (D.raw .nilFunc) := by kernel_rfl
theorem ty_dz25 : dataZero Tryd.prog 25 = some (D.raw .nilFunc) := by kernel_rfl
theorem ty_k26 : tkind Tryd.prog 26 = some false := by kernel_rfl
theorem ty_z26 : tsz Tryd.prog 26 = some 1 := by kernel_rfl
theorem ty_b26 : tbytes Tryd.prog 26 = some 8 := by kernel_rfl
theorem ty_u26 : (Tryd.prog.underlying 26).isSome = true := by kernel_rfl
theorem ty_tz26 : tzero Tryd.prog 26 = some (Value.nilFunc) := by kernel_rfl
theorem ty_zs26 : (Value.nilFunc).cells.size = 1 := by kernel_rfl
theorem ty_zv26 : zeroV Tryd.prog 26 = .d (D.raw .nilFunc) := by kernel_rfl
theorem ty_dz26 : dataZero Tryd.prog 26 = some (D.raw .nilFunc) := by kernel_rfl
theorem ty_k27 : tkind Tryd.prog 27 = some false := by kernel_rfl
theorem ty_z27 : tsz Tryd.prog 27 = some 1 := by kernel_rfl
theorem ty_b27 : tbytes Tryd.prog 27 = some 8 := by kernel_rfl
theorem ty_u27 : (Tryd.prog.underlying 27).isSome = true := by kernel_rfl
theorem ty_tz27 : tzero Tryd.prog 27 = some (Value.nilFunc) := by kernel_rfl
theorem ty_zs27 : (Value.nilFunc).cells.size = 1 := by kernel_rfl
theorem ty_zv27 : zeroV Tryd.prog 27 = .d (D.raw .nilFunc) := by kernel_rfl
theorem ty_dz27 : dataZero Tryd.prog 27 = some (D.raw .nilFunc) := by kernel_rfl
theorem ty_k28 : tkind Tryd.prog 28 = some false := by kernel_rfl
theorem ty_z28 : tsz Tryd.prog 28 = some 1 := by kernel_rfl
theorem ty_b28 : tbytes Tryd.prog 28 = some 8 := by kernel_rfl
theorem ty_u28 : (Tryd.prog.underlying 28).isSome = true := by kernel_rfl
theorem ty_tz28 : tzero Tryd.prog 28 = some (Value.nilFunc) := by kernel_rfl
theorem ty_zs28 : (Value.nilFunc).cells.size = 1 := by kernel_rfl
theorem ty_zv28 : zeroV Tryd.prog 28 = .d (D.raw .nilFunc) := by kernel_rfl
theorem ty_dz28 : dataZero Tryd.prog 28 = some (D.raw .nilFunc) := by kernel_rfl
theorem ty_k29 : tkind Tryd.prog 29 = some false := by kernel_rfl
theorem ty_z29 : tsz Tryd.prog 29 = some 1 := by kernel_rfl
theorem ty_b29 : tbytes Tryd.prog 29 = some 8 := by kernel_rfl
theorem ty_u29 : (Tryd.prog.underlying 29).isSome = true := by kernel_rfl
theorem ty_tz29 : tzero Tryd.prog 29 = some (Value.nilFunc) := by kernel_rfl
theorem ty_zs29 : (Value.nilFunc).cells.size = 1 := by kernel_rfl
theorem ty_zv29 : zeroV Tryd.prog 29 = .d (D.raw .nilFunc) := by kernel_rfl
theorem ty_dz29 : dataZero Tryd.prog 29 = some (D.raw .nilFunc) := by kernel_rfl
theorem ty_k30 : tkind Tryd.prog 30 = some false := by kernel_rfl
theorem ty_z30 : tsz Tryd.prog 30 = some 1 := by kernel_rfl
theorem ty_b30 : tbytes Tryd.prog 30 = some 8 := by kernel_rfl
theorem ty_u30 : (Tryd.prog.underlying 30).isSome = true := by kernel_rfl
theorem ty_tz30 : tzero Tryd.prog 30 = some (Value.nilFunc) := by kernel_rfl
theorem ty_zs30 : (Value.nilFunc).cells.size = 1 := by kernel_rfl
theorem ty_zv30 : zeroV Tryd.prog 30 = .d (D.raw .nilFunc) := by kernel_rfl
theorem ty_dz30 : dataZero Tryd.prog 30 = some (D.raw .nilFunc) := by kernel_rfl
theorem ty_k31 : tkind Tryd.prog 31 = some false := by kernel_rfl
theorem ty_z31 : tsz Tryd.prog 31 = some 1 := by kernel_rfl
theorem ty_e31 : telem Tryd.prog 31 = some 23 := by kernel_rfl
theorem ty_ae31 : apEs Tryd.prog 31 = 2 := by kernel_rfl
theorem ty_b31 : tbytes Tryd.prog 31 = some 24 := by kernel_rfl
theorem ty_x31 : tidx Tryd.prog 31 = some (none, 2) := by kernel_rfl
theorem ty_u31 : (Tryd.prog.underlying 31).isSome = true := by kernel_rfl
theorem ty_tz31 : tzero Tryd.prog 31 = some (Value.slice none 0 0) := by kernel_rfl
theorem ty_zs31 : (Value.slice none 0 0).cells.size = 1 := by kernel_rfl
theorem ty_zv31 : zeroV Tryd.prog 31 = .nils := by kernel_rfl
theorem ty_dz31 : dataZero Tryd.prog 31 = some (D.sl []) := by kernel_rfl
theorem ty_k32 : tkind Tryd.prog 32 = some false := by kernel_rfl
theorem ty_z32 : tsz Tryd.prog 32 = some 1 := by kernel_rfl
theorem ty_b32 : tbytes Tryd.prog 32 = some 8 := by kernel_rfl
theorem ty_u32 : (Tryd.prog.underlying 32).isSome = true := by kernel_rfl
theorem ty_tz32 : tzero Tryd.prog 32 = some (Value.nilFunc) := by kernel_rfl
theorem ty_zs32 : (Value.nilFunc).cells.size = 1 := by kernel_rfl
theorem ty_zv32 : zeroV Tryd.prog 32 = .d (D.raw .nilFunc) := by kernel_rfl
theorem ty_dz32 : dataZero Tryd.prog 32 = some (D.raw .nilFunc) := by kernel_rfl
theorem ty_k33 : tkind Tryd.prog 33 = some false := by kernel_rfl
theorem ty_z33 : tsz Tryd.prog 33 = some 1 := by kernel_rfl
theorem ty_b33 : tbytes Tryd.prog 33 = some 8 := by kernel_rfl
theorem ty_u33 : (Tryd.prog.underlying 33).isSome = true := by kernel_rfl
theorem ty_tz33 : tzero Tryd.prog 33 = some (Value.nilFunc) := by kernel_rfl
theorem ty_zs33 : (Value.nilFunc).cells.size = 1 := by kernel_rfl
theorem ty_zv33 : zeroV Tryd.prog 33 = .d (D.raw .nilFunc) := by kernel_rfl
theorem ty_dz33 : dataZero Tryd.prog 33 = some (D.raw .nilFunc) := by kernel_rfl
theorem ty_k34 : tkind Tryd.prog 34 = some false := by kernel_rfl
theorem ty_z34 : tsz Tryd.prog 34 = some 1 := by kernel_rfl
theorem ty_b34 : tbytes Tryd.prog 34 = some 8 := by kernel_rfl
theorem ty_u34 : (Tryd.prog.underlying 34).isSome = true := by kernel_rfl
theorem ty_tz34 : tzero Tryd.prog 34 = some (Value.nilFunc) := by kernel_rfl
theorem ty_zs34 : (Value.nilFunc).cells.size = 1 := by kernel_rfl
theorem ty_zv34 : zeroV Tryd.prog 34 = .d (D.raw .nilFunc) := by kernel_rfl
theorem ty_dz34 : dataZero Tryd.prog 34 = some (D.raw .nilFunc) := by kernel_rfl
theorem ty_k35 : tkind Tryd.prog 35 = some false := by kernel_rfl
theorem ty_z35 : tsz Tryd.prog 35 = some 1 := by kernel_rfl
theorem ty_b35 : tbytes Tryd.prog 35 = some 8 := by kernel_rfl
theorem ty_u35 : (Tryd.prog.underlying 35).isSome = true := by kernel_rfl
theorem ty_tz35 : tzero Tryd.prog 35 = some (Value.nilFunc) := by kernel_rfl
theorem ty_zs35 : (Value.nilFunc).cells.size = 1 := by kernel_rfl
theorem ty_zv35 : zeroV Tryd.prog 35 = .d (D.raw .nilFunc) := by kernel_rfl
theorem ty_dz35 : dataZero Tryd.prog 35 = some (D.raw .nilFunc) := by kernel_rfl
theorem ty_k36 : tkind Tryd.prog 36 = some false := by kernel_rfl
theorem ty_z36 : tsz Tryd.prog 36 = some 1 := by kernel_rfl
theorem ty_b36 : tbytes Tryd.prog 36 = some 8 := by kernel_rfl
theorem ty_u36 : (Tryd.prog.underlying 36).isSome = true := by kernel_rfl
theorem ty_tz36 : tzero Tryd.prog 36 = some (Value.nilFunc) := by kernel_rfl
theorem ty_zs36 : (Value.nilFunc).cells.size = 1 := by kernel_rfl
theorem ty_zv36 : zeroV Tryd.prog 36 = .d (D.raw .nilFunc) := by kernel_rfl
theorem ty_dz36 : dataZero Tryd.prog 36 = some (D.raw .nilFunc) := by kernel_rfl
theorem ty_k37 : tkind Tryd.prog 37 = some false := by kernel_rfl
theorem ty_z37 : tsz Tryd.prog 37 = some 1 := by kernel_rfl
theorem ty_b37 : tbytes Tryd.prog 37 = some 8 := by kernel_rfl
theorem ty_u37 : (Tryd.prog.underlying 37).isSome = true := by kernel_rfl
theorem ty_tz37 : tzero Tryd.prog 37 = some (Value.nilFunc) := by kernel_rfl
theorem ty_zs37 : (Value.nilFunc).cells.size = 1 := by kernel_rfl
theorem ty_zv37 : zeroV Tryd.prog 37 = .d (D.raw .nilFunc) := by kernel_rfl
theorem ty_dz37 : dataZero Tryd.prog 37 = some (D.raw .nilFunc) := by kernel_rfl
theorem ty_k38 : tkind Tryd.prog 38 = some false := by kernel_rfl
theorem ty_z38 : tsz Tryd.prog 38 = some 1 := by kernel_rfl
theorem ty_b38 : tbytes Tryd.prog 38 = some 8 := by kernel_rfl
theorem ty_u38 : (Tryd.prog.underlying 38).isSome = true := by kernel_rfl
theorem ty_tz38 : tzero Tryd.prog 38 = some (Value.nilFunc) := by kernel_rfl
theorem ty_zs38 : (Value.nilFunc).cells.size = 1 := by kernel_rfl
theorem ty_zv38 : zeroV Tryd.prog 38 = .d (D.raw .nilFunc) := by kernel_rfl
theorem ty_dz38 : dataZero Tryd.prog 38 = some (D.raw .nilFunc) := by kernel_rfl
theorem ty_k39 : tkind Tryd.prog 39 = some false := by kernel_rfl
theorem ty_z39 : tsz Tryd.prog 39 = some 1 := by kernel_rfl
theorem ty_b39 : tbytes Tryd.prog 39 = some 8 := by kernel_rfl
theorem ty_u39 : (Tryd.prog.underlying 39).isSome = true := by kernel_rfl
theorem ty_tz39 : tzero Tryd.prog 39 = some (Value.nilFunc) := by kernel_rfl
theorem ty_zs39 : (Value.nilFunc).cells.size = 1 := by kernel_rfl
theorem ty_zv39 : zeroV Tryd.prog 39 = .d (D.raw .nilFunc) := by kernel_rfl
theorem ty_dz39 : dataZero Tryd.prog 39 = some (D.raw .nilFunc) := by kernel_rfl
theorem ty_k40 : tkind Tryd.prog 40 = some false := by kernel_rfl
theorem ty_z40 : tsz Tryd.prog 40 = some 1 := by kernel_rfl
theorem ty_b40 : tbytes Tryd.prog 40 = some 8 := by kernel_rfl
theorem ty_u40 : (Tryd.prog.underlying 40).isSome = true := by kernel_rfl
theorem ty_tz40 : tzero Tryd.prog 40 = some (Value.nilFunc) := by kernel_rfl
theorem ty_zs40 : (Value.nilFunc).cells.size = 1 := by kernel_rfl
theorem ty_zv40 : zeroV Tryd.prog 40 = .d (D.raw .nilFunc) := by kernel_rfl
theorem ty_dz40 : dataZero Tryd.prog 40 = some (D.raw .nilFunc) := by kernel_rfl
theorem ty_k41 : tkind Tryd.prog 41 = some false := by kernel_rfl
theorem ty_z41 : tsz Tryd.prog 41 = some 1 := by kernel_rfl
theorem ty_b41 : tbytes Tryd.prog 41 = some 8 := by kernel_rfl
theorem ty_i41 : tintk Tryd.prog 41 = some .u64 := by kernel_rfl
theorem ty_u41 : (Tryd.prog.underlying 41).isSome = true := by kernel_rfl
theorem ty_tz41 : tzero Tryd.prog 41 = some (Value.int .u64 0) := by kernel_rfl
theorem ty_zs41 : (Value.int .u64 0).cells.size = 1 := by kernel_rfl
theorem ty_zv41 : zeroV Tryd.prog 41 = .d (D.int .u64 0) := by kernel_rfl
theorem ty_dz41 : dataZero Tryd.prog 41 = some (D.int .u64 0) := by kernel_rfl
theorem ty_k42 : tkind Tryd.prog 42 = some false := by kernel_rfl
theorem ty_z42 : tsz Tryd.prog 42 = some 1 := by kernel_rfl
theorem ty_b42 : tbytes Tryd.prog 42 = some 8 := by kernel_rfl
theorem ty_u42 : (Tryd.prog.underlying 42).isSome = true := by kernel_rfl
theorem ty_tz42 : tzero Tryd.prog 42 = some (Value.nilFunc) := by kernel_rfl
theorem ty_zs42 : (Value.nilFunc).cells.size = 1 := by kernel_rfl
theorem ty_zv42 : zeroV Tryd.prog 42 = .d (D.raw .nilFunc) := by kernel_rfl
theorem ty_dz42 : dataZero Tryd.prog 42 = some (D.raw .nilFunc) := by kernel_rfl
theorem ty_k43 : tkind Tryd.prog 43 = some false := by kernel_rfl
theorem ty_z43 : tsz Tryd.prog 43 = some 1 := by kernel_rfl
theorem ty_b43 : tbytes Tryd.prog 43 = some 8 := by kernel_rfl
theorem ty_u43 : (Tryd.prog.underlying 43).isSome = true := by kernel_rfl
theorem ty_tz43 : tzero Tryd.prog 43 = some (Value.nilFunc) := by kernel_rfl
theorem ty_zs43 : (Value.nilFunc).cells.size = 1 := by kernel_rfl
theorem ty_zv43 : zeroV Tryd.prog 43 = .d (D.raw .nilFunc) := by kernel_rfl
theorem ty_dz43 : dataZero Tryd.prog 43 = some (D.raw .nilFunc) := by kernel_rfl
theorem ty_k44 : tkind Tryd.prog 44 = some false := by kernel_rfl
theorem ty_z44 : tsz Tryd.prog 44 = some 1 := by kernel_rfl
theorem ty_b44 : tbytes Tryd.prog 44 = some 8 := by kernel_rfl
theorem ty_u44 : (Tryd.prog.underlying 44).isSome = true := by kernel_rfl
theorem ty_tz44 : tzero Tryd.prog 44 = some (Value.nilFunc) := by kernel_rfl
theorem ty_zs44 : (Value.nilFunc).cells.size = 1 := by kernel_rfl
theorem ty_zv44 : zeroV Tryd.prog 44 = .d (D.raw .nilFunc) := by kernel_rfl
theorem ty_dz44 : dataZero Tryd.prog 44 = some (D.raw .nilFunc) := by kernel_rfl
theorem ty_k45 : tkind Tryd.prog 45 = some false := by kernel_rfl
theorem ty_z45 : tsz Tryd.prog 45 = some 1 := by kernel_rfl
theorem ty_b45 : tbytes Tryd.prog 45 = some 8 := by kernel_rfl
theorem ty_u45 : (Tryd.prog.underlying 45).isSome = true := by kernel_rfl
theorem ty_tz45 : tzero Tryd.prog 45 = some (Value.nilFunc) := by kernel_rfl
theorem ty_zs45 : (Value.nilFunc).cells.size = 1 := by kernel_rfl
theorem ty_zv45 : zeroV Tryd.prog 45 = .d (D.raw .nilFunc) := by kernel_rfl
theorem ty_dz45 : dataZero Tryd.prog 45 = some (D.raw .nilFunc) := by kernel_rfl
theorem ty_k46 : tkind Tryd.prog 46 = some true := by kernel_rfl
theorem ty_z46 : tsz Tryd.prog 46 = some 2 := by kernel_rfl
theorem ty_b46 : tbytes Tryd.prog 46 = some 16 := by kernel_rfl
theorem ty_u46 : (Tryd.prog.underlying 46).isSome = true := by kernel_rfl
theorem ty_c46 : tcmp Tryd.prog 46 = some [0, 0] := by kernel_rfl
theorem ty_f46_0 : tfld Tryd.prog 46 0 = some (0, 1, false) := by kernel_rfl
theorem ty_f46_1 : tfld Tryd.prog 46 1 = some (1, 1, false) := by kernel_rfl
theorem ty_p46 : tplaces Tryd.prog 46 = some [(0, 1), (1, 1)] := by kernel_rfl
theorem ty_za46 : tzeroA Tryd.prog 46 = some [.d (D.int .u64 0), .d (D.int .u64 0)] := by kernel_rfl
theorem ty_tz46 : tzero Tryd.prog 46 = some (Value.agg #[Value.int .u64 0, Value.int .u64 0]) := by kernel_rfl
theorem ty_zs46 : (Value.agg #[Value.int .u64 0, Value.int .u64 0]).cells.size = 2 := by kernel_rfl
theorem ty_zv46 : zeroV Tryd.prog 46 = .d (D.agg [D.int .u64 0, D.int .u64 0]) := by kernel_rfl
theorem ty_dz46 : dataZero Tryd.prog 46 = some (D.agg [D.int .u64 0, D.int .u64 0]) := by kernel_rfl
theorem ty_k47 : tkind Tryd.prog 47 = some true := by kernel_rfl
theorem ty_z47 : tsz Tryd.prog 47 = some 2 := by kernel_rfl
theorem ty_b47 : tbytes Tryd.prog 47 = some 16 := by kernel_rfl
theorem ty_u47 : (Tryd.prog.underlying 47).isSome = true := by kernel_rfl
theorem ty_c47 : tcmp Tryd.prog 47 = some [0, 0] := by kernel_rfl
theorem ty_f47_0 : tfld Tryd.prog 47 0 = some (0, 1, false) := by kernel_rfl
theorem ty_f47_1 : tfld Tryd.prog 47 1 = some (1, 1, false) := by kernel_rfl
theorem ty_p47 : tplaces Tryd.prog 47 = some [(0, 1), (1, 1)] := by kernel_rfl
theorem ty_za47 : tzeroA Tryd.prog 47 = some [.d (D.int .u64 0), .d (D.int .u64 0)] := by kernel_rfl
theorem ty_tz47 : tzero Tryd.prog 47 = some (Value.agg #[Value.int .u64 0, Value.int .u64 0]) := by kernel_rfl
theorem ty_zs47 : (Value.agg #[Value.int .u64 0, Value.int .u64 0]).cells.size = 2 := by kernel_rfl
theorem ty_zv47 : zeroV Tryd.prog 47 = .d (D.agg [D.int .u64 0, D.int .u64 0]) := by kernel_rfl
theorem ty_dz47 : dataZero Tryd.prog 47 = some (D.agg [D.int .u64 0, D.int .u64 0]) := by kernel_rfl
theorem ty_k48 : tkind Tryd.prog 48 = some true := by kernel_rfl
theorem ty_z48 : tsz Tryd.prog 48 = some 3 := by kernel_rfl
theorem ty_b48 : tbytes Tryd.prog 48 = some 24 := by kernel_rfl
theorem ty_u48 : (Tryd.prog.underlying 48).isSome = true := by kernel_rfl
theorem ty_f48_0 : tfld Tryd.prog 48 0 = some (0, 1, false) := by kernel_rfl
theorem ty_f48_1 : tfld Tryd.prog 48 1 = some (1, 2, true) := by kernel_rfl
theorem ty_p48 : tplaces Tryd.prog 48 = some [(0, 1), (1, 2)] := by kernel_rfl
theorem ty_za48 : tzeroA Tryd.prog 48 = some [.d (D.bool false), .d (D.int .u64 0), .d (D.int .u64 0)] := by kernel_rfl
theorem ty_tz48 : tzero Tryd.prog 48 = some (Value.agg #[Value.bool false, Value.int .u64 0, Value.int .u64 0]) := by kernel_rfl
theorem ty_zs48 : (Value.agg #[Value.bool false, Value.int .u64 0, Value.int .u64 0]).cells.size = 3 := by kernel_rfl
theorem ty_zv48 : zeroV Tryd.prog 48 = .d (D.agg [D.bool false, D.int .u64 0, D.int .u64 0]) := by kernel_rfl
theorem ty_dz48 : dataZero Tryd.prog 48 = some (D.agg [D.bool false, D.int .u64 0, D.int .u64 0]) := by kernel_rfl
theorem ty_k49 : tkind Tryd.prog 49 = some true := by kernel_rfl
theorem ty_z49 : tsz Tryd.prog 49 = some 3 := by kernel_rfl
theorem ty_b49 : tbytes Tryd.prog 49 = some 24 := by kernel_rfl
theorem ty_u49 : (Tryd.prog.underlying 49).isSome = true := by kernel_rfl
theorem ty_f49_0 : tfld Tryd.prog 49 0 = some (0, 1, false) := by kernel_rfl
theorem ty_f49_1 : tfld Tryd.prog 49 1 = some (1, 2, true) := by kernel_rfl
theorem ty_p49 : tplaces Tryd.prog 49 = some [(0, 1), (1, 2)] := by kernel_rfl
theorem ty_za49 : tzeroA Tryd.prog 49 = some [.d (D.bool false), .d (D.int .u64 0), .d (D.int .u64 0)] := by kernel_rfl
theorem ty_tz49 : tzero Tryd.prog 49 = some (Value.agg #[Value.bool false, Value.int .u64 0, Value.int .u64 0]) := by kernel_rfl
theorem ty_zs49 : (Value.agg #[Value.bool false, Value.int .u64 0, Value.int .u64 0]).cells.size = 3 := by kernel_rfl
theorem ty_zv49 : zeroV Tryd.prog 49 = .d (D.agg [D.bool false, D.int .u64 0, D.int .u64 0]) := by kernel_rfl
theorem ty_dz49 : dataZero Tryd.prog 49 = some (D.agg [D.bool false, D.int .u64 0, D.int .u64 0]) := by kernel_rfl
theorem ty_k50 : tkind Tryd.prog 50 = some false := by kernel_rfl
theorem ty_z50 : tsz Tryd.prog 50 = some 1 := by kernel_rfl
theorem ty_b50 : tbytes Tryd.prog 50 = some 8 := by kernel_rfl
theorem ty_u50 : (Tryd.prog.underlying 50).isSome = true := by kernel_rfl
theorem ty_tz50 : tzero Tryd.prog 50 = some (Value.nilFunc) := by kernel_rfl
theorem ty_zs50 : (Value.nilFunc).cells.size = 1 := by kernel_rfl
theorem ty_zv50 : zeroV Tryd.prog 50 = .d (D.raw .nilFunc) := by kernel_rfl
theorem ty_dz50 : dataZero Tryd.prog 50 = some (D.raw .nilFunc) := by kernel_rfl
theorem ty_k51 : tkind Tryd.prog 51 = some false := by kernel_rfl
theorem ty_z51 : tsz Tryd.prog 51 = some 1 := by kernel_rfl
theorem ty_b51 : tbytes Tryd.prog 51 = some 8 := by kernel_rfl
theorem ty_u51 : (Tryd.prog.underlying 51).isSome = true := by kernel_rfl
theorem ty_tz51 : tzero Tryd.prog 51 = some (Value.nilFunc) := by kernel_rfl
theorem ty_zs51 : (Value.nilFunc).cells.size = 1 := by kernel_rfl
theorem ty_zv51 : zeroV Tryd.prog 51 = .d (D.raw .nilFunc) := by kernel_rfl
theorem ty_dz51 : dataZero Tryd.prog 51 = some (D.raw .nilFunc) := by kernel_rfl
theorem ty_k52 : tkind Tryd.prog 52 = some false := by kernel_rfl
theorem ty_z52 : tsz Tryd.prog 52 = some 1 := by kernel_rfl
theorem ty_b52 : tbytes Tryd.prog 52 = some 8 := by kernel_rfl
theorem ty_u52 : (Tryd.prog.underlying 52).isSome = true := by kernel_rfl
theorem ty_tz52 : tzero Tryd.prog 52 = some (Value.nilFunc) := by kernel_rfl
theorem ty_zs52 : (Value.nilFunc).cells.size = 1 := by kernel_rfl
theorem ty_zv52 : zeroV Tryd.prog 52 = .d (D.raw .nilFunc) := by kernel_rfl
theorem ty_dz52 : dataZero Tryd.prog 52 = some (D.raw .nilFunc) := by kernel_rfl
theorem ty_k53 : tkind Tryd.prog 53 = some true := by kernel_rfl
theorem ty_z53 : tsz Tryd.prog 53 = some 2 := by kernel_rfl
theorem ty_b53 : tbytes Tryd.prog 53 = some 16 := by kernel_rfl
theorem ty_u53 : (Tryd.prog.underlying 53).isSome = true := by kernel_rfl
theorem ty_c53 : tcmp Tryd.prog 53 = some [0, 0] := by kernel_rfl
theorem ty_f53_0 : tfld Tryd.prog 53 0 = some (0, 1, false) := by kernel_rfl
theorem ty_f53_1 : tfld Tryd.prog 53 1 = some (1, 1, false) := by kernel_rfl
theorem ty_p53 : tplaces Tryd.prog 53 = some [(0, 1), (1, 1)] := by kernel_rfl
theorem ty_za53 : tzeroA Tryd.prog 53 = some [.d (D.int .u64 0), .d (D.int .u64 0)] := by kernel_rfl
theorem ty_tz53 : tzero Tryd.prog 53 = some (Value.agg #[Value.int .u64 0, Value.int .u64 0]) := by kernel_rfl
theorem ty_zs53 : (Value.agg #[Value.int .u64 0, Value.int .u64 0]).cells.size = 2 := by kernel_rfl
theorem ty_zv53 : zeroV Tryd.prog 53 = .d (D.agg [D.int .u64 0, D.int .u64 0]) := by kernel_rfl
theorem ty_dz53 : dataZero Tryd.prog 53 = some (D.agg [D.int .u64 0, D.int .u64 0]) := by kernel_rfl
theorem ty_k54 : tkind Tryd.prog 54 = some true := by kernel_rfl
theorem ty_z54 : tsz Tryd.prog 54 = some 2 := by kernel_rfl
theorem ty_b54 : tbytes Tryd.prog 54 = some 16 := by kernel_rfl
theorem ty_u54 : (Tryd.prog.underlying 54).isSome = true := by kernel_rfl
theorem ty_c54 : tcmp Tryd.prog 54 = some [0, 0] := by kernel_rfl
theorem ty_f54_0 : tfld Tryd.prog 54 0 = some (0, 1, false) := by kernel_rfl
theorem ty_f54_1 : tfld Tryd.prog 54 1 = some (1, 1, false) := by kernel_rfl
theorem ty_p54 : tplaces Tryd.prog 54 = some [(0, 1), (1, 1)] := by kernel_rfl
theorem ty_za54 : tzeroA Tryd.prog 54 = some [.d (D.int .u64 0), .d (D.int .u64 0)] := by kernel_rfl
theorem ty_tz54 : tzero Tryd.prog 54 = some (Value.agg #[Value.int .u64 0, Value.int .u64 0]) := by kernel_rfl
theorem ty_zs54 : (Value.agg #[Value.int .u64 0, Value.int .u64 0]).cells.size = 2 := by kernel_rfl
theorem ty_zv54 : zeroV Tryd.prog 54 = .d (D.agg [D.int .u64 0, D.int .u64 0]) := by kernel_rfl
theorem ty_dz54 : dataZero Tryd.prog 54 = some (D.agg [D.int .u64 0, D.int .u64 0]) := by kernel_rfl
theorem ty_k55 : tkind Tryd.prog 55 = some false := by kernel_rfl
theorem ty_z55 : tsz Tryd.prog 55 = some 1 := by kernel_rfl
theorem ty_b55 : tbytes Tryd.prog 55 = some 8 := by kernel_rfl
theorem ty_u55 : (Tryd.prog.underlying 55).isSome = true := by kernel_rfl
theorem ty_tz55 : tzero Tryd.prog 55 = some (Value.nilFunc) := by kernel_rfl
theorem ty_zs55 : (Value.nilFunc).cells.size = 1 := by kernel_rfl
theorem ty_zv55 : zeroV Tryd.prog 55 = .d (D.raw .nilFunc) := by kernel_rfl
theorem ty_dz55 : dataZero Tryd.prog 55 = some (D.raw .nilFunc) := by kernel_rfl
theorem ty_k56 : tkind Tryd.prog 56 = some false := by kernel_rfl
theorem ty_z56 : tsz Tryd.prog 56 = some 1 := by kernel_rfl
theorem ty_b56 : tbytes Tryd.prog 56 = some 8 := by kernel_rfl
theorem ty_u56 : (Tryd.prog.underlying 56).isSome = true := by kernel_rfl
theorem ty_tz56 : tzero Tryd.prog 56 = some (Value.nilFunc) := by kernel_rfl
theorem ty_zs56 : (Value.nilFunc).cells.size = 1 := by kernel_rfl
theorem ty_zv56 : zeroV Tryd.prog 56 = .d (D.raw .nilFunc) := by kernel_rfl
theorem ty_dz56 : dataZero Tryd.prog 56 = some (D.raw .nilFunc) := by kernel_rfl
theorem ty_k57 : tkind Tryd.prog 57 = some false := by kernel_rfl
theorem ty_z57 : tsz Tryd.prog 57 = some 1 := by kernel_rfl
theorem ty_b57 : tbytes Tryd.prog 57 = some 0 := by kernel_rfl
theorem ty_u57 : (Tryd.prog.underlying 57).isSome = true := by kernel_rfl
theorem ty_zv57 : zeroV Tryd.prog 57 = .undef := by kernel_rfl
theorem ty_k58 : tkind Tryd.prog 58 = some false := by kernel_rfl
theorem ty_z58 : tsz Tryd.prog 58 = some 1 := by kernel_rfl
theorem ty_b58 : tbytes Tryd.prog 58 = some 8 := by kernel_rfl
theorem ty_u58 : (Tryd.prog.underlying 58).isSome = true := by kernel_rfl
theorem ty_tz58 : tzero Tryd.prog 58 = some (Value.nilFunc) := by kernel_rfl
theorem ty_zs58 : (Value.nilFunc).cells.size = 1 := by kernel_rfl
theorem ty_zv58 : zeroV Tryd.prog 58 = .d (D.raw .nilFunc) := by kernel_rfl
theorem ty_dz58 : dataZero Tryd.prog 58 = some (D.raw .nilFunc) := by kernel_rfl
theorem ty_k59 : tkind Tryd.prog 59 = some false := by kernel_rfl
theorem ty_z59 : tsz Tryd.prog 59 = some 1 := by kernel_rfl
theorem ty_b59 : tbytes Tryd.prog 59 = some 8 := by kernel_rfl
theorem ty_u59 : (Tryd.prog.underlying 59).isSome = true := by kernel_rfl
theorem ty_tz59 : tzero Tryd.prog 59 = some (Value.nilFunc) := by kernel_rfl
theorem ty_zs59 : (Value.nilFunc).cells.size = 1 := by kernel_rfl
theorem ty_zv59 : zeroV Tryd.prog 59 = .d (D.raw .nilFunc) := by kernel_rfl
theorem ty_dz59 : dataZero Tryd.prog 59 = some (D.raw .nilFunc) := by kernel_rfl
theorem ty_k60 : tkind Tryd.prog 60 = some false := by kernel_rfl
theorem ty_z60 : tsz Tryd.prog 60 = some 1 := by kernel_rfl
theorem ty_b60 : tbytes Tryd.prog 60 = some 0 := by kernel_rfl
theorem ty_u60 : (Tryd.prog.underlying 60).isSome = true := by kernel_rfl
theorem ty_zv60 : zeroV Tryd.prog 60 = .undef := by kernel_rfl
theorem ty_k61 : tkind Tryd.prog 61 = some false := by kernel_rfl
theorem ty_z61 : tsz Tryd.prog 61 = some 1 := by kernel_rfl
theorem ty_b61 : tbytes Tryd.prog 61 = some 8 := by kernel_rfl
theorem ty_u61 : (Tryd.prog.underlying 61).isSome = true := by kernel_rfl
theorem ty_tz61 : tzero Tryd.prog 61 = some (Value.nilFunc) := by kernel_rfl
theorem ty_zs61 : (Value.nilFunc).cells.size = 1 := by kernel_rfl
theorem ty_zv61 : zeroV Tryd.prog 61 = .d (D.raw .nilFunc) := by kernel_rfl
theorem ty_dz61 : dataZero Tryd.prog 61 = some (D.raw .nilFunc) := by kernel_rfl
theorem ty_k62 : tkind Tryd.prog 62 = some false := by kernel_rfl
theorem ty_z62 : tsz Tryd.prog 62 = some 1 := by kernel_rfl
theorem ty_b62 : tbytes Tryd.prog 62 = some 0 := by kernel_rfl
theorem ty_u62 : (Tryd.prog.underlying 62).isSome = true := by kernel_rfl
theorem ty_zv62 : zeroV Tryd.prog 62 = .undef := by kernel_rfl
theorem ty_k63 : tkind Tryd.prog 63 = some false := by kernel_rfl
theorem ty_z63 : tsz Tryd.prog 63 = some 1 := by kernel_rfl
theorem ty_b63 : tbytes Tryd.prog 63 = some 8 := by kernel_rfl
theorem ty_u63 : (Tryd.prog.underlying 63).isSome = true := by kernel_rfl
theorem ty_tz63 : tzero Tryd.prog 63 = some (Value.nilFunc) := by kernel_rfl
theorem ty_zs63 : (Value.nilFunc).cells.size = 1 := by kernel_rfl
theorem ty_zv63 : zeroV Tryd.prog 63 = .d (D.raw .nilFunc) := by kernel_rfl
theorem ty_dz63 : dataZero Tryd.prog 63 = some (D.raw .nilFunc) := by kernel_rfl
theorem ty_k64 : tkind Tryd.prog 64 = some false := by kernel_rfl
theorem ty_z64 : tsz Tryd.prog 64 = some 1 := by kernel_rfl
theorem ty_b64 : tbytes Tryd.prog 64 = some 8 := by kernel_rfl
theorem ty_u64 : (Tryd.prog.underlying 64).isSome = true := by kernel_rfl
theorem ty_tz64 : tzero Tryd.prog 64 = some (Value.nilFunc) := by kernel_rfl
theorem ty_zs64 : (Value.nilFunc).cells.size = 1 := by kernel_rfl
theorem ty_zv64 : zeroV Tryd.prog 64 = .d (D.raw .nilFunc) := by kernel_rfl
theorem ty_dz64 : dataZero Tryd.prog 64 = some (D.raw .nilFunc) := by kernel_rfl
theorem ty_k65 : tkind Tryd.prog 65 = some false := by kernel_rfl
theorem ty_z65 : tsz Tryd.prog 65 = some 1 := by kernel_rfl
theorem ty_b65 : tbytes Tryd.prog 65 = some 8 := by kernel_rfl
theorem ty_u65 : (Tryd.prog.underlying 65).isSome = true := by kernel_rfl
theorem ty_tz65 : tzero Tryd.prog 65 = some (Value.nilFunc) := by kernel_rfl
theorem ty_zs65 : (Value.nilFunc).cells.size = 1 := by kernel_rfl
theorem ty_zv65 : zeroV Tryd.prog 65 = .d (D.raw .nilFunc) := by kernel_rfl
theorem ty_dz65 : dataZero Tryd.prog 65 = some (D.raw .nilFunc) := by kernel_rfl
theorem ty_k66 : tkind Tryd.prog 66 = some false := by kernel_rfl
theorem ty_z66 : tsz Tryd.prog 66 = some 1 := by kernel_rfl
theorem ty_b66 : tbytes Tryd.prog 66 = some 8 := by kernel_rfl
theorem ty_u66 : (Tryd.prog.underlying 66).isSome = true := by kernel_rfl
theorem ty_tz66 : tzero Tryd.prog 66 = some (Value.nilFunc) := by kernel_rfl
theorem ty_zs66 : (Value.nilFunc).cells.size = 1 := by kernel_rfl
theorem ty_zv66 : zeroV Tryd.prog 66 = .d (D.raw .nilFunc) := by kernel_rfl
theorem ty_dz66 : dataZero Tryd.prog 66 = some (D.raw .nilFunc) := by kernel_rfl
theorem ty_k67 : tkind Tryd.prog 67 = some false := by kernel_rfl
theorem ty_z67 : tsz Tryd.prog 67 = some 1 := by kernel_rfl
theorem ty_b67 : tbytes Tryd.prog 67 = some 0 := by kernel_rfl
theorem ty_u67 : (Tryd.prog.underlying 67).isSome = true := by kernel_rfl
theorem ty_zv67 : zeroV Tryd.prog 67 = .undef := by kernel_rfl
theorem ty_k68 : tkind Tryd.prog 68 = some false := by kernel_rfl
theorem ty_z68 : tsz Tryd.prog 68 = some 1 := by kernel_rfl
theorem ty_b68 : tbytes Tryd.prog 68 = some 8 := by kernel_rfl
theorem ty_u68 : (Tryd.prog.underlying 68).isSome = true := by kernel_rfl
theorem ty_tz68 : tzero Tryd.prog 68 = some (Value.nilFunc) := by kernel_rfl
theorem ty_zs68 : (Value.nilFunc).cells.size = 1 := by kernel_rfl
theorem ty_zv68 : zeroV Tryd.prog 68 = .d (D.raw .nilFunc) := by kernel_rfl
theorem ty_dz68 : dataZero Tryd.prog 68 = some (D.raw .nilFunc) := by kernel_rfl
theorem ty_k69 : tkind Tryd.prog 69 = some false := by kernel_rfl
theorem ty_z69 : tsz Tryd.prog 69 = some 1 := by kernel_rfl
theorem ty_b69 : tbytes Tryd.prog 69 = some 8 := by kernel_rfl
theorem ty_u69 : (Tryd.prog.underlying 69).isSome = true := by kernel_rfl
theorem ty_tz69 : tzero Tryd.prog 69 = some (Value.nilFunc) := by kernel_rfl
theorem ty_zs69 : (Value.nilFunc).cells.size = 1 := by kernel_rfl
theorem ty_zv69 : zeroV Tryd.prog 69 = .d (D.raw .nilFunc) := by kernel_rfl
theorem ty_dz69 : dataZero Tryd.prog 69 = some (D.raw .nilFunc) := by kernel_rfl
theorem ty_k70 : tkind Tryd.prog 70 = some false := by kernel_rfl
theorem ty_z70 : tsz Tryd.prog 70 = some 1 := by kernel_rfl
theorem ty_b70 : tbytes Tryd.prog 70 = some 8 := by kernel_rfl
theorem ty_u70 : (Tryd.prog.underlying 70).isSome = true := by kernel_rfl
theorem ty_tz70 : tzero Tryd.prog 70 = some (Value.nilFunc) := by kernel_rfl
theorem ty_zs70 : (Value.nilFunc).cells.size = 1 := by kernel_rfl
theorem ty_zv70 : zeroV Tryd.prog 70 = .d (D.raw .nilFunc) := by kernel_rfl
theorem ty_dz70 : dataZero Tryd.prog 70 = some (D.raw .nilFunc) := by kernel_rfl
theorem ty_k71 : tkind Tryd.prog 71 = some false := by kernel_rfl
theorem ty_z71 : tsz Tryd.prog 71 = some 1 := by kernel_rfl
theorem ty_b71 : tbytes Tryd.prog 71 = some 0 := by kernel_rfl
theorem ty_u71 : (Tryd.prog.underlying 71).isSome = true := by kernel_rfl
theorem ty_zv71 : zeroV Tryd.prog 71 = .undef := by kernel_rfl
theorem ty_k72 : tkind Tryd.prog 72 = some false := by kernel_rfl
theorem ty_z72 : tsz Tryd.prog 72 = some 1 := by kernel_rfl
theorem ty_b72 : tbytes Tryd.prog 72 = some 8 := by kernel_rfl
theorem ty_u72 : (Tryd.prog.underlying 72).isSome = true := by kernel_rfl
theorem ty_tz72 : tzero Tryd.prog 72 = some (Value.nilFunc) := by kernel_rfl
theorem ty_zs72 : (Value.nilFunc).cells.size = 1 := by kernel_rfl
theorem ty_zv72 : zeroV Tryd.prog 72 = .d (D.raw .nilFunc) := by kernel_rfl
theorem ty_dz72 : dataZero Tryd.prog 72 = some (D.raw .nilFunc) := by kernel_rfl
theorem ty_k73 : tkind Tryd.prog 73 = some false := by kernel_rfl
theorem ty_z73 : tsz Tryd.prog 73 = some 1 := by kernel_rfl
theorem ty_b73 : tbytes Tryd.prog 73 = some 0 := by kernel_rfl
theorem ty_u73 : (Tryd.prog.underlying 73).isSome = true := by kernel_rfl
theorem ty_zv73 : zeroV Tryd.prog 73 = .undef := by kernel_rfl
theorem ty_k74 : tkind Tryd.prog 74 = some false := by kernel_rfl
theorem ty_z74 : tsz Tryd.prog 74 = some 1 := by kernel_rfl
theorem ty_b74 : tbytes Tryd.prog 74 = some 8 := by kernel_rfl
theorem ty_u74 : (Tryd.prog.underlying 74).isSome = true := by kernel_rfl
theorem ty_tz74 : tzero Tryd.prog 74 = some (Value.nilFunc) := by kernel_rfl
theorem ty_zs74 : (Value.nilFunc).cells.size = 1 := by kernel_rfl
theorem ty_zv74 : zeroV Tryd.prog 74 = .d (D.raw .nilFunc) := by kernel_rfl
theorem ty_dz74 : dataZero Tryd.prog 74 = some (D.raw .nilFunc) := by kernel_rfl
theorem ty_k75 : tkind Tryd.prog 75 = some false := by kernel_rfl
theorem ty_z75 : tsz Tryd.prog 75 = some 1 := by kernel_rfl
theorem ty_b75 : tbytes Tryd.prog 75 = some 8 := by kernel_rfl
theorem ty_u75 : (Tryd.prog.underlying 75).isSome = true := by kernel_rfl
theorem ty_tz75 : tzero Tryd.prog 75 = some (Value.nilFunc) := by kernel_rfl
theorem ty_zs75 : (Value.nilFunc).cells.size = 1 := by kernel_rfl
theorem ty_zv75 : zeroV Tryd.prog 75 = .d (D.raw .nilFunc) := by kernel_rfl
theorem ty_dz75 : dataZero Tryd.prog 75 = some (D.raw .nilFunc) := by kernel_rfl
theorem ty_k76 : tkind Tryd.prog 76 = some false := by kernel_rfl
theorem ty_z76 : tsz Tryd.prog 76 = some 1 := by kernel_rfl
theorem ty_b76 : tbytes Tryd.prog 76 = some 8 := by kernel_rfl
theorem ty_u76 : (Tryd.prog.underlying 76).isSome = true := by kernel_rfl
theorem ty_tz76 : tzero Tryd.prog 76 = some (Value.nilFunc) := by kernel_rfl
theorem ty_zs76 : (Value.nilFunc).cells.size = 1 := by kernel_rfl
theorem ty_zv76 : zeroV Tryd.prog 76 = .d (D.raw .nilFunc) := by kernel_rfl
theorem ty_dz76 : dataZero Tryd.prog 76 = some (D.raw .nilFunc) := by kernel_rfl
theorem ty_k77 : tkind Tryd.prog 77 = some false := by kernel_rfl
theorem ty_z77 : tsz Tryd.prog 77 = some 1 := by kernel_rfl
theorem ty_b77 : tbytes Tryd.prog 77 = some 8 := by kernel_rfl
theorem ty_u77 : (Tryd.prog.underlying 77).isSome = true := by kernel_rfl
theorem ty_tz77 : tzero Tryd.prog 77 = some (Value.nilFunc) := by kernel_rfl
theorem ty_zs77 : (Value.nilFunc).cells.size = 1 := by kernel_rfl
theorem ty_zv77 : zeroV Tryd.prog 77 = .d (D.raw .nilFunc) := by kernel_rfl
theorem ty_dz77 : dataZero Tryd.prog 77 = some (D.raw .nilFunc) := by kernel_rfl
theorem ty_k78 : tkind Tryd.prog 78 = some false := by kernel_rfl
theorem ty_z78 : tsz Tryd.prog 78 = some 1 := by kernel_rfl
theorem ty_b78 : tbytes Tryd.prog 78 = some 8 := by kernel_rfl
theorem ty_u78 : (Tryd.prog.underlying 78).isSome = true := by kernel_rfl
theorem ty_tz78 : tzero Tryd.prog 78 = some (Value.nilFunc) := by kernel_rfl
theorem ty_zs78 : (Value.nilFunc).cells.size = 1 := by kernel_rfl
theorem ty_zv78 : zeroV Tryd.prog 78 = .d (D.raw .nilFunc) := by kernel_rfl
theorem ty_dz78 : dataZero Tryd.prog 78 = some (D.raw .nilFunc) := by kernel_rfl
theorem ty_k79 : tkind Tryd.prog 79 = some false := by kernel_rfl
theorem ty_z79 : tsz Tryd.prog 79 = some 1 := by kernel_rfl
theorem ty_b79 : tbytes Tryd.prog 79 = some 8 := by kernel_rfl
theorem ty_i79 : tintk Tryd.prog 79 = some .u64 := by kernel_rfl
theorem ty_u79 : (Tryd.prog.underlying 79).isSome = true := by kernel_rfl
theorem ty_tz79 : tzero Tryd.prog 79 = some (Value.int .u64 0) := by kernel_rfl
theorem ty_zs79 : (Value.int .u64 0).cells.size = 1 := by kernel_rfl
theorem ty_zv79 : zeroV Tryd.prog 79 = .d (D.int .u64 0) := by kernel_rfl
theorem ty_dz79 : dataZero Tryd.prog 79 = some (D.int .u64 0) := by kernel_rfl
theorem ty_k80 : tkind Tryd.prog 80 = some false := by kernel_rfl
theorem ty_z80 : tsz Tryd.prog 80 = some 1 := by kernel_rfl
theorem ty_b80 : tbytes Tryd.prog 80 = some 16 := by kernel_rfl
theorem ty_u80 : (Tryd.prog.underlying 80).isSome = true := by kernel_rfl
theorem ty_tz80 : tzero Tryd.prog 80 = some (Value.nilIface) := by kernel_rfl
theorem ty_zs80 : (Value.nilIface).cells.size = 1 := by kernel_rfl
theorem ty_zv80 : zeroV Tryd.prog 80 = .d (D.raw .nilIface) := by kernel_rfl
theorem ty_dz80 : dataZero Tryd.prog 80 = some (D.raw .nilIface) := by kernel_rfl
theorem ty_k81 : tkind Tryd.prog 81 = some false := by kernel_rfl
theorem ty_z81 : tsz Tryd.prog 81 = some 1 := by kernel_rfl
theorem ty_b81 : tbytes Tryd.prog 81 = some 16 := by kernel_rfl
theorem ty_u81 : (Tryd.prog.underlying 81).isSome = true := by kernel_rfl
theorem ty_tz81 : tzero Tryd.prog 81 = some (Value.nilIface) := by kernel_rfl
theorem ty_zs81 : (Value.nilIface).cells.size = 1 := by kernel_rfl
theorem ty_zv81 : zeroV Tryd.prog 81 = .d (D.raw .nilIface) := by kernel_rfl
theorem ty_dz81 : dataZero Tryd.prog 81 = some (D.raw .nilIface) := by kernel_rfl
theorem ty_k82 : tkind Tryd.prog 82 = some false := by kernel_rfl
theorem ty_z82 : tsz Tryd.prog 82 = some 1 := by kernel_rfl
theorem ty_b82 : tbytes Tryd.prog 82 = some 8 := by kernel_rfl
theorem ty_u82 : (Tryd.prog.underlying 82).isSome = true := by kernel_rfl
theorem ty_tz82 : tzero Tryd.prog 82 = some (Value.nilFunc) := by kernel_rfl
theorem ty_zs82 : (Value.nilFunc).cells.size = 1 := by kernel_rfl
theorem ty_zv82 : zeroV Tryd.prog 82 = .d (D.raw .nilFunc) := by kernel_rfl
theorem ty_dz82 : dataZero Tryd.prog 82 = some (D.raw .nilFunc) := by kernel_rfl
theorem ty_k83 : tkind Tryd.prog 83 = some false := by kernel_rfl
theorem ty_z83 : tsz Tryd.prog 83 = some 1 := by kernel_rfl
theorem ty_b83 : tbytes Tryd.prog 83 = some 8 := by kernel_rfl
theorem ty_u83 : (Tryd.prog.underlying 83).isSome = true := by kernel_rfl
theorem ty_tz83 : tzero Tryd.prog 83 = some (Value.nilFunc) := by kernel_rfl
theorem ty_zs83 : (Value.nilFunc).cells.size = 1 := by kernel_rfl
theorem ty_zv83 : zeroV Tryd.prog 83 = .d (D.raw .nilFunc) := by kernel_rfl
theorem ty_dz83 : dataZero Tryd.prog 83 = some (D.raw .nilFunc) := by kernel_rfl
theorem ty_k84 : tkind Tryd.prog 84 = some true := by kernel_rfl
theorem ty_z84 : tsz Tryd.prog 84 = some 24 := by kernel_rfl
theorem ty_b84 : tbytes Tryd.prog 84 = some 24 := by kernel_rfl
theorem ty_x84 : tidx Tryd.prog 84 = some (some 24, 1) := by kernel_rfl
theorem ty_u84 : (Tryd.prog.underlying 84).isSome = true := by kernel_rfl
theorem ty_p84 : tplaces Tryd.prog 84 = some [(0, 1), (1, 1), (2, 1), (3, 1), (4, 1), (5, 1), (6, 1), (7, 1), (8, 1), (9, 1), (10, 1), (11, 1), (12, 1), (13, 1), (14, 1), (15, 1), (16, 1), (17, 1), (18, 1), (19, 1), (20, 1), (21, 1), (22, 1), (23, 1)] := by kernel_rfl
theorem ty_za84 : tzeroA Tryd.prog 84 = some [.d (D.int .u8 0), .d (D.int .u8 0), .d (D.int .u8 0), .d (D.int .u8 0), .d (D.int .u8 0), .d (D.int .u8 0), .d (D.int .u8 0), .d (D.int .u8 0), .d (D.int .u8 0), .d (D.int .u8 0), .d (D.int .u8 0), .d (D.int .u8 0), .d (D.int .u8 0), .d (D.int .u8 0), .d (D.int .u8 0), .d (D.int .u8 0), .d (D.int .u8 0), .d (D.int .u8 0), .d (D.int .u8 0), .d (D.int .u8 0), .d (D.int .u8 0), .d (D.int .u8 0), .d (D.int .u8 0), .d (D.int .u8 0)] := by kernel_rfl
theorem ty_tz84 : tzero Tryd.prog 84 = some (Value.agg #[Value.int .u8 0, Value.int .u8 0, Value.int .u8 0, Value.int .u8 0, Value.int .u8 0, Value.int .u8 0, Value.int .u8 0, Value.int .u8 0, Value.int .u8 0, Value.int .u8 0, Value.int .u8 0, Value.int .u8 0, Value.int .u8 0, Value.int .u8 0, Value.int .u8 0, Value.int .u8 0, Value.int .u8 0, Value.int .u8 0, Value.int .u8 0, Value.int .u8 0, Value.int .u8 0, Value.int .u8 0, Value.int .u8 0, Value.int .u8 0]) := by kernel_rfl
theorem ty_zs84 : (Value.agg #[Value.int .u8 0, Value.int .u8 0, Value.int .u8 0, Value.int .u8 0, Value.int .u8 0, Value.int .u8 0, Value.int .u8 0, Value.int .u8 0, Value.int .u8 0, Value.int .u8 0, Value.int .u8 0, Value.int .u8 0, Value.int .u8 0, Value.int .u8 0, Value.int .u8 0, Value.int .u8 0, Value.int .u8 0, Value.int .u8 0, Value.int .u8 0, Value.int .u8 0, Value.int .u8 0, Value.int .u8 0, Value.int .u8 0, Value.int .u8 0]).cells.size = 24 := by kernel_rfl
theorem ty_zv84 : zeroV Tryd.prog 84 = .d (D.agg [D.int .u8 0, D.int .u8 0, D.int .u8 0, D.int .u8 0, D.int .u8 0, D.int .u8 0, D.int .u8 0, D.int .u8 0, D.int .u8 0, D.int .u8 0, D.int .u8 0, D.int .u8 0, D.int .u8 0, D.int .u8 0, D.int .u8 0, D.int .u8 0, D.int .u8 0, D.int .u8 0, D.int .u8 0, D.int .u8 0, D.int .u8 0, D.int .u8 0, D.int .u8 0, D.int .u8 0]) := by kernel_rfl
theorem ty_dz84 : dataZero Tryd.prog 84 = some (D.agg [D.int .u8 0, D.int .u8 0, D.int .u8 0, D.int .u8 0, D.int .u8 0, D.int .u8 0, D.int .u8 0, D.int .u8 0, D.int .u8 0, D.int .u8 0, D.int .u8 0, D.int .u8 0, D.int .u8 0, D.int .u8 0, D.int .u8 0, D.int .u8 0, D.int .u8 0, D.int .u8 0, D.int .u8 0, D.int .u8 0, D.int .u8 0, D.int .u8 0, D.int .u8 0, D.int .u8 0]) := by kernel_rfl
theorem ty_k85 : tkind Tryd.prog 85 = some false := by kernel_rfl
theorem ty_z85 : tsz Tryd.prog 85 = some 1 := by kernel_rfl
theorem ty_b85 : tbytes Tryd.prog 85 = some 8 := by kernel_rfl
theorem ty_u85 : (Tryd.prog.underlying 85).isSome = true := by kernel_rfl
theorem ty_tz85 : tzero Tryd.prog 85 = some (Value.nilFunc) := by kernel_rfl
theorem ty_zs85 : (Value.nilFunc).cells.size = 1 := by kernel_rfl
theorem ty_zv85 : zeroV Tryd.prog 85 = .d (D.raw .nilFunc) := by kernel_rfl
theorem ty_dz85 : dataZero Tryd.prog 85 = some (D.raw .nilFunc) := by kernel_rfl
theorem ty_k86 : tkind Tryd.prog 86 = some false := by kernel_rfl
theorem ty_z86 : tsz Tryd.prog 86 = some 1 := by kernel_rfl
theorem ty_e86 : telem Tryd.prog 86 = some 5 := by kernel_rfl
theorem ty_ae86 : apEs Tryd.prog 86 = 1 := by kernel_rfl
theorem ty_b86 : tbytes Tryd.prog 86 = some 24 := by kernel_rfl
theorem ty_x86 : tidx Tryd.prog 86 = some (none, 1) := by kernel_rfl
theorem ty_u86 : (Tryd.prog.underlying 86).isSome = true := by kernel_rfl
theorem ty_tz86 : tzero Tryd.prog 86 = some (Value.slice none 0 0) := by kernel_rfl
theorem ty_zs86 : (Value.slice none 0 0).cells.size = 1 := by kernel_rfl
theorem ty_zv86 : zeroV Tryd.prog 86 = .nils := by kernel_rfl
theorem ty_dz86 : dataZero Tryd.prog 86 = some (D.sl []) := by kernel_rfl
theorem ty_k87 : tkind Tryd.prog 87 = some false := by kernel_rfl
theorem ty_z87 : tsz Tryd.prog 87 = some 1 := by kernel_rfl
theorem ty_b87 : tbytes Tryd.prog 87 = some 0 := by kernel_rfl
theorem ty_u87 : (Tryd.prog.underlying 87).isSome = true := by kernel_rfl
theorem ty_zv87 : zeroV Tryd.prog 87 = .undef := by kernel_rfl
theorem ty_k88 : tkind Tryd.prog 88 = some false := by kernel_rfl
theorem ty_z88 : tsz Tryd.prog 88 = some 1 := by kernel_rfl
theorem ty_b88 : tbytes Tryd.prog 88 = some 8 := by kernel_rfl
theorem ty_u88 : (Tryd.prog.underlying 88).isSome = true := by kernel_rfl
theorem ty_tz88 : tzero Tryd.prog 88 = some (Value.nilFunc) := by kernel_rfl
theorem ty_zs88 : (Value.nilFunc).cells.size = 1 := by kernel_rfl
theorem ty_zv88 : zeroV Tryd.prog 88 = .d (D.raw .nilFunc) := by kernel_rfl
theorem ty_dz88 : dataZero Tryd.prog 88 = some (D.raw .nilFunc) := by kernel_rfl
theorem ty_k89 : tkind Tryd.prog 89 = some false := by kernel_rfl
theorem ty_z89 : tsz Tryd.prog 89 = some 1 := by kernel_rfl
theorem ty_b89 : tbytes Tryd.prog 89 = some 8 := by kernel_rfl
theorem ty_u89 : (Tryd.prog.underlying 89).isSome = true := by kernel_rfl
theorem ty_tz89 : tzero Tryd.prog 89 = some (Value.nilFunc) := by kernel_rfl
theorem ty_zs89 : (Value.nilFunc).cells.size = 1 := by kernel_rfl
theorem ty_zv89 : zeroV Tryd.prog 89 = .d (D.raw .nilFunc) := by kernel_rfl
theorem ty_dz89 : dataZero Tryd.prog 89 = some (D.raw .nilFunc) := by kernel_rfl
theorem ty_k90 : tkind Tryd.prog 90 = some true := by kernel_rfl
theorem ty_z90 : tsz Tryd.prog 90 = some 20 := by kernel_rfl
theorem ty_b90 : tbytes Tryd.prog 90 = some 160 := by kernel_rfl
theorem ty_x90 : tidx Tryd.prog 90 = some (some 20, 1) := by kernel_rfl
theorem ty_u90 : (Tryd.prog.underlying 90).isSome = true := by kernel_rfl
theorem ty_p90 : tplaces Tryd.prog 90 = some [(0, 1), (1, 1), (2, 1), (3, 1), (4, 1), (5, 1), (6, 1), (7, 1), (8, 1), (9, 1), (10, 1), (11, 1), (12, 1), (13, 1), (14, 1), (15, 1), (16, 1), (17, 1), (18, 1), (19, 1)] := by kernel_rfl
theorem ty_za90 : tzeroA Tryd.prog 90 = some [.d (D.int .u64 0), .d (D.int .u64 0), .d (D.int .u64 0), .d (D.int .u64 0), .d (D.int .u64 0), .d (D.int .u64 0), .d (D.int .u64 0), .d (D.int .u64 0), .d (D.int .u64 0), .d (D.int .u64 0), .d (D.int .u64 0), .d (D.int .u64 0), .d (D.int .u64 0), .d (D.int .u64 0), .d (D.int .u64 0), .d (D.int .u64 0), .d (D.int .u64 0), .d (D.int .u64 0), .d (D.int .u64 0), .d (D.int .u64 0)] := by kernel_rfl
theorem ty_tz90 : tzero Tryd.prog 90 = some (Value.agg #[Value.int .u64 0, Value.int .u64 0, Value.int .u64 0, Value.int .u64 0, Value.int .u64 0, Value.int .u64 0, Value.int .u64 0, Value.int .u64 0, Value.int .u64 0, Value.int .u64 0, Value.int .u64 0, Value.int .u64 0, Value.int .u64 0, Value.int .u64 0, Value.int .u64 0, Value.int .u64 0, Value.int .u64 0, Value.int .u64 0, Value.int .u64 0, Value.int .u64 0]) := by kernel_rfl
theorem ty_zs90 : (Value.agg #[Value.int .u64 0, Value.int .u64 0, Value.int .u64 0, Value.int .u64 0, Value.int .u64 0, Value.int .u64 0, Value.int .u64 0, Value.int .u64 0, Value.int .u64 0, Value.int .u64 0, Value.int .u64 0, Value.int .u64 0, Value.int .u64 0, Value.int .u64 0, Value.int .u64 0, Value.int .u64 0, Value.int .u64 0, Value.int .u64 0, Value.int .u64 0, Value.int .u64 0]).cells.size = 20 := by kernel_rfl
theorem ty_zv90 : zeroV Tryd.prog 90 = .d (D.agg [D.int .u64 0, D.int .u64 0, D.int .u64 0, D.int .u64 0, D.int .u64 0, D.int .u64 0, D.int .u64 0, D.int .u64 0, D.int .u64 0, D.int .u64 0, D.int .u64 0, D.int .u64 0, D.int .u64 0, D.int .u64 0, D.int .u64 0, D.int .u64 0, D.int .u64 0, D.int .u64 0, D.int .u64 0, D.int .u64 0]) := by kernel_rfl
theorem ty_dz90 : dataZero Tryd.prog 90 = some (D.agg [D.int .u64 0, D.int .u64 0, D.int .u64 0, D.int .u64 0, D.int .u64 0, D.int .u64 0, D.int .u64 0, D.int .u64 0, D.int .u64 0, D.int .u64 0, D.int .u64 0, D.int .u64 0, D.int .u64 0, D.int .u64 0, D.int .u64 0, D.int .u64 0, D.int .u64 0, D.int .u64 0, D.int .u64 0, D.int .u64 0]) := by kernel_rfl
theorem ty_k91 : tkind Tryd.prog 91 = some false := by kernel_rfl
theorem ty_z91 : tsz Tryd.prog 91 = some 1 := by kernel_rfl
theorem ty_b91 : tbytes Tryd.prog 91 = some 4 := by kernel_rfl
theorem ty_i91 : tintk Tryd.prog 91 = some .u32 := by kernel_rfl
theorem ty_u91 : (Tryd.prog.underlying 91).isSome = true := by kernel_rfl
theorem ty_tz91 : tzero Tryd.prog 91 = some (Value.int .u32 0) := by kernel_rfl
theorem ty_zs91 : (Value.int .u32 0).cells.size = 1 := by kernel_rfl
theorem ty_zv91 : zeroV Tryd.prog 91 = .d (D.int .u32 0) := by kernel_rfl
theorem ty_dz91 : dataZero Tryd.prog 91 = some (D.int .u32 0) := by kernel_rfl
theorem ty_k92 : tkind Tryd.prog 92 = some true := by kernel_rfl
theorem ty_z92 : tsz Tryd.prog 92 = some 65 := by kernel_rfl
theorem ty_b92 : tbytes Tryd.prog 92 = some 65 := by kernel_rfl
theorem ty_x92 : tidx Tryd.prog 92 = some (some 65, 1) := by kernel_rfl
theorem ty_u92 : (Tryd.prog.underlying 92).isSome = true := by kernel_rfl
theorem ty_p92 : tplaces Tryd.prog 92 = some [(0, 1), (1, 1), (2, 1), (3, 1), (4, 1), (5, 1), (6, 1), (7, 1), (8, 1), (9, 1), (10, 1), (11, 1), (12, 1), (13, 1), (14, 1), (15, 1), (16, 1), (17, 1), (18, 1), (19, 1), (20, 1), (21, 1), (22, 1), (23, 1), (24, 1), (25, 1), (26, 1), (27, 1), (28, 1), (29, 1), (30, 1), (31, 1), (32, 1), (33, 1), (34, 1), (35, 1), (36, 1), (37, 1), (38, 1), (39, 1), (40, 1), (41, 1), (42, 1), (43, 1), (44, 1), (45, 1), (46, 1), (47, 1), (48, 1), (49, 1), (50, 1), (51, 1), (52, 1), (53, 1), (54, 1), (55, 1), (56, 1), (57, 1), (58, 1), (59, 1), (60, 1), (61, 1), (62, 1), (63, 1), (64, 1)] := by kernel_rfl
theorem ty_za92 : tzeroA Tryd.prog 92 = some [.d (D.int .u8 0), .d (D.int .u8 0), .d (D.int .u8 0), .d (D.int .u8 0), .d (D.int .u8 0), .d (D.int .u8 0), .d (D.int .u8 0), .d (D.int .u8 0), .d (D.int .u8 0), .d (D.int .u8 0), .d (D.int .u8 0), .d (D.int .u8 0), .d (D.int .u8 0), .d (D.int .u8 0), .d (D.int .u8 0), .d (D.int .u8 0), .d (D.int .u8 0), .d (D.int .u8 0), .d (D.int .u8 0), .d (D.int .u8 0), .d (D.int .u8 0), .d (D.int .u8 0), .d (D.int .u8 0), .d (D.int .u8 0), .d (D.int .u8 0), .d (D.int .u8 0), .d (D.int .u8 0), .d (D.int .u8 0), .d (D.int .u8 0), .d (D.int .u8 0), .d (D.int .u8 0), .d (D.int .u8 0), .d (D.int .u8 0), .d (D.int .u8 0), .d (D.int .u8 0), .d (D.int .u8 0), .d (D.int .u8 0), .d (D.int .u8 0), .d (D.int .u8 0), .d (D.int .u8 0), .d (D.int .u8 0), .d (D.int .u8 0), .d (D.int .u8 0), .d (D.int .u8 0), .d (D.int .u8 0), .d (D.int .u8 0), .d (D.int .u8 0), .d (D.int .u8 0), .d (D.int .u8 0), .d (D.int .u8 0), .d (D.int .u8 0), .d (D.int .u8 0), .d (D.int .u8 0), .d (D.int .u8 0), .d (D.int .u8 0), .d (D.int .u8 0), .d (D.int .u8 0), .d (D.int .u8 0), .d (D.int .u8 0), .d (D.int .u8 0), .d (D.int .u8 0), .d (D.int .u8 0), .d (D.int .u8 0), .d (D.int .u8 0), .d (D.int .u8 0)] := by kernel_rfl
theorem ty_tz92 : tzero Tryd.prog 92 = some (Value.agg #[Value.int .u8 0, Value.int .u8 0, Value.int .u8 0, Value.int .u8 0, Value.int .u8 0, Value.int .u8 0, Value.int .u8 0, Value.int .u8 0, Value.int .u8 0, Value.int .u8 0, Value.int .u8 0, Value.int .u8 0, Value.int .u8 0, Value.int .u8 0, Value.int .u8 0, Value.int .u8 0, Value.int .u8 0, Value.int .u8 0, Value.int .u8 0, Value.int .u8 0, Value.int .u8 0, Value.int .u8 0, Value.int .u8 0, Value.int .u8 0, Value.int .u8 0, Value.int .u8 0, Value.int .u8 0, Value.int .u8 0, Value.int .u8 0, Value.int .u8 0, Value.int .u8 0, Value.int .u8 0, Value.int .u8 0, Value.int .u8 0, Value.int .u8 0, Value.int .u8 0, Value.int .u8 0, Value.int .u8 0, Value.int .u8 0, Value.int .u8 0, Value.int .u8 0, Value.int .u8 0, Value.int .u8 0, Value.int .u8 0, Value.int .u8 0, Value.int .u8 0, Value.int .u8 0, Value.int .u8 0, Value.int .u8 0, Value.int .u8 0, Value.int .u8 0, Value.int .u8 0, Value.int .u8 0, Value.int .u8 0, Value.int .u8 0, Value.int .u8 0, Value.int .u8 0, Value.int .u8 0, Value.int .u8 0, Value.int .u8 0, Value.int .u8 0, Value.int .u8 0, Value.int .u8 0, Value.int .u8 0, Value.int .u8 0]) := by kernel_rfl
theorem ty_zs92 : (Value.agg #[Value.int .u8 0, Value.int .u8 0, Value.int .u8 0, Value.int .u8 0, Value.int .u8 0, Value.int .u8 0, Value.int .u8 0, Value.int .u8 0, Value.int .u8 0, Value.int .u8 0, Value.int .u8 0, Value.int .u8 0, Value.int .u8 0, Value.int .u8 0, Value.int .u8 0, Value.int .u8 0, Value.int .u8 0, Value.int .u8 0, Value.int .u8 0, Value.int .u8 0, Value.int .u8 0, Value.int .u8 0, Value.int .u8 0, Value.int .u8 0, Value.int .u8 0, Value.int .u8 0, Value.int .u8 0, Value.int .u8 0, Value.int .u8 0, Value.int .u8 0, Value.int .u8 0, Value.int .u8 0, Value.int .u8 0, Value.int .u8 0, Value.int .u8 0, Value.int .u8 0, Value.int .u8 0, Value.int .u8 0, Value.int .u8 0, Value.int .u8 0, Value.int .u8 0, Value.int .u8 0, Value.int .u8 0, Value.int .u8 0, Value.int .u8 0, Value.int .u8 0, Value.int .u8 0, Value.int .u8 0, Value.int .u8 0, Value.int .u8 0, Value.int .u8 0, Value.int .u8 0, Value.int .u8 0, Value.int .u8 0, Value.int .u8 0, Value.int .u8 0, Value.int .u8 0, Value.int .u8 0, Value.int .u8 0, Value.int .u8 0, Value.int .u8 0, Value.int .u8 0, Value.int .u8 0, Value.int .u8 0, Value.int .u8 0]).cells.size = 65 := by kernel_rfl
theorem ty_zv92 : zeroV Tryd.prog 92 = .d (D.agg [D.int .u8 0, D.int .u8 0, D.int .u8 0, D.int .u8 0, D.int .u8 0, D.int .u8 0, D.int .u8 0, D.int .u8 0, D.int .u8 0, D.int .u8 0, D.int .u8 0, D.int .u8 0, D.int .u8 0, D.int .u8 0, D.int .u8 0, D.int .u8 0, D.int .u8 0, D.int .u8 0, D.int .u8 0, D.int .u8 0, D.int .u8 0, D.int .u8 0, D.int .u8 0, D.int .u8 0, D.int .u8 0, D.int .u8 0, D.int .u8 0, D.int .u8 0, D.int .u8 0, D.int .u8 0, D.int .u8 0, D.int .u8 0, D.int .u8 0, D.int .u8 0, D.int .u8 0, D.int .u8 0, D.int .u8 0, D.int .u8 0, D.int .u8 0, D.int .u8 0, D.int .u8 0, D.int .u8 0, D.int .u8 0, D.int .u8 0, D.int .u8 0, D.int .u8 0, D.int .u8 0, D.int .u8 0, D.int .u8 0, D.int .u8 0, D.int .u8 0, D.int .u8 0, D.int .u8 0, D.int .u8 0, D.int .u8 0, D.int .u8 0, D.int .u8 0, D.int .u8 0, D.int .u8 0, D.int .u8 0, D.int .u8 0, D.int .u8 0, D.int .u8 0, D.int .u8 0, D.int .u8 0]) := by kernel_rfl
theorem ty_dz92 : dataZero Tryd.prog 92 = some (D.agg [D.int .u8 0, D.int .u8 0, D.int .u8 0, D.int .u8 0, D.int .u8 0, D.int .u8 0, D.int .u8 0, D.int .u8 0, D.int .u8 0, D.int .u8 0, D.int .u8 0, D.int .u8 0, D.int .u8 0, D.int .u8 0, D.int .u8 0, D.int .u8 0, D.int .u8 0, D.int .u8 0, D.int .u8 0, D.int .u8 0, D.int .u8 0, D.int .u8 0, D.int .u8 0, D.int .u8 0, D.int .u8 0, D.int .u8 0, D.int .u8 0, D.int .u8 0, D.int .u8 0, D.int .u8 0, D.int .u8 0, D.int .u8 0, D.int .u8 0, D.int .u8 0, D.int .u8 0, D.int .u8 0, D.int .u8 0, D.int .u8 0, D.int .u8 0, D.int .u8 0, D.int .u8 0, D.int .u8 0, D.int .u8 0, D.int .u8 0, D.int .u8 0, D.int .u8 0, D.int .u8 0, D.int .u8 0, D.int .u8 0, D.int .u8 0, D.int .u8 0, D.int .u8 0, D.int .u8 0, D.int .u8 0, D.int .u8 0, D.int .u8 0, D.int .u8 0, D.int .u8 0, D.int .u8 0, D.int .u8 0, D.int .u8 0, D.int .u8 0, D.int .u8 0, D.int .u8 0, D.int .u8 0]) := by kernel_rfl
theorem ty_k93 : tkind Tryd.prog 93 = some false := by kernel_rfl
theorem ty_z93 : tsz Tryd.prog 93 = some 1 := by kernel_rfl
theorem ty_b93 : tbytes Tryd.prog 93 = some 8 := by kernel_rfl
theorem ty_u93 : (Tryd.prog.underlying 93).isSome = true := by kernel_rfl
theorem ty_tz93 : tzero Tryd.prog 93 = some (Value.nilFunc) := by kernel_rfl
theorem ty_zs93 : (Value.nilFunc).cells.size = 1 := by kernel_rfl
theorem ty_zv93 : zeroV Tryd.prog 93 = .d (D.raw .nilFunc) := by kernel_rfl
theorem ty_dz93 : dataZero Tryd.prog 93 = some (D.raw .nilFunc) := by kernel_rfl
theorem ty_k94 : tkind Tryd.prog 94 = some false := by kernel_rfl
theorem ty_z94 : tsz Tryd.prog 94 = some 1 := by kernel_rfl
theorem ty_b94 : tbytes Tryd.prog 94 = some 8 := by kernel_rfl
theorem ty_u94 : (Tryd.prog.underlying 94).isSome = true := by kernel_rfl
theorem ty_tz94 : tzero Tryd.prog 94 = some (Value.nilFunc) := by kernel_rfl
theorem ty_zs94 : (Value.nilFunc).cells.size = 1 := by kernel_rfl
theorem ty_zv94 : zeroV Tryd.prog 94 = .d (D.raw .nilFunc) := by kernel_rfl
theorem ty_dz94 : dataZero Tryd.prog 94 = some (D.raw .nilFunc) := by kernel_rfl
theorem ty_k95 : tkind Tryd.prog 95 = some true := by kernel_rfl
theorem ty_z95 : tsz Tryd.prog 95 = some 32 := by kernel_rfl
theorem ty_b95 : tbytes Tryd.prog 95 = some 32 := by kernel_rfl
theorem ty_x95 : tidx Tryd.prog 95 = some (some 32, 1) := by kernel_rfl
theorem ty_u95 : (Tryd.prog.underlying 95).isSome = true := by kernel_rfl
theorem ty_p95 : tplaces Tryd.prog 95 = some [(0, 1), (1, 1), (2, 1), (3, 1), (4, 1), (5, 1), (6, 1), (7, 1), (8, 1), (9, 1), (10, 1), (11, 1), (12, 1), (13, 1), (14, 1), (15, 1), (16, 1), (17, 1), (18, 1), (19, 1), (20, 1), (21, 1), (22, 1), (23, 1), (24, 1), (25, 1), (26, 1), (27, 1), (28, 1), (29, 1), (30, 1), (31, 1)] := by kernel_rfl
theorem ty_za95 : tzeroA Tryd.prog 95 = some [.d (D.int .u8 0), .d (D.int .u8 0), .d (D.int .u8 0), .d (D.int .u8 0), .d (D.int .u8 0), .d (D.int .u8 0), .d (D.int .u8 0), .d (D.int .u8 0), .d (D.int .u8 0), .d (D.int .u8 0), .d (D.int .u8 0), .d (D.int .u8 0), .d (D.int .u8 0), .d (D.int .u8 0), .d (D.int .u8 0), .d (D.int .u8 0), .d (D.int .u8 0), .d (D.int .u8 0), .d (D.int .u8 0), .d (D.int .u8 0), .d (D.int .u8 0), .d (D.int .u8 0), .d (D.int .u8 0), .d (D.int .u8 0), .d (D.int .u8 0), .d (D.int .u8 0), .d (D.int .u8 0), .d (D.int .u8 0), .d (D.int .u8 0), .d (D.int .u8 0), .d (D.int .u8 0), .d (D.int .u8 0)] := by kernel_rfl
theorem ty_tz95 : tzero Tryd.prog 95 = some (Value.agg #[Value.int .u8 0, Value.int .u8 0, Value.int .u8 0, Value.int .u8 0, Value.int .u8 0, Value.int .u8 0, Value.int .u8 0, Value.int .u8 0, Value.int .u8 0, Value.int .u8 0, Value.int .u8 0, Value.int .u8 0, Value.int .u8 0, Value.int .u8 0, Value.int .u8 0, Value.int .u8 0, Value.int .u8 0, Value.int .u8 0, Value.int .u8 0, Value.int .u8 0, Value.int .u8 0, Value.int .u8 0, Value.int .u8 0, Value.int .u8 0, Value.int .u8 0, Value.int .u8 0, Value.int .u8 0, Value.int .u8 0, Value.int .u8 0, Value.int .u8 0, Value.int .u8 0, Value.int .u8 0]) := by kernel_rfl
theorem ty_zs95 : (Value.agg #[Value.int .u8 0, Value.int .u8 0, Value.int .u8 0, Value.int .u8 0, Value.int .u8 0, Value.int .u8 0, Value.int .u8 0, Value.int .u8 0, Value.int .u8 0, Value.int .u8 0, Value.int .u8 0, Value.int .u8 0, Value.int .u8 0, Value.int .u8 0, Value.int .u8 0, Value.int .u8 0, Value.int .u8 0, Value.int .u8 0, Value.int .u8 0, Value.int .u8 0, Value.int .u8 0, Value.int .u8 0, Value.int .u8 0, Value.int .u8 0, Value.int .u8 0, Value.int .u8 0, Value.int .u8 0, Value.int .u8 0, Value.int .u8 0, Value.int .u8 0, Value.int .u8 0, Value.int .u8 0]).cells.size = 32 := by kernel_rfl
theorem ty_zv95 : zeroV Tryd.prog 95 = .d (D.agg [D.int .u8 0, D.int .u8 0, D.int .u8 0, D.int .u8 0, D.int .u8 0, D.int .u8 0, D.int .u8 0, D.int .u8 0, D.int .u8 0, D.int .u8 0, D.int .u8 0, D.int .u8 0, D.int .u8 0, D.int .u8 0, D.int .u8 0, D.int .u8 0, D.int .u8 0, D.int .u8 0, D.int .u8 0, D.int .u8 0, D.int .u8 0, D.int .u8 0, D.int .u8 0, D.int .u8 0, D.int .u8 0, D.int .u8 0, D.int .u8 0, D.int .u8 0, D.int .u8 0, D.int .u8 0, D.int .u8 0, D.int .u8 0]) := by kernel_rfl
theorem ty_dz95 : dataZero Tryd.prog 95 = some (D.agg [D.int .u8 0, D.int .u8 0, D.int .u8 0, D.int .u8 0, D.int .u8 0, D.int .u8 0, D.int .u8 0, D.int .u8 0, D.int .u8 0, D.int .u8 0, D.int .u8 0, D.int .u8 0, D.int .u8 0, D.int .u8 0, D.int .u8 0, D.int .u8 0, D.int .u8 0, D.int .u8 0, D.int .u8 0, D.int .u8 0, D.int .u8 0, D.int .u8 0, D.int .u8 0, D.int .u8 0, D.int .u8 0, D.int .u8 0, D.int .u8 0, D.int .u8 0, D.int .u8 0, D.int .u8 0, D.int .u8 0, D.int .u8 0]) := by kernel_rfl
theorem ty_k96 : tkind Tryd.prog 96 = some true := by kernel_rfl
theorem ty_z96 : tsz Tryd.prog 96 = some 64 := by kernel_rfl
theorem ty_b96 : tbytes Tryd.prog 96 = some 64 := by kernel_rfl
theorem ty_x96 : tidx Tryd.prog 96 = some (some 64, 1) := by kernel_rfl
theorem ty_u96 : (Tryd.prog.underlying 96).isSome = true := by kernel_rfl
theorem ty_p96 : tplaces Tryd.prog 96 = some [(0, 1), (1, 1), (2, 1), (3, 1), (4, 1), (5, 1), (6, 1), (7, 1), (8, 1), (9, 1), (10, 1), (11, 1), (12, 1), (13, 1), (14, 1), (15, 1), (16, 1), (17, 1), (18, 1), (19, 1), (20, 1), (21, 1), (22, 1), (23, 1), (24, 1), (25, 1), (26, 1), (27, 1), (28, 1), (29, 1), (30, 1), (31, 1), (32, 1), (33, 1), (34, 1), (35, 1), (36, 1), (37, 1), (38, 1), (39, 1), (40, 1), (41, 1), (42, 1), (43, 1), (44, 1), (45, 1), (46, 1), (47, 1), (48, 1), (49, 1), (50, 1), (51, 1), (52, 1), (53, 1), (54, 1), (55, 1), (56, 1), (57, 1), (58, 1), (59, 1), (60, 1), (61, 1), (62, 1), (63, 1)] := by kernel_rfl
theorem ty_za96 : tzeroA Tryd.prog 96 = some [.d (D.int .u8 0), .d (D.int .u8 0), .d (D.int .u8 0), .d (D.int .u8 0), .d (D.int .u8 0), .d (D.int .u8 0), .d (D.int .u8 0), .d (D.int .u8 0), .d (D.int .u8 0), .d (D.int .u8 0), .d (D.int .u8 0), .d (D.int .u8 0), .d (D.int .u8 0), .d (D.int .u8 0), .d (D.int .u8 0), .d (D.int .u8 0), .d (D.int .u8 0), .d (D.int .u8 0), .d (D.int .u8 0), .d (D.int .u8 0), .d (D.int .u8 0), .d (D.int .u8 0), .d (D.int .u8 0), .d (D.int .u8 0), .d (D.int .u8 0), .d (D.int .u8 0), .d (D.int .u8 0), .d (D.int .u8 0), .d (D.int .u8 0), .d (D.int .u8 0), .d (D.int .u8 0), .d (D.int .u8 0), .d (D.int .u8 0), .d (D.int .u8 0), .d (D.int .u8 0), .d (D.int .u8 0), .d (D.int .u8 0), .d (D.int .u8 0), .d (D.int .u8 0), .d (D.int .u8 0), .d (D.int .u8 0), .d (D.int .u8 0), .d (D.int .u8 0), .d (D.int .u8 0), .d (D.int .u8 0), .d (D.int .u8 0), .d (D.int .u8 0), .d (D.int .u8 0), .d (D.int .u8 0), .d (D.int .u8 0), .d (D.int .u8 0), .d (D.int .u8 0), .d (D.int .u8 0), .d (D.int .u8 0), .d (D.int .u8 0), .d (D.int .u8 0), .d (D.int .u8 0), .d (D.int .u8 0), .d (D.int .u8 0), .d (D.int .u8 0), .d (D.int .u8 0), .d (D.int .u8 0), .d (D.int .u8 0), .d (D.int .u8 0)] := by kernel_rfl
theorem ty_tz96 : tzero Tryd.prog 96 = some (Value.agg #[Value.int .u8 0, Value.int .u8 0, Value.int .u8 0, Value.int .u8 0, Value.int .u8 0, Value.int .u8 0, Value.int .u8 0, Value.int .u8 0, Value.int .u8 0, Value.int .u8 0, Value.int .u8 0, Value.int .u8 0, Value.int .u8 0, Value.int .u8 0, Value.int .u8 0, Value.int .u8 0, Value.int .u8 0, Value.int .u8 0, Value.int .u8 0, Value.int .u8 0, Value.int .u8 0, Value.int .u8 0, Value.int .u8 0, Value.int .u8 0, Value.int .u8 0, Value.int .u8 0, Value.int .u8 0, Value.int .u8 0, Value.int .u8 0, Value.int .u8 0, Value.int .u8 0, Value.int .u8 0, Value.int .u8 0, Value.int .u8 0, Value.int .u8 0, Value.int .u8 0, Value.int .u8 0, Value.int .u8 0, Value.int .u8 0, Value.int .u8 0, Value.int .u8 0, Value.int .u8 0, Value.int .u8 0, Value.int .u8 0, Value.int .u8 0, Value.int .u8 0, Value.int .u8 0, Value.int .u8 0, Value.int .u8 0, Value.int .u8 0, Value.int .u8 0, Value.int .u8 0, Value.int .u8 0, Value.int .u8 0, Value.int .u8 0, Value.int .u8 0, Value.int .u8 0, Value.int .u8 0, Value.int .u8 0, Value.int .u8 0, Value.int .u8 0, Value.int .u8 0, Value.int .u8 0, Value.int .u8 0]) := by kernel_rfl
theorem ty_zs96 : (Value.agg #[Value.int .u8 0, Value.int .u8 0, Value.int .u8 0, Value.int .u8 0, Value.int .u8 0, Value.int .u8 0, Value.int .u8 0, Value.int .u8 0, Value.int .u8 0, Value.int .u8 0, Value.int .u8 0, Value.int .u8 0, Value.int .u8 0, Value.int .u8 0, Value.int .u8 0, Value.int .u8 0, Value.int .u8 0, Value.int .u8 0, Value.int .u8 0, Value.int .u8 0, Value.int .u8 0, Value.int .u8 0, Value.int .u8 0, Value.int .u8 0, Value.int .u8 0, Value.int .u8 0, Value.int .u8 0, Value.int .u8 0, Value.int .u8 0, Value.int .u8 0, Value.int .u8 0, Value.int .u8 0, Value.int .u8 0, Value.int .u8 0, Value.int .u8 0, Value.int .u8 0, Value.int .u8 0, Value.int .u8 0, Value.int .u8 0, Value.int .u8 0, Value.int .u8 0, Value.int .u8 0, Value.int .u8 0, Value.int .u8 0, Value.int .u8 0, Value.int .u8 0, Value.int .u8 0, Value.int .u8 0, Value.int .u8 0, Value.int .u8 0, Value.int .u8 0, Value.int .u8 0, Value.int .u8 0, Value.int .u8 0, Value.int .u8 0, Value.int .u8 0, Value.int .u8 0, Value.int .u8 0, Value.int .u8 0, Value.int .u8 0, Value.int .u8 0, Value.int .u8 0, Value.int .u8 0, Value.int .u8 0]).cells.size = 64 := by kernel_rfl
theorem ty_zv96 : zeroV Tryd.prog 96 = .d (D.agg [D.int .u8 0, D.int .u8 0, D.int .u8 0, D.int .u8 0, D.int .u8 0, D.int .u8 0, D.int .u8 0, D.int .u8 0, D.int .u8 0, D.int .u8 0, D.int .u8 0, D.int .u8 0, D.int .u8 0, D.int .u8 0, D.int .u8 0, D.int .u8 0, D.int .u8 0, D.int .u8 0, D.int .u8 0, D.int .u8 0, D.int .u8 0, D.int .u8 0, D.int .u8 0, D.int .u8 0, D.int .u8 0, D.int .u8 0, D.int .u8 0, D.int .u8 0, D.int .u8 0, D.int .u8 0, D.int .u8 0, D.int .u8 0, D.int .u8 0, D.int .u8 0, D.int .u8 0, D.int .u8 0, D.int .u8 0, D.int .u8 0, D.int .u8 0, D.int .u8 0, D.int .u8 0, D.int .u8 0, D.int .u8 0, D.int .u8 0, D.int .u8 0, D.int .u8 0, D.int .u8 0, D.int .u8 0, D.int .u8 0, D.int .u8 0, D.int .u8 0, D.int .u8 0, D.int .u8 0, D.int .u8 0, D.int .u8 0, D.int .u8 0, D.int .u8 0, D.int .u8 0, D.int .u8 0, D.int .u8 0, D.int .u8 0, D.int .u8 0, D.int .u8 0, D.int .u8 0]) := by kernel_rfl
theorem ty_dz96 : dataZero Tryd.prog 96 = some (D.agg [D.int .u8 0, D.int .u8 0, D.int .u8 0, D.int .u8 0, D.int .u8 0, D.int .u8 0, D.int .u8 0, D.int .u8 0, D.int .u8 0, D.int .u8 0, D.int .u8 0, D.int .u8 0, D.int .u8 0, D.int .u8 0, D.int .u8 0, D.int .u8 0, D.int .u8 0, D.int .u8 0, D.int .u8 0, D.int .u8 0, D.int .u8 0, D.int .u8 0, D.int .u8 0, D.int .u8 0, D.int .u8 0, D.int .u8 0, D.int .u8 0, D.int .u8 0, D.int .u8 0, D.int .u8 0, D.int .u8 0, D.int .u8 0, D.int .u8 0, D.int .u8 0, D.int .u8 0, D.int .u8 0, D.int .u8 0, D.int .u8 0, D.int .u8 0, D.int .u8 0, D.int .u8 0, D.int .u8 0, D.int .u8 0, D.int .u8 0, D.int .u8 0, D.int .u8 0, D.int .u8 0, D.int .u8 0, D.int .u8 0, D.int .u8 0, D.int .u8 0, D.int .u8 0, D.int .u8 0, D.int .u8 0, D.int .u8 0, D.int .u8 0, D.int .u8 0, D.int .u8 0, D.int .u8 0, D.int .u8 0, D.int .u8 0, D.int .u8 0, D.int .u8 0, D.int .u8 0]) := by kernel_rfl
theorem ty_k97 : tkind Tryd.prog 97 = some false := by kernel_rfl
theorem ty_z97 : tsz Tryd.prog 97 = some 1 := by kernel_rfl
theorem ty_pt97 : tptr Tryd.prog 97 = true := by kernel_rfl
theorem ty_b97 : tbytes Tryd.prog 97 = some 8 := by kernel_rfl
theorem ty_u97 : (Tryd.prog.underlying 97).isSome = true := by kernel_rfl
theorem ty_tz97 : tzero Tryd.prog 97 = some (Value.pointer none) := by kernel_rfl
theorem ty_zs97 : (Value.pointer none).cells.size = 1 := by kernel_rfl
theorem ty_zv97 : zeroV Tryd.prog 97 = .d (D.raw (.pointer none)) := by kernel_rfl
theorem ty_dz97 : dataZero Tryd.prog 97 = some (D.raw (.pointer none)) := by kernel_rfl
theorem ty_k98 : tkind Tryd.prog 98 = some false := by kernel_rfl
theorem ty_z98 : tsz Tryd.prog 98 = some 1 := by kernel_rfl
theorem ty_b98 : tbytes Tryd.prog 98 = some 8 := by kernel_rfl
theorem ty_u98 : (Tryd.prog.underlying 98).isSome = true := by kernel_rfl
theorem ty_tz98 : tzero Tryd.prog 98 = some (Value.nilFunc) := by kernel_rfl
theorem ty_zs98 : (Value.nilFunc).cells.size = 1 := by kernel_rfl
theorem ty_zv98 : zeroV Tryd.prog 98 = .d (D.raw .nilFunc) := by kernel_rfl
theorem ty_dz98 : dataZero Tryd.prog 98 = some (D.raw .nilFunc) := by kernel_rfl
theorem ty_k99 : tkind Tryd.prog 99 = some true := by kernel_rfl
theorem ty_z99 : tsz Tryd.prog 99 = some 4 := by kernel_rfl
theorem ty_b99 : tbytes Tryd.prog 99 = some 40 := by kernel_rfl
theorem ty_u99 : (Tryd.prog.underlying 99).isSome = true := by kernel_rfl
theorem ty_f99_0 : tfld Tryd.prog 99 0 = some (0, 1, false) := by kernel_rfl
theorem ty_f99_1 : tfld Tryd.prog 99 1 = some (1, 1, false) := by kernel_rfl
theorem ty_f99_2 : tfld Tryd.prog 99 2 = some (2, 1, false) := by kernel_rfl
theorem ty_f99_3 : tfld Tryd.prog 99 3 = some (3, 1, false) := by kernel_rfl
theorem ty_p99 : tplaces Tryd.prog 99 = some [(0, 1), (1, 1), (2, 1), (3, 1)] := by kernel_rfl
theorem ty_za99 : tzeroA Tryd.prog 99 = some [.d (D.raw (.pointer none)), .d (D.raw (.pointer none)), .d (D.raw (.pointer none)), .d (D.str [])] := by kernel_rfl
theorem ty_tz99 : tzero Tryd.prog 99 = some (Value.agg #[Value.pointer none, Value.pointer none, Value.pointer none, Value.string ⟨#[]⟩]) := by kernel_rfl
theorem ty_zs99 : (Value.agg #[Value.pointer none, Value.pointer none, Value.pointer none, Value.string ⟨#[]⟩]).cells.size = 4 := by kernel_rfl
theorem ty_zv99 : zeroV Tryd.prog 99 = .d (D.agg [D.raw (.pointer none), D.raw (.pointer none), D.raw (.pointer none), D.str []]) := by kernel_rfl
theorem ty_dz99 : dataZero Tryd.prog 99 = some (D.agg [D.raw (.pointer none), D.raw (.pointer none), D.raw (.pointer none), D.str []]) := by kernel_rfl
theorem ty_k100 : tkind Tryd.prog 100 = some true := by kernel_rfl
theorem ty_z100 : tsz Tryd.prog 100 = some 4 := by kernel_rfl
theorem ty_b100 : tbytes Tryd.prog 100 = some 40 := by kernel_rfl
theorem ty_u100 : (Tryd.prog.underlying 100).isSome = true := by kernel_rfl
theorem ty_f100_0 : tfld Tryd.prog 100 0 = some (0, 1, false) := by kernel_rfl
theorem ty_f100_1 : tfld Tryd.prog 100 1 = some (1, 1, false) := by kernel_rfl
theorem ty_f100_2 : tfld Tryd.prog 100 2 = some (2, 1, false) := by kernel_rfl
theorem ty_f100_3 : tfld Tryd.prog 100 3 = some (3, 1, false) := by kernel_rfl
theorem ty_p100 : tplaces Tryd.prog 100 = some [(0, 1), (1, 1), (2, 1), (3, 1)] := by kernel_rfl
theorem ty_za100 : tzeroA Tryd.prog 100 = some [.d (D.raw (.pointer none)), .d (D.raw (.pointer none)), .d (D.raw (.pointer none)), .d (D.str [])] := by kernel_rfl
theorem ty_tz100 : tzero Tryd.prog 100 = some (Value.agg #[Value.pointer none, Value.pointer none, Value.pointer none, Value.string ⟨#[]⟩]) := by kernel_rfl
theorem ty_zs100 : (Value.agg #[Value.pointer none, Value.pointer none, Value.pointer none, Value.string ⟨#[]⟩]).cells.size = 4 := by kernel_rfl
theorem ty_zv100 : zeroV Tryd.prog 100 = .d (D.agg [D.raw (.pointer none), D.raw (.pointer none), D.raw (.pointer none), D.str []]) := by kernel_rfl
theorem ty_dz100 : dataZero Tryd.prog 100 = some (D.agg [D.raw (.pointer none), D.raw (.pointer none), D.raw (.pointer none), D.str []]) := by kernel_rfl
theorem ty_k101 : tkind Tryd.prog 101 = some true := by kernel_rfl
theorem ty_z101 : tsz Tryd.prog 101 = some 0 := by kernel_rfl
theorem ty_b101 : tbytes Tryd.prog 101 = some 0 := by kernel_rfl
theorem ty_x101 : tidx Tryd.prog 101 = some (some 0, 1) := by kernel_rfl
theorem ty_u101 : (Tryd.prog.underlying 101).isSome = true := by kernel_rfl
theorem ty_p101 : tplaces Tryd.prog 101 = some [] := by kernel_rfl
theorem ty_za101 : tzeroA Tryd.prog 101 = some [] := by kernel_rfl
theorem ty_tz101 : tzero Tryd.prog 101 = some (Value.agg #[]) := by kernel_rfl
theorem ty_zs101 : (Value.agg #[]).cells.size = 0 := by kernel_rfl
theorem ty_zv101 : zeroV Tryd.prog 101 = .d (D.agg []) := by kernel_rfl
theorem ty_dz101 : dataZero Tryd.prog 101 = some (D.agg []) := by kernel_rfl
theorem ty_k102 : tkind Tryd.prog 102 = some true := by kernel_rfl
theorem ty_z102 : tsz Tryd.prog 102 = some 0 := by kernel_rfl
theorem ty_b102 : tbytes Tryd.prog 102 = some 0 := by kernel_rfl
theorem ty_u102 : (Tryd.prog.underlying 102).isSome = true := by kernel_rfl
theorem ty_f102_0 : tfld Tryd.prog 102 0 = some (0, 0, true) := by kernel_rfl
theorem ty_p102 : tplaces Tryd.prog 102 = some [(0, 0)] := by kernel_rfl
theorem ty_za102 : tzeroA Tryd.prog 102 = some [] := by kernel_rfl
theorem ty_tz102 : tzero Tryd.prog 102 = some (Value.agg #[]) := by kernel_rfl
theorem ty_zs102 : (Value.agg #[]).cells.size = 0 := by kernel_rfl
theorem ty_zv102 : zeroV Tryd.prog 102 = .d (D.agg []) := by kernel_rfl
theorem ty_dz102 : dataZero Tryd.prog 102 = some (D.agg []) := by kernel_rfl
theorem ty_k103 : tkind Tryd.prog 103 = some true := by kernel_rfl
theorem ty_z103 : tsz Tryd.prog 103 = some 0 := by kernel_rfl
theorem ty_b103 : tbytes Tryd.prog 103 = some 0 := by kernel_rfl
theorem ty_u103 : (Tryd.prog.underlying 103).isSome = true := by kernel_rfl
theorem ty_f103_0 : tfld Tryd.prog 103 0 = some (0, 0, true) := by kernel_rfl
theorem ty_p103 : tplaces Tryd.prog 103 = some [(0, 0)] := by kernel_rfl
theorem ty_za103 : tzeroA Tryd.prog 103 = some [] := by kernel_rfl
theorem ty_tz103 : tzero Tryd.prog 103 = some (Value.agg #[]) := by kernel_rfl
theorem ty_zs103 : (Value.agg #[]).cells.size = 0 := by kernel_rfl
theorem ty_zv103 : zeroV Tryd.prog 103 = .d (D.agg []) := by kernel_rfl
theorem ty_dz103 : dataZero Tryd.prog 103 = some (D.agg []) := by kernel_rfl
theorem ty_k104 : tkind Tryd.prog 104 = some false := by kernel_rfl
theorem ty_z104 : tsz Tryd.prog 104 = some 1 := by kernel_rfl
theorem ty_b104 : tbytes Tryd.prog 104 = some 8 := by kernel_rfl
theorem ty_u104 : (Tryd.prog.underlying 104).isSome = true := by kernel_rfl
theorem ty_tz104 : tzero Tryd.prog 104 = some (Value.nilFunc) := by kernel_rfl
theorem ty_zs104 : (Value.nilFunc).cells.size = 1 := by kernel_rfl
theorem ty_zv104 : zeroV Tryd.prog 104 = .d (D.raw .nilFunc) := by kernel_rfl
theorem ty_dz104 : dataZero Tryd.prog 104 = some (D.raw .nilFunc) := by kernel_rfl
theorem ty_k105 : tkind Tryd.prog 105 = some false := by kernel_rfl
theorem ty_z105 : tsz Tryd.prog 105 = some 1 := by kernel_rfl
theorem ty_b105 : tbytes Tryd.prog 105 = some 1 := by kernel_rfl
theorem ty_i105 : tintk Tryd.prog 105 = some .u8 := by kernel_rfl
theorem ty_u105 : (Tryd.prog.underlying 105).isSome = true := by kernel_rfl
theorem ty_tz105 : tzero Tryd.prog 105 = some (Value.int .u8 0) := by kernel_rfl
theorem ty_zs105 : (Value.int .u8 0).cells.size = 1 := by kernel_rfl
theorem ty_zv105 : zeroV Tryd.prog 105 = .d (D.int .u8 0) := by kernel_rfl
theorem ty_dz105 : dataZero Tryd.prog 105 = some (D.int .u8 0) := by kernel_rfl
theorem ty_k106 : tkind Tryd.prog 106 = some false := by kernel_rfl
theorem ty_z106 : tsz Tryd.prog 106 = some 1 := by kernel_rfl
theorem ty_b106 : tbytes Tryd.prog 106 = some 1 := by kernel_rfl
theorem ty_i106 : tintk Tryd.prog 106 = some .u8 := by kernel_rfl
theorem ty_u106 : (Tryd.prog.underlying 106).isSome = true := by kernel_rfl
theorem ty_tz106 : tzero Tryd.prog 106 = some (Value.int .u8 0) := by kernel_rfl
theorem ty_zs106 : (Value.int .u8 0).cells.size = 1 := by kernel_rfl
theorem ty_zv106 : zeroV Tryd.prog 106 = .d (D.int .u8 0) := by kernel_rfl
theorem ty_dz106 : dataZero Tryd.prog 106 = some (D.int .u8 0) := by kernel_rfl
theorem ty_k107 : tkind Tryd.prog 107 = some false := by kernel_rfl
theorem ty_z107 : tsz Tryd.prog 107 = some 1 := by kernel_rfl
theorem ty_b107 : tbytes Tryd.prog 107 = some 8 := by kernel_rfl
theorem ty_u107 : (Tryd.prog.underlying 107).isSome = true := by kernel_rfl
theorem ty_tz107 : tzero Tryd.prog 107 = some (Value.nilFunc) := by kernel_rfl
theorem ty_zs107 : (Value.nilFunc).cells.size = 1 := by kernel_rfl
theorem ty_zv107 : zeroV Tryd.prog 107 = .d (D.raw .nilFunc) := by kernel_rfl
theorem ty_dz107 : dataZero Tryd.prog 107 = some (D.raw .nilFunc) := by kernel_rfl
theorem ty_k108 : tkind Tryd.prog 108 = some false := by kernel_rfl
theorem ty_z108 : tsz Tryd.prog 108 = some 1 := by kernel_rfl
theorem ty_pt108 : tptr Tryd.prog 108 = true := by kernel_rfl
theorem ty_b108 : tbytes Tryd.prog 108 = some 8 := by kernel_rfl
theorem ty_u108 : (Tryd.prog.underlying 108).isSome = true := by kernel_rfl
theorem ty_tz108 : tzero Tryd.prog 108 = some (Value.pointer none) := by kernel_rfl
theorem ty_zs108 : (Value.pointer none).cells.size = 1 := by kernel_rfl
theorem ty_zv108 : zeroV Tryd.prog 108 = .d (D.raw (.pointer none)) := by kernel_rfl
theorem ty_dz108 : dataZero Tryd.prog 108 = some (D.raw (.pointer none)) := by kernel_rfl
theorem ty_k109 : tkind Tryd.prog 109 = some false := by kernel_rfl
theorem ty_z109 : tsz Tryd.prog 109 = some 1 := by kernel_rfl
theorem ty_b109 : tbytes Tryd.prog 109 = some 4 := by kernel_rfl
theorem ty_i109 : tintk Tryd.prog 109 = some .i32 := by kernel_rfl
theorem ty_u109 : (Tryd.prog.underlying 109).isSome = true := by kernel_rfl
theorem ty_tz109 : tzero Tryd.prog 109 = some (Value.int .i32 0) := by kernel_rfl
theorem ty_zs109 : (Value.int .i32 0).cells.size = 1 := by kernel_rfl
theorem ty_zv109 : zeroV Tryd.prog 109 = .d (D.int .i32 0) := by kernel_rfl
theorem ty_dz109 : dataZero Tryd.prog 109 = some (D.int .i32 0) := by kernel_rfl
theorem ty_k110 : tkind Tryd.prog 110 = some false := by kernel_rfl
theorem ty_z110 : tsz Tryd.prog 110 = some 1 := by kernel_rfl
theorem ty_b110 : tbytes Tryd.prog 110 = some 4 := by kernel_rfl
theorem ty_i110 : tintk Tryd.prog 110 = some .i32 := by kernel_rfl
theorem ty_u110 : (Tryd.prog.underlying 110).isSome = true := by kernel_rfl
theorem ty_tz110 : tzero Tryd.prog 110 = some (Value.int .i32 0) := by kernel_rfl
theorem ty_zs110 : (Value.int .i32 0).cells.size = 1 := by kernel_rfl
theorem ty_zv110 : zeroV Tryd.prog 110 = .d (D.int .i32 0) := by kernel_rfl
theorem ty_dz110 : dataZero Tryd.prog 110 = some (D.int .i32 0) := by kernel_rfl
theorem ty_k111 : tkind Tryd.prog 111 = some true := by kernel_rfl
theorem ty_z111 : tsz Tryd.prog 111 = some 11 := by kernel_rfl
theorem ty_b111 : tbytes Tryd.prog 111 = some 48 := by kernel_rfl
theorem ty_u111 : (Tryd.prog.underlying 111).isSome = true := by kernel_rfl
theorem ty_f111_0 : tfld Tryd.prog 111 0 = some (0, 1, false) := by kernel_rfl
theorem ty_f111_1 : tfld Tryd.prog 111 1 = some (1, 1, false) := by kernel_rfl
theorem ty_f111_2 : tfld Tryd.prog 111 2 = some (2, 1, false) := by kernel_rfl
theorem ty_f111_3 : tfld Tryd.prog 111 3 = some (3, 1, false) := by kernel_rfl
theorem ty_f111_4 : tfld Tryd.prog 111 4 = some (4, 1, false) := by kernel_rfl
theorem ty_f111_5 : tfld Tryd.prog 111 5 = some (5, 1, false) := by kernel_rfl
theorem ty_f111_6 : tfld Tryd.prog 111 6 = some (6, 1, false) := by kernel_rfl
theorem ty_f111_7 : tfld Tryd.prog 111 7 = some (7, 1, false) := by kernel_rfl
theorem ty_f111_8 : tfld Tryd.prog 111 8 = some (8, 1, false) := by kernel_rfl
theorem ty_f111_9 : tfld Tryd.prog 111 9 = some (9, 1, false) := by kernel_rfl
theorem ty_f111_10 : tfld Tryd.prog 111 10 = some (10, 1, false) := by kernel_rfl
theorem ty_p111 : tplaces Tryd.prog 111 = some [(0, 1), (1, 1), (2, 1), (3, 1), (4, 1), (5, 1), (6, 1), (7, 1), (8, 1), (9, 1), (10, 1)] := by kernel_rfl
theorem ty_za111 : tzeroA Tryd.prog 111 = some [.d (D.int .u64 0), .d (D.int .u64 0), .d (D.int .u32 0), .d (D.int .u8 0), .d (D.int .u8 0), .d (D.int .u8 0), .d (D.int .u8 0), .d (D.raw .nilFunc), .d (D.raw (.pointer none)), .d (D.int .i32 0), .d (D.int .i32 0)] := by kernel_rfl
theorem ty_tz111 : tzero Tryd.prog 111 = some (Value.agg #[Value.int .u64 0, Value.int .u64 0, Value.int .u32 0, Value.int .u8 0, Value.int .u8 0, Value.int .u8 0, Value.int .u8 0, Value.nilFunc, Value.pointer none, Value.int .i32 0, Value.int .i32 0]) := by kernel_rfl
theorem ty_zs111 : (Value.agg #[Value.int .u64 0, Value.int .u64 0, Value.int .u32 0, Value.int .u8 0, Value.int .u8 0, Value.int .u8 0, Value.int .u8 0, Value.nilFunc, Value.pointer none, Value.int .i32 0, Value.int .i32 0]).cells.size = 11 := by kernel_rfl
theorem ty_zv111 : zeroV Tryd.prog 111 = .d (D.agg [D.int .u64 0, D.int .u64 0, D.int .u32 0, D.int .u8 0, D.int .u8 0, D.int .u8 0, D.int .u8 0, D.raw .nilFunc, D.raw (.pointer none), D.int .i32 0, D.int .i32 0]) := by kernel_rfl
theorem ty_dz111 : dataZero Tryd.prog 111 = some (D.agg [D.int .u64 0, D.int .u64 0, D.int .u32 0, D.int .u8 0, D.int .u8 0, D.int .u8 0, D.int .u8 0, D.raw .nilFunc, D.raw (.pointer none), D.int .i32 0, D.int .i32 0]) := by kernel_rfl
theorem ty_k112 : tkind Tryd.prog 112 = some true := by kernel_rfl
theorem ty_z112 : tsz Tryd.prog 112 = some 11 := by kernel_rfl
theorem ty_b112 : tbytes Tryd.prog 112 = some 48 := by kernel_rfl
theorem ty_u112 : (Tryd.prog.underlying 112).isSome = true := by kernel_rfl
theorem ty_f112_0 : tfld Tryd.prog 112 0 = some (0, 1, false) := by kernel_rfl
theorem ty_f112_1 : tfld Tryd.prog 112 1 = some (1, 1, false) := by kernel_rfl
theorem ty_f112_2 : tfld Tryd.prog 112 2 = some (2, 1, false) := by kernel_rfl
theorem ty_f112_3 : tfld Tryd.prog 112 3 = some (3, 1, false) := by kernel_rfl
theorem ty_f112_4 : tfld Tryd.prog 112 4 = some (4, 1, false) := by kernel_rfl
theorem ty_f112_5 : tfld Tryd.prog 112 5 = some (5, 1, false) := by kernel_rfl
theorem ty_f112_6 : tfld Tryd.prog 112 6 = some (6, 1, false) := by kernel_rfl
theorem ty_f112_7 : tfld Tryd.prog 112 7 = some (7, 1, false) := by kernel_rfl
theorem ty_f112_8 : tfld Tryd.prog 112 8 = some (8, 1, false) := by kernel_rfl
theorem ty_f112_9 : tfld Tryd.prog 112 9 = some (9, 1, false) := by kernel_rfl
theorem ty_f112_10 : tfld Tryd.prog 112 10 = some (10, 1, false) := by kernel_rfl
theorem ty_p112 : tplaces Tryd.prog 112 = some [(0, 1), (1, 1), (2, 1), (3, 1), (4, 1), (5, 1), (6, 1), (7, 1), (8, 1), (9, 1), (10, 1)] := by kernel_rfl
theorem ty_za112 : tzeroA Tryd.prog 112 = some [.d (D.int .u64 0), .d (D.int .u64 0), .d (D.int .u32 0), .d (D.int .u8 0), .d (D.int .u8 0), .d (D.int .u8 0), .d (D.int .u8 0), .d (D.raw .nilFunc), .d (D.raw (.pointer none)), .d (D.int .i32 0), .d (D.int .i32 0)] := by kernel_rfl
theorem ty_tz112 : tzero Tryd.prog 112 = some (Value.agg #[Value.int .u64 0, Value.int .u64 0, Value.int .u32 0, Value.int .u8 0, Value.int .u8 0, Value.int .u8 0, Value.int .u8 0, Value.nilFunc, Value.pointer none, Value.int .i32 0, Value.int .i32 0]) := by kernel_rfl
theorem ty_zs112 : (Value.agg #[Value.int .u64 0, Value.int .u64 0, Value.int .u32 0, Value.int .u8 0, Value.int .u8 0, Value.int .u8 0, Value.int .u8 0, Value.nilFunc, Value.pointer none, Value.int .i32 0, Value.int .i32 0]).cells.size = 11 := by kernel_rfl
theorem ty_zv112 : zeroV Tryd.prog 112 = .d (D.agg [D.int .u64 0, D.int .u64 0, D.int .u32 0, D.int .u8 0, D.int .u8 0, D.int .u8 0, D.int .u8 0, D.raw .nilFunc, D.raw (.pointer none), D.int .i32 0, D.int .i32 0]) := by kernel_rfl
theorem ty_dz112 : dataZero Tryd.prog 112 = some (D.agg [D.int .u64 0, D.int .u64 0, D.int .u32 0, D.int .u8 0, D.int .u8 0, D.int .u8 0, D.int .u8 0, D.raw .nilFunc, D.raw (.pointer none), D.int .i32 0, D.int .i32 0]) := by kernel_rfl
theorem ty_k113 : tkind Tryd.prog 113 = some true := by kernel_rfl
theorem ty_z113 : tsz Tryd.prog 113 = some 1 := by kernel_rfl
theorem ty_b113 : tbytes Tryd.prog 113 = some 16 := by kernel_rfl
theorem ty_u113 : (Tryd.prog.underlying 113).isSome = true := by kernel_rfl
theorem ty_c113 : tcmp Tryd.prog 113 = some [2] := by kernel_rfl
theorem ty_f113_0 : tfld Tryd.prog 113 0 = some (0, 1, false) := by kernel_rfl
theorem ty_p113 : tplaces Tryd.prog 113 = some [(0, 1)] := by kernel_rfl
theorem ty_za113 : tzeroA Tryd.prog 113 = some [.d (D.str [])] := by kernel_rfl
theorem ty_tz113 : tzero Tryd.prog 113 = some (Value.agg #[Value.string ⟨#[]⟩]) := by kernel_rfl
theorem ty_zs113 : (Value.agg #[Value.string ⟨#[]⟩]).cells.size = 1 := by kernel_rfl
theorem ty_zv113 : zeroV Tryd.prog 113 = .d (D.agg [D.str []]) := by kernel_rfl
theorem ty_dz113 : dataZero Tryd.prog 113 = some (D.agg [D.str []]) := by kernel_rfl
theorem ty_k114 : tkind Tryd.prog 114 = some true := by kernel_rfl
theorem ty_z114 : tsz Tryd.prog 114 = some 1 := by kernel_rfl
theorem ty_b114 : tbytes Tryd.prog 114 = some 16 := by kernel_rfl
theorem ty_u114 : (Tryd.prog.underlying 114).isSome = true := by kernel_rfl
theorem ty_c114 : tcmp Tryd.prog 114 = some [2] := by kernel_rfl
theorem ty_f114_0 : tfld Tryd.prog 114 0 = some (0, 1, false) := by kernel_rfl
theorem ty_p114 : tplaces Tryd.prog 114 = some [(0, 1)] := by kernel_rfl
theorem ty_za114 : tzeroA Tryd.prog 114 = some [.d (D.str [])] := by kernel_rfl
theorem ty_tz114 : tzero Tryd.prog 114 = some (Value.agg #[Value.string ⟨#[]⟩]) := by kernel_rfl
theorem ty_zs114 : (Value.agg #[Value.string ⟨#[]⟩]).cells.size = 1 := by kernel_rfl
theorem ty_zv114 : zeroV Tryd.prog 114 = .d (D.agg [D.str []]) := by kernel_rfl
theorem ty_dz114 : dataZero Tryd.prog 114 = some (D.agg [D.str []]) := by kernel_rfl
theorem ty_k115 : tkind Tryd.prog 115 = some false := by kernel_rfl
theorem ty_z115 : tsz Tryd.prog 115 = some 1 := by kernel_rfl
theorem ty_b115 : tbytes Tryd.prog 115 = some 8 := by kernel_rfl
theorem ty_u115 : (Tryd.prog.underlying 115).isSome = true := by kernel_rfl
theorem ty_tz115 : tzero Tryd.prog 115 = some (Value.pointer none) := by kernel_rfl
theorem ty_zs115 : (Value.pointer none).cells.size = 1 := by kernel_rfl
theorem ty_zv115 : zeroV Tryd.prog 115 = .d (D.raw (.pointer none)) := by kernel_rfl
theorem ty_dz115 : dataZero Tryd.prog 115 = some (D.raw (.pointer none)) := by kernel_rfl
theorem tyRules : type_of% (And.intro (And.intro @ty_k0 (And.intro @ty_z0 (And.intro @ty_b0 (And.intro @ty_u0 (And.intro @ty_zv0 (And.intro @ty_k1 (And.intro @ty_z1 (And.intro @ty_b1 (And.intro @ty_u1 (And.intro @ty_tz1 (And.intro @ty_zs1 (And.intro @ty_zv1 (And.intro @ty_dz1 (And.intro @ty_k2 (And.intro @ty_z2 (And.intro @ty_b2 (And.intro @ty_i2 (And.intro @ty_u2 (And.intro @ty_tz2 (And.intro @ty_zs2 (And.intro @ty_zv2 (And.intro @ty_dz2 (And.intro @ty_k3 (And.intro @ty_z3 (And.intro @ty_b3 (And.intro @ty_i3 (And.intro @ty_u3 (And.intro @ty_tz3 (And.intro @ty_zs3 (And.intro @ty_zv3 (And.intro @ty_dz3 (And.intro @ty_k4 (And.intro @ty_z4 (And.intro @ty_b4 (And.intro @ty_u4 (And.intro @ty_bo4 (And.intro @ty_tz4 (And.intro @ty_zs4 (And.intro @ty_zv4 (@ty_dz4)))))))))))))))))))))))))))))))))))))))) (And.intro (And.intro @ty_k5 (And.intro @ty_z5 (And.intro @ty_b5 (And.intro @ty_i5 (And.intro @ty_u5 (And.intro @ty_tz5 (And.intro @ty_zs5 (And.intro @ty_zv5 (And.intro @ty_dz5 (And.intro @ty_k6 (And.intro @ty_z6 (And.intro @ty_b6 (And.intro @ty_i6 (And.intro @ty_u6 (And.intro @ty_tz6 (And.intro @ty_zs6 (And.intro @ty_zv6 (And.intro @ty_dz6 (And.intro @ty_k7 (And.intro @ty_z7 (And.intro @ty_b7 (And.intro @ty_u7 (And.intro @ty_c7 (And.intro @ty_f7_0 (And.intro @ty_f7_1 (And.intro @ty_f7_2 (And.intro @ty_f7_3 (And.intro @ty_p7 (And.intro @ty_za7 (And.intro @ty_tz7 (And.intro @ty_zs7 (And.intro @ty_zv7 (And.intro @ty_dz7 (And.intro @ty_k8 (And.intro @ty_z8 (And.intro @ty_b8 (And.intro @ty_u8 (And.intro @ty_c8 (And.intro @ty_f8_0 (@ty_f8_1)))))))))))))))))))))))))))))))))))))))) (And.intro (And.intro @ty_f8_2 (And.intro @ty_f8_3 (And.intro @ty_p8 (And.intro @ty_za8 (And.intro @ty_tz8 (And.intro @ty_zs8 (And.intro @ty_zv8 (And.intro @ty_dz8 (And.intro @ty_k9 (And.intro @ty_z9 (And.intro @ty_b9 (And.intro @ty_s9 (And.intro @ty_u9 (And.intro @ty_tz9 (And.intro @ty_zs9 (And.intro @ty_zv9 (And.intro @ty_dz9 (And.intro @ty_k10 (And.intro @ty_z10 (And.intro @ty_b10 (And.intro @ty_s10 (And.intro @ty_u10 (And.intro @ty_tz10 (And.intro @ty_zs10 (And.intro @ty_zv10 (And.intro @ty_dz10 (And.intro @ty_k11 (And.intro @ty_z11 (And.intro @ty_b11 (And.intro @ty_s11 (And.intro @ty_u11 (And.intro @ty_tz11 (And.intro @ty_zs11 (And.intro @ty_zv11 (And.intro @ty_dz11 (And.intro @ty_k12 (And.intro @ty_z12 (And.intro @ty_b12 (And.intro @ty_i12 (@ty_u12)))))))))))))))))))))))))))))))))))))))) (And.intro (And.intro @ty_tz12 (And.intro @ty_zs12 (And.intro @ty_zv12 (And.intro @ty_dz12 (And.intro @ty_k13 (And.intro @ty_z13 (And.intro @ty_b13 (And.intro @ty_u13 (And.intro @ty_f13_0 (And.intro @ty_f13_1 (And.intro @ty_p13 (And.intro @ty_za13 (And.intro @ty_tz13 (And.intro @ty_zs13 (And.intro @ty_zv13 (And.intro @ty_dz13 (And.intro @ty_k14 (And.intro @ty_z14 (And.intro @ty_b14 (And.intro @ty_u14 (And.intro @ty_f14_0 (And.intro @ty_f14_1 (And.intro @ty_p14 (And.intro @ty_za14 (And.intro @ty_tz14 (And.intro @ty_zs14 (And.intro @ty_zv14 (And.intro @ty_dz14 (And.intro @ty_k15 (And.intro @ty_z15 (And.intro @ty_pt15 (And.intro @ty_b15 (And.intro @ty_u15 (And.intro @ty_tz15 (And.intro @ty_zs15 (And.intro @ty_zv15 (And.intro @ty_dz15 (And.intro @ty_k16 (And.intro @ty_z16 (@ty_pt16)))))))))))))))))))))))))))))))))))))))) (And.intro (And.intro @ty_b16 (And.intro @ty_u16 (And.intro @ty_tz16 (And.intro @ty_zs16 (And.intro @ty_zv16 (And.intro @ty_dz16 (And.intro @ty_k17 (And.intro @ty_z17 (And.intro @ty_pt17 (And.intro @ty_b17 (And.intro @ty_u17 (And.intro @ty_tz17 (And.intro @ty_zs17 (And.intro @ty_zv17 (And.intro @ty_dz17 (And.intro @ty_k18 (And.intro @ty_z18 (And.intro @ty_b18 (And.intro @ty_u18 (And.intro @ty_f18_0 (And.intro @ty_p18 (And.intro @ty_za18 (And.intro @ty_tz18 (And.intro @ty_zs18 (And.intro @ty_zv18 (And.intro @ty_dz18 (And.intro @ty_k19 (And.intro @ty_z19 (And.intro @ty_b19 (And.intro @ty_u19 (And.intro @ty_f19_0 (And.intro @ty_p19 (And.intro @ty_za19 (And.intro @ty_tz19 (And.intro @ty_zs19 (And.intro @ty_zv19 (And.intro @ty_dz19 (And.intro @ty_k20 (And.intro @ty_z20 (@ty_b20)))))))))))))))))))))))))))))))))))))))) (And.intro (And.intro @ty_u20 (And.intro @ty_tz20 (And.intro @ty_zs20 (And.intro @ty_zv20 (And.intro @ty_dz20 (And.intro @ty_k21 (And.intro @ty_z21 (And.intro @ty_b21 (And.intro @ty_i21 (And.intro @ty_u21 (And.intro @ty_tz21 (And.intro @ty_zs21 (And.intro @ty_zv21 (And.intro @ty_dz21 (And.intro @ty_k22 (And.intro @ty_z22 (And.intro @ty_b22 (And.intro @ty_u22 (And.intro @ty_c22 (And.intro @ty_f22_0 (And.intro @ty_f22_1 (And.intro @ty_p22 (And.intro @ty_za22 (And.intro @ty_tz22 (And.intro @ty_zs22 (And.intro @ty_zv22 (And.intro @ty_dz22 (And.intro @ty_k23 (And.intro @ty_z23 (And.intro @ty_b23 (And.intro @ty_u23 (And.intro @ty_c23 (And.intro @ty_f23_0 (And.intro @ty_f23_1 (And.intro @ty_p23 (And.intro @ty_za23 (And.intro @ty_tz23 (And.intro @ty_zs23 (And.intro @ty_zv23 (@ty_dz23)))))))))))))))))))))))))))))))))))))))) (And.intro (And.intro @ty_k24 (And.intro @ty_z24 (And.intro @ty_b24 (And.intro @ty_u24 (And.intro @ty_zv24 (And.intro @ty_k25 (And.intro @ty_z25 (And.intro @ty_b25 (And.intro @ty_u25 (And.intro @ty_tz25 (And.intro @ty_zs25 (And.intro @ty_zv25 (And.intro @ty_dz25 (And.intro @ty_k26 (And.intro @ty_z26 (And.intro @ty_b26 (And.intro @ty_u26 (And.intro @ty_tz26 (And.intro @ty_zs26 (And.intro @ty_zv26 (And.intro @ty_dz26 (And.intro @ty_k27 (And.intro @ty_z27 (And.intro @ty_b27 (And.intro @ty_u27 (And.intro @ty_tz27 (And.intro @ty_zs27 (And.intro @ty_zv27 (And.intro @ty_dz27 (And.intro @ty_k28 (And.intro @ty_z28 (And.intro @ty_b28 (And.intro @ty_u28 (And.intro @ty_tz28 (And.intro @ty_zs28 (And.intro @ty_zv28 (And.intro @ty_dz28 (And.intro @ty_k29 (And.intro @ty_z29 (@ty_b29)))))))))))))))))))))))))))))))))))))))) (And.intro (And.intro @ty_u29 (And.intro @ty_tz29 (And.intro @ty_zs29 (And.intro @ty_zv29 (And.intro @ty_dz29 (And.intro @ty_k30 (And.intro @ty_z30 (And.intro @ty_b30 (And.intro @ty_u30 (And.intro @ty_tz30 (And.intro @ty_zs30 (And.intro @ty_zv30 (And.intro @ty_dz30 (And.intro @ty_k31 (And.intro @ty_z31 (And.intro @ty_e31 (And.intro @ty_ae31 (And.intro @ty_b31 (And.intro @ty_x31 (And.intro @ty_u31 (And.intro @ty_tz31 (And.intro @ty_zs31 (And.intro @ty_zv31 (And.intro @ty_dz31 (And.intro @ty_k32 (And.intro @ty_z32 (And.intro @ty_b32 (And.intro @ty_u32 (And.intro @ty_tz32 (And.intro @ty_zs32 (And.intro @ty_zv32 (And.intro @ty_dz32 (And.intro @ty_k33 (And.intro @ty_z33 (And.intro @ty_b33 (And.intro @ty_u33 (And.intro @ty_tz33 (And.intro @ty_zs33 (And.intro @ty_zv33 (@ty_dz33)))))))))))))))))))))))))))))))))))))))) (And.intro (And.intro @ty_k34 (And.intro @ty_z34 (And.intro @ty_b34 (And.intro @ty_u34 (And.intro @ty_tz34 (And.intro @ty_zs34 (And.intro @ty_zv34 (And.intro @ty_dz34 (And.intro @ty_k35 (And.intro @ty_z35 (And.intro @ty_b35 (And.intro @ty_u35 (And.intro @ty_tz35 (And.intro @ty_zs35 (And.intro @ty_zv35 (And.intro @ty_dz35 (And.intro @ty_k36 (And.intro @ty_z36 (And.intro @ty_b36 (And.intro @ty_u36 (And.intro @ty_tz36 (And.intro @ty_zs36 (And.intro @ty_zv36 (And.intro @ty_dz36 (And.intro @ty_k37 (And.intro @ty_z37 (And.intro @ty_b37 (And.intro @ty_u37 (And.intro @ty_tz37 (And.intro @ty_zs37 (And.intro @ty_zv37 (And.intro @ty_dz37 (And.intro @ty_k38 (And.intro @ty_z38 (And.intro @ty_b38 (And.intro @ty_u38 (And.intro @ty_tz38 (And.intro @ty_zs38 (And.intro @ty_zv38 (@ty_dz38)))))))))))))))))))))))))))))))))))))))) (And.intro (And.intro @ty_k39 (And.intro @ty_z39 (And.intro @ty_b39 (And.intro @ty_u39 (And.intro @ty_tz39 (And.intro @ty_zs39 (And.intro @ty_zv39 (And.intro @ty_dz39 (And.intro @ty_k40 (And.intro @ty_z40 (And.intro @ty_b40 (And.intro @ty_u40 (And.intro @ty_tz40 (And.intro @ty_zs40 (And.intro @ty_zv40 (And.intro @ty_dz40 (And.intro @ty_k41 (And.intro @ty_z41 (And.intro @ty_b41 (And.intro @ty_i41 (And.intro @ty_u41 (And.intro @ty_tz41 (And.intro @ty_zs41 (And.intro @ty_zv41 (And.intro @ty_dz41 (And.intro @ty_k42 (And.intro @ty_z42 (And.intro @ty_b42 (And.intro @ty_u42 (And.intro @ty_tz42 (And.intro @ty_zs42 (And.intro @ty_zv42 (And.intro @ty_dz42 (And.intro @ty_k43 (And.intro @ty_z43 (And.intro @ty_b43 (And.intro @ty_u43 (And.intro @ty_tz43 (And.intro @ty_zs43 (@ty_zv43)))))))))))))))))))))))))))))))))))))))) (And.intro (And.intro @ty_dz43 (And.intro @ty_k44 (And.intro @ty_z44 (And.intro @ty_b44 (And.intro @ty_u44 (And.intro @ty_tz44 (And.intro @ty_zs44 (And.intro @ty_zv44 (And.intro @ty_dz44 (And.intro @ty_k45 (And.intro @ty_z45 (And.intro @ty_b45 (And.intro @ty_u45 (And.intro @ty_tz45 (And.intro @ty_zs45 (And.intro @ty_zv45 (And.intro @ty_dz45 (And.intro @ty_k46 (And.intro @ty_z46 (And.intro @ty_b46 (And.intro @ty_u46 (And.intro @ty_c46 (And.intro @ty_f46_0 (And.intro @ty_f46_1 (And.intro @ty_p46 (And.intro @ty_za46 (And.intro @ty_tz46 (And.intro @ty_zs46 (And.intro @ty_zv46 (And.intro @ty_dz46 (And.intro @ty_k47 (And.intro @ty_z47 (And.intro @ty_b47 (And.intro @ty_u47 (And.intro @ty_c47 (And.intro @ty_f47_0 (And.intro @ty_f47_1 (And.intro @ty_p47 (And.intro @ty_za47 (@ty_tz47)))))))))))))))))))))))))))))))))))))))) (And.intro (And.intro @ty_zs47 (And.intro @ty_zv47 (And.intro @ty_dz47 (And.intro @ty_k48 (And.intro @ty_z48 (And.intro @ty_b48 (And.intro @ty_u48 (And.intro @ty_f48_0 (And.intro @ty_f48_1 (And.intro @ty_p48 (And.intro @ty_za48 (And.intro @ty_tz48 (And.intro @ty_zs48 (And.intro @ty_zv48 (And.intro @ty_dz48 (And.intro @ty_k49 (And.intro @ty_z49 (And.intro @ty_b49 (And.intro @ty_u49 (And.intro @ty_f49_0 (And.intro @ty_f49_1 (And.intro @ty_p49 (And.intro @ty_za49 (And.intro @ty_tz49 (And.intro @ty_zs49 (And.intro @ty_zv49 (And.intro @ty_dz49 (And.intro @ty_k50 (And.intro @ty_z50 (And.intro @ty_b50 (And.intro @ty_u50 (And.intro @ty_tz50 (And.intro @ty_zs50 (And.intro @ty_zv50 (And.intro @ty_dz50 (And.intro @ty_k51 (And.intro @ty_z51 (And.intro @ty_b51 (And.intro @ty_u51 (@ty_tz51)))))))))))))))))))))))))))))))))))))))) (And.intro (And.intro @ty_zs51 (And.intro @ty_zv51 (And.intro @ty_dz51 (And.intro @ty_k52 (And.intro @ty_z52 (And.intro @ty_b52 (And.intro @ty_u52 (And.intro @ty_tz52 (And.intro @ty_zs52 (And.intro @ty_zv52 (And.intro @ty_dz52 (And.intro @ty_k53 (And.intro @ty_z53 (And.intro @ty_b53 (And.intro @ty_u53 (And.intro @ty_c53 (And.intro @ty_f53_0 (And.intro @ty_f53_1 (And.intro @ty_p53 (And.intro @ty_za53 (And.intro @ty_tz53 (And.intro @ty_zs53 (And.intro @ty_zv53 (And.intro @ty_dz53 (And.intro @ty_k54 (And.intro @ty_z54 (And.intro @ty_b54 (And.intro @ty_u54 (And.intro @ty_c54 (And.intro @ty_f54_0 (And.intro @ty_f54_1 (And.intro @ty_p54 (And.intro @ty_za54 (And.intro @ty_tz54 (And.intro @ty_zs54 (And.intro @ty_zv54 (And.intro @ty_dz54 (And.intro @ty_k55 (And.intro @ty_z55 (@ty_b55)))))))))))))))))))))))))))))))))))))))) (And.intro (And.intro @ty_u55 (And.intro @ty_tz55 (And.intro @ty_zs55 (And.intro @ty_zv55 (And.intro @ty_dz55 (And.intro @ty_k56 (And.intro @ty_z56 (And.intro @ty_b56 (And.intro @ty_u56 (And.intro @ty_tz56 (And.intro @ty_zs56 (And.intro @ty_zv56 (And.intro @ty_dz56 (And.intro @ty_k57 (And.intro @ty_z57 (And.intro @ty_b57 (And.intro @ty_u57 (And.intro @ty_zv57 (And.intro @ty_k58 (And.intro @ty_z58 (And.intro @ty_b58 (And.intro @ty_u58 (And.intro @ty_tz58 (And.intro @ty_zs58 (And.intro @ty_zv58 (And.intro @ty_dz58 (And.intro @ty_k59 (And.intro @ty_z59 (And.intro @ty_b59 (And.intro @ty_u59 (And.intro @ty_tz59 (And.intro @ty_zs59 (And.intro @ty_zv59 (And.intro @ty_dz59 (And.intro @ty_k60 (And.intro @ty_z60 (And.intro @ty_b60 (And.intro @ty_u60 (And.intro @ty_zv60 (@ty_k61)))))))))))))))))))))))))))))))))))))))) (And.intro (And.intro @ty_z61 (And.intro @ty_b61 (And.intro @ty_u61 (And.intro @ty_tz61 (And.intro @ty_zs61 (And.intro @ty_zv61 (And.intro @ty_dz61 (And.intro @ty_k62 (And.intro @ty_z62 (And.intro @ty_b62 (And.intro @ty_u62 (And.intro @ty_zv62 (And.intro @ty_k63 (And.intro @ty_z63 (And.intro @ty_b63 (And.intro @ty_u63 (And.intro @ty_tz63 (And.intro @ty_zs63 (And.intro @ty_zv63 (And.intro @ty_dz63 (And.intro @ty_k64 (And.intro @ty_z64 (And.intro @ty_b64 (And.intro @ty_u64 (And.intro @ty_tz64 (And.intro @ty_zs64 (And.intro @ty_zv64 (And.intro @ty_dz64 (And.intro @ty_k65 (And.intro @ty_z65 (And.intro @ty_b65 (And.intro @ty_u65 (And.intro @ty_tz65 (And.intro @ty_zs65 (And.intro @ty_zv65 (And.intro @ty_dz65 (And.intro @ty_k66 (And.intro @ty_z66 (And.intro @ty_b66 (@ty_u66)))))))))))))))))))))))))))))))))))))))) (And.intro (And.intro @ty_tz66 (And.intro @ty_zs66 (And.intro @ty_zv66 (And.intro @ty_dz66 (And.intro @ty_k67 (And.intro @ty_z67 (And.intro @ty_b67 (And.intro @ty_u67 (And.intro @ty_zv67 (And.intro @ty_k68 (And.intro @ty_z68 (And.intro @ty_b68 (And.intro @ty_u68 (And.intro @ty_tz68 (And.intro @ty_zs68 (And.intro @ty_zv68 (And.intro @ty_dz68 (And.intro @ty_k69 (And.intro @ty_z69 (And.intro @ty_b69 (And.intro @ty_u69 (And.intro @ty_tz69 (And.intro @ty_zs69 (And.intro @ty_zv69 (And.intro @ty_dz69 (And.intro @ty_k70 (And.intro @ty_z70 (And.intro @ty_b70 (And.intro @ty_u70 (And.intro @ty_tz70 (And.intro @ty_zs70 (And.intro @ty_zv70 (And.intro @ty_dz70 (And.intro @ty_k71 (And.intro @ty_z71 (And.intro @ty_b71 (And.intro @ty_u71 (And.intro @ty_zv71 (And.intro @ty_k72 (@ty_z72)))))))))))))))))))))))))))))))))))))))) (And.intro (And.intro @ty_b72 (And.intro @ty_u72 (And.intro @ty_tz72 (And.intro @ty_zs72 (And.intro @ty_zv72 (And.intro @ty_dz72 (And.intro @ty_k73 (And.intro @ty_z73 (And.intro @ty_b73 (And.intro @ty_u73 (And.intro @ty_zv73 (And.intro @ty_k74 (And.intro @ty_z74 (And.intro @ty_b74 (And.intro @ty_u74 (And.intro @ty_tz74 (And.intro @ty_zs74 (And.intro @ty_zv74 (And.intro @ty_dz74 (And.intro @ty_k75 (And.intro @ty_z75 (And.intro @ty_b75 (And.intro @ty_u75 (And.intro @ty_tz75 (And.intro @ty_zs75 (And.intro @ty_zv75 (And.intro @ty_dz75 (And.intro @ty_k76 (And.intro @ty_z76 (And.intro @ty_b76 (And.intro @ty_u76 (And.intro @ty_tz76 (And.intro @ty_zs76 (And.intro @ty_zv76 (And.intro @ty_dz76 (And.intro @ty_k77 (And.intro @ty_z77 (And.intro @ty_b77 (And.intro @ty_u77 (@ty_tz77)))))))))))))))))))))))))))))))))))))))) (And.intro (And.intro @ty_zs77 (And.intro @ty_zv77 (And.intro @ty_dz77 (And.intro @ty_k78 (And.intro @ty_z78 (And.intro @ty_b78 (And.intro @ty_u78 (And.intro @ty_tz78 (And.intro @ty_zs78 (And.intro @ty_zv78 (And.intro @ty_dz78 (And.intro @ty_k79 (And.intro @ty_z79 (And.intro @ty_b79 (And.intro @ty_i79 (And.intro @ty_u79 (And.intro @ty_tz79 (And.intro @ty_zs79 (And.intro @ty_zv79 (And.intro @ty_dz79 (And.intro @ty_k80 (And.intro @ty_z80 (And.intro @ty_b80 (And.intro @ty_u80 (And.intro @ty_tz80 (And.intro @ty_zs80 (And.intro @ty_zv80 (And.intro @ty_dz80 (And.intro @ty_k81 (And.intro @ty_z81 (And.intro @ty_b81 (And.intro @ty_u81 (And.intro @ty_tz81 (And.intro @ty_zs81 (And.intro @ty_zv81 (And.intro @ty_dz81 (And.intro @ty_k82 (And.intro @ty_z82 (And.intro @ty_b82 (@ty_u82)))))))))))))))))))))))))))))))))))))))) (And.intro (And.intro @ty_tz82 (And.intro @ty_zs82 (And.intro @ty_zv82 (And.intro @ty_dz82 (And.intro @ty_k83 (And.intro @ty_z83 (And.intro @ty_b83 (And.intro @ty_u83 (And.intro @ty_tz83 (And.intro @ty_zs83 (And.intro @ty_zv83 (And.intro @ty_dz83 (And.intro @ty_k84 (And.intro @ty_z84 (And.intro @ty_b84 (And.intro @ty_x84 (And.intro @ty_u84 (And.intro @ty_p84 (And.intro @ty_za84 (And.intro @ty_tz84 (And.intro @ty_zs84 (And.intro @ty_zv84 (And.intro @ty_dz84 (And.intro @ty_k85 (And.intro @ty_z85 (And.intro @ty_b85 (And.intro @ty_u85 (And.intro @ty_tz85 (And.intro @ty_zs85 (And.intro @ty_zv85 (And.intro @ty_dz85 (And.intro @ty_k86 (And.intro @ty_z86 (And.intro @ty_e86 (And.intro @ty_ae86 (And.intro @ty_b86 (And.intro @ty_x86 (And.intro @ty_u86 (And.intro @ty_tz86 (@ty_zs86)))))))))))))))))))))))))))))))))))))))) (And.intro (And.intro @ty_zv86 (And.intro @ty_dz86 (And.intro @ty_k87 (And.intro @ty_z87 (And.intro @ty_b87 (And.intro @ty_u87 (And.intro @ty_zv87 (And.intro @ty_k88 (And.intro @ty_z88 (And.intro @ty_b88 (And.intro @ty_u88 (And.intro @ty_tz88 (And.intro @ty_zs88 (And.intro @ty_zv88 (And.intro @ty_dz88 (And.intro @ty_k89 (And.intro @ty_z89 (And.intro @ty_b89 (And.intro @ty_u89 (And.intro @ty_tz89 (And.intro @ty_zs89 (And.intro @ty_zv89 (And.intro @ty_dz89 (And.intro @ty_k90 (And.intro @ty_z90 (And.intro @ty_b90 (And.intro @ty_x90 (And.intro @ty_u90 (And.intro @ty_p90 (And.intro @ty_za90 (And.intro @ty_tz90 (And.intro @ty_zs90 (And.intro @ty_zv90 (And.intro @ty_dz90 (And.intro @ty_k91 (And.intro @ty_z91 (And.intro @ty_b91 (And.intro @ty_i91 (And.intro @ty_u91 (@ty_tz91)))))))))))))))))))))))))))))))))))))))) (And.intro (And.intro @ty_zs91 (And.intro @ty_zv91 (And.intro @ty_dz91 (And.intro @ty_k92 (And.intro @ty_z92 (And.intro @ty_b92 (And.intro @ty_x92 (And.intro @ty_u92 (And.intro @ty_p92 (And.intro @ty_za92 (And.intro @ty_tz92 (And.intro @ty_zs92 (And.intro @ty_zv92 (And.intro @ty_dz92 (And.intro @ty_k93 (And.intro @ty_z93 (And.intro @ty_b93 (And.intro @ty_u93 (And.intro @ty_tz93 (And.intro @ty_zs93 (And.intro @ty_zv93 (And.intro @ty_dz93 (And.intro @ty_k94 (And.intro @ty_z94 (And.intro @ty_b94 (And.intro @ty_u94 (And.intro @ty_tz94 (And.intro @ty_zs94 (And.intro @ty_zv94 (And.intro @ty_dz94 (And.intro @ty_k95 (And.intro @ty_z95 (And.intro @ty_b95 (And.intro @ty_x95 (And.intro @ty_u95 (And.intro @ty_p95 (And.intro @ty_za95 (And.intro @ty_tz95 (And.intro @ty_zs95 (@ty_zv95)))))))))))))))))))))))))))))))))))))))) (And.intro (And.intro @ty_dz95 (And.intro @ty_k96 (And.intro @ty_z96 (And.intro @ty_b96 (And.intro @ty_x96 (And.intro @ty_u96 (And.intro @ty_p96 (And.intro @ty_za96 (And.intro @ty_tz96 (And.intro @ty_zs96 (And.intro @ty_zv96 (And.intro @ty_dz96 (And.intro @ty_k97 (And.intro @ty_z97 (And.intro @ty_pt97 (And.intro @ty_b97 (And.intro @ty_u97 (And.intro @ty_tz97 (And.intro @ty_zs97 (And.intro @ty_zv97 (And.intro @ty_dz97 (And.intro @ty_k98 (And.intro @ty_z98 (And.intro @ty_b98 (And.intro @ty_u98 (And.intro @ty_tz98 (And.intro @ty_zs98 (And.intro @ty_zv98 (And.intro @ty_dz98 (And.intro @ty_k99 (And.intro @ty_z99 (And.intro @ty_b99 (And.intro @ty_u99 (And.intro @ty_f99_0 (And.intro @ty_f99_1 (And.intro @ty_f99_2 (And.intro @ty_f99_3 (And.intro @ty_p99 (And.intro @ty_za99 (@ty_tz99)))))))))))))))))))))))))))))))))))))))) (And.intro (And.intro @ty_zs99 (And.intro @ty_zv99 (And.intro @ty_dz99 (And.intro @ty_k100 (And.intro @ty_z100 (And.intro @ty_b100 (And.intro @ty_u100 (And.intro @ty_f100_0 (And.intro @ty_f100_1 (And.intro @ty_f100_2 (And.intro @ty_f100_3 (And.intro @ty_p100 (And.intro @ty_za100 (And.intro @ty_tz100 (And.intro @ty_zs100 (And.intro @ty_zv100 (And.intro @ty_dz100 (And.intro @ty_k101 (And.intro @ty_z101 (And.intro @ty_b101 (And.intro @ty_x101 (And.intro @ty_u101 (And.intro @ty_p101 (And.intro @ty_za101 (And.intro @ty_tz101 (And.intro @ty_zs101 (And.intro @ty_zv101 (And.intro @ty_dz101 (And.intro @ty_k102 (And.intro @ty_z102 (And.intro @ty_b102 (And.intro @ty_u102 (And.intro @ty_f102_0 (And.intro @ty_p102 (And.intro @ty_za102 (And.intro @ty_tz102 (And.intro @ty_zs102 (And.intro @ty_zv102 (And.intro @ty_dz102 (@ty_k103)))))))))))))))))))))))))))))))))))))))) (And.intro (And.intro @ty_z103 (And.intro @ty_b103 (And.intro @ty_u103 (And.intro @ty_f103_0 (And.intro @ty_p103 (And.intro @ty_za103 (And.intro @ty_tz103 (And.intro @ty_zs103 (And.intro @ty_zv103 (And.intro @ty_dz103 (And.intro @ty_k104 (And.intro @ty_z104 (And.intro @ty_b104 (And.intro @ty_u104 (And.intro @ty_tz104 (And.intro @ty_zs104 (And.intro @ty_zv104 (And.intro @ty_dz104 (And.intro @ty_k105 (And.intro @ty_z105 (And.intro @ty_b105 (And.intro @ty_i105 (And.intro @ty_u105 (And.intro @ty_tz105 (And.intro @ty_zs105 (And.intro @ty_zv105 (And.intro @ty_dz105 (And.intro @ty_k106 (And.intro @ty_z106 (And.intro @ty_b106 (And.intro @ty_i106 (And.intro @ty_u106 (And.intro @ty_tz106 (And.intro @ty_zs106 (And.intro @ty_zv106 (And.intro @ty_dz106 (And.intro @ty_k107 (And.intro @ty_z107 (And.intro @ty_b107 (@ty_u107)))))))))))))))))))))))))))))))))))))))) (And.intro (And.intro @ty_tz107 (And.intro @ty_zs107 (And.intro @ty_zv107 (And.intro @ty_dz107 (And.intro @ty_k108 (And.intro @ty_z108 (And.intro @ty_pt108 (And.intro @ty_b108 (And.intro @ty_u108 (And.intro @ty_tz108 (And.intro @ty_zs108 (And.intro @ty_zv108 (And.intro @ty_dz108 (And.intro @ty_k109 (And.intro @ty_z109 (And.intro @ty_b109 (And.intro @ty_i109 (And.intro @ty_u109 (And.intro @ty_tz109 (And.intro @ty_zs109 (And.intro @ty_zv109 (And.intro @ty_dz109 (And.intro @ty_k110 (And.intro @ty_z110 (And.intro @ty_b110 (And.intro @ty_i110 (And.intro @ty_u110 (And.intro @ty_tz110 (And.intro @ty_zs110 (And.intro @ty_zv110 (And.intro @ty_dz110 (And.intro @ty_k111 (And.intro @ty_z111 (And.intro @ty_b111 (And.intro @ty_u111 (And.intro @ty_f111_0 (And.intro @ty_f111_1 (And.intro @ty_f111_2 (And.intro @ty_f111_3 (@ty_f111_4)))))))))))))))))))))))))))))))))))))))) (And.intro (And.intro @ty_f111_5 (And.intro @ty_f111_6 (And.intro @ty_f111_7 (And.intro @ty_f111_8 (And.intro @ty_f111_9 (And.intro @ty_f111_10 (And.intro @ty_p111 (And.intro @ty_za111 (And.intro @ty_tz111 (And.intro @ty_zs111 (And.intro @ty_zv111 (And.intro @ty_dz111 (And.intro @ty_k112 (And.intro @ty_z112 (And.intro @ty_b112 (And.intro @ty_u112 (And.intro @ty_f112_0 (And.intro @ty_f112_1 (And.intro @ty_f112_2 (And.intro @ty_f112_3 (And.intro @ty_f112_4 (And.intro @ty_f112_5 (And.intro @ty_f112_6 (And.intro @ty_f112_7 (And.intro @ty_f112_8 (And.intro @ty_f112_9 (And.intro @ty_f112_10 (And.intro @ty_p112 (And.intro @ty_za112 (And.intro @ty_tz112 (And.intro @ty_zs112 (And.intro @ty_zv112 (And.intro @ty_dz112 (And.intro @ty_k113 (And.intro @ty_z113 (And.intro @ty_b113 (And.intro @ty_u113 (And.intro @ty_c113 (And.intro @ty_f113_0 (@ty_p113)))))))))))))))))))))))))))))))))))))))) (And.intro @ty_za113 (And.intro @ty_tz113 (And.intro @ty_zs113 (And.intro @ty_zv113 (And.intro @ty_dz113 (And.intro @ty_k114 (And.intro @ty_z114 (And.intro @ty_b114 (And.intro @ty_u114 (And.intro @ty_c114 (And.intro @ty_f114_0 (And.intro @ty_p114 (And.intro @ty_za114 (And.intro @ty_tz114 (And.intro @ty_zs114 (And.intro @ty_zv114 (And.intro @ty_dz114 (And.intro @ty_k115 (And.intro @ty_z115 (And.intro @ty_b115 (And.intro @ty_u115 (And.intro @ty_tz115 (And.intro @ty_zs115 (And.intro @ty_zv115 (@ty_dz115))))))))))))))))))))))))))))))))))))))))))))))))))) := And.intro (And.intro @ty_k0 (And.intro @ty_z0 (And.intro @ty_b0 (And.intro @ty_u0 (And.intro @ty_zv0 (And.intro @ty_k1 (And.intro @ty_z1 (And.intro @ty_b1 (And.intro @ty_u1 (And.intro @ty_tz1 (And.intro @ty_zs1 (And.intro @ty_zv1 (And.intro @ty_dz1 (And.intro @ty_k2 (And.intro @ty_z2 (And.intro @ty_b2 (And.intro @ty_i2 (And.intro @ty_u2 (And.intro @ty_tz2 (And.intro @ty_zs2 (And.intro @ty_zv2 (And.intro @ty_dz2 (And.intro @ty_k3 (And.intro @ty_z3 (And.intro @ty_b3 (And.intro @ty_i3 (And.intro @ty_u3 (And.intro @ty_tz3 (And.intro @ty_zs3 (And.intro @ty_zv3 (And.intro @ty_dz3 (And.intro @ty_k4 (And.intro @ty_z4 (And.intro @ty_b4 (And.intro @ty_u4 (And.intro @ty_bo4 (And.intro @ty_tz4 (And.intro @ty_zs4 (And.intro @ty_zv4 (@ty_dz4)))))))))))))))))))))))))))))))))))))))) (And.intro (And.intro @ty_k5 (And.intro @ty_z5 (And.intro @ty_b5 (And.intro @ty_i5 (And.intro @ty_u5 (And.intro @ty_tz5 (And.intro @ty_zs5 (And.intro @ty_zv5 (And.intro @ty_dz5 (And.intro @ty_k6 (And.intro @ty_z6 (And.intro @ty_b6 (And.intro @ty_i6 (And.intro @ty_u6 (And.intro @ty_tz6 (And.intro @ty_zs6 (And.intro @ty_zv6 (And.intro @ty_dz6 (And.intro @ty_k7 (And.intro @ty_z7 (And.intro @ty_b7 (And.intro @ty_u7 (And.intro @ty_c7 (And.intro @ty_f7_0 (And.intro @ty_f7_1 (And.intro @ty_f7_2 (And.intro @ty_f7_3 (And.intro @ty_p7 (And.intro @ty_za7 (And.intro @ty_tz7 (And.intro @ty_zs7 (And.intro @ty_zv7 (And.intro @ty_dz7 (And.intro @ty_k8 (And.intro @ty_z8 (And.intro @ty_b8 (And.intro @ty_u8 (And.intro @ty_c8 (And.intro @ty_f8_0 (@ty_f8_1)))))))))))))))))))))))))))))))))))))))) (And.intro (And.intro @ty_f8_2 (And.intro @ty_f8_3 (And.intro @ty_p8 (And.intro @ty_za8 (And.intro @ty_tz8 (And.intro @ty_zs8 (And.intro @ty_zv8 (And.intro @ty_dz8 (And.intro @ty_k9 (And.intro @ty_z9 (And.intro @ty_b9 (And.intro @ty_s9 (And.intro @ty_u9 (And.intro @ty_tz9 (And.intro @ty_zs9 (And.intro @ty_zv9 (And.intro @ty_dz9 (And.intro @ty_k10 (And.intro @ty_z10 (And.intro @ty_b10 (And.intro @ty_s10 (And.intro @ty_u10 (And.intro @ty_tz10 (And.intro @ty_zs10 (And.intro @ty_zv10 (And.intro @ty_dz10 (And.intro @ty_k11 (And.intro @ty_z11 (And.intro @ty_b11 (And.intro @ty_s11 (And.intro @ty_u11 (And.intro @ty_tz11 (And.intro @ty_zs11 (And.intro @ty_zv11 (And.intro @ty_dz11 (And.intro @ty_k12 (And.intro @ty_z12 (And.intro @ty_b12 (And.intro @ty_i12 (@ty_u12)))))))))))))))))))))))))))))))))))))))) (And.intro (And.intro @ty_tz12 (And.intro @ty_zs12 (And.intro @ty_zv12 (And.intro @ty_dz12 (And.intro @ty_k13 (And.intro @ty_z13 (And.intro @ty_b13 (And.intro @ty_u13 (And.intro @ty_f13_0 (And.intro @ty_f13_1 (And.intro @ty_p13 (And.intro @ty_za13 (And.intro @ty_tz13 (And.intro @ty_zs13 (And.intro @ty_zv13 (And.intro @ty_dz13 (And.intro @ty_k14 (And.intro @ty_z14 (And.intro @ty_b14 (And.intro @ty_u14 (And.intro @ty_f14_0 (And.intro @ty_f14_1 (And.intro @ty_p14 (And.intro @ty_za14 (And.intro @ty_tz14 (And.intro @ty_zs14 (And.intro @ty_zv14 (And.intro @ty_dz14 (And.intro @ty_k15 (And.intro @ty_z15 (And.intro @ty_pt15 (And.intro @ty_b15 (And.intro @ty_u15 (And.intro @ty_tz15 (And.intro @ty_zs15 (And.intro @ty_zv15 (And.intro @ty_dz15 (And.intro @ty_k16 (And.intro @ty_z16 (@ty_pt16)))))))))))))))))))))))))))))))))))))))) (And.intro (And.intro @ty_b16 (And.intro @ty_u16 (And.intro @ty_tz16 (And.intro @ty_zs16 (And.intro @ty_zv16 (And.intro @ty_dz16 (And.intro @ty_k17 (And.intro @ty_z17 (And.intro @ty_pt17 (And.intro @ty_b17 (And.intro @ty_u17 (And.intro @ty_tz17 (And.intro @ty_zs17 (And.intro @ty_zv17 (And.intro @ty_dz17 (And.intro @ty_k18 (And.intro @ty_z18 (And.intro @ty_b18 (And.intro @ty_u18 (And.intro @ty_f18_0 (And.intro @ty_p18 (And.intro @ty_za18 (And.intro @ty_tz18 (And.intro @ty_zs18 (And.intro @ty_zv18 (And.intro @ty_dz18 (And.intro @ty_k19 (And.intro @ty_z19 (And.intro @ty_b19 (And.intro @ty_u19 (And.intro @ty_f19_0 (And.intro @ty_p19 (And.intro @ty_za19 (And.intro @ty_tz19 (And.intro @ty_zs19 (And.intro @ty_zv19 (And.intro @ty_dz19 (And.intro @ty_k20 (And.intro @ty_z20 (@ty_b20)))))))))))))))))))))))))))))))))))))))) (And.intro (And.intro @ty_u20 (And.intro @ty_tz20 (And.intro @ty_zs20 (And.intro @ty_zv20 (And.intro @ty_dz20 (And.intro @ty_k21 (And.intro @ty_z21 (And.intro @ty_b21 (And.intro @ty_i21 (And.intro @ty_u21 (And.intro @ty_tz21 (And.intro @ty_zs21 (And.intro @ty_zv21 (And.intro @ty_dz21 (And.intro @ty_k22 (And.intro @ty_z22 (And.intro @ty_b22 (And.intro @ty_u22 (And.intro @ty_c22 (And.intro @ty_f22_0 (And.intro @ty_f22_1 (And.intro @ty_p22 (And.intro @ty_za22 (And.intro @ty_tz22 (And.intro @ty_zs22 (And.intro @ty_zv22 (And.intro @ty_dz22 (And.intro @ty_k23 (And.intro @ty_z23 (And.intro @ty_b23 (And.intro @ty_u23 (And.intro @ty_c23 (And.intro @ty_f23_0 (And.intro @ty_f23_1 (And.intro @ty_p23 (And.intro @ty_za23 (And.intro @ty_tz23 (And.intro @ty_zs23 (And.intro @ty_zv23 (@ty_dz23)))))))))))))))))))))))))))))))))))))))) (And.intro (And.intro @ty_k24 (And.intro @ty_z24 (And.intro @ty_b24 (And.intro @ty_u24 (And.intro @ty_zv24 (And.intro @ty_k25 (And.intro @ty_z25 (And.intro @ty_b25 (And.intro @ty_u25 (And.intro @ty_tz25 (And.intro @ty_zs25 (And.intro @ty_zv25 (And.intro @ty_dz25 (And.intro @ty_k26 (And.intro @ty_z26 (And.intro @ty_b26 (And.intro @ty_u26 (And.intro @ty_tz26 (And.intro @ty_zs26 (And.intro @ty_zv26 (And.intro @ty_dz26 (And.intro @ty_k27 (And.intro @ty_z27 (And.intro @ty_b27 (And.intro @ty_u27 (And.intro @ty_tz27 (And.intro @ty_zs27 (And.intro @ty_zv27 (And.intro @ty_dz27 (And.intro @ty_k28 (And.intro @ty_z28 (And.intro @ty_b28 (And.intro @ty_u28 (And.intro @ty_tz28 (And.intro @ty_zs28 (And.intro @ty_zv28 (And.intro @ty_dz28 (And.intro @ty_k29 (And.intro @ty_z29 (@ty_b29)))))))))))))))))))))))))))))))))))))))) (And.intro (And.intro @ty_u29 (And.intro @ty_tz29 (And.intro @ty_zs29 (And.intro @ty_zv29 (And.intro @ty_dz29 (And.intro @ty_k30 (And.intro @ty_z30 (And.intro @ty_b30 (And.intro @ty_u30 (And.intro @ty_tz30 (And.intro @ty_zs30 (And.intro @ty_zv30 (And.intro @ty_dz30 (And.intro @ty_k31 (And.intro @ty_z31 (And.intro @ty_e31 (And.intro @ty_ae31 (And.intro @ty_b31 (And.intro @ty_x31 (And.intro @ty_u31 (And.intro @ty_tz31 (And.intro @ty_zs31 (And.intro @ty_zv31 (And.intro @ty_dz31 (And.intro @ty_k32 (And.intro @ty_z32 (And.intro @ty_b32 (And.intro @ty_u32 (And.intro @ty_tz32 (And.intro @ty_zs32 (And.intro @ty_zv32 (And.intro @ty_dz32 (And.intro @ty_k33 (And.intro @ty_z33 (And.intro @ty_b33 (And.intro @ty_u33 (And.intro @ty_tz33 (And.intro @ty_zs33 (And.intro @ty_zv33 (@ty_dz33)))))))))))))))))))))))))))))))))))))))) (And.intro (And.intro @ty_k34 (And.intro @ty_z34 (And.intro @ty_b34 (And.intro @ty_u34 (And.intro @ty_tz34 (And.intro @ty_zs34 (And.intro @ty_zv34 (And.intro @ty_dz34 (And.intro @ty_k35 (And.intro @ty_z35 (And.intro @ty_b35 (And.intro @ty_u35 (And.intro @ty_tz35 (And.intro @ty_zs35 (And.intro @ty_zv35 (And.intro @ty_dz35 (And.intro @ty_k36 (And.intro @ty_z36 (And.intro @ty_b36 (And.intro @ty_u36 (And.intro @ty_tz36 (And.intro @ty_zs36 (And.intro @ty_zv36 (And.intro @ty_dz36 (And.intro @ty_k37 (And.intro @ty_z37 (And.intro @ty_b37 (And.intro @ty_u37 (And.intro @ty_tz37 (And.intro @ty_zs37 (And.intro @ty_zv37 (And.intro @ty_dz37 (And.intro @ty_k38 (And.intro @ty_z38 (And.intro @ty_b38 (And.intro @ty_u38 (And.intro @ty_tz38 (And.intro @ty_zs38 (And.intro @ty_zv38 (@ty_dz38)))))))))))))))))))))))))))))))))))))))) (And.intro (And.intro @ty_k39 (And.intro @ty_z39 (And.intro @ty_b39 (And.intro @ty_u39 (And.intro @ty_tz39 (And.intro @ty_zs39 (And.intro @ty_zv39 (And.intro @ty_dz39 (And.intro @ty_k40 (And.intro @ty_z40 (And.intro @ty_b40 (And.intro @ty_u40 (And.intro @ty_tz40 (And.intro @ty_zs40 (And.intro @ty_zv40 (And.intro @ty_dz40 (And.intro @ty_k41 (And.intro @ty_z41 (And.intro @ty_b41 (And.intro @ty_i41 (And.intro @ty_u41 (And.intro @ty_tz41 (And.intro @ty_zs41 (And.intro @ty_zv41 (And.intro @ty_dz41 (And.intro @ty_k42 (And.intro @ty_z42 (And.intro @ty_b42 (And.intro @ty_u42 (And.intro @ty_tz42 (And.intro @ty_zs42 (And.intro @ty_zv42 (And.intro @ty_dz42 (And.intro @ty_k43 (And.intro @ty_z43 (And.intro @ty_b43 (And.intro @ty_u43 (And.intro @ty_tz43 (And.intro @ty_zs43 (@ty_zv43)))))))))))))))))))))))))))))))))))))))) (And.intro (And.intro @ty_dz43 (And.intro @ty_k44 (And.intro @ty_z44 (And.intro @ty_b44 (And.intro @ty_u44 (And.intro @ty_tz44 (And.intro @ty_zs44 (And.intro @ty_zv44 (And.intro @ty_dz44 (And.intro @ty_k45 (And.intro @ty_z45 (And.intro @ty_b45 (And.intro @ty_u45 (And.intro @ty_tz45 (And.intro @ty_zs45 (And.intro @ty_zv45 (And.intro @ty_dz45 (And.intro @ty_k46 (And.intro @ty_z46 (And.intro @ty_b46 (And.intro @ty_u46 (And.intro @ty_c46 (And.intro @ty_f46_0 (And.intro @ty_f46_1 (And.intro @ty_p46 (And.intro @ty_za46 (And.intro @ty_tz46 (And.intro @ty_zs46 (And.intro @ty_zv46 (And.intro @ty_dz46 (And.intro @ty_k47 (And.intro @ty_z47 (And.intro @ty_b47 (And.intro @ty_u47 (And.intro @ty_c47 (And.intro @ty_f47_0 (And.intro @ty_f47_1 (And.intro @ty_p47 (And.intro @ty_za47 (@ty_tz47)))))))))))))))))))))))))))))))))))))))) (And.intro (And.intro @ty_zs47 (And.intro @ty_zv47 (And.intro @ty_dz47 (And.intro @ty_k48 (And.intro @ty_z48 (And.intro @ty_b48 (And.intro @ty_u48 (And.intro @ty_f48_0 (And.intro @ty_f48_1 (And.intro @ty_p48 (And.intro @ty_za48 (And.intro @ty_tz48 (And.intro @ty_zs48 (And.intro @ty_zv48 (And.intro @ty_dz48 (And.intro @ty_k49 (And.intro @ty_z49 (And.intro @ty_b49 (And.intro @ty_u49 (And.intro @ty_f49_0 (And.intro @ty_f49_1 (And.intro @ty_p49 (And.intro @ty_za49 (And.intro @ty_tz49 (And.intro @ty_zs49 (And.intro @ty_zv49 (And.intro @ty_dz49 (And.intro @ty_k50 (And.intro @ty_z50 (And.intro @ty_b50 (And.intro @ty_u50 (And.intro @ty_tz50 (And.intro @ty_zs50 (And.intro @ty_zv50 (And.intro @ty_dz50 (And.intro @ty_k51 (And.intro @ty_z51 (And.intro @ty_b51 (And.intro @ty_u51 (@ty_tz51)))))))))))))))))))))))))))))))))))))))) (And.intro (And.intro @ty_zs51 (And.intro @ty_zv51 (And.intro @ty_dz51 (And.intro @ty_k52 (And.intro @ty_z52 (And.intro @ty_b52 (And.intro @ty_u52 (And.intro @ty_tz52 (And.intro @ty_zs52 (And.intro @ty_zv52 (And.intro @ty_dz52 (And.intro @ty_k53 (And.intro @ty_z53 (And.intro @ty_b53 (And.intro @ty_u53 (And.intro @ty_c53 (And.intro @ty_f53_0 (And.intro @ty_f53_1 (And.intro @ty_p53 (And.intro @ty_za53 (And.intro @ty_tz53 (And.intro @ty_zs53 (And.intro @ty_zv53 (And.intro @ty_dz53 (And.intro @ty_k54 (And.intro @ty_z54 (And.intro @ty_b54 (And.intro @ty_u54 (And.intro @ty_c54 (And.intro @ty_f54_0 (And.intro @ty_f54_1 (And.intro @ty_p54 (And.intro @ty_za54 (And.intro @ty_tz54 (And.intro @ty_zs54 (And.intro @ty_zv54 (And.intro @ty_dz54 (And.intro @ty_k55 (And.intro @ty_z55 (@ty_b55)))))))))))))))))))))))))))))))))))))))) (And.intro (And.intro @ty_u55 (And.intro @ty_tz55 (And.intro @ty_zs55 (And.intro @ty_zv55 (And.intro @ty_dz55 (And.intro @ty_k56 (And.intro @ty_z56 (And.intro @ty_b56 (And.intro @ty_u56 (And.intro @ty_tz56 (And.intro @ty_zs56 (And.intro @ty_zv56 (And.intro @ty_dz56 (And.intro @ty_k57 (And.intro @ty_z57 (And.intro @ty_b57 (And.intro @ty_u57 (And.intro @ty_zv57 (And.intro @ty_k58 (And.intro @ty_z58 (And.intro @ty_b58 (And.intro @ty_u58 (And.intro @ty_tz58 (And.intro @ty_zs58 (And.intro @ty_zv58 (And.intro @ty_dz58 (And.intro @ty_k59 (And.intro @ty_z59 (And.intro @ty_b59 (And.intro @ty_u59 (And.intro @ty_tz59 (And.intro @ty_zs59 (And.intro @ty_zv59 (And.intro @ty_dz59 (And.intro @ty_k60 (And.intro @ty_z60 (And.intro @ty_b60 (And.intro @ty_u60 (And.intro @ty_zv60 (@ty_k61)))))))))))))))))))))))))))))))))))))))) (And.intro (And.intro @ty_z61 (And.intro @ty_b61 (And.intro @ty_u61 (And.intro @ty_tz61 (And.intro @ty_zs61 (And.intro @ty_zv61 (And.intro @ty_dz61 (And.intro @ty_k62 (And.intro @ty_z62 (And.intro @ty_b62 (And.intro @ty_u62 (And.intro @ty_zv62 (And.intro @ty_k63 (And.intro @ty_z63 (And.intro @ty_b63 (And.intro @ty_u63 (And.intro @ty_tz63 (And.intro @ty_zs63 (And.intro @ty_zv63 (And.intro @ty_dz63 (And.intro @ty_k64 (And.intro @ty_z64 (And.intro @ty_b64 (And.intro @ty_u64 (And.intro @ty_tz64 (And.intro @ty_zs64 (And.intro @ty_zv64 (And.intro @ty_dz64 (And.intro @ty_k65 (And.intro @ty_z65 (And.intro @ty_b65 (And.intro @ty_u65 (And.intro @ty_tz65 (And.intro @ty_zs65 (And.intro @ty_zv65 (And.intro @ty_dz65 (And.intro @ty_k66 (And.intro @ty_z66 (And.intro @ty_b66 (@ty_u66)))))))))))))))))))))))))))))))))))))))) (And.intro (And.intro @ty_tz66 (And.intro @ty_zs66 (And.intro @ty_zv66 (And.intro @ty_dz66 (And.intro @ty_k67 (And.intro @ty_z67 (And.intro @ty_b67 (And.intro @ty_u67 (And.intro @ty_zv67 (And.intro @ty_k68 (And.intro @ty_z68 (And.intro @ty_b68 (And.intro @ty_u68 (And.intro @ty_tz68 (And.intro @ty_zs68 (And.intro @ty_zv68 (And.intro @ty_dz68 (And.intro @ty_k69 (And.intro @ty_z69 (And.intro @ty_b69 (And.intro @ty_u69 (And.intro @ty_tz69 (And.intro @ty_zs69 (And.intro @ty_zv69 (And.intro @ty_dz69 (And.intro @ty_k70 (And.intro @ty_z70 (And.intro @ty_b70 (And.intro @ty_u70 (And.intro @ty_tz70 (And.intro @ty_zs70 (And.intro @ty_zv70 (And.intro @ty_dz70 (And.intro @ty_k71 (And.intro @ty_z71 (And.intro @ty_b71 (And.intro @ty_u71 (And.intro @ty_zv71 (And.intro @ty_k72 (@ty_z72)))))))))))))))))))))))))))))))))))))))) (And.intro (And.intro @ty_b72 (And.intro @ty_u72 (And.intro @ty_tz72 (And.intro @ty_zs72 (And.intro @ty_zv72 (And.intro @ty_dz72 (And.intro @ty_k73 (And.intro @ty_z73 (And.intro @ty_b73 (And.intro @ty_u73 (And.intro @ty_zv73 (And.intro @ty_k74 (And.intro @ty_z74 (And.intro @ty_b74 (And.intro @ty_u74 (And.intro @ty_tz74 (And.intro @ty_zs74 (And.intro @ty_zv74 (And.intro @ty_dz74 (And.intro @ty_k75 (And.intro @ty_z75 (And.intro @ty_b75 (And.intro @ty_u75 (And.intro @ty_tz75 (And.intro @ty_zs75 (And.intro @ty_zv75 (And.intro @ty_dz75 (And.intro @ty_k76 (And.intro @ty_z76 (And.intro @ty_b76 (And.intro @ty_u76 (And.intro @ty_tz76 (And.intro @ty_zs76 (And.intro @ty_zv76 (And.intro @ty_dz76 (And.intro @ty_k77 (And.intro @ty_z77 (And.intro @ty_b77 (And.intro @ty_u77 (@ty_tz77)))))))))))))))))))))))))))))))))))))))) (And.intro (And.intro @ty_zs77 (And.intro @ty_zv77 (And.intro @ty_dz77 (And.intro @ty_k78 (And.intro @ty_z78 (And.intro @ty_b78 (And.intro @ty_u78 (And.intro @ty_tz78 (And.intro @ty_zs78 (And.intro @ty_zv78 (And.intro @ty_dz78 (And.intro @ty_k79 (And.intro @ty_z79 (And.intro @ty_b79 (And.intro @ty_i79 (And.intro @ty_u79 (And.intro @ty_tz79 (And.intro @ty_zs79 (And.intro @ty_zv79 (And.intro @ty_dz79 (And.intro @ty_k80 (And.intro @ty_z80 (And.intro @ty_b80 (And.intro @ty_u80 (And.intro @ty_tz80 (And.intro @ty_zs80 (And.intro @ty_zv80 (And.intro @ty_dz80 (And.intro @ty_k81 (And.intro @ty_z81 (And.intro @ty_b81 (And.intro @ty_u81 (And.intro @ty_tz81 (And.intro @ty_zs81 (And.intro @ty_zv81 (And.intro @ty_dz81 (And.intro @ty_k82 (And.intro @ty_z82 (And.intro @ty_b82 (@ty_u82)))))))))))))))))))))))))))))))))))))))) (And.intro (And.intro @ty_tz82 (And.intro @ty_zs82 (And.intro @ty_zv82 (And.intro @ty_dz82 (And.intro @ty_k83 (And.intro @ty_z83 (And.intro @ty_b83 (And.intro @ty_u83 (And.intro @ty_tz83 (And.intro @ty_zs83 (And.intro @ty_zv83 (And.intro @ty_dz83 (And.intro @ty_k84 (And.intro @ty_z84 (And.intro @ty_b84 (And.intro @ty_x84 (And.intro @ty_u84 (And.intro @ty_p84 (And.intro @ty_za84 (And.intro @ty_tz84 (And.intro @ty_zs84 (And.intro @ty_zv84 (And.intro @ty_dz84 (And.intro @ty_k85 (And.intro @ty_z85 (And.intro @ty_b85 (And.intro @ty_u85 (And.intro @ty_tz85 (And.intro @ty_zs85 (And.intro @ty_zv85 (And.intro @ty_dz85 (And.intro @ty_k86 (And.intro @ty_z86 (And.intro @ty_e86 (And.intro @ty_ae86 (And.intro @ty_b86 (And.intro @ty_x86 (And.intro @ty_u86 (And.intro @ty_tz86 (@ty_zs86)))))))))))))))))))))))))))))))))))))))) (And.intro (And.intro @ty_zv86 (And.intro @ty_dz86 (And.intro @ty_k87 (And.intro @ty_z87 (And.intro @ty_b87 (And.intro @ty_u87 (And.intro @ty_zv87 (And.intro @ty_k88 (And.intro @ty_z88 (And.intro @ty_b88 (And.intro @ty_u88 (And.intro @ty_tz88 (And.intro @ty_zs88 (And.intro @ty_zv88 (And.intro @ty_dz88 (And.intro @ty_k89 (And.intro @ty_z89 (And.intro @ty_b89 (And.intro @ty_u89 (And.intro @ty_tz89 (And.intro @ty_zs89 (And.intro @ty_zv89 (And.intro @ty_dz89 (And.intro @ty_k90 (And.intro @ty_z90 (And.intro @ty_b90 (And.intro @ty_x90 (And.intro @ty_u90 (And.intro @ty_p90 (And.intro @ty_za90 (And.intro @ty_tz90 (And.intro @ty_zs90 (And.intro @ty_zv90 (And.intro @ty_dz90 (And.intro @ty_k91 (And.intro @ty_z91 (And.intro @ty_b91 (And.intro @ty_i91 (And.intro @ty_u91 (@ty_tz91)))))))))))))))))))))))))))))))))))))))) (And.intro (And.intro @ty_zs91 (And.intro @ty_zv91 (And.intro @ty_dz91 (And.intro @ty_k92 (And.intro @ty_z92 (And.intro @ty_b92 (And.intro @ty_x92 (And.intro @ty_u92 (And.intro @ty_p92 (And.intro @ty_za92 (And.intro @ty_tz92 (And.intro @ty_zs92 (And.intro @ty_zv92 (And.intro @ty_dz92 (And.intro @ty_k93 (And.intro @ty_z93 (And.intro @ty_b93 (And.intro @ty_u93 (And.intro @ty_tz93 (And.intro @ty_zs93 (And.intro @ty_zv93 (And.intro @ty_dz93 (And.intro @ty_k94 (And.intro @ty_z94 (And.intro @ty_b94 (And.intro @ty_u94 (And.intro @ty_tz94 (And.intro @ty_zs94 (And.intro @ty_zv94 (And.intro @ty_dz94 (And.intro @ty_k95 (And.intro @ty_z95 (And.intro @ty_b95 (And.intro @ty_x95 (And.intro @ty_u95 (And.intro @ty_p95 (And.intro @ty_za95 (And.intro @ty_tz95 (And.intro @ty_zs95 (@ty_zv95)))))))))))))))))))))))))))))))))))))))) (And.intro (And.intro @ty_dz95 (And.intro @ty_k96 (And.intro @ty_z96 (And.intro @ty_b96 (And.intro @ty_x96 (And.intro @ty_u96 (And.intro @ty_p96 (And.intro @ty_za96 (And.intro @ty_tz96 (And.intro @ty_zs96 (And.intro @ty_zv96 (And.intro @ty_dz96 (And.intro @ty_k97 (And.intro @ty_z97 (And.intro @ty_pt97 (And.intro @ty_b97 (And.intro @ty_u97 (And.intro @ty_tz97 (And.intro @ty_zs97 (And.intro @ty_zv97 (And.intro @ty_dz97 (And.intro @ty_k98 (And.intro @ty_z98 (And.intro @ty_b98 (And.intro @ty_u98 (And.intro @ty_tz98 (And.intro @ty_zs98 (And.intro @ty_zv98 (And.intro @ty_dz98 (And.intro @ty_k99 (And.intro @ty_z99 (And.intro @ty_b99 (And.intro @ty_u99 (And.intro @ty_f99_0 (And.intro @ty_f99_1 (And.intro @ty_f99_2 (And.intro @ty_f99_3 (And.intro @ty_p99 (And.intro @ty_za99 (@ty_tz99)))))))))))))))))))))))))))))))))))))))) (And.intro (And.intro @ty_zs99 (And.intro @ty_zv99 (And.intro @ty_dz99 (And.intro @ty_k100 (And.intro @ty_z100 (And.intro @ty_b100 (And.intro @ty_u100 (And.intro @ty_f100_0 (And.intro @ty_f100_1 (And.intro @ty_f100_2 (And.intro @ty_f100_3 (And.intro @ty_p100 (And.intro @ty_za100 (And.intro @ty_tz100 (And.intro @ty_zs100 (And.intro @ty_zv100 (And.intro @ty_dz100 (And.intro @ty_k101 (And.intro @ty_z101 (And.intro @ty_b101 (And.intro @ty_x101 (And.intro @ty_u101 (And.intro @ty_p101 (And.intro @ty_za101 (And.intro @ty_tz101 (And.intro @ty_zs101 (And.intro @ty_zv101 (And.intro @ty_dz101 (And.intro @ty_k102 (And.intro @ty_z102 (And.intro @ty_b102 (And.intro @ty_u102 (And.intro @ty_f102_0 (And.intro @ty_p102 (And.intro @ty_za102 (And.intro @ty_tz102 (And.intro @ty_zs102 (And.intro @ty_zv102 (And.intro @ty_dz102 (@ty_k103)))))))))))))))))))))))))))))))))))))))) (And.intro (And.intro @ty_z103 (And.intro @ty_b103 (And.intro @ty_u103 (And.intro @ty_f103_0 (And.intro @ty_p103 (And.intro @ty_za103 (And.intro @ty_tz103 (And.intro @ty_zs103 (And.intro @ty_zv103 (And.intro @ty_dz103 (And.intro @ty_k104 (And.intro @ty_z104 (And.intro @ty_b104 (And.intro @ty_u104 (And.intro @ty_tz104 (And.intro @ty_zs104 (And.intro @ty_zv104 (And.intro @ty_dz104 (And.intro @ty_k105 (And.intro @ty_z105 (And.intro @ty_b105 (And.intro @ty_i105 (And.intro @ty_u105 (And.intro @ty_tz105 (And.intro @ty_zs105 (And.intro @ty_zv105 (And.intro @ty_dz105 (And.intro @ty_k106 (And.intro @ty_z106 (And.intro @ty_b106 (And.intro @ty_i106 (And.intro @ty_u106 (And.intro @ty_tz106 (And.intro @ty_zs106 (And.intro @ty_zv106 (And.intro @ty_dz106 (And.intro @ty_k107 (And.intro @ty_z107 (And.intro @ty_b107 (@ty_u107)))))))))))))))))))))))))))))))))))))))) (And.intro (And.intro @ty_tz107 (And.intro @ty_zs107 (And.intro @ty_zv107 (And.intro @ty_dz107 (And.intro @ty_k108 (And.intro @ty_z108 (And.intro @ty_pt108 (And.intro @ty_b108 (And.intro @ty_u108 (And.intro @ty_tz108 (And.intro @ty_zs108 (And.intro @ty_zv108 (And.intro @ty_dz108 (And.intro @ty_k109 (And.intro @ty_z109 (And.intro @ty_b109 (And.intro @ty_i109 (And.intro @ty_u109 (And.intro @ty_tz109 (And.intro @ty_zs109 (And.intro @ty_zv109 (And.intro @ty_dz109 (And.intro @ty_k110 (And.intro @ty_z110 (And.intro @ty_b110 (And.intro @ty_i110 (And.intro @ty_u110 (And.intro @ty_tz110 (And.intro @ty_zs110 (And.intro @ty_zv110 (And.intro @ty_dz110 (And.intro @ty_k111 (And.intro @ty_z111 (And.intro @ty_b111 (And.intro @ty_u111 (And.intro @ty_f111_0 (And.intro @ty_f111_1 (And.intro @ty_f111_2 (And.intro @ty_f111_3 (@ty_f111_4)))))))))))))))))))))))))))))))))))))))) (And.intro (And.intro @ty_f111_5 (And.intro @ty_f111_6 (And.intro @ty_f111_7 (And.intro @ty_f111_8 (And.intro @ty_f111_9 (And.intro @ty_f111_10 (And.intro @ty_p111 (And.intro @ty_za111 (And.intro @ty_tz111 (And.intro @ty_zs111 (And.intro @ty_zv111 (And.intro @ty_dz111 (And.intro @ty_k112 (And.intro @ty_z112 (And.intro @ty_b112 (And.intro @ty_u112 (And.intro @ty_f112_0 (And.intro @ty_f112_1 (And.intro @ty_f112_2 (And.intro @ty_f112_3 (And.intro @ty_f112_4 (And.intro @ty_f112_5 (And.intro @ty_f112_6 (And.intro @ty_f112_7 (And.intro @ty_f112_8 (And.intro @ty_f112_9 (And.intro @ty_f112_10 (And.intro @ty_p112 (And.intro @ty_za112 (And.intro @ty_tz112 (And.intro @ty_zs112 (And.intro @ty_zv112 (And.intro @ty_dz112 (And.intro @ty_k113 (And.intro @ty_z113 (And.intro @ty_b113 (And.intro @ty_u113 (And.intro @ty_c113 (And.intro @ty_f113_0 (@ty_p113)))))))))))))))))))))))))))))))))))))))) (And.intro @ty_za113 (And.intro @ty_tz113 (And.intro @ty_zs113 (And.intro @ty_zv113 (And.intro @ty_dz113 (And.intro @ty_k114 (And.intro @ty_z114 (And.intro @ty_b114 (And.intro @ty_u114 (And.intro @ty_c114 (And.intro @ty_f114_0 (And.intro @ty_p114 (And.intro @ty_za114 (And.intro @ty_tz114 (And.intro @ty_zs114 (And.intro @ty_zv114 (And.intro @ty_dz114 (And.intro @ty_k115 (And.intro @ty_z115 (And.intro @ty_b115 (And.intro @ty_u115 (And.intro @ty_tz115 (And.intro @ty_zs115 (And.intro @ty_zv115 (@ty_dz115))))))))))))))))))))))))))))))))))))))))))))))))))
end YtkoebmjenkajdaaDoor
end Go.Proofs
