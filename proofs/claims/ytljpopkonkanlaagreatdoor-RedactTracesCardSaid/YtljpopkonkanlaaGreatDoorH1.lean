/- A part of the proof: contracts of functions of this seat, and lemmas. No condition beyond those stated. -/
import Derived.Test.YtljpopkonkanlaaGreatDoorG3
import Derived.Test.YtljpopkonkanlaaGreatDoorProg
import Derived.Test.YtljpopkonkanlaaGreatDoorG4
set_option linter.unusedVariables false
set_option linter.unusedSimpArgs false
set_option linter.unusedSectionVars false
set_option linter.unnecessarySimpa false

namespace Go.Proofs
open Go.AM Tryz
namespace YtljpopkonkanlaaGreatDoor
theorem Qtg:qlx prog 55=some [0,2,0]:=by kernel_rfl
theorem Qol:qlx prog 57=some [0,0,0,2,0,0,0,1]:=by kernel_rfl
theorem Qtf:qlx prog 59=some [0,0,0,0,0,0,0]:=by kernel_rfl
theorem Qte:qlx prog 66=some [0,0,0,0]:=by kernel_rfl
theorem Qtd:qlx prog 87=some [0,0,0,0,0,0,0]:=by kernel_rfl
theorem Qtc:qlx prog 89=some [2,0,0]:=by kernel_rfl
theorem Qw2:qbm prog 3=some false∧tsz prog 3=some 1∧qbn prog 3=some 8∧qv8 prog 3=some .i64∧(prog.underlying 3).isSome=true∧qbs prog 3=some (Value.int .i64 0)∧(Value.int .i64 0).cells.size=1∧qce prog 3=.d (D.int .i64 0)∧qa3 prog 3=some (D.int .i64 0):=by and_intros<;>kernel_rfl
theorem Qw1:qbm prog 4=some false∧tsz prog 4=some 1∧qbn prog 4=some 1∧(prog.underlying 4).isSome=true∧prog.underlying 4=some .bool∧qbs prog 4=some (Value.bool false)∧(Value.bool false).cells.size=1∧qce prog 4=.d (D.bool false)∧qa3 prog 4=some (D.bool false):=by and_intros<;>kernel_rfl
theorem Qw0:qbm prog 5=some false∧tsz prog 5=some 1∧qbn prog 5=some 1∧qv8 prog 5=some .u8∧(prog.underlying 5).isSome=true∧qbs prog 5=some (Value.int .u8 0)∧(Value.int .u8 0).cells.size=1∧qce prog 5=.d (D.int .u8 0)∧qa3 prog 5=some (D.int .u8 0):=by and_intros<;>kernel_rfl
theorem Qwz:qbm prog 9=some false∧tsz prog 9=some 1∧qbn prog 9=some 16∧Qfs prog 9=true∧(prog.underlying 9).isSome=true∧qbs prog 9=some (Value.string ⟨#[]⟩)∧(Value.string ⟨#[]⟩).cells.size=1∧qce prog 9=.d (D.str [])∧qa3 prog 9=some (D.str []):=by and_intros<;>kernel_rfl
theorem Qt9:qbm prog 22=some false∧tsz prog 22=some 1∧qcc prog 22=some 53∧qqr prog 22=3∧qbn prog 22=some 24∧qkg prog 22=some (none,3)∧(prog.underlying 22).isSome=true∧qbs prog 22=some (Value.slice none 0 0)∧(Value.slice none 0 0).cells.size=1∧qce prog 22=.nils∧qa3 prog 22=some (D.sl []):=by and_intros<;>kernel_rfl
theorem Qt8:qbm prog 24=some false∧tsz prog 24=some 1∧qbn prog 24=some 8∧qv8 prog 24=some .i64∧(prog.underlying 24).isSome=true∧qbs prog 24=some (Value.int .i64 0)∧(Value.int .i64 0).cells.size=1∧qce prog 24=.d (D.int .i64 0)∧qa3 prog 24=some (D.int .i64 0):=by and_intros<;>kernel_rfl
theorem Qt7:qbm prog 28=some false∧tsz prog 28=some 1∧qcc prog 28=some 9∧qqr prog 28=1∧qbn prog 28=some 24∧qkg prog 28=some (none,1)∧(prog.underlying 28).isSome=true∧qbs prog 28=some (Value.slice none 0 0)∧(Value.slice none 0 0).cells.size=1∧qce prog 28=.nils∧qa3 prog 28=some (D.sl []):=by and_intros<;>kernel_rfl
theorem Qt6:qbm prog 33=some false∧tsz prog 33=some 1∧qbn prog 33=some 8∧(prog.underlying 33).isSome=true∧qbs prog 33=some (Value.nilFunc)∧(Value.nilFunc).cells.size=1∧qce prog 33=.d (D.raw .nilFunc)∧qa3 prog 33=some (D.raw .nilFunc):=by and_intros<;>kernel_rfl
theorem Qt5:qbm prog 35=some true∧tsz prog 35=some 2∧qbn prog 35=some 16∧(prog.underlying 35).isSome=true∧qlx prog 35=some [0,0]∧qd6 prog 35 0=some (0,1,false)∧qd6 prog 35 1=some (1,1,false)∧qdl prog 35=some [(0,1),(1,1)]∧qec prog 35=some [.d (D.int .i64 0),.d (D.int .i64 0)]∧qbs prog 35=some (Value.agg #[Value.int .i64 0,Value.int .i64 0])∧(Value.agg #[Value.int .i64 0,Value.int .i64 0]).cells.size=2∧qce prog 35=.d (D.agg [D.int .i64 0,D.int .i64 0])∧qa3 prog 35=some (D.agg [D.int .i64 0,D.int .i64 0]):=by and_intros<;>kernel_rfl
theorem Qt4:qbm prog 36=some false∧tsz prog 36=some 1∧qcc prog 36=some 55∧qqr prog 36=3∧qbn prog 36=some 24∧qkg prog 36=some (none,3)∧(prog.underlying 36).isSome=true∧qbs prog 36=some (Value.slice none 0 0)∧(Value.slice none 0 0).cells.size=1∧qce prog 36=.nils∧qa3 prog 36=some (D.sl []):=by and_intros<;>kernel_rfl
theorem Qt3:qbm prog 37=some false∧tsz prog 37=some 1∧qcc prog 37=some 57∧qqr prog 37=8∧qbn prog 37=some 24∧qkg prog 37=some (none,8)∧(prog.underlying 37).isSome=true∧qbs prog 37=some (Value.slice none 0 0)∧(Value.slice none 0 0).cells.size=1∧qce prog 37=.nils∧qa3 prog 37=some (D.sl []):=by and_intros<;>kernel_rfl
theorem Qt2:qbm prog 38=some false∧tsz prog 38=some 1∧qcc prog 38=some 59∧qqr prog 38=7∧qbn prog 38=some 24∧qkg prog 38=some (none,7)∧(prog.underlying 38).isSome=true∧qbs prog 38=some (Value.slice none 0 0)∧(Value.slice none 0 0).cells.size=1∧qce prog 38=.nils∧qa3 prog 38=some (D.sl []):=by and_intros<;>kernel_rfl
theorem Qt1:qbm prog 39=some false∧tsz prog 39=some 1∧qcc prog 39=some 87∧qqr prog 39=7∧qbn prog 39=some 24∧qkg prog 39=some (none,7)∧(prog.underlying 39).isSome=true∧qbs prog 39=some (Value.slice none 0 0)∧(Value.slice none 0 0).cells.size=1∧qce prog 39=.nils∧qa3 prog 39=some (D.sl []):=by and_intros<;>kernel_rfl
theorem Qt0:qbm prog 40=some false∧tsz prog 40=some 1∧qcc prog 40=some 61∧qqr prog 40=4∧qbn prog 40=some 24∧qkg prog 40=some (none,4)∧(prog.underlying 40).isSome=true∧qbs prog 40=some (Value.slice none 0 0)∧(Value.slice none 0 0).cells.size=1∧qce prog 40=.nils∧qa3 prog 40=some (D.sl []):=by and_intros<;>kernel_rfl
theorem Qtz:qbm prog 41=some false∧tsz prog 41=some 1∧qcc prog 41=some 89∧qqr prog 41=3∧qbn prog 41=some 24∧qkg prog 41=some (none,3)∧(prog.underlying 41).isSome=true∧qbs prog 41=some (Value.slice none 0 0)∧(Value.slice none 0 0).cells.size=1∧qce prog 41=.nils∧qa3 prog 41=some (D.sl []):=by and_intros<;>kernel_rfl
theorem Qty:qbm prog 42=some false∧tsz prog 42=some 1∧qcc prog 42=some 64∧qqr prog 42=7∧qbn prog 42=some 24∧qkg prog 42=some (none,7)∧(prog.underlying 42).isSome=true∧qbs prog 42=some (Value.slice none 0 0)∧(Value.slice none 0 0).cells.size=1∧qce prog 42=.nils∧qa3 prog 42=some (D.sl []):=by and_intros<;>kernel_rfl
theorem Qtx:qbm prog 43=some false∧tsz prog 43=some 1∧qcc prog 43=some 66∧qqr prog 43=4∧qbn prog 43=some 24∧qkg prog 43=some (none,4)∧(prog.underlying 43).isSome=true∧qbs prog 43=some (Value.slice none 0 0)∧(Value.slice none 0 0).cells.size=1∧qce prog 43=.nils∧qa3 prog 43=some (D.sl []):=by and_intros<;>kernel_rfl
theorem Qtw:qbm prog 45=some true∧tsz prog 45=some 10∧qbn prog 45=some 208∧(prog.underlying 45).isSome=true∧qd6 prog 45 0=some (0,2,true)∧qd6 prog 45 1=some (2,1,false)∧qd6 prog 45 2=some (3,1,false)∧qd6 prog 45 3=some (4,1,false)∧qd6 prog 45 4=some (5,1,false)∧qd6 prog 45 5=some (6,1,false)∧qd6 prog 45 6=some (7,1,false)∧qd6 prog 45 7=some (8,1,false)∧qd6 prog 45 8=some (9,1,false)∧qdl prog 45=some [(0,2),(2,1),(3,1),(4,1),(5,1),(6,1),(7,1),(8,1),(9,1)]∧qec prog 45=some [.d (D.int .i64 0),.d (D.int .i64 0),.nils,.nils,.nils,.nils,.nils,.nils,.nils,.nils]∧qbs prog 45=some (Value.agg #[Value.int .i64 0,Value.int .i64 0,Value.slice none 0 0,Value.slice none 0 0,Value.slice none 0 0,Value.slice none 0 0,Value.slice none 0 0,Value.slice none 0 0,Value.slice none 0 0,Value.slice none 0 0])∧(Value.agg #[Value.int .i64 0,Value.int .i64 0,Value.slice none 0 0,Value.slice none 0 0,Value.slice none 0 0,Value.slice none 0 0,Value.slice none 0 0,Value.slice none 0 0,Value.slice none 0 0,Value.slice none 0 0]).cells.size=10∧qce prog 45=.agg [.d (D.int .i64 0),.d (D.int .i64 0),.nils,.nils,.nils,.nils,.nils,.nils,.nils,.nils]∧qa3 prog 45=some (D.agg [D.int .i64 0,D.int .i64 0,D.sl [],D.sl [],D.sl [],D.sl [],D.sl [],D.sl [],D.sl [],D.sl []]):=by and_intros<;>kernel_rfl
theorem Qtv:qbm prog 53=some true∧tsz prog 53=some 3∧qbn prog 53=some 48∧(prog.underlying 53).isSome=true∧qlx prog 53=some [2,2,2]∧qd6 prog 53 0=some (0,1,false)∧qd6 prog 53 1=some (1,1,false)∧qd6 prog 53 2=some (2,1,false)∧qdl prog 53=some [(0,1),(1,1),(2,1)]∧qec prog 53=some [.d (D.str []),.d (D.str []),.d (D.str [])]∧qbs prog 53=some (Value.agg #[Value.string ⟨#[]⟩,Value.string ⟨#[]⟩,Value.string ⟨#[]⟩])∧(Value.agg #[Value.string ⟨#[]⟩,Value.string ⟨#[]⟩,Value.string ⟨#[]⟩]).cells.size=3∧qce prog 53=.d (D.agg [D.str [],D.str [],D.str []])∧qa3 prog 53=some (D.agg [D.str [],D.str [],D.str []]):=by and_intros<;>kernel_rfl
theorem Qtu:qbm prog 55=some true∧tsz prog 55=some 3∧qbn prog 55=some 32∧(prog.underlying 55).isSome=true∧qlx prog 55=some [0,2,0]∧qd6 prog 55 0=some (0,1,false)∧qd6 prog 55 1=some (1,1,false)∧qd6 prog 55 2=some (2,1,false)∧qdl prog 55=some [(0,1),(1,1),(2,1)]∧qec prog 55=some [.d (D.int .i64 0),.d (D.str []),.d (D.int .i64 0)]∧qbs prog 55=some (Value.agg #[Value.int .i64 0,Value.string ⟨#[]⟩,Value.int .i64 0])∧(Value.agg #[Value.int .i64 0,Value.string ⟨#[]⟩,Value.int .i64 0]).cells.size=3∧qce prog 55=.d (D.agg [D.int .i64 0,D.str [],D.int .i64 0])∧qa3 prog 55=some (D.agg [D.int .i64 0,D.str [],D.int .i64 0]):=by and_intros<;>kernel_rfl
theorem Qtt:qbm prog 57=some true∧tsz prog 57=some 8∧qbn prog 57=some 72∧(prog.underlying 57).isSome=true∧qlx prog 57=some [0,0,0,2,0,0,0,1]∧qd6 prog 57 0=some (0,1,false)∧qd6 prog 57 1=some (1,1,false)∧qd6 prog 57 2=some (2,1,false)∧qd6 prog 57 3=some (3,1,false)∧qd6 prog 57 4=some (4,2,true)∧qd6 prog 57 5=some (6,1,false)∧qd6 prog 57 6=some (7,1,false)∧qdl prog 57=some [(0,1),(1,1),(2,1),(3,1),(4,2),(6,1),(7,1)]∧qec prog 57=some [.d (D.int .i64 0),.d (D.int .i64 0),.d (D.int .i64 0),.d (D.str []),.d (D.int .i64 0),.d (D.int .i64 0),.d (D.int .i64 0),.d (D.bool false)]∧qbs prog 57=some (Value.agg #[Value.int .i64 0,Value.int .i64 0,Value.int .i64 0,Value.string ⟨#[]⟩,Value.int .i64 0,Value.int .i64 0,Value.int .i64 0,Value.bool false])∧(Value.agg #[Value.int .i64 0,Value.int .i64 0,Value.int .i64 0,Value.string ⟨#[]⟩,Value.int .i64 0,Value.int .i64 0,Value.int .i64 0,Value.bool false]).cells.size=8∧qce prog 57=.d (D.agg [D.int .i64 0,D.int .i64 0,D.int .i64 0,D.str [],D.int .i64 0,D.int .i64 0,D.int .i64 0,D.bool false])∧qa3 prog 57=some (D.agg [D.int .i64 0,D.int .i64 0,D.int .i64 0,D.str [],D.int .i64 0,D.int .i64 0,D.int .i64 0,D.bool false]):=by and_intros<;>kernel_rfl
theorem Qts:qbm prog 59=some true∧tsz prog 59=some 7∧qbn prog 59=some 56∧(prog.underlying 59).isSome=true∧qlx prog 59=some [0,0,0,0,0,0,0]∧qd6 prog 59 0=some (0,1,false)∧qd6 prog 59 1=some (1,1,false)∧qd6 prog 59 2=some (2,2,true)∧qd6 prog 59 3=some (4,1,false)∧qd6 prog 59 4=some (5,1,false)∧qd6 prog 59 5=some (6,1,false)∧qdl prog 59=some [(0,1),(1,1),(2,2),(4,1),(5,1),(6,1)]∧qec prog 59=some [.d (D.int .i64 0),.d (D.int .i64 0),.d (D.int .i64 0),.d (D.int .i64 0),.d (D.int .i64 0),.d (D.int .i64 0),.d (D.int .i64 0)]∧qbs prog 59=some (Value.agg #[Value.int .i64 0,Value.int .i64 0,Value.int .i64 0,Value.int .i64 0,Value.int .i64 0,Value.int .i64 0,Value.int .i64 0])∧(Value.agg #[Value.int .i64 0,Value.int .i64 0,Value.int .i64 0,Value.int .i64 0,Value.int .i64 0,Value.int .i64 0,Value.int .i64 0]).cells.size=7∧qce prog 59=.d (D.agg [D.int .i64 0,D.int .i64 0,D.int .i64 0,D.int .i64 0,D.int .i64 0,D.int .i64 0,D.int .i64 0])∧qa3 prog 59=some (D.agg [D.int .i64 0,D.int .i64 0,D.int .i64 0,D.int .i64 0,D.int .i64 0,D.int .i64 0,D.int .i64 0]):=by and_intros<;>kernel_rfl
theorem Qtr:qbm prog 61=some true∧tsz prog 61=some 4∧qbn prog 61=some 48∧(prog.underlying 61).isSome=true∧qd6 prog 61 0=some (0,1,false)∧qd6 prog 61 1=some (1,1,false)∧qd6 prog 61 2=some (2,1,false)∧qd6 prog 61 3=some (3,1,false)∧qdl prog 61=some [(0,1),(1,1),(2,1),(3,1)]∧qec prog 61=some [.d (D.int .i64 0),.d (D.int .i64 0),.d (D.int .i64 0),.nils]∧qbs prog 61=some (Value.agg #[Value.int .i64 0,Value.int .i64 0,Value.int .i64 0,Value.slice none 0 0])∧(Value.agg #[Value.int .i64 0,Value.int .i64 0,Value.int .i64 0,Value.slice none 0 0]).cells.size=4∧qce prog 61=.agg [.d (D.int .i64 0),.d (D.int .i64 0),.d (D.int .i64 0),.nils]∧qa3 prog 61=some (D.agg [D.int .i64 0,D.int .i64 0,D.int .i64 0,D.sl []]):=by and_intros<;>kernel_rfl
theorem Qtq:qbm prog 64=some true∧tsz prog 64=some 7∧qbn prog 64=some 72∧(prog.underlying 64).isSome=true∧qd6 prog 64 0=some (0,1,false)∧qd6 prog 64 1=some (1,1,false)∧qd6 prog 64 2=some (2,1,false)∧qd6 prog 64 3=some (3,2,true)∧qd6 prog 64 4=some (5,1,false)∧qd6 prog 64 5=some (6,1,false)∧qdl prog 64=some [(0,1),(1,1),(2,1),(3,2),(5,1),(6,1)]∧qec prog 64=some [.d (D.int .i64 0),.d (D.int .i64 0),.d (D.int .i64 0),.d (D.int .i64 0),.d (D.int .i64 0),.nils,.d (D.bool false)]∧qbs prog 64=some (Value.agg #[Value.int .i64 0,Value.int .i64 0,Value.int .i64 0,Value.int .i64 0,Value.int .i64 0,Value.slice none 0 0,Value.bool false])∧(Value.agg #[Value.int .i64 0,Value.int .i64 0,Value.int .i64 0,Value.int .i64 0,Value.int .i64 0,Value.slice none 0 0,Value.bool false]).cells.size=7∧qce prog 64=.agg [.d (D.int .i64 0),.d (D.int .i64 0),.d (D.int .i64 0),.d (D.int .i64 0),.d (D.int .i64 0),.nils,.d (D.bool false)]∧qa3 prog 64=some (D.agg [D.int .i64 0,D.int .i64 0,D.int .i64 0,D.int .i64 0,D.int .i64 0,D.sl [],D.bool false]):=by and_intros<;>kernel_rfl
theorem Qtp:qbm prog 66=some true∧tsz prog 66=some 4∧qbn prog 66=some 32∧(prog.underlying 66).isSome=true∧qlx prog 66=some [0,0,0,0]∧qd6 prog 66 0=some (0,1,false)∧qd6 prog 66 1=some (1,2,true)∧qd6 prog 66 2=some (3,1,false)∧qdl prog 66=some [(0,1),(1,2),(3,1)]∧qec prog 66=some [.d (D.int .i64 0),.d (D.int .i64 0),.d (D.int .i64 0),.d (D.int .i64 0)]∧qbs prog 66=some (Value.agg #[Value.int .i64 0,Value.int .i64 0,Value.int .i64 0,Value.int .i64 0])∧(Value.agg #[Value.int .i64 0,Value.int .i64 0,Value.int .i64 0,Value.int .i64 0]).cells.size=4∧qce prog 66=.d (D.agg [D.int .i64 0,D.int .i64 0,D.int .i64 0,D.int .i64 0])∧qa3 prog 66=some (D.agg [D.int .i64 0,D.int .i64 0,D.int .i64 0,D.int .i64 0]):=by and_intros<;>kernel_rfl
theorem Qto:qbm prog 70=some false∧tsz prog 70=some 1∧Qdb prog 70=true∧qbn prog 70=some 8∧(prog.underlying 70).isSome=true∧qbs prog 70=some (Value.pointer none)∧(Value.pointer none).cells.size=1∧qce prog 70=.d (D.raw (.pointer none))∧qa3 prog 70=some (D.raw (.pointer none)):=by and_intros<;>kernel_rfl
theorem Qtn:qbm prog 77=some false∧tsz prog 77=some 1∧qiu prog 77=some (none,28)∧qbn prog 77=some 8∧(prog.underlying 77).isSome=true∧qbs prog 77=some (Value.map none)∧(Value.map none).cells.size=1∧qce prog 77=.d (D.raw (.map none))∧qa3 prog 77=some (D.raw (.map none)):=by and_intros<;>kernel_rfl
theorem Qtm:qbm prog 79=some false∧tsz prog 79=some 1∧qiu prog 79=some (none,70)∧qbn prog 79=some 8∧(prog.underlying 79).isSome=true∧qbs prog 79=some (Value.map none)∧(Value.map none).cells.size=1∧qce prog 79=.d (D.raw (.map none))∧qa3 prog 79=some (D.raw (.map none)):=by and_intros<;>kernel_rfl
theorem Qtl:qbm prog 85=some true∧tsz prog 85=some 2∧qbn prog 85=some 16∧(prog.underlying 85).isSome=true∧qlx prog 85=some [0,0]∧qd6 prog 85 0=some (0,1,false)∧qd6 prog 85 1=some (1,1,false)∧qdl prog 85=some [(0,1),(1,1)]∧qec prog 85=some [.d (D.int .i64 0),.d (D.int .i64 0)]∧qbs prog 85=some (Value.agg #[Value.int .i64 0,Value.int .i64 0])∧(Value.agg #[Value.int .i64 0,Value.int .i64 0]).cells.size=2∧qce prog 85=.d (D.agg [D.int .i64 0,D.int .i64 0])∧qa3 prog 85=some (D.agg [D.int .i64 0,D.int .i64 0]):=by and_intros<;>kernel_rfl
theorem Qtk:qbm prog 87=some true∧tsz prog 87=some 7∧qbn prog 87=some 56∧(prog.underlying 87).isSome=true∧qlx prog 87=some [0,0,0,0,0,0,0]∧qd6 prog 87 0=some (0,1,false)∧qd6 prog 87 1=some (1,2,true)∧qd6 prog 87 2=some (3,2,true)∧qd6 prog 87 3=some (5,1,false)∧qd6 prog 87 4=some (6,1,false)∧qdl prog 87=some [(0,1),(1,2),(3,2),(5,1),(6,1)]∧qec prog 87=some [.d (D.int .i64 0),.d (D.int .i64 0),.d (D.int .i64 0),.d (D.int .i64 0),.d (D.int .i64 0),.d (D.int .i64 0),.d (D.int .i64 0)]∧qbs prog 87=some (Value.agg #[Value.int .i64 0,Value.int .i64 0,Value.int .i64 0,Value.int .i64 0,Value.int .i64 0,Value.int .i64 0,Value.int .i64 0])∧(Value.agg #[Value.int .i64 0,Value.int .i64 0,Value.int .i64 0,Value.int .i64 0,Value.int .i64 0,Value.int .i64 0,Value.int .i64 0]).cells.size=7∧qce prog 87=.d (D.agg [D.int .i64 0,D.int .i64 0,D.int .i64 0,D.int .i64 0,D.int .i64 0,D.int .i64 0,D.int .i64 0])∧qa3 prog 87=some (D.agg [D.int .i64 0,D.int .i64 0,D.int .i64 0,D.int .i64 0,D.int .i64 0,D.int .i64 0,D.int .i64 0]):=by and_intros<;>kernel_rfl
theorem Qtj:qbm prog 89=some true∧tsz prog 89=some 3∧qbn prog 89=some 32∧(prog.underlying 89).isSome=true∧qlx prog 89=some [2,0,0]∧qd6 prog 89 0=some (0,1,false)∧qd6 prog 89 1=some (1,1,false)∧qd6 prog 89 2=some (2,1,false)∧qdl prog 89=some [(0,1),(1,1),(2,1)]∧qec prog 89=some [.d (D.str []),.d (D.int .i64 0),.d (D.int .i64 0)]∧qbs prog 89=some (Value.agg #[Value.string ⟨#[]⟩,Value.int .i64 0,Value.int .i64 0])∧(Value.agg #[Value.string ⟨#[]⟩,Value.int .i64 0,Value.int .i64 0]).cells.size=3∧qce prog 89=.d (D.agg [D.str [],D.int .i64 0,D.int .i64 0])∧qa3 prog 89=some (D.agg [D.str [],D.int .i64 0,D.int .i64 0]):=by and_intros<;>kernel_rfl
theorem Qti:qbm prog 94=some false∧tsz prog 94=some 1∧qiu prog 94=some (none,9)∧qbn prog 94=some 8∧(prog.underlying 94).isSome=true∧qbs prog 94=some (Value.map none)∧(Value.map none).cells.size=1∧qce prog 94=.d (D.raw (.map none))∧qa3 prog 94=some (D.raw (.map none)):=by and_intros<;>kernel_rfl
theorem Qth:qbm prog 96=some true∧tsz prog 96=some 3∧qbn prog 96=some 48∧(prog.underlying 96).isSome=true∧qd6 prog 96 0=some (0,1,false)∧qd6 prog 96 1=some (1,1,false)∧qd6 prog 96 2=some (2,1,false)∧qdl prog 96=some [(0,1),(1,1),(2,1)]∧qec prog 96=some [.nils,.d (D.str []),.d (D.raw (.map none))]∧qbs prog 96=some (Value.agg #[Value.slice none 0 0,Value.string ⟨#[]⟩,Value.map none])∧(Value.agg #[Value.slice none 0 0,Value.string ⟨#[]⟩,Value.map none]).cells.size=3∧qce prog 96=.agg [.nils,.d (D.str []),.d (D.raw (.map none))]∧qa3 prog 96=some (D.agg [D.sl [],D.str [],D.raw (.map none)]):=by and_intros<;>kernel_rfl
theorem Qo4:qbm prog 101=some false∧tsz prog 101=some 1∧qbn prog 101=some 8∧(prog.underlying 101).isSome=true∧qbs prog 101=some (Value.nilFunc)∧(Value.nilFunc).cells.size=1∧qce prog 101=.d (D.raw .nilFunc)∧qa3 prog 101=some (D.raw .nilFunc):=by and_intros<;>kernel_rfl
theorem Qo3:qbm prog 106=some false∧tsz prog 106=some 1∧qbn prog 106=some 8∧(prog.underlying 106).isSome=true∧qbs prog 106=some (Value.nilFunc)∧(Value.nilFunc).cells.size=1∧qce prog 106=.d (D.raw .nilFunc)∧qa3 prog 106=some (D.raw .nilFunc):=by and_intros<;>kernel_rfl
theorem Qo2:qbm prog 107=some false∧tsz prog 107=some 1∧qiu prog 107=some (some .i64,4)∧qbn prog 107=some 8∧(prog.underlying 107).isSome=true∧qbs prog 107=some (Value.map none)∧(Value.map none).cells.size=1∧qce prog 107=.d (D.raw (.map none))∧qa3 prog 107=some (D.raw (.map none)):=by and_intros<;>kernel_rfl
theorem Qo1:qbm prog 109=some false∧tsz prog 109=some 1∧qbn prog 109=some 8∧(prog.underlying 109).isSome=true∧qbs prog 109=some (Value.nilFunc)∧(Value.nilFunc).cells.size=1∧qce prog 109=.d (D.raw .nilFunc)∧qa3 prog 109=some (D.raw .nilFunc):=by and_intros<;>kernel_rfl
theorem Qo0:qbm prog 111=some false∧tsz prog 111=some 1∧qbn prog 111=some 8∧(prog.underlying 111).isSome=true∧qbs prog 111=some (Value.nilFunc)∧(Value.nilFunc).cells.size=1∧qce prog 111=.d (D.raw .nilFunc)∧qa3 prog 111=some (D.raw .nilFunc):=by and_intros<;>kernel_rfl
theorem Qoz:qbm prog 113=some false∧tsz prog 113=some 1∧qbn prog 113=some 8∧(prog.underlying 113).isSome=true∧qbs prog 113=some (Value.nilFunc)∧(Value.nilFunc).cells.size=1∧qce prog 113=.d (D.raw .nilFunc)∧qa3 prog 113=some (D.raw .nilFunc):=by and_intros<;>kernel_rfl
theorem Qoy:qbm prog 115=some false∧tsz prog 115=some 1∧qbn prog 115=some 8∧(prog.underlying 115).isSome=true∧qbs prog 115=some (Value.nilFunc)∧(Value.nilFunc).cells.size=1∧qce prog 115=.d (D.raw .nilFunc)∧qa3 prog 115=some (D.raw .nilFunc):=by and_intros<;>kernel_rfl
theorem Qox:qbm prog 117=some false∧tsz prog 117=some 1∧qbn prog 117=some 8∧(prog.underlying 117).isSome=true∧qbs prog 117=some (Value.nilFunc)∧(Value.nilFunc).cells.size=1∧qce prog 117=.d (D.raw .nilFunc)∧qa3 prog 117=some (D.raw .nilFunc):=by and_intros<;>kernel_rfl
theorem Qow:qbm prog 123=some false∧tsz prog 123=some 1∧qbn prog 123=some 8∧(prog.underlying 123).isSome=true∧qbs prog 123=some (Value.nilFunc)∧(Value.nilFunc).cells.size=1∧qce prog 123=.d (D.raw .nilFunc)∧qa3 prog 123=some (D.raw .nilFunc):=by and_intros<;>kernel_rfl
theorem Qov:qbm prog 132=some false∧tsz prog 132=some 1∧qiu prog 132=some (some .i64,9)∧qbn prog 132=some 8∧(prog.underlying 132).isSome=true∧qbs prog 132=some (Value.map none)∧(Value.map none).cells.size=1∧qce prog 132=.d (D.raw (.map none))∧qa3 prog 132=some (D.raw (.map none)):=by and_intros<;>kernel_rfl
theorem Qou:qbm prog 137=some false∧tsz prog 137=some 1∧qbn prog 137=some 8∧(prog.underlying 137).isSome=true∧qbs prog 137=some (Value.nilFunc)∧(Value.nilFunc).cells.size=1∧qce prog 137=.d (D.raw .nilFunc)∧qa3 prog 137=some (D.raw .nilFunc):=by and_intros<;>kernel_rfl
theorem Qot:qbm prog 141=some false∧tsz prog 141=some 1∧qbn prog 141=some 8∧(prog.underlying 141).isSome=true∧qbs prog 141=some (Value.nilFunc)∧(Value.nilFunc).cells.size=1∧qce prog 141=.d (D.raw .nilFunc)∧qa3 prog 141=some (D.raw .nilFunc):=by and_intros<;>kernel_rfl
theorem Qos:qbm prog 144=some false∧tsz prog 144=some 1∧qbn prog 144=some 8∧(prog.underlying 144).isSome=true∧qbs prog 144=some (Value.nilFunc)∧(Value.nilFunc).cells.size=1∧qce prog 144=.d (D.raw .nilFunc)∧qa3 prog 144=some (D.raw .nilFunc):=by and_intros<;>kernel_rfl
theorem Qor:qbm prog 148=some false∧tsz prog 148=some 1∧qbn prog 148=some 8∧(prog.underlying 148).isSome=true∧qbs prog 148=some (Value.nilFunc)∧(Value.nilFunc).cells.size=1∧qce prog 148=.d (D.raw .nilFunc)∧qa3 prog 148=some (D.raw .nilFunc):=by and_intros<;>kernel_rfl
theorem Qoq:qbm prog 152=some false∧tsz prog 152=some 1∧qbn prog 152=some 8∧(prog.underlying 152).isSome=true∧qbs prog 152=some (Value.nilFunc)∧(Value.nilFunc).cells.size=1∧qce prog 152=.d (D.raw .nilFunc)∧qa3 prog 152=some (D.raw .nilFunc):=by and_intros<;>kernel_rfl
theorem Qop:qbm prog 160=some false∧tsz prog 160=some 1∧qcc prog 160=some 3∧qqr prog 160=1∧qbn prog 160=some 24∧qkg prog 160=some (none,1)∧(prog.underlying 160).isSome=true∧qbs prog 160=some (Value.slice none 0 0)∧(Value.slice none 0 0).cells.size=1∧qce prog 160=.nils∧qa3 prog 160=some (D.sl []):=by and_intros<;>kernel_rfl
theorem Qoo:qbm prog 169=some true∧tsz prog 169=some 256∧qbn prog 169=some 256∧qkg prog 169=some (some 256,1)∧(prog.underlying 169).isSome=true∧qlx prog 169=some (List.replicate 256 1)∧qdl prog 169=some ((List.range 256).map fun i=>(i,1))∧qec prog 169=some (List.replicate 256 (.d (D.bool false)))∧qbs prog 169=some (Value.agg (Array.replicate 256 (Value.bool false)))∧(Value.agg (Array.replicate 256 (Value.bool false))).cells.size=256∧qce prog 169=.d (D.agg (List.replicate 256 (D.bool false)))∧qa3 prog 169=some (D.agg (List.replicate 256 (D.bool false))):=by and_intros<;>kernel_rfl
theorem Qon:qbm prog 173=some false∧tsz prog 173=some 1∧Qdb prog 173=true∧qbn prog 173=some 8∧(prog.underlying 173).isSome=true∧qbs prog 173=some (Value.pointer none)∧(Value.pointer none).cells.size=1∧qce prog 173=.d (D.raw (.pointer none))∧qa3 prog 173=some (D.raw (.pointer none)):=by and_intros<;>kernel_rfl
theorem Qom:qbm prog 201=some false∧tsz prog 201=some 1∧qbn prog 201=some 8∧qv8 prog 201=some .u64∧(prog.underlying 201).isSome=true∧qbs prog 201=some (Value.int .u64 0)∧(Value.int .u64 0).cells.size=1∧qce prog 201=.d (D.int .u64 0)∧qa3 prog 201=some (D.int .u64 0):=by and_intros<;>kernel_rfl
theorem q0t:type_of% (aI (aI Qw2 (aI Qw1 (aI Qw0 (aI Qwz (aI Qt9 (aI Qt8 (aI Qt7 (aI Qt6 (aI Qt5 (aI Qt4 (aI Qt3 (aI Qt2 (aI Qt1 (aI Qt0 (aI Qtz (aI Qty (aI Qtx (aI Qtw (aI Qtv (Qtu)))))))))))))))))))) (aI (aI Qtt (aI Qts (aI Qtr (aI Qtq (aI Qtp (aI Qto (aI Qtn (aI Qtm (aI Qtl (aI Qtk (aI Qtj (aI Qti (aI Qth (aI Qo4 (aI Qo3 (aI Qo2 (aI Qo1 (aI Qo0 (aI Qoz (Qoy)))))))))))))))))))) ((aI Qox (aI Qow (aI Qov (aI Qou (aI Qot (aI Qos (aI Qor (aI Qoq (aI Qop (aI Qoo (aI Qon (Qom))))))))))))))):=aI (aI Qw2 (aI Qw1 (aI Qw0 (aI Qwz (aI Qt9 (aI Qt8 (aI Qt7 (aI Qt6 (aI Qt5 (aI Qt4 (aI Qt3 (aI Qt2 (aI Qt1 (aI Qt0 (aI Qtz (aI Qty (aI Qtx (aI Qtw (aI Qtv (Qtu)))))))))))))))))))) (aI (aI Qtt (aI Qts (aI Qtr (aI Qtq (aI Qtp (aI Qto (aI Qtn (aI Qtm (aI Qtl (aI Qtk (aI Qtj (aI Qti (aI Qth (aI Qo4 (aI Qo3 (aI Qo2 (aI Qo1 (aI Qo0 (aI Qoz (Qoy)))))))))))))))))))) ((aI Qox (aI Qow (aI Qov (aI Qou (aI Qot (aI Qos (aI Qor (aI Qoq (aI Qop (aI Qoo (aI Qon (Qom))))))))))))))
end YtljpopkonkanlaaGreatDoor
end Go.Proofs

set_option maxRecDepth 100000
namespace Go.Proofs
open Go.AM Tryz
namespace YtljpopkonkanlaaGreatDoor
variable {Gl:qbd}
theorem zA:type_of% (aI @q0r (aI @Qcv (aI @Qc4 (aI @q0t (aI @Qoj (aI @qn8 (aI @qlk (aI @Int.natCast_add (aI @Int.natCast_one @q6s))))))))):=aI @q0r (aI @Qcv (aI @Qc4 (aI @q0t (aI @Qoj (aI @qn8 (aI @qlk (aI @Int.natCast_add (aI @Int.natCast_one @q6s))))))))
theorem Qwe (s:List UInt8) (c:Int):qba prog Gl 207 [.d (.str s),.d (.int .u8 c)] (.d (.int .i64 (Lib.indexByte s c.toNat.toUInt8))):=
 qkk func207 (by kernel_rfl) (by kernel_rfl) (by kernel_rfl) (by kernel_rfl) s c
theorem Qwd (s:List UInt8) (c:Int):qba prog Gl 184 [.d (.str s),.d (.int .u8 c)] (.d (.int .i64 (Lib.indexByte s c.toNat.toUInt8))):=by
 refine qba.of2 ?_
 refine qac func184 rfl rfl (by simp[ntmps184]) (qab rfl _ _ _ _ ?_)
 simp only[ntmps184,results184,qak,List.length_nil]
 simp only[zA,seval]
 refine qad (Qwe s c) ?_
 simp only[zA,seval]
 exact⟨_,_,qcz.refl _ _ _,rfl,rfl⟩
theorem q77 (s:List UInt8) (c:Int):qba prog Gl 131 [.d (.str s),.d (.int .u8 c)] (.d (.int .i64 (Lib.indexByte s c.toNat.toUInt8))):=by
 refine qba.of2 ?_
 refine qac func131 rfl rfl (by simp[ntmps131]) (qab rfl _ _ _ _ ?_)
 simp only[ntmps131,results131,qak,List.length_nil]
 simp only[zA,seval]
 refine qad (Qwd s c) ?_
 simp only[zA,seval]
 exact⟨_,_,qcz.refl _ _ _,rfl,rfl⟩
def qlg:List UInt8:=[95,46,58,47,60,62,36,42,126,45]
def qgf (c:Int):Bool:=(decide (97≤c)&&decide (c≤122))||(decide (65≤c)&&decide (c≤90))||(decide (48≤c)&&decide (c≤57))||decide (0≤Lib.indexByte qlg c.toNat.toUInt8)
theorem Qmn (c:Int):qba prog Gl 58 [.d (.int .u8 c)] (.d (.bool (qgf c))):=by
 refine qba.of1 ?_
 refine qac func58 rfl rfl (by simp[ntmps58]) (qab rfl _ _ _ _ ?_)
 simp only[ntmps58,results58,qak,List.length_nil]
 simp only[zA,seval]
 repeat((with_reducible apply aI);exact sdp)
 refine qay (fun _=>q77 _ _) ?_
 simp only[zA,seval]
 exact⟨_,_,qap,rfl,rfl⟩
theorem Qi0 (l:List UInt8) (c:UInt8):decide (0≤Lib.indexByte l c)=l.any (·==c):=by
 induction l with
 | nil=>rfl
 | cons b l ih=>
  have hg:=Lib.indexByte_ge l c
  unfold Lib.indexByte
  rw[List.any_cons,←ih]
  by_cases hb:(b==c)=true
  ·simp[hb]
  ·simp only[hb,Bool.false_or]
   by_cases hm:Lib.indexByte l c=-1
   ·simp[hm]
   ·have:¬(Lib.indexByte l c==-1)=true:=by simpa using hm
    rw[if_neg (by simp),if_neg this]
    have h1:0≤Lib.indexByte l c:=by omega
    simp[h1];omega
theorem Qit (c:UInt8):qba prog Gl 59 [.d (.int .u8 (c.toNat:Int))] (.d (.bool (qgf c.toNat))):=by
 refine qba.of1 ?_
 refine qac func59 rfl rfl (by simp[ntmps59]) (qab rfl _ _ _ _ ?_)
 simp only[ntmps59,results59,qak,List.length_nil]
 simp only[zA,seval]
 repeat((with_reducible apply aI);exact sdp)
 refine ifC.mk (fun h=>?_) (fun h=>?_)
 ·refine⟨_,_,qap,?_,rfl⟩
  unfold qgf;rw[h];rfl
 ·have hl:qgf c.toNat=qlg.any (·==c):=by
   unfold qgf;rw[h,Bool.false_or,Qi0];simp
  rw[hl]
  refine qan 10 (fun k=>[(0,.d (.int .u8 (c.toNat:Int))),(3,.d (.str qlg)),(4,.d (.int .i64 k))]) (fun _=>[]) (fun k=>(qlg.take k).any (·==c)=false) rfl ?_ ?_
  ·refine qaa [] [] rfl List.nodup_nil ?_ rfl
   simp only[zA,seval,qlg,Int.cast_ofNat_Int]
  ·intro k hi hk
   by_cases h:k<10
   ·have hd:(qlg.getD k 0)=qlg.getD k default:=rfl
    have hs:=qca (·==c) qlg k h
    have hsl:qlg.length=10:=rfl
    simp only[zA,seval,(show(k:Int)<qlg.length by omega),hd]
    repeat((with_reducible apply aI);exact sdp)
    refine ifC.mk (fun hc=>?_) (fun hc=>?_)
    ·have hc:(qlg.getD k default==c)=true:=by
      have:=UInt8.toNat_inj.1 (Int.ofNat_inj.1 (by simpa using hc));simp[this]
     refine⟨_,_,qap,?_,rfl⟩
     rw[Qc7 (·==c) qlg k h hc]
    ·have hc:(qlg.getD k default==c)=false:=by
      rw[Bool.eq_false_iff];intro hh
      have:=beq_iff_eq.1 hh
      rw[this] at hc;simp at hc
     refine⟨h,by rw[hs,hi,hc];rfl,?_⟩
     refine qaa [] [] rfl List.nodup_nil ?_ rfl
     simp only[zA,seval,@qaf ((k:Int)+1) (by omega)]
   ·have hsl:qlg.length=10:=rfl
    simp only[zA,seval,(show ¬(k:Int)<qlg.length by omega)]
    refine⟨_,_,qap,?_,rfl⟩
    have:k=10:=by omega
    subst this
    rw[←hi];rfl
def qg3 (s:List UInt8):Bool:=decide (1≤s.length)&&decide (s.length≤40)&&s.all fun c=>qgf c.toNat
def qc3 (s:List UInt8):Int:=if qg3 s=true then 0 else 3
theorem qlm {s:List UInt8} (h:qg3 s=false):qc3 s=3:=by simp[qc3,h]
theorem q1a {s:List UInt8} (h:qg3 s=true):qc3 s=0:=by simp[qc3,h]
theorem qna {s:List UInt8} (h:1≤s.length∧s.length≤40):qg3 s=s.all fun c=>qgf c.toNat:=by simp[qg3,h]
theorem qzv {s:List UInt8} (h:¬(1≤s.length∧s.length≤40)):qg3 s=false:=by
 unfold qg3
 by_cases h1:1≤s.length
 ·have:¬s.length≤40:=fun h2=>h ⟨h1,h2⟩
  simp[this]
 ·simp[h1]
theorem qz7 (s:List UInt8):qba prog Gl 31 [.d (.str s)] (.d (.int .i64 (qc3 s))):=by
 refine qba.of1 ?_
 refine qac func31 rfl rfl (by simp[ntmps31]) (qab rfl _ _ _ _ ?_)
 simp only[ntmps31,results31,qak,List.length_nil]
 simp only[zA,seval]
 repeat((with_reducible apply aI);exact sdp)
 refine ifC.mk (fun h=>?_) (fun h=>?_)
 ·refine⟨_,_,qap,?_,rfl⟩
  rw[qlm (qzv fun hn=>?_)]
  cases s<;>simp at h hn;omega
 ·have hn:1≤s.length∧s.length≤40:=by cases s<;>simp at h ⊢;omega
  refine qan s.length (fun k=>[(0,.d (.str s)),(12,.d (.int .i64 s.length)),(13,.d (.int .i64 k))]) (fun _=>[]) (fun k=>((s.take k).all fun c=>qgf c.toNat)=true) rfl ?_ ?_
  ·refine qaa [] [] rfl List.nodup_nil ?_ rfl
   simp only[zA,seval,Int.cast_ofNat_Int]
  ·intro k hi hk
   by_cases h:k<s.length
   ·have hs:=qdc (fun c=>qgf c.toNat) s k h
    have hd:s.getD k 0=s.getD k default:=rfl
    simp only[zA,seval,(show(k:Int)<s.length by omega),hd]
    repeat((with_reducible apply aI);exact sdp)
    refine qad (Qmn _) ?_
    simp only[zA,seval]
    refine ifC.mk (fun hc=>?_) (fun hc=>?_)
    ·refine⟨_,_,qap,?_,rfl⟩
     rw[qlm (by rw[qna hn];exact qqs _ s k h (by simpa using hc))]
    ·refine⟨h,by rw[hs,hi];simpa using hc,?_⟩
     refine qaa [] [] rfl List.nodup_nil ?_ rfl
     simp only[zA,seval,@qaf ((k:Int)+1) (by omega)]
   ·simp only[zA,seval,(show ¬(k:Int)<s.length by omega)]
    refine⟨_,_,qap,?_,rfl⟩
    have:k=s.length:=by omega
    rw[this,List.take_length] at hi
    rw[q1a (by rw[qna hn];exact hi)]
theorem qux (s:List UInt8):qba prog Gl 33 [.d (.str s)] (.d (.int .i64 (qc3 s))):=by
 refine qba.of1 ?_
 refine qac func33 rfl rfl (by simp[ntmps33]) (qab rfl _ _ _ _ ?_)
 simp only[ntmps33,results33,qak,List.length_nil]
 simp only[zA,seval]
 repeat((with_reducible apply aI);exact sdp)
 refine ifC.mk (fun h=>?_) (fun h=>?_)
 ·refine⟨_,_,qap,?_,rfl⟩
  rw[qlm (qzv fun hn=>?_)]
  simp at h;omega
 ·have hn:1≤s.length∧s.length≤40:=by simp at h;omega
  refine qan s.length (fun k=>[(0,.d (.str s)),(3,.d (.int .i64 k))]) (fun _=>[]) (fun k=>((s.take k).all fun c=>qgf c.toNat)=true) rfl ?_ ?_
  ·refine qaa [] [] rfl List.nodup_nil ?_ rfl
   simp only[zA,seval,Int.cast_ofNat_Int]
  ·intro k hi hk
   by_cases h:k<s.length
   ·have hs:=qdc (fun c=>qgf c.toNat) s k h
    have hd:s.getD k 0=s.getD k default:=rfl
    simp only[zA,seval,(show(k:Int)<s.length by omega),hd]
    repeat((with_reducible apply aI);exact sdp)
    refine qad (Qit _) ?_
    simp only[zA,seval]
    refine ifC.mk (fun hc=>?_) (fun hc=>?_)
    ·refine⟨_,_,qap,?_,rfl⟩
     rw[qlm (by rw[qna hn];exact qqs _ s k h (by simpa using hc))]
    ·refine⟨h,by rw[hs,hi];simpa using hc,?_⟩
     refine qaa [] [] rfl List.nodup_nil ?_ rfl
     simp only[zA,seval,@qaf ((k:Int)+1) (by omega)]
   ·simp only[zA,seval,(show ¬(k:Int)<s.length by omega)]
    refine⟨_,_,qap,?_,rfl⟩
    have:k=s.length:=by omega
    rw[this,List.take_length] at hi
    rw[q1a (by rw[qna hn];exact hi)]
def qcv (l:List (List UInt8)):Int:=if 32<l.length then 7 else if l.all qg3=true then 0 else 3
theorem Qb8 (l:List (List UInt8)) (hl:l.length<1000000):qba prog Gl 168 [.d (.sl (l.map .str))] (.d (.int .i64 (qcv l))):=by
 refine qba.of1 ?_
 refine qac func168 rfl rfl (by simp[ntmps168]) (qab rfl _ _ _ _ ?_)
 simp only[ntmps168,results168,qak,List.length_nil]
 simp only[zA,seval]
 refine ifC.mk (fun h=>?_) (fun h=>?_)
 ·refine⟨_,_,qap,?_,rfl⟩
  simp at h
  have h:32<l.length:=by omega
  rw[qcv,if_pos h]
 ·simp at h
  have h:¬32<l.length:=by omega
  refine qan l.length (fun k=>[(9,.d (.sl (l.map .str))),(10,.d (.int .i64 l.length)),(11,.d (.int .i64 k))]) (fun _=>[]) (fun k=>(l.take k).all qg3=true) rfl ?_ ?_
  ·refine qaa [] [] rfl List.nodup_nil ?_ rfl
   simp only[zA,seval,Int.cast_ofNat_Int]
  ·intro k hi hk
   by_cases h2:k<l.length
   ·have hs:=qdc qg3 l k h2
    simp only[zA,seval,(show(k:Int)<l.length by omega),h2,qah _ _ _ (show k<l.length by omega)]
    refine qad (qz7 _) ?_
    simp only[zA,seval]
    refine ifC.mk (fun hc=>?_) (fun hc=>?_)
    ·refine⟨_,_,qap,?_,rfl⟩
     have hb:qg3 (l.getD k default)=false:=by
      cases hb:qg3 (l.getD k default) with
      | false=>rfl
      | true=>rw[q1a hb] at hc;simp at hc
     rw[qcv,if_neg h,if_neg (by rw[qqs _ l k h2 hb];simp),qlm hb]
    ·have hb:qg3 (l.getD k default)=true:=by
      cases hb:qg3 (l.getD k default) with
      | true=>rfl
      | false=>rw[qlm hb] at hc;simp at hc
     refine⟨by rw[hs,hi,hb];rfl,?_⟩
     refine qaa [] [] rfl List.nodup_nil ?_ rfl
     simp only[zA,seval,@qaf ((k:Int)+1) (by omega)]
   ·simp only[zA,seval,(show ¬(k:Int)<l.length by omega)]
    refine⟨_,_,qap,?_,rfl⟩
    have:k=l.length:=by omega
    rw[this,List.take_length] at hi
    rw[qcv,if_neg h,if_pos hi]
theorem q55 (l:List (List UInt8)) (hl:l.length<1000000):qba prog Gl 205 [.d (.sl (l.map .str))] (.d (.int .i64 (qcv l))):=by
 refine qba.of1 ?_
 refine qac func205 rfl rfl (by simp[ntmps205]) (qab rfl _ _ _ _ ?_)
 simp only[ntmps205,results205,qak,List.length_nil]
 simp only[zA,seval]
 refine ifC.mk (fun h=>?_) (fun h=>?_)
 ·refine⟨_,_,qap,?_,rfl⟩
  simp at h
  have h:32<l.length:=by omega
  rw[qcv,if_pos h]
 ·simp at h
  have h:¬32<l.length:=by omega
  refine qan l.length (fun k=>[(0,.d (.sl (l.map .str))),(3,.d (.int .i64 k))]) (fun _=>[]) (fun k=>(l.take k).all qg3=true) rfl ?_ ?_
  ·refine qaa [] [] rfl List.nodup_nil ?_ rfl
   simp only[zA,seval,Int.cast_ofNat_Int]
  ·intro k hi hk
   by_cases h2:k<l.length
   ·have hs:=qdc qg3 l k h2
    simp only[zA,seval,(show(k:Int)<l.length by omega),h2,qah _ _ _ (show k<l.length by omega)]
    refine qad (qux _) ?_
    simp only[zA,seval]
    refine ifC.mk (fun hc=>?_) (fun hc=>?_)
    ·refine⟨_,_,qap,?_,rfl⟩
     have hb:qg3 (l.getD k default)=false:=by
      cases hb:qg3 (l.getD k default) with
      | false=>rfl
      | true=>rw[q1a hb] at hc;simp at hc
     rw[qcv,if_neg h,if_neg (by rw[qqs _ l k h2 hb];simp)]
    ·have hb:qg3 (l.getD k default)=true:=by
      cases hb:qg3 (l.getD k default) with
      | true=>rfl
      | false=>rw[qlm hb] at hc;simp at hc
     refine⟨by rw[hs,hi,hb];rfl,?_⟩
     refine qaa [] [] rfl List.nodup_nil ?_ rfl
     simp only[zA,seval,@qaf ((k:Int)+1) (by omega)]
   ·simp only[zA,seval,(show ¬(k:Int)<l.length by omega)]
    refine⟨_,_,qap,?_,rfl⟩
    have:k=l.length:=by omega
    rw[this,List.take_length] at hi
    rw[qcv,if_neg h,if_pos hi]
end YtljpopkonkanlaaGreatDoor
end Go.Proofs

set_option maxRecDepth 100000
namespace Go.Proofs
open Go.AM Tryz
namespace YtljpopkonkanlaaGreatDoor
variable {Gl:qbd} {τ:Sto}
theorem zS:type_of% (aI @q0r (aI @Qcv (aI @Qc4 @q0t))):=aI @q0r (aI @Qcv (aI @Qc4 @q0t))
theorem qg0 (Dm:D→Prop) (hD:∀x,Dm x→El 3 x) (xs:List D) (n a b k:Nat) (fv:FuncId) (caps:List AV) (hx:∀y∈xs,Dm y) (hn:n≤xs.length) (hN:n<1000000) (ha:a+k≤n) (hb:b+k≤n) (hab:a+k≤b∨b+k≤a) :
  qal prog Gl 219 [.osl 0 0 n,.d (.int .i64 a),.d (.int .i64 b),.d (.int .i64 k),.fn fv caps] (.arr 3 xs::τ) (fun r s=>r=.tup []∧∃ys,s=(.arr 3 ys::τ)∧Arr Dm xs ys (qkh a b k)):=by
 refine qac func219 rfl rfl (by simp[ntmps219]) (qab rfl _ _ _ _ ?_)
 simp only[ntmps219,results219,qak,List.length_nil]
 simp only[zS,seval]
 refine qcr (τ:=Nat×List D) (fun x=>[(0,.osl 0 0 n),(1,.d (.int .i64 a)),(2,.d (.int .i64 b)),(3,.d (.int .i64 k)),(10,.d (.int .i64 x.1))]) (fun x=>(.arr 3 x.2::τ)) (fun x=>x.1≤k∧Arr Dm xs x.2 (qkh a b x.1)) (fun x=>k-x.1) (0,xs) ⟨Nat.zero_le _,rfl,hx,fun i hi=>by unfold qkh;rw[if_neg (by omega),if_neg (by omega)]⟩ ?_ ?_
 ·refine qbv ?_
  simp only[zS,seval]
  all_goals rfl
 ·intro x hi
  obtain⟨j,ys⟩:=x
  obtain⟨hj,hA⟩:=hi
  simp only at hj hA
  simp only[zS,seval]
  refine ifC.mk (fun h=>?_) (fun h=>?_)
  ·have h:j<k:=by simpa using h
   have e1:IntKind.i64.wrap ((a:Int)+j)=((a+j:Nat):Int):=by rw[qbh (by omega) (by omega)];omega
   have e2:IntKind.i64.wrap ((b:Int)+j)=((b+j:Nat):Int):=by rw[qbh (by omega) (by omega)];omega
   have hl:=hA.len
   have l1:=El.at hD hA.el (i:=a+j) (by omega)
   have l2:=El.at hD hA.el (i:=b+j) (by omega)
   simp only[zS,seval,e1,e2,l1,l2]
   refine⟨.inl (by kernel_rfl),?_⟩
   have c1:((b+j:Nat):Int)<(n:Int):=by omega
   have c2:((a+j:Nat):Int)<(n:Int):=by omega
   have c3:b+j<ys.length:=by omega
   have c4:a+j<ys.length:=by omega
   simp only[c1,c2,c3,c4,true_and]
   refine⟨(j+1,_),⟨by omega,(hA.swap (i:=a+j) (j:=b+j) (by omega) (by omega)).congr fun i _=>?_⟩,by simp only;omega,qbv ?_⟩
   ·exact Qde a b j i (by omega)
   ·simp only[zS,seval]
    rw[qbh (by omega) (by omega)]
    rfl
  ·have h:¬j<k:=by simpa using h
   have:j=k:=by omega
   subst this
   exact⟨_,_,qcz.refl _ _ _,rfl,ys,rfl,hA⟩

theorem Qlk (a m i p:Nat) (h:i≤m):qkh (m-i) m i p=qos (m-i) m (m+i) p:=by
 unfold qkh qos
 repeat' split
 all_goals omega
theorem Qlj (m i j p:Nat) (h:j<i) (hm:i≤m):qkh (m-i) m j (qos (m-(i-j)) m (m+j) p)=qos (m-i) m (m+j) p:=by
 unfold qkh qos
 repeat' split
 all_goals omega
theorem Qf9 (m i j p:Nat) (h:i<j) (hm:i≤m):qkh (m-i) (m+j-i) i (qos (m-i) m (m+(j-i)) p)=qos (m-i) m (m+j) p:=by
 unfold qkh qos
 repeat' split
 all_goals omega
theorem q0u {a b k i n:Nat} (ha:a+k≤n) (hb:b+k≤n) (hi:i<n):qkh a b k i<n:=by
 unfold qkh
 repeat' split
 all_goals omega
theorem Qga {a m b i n:Nat} (ha:a≤m) (hb:m≤b) (hn:b≤n) (hi:i<n):qos a m b i<n:=by
 unfold qos
 repeat' split
 all_goals omega
theorem qr2 (Dm:D→Prop) (hD:∀x,Dm x→El 3 x) (xs:List D) (n a m b:Nat) (fv:FuncId) (caps:List AV) (hx:∀y∈xs,Dm y) (hn:n≤xs.length) (hN:n<1000000) (ha:a<m) (hm:m<b) (hb:b≤n) :
  qal prog Gl 209 [.osl 0 0 n,.d (.int .i64 a),.d (.int .i64 m),.d (.int .i64 b),.fn fv caps] (.arr 3 xs::τ) (fun r s=>r=.tup []∧∃ys,s=(.arr 3 ys::τ)∧Arr Dm xs ys (qos a m b)):=by
 refine qac func209 rfl rfl (by simp[ntmps209]) (qab rfl _ _ _ _ ?_)
 simp only[ntmps209,results209,qak,List.length_nil]
 simp only[zS,seval]
 refine qcr (τ:=(Nat×Nat)×List D) (fun x=>[(0,.osl 0 0 n),(2,.d (.int .i64 m)),(4,.fn fv caps),(10,.d (.int .i64 x.1.1)),(11,.d (.int .i64 x.1.2))]) (fun x=>(.arr 3 x.2::τ))
  (fun x=>1≤x.1.1∧x.1.1≤m-a∧1≤x.1.2∧x.1.2≤b-m∧∃π,Arr Dm xs x.2 π∧∀p,p<xs.length→π (qos (m-x.1.1) m (m+x.1.2) p)=qos a m b p) (fun x=>x.1.1+x.1.2) ((m-a,b-m),xs)
  ⟨by simp only;omega,by simp only;omega,by simp only;omega,by simp only;omega,fun i=>i,Arr.refl hx,fun p _=>by simp only;congr 1<;>omega⟩ ?_ ?_
 ·refine qbv ?_
  have e1:IntKind.i64.wrap ((m:Int)-a)=((m-a:Nat):Int):=by rw[qbh (by omega) (by omega)];omega
  have e2:IntKind.i64.wrap ((b:Int)-m)=((b-m:Nat):Int):=by rw[qbh (by omega) (by omega)];omega
  simp only[zS,seval,e1,e2]
 ·intro x hi
  obtain⟨⟨i,j⟩,ys⟩:=x
  obtain⟨h1,h2,h3,h4,π,hA,hπ⟩:=hi
  simp only at h1 h2 h3 h4 hA hπ
  have hl:=hA.len
  have e1:IntKind.i64.wrap ((m:Int)-i)=((m-i:Nat):Int):=by rw[qbh (by omega) (by omega)];omega
  simp only[zS,seval,e1]
  refine ifC.mk (fun h=>?_) (fun h=>?_)
  ·have h:i≠j:=by simp at h;omega
   refine ifC.mk (fun h=>?_) (fun h=>?_)
   ·have h:j<i:=by simpa using h
    refine qa1 ((qg0 Dm hD ys n (m-i) m j fv caps hA.el (by omega) hN (by omega) (by omega) (by omega)).mono fun r s h=>?_)
    obtain⟨rfl,zs,rfl,hB⟩:=h
    have e2:IntKind.i64.wrap ((i:Int)-j)=((i-j:Nat):Int):=by rw[qbh (by omega) (by omega)];omega
    simp only[zS,seval,e2]
    refine⟨((i-j,j),zs),⟨by simp only;omega,by simp only;omega,by simp only;omega,by simp only;omega,_,hA.trans hB fun p hp=>q0u (by omega) (by omega) hp,fun p hp=>?_⟩,by simp only;omega,qbv ?_⟩
    ·simp only
     rw[Qlj m i j p (by omega) (by omega)];exact hπ p hp
    ·simp only[zS,seval]
   ·have h:¬j<i:=by simpa using h
    have e2:IntKind.i64.wrap (IntKind.i64.wrap ((m:Int)+j)-i)=((m+j-i:Nat):Int):=by rw[qbh (n:=(m:Int)+j) (by omega) (by omega),qbh (by omega) (by omega)];omega
    simp only[e2]
    refine qa1 ((qg0 Dm hD ys n (m-i) (m+j-i) i fv caps hA.el (by omega) hN (by omega) (by omega) (by omega)).mono fun r s h=>?_)
    obtain⟨rfl,zs,rfl,hB⟩:=h
    have e3:IntKind.i64.wrap ((j:Int)-i)=((j-i:Nat):Int):=by rw[qbh (by omega) (by omega)];omega
    simp only[zS,seval,e3]
    refine⟨((i,j-i),zs),⟨by simp only;omega,by simp only;omega,by simp only;omega,by simp only;omega,_,hA.trans hB fun p hp=>q0u (by omega) (by omega) hp,fun p hp=>?_⟩,by simp only;omega,qbv ?_⟩
    ·simp only
     rw[Qf9 m i j p (by omega) (by omega)];exact hπ p hp
    ·simp only[zS,seval]
  ·have h:i=j:=by simp at h;omega
   subst h
   refine qa1 ((qg0 Dm hD ys n (m-i) m i fv caps hA.el (by omega) hN (by omega) (by omega) (by omega)).mono fun r s h=>?_)
   obtain⟨rfl,zs,rfl,hB⟩:=h
   refine⟨trivial,_,_,qcz.refl _ _ _,rfl,zs,rfl,(hA.trans hB fun p hp=>q0u (by omega) (by omega) hp).congr fun p hp=>?_⟩
   rw[Qlk a m i p (by omega)];exact hπ p hp

structure q89 (Gl:qbd) (τ:Sto) (Dm:D→Prop) (cmpF:D→D→Int) (fv:FuncId) (caps:List AV):Prop where
 el:∀x,Dm x→El 3 x
 call:∀x y,Dm x→Dm y→∀ys s,Ext (.arr 3 ys::τ) s→qal prog Gl fv ([.d x,.d y]++caps) s (fun r s'=>r=.d (.int .i64 (cmpF x y))∧s'=s)
 swo:Swo Dm (fun x y=>decide (cmpF x y<0))
structure Qn4 (xs:List D) (lt:D→D→Bool) (i:Nat) (ρ:Nat→Nat) (j:Nat) (κ:Nat→Nat):Prop where
 le:j≤i
 at_:κ j=ρ i
 left:∀p,p<j→κ p=ρ p
 mid:∀p,j<p→p≤i→κ p=ρ (p-1)
 right:∀p,i<p→κ p=ρ p
 less:∀p,j≤p→p<i→Lx lt xs (ρ i) (ρ p)
theorem Qdg {xs:List D} {lt:D→D→Bool} {i j:Nat} {ρ κ:Nat→Nat} (h:Qn4 xs lt i ρ j κ) (hj:0<j) (hl:Lx lt xs (ρ i) (ρ (j-1))) :
  Qn4 xs lt i ρ (j-1) (fun p=>if p=j-1 then κ j else if p=j then κ (j-1) else κ p):=by
 have hle:=h.le
 refine⟨by omega,?_,fun p hp=>?_,fun p h1 h2=>?_,fun p hp=>?_,fun p h1 h2=>?_⟩
 ·simp only[if_true];exact h.at_
 ·rw[if_neg (by omega),if_neg (by omega)];exact h.left p (by omega)
 ·rw[if_neg (by omega)]
  by_cases e:p=j
  ·rw[if_pos e,e];exact h.left _ (by omega)
  ·rw[if_neg e];exact h.mid p (by omega) h2
 ·rw[if_neg (by omega),if_neg (by omega)];exact h.right p hp
 ·by_cases e:p=j-1
  ·rw[e];exact hl
  ·exact h.less p (by omega) h2
theorem qw6 {Dm:D→Prop} {xs:List D} {lt:D→D→Bool} (hw:Swo Dm lt) (hx:∀y∈xs,Dm y) {a i j:Nat} {π ρ κ:Nat→Nat} (hi:i<xs.length) (hπ:∀p,p<xs.length→π p<xs.length)
  (hM:Mv a i π ρ) (hS:qb2 lt xs a i ρ) (h:Qn4 xs lt i ρ j κ) (haj:a≤j) (hl:a<j→Lx lt xs (ρ (j-1)) (ρ i)) :
  Mv a (i+1) π κ∧qb2 lt xs a (i+1) κ:=by
 have hle:=h.le
 have hρ:∀p,p<xs.length→ρ p<xs.length:=fun p hp=>by
  by_cases hq:a≤p∧p<i
  ·obtain⟨q,q1,q2,q3⟩:=hM.inn p hq.1 hq.2
   rw[q3];exact hπ q (by omega)
  ·rw[hM.out p (by omega)];exact hπ p hp
 have hi':ρ i=π i:=hM.out i (by omega)
 refine⟨⟨fun p hp=>?_,fun p h1 h2=>?_⟩,fun p q h1 h2 h3=>?_⟩
 ·rcases Nat.lt_or_ge p j with hpj|hpj
  ·rw[h.left p hpj];exact hM.out p (by omega)
  ·rw[h.right p (by omega)];exact hM.out p (by omega)
 ·rcases Nat.lt_trichotomy p j with hpj|hpj|hpj
  ·rw[h.left p hpj]
   obtain⟨q,q1,q2,q3⟩:=hM.inn p h1 (by omega)
   exact⟨q,q1,by omega,q3⟩
  ·subst hpj
   exact⟨i,by omega,by omega,by rw[h.at_,hi']⟩
  ·rw[h.mid p hpj (by omega)]
   obtain⟨q,q1,q2,q3⟩:=hM.inn (p-1) (by omega) (by omega)
   exact⟨q,q1,by omega,q3⟩
 ·rcases Nat.lt_trichotomy q j with hq|hq|hq
  ·rw[h.left p (by omega),h.left q hq];exact hS p q h1 h2 (by omega)
  ·subst hq
   rw[h.left p h2,h.at_]
   have hlq:=hl (by omega)
   by_cases e:p=q-1
   ·rw[e];exact hlq
   ·exact Lx.trans hw hx (hρ p (by omega)) (hρ (q-1) (by omega)) (hρ i hi) (hS p (q-1) h1 (by omega) (by omega)) hlq
  ·rw[h.mid q hq (by omega)]
   rcases Nat.lt_trichotomy p j with hp|hp|hp
   ·rw[h.left p hp];exact hS p (q-1) h1 (by omega) (by omega)
   ·subst hp
    rw[h.at_];exact h.less (q-1) (by omega) (by omega)
   ·rw[h.mid p hp (by omega)];exact hS (p-1) (q-1) (by omega) (by omega) (by omega)
theorem qk9 (Dm:D→Prop) (cmpF:D→D→Int) (fv:FuncId) (caps:List AV) (hC:q89 Gl τ Dm cmpF fv caps) (xs ys:List D) (hxs:∀y∈xs,Dm y) (n a b:Nat) (π:Nat→Nat) (hA:Arr Dm xs ys π) (hπ:∀p,p<xs.length→π p<xs.length)
  (hn:n≤xs.length) (hN:n<1000000) (hab:a≤b) (hb:b≤n) (hr:Qvx a b π) :
  qal prog Gl 189 [.osl 0 0 n,.d (.int .i64 a),.d (.int .i64 b),.fn fv caps] (.arr 3 ys::τ)
   (fun r s=>r=.tup []∧∃zs ρ,s=(.arr 3 zs::τ)∧Arr Dm xs zs ρ∧Mv a b π ρ∧qb2 (fun x y=>decide (cmpF x y<0)) xs a b ρ):=by
 refine qac func189 rfl rfl (by simp[ntmps189]) (qab rfl _ _ _ _ ?_)
 simp only[ntmps189,results189,qak,List.length_nil]
 simp only[zS,seval]
 refine qcr (τ:=Nat×List D) (fun x=>[(0,.osl 0 0 n),(1,.d (.int .i64 a)),(2,.d (.int .i64 b)),(3,.fn fv caps),(8,.d (.int .i64 x.1))]) (fun x=>(.arr 3 x.2::τ))
  (fun x=>a+1≤x.1∧(x.1≤b∨x.1=a+1)∧∃ρ,Arr Dm xs x.2 ρ∧Mv a (min x.1 b) π ρ∧qb2 (fun x y=>decide (cmpF x y<0)) xs a (min x.1 b) ρ) (fun x=>b+1-x.1) (a+1,ys)
  ⟨by simp only;omega,.inr rfl,π,hA,Mv.refl _ _ _,fun p q h1 h2 h3=>by simp only at h3;omega⟩ ?_ ?_
 ·refine qbv ?_
  have e1:IntKind.i64.wrap ((a:Int)+1)=((a+1:Nat):Int):=by rw[qbh (by omega) (by omega)];omega
  simp only[zS,seval,e1]
 ·intro x hi
  obtain⟨i,us⟩:=x
  obtain⟨h1,h2,ρ,hU,hM,hS⟩:=hi
  simp only at h1 h2 hU hM hS
  simp only[zS,seval]
  refine ifC.mk (fun h=>?_) (fun h=>?_)
  ·have h:i<b:=by simpa using h
   have hmin:min i b=i:=by omega
   rw[hmin] at hM hS
   have hlU:=hU.len
   refine qcr (τ:=Nat×List D) (fun x=>[(0,.osl 0 0 n),(1,.d (.int .i64 a)),(2,.d (.int .i64 b)),(3,.fn fv caps),(8,.d (.int .i64 i)),(9,.d (.int .i64 x.1))]) (fun x=>(.arr 3 x.2::τ))
    (fun x=>a≤x.1∧∃κ,Arr Dm xs x.2 κ∧Qn4 xs (fun x y=>decide (cmpF x y<0)) i ρ x.1 κ) (fun x=>x.1) (i,us)
    ⟨by simp only;omega,ρ,hU,Nat.le_refl _,rfl,fun _ _=>rfl,fun p q1 q2=>by omega,fun _ _=>rfl,fun p q1 q2=>by omega⟩ ?_ ?_
   ·refine qbv ?_
    simp only[zS,seval]
   ·intro y hi
    obtain⟨j,vs⟩:=y
    obtain⟨k1,κ,hV,hK⟩:=hi
    simp only at k1 hV hK
    have hlV:=hV.len
    have k2:=hK.le
    have l1:=El.at hC.el hV.el (i:=j) (by omega)
    have c1:(j:Int)<(n:Int):=by omega
    have c3:j<vs.length:=by omega
    by_cases haj:a<j
    ·have haj':(a:Int)<(j:Int):=by omega
     have e1:IntKind.i64.wrap ((j:Int)-1)=((j-1:Nat):Int):=by rw[qbh (by omega) (by omega)];omega
     have l2:=El.at hC.el hV.el (i:=j-1) (by omega)
     have c2:((j-1:Nat):Int)<(n:Int):=by omega
     have c4:j-1<vs.length:=by omega
     simp only[zS,seval,e1,l1,l2,c1,c2,c3,c4,haj']
     refine⟨.inl (by kernel_rfl),q6q (v:=.d (.int .i64 (cmpF (vs.getD j default) (vs.getD (j-1) default)))) (fun _ s hs=>hC.call _ _ (hV.at (by omega)) (hV.at (by omega)) _ s hs) ?_⟩
     have g1:vs.getD j default=xs.getD (ρ i) default:=by rw[hV.get j (by omega),hK.at_]
     have g2:vs.getD (j-1) default=xs.getD (ρ (j-1)) default:=by rw[hV.get (j-1) (by omega),hK.left (j-1) (by omega)]
     simp only[zS,seval,e1,l1,l2,c1,c2,c3,c4,haj']
     refine ifC.mk (fun hc=>?_) (fun hc=>?_)
     ·have e2:IntKind.i64.wrap ((j:Int)-1)=((j-1:Nat):Int):=e1
      refine⟨.inl (by kernel_rfl),(j-1,_),⟨by simp only;omega,_,hV.swap (i:=j) (j:=j-1) (by omega) (by omega),Qdg hK (by omega) (.inl ?_)⟩,by simp only;omega,qbv ?_⟩
      ·simp only
       rw[←g1,←g2];exact hc
      ·simp only[zS,seval,e1]
     ·have hc:¬cmpF (vs.getD j default) (vs.getD (j-1) default)<0:=by simpa using hc
      have e3:IntKind.i64.wrap ((i:Int)+1)=((i+1:Nat):Int):=by rw[qbh (by omega) (by omega)];omega
      obtain⟨d1,d2⟩:=qw6 hC.swo hxs (by omega) hπ hM hS hK k1 (fun _=>by
       obtain⟨q,q1,q2,q3⟩:=hM.inn (j-1) (by omega) (by omega)
       refine(Lx.tag' ?_).2 (.inl ?_)
       ·rw[q3,hM.out i (by omega)];exact hr q i q1 q2 h
       ·rw[←g1,←g2];simpa using hc)
      refine⟨(i+1,vs),⟨by simp only;omega,.inl (by simp only;omega),κ,hV,?_,?_⟩,by simp only;omega,qbv ?_⟩
      ·simp only;rw[show min (i+1) b=i+1 from by omega];exact d1
      ·simp only;rw[show min (i+1) b=i+1 from by omega];exact d2
      ·simp only[zS,seval,e3]
    ·have haj':¬(a:Int)<(j:Int):=by omega
     simp only[zS,seval,l1,c1,c3,haj']
     refine⟨.inl (by kernel_rfl),q6q (v:=.d (.int .i64 0)) (fun hg=>by cases hg) ?_⟩
     have e3:IntKind.i64.wrap ((i:Int)+1)=((i+1:Nat):Int):=by rw[qbh (by omega) (by omega)];omega
     simp only[zS,seval,l1,c1,c3,haj']
     obtain⟨d1,d2⟩:=qw6 hC.swo hxs (by omega) hπ hM hS hK k1 (fun hh=>absurd hh haj)
     refine⟨(i+1,vs),⟨by simp only;omega,.inl (by simp only;omega),κ,hV,?_,?_⟩,by simp only;omega,qbv ?_⟩
     ·simp only;rw[show min (i+1) b=i+1 from by omega];exact d1
     ·simp only;rw[show min (i+1) b=i+1 from by omega];exact d2
     ·simp only[zS,seval,e3]
  ·have h:¬i<b:=by simpa using h
   have hmin:min i b=b:=by omega
   rw[hmin] at hM hS
   exact⟨_,_,qcz.refl _ _ _,rfl,us,ρ,rfl,hU,hM,hS⟩

theorem Qsx (x:Int):qk8 .shr .u64 x 1=.int .u64 (x.fdiv 2):=by
 simp[qk8,IntKind.bits]
theorem q2w (x:Nat) (h:x<1000000000):IntKind.u64.wrap (x:Int)=x:=by
 rw[IntKind.wrap_u64];omega
theorem half (x:Nat) (h:x<1000000000):((x:Int).fdiv 2)=((x / 2:Nat):Int):=by
 rw[Int.fdiv_eq_ediv_of_nonneg _ (by omega)];omega
theorem qu4 (x:Nat) (h:x<1000000000):IntKind.i64.wrap (x:Int)=x:=qbh (by omega) (by omega)
def Qc9 (τ:Sto) (Dm:D→Prop) (cmpF:D→D→Int) (xs:List D) (a b:Nat) (π:Nat→Nat) (r:AV) (s:Sto):Prop:=
 r=.tup []∧∃zs ρ,s=(.arr 3 zs::τ)∧Arr Dm xs zs ρ∧Mv a b π ρ∧qb2 (fun x y=>decide (cmpF x y<0)) xs a b ρ
theorem Qdv (Dm:D→Prop) (cmpF:D→D→Int) (fv:FuncId) (caps:List AV) (hC:q89 Gl τ Dm cmpF fv caps) (xs:List D) (hxs:∀y∈xs,Dm y) (n:Nat) (hn:n≤xs.length) (hN:n<1000000)
  (a m b:Nat) (ys:List D) (π:Nat→Nat) (hA:Arr Dm xs ys π) (hπ:∀p,p<xs.length→π p<xs.length) (ham:a<m) (hmb:m<b) (hbn:b≤n) (hS1:qb2 (fun x y=>decide (cmpF x y<0)) xs a m π) (hS2:qb2 (fun x y=>decide (cmpF x y<0)) xs m b π) (hT:Qqr a m b π)
  (hbase:m=a+1∨b=m+1) :
  qal prog Gl 190 [.osl 0 0 n,.d (.int .i64 a),.d (.int .i64 m),.d (.int .i64 b),.fn fv caps] (.arr 3 ys::τ) (Qc9 τ Dm cmpF xs a b π):=by
 refine qac func190 rfl rfl (by simp[ntmps190]) (qab rfl _ _ _ _ ?_)
 simp only[ntmps190,results190,qak,List.length_nil]
 have hlY:=hA.len
 have e1:IntKind.i64.wrap ((m:Int)-a)=((m-a:Nat):Int):=by rw[qbh (by omega) (by omega)];omega
 have e2:IntKind.i64.wrap ((b:Int)-m)=((b-m:Nat):Int):=by rw[qbh (by omega) (by omega)];omega
 by_cases hc1:m=a+1
 ·have e3:(((m-a:Nat):Int)==1)=true:=by simp;omega
  simp only[zS,seval,e1,e3]
  have ha1:(ys.getD a default)=xs.getD (π a) default:=hA.get a (by omega)
  have la:=El.at hC.el hA.el (i:=a) (by omega)
  refine qcr (τ:=Nat×Nat) (fun x=>[(0,.osl 0 0 n),(1,.d (.int .i64 a)),(2,.d (.int .i64 m)),(3,.d (.int .i64 b)),(4,.fn fv caps),(10,.d (.int .i64 x.1)),(11,.d (.int .i64 x.2))]) (fun x=>(.arr 3 ys::τ))
   (fun x=>m≤x.1∧x.1≤x.2∧x.2≤b∧(∀q,m≤q→q<x.1→Lx (fun x y=>decide (cmpF x y<0)) xs (π q) (π a))∧(∀q,x.2≤q→q<b→Lx (fun x y=>decide (cmpF x y<0)) xs (π a) (π q))) (fun x=>x.2-x.1) (m,b)
   ⟨Nat.le_refl _,by simp only;omega,Nat.le_refl _,fun q q1 q2=>by simp only at q2;omega,fun q q1 q2=>by simp only at q1;omega⟩ ?_ ?_
  ·refine qbv ?_
   simp only[zS,seval]
  ·intro x hi
   obtain⟨i,j⟩:=x
   obtain⟨h1,h2,h3,h4,h5⟩:=hi
   simp only at h1 h2 h3 h4 h5
   simp only[zS,seval]
   refine ifC.mk (fun h=>?_) (fun h=>?_)
   ·have h:i<j:=by simpa using h
    have g1:IntKind.i64.wrap ((i:Int)+j)=((i+j:Nat):Int):=by rw[qbh (by omega) (by omega)];omega
    have g2:IntKind.u64.wrap ((i+j:Nat):Int)=((i+j:Nat):Int):=q2w _ (by omega)
    have g3:((i+j:Nat):Int).fdiv 2=(((i+j) / 2:Nat):Int):=half _ (by omega)
    have g4:IntKind.i64.wrap (((i+j) / 2:Nat):Int)=(((i+j) / 2:Nat):Int):=qu4 _ (by omega)
    have hh:∃h,h=(i+j) / 2∧i≤h∧h<j:=⟨_,rfl,by omega,by omega⟩
    obtain⟨h',e5,e6,e7⟩:=hh
    rw[←e5] at g3 g4
    have lh:=El.at hC.el hA.el (i:=h') (by omega)
    have c1:(h':Int)<(n:Int):=by omega
    have c2:(a:Int)<(n:Int):=by omega
    have c3:h'<ys.length:=by omega
    have c4:a<ys.length:=by omega
    simp only[zS,seval,g1,g2,g3,g4,Qsx,la,lh,c1,c2,c3,c4]
    refine⟨.inl (by kernel_rfl),qhr (v:=.d (.int .i64 (cmpF (ys.getD h' default) (ys.getD a default)))) (fun s hs=>hC.call _ _ (hA.at (by omega)) (hA.at (by omega)) _ s hs) ?_⟩
    have f1:ys.getD h' default=xs.getD (π h') default:=hA.get h' (by omega)
    have ht:π a<π h':=hT a h' (Nat.le_refl _) (by omega) (by omega) (by omega)
    simp only[zS,seval]
    refine ifC.mk (fun hc=>?_) (fun hc=>?_)
    ·have hL:Lx (fun x y=>decide (cmpF x y<0)) xs (π h') (π a):=(Lx.tag ht).2 (by rw[←f1,←ha1];exact hc)
     have g5:IntKind.i64.wrap ((h':Int)+1)=((h'+1:Nat):Int):=by rw[qbh (by omega) (by omega)];omega
     simp only[zS,seval,g5]
     refine⟨(h'+1,j),⟨by simp only;omega,by simp only;omega,h3,q5m hC.swo hxs hπ (by omega) (hπ _ (by omega)) hS2 (by omega) (by omega) hL,h5⟩,by simp only;omega,qbv ?_⟩
     simp only[zS,seval]
    ·have hL:Lx (fun x y=>decide (cmpF x y<0)) xs (π a) (π h'):=(Lx.tag' ht).2 (.inl (by rw[←f1,←ha1];exact hc))
     refine⟨(i,h'),⟨h1,by simp only;omega,by simp only;omega,h4,Qhk hC.swo hxs hπ (by omega) (hπ _ (by omega)) hS2 (by omega) (by omega) hL⟩,by simp only;omega,qbv ?_⟩
     simp only[zS,seval]
   ·have h:¬i<j:=by simpa using h
    have hij:i=j:=by omega
    subst hij
    refine qcr (τ:=Nat×List D) (fun x=>[(0,.osl 0 0 n),(10,.d (.int .i64 i)),(13,.d (.int .i64 x.1))]) (fun x=>(.arr 3 x.2::τ))
     (fun x=>a≤x.1∧x.1≤i-1∧∃κ,Arr Dm xs x.2 κ∧(∀p,a≤p→p<x.1→κ p=π (p+1))∧κ x.1=π a∧(∀p,p<a∨x.1<p→κ p=π p)) (fun x=>i-x.1) (a,ys)
     ⟨Nat.le_refl _,by simp only;omega,π,hA,fun p q1 q2=>by simp only at q2;omega,rfl,fun p _=>rfl⟩ ?_ ?_
    ·refine qbv ?_
     simp only[zS,seval]
    ·intro x hi
     obtain⟨k,zs⟩:=x
     obtain⟨k1,k2,κ,hZ,q1,q2,q3⟩:=hi
     simp only at k1 k2 hZ q1 q2 q3
     have hlZ:=hZ.len
     have g6:IntKind.i64.wrap ((i:Int)-1)=((i-1:Nat):Int):=by rw[qbh (by omega) (by omega)];omega
     simp only[zS,seval,g6]
     refine ifC.mk (fun h=>?_) (fun h=>?_)
     ·have h:k<i-1:=by simp at h;omega
      have g7:IntKind.i64.wrap ((k:Int)+1)=((k+1:Nat):Int):=by rw[qbh (by omega) (by omega)];omega
      have l1:=El.at hC.el hZ.el (i:=k) (by omega)
      have l2:=El.at hC.el hZ.el (i:=k+1) (by omega)
      have c1:(k:Int)<(n:Int):=by omega
      have c2:((k+1:Nat):Int)<(n:Int):=by omega
      have c3:k<zs.length:=by omega
      have c4:k+1<zs.length:=by omega
      simp only[zS,seval,g7,l1,l2,c1,c2,c3,c4]
      refine⟨.inl (by kernel_rfl),(k+1,_),⟨by simp only;omega,by simp only;omega,_,hZ.swap (i:=k) (j:=k+1) (by omega) (by omega),fun p p1 p2=>?_,?_,fun p hp=>?_⟩,by simp only;omega,qbv ?_⟩
      ·simp only at p2
       rw[if_neg (by omega)]
       by_cases e:p=k
       ·rw[if_pos e,e];exact q3 _ (by omega)
       ·rw[if_neg e];exact q1 p p1 (by omega)
      ·simp only[if_true];exact q2
      ·simp only at hp
       rw[if_neg (by omega),if_neg (by omega)];exact q3 p (by omega)
      ·simp only[zS,seval,g7]
     ·have h:¬k<i-1:=by simp at h;omega
      have hk:k=i-1:=by omega
      subst hk
      obtain⟨d1,d2⟩:=qwf (by omega) h1 h3 hS2 h4 h5 q1 q2 (fun p hp=>q3 p (by omega))
      exact⟨_,_,qcz.refl _ _ _,rfl,zs,κ,rfl,hZ,d1,d2⟩
 ·have e3:(((m-a:Nat):Int)==1)=false:=by simp;omega
  by_cases hc2:b=m+1
  ·have e4:(((b-m:Nat):Int)==1)=true:=by simp;omega
   simp only[zS,seval,e1,e2,e3,e4]
   have hm1:(ys.getD m default)=xs.getD (π m) default:=hA.get m (by omega)
   have lm:=El.at hC.el hA.el (i:=m) (by omega)
   refine qcr (τ:=Nat×Nat) (fun x=>[(0,.osl 0 0 n),(1,.d (.int .i64 a)),(2,.d (.int .i64 m)),(3,.d (.int .i64 b)),(4,.fn fv caps),(14,.d (.int .i64 x.1)),(15,.d (.int .i64 x.2))]) (fun x=>(.arr 3 ys::τ))
    (fun x=>a≤x.1∧x.1≤x.2∧x.2≤m∧(∀q,a≤q→q<x.1→Lx (fun x y=>decide (cmpF x y<0)) xs (π q) (π m))∧(∀q,x.2≤q→q<m→Lx (fun x y=>decide (cmpF x y<0)) xs (π m) (π q))) (fun x=>x.2-x.1) (a,m)
    ⟨Nat.le_refl _,by simp only;omega,Nat.le_refl _,fun q q1 q2=>by simp only at q2;omega,fun q q1 q2=>by simp only at q1;omega⟩ ?_ ?_
   ·refine qbv ?_
    simp only[zS,seval]
   ·intro x hi
    obtain⟨i,j⟩:=x
    obtain⟨h1,h2,h3,h4,h5⟩:=hi
    simp only at h1 h2 h3 h4 h5
    simp only[zS,seval]
    refine ifC.mk (fun h=>?_) (fun h=>?_)
    ·have h:i<j:=by simpa using h
     have g1:IntKind.i64.wrap ((i:Int)+j)=((i+j:Nat):Int):=by rw[qbh (by omega) (by omega)];omega
     have g2:IntKind.u64.wrap ((i+j:Nat):Int)=((i+j:Nat):Int):=q2w _ (by omega)
     have g3:((i+j:Nat):Int).fdiv 2=(((i+j) / 2:Nat):Int):=half _ (by omega)
     have g4:IntKind.i64.wrap (((i+j) / 2:Nat):Int)=(((i+j) / 2:Nat):Int):=qu4 _ (by omega)
     have hh:∃h,h=(i+j) / 2∧i≤h∧h<j:=⟨_,rfl,by omega,by omega⟩
     obtain⟨h',e5,e6,e7⟩:=hh
     rw[←e5] at g3 g4
     have lh:=El.at hC.el hA.el (i:=h') (by omega)
     have c1:(h':Int)<(n:Int):=by omega
     have c2:(m:Int)<(n:Int):=by omega
     have c3:h'<ys.length:=by omega
     have c4:m<ys.length:=by omega
     simp only[zS,seval,g1,g2,g3,g4,Qsx,lm,lh,c1,c2,c3,c4]
     refine⟨.inl (by kernel_rfl),qhr (v:=.d (.int .i64 (cmpF (ys.getD m default) (ys.getD h' default)))) (fun s hs=>hC.call _ _ (hA.at (by omega)) (hA.at (by omega)) _ s hs) ?_⟩
     have f1:ys.getD h' default=xs.getD (π h') default:=hA.get h' (by omega)
     have ht:π h'<π m:=hT h' m (by omega) (by omega) (Nat.le_refl _) (by omega)
     simp only[zS,seval]
     refine ifC.mk (fun hc=>?_) (fun hc=>?_)
     ·have hL:Lx (fun x y=>decide (cmpF x y<0)) xs (π h') (π m):=(Lx.tag' ht).2 (.inl (by rw[←f1,←hm1];simpa using hc))
      have g5:IntKind.i64.wrap ((h':Int)+1)=((h'+1:Nat):Int):=by rw[qbh (by omega) (by omega)];omega
      simp only[zS,seval,g5]
      refine⟨(h'+1,j),⟨by simp only;omega,by simp only;omega,h3,q5m hC.swo hxs hπ (by omega) (hπ _ (by omega)) hS1 (by omega) (by omega) hL,h5⟩,by simp only;omega,qbv ?_⟩
      simp only[zS,seval]
     ·have hL:Lx (fun x y=>decide (cmpF x y<0)) xs (π m) (π h'):=(Lx.tag ht).2 (by rw[←f1,←hm1];simpa using hc)
      refine⟨(i,h'),⟨h1,by simp only;omega,by simp only;omega,h4,Qhk hC.swo hxs hπ (by omega) (hπ _ (by omega)) hS1 (by omega) (by omega) hL⟩,by simp only;omega,qbv ?_⟩
      simp only[zS,seval]
    ·have h:¬i<j:=by simpa using h
     have hij:i=j:=by omega
     subst hij
     refine qcr (τ:=Nat×List D) (fun x=>[(0,.osl 0 0 n),(14,.d (.int .i64 i)),(17,.d (.int .i64 x.1))]) (fun x=>(.arr 3 x.2::τ))
      (fun x=>i≤x.1∧x.1≤m∧∃κ,Arr Dm xs x.2 κ∧(∀p,x.1<p→p≤m→κ p=π (p-1))∧κ x.1=π m∧(∀p,p<x.1∨m<p→κ p=π p)) (fun x=>x.1) (m,ys)
      ⟨by simp only;omega,Nat.le_refl _,π,hA,fun p q1 q2=>by simp only at q1;omega,rfl,fun p _=>rfl⟩ ?_ ?_
     ·refine qbv ?_
      simp only[zS,seval]
     ·intro x hi
      obtain⟨k,zs⟩:=x
      obtain⟨k1,k2,κ,hZ,q1,q2,q3⟩:=hi
      simp only at k1 k2 hZ q1 q2 q3
      have hlZ:=hZ.len
      simp only[zS,seval]
      refine ifC.mk (fun h=>?_) (fun h=>?_)
      ·have h:i<k:=by simp at h;omega
       have g7:IntKind.i64.wrap ((k:Int)-1)=((k-1:Nat):Int):=by rw[qbh (by omega) (by omega)];omega
       have l1:=El.at hC.el hZ.el (i:=k) (by omega)
       have l2:=El.at hC.el hZ.el (i:=k-1) (by omega)
       have c1:(k:Int)<(n:Int):=by omega
       have c2:((k-1:Nat):Int)<(n:Int):=by omega
       have c3:k<zs.length:=by omega
       have c4:k-1<zs.length:=by omega
       simp only[zS,seval,g7,l1,l2,c1,c2,c3,c4]
       refine⟨.inl (by kernel_rfl),(k-1,_),⟨by simp only;omega,by simp only;omega,_,hZ.swap (i:=k) (j:=k-1) (by omega) (by omega),fun p p1 p2=>?_,?_,fun p hp=>?_⟩,by simp only;omega,qbv ?_⟩
       ·simp only at p1
        rw[if_neg (by omega)]
        by_cases e:p=k
        ·rw[if_pos e,e];exact q3 _ (by omega)
        ·rw[if_neg e];exact q1 p (by omega) p2
       ·simp only[if_true];exact q2
       ·simp only at hp
        rw[if_neg (by omega),if_neg (by omega)];exact q3 p (by omega)
       ·simp only[zS,seval,g7]
      ·have h:¬i<k:=by simp at h;omega
       have hk:k=i:=by omega
       subst hk
       obtain⟨d1,d2⟩:=qui hc2 h1 h3 hS1 h4 h5 q1 q2 q3
       exact⟨_,_,qcz.refl _ _ _,rfl,zs,κ,rfl,hZ,d1,d2⟩
  ·omega

set_option maxHeartbeats 4000000 in
set_option maxRecDepth 10000 in
theorem Qhl (Dm:D→Prop) (cmpF:D→D→Int) (fv:FuncId) (caps:List AV) (hC:q89 Gl τ Dm cmpF fv caps) (xs:List D) (hxs:∀y∈xs,Dm y) (n:Nat) (hn:n≤xs.length) (hN:n<1000000)
  (a m b:Nat) (ys:List D) (π:Nat→Nat) (hA:Arr Dm xs ys π) (hπ:∀p,p<xs.length→π p<xs.length) (ham:a<m) (hmb:m<b) (hbn:b≤n) (hS1:qb2 (fun x y=>decide (cmpF x y<0)) xs a m π) (hS2:qb2 (fun x y=>decide (cmpF x y<0)) xs m b π) (hT:Qqr a m b π)
  (hc1:¬m=a+1) (hc2:¬b=m+1)
  (ih:∀(a' m' b':Nat) (ys:List D) (π:Nat→Nat),b'-a'<b-a→Arr Dm xs ys π→(∀p,p<xs.length→π p<xs.length)→a'<m'→m'<b'→b'≤n→qb2 (fun x y=>decide (cmpF x y<0)) xs a' m' π→qb2 (fun x y=>decide (cmpF x y<0)) xs m' b' π→Qqr a' m' b' π →
   qal prog Gl 190 [.osl 0 0 n,.d (.int .i64 a'),.d (.int .i64 m'),.d (.int .i64 b'),.fn fv caps] (.arr 3 ys::τ) (Qc9 τ Dm cmpF xs a' b' π)) :
  qal prog Gl 190 [.osl 0 0 n,.d (.int .i64 a),.d (.int .i64 m),.d (.int .i64 b),.fn fv caps] (.arr 3 ys::τ) (Qc9 τ Dm cmpF xs a b π):=by
 refine qac func190 rfl rfl (by simp[ntmps190]) (qab rfl _ _ _ _ ?_)
 simp only[ntmps190,results190,qak,List.length_nil]
 have hlY:=hA.len
 have e1:IntKind.i64.wrap ((m:Int)-a)=((m-a:Nat):Int):=by rw[qbh (by omega) (by omega)];omega
 have e2:IntKind.i64.wrap ((b:Int)-m)=((b-m:Nat):Int):=by rw[qbh (by omega) (by omega)];omega
 have e3:(((m-a:Nat):Int)==1)=false:=by simp;omega
 have e4:(((b-m:Nat):Int)==1)=false:=by simp;omega
 have g1:IntKind.i64.wrap ((a:Int)+b)=((a+b:Nat):Int):=by rw[qbh (by omega) (by omega)];omega
 have g2:IntKind.u64.wrap ((a+b:Nat):Int)=((a+b:Nat):Int):=q2w _ (by omega)
 have g3:((a+b:Nat):Int).fdiv 2=(((a+b) / 2:Nat):Int):=half _ (by omega)
 have g4:IntKind.i64.wrap (((a+b) / 2:Nat):Int)=(((a+b) / 2:Nat):Int):=qu4 _ (by omega)
 obtain⟨d,e5,e6,e7⟩:∃d,d=(a+b) / 2∧a<d∧d<b:=⟨_,rfl,by omega,by omega⟩
 rw[←e5] at g3 g4
 have g5:IntKind.i64.wrap ((d:Int)+m)=((d+m:Nat):Int):=by rw[qbh (by omega) (by omega)];omega
 have g6:IntKind.i64.wrap (((d+m:Nat):Int)-1)=((d+m-1:Nat):Int):=by rw[qbh (by omega) (by omega)];omega
 obtain⟨s0,r0,key⟩:∃s0 r0:Nat,(d<m∧s0=d+m-b∧r0=d)∨(m≤d∧s0=a∧r0=m):=by
  by_cases c:d<m
  ·exact⟨_,_,.inl ⟨c,rfl,rfl⟩⟩
  ·exact⟨_,_,.inr ⟨by omega,rfl,rfl⟩⟩
 have c0:((d:Int)<m)∨¬((d:Int)<m):=by omega
 rcases key with⟨k1,k2,k3⟩|⟨k1,k2,k3⟩
 ·have c0:((d:Int)<m):=by omega
  have g7:IntKind.i64.wrap (((d+m:Nat):Int)-b)=((s0:Nat):Int):=by rw[qbh (by omega) (by omega)];omega
  simp only[zS,seval,e1,e2,e3,e4,g1,g2,g3,g4,g5,g6,g7,Qsx,c0]
  refine qcr (τ:=Nat×Nat) (fun x=>[(0,.osl 0 0 n),(1,.d (.int .i64 a)),(2,.d (.int .i64 m)),(3,.d (.int .i64 b)),(4,.fn fv caps),(18,.d (.int .i64 d)),(19,.d (.int .i64 (d+m:Nat))),(20,.d (.int .i64 x.1)),(21,.d (.int .i64 x.2)),(22,.d (.int .i64 (d+m-1:Nat)))]) (fun x=>(.arr 3 ys::τ))
   (fun x=>s0≤x.1∧x.1≤x.2∧x.2≤r0∧(s0<x.1→Lx (fun x y=>decide (cmpF x y<0)) xs (π (x.1-1)) (π (d+m-1-(x.1-1))))∧(x.2<r0→Lx (fun x y=>decide (cmpF x y<0)) xs (π (d+m-1-x.2)) (π x.2))) (fun x=>x.2-x.1) (s0,r0)
   ⟨Nat.le_refl _,by simp only;omega,Nat.le_refl _,fun h=>by simp only at h;omega,fun h=>by simp only at h;omega⟩ ?_ ?_
  ·refine qbv ?_
   simp only[zS,seval,k2,k3]
  ·intro x hi
   obtain⟨s,r⟩:=x
   obtain⟨h1,h2,h3,h4,h5⟩:=hi
   simp only at h1 h2 h3 h4 h5
   by_cases hsr:s<r
   ·have q0:((s:Int)<r):=by omega
    have q1:IntKind.i64.wrap ((s:Int)+r)=((s+r:Nat):Int):=by rw[qbh (by omega) (by omega)];omega
    have q2:IntKind.u64.wrap ((s+r:Nat):Int)=((s+r:Nat):Int):=q2w _ (by omega)
    have q3:((s+r:Nat):Int).fdiv 2=(((s+r) / 2:Nat):Int):=half _ (by omega)
    have q4:IntKind.i64.wrap (((s+r) / 2:Nat):Int)=(((s+r) / 2:Nat):Int):=qu4 _ (by omega)
    obtain⟨c,e8,e9,e10⟩:∃c,c=(s+r) / 2∧s≤c∧c<r:=⟨_,rfl,by omega,by omega⟩
    rw[←e8] at q3 q4
    have q5:IntKind.i64.wrap (((d+m-1:Nat):Int)-c)=((d+m-1-c:Nat):Int):=by rw[qbh (by omega) (by omega)];omega
    have lc:=El.at hC.el hA.el (i:=c) (by omega)
    have lp:=El.at hC.el hA.el (i:=d+m-1-c) (by omega)
    have c1:(c:Int)<(n:Int):=by omega
    have c2:((d+m-1-c:Nat):Int)<(n:Int):=by omega
    have c3:c<ys.length:=by omega
    have c4:d+m-1-c<ys.length:=by omega
    simp only[zS,seval,q0,q1,q2,q3,q4,q5,Qsx,lc,lp,c1,c2,c3,c4]
    refine⟨.inl (by kernel_rfl),qhr (v:=.d (.int .i64 (cmpF (ys.getD (d+m-1-c) default) (ys.getD c default)))) (fun s hs=>hC.call _ _ (hA.at (by omega)) (hA.at (by omega)) _ s hs) ?_⟩
    have f1:ys.getD c default=xs.getD (π c) default:=hA.get c (by omega)
    have f2:ys.getD (d+m-1-c) default=xs.getD (π (d+m-1-c)) default:=hA.get _ (by omega)
    have ht:π c<π (d+m-1-c):=hT _ _ (by omega) (by omega) (by omega) (by omega)
    simp only[zS,seval]
    refine ifC.mk (fun hc=>?_) (fun hc=>?_)
    ·have hL:Lx (fun x y=>decide (cmpF x y<0)) xs (π c) (π (d+m-1-c)):=(Lx.tag' ht).2 (.inl (by rw[←f1,←f2];simpa using hc))
     have q6:IntKind.i64.wrap ((c:Int)+1)=((c+1:Nat):Int):=by rw[qbh (by omega) (by omega)];omega
     simp only[zS,seval,q6]
     refine⟨(c+1,r),⟨by simp only;omega,by simp only;omega,h3,fun _=>by simp only;exact hL,h5⟩,by simp only;omega,qbv ?_⟩
     simp only[zS,seval]
    ·have hL:Lx (fun x y=>decide (cmpF x y<0)) xs (π (d+m-1-c)) (π c):=(Lx.tag ht).2 (by rw[←f1,←f2];simpa using hc)
     refine⟨(s,c),⟨h1,by simp only;omega,by simp only;omega,h4,fun _=>hL⟩,by simp only;omega,qbv ?_⟩
     simp only[zS,seval]
   ·have hs:s=r:=by omega
    subst hs
    have q0:¬((s:Int)<s):=by omega
    have q1:IntKind.i64.wrap (((d+m:Nat):Int)-s)=((d+m-s:Nat):Int):=by rw[qbh (by omega) (by omega)];omega
    obtain⟨e,he⟩:∃e,e=d+m-s:=⟨_,rfl⟩
    rw[←he] at q1
    obtain⟨F1,F2⟩:=quj (p:=d+m-1) (s:=s) (s0:=s0) (r0:=r0) (e:=e) hC.swo hxs hπ (by omega) hS1 hS2 (by omega) h1 h3 (by omega) (by omega) (by omega) (by omega) (by omega) (by omega) (by omega) h4 h5 (by omega) (by omega)
    obtain⟨ρ,hρ⟩:∃ρ:Nat→Nat,ρ=fun p=>π (qos s m e p):=⟨_,rfl⟩
    obtain⟨t1,t2,t3,t4,t5,t6,t7,t8⟩:=qzw (ρ:=ρ) (s:=s) (e:=e) (d:=d) (by omega) (by omega) (by omega) (by omega) (by omega) hS1 hS2 hT F1 F2 (fun p _ _=>by rw[hρ]) (fun p hp=>by rw[hρ];show π (qos s m e p)=π p;congr 1;unfold qos;rw[if_pos (by omega)])
    by_cases hrot:s<m∧m<e
    ·have c1:((s:Int)<m):=by omega
     have c2:((m:Int)<e):=by omega
     simp only[zS,seval,q0,q1,c1,c2]
     refine qa1 ((qr2 Dm hC.el ys n s m e fv caps hA.el (by omega) hN hrot.1 hrot.2 (by omega)).mono fun r' s' h=>?_)
     obtain⟨rfl,zs,rfl,hB⟩:=h
     have hZ:Arr Dm xs zs ρ:=by rw[hρ];exact hA.trans hB fun p hp=>Qga (by omega) (by omega) (by omega) hp
     have hρπ:=t1.bound (by omega) hπ
     simp only[zS,seval]
     by_cases hm1:a<s∧s<d
     ·have c1:((a:Int)<s):=by omega
      have c2:((s:Int)<d):=by omega
      simp only[zS,seval,c1,c2]
      refine qa1 ((ih a s d zs ρ (by omega) hZ hρπ hm1.1 hm1.2 (by omega) t2 t3 t6).mono fun r s' h=>?_)
      obtain⟨rfl,ws,κ1,rfl,hW,m1,s1⟩:=h
      have hκ1:=m1.bound (by omega) hρπ
      simp only[zS,seval]
      by_cases hm2:d<e∧e<b
      ·have c3:((d:Int)<e):=by omega
       have c4:((e:Int)<b):=by omega
       simp only[zS,seval,c3,c4]
       refine qa1 ((ih d e b ws κ1 (by omega) hW hκ1 hm2.1 hm2.2 hbn (fun p q q1 q2 q3=>by rw[m1.out p (by omega),m1.out q (by omega)];exact t4 p q q1 q2 q3) (fun p q q1 q2 q3=>by rw[m1.out p (by omega),m1.out q (by omega)];exact t5 p q q1 q2 q3) (fun p q q1 q2 q3 q4=>by rw[m1.out p (by omega),m1.out q (by omega)];exact t7 p q q1 q2 q3 q4)).mono fun r s' h=>?_)
       obtain⟨rfl,vs,κ2,rfl,hV,m2,s2⟩:=h
       obtain⟨f1,f2⟩:=qcl (by omega) (by omega) t1 m1 s1 m2 s2 t8
       simp only[zS,seval]
       exact⟨_,_,qcz.refl _ _ _,rfl,vs,κ2,rfl,hV,f1,f2⟩
      ·have c3:(decide ((d:Int)<e)&&decide ((e:Int)<b))=false:=by
        simp only[Bool.and_eq_false_iff,decide_eq_false_iff_not]
        omega
       have s2:qb2 (fun x y=>decide (cmpF x y<0)) xs d b κ1:=fun p q q1 q2 q3=>by
        rw[m1.out p (by omega),m1.out q (by omega)]
        by_cases he:e=d
        ·exact t5 p q (by omega) q2 q3
        ·exact t4 p q q1 q2 (by omega)
       obtain⟨f1,f2⟩:=qcl (by omega) (by omega) t1 m1 s1 (Mv.refl d b κ1) s2 t8
       simp only[zS,seval,c3]
       exact⟨_,_,qcz.refl _ _ _,rfl,ws,κ1,rfl,hW,f1,f2⟩
     ·have c1:(decide ((a:Int)<s)&&decide ((s:Int)<d))=false:=by
       simp only[Bool.and_eq_false_iff,decide_eq_false_iff_not]
       omega
      have s1:qb2 (fun x y=>decide (cmpF x y<0)) xs a d ρ:=fun p q q1 q2 q3=>by
       by_cases he:s=a
       ·exact t3 p q (by omega) q2 q3
       ·exact t2 p q q1 q2 (by omega)
      obtain⟨ws,κ1,hW,m1,hκ1,ew,ek⟩:∃ws κ1,Arr Dm xs ws κ1∧Mv a d ρ κ1∧(∀p,p<xs.length→κ1 p<xs.length)∧ws=zs∧κ1=ρ:=⟨zs,ρ,hZ,Mv.refl _ _ _,hρπ,rfl,rfl⟩
      rw[←ek] at s1
      simp only[zS,seval,c1]
      rw[←ew]
      by_cases hm2:d<e∧e<b
      ·have c3:((d:Int)<e):=by omega
       have c4:((e:Int)<b):=by omega
       simp only[zS,seval,c3,c4]
       refine qa1 ((ih d e b ws κ1 (by omega) hW hκ1 hm2.1 hm2.2 hbn (fun p q q1 q2 q3=>by rw[m1.out p (by omega),m1.out q (by omega)];exact t4 p q q1 q2 q3) (fun p q q1 q2 q3=>by rw[m1.out p (by omega),m1.out q (by omega)];exact t5 p q q1 q2 q3) (fun p q q1 q2 q3 q4=>by rw[m1.out p (by omega),m1.out q (by omega)];exact t7 p q q1 q2 q3 q4)).mono fun r s' h=>?_)
       obtain⟨rfl,vs,κ2,rfl,hV,m2,s2⟩:=h
       obtain⟨f1,f2⟩:=qcl (by omega) (by omega) t1 m1 s1 m2 s2 t8
       simp only[zS,seval]
       exact⟨_,_,qcz.refl _ _ _,rfl,vs,κ2,rfl,hV,f1,f2⟩
      ·have c3:(decide ((d:Int)<e)&&decide ((e:Int)<b))=false:=by
        simp only[Bool.and_eq_false_iff,decide_eq_false_iff_not]
        omega
       have s2:qb2 (fun x y=>decide (cmpF x y<0)) xs d b κ1:=fun p q q1 q2 q3=>by
        rw[m1.out p (by omega),m1.out q (by omega)]
        by_cases he:e=d
        ·exact t5 p q (by omega) q2 q3
        ·exact t4 p q q1 q2 (by omega)
       obtain⟨f1,f2⟩:=qcl (by omega) (by omega) t1 m1 s1 (Mv.refl d b κ1) s2 t8
       simp only[zS,seval,c3]
       exact⟨_,_,qcz.refl _ _ _,rfl,ws,κ1,rfl,hW,f1,f2⟩
    ·have c1:(decide ((s:Int)<m)&&decide ((m:Int)<e))=false:=by
      simp only[Bool.and_eq_false_iff,decide_eq_false_iff_not]
      omega
     obtain⟨zs,hzs⟩:∃zs,zs=ys:=⟨_,rfl⟩
     have hZ:Arr Dm xs zs ρ:=by
      rw[hρ,hzs]
      refine hA.congr fun p hp=>?_
      congr 1
      unfold qos
      repeat' split
      all_goals omega
     have hρπ:=t1.bound (by omega) hπ
     rw[←hzs]
     simp only[zS,seval,q0,q1,c1]
     by_cases hm1:a<s∧s<d
     ·have c1:((a:Int)<s):=by omega
      have c2:((s:Int)<d):=by omega
      simp only[zS,seval,c1,c2]
      refine qa1 ((ih a s d zs ρ (by omega) hZ hρπ hm1.1 hm1.2 (by omega) t2 t3 t6).mono fun r s' h=>?_)
      obtain⟨rfl,ws,κ1,rfl,hW,m1,s1⟩:=h
      have hκ1:=m1.bound (by omega) hρπ
      simp only[zS,seval]
      by_cases hm2:d<e∧e<b
      ·have c3:((d:Int)<e):=by omega
       have c4:((e:Int)<b):=by omega
       simp only[zS,seval,c3,c4]
       refine qa1 ((ih d e b ws κ1 (by omega) hW hκ1 hm2.1 hm2.2 hbn (fun p q q1 q2 q3=>by rw[m1.out p (by omega),m1.out q (by omega)];exact t4 p q q1 q2 q3) (fun p q q1 q2 q3=>by rw[m1.out p (by omega),m1.out q (by omega)];exact t5 p q q1 q2 q3) (fun p q q1 q2 q3 q4=>by rw[m1.out p (by omega),m1.out q (by omega)];exact t7 p q q1 q2 q3 q4)).mono fun r s' h=>?_)
       obtain⟨rfl,vs,κ2,rfl,hV,m2,s2⟩:=h
       obtain⟨f1,f2⟩:=qcl (by omega) (by omega) t1 m1 s1 m2 s2 t8
       simp only[zS,seval]
       exact⟨_,_,qcz.refl _ _ _,rfl,vs,κ2,rfl,hV,f1,f2⟩
      ·have c3:(decide ((d:Int)<e)&&decide ((e:Int)<b))=false:=by
        simp only[Bool.and_eq_false_iff,decide_eq_false_iff_not]
        omega
       have s2:qb2 (fun x y=>decide (cmpF x y<0)) xs d b κ1:=fun p q q1 q2 q3=>by
        rw[m1.out p (by omega),m1.out q (by omega)]
        by_cases he:e=d
        ·exact t5 p q (by omega) q2 q3
        ·exact t4 p q q1 q2 (by omega)
       obtain⟨f1,f2⟩:=qcl (by omega) (by omega) t1 m1 s1 (Mv.refl d b κ1) s2 t8
       simp only[zS,seval,c3]
       exact⟨_,_,qcz.refl _ _ _,rfl,ws,κ1,rfl,hW,f1,f2⟩
     ·have c1:(decide ((a:Int)<s)&&decide ((s:Int)<d))=false:=by
       simp only[Bool.and_eq_false_iff,decide_eq_false_iff_not]
       omega
      have s1:qb2 (fun x y=>decide (cmpF x y<0)) xs a d ρ:=fun p q q1 q2 q3=>by
       by_cases he:s=a
       ·exact t3 p q (by omega) q2 q3
       ·exact t2 p q q1 q2 (by omega)
      obtain⟨ws,κ1,hW,m1,hκ1,ew,ek⟩:∃ws κ1,Arr Dm xs ws κ1∧Mv a d ρ κ1∧(∀p,p<xs.length→κ1 p<xs.length)∧ws=zs∧κ1=ρ:=⟨zs,ρ,hZ,Mv.refl _ _ _,hρπ,rfl,rfl⟩
      rw[←ek] at s1
      simp only[zS,seval,c1]
      rw[←ew]
      by_cases hm2:d<e∧e<b
      ·have c3:((d:Int)<e):=by omega
       have c4:((e:Int)<b):=by omega
       simp only[zS,seval,c3,c4]
       refine qa1 ((ih d e b ws κ1 (by omega) hW hκ1 hm2.1 hm2.2 hbn (fun p q q1 q2 q3=>by rw[m1.out p (by omega),m1.out q (by omega)];exact t4 p q q1 q2 q3) (fun p q q1 q2 q3=>by rw[m1.out p (by omega),m1.out q (by omega)];exact t5 p q q1 q2 q3) (fun p q q1 q2 q3 q4=>by rw[m1.out p (by omega),m1.out q (by omega)];exact t7 p q q1 q2 q3 q4)).mono fun r s' h=>?_)
       obtain⟨rfl,vs,κ2,rfl,hV,m2,s2⟩:=h
       obtain⟨f1,f2⟩:=qcl (by omega) (by omega) t1 m1 s1 m2 s2 t8
       simp only[zS,seval]
       exact⟨_,_,qcz.refl _ _ _,rfl,vs,κ2,rfl,hV,f1,f2⟩
      ·have c3:(decide ((d:Int)<e)&&decide ((e:Int)<b))=false:=by
        simp only[Bool.and_eq_false_iff,decide_eq_false_iff_not]
        omega
       have s2:qb2 (fun x y=>decide (cmpF x y<0)) xs d b κ1:=fun p q q1 q2 q3=>by
        rw[m1.out p (by omega),m1.out q (by omega)]
        by_cases he:e=d
        ·exact t5 p q (by omega) q2 q3
        ·exact t4 p q q1 q2 (by omega)
       obtain⟨f1,f2⟩:=qcl (by omega) (by omega) t1 m1 s1 (Mv.refl d b κ1) s2 t8
       simp only[zS,seval,c3]
       exact⟨_,_,qcz.refl _ _ _,rfl,ws,κ1,rfl,hW,f1,f2⟩
 ·have c0:¬((d:Int)<m):=by omega
  have g7:True:=trivial
  simp only[zS,seval,e1,e2,e3,e4,g1,g2,g3,g4,g5,g6,g7,Qsx,c0]
  refine qcr (τ:=Nat×Nat) (fun x=>[(0,.osl 0 0 n),(1,.d (.int .i64 a)),(2,.d (.int .i64 m)),(3,.d (.int .i64 b)),(4,.fn fv caps),(18,.d (.int .i64 d)),(19,.d (.int .i64 (d+m:Nat))),(20,.d (.int .i64 x.1)),(21,.d (.int .i64 x.2)),(22,.d (.int .i64 (d+m-1:Nat)))]) (fun x=>(.arr 3 ys::τ))
   (fun x=>s0≤x.1∧x.1≤x.2∧x.2≤r0∧(s0<x.1→Lx (fun x y=>decide (cmpF x y<0)) xs (π (x.1-1)) (π (d+m-1-(x.1-1))))∧(x.2<r0→Lx (fun x y=>decide (cmpF x y<0)) xs (π (d+m-1-x.2)) (π x.2))) (fun x=>x.2-x.1) (s0,r0)
   ⟨Nat.le_refl _,by simp only;omega,Nat.le_refl _,fun h=>by simp only at h;omega,fun h=>by simp only at h;omega⟩ ?_ ?_
  ·refine qbv ?_
   simp only[zS,seval,k2,k3]
  ·intro x hi
   obtain⟨s,r⟩:=x
   obtain⟨h1,h2,h3,h4,h5⟩:=hi
   simp only at h1 h2 h3 h4 h5
   by_cases hsr:s<r
   ·have q0:((s:Int)<r):=by omega
    have q1:IntKind.i64.wrap ((s:Int)+r)=((s+r:Nat):Int):=by rw[qbh (by omega) (by omega)];omega
    have q2:IntKind.u64.wrap ((s+r:Nat):Int)=((s+r:Nat):Int):=q2w _ (by omega)
    have q3:((s+r:Nat):Int).fdiv 2=(((s+r) / 2:Nat):Int):=half _ (by omega)
    have q4:IntKind.i64.wrap (((s+r) / 2:Nat):Int)=(((s+r) / 2:Nat):Int):=qu4 _ (by omega)
    obtain⟨c,e8,e9,e10⟩:∃c,c=(s+r) / 2∧s≤c∧c<r:=⟨_,rfl,by omega,by omega⟩
    rw[←e8] at q3 q4
    have q5:IntKind.i64.wrap (((d+m-1:Nat):Int)-c)=((d+m-1-c:Nat):Int):=by rw[qbh (by omega) (by omega)];omega
    have lc:=El.at hC.el hA.el (i:=c) (by omega)
    have lp:=El.at hC.el hA.el (i:=d+m-1-c) (by omega)
    have c1:(c:Int)<(n:Int):=by omega
    have c2:((d+m-1-c:Nat):Int)<(n:Int):=by omega
    have c3:c<ys.length:=by omega
    have c4:d+m-1-c<ys.length:=by omega
    simp only[zS,seval,q0,q1,q2,q3,q4,q5,Qsx,lc,lp,c1,c2,c3,c4]
    refine⟨.inl (by kernel_rfl),qhr (v:=.d (.int .i64 (cmpF (ys.getD (d+m-1-c) default) (ys.getD c default)))) (fun s hs=>hC.call _ _ (hA.at (by omega)) (hA.at (by omega)) _ s hs) ?_⟩
    have f1:ys.getD c default=xs.getD (π c) default:=hA.get c (by omega)
    have f2:ys.getD (d+m-1-c) default=xs.getD (π (d+m-1-c)) default:=hA.get _ (by omega)
    have ht:π c<π (d+m-1-c):=hT _ _ (by omega) (by omega) (by omega) (by omega)
    simp only[zS,seval]
    refine ifC.mk (fun hc=>?_) (fun hc=>?_)
    ·have hL:Lx (fun x y=>decide (cmpF x y<0)) xs (π c) (π (d+m-1-c)):=(Lx.tag' ht).2 (.inl (by rw[←f1,←f2];simpa using hc))
     have q6:IntKind.i64.wrap ((c:Int)+1)=((c+1:Nat):Int):=by rw[qbh (by omega) (by omega)];omega
     simp only[zS,seval,q6]
     refine⟨(c+1,r),⟨by simp only;omega,by simp only;omega,h3,fun _=>by simp only;exact hL,h5⟩,by simp only;omega,qbv ?_⟩
     simp only[zS,seval]
    ·have hL:Lx (fun x y=>decide (cmpF x y<0)) xs (π (d+m-1-c)) (π c):=(Lx.tag ht).2 (by rw[←f1,←f2];simpa using hc)
     refine⟨(s,c),⟨h1,by simp only;omega,by simp only;omega,h4,fun _=>hL⟩,by simp only;omega,qbv ?_⟩
     simp only[zS,seval]
   ·have hs:s=r:=by omega
    subst hs
    have q0:¬((s:Int)<s):=by omega
    have q1:IntKind.i64.wrap (((d+m:Nat):Int)-s)=((d+m-s:Nat):Int):=by rw[qbh (by omega) (by omega)];omega
    obtain⟨e,he⟩:∃e,e=d+m-s:=⟨_,rfl⟩
    rw[←he] at q1
    obtain⟨F1,F2⟩:=quj (p:=d+m-1) (s:=s) (s0:=s0) (r0:=r0) (e:=e) hC.swo hxs hπ (by omega) hS1 hS2 (by omega) h1 h3 (by omega) (by omega) (by omega) (by omega) (by omega) (by omega) (by omega) h4 h5 (by omega) (by omega)
    obtain⟨ρ,hρ⟩:∃ρ:Nat→Nat,ρ=fun p=>π (qos s m e p):=⟨_,rfl⟩
    obtain⟨t1,t2,t3,t4,t5,t6,t7,t8⟩:=qzw (ρ:=ρ) (s:=s) (e:=e) (d:=d) (by omega) (by omega) (by omega) (by omega) (by omega) hS1 hS2 hT F1 F2 (fun p _ _=>by rw[hρ]) (fun p hp=>by rw[hρ];show π (qos s m e p)=π p;congr 1;unfold qos;rw[if_pos (by omega)])
    by_cases hrot:s<m∧m<e
    ·have c1:((s:Int)<m):=by omega
     have c2:((m:Int)<e):=by omega
     simp only[zS,seval,q0,q1,c1,c2]
     refine qa1 ((qr2 Dm hC.el ys n s m e fv caps hA.el (by omega) hN hrot.1 hrot.2 (by omega)).mono fun r' s' h=>?_)
     obtain⟨rfl,zs,rfl,hB⟩:=h
     have hZ:Arr Dm xs zs ρ:=by rw[hρ];exact hA.trans hB fun p hp=>Qga (by omega) (by omega) (by omega) hp
     have hρπ:=t1.bound (by omega) hπ
     simp only[zS,seval]
     by_cases hm1:a<s∧s<d
     ·have c1:((a:Int)<s):=by omega
      have c2:((s:Int)<d):=by omega
      simp only[zS,seval,c1,c2]
      refine qa1 ((ih a s d zs ρ (by omega) hZ hρπ hm1.1 hm1.2 (by omega) t2 t3 t6).mono fun r s' h=>?_)
      obtain⟨rfl,ws,κ1,rfl,hW,m1,s1⟩:=h
      have hκ1:=m1.bound (by omega) hρπ
      simp only[zS,seval]
      by_cases hm2:d<e∧e<b
      ·have c3:((d:Int)<e):=by omega
       have c4:((e:Int)<b):=by omega
       simp only[zS,seval,c3,c4]
       refine qa1 ((ih d e b ws κ1 (by omega) hW hκ1 hm2.1 hm2.2 hbn (fun p q q1 q2 q3=>by rw[m1.out p (by omega),m1.out q (by omega)];exact t4 p q q1 q2 q3) (fun p q q1 q2 q3=>by rw[m1.out p (by omega),m1.out q (by omega)];exact t5 p q q1 q2 q3) (fun p q q1 q2 q3 q4=>by rw[m1.out p (by omega),m1.out q (by omega)];exact t7 p q q1 q2 q3 q4)).mono fun r s' h=>?_)
       obtain⟨rfl,vs,κ2,rfl,hV,m2,s2⟩:=h
       obtain⟨f1,f2⟩:=qcl (by omega) (by omega) t1 m1 s1 m2 s2 t8
       simp only[zS,seval]
       exact⟨_,_,qcz.refl _ _ _,rfl,vs,κ2,rfl,hV,f1,f2⟩
      ·have c3:(decide ((d:Int)<e)&&decide ((e:Int)<b))=false:=by
        simp only[Bool.and_eq_false_iff,decide_eq_false_iff_not]
        omega
       have s2:qb2 (fun x y=>decide (cmpF x y<0)) xs d b κ1:=fun p q q1 q2 q3=>by
        rw[m1.out p (by omega),m1.out q (by omega)]
        by_cases he:e=d
        ·exact t5 p q (by omega) q2 q3
        ·exact t4 p q q1 q2 (by omega)
       obtain⟨f1,f2⟩:=qcl (by omega) (by omega) t1 m1 s1 (Mv.refl d b κ1) s2 t8
       simp only[zS,seval,c3]
       exact⟨_,_,qcz.refl _ _ _,rfl,ws,κ1,rfl,hW,f1,f2⟩
     ·have c1:(decide ((a:Int)<s)&&decide ((s:Int)<d))=false:=by
       simp only[Bool.and_eq_false_iff,decide_eq_false_iff_not]
       omega
      have s1:qb2 (fun x y=>decide (cmpF x y<0)) xs a d ρ:=fun p q q1 q2 q3=>by
       by_cases he:s=a
       ·exact t3 p q (by omega) q2 q3
       ·exact t2 p q q1 q2 (by omega)
      obtain⟨ws,κ1,hW,m1,hκ1,ew,ek⟩:∃ws κ1,Arr Dm xs ws κ1∧Mv a d ρ κ1∧(∀p,p<xs.length→κ1 p<xs.length)∧ws=zs∧κ1=ρ:=⟨zs,ρ,hZ,Mv.refl _ _ _,hρπ,rfl,rfl⟩
      rw[←ek] at s1
      simp only[zS,seval,c1]
      rw[←ew]
      by_cases hm2:d<e∧e<b
      ·have c3:((d:Int)<e):=by omega
       have c4:((e:Int)<b):=by omega
       simp only[zS,seval,c3,c4]
       refine qa1 ((ih d e b ws κ1 (by omega) hW hκ1 hm2.1 hm2.2 hbn (fun p q q1 q2 q3=>by rw[m1.out p (by omega),m1.out q (by omega)];exact t4 p q q1 q2 q3) (fun p q q1 q2 q3=>by rw[m1.out p (by omega),m1.out q (by omega)];exact t5 p q q1 q2 q3) (fun p q q1 q2 q3 q4=>by rw[m1.out p (by omega),m1.out q (by omega)];exact t7 p q q1 q2 q3 q4)).mono fun r s' h=>?_)
       obtain⟨rfl,vs,κ2,rfl,hV,m2,s2⟩:=h
       obtain⟨f1,f2⟩:=qcl (by omega) (by omega) t1 m1 s1 m2 s2 t8
       simp only[zS,seval]
       exact⟨_,_,qcz.refl _ _ _,rfl,vs,κ2,rfl,hV,f1,f2⟩
      ·have c3:(decide ((d:Int)<e)&&decide ((e:Int)<b))=false:=by
        simp only[Bool.and_eq_false_iff,decide_eq_false_iff_not]
        omega
       have s2:qb2 (fun x y=>decide (cmpF x y<0)) xs d b κ1:=fun p q q1 q2 q3=>by
        rw[m1.out p (by omega),m1.out q (by omega)]
        by_cases he:e=d
        ·exact t5 p q (by omega) q2 q3
        ·exact t4 p q q1 q2 (by omega)
       obtain⟨f1,f2⟩:=qcl (by omega) (by omega) t1 m1 s1 (Mv.refl d b κ1) s2 t8
       simp only[zS,seval,c3]
       exact⟨_,_,qcz.refl _ _ _,rfl,ws,κ1,rfl,hW,f1,f2⟩
    ·have c1:(decide ((s:Int)<m)&&decide ((m:Int)<e))=false:=by
      simp only[Bool.and_eq_false_iff,decide_eq_false_iff_not]
      omega
     obtain⟨zs,hzs⟩:∃zs,zs=ys:=⟨_,rfl⟩
     have hZ:Arr Dm xs zs ρ:=by
      rw[hρ,hzs]
      refine hA.congr fun p hp=>?_
      congr 1
      unfold qos
      repeat' split
      all_goals omega
     have hρπ:=t1.bound (by omega) hπ
     rw[←hzs]
     simp only[zS,seval,q0,q1,c1]
     by_cases hm1:a<s∧s<d
     ·have c1:((a:Int)<s):=by omega
      have c2:((s:Int)<d):=by omega
      simp only[zS,seval,c1,c2]
      refine qa1 ((ih a s d zs ρ (by omega) hZ hρπ hm1.1 hm1.2 (by omega) t2 t3 t6).mono fun r s' h=>?_)
      obtain⟨rfl,ws,κ1,rfl,hW,m1,s1⟩:=h
      have hκ1:=m1.bound (by omega) hρπ
      simp only[zS,seval]
      by_cases hm2:d<e∧e<b
      ·have c3:((d:Int)<e):=by omega
       have c4:((e:Int)<b):=by omega
       simp only[zS,seval,c3,c4]
       refine qa1 ((ih d e b ws κ1 (by omega) hW hκ1 hm2.1 hm2.2 hbn (fun p q q1 q2 q3=>by rw[m1.out p (by omega),m1.out q (by omega)];exact t4 p q q1 q2 q3) (fun p q q1 q2 q3=>by rw[m1.out p (by omega),m1.out q (by omega)];exact t5 p q q1 q2 q3) (fun p q q1 q2 q3 q4=>by rw[m1.out p (by omega),m1.out q (by omega)];exact t7 p q q1 q2 q3 q4)).mono fun r s' h=>?_)
       obtain⟨rfl,vs,κ2,rfl,hV,m2,s2⟩:=h
       obtain⟨f1,f2⟩:=qcl (by omega) (by omega) t1 m1 s1 m2 s2 t8
       simp only[zS,seval]
       exact⟨_,_,qcz.refl _ _ _,rfl,vs,κ2,rfl,hV,f1,f2⟩
      ·have c3:(decide ((d:Int)<e)&&decide ((e:Int)<b))=false:=by
        simp only[Bool.and_eq_false_iff,decide_eq_false_iff_not]
        omega
       have s2:qb2 (fun x y=>decide (cmpF x y<0)) xs d b κ1:=fun p q q1 q2 q3=>by
        rw[m1.out p (by omega),m1.out q (by omega)]
        by_cases he:e=d
        ·exact t5 p q (by omega) q2 q3
        ·exact t4 p q q1 q2 (by omega)
       obtain⟨f1,f2⟩:=qcl (by omega) (by omega) t1 m1 s1 (Mv.refl d b κ1) s2 t8
       simp only[zS,seval,c3]
       exact⟨_,_,qcz.refl _ _ _,rfl,ws,κ1,rfl,hW,f1,f2⟩
     ·have c1:(decide ((a:Int)<s)&&decide ((s:Int)<d))=false:=by
       simp only[Bool.and_eq_false_iff,decide_eq_false_iff_not]
       omega
      have s1:qb2 (fun x y=>decide (cmpF x y<0)) xs a d ρ:=fun p q q1 q2 q3=>by
       by_cases he:s=a
       ·exact t3 p q (by omega) q2 q3
       ·exact t2 p q q1 q2 (by omega)
      obtain⟨ws,κ1,hW,m1,hκ1,ew,ek⟩:∃ws κ1,Arr Dm xs ws κ1∧Mv a d ρ κ1∧(∀p,p<xs.length→κ1 p<xs.length)∧ws=zs∧κ1=ρ:=⟨zs,ρ,hZ,Mv.refl _ _ _,hρπ,rfl,rfl⟩
      rw[←ek] at s1
      simp only[zS,seval,c1]
      rw[←ew]
      by_cases hm2:d<e∧e<b
      ·have c3:((d:Int)<e):=by omega
       have c4:((e:Int)<b):=by omega
       simp only[zS,seval,c3,c4]
       refine qa1 ((ih d e b ws κ1 (by omega) hW hκ1 hm2.1 hm2.2 hbn (fun p q q1 q2 q3=>by rw[m1.out p (by omega),m1.out q (by omega)];exact t4 p q q1 q2 q3) (fun p q q1 q2 q3=>by rw[m1.out p (by omega),m1.out q (by omega)];exact t5 p q q1 q2 q3) (fun p q q1 q2 q3 q4=>by rw[m1.out p (by omega),m1.out q (by omega)];exact t7 p q q1 q2 q3 q4)).mono fun r s' h=>?_)
       obtain⟨rfl,vs,κ2,rfl,hV,m2,s2⟩:=h
       obtain⟨f1,f2⟩:=qcl (by omega) (by omega) t1 m1 s1 m2 s2 t8
       simp only[zS,seval]
       exact⟨_,_,qcz.refl _ _ _,rfl,vs,κ2,rfl,hV,f1,f2⟩
      ·have c3:(decide ((d:Int)<e)&&decide ((e:Int)<b))=false:=by
        simp only[Bool.and_eq_false_iff,decide_eq_false_iff_not]
        omega
       have s2:qb2 (fun x y=>decide (cmpF x y<0)) xs d b κ1:=fun p q q1 q2 q3=>by
        rw[m1.out p (by omega),m1.out q (by omega)]
        by_cases he:e=d
        ·exact t5 p q (by omega) q2 q3
        ·exact t4 p q q1 q2 (by omega)
       obtain⟨f1,f2⟩:=qcl (by omega) (by omega) t1 m1 s1 (Mv.refl d b κ1) s2 t8
       simp only[zS,seval,c3]
       exact⟨_,_,qcz.refl _ _ _,rfl,ws,κ1,rfl,hW,f1,f2⟩

theorem qzy (Dm:D→Prop) (cmpF:D→D→Int) (fv:FuncId) (caps:List AV) (hC:q89 Gl τ Dm cmpF fv caps) (xs:List D) (hxs:∀y∈xs,Dm y) (n:Nat) (hn:n≤xs.length) (hN:n<1000000) :
  ∀(N a m b:Nat) (ys:List D) (π:Nat→Nat),b-a≤N→Arr Dm xs ys π→(∀p,p<xs.length→π p<xs.length)→a<m→m<b→b≤n→qb2 (fun x y=>decide (cmpF x y<0)) xs a m π→qb2 (fun x y=>decide (cmpF x y<0)) xs m b π→Qqr a m b π →
   qal prog Gl 190 [.osl 0 0 n,.d (.int .i64 a),.d (.int .i64 m),.d (.int .i64 b),.fn fv caps] (.arr 3 ys::τ) (Qc9 τ Dm cmpF xs a b π):=by
 intro N
 induction N with
 | zero=>intro a m b ys π h1 _ _ h2 h3;omega
 | succ N ih=>
  intro a m b ys π h1 hA hπ ham hmb hbn hS1 hS2 hT
  by_cases hb:m=a+1∨b=m+1
  ·exact Qdv Dm cmpF fv caps hC xs hxs n hn hN a m b ys π hA hπ ham hmb hbn hS1 hS2 hT hb
  ·exact Qhl Dm cmpF fv caps hC xs hxs n hn hN a m b ys π hA hπ ham hmb hbn hS1 hS2 hT (by omega) (by omega) fun a' m' b' ys' π' q1=>ih a' m' b' ys' π' (by omega)
def Qkt (τ:Sto) (Dm:D→Prop) (cmpF:D→D→Int) (xs:List D) (n:Nat) (s:Sto):Prop:=
 ∃zs ρ,s=(.arr 3 zs::τ)∧Arr Dm xs zs ρ∧Blo (fun x y=>decide (cmpF x y<0)) xs 0 n ρ∧(∀p,n≤p→ρ p=p)
theorem q65 (Dm:D→Prop) (cmpF:D→D→Int) (fv:FuncId) (caps:List AV) (hC:q89 Gl τ Dm cmpF fv caps) (xs:List D) (hxs:∀y∈xs,Dm y) (n:Nat) (hn:n≤xs.length) (hN:n<1000000) :
  qal prog Gl 145 [.osl 0 0 n,.d (.int .i64 n),.fn fv caps] (.arr 3 xs::τ) (fun r s=>r=.tup []∧Qkt τ Dm cmpF xs n s):=by
 refine qac func145 rfl rfl (by simp[ntmps145]) (qab rfl _ _ _ _ ?_)
 simp only[ntmps145,results145,qak,List.length_nil]
 simp only[zS,seval]
 refine qcr (τ:=Nat×List D) (fun x=>[(0,.osl 0 0 n),(1,.d (.int .i64 n)),(2,.fn fv caps),(6,.d (.int .i64 20)),(7,.d (.int .i64 x.1)),(8,.d (.int .i64 (x.1+20:Nat)))]) (fun x=>(.arr 3 x.2::τ))
  (fun x=>Cut 20 x.1∧x.1≤n∧∃ρ,Arr Dm xs x.2 ρ∧q6w (fun x y=>decide (cmpF x y<0)) xs 20 n 0 x.1 ρ∧(∀p,x.1≤p→ρ p=p)∧(∀p,p<xs.length→ρ p<xs.length)) (fun x=>n-x.1) (0,xs)
  ⟨Cut.zero _,Nat.zero_le _,fun i=>i,Arr.refl hxs,fun c _ h1 h2=>by simp only at h2;omega,fun _ _=>rfl,fun _ h=>h⟩ ?_ ?_
 ·refine qbv ?_
  simp only[zS,seval]
  all_goals rfl
 ·intro x hi
  obtain⟨a,ys⟩:=x
  obtain⟨h1,h2,ρ,hA,hB,hid,hbd⟩:=hi
  simp only at h1 h2 hA hB hid
  have hl:=hA.len
  by_cases h:a+20≤n
  ·have c1:((a+20:Nat):Int)≤n:=by omega
   simp only[zS,seval,c1]
   refine qa1 ((qk9 Dm cmpF fv caps hC xs ys hxs n a (a+20) ρ hA hbd hn hN (by omega) h (fun p q p1 p2 p3=>by rw[hid p p1,hid q (by omega)];exact p2)).mono fun r s h=>?_)
   obtain⟨rfl,zs,κ,rfl,hZ,hM,hS⟩:=h
   obtain⟨b1,b2⟩:=q6u (n:=n) (by omega) h1 (show a+20=min (a+20) n by omega) hB hid hM hS
   have e1:IntKind.i64.wrap (((a+20:Nat):Int)+20)=((a+20+20:Nat):Int):=by rw[qbh (by omega) (by omega)];omega
   simp only[zS,seval,e1]
   refine⟨(a+20,zs),⟨h1.next,h,κ,hZ,qnn h1 b1 (Nat.le_refl _),fun p hp=>b2 p hp (by simp only at hp;omega),hM.bound (by omega) hbd⟩,by simp only;omega,qbv ?_⟩
   simp only[zS,seval]
  ·have c1:¬((a+20:Nat):Int)≤n:=by omega
   simp only[zS,seval,c1]
   refine qa1 ((qk9 Dm cmpF fv caps hC xs ys hxs n a n ρ hA hbd hn hN h2 (Nat.le_refl _) (fun p q p1 p2 p3=>by rw[hid p p1,hid q (by omega)];exact p2)).mono fun r s h=>?_)
   obtain⟨rfl,us,κ,rfl,hU,hM,hS⟩:=h
   obtain⟨b1,b2⟩:=q6u (n:=n) (by omega) h1 (show n=min (a+20) n by omega) hB hid hM hS
   have hbd:=hM.bound (by omega) hbd
   have b3:=qnn (a':=n) h1 b1 (by omega)
   have b2:∀p,n≤p→κ p=p:=fun p hp=>b2 p hp (by omega)
   clear hB hid hA
   simp only[zS,seval]
   refine qcr (τ:=Nat×List D) (fun x=>[(0,.osl 0 0 n),(1,.d (.int .i64 n)),(2,.fn fv caps),(6,.d (.int .i64 x.1))]) (fun x=>(.arr 3 x.2::τ))
    (fun x=>0<x.1∧(x.1≤20∨x.1<2*n)∧∃ρ,Arr Dm xs x.2 ρ∧q6w (fun x y=>decide (cmpF x y<0)) xs x.1 n 0 n ρ∧(∀p,n≤p→ρ p=p)∧(∀p,p<xs.length→ρ p<xs.length)) (fun x=>n-x.1) (20,us)
    ⟨by simp only;omega,.inl (Nat.le_refl _),κ,hU,b3,b2,hbd⟩ ?_ ?_
   ·refine qbv ?_
    simp only[zS,seval]
    all_goals rfl
   ·clear b1 b2 b3 hU hbd hM hS
    intro x hi
    obtain⟨s,ys⟩:=x
    obtain⟨h3,h4,ρ,hA,hB,hid,hbd⟩:=hi
    simp only at h3 h4 hA hB
    have hl:=hA.len
    by_cases h:s<n
    ·have c1:(s:Int)<n:=by omega
     have e1:IntKind.i64.wrap (2*(s:Int))=((2*s:Nat):Int):=by rw[qbh (by omega) (by omega)];omega
     simp only[zS,seval,c1,e1]
     refine qcr (τ:=Nat×List D) (fun x=>[(0,.osl 0 0 n),(1,.d (.int .i64 n)),(2,.fn fv caps),(6,.d (.int .i64 s)),(7,.d (.int .i64 x.1)),(8,.d (.int .i64 (x.1+2*s:Nat)))]) (fun x=>(.arr 3 x.2::τ))
      (fun x=>Cut (2*s) x.1∧x.1≤n∧∃ρ,Arr Dm xs x.2 ρ∧q6w (fun x y=>decide (cmpF x y<0)) xs s n x.1 n ρ∧q6w (fun x y=>decide (cmpF x y<0)) xs (2*s) n 0 x.1 ρ∧(∀p,n≤p→ρ p=p)∧(∀p,p<xs.length→ρ p<xs.length)) (fun x=>n-x.1) (0,ys)
      ⟨Cut.zero _,Nat.zero_le _,ρ,hA,hB,fun c _ h1 h2=>by simp only at h2;omega,hid,hbd⟩ ?_ ?_
     ·refine qbv ?_
      simp only[zS,seval]
      all_goals rfl
     ·clear hA hB hid hbd hl
      intro x hi
      obtain⟨a,ys⟩:=x
      obtain⟨h5,h6,ρ,hA,hB,hD,hid,hbd⟩:=hi
      simp only at h5 h6 hA hB hD
      have hl:=hA.len
      have e2:IntKind.i64.wrap ((a:Int)+s)=((a+s:Nat):Int):=by rw[qbh (by omega) (by omega)];omega
      by_cases h:a+2*s≤n
      ·have c1:((a+2*s:Nat):Int)≤n:=by omega
       have hb:a+2*s=min (a+2*s) n:=by omega
       obtain⟨m1,m2,m3,m4⟩:=quh (b:=a+2*s) h5 h3 (by omega) hb hB
       simp only[zS,seval,c1,e2]
       refine qa1 ((qzy Dm cmpF fv caps hC xs hxs n hn hN _ a (a+s) (a+2*s) ys ρ (Nat.le_refl _) hA hbd (by omega) (by omega) h m1 m2 m3).mono fun r st hh=>?_)
       obtain⟨rfl,zs,κ,rfl,hZ,hM,hS⟩:=hh
       obtain⟨q1,q2⟩:=qzx h5 h3 (by omega) hb hB hD hM hS
       have e3:IntKind.i64.wrap (((a+2*s:Nat):Int)+((2*s:Nat):Int))=((a+2*s+2*s:Nat):Int):=by rw[qbh (by omega) (by omega)];omega
       simp only[zS,seval,e1,e3]
       refine⟨(a+2*s,zs),⟨h5.next,h,κ,hZ,q1,qnn h5 q2 (Nat.le_refl _),fun p hp=>by rw[hM.out p (by omega)];exact hid p hp,hM.bound (by omega) hbd⟩,by simp only;omega,qbv ?_⟩
       simp only[zS,seval]
      ·have c1:¬((a+2*s:Nat):Int)≤n:=by omega
       by_cases hm:a+s<n
       ·have c2:((a+s:Nat):Int)<n:=by omega
        have hb:n=min (a+2*s) n:=by omega
        obtain⟨m1,m2,m3,m4⟩:=quh (b:=n) h5 h3 (by omega) hb hB
        simp only[zS,seval,c1,c2,e2]
        refine qa1 ((qzy Dm cmpF fv caps hC xs hxs n hn hN _ a (a+s) n ys ρ (Nat.le_refl _) hA hbd (by omega) (by omega) (Nat.le_refl _) m1 m2 m3).mono fun r st hh=>?_)
        obtain⟨rfl,zs,κ,rfl,hZ,hM,hS⟩:=hh
        obtain⟨q1,q2⟩:=qzx h5 h3 (by omega) hb hB hD hM hS
        have e3:IntKind.i64.wrap ((s:Int)*2)=((2*s:Nat):Int):=by rw[qbh (by omega) (by omega)];omega
        simp only[zS,seval,e3]
        refine⟨(2*s,zs),⟨by simp only;omega,.inr (by simp only;omega),κ,hZ,qnn h5 q2 (by omega),fun p hp=>by rw[hM.out p (by omega)];exact hid p hp,hM.bound (by omega) hbd⟩,by simp only;omega,qbv ?_⟩
        simp only[zS,seval]
       ·have c2:¬((a+s:Nat):Int)<n:=by omega
        have e3:IntKind.i64.wrap ((s:Int)*2)=((2*s:Nat):Int):=by rw[qbh (by omega) (by omega)];omega
        simp only[zS,seval,c1,c2,e2,e3]
        refine⟨(2*s,ys),⟨by simp only;omega,.inr (by simp only;omega),ρ,hA,q7l h5 h3 (by omega) hB hD,hid,hbd⟩,by simp only;omega,qbv ?_⟩
        simp only[zS,seval]
    ·have c1:¬(s:Int)<n:=by omega
     simp only[zS,seval,c1]
     exact⟨_,_,qcz.refl _ _ _,rfl,ys,ρ,rfl,hA,Qkf (by omega) hB,hid⟩
theorem qry (Dm:D→Prop) (cmpF:D→D→Int) (fv:FuncId) (caps:List AV) (hC:q89 Gl τ Dm cmpF fv caps) (xs:List D) (hxs:∀y∈xs,Dm y) (n:Nat) (hn:n≤xs.length) (hN:n<1000000) :
  qal prog Gl 85 [.osl 0 0 n,.fn fv caps] (.arr 3 xs::τ) (fun r s=>r=.tup []∧Qkt τ Dm cmpF xs n s):=by
 refine qac func85 rfl rfl (by simp[ntmps85]) (qab rfl _ _ _ _ ?_)
 simp only[ntmps85,results85,qak,List.length_nil]
 simp only[zS,seval]
 refine qa1 ((q65 Dm cmpF fv caps hC xs hxs n hn hN).mono fun r s h=>?_)
 obtain⟨rfl,h⟩:=h
 simp only[zS,seval]
 exact⟨_,_,qcz.refl _ _ _,rfl,h⟩
end YtljpopkonkanlaaGreatDoor
end Go.Proofs

set_option maxRecDepth 100000
namespace Go.Proofs
open Go.AM Tryz
namespace YtljpopkonkanlaaGreatDoor
variable {Gl:qbd}
structure qao where
 what:List UInt8
 prefix_:List UInt8
 action:List UInt8
deriving DecidableEq,Inhabited
def qao.toD (x:qao):D:=.agg [.str x.what,.str x.prefix_,.str x.action]
theorem qq7 (x:qao):x.toD.isAgg=true:=rfl
theorem qq8 (x:qao):x.toD.cells=[.str x.what,.str x.prefix_,.str x.action]:=rfl
theorem zR:type_of% (aI @zA (aI @qq7 @qq8)):=aI @zA (aI @qq7 @qq8)
def qau:List UInt8:=[116,104,114,101,97,100]
def qa6:List UInt8:=[115,108,105,99,101]
def qa7:List UInt8:=[102,114,97,109,101]
def qat:List UInt8:=[99,111,117,110,116,101,114]
def qhx:List UInt8:=[107,101,101,112]
def q68:List UInt8:=[104,105,100,101]
def qv9:List UInt8:=[100,114,111,112]
def qfx:List UInt8:=[104,105,100,100,101,110,45]
def Qd0 (s:List UInt8):Bool:=s==qau||s==qa6||s==qa7||s==qat
theorem Qp6 (s:List UInt8):qba prog Gl 30 [.d (.str s)] (.d (.bool (Qd0 s))):=by
 refine qba.of1 ?_
 refine qac func30 rfl rfl (by simp[ntmps30]) (qab rfl _ _ _ _ ?_)
 simp only[ntmps30,results30,qak,List.length_nil]
 simp only[zR,seval]
 repeat((with_reducible apply aI);exact sdp)
 refine⟨_,_,qap,?_,rfl⟩
 rfl
theorem Qru (s:List UInt8):qba prog Gl 32 [.d (.str s)] (.d (.bool (Qd0 s))):=by
 refine qba.of1 ?_
 refine qac func32 rfl rfl (by simp[ntmps32]) (qab rfl _ _ _ _ ?_)
 simp only[ntmps32,results32,qak,List.length_nil]
 simp only[zR,seval]
 repeat((with_reducible apply aI);exact sdp)
 refine⟨_,_,qap,?_,rfl⟩
 rfl
def q2e (s p:List UInt8):Bool:=decide (p.length≤s.length)&&(s.take p.length==p)
theorem Qxc (s p:List UInt8):qba prog Gl 60 [.d (.str s),.d (.str p)] (.d (.bool (q2e s p))):=by
 refine qba.of2 ?_
 refine qac func60 rfl rfl (by simp[ntmps60]) (qab rfl _ _ _ _ ?_)
 simp only[ntmps60,results60,qak,List.length_nil]
 simp only[zR,seval]
 by_cases h:p.length≤s.length
 ·have e1:decide ((p.length:Int)≤(s.length:Int))=true:=decide_eq_true (by omega)
  simp only[zR,seval,e1]
  repeat((with_reducible apply aI);exact sdp)
  refine⟨_,_,qap,?_,rfl⟩
  rw[q2e,decide_eq_true h]
  try rfl
 ·have e1:decide ((p.length:Int)≤(s.length:Int))=false:=decide_eq_false (by omega)
  simp only[zR,seval,e1]
  repeat((with_reducible apply aI);exact sdp)
  refine⟨_,_,qap,?_,rfl⟩
  rw[q2e,decide_eq_false h]
  try rfl
theorem qu0 (s p:List UInt8):qba prog Gl 34 [.d (.str s),.d (.str p)] (.d (.bool (q2e s p))):=by
 refine qba.of2 ?_
 refine qac func34 rfl rfl (by simp[ntmps34]) (qab rfl _ _ _ _ ?_)
 simp only[ntmps34,results34,qak,List.length_nil]
 simp only[zR,seval]
 refine qad (Qxc s p) ?_
 simp only[zR,seval]
 exact⟨_,_,qcz.refl _ _ _,rfl,rfl⟩
theorem Qb5 (s p:List UInt8):qba prog Gl 35 [.d (.str s),.d (.str p)] (.d (.bool (q2e s p))):=by
 refine qba.of2 ?_
 refine qac func35 rfl rfl (by simp[ntmps35]) (qab rfl _ _ _ _ ?_)
 simp only[ntmps35,results35,qak,List.length_nil]
 simp only[zR,seval]
 by_cases h:p.length≤s.length
 ·have e1:decide ((p.length:Int)≤(s.length:Int))=true:=decide_eq_true (by omega)
  simp only[zR,seval,e1]
  repeat((with_reducible apply aI);exact sdp)
  refine⟨_,_,qap,?_,rfl⟩
  rw[q2e,decide_eq_true h]
  try rfl
 ·have e1:decide ((p.length:Int)≤(s.length:Int))=false:=decide_eq_false (by omega)
  simp only[zR,seval,e1]
  repeat((with_reducible apply aI);exact sdp)
  refine⟨_,_,qap,?_,rfl⟩
  rw[q2e,decide_eq_false h]
  try rfl
theorem qh7 {f:Nat→Int} {k:Nat} (h:qa5 f k=0):qa5 f (k+1)=f k:=by
 by_cases e:f k=0
 ·rw[qa4 h e,e]
 ·rw[qbu h e (show k<k+1 by omega)]
def Qnv (r:qao):Bool:=!Qd0 r.what||((!r.action==qhx)&&(!r.action==q68)&&(!r.action==qv9))
def ql6 (r:qao):Int:=if Qnv r=true then 1 else if r.prefix_=[] then 0 else qc3 r.prefix_
def qht (l:List qao):Int:=if 40<l.length then 7 else qa5 (fun i=>ql6 (l.getD i default)) l.length
theorem q79 (l:List qao) (hl:l.length<1000000):qba prog Gl 11 [.d (.sl (l.map qao.toD))] (.d (.int .i64 (qht l))):=by
 refine qba.of1 ?_
 refine qac func11 rfl rfl (by simp[ntmps11]) (qab rfl _ _ _ _ ?_)
 simp only[ntmps11,results11,qak,List.length_nil]
 simp only[zR,seval]
 repeat((with_reducible apply aI);exact sdp)
 refine ifC.mk (fun h0=>?_) (fun h0=>?_)
 ·refine⟨_,_,qap,?_,rfl⟩
  rw[qht,if_pos (by simp at h0;omega)]
 have h0:¬40<l.length:=by simp at h0;omega
 repeat((with_reducible apply aI);exact sdp)
 refine qan l.length (fun k=>[(9,.d (.sl (l.map qao.toD))),(10,.d (.int .i64 l.length)),(11,.d (.int .i64 k))]) (fun _=>[]) (fun k=>qa5 (fun i=>ql6 (l.getD i default)) k=0) rfl ?_ ?_
 ·refine qaa [] [] rfl List.nodup_nil ?_ rfl
  simp only[zR,seval]
  all_goals rfl
 ·intro k hi hk
  by_cases h:k<l.length
  ·have hs:=qh7 hi
   obtain⟨r,hr⟩:∃r,r=l.getD k default:=⟨_,rfl⟩
   have hg:(List.map qao.toD l).getD k default=r.toD:=by rw[hr];simp[h]
   have hend:∀e,ql6 r=e→e≠0→qht l=e:=fun e e1 e2=>by
    rw[qht,if_neg h0,qbu hi (by rw[←hr,e1];exact e2) h,←hr,e1]
   simp only[←hr] at hs
   simp only[zR,seval,(show(k:Int)<l.length by omega),h,hg]
   repeat((with_reducible apply aI);exact sdp)
   refine qad (Qp6 _) ?_
   simp only[zR,seval]
   repeat((with_reducible apply aI);exact sdp)
   refine ifC.mk (fun h2=>?_) (fun h2=>?_)
   ·have h2:Qnv r=true:=h2
    refine⟨_,_,qap,?_,rfl⟩
    rw[hend 1 (by rw[ql6,if_pos h2]) (by decide)]
   ·have h2:Qnv r=false:=h2
    have e0:ql6 r=if r.prefix_=[] then 0 else qc3 r.prefix_:=by rw[ql6,h2,if_neg (by simp)]
    refine ifC.mk (fun h3=>?_) (fun h3=>?_)
    ·have h3:¬r.prefix_=[]:=by simpa using h3
     rw[if_neg h3] at e0
     repeat((with_reducible apply aI);exact sdp)
     refine qad (qz7 _) ?_
     simp only[zR,seval]
     repeat((with_reducible apply aI);exact sdp)
     refine ifC.mk (fun h4=>?_) (fun h4=>?_)
     ·have h4:qc3 r.prefix_≠0:=by simpa using h4
      refine⟨_,_,qap,?_,rfl⟩
      rw[hend _ e0 h4]
     ·have h4:qc3 r.prefix_=0:=by simpa using h4
      refine⟨by rw[hs,e0,h4],?_⟩
      refine qaa [] [] rfl List.nodup_nil ?_ rfl
      simp only[zR,seval,@qaf ((k:Int)+1) (by omega)]
      all_goals rfl
    ·have h3:r.prefix_=[]:=by simpa using h3
     rw[if_pos h3] at e0
     refine⟨by rw[hs,e0],?_⟩
     refine qaa [] [] rfl List.nodup_nil ?_ rfl
     simp only[zR,seval,@qaf ((k:Int)+1) (by omega)]
     all_goals rfl
  ·simp only[zR,seval,(show ¬(k:Int)<l.length by omega)]
   have:k=l.length:=by omega
   subst this
   refine⟨_,_,qap,?_,rfl⟩
   rw[qht,if_neg h0,hi]
theorem Ql3 (s:List UInt8):qc3 s=0∨qc3 s=3:=by
 rw[qc3];by_cases h:qg3 s=true
 ·exact .inl (if_pos h)
 ·exact .inr (if_neg h)
theorem Qu9 (l:List qao) (hl:l.length<1000000):qba prog Gl 12 [.d (.sl (l.map qao.toD))] (.d (.int .i64 (qht l))):=by
 refine qba.of1 ?_
 refine qac func12 rfl rfl (by simp[ntmps12]) (qab rfl _ _ _ _ ?_)
 simp only[ntmps12,results12,qak,List.length_nil]
 simp only[zR,seval]
 repeat((with_reducible apply aI);exact sdp)
 refine ifC.mk (fun h0=>?_) (fun h0=>?_)
 ·refine⟨_,_,qap,?_,rfl⟩
  rw[qht,if_pos (by simp at h0;omega)]
 have h0:¬40<l.length:=by simp at h0;omega
 repeat((with_reducible apply aI);exact sdp)
 refine qan l.length (fun k=>[(0,.d (.sl (l.map qao.toD))),(3,.d (.int .i64 k))]) (fun _=>[]) (fun k=>qa5 (fun i=>ql6 (l.getD i default)) k=0) rfl ?_ ?_
 ·refine qaa [] [] rfl List.nodup_nil ?_ rfl
  simp only[zR,seval]
  all_goals rfl
 ·intro k hi hk
  by_cases h:k<l.length
  ·have hs:=qh7 hi
   obtain⟨r,hr⟩:∃r,r=l.getD k default:=⟨_,rfl⟩
   have hg:(List.map qao.toD l).getD k default=r.toD:=by rw[hr];simp[h]
   have hend:∀e,ql6 r=e→e≠0→qht l=e:=fun e e1 e2=>by
    rw[qht,if_neg h0,qbu hi (by rw[←hr,e1];exact e2) h,←hr,e1]
   simp only[←hr] at hs
   simp only[zR,seval,(show(k:Int)<l.length by omega),h,hg]
   repeat((with_reducible apply aI);exact sdp)
   refine qad (Qru _) ?_
   simp only[zR,seval,(show(k:Int)<l.length by omega),h,hg]
   repeat((with_reducible apply aI);exact sdp)
   refine ifC.mk (fun h2=>?_) (fun h2=>?_)
   ·have h2:Qnv r=true:=h2
    refine⟨_,_,qap,?_,rfl⟩
    rw[hend 1 (by rw[ql6,if_pos h2]) (by decide)]
   ·have h2:Qnv r=false:=h2
    have e0:ql6 r=if r.prefix_=[] then 0 else qc3 r.prefix_:=by rw[ql6,h2,if_neg (by simp)]
    (try simp only[zR,seval])
    repeat((with_reducible apply aI);exact sdp)
    refine qay (fun _=>qux _) ?_
    simp only[zR,seval]
    repeat((with_reducible apply aI);exact sdp)
    refine ifC.mk (fun h3=>?_) (fun h3=>?_)
    ·have h3:¬r.prefix_=[]∧qc3 r.prefix_≠0:=by simpa using h3
     rw[if_neg h3.1] at e0
     have e3:qc3 r.prefix_=3:=(Ql3 _).resolve_left h3.2
     refine⟨_,_,qap,?_,rfl⟩
     rw[hend 3 (by rw[e0,e3]) (by decide)]
    ·have h3:r.prefix_=[]∨qc3 r.prefix_=0:=by
      by_cases hp:r.prefix_=[]
      ·exact .inl hp
      ·exact .inr (by simpa[hp] using h3)
     have e1:ql6 r=0:=by
      rw[e0];by_cases hp:r.prefix_=[]
      ·rw[if_pos hp]
      ·rw[if_neg hp,h3.resolve_left hp]
     refine⟨by rw[hs,e1],?_⟩
     refine qaa [] [] rfl List.nodup_nil ?_ rfl
     simp only[zR,seval,@qaf ((k:Int)+1) (by omega)]
     all_goals rfl
  ·simp only[zR,seval,(show ¬(k:Int)<l.length by omega)]
   have:k=l.length:=by omega
   subst this
   refine⟨_,_,qap,?_,rfl⟩
   rw[qht,if_neg h0,hi]
def Qel (what name:List UInt8) (r:qao):Bool:=(r.what==what)&&q2e name r.prefix_
def qns (what name:List UInt8):List qao→List UInt8
 | []=>qhx
 | r::l=>if Qel what name r=true then r.action else qns what name l
theorem q88 {what name:List UInt8}:∀{l:List qao} {k:Nat},k<l.length→(l.take k).any (Qel what name)=false→Qel what name (l.getD k default)=true→qns what name l=(l.getD k default).action
 | r::l,0,_,_,h=>by rw[qns,if_pos (by simpa using h)];rfl
 | r::l,k+1,hk,h0,h=>by
  rw[List.take_succ_cons,List.any_cons,Bool.or_eq_false_iff] at h0
  rw[qns,if_neg (by rw[h0.1];simp),q88 (by simpa using hk) h0.2 (by simpa using h)]
  simp
theorem qvz {what name:List UInt8}:∀{l:List qao},l.any (Qel what name)=false→qns what name l=qhx
 | [],_=>rfl
 | r::l,h=>by
  rw[List.any_cons,Bool.or_eq_false_iff] at h
  rw[qns,if_neg (by rw[h.1];simp),qvz h.2]
theorem qgu (l:List qao) (what name:List UInt8) (hl:l.length<1000000):qba prog Gl 13 [.d (.sl (l.map qao.toD)),.d (.str what),.d (.str name)] (.d (.str (qns what name l))):=by
 refine qba.of3 ?_
 refine qac func13 rfl rfl (by simp[ntmps13]) (qab rfl _ _ _ _ ?_)
 simp only[ntmps13,results13,qak,List.length_nil]
 simp only[zR,seval]
 repeat((with_reducible apply aI);exact sdp)
 refine qan l.length (fun k=>[(1,.d (.str what)),(2,.d (.str name)),(9,.d (.sl (l.map qao.toD))),(10,.d (.int .i64 l.length)),(11,.d (.int .i64 k))]) (fun _=>[]) (fun k=>(l.take k).any (Qel what name)=false) rfl ?_ ?_
 ·refine qaa [] [] rfl List.nodup_nil ?_ rfl
  simp only[zR,seval]
  all_goals rfl
 ·intro k hi hk
  by_cases h:k<l.length
  ·have hs:=qca (Qel what name) l k h
   obtain⟨r,hr⟩:∃r,r=l.getD k default:=⟨_,rfl⟩
   have hg:(List.map qao.toD l).getD k default=r.toD:=by rw[hr];simp[h]
   rw[←hr,hi,Bool.false_or] at hs
   simp only[zR,seval,(show(k:Int)<l.length by omega),h,hg]
   repeat((with_reducible apply aI);exact sdp)
   refine qay (fun _=>qu0 _ _) ?_
   simp only[zR,seval]
   repeat((with_reducible apply aI);exact sdp)
   refine ifC.mk (fun h2=>?_) (fun h2=>?_)
   ·have h2:Qel what name r=true:=h2
    refine⟨_,_,qap,?_,rfl⟩
    rw[q88 h hi (by rw[←hr];exact h2),←hr]
   ·have h2:Qel what name r=false:=h2
    refine⟨by rw[hs,h2],?_⟩
    refine qaa [] [] rfl List.nodup_nil ?_ rfl
    simp only[zR,seval,@qaf ((k:Int)+1) (by omega)]
    all_goals rfl
  ·simp only[zR,seval,(show ¬(k:Int)<l.length by omega)]
   have:k=l.length:=by omega
   subst this
   rw[List.take_length] at hi
   refine⟨_,_,qap,?_,rfl⟩
   rw[qvz hi];rfl
theorem qfq (l:List qao) (what name:List UInt8) (hl:l.length<1000000):qba prog Gl 14 [.d (.sl (l.map qao.toD)),.d (.str what),.d (.str name)] (.d (.str (qns what name l))):=by
 refine qba.of3 ?_
 refine qac func14 rfl rfl (by simp[ntmps14]) (qab rfl _ _ _ _ ?_)
 simp only[ntmps14,results14,qak,List.length_nil]
 simp only[zR,seval]
 repeat((with_reducible apply aI);exact sdp)
 refine qan l.length (fun k=>[(0,.d (.sl (l.map qao.toD))),(1,.d (.str what)),(2,.d (.str name)),(7,.d (.int .i64 k))]) (fun _=>[]) (fun k=>(l.take k).any (Qel what name)=false) rfl ?_ ?_
 ·refine qaa [] [] rfl List.nodup_nil ?_ rfl
  simp only[zR,seval]
  all_goals rfl
 ·intro k hi hk
  by_cases h:k<l.length
  ·have hs:=qca (Qel what name) l k h
   obtain⟨r,hr⟩:∃r,r=l.getD k default:=⟨_,rfl⟩
   have hg:(List.map qao.toD l).getD k default=r.toD:=by rw[hr];simp[h]
   rw[←hr,hi,Bool.false_or] at hs
   simp only[zR,seval,(show(k:Int)<l.length by omega),h,hg]
   repeat((with_reducible apply aI);exact sdp)
   refine qay (fun _=>Qb5 _ _) ?_
   simp only[zR,seval]
   repeat((with_reducible apply aI);exact sdp)
   refine ifC.mk (fun h2=>?_) (fun h2=>?_)
   ·have h2:Qel what name r=true:=h2
    (try simp only[zR,seval,(show(k:Int)<l.length by omega),h,hg])
    repeat((with_reducible apply aI);exact sdp)
    refine⟨_,_,qap,?_,rfl⟩
    rw[q88 h hi (by rw[←hr];exact h2),←hr]
   ·have h2:Qel what name r=false:=h2
    refine⟨by rw[hs,h2],?_⟩
    refine qaa [] [] rfl List.nodup_nil ?_ rfl
    simp only[zR,seval,@qaf ((k:Int)+1) (by omega)]
    all_goals rfl
  ·simp only[zR,seval,(show ¬(k:Int)<l.length by omega)]
   have:k=l.length:=by omega
   subst this
   rw[List.take_length] at hi
   refine⟨_,_,qap,?_,rfl⟩
   rw[qvz hi];rfl

structure qaj where
 id:Int
 name:List UInt8
 dom:Int
deriving Inhabited,DecidableEq
def qaj.toD (x:qaj):D:=.agg [.int .i64 x.id,.str x.name,.int .i64 x.dom]
theorem Qi7 (x:qaj):x.toD.isAgg=true:=rfl
theorem Qi8 (x:qaj):x.toD.cells=[.int .i64 x.id,.str x.name,.int .i64 x.dom]:=rfl
structure qag where
 thread:Int
 parent:Int
 depth:Int
 name:List UInt8
 lo:Int
 hi:Int
 self:Int
 open_:Bool
deriving Inhabited,DecidableEq
def qag.toD (x:qag):D:=.agg [.int .i64 x.thread,.int .i64 x.parent,.int .i64 x.depth,.str x.name,.int .i64 x.lo,.int .i64 x.hi,.int .i64 x.self,.bool x.open_]
theorem Qhu (x:qag):x.toD.isAgg=true:=rfl
theorem Qhv (x:qag):x.toD.cells=[.int .i64 x.thread,.int .i64 x.parent,.int .i64 x.depth,.str x.name,.int .i64 x.lo,.int .i64 x.hi,.int .i64 x.self,.bool x.open_]:=rfl
structure qax where
 thread:Int
 state:Int
 lo:Int
 hi:Int
 cpu:Int
 on_:Int
 by_:Int
deriving Inhabited,DecidableEq
def qax.toD (x:qax):D:=.agg [.int .i64 x.thread,.int .i64 x.state,.int .i64 x.lo,.int .i64 x.hi,.int .i64 x.cpu,.int .i64 x.on_,.int .i64 x.by_]
theorem Qfq (x:qax):x.toD.isAgg=true:=rfl
theorem Qfr (x:qax):x.toD.cells=[.int .i64 x.thread,.int .i64 x.state,.int .i64 x.lo,.int .i64 x.hi,.int .i64 x.cpu,.int .i64 x.on_,.int .i64 x.by_]:=rfl
structure qbf where
 id:Int
 ft:Int
 fs:Int
 tt:Int
 ts:Int
 send:Int
 recv:Int
deriving Inhabited,DecidableEq
def qbf.toD (x:qbf):D:=.agg [.int .i64 x.id,.int .i64 x.ft,.int .i64 x.fs,.int .i64 x.tt,.int .i64 x.ts,.int .i64 x.send,.int .i64 x.recv]
theorem Qjn (x:qbf):x.toD.isAgg=true:=rfl
theorem Qjo (x:qbf):x.toD.cells=[.int .i64 x.id,.int .i64 x.ft,.int .i64 x.fs,.int .i64 x.tt,.int .i64 x.ts,.int .i64 x.send,.int .i64 x.recv]:=rfl
structure qam where
 thread:Int
 at_:Int
 weight:Int
 stack:List (List UInt8)
deriving Inhabited,DecidableEq
def qam.toD (x:qam):D:=.agg [.int .i64 x.thread,.int .i64 x.at_,.int .i64 x.weight,.sl (x.stack.map .str)]
theorem Qho (x:qam):x.toD.isAgg=true:=rfl
theorem Qhp (x:qam):x.toD.cells=[.int .i64 x.thread,.int .i64 x.at_,.int .i64 x.weight,.sl (x.stack.map .str)]:=rfl
structure qa2 where
 name:List UInt8
 at_:Int
 value:Int
deriving Inhabited,DecidableEq
def qa2.toD (x:qa2):D:=.agg [.str x.name,.int .i64 x.at_,.int .i64 x.value]
theorem Qg7 (x:qa2):x.toD.isAgg=true:=rfl
theorem Qg8 (x:qa2):x.toD.cells=[.str x.name,.int .i64 x.at_,.int .i64 x.value]:=rfl
structure qar where
 id:Int
 thread:Int
 size:Int
 lo:Int
 hi:Int
 stack:List (List UInt8)
 live:Bool
deriving Inhabited,DecidableEq
def qar.toD (x:qar):D:=.agg [.int .i64 x.id,.int .i64 x.thread,.int .i64 x.size,.int .i64 x.lo,.int .i64 x.hi,.sl (x.stack.map .str),.bool x.live]
theorem Qkl (x:qar):x.toD.isAgg=true:=rfl
theorem Qkm (x:qar):x.toD.cells=[.int .i64 x.id,.int .i64 x.thread,.int .i64 x.size,.int .i64 x.lo,.int .i64 x.hi,.sl (x.stack.map .str),.bool x.live]:=rfl
structure qbr where
 thread:Int
 lo:Int
 hi:Int
 count:Int
deriving Inhabited,DecidableEq
def qbr.toD (x:qbr):D:=.agg [.int .i64 x.thread,.int .i64 x.lo,.int .i64 x.hi,.int .i64 x.count]
theorem Qhc (x:qbr):x.toD.isAgg=true:=rfl
theorem Qhf (x:qbr):x.toD.cells=[.int .i64 x.thread,.int .i64 x.lo,.int .i64 x.hi,.int .i64 x.count]:=rfl
structure Qv8 where
 thread:Int
 state:Int
 lo:Int
 hi:Int
deriving Inhabited,DecidableEq
def Qv8.toD (x:Qv8):D:=.agg [.int .i64 x.thread,.int .i64 x.state,.int .i64 x.lo,.int .i64 x.hi]
theorem Qg3 (x:Qv8):x.toD.isAgg=true:=rfl
theorem Qg4 (x:Qv8):x.toD.cells=[.int .i64 x.thread,.int .i64 x.state,.int .i64 x.lo,.int .i64 x.hi]:=rfl
structure qaw where
 lo:Int
 hi:Int
 threads:List qaj
 slices:List qag
 states:List qax
 flows:List qbf
 samples:List qam
 steps:List qa2
 blocks:List qar
 lost:List qbr
deriving Inhabited
def qaw.toD (x:qaw):D:=.agg [.int .i64 x.lo,.int .i64 x.hi,.sl (x.threads.map qaj.toD),.sl (x.slices.map qag.toD),.sl (x.states.map qax.toD),.sl (x.flows.map qbf.toD),.sl (x.samples.map qam.toD),.sl (x.steps.map qa2.toD),.sl (x.blocks.map qar.toD),.sl (x.lost.map qbr.toD)]
theorem Qgy (x:qaw):x.toD.isAgg=true:=rfl
theorem Qg1 (x:qaw):x.toD.cells=[.int .i64 x.lo,.int .i64 x.hi,.sl (x.threads.map qaj.toD),.sl (x.slices.map qag.toD),.sl (x.states.map qax.toD),.sl (x.flows.map qbf.toD),.sl (x.samples.map qam.toD),.sl (x.steps.map qa2.toD),.sl (x.blocks.map qar.toD),.sl (x.lost.map qbr.toD)]:=rfl
theorem zB:type_of% (aI @zA (aI @Qi7 (aI @Qi8 (aI @Qhu (aI @Qhv (aI @Qfq (aI @Qfr (aI @Qjn (aI @Qjo (aI @Qho (aI @Qhp (aI @Qg7 (aI @Qg8 (aI @Qkl (aI @Qkm (aI @Qhc (aI @Qhf (aI @Qg3 (aI @Qg4 (aI @Qgy (aI @Qg1 @Qoe))))))))))))))))))))):=(aI @zA (aI @Qi7 (aI @Qi8 (aI @Qhu (aI @Qhv (aI @Qfq (aI @Qfr (aI @Qjn (aI @Qjo (aI @Qho (aI @Qhp (aI @Qg7 (aI @Qg8 (aI @Qkl (aI @Qkm (aI @Qhc (aI @Qhf (aI @Qg3 (aI @Qg4 (aI @Qgy (aI @Qg1 @Qoe)))))))))))))))))))))
def qel {α:Type} (p:α→Bool):List α→Int
 | []=>-1
 | b::r=>if p b=true then 0 else if qel p r=-1 then -1 else qel p r+1
theorem qcx {α:Type} {p:α→Bool}:∀{l:List α},l.any p=false→qel p l=-1
 | [],_=>rfl
 | b::r,h=>by
  rw[List.any_cons,Bool.or_eq_false_iff] at h
  rw[qel,if_neg (by rw[h.1];simp),if_pos (qcx h.2)]
theorem qob {α:Type} (p:α→Bool):∀l:List α,-1≤qel p l
 | []=>Int.le_refl _
 | b::r=>by
  have:=qob p r
  unfold qel
  split
  ·omega
  ·split<;>omega
theorem qd8 {α:Type} [Inhabited α] {p:α→Bool}:∀{l:List α} {k:Nat},k<l.length→(l.take k).any p=false→p (l.getD k default)=true→qel p l=k
 | [],k,h,_,_=>by simp at h
 | b::r,0,_,_,h=>by rw[qel,if_pos (by simpa using h)];rfl
 | b::r,k+1,h1,h2,h3=>by
  rw[List.take_succ_cons,List.any_cons,Bool.or_eq_false_iff] at h2
  have ih:=qd8 (p:=p) (l:=r) (k:=k) (by simpa using h1) h2.2 (by simpa using h3)
  rw[qel,if_neg (by rw[h2.1];simp),if_neg (by rw[ih];omega),ih];omega
theorem qdv {α:Type} (p:α→Bool):∀l:List α,decide (0≤qel p l)=l.any p
 | []=>rfl
 | b::r=>by
  have ih:=qdv p r
  have hg:=qob p r
  rw[qel,List.any_cons,←ih]
  by_cases h:p b=true
  ·simp[h]
  ·rw[if_neg h]
   have h:p b=false:=by simpa using h
   rw[h,Bool.false_or]
   by_cases h2:qel p r=-1
   ·rw[if_pos h2,h2]
   ·rw[if_neg h2,decide_eq_decide];omega
def qcp {α:Type} (e:Int) (has:Int→Bool) (g:α→Int) (l:List α):Int:=if e≠0 then e else if l.all (fun x=>has (g x))=true then 0 else 5
theorem qqz (fv:FuncId) (n:Nat) (y:D) (p:qag→Bool) (hp:∀x:qag,qal prog Gl fv [.d x.toD,.ptr 0 0] [.box n (.d y)] (fun r s=>r=.d (.bool (p x))∧s=[.box n (.d y)])) (l:List qag) (hl:l.length<1000000) :
  qal prog Gl 171 [.d (.sl (l.map qag.toD)),.fn fv [.ptr 0 0]] [.box n (.d y)] (fun r s=>r=.d (.int .i64 (qel p l))∧s=[.box n (.d y)]):=by
 refine qac func171 rfl rfl (by simp[ntmps171]) (qab rfl _ _ _ _ ?_)
 simp only[ntmps171,results171,qak,List.length_nil]
 simp only[zB,seval]
 refine qan l.length (fun k=>[(0,.d (.sl (l.map qag.toD))),(1,.fn fv [.ptr 0 0]),(7,.d (.int .i64 l.length)),(8,.d (.int .i64 k))]) (fun _=>[.box n (.d y)]) (fun k=>(l.take k).any p=false) rfl ?_ ?_
 ·refine qaa [] [0] rfl (by simp) ?_ rfl
  simp only[zB,seval,Int.cast_ofNat_Int]
  rfl
 ·intro k hi hk
  by_cases h:k<l.length
  ·have hs:=qca p l k h
   simp only[zB,seval,(show(k:Int)<l.length by omega),h,qah _ _ _ (show k<l.length by omega)]
   refine qa1 ((hp _).mono fun r s hr=>?_)
   obtain⟨rfl,rfl⟩:=hr
   simp only[zB,seval]
   refine ifC.mk (fun hc=>?_) (fun hc=>?_)
   ·refine⟨_,_,qai [] [0] rfl (by simp) (show qbk _ _ _=AV.d _ from rfl) rfl,?_,rfl⟩
    rw[qd8 h hi hc]
   ·refine⟨by rw[hs,hi,hc];rfl,?_⟩
    refine qaa [] [0] rfl (by simp) ?_ rfl
    simp only[zB,seval,@qaf ((k:Int)+1) (by omega)]
    rfl
  ·simp only[zB,seval,(show ¬(k:Int)<l.length by omega)]
   have:k=l.length:=by omega
   subst this
   rw[List.take_length] at hi
   refine⟨_,_,qai [] [0] rfl (by simp) (show qbk _ _ _=AV.d _ from rfl) rfl,?_,rfl⟩
   rw[qcx hi]
theorem qlo (fv:FuncId) (n:Nat) (y:D) (p:qag→Bool) (hp:∀x:qag,qal prog Gl fv [.d x.toD,.ptr 0 0] [.box n (.d y)] (fun r s=>r=.d (.bool (p x))∧s=[.box n (.d y)])) (l:List qag) (hl:l.length<1000000) :
  qal prog Gl 115 [.d (.sl (l.map qag.toD)),.fn fv [.ptr 0 0]] [.box n (.d y)] (fun r s=>r=.d (.bool (l.any p))∧s=[.box n (.d y)]):=by
 refine qac func115 rfl rfl (by simp[ntmps115]) (qab rfl _ _ _ _ ?_)
 simp only[ntmps115,results115,qak,List.length_nil]
 simp only[zB,seval]
 refine qa1 ((qqz fv n y p hp l hl).mono fun r s hr=>?_)
 obtain⟨rfl,rfl⟩:=hr
 simp only[zB,seval]
 refine⟨_,_,qai [] [0] rfl (by simp) (show qbk _ _ _=AV.d _ from rfl) rfl,?_,rfl⟩
 rw[qdv]
theorem qqy (fv:FuncId) (n:Nat) (y:D) (p:qax→Bool) (hp:∀x:qax,qal prog Gl fv [.d x.toD,.ptr 0 0] [.box n (.d y)] (fun r s=>r=.d (.bool (p x))∧s=[.box n (.d y)])) (l:List qax) (hl:l.length<1000000) :
  qal prog Gl 172 [.d (.sl (l.map qax.toD)),.fn fv [.ptr 0 0]] [.box n (.d y)] (fun r s=>r=.d (.int .i64 (qel p l))∧s=[.box n (.d y)]):=by
 refine qac func172 rfl rfl (by simp[ntmps172]) (qab rfl _ _ _ _ ?_)
 simp only[ntmps172,results172,qak,List.length_nil]
 simp only[zB,seval]
 refine qan l.length (fun k=>[(0,.d (.sl (l.map qax.toD))),(1,.fn fv [.ptr 0 0]),(7,.d (.int .i64 l.length)),(8,.d (.int .i64 k))]) (fun _=>[.box n (.d y)]) (fun k=>(l.take k).any p=false) rfl ?_ ?_
 ·refine qaa [] [0] rfl (by simp) ?_ rfl
  simp only[zB,seval,Int.cast_ofNat_Int]
  rfl
 ·intro k hi hk
  by_cases h:k<l.length
  ·have hs:=qca p l k h
   simp only[zB,seval,(show(k:Int)<l.length by omega),h,qah _ _ _ (show k<l.length by omega)]
   refine qa1 ((hp _).mono fun r s hr=>?_)
   obtain⟨rfl,rfl⟩:=hr
   simp only[zB,seval]
   refine ifC.mk (fun hc=>?_) (fun hc=>?_)
   ·refine⟨_,_,qai [] [0] rfl (by simp) (show qbk _ _ _=AV.d _ from rfl) rfl,?_,rfl⟩
    rw[qd8 h hi hc]
   ·refine⟨by rw[hs,hi,hc];rfl,?_⟩
    refine qaa [] [0] rfl (by simp) ?_ rfl
    simp only[zB,seval,@qaf ((k:Int)+1) (by omega)]
    rfl
  ·simp only[zB,seval,(show ¬(k:Int)<l.length by omega)]
   have:k=l.length:=by omega
   subst this
   rw[List.take_length] at hi
   refine⟨_,_,qai [] [0] rfl (by simp) (show qbk _ _ _=AV.d _ from rfl) rfl,?_,rfl⟩
   rw[qcx hi]
theorem qln (fv:FuncId) (n:Nat) (y:D) (p:qax→Bool) (hp:∀x:qax,qal prog Gl fv [.d x.toD,.ptr 0 0] [.box n (.d y)] (fun r s=>r=.d (.bool (p x))∧s=[.box n (.d y)])) (l:List qax) (hl:l.length<1000000) :
  qal prog Gl 118 [.d (.sl (l.map qax.toD)),.fn fv [.ptr 0 0]] [.box n (.d y)] (fun r s=>r=.d (.bool (l.any p))∧s=[.box n (.d y)]):=by
 refine qac func118 rfl rfl (by simp[ntmps118]) (qab rfl _ _ _ _ ?_)
 simp only[ntmps118,results118,qak,List.length_nil]
 simp only[zB,seval]
 refine qa1 ((qqy fv n y p hp l hl).mono fun r s hr=>?_)
 obtain⟨rfl,rfl⟩:=hr
 simp only[zB,seval]
 refine⟨_,_,qai [] [0] rfl (by simp) (show qbk _ _ _=AV.d _ from rfl) rfl,?_,rfl⟩
 rw[qdv]
theorem qq0 (fv:FuncId) (n:Nat) (y:D) (p:qar→Bool) (hp:∀x:qar,qal prog Gl fv [.d x.toD,.ptr 0 0] [.box n (.d y)] (fun r s=>r=.d (.bool (p x))∧s=[.box n (.d y)])) (l:List qar) (hl:l.length<1000000) :
  qal prog Gl 173 [.d (.sl (l.map qar.toD)),.fn fv [.ptr 0 0]] [.box n (.d y)] (fun r s=>r=.d (.int .i64 (qel p l))∧s=[.box n (.d y)]):=by
 refine qac func173 rfl rfl (by simp[ntmps173]) (qab rfl _ _ _ _ ?_)
 simp only[ntmps173,results173,qak,List.length_nil]
 simp only[zB,seval]
 refine qan l.length (fun k=>[(0,.d (.sl (l.map qar.toD))),(1,.fn fv [.ptr 0 0]),(7,.d (.int .i64 l.length)),(8,.d (.int .i64 k))]) (fun _=>[.box n (.d y)]) (fun k=>(l.take k).any p=false) rfl ?_ ?_
 ·refine qaa [] [0] rfl (by simp) ?_ rfl
  simp only[zB,seval,Int.cast_ofNat_Int]
  rfl
 ·intro k hi hk
  by_cases h:k<l.length
  ·have hs:=qca p l k h
   simp only[zB,seval,(show(k:Int)<l.length by omega),h,qah _ _ _ (show k<l.length by omega)]
   refine qa1 ((hp _).mono fun r s hr=>?_)
   obtain⟨rfl,rfl⟩:=hr
   simp only[zB,seval]
   refine ifC.mk (fun hc=>?_) (fun hc=>?_)
   ·refine⟨_,_,qai [] [0] rfl (by simp) (show qbk _ _ _=AV.d _ from rfl) rfl,?_,rfl⟩
    rw[qd8 h hi hc]
   ·refine⟨by rw[hs,hi,hc];rfl,?_⟩
    refine qaa [] [0] rfl (by simp) ?_ rfl
    simp only[zB,seval,@qaf ((k:Int)+1) (by omega)]
    rfl
  ·simp only[zB,seval,(show ¬(k:Int)<l.length by omega)]
   have:k=l.length:=by omega
   subst this
   rw[List.take_length] at hi
   refine⟨_,_,qai [] [0] rfl (by simp) (show qbk _ _ _=AV.d _ from rfl) rfl,?_,rfl⟩
   rw[qcx hi]
theorem qlp (fv:FuncId) (n:Nat) (y:D) (p:qar→Bool) (hp:∀x:qar,qal prog Gl fv [.d x.toD,.ptr 0 0] [.box n (.d y)] (fun r s=>r=.d (.bool (p x))∧s=[.box n (.d y)])) (l:List qar) (hl:l.length<1000000) :
  qal prog Gl 120 [.d (.sl (l.map qar.toD)),.fn fv [.ptr 0 0]] [.box n (.d y)] (fun r s=>r=.d (.bool (l.any p))∧s=[.box n (.d y)]):=by
 refine qac func120 rfl rfl (by simp[ntmps120]) (qab rfl _ _ _ _ ?_)
 simp only[ntmps120,results120,qak,List.length_nil]
 simp only[zB,seval]
 refine qa1 ((qq0 fv n y p hp l hl).mono fun r s hr=>?_)
 obtain⟨rfl,rfl⟩:=hr
 simp only[zB,seval]
 refine⟨_,_,qai [] [0] rfl (by simp) (show qbk _ _ _=AV.d _ from rfl) rfl,?_,rfl⟩
 rw[qdv]
theorem quz (fv:FuncId) (n:Nat) (y:D) (p:qbf→Bool) (hp:∀x:qbf,qal prog Gl fv [.d x.toD,.ptr 0 0] [.box n (.d y)] (fun r s=>r=.d (.bool (p x))∧s=[.box n (.d y)])) (l:List qbf) (hl:l.length<1000000) :
  qal prog Gl 174 [.d (.sl (l.map qbf.toD)),.fn fv [.ptr 0 0]] [.box n (.d y)] (fun r s=>r=.d (.int .i64 (qel p l))∧s=[.box n (.d y)]):=by
 refine qac func174 rfl rfl (by simp[ntmps174]) (qab rfl _ _ _ _ ?_)
 simp only[ntmps174,results174,qak,List.length_nil]
 simp only[zB,seval]
 refine qan l.length (fun k=>[(0,.d (.sl (l.map qbf.toD))),(1,.fn fv [.ptr 0 0]),(7,.d (.int .i64 l.length)),(8,.d (.int .i64 k))]) (fun _=>[.box n (.d y)]) (fun k=>(l.take k).any p=false) rfl ?_ ?_
 ·refine qaa [] [0] rfl (by simp) ?_ rfl
  simp only[zB,seval,Int.cast_ofNat_Int]
  rfl
 ·intro k hi hk
  by_cases h:k<l.length
  ·have hs:=qca p l k h
   simp only[zB,seval,(show(k:Int)<l.length by omega),h,qah _ _ _ (show k<l.length by omega)]
   refine qa1 ((hp _).mono fun r s hr=>?_)
   obtain⟨rfl,rfl⟩:=hr
   simp only[zB,seval]
   refine ifC.mk (fun hc=>?_) (fun hc=>?_)
   ·refine⟨_,_,qai [] [0] rfl (by simp) (show qbk _ _ _=AV.d _ from rfl) rfl,?_,rfl⟩
    rw[qd8 h hi hc]
   ·refine⟨by rw[hs,hi,hc];rfl,?_⟩
    refine qaa [] [0] rfl (by simp) ?_ rfl
    simp only[zB,seval,@qaf ((k:Int)+1) (by omega)]
    rfl
  ·simp only[zB,seval,(show ¬(k:Int)<l.length by omega)]
   have:k=l.length:=by omega
   subst this
   rw[List.take_length] at hi
   refine⟨_,_,qai [] [0] rfl (by simp) (show qbk _ _ _=AV.d _ from rfl) rfl,?_,rfl⟩
   rw[qcx hi]
theorem qnf (fv:FuncId) (n:Nat) (y:D) (p:qbf→Bool) (hp:∀x:qbf,qal prog Gl fv [.d x.toD,.ptr 0 0] [.box n (.d y)] (fun r s=>r=.d (.bool (p x))∧s=[.box n (.d y)])) (l:List qbf) (hl:l.length<1000000) :
  qal prog Gl 122 [.d (.sl (l.map qbf.toD)),.fn fv [.ptr 0 0]] [.box n (.d y)] (fun r s=>r=.d (.bool (l.any p))∧s=[.box n (.d y)]):=by
 refine qac func122 rfl rfl (by simp[ntmps122]) (qab rfl _ _ _ _ ?_)
 simp only[ntmps122,results122,qak,List.length_nil]
 simp only[zB,seval]
 refine qa1 ((quz fv n y p hp l hl).mono fun r s hr=>?_)
 obtain⟨rfl,rfl⟩:=hr
 simp only[zB,seval]
 refine⟨_,_,qai [] [0] rfl (by simp) (show qbk _ _ _=AV.d _ from rfl) rfl,?_,rfl⟩
 rw[qdv]
theorem qoa (fv:FuncId) (n:Nat) (y:D) (p:qam→Bool) (hp:∀x:qam,qal prog Gl fv [.d x.toD,.ptr 0 0] [.box n (.d y)] (fun r s=>r=.d (.bool (p x))∧s=[.box n (.d y)])) (l:List qam) (hl:l.length<1000000) :
  qal prog Gl 175 [.d (.sl (l.map qam.toD)),.fn fv [.ptr 0 0]] [.box n (.d y)] (fun r s=>r=.d (.int .i64 (qel p l))∧s=[.box n (.d y)]):=by
 refine qac func175 rfl rfl (by simp[ntmps175]) (qab rfl _ _ _ _ ?_)
 simp only[ntmps175,results175,qak,List.length_nil]
 simp only[zB,seval]
 refine qan l.length (fun k=>[(0,.d (.sl (l.map qam.toD))),(1,.fn fv [.ptr 0 0]),(7,.d (.int .i64 l.length)),(8,.d (.int .i64 k))]) (fun _=>[.box n (.d y)]) (fun k=>(l.take k).any p=false) rfl ?_ ?_
 ·refine qaa [] [0] rfl (by simp) ?_ rfl
  simp only[zB,seval,Int.cast_ofNat_Int]
  rfl
 ·intro k hi hk
  by_cases h:k<l.length
  ·have hs:=qca p l k h
   simp only[zB,seval,(show(k:Int)<l.length by omega),h,qah _ _ _ (show k<l.length by omega)]
   refine qa1 ((hp _).mono fun r s hr=>?_)
   obtain⟨rfl,rfl⟩:=hr
   simp only[zB,seval]
   refine ifC.mk (fun hc=>?_) (fun hc=>?_)
   ·refine⟨_,_,qai [] [0] rfl (by simp) (show qbk _ _ _=AV.d _ from rfl) rfl,?_,rfl⟩
    rw[qd8 h hi hc]
   ·refine⟨by rw[hs,hi,hc];rfl,?_⟩
    refine qaa [] [0] rfl (by simp) ?_ rfl
    simp only[zB,seval,@qaf ((k:Int)+1) (by omega)]
    rfl
  ·simp only[zB,seval,(show ¬(k:Int)<l.length by omega)]
   have:k=l.length:=by omega
   subst this
   rw[List.take_length] at hi
   refine⟨_,_,qai [] [0] rfl (by simp) (show qbk _ _ _=AV.d _ from rfl) rfl,?_,rfl⟩
   rw[qcx hi]
theorem qkj (fv:FuncId) (n:Nat) (y:D) (p:qam→Bool) (hp:∀x:qam,qal prog Gl fv [.d x.toD,.ptr 0 0] [.box n (.d y)] (fun r s=>r=.d (.bool (p x))∧s=[.box n (.d y)])) (l:List qam) (hl:l.length<1000000) :
  qal prog Gl 125 [.d (.sl (l.map qam.toD)),.fn fv [.ptr 0 0]] [.box n (.d y)] (fun r s=>r=.d (.bool (l.any p))∧s=[.box n (.d y)]):=by
 refine qac func125 rfl rfl (by simp[ntmps125]) (qab rfl _ _ _ _ ?_)
 simp only[ntmps125,results125,qak,List.length_nil]
 simp only[zB,seval]
 refine qa1 ((qoa fv n y p hp l hl).mono fun r s hr=>?_)
 obtain⟨rfl,rfl⟩:=hr
 simp only[zB,seval]
 refine⟨_,_,qai [] [0] rfl (by simp) (show qbk _ _ _=AV.d _ from rfl) rfl,?_,rfl⟩
 rw[qdv]
theorem quy (fv:FuncId) (n:Nat) (y:D) (p:qa2→Bool) (hp:∀x:qa2,qal prog Gl fv [.d x.toD,.ptr 0 0] [.box n (.d y)] (fun r s=>r=.d (.bool (p x))∧s=[.box n (.d y)])) (l:List qa2) (hl:l.length<1000000) :
  qal prog Gl 176 [.d (.sl (l.map qa2.toD)),.fn fv [.ptr 0 0]] [.box n (.d y)] (fun r s=>r=.d (.int .i64 (qel p l))∧s=[.box n (.d y)]):=by
 refine qac func176 rfl rfl (by simp[ntmps176]) (qab rfl _ _ _ _ ?_)
 simp only[ntmps176,results176,qak,List.length_nil]
 simp only[zB,seval]
 refine qan l.length (fun k=>[(0,.d (.sl (l.map qa2.toD))),(1,.fn fv [.ptr 0 0]),(7,.d (.int .i64 l.length)),(8,.d (.int .i64 k))]) (fun _=>[.box n (.d y)]) (fun k=>(l.take k).any p=false) rfl ?_ ?_
 ·refine qaa [] [0] rfl (by simp) ?_ rfl
  simp only[zB,seval,Int.cast_ofNat_Int]
  rfl
 ·intro k hi hk
  by_cases h:k<l.length
  ·have hs:=qca p l k h
   simp only[zB,seval,(show(k:Int)<l.length by omega),h,qah _ _ _ (show k<l.length by omega)]
   refine qa1 ((hp _).mono fun r s hr=>?_)
   obtain⟨rfl,rfl⟩:=hr
   simp only[zB,seval]
   refine ifC.mk (fun hc=>?_) (fun hc=>?_)
   ·refine⟨_,_,qai [] [0] rfl (by simp) (show qbk _ _ _=AV.d _ from rfl) rfl,?_,rfl⟩
    rw[qd8 h hi hc]
   ·refine⟨by rw[hs,hi,hc];rfl,?_⟩
    refine qaa [] [0] rfl (by simp) ?_ rfl
    simp only[zB,seval,@qaf ((k:Int)+1) (by omega)]
    rfl
  ·simp only[zB,seval,(show ¬(k:Int)<l.length by omega)]
   have:k=l.length:=by omega
   subst this
   rw[List.take_length] at hi
   refine⟨_,_,qai [] [0] rfl (by simp) (show qbk _ _ _=AV.d _ from rfl) rfl,?_,rfl⟩
   rw[qcx hi]
theorem qne (fv:FuncId) (n:Nat) (y:D) (p:qa2→Bool) (hp:∀x:qa2,qal prog Gl fv [.d x.toD,.ptr 0 0] [.box n (.d y)] (fun r s=>r=.d (.bool (p x))∧s=[.box n (.d y)])) (l:List qa2) (hl:l.length<1000000) :
  qal prog Gl 127 [.d (.sl (l.map qa2.toD)),.fn fv [.ptr 0 0]] [.box n (.d y)] (fun r s=>r=.d (.bool (l.any p))∧s=[.box n (.d y)]):=by
 refine qac func127 rfl rfl (by simp[ntmps127]) (qab rfl _ _ _ _ ?_)
 simp only[ntmps127,results127,qak,List.length_nil]
 simp only[zB,seval]
 refine qa1 ((quy fv n y p hp l hl).mono fun r s hr=>?_)
 obtain⟨rfl,rfl⟩:=hr
 simp only[zB,seval]
 refine⟨_,_,qai [] [0] rfl (by simp) (show qbk _ _ _=AV.d _ from rfl) rfl,?_,rfl⟩
 rw[qdv]
theorem q5y (fv:FuncId) (g:qag→Int) (hg:∀x:qag,qba prog Gl fv [.d x.toD] (.d (.int .i64 (g x)))) (e:Int) (f:Key→Option AV) (has:Int→Bool) (hst:∀k v,f k=some v→∃d,v=.d d) (hf:∀n,(f (.i n)).isSome=has n) (l:List qag) (hl:l.length<1000000) :
  qal prog Gl 99 [.d (.int .i64 e),.mapr 0,.d (.sl (l.map qag.toD)),.fn fv []] [.map (some .i64) f] (fun r s=>r=.d (.int .i64 (qcp e has g l))∧s=[.map (some .i64) f]):=by
 refine qac func99 rfl rfl (by simp[ntmps99]) (qab rfl _ _ _ _ ?_)
 simp only[ntmps99,results99,qak,List.length_nil]
 simp only[zB,seval]
 refine ifC.mk (fun he=>?_) (fun he=>?_)
 ·refine⟨_,_,qai [] [0] rfl (by simp) (show qbk _ _ _=AV.d _ from rfl) (qbw hst _),?_,rfl⟩
  have he:e≠0:=by simpa using he
  rw[qcp,if_pos he]
 ·have he:¬e≠0:=by simpa using he
  refine qan l.length (fun k=>[(1,.mapr 0),(3,.fn fv []),(16,.d (.sl (l.map qag.toD))),(17,.d (.int .i64 l.length)),(18,.d (.int .i64 k))]) (fun _=>[.map (some .i64) f]) (fun k=>(l.take k).all (fun x=>has (g x))=true) rfl ?_ ?_
  ·refine qaa [] [0] rfl (by simp) ?_ (qbw hst _)
   simp only[zB,seval,Int.cast_ofNat_Int]
   rfl
  ·intro k hi hk
   by_cases h:k<l.length
   ·have hs:=qdc (fun x=>has (g x)) l k h
    simp only[zB,seval,(show(k:Int)<l.length by omega),h,qah _ _ _ (show k<l.length by omega)]
    repeat((with_reducible apply aI);exact sdp)
    refine qad (hg _) ?_
    obtain⟨d,hd⟩:=qz0 hst (.i (g (l.getD k default))) (.str [])
    simp only[zB,seval,hf,hd]
    repeat((with_reducible apply aI);exact sdp)
    refine ifC.mk (fun hc=>?_) (fun hc=>?_)
    ·refine⟨_,_,qai [] [0] rfl (by simp) (show qbk _ _ _=AV.d _ from rfl) (qbw hst _),?_,rfl⟩
     rw[qcp,if_neg he,if_neg (by rw[qqs _ l k h (by simpa using hc)];simp)]
    ·refine⟨by rw[hs,hi];simpa using hc,?_⟩
     refine qaa [] [0] rfl (by simp) ?_ (qbw hst _)
     simp only[zB,seval,@qaf ((k:Int)+1) (by omega)]
     rfl
   ·simp only[zB,seval,(show ¬(k:Int)<l.length by omega)]
    have:k=l.length:=by omega
    subst this
    rw[List.take_length] at hi
    refine⟨_,_,qai [] [0] rfl (by simp) (show qbk _ _ _=AV.d _ from rfl) (qbw hst _),?_,rfl⟩
    rw[qcp,if_neg he,if_pos hi]
theorem quv (fv:FuncId) (g:qbf→Int) (hg:∀x:qbf,qba prog Gl fv [.d x.toD] (.d (.int .i64 (g x)))) (e:Int) (f:Key→Option AV) (has:Int→Bool) (hst:∀k v,f k=some v→∃d,v=.d d) (hf:∀n,(f (.i n)).isSome=has n) (l:List qbf) (hl:l.length<1000000) :
  qal prog Gl 103 [.d (.int .i64 e),.mapr 0,.d (.sl (l.map qbf.toD)),.fn fv []] [.map (some .i64) f] (fun r s=>r=.d (.int .i64 (qcp e has g l))∧s=[.map (some .i64) f]):=by
 refine qac func103 rfl rfl (by simp[ntmps103]) (qab rfl _ _ _ _ ?_)
 simp only[ntmps103,results103,qak,List.length_nil]
 simp only[zB,seval]
 refine ifC.mk (fun he=>?_) (fun he=>?_)
 ·refine⟨_,_,qai [] [0] rfl (by simp) (show qbk _ _ _=AV.d _ from rfl) (qbw hst _),?_,rfl⟩
  have he:e≠0:=by simpa using he
  rw[qcp,if_pos he]
 ·have he:¬e≠0:=by simpa using he
  refine qan l.length (fun k=>[(1,.mapr 0),(3,.fn fv []),(16,.d (.sl (l.map qbf.toD))),(17,.d (.int .i64 l.length)),(18,.d (.int .i64 k))]) (fun _=>[.map (some .i64) f]) (fun k=>(l.take k).all (fun x=>has (g x))=true) rfl ?_ ?_
  ·refine qaa [] [0] rfl (by simp) ?_ (qbw hst _)
   simp only[zB,seval,Int.cast_ofNat_Int]
   rfl
  ·intro k hi hk
   by_cases h:k<l.length
   ·have hs:=qdc (fun x=>has (g x)) l k h
    simp only[zB,seval,(show(k:Int)<l.length by omega),h,qah _ _ _ (show k<l.length by omega)]
    repeat((with_reducible apply aI);exact sdp)
    refine qad (hg _) ?_
    obtain⟨d,hd⟩:=qz0 hst (.i (g (l.getD k default))) (.str [])
    simp only[zB,seval,hf,hd]
    repeat((with_reducible apply aI);exact sdp)
    refine ifC.mk (fun hc=>?_) (fun hc=>?_)
    ·refine⟨_,_,qai [] [0] rfl (by simp) (show qbk _ _ _=AV.d _ from rfl) (qbw hst _),?_,rfl⟩
     rw[qcp,if_neg he,if_neg (by rw[qqs _ l k h (by simpa using hc)];simp)]
    ·refine⟨by rw[hs,hi];simpa using hc,?_⟩
     refine qaa [] [0] rfl (by simp) ?_ (qbw hst _)
     simp only[zB,seval,@qaf ((k:Int)+1) (by omega)]
     rfl
   ·simp only[zB,seval,(show ¬(k:Int)<l.length by omega)]
    have:k=l.length:=by omega
    subst this
    rw[List.take_length] at hi
    refine⟨_,_,qai [] [0] rfl (by simp) (show qbk _ _ _=AV.d _ from rfl) (qbw hst _),?_,rfl⟩
    rw[qcp,if_neg he,if_pos hi]
theorem q1m (fv:FuncId) (g:qam→Int) (hg:∀x:qam,qba prog Gl fv [.d x.toD] (.d (.int .i64 (g x)))) (e:Int) (f:Key→Option AV) (has:Int→Bool) (hst:∀k v,f k=some v→∃d,v=.d d) (hf:∀n,(f (.i n)).isSome=has n) (l:List qam) (hl:l.length<1000000) :
  qal prog Gl 107 [.d (.int .i64 e),.mapr 0,.d (.sl (l.map qam.toD)),.fn fv []] [.map (some .i64) f] (fun r s=>r=.d (.int .i64 (qcp e has g l))∧s=[.map (some .i64) f]):=by
 refine qac func107 rfl rfl (by simp[ntmps107]) (qab rfl _ _ _ _ ?_)
 simp only[ntmps107,results107,qak,List.length_nil]
 simp only[zB,seval]
 refine ifC.mk (fun he=>?_) (fun he=>?_)
 ·refine⟨_,_,qai [] [0] rfl (by simp) (show qbk _ _ _=AV.d _ from rfl) (qbw hst _),?_,rfl⟩
  have he:e≠0:=by simpa using he
  rw[qcp,if_pos he]
 ·have he:¬e≠0:=by simpa using he
  refine qan l.length (fun k=>[(1,.mapr 0),(3,.fn fv []),(16,.d (.sl (l.map qam.toD))),(17,.d (.int .i64 l.length)),(18,.d (.int .i64 k))]) (fun _=>[.map (some .i64) f]) (fun k=>(l.take k).all (fun x=>has (g x))=true) rfl ?_ ?_
  ·refine qaa [] [0] rfl (by simp) ?_ (qbw hst _)
   simp only[zB,seval,Int.cast_ofNat_Int]
   rfl
  ·intro k hi hk
   by_cases h:k<l.length
   ·have hs:=qdc (fun x=>has (g x)) l k h
    simp only[zB,seval,(show(k:Int)<l.length by omega),h,qah _ _ _ (show k<l.length by omega)]
    repeat((with_reducible apply aI);exact sdp)
    refine qad (hg _) ?_
    obtain⟨d,hd⟩:=qz0 hst (.i (g (l.getD k default))) (.str [])
    simp only[zB,seval,hf,hd]
    repeat((with_reducible apply aI);exact sdp)
    refine ifC.mk (fun hc=>?_) (fun hc=>?_)
    ·refine⟨_,_,qai [] [0] rfl (by simp) (show qbk _ _ _=AV.d _ from rfl) (qbw hst _),?_,rfl⟩
     rw[qcp,if_neg he,if_neg (by rw[qqs _ l k h (by simpa using hc)];simp)]
    ·refine⟨by rw[hs,hi];simpa using hc,?_⟩
     refine qaa [] [0] rfl (by simp) ?_ (qbw hst _)
     simp only[zB,seval,@qaf ((k:Int)+1) (by omega)]
     rfl
   ·simp only[zB,seval,(show ¬(k:Int)<l.length by omega)]
    have:k=l.length:=by omega
    subst this
    rw[List.take_length] at hi
    refine⟨_,_,qai [] [0] rfl (by simp) (show qbk _ _ _=AV.d _ from rfl) (qbw hst _),?_,rfl⟩
    rw[qcp,if_neg he,if_pos hi]
theorem q5z (fv:FuncId) (g:qar→Int) (hg:∀x:qar,qba prog Gl fv [.d x.toD] (.d (.int .i64 (g x)))) (e:Int) (f:Key→Option AV) (has:Int→Bool) (hst:∀k v,f k=some v→∃d,v=.d d) (hf:∀n,(f (.i n)).isSome=has n) (l:List qar) (hl:l.length<1000000) :
  qal prog Gl 111 [.d (.int .i64 e),.mapr 0,.d (.sl (l.map qar.toD)),.fn fv []] [.map (some .i64) f] (fun r s=>r=.d (.int .i64 (qcp e has g l))∧s=[.map (some .i64) f]):=by
 refine qac func111 rfl rfl (by simp[ntmps111]) (qab rfl _ _ _ _ ?_)
 simp only[ntmps111,results111,qak,List.length_nil]
 simp only[zB,seval]
 refine ifC.mk (fun he=>?_) (fun he=>?_)
 ·refine⟨_,_,qai [] [0] rfl (by simp) (show qbk _ _ _=AV.d _ from rfl) (qbw hst _),?_,rfl⟩
  have he:e≠0:=by simpa using he
  rw[qcp,if_pos he]
 ·have he:¬e≠0:=by simpa using he
  refine qan l.length (fun k=>[(1,.mapr 0),(3,.fn fv []),(16,.d (.sl (l.map qar.toD))),(17,.d (.int .i64 l.length)),(18,.d (.int .i64 k))]) (fun _=>[.map (some .i64) f]) (fun k=>(l.take k).all (fun x=>has (g x))=true) rfl ?_ ?_
  ·refine qaa [] [0] rfl (by simp) ?_ (qbw hst _)
   simp only[zB,seval,Int.cast_ofNat_Int]
   rfl
  ·intro k hi hk
   by_cases h:k<l.length
   ·have hs:=qdc (fun x=>has (g x)) l k h
    simp only[zB,seval,(show(k:Int)<l.length by omega),h,qah _ _ _ (show k<l.length by omega)]
    repeat((with_reducible apply aI);exact sdp)
    refine qad (hg _) ?_
    obtain⟨d,hd⟩:=qz0 hst (.i (g (l.getD k default))) (.str [])
    simp only[zB,seval,hf,hd]
    repeat((with_reducible apply aI);exact sdp)
    refine ifC.mk (fun hc=>?_) (fun hc=>?_)
    ·refine⟨_,_,qai [] [0] rfl (by simp) (show qbk _ _ _=AV.d _ from rfl) (qbw hst _),?_,rfl⟩
     rw[qcp,if_neg he,if_neg (by rw[qqs _ l k h (by simpa using hc)];simp)]
    ·refine⟨by rw[hs,hi];simpa using hc,?_⟩
     refine qaa [] [0] rfl (by simp) ?_ (qbw hst _)
     simp only[zB,seval,@qaf ((k:Int)+1) (by omega)]
     rfl
   ·simp only[zB,seval,(show ¬(k:Int)<l.length by omega)]
    have:k=l.length:=by omega
    subst this
    rw[List.take_length] at hi
    refine⟨_,_,qai [] [0] rfl (by simp) (show qbk _ _ _=AV.d _ from rfl) (qbw hst _),?_,rfl⟩
    rw[qcp,if_neg he,if_pos hi]

theorem cm:qdb (Value.map none)=.d (.raw (.map none)):=rfl
theorem zC:type_of% (aI @zB (aI @cm @q0e)):=aI @zB (aI @cm @q0e)
def qgr (a b:Int):Bool:=decide (0≤a)&&decide (a<b)&&decide (b≤1000000000000)
def qdx (a b c d:Int):Bool:=decide (c≤a)&&decide (b≤d)
def qc4 (a b t:Int):Bool:=decide (a≤t)&&decide (t<b)
theorem q1p (a b:Int):qba prog Gl 158 [.d (.agg [.int .i64 a,.int .i64 b])] (.d (.bool (qgr a b))):=by
 refine qba.of1 ?_
 refine qac func158 rfl rfl (by simp[ntmps158]) (qab rfl _ _ _ _ ?_)
 simp only[ntmps158,results158,qak,List.length_nil]
 simp only[zC,seval]
 exact⟨_,_,qap,rfl,rfl⟩
theorem q1j (a b c d:Int):qba prog Gl 117 [.d (.agg [.int .i64 a,.int .i64 b]),.d (.agg [.int .i64 c,.int .i64 d])] (.d (.bool (qdx a b c d))):=by
 refine qba.of2 ?_
 refine qac func117 rfl rfl (by simp[ntmps117]) (qab rfl _ _ _ _ ?_)
 simp only[ntmps117,results117,qak,List.length_nil]
 simp only[zC,seval]
 exact⟨_,_,qap,rfl,rfl⟩
theorem qrb (a b t:Int):qba prog Gl 124 [.d (.agg [.int .i64 a,.int .i64 b]),.d (.int .i64 t)] (.d (.bool (qc4 a b t))):=by
 refine qba.of2 ?_
 refine qac func124 rfl rfl (by simp[ntmps124]) (qab rfl _ _ _ _ ?_)
 simp only[ntmps124,results124,qak,List.length_nil]
 simp only[zC,seval]
 exact⟨_,_,qap,rfl,rfl⟩
def qgp (x:qaj):Int:=if(decide (x.id<0)||decide (1000000000000000<x.id)||decide (x.dom<0)||decide (8≤x.dom))=true then 2 else qc3 x.name
theorem Qms (x:qaj):qba prog Gl 157 [.d x.toD] (.d (.int .i64 (qgp x))):=by
 refine qba.of1 ?_
 refine qac func157 rfl rfl (by simp[ntmps157]) (qab rfl _ _ _ _ ?_)
 simp only[ntmps157,results157,qak,List.length_nil]
 simp only[zC,seval]
 refine ifC.mk (fun h=>?_) (fun h=>?_)
 ·refine⟨_,_,qap,?_,rfl⟩
  rw[qgp,if_pos h]
 ·refine qad (qz7 _) ?_
  simp only[zC,seval]
  refine⟨_,_,qap,?_,rfl⟩
  rw[qgp,if_neg (by rw[h];simp)]
theorem Qh3 (x:qag):qba prog Gl 101 [.d x.toD] (.d (.int .i64 x.thread)):=by
 refine qba.of1 ?_
 refine qac func101 rfl rfl (by simp[ntmps101]) (qab rfl _ _ _ _ ?_)
 simp only[ntmps101,results101,qak,List.length_nil]
 simp only[zC,seval]
 exact⟨_,_,qap,rfl,rfl⟩
theorem Qh2 (x:qbf):qba prog Gl 105 [.d x.toD] (.d (.int .i64 x.ft)):=by
 refine qba.of1 ?_
 refine qac func105 rfl rfl (by simp[ntmps105]) (qab rfl _ _ _ _ ?_)
 simp only[ntmps105,results105,qak,List.length_nil]
 simp only[zC,seval]
 exact⟨_,_,qap,rfl,rfl⟩
theorem Qh1 (x:qbf):qba prog Gl 106 [.d x.toD] (.d (.int .i64 x.tt)):=by
 refine qba.of1 ?_
 refine qac func106 rfl rfl (by simp[ntmps106]) (qab rfl _ _ _ _ ?_)
 simp only[ntmps106,results106,qak,List.length_nil]
 simp only[zC,seval]
 exact⟨_,_,qap,rfl,rfl⟩
theorem Qh0 (x:qam):qba prog Gl 109 [.d x.toD] (.d (.int .i64 x.thread)):=by
 refine qba.of1 ?_
 refine qac func109 rfl rfl (by simp[ntmps109]) (qab rfl _ _ _ _ ?_)
 simp only[ntmps109,results109,qak,List.length_nil]
 simp only[zC,seval]
 exact⟨_,_,qap,rfl,rfl⟩
theorem Qhz (x:qar):qba prog Gl 113 [.d x.toD] (.d (.int .i64 x.thread)):=by
 refine qba.of1 ?_
 refine qac func113 rfl rfl (by simp[ntmps113]) (qab rfl _ _ _ _ ?_)
 simp only[ntmps113,results113,qak,List.length_nil]
 simp only[zC,seval]
 exact⟨_,_,qap,rfl,rfl⟩
theorem Qd9 (a b:Int) (x:qag):qal prog Gl 116 [.d x.toD,.ptr 0 0] [.box 2 (.d (.agg [.int .i64 a,.int .i64 b]))] (fun r s=>r=.d (.bool (!qdx x.lo x.hi a b))∧s=[.box 2 (.d (.agg [.int .i64 a,.int .i64 b]))]):=by
 refine qac func116 rfl rfl (by simp[ntmps116]) (qab rfl _ _ _ _ ?_)
 simp only[ntmps116,results116,qak,List.length_nil]
 simp only[zC,seval]
 refine qad (q1j _ _ _ _) ?_
 simp only[zC,seval]
 refine⟨_,_,qai [] [0] rfl (by simp) (show qbk _ _ _=AV.d _ from rfl) rfl,?_,rfl⟩
 rfl
theorem Qd8 (a b:Int) (x:qax):qal prog Gl 119 [.d x.toD,.ptr 0 0] [.box 2 (.d (.agg [.int .i64 a,.int .i64 b]))] (fun r s=>r=.d (.bool (!qdx x.lo x.hi a b))∧s=[.box 2 (.d (.agg [.int .i64 a,.int .i64 b]))]):=by
 refine qac func119 rfl rfl (by simp[ntmps119]) (qab rfl _ _ _ _ ?_)
 simp only[ntmps119,results119,qak,List.length_nil]
 simp only[zC,seval]
 refine qad (q1j _ _ _ _) ?_
 simp only[zC,seval]
 refine⟨_,_,qai [] [0] rfl (by simp) (show qbk _ _ _=AV.d _ from rfl) rfl,?_,rfl⟩
 rfl
theorem Qd7 (a b:Int) (x:qar):qal prog Gl 121 [.d x.toD,.ptr 0 0] [.box 2 (.d (.agg [.int .i64 a,.int .i64 b]))] (fun r s=>r=.d (.bool (!qdx x.lo x.hi a b))∧s=[.box 2 (.d (.agg [.int .i64 a,.int .i64 b]))]):=by
 refine qac func121 rfl rfl (by simp[ntmps121]) (qab rfl _ _ _ _ ?_)
 simp only[ntmps121,results121,qak,List.length_nil]
 simp only[zC,seval]
 refine qad (q1j _ _ _ _) ?_
 simp only[zC,seval]
 refine⟨_,_,qai [] [0] rfl (by simp) (show qbk _ _ _=AV.d _ from rfl) rfl,?_,rfl⟩
 rfl
theorem Qd5 (a b:Int) (x:qam):qal prog Gl 126 [.d x.toD,.ptr 0 0] [.box 2 (.d (.agg [.int .i64 a,.int .i64 b]))] (fun r s=>r=.d (.bool (!qc4 a b x.at_))∧s=[.box 2 (.d (.agg [.int .i64 a,.int .i64 b]))]):=by
 refine qac func126 rfl rfl (by simp[ntmps126]) (qab rfl _ _ _ _ ?_)
 simp only[ntmps126,results126,qak,List.length_nil]
 simp only[zC,seval]
 refine qad (qrb _ _ _) ?_
 simp only[zC,seval]
 refine⟨_,_,qai [] [0] rfl (by simp) (show qbk _ _ _=AV.d _ from rfl) rfl,?_,rfl⟩
 rfl
theorem Qd4 (a b:Int) (x:qa2):qal prog Gl 128 [.d x.toD,.ptr 0 0] [.box 2 (.d (.agg [.int .i64 a,.int .i64 b]))] (fun r s=>r=.d (.bool (!qc4 a b x.at_))∧s=[.box 2 (.d (.agg [.int .i64 a,.int .i64 b]))]):=by
 refine qac func128 rfl rfl (by simp[ntmps128]) (qab rfl _ _ _ _ ?_)
 simp only[ntmps128,results128,qak,List.length_nil]
 simp only[zC,seval]
 refine qad (qrb _ _ _) ?_
 simp only[zC,seval]
 refine⟨_,_,qai [] [0] rfl (by simp) (show qbk _ _ _=AV.d _ from rfl) rfl,?_,rfl⟩
 rfl
theorem Qd6 (a b:Int) (x:qbf):qal prog Gl 123 [.d x.toD,.ptr 0 0] [.box 2 (.d (.agg [.int .i64 a,.int .i64 b]))] (fun r s=>r=.d (.bool (!qc4 a b x.send||!qc4 a b x.recv))∧s=[.box 2 (.d (.agg [.int .i64 a,.int .i64 b]))]):=by
 refine qac func123 rfl rfl (by simp[ntmps123]) (qab rfl _ _ _ _ ?_)
 simp only[ntmps123,results123,qak,List.length_nil]
 simp only[zC,seval]
 refine qad (qrb _ _ _) ?_
 simp only[zC,seval]
 repeat((with_reducible apply aI);exact sdp)
 refine qay (fun _=>qrb _ _ _) ?_
 simp only[zC,seval]
 repeat((with_reducible apply aI);exact sdp)
 refine⟨_,_,qai [] [0] rfl (by simp) (show qbk _ _ _=AV.d _ from rfl) rfl,?_,rfl⟩
 rfl
def qm9 (t:qaw):Bool:=t.slices.any (fun x=>!qdx x.lo x.hi t.lo t.hi)||t.states.any (fun x=>!qdx x.lo x.hi t.lo t.hi)||t.blocks.any (fun x=>!qdx x.lo x.hi t.lo t.hi)
 || t.flows.any (fun x=>!qc4 t.lo t.hi x.send||!qc4 t.lo t.hi x.recv)||t.samples.any (fun x=>!qc4 t.lo t.hi x.at_)||t.steps.any (fun x=>!qc4 t.lo t.hi x.at_)
structure qaw.Few (t:qaw):Prop where
 threads:t.threads.length<1000000
 slices:t.slices.length<1000000
 states:t.states.length<1000000
 flows:t.flows.length<1000000
 samples:t.samples.length<1000000
 steps:t.steps.length<1000000
 blocks:t.blocks.length<1000000
 lost:t.lost.length<1000000
 sst:∀x∈t.samples,x.stack.length<1000000
 bst:∀x∈t.blocks,x.stack.length<1000000
theorem Qh5 (t:qaw) (ht:t.Few):qba prog Gl 54 [.d t.toD] (.d (.bool (qm9 t))):=by
 refine qba.of1 ?_
 refine qac func54 rfl rfl (by simp[ntmps54]) (qab rfl _ _ _ _ ?_)
 simp only[ntmps54,results54,qak,List.length_nil]
 simp only[zC,seval]
 repeat((with_reducible apply aI);exact sdp)
 refine qd5 1 (qlo _ 2 _ _ (Qd9 t.lo t.hi) t.slices ht.slices) (fun s=>rfl) (by rfl) trivial ?_
 simp only[zC,seval]
 repeat((with_reducible apply aI);exact sdp)
 refine qhq 1 (qln _ 2 _ _ (Qd8 t.lo t.hi) t.states ht.states) (fun s=>rfl) (by rfl) trivial ?_
 simp only[zC,seval]
 repeat((with_reducible apply aI);exact sdp)
 refine qhq 1 (qlp _ 2 _ _ (Qd7 t.lo t.hi) t.blocks ht.blocks) (fun s=>rfl) (by rfl) trivial ?_
 simp only[zC,seval]
 repeat((with_reducible apply aI);exact sdp)
 refine qhq 1 (qnf _ 2 _ _ (Qd6 t.lo t.hi) t.flows ht.flows) (fun s=>rfl) (by rfl) trivial ?_
 simp only[zC,seval]
 repeat((with_reducible apply aI);exact sdp)
 refine qhq 1 (qkj _ 2 _ _ (Qd5 t.lo t.hi) t.samples ht.samples) (fun s=>rfl) (by rfl) trivial ?_
 simp only[zC,seval]
 repeat((with_reducible apply aI);exact sdp)
 refine qhq 1 (qne _ 2 _ _ (Qd4 t.lo t.hi) t.steps ht.steps) (fun s=>rfl) (by rfl) trivial ?_
 simp only[zC,seval]
 exact⟨_,_,qap,rfl,rfl⟩
def mapOf (l:List qaj):Key→Option AV:=l.foldl (fun f x=>qgs f (.i x.id) (.d (.str x.name))) (fun _=>none)
theorem Qdw (l:List qaj) (x:qaj):mapOf (l++[x])=qgs (mapOf l) (.i x.id) (.d (.str x.name)):=by simp[mapOf]
theorem quk:∀(l:List qaj) (g:Key→Option AV),(∀k v,g k=some v→∃d,v=.d d)→∀k v,l.foldl (fun f x=>qgs f (.i x.id) (.d (.str x.name))) g k=some v→∃d,v=.d d
 | [],g,hg,k,v,h=>hg k v h
 | x::l,g,hg,k,v,h=>quk l _ (fun k v hk=>by
   by_cases hq:k=.i x.id
   ·have e:qgs g (.i x.id) (.d (.str x.name)) k=some (.d (.str x.name)):=by unfold qgs;rw[if_pos hq]
    have hk:qgs g (.i x.id) (.d (.str x.name)) k=some v:=hk
    rw[e] at hk
    simp only[Option.some.injEq] at hk;exact⟨_,hk.symm⟩
   ·have e:qgs g (.i x.id) (.d (.str x.name)) k=g k:=by unfold qgs;rw[if_neg hq]
    have hk:qgs g (.i x.id) (.d (.str x.name)) k=some v:=hk
    rw[e] at hk
    exact hg k v hk) k v h
theorem qgt (l:List qaj):∀k v,mapOf l k=some v→∃d,v=.d d:=quk l _ (fun k v h=>by cases h)
def qeb (l:List qaj) (n:Int):Bool:=l.any fun x=>x.id==n
theorem q5h:∀(l:List qaj) (g:Key→Option AV) (n:Int),(l.foldl (fun f x=>qgs f (.i x.id) (.d (.str x.name))) g (.i n)).isSome=(qeb l n||(g (.i n)).isSome)
 | [],g,n=>by simp[qeb]
 | x::l,g,n=>by
  rw[List.foldl_cons,q5h l]
  unfold qeb qgs
  rw[List.any_cons]
  by_cases h:n=x.id
  ·subst h;simp
  ·have h2:(x.id==n)=false:=by simpa using fun e=>h e.symm
   have h3:¬Key.i n=Key.i x.id:=by simpa using h
   rw[if_neg h3,h2,Bool.false_or]
theorem qqe (l:List qaj) (n:Int):(mapOf l (.i n)).isSome=qeb l n:=by
 unfold mapOf;rw[q5h];simp
def qip (l:List qaj) (k:Nat):Int:=if qgp (l.getD k default)≠0 then qgp (l.getD k default) else if qeb (l.take k) (l.getD k default).id=true then 4 else 0
def qcj (l:List qaj):Int:=if 64<l.length then 7 else qa5 (qip l) l.length
theorem q5t (t:qaw) (ht:t.Few):qal prog Gl 98 [.d t.toD] [] (fun r s=>if qcj t.threads=0 then r=.tup [.mapr 0,.d (.int .i64 0)]∧s=[.map (some .i64) (mapOf t.threads)] else r=.tup [.d (.raw (.map none)),.d (.int .i64 (qcj t.threads))]∧s=[]):=by
 have hlen:=ht.threads
 refine qac func98 rfl rfl (by simp[ntmps98]) (qab rfl _ _ _ _ ?_)
 simp only[ntmps98,results98,qak,List.length_nil]
 simp only[zC,seval]
 repeat((with_reducible apply aI);exact sdp)
 refine ifC.mk (fun h=>?_) (fun h=>?_)
 ·have h:64<t.threads.length:=by simp at h;omega
  refine⟨_,_,qai [] [] rfl (by simp) (show qbk _ _ _=AV.tup [.d _,.d _] from rfl) rfl,?_⟩
  have e:qcj t.threads=7:=by rw[qcj,if_pos h]
  rw[e,if_neg (by decide)]
  exact⟨rfl,rfl⟩
 ·have h:¬64<t.threads.length:=by simp at h;omega
  repeat((with_reducible apply aI);exact sdp)
  have hF:qcj t.threads=qa5 (qip t.threads) t.threads.length:=by rw[qcj,if_neg h]
  refine qan t.threads.length (fun k=>[(4,.mapr 0),(16,.d (.sl (t.threads.map qaj.toD))),(17,.d (.int .i64 t.threads.length)),(18,.d (.int .i64 k))]) (fun k=>[.map (some .i64) (mapOf (t.threads.take k))]) (fun k=>qa5 (qip t.threads) k=0) rfl ?_ ?_
  ·refine qaa [] [1] rfl (by simp) ?_ ?_
   ·simp only[zC,seval,Int.cast_ofNat_Int]
    all_goals rfl
   ·rfl
  ·intro k hi hk
   have hst:=qgt (t.threads.take k)
   by_cases h2:k<t.threads.length
   ·simp only[zC,seval,(show(k:Int)<t.threads.length by omega),h2,qah _ _ _ (show k<t.threads.length by omega)]
    repeat((with_reducible apply aI);exact sdp)
    refine qad (Qms _) ?_
    simp only[zC,seval]
    refine ifC.mk (fun hc=>?_) (fun hc=>?_)
    ·have hc:qgp (t.threads.getD k default)≠0:=by simpa using hc
     have hat:qip t.threads k=qgp (t.threads.getD k default):=by rw[qip,if_pos hc]
     have hall:=qbu hi (by rw[hat];exact hc) h2
     rw[←hF,hat] at hall
     refine⟨_,_,qai [] [] rfl (by simp) (show qbk _ _ _=AV.tup [.d _,.d _] from rfl) rfl,?_⟩
     rw[if_neg (by rw[hall];exact hc),hall]
     exact⟨rfl,rfl⟩
    ·have hc:¬qgp (t.threads.getD k default)≠0:=by simpa using hc
     obtain⟨d,hd⟩:=qz0 hst (.i (t.threads.getD k default).id) (.str [])
     simp only[zC,seval,qqe,hd]
     repeat((with_reducible apply aI);exact sdp)
     refine ifC.mk (fun hz=>?_) (fun hz=>?_)
     ·have hat:qip t.threads k=4:=by rw[qip,if_neg hc,if_pos hz]
      have hall:=qbu hi (by rw[hat];decide) h2
      rw[←hF,hat] at hall
      refine⟨_,_,qai [] [] rfl (by simp) (show qbk _ _ _=AV.tup [.d _,.d _] from rfl) rfl,?_⟩
      rw[if_neg (by rw[hall];decide),hall]
      exact⟨rfl,rfl⟩
     ·have hat:qip t.threads k=0:=by rw[qip,if_neg hc,if_neg (by rw[hz];simp)]
      have hs:=Qdw (t.threads.take k) (t.threads.getD k default)
      rw[←qa0 _ _ h2] at hs
      repeat((with_reducible apply aI);exact sdp)
      refine⟨qa4 hi hat,?_⟩
      refine qaa [] [0] rfl (by simp) ?_ ?_
      ·simp only[zC,seval,@qaf ((k:Int)+1) (by omega)]
       all_goals rfl
      ·rw[hs]
       exact qbw (fun k v hk=>by rw[←hs] at hk;exact qgt _ k v hk) _
   ·simp only[zC,seval,(show ¬(k:Int)<t.threads.length by omega)]
    have:k=t.threads.length:=by omega
    subst this
    rw[List.take_length] at hst ⊢
    refine⟨_,_,qai [] [0] rfl (by simp) (show qbk _ _ _=AV.tup [.mapr 0,.d _] from rfl) (qbw hst _),?_⟩
    rw[hF,hi,if_pos rfl]
    exact⟨rfl,rfl⟩
def qeq (has:Int→Bool) (x:qbr):Int:=if has x.thread=false then 5 else if(!qgr x.lo x.hi||decide (x.count<1)||decide (1000000000000000<x.count))=true then 2 else 0
def q5j (has:Int→Bool) (l:List qbr):Int:=qa5 (fun k=>qeq has (l.getD k default)) l.length
theorem Qmm (f:Key→Option AV) (has:Int→Bool) (hst:∀k v,f k=some v→∃d,v=.d d) (hf:∀n,(f (.i n)).isSome=has n) (l:List qbr) (hl:l.length<1000000) :
  qal prog Gl 114 [.mapr 0,.d (.sl (l.map qbr.toD))] [.map (some .i64) f] (fun r s=>r=.d (.int .i64 (q5j has l))∧s=[.map (some .i64) f]):=by
 refine qac func114 rfl rfl (by simp[ntmps114]) (qab rfl _ _ _ _ ?_)
 simp only[ntmps114,results114,qak,List.length_nil]
 simp only[zC,seval]
 refine qan l.length (fun k=>[(0,.mapr 0),(9,.d (.sl (l.map qbr.toD))),(10,.d (.int .i64 l.length)),(11,.d (.int .i64 k))]) (fun _=>[.map (some .i64) f]) (fun k=>qa5 (fun k=>qeq has (l.getD k default)) k=0) rfl ?_ ?_
 ·refine qaa [] [0] rfl (by simp) ?_ (qbw hst _)
  simp only[zC,seval,Int.cast_ofNat_Int]
  all_goals rfl
 ·intro k hi hk
  by_cases h:k<l.length
  ·obtain⟨d,hd⟩:=qz0 hst (.i (l.getD k default).thread) (.str [])
   simp only[zC,seval,(show(k:Int)<l.length by omega),h,qah _ _ _ (show k<l.length by omega)]
   repeat((with_reducible apply aI);exact sdp)
   simp only[zC,seval,hf,hd]
   repeat((with_reducible apply aI);exact sdp)
   refine ifC.mk (fun hc=>?_) (fun hc=>?_)
   ·refine⟨_,_,qai [] [0] rfl (by simp) (show qbk _ _ _=AV.d _ from rfl) (qbw hst _),?_,rfl⟩
    have hat:qeq has (l.getD k default)=5:=by rw[qeq,if_pos (by simpa using hc)]
    have:=qbu (f:=fun k=>qeq has (l.getD k default)) hi (by simp only[hat];decide) h
    rw[q5j,this];simp only[hat]
   ·have hc:¬has (l.getD k default).thread=false:=by simpa using hc
    refine qad (q1p _ _) ?_
    simp only[zC,seval]
    repeat((with_reducible apply aI);exact sdp)
    refine ifC.mk (fun hz=>?_) (fun hz=>?_)
    ·refine⟨_,_,qai [] [0] rfl (by simp) (show qbk _ _ _=AV.d _ from rfl) (qbw hst _),?_,rfl⟩
     have hat:qeq has (l.getD k default)=2:=by rw[qeq,if_neg hc,if_pos hz]
     have:=qbu (f:=fun k=>qeq has (l.getD k default)) hi (by simp only[hat];decide) h
     rw[q5j,this];simp only[hat]
    ·have hat:qeq has (l.getD k default)=0:=by rw[qeq,if_neg hc,if_neg (by rw[hz];simp)]
     refine⟨qa4 hi hat,?_⟩
     refine qaa [] [0] rfl (by simp) ?_ (qbw hst _)
     simp only[zC,seval,@qaf ((k:Int)+1) (by omega)]
     all_goals rfl
  ·simp only[zC,seval,(show ¬(k:Int)<l.length by omega)]
   have:k=l.length:=by omega
   subst this
   refine⟨_,_,qai [] [0] rfl (by simp) (show qbk _ _ _=AV.d _ from rfl) (qbw hst _),?_,rfl⟩
   rw[q5j,hi]

theorem Qb4 (a:List UInt8):qba prog Gl 146 [.d (.str a)] (.d (.bool false)):=by
 refine qba.of1 ?_
 refine qac func146 rfl rfl (by simp[ntmps146]) (qab rfl _ _ _ _ ?_)
 simp only[ntmps146,results146,qak,List.length_nil]
 simp only[zC,seval]
 refine⟨_,_,qap,?_,rfl⟩
 simp
theorem Qh8 (a:Int):qba prog Gl 147 [.d (.int .i64 a)] (.d (.bool false)):=by
 refine qba.of1 ?_
 refine qac func147 rfl rfl (by simp[ntmps147]) (qab rfl _ _ _ _ ?_)
 simp only[ntmps147,results147,qak,List.length_nil]
 simp only[zC,seval]
 refine⟨_,_,qap,?_,rfl⟩
 simp
def qv7 (a b:Int):Int:=if a<b then -1 else if b<a then 1 else 0
theorem qjt (a b:Int):qba prog Gl 89 [.d (.int .i64 a),.d (.int .i64 b)] (.d (.int .i64 (qv7 a b))):=by
 refine qba.of2 ?_
 refine qac func89 rfl rfl (by simp[ntmps89]) (qab rfl _ _ _ _ ?_)
 simp only[ntmps89,results89,qak,List.length_nil]
 simp only[zC,seval]
 refine qad (Qh8 _) ?_
 simp only[zC,seval]
 refine qad (Qh8 _) ?_
 simp only[zC,seval]
 refine ifC.mk (fun h1=>?_) (fun h1=>?_)
 ·refine⟨_,_,qap,?_,rfl⟩
  rw[qv7,if_pos (by simpa using h1)]
 ·refine ifC.mk (fun h2=>?_) (fun h2=>?_)
  ·refine⟨_,_,qap,?_,rfl⟩
   rw[qv7,if_neg (by simpa using h1),if_pos (by simpa using h2)]
  ·refine⟨_,_,qap,?_,rfl⟩
   rw[qv7,if_neg (by simpa using h1),if_neg (by simpa using h2)]
def ltS (a b:List UInt8):Bool:=Op.bytesLess a b
def q6z (a b:List UInt8):Int:=if ltS a b=true then -1 else if(!(ltS a b||a==b))=true then 1 else 0
theorem qz8 (a b:List UInt8):qba prog Gl 88 [.d (.str a),.d (.str b)] (.d (.int .i64 (q6z a b))):=by
 refine qba.of2 ?_
 refine qac func88 rfl rfl (by simp[ntmps88]) (qab rfl _ _ _ _ ?_)
 simp only[ntmps88,results88,qak,List.length_nil]
 simp only[zC,seval]
 refine qad (Qb4 _) ?_
 simp only[zC,seval]
 refine qad (Qb4 _) ?_
 simp only[zC,seval]
 refine ifC.mk (fun h1=>?_) (fun h1=>?_)
 ·refine⟨_,_,qap,?_,rfl⟩
  rw[q6z,if_pos (show ltS a b=true from h1)]
 ·refine ifC.mk (fun h2=>?_) (fun h2=>?_)
  ·refine⟨_,_,qap,?_,rfl⟩
   rw[q6z,if_neg (by rw[show ltS a b=false from h1];simp),if_pos (show(!(ltS a b||a==b))=true from h2)]
  ·refine⟨_,_,qap,?_,rfl⟩
   rw[q6z,if_neg (by rw[show ltS a b=false from h1];simp),if_neg (show ¬(!(ltS a b||a==b))=true from by rw[show(!(ltS a b||a==b))=false from h2];simp)]
def orL:List Int→Int
 | []=>0
 | x::r=>if x=0 then orL r else x
theorem Qha:∀{l:List Int} {k:Nat},(l.take k).all (·==0)=true→k<l.length→l.getD k default≠0→orL l=l.getD k default
 | [],k,_,h,_=>by simp at h
 | x::r,0,_,_,h=>by rw[orL,if_neg (by simpa using h)];simp
 | x::r,k+1,h1,h2,h3=>by
  rw[List.take_succ_cons,List.all_cons,Bool.and_eq_true] at h1
  rw[orL,if_pos (by simpa using h1.1),Qha (l:=r) (k:=k) h1.2 (by simpa using h2) (by simpa using h3)];simp
theorem q08:∀{l:List Int},l.all (·==0)=true→orL l=0
 | [],_=>rfl
 | x::r,h=>by
  rw[List.all_cons,Bool.and_eq_true] at h
  rw[orL,if_pos (by simpa using h.1),q08 h.2]
theorem Qwh (xs:List Int) (hl:xs.length<1000000) (B:Blk) (hB:qdw 1 (xs.map (D.int .i64)) B):qal prog Gl 87 [.osl 0 0 xs.length] [B] (fun r s=>r=.d (.int .i64 (orL xs))∧s=[B]):=by
 rcases hB with rfl|rfl
 ·refine qac func87 rfl rfl (by simp[ntmps87]) (qab rfl _ _ _ _ ?_)
  simp only[ntmps87,results87,qak,List.length_nil]
  simp only[zC,seval]
  refine qan xs.length (fun k=>[(3,.d (.int .i64 0)),(6,.osl 0 0 xs.length),(7,.d (.int .i64 xs.length)),(8,.d (.int .i64 k))]) (fun _=>[.arr 1 (xs.map (D.int .i64))]) (fun k=>(xs.take k).all (·==0)=true) rfl ?_ ?_
  ·refine qaa [] [0] rfl (by simp) ?_ rfl
   simp only[zC,seval,Int.cast_ofNat_Int]
   all_goals rfl
  ·intro k hi hk
   by_cases h:k<xs.length
   ·have hs:=qdc (·==0) xs k h
    simp only[zC,seval,(show(k:Int)<xs.length by omega),h,qah _ _ _ (show k<xs.length by omega)]
    repeat((with_reducible apply aI);exact sdp)
    refine ifC.mk (fun hc=>?_) (fun hc=>?_)
    ·refine⟨_,_,qai [] [0] rfl (by simp) (show qbk _ _ _=AV.d _ from rfl) rfl,?_,rfl⟩
     rw[Qha hi h (by simpa using hc)]
    ·refine⟨by rw[hs,hi];simpa using hc,?_⟩
     refine qaa [] [0] rfl (by simp) ?_ rfl
     simp only[zC,seval,@qaf ((k:Int)+1) (by omega)]
     all_goals rfl
   ·simp only[zC,seval,(show ¬(k:Int)<xs.length by omega)]
    have:k=xs.length:=by omega
    subst this
    rw[List.take_length] at hi
    refine⟨_,_,qai [] [0] rfl (by simp) (show qbk _ _ _=AV.d _ from rfl) rfl,?_,rfl⟩
    rw[q08 hi]
 ·refine qac func87 rfl rfl (by simp[ntmps87]) (qab rfl _ _ _ _ ?_)
  simp only[ntmps87,results87,qak,List.length_nil]
  simp only[zC,seval]
  refine qan xs.length (fun k=>[(3,.d (.int .i64 0)),(6,.osl 0 0 xs.length),(7,.d (.int .i64 xs.length)),(8,.d (.int .i64 k))]) (fun _=>[.frz 1 (xs.map (D.int .i64))]) (fun k=>(xs.take k).all (·==0)=true) rfl ?_ ?_
  ·refine qaa [] [0] rfl (by simp) ?_ rfl
   simp only[zC,seval,Int.cast_ofNat_Int]
   all_goals rfl
  ·intro k hi hk
   by_cases h:k<xs.length
   ·have hs:=qdc (·==0) xs k h
    simp only[zC,seval,(show(k:Int)<xs.length by omega),h,qah _ _ _ (show k<xs.length by omega)]
    repeat((with_reducible apply aI);exact sdp)
    refine ifC.mk (fun hc=>?_) (fun hc=>?_)
    ·refine⟨_,_,qai [] [0] rfl (by simp) (show qbk _ _ _=AV.d _ from rfl) rfl,?_,rfl⟩
     rw[Qha hi h (by simpa using hc)]
    ·refine⟨by rw[hs,hi];simpa using hc,?_⟩
     refine qaa [] [0] rfl (by simp) ?_ rfl
     simp only[zC,seval,@qaf ((k:Int)+1) (by omega)]
     all_goals rfl
   ·simp only[zC,seval,(show ¬(k:Int)<xs.length by omega)]
    have:k=xs.length:=by omega
    subst this
    rw[List.take_length] at hi
    refine⟨_,_,qai [] [0] rfl (by simp) (show qbk _ _ _=AV.d _ from rfl) rfl,?_,rfl⟩
    rw[q08 hi]
def orF (a b:Int):Int:=if a=0 then b else a
theorem Qg9 (a b:Int):orL [a,b]=orF a b:=by simp only[orL,orF];split<;>simp_all
def qep (a b:qa2):Int:=orF (q6z a.name b.name) (qv7 a.at_ b.at_)
theorem Qrm (a b:qa2):qba prog Gl 170 [.d a.toD,.d b.toD] (.d (.int .i64 (qep a b))):=by
 refine qba.of2 ?_
 refine qac func170 rfl rfl (by simp[ntmps170]) (qab rfl _ _ _ _ ?_)
 simp only[ntmps170,results170,qak,List.length_nil]
 simp only[zC,seval]
 refine⟨.inl (by kernel_rfl),qad (qz8 _ _) ?_⟩
 simp only[zC,seval]
 refine qad (qjt _ _) ?_
 simp only[zC,seval]
 repeat((with_reducible apply aI);exact sdp)
 refine qjz 2 (fun B hB=>Qwh [q6z a.name b.name,qv7 a.at_ b.at_] (by simp) B hB) (fun _=>rfl) rfl ?_
 rw[Qg9]
 simp only[zC,seval]
 exact⟨_,_,qap,rfl,rfl⟩
theorem Qxk (a:Int):qba prog Gl 169 [.d (.int .i64 a)] (.d (.bool (decide (-1000000000000000≤a)&&decide (a≤1000000000000000)))):=by
 refine qba.of1 ?_
 refine qac func169 rfl rfl (by simp[ntmps169]) (qab rfl _ _ _ _ ?_)
 simp only[ntmps169,results169,qak,List.length_nil]
 simp only[zC,seval]
 exact⟨_,_,qap,rfl,rfl⟩
def inB (a:Int):Bool:=decide (-1000000000000000≤a)&&decide (a≤1000000000000000)
def Qs2 (b:qa2):Bool:=decide (b.at_<0)||decide (1000000000000<b.at_)||!inB b.value
def Qrb (a b:qa2):Bool:=decide (0≤qep a b)||(a.name==b.name&&a.value==b.value)
def Qfx (l:List qa2) (k:Nat):Int:=
 if qc3 (l.getD k default).name≠0 then qc3 (l.getD k default).name else if Qs2 (l.getD k default)=true then 2
 else if(decide (0<k)&&Qrb (l.getD (k-1) default) (l.getD k default))=true then 11 else 0
def qix (l:List qa2):Int:=qa5 (Qfx l) l.length
theorem Qo8 {l:List qa2} {k:Nat} (h:qc3 (l.getD k default).name≠0):Qfx l k=qc3 (l.getD k default).name:=by rw[Qfx,if_pos h]
theorem Qo9 {l:List qa2} {k:Nat} (h:qc3 (l.getD k default).name=0) (h2:Qs2 (l.getD k default)=true):Qfx l k=2:=by rw[Qfx,if_neg (by rw[h];simp),if_pos h2]
theorem Qo7 {l:List qa2} {k:Nat} (h:qc3 (l.getD k default).name=0) (h2:Qs2 (l.getD k default)=false):Qfx l k=if(decide (0<k)&&Qrb (l.getD (k-1) default) (l.getD k default))=true then 11 else 0:=by
 rw[Qfx,if_neg (by rw[h];simp),if_neg (by rw[h2];simp)]
theorem q7s (l:List qa2) (hl:l.length<1000000):qba prog Gl 110 [.d (.sl (l.map qa2.toD))] (.d (.int .i64 (qix l))):=by
 refine qba.of1 ?_
 refine qac func110 rfl rfl (by simp[ntmps110]) (qab rfl _ _ _ _ ?_)
 simp only[ntmps110,results110,qak,List.length_nil]
 simp only[zC,seval]
 refine qan l.length (fun k=>[(0,.d (.sl (l.map qa2.toD))),(6,.d (.sl (l.map qa2.toD))),(7,.d (.int .i64 l.length)),(8,.d (.int .i64 k))]) (fun _=>[]) (fun k=>qa5 (Qfx l) k=0) rfl ?_ ?_
 ·refine qaa [] [] rfl List.nodup_nil ?_ rfl
  simp only[zC,seval,Int.cast_ofNat_Int]
 ·intro k hi hk
  by_cases h:k<l.length
  ·have hb:∀e,Qfx l k=e→e≠0→qix l=e:=fun e h1 h2=>by rw[qix,qbu hi (by rw[h1];exact h2) h,h1]
   obtain⟨b,eb⟩:∃b,b=l.getD k default:=⟨_,rfl⟩
   simp only[zC,seval,(show(k:Int)<l.length by omega),h,qah _ _ _ (show k<l.length by omega),←eb]
   repeat((with_reducible apply aI);exact sdp)
   refine qad (qz7 _) ?_
   simp only[zC,seval]
   refine ifC.mk (fun h1=>?_) (fun h1=>?_)
   ·have h1:qc3 b.name≠0:=by simpa using h1
    refine⟨_,_,qap,?_,rfl⟩
    rw[hb _ (Qo8 (by rw[←eb];exact h1)) (by rw[←eb];exact h1),←eb]
   ·have h1:qc3 b.name=0:=by simpa using h1
    repeat((with_reducible apply aI);exact sdp)
    refine qay (fun _=>Qxk _) ?_
    simp only[zC,seval]
    repeat((with_reducible apply aI);exact sdp)
    refine ifC.mk (fun h2=>?_) (fun h2=>?_)
    ·refine⟨_,_,qap,?_,rfl⟩
     rw[hb 2 (Qo9 (by rw[←eb];exact h1) (by rw[←eb];exact h2)) (by omega)]
    ·have h2:Qs2 b=false:=h2
     have ho:=Qo7 (l:=l) (k:=k) (by rw[←eb];exact h1) (by rw[←eb];exact h2)
     rw[←eb] at ho
     by_cases hk0:0<k
     ·have e1:IntKind.i64.wrap ((k:Int)-1)=((k-1:Nat):Int):=by rw[qbh (by omega) (by omega)];omega
      obtain⟨a,ea⟩:∃a,a=l.getD (k-1) default:=⟨_,rfl⟩
      rw[decide_eq_true hk0,Bool.true_and,←ea] at ho
      simp only[zC,seval,(show(0:Int)<k by omega),e1,(show((k-1:Nat):Int)<l.length by omega),(show k-1<l.length by omega),qah _ _ _ (show k-1<l.length by omega),←ea]
      repeat((with_reducible apply aI);exact sdp)
      refine qay (fun _=>Qrm _ _) ?_
      simp only[zC,seval,(show(0:Int)<k by omega),e1,(show((k-1:Nat):Int)<l.length by omega),(show k-1<l.length by omega),qah _ _ _ (show k-1<l.length by omega),←ea]
      repeat((with_reducible apply aI);exact sdp)
      refine ifC.mk (fun h3=>?_) (fun h3=>?_)
      ·refine⟨_,_,qap,?_,rfl⟩
       rw[if_pos (show Qrb a b=true from h3)] at ho
       rw[hb 11 ho (by omega)]
      ·rw[if_neg (by rw[show Qrb a b=false from h3];simp)] at ho
       refine⟨qa4 hi ho,?_⟩
       refine qaa [] [] rfl List.nodup_nil ?_ rfl
       simp only[zC,seval,@qaf ((k:Int)+1) (by omega)]
     ·rw[decide_eq_false hk0,Bool.false_and,if_neg (by simp)] at ho
      have e0:(IntKind.i64.wrap ((k:Int)-1)).toNat=0:=by rw[qbh (by omega) (by omega)];omega
      simp only[zC,seval,(show ¬(0:Int)<k by omega),e0,qah _ _ _ (show 0<l.length by omega)]
      repeat((with_reducible apply aI);exact sdp)
      refine qay (v:=.d (.int .i64 0)) (fun h=>by cases h) ?_
      simp only[zC,seval,e0,qah _ _ _ (show 0<l.length by omega)]
      refine⟨qa4 hi ho,?_⟩
      refine qaa [] [] rfl List.nodup_nil ?_ rfl
      simp only[zC,seval,@qaf ((k:Int)+1) (by omega)]
  ·simp only[zC,seval,(show ¬(k:Int)<l.length by omega)]
   refine⟨_,_,qap,?_,rfl⟩
   have:k=l.length:=by omega
   rw[qix,←this,hi]
def ltN (a b:qa2):Prop:=ltS a.name b.name=true∨(a.name=b.name∧a.at_<b.at_)
theorem qd4 (a b:List UInt8):(ltS a b=true∧a≠b∧ltS b a=false∧q6z a b=-1)∨(ltS a b=false∧a=b∧ltS b a=false∧q6z a b=0)∨(ltS a b=false∧a≠b∧ltS b a=true∧q6z a b=1):=by
 rcases Qns a b with⟨h1,h2,h3⟩|⟨h1,h2,h3⟩|⟨h1,h2,h3⟩
 ·exact .inl ⟨h1,h2,h3,by unfold q6z ltS;rw[h1];rfl⟩
 ·exact .inr (.inl ⟨h1,h2,h3,by unfold q6z ltS;rw[h1,h2];simp⟩)
 ·exact .inr (.inr ⟨h1,h2,h3,by unfold q6z ltS;rw[h1];simp[h2]⟩)
theorem qhn (a b:Int):(a<b∧qv7 a b=-1)∨(a=b∧qv7 a b=0)∨(b<a∧qv7 a b=1):=by
 unfold qv7
 by_cases h:a<b
 ·exact .inl ⟨h,by rw[if_pos h]⟩
 ·by_cases h2:b<a
  ·exact .inr (.inr ⟨h2,by rw[if_neg h,if_pos h2]⟩)
  ·exact .inr (.inl ⟨by omega,by rw[if_neg h,if_neg h2]⟩)
theorem q44 (a b:qa2):qep a b<0↔ltN a b:=by
 unfold qep orF ltN
 rcases qd4 a.name b.name with⟨h1,h2,h3,h4⟩|⟨h1,h2,h3,h4⟩|⟨h1,h2,h3,h4⟩
 ·rw[h4,h1];simp
 ·rw[h4,h1,if_pos rfl]
  rcases qhn a.at_ b.at_ with⟨q,e⟩|⟨q,e⟩|⟨q,e⟩<;>rw[e]<;>simp[h2]<;>omega
 ·rw[h4,h1];simp[h2]
theorem Qra (a b:qa2):(ltS b.name a.name||(b.name==a.name&&(decide (b.at_≤a.at_)||b.value==a.value)))=Qrb a b:=by
 have hn:=q44 a b
 have hd:decide (0≤qep a b)=!decide (qep a b<0):=by rw[Bool.eq_iff_iff];simp
 unfold Qrb
 rw[hd]
 rcases qd4 a.name b.name with⟨h1,h2,h3,_⟩|⟨h1,h2,h3,_⟩|⟨h1,h2,h3,_⟩
 ·have:qep a b<0:=hn.2 (.inl h1)
  have h4:(b.name==a.name)=false:=by simpa using fun e=>h2 e.symm
  have h5:(a.name==b.name)=false:=by simpa using h2
  rw[show ltS b.name a.name=false from h3,h4,h5];simp[this]
 ·rw[show ltS b.name a.name=false from h3,h2]
  by_cases q:a.at_<b.at_
  ·have:qep a b<0:=hn.2 (.inr ⟨h2,q⟩)
   rw[decide_eq_true this]
   have e:decide (b.at_≤a.at_)=false:=by simp;omega
   rw[e];simp
   rw[Bool.eq_iff_iff];simp;exact⟨fun h=>h.symm,fun h=>h.symm⟩
  ·have:¬qep a b<0:=fun h=>by
    rcases hn.1 h with h|h
    ·rw[h1] at h;cases h
    ·exact q h.2
   rw[decide_eq_false this]
   have e:decide (b.at_≤a.at_)=true:=by simp;omega
   rw[e];simp
 ·have:¬qep a b<0:=fun h=>by
   rcases hn.1 h with h|h
   ·rw[h1] at h;cases h
   ·exact h2 h.1
  rw[show ltS b.name a.name=true from h3,decide_eq_false this];simp
theorem q51 (l:List qa2) (hl:l.length<1000000):qba prog Gl 181 [.d (.sl (l.map qa2.toD))] (.d (.int .i64 (qix l))):=by
 refine qba.of1 ?_
 refine qac func181 rfl rfl (by simp[ntmps181]) (qab rfl _ _ _ _ ?_)
 simp only[ntmps181,results181,qak,List.length_nil]
 simp only[zC,seval]
 refine qan l.length (fun k=>[(0,.d (.sl (l.map qa2.toD))),(3,.d (.int .i64 k))]) (fun _=>[]) (fun k=>qa5 (Qfx l) k=0) rfl ?_ ?_
 ·refine qaa [] [] rfl List.nodup_nil ?_ rfl
  simp only[zC,seval,Int.cast_ofNat_Int]
 ·intro k hi hk
  by_cases h:k<l.length
  ·have hb:∀e,Qfx l k=e→e≠0→qix l=e:=fun e h1 h2=>by rw[qix,qbu hi (by rw[h1];exact h2) h,h1]
   obtain⟨b,eb⟩:∃b,b=l.getD k default:=⟨_,rfl⟩
   simp only[zC,seval,(show(k:Int)<l.length by omega),h,qah _ _ _ (show k<l.length by omega),←eb]
   refine qad (qux _) ?_
   simp only[zC,seval]
   refine ifC.mk (fun h1=>?_) (fun h1=>?_)
   ·have h1:qc3 b.name≠0:=by simpa using h1
    refine⟨_,_,qap,?_,rfl⟩
    rw[hb _ (Qo8 (by rw[←eb];exact h1)) (by rw[←eb];exact h1),←eb]
   ·have h1:qc3 b.name=0:=by simpa using h1
    (try simp only[zC,seval,(show(k:Int)<l.length by omega),h,qah _ _ _ (show k<l.length by omega),←eb])
    repeat((with_reducible apply aI);exact sdp)
    have hbb:(decide (b.at_<0)||decide (1000000000000<b.at_)||decide (b.value < -1000000000000000)||decide (1000000000000000<b.value))=Qs2 b:=by
     unfold Qs2 inB;rw[Bool.eq_iff_iff];simp;omega
    refine ifC.mk (fun h2=>?_) (fun h2=>?_)
    ·refine⟨_,_,qap,?_,rfl⟩
     rw[hb 2 (Qo9 (by rw[←eb];exact h1) (by rw[←eb,←hbb];exact h2)) (by omega)]
    ·have ho:=Qo7 (l:=l) (k:=k) (by rw[←eb];exact h1) (by rw[←eb,←hbb];exact h2)
     rw[←eb] at ho
     by_cases hk0:0<k
     ·have e1:IntKind.i64.wrap ((k:Int)-1)=((k-1:Nat):Int):=by rw[qbh (by omega) (by omega)];omega
      obtain⟨a,ea⟩:∃a,a=l.getD (k-1) default:=⟨_,rfl⟩
      rw[decide_eq_true hk0,Bool.true_and,←ea] at ho
      (try simp only[zC,seval,(show(0:Int)<k by omega),e1,(show((k-1:Nat):Int)<l.length by omega),(show k-1<l.length by omega),qah _ _ _ (show k-1<l.length by omega),←ea,(show(k:Int)<l.length by omega),h,qah _ _ _ (show k<l.length by omega),←eb])
      repeat((with_reducible apply aI);exact sdp)
      rw[show(Op.bytesLess b.name a.name||(b.name==a.name&&(decide (b.at_≤a.at_)||b.value==a.value)))=Qrb a b from Qra a b]
      refine ifC.mk (fun h3=>?_) (fun h3=>?_)
      ·refine⟨_,_,qap,?_,rfl⟩
       rw[if_pos h3] at ho
       rw[hb 11 ho (by omega)]
      ·rw[if_neg (by rw[h3];simp)] at ho
       refine⟨qa4 hi ho,?_⟩
       refine qaa [] [] rfl List.nodup_nil ?_ rfl
       simp only[zC,seval,@qaf ((k:Int)+1) (by omega)]
     ·rw[decide_eq_false hk0,Bool.false_and,if_neg (by simp)] at ho
      have e0:(IntKind.i64.wrap ((k:Int)-1)).toNat=0:=by rw[qbh (by omega) (by omega)];omega
      (try simp only[zC,seval,(show ¬(0:Int)<k by omega),e0,qah _ _ _ (show 0<l.length by omega),(show(k:Int)<l.length by omega),h,qah _ _ _ (show k<l.length by omega),←eb])
      repeat((with_reducible apply aI);exact sdp)
      refine⟨qa4 hi ho,?_⟩
      refine qaa [] [] rfl List.nodup_nil ?_ rfl
      simp only[zC,seval,@qaf ((k:Int)+1) (by omega)]
  ·simp only[zC,seval,(show ¬(k:Int)<l.length by omega)]
   refine⟨_,_,qap,?_,rfl⟩
   have:k=l.length:=by omega
   rw[qix,←this,hi]
def Qnw (b:qar):Bool:=decide (b.id<0)||decide (1000000000000000<b.id)||decide (b.thread<0)||decide (1000000000000000<b.thread)||decide (b.size<1)||decide (1000000000000<b.size)||!(decide (0≤b.lo)&&decide (b.lo<b.hi)&&decide (b.hi≤1000000000000))
def qgx (a b:qar):Bool:=a.id==b.id&&decide (a.lo<b.hi)&&decide (b.lo<a.hi)
def Qe0 (l:List qar) (k:Nat):Int:=
 if Qnw (l.getD k default)=true then 2 else if qcv (l.getD k default).stack≠0 then qcv (l.getD k default).stack
 else if(decide (0<k)&&decide ((l.getD k default).lo<(l.getD (k-1) default).lo))=true then 11
 else if(l.take k).any (fun a=>qgx a (l.getD k default))=true then 4 else 0
def bkF (l:List qar):Int:=qa5 (Qe0 l) l.length
theorem Qcz {l:List qar} {k:Nat} (h:Qnw (l.getD k default)=true):Qe0 l k=2:=by rw[Qe0,if_pos h]
theorem Qkh {l:List qar} {k:Nat} (h:Qnw (l.getD k default)=false) (h2:qcv (l.getD k default).stack≠0):Qe0 l k=qcv (l.getD k default).stack:=by rw[Qe0,if_neg (by rw[h];simp),if_pos h2]
theorem Qcy {l:List qar} {k:Nat} (h:Qnw (l.getD k default)=false) (h2:qcv (l.getD k default).stack=0) (h3:(decide (0<k)&&decide ((l.getD k default).lo<(l.getD (k-1) default).lo))=true):Qe0 l k=11:=by
 rw[Qe0,if_neg (by rw[h];simp),if_neg (by rw[h2];simp),if_pos h3]
theorem q2c {l:List qar} {k:Nat} (h:Qnw (l.getD k default)=false) (h2:qcv (l.getD k default).stack=0) (h3:(decide (0<k)&&decide ((l.getD k default).lo<(l.getD (k-1) default).lo))=false) :
  Qe0 l k=if(l.take k).any (fun a=>qgx a (l.getD k default))=true then 4 else 0:=by
 rw[Qe0,if_neg (by rw[h];simp),if_neg (by rw[h2];simp),if_neg (by rw[h3];simp)]
theorem Qio (l:List qar) (hs:∀x∈l,x.stack.length<1000000) (hl:l.length<1000000):qba prog Gl 112 [.d (.sl (l.map qar.toD))] (.d (.int .i64 (bkF l))):=by
 refine qba.of1 ?_
 refine qac func112 rfl rfl (by simp[ntmps112]) (qab rfl _ _ _ _ ?_)
 simp only[ntmps112,results112,qak,List.length_nil]
 simp only[zC,seval]
 refine qan l.length (fun k=>[(0,.d (.sl (l.map qar.toD))),(8,.d (.sl (l.map qar.toD))),(9,.d (.int .i64 l.length)),(10,.d (.int .i64 k))]) (fun _=>[]) (fun k=>qa5 (Qe0 l) k=0) rfl ?_ ?_
 ·refine qaa [] [] rfl List.nodup_nil ?_ rfl
  simp only[zC,seval,Int.cast_ofNat_Int]
 ·intro k hi hk
  by_cases h:k<l.length
  ·have hb:∀e,Qe0 l k=e→e≠0→bkF l=e:=fun e h1 h2=>by rw[bkF,qbu hi (by rw[h1];exact h2) h,h1]
   obtain⟨b,eb⟩:∃b,b=l.getD k default:=⟨_,rfl⟩
   have lt:(l.take k).length=k:=by simp;omega
   simp only[zC,seval,(show(k:Int)<l.length by omega),h,qah _ _ _ (show k<l.length by omega),←eb]
   repeat((with_reducible apply aI);exact sdp)
   refine qay (fun _=>q1p _ _) ?_
   simp only[zC,seval]
   refine ifC.mk (fun h1=>?_) (fun h1=>?_)
   ·refine⟨_,_,qap,?_,rfl⟩
    rw[hb 2 (Qcz (by rw[←eb];exact h1)) (by omega)]
   ·have hb1:Qnw (l.getD k default)=false:=by rw[←eb];exact h1
    refine qad (Qb8 _ (by rw[eb];exact hs _ (qcd h))) ?_
    simp only[zC,seval]
    refine ifC.mk (fun h2=>?_) (fun h2=>?_)
    ·have h2:qcv (l.getD k default).stack≠0:=by rw[←eb];simpa using h2
     refine⟨_,_,qap,?_,rfl⟩
     rw[hb _ (Qkh hb1 h2) h2,eb]
    ·have hb2:qcv (l.getD k default).stack=0:=by rw[←eb];simpa using h2
     by_cases hk0:0<k
     ·have e1:IntKind.i64.wrap ((k:Int)-1)=((k-1:Nat):Int):=by rw[qbh (by omega) (by omega)];omega
      simp only[zC,seval,(show(0:Int)<k by omega),e1,(show((k-1:Nat):Int)<l.length by omega),(show k-1<l.length by omega),qah _ _ _ (show k-1<l.length by omega)]
      repeat((with_reducible apply aI);exact sdp)
      refine ifC.mk (fun h3=>?_) (fun h3=>?_)
      ·refine⟨_,_,qap,?_,rfl⟩
       rw[hb 11 (Qcy hb1 hb2 (by rw[←eb];simp[hk0];simpa using h3)) (by omega)]
      ·have hb3:(decide (0<k)&&decide ((l.getD k default).lo<(l.getD (k-1) default).lo))=false:=by rw[←eb];simp[hk0];simpa using h3
       (try simp only[zC,seval,←List.map_take,lt,(show(k:Int)≤l.length by omega)])
       repeat((with_reducible apply aI);exact sdp)
       have hcl:=q2c (l:=l) (k:=k) hb1 hb2 hb3
       refine qan k (fun j=>[(0,.d (.sl (l.map qar.toD))),(4,.ptr 0 0),(8,.d (.sl (l.map qar.toD))),(9,.d (.int .i64 l.length)),(10,.d (.int .i64 k)),(72,.d (.sl ((l.take k).map qar.toD))),(73,.d (.int .i64 k)),(74,.d (.int .i64 j))]) (fun _=>[.box 7 (.d b.toD)]) (fun j=>(l.take j).any (fun a=>qgx a (l.getD k default))=false) rfl ?_ ?_
       ·refine qaa [] [0] rfl (by simp) ?_ rfl
        simp only[zC,seval,Int.cast_ofNat_Int,←List.map_take,lt]
       ·intro j hj hjk
        by_cases h5:j<k
        ·have h6:j<(l.take k).length:=by rw[lt];exact h5
         have g1:(l.take k).getD j default=l.getD j default:=by simp[List.getElem?_take_of_lt h5]
         have hs:=qca (fun a=>qgx a (l.getD k default)) l j (by omega)
         simp only[zC,seval,(show(j:Int)<k by omega),h6,qah _ _ _ (show j<(l.take k).length by omega),lt,g1,h5]
         repeat((with_reducible apply aI);exact sdp)
         refine ifC.mk (fun hc=>?_) (fun hc=>?_)
         ·refine⟨_,_,qap,?_,rfl⟩
          rw[hb 4 (by rw[hcl,if_pos];rw[List.any_eq_true];exact⟨l.getD j default,by rw[←g1];exact qcd h6,by rw[←eb];exact hc⟩) (by omega)]
         ·refine⟨by rw[hs,hj,←eb];exact hc,?_⟩
          refine qaa [] [0] rfl (by simp) ?_ rfl
          simp only[zC,seval,@qaf ((j:Int)+1) (by omega)]
        ·simp only[zC,seval,(show ¬(j:Int)<k by omega)]
         have hjk:j=k:=by omega
         subst hjk
         refine⟨qa4 hi (by rw[hcl,if_neg (by rw[hj];simp)]),?_⟩
         refine qaa [] [] rfl List.nodup_nil ?_ rfl
         simp only[zC,seval,@qaf ((j:Int)+1) (by omega)]
     ·simp only[zC,seval,(show ¬(0:Int)<k by omega)]
      repeat((with_reducible apply aI);exact sdp)
      have hb3:(decide (0<k)&&decide ((l.getD k default).lo<(l.getD (k-1) default).lo))=false:=by simp[hk0]
      (try simp only[zC,seval,←List.map_take,lt,(show(k:Int)≤l.length by omega)])
      repeat((with_reducible apply aI);exact sdp)
      have hcl:=q2c (l:=l) (k:=k) hb1 hb2 hb3
      refine qan k (fun j=>[(0,.d (.sl (l.map qar.toD))),(4,.ptr 0 0),(8,.d (.sl (l.map qar.toD))),(9,.d (.int .i64 l.length)),(10,.d (.int .i64 k)),(72,.d (.sl ((l.take k).map qar.toD))),(73,.d (.int .i64 k)),(74,.d (.int .i64 j))]) (fun _=>[.box 7 (.d b.toD)]) (fun j=>(l.take j).any (fun a=>qgx a (l.getD k default))=false) rfl ?_ ?_
      ·refine qaa [] [0] rfl (by simp) ?_ rfl
       simp only[zC,seval,Int.cast_ofNat_Int,←List.map_take,lt]
      ·intro j hj hjk
       by_cases h5:j<k
       ·have h6:j<(l.take k).length:=by rw[lt];exact h5
        have g1:(l.take k).getD j default=l.getD j default:=by simp[List.getElem?_take_of_lt h5]
        have hs:=qca (fun a=>qgx a (l.getD k default)) l j (by omega)
        simp only[zC,seval,(show(j:Int)<k by omega),h6,qah _ _ _ (show j<(l.take k).length by omega),lt,g1,h5]
        repeat((with_reducible apply aI);exact sdp)
        refine ifC.mk (fun hc=>?_) (fun hc=>?_)
        ·refine⟨_,_,qap,?_,rfl⟩
         rw[hb 4 (by rw[hcl,if_pos];rw[List.any_eq_true];exact⟨l.getD j default,by rw[←g1];exact qcd h6,by rw[←eb];exact hc⟩) (by omega)]
        ·refine⟨by rw[hs,hj,←eb];exact hc,?_⟩
         refine qaa [] [0] rfl (by simp) ?_ rfl
         simp only[zC,seval,@qaf ((j:Int)+1) (by omega)]
       ·simp only[zC,seval,(show ¬(j:Int)<k by omega)]
        have hjk:j=k:=by omega
        subst hjk
        refine⟨qa4 hi (by rw[hcl,if_neg (by rw[hj];simp)]),?_⟩
        refine qaa [] [] rfl List.nodup_nil ?_ rfl
        simp only[zC,seval,@qaf ((j:Int)+1) (by omega)]
  ·simp only[zC,seval,(show ¬(k:Int)<l.length by omega)]
   refine⟨_,_,qap,?_,rfl⟩
   have:k=l.length:=by omega
   rw[bkF,←this,hi]
theorem Qc1 (b:qar):(decide (b.id<0)||decide (1000000000000000<b.id)||decide (b.thread<0)||decide (1000000000000000<b.thread)||decide (b.size<1)||decide (1000000000000<b.size)||decide (b.lo<0)||decide (b.hi≤b.lo)||decide (1000000000000<b.hi))=Qnw b:=by
 unfold Qnw
 rw[Bool.eq_iff_iff];simp;omega
theorem q54 (a b c d:Int):qba prog Gl 206 [.d (.agg [.int .i64 a,.int .i64 b]),.d (.agg [.int .i64 c,.int .i64 d])] (.d (.bool (decide (a<d)&&decide (c<b)))):=by
 refine qba.of2 ?_
 refine qac func206 rfl rfl (by simp[ntmps206]) (qab rfl _ _ _ _ ?_)
 simp only[ntmps206,results206,qak,List.length_nil]
 simp only[zC,seval]
 exact⟨_,_,qap,rfl,rfl⟩
theorem Qef (l:List qar) (hs:∀x∈l,x.stack.length<1000000) (hl:l.length<1000000):qba prog Gl 182 [.d (.sl (l.map qar.toD))] (.d (.int .i64 (bkF l))):=by
 refine qba.of1 ?_
 refine qac func182 rfl rfl (by simp[ntmps182]) (qab rfl _ _ _ _ ?_)
 simp only[ntmps182,results182,qak,List.length_nil]
 simp only[zC,seval]
 refine qan l.length (fun k=>[(0,.d (.sl (l.map qar.toD))),(3,.d (.int .i64 k))]) (fun _=>[]) (fun k=>qa5 (Qe0 l) k=0) rfl ?_ ?_
 ·refine qaa [] [] rfl List.nodup_nil ?_ rfl
  simp only[zC,seval,Int.cast_ofNat_Int]
 ·intro k hi hk
  by_cases h:k<l.length
  ·have hb:∀e,Qe0 l k=e→e≠0→bkF l=e:=fun e h1 h2=>by rw[bkF,qbu hi (by rw[h1];exact h2) h,h1]
   obtain⟨b,eb⟩:∃b,b=l.getD k default:=⟨_,rfl⟩
   simp only[zC,seval,(show(k:Int)<l.length by omega),h,qah _ _ _ (show k<l.length by omega),←eb]
   repeat((with_reducible apply aI);exact sdp)
   refine ifC.mk (fun h1=>?_) (fun h1=>?_)
   ·refine⟨_,_,qap,?_,rfl⟩
    rw[hb 2 (Qcz (by rw[←eb,←Qc1];exact h1)) (by omega)]
   ·have hb1:Qnw (l.getD k default)=false:=by rw[←eb,←Qc1];exact h1
    refine qad (q55 _ (by rw[eb];exact hs _ (qcd h))) ?_
    simp only[zC,seval]
    refine ifC.mk (fun h2=>?_) (fun h2=>?_)
    ·have h2:qcv (l.getD k default).stack≠0:=by rw[←eb];simpa using h2
     refine⟨_,_,qap,?_,rfl⟩
     rw[hb _ (Qkh hb1 h2) h2,eb]
    ·have hb2:qcv (l.getD k default).stack=0:=by rw[←eb];simpa using h2
     by_cases hk0:0<k
     ·have e1:IntKind.i64.wrap ((k:Int)-1)=((k-1:Nat):Int):=by rw[qbh (by omega) (by omega)];omega
      simp only[zC,seval,(show(0:Int)<k by omega),e1,(show((k-1:Nat):Int)<l.length by omega),(show k-1<l.length by omega),qah _ _ _ (show k-1<l.length by omega)]
      repeat((with_reducible apply aI);exact sdp)
      refine ifC.mk (fun h3=>?_) (fun h3=>?_)
      ·refine⟨_,_,qap,?_,rfl⟩
       rw[hb 11 (Qcy hb1 hb2 (by rw[←eb];simp[hk0];simpa using h3)) (by omega)]
      ·have hb3:(decide (0<k)&&decide ((l.getD k default).lo<(l.getD (k-1) default).lo))=false:=by rw[←eb];simp[hk0];simpa using h3
       have hcl:=q2c (l:=l) (k:=k) hb1 hb2 hb3
       refine qan k (fun j=>[(0,.d (.sl (l.map qar.toD))),(3,.d (.int .i64 k)),(4,.ptr 0 0),(6,.d (.int .i64 j))]) (fun _=>[.box 7 (.d b.toD)]) (fun j=>(l.take j).any (fun a=>qgx a (l.getD k default))=false) rfl ?_ ?_
       ·refine qaa [] [0] rfl (by simp) ?_ rfl
        simp only[zC,seval,Int.cast_ofNat_Int]
       ·intro j hj hjk
        by_cases h5:j<k
        ·have hs:=qca (fun a=>qgx a (l.getD k default)) l j (by omega)
         simp only[zC,seval,(show(j:Int)<k by omega),(show(j:Int)<l.length by omega),(show j<l.length by omega),qah _ _ _ (show j<l.length by omega),h5]
         repeat((with_reducible apply aI);exact sdp)
         refine qay (fun _=>q54 _ _ _ _) ?_
         simp only[zC,seval]
         repeat((with_reducible apply aI);exact sdp)
         refine ifC.mk (fun hc=>?_) (fun hc=>?_)
         ·refine⟨_,_,qap,?_,rfl⟩
          rw[hb 4 (by rw[hcl,if_pos];rw[List.any_eq_true];refine⟨l.getD j default,qh3 h5 (by omega),?_⟩;rw[←eb];unfold qgx;rw[Bool.and_assoc];exact hc) (by omega)]
         ·refine⟨by rw[hs,hj,←eb];unfold qgx;rw[Bool.and_assoc];exact hc,?_⟩
          refine qaa [] [0] rfl (by simp) ?_ rfl
          simp only[zC,seval,@qaf ((j:Int)+1) (by omega)]
        ·simp only[zC,seval,(show ¬(j:Int)<k by omega)]
         have hjk:j=k:=by omega
         subst hjk
         refine⟨qa4 hi (by rw[hcl,if_neg (by rw[hj];simp)]),?_⟩
         refine qaa [] [] rfl List.nodup_nil ?_ rfl
         simp only[zC,seval,@qaf ((j:Int)+1) (by omega)]
     ·simp only[zC,seval,(show ¬(0:Int)<k by omega)]
      repeat((with_reducible apply aI);exact sdp)
      have hb3:(decide (0<k)&&decide ((l.getD k default).lo<(l.getD (k-1) default).lo))=false:=by simp[hk0]
      have hcl:=q2c (l:=l) (k:=k) hb1 hb2 hb3
      refine qan k (fun j=>[(0,.d (.sl (l.map qar.toD))),(3,.d (.int .i64 k)),(4,.ptr 0 0),(6,.d (.int .i64 j))]) (fun _=>[.box 7 (.d b.toD)]) (fun j=>(l.take j).any (fun a=>qgx a (l.getD k default))=false) rfl ?_ ?_
      ·refine qaa [] [0] rfl (by simp) ?_ rfl
       simp only[zC,seval,Int.cast_ofNat_Int]
      ·intro j hj hjk
       by_cases h5:j<k
       ·have hs:=qca (fun a=>qgx a (l.getD k default)) l j (by omega)
        simp only[zC,seval,(show(j:Int)<k by omega),(show(j:Int)<l.length by omega),(show j<l.length by omega),qah _ _ _ (show j<l.length by omega),h5]
        repeat((with_reducible apply aI);exact sdp)
        refine qay (fun _=>q54 _ _ _ _) ?_
        simp only[zC,seval]
        repeat((with_reducible apply aI);exact sdp)
        refine ifC.mk (fun hc=>?_) (fun hc=>?_)
        ·refine⟨_,_,qap,?_,rfl⟩
         rw[hb 4 (by rw[hcl,if_pos];rw[List.any_eq_true];refine⟨l.getD j default,qh3 h5 (by omega),?_⟩;rw[←eb];unfold qgx;rw[Bool.and_assoc];exact hc) (by omega)]
        ·refine⟨by rw[hs,hj,←eb];unfold qgx;rw[Bool.and_assoc];exact hc,?_⟩
         refine qaa [] [0] rfl (by simp) ?_ rfl
         simp only[zC,seval,@qaf ((j:Int)+1) (by omega)]
       ·simp only[zC,seval,(show ¬(j:Int)<k by omega)]
        have hjk:j=k:=by omega
        subst hjk
        refine⟨qa4 hi (by rw[hcl,if_neg (by rw[hj];simp)]),?_⟩
        refine qaa [] [] rfl List.nodup_nil ?_ rfl
        simp only[zC,seval,@qaf ((j:Int)+1) (by omega)]
  ·simp only[zC,seval,(show ¬(k:Int)<l.length by omega)]
   refine⟨_,_,qap,?_,rfl⟩
   have:k=l.length:=by omega
   rw[bkF,←this,hi]

def q2f (n m:Int):Bool:=decide (n<0)||decide (m<n)
theorem q74 (n m:Int):qba prog Gl 166 [.d (.int .i64 n),.d (.int .i64 m)] (.d (.bool (q2f n m))):=by
 refine qba.of2 ?_
 refine qac func166 rfl rfl (by simp[ntmps166]) (qab rfl _ _ _ _ ?_)
 simp only[ntmps166,results166,qak,List.length_nil]
 simp only[zC,seval]
 exact⟨_,_,qap,rfl,rfl⟩
def qvx (f:qbf):Bool:=q2f f.id 1000000000000000||q2f f.ft 1000000000000000||q2f f.fs 1000000000000000||q2f f.tt 1000000000000000||q2f f.ts 1000000000000000||q2f f.send 1000000000000||q2f f.recv 1000000000000
def Qly (l:List qbf) (k:Nat):Bool:=decide ((l.getD k default).recv<(l.getD k default).send)||(decide (0<k)&&decide ((l.getD k default).recv<(l.getD (k-1) default).recv))
def Qna (l:List qbf) (k:Nat):Int:=if qvx (l.getD k default)=true then 2 else if Qly l k=true then 11 else 0
def qjv (l:List qbf):Int:=qa5 (Qna l) l.length
theorem qgv {l:List qbf} {k:Nat} (h:qvx (l.getD k default)=true):Qna l k=2:=by rw[Qna,if_pos h]
theorem Qjl {l:List qbf} {k:Nat} (h:qvx (l.getD k default)=false):Qna l k=if Qly l k=true then 11 else 0:=by rw[Qna,if_neg (by rw[h];simp)]
set_option maxHeartbeats 2000000 in
theorem q7w (l:List qbf) (hl:l.length<1000000):qba prog Gl 104 [.d (.sl (l.map qbf.toD))] (.d (.int .i64 (qjv l))):=by
 refine qba.of1 ?_
 refine qac func104 rfl rfl (by simp[ntmps104]) (qab rfl _ _ _ _ ?_)
 simp only[ntmps104,results104,qak,List.length_nil]
 simp only[zC,seval]
 refine qan l.length (fun k=>[(0,.d (.sl (l.map qbf.toD))),(5,.d (.sl (l.map qbf.toD))),(6,.d (.int .i64 l.length)),(7,.d (.int .i64 k))]) (fun _=>[]) (fun k=>qa5 (Qna l) k=0) rfl ?_ ?_
 ·refine qaa [] [] rfl List.nodup_nil ?_ rfl
  simp only[zC,seval,Int.cast_ofNat_Int]
 ·intro k hi hk
  by_cases h:k<l.length
  ·have hb:∀e,Qna l k=e→e≠0→qjv l=e:=fun e h1 h2=>by rw[qjv,qbu hi (by rw[h1];exact h2) h,h1]
   obtain⟨b,eb⟩:∃b,b=l.getD k default:=⟨_,rfl⟩
   simp only[zC,seval,(show(k:Int)<l.length by omega),h,qah _ _ _ (show k<l.length by omega),←eb]
   repeat((with_reducible apply aI);exact sdp)
   refine qad (q74 _ _) ?_
   cases h1:q2f b.id 1000000000000000 with
   | true=>
    simp only[zC,seval]
    refine⟨_,_,qap,?_,rfl⟩
    rw[hb 2 (qgv (by rw[←eb];clear eb hi hb;simp only[qvx, *];rfl)) (by omega)]
   | false=>
    simp only[zC,seval]
    refine qad (q74 _ _) ?_
    cases h2:q2f b.ft 1000000000000000 with
    | true=>
     simp only[zC,seval]
     refine⟨_,_,qap,?_,rfl⟩
     rw[hb 2 (qgv (by rw[←eb];clear eb hi hb;simp only[qvx, *];rfl)) (by omega)]
    | false=>
     simp only[zC,seval]
     refine qad (q74 _ _) ?_
     cases h3:q2f b.fs 1000000000000000 with
     | true=>
      simp only[zC,seval]
      refine⟨_,_,qap,?_,rfl⟩
      rw[hb 2 (qgv (by rw[←eb];clear eb hi hb;simp only[qvx, *];rfl)) (by omega)]
     | false=>
      simp only[zC,seval]
      refine qad (q74 _ _) ?_
      cases h4:q2f b.tt 1000000000000000 with
      | true=>
       simp only[zC,seval]
       refine⟨_,_,qap,?_,rfl⟩
       rw[hb 2 (qgv (by rw[←eb];clear eb hi hb;simp only[qvx, *];rfl)) (by omega)]
      | false=>
       simp only[zC,seval]
       refine qad (q74 _ _) ?_
       cases h5:q2f b.ts 1000000000000000 with
       | true=>
        simp only[zC,seval]
        refine⟨_,_,qap,?_,rfl⟩
        rw[hb 2 (qgv (by rw[←eb];clear eb hi hb;simp only[qvx, *];rfl)) (by omega)]
       | false=>
        simp only[zC,seval]
        refine qad (q74 _ _) ?_
        cases h6:q2f b.send 1000000000000 with
        | true=>
         simp only[zC,seval]
         refine⟨_,_,qap,?_,rfl⟩
         rw[hb 2 (qgv (by rw[←eb];clear eb hi hb;simp only[qvx, *];rfl)) (by omega)]
        | false=>
         simp only[zC,seval]
         refine qad (q74 _ _) ?_
         cases h7:q2f b.recv 1000000000000 with
         | true=>
          simp only[zC,seval]
          refine⟨_,_,qap,?_,rfl⟩
          rw[hb 2 (qgv (by rw[←eb];clear eb hi hb;simp only[qvx, *];rfl)) (by omega)]
         | false=>
          simp only[zC,seval]
          have ho:=Qjl (l:=l) (k:=k) (by rw[←eb];clear eb hi hb;simp only[qvx, *];rfl)
          rw[Qly,←eb] at ho
          cases h8:decide (b.recv<b.send) with
          | true=>
           simp only[zC,seval]
           refine⟨_,_,qap,?_,rfl⟩
           rw[h8,Bool.true_or,if_pos rfl] at ho
           rw[hb 11 ho (by omega)]
          | false=>
           simp only[zC,seval]
           rw[h8,Bool.false_or] at ho
           by_cases hk0:0<k
           ·have e1:IntKind.i64.wrap ((k:Int)-1)=((k-1:Nat):Int):=by rw[qbh (by omega) (by omega)];omega
            obtain⟨a,ea⟩:∃a,a=l.getD (k-1) default:=⟨_,rfl⟩
            rw[decide_eq_true hk0,Bool.true_and,←ea] at ho
            (try simp only[zC,seval,(show(0:Int)<k by omega),e1,(show((k-1:Nat):Int)<l.length by omega),(show k-1<l.length by omega),qah _ _ _ (show k-1<l.length by omega),←ea])
            repeat((with_reducible apply aI);exact sdp)
            refine ifC.mk (fun h9=>?_) (fun h9=>?_)
            ·refine⟨_,_,qap,?_,rfl⟩
             rw[if_pos h9] at ho
             rw[hb 11 ho (by omega)]
            ·rw[if_neg (by rw[h9];simp)] at ho
             refine⟨qa4 hi ho,?_⟩
             refine qaa [] [] rfl List.nodup_nil ?_ rfl
             simp only[zC,seval,@qaf ((k:Int)+1) (by omega)]
           ·rw[decide_eq_false hk0,Bool.false_and,if_neg (by simp)] at ho
            have e0:(IntKind.i64.wrap ((k:Int)-1)).toNat=0:=by rw[qbh (by omega) (by omega)];omega
            (try simp only[zC,seval,(show ¬(0:Int)<k by omega),e0,qah _ _ _ (show 0<l.length by omega)])
            repeat((with_reducible apply aI);exact sdp)
            refine⟨qa4 hi ho,?_⟩
            refine qaa [] [] rfl List.nodup_nil ?_ rfl
            simp only[zC,seval,@qaf ((k:Int)+1) (by omega)]
  ·simp only[zC,seval,(show ¬(k:Int)<l.length by omega)]
   refine⟨_,_,qap,?_,rfl⟩
   have:k=l.length:=by omega
   rw[qjv,←this,hi]
def qqi (s:qam):Bool:=decide (0≤s.thread)&&decide (s.thread≤1000000000000000)&&decide (0≤s.at_)&&decide (s.at_≤1000000000000)&&decide (1≤s.weight)&&decide (s.weight≤1000000000000)
theorem Qu5 (s:qam):qba prog Gl 167 [.d s.toD] (.d (.bool (qqi s))):=by
 refine qba.of1 ?_
 refine qac func167 rfl rfl (by simp[ntmps167]) (qab rfl _ _ _ _ ?_)
 simp only[ntmps167,results167,qak,List.length_nil]
 simp only[zC,seval]
 exact⟨_,_,qap,rfl,rfl⟩
def Qf0 (l:List qam) (k:Nat):Int:=if qqi (l.getD k default)=false then 2 else if qcv (l.getD k default).stack≠0 then qcv (l.getD k default).stack
 else if(decide (0<k)&&decide ((l.getD k default).at_<(l.getD (k-1) default).at_))=true then 11 else 0
def qe2 (l:List qam):Int:=qa5 (Qf0 l) l.length
theorem q9z {l:List qam} {k:Nat} (h:qqi (l.getD k default)=false):Qf0 l k=2:=by rw[Qf0,if_pos h]
theorem Qfz {l:List qam} {k:Nat} (h:qqi (l.getD k default)=true) (h2:qcv (l.getD k default).stack≠0):Qf0 l k=qcv (l.getD k default).stack:=by rw[Qf0,if_neg (by rw[h];simp),if_pos h2]
theorem Qfy {l:List qam} {k:Nat} (h:qqi (l.getD k default)=true) (h2:qcv (l.getD k default).stack=0):Qf0 l k=if(decide (0<k)&&decide ((l.getD k default).at_<(l.getD (k-1) default).at_))=true then 11 else 0:=by rw[Qf0,if_neg (by rw[h];simp),if_neg (by rw[h2];simp)]
theorem q1l (l:List qam) (hs:∀x∈l,x.stack.length<1000000) (hl:l.length<1000000):qba prog Gl 108 [.d (.sl (l.map qam.toD))] (.d (.int .i64 (qe2 l))):=by
 refine qba.of1 ?_
 refine qac func108 rfl rfl (by simp[ntmps108]) (qab rfl _ _ _ _ ?_)
 simp only[ntmps108,results108,qak,List.length_nil]
 simp only[zC,seval]
 refine qan l.length (fun k=>[(0,.d (.sl (l.map qam.toD))),(6,.d (.sl (l.map qam.toD))),(7,.d (.int .i64 l.length)),(8,.d (.int .i64 k))]) (fun _=>[]) (fun k=>qa5 (Qf0 l) k=0) rfl ?_ ?_
 ·refine qaa [] [] rfl List.nodup_nil ?_ rfl
  simp only[zC,seval,Int.cast_ofNat_Int]
 ·intro k hi hk
  by_cases h:k<l.length
  ·have hb:∀e,Qf0 l k=e→e≠0→qe2 l=e:=fun e h1 h2=>by rw[qe2,qbu hi (by rw[h1];exact h2) h,h1]
   obtain⟨b,eb⟩:∃b,b=l.getD k default:=⟨_,rfl⟩
   simp only[zC,seval,(show(k:Int)<l.length by omega),h,qah _ _ _ (show k<l.length by omega),←eb]
   repeat((with_reducible apply aI);exact sdp)
   refine qad (Qu5 _) ?_
   simp only[zC,seval]
   refine ifC.mk (fun h1=>?_) (fun h1=>?_)
   ·refine⟨_,_,qap,?_,rfl⟩
    rw[hb 2 (q9z (by rw[←eb];simpa using h1)) (by omega)]
   ·have h1:qqi (l.getD k default)=true:=by rw[←eb];simpa using h1
    repeat((with_reducible apply aI);exact sdp)
    refine qad (Qb8 _ (by rw[eb];exact hs _ (qcd h))) ?_
    simp only[zC,seval]
    refine ifC.mk (fun h2=>?_) (fun h2=>?_)
    ·have h2:qcv (l.getD k default).stack≠0:=by rw[←eb];simpa using h2
     refine⟨_,_,qap,?_,rfl⟩
     rw[hb _ (Qfz h1 h2) h2,eb]
    ·have ho:=Qfy h1 (by rw[←eb];simpa using h2)
     rw[←eb] at ho
     by_cases hk0:0<k
     ·have e1:IntKind.i64.wrap ((k:Int)-1)=((k-1:Nat):Int):=by rw[qbh (by omega) (by omega)];omega
      obtain⟨a,ea⟩:∃a,a=l.getD (k-1) default:=⟨_,rfl⟩
      rw[decide_eq_true hk0,Bool.true_and,←ea] at ho
      (try simp only[zC,seval,(show(0:Int)<k by omega),e1,(show((k-1:Nat):Int)<l.length by omega),(show k-1<l.length by omega),qah _ _ _ (show k-1<l.length by omega),←ea])
      repeat((with_reducible apply aI);exact sdp)
      refine ifC.mk (fun h9=>?_) (fun h9=>?_)
      ·refine⟨_,_,qap,?_,rfl⟩
       rw[if_pos h9] at ho
       rw[hb 11 ho (by omega)]
      ·rw[if_neg (by rw[h9];simp)] at ho
       refine⟨qa4 hi ho,?_⟩
       refine qaa [] [] rfl List.nodup_nil ?_ rfl
       simp only[zC,seval,@qaf ((k:Int)+1) (by omega)]
     ·rw[decide_eq_false hk0,Bool.false_and,if_neg (by simp)] at ho
      have e0:(IntKind.i64.wrap ((k:Int)-1)).toNat=0:=by rw[qbh (by omega) (by omega)];omega
      (try simp only[zC,seval,(show ¬(0:Int)<k by omega),e0,qah _ _ _ (show 0<l.length by omega)])
      repeat((with_reducible apply aI);exact sdp)
      refine⟨qa4 hi ho,?_⟩
      refine qaa [] [] rfl List.nodup_nil ?_ rfl
      simp only[zC,seval,@qaf ((k:Int)+1) (by omega)]
  ·simp only[zC,seval,(show ¬(k:Int)<l.length by omega)]
   refine⟨_,_,qap,?_,rfl⟩
   have:k=l.length:=by omega
   rw[qe2,←this,hi]
end YtljpopkonkanlaaGreatDoor
end Go.Proofs
