/- A part of the proof: contracts of functions of this seat, and lemmas. No condition beyond those stated. -/
import Derived.Test.YtafpldmnkcegmaaGreatG3
import Derived.Test.YtafpldmnkcegmaaGreatProg
import Derived.Test.YtafpldmnkcegmaaGreatG4
set_option linter.all false

namespace Go.Proofs
open Go.AM Tryz
namespace YtafpldmnkcegmaaGreat
def j8:B_ prog 27=some 52:=Ax
def j9:tsz prog 52=some 4:=Ax
def kD:Bj prog 52=some (Value.agg #[Value.int .i64 0,Value.int .i64 0,Value.int .i64 0,Value.slice none 0 0]):=Ax
def Yq:Co prog 297=some (some .u8,3):=Ax
def Bay:(Value.int .i64 0).cells.size=1/\BR prog 3=some false/\tsz prog 3=some 1/\E_ prog 3=some 8/\L7 prog 3=some .i64/\(prog.underlying 3).isSome=true/\Bj prog 3=some (Value.int .i64 0)/\Cp prog 3=.d (D.int .i64 0)/\D_ prog 3=some (D.int .i64 0)/\BR prog 4=some false/\tsz prog 4=some 1/\prog.underlying 4=some .bool/\Bj prog 4=some (Value.bool false)/\Cp prog 4=.d (D.bool false)/\BR prog 9=some false/\tsz prog 9=some 1/\E_ prog 9=some 16/\LX prog 9=true/\Bj prog 9=some (Value.string ⟨#[]⟩)/\(Value.string ⟨#[]⟩).cells.size=1/\Cp prog 9=.d (D.str [])/\(Value.pointer none).cells.size=1/\BR prog 22=some false/\tsz prog 22=some 1/\B_ prog 22=some 87/\D2 prog 22=3/\Cn prog 22=some (none,3)/\(Value.slice none 0 0).cells.size=1/\BR prog 23=some false/\tsz prog 23=some 1/\B_ prog 23=some 96/\D2 prog 23=2/\Cn prog 23=some (none,2)/\BR prog 24=some false/\tsz prog 24=some 1/\B_ prog 24=some 291/\D2 prog 24=5/\Cn prog 24=some (none,5)/\BR prog 26=some true/\tsz prog 26=some 3/\Az prog 26 0=some (0,1,false)/\Az prog 26 1=some (1,1,false)/\Az prog 26 2=some (2,1,false)/\DR prog 26=some [(0,1),(1,1),(2,1)]/\DM prog 26=some [.AA,.AA,.AA]/\Cp prog 26=.agg [.AA,.AA,.AA]/\BR prog 27=some false/\tsz prog 27=some 1/\B_ prog 27=some 52/\D2 prog 27=4/\Cn prog 27=some (none,4)/\Bj prog 27=some (Value.slice none 0 0)/\Cp prog 27=.AA/\BR prog 29=some true/\tsz prog 29=some 4/\Az prog 29 0=some (0,3,true)/\Az prog 29 1=some (3,1,false)/\DR prog 29=some [(0,3),(3,1)]/\DM prog 29=some [.AA,.AA,.AA,.AA]/\Cp prog 29=.agg [.AA,.AA,.AA,.AA]/\(Value.agg #[Value.int .i64 0,Value.int .i64 0]).cells.size=2:=Md
def Baz:BR prog 33=some true/\tsz prog 33=some 2/\E_ prog 33=some 16/\Az prog 33 0=some (0,1,false)/\Az prog 33 1=some (1,1,false)/\DR prog 33=some [(0,1),(1,1)]/\DM prog 33=some [.d (D.int .i64 0),.d (D.int .i64 0)]/\Bj prog 33=some (Value.agg #[Value.int .i64 0,Value.int .i64 0])/\Cp prog 33=.d (D.agg [D.int .i64 0,D.int .i64 0])/\D_ prog 33=some (D.agg [D.int .i64 0,D.int .i64 0])/\BR prog 34=some false/\tsz prog 34=some 1/\B_ prog 34=some 55/\D2 prog 34=8/\Cn prog 34=some (none,8)/\BR prog 35=some false/\tsz prog 35=some 1/\B_ prog 35=some 92/\D2 prog 35=7/\Cn prog 35=some (none,7)/\BR prog 36=some false/\tsz prog 36=some 1/\B_ prog 36=some 133/\D2 prog 36=7/\Cn prog 36=some (none,7)/\BR prog 37=some false/\tsz prog 37=some 1/\B_ prog 37=some 135/\D2 prog 37=4/\Cn prog 37=some (none,4)/\BR prog 38=some false/\tsz prog 38=some 1/\B_ prog 38=some 137/\D2 prog 38=3/\Cn prog 38=some (none,3)/\BR prog 39=some false/\tsz prog 39=some 1/\B_ prog 39=some 94/\D2 prog 39=7/\Cn prog 39=some (none,7)/\BR prog 40=some false/\tsz prog 40=some 1/\B_ prog 40=some 151/\D2 prog 40=4/\Cn prog 40=some (none,4)/\BR prog 42=some true/\tsz prog 42=some 10/\Az prog 42 0=some (0,2,true)/\Az prog 42 1=some (2,1,false)/\Az prog 42 2=some (3,1,false)/\Az prog 42 3=some (4,1,false)/\Az prog 42 4=some (5,1,false)/\Az prog 42 5=some (6,1,false)/\Az prog 42 6=some (7,1,false)/\Az prog 42 7=some (8,1,false)/\Az prog 42 8=some (9,1,false)/\DR prog 42=some [(0,2),(2,1),(3,1),(4,1),(5,1),(6,1),(7,1),(8,1),(9,1)]/\DM prog 42=some [.d (D.int .i64 0),.d (D.int .i64 0),.AA,.AA,.AA,.AA,.AA,.AA,.AA,.AA]/\Cp prog 42=.agg [.d (D.int .i64 0),.d (D.int .i64 0),.AA,.AA,.AA,.AA,.AA,.AA,.AA,.AA]/\BR prog 48=some false/\tsz prog 48=some 1/\B_ prog 48=some 3/\D2 prog 48=1/\E_ prog 48=some 24/\Cn prog 48=some (none,1)/\Bj prog 48=some (Value.slice none 0 0)/\Cp prog 48=.AA/\D_ prog 48=some (D.sl [])/\BR prog 50=some false/\tsz prog 50=some 1/\B_ prog 50=some 64/\D2 prog 50=6/\Cn prog 50=some (none,6)/\(Value.agg #[Value.int .i64 0,Value.int .i64 0,Value.int .i64 0,Value.slice none 0 0]).cells.size=4:=Md
def Ba0:BR prog 52=some true/\tsz prog 52=some 4/\E_ prog 52=some 48/\Az prog 52 0=some (0,1,false)/\Az prog 52 1=some (1,1,false)/\Az prog 52 2=some (2,1,false)/\Az prog 52 3=some (3,1,false)/\DR prog 52=some [(0,1),(1,1),(2,1),(3,1)]/\DM prog 52=some [.d (D.int .i64 0),.d (D.int .i64 0),.d (D.int .i64 0),.AA]/\Bj prog 52=some (Value.agg #[Value.int .i64 0,Value.int .i64 0,Value.int .i64 0,Value.slice none 0 0])/\Cp prog 52=.agg [.d (D.int .i64 0),.d (D.int .i64 0),.d (D.int .i64 0),.AA]/\D_ prog 52=some (D.agg [D.int .i64 0,D.int .i64 0,D.int .i64 0,D.sl []])/\(Value.agg #[Value.int .i64 0,Value.int .i64 0,Value.int .i64 0,Value.string ⟨#[]⟩,Value.int .i64 0,Value.int .i64 0,Value.int .i64 0,Value.bool false]).cells.size=8/\BR prog 55=some true/\tsz prog 55=some 8/\E_ prog 55=some 72/\Az prog 55 0=some (0,1,false)/\Az prog 55 1=some (1,1,false)/\Az prog 55 2=some (2,1,false)/\Az prog 55 3=some (3,1,false)/\Az prog 55 4=some (4,2,true)/\Az prog 55 5=some (6,1,false)/\Az prog 55 6=some (7,1,false)/\DR prog 55=some [(0,1),(1,1),(2,1),(3,1),(4,2),(6,1),(7,1)]/\DM prog 55=some [.d (D.int .i64 0),.d (D.int .i64 0),.d (D.int .i64 0),.d (D.str []),.d (D.int .i64 0),.d (D.int .i64 0),.d (D.int .i64 0),.d (D.bool false)]/\Bj prog 55=some (Value.agg #[Value.int .i64 0,Value.int .i64 0,Value.int .i64 0,Value.string ⟨#[]⟩,Value.int .i64 0,Value.int .i64 0,Value.int .i64 0,Value.bool false])/\Cp prog 55=.d (D.agg [D.int .i64 0,D.int .i64 0,D.int .i64 0,D.str [],D.int .i64 0,D.int .i64 0,D.int .i64 0,D.bool false])/\D_ prog 55=some (D.agg [D.int .i64 0,D.int .i64 0,D.int .i64 0,D.str [],D.int .i64 0,D.int .i64 0,D.int .i64 0,D.bool false])/\BR prog 56=some false/\tsz prog 56=some 1/\B_ prog 56=some 68/\D2 prog 56=10/\Cn prog 56=some (none,10)/\BR prog 60=some true/\tsz prog 60=some 2/\E_ prog 60=some 16/\Az prog 60 0=some (0,1,false)/\Az prog 60 1=some (1,1,false)/\DR prog 60=some [(0,1),(1,1)]/\DM prog 60=some [.d (D.int .i64 0),.d (D.int .i64 0)]/\Bj prog 60=some (Value.agg #[Value.int .i64 0,Value.int .i64 0])/\Cp prog 60=.d (D.agg [D.int .i64 0,D.int .i64 0])/\D_ prog 60=some (D.agg [D.int .i64 0,D.int .i64 0])/\BR prog 61=some false/\tsz prog 61=some 1/\BR prog 62=some false/\tsz prog 62=some 1/\B_ prog 62=some 9/\D2 prog 62=1/\Cn prog 62=some (none,1)/\(Value.agg #[Value.int .i64 0,Value.int .i64 0,Value.string ⟨#[]⟩,Value.int .i64 0,Value.int .i64 0,Value.slice none 0 0]).cells.size=6/\BR prog 64=some true/\tsz prog 64=some 6/\E_ prog 64=some 72/\Az prog 64 0=some (0,1,false)/\Az prog 64 1=some (1,1,false)/\Az prog 64 2=some (2,1,false)/\Az prog 64 3=some (3,1,false)/\Az prog 64 4=some (4,1,false)/\Az prog 64 5=some (5,1,false)/\DR prog 64=some [(0,1),(1,1),(2,1),(3,1),(4,1),(5,1)]/\DM prog 64=some [.d (D.int .i64 0),.d (D.int .i64 0),.d (D.str []),.d (D.int .i64 0),.d (D.int .i64 0),.AA]/\Bj prog 64=some (Value.agg #[Value.int .i64 0,Value.int .i64 0,Value.string ⟨#[]⟩,Value.int .i64 0,Value.int .i64 0,Value.slice none 0 0])/\Cp prog 64=.agg [.d (D.int .i64 0),.d (D.int .i64 0),.d (D.str []),.d (D.int .i64 0),.d (D.int .i64 0),.AA]/\D_ prog 64=some (D.agg [D.int .i64 0,D.int .i64 0,D.str [],D.int .i64 0,D.int .i64 0,D.sl []])/\BR prog 66=some true/\tsz prog 66=some 2/\Az prog 66 0=some (0,1,false)/\Az prog 66 1=some (1,1,false)/\DR prog 66=some [(0,1),(1,1)]/\DM prog 66=some [.d (D.int .i64 0),.d (D.int .i64 0)]/\Bj prog 66=some (Value.agg #[Value.int .i64 0,Value.int .i64 0])/\Cp prog 66=.d (D.agg [D.int .i64 0,D.int .i64 0])/\(Value.agg #[Value.int .i64 0,Value.int .i64 0,Value.int .i64 0,Value.int .i64 0,Value.string ⟨#[]⟩,Value.int .i64 0,Value.int .i64 0,Value.slice none 0 0,Value.int .i64 0,Value.int .i64 0]).cells.size=10/\BR prog 68=some true/\tsz prog 68=some 10/\E_ prog 68=some 104/\Az prog 68 0=some (0,2,true)/\Az prog 68 1=some (2,6,true)/\Az prog 68 2=some (8,2,true)/\DR prog 68=some [(0,2),(2,6),(8,2)]/\DM prog 68=some [.d (D.int .i64 0),.d (D.int .i64 0),.d (D.int .i64 0),.d (D.int .i64 0),.d (D.str []),.d (D.int .i64 0),.d (D.int .i64 0),.AA,.d (D.int .i64 0),.d (D.int .i64 0)]/\Bj prog 68=some (Value.agg #[Value.int .i64 0,Value.int .i64 0,Value.int .i64 0,Value.int .i64 0,Value.string ⟨#[]⟩,Value.int .i64 0,Value.int .i64 0,Value.slice none 0 0,Value.int .i64 0,Value.int .i64 0])/\Cp prog 68=.agg [.d (D.int .i64 0),.d (D.int .i64 0),.d (D.int .i64 0),.d (D.int .i64 0),.d (D.str []),.d (D.int .i64 0),.d (D.int .i64 0),.AA,.d (D.int .i64 0),.d (D.int .i64 0)]/\D_ prog 68=some (D.agg [D.int .i64 0,D.int .i64 0,D.int .i64 0,D.int .i64 0,D.str [],D.int .i64 0,D.int .i64 0,D.sl [],D.int .i64 0,D.int .i64 0]):=Md
def Ba1:(Value.agg #[Value.int .i64 0,Value.string ⟨#[]⟩,Value.int .i64 0]).cells.size=3/\BR prog 87=some true/\tsz prog 87=some 3/\LV prog 87=some [0,2,0]/\Az prog 87 0=some (0,1,false)/\Az prog 87 1=some (1,1,false)/\Az prog 87 2=some (2,1,false)/\DR prog 87=some [(0,1),(1,1),(2,1)]/\DM prog 87=some [.d (D.int .i64 0),.d (D.str []),.d (D.int .i64 0)]/\Bj prog 87=some (Value.agg #[Value.int .i64 0,Value.string ⟨#[]⟩,Value.int .i64 0])/\Cp prog 87=.d (D.agg [D.int .i64 0,D.str [],D.int .i64 0])/\D_ prog 87=some (D.agg [D.int .i64 0,D.str [],D.int .i64 0])/\B_ prog 89=some 33/\D2 prog 89=2/\Cn prog 89=some (none,2)/\(Value.agg #[Value.int .i64 0,Value.int .i64 0,Value.int .i64 0,Value.int .i64 0,Value.int .i64 0,Value.int .i64 0,Value.int .i64 0]).cells.size=7/\BR prog 92=some true/\tsz prog 92=some 7/\E_ prog 92=some 56/\Az prog 92 0=some (0,1,false)/\Az prog 92 1=some (1,1,false)/\Az prog 92 2=some (2,2,true)/\Az prog 92 3=some (4,1,false)/\Az prog 92 4=some (5,1,false)/\Az prog 92 5=some (6,1,false)/\DR prog 92=some [(0,1),(1,1),(2,2),(4,1),(5,1),(6,1)]/\DM prog 92=some [.d (D.int .i64 0),.d (D.int .i64 0),.d (D.int .i64 0),.d (D.int .i64 0),.d (D.int .i64 0),.d (D.int .i64 0),.d (D.int .i64 0)]/\Bj prog 92=some (Value.agg #[Value.int .i64 0,Value.int .i64 0,Value.int .i64 0,Value.int .i64 0,Value.int .i64 0,Value.int .i64 0,Value.int .i64 0])/\Cp prog 92=.d (D.agg [D.int .i64 0,D.int .i64 0,D.int .i64 0,D.int .i64 0,D.int .i64 0,D.int .i64 0,D.int .i64 0])/\D_ prog 92=some (D.agg [D.int .i64 0,D.int .i64 0,D.int .i64 0,D.int .i64 0,D.int .i64 0,D.int .i64 0,D.int .i64 0])/\(Value.agg #[Value.int .i64 0,Value.int .i64 0,Value.int .i64 0,Value.int .i64 0,Value.int .i64 0,Value.slice none 0 0,Value.bool false]).cells.size=7/\BR prog 94=some true/\tsz prog 94=some 7/\E_ prog 94=some 72/\Az prog 94 0=some (0,1,false)/\Az prog 94 1=some (1,1,false)/\Az prog 94 2=some (2,1,false)/\Az prog 94 3=some (3,2,true)/\Az prog 94 4=some (5,1,false)/\Az prog 94 5=some (6,1,false)/\DR prog 94=some [(0,1),(1,1),(2,1),(3,2),(5,1),(6,1)]/\DM prog 94=some [.d (D.int .i64 0),.d (D.int .i64 0),.d (D.int .i64 0),.d (D.int .i64 0),.d (D.int .i64 0),.AA,.d (D.bool false)]/\Bj prog 94=some (Value.agg #[Value.int .i64 0,Value.int .i64 0,Value.int .i64 0,Value.int .i64 0,Value.int .i64 0,Value.slice none 0 0,Value.bool false])/\Cp prog 94=.agg [.d (D.int .i64 0),.d (D.int .i64 0),.d (D.int .i64 0),.d (D.int .i64 0),.d (D.int .i64 0),.AA,.d (D.bool false)]/\D_ prog 94=some (D.agg [D.int .i64 0,D.int .i64 0,D.int .i64 0,D.int .i64 0,D.int .i64 0,D.sl [],D.bool false])/\BR prog 96=some true/\tsz prog 96=some 2/\LV prog 96=some [0,0]/\Az prog 96 0=some (0,1,false)/\Az prog 96 1=some (1,1,false)/\DR prog 96=some [(0,1),(1,1)]/\DM prog 96=some [.d (D.int .i64 0),.d (D.int .i64 0)]/\Bj prog 96=some (Value.agg #[Value.int .i64 0,Value.int .i64 0])/\Cp prog 96=.d (D.agg [D.int .i64 0,D.int .i64 0])/\D_ prog 96=some (D.agg [D.int .i64 0,D.int .i64 0])/\BR prog 97=some false/\tsz prog 97=some 1/\Co prog 97=some (some .i64,3)/\BR prog 98=some false/\tsz prog 98=some 1/\B_ prog 98=some 48/\D2 prog 98=1/\Cn prog 98=some (none,1)/\Cp prog 98=.AA/\BR prog 100=some true/\tsz prog 100=some 3/\Az prog 100 0=some (0,1,false)/\Az prog 100 1=some (1,1,false)/\Az prog 100 2=some (2,1,false)/\DR prog 100=some [(0,1),(1,1),(2,1)]/\DM prog 100=some [.d (D.raw (.map none)),.AA,.AA]/\Cp prog 100=.agg [.d (D.raw (.map none)),.AA,.AA]/\BR prog 105=some false/\tsz prog 105=some 1/\Co prog 105=some (some .i64,110):=Md
def Ba2:BR prog 106=some false/\tsz prog 106=some 1/\B_ prog 106=some 114/\D2 prog 106=1/\Cn prog 106=some (none,1)/\Az prog 108 0=some (0,1,false)/\Az prog 108 1=some (1,1,false)/\DR prog 108=some [(0,1),(1,1)]/\DM prog 108=some [.AA,.d (D.raw (.map none))]/\Ko prog 110=true/\Bj prog 110=some (Value.pointer none)/\Cp prog 110=.d (D.raw (.pointer none))/\Az prog 112 0=some (0,1,false)/\Az prog 112 1=some (1,1,false)/\Az prog 112 2=some (2,1,false)/\DR prog 112=some [(0,1),(1,1),(2,1)]/\DM prog 112=some [.AA,.d (D.int .i64 0),.d (D.int .i64 0)]/\BR prog 114=some false/\tsz prog 114=some 1/\E_ prog 114=some 8/\Bj prog 114=some (Value.pointer none)/\D_ prog 114=some (D.raw (.pointer none))/\Az prog 116 0=some (0,8,true)/\Az prog 116 1=some (8,1,false)/\Az prog 116 2=some (9,1,false)/\Az prog 116 3=some (10,1,false)/\DR prog 116=some [(0,8),(8,1),(9,1),(10,1)]/\DM prog 116=some [.d (D.int .i64 0),.d (D.int .i64 0),.d (D.int .i64 0),.d (D.str []),.d (D.int .i64 0),.d (D.int .i64 0),.d (D.int .i64 0),.d (D.bool false),.d (D.int .i64 0),.d (D.int .i64 0),.d (D.bool false)]/\Co prog 121=some (some .i64,123)/\Ko prog 123=true/\Bj prog 123=some (Value.pointer none)/\Cp prog 123=.d (D.raw (.pointer none))/\BR prog 124=some false/\tsz prog 124=some 1/\B_ prog 124=some 169/\D2 prog 124=5/\Cn prog 124=some (none,5)/\Az prog 126 0=some (0,1,false)/\Az prog 126 1=some (1,1,false)/\Az prog 126 2=some (2,1,false)/\DR prog 126=some [(0,1),(1,1),(2,1)]/\DM prog 126=some [.AA,.d (D.int .i64 0),.d (D.int .i64 0)]/\Co prog 130=some (some .i64,68)/\BR prog 133=some true/\tsz prog 133=some 7/\E_ prog 133=some 56/\Az prog 133 0=some (0,1,false)/\Az prog 133 1=some (1,2,true)/\Az prog 133 2=some (3,2,true)/\Az prog 133 3=some (5,1,false)/\Az prog 133 4=some (6,1,false)/\DR prog 133=some [(0,1),(1,2),(3,2),(5,1),(6,1)]/\DM prog 133=some [.d (D.int .i64 0),.d (D.int .i64 0),.d (D.int .i64 0),.d (D.int .i64 0),.d (D.int .i64 0),.d (D.int .i64 0),.d (D.int .i64 0)]/\Bj prog 133=some (Value.agg #[Value.int .i64 0,Value.int .i64 0,Value.int .i64 0,Value.int .i64 0,Value.int .i64 0,Value.int .i64 0,Value.int .i64 0])/\Cp prog 133=.d (D.agg [D.int .i64 0,D.int .i64 0,D.int .i64 0,D.int .i64 0,D.int .i64 0,D.int .i64 0,D.int .i64 0])/\D_ prog 133=some (D.agg [D.int .i64 0,D.int .i64 0,D.int .i64 0,D.int .i64 0,D.int .i64 0,D.int .i64 0,D.int .i64 0]):=Md
def Ba3:BR prog 135=some true/\tsz prog 135=some 4/\E_ prog 135=some 48/\Az prog 135 0=some (0,1,false)/\Az prog 135 1=some (1,1,false)/\Az prog 135 2=some (2,1,false)/\Az prog 135 3=some (3,1,false)/\DR prog 135=some [(0,1),(1,1),(2,1),(3,1)]/\DM prog 135=some [.d (D.int .i64 0),.d (D.int .i64 0),.d (D.int .i64 0),.AA]/\Bj prog 135=some (Value.agg #[Value.int .i64 0,Value.int .i64 0,Value.int .i64 0,Value.slice none 0 0])/\Cp prog 135=.agg [.d (D.int .i64 0),.d (D.int .i64 0),.d (D.int .i64 0),.AA]/\D_ prog 135=some (D.agg [D.int .i64 0,D.int .i64 0,D.int .i64 0,D.sl []])/\(Value.agg #[Value.string ⟨#[]⟩,Value.int .i64 0,Value.int .i64 0]).cells.size=3/\BR prog 137=some true/\tsz prog 137=some 3/\E_ prog 137=some 32/\Az prog 137 0=some (0,1,false)/\Az prog 137 1=some (1,1,false)/\Az prog 137 2=some (2,1,false)/\DR prog 137=some [(0,1),(1,1),(2,1)]/\DM prog 137=some [.d (D.str []),.d (D.int .i64 0),.d (D.int .i64 0)]/\Bj prog 137=some (Value.agg #[Value.string ⟨#[]⟩,Value.int .i64 0,Value.int .i64 0])/\Cp prog 137=.d (D.agg [D.str [],D.int .i64 0,D.int .i64 0])/\D_ prog 137=some (D.agg [D.str [],D.int .i64 0,D.int .i64 0])/\Co prog 146=some (some .i64,148)/\tsz prog 148=some 2/\Az prog 148 0=some (0,1,false)/\Az prog 148 1=some (1,1,false)/\DR prog 148=some [(0,1),(1,1)]/\DM prog 148=some [.d (D.int .i64 0),.d (D.int .i64 0)]/\Bj prog 148=some (Value.agg #[Value.int .i64 0,Value.int .i64 0])/\Cp prog 148=.d (D.agg [D.int .i64 0,D.int .i64 0])/\(Value.agg #[Value.int .i64 0,Value.int .i64 0,Value.int .i64 0,Value.int .i64 0]).cells.size=4/\BR prog 151=some true/\tsz prog 151=some 4/\E_ prog 151=some 32/\Az prog 151 0=some (0,1,false)/\Az prog 151 1=some (1,2,true)/\Az prog 151 2=some (3,1,false)/\DR prog 151=some [(0,1),(1,2),(3,1)]/\DM prog 151=some [.d (D.int .i64 0),.d (D.int .i64 0),.d (D.int .i64 0),.d (D.int .i64 0)]/\Bj prog 151=some (Value.agg #[Value.int .i64 0,Value.int .i64 0,Value.int .i64 0,Value.int .i64 0])/\Cp prog 151=.d (D.agg [D.int .i64 0,D.int .i64 0,D.int .i64 0,D.int .i64 0])/\D_ prog 151=some (D.agg [D.int .i64 0,D.int .i64 0,D.int .i64 0,D.int .i64 0])/\B_ prog 153=some 157/\D2 prog 153=9/\Cn prog 153=some (none,9)/\(Value.agg #[Value.int .i64 0,Value.int .i64 0,Value.int .i64 0,Value.string ⟨#[]⟩,Value.int .i64 0,Value.int .i64 0,Value.int .i64 0,Value.bool false,Value.int .i64 0]).cells.size=9/\BR prog 157=some true/\tsz prog 157=some 9/\E_ prog 157=some 80/\Az prog 157 0=some (0,8,true)/\Az prog 157 1=some (8,1,false)/\DR prog 157=some [(0,8),(8,1)]/\DM prog 157=some [.d (D.int .i64 0),.d (D.int .i64 0),.d (D.int .i64 0),.d (D.str []),.d (D.int .i64 0),.d (D.int .i64 0),.d (D.int .i64 0),.d (D.bool false),.d (D.int .i64 0)]/\Bj prog 157=some (Value.agg #[Value.int .i64 0,Value.int .i64 0,Value.int .i64 0,Value.string ⟨#[]⟩,Value.int .i64 0,Value.int .i64 0,Value.int .i64 0,Value.bool false,Value.int .i64 0])/\Cp prog 157=.d (D.agg [D.int .i64 0,D.int .i64 0,D.int .i64 0,D.str [],D.int .i64 0,D.int .i64 0,D.int .i64 0,D.bool false,D.int .i64 0])/\D_ prog 157=some (D.agg [D.int .i64 0,D.int .i64 0,D.int .i64 0,D.str [],D.int .i64 0,D.int .i64 0,D.int .i64 0,D.bool false,D.int .i64 0])/\(Value.agg #[Value.int .i64 0,Value.int .i64 0,Value.int .i64 0,Value.int .i64 0,Value.int .i64 0]).cells.size=5/\BR prog 169=some true/\tsz prog 169=some 5/\E_ prog 169=some 40/\Az prog 169 0=some (0,1,false)/\Az prog 169 1=some (1,1,false)/\Az prog 169 2=some (2,1,false)/\Az prog 169 3=some (3,1,false)/\Az prog 169 4=some (4,1,false)/\DR prog 169=some [(0,1),(1,1),(2,1),(3,1),(4,1)]/\DM prog 169=some [.d (D.int .i64 0),.d (D.int .i64 0),.d (D.int .i64 0),.d (D.int .i64 0),.d (D.int .i64 0)]/\Bj prog 169=some (Value.agg #[Value.int .i64 0,Value.int .i64 0,Value.int .i64 0,Value.int .i64 0,Value.int .i64 0])/\Cp prog 169=.d (D.agg [D.int .i64 0,D.int .i64 0,D.int .i64 0,D.int .i64 0,D.int .i64 0])/\D_ prog 169=some (D.agg [D.int .i64 0,D.int .i64 0,D.int .i64 0,D.int .i64 0,D.int .i64 0]):=Md
def Ba4:Co prog 176=some (some .i64,9)/\BR prog 213=some false/\tsz prog 213=some 1/\BR prog 216=some false/\tsz prog 216=some 1/\B_ prog 216=some 60/\D2 prog 216=2/\Cn prog 216=some (none,2)/\BR prog 217=some false/\tsz prog 217=some 1/\Co prog 217=some (some .u8,3)/\Az prog 219 0=some (0,4,true)/\Az prog 219 1=some (4,1,false)/\Az prog 219 2=some (5,1,false)/\Az prog 219 3=some (6,1,false)/\Az prog 219 4=some (7,1,false)/\DR prog 219=some [(0,4),(4,1),(5,1),(6,1),(7,1)]/\DM prog 219=some [.AA,.AA,.AA,.AA,.AA,.d (D.raw (.map none)),.AA,.AA]/\Cn prog 220=some (none,1)/\L7 prog 245=some .u64/\(prog.underlying 245).isSome=true/\Co prog 247=some (some .u8,66)/\BR prog 248=some true/\tsz prog 248=some 2/\Cn prog 248=some (some 2,1)/\DR prog 248=some [(0,1),(1,1)]/\DM prog 248=some [.d (D.int .i64 0),.d (D.int .i64 0)]/\Cp prog 248=.d (D.agg [D.int .i64 0,D.int .i64 0])/\L7 prog 267=some .u32/\L7 prog 269=some .u64/\(prog.underlying 269).isSome=true/\Co prog 279=some (some .i64,48):=Md
def Ba5:BR prog 291=some true/\tsz prog 291=some 5/\E_ prog 291=some 40/\LV prog 291=some [0,0,0,0,0]/\Az prog 291 0=some (0,1,false)/\Az prog 291 1=some (1,1,false)/\Az prog 291 2=some (2,1,false)/\Az prog 291 3=some (3,2,true)/\Bj prog 291=some (Value.agg #[Value.int .i64 0,Value.int .i64 0,Value.int .i64 0,Value.int .i64 0,Value.int .i64 0])/\Cp prog 291=.d (D.agg [D.int .i64 0,D.int .i64 0,D.int .i64 0,D.int .i64 0,D.int .i64 0])/\D_ prog 291=some (D.agg [D.int .i64 0,D.int .i64 0,D.int .i64 0,D.int .i64 0,D.int .i64 0])/\Co prog 296=some (some .i64,4)/\BR prog 297=some false/\tsz prog 297=some 1/\Co prog 297=some (some .u8,3)/\BR prog 298=some false/\tsz prog 298=some 1/\B_ prog 298=some 305/\D2 prog 298=3/\Cn prog 298=some (none,3)/\Az prog 300 0=some (0,1,false)/\Az prog 300 1=some (1,1,false)/\DR prog 300=some [(0,1),(1,1)]/\DM prog 300=some [.d (D.raw (.map none)),.AA]/\(Value.agg #[Value.int .i64 0,Value.int .i64 0,Value.int .i64 0]).cells.size=3/\BR prog 305=some true/\tsz prog 305=some 3/\E_ prog 305=some 24/\Az prog 305 0=some (0,1,false)/\Az prog 305 1=some (1,1,false)/\Az prog 305 2=some (2,1,false)/\DR prog 305=some [(0,1),(1,1),(2,1)]/\DM prog 305=some [.d (D.int .i64 0),.d (D.int .i64 0),.d (D.int .i64 0)]/\Bj prog 305=some (Value.agg #[Value.int .i64 0,Value.int .i64 0,Value.int .i64 0])/\Cp prog 305=.d (D.agg [D.int .i64 0,D.int .i64 0,D.int .i64 0])/\D_ prog 305=some (D.agg [D.int .i64 0,D.int .i64 0,D.int .i64 0])/\DR prog 308=some [(0,1),(1,1)]/\DM prog 308=some [.d (D.int .i64 0),.d (D.int .i64 0)]/\Co prog 325=some (some .i64,27)/\Co prog 346=some (some .i64,347)/\Bj prog 347=some (Value.pointer none)/\Cp prog 347=.d (D.raw (.pointer none))/\Az prog 349 0=some (0,1,false)/\Az prog 349 1=some (1,1,false)/\DR prog 349=some [(0,1),(1,1)]/\DM prog 349=some [.d (D.int .i64 0),.d (D.int .i64 0)]:=Md
def Ba6:BR prog 366=some false/\tsz prog 366=some 1/\(Value.agg #[Value.string ⟨#[]⟩,Value.bool false,Value.bool false,Value.bool false,Value.bool false,Value.int .i64 0,Value.int .i64 0,Value.int .i64 0,Value.int .i64 0]).cells.size=9/\BR prog 369=some true/\tsz prog 369=some 9/\Az prog 369 1=some (1,1,false)/\Az prog 369 2=some (2,1,false)/\Az prog 369 3=some (3,1,false)/\Az prog 369 4=some (4,1,false)/\Az prog 369 5=some (5,1,false)/\Az prog 369 6=some (6,1,false)/\Az prog 369 7=some (7,1,false)/\Az prog 369 8=some (8,1,false)/\DR prog 369=some [(0,1),(1,1),(2,1),(3,1),(4,1),(5,1),(6,1),(7,1),(8,1)]/\DM prog 369=some [.d (D.str []),.d (D.bool false),.d (D.bool false),.d (D.bool false),.d (D.bool false),.d (D.int .i64 0),.d (D.int .i64 0),.d (D.int .i64 0),.d (D.int .i64 0)]/\Bj prog 369=some (Value.agg #[Value.string ⟨#[]⟩,Value.bool false,Value.bool false,Value.bool false,Value.bool false,Value.int .i64 0,Value.int .i64 0,Value.int .i64 0,Value.int .i64 0])/\Cp prog 369=.d (D.agg [D.str [],D.bool false,D.bool false,D.bool false,D.bool false,D.int .i64 0,D.int .i64 0,D.int .i64 0,D.int .i64 0])/\D_ prog 369=some (D.agg [D.str [],D.bool false,D.bool false,D.bool false,D.bool false,D.int .i64 0,D.int .i64 0,D.int .i64 0,D.int .i64 0])/\B_ prog 373=some 369/\D2 prog 373=9/\Cn prog 373=some (none,9):=Md
def Z1:=aI (aI (aI Bay Baz) (aI Ba0 Ba1)) (aI (aI Ba2 Ba3) (aI Ba4 (aI Ba5 Ba6)))
end YtafpldmnkcegmaaGreat
end Go.Proofs

set_option maxRecDepth 100000
namespace Go.Proofs
open Go.AM Tryz
namespace YtafpldmnkcegmaaGreat
variable {Gl:BM}
def zA:=aI (aI (aI @Ys @ZJ) (aI @ZI @Z1)) (aI (aI @jB @Xm) (aI @Xx (aI @T1 @Vn)))
def Q9r(s:List UInt8)(c:Int):AT prog Gl 239 [.d (.str s),.d (.int .u8 c)] (.d (.int .i64 (Lib.indexByte s c.toNat.toUInt8))):=
 rD func239 Ax Ax Ax Ax s c
def Q9o(s:List UInt8)(c:Int):AT prog Gl 212 [.d (.str s),.d (.int .u8 c)] (.d (.int .i64 (Lib.indexByte s c.toNat.toUInt8))):=by
 refine FB ?_;refine acS func212 ntmps212 results212 ?_;simp only[zA,seval,B6];refine Ak (Q9r s c) ?_;simp only[zA,seval];exact Lp
def rf(s:List UInt8)(c:Int):AT prog Gl 189 [.d (.str s),.d (.int .u8 c)] (.d (.int .i64 (Lib.indexByte s c.toNat.toUInt8))):=by
 refine FB ?_;refine acS func189 ntmps189 results189 ?_;simp only[zA,seval,B6];refine Ak (Q9o s c) ?_;simp only[zA,seval];exact Lp
def Q8w:List UInt8:=[95,46,58,47,60,62,36,42,126,45]
def Rl(c:Int):Bool:=(decide (97<=c)&&decide (c<=122))||(decide (65<=c)&&decide (c<=90))||(decide (48<=c)&&decide (c<=57))||decide (0<=Lib.indexByte Q8w c.toNat.toUInt8)
def wC(c:Int):AT prog Gl 158 [.d (.int .u8 c)] (.d (.bool (Rl c))):=by
 refine CN ?_;refine acS func158 ntmps158 results158 ?_;simp only[zA,seval,B6];refine Ag ?_;refine DS (λ_=>rf _ _) ?_;simp only[zA,seval];exact D0
def Ih(s:List UInt8):Bool:=decide (1<=s.length)&&decide (s.length<=40)&&s.all λc=>Rl c.toNat
def FE(s:List UInt8):Int:=if Ih s=true then 0 else 3
def Ts{s:List UInt8}(h:Ih s=false):FE s=3:=by simp[FE,h]
def jl{s:List UInt8}(h:Ih s=true):FE s=0:=by simp[FE,h]
def iD{s:List UInt8}(h:1<=s.length/\s.length<=40):Ih s=s.all λc=>Rl c.toNat:=by simp[Ih,h]
def Qef{s:List UInt8}(h:¬(1<=s.length/\s.length<=40)):Ih s=false:=by
 unfold Ih;by_cases h1:1<=s.length
 ·have:¬s.length<=40:=λh2=>h ⟨h1,h2⟩;simp[this]
 simp[h1]
def SQ(s:List UInt8):AT prog Gl 128 [.d (.str s)] (.d (.int .i64 (FE s))):=by
 refine CN ?_;refine acS func128 ntmps128 results128 ?_;simp only[zA,seval,B6];refine Ag ?_;apply ifC.mk<;>intro h
 ·refine BT ?_;rw[Ts (Qef λhn=>?_)];cases s<;>simp at h hn;omega
 have hn:1<=s.length/\s.length<=40:=by cases s<;>simp at h ⊢;omega
 refine Bm s.length (λk=>[(0,.d (.str s)),(12,(s.length:Int)),(13,(k:Int))]) (λ_=>[]) (λk=>((s.take k).all λc=>Rl c.toNat)=true) rfl ?_ ?_
 ·refine Gw ?_;simp only[zA,seval,HB]
 intro k hi hk;by_cases h:k<s.length
 ·have hs:=Uu (λc=>Rl c.toNat) s k h;have hd:s.getD k 0=s.getD k default:=rfl;simp only[zA,seval,(oo:(k:Int)<s.length),hd];refine Ag ?_;refine Ak (wC _) ?_;simp only[zA,seval];apply ifC.mk<;>intro hc
  ·refine BT ?_;rw[Ts (by rw[iD hn];exact XA _ s k h Dc)]
  refine⟨h,ao,?_⟩;refine Gw ?_;simp only[zA,seval,a_w ((k:Int)+1)]
 simp only[zA,seval,(oo:¬(k:Int)<s.length)];refine BT ?_;have:k=s.length:=oo;rw[this,BL] at hi;rw[jl (by rw[iD hn];exact hi)]
def FI(l:List (List UInt8)):Int:=if 32<l.length then 7 else if l.all Ih=true then 0 else 3
def gm(l:List (List UInt8)):AT prog Gl 134 [.d (.sl (l.map .str))] (.d (.int .i64 (FI l))):=by
 refine CN ?_;refine acS func134 ntmps134 results134 ?_;simp only[zA,seval,B6];apply ifC.mk<;>intro h
 ·refine BT ?_;simp at h;have h:32<l.length:=oo;rw[FI,AD h]
 simp at h;have h:¬32<l.length:=oo;refine Bm l.length (λk=>[(9,.d (.sl (l.map .str))),(10,(l.length:Int)),(11,(k:Int))]) (λ_=>[]) (λk=>(l.take k).all Ih=true) rfl ?_ ?_
 ·refine Gw ?_;simp only[zA,seval,HB]
 intro k hi hk;by_cases h2:k<l.length
 ·have hs:=Uu Ih l k h2;simp only[zA,seval,(oo:(k:Int)<l.length),h2,Af _ _ _ (oo:k<l.length)];refine Ak (SQ _) ?_;simp only[zA,seval];apply ifC.mk<;>intro hc
  ·refine BT ?_;have hb:Ih (l.getD k default)=false:=by
    cases hb:Ih (l.getD k default) with
    | false=>rfl
    | true=>rw[jl hb] at hc;simp at hc
   rw[FI,A7 h,A7 (by rw[XA _ l k h2 hb];simp),Ts hb]
  have hb:Ih (l.getD k default)=true:=by
   cases hb:Ih (l.getD k default) with
   | true=>rfl
   | false=>rw[Ts hb] at hc;simp at hc
  refine⟨by rw[hs,hi,hb];rfl,?_⟩;refine Gw ?_;simp only[zA,seval,a_w ((k:Int)+1)]
 simp only[zA,seval,(oo:¬(k:Int)<l.length)];refine BT ?_;have:k=l.length:=oo;rw[this,BL] at hi;rw[FI,A7 h,AD hi]
def fc(l:List (List UInt8))(hl:l.length<1000000):AT prog Gl 134 [.d (.sl (l.map .str))] (.d (.int .i64 (FI l))):=gm l

structure An where
 id:Int
 name:List UInt8
 Gt:Int
deriving Inhabited,DecidableEq
def An.A5(x:An):D:=.agg [.int .i64 x.id,.str x.name,.int .i64 x.Gt]
structure Ac where
 A0:Int
 parent:Int
 depth:Int
 name:List UInt8
 lo:Int
 hi:Int
 self:Int
 open_:Bool
deriving Inhabited,DecidableEq
def Ac.A5(x:Ac):D:=.agg [.int .i64 x.A0,.int .i64 x.parent,.int .i64 x.depth,.str x.name,.int .i64 x.lo,.int .i64 x.hi,.int .i64 x.self,.bool x.open_]
structure BQ where
 A0:Int
 state:Int
 lo:Int
 hi:Int
 G0:Int
 Fw:Int
 CD:Int
deriving Inhabited,DecidableEq
def BQ.A5(x:BQ):D:=.agg [.int .i64 x.A0,.int .i64 x.state,.int .i64 x.lo,.int .i64 x.hi,.int .i64 x.G0,.int .i64 x.Fw,.int .i64 x.CD]
structure Cb where
 id:Int
 ft:Int
 fs:Int
 tt:Int
 ts:Int
 send:Int
 recv:Int
deriving Inhabited,DecidableEq
def Cb.A5(x:Cb):D:=.agg [.int .i64 x.id,.int .i64 x.ft,.int .i64 x.fs,.int .i64 x.tt,.int .i64 x.ts,.int .i64 x.send,.int .i64 x.recv]
structure Cw where
 A0:Int
 at_:Int
 weight:Int
 stack:List (List UInt8)
deriving Inhabited,DecidableEq
def Cw.A5(x:Cw):D:=.agg [.int .i64 x.A0,.int .i64 x.at_,.int .i64 x.weight,.sl (x.stack.map .str)]
structure C2 where
 name:List UInt8
 at_:Int
 value:Int
deriving Inhabited,DecidableEq
def C2.A5(x:C2):D:=.agg [.str x.name,.int .i64 x.at_,.int .i64 x.value]
structure B4 where
 id:Int
 A0:Int
 size:Int
 lo:Int
 hi:Int
 stack:List (List UInt8)
 live:Bool
deriving Inhabited,DecidableEq
def B4.A5(x:B4):D:=.agg [.int .i64 x.id,.int .i64 x.A0,.int .i64 x.size,.int .i64 x.lo,.int .i64 x.hi,.sl (x.stack.map .str),.bool x.live]
structure ES where
 A0:Int
 lo:Int
 hi:Int
 count:Int
deriving Inhabited,DecidableEq
def ES.A5(x:ES):D:=.agg [.int .i64 x.A0,.int .i64 x.lo,.int .i64 x.hi,.int .i64 x.count]
structure cE where
 A0:Int
 state:Int
 lo:Int
 hi:Int
deriving Inhabited,DecidableEq
def cE.A5(x:cE):D:=.agg [.int .i64 x.A0,.int .i64 x.state,.int .i64 x.lo,.int .i64 x.hi]
structure EY where
 lo:Int
 hi:Int
 threads:List An
 AE:List Ac
 AS:List BQ
 Bk:List Cb
 samples:List Cw
 steps:List C2
 blocks:List B4
 lost:List ES
deriving Inhabited
def EY.A5(x:EY):D:=.agg [.int .i64 x.lo,.int .i64 x.hi,.sl (x.threads.map An.A5),.sl (x.AE.map Ac.A5),.sl (x.AS.map BQ.A5),.sl (x.Bk.map Cb.A5),.sl (x.samples.map Cw.A5),.sl (x.steps.map C2.A5),.sl (x.blocks.map B4.A5),.sl (x.lost.map ES.A5)]
def Ba7:(∀(x:An),x.A5.isAgg=true)/\(∀(x:An),x.A5.cells=[.int .i64 x.id,.str x.name,.int .i64 x.Gt])/\(∀(x:Ac),x.A5.isAgg=true)/\(∀(x:Ac),x.A5.cells=[.int .i64 x.A0,.int .i64 x.parent,.int .i64 x.depth,.str x.name,.int .i64 x.lo,.int .i64 x.hi,.int .i64 x.self,.bool x.open_])/\(∀(x:BQ),x.A5.isAgg=true)/\(∀(x:BQ),x.A5.cells=[.int .i64 x.A0,.int .i64 x.state,.int .i64 x.lo,.int .i64 x.hi,.int .i64 x.G0,.int .i64 x.Fw,.int .i64 x.CD])/\(∀(x:Cb),x.A5.isAgg=true)/\(∀(x:Cb),x.A5.cells=[.int .i64 x.id,.int .i64 x.ft,.int .i64 x.fs,.int .i64 x.tt,.int .i64 x.ts,.int .i64 x.send,.int .i64 x.recv])/\(∀(x:Cw),x.A5.isAgg=true)/\(∀(x:Cw),x.A5.cells=[.int .i64 x.A0,.int .i64 x.at_,.int .i64 x.weight,.sl (x.stack.map .str)])/\(∀(x:C2),x.A5.isAgg=true)/\(∀(x:C2),x.A5.cells=[.str x.name,.int .i64 x.at_,.int .i64 x.value])/\(∀(x:B4),x.A5.isAgg=true)/\(∀(x:B4),x.A5.cells=[.int .i64 x.id,.int .i64 x.A0,.int .i64 x.size,.int .i64 x.lo,.int .i64 x.hi,.sl (x.stack.map .str),.bool x.live])/\(∀(x:ES),x.A5.isAgg=true)/\(∀(x:ES),x.A5.cells=[.int .i64 x.A0,.int .i64 x.lo,.int .i64 x.hi,.int .i64 x.count])/\(∀(x:EY),x.A5.isAgg=true)/\(∀(x:EY),x.A5.cells=[.int .i64 x.lo,.int .i64 x.hi,.sl (x.threads.map An.A5),.sl (x.AE.map Ac.A5),.sl (x.AS.map BQ.A5),.sl (x.Bk.map Cb.A5),.sl (x.samples.map Cw.A5),.sl (x.steps.map C2.A5),.sl (x.blocks.map B4.A5),.sl (x.lost.map ES.A5)]):=Et
def zB:=aI @zA (aI Ba7 @DX)
def Ew{α:Type}(p:α->Bool):List α->Int
 | []=>-1
 | b::r=>if p b=true then 0 else if Ew p r=-1 then -1 else Ew p r+1
def NL{α:Type}{p:α->Bool}:∀{l:List α},l.any p=false->Ew p l=-1
 | [],_=>rfl
 | b::r,h=>by
  rw[Kp,JY] at h;rw[Ew,A7 (by rw[h.1];simp),AD (NL h.2)]
def Yb{α:Type}(p:α->Bool):∀l:List α,-1<=Ew p l
 | []=>EP _
 | b::r=>by
  have:=Yb p r;unfold Ew;split
  ·omega
  split<;>omega
def QP{α:Type}[Inhabited α]{p:α->Bool}:∀{l:List α} {k:Nat},k<l.length->(l.take k).any p=false->p (l.getD k default)=true->Ew p l=k
 | [],k,h,_,_=>Mf
 | b::r,0,_,_,h=>by rw[Ew,AD Dy];rfl
 | b::r,k+1,h1,h2,h3=>by
  rw[T8,Kp,JY] at h2;have ih:=QP (p:=p) (l:=r) (k:=k) Cz h2.2 Gv;rw[Ew,A7 (by rw[h2.1];simp),A7 (by rw[ih];omega),ih];omega
def S6{α:Type}(p:α->Bool):∀l:List α,decide (0<=Ew p l)=l.any p
 | []=>rfl
 | b::r=>by
  have ih:=S6 p r;have hg:=Yb p r;rw[Ew,Kp,<-ih];by_cases h:p b=true
  ·simp[h]
  rw[A7 h];have h:p b=false:=Dy;rw[h,Kq];by_cases h2:Ew p r=-1
  ·rw[AD h2,h2]
  rw[A7 h2,decide_eq_decide];omega
def Dt{α:Type}(e:Int)(has:Int->Bool)(g:α->Int)(l:List α):Int:=if e≠0 then e else if l.all (λx=>has (g x))=true then 0 else 5
def PE(Gl:BM)(F:FuncId){α:Type}(f:α->D):Prop:=∀(fv:FuncId) (n:Nat) (y:D) (p:α->Bool) (hp:∀x:α,AW prog Gl fv [.d (f x),.ptr 0 0] [.box n (.d y)] (λr s=>r=.d (.bool (p x))/\s=[.box n (.d y)])) (l:List α) (hl:l.length<1000000),
  AW prog Gl F [.d (.sl (l.map f)),.fn fv [.ptr 0 0]] [.box n (.d y)] (λr s=>r=.d (.int .i64 (Ew p l))/\s=[.box n (.d y)])
def Qp(Gl:BM)(F:FuncId){α:Type}(f:α->D):Prop:=∀(fv:FuncId) (n:Nat) (y:D) (p:α->Bool) (hp:∀x:α,AW prog Gl fv [.d (f x),.ptr 0 0] [.box n (.d y)] (λr s=>r=.d (.bool (p x))/\s=[.box n (.d y)])) (l:List α) (hl:l.length<1000000),
  AW prog Gl F [.d (.sl (l.map f)),.fn fv [.ptr 0 0]] [.box n (.d y)] (λr s=>r=.d (.bool (l.any p))/\s=[.box n (.d y)])
def Q9q:PE Gl 209 An.A5/\PE Gl 136 Ac.A5/\PE Gl 137 BQ.A5/\PE Gl 77 B4.A5/\PE Gl 138 Cb.A5/\PE Gl 139 Cw.A5/\PE Gl 140 C2.A5:=by
 and_intros
 all_goals intro fv n y p hp l hl
 refine acS func209 ntmps209 results209 ?_;refine Jh ?_;obtain⟨f,hf⟩:∃f,f=An.A5:=⟨_,rfl⟩;rotate_left;refine acS func136 ntmps136 results136 ?_;refine Jh ?_;obtain⟨f,hf⟩:∃f,f=Ac.A5:=⟨_,rfl⟩;rotate_left;refine acS func137 ntmps137 results137 ?_;refine Jh ?_;obtain⟨f,hf⟩:∃f,f=BQ.A5:=⟨_,rfl⟩;rotate_left;refine acS func77 ntmps77 results77 ?_;refine Jh ?_;obtain⟨f,hf⟩:∃f,f=B4.A5:=⟨_,rfl⟩;rotate_left;refine acS func138 ntmps138 results138 ?_;refine Jh ?_;obtain⟨f,hf⟩:∃f,f=Cb.A5:=⟨_,rfl⟩;rotate_left;refine acS func139 ntmps139 results139 ?_;refine Jh ?_;obtain⟨f,hf⟩:∃f,f=Cw.A5:=⟨_,rfl⟩;rotate_left;refine acS func140 ntmps140 results140 ?_;refine Jh ?_;obtain⟨f,hf⟩:∃f,f=C2.A5:=⟨_,rfl⟩;rotate_left
 all_goals
  refine Bm l.length (λk=>[(0,.d (.sl (l.map f))),(1,.fn fv [.ptr 0 0]),(7,(l.length:Int)),(8,(k:Int))]) (λ_=>[.box n (.d y)]) (λk=>(l.take k).any p=false) rfl ?_ ?_
  all_goals subst hf
  ·refine BA [] [0] rfl A6 ?_ rfl;simp only[zB,seval,HB];rfl
  intro k hi hk;by_cases h:k<l.length
  ·have hs:=K_ p l k h;refine oX ?_;refine Be ((hp _).mono λr s hr=>?_);obtain⟨rfl,rfl⟩:=hr;simp only[zB,seval];apply ifC.mk<;>intro hc
   ·exact cB
   refine⟨RT,?_⟩;refine BA [] [0] rfl A6 ?_ rfl;simp only[zB,seval,a_w ((k:Int)+1)];rfl
  simp only[zB,seval,(oo:¬(k:Int)<l.length)];have:k=l.length:=oo;subst this;rw[BL] at hi;refine⟨_,_,Dh [] [0] rfl A6 (show BJ _ _ _=AV.d _ from rfl) rfl,?_,rfl⟩;rw[NL hi]
def Qi:Qp Gl 97 Ac.A5/\Qp Gl 100 BQ.A5/\Qp Gl 102 B4.A5/\Qp Gl 104 Cb.A5/\Qp Gl 106 Cw.A5/\Qp Gl 108 C2.A5:=by
 obtain⟨h1,h2,h3,h4,h5,h6,h7⟩:=Q9q (Gl:=Gl);and_intros
 all_goals intro fv n y p hp l hl
 refine acS func97 ntmps97 results97 ?_;refine Jh ?_;refine Be ((h2 fv n y p hp l hl).mono λr s hr=>?_);rotate_left;refine acS func100 ntmps100 results100 ?_;refine Jh ?_;refine Be ((h3 fv n y p hp l hl).mono λr s hr=>?_);rotate_left;refine acS func102 ntmps102 results102 ?_;refine Jh ?_;refine Be ((h4 fv n y p hp l hl).mono λr s hr=>?_);rotate_left;refine acS func104 ntmps104 results104 ?_;refine Jh ?_;refine Be ((h5 fv n y p hp l hl).mono λr s hr=>?_);rotate_left;refine acS func106 ntmps106 results106 ?_;refine Jh ?_;refine Be ((h6 fv n y p hp l hl).mono λr s hr=>?_);rotate_left;refine acS func108 ntmps108 results108 ?_;refine Jh ?_;refine Be ((h7 fv n y p hp l hl).mono λr s hr=>?_);rotate_left
 all_goals
  obtain⟨rfl,rfl⟩:=hr;simp only[zB,seval];refine⟨_,_,Dh [] [0] rfl A6 (show BJ _ _ _=AV.d _ from rfl) rfl,?_,rfl⟩;rw[S6]
def tG(fv:FuncId)(g:Ac->Int)(hg:∀x:Ac,AT prog Gl fv [.d x.A5] (.d (.int .i64 (g x))))(e:Int)(f:Aw->Option AV)(has:Int->Bool)(hst:∀k v,f k=some v->∃d,v=.d d)(hf:∀n,(f (.i n)).isSome=has n)(l:List Ac)(hl:l.length<1000000):
  AW prog Gl 81 [(e:Int),.AF 0,.d (.sl (l.map Ac.A5)),.fn fv []] [.map (some .i64) f] (λr s=>r=.d (.int .i64 (Dt e has g l))/\s=[.map (some .i64) f]):=by
 refine acS func81 ntmps81 results81 ?_;simp only[zB,seval,B6];apply ifC.mk<;>intro he
 ·exact WX
 have he:¬e≠0:=OE;refine Bm l.length (λk=>[(1,.AF 0),(3,.fn fv []),(16,.d (.sl (l.map Ac.A5))),(17,(l.length:Int)),(18,(k:Int))]) (λ_=>[.map (some .i64) f]) (λk=>(l.take k).all (λx=>has (g x))=true) rfl ?_ ?_
 ·exact WS
 intro k hi hk;by_cases h:k<l.length
 ·exact WH
 simp only[zB,seval,(oo:¬(k:Int)<l.length)];have:k=l.length:=oo;subst this;rw[BL] at hi;refine⟨_,_,Dh [] [0] rfl A6 (show BJ _ _ _=AV.d _ from rfl) (HS hst _),?_,rfl⟩;rw[Dt,A7 he,AD hi]
def eA(fv:FuncId)(g:Cb->Int)(hg:∀x:Cb,AT prog Gl fv [.d x.A5] (.d (.int .i64 (g x))))(e:Int)(f:Aw->Option AV)(has:Int->Bool)(hst:∀k v,f k=some v->∃d,v=.d d)(hf:∀n,(f (.i n)).isSome=has n)(l:List Cb)(hl:l.length<1000000):
  AW prog Gl 85 [(e:Int),.AF 0,.d (.sl (l.map Cb.A5)),.fn fv []] [.map (some .i64) f] (λr s=>r=.d (.int .i64 (Dt e has g l))/\s=[.map (some .i64) f]):=by
 refine acS func85 ntmps85 results85 ?_;simp only[zB,seval,B6];apply ifC.mk<;>intro he
 ·exact WX
 have he:¬e≠0:=OE;refine Bm l.length (λk=>[(1,.AF 0),(3,.fn fv []),(16,.d (.sl (l.map Cb.A5))),(17,(l.length:Int)),(18,(k:Int))]) (λ_=>[.map (some .i64) f]) (λk=>(l.take k).all (λx=>has (g x))=true) rfl ?_ ?_
 ·exact WS
 intro k hi hk;by_cases h:k<l.length
 ·exact WH
 simp only[zB,seval,(oo:¬(k:Int)<l.length)];have:k=l.length:=oo;subst this;rw[BL] at hi;refine⟨_,_,Dh [] [0] rfl A6 (show BJ _ _ _=AV.d _ from rfl) (HS hst _),?_,rfl⟩;rw[Dt,A7 he,AD hi]
def qT(fv:FuncId)(g:Cw->Int)(hg:∀x:Cw,AT prog Gl fv [.d x.A5] (.d (.int .i64 (g x))))(e:Int)(f:Aw->Option AV)(has:Int->Bool)(hst:∀k v,f k=some v->∃d,v=.d d)(hf:∀n,(f (.i n)).isSome=has n)(l:List Cw)(hl:l.length<1000000):
  AW prog Gl 89 [(e:Int),.AF 0,.d (.sl (l.map Cw.A5)),.fn fv []] [.map (some .i64) f] (λr s=>r=.d (.int .i64 (Dt e has g l))/\s=[.map (some .i64) f]):=by
 refine acS func89 ntmps89 results89 ?_;simp only[zB,seval,B6];apply ifC.mk<;>intro he
 ·exact WX
 have he:¬e≠0:=OE;refine Bm l.length (λk=>[(1,.AF 0),(3,.fn fv []),(16,.d (.sl (l.map Cw.A5))),(17,(l.length:Int)),(18,(k:Int))]) (λ_=>[.map (some .i64) f]) (λk=>(l.take k).all (λx=>has (g x))=true) rfl ?_ ?_
 ·exact WS
 intro k hi hk;by_cases h:k<l.length
 ·exact WH
 simp only[zB,seval,(oo:¬(k:Int)<l.length)];have:k=l.length:=oo;subst this;rw[BL] at hi;refine⟨_,_,Dh [] [0] rfl A6 (show BJ _ _ _=AV.d _ from rfl) (HS hst _),?_,rfl⟩;rw[Dt,A7 he,AD hi]
def tF(fv:FuncId)(g:B4->Int)(hg:∀x:B4,AT prog Gl fv [.d x.A5] (.d (.int .i64 (g x))))(e:Int)(f:Aw->Option AV)(has:Int->Bool)(hst:∀k v,f k=some v->∃d,v=.d d)(hf:∀n,(f (.i n)).isSome=has n)(l:List B4)(hl:l.length<1000000):
  AW prog Gl 93 [(e:Int),.AF 0,.d (.sl (l.map B4.A5)),.fn fv []] [.map (some .i64) f] (λr s=>r=.d (.int .i64 (Dt e has g l))/\s=[.map (some .i64) f]):=by
 refine acS func93 ntmps93 results93 ?_;simp only[zB,seval,B6];apply ifC.mk<;>intro he
 ·exact WX
 have he:¬e≠0:=OE;refine Bm l.length (λk=>[(1,.AF 0),(3,.fn fv []),(16,.d (.sl (l.map B4.A5))),(17,(l.length:Int)),(18,(k:Int))]) (λ_=>[.map (some .i64) f]) (λk=>(l.take k).all (λx=>has (g x))=true) rfl ?_ ?_
 ·exact WS
 intro k hi hk;by_cases h:k<l.length
 ·exact WH
 simp only[zB,seval,(oo:¬(k:Int)<l.length)];have:k=l.length:=oo;subst this;rw[BL] at hi;refine⟨_,_,Dh [] [0] rfl A6 (show BJ _ _ _=AV.d _ from rfl) (HS hst _),?_,rfl⟩;rw[Dt,A7 he,AD hi]

def cm:EZ (Value.map none)=.d (.raw (.map none)):=rfl
def zC:=aI @zB (aI @cm @Qff)
def Gp(a b:Int):Bool:=decide (0<=a)&&decide (a<b)&&decide (b<=1000000000000)
def NA(a b c d:Int):Bool:=decide (c<=a)&&decide (b<=d)
def ET(a b t:Int):Bool:=decide (a<=t)&&decide (t<b)
def Q1(a b:Int):AT prog Gl 23 [.d (.agg [.int .i64 a,.int .i64 b])] (.d (.bool (Gp a b))):=by
 refine CN ?_;refine acS func23 ntmps23 results23 ?_;exact Kv
def qW(a b c d:Int):AT prog Gl 99 [.d (.agg [.int .i64 a,.int .i64 b]),.d (.agg [.int .i64 c,.int .i64 d])] (.d (.bool (NA a b c d))):=by
 refine FB ?_;refine acS func99 ntmps99 results99 ?_;exact Kv
def Oa(a b t:Int):AT prog Gl 65 [.d (.agg [.int .i64 a,.int .i64 b]),(t:Int)] (.d (.bool (ET a b t))):=by
 refine FB ?_;refine acS func65 ntmps65 results65 ?_;exact Kv
def KP(x:An):Int:=if(decide (x.id<0)||decide (1000000000000000<x.id)||decide (x.Gt<0)||decide (8<=x.Gt))=true then 2 else FE x.name
def fC(x:An):AT prog Gl 127 [.d x.A5] (.d (.int .i64 (KP x))):=by
 refine CN ?_;refine acS func127 ntmps127 results127 ?_;refine EE ?_;apply ifC.mk<;>intro h
 ·refine BT ?_;rw[KP,AD h]
 refine Ak (SQ _) ?_;refine Ce ?_;refine BT ?_;rw[KP,A7 Jc]
def yj(x:Ac):AT prog Gl 83 [.d x.A5] (.d (.int .i64 x.A0)):=by
 refine CN ?_;refine acS func83 ntmps83 results83 ?_;exact Kv
def yk(x:Cb):AT prog Gl 87 [.d x.A5] (.d (.int .i64 x.ft)):=by
 refine CN ?_;refine acS func87 ntmps87 results87 ?_;exact Kv
def yl(x:Cb):AT prog Gl 88 [.d x.A5] (.d (.int .i64 x.tt)):=by
 refine CN ?_;refine acS func88 ntmps88 results88 ?_;exact Kv
def ym(x:Cw):AT prog Gl 91 [.d x.A5] (.d (.int .i64 x.A0)):=by
 refine CN ?_;refine acS func91 ntmps91 results91 ?_;exact Kv
def yn(x:B4):AT prog Gl 95 [.d x.A5] (.d (.int .i64 x.A0)):=by
 refine CN ?_;refine acS func95 ntmps95 results95 ?_;exact Kv
def Qey(a b:Int)(x:Ac):AW prog Gl 98 [.d x.A5,.ptr 0 0] [.box 2 (.d (.agg [.int .i64 a,.int .i64 b]))] (λr s=>r=.d (.bool (!NA x.lo x.hi a b))/\s=[.box 2 (.d (.agg [.int .i64 a,.int .i64 b]))]):=by
 refine acS func98 ntmps98 results98 ?_;exact bD
def Qex(a b:Int)(x:BQ):AW prog Gl 101 [.d x.A5,.ptr 0 0] [.box 2 (.d (.agg [.int .i64 a,.int .i64 b]))] (λr s=>r=.d (.bool (!NA x.lo x.hi a b))/\s=[.box 2 (.d (.agg [.int .i64 a,.int .i64 b]))]):=by
 refine acS func101 ntmps101 results101 ?_;exact bD
def Qew(a b:Int)(x:B4):AW prog Gl 103 [.d x.A5,.ptr 0 0] [.box 2 (.d (.agg [.int .i64 a,.int .i64 b]))] (λr s=>r=.d (.bool (!NA x.lo x.hi a b))/\s=[.box 2 (.d (.agg [.int .i64 a,.int .i64 b]))]):=by
 refine acS func103 ntmps103 results103 ?_;exact bD
def Qeu(a b:Int)(x:Cw):AW prog Gl 107 [.d x.A5,.ptr 0 0] [.box 2 (.d (.agg [.int .i64 a,.int .i64 b]))] (λr s=>r=.d (.bool (!ET a b x.at_))/\s=[.box 2 (.d (.agg [.int .i64 a,.int .i64 b]))]):=by
 refine acS func107 ntmps107 results107 ?_;refine EE ?_;refine Ak (Oa _ _ _) ?_;refine Ce ?_;exact WW
def Qet(a b:Int)(x:C2):AW prog Gl 109 [.d x.A5,.ptr 0 0] [.box 2 (.d (.agg [.int .i64 a,.int .i64 b]))] (λr s=>r=.d (.bool (!ET a b x.at_))/\s=[.box 2 (.d (.agg [.int .i64 a,.int .i64 b]))]):=by
 refine acS func109 ntmps109 results109 ?_;refine EE ?_;refine Ak (Oa _ _ _) ?_;refine Ce ?_;exact WW
def Qev(a b:Int)(x:Cb):AW prog Gl 105 [.d x.A5,.ptr 0 0] [.box 2 (.d (.agg [.int .i64 a,.int .i64 b]))] (λr s=>r=.d (.bool (!ET a b x.send||!ET a b x.recv))/\s=[.box 2 (.d (.agg [.int .i64 a,.int .i64 b]))]):=by
 refine acS func105 ntmps105 results105 ?_;refine EE ?_;refine Ak (Oa _ _ _) ?_;refine Fo ?_;refine DS (λ_=>Oa _ _ _) ?_;refine Fo ?_;exact WW
def Wz(t:EY):Bool:=t.AE.any (λx=>!NA x.lo x.hi t.lo t.hi)||t.AS.any (λx=>!NA x.lo x.hi t.lo t.hi)||t.blocks.any (λx=>!NA x.lo x.hi t.lo t.hi)
 || t.Bk.any (λx=>!ET t.lo t.hi x.send||!ET t.lo t.hi x.recv)||t.samples.any (λx=>!ET t.lo t.hi x.at_)||t.steps.any (λx=>!ET t.lo t.hi x.at_)
structure EY.GC(t:EY):Prop where
 threads:t.threads.length<1000000
 AE:t.AE.length<1000000
 AS:t.AS.length<1000000
 Bk:t.Bk.length<1000000
 samples:t.samples.length<1000000
 steps:t.steps.length<1000000
 blocks:t.blocks.length<1000000
 lost:t.lost.length<1000000
 sst:∀x∈t.samples,x.stack.length<1000000
 bst:∀x∈t.blocks,x.stack.length<1000000
def zH(t:EY)(ht:t.GC):AT prog Gl 60 [.d t.A5] (.d (.bool (Wz t))):=by
 refine CN ?_;refine acS func60 ntmps60 results60 ?_;refine EE ?_;refine Ag ?_;refine LK 1 (Qi.1 _ 2 _ _ (Qey t.lo t.hi) t.AE ht.AE) (λs=>rfl) Ha trivial ?_;refine Fo ?_;refine SD 1 (Qi.2.1 _ 2 _ _ (Qex t.lo t.hi) t.AS ht.AS) (λs=>rfl) Ha trivial ?_;refine Fo ?_;refine SD 1 (Qi.2.2.1 _ 2 _ _ (Qew t.lo t.hi) t.blocks ht.blocks) (λs=>rfl) Ha trivial ?_;refine Fo ?_;refine SD 1 (Qi.2.2.2.1 _ 2 _ _ (Qev t.lo t.hi) t.Bk ht.Bk) (λs=>rfl) Ha trivial ?_;refine Fo ?_;refine SD 1 (Qi.2.2.2.2.1 _ 2 _ _ (Qeu t.lo t.hi) t.samples ht.samples) (λs=>rfl) Ha trivial ?_;refine Fo ?_;refine SD 1 (Qi.2.2.2.2.2 _ 2 _ _ (Qet t.lo t.hi) t.steps ht.steps) (λs=>rfl) Ha trivial ?_;refine Ce ?_;exact D0
def mapOf(l:List An):Aw->Option AV:=l.foldl (λf x=>BO f (.i x.id) (.d (.str x.name))) (λ_=>none)
def Qej(l:List An)(x:An):mapOf (l++[x])=BO (mapOf l) (.i x.id) (.d (.str x.name)):=by simp[mapOf]
def dt:∀(l:List An) (g:Aw->Option AV),(∀k v,g k=some v->∃d,v=.d d)->∀k v,l.foldl (λf x=>BO f (.i x.id) (.d (.str x.name))) g k=some v->∃d,v=.d d
 | [],g,hg,k,v,h=>hg k v h
 | x::l,g,hg,k,v,h=>dt l _ (λk v hk=>by
   by_cases hq:k=.i x.id
   ·have e:BO g (.i x.id) (.d (.str x.name)) k=some (.d (.str x.name)):=by unfold BO;rw[AD hq]
    have hk:BO g (.i x.id) (.d (.str x.name)) k=some v:=hk
    rw[e] at hk
    simp only[BF] at hk;exact⟨_,hk.symm⟩
   have e:BO g (.i x.id) (.d (.str x.name)) k=g k:=by unfold BO;rw[A7 hq]
   have hk:BO g (.i x.id) (.d (.str x.name)) k=some v:=hk
   rw[e] at hk
   exact hg k v hk) k v h
def Ut(l:List An):∀k v,mapOf l k=some v->∃d,v=.d d:=dt l _ (λk v h=>D8)
def CV(l:List An)(n:Int):Bool:=l.any λx=>x.id==n
def iB:∀(l:List An) (g:Aw->Option AV) (n:Int),(l.foldl (λf x=>BO f (.i x.id) (.d (.str x.name))) g (.i n)).isSome=(CV l n||(g (.i n)).isSome)
 | [],g,n=>by simp[CV]
 | x::l,g,n=>by
  rw[GQ,iB l];unfold CV BO;rw[Kp];by_cases h:n=x.id
  ·subst h;simp
  have h2:(x.id==n)=false:=by simpa using λe=>h e.symm
  have h3:¬Aw.i n=Aw.i x.id:=Dy;rw[A7 h3,h2,Kq]
def eP(l:List An)(n:Int):(mapOf l (.i n)).isSome=CV l n:=by
 unfold mapOf;rw[iB];simp
def H3(l:List An)(k:Nat):Int:=if KP (l.getD k default)≠0 then KP (l.getD k default) else if CV (l.take k) (l.getD k default).id=true then 4 else 0
def IJ(l:List An):Int:=if 64<l.length then 7 else Bh (H3 l) l.length
def iI(t:EY)(ht:t.GC):AW prog Gl 80 [.d t.A5] [] (λr s=>if IJ t.threads=0 then r=.Aj [.AF 0,(0:Int)]/\s=[.map (some .i64) (mapOf t.threads)] else r=.Aj [.d (.raw (.map none)),(IJ t.threads:Int)]/\s=[]):=by
 have hlen:=ht.threads;refine acS func80 ntmps80 results80 ?_;refine EE ?_;refine Ag ?_;apply ifC.mk<;>intro h
 ·have h:64<t.threads.length:=Ks;refine⟨_,_,Dh [] [] rfl A6 (show BJ _ _ _=AV.Aj [.d _,.d _] from rfl) rfl,?_⟩;have e:IJ t.threads=7:=by rw[IJ,AD h]
  rw[e,A7 D7];exact OH
 have h:¬64<t.threads.length:=Ks;refine Ag ?_;have hF:IJ t.threads=Bh (H3 t.threads) t.threads.length:=by rw[IJ,A7 h]
 refine Bm t.threads.length (λk=>[(4,.AF 0),(16,.d (.sl (t.threads.map An.A5))),(17,(t.threads.length:Int)),(18,(k:Int))]) (λk=>[.map (some .i64) (mapOf (t.threads.take k))]) (λk=>Bh (H3 t.threads) k=0) rfl ?_ ?_
 ·refine BA [] [1] rfl A6 ?_ ?_
  ·simp only[zC,seval,HB]
   all_goals rfl
  rfl
 intro k hi hk;have hst:=Ut (t.threads.take k);by_cases h2:k<t.threads.length
 ·simp only[zC,seval,(oo:(k:Int)<t.threads.length),h2,Af _ _ _ (oo:k<t.threads.length)];refine Ag ?_;refine Ak (fC _) ?_;refine Ce ?_;apply ifC.mk<;>intro hc
  ·have hc:KP (t.threads.getD k default)≠0:=Dc;have hat:H3 t.threads k=KP (t.threads.getD k default):=by rw[H3,AD hc]
   have hall:=Ga hi (by rw[hat];exact hc) h2;rw[<-hF,hat] at hall;refine⟨_,_,Dh [] [] rfl A6 (show BJ _ _ _=AV.Aj [.d _,.d _] from rfl) rfl,?_⟩;rw[A7 (by rw[hall];exact hc),hall];exact OH
  have hc:¬KP (t.threads.getD k default)≠0:=Dc;obtain⟨d,hd⟩:=XG hst (.i (t.threads.getD k default).id) (.str []);simp only[zC,seval,eP,hd];refine Ag ?_;apply ifC.mk<;>intro hz
  ·have hat:H3 t.threads k=4:=by rw[H3,A7 hc,AD hz]
   have hall:=Ga hi Vw h2;rw[<-hF,hat] at hall;refine⟨_,_,Dh [] [] rfl A6 (show BJ _ _ _=AV.Aj [.d _,.d _] from rfl) rfl,?_⟩;rw[A7 (by rw[hall];decide),hall];exact OH
  have hat:H3 t.threads k=0:=by rw[H3,A7 hc,A7 (by rw[hz];simp)]
  have hs:=Qej (t.threads.take k) (t.threads.getD k default);rw[<-CY _ _ h2] at hs;refine Ag ?_;refine⟨HR hi hat,?_⟩;refine BA [] [0] rfl A6 ?_ ?_
  ·simp only[zC,seval,a_w ((k:Int)+1)]
   all_goals rfl
  rw[hs];exact HS (λk v hk=>by rw[<-hs] at hk;exact Ut _ k v hk) _
 simp only[zC,seval,(oo:¬(k:Int)<t.threads.length)];have:k=t.threads.length:=oo;subst this;rw[BL] at hst ⊢;refine⟨_,_,Dh [] [0] rfl A6 (show BJ _ _ _=AV.Aj [.AF 0,.d _] from rfl) (HS hst _),?_⟩;rw[hF,hi,AD rfl];exact OH
def KQ(has:Int->Bool)(x:ES):Int:=if has x.A0=false then 5 else if(!Gp x.lo x.hi||decide (x.count<1)||decide (1000000000000000<x.count))=true then 2 else 0
def Sc(has:Int->Bool)(l:List ES):Int:=Bh (λk=>KQ has (l.getD k default)) l.length
def wD(f:Aw->Option AV)(has:Int->Bool)(hst:∀k v,f k=some v->∃d,v=.d d)(hf:∀n,(f (.i n)).isSome=has n)(l:List ES)(hl:l.length<1000000):
  AW prog Gl 96 [.AF 0,.d (.sl (l.map ES.A5))] [.map (some .i64) f] (λr s=>r=.d (.int .i64 (Sc has l))/\s=[.map (some .i64) f]):=by
 refine acS func96 ntmps96 results96 ?_;simp only[zC,seval,B6];refine Bm l.length (λk=>[(0,.AF 0),(9,.d (.sl (l.map ES.A5))),(10,(l.length:Int)),(11,(k:Int))]) (λ_=>[.map (some .i64) f]) (λk=>Bh (λk=>KQ has (l.getD k default)) k=0) rfl ?_ ?_
 ·refine BA [] [0] rfl A6 ?_ (HS hst _);simp only[zC,seval,HB]
  all_goals rfl
 intro k hi hk;by_cases h:k<l.length
 ·obtain⟨d,hd⟩:=XG hst (.i (l.getD k default).A0) (.str []);simp only[zC,seval,(oo:(k:Int)<l.length),h,Af _ _ _ (oo:k<l.length)];refine Ag ?_;simp only[zC,seval,hf,hd];refine Ag ?_;apply ifC.mk<;>intro hc
  ·refine⟨_,_,Dh [] [0] rfl A6 (show BJ _ _ _=AV.d _ from rfl) (HS hst _),?_,rfl⟩;have hat:KQ has (l.getD k default)=5:=by rw[KQ,AD Dc]
   exact oU
  have hc:¬has (l.getD k default).A0=false:=Dc;refine Ak (Q1 _ _) ?_;refine Fo ?_;apply ifC.mk<;>intro hz
  ·refine⟨_,_,Dh [] [0] rfl A6 (show BJ _ _ _=AV.d _ from rfl) (HS hst _),?_,rfl⟩;have hat:KQ has (l.getD k default)=2:=by rw[KQ,A7 hc,AD hz]
   exact oU
  have hat:KQ has (l.getD k default)=0:=by rw[KQ,A7 hc,A7 (by rw[hz];simp)]
  refine⟨HR hi hat,?_⟩;refine BA [] [0] rfl A6 ?_ (HS hst _);simp only[zC,seval,a_w ((k:Int)+1)]
  all_goals rfl
 simp only[zC,seval,(oo:¬(k:Int)<l.length)];have:k=l.length:=oo;subst this;refine⟨_,_,Dh [] [0] rfl A6 (show BJ _ _ _=AV.d _ from rfl) (HS hst _),?_,rfl⟩;rw[Sc,hi]

def fE(a:List UInt8):AT prog Gl 124 [.d (.str a)] (.d (.bool false)):=by
 refine CN ?_;refine acS func124 ntmps124 results124 ?_;refine EE ?_;refine BT ?_;simp
def jm(a:Int):AT prog Gl 79 [(a:Int)] (.d (.bool false)):=by
 refine CN ?_;refine acS func79 ntmps79 results79 ?_;refine EE ?_;refine BT ?_;simp
def EG(a b:Int):Int:=if a<b then -1 else if b<a then 1 else 0
def MD(a b:Int):AT prog Gl 57 [(a:Int),(b:Int)] (.d (.int .i64 (EG a b))):=by
 refine FB ?_;refine acS func57 ntmps57 results57 ?_;refine EE ?_;refine Ak (jm _) ?_;refine Ce ?_;refine Ak (jm _) ?_;refine Ce ?_;apply ifC.mk<;>intro h1
 ·refine BT ?_;rw[EG,AD Cz]
 apply ifC.mk<;>intro h2
 ·refine BT ?_;rw[EG,A7 Cz,AD DN]
 refine BT ?_;rw[EG,A7 Cz,A7 DN]
def ltS(a b:List UInt8):Bool:=Op.bytesLess a b
def Jx(a b:List UInt8):Int:=if ltS a b=true then -1 else if(!(ltS a b||a==b))=true then 1 else 0
def Qe7(a b:List UInt8):AT prog Gl 76 [.d (.str a),.d (.str b)] (.d (.int .i64 (Jx a b))):=by
 refine FB ?_;refine acS func76 ntmps76 results76 ?_;refine EE ?_;refine Ak (fE _) ?_;refine Ce ?_;refine Ak (fE _) ?_;refine Ce ?_;apply ifC.mk<;>intro h1
 ·refine BT ?_;rw[Jx,AD (show ltS a b=true from h1)]
 apply ifC.mk<;>intro h2
 ·refine BT ?_;rw[Jx,A7 (by rw[show ltS a b=false from h1];simp),AD (show(!(ltS a b||a==b))=true from h2)]
 refine BT ?_;rw[Jx,A7 (by rw[show ltS a b=false from h1];simp),A7 (show ¬(!(ltS a b||a==b))=true from by rw[show(!(ltS a b||a==b))=false from h2];simp)]
def orL:List Int->Int
 | []=>0
 | x::r=>if x=0 then orL r else x
def jo:∀{l:List Int} {k:Nat},(l.take k).all (·==0)=true->k<l.length->l.getD k default≠0->orL l=l.getD k default
 | [],k,_,h,_=>Mf
 | x::r,0,_,_,h=>by rw[orL,A7 Dy];simp
 | x::r,k+1,h1,h2,h3=>by
  rw[T8,Sy,C5] at h1;rw[orL,AD (by simpa using h1.1),jo (l:=r) (k:=k) h1.2 DN Gv];simp
def cn:∀{l:List Int},l.all (·==0)=true->orL l=0
 | [],_=>rfl
 | x::r,h=>by
  rw[Sy,C5] at h;rw[orL,AD (by simpa using h.1),cn h.2]
def Zd(xs:List Int)(hl:xs.length<1000000)(B:Blk)(hB:KZ 1 (xs.map (D.int .i64)) B):AW prog Gl 64 [.A8 0 0 xs.length] [B] (λr s=>r=.d (.int .i64 (orL xs))/\s=[B]):=by
 rcases hB with rfl|rfl
 ·refine acS func64 ntmps64 results64 ?_;refine EE ?_;refine Bm xs.length (λk=>[(3,(0:Int)),(6,.A8 0 0 xs.length),(7,(xs.length:Int)),(8,(k:Int))]) (λ_=>[.arr 1 (xs.map (D.int .i64))]) (λk=>(xs.take k).all (·==0)=true) rfl ?_ ?_
  ·refine BA [] [0] rfl A6 ?_ rfl;simp only[zC,seval,HB]
   all_goals rfl
  exact mN
 refine acS func64 ntmps64 results64 ?_;refine EE ?_;refine Bm xs.length (λk=>[(3,(0:Int)),(6,.A8 0 0 xs.length),(7,(xs.length:Int)),(8,(k:Int))]) (λ_=>[.BS 1 (xs.map (D.int .i64))]) (λk=>(xs.take k).all (·==0)=true) rfl ?_ ?_
 ·refine BA [] [0] rfl A6 ?_ rfl;simp only[zC,seval,HB]
  all_goals rfl
 exact mN
def orF(a b:Int):Int:=if a=0 then b else a
def ua(a b:Int):orL [a,b]=orF a b:=by simp only[orL,orF];split<;>simp_all
def HM(a b:C2):Int:=orF (Jx a.name b.name) (EG a.at_ b.at_)
def YW(a b:C2):AT prog Gl 51 [.d a.A5,.d b.A5] (.d (.int .i64 (HM a b))):=by
 refine FB ?_;refine acS func51 ntmps51 results51 ?_;refine EE ?_;refine⟨.inl Ax,Ak (Qe7 _ _) ?_⟩;refine Ce ?_;refine Ak (MD _ _) ?_;refine Fo ?_;refine Uc 2 (λB hB=>Zd [Jx a.name b.name,EG a.at_ b.at_] A6 B hB) (λ_=>rfl) rfl ?_;rw[ua];refine Ce ?_;exact D0
def P5(a:Int):AT prog Gl 135 [(a:Int)] (.d (.bool (decide (-1000000000000000<=a)&&decide (a<=1000000000000000)))):=by
 refine CN ?_;refine acS func135 ntmps135 results135 ?_;exact Kv
def inB(a:Int):Bool:=decide (-1000000000000000<=a)&&decide (a<=1000000000000000)
def Sf(b:C2):Bool:=decide (b.at_<0)||decide (1000000000000<b.at_)||!inB b.value
def Qy(a b:C2):Bool:=decide (0<=HM a b)||(a.name==b.name&&a.value==b.value)
def LS(l:List C2)(k:Nat):Int:=
 if FE (l.getD k default).name≠0 then FE (l.getD k default).name else if Sf (l.getD k default)=true then 2
 else if(decide (0<k)&&Qy (l.getD (k-1) default) (l.getD k default))=true then 11 else 0
def Mn(l:List C2):Int:=Bh (LS l) l.length
def Q31{l:List C2}{k:Nat}(h:FE (l.getD k default).name≠0):LS l k=FE (l.getD k default).name:=by rw[LS,AD h]
def Q32{l:List C2}{k:Nat}(h:FE (l.getD k default).name=0)(h2:Sf (l.getD k default)=true):LS l k=2:=by rw[LS,A7 Jc,AD h2]
def Q30{l:List C2}{k:Nat}(h:FE (l.getD k default).name=0)(h2:Sf (l.getD k default)=false):LS l k=if(decide (0<k)&&Qy (l.getD (k-1) default) (l.getD k default))=true then 11 else 0:=by
 rw[LS,A7 Jc,A7 Je]
def rr(l:List C2)(hl:l.length<1000000):AT prog Gl 92 [.d (.sl (l.map C2.A5))] (.d (.int .i64 (Mn l))):=by
 refine CN ?_;refine acS func92 ntmps92 results92 ?_;refine EE ?_;refine Bm l.length (λk=>[(0,.d (.sl (l.map C2.A5))),(6,.d (.sl (l.map C2.A5))),(7,(l.length:Int)),(8,(k:Int))]) (λ_=>[]) (λk=>Bh (LS l) k=0) rfl ?_ ?_
 ·exact Mh
 intro k hi hk;by_cases h:k<l.length
 ·have hb:∀e,LS l k=e->e≠0->Mn l=e:=λe h1 h2=>by rw[Mn,Ga hi RS h,h1]
  obtain⟨b,eb⟩:∃b,b=l.getD k default:=⟨_,rfl⟩;refine OG ?_;refine Ak (SQ _) ?_;refine Ce ?_;apply ifC.mk<;>intro h1
  ·have h1:FE b.name≠0:=Cz;refine BT ?_;rw[hb _ (Q31 Mc) Mc,<-eb]
  have h1:FE b.name=0:=Cz;refine Ag ?_;refine DS (λ_=>P5 _) ?_;refine Fo ?_;apply ifC.mk<;>intro h2
  ·refine BT ?_;rw[hb 2 (Q32 Mc Vv) oo]
  have h2:Sf b=false:=h2;have ho:=Q30 (l:=l) (k:=k) Mc Vv;rw[<-eb] at ho;by_cases hk0:0<k
  ·have e1:IntKind.i64.wrap ((k:Int)-1)=((k-1:Nat):Int):=Bz;obtain⟨a,ea⟩:∃a,a=l.getD (k-1) default:=⟨_,rfl⟩;rw[JU hk0,Hu,<-ea] at ho;refine bk ?_;refine Ag ?_;refine DS (λ_=>YW _ _) ?_;refine bk ?_;refine Ag ?_;apply ifC.mk<;>intro h3
   ·refine BT ?_;rw[AD (show Qy a b=true from h3)] at ho;rw[hb 11 ho oo]
   rw[A7 (by rw[show Qy a b=false from h3];simp)] at ho;refine⟨HR hi ho,?_⟩;exact RW
  rw[HX hk0,JV,A7 A6] at ho;have e0:(IntKind.i64.wrap ((k:Int)-1)).toNat=0:=Bz;simp only[zC,seval,(oo:¬(0:Int)<k),e0,Af _ _ _ (oo:0<l.length)];refine Ag ?_;refine DS (v:=.d (.int .i64 0)) (λh=>D8) ?_;simp only[zC,seval,e0,Af _ _ _ (oo:0<l.length)];refine⟨HR hi ho,?_⟩;exact RW
 refine Mj ?_;refine BT ?_;have:k=l.length:=oo;rw[Mn,<-this,hi]
def ltN(a b:C2):Prop:=ltS a.name b.name=true\/(a.name=b.name/\a.at_<b.at_)
def Ul(a b:List UInt8):(ltS a b=true/\a≠b/\ltS b a=false/\Jx a b=-1)\/(ltS a b=false/\a=b/\ltS b a=false/\Jx a b=0)\/(ltS a b=false/\a≠b/\ltS b a=true/\Jx a b=1):=by
 rcases vd a b with⟨h1,h2,h3⟩|⟨h1,h2,h3⟩|⟨h1,h2,h3⟩
 ·exact .inl ⟨h1,h2,h3,by unfold Jx ltS;rw[h1];rfl⟩
 ·exact .inr (.inl ⟨h1,h2,h3,by unfold Jx ltS;rw[h1,h2];simp⟩)
 exact .inr (.inr ⟨h1,h2,h3,by unfold Jx ltS;rw[h1];simp[h2]⟩)
def qe(a b:Int):(a<b/\EG a b=-1)\/(a=b/\EG a b=0)\/(b<a/\EG a b=1):=by
 unfold EG;by_cases h:a<b
 ·exact .inl ⟨h,by rw[AD h]⟩
 by_cases h2:b<a
 ·exact .inr (.inr ⟨h2,by rw[A7 h,AD h2]⟩)
 exact .inr (.inl ⟨oo,by rw[A7 h,A7 h2]⟩)
def NQ(a b:C2):HM a b<0↔ltN a b:=by
 unfold HM orF ltN;rcases Ul a.name b.name with⟨h1,h2,h3,h4⟩|⟨h1,h2,h3,h4⟩|⟨h1,h2,h3,h4⟩
 ·rw[h4,h1];simp
 ·rw[h4,h1,AD rfl];exact nI
 rw[h4,h1];simp[h2]
def Qd9(a b:C2):HM a b=0↔a.name=b.name/\a.at_=b.at_:=by
 unfold HM orF;rcases Ul a.name b.name with⟨h1,h2,h3,h4⟩|⟨h1,h2,h3,h4⟩|⟨h1,h2,h3,h4⟩
 ·rw[h4];simp[h2]
 ·rw[h4,AD rfl];exact nI
 rw[h4];simp[h2]
def PN(b:B4):Bool:=decide (b.id<0)||decide (1000000000000000<b.id)||decide (b.A0<0)||decide (1000000000000000<b.A0)||decide (b.size<1)||decide (1000000000000<b.size)||!(decide (0<=b.lo)&&decide (b.lo<b.hi)&&decide (b.hi<=1000000000000))
def M4(a b:B4):Bool:=a.id==b.id&&decide (a.lo<b.hi)&&decide (b.lo<a.hi)
def Jw(l:List B4)(k:Nat):Int:=
 if PN (l.getD k default)=true then 2 else if FI (l.getD k default).stack≠0 then FI (l.getD k default).stack
 else if(decide (0<k)&&decide ((l.getD k default).lo<(l.getD (k-1) default).lo))=true then 11
 else if(l.take k).any (λa=>M4 a (l.getD k default))=true then 4 else 0
def bkF(l:List B4):Int:=Bh (Jw l) l.length
def va{l:List B4}{k:Nat}(h:PN (l.getD k default)=true):Jw l k=2:=by rw[Jw,AD h]
def Q02{l:List B4}{k:Nat}(h:PN (l.getD k default)=false)(h2:FI (l.getD k default).stack≠0):Jw l k=FI (l.getD k default).stack:=by rw[Jw,A7 Jc,AD h2]
def vb{l:List B4}{k:Nat}(h:PN (l.getD k default)=false)(h2:FI (l.getD k default).stack=0)(h3:(decide (0<k)&&decide ((l.getD k default).lo<(l.getD (k-1) default).lo))=true):Jw l k=11:=by
 rw[Jw,A7 Jc,A7 Je,AD h3]
def Q03{l:List B4}{k:Nat}(h:PN (l.getD k default)=false)(h2:FI (l.getD k default).stack=0)(h3:(decide (0<k)&&decide ((l.getD k default).lo<(l.getD (k-1) default).lo))=false):
  Jw l k=if(l.take k).any (λa=>M4 a (l.getD k default))=true then 4 else 0:=by
 rw[Jw,A7 Jc,A7 Je,A7 K9]
def yW(l:List B4)(hs:∀x∈l,x.stack.length<1000000)(hl:l.length<1000000):AT prog Gl 94 [.d (.sl (l.map B4.A5))] (.d (.int .i64 (bkF l))):=by
 refine CN ?_;refine acS func94 ntmps94 results94 ?_;refine EE ?_;refine Bm l.length (λk=>[(0,.d (.sl (l.map B4.A5))),(8,.d (.sl (l.map B4.A5))),(9,(l.length:Int)),(10,(k:Int))]) (λ_=>[]) (λk=>Bh (Jw l) k=0) rfl ?_ ?_
 ·exact Mh
 intro k hi hk;by_cases h:k<l.length
 ·have hb:∀e,Jw l k=e->e≠0->bkF l=e:=λe h1 h2=>by rw[bkF,Ga hi RS h,h1]
  obtain⟨b,eb⟩:∃b,b=l.getD k default:=⟨_,rfl⟩;have lt:(l.take k).length=k:=Ap;refine OG ?_;refine DS (λ_=>Q1 _ _) ?_;refine Ce ?_;apply ifC.mk<;>intro h1
  ·refine BT ?_;rw[hb 2 (va Mc) oo]
  have hb1:PN (l.getD k default)=false:=Mc;refine Ak (fc _ (by rw[eb];exact hs _ (Ba h))) ?_;refine Ce ?_;apply ifC.mk<;>intro h2
  ·have h2:FI (l.getD k default).stack≠0:=TO;refine BT ?_;rw[hb _ (Q02 hb1 h2) h2,eb]
  have hb2:FI (l.getD k default).stack=0:=TO;by_cases hk0:0<k;have e1:IntKind.i64.wrap ((k:Int)-1)=((k-1:Nat):Int):=Bz;simp only[zC,seval,(oo:(0:Int)<k),e1,(oo:((k-1:Nat):Int)<l.length),(oo:k-1<l.length),Af _ _ _ (oo:k-1<l.length)];refine Ag ?_;apply ifC.mk<;>intro h3
  ·refine BT ?_;rw[hb 11 (vb hb1 hb2 (by rw[<-eb];simp[hk0];simpa using h3)) oo]
  have hb3:(decide (0<k)&&decide ((l.getD k default).lo<(l.getD (k-1) default).lo))=false:=by rw[<-eb];simp[hk0];simpa using h3
  (try simp only[zC,seval,<-JT,lt,(oo:(k:Int)<=l.length)])
  refine Ag ?_;rotate_left;simp only[zC,seval,(oo:¬(0:Int)<k)];refine Ag ?_;have hb3:(decide (0<k)&&decide ((l.getD k default).lo<(l.getD (k-1) default).lo))=false:=by simp[hk0]
  (try simp only[zC,seval,<-JT,lt,(oo:(k:Int)<=l.length)])
  repeat((with_reducible apply aI);exact sdp)
  all_goals
   have hcl:=Q03 (l:=l) (k:=k) hb1 hb2 hb3;refine Bm k (λj=>[(0,.d (.sl (l.map B4.A5))),(4,.ptr 0 0),(8,.d (.sl (l.map B4.A5))),(9,(l.length:Int)),(10,(k:Int)),(72,.d (.sl ((l.take k).map B4.A5))),(73,(k:Int)),(74,(j:Int))]) (λ_=>[.box 7 (.d b.A5)]) (λj=>(l.take j).any (λa=>M4 a (l.getD k default))=false) rfl ?_ ?_
   ·refine BA [] [0] rfl A6 ?_ rfl;simp only[zC,seval,HB,<-JT,lt]
   intro j hj hjk;by_cases h5:j<k
   ·have h6:j<(l.take k).length:=by rw[lt];exact h5
    have g1:(l.take k).getD j default=l.getD j default:=by simp[GH h5]
    have hs:=K_ (λa=>M4 a (l.getD k default)) l j oo;simp only[zC,seval,(oo:(j:Int)<k),h6,Af _ _ _ (oo:j<(l.take k).length),lt,g1,h5];refine Ag ?_;apply ifC.mk<;>intro hc
    ·refine BT ?_;rw[hb 4 (by rw[hcl,AD];rw[K6];exact⟨l.getD j default,by rw[<-g1];exact Ba h6,by rw[<-eb];exact hc⟩) oo]
    refine⟨by rw[hs,hj,<-eb];exact hc,?_⟩;refine BA [] [0] rfl A6 ?_ rfl;simp only[zC,seval,a_w ((j:Int)+1)]
   simp only[zC,seval,(oo:¬(j:Int)<k)];have hjk:j=k:=oo;subst hjk;refine⟨HR hi (by rw[hcl,A7 (by rw[hj];simp)]),?_⟩;refine Gw ?_;simp only[zC,seval,a_w ((j:Int)+1)]
 refine Mj ?_;refine BT ?_;have:k=l.length:=oo;rw[bkF,<-this,hi]

def Hl(n m:Int):Bool:=decide (n<0)||decide (m<n)
def gT(n m:Int):AT prog Gl 132 [(n:Int),(m:Int)] (.d (.bool (Hl n m))):=by
 refine FB ?_;refine Fv func132 rfl rfl (by simp[ntmps132]) (Bu rfl _ _ _ _ ?_);simp only[ntmps132,results132,B6,C6];refine Ce ?_;exact D0
def Q6(f:Cb):Bool:=Hl f.id 1000000000000000||Hl f.ft 1000000000000000||Hl f.fs 1000000000000000||Hl f.tt 1000000000000000||Hl f.ts 1000000000000000||Hl f.send 1000000000000||Hl f.recv 1000000000000
def VD(l:List Cb)(k:Nat):Bool:=decide ((l.getD k default).recv<(l.getD k default).send)||(decide (0<k)&&decide ((l.getD k default).recv<(l.getD (k-1) default).recv))
def Ng(l:List Cb)(k:Nat):Int:=if Q6 (l.getD k default)=true then 2 else if VD l k=true then 11 else 0
def Ly(l:List Cb):Int:=Bh (Ng l) l.length
def rE{l:List Cb}{k:Nat}(h:Q6 (l.getD k default)=true):Ng l k=2:=by rw[Ng,AD h]
def u6{l:List Cb}{k:Nat}(h:Q6 (l.getD k default)=false):Ng l k=if VD l k=true then 11 else 0:=by rw[Ng,A7 Jc]
set_option maxHeartbeats 2000000 in
def rp(l:List Cb)(hl:l.length<1000000):AT prog Gl 86 [.d (.sl (l.map Cb.A5))] (.d (.int .i64 (Ly l))):=by
 refine CN ?_;refine acS func86 ntmps86 results86 ?_;refine EE ?_;refine Bm l.length (λk=>[(0,.d (.sl (l.map Cb.A5))),(5,.d (.sl (l.map Cb.A5))),(6,(l.length:Int)),(7,(k:Int))]) (λ_=>[]) (λk=>Bh (Ng l) k=0) rfl ?_ ?_
 ·exact Mh
 intro k hi hk;by_cases h:k<l.length
 ·have hb:∀e,Ng l k=e->e≠0->Ly l=e:=λe h1 h2=>by rw[Ly,Ga hi RS h,h1]
  obtain⟨b,eb⟩:∃b,b=l.getD k default:=⟨_,rfl⟩;refine OG ?_;refine Ak (gT _ _) ?_;cases h1:Hl b.id 1000000000000000 with
  | true=>
   exact Pn
  | false=>
   refine RX ?_;cases h2:Hl b.ft 1000000000000000 with
   | true=>
    exact Pn
   | false=>
    refine RX ?_;cases h3:Hl b.fs 1000000000000000 with
    | true=>
     exact Pn
    | false=>
     refine RX ?_;cases h4:Hl b.tt 1000000000000000 with
     | true=>
      exact Pn
     | false=>
      refine RX ?_;cases h5:Hl b.ts 1000000000000000 with
      | true=>
       exact Pn
      | false=>
       refine RX ?_;cases h6:Hl b.send 1000000000000 with
       | true=>
        exact Pn
       | false=>
        refine RX ?_;cases h7:Hl b.recv 1000000000000 with
        | true=>
         exact Pn
        | false=>
         refine Ce ?_;have ho:=u6 (l:=l) (k:=k) lL;rw[VD,<-eb] at ho;cases h8:decide (b.recv<b.send) with
         | true=>
          refine Ce ?_;refine BT ?_;rw[h8,Bool.true_or,AD rfl] at ho;rw[hb 11 ho oo]
         | false=>
          refine Ce ?_;rw[h8,Kq] at ho;exact Bub
 refine Mj ?_;refine BT ?_;have:k=l.length:=oo;rw[Ly,<-this,hi]
def Mu(s:Cw):Bool:=decide (0<=s.A0)&&decide (s.A0<=1000000000000000)&&decide (0<=s.at_)&&decide (s.at_<=1000000000000)&&decide (1<=s.weight)&&decide (s.weight<=1000000000000)
def Q5x(s:Cw):AT prog Gl 133 [.d s.A5] (.d (.bool (Mu s))):=by
 refine CN ?_;refine acS func133 ntmps133 results133 ?_;exact Kv
def LQ(l:List Cw)(k:Nat):Int:=if Mu (l.getD k default)=false then 2 else if FI (l.getD k default).stack≠0 then FI (l.getD k default).stack
 else if(decide (0<k)&&decide ((l.getD k default).at_<(l.getD (k-1) default).at_))=true then 11 else 0
def M8(l:List Cw):Int:=Bh (LQ l) l.length
def xh{l:List Cw}{k:Nat}(h:Mu (l.getD k default)=false):LQ l k=2:=by rw[LQ,AD h]
def ue{l:List Cw}{k:Nat}(h:Mu (l.getD k default)=true)(h2:FI (l.getD k default).stack≠0):LQ l k=FI (l.getD k default).stack:=by rw[LQ,A7 Jc,AD h2]
def uf{l:List Cw}{k:Nat}(h:Mu (l.getD k default)=true)(h2:FI (l.getD k default).stack=0):LQ l k=if(decide (0<k)&&decide ((l.getD k default).at_<(l.getD (k-1) default).at_))=true then 11 else 0:=by rw[LQ,A7 Jc,A7 Je]
def qU(l:List Cw)(hs:∀x∈l,x.stack.length<1000000)(hl:l.length<1000000):AT prog Gl 90 [.d (.sl (l.map Cw.A5))] (.d (.int .i64 (M8 l))):=by
 refine CN ?_;refine acS func90 ntmps90 results90 ?_;refine EE ?_;refine Bm l.length (λk=>[(0,.d (.sl (l.map Cw.A5))),(6,.d (.sl (l.map Cw.A5))),(7,(l.length:Int)),(8,(k:Int))]) (λ_=>[]) (λk=>Bh (LQ l) k=0) rfl ?_ ?_
 ·exact Mh
 intro k hi hk;by_cases h:k<l.length
 ·have hb:∀e,LQ l k=e->e≠0->M8 l=e:=λe h1 h2=>by rw[M8,Ga hi RS h,h1]
  obtain⟨b,eb⟩:∃b,b=l.getD k default:=⟨_,rfl⟩;refine OG ?_;refine Ak (Q5x _) ?_;refine Ce ?_;apply ifC.mk<;>intro h1
  ·refine BT ?_;rw[hb 2 (xh (by rw[<-eb];simpa using h1)) oo]
  have h1:Mu (l.getD k default)=true:=by rw[<-eb];simpa using h1
  refine Ag ?_;refine Ak (fc _ (by rw[eb];exact hs _ (Ba h))) ?_;refine Ce ?_;apply ifC.mk<;>intro h2
  ·have h2:FI (l.getD k default).stack≠0:=TO;refine BT ?_;rw[hb _ (ue h1 h2) h2,eb]
  have ho:=uf h1 TO;rw[<-eb] at ho;exact Bub
 refine Mj ?_;refine BT ?_;have:k=l.length:=oo;rw[M8,<-this,hi]

def HG(a b:Ac):Int:=orL [EG a.lo b.lo,EG b.hi a.hi,EG a.A0 b.A0]
def iH(a b:Ac):AT prog Gl 40 [.d a.A5,.d b.A5] (.d (.int .i64 (HG a b))):=by
 refine FB ?_;refine acS func40 ntmps40 results40 ?_;refine EE ?_;refine Ag ?_;refine Ak (MD _ _) ?_;refine Ce ?_;refine Ak (MD _ _) ?_;refine Ce ?_;refine Ak (MD _ _) ?_;refine Fo ?_;refine Uc 2 (λB hB=>Zd [EG a.lo b.lo,EG b.hi a.hi,EG a.A0 b.A0] A6 B hB) (λ_=>rfl) rfl ?_;refine Ce ?_;exact D0
def IG(l:List Ac)(i k:Int):Bool:=
 if h:0<=k then(if i=k then true else if h2:(l.getD k.toNat default).parent<k then IG l i (l.getD k.toNat default).parent else false) else false
termination_by (k+1).toNat
decreasing_by omega
def JB(l:List Ac)(i:Nat):Bool:=
 let s:=l.getD i default
 if(decide (s.parent < -1)||decide ((i:Int)<=s.parent))=true then false
 else if s.parent=-1 then s.depth==0
 else !((l.getD s.parent.toNat default).A0 !=s.A0||decide (s.lo<(l.getD s.parent.toNat default).lo)||decide ((l.getD s.parent.toNat default).hi<s.hi)||s.depth !=IntKind.i64.wrap ((l.getD s.parent.toNat default).depth+1))
def Jl(l:List Ac):Bool:=(List.range l.length).all (JB l)
def QQ(p:Nat->Bool)(k:Nat):(List.range (k+1)).all p=((List.range k).all p&&p k):=by
 rw[Ny,Vo];simp only[Sy,List.all_nil,MT]
def SI{p:Nat->Bool}{n k:Nat}(h:k<n)(hp:p k=false):(List.range n).all p=false:=by
 rw[Vc];exact⟨k,CI.2 h,by simp[hp]⟩
def sK{l:List Ac}{i:Nat}(h:JB l i=true):-1<=(l.getD i default).parent/\(l.getD i default).parent<i:=by
 unfold JB at h;simp only at h;split at h
 ·cases h
 rename_i h1;simp only[V_,JY,GG] at h1;omega
def wW{l:List Ac}(h:Jl l=true){i:Nat}(hi:i<l.length):JB l i=true:=by
 unfold Jl at h;rw[EW] at h;exact h i (CI.2 hi)
def wG(l:List Ac)(hl:l.length<1000000):AT prog Gl 129 [.d (.sl (l.map Ac.A5))] (.d (.bool (Jl l))):=by
 refine CN ?_;refine acS func129 ntmps129 results129 ?_;refine EE ?_;refine Bm l.length (λk=>[(0,.d (.sl (l.map Ac.A5))),(6,.d (.sl (l.map Ac.A5))),(7,(l.length:Int)),(8,(k:Int))]) (λ_=>[]) (λk=>(List.range k).all (JB l)=true) rfl ?_ ?_
 ·exact Mh
 intro k hi hk;by_cases h:k<l.length
 ·obtain⟨b,eb⟩:∃b,b=l.getD k default:=⟨_,rfl⟩;have hbad:JB l k=false->Jl l=false:=λh1=>SI h h1;refine OG ?_;cases h1:(decide (b.parent < -1)||decide ((k:Int)<=b.parent)) with
  | true=>
   refine Ce ?_;refine BT ?_;rw[hbad (by unfold JB;rw[<-eb];simp only[h1,AD])]
  | false=>
   refine Ce ?_;have hn:JB l k=if b.parent=-1 then b.depth==0 else !((l.getD b.parent.toNat default).A0 !=b.A0||decide (b.lo<(l.getD b.parent.toNat default).lo)||decide ((l.getD b.parent.toNat default).hi<b.hi)||b.depth !=IntKind.i64.wrap ((l.getD b.parent.toNat default).depth+1)):=by
    unfold JB;rw[<-eb];simp only[h1,Cx,CF]
   simp only[JY,GG] at h1;by_cases h2:b.parent=-1;rw[AD h2] at hn;simp only[zC,seval,il (oo:b.parent=-1)];apply ifC.mk<;>intro h3
   ·refine BT ?_;rw[hbad (by rw[hn];simpa using h3)]
   have hat:JB l k=true:=by rw[hn];simpa using h3
   rotate_left;rw[A7 h2] at hn;obtain⟨q,eq⟩:∃q:Nat,b.parent=q:=⟨b.parent.toNat,oo⟩;rw[eq,WY] at hn;simp only[zC,seval,eq,Mq (oo:¬((q:Int)=-1)),(oo:(q:Int)<l.length),(oo:q<l.length),Af _ _ _ (oo:q<l.length)];refine Ag ?_;apply ifC.mk<;>intro h3
   ·refine BT ?_;rw[hbad (by rw[hn,h3];rfl)]
   have hat:JB l k=true:=by rw[hn,h3];rfl
   all_goals
    refine⟨by rw[QQ,hi,hat];rfl,?_⟩;refine Gw ?_;simp only[zC,seval,a_w ((k:Int)+1)]
 refine Mj ?_;refine BT ?_;have:k=l.length:=oo;rw[Jl,<-this,hi]
def Qgx{l:List Ac}{i k:Int}(h:¬0<=k):IG l i k=false:=by rw[IG,PQ h]
def Qbd{l:List Ac}{i k:Int}(h:0<=k)(h2:i=k):IG l i k=true:=by rw[IG,JR h,AD h2]
def Qbc{l:List Ac}{i k:Int}(h:0<=k)(h2:i≠k)(h3:(l.getD k.toNat default).parent<k):IG l i k=IG l i (l.getD k.toNat default).parent:=by rw[IG,JR h,A7 h2,JR h3]
def yo(l:List Ac)(hl:l.length<1000000)(hn:Jl l=true)(i k:Int)(hk:k<l.length):AT prog Gl 159 [.d (.sl (l.map Ac.A5)),(i:Int),(k:Int)] (.d (.bool (IG l i k))):=by
 refine AT.Z2 ?_;refine acS func159 ntmps159 results159 ?_;refine EE ?_;refine CL (τ:=Int) (λp=>[(0,.d (.sl (l.map Ac.A5))),(1,(i:Int)),(2,(p:Int))]) (λ_=>[]) (λp=>p<l.length/\IG l i p=IG l i k) (λp=>(p+1).toNat) k ⟨hk,rfl⟩ ?_ ?_
 ·refine Gw ?_;simp only[zC,seval]
 rintro p ⟨h1,h2⟩;refine Ce ?_;apply ifC.mk<;>intro hc
 ·have hc:0<=p:=Dc;obtain⟨q,rfl⟩:∃q:Nat,p=q:=⟨p.toNat,oo⟩;refine Ce ?_;apply ifC.mk<;>intro hd
  ·refine BT ?_;rw[<-h2,Qbd hc (by simpa using hd)]
  have hd:i≠q:=by simpa using hd
  have hp:=sK (wW hn (i:=q) oo);rw[Qbc hc hd (by rw[WY];exact hp.2),WY] at h2;simp only[zC,seval,(oo:(q:Int)<l.length),(oo:q<l.length),Af _ _ _ (oo:q<l.length)];refine Ag ?_;refine⟨(l.getD q default).parent,⟨oo,h2⟩,oo,?_⟩;refine Gw ?_;simp only[zC,seval]
 have hc:¬0<=p:=Dc;refine BT ?_;rw[<-h2,Qgx hc]
def Hz(l:List Ac)(i:Nat):Nat->Int
 | 0=>IntKind.i64.wrap ((l.getD i default).hi-(l.getD i default).lo)
 | j+1=>if((l.getD j default).parent==(i:Int))=true then IntKind.i64.wrap (Hz l i j-IntKind.i64.wrap ((l.getD j default).hi-(l.getD j default).lo)) else Hz l i j
def Rk(l:List Ac)(j i:Nat):Bool:=decide ((j:Int)<i)&&((l.getD j default).A0==(l.getD i default).A0)&&decide ((l.getD i default).lo<(l.getD j default).hi)&&decide ((l.getD j default).lo<(l.getD i default).hi)&&!IG l j i
def NB(l:List Ac)(i:Nat):Bool:=((List.range l.length).all λj=>!Rk l j i)&&((l.getD i default).self==Hz l i l.length)
def Mr(l:List Ac):Bool:=(List.range l.length).all (NB l)
def tX(l:List Ac)(hl:l.length<1000000)(hn:Jl l=true):AT prog Gl 130 [.d (.sl (l.map Ac.A5))] (.d (.bool (Mr l))):=by
 refine CN ?_;refine acS func130 ntmps130 results130 ?_;refine EE ?_;refine Bm l.length (λk=>[(0,.d (.sl (l.map Ac.A5))),(8,.d (.sl (l.map Ac.A5))),(9,(l.length:Int)),(10,(k:Int))]) (λ_=>[]) (λk=>(List.range k).all (NB l)=true) rfl ?_ ?_
 ·exact Mh
 intro k hi hk;by_cases h:k<l.length
 ·obtain⟨b,eb⟩:∃b,b=l.getD k default:=⟨_,rfl⟩;have hbad:NB l k=false->Mr l=false:=λh1=>SI h h1;refine OG ?_;refine Bm l.length (λj=>[(0,.d (.sl (l.map Ac.A5))),(3,(k:Int)),(4,.ptr 0 0),(5,(Hz l k j:Int)),(8,.d (.sl (l.map Ac.A5))),(9,(l.length:Int)),(10,(k:Int)),(22,.d (.sl (l.map Ac.A5))),(23,(l.length:Int)),(24,(j:Int))]) (λ_=>[.box 8 (.d b.A5)]) (λj=>((List.range j).all λj=>!Rk l j k)=true) rfl ?_ ?_
  ·refine BA [] [0] rfl A6 ?_ rfl;simp only[zC,seval,HB,Hz,<-eb]
   all_goals rfl
  intro j hj hjk;by_cases h2:j<l.length
  ·obtain⟨a,ea⟩:∃a,a=l.getD j default:=⟨_,rfl⟩;simp only[zC,seval,(oo:(j:Int)<l.length),h2,Af _ _ _ (oo:j<l.length),<-ea];refine Ag ?_;cases h3:(a.parent==(k:Int)) with
   | true=>
    have hS:Hz l k (j+1)=IntKind.i64.wrap (Hz l k j-IntKind.i64.wrap (a.hi-a.lo)):=by rw[Hz,<-ea,AD h3]
    exact mQ
   | false=>
    have hS:Hz l k (j+1)=Hz l k j:=by rw[Hz,<-ea,A7 K9]
    exact mQ
  simp only[zC,seval,(oo:¬(j:Int)<l.length)];have hjn:j=l.length:=oo;subst hjn;have hat:NB l k=(b.self==Hz l k l.length):=by unfold NB;rw[hj,<-eb,Hu]
  apply ifC.mk<;>intro hc
  ·refine BT ?_;rw[hbad (by rw[hat];simpa using hc)]
  have hat:NB l k=true:=by rw[hat];simpa using hc
  refine⟨by rw[QQ,hi,hat];rfl,?_⟩;exact RW
 refine Mj ?_;refine BT ?_;have:k=l.length:=oo;rw[Mr,<-this,hi]
def K5(l:List Ac)(k:Nat):Int:=
 if(decide ((l.getD k default).A0<0)||decide (1000000000000000<(l.getD k default).A0)||!Gp (l.getD k default).lo (l.getD k default).hi)=true then 2
 else if FE (l.getD k default).name≠0 then FE (l.getD k default).name
 else if(decide (0<k)&&decide (0<HG (l.getD (k-1) default) (l.getD k default)))=true then 11 else 0
def Ik(l:List Ac):Int:=if Bh (K5 l) l.length≠0 then Bh (K5 l) l.length else if(Jl l&&Mr l)=true then 0 else 10
def xM{l:List Ac}{k:Nat}(h:(decide ((l.getD k default).A0<0)||decide (1000000000000000<(l.getD k default).A0)||!Gp (l.getD k default).lo (l.getD k default).hi)=true):K5 l k=2:=by rw[K5,AD h]
def Q35{l:List Ac}{k:Nat}(h:(decide ((l.getD k default).A0<0)||decide (1000000000000000<(l.getD k default).A0)||!Gp (l.getD k default).lo (l.getD k default).hi)=false)(h2:FE (l.getD k default).name≠0):K5 l k=FE (l.getD k default).name:=by rw[K5,A7 Jc,AD h2]
def ud{l:List Ac}{k:Nat}(h:(decide ((l.getD k default).A0<0)||decide (1000000000000000<(l.getD k default).A0)||!Gp (l.getD k default).lo (l.getD k default).hi)=false)(h2:FE (l.getD k default).name=0):K5 l k=if(decide (0<k)&&decide (0<HG (l.getD (k-1) default) (l.getD k default)))=true then 11 else 0:=by rw[K5,A7 Jc,A7 Je]
def tH(l:List Ac)(hl:l.length<1000000):AT prog Gl 82 [.d (.sl (l.map Ac.A5))] (.d (.int .i64 (Ik l))):=by
 refine CN ?_;refine acS func82 ntmps82 results82 ?_;refine EE ?_;refine Bm l.length (λk=>[(0,.d (.sl (l.map Ac.A5))),(6,.d (.sl (l.map Ac.A5))),(7,(l.length:Int)),(8,(k:Int))]) (λ_=>[]) (λk=>Bh (K5 l) k=0) rfl ?_ ?_
 ·exact Mh
 intro k hi hk;by_cases h:k<l.length
 ·have hb:∀e,K5 l k=e->e≠0->Ik l=e:=λe h1 h2=>by
   have:=Ga hi RS h;rw[Ik,this,h1,AD h2]
  obtain⟨b,eb⟩:∃b,b=l.getD k default:=⟨_,rfl⟩;refine OG ?_;refine DS (λ_=>Q1 _ _) ?_;refine Fo ?_;apply ifC.mk<;>intro h1
  ·refine BT ?_;rw[hb 2 (xM Mc) oo]
  refine Ak (SQ _) ?_;refine Ce ?_;apply ifC.mk<;>intro h2
  ·have h2:FE b.name≠0:=DN;refine BT ?_;rw[hb _ (Q35 Mc Vv) Vv,<-eb]
  have ho:=ud (l:=l) (k:=k) Mc TO;rw[<-eb] at ho;by_cases hk0:0<k;have e1:IntKind.i64.wrap ((k:Int)-1)=((k-1:Nat):Int):=Bz;obtain⟨a,ea⟩:∃a,a=l.getD (k-1) default:=⟨_,rfl⟩;rw[JU hk0,Hu,<-ea] at ho;refine bk ?_;refine Ag ?_;refine DS (λ_=>iH _ _) ?_;refine Fo ?_;apply ifC.mk<;>intro h3
  ·refine BT ?_;rw[AD h3] at ho;rw[hb 11 ho oo]
  rw[A7 K9] at ho;rotate_left;rw[HX hk0,JV,A7 A6] at ho;have e0:(IntKind.i64.wrap ((k:Int)-1)).toNat=0:=Bz;simp only[zC,seval,(oo:¬(0:Int)<k),e0,Af _ _ _ (oo:0<l.length)];refine Ag ?_;refine DS (v:=.d (.int .i64 0)) (λh=>D8) ?_;simp only[zC,seval,e0,Af _ _ _ (oo:0<l.length)]
  repeat((with_reducible apply aI);exact sdp)
  all_goals
   refine⟨HR hi ho,?_⟩;refine Gw ?_;simp only[zC,seval,a_w ((k:Int)+1)]
 refine Mj ?_;have:k=l.length:=oo;subst this;have hF:Ik l=if(Jl l&&Mr l)=true then 0 else 10:=by rw[Ik,hi,A7 A6]
 refine Ak (wG l hl) ?_;refine Ce ?_;cases hn:Jl l with
 | false=>
  rw[hn,JV,A7 A6] at hF;refine Ag ?_;refine DS (v:=.d (.bool false)) (λh=>D8) ?_;refine Ce ?_;refine BT ?_;rw[hF]
 | true=>
  rw[hn,Hu] at hF;refine Ag ?_;refine DS (λ_=>tX l hl hn) ?_;refine Ce ?_;cases ha:Mr l with
  | false=>
   refine Ce ?_;refine BT ?_;rw[hF,ha,A7 A6]
  | true=>
   refine Ce ?_;refine BT ?_;rw[hF,ha,AD rfl]

def tT(xs:List Int)(x:Int)(hl:xs.length<2000000)(B:Blk)(hB:KZ 1 (xs.map (D.int .i64)) B):AW prog Gl 121 [.A8 0 0 xs.length,(x:Int)] [B] (λr s=>r=.d (.int .i64 (Ew (λy=>x==y) xs))/\s=[B]):=by
 rcases hB with rfl|rfl
 ·refine acS func121 ntmps121 results121 ?_;refine EE ?_;refine Bm xs.length (λk=>[(0,.A8 0 0 xs.length),(1,(x:Int)),(7,(xs.length:Int)),(8,(k:Int))]) (λ_=>[.arr 1 (xs.map (D.int .i64))]) (λk=>(xs.take k).any (λy=>x==y)=false) rfl ?_ ?_
  ·refine BA [] [0] rfl A6 ?_ rfl;simp only[zC,seval,HB]
   all_goals rfl
  exact mO
 refine acS func121 ntmps121 results121 ?_;refine EE ?_;refine Bm xs.length (λk=>[(0,.A8 0 0 xs.length),(1,(x:Int)),(7,(xs.length:Int)),(8,(k:Int))]) (λ_=>[.BS 1 (xs.map (D.int .i64))]) (λk=>(xs.take k).any (λy=>x==y)=false) rfl ?_ ?_
 ·refine BA [] [0] rfl A6 ?_ rfl;simp only[zC,seval,HB]
  all_goals rfl
 exact mO
def vm(xs:List Int)(x:Int)(hl:xs.length<1000000):AT prog Gl 121 [.d (.sl (xs.map (D.int .i64))),(x:Int)] (.d (.int .i64 (Ew (λy=>x==y) xs))):=by
 refine FB ?_;refine acS func121 ntmps121 results121 ?_;refine EE ?_;refine Bm xs.length (λk=>[(0,.d (.sl (xs.map (D.int .i64)))),(1,(x:Int)),(7,(xs.length:Int)),(8,(k:Int))]) (λ_=>[]) (λk=>(xs.take k).any (λy=>x==y)=false) rfl ?_ ?_
 ·exact Mh
 intro k hi hk;by_cases h:k<xs.length
 ·have hs:=K_ (λy=>x==y) xs k h;refine bo ?_;refine Ag ?_;apply ifC.mk<;>intro hc
  ·refine BT ?_;rw[QP h hi hc]
  refine⟨RT,?_⟩;exact RW
 simp only[zC,seval,(oo:¬(k:Int)<xs.length)];have:k=xs.length:=oo;subst this;rw[BL] at hi;refine BT ?_;rw[NL hi]
def dA(xs:List Int)(x:Int)(hl:xs.length<2000000)(B:Blk)(hB:KZ 1 (xs.map (D.int .i64)) B):AW prog Gl 71 [.A8 0 0 xs.length,(x:Int)] [B] (λr s=>r=.d (.bool (xs.any (λy=>x==y)))/\s=[B]):=by
 have hix:=tT (Gl:=Gl) xs x hl B hB;rcases hB with rfl|rfl
 ·exact mM
 exact mM
def D4(l:List An):List Int:=l.foldl (λout x=>if out.any (λy=>x.id==y)=true then out else out++[x.id]) []
def dS(l:List An)(k:Nat)(h:k<l.length):D4 (l.take (k+1))=if(D4 (l.take k)).any (λy=>(l.getD k default).id==y)=true then D4 (l.take k) else D4 (l.take k)++[(l.getD k default).id]:=by
 rw[CY l k h];unfold D4;rw[GD];rfl
def S8(l:List An):∀k,(D4 (l.take k)).length<=k
 | 0=>by simp[D4]
 | k+1=>by
  have ih:=S8 l k;by_cases h:k<l.length
  ·rw[dS l k h];split
   ·omega
   rw[Bb];simp only[CT,C6];omega
  rw[Bi oo];rw[Bi oo] at ih;omega
def dB(l:List An)(hl:l.length<1000000):AT prog Gl 42 [.d (.sl (l.map An.A5))] (.d (.sl ((D4 l).map (D.int .i64)))):=by
 refine CN ?_;refine acS func42 ntmps42 results42 ?_;refine EE ?_;refine Bm l.length (λk=>[(3,.A8 0 0 (D4 (l.take k)).length),(6,.d (.sl (l.map An.A5))),(7,(l.length:Int)),(8,(k:Int))]) (λk=>[.arr 1 ((D4 (l.take k)).map (D.int .i64))]) (λ_=>True) trivial ?_ ?_
 ·refine(Eb 3 1 rfl).trans ?_;refine BA [] [0] rfl A6 ?_ ?_
  ·simp only[zC,seval,HB]
   all_goals rfl
  rfl
 intro k _ hk;have hdl:=S8 l k;by_cases h:k<l.length
 ·have hs:=dS l k h;obtain⟨ys,hys⟩:∃ys,ys=D4 (l.take k):=⟨_,rfl⟩;rw[<-hys] at hs hdl ⊢;simp only[zC,seval,(oo:(k:Int)<l.length),h,Af _ _ _ (oo:k<l.length)];refine Ag ?_;refine Uc 0 (λB hB=>dA ys _ oo B hB) (λ_=>rfl) rfl ?_;refine Ce ?_;cases hc:ys.any (λy=>(l.getD k default).id==y) with
  | true=>
   rw[hc,AD rfl] at hs;simp only[zC,seval,hs];refine BA [] [0] rfl A6 ?_ rfl;simp only[zC,seval,a_w ((k:Int)+1)]
   all_goals rfl
  | false=>
   rw[hc,A7 A6] at hs;simp only[zC,seval,HQ];refine Ag ?_;rw[hs];refine BA [] [3] rfl A6 ?_ ?_
   ·simp only[zC,seval,a_w ((k:Int)+1)]
    all_goals rfl
   simp only[zC,seval,CA]
   all_goals rfl
 have:k=l.length:=oo;subst this;simp only[zC,seval,(oo:¬(l.length:Int)<l.length),BL];refine Pp ?_;simp only[zC,seval,HQ]
def IH(s:BQ):Bool:=(decide (0<=s.state)&&decide (s.state<=5))&&(if(s.state==4)=true then decide (0<=s.G0)&&decide (s.G0<64) else s.G0==-1)&&(if(s.state==2)=true then decide (0<=s.Fw)&&decide (s.Fw<=1000000000000000) else s.Fw==-1)
 && (s.CD==-1||((s.state==1||s.state==2)&&decide (0<=s.CD)&&decide (s.CD<=1000000000000000)))
def vz(s:BQ):AT prog Gl 131 [.d s.A5] (.d (.bool (IH s))):=by
 refine CN ?_;refine acS func131 ntmps131 results131 ?_;refine EE ?_;apply ifC.mk<;>intro h1;rotate_left;apply ifC.mk<;>intro h2
 ·simp only[zC,seval,h2];exact WG
 apply ifC.mk<;>intro h3
 ·exact WG
 apply ifC.mk<;>intro h4
 ·simp only[zC,seval,h4];exact WG
 apply ifC.mk<;>intro h5
 ·exact WG
 all_goals
  refine BT ?_;refine congrArg (λb=>AV.d (D.bool b)) ?_;unfold IH;cases e4:(s.state==4)<;>cases e2:(s.state==2)<;>simp_all<;>omega
def KN(a b:BQ):Bool:=a.state==b.state&&a.G0==b.G0&&a.Fw==b.Fw
def ic(a b:BQ):AT prog Gl 74 [.d a.A5,.d b.A5] (.d (.bool (KN a b))):=by
 refine FB ?_;refine acS func74 ntmps74 results74 ?_;exact Kv

def Kk(ids:List Int)(x:Int):Int:=Ew (λy=>x==y) ids
def atU(ids:List Int)(l:List BQ):Nat->Int
 | 0=>-1
 | k+1=>Kk ids (l.getD k default).A0
def P9(ids:List Int)(l:List BQ)(k:Nat):Bool:=
 let s:=l.getD k default
 let i:=Kk ids s.A0
 (i==atU ids l k&&(s.lo !=(l.getD (k-1) default).hi||KN s (l.getD (k-1) default)))||(i !=atU ids l k&&(i !=atU ids l k+1||s.lo !=0))
def uAt(ids:List Int)(l:List BQ)(k:Nat):Int:=
 if Kk ids (l.getD k default).A0<0 then 5 else if Gp (l.getD k default).lo (l.getD k default).hi=false then 2 else if IH (l.getD k default)=false then 1
 else if P9 ids l k=true then 11 else 0
def NZ(l:List BQ)(k:Nat):Bool:=!((((k:Int)+1==(l.length:Int))||(l.getD (k+1) default).A0 !=(l.getD k default).A0)&&(l.getD k default).hi !=(l.getD (l.length-1) default).hi)
def M3(A9:List An)(l:List BQ):Int:=
 if Bh (uAt (D4 A9) l) l.length≠0 then Bh (uAt (D4 A9) l) l.length else if l.length=0 then 0 else if(List.range l.length).all (NZ l)=false then 11
 else if atU (D4 A9) l l.length+1=((D4 A9).length:Int) then 0 else 11
def jY(ids:List Int)(x:Int):-1<=Kk ids x:=Yb _ _
def Yc{α:Type}(p:α->Bool):∀l:List α,Ew p l<l.length
 | []=>by simp[Ew]
 | b::r=>by
  have:=Yc p r;unfold Ew;rw[CT];split
  ·omega
  split<;>omega
def iq(ids:List Int)(l:List BQ):∀k,-1<=atU ids l k
 | 0=>by simp[atU]
 | k+1=>jY _ _
def ir(ids:List Int)(l:List BQ):∀k,atU ids l k<ids.length
 | 0=>by simp[atU];omega
 | k+1=>Yc _ _
set_option maxHeartbeats 2000000 in
def tJ(A9:List An)(hth:A9.length<1000000)(l:List BQ)(hl:l.length<1000000):AT prog Gl 84 [.d (.sl (A9.map An.A5)),.d (.sl (l.map BQ.A5))] (.d (.int .i64 (M3 A9 l))):=by
 refine FB ?_;refine acS func84 ntmps84 results84 ?_;refine EE ?_;refine Ak (dB A9 hth) ?_;obtain⟨ids,hids⟩:∃ids,ids=D4 A9:=⟨_,rfl⟩;have hil:ids.length<1000000:=by
  have:=S8 A9 A9.length;rw[BL] at this;rw[hids];omega
 obtain⟨F,hF⟩:∃F,F=M3 A9 l:=⟨_,rfl⟩;rw[<-hF];rw[M3,<-hids] at hF;refine Ce ?_;refine Bm l.length (λk=>[(1,.d (.sl (l.map BQ.A5))),(5,.d (.sl (ids.map (D.int .i64)))),(6,(atU ids l k:Int)),(16,.d (.sl (l.map BQ.A5))),(17,(l.length:Int)),(18,(k:Int))]) (λ_=>[]) (λk=>Bh (uAt ids l) k=0) rfl ?_ ?_
 ·refine Gw ?_;simp only[zC,seval,HB,atU,<-hids]
 intro k hi hk;by_cases h:k<l.length
 ·have hb:∀e,uAt ids l k=e->e≠0->F=e:=λe h1 h2=>by
   have:=Ga hi RS h;rw[hF,this,h1,AD h2]
  obtain⟨b,eb⟩:∃b,b=l.getD k default:=⟨_,rfl⟩;refine OG ?_;refine Ak (vm ids b.A0 hil) ?_;obtain⟨i,ei⟩:∃i,i=Kk ids b.A0:=⟨_,rfl⟩;rw[show Ew (λy=>b.A0==y) ids=i from by rw[ei];rfl];have hi1:=jY ids b.A0;have hi2:Kk ids b.A0<ids.length:=Yc _ _;rw[<-ei] at hi1 hi2;have hu:uAt ids l k=if i<0 then 5 else if Gp b.lo b.hi=false then 2 else if IH b=false then 1 else if P9 ids l k=true then 11 else 0:=by rw[uAt,<-eb,<-ei]
  refine Ce ?_;by_cases h1:i<0
  ·rw[AD h1] at hu;simp only[zC,seval,(oo:i<0)];refine BT ?_;rw[hb 5 hu oo]
  rw[A7 h1] at hu;simp only[zC,seval,(oo:¬i<0)];refine Ak (Q1 _ _) ?_;cases h2:Gp b.lo b.hi with
  | false=>
   simp only[zC,seval,Vk];refine BT ?_;rw[AD h2] at hu;rw[hb 2 hu oo]
  | true=>
   simp only[zC,seval,Sz];rw[A7 Je] at hu;refine Ak (vz _) ?_;cases h3:IH b with
   | false=>
    simp only[zC,seval,Vk];refine BT ?_;rw[AD h3] at hu;rw[hb 1 hu oo]
   | true=>
    simp only[zC,seval,Sz];rw[A7 K9] at hu;have hge:=iq ids l k;have hlt:=ir ids l k;by_cases h4:i=atU ids l k
    ·have hk0:0<k:=by
      rcases O3 k with h0|h0
      ·subst h0;simp only[atU] at h4;omega
      exact h0
     have e1:IntKind.i64.wrap ((k:Int)-1)=((k-1:Nat):Int):=Bz;obtain⟨a,ea⟩:∃a,a=l.getD (k-1) default:=⟨_,rfl⟩;have e5:(i==atU ids l k)=true:=Ic;have e6:(i !=atU ids l k)=false:=Ic;have ho:P9 ids l k=(b.lo !=a.hi||KN b a):=by
      unfold P9;simp only[<-eb,<-ea,<-ei,e5,e6,Hu,JV,Le]
     simp only[zC,seval,e5,e1,(oo:((k-1:Nat):Int)<l.length),(oo:k-1<l.length),Af _ _ _ (oo:k-1<l.length),<-ea];refine Ag ?_;refine DS (λ_=>ic _ _) ?_;refine Fo ?_;apply ifC.mk<;>intro h5
     ·refine BT ?_;exact ml
     rw[A7 (by rw[ho,h5];simp)] at hu;simp only[zC,seval,e6];refine Ag ?_;refine⟨HR hi hu,?_⟩;refine Gw ?_;simp only[zC,seval,a_w ((k:Int)+1),atU,<-eb,<-ei]
    have e5:(i==atU ids l k)=false:=Ic;have e6:(i !=atU ids l k)=true:=Ic;have ho:P9 ids l k=(i !=atU ids l k+1||b.lo !=0):=by
     unfold P9;simp only[<-eb,<-ei,e5,e6,Hu,JV,Kq]
    by_cases hk0:0<k;have e1:IntKind.i64.wrap ((k:Int)-1)=((k-1:Nat):Int):=Bz;simp only[zC,seval,e5,e1,(oo:((k-1:Nat):Int)<l.length),(oo:k-1<l.length),Af _ _ _ (oo:k-1<l.length)];refine Ag ?_;refine DS (v:=.d (.bool false)) (λh=>D8) ?_;rotate_left;have e0:(IntKind.i64.wrap ((k:Int)-1)).toNat=0:=Bz;simp only[zC,seval,e5,e0,Af _ _ _ (oo:0<l.length)];refine Ag ?_;refine DS (v:=.d (.bool false)) (λh=>D8) ?_;simp only[zC,seval,e0,Af _ _ _ (oo:0<l.length)]
    all_goals
     simp only[zC,seval,e6,a_w (atU ids l k+1)];refine Ag ?_;apply ifC.mk<;>intro h5
     ·refine BT ?_;exact ml
     rw[A7 (by rw[ho,h5];simp)] at hu;refine⟨HR hi hu,?_⟩;refine Gw ?_;simp only[zC,seval,a_w ((k:Int)+1),atU,<-eb,<-ei]
 refine Mj ?_;have:k=l.length:=oo;subst this;rw[hi,A7 A6] at hF;by_cases h0:l.length=0
 ·simp only[zC,seval,h0,HB];refine BT ?_;rw[hF,AD h0]
 rw[A7 h0] at hF;have e1:IntKind.i64.wrap ((l.length:Int)-1)=((l.length-1:Nat):Int):=Bz;simp only[zC,seval,Mq (oo:¬((l.length:Int)=0)),e1,(oo:((l.length-1:Nat):Int)<l.length),(oo:l.length-1<l.length),Af _ _ _ (oo:l.length-1<l.length)];refine Ag ?_;refine Bm l.length (λk=>[(1,.d (.sl (l.map BQ.A5))),(5,.d (.sl (ids.map (D.int .i64)))),(6,(atU ids l l.length:Int)),(10,.d (.int .i64 (l.getD (l.length-1) default).hi)),(94,.d (.sl (l.map BQ.A5))),(95,(l.length:Int)),(96,(k:Int))]) (λ_=>[]) (λk=>(List.range k).all (NZ l)=true) rfl ?_ ?_
 ·exact Mh
 intro k hj hk;by_cases h:k<l.length
 ·obtain⟨b,eb⟩:∃b,b=l.getD k default:=⟨_,rfl⟩;have hbad:NZ l k=false->F=11:=λh1=>by rw[hF,AD (SI h h1)]
  by_cases hL:k+1=l.length
  ·have eL:((k:Int)+1==(l.length:Int))=true:=il (oo:(k:Int)+1=l.length);have hat:NZ l k=!(b.hi !=(l.getD (l.length-1) default).hi):=by unfold NZ;rw[eL,<-eb];simp
   simp only[zC,seval,(oo:(k:Int)<l.length),h,Af _ _ _ (oo:k<l.length),<-eb,a_w ((k:Int)+1),eL];refine Ag ?_;apply ifC.mk<;>intro h5
   ·refine BT ?_;rw[hbad (by rw[hat,h5];rfl)]
   refine⟨by rw[QQ,hj,hat,h5];rfl,?_⟩;exact RW
  have eL:((k:Int)+1==(l.length:Int))=false:=Mq (oo:¬((k:Int)+1=l.length));have hat:NZ l k=!((l.getD (k+1) default).A0 !=b.A0&&b.hi !=(l.getD (l.length-1) default).hi):=by unfold NZ;rw[eL,<-eb,Kq]
  have e3:((k:Int)+1).toNat=k+1:=oo;simp only[zC,seval,(oo:(k:Int)<l.length),h,Af _ _ _ (oo:k<l.length),<-eb,a_w ((k:Int)+1),eL,e3,(oo:(0:Int)<=(k:Int)+1),(oo:(k:Int)+1<l.length),(oo:k+1<l.length),Af _ _ _ (oo:k+1<l.length)];refine Ag ?_;apply ifC.mk<;>intro h5
  ·refine BT ?_;rw[hbad (by rw[hat,h5];rfl)]
  refine⟨by rw[QQ,hj,hat,h5];rfl,?_⟩;exact RW
 refine Mj ?_;have:k=l.length:=oo;subst this;rw[A7 (by rw[hj];simp)] at hF;have hge:=iq ids l l.length;have hlt:=ir ids l l.length;simp only[zC,seval,a_w (atU ids l l.length+1)];apply ifC.mk<;>intro h5
 ·refine BT ?_;rw[hF,A7 Ib]
 refine BT ?_;rw[hF,AD Ib]

def LI(t:EY):Int:=if IJ t.threads≠0 then IJ t.threads else
 if Dt (Ik t.AE) (CV t.threads) (λx=>x.A0) t.AE≠0 then Dt (Ik t.AE) (CV t.threads) (λx=>x.A0) t.AE else
 if M3 t.threads t.AS≠0 then M3 t.threads t.AS else
 if Dt (Dt (Ly t.Bk) (CV t.threads) (λx=>x.ft) t.Bk) (CV t.threads) (λx=>x.tt) t.Bk≠0 then Dt (Dt (Ly t.Bk) (CV t.threads) (λx=>x.ft) t.Bk) (CV t.threads) (λx=>x.tt) t.Bk else
 if Dt (M8 t.samples) (CV t.threads) (λx=>x.A0) t.samples≠0 then Dt (M8 t.samples) (CV t.threads) (λx=>x.A0) t.samples else
 if Mn t.steps≠0 then Mn t.steps else
 if Dt (bkF t.blocks) (CV t.threads) (λx=>x.A0) t.blocks≠0 then Dt (bkF t.blocks) (CV t.threads) (λx=>x.A0) t.blocks else Sc (CV t.threads) t.lost
def qV(t:EY)(ht:t.GC)(h:IJ t.threads≠0):AT prog Gl 80 [.d t.A5] (.Aj [.d (.raw (.map none)),(IJ t.threads:Int)]):=by
 refine AT.FL ((iI t ht).mono λr s hr=>?_);rw[A7 h] at hr;exact hr
def tK(t:EY)(ht:t.GC)(h:IJ t.threads=0)(S:Sto):AW prog Gl 80 [.d t.A5] S (λr s=>r=.Aj [.AF S.length,(0:Int)]/\s=S++[.map (some .i64) (mapOf t.threads)]):=by
 refine(yf (P:=prog) (Gl:=Gl) (f:=80) (args:=[t.A5]) (B:=.map (some .i64) (mapOf t.threads)) (r:=.Aj [.AF 0,(0:Int)]) (Ut _) ((iI t ht).mono λr s hr=>?_) S).mono λr s hr=>?_
 ·rw[AD h] at hr;exact hr
 obtain⟨rfl,rfl⟩:=hr;exact OH
def wu(t:EY)(ht:t.GC):AT prog Gl 59 [.d t.A5] (.d (.int .i64 (LI t))):=by
 refine CN ?_;obtain⟨F,hF⟩:∃F,F=LI t:=⟨_,rfl⟩;rw[<-hF];rw[LI] at hF;have hst:=Ut t.threads;have hf:=eP t.threads;refine acS func59 ntmps59 results59 ?_;refine EE ?_;by_cases hT:IJ t.threads=0
 ·rw[A7 (by rw[hT];simp)] at hF;refine Be ((tK t ht hT _).mono λr s hr=>?_);obtain⟨rfl,rfl⟩:=hr;refine Fo ?_;refine Ak (tH _ ht.AE) ?_;refine Ce ?_;refine LK 1 (tG _ _ yj _ _ _ hst hf _ ht.AE) (λs=>rfl) Ha hst ?_;refine Fo ?_;apply ifC.mk<;>intro h1
  ·have h1:=MU.1 h1;refine BT ?_;rw[hF,AD h1]
  have h1:Dt (Ik t.AE) (CV t.threads) (λx=>x.A0) t.AE=0:=Cz;rw[A7 Pe] at hF;refine Ag ?_;refine Ak (tJ _ ht.threads _ ht.AS) ?_;refine Ce ?_;apply ifC.mk<;>intro h2
  ·have h2:=MU.1 h2;refine BT ?_;rw[hF,AD h2]
  have h2:M3 t.threads t.AS=0:=DN;rw[A7 Je] at hF;refine Ag ?_;refine Ak (rp _ ht.Bk) ?_;refine Ce ?_;refine LK 1 (eA _ _ yk _ _ _ hst hf _ ht.Bk) (λs=>rfl) Ha hst ?_;refine Fo ?_;refine LK 1 (eA _ _ yl _ _ _ hst hf _ ht.Bk) (λs=>rfl) Ha hst ?_;refine Fo ?_;apply ifC.mk<;>intro h3
  ·have h3:=MU.1 h3;refine BT ?_;rw[hF,AD h3]
  have h3:Dt (Dt (Ly t.Bk) (CV t.threads) (λx=>x.ft) t.Bk) (CV t.threads) (λx=>x.tt) t.Bk=0:=Gv;rw[A7 K9] at hF;refine Ag ?_;refine Ak (qU _ ht.sst ht.samples) ?_;refine Ce ?_;refine LK 1 (qT _ _ ym _ _ _ hst hf _ ht.samples) (λs=>rfl) Ha hst ?_;refine Fo ?_;apply ifC.mk<;>intro h4
  ·have h4:=MU.1 h4;refine BT ?_;rw[hF,AD h4]
  have h4:Dt (M8 t.samples) (CV t.threads) (λx=>x.A0) t.samples=0:=Ic;rw[A7 (by rw[h4];simp)] at hF;refine Ag ?_;refine Ak (rr _ ht.steps) ?_;refine Ce ?_;apply ifC.mk<;>intro h5
  ·have h5:=MU.1 h5;refine BT ?_;rw[hF,AD h5]
  have h5:Mn t.steps=0:=Ib;rw[A7 (by rw[h5];simp)] at hF;refine Ag ?_;refine Ak (yW _ ht.bst ht.blocks) ?_;refine Ce ?_;refine LK 1 (tF _ _ yn _ _ _ hst hf _ ht.blocks) (λs=>rfl) Ha hst ?_;refine Fo ?_;apply ifC.mk<;>intro h6
  ·have h6:=MU.1 h6;refine BT ?_;rw[hF,AD h6]
  have h6:Dt (bkF t.blocks) (CV t.threads) (λx=>x.A0) t.blocks=0:=by simpa using h6
  rw[A7 (by rw[h6];simp)] at hF;refine Ag ?_;refine LK 1 (wD _ _ hst hf _ ht.lost) (λs=>rfl) Ha hst ?_;refine Fo ?_;refine BT ?_;rw[hF]
 rw[AD hT] at hF;refine Ak (qV t ht hT) ?_;refine Fo ?_;apply ifC.mk<;>intro h1
 ·refine BT ?_;rw[hF]
 exact absurd Cz hT
def My(t:EY):Int:=if LI t≠0 then LI t else if(decide (t.lo<0)||decide (t.hi<t.lo)||decide (1000000000000<t.hi))=true then 2 else if Wz t=true then 10 else 0
def tL(t:EY)(ht:t.GC):AT prog Gl 22 [.d t.A5] (.d (.int .i64 (My t))):=by
 refine CN ?_;obtain⟨F,hF⟩:∃F,F=My t:=⟨_,rfl⟩;rw[<-hF];rw[My] at hF;refine acS func22 ntmps22 results22 ?_;refine EE ?_;refine Ak (wu t ht) ?_;refine Ce ?_;apply ifC.mk<;>intro h1
 ·have h1:=MU.1 h1;refine BT ?_;rw[hF,AD h1]
 have h1:LI t=0:=Cz;rw[A7 Pe] at hF;refine Ag ?_;apply ifC.mk<;>intro h2
 ·refine BT ?_;rw[hF,AD h2]
 rw[A7 Je] at hF;refine Ak (zH t ht) ?_;refine Ce ?_;apply ifC.mk<;>intro h3
 ·refine BT ?_;rw[hF,AD h3]
 refine BT ?_;rw[hF,A7 K9]

structure EvT where
 at_:Int
 kind:Int
 name:List UInt8
 n:Int
 m:Int
 stack:List (List UInt8)
deriving Inhabited
def EvT.cs(x:EvT):List D:=[.int .i64 x.at_,.int .i64 x.kind,.str x.name,.int .i64 x.n,.int .i64 x.m,.sl (x.stack.map .str)]
def EvT.A5(x:EvT):D:=.agg [.int .i64 x.at_,.int .i64 x.kind,.str x.name,.int .i64 x.n,.int .i64 x.m,.sl (x.stack.map .str)]
structure AN where
 A0:Int
 AB:Int
 ev:EvT
 lo:Int
 hi:Int
deriving Inhabited
def AN.A5(x:AN):D:=.agg [.int .i64 x.A0,.int .i64 x.AB,.int .i64 x.ev.at_,.int .i64 x.ev.kind,.str x.ev.name,.int .i64 x.ev.n,.int .i64 x.ev.m,.sl (x.ev.stack.map .str),.int .i64 x.lo,.int .i64 x.hi]
structure Ao where
 A0:Int
 AB:Int
 lost:Int
 A_:List EvT
deriving Inhabited
def Ao.A5(x:Ao):D:=.agg [.int .i64 x.A0,.int .i64 x.AB,.int .i64 x.lost,.sl (x.A_.map EvT.A5)]
structure BC where
 id:Int
 JG:Int
deriving Inhabited,DecidableEq
def BC.A5(x:BC):D:=.agg [.int .i64 x.id,.int .i64 x.JG]
structure B3 where
 a:Int
 F8:Int
 b:Int
 lo:Int
 hi:Int
deriving Inhabited,DecidableEq
def B3.A5(x:B3):D:=.agg [.int .i64 x.a,.int .i64 x.F8,.int .i64 x.b,.int .i64 x.lo,.int .i64 x.hi]
structure Av where
 A9:List An
 AZ:List BC
 AK:List B3
 parts:List Ao
deriving Inhabited
def Av.A5(x:Av):D:=.agg [.sl (x.A9.map An.A5),.sl (x.AZ.map BC.A5),.sl (x.AK.map B3.A5),.sl (x.parts.map Ao.A5)]
def MA(f:Aw->Option AV)(k k':Aw)(v:AV):BO f k v k'=if k'=k then some v else f k':=rfl
def Ba8:(∀(x:EvT),x.A5.isAgg=true)/\(∀(x:EvT),x.A5.cells=[.int .i64 x.at_,.int .i64 x.kind,.str x.name,.int .i64 x.n,.int .i64 x.m,.sl (x.stack.map .str)])/\(∀(x:AN),x.A5.isAgg=true)/\(∀(x:AN),x.A5.cells=[.int .i64 x.A0,.int .i64 x.AB,.int .i64 x.ev.at_,.int .i64 x.ev.kind,.str x.ev.name,.int .i64 x.ev.n,.int .i64 x.ev.m,.sl (x.ev.stack.map .str),.int .i64 x.lo,.int .i64 x.hi])/\(∀(x:Ao),x.A5.isAgg=true)/\(∀(x:Ao),x.A5.cells=[.int .i64 x.A0,.int .i64 x.AB,.int .i64 x.lost,.sl (x.A_.map EvT.A5)])/\(∀(x:BC),x.A5.isAgg=true)/\(∀(x:BC),x.A5.cells=[.int .i64 x.id,.int .i64 x.JG])/\(∀(x:B3),x.A5.isAgg=true)/\(∀(x:B3),x.A5.cells=[.int .i64 x.a,.int .i64 x.F8,.int .i64 x.b,.int .i64 x.lo,.int .i64 x.hi])/\(∀(x:Av),x.A5.isAgg=true)/\(∀(x:Av),x.A5.cells=[.sl (x.A9.map An.A5),.sl (x.AZ.map BC.A5),.sl (x.AK.map B3.A5),.sl (x.parts.map Ao.A5)])/\(EZ (Value.pointer none)=.d (.raw (.pointer none))):=Et
def zD:=aI (aI @zC @jE) (aI Ba8 @MA)
def Am(n:Int):Int:=min (max n 0) 1000000000000
def Iq(n:Int):0<=Am n:=by unfold Am;omega
def MB(n:Int):Am n<=1000000000000:=by unfold Am;omega
def fG(x:AN):AT prog Gl 36 [.d x.A5] (.d (.int .i64 (Am x.lo))):=by
 refine CN ?_;refine acS func36 ntmps36 results36 ?_;exact bR
def jc(x:AN):AT prog Gl 14 [.d x.A5] (.d (.int .i64 (Am x.lo))):=by
 refine CN ?_;refine acS func14 ntmps14 results14 ?_;exact bR
def uP(x:AN):AT prog Gl 49 [.d x.A5] (.d (.int .i64 (Am x.lo))):=by
 refine CN ?_;refine acS func49 ntmps49 results49 ?_;exact bR
def je(x:AN):AT prog Gl 48 [.d x.A5] (.d (.int .i64 (Am x.lo))):=by
 refine CN ?_;refine acS func48 ntmps48 results48 ?_;exact bZ
def Wl(x:AN):AT prog Gl 44 [.d x.A5] (.d (.int .i64 (Am x.lo))):=by
 refine CN ?_;refine acS func44 ntmps44 results44 ?_;exact bZ
def YX(x:AN):AT prog Gl 52 [.d x.A5] (.d (.int .i64 (Am x.lo))):=by
 refine CN ?_;refine acS func52 ntmps52 results52 ?_;exact bZ

structure B0 where
 s:Ac
 number:Int
 Aq:Int
 closed:Bool
deriving Inhabited
def B0.A5(x:B0):D:=.agg [.int .i64 x.s.A0,.int .i64 x.s.parent,.int .i64 x.s.depth,.str x.s.name,.int .i64 x.s.lo,.int .i64 x.s.hi,.int .i64 x.s.self,.bool x.s.open_,.int .i64 x.number,.int .i64 x.Aq,.bool x.closed]
def fO(x:B0):x.A5.cells=[.int .i64 x.s.A0,.int .i64 x.s.parent,.int .i64 x.s.depth,.str x.s.name,.int .i64 x.s.lo,.int .i64 x.s.hi,.int .i64 x.s.self,.bool x.s.open_,.int .i64 x.number,.int .i64 x.Aq,.bool x.closed]:=rfl
def Ba9:(∀(x:B0),x.A5.isAgg=true)/\(∀x,(D.ref x).isAgg=false)/\(∀x,(D.ref x).cells=[.ref x]):=Et
def zT:=aI (aI @zD @xW) (aI Ba9 @fO)
def Q5z(S:Sto)(b t:Nat)(v1 v2:AV)(at_:Int)(op:Bool)(o:Nat)(ht:A1 S t=.box 3 (.agg [.A8 o 0 0,v1,v2])):
  AW prog Gl 37 [.ptr b 0,.ptr t 0,(at_:Int),(op:Bool)] S (λr s=>r=.Aj []/\s=S):=by
 refine acS func37 ntmps37 results37 ?_;simp only[zT,seval,B6,ht];apply ifC.mk<;>intro h
 ·exact Lp
 exact absurd (D7:decide (IntKind.i64.wrap (-1)<0)=true) Jc
def B0.shut(x:B0)(t:Int)(op:Bool):B0:={x with s:={x.s with hi:=t,open_:=op},closed:=true}
def Q9t(S:Sto)(b t o A p i n:Nat)(m:AV)(e l at_:Int)(op:Bool)(xs:List D)(cs:List AV)(x:B0)(ht:A1 S t=.box 3 (.agg [.A8 o 0 (n+1),(e:Int),(l:Int)]))(ho:A1 S o=.arr 1 xs)(hn:n<xs.length)(hN:n<1000000)
  (hx:xs.getD n default=.int .i64 (i:Nat)) (hb:A1 S b=.box 2 (.agg [.A8 A 0 cs.length,m])) (hA:A1 S A=.var 1 cs) (hi:i<cs.length) (hp:cs.getD i .undef=.ptr p 0) (hq:A1 S p=.box 11 (.d x.A5)) :
  AW prog Gl 37 [.ptr b 0,.ptr t 0,(at_:Int),(op:Bool)] S
   (λr s=>r=.Aj []/\s=(S.set p (.box 11 (.d (x.shut at_ op).A5))).set t (.box 3 (.agg [.A8 o 0 n,(e:Int),(l:Int)]))):=by
 have hpt:p≠t:=AX hq ht A6;have lt:=AG ht rfl;have lp:=AG hq rfl;refine acS func37 ntmps37 results37 ?_;simp only[zT,seval,B6,ht];have e1:IntKind.i64.wrap ((n:Int)+1-1)=(n:Nat):=Bz;simp only[zT,seval,e1];apply ifC.mk<;>intro h
 ·exact absurd (Es h) oo
 have hpo:p≠o:=AX hq ho A6;simp only[zT,seval,hb,ho,hA,hx,hp,hq,ht,lt,lp,hpt,hpt.symm,hpo]
 repeat((with_reducible apply aI);exact sdp)
 exact⟨_,_,Bg.refl _ _ _,rfl,rfl⟩
structure CO where
 open_:List Nat
 expect:Int
 last:Int
deriving Inhabited
def CO.new:CO:=⟨[],0,0⟩
structure OQ(σ:Sto)(o:Nat)(l:List Nat):Prop where
 ex:∃xs,A1 σ o=.arr 1 xs/\l.length<=xs.length/\∀i,i<l.length->xs.getD i default=.int .i64 (l.getD i 0:Nat)
def OQ.lt{S:Sto}{o:Nat}{l:List Nat}(h:OQ S o l):o<S.length:=by obtain⟨xs,h,_⟩:=h.ex;exact AG h rfl
def OQ.same{S s:Sto}{o:Nat}{l:List Nat}(h:OQ S o l)(e:A1 s o=A1 S o):OQ s o l:=by obtain⟨xs,h1,h2⟩:=h.ex;exact⟨xs,e.trans h1,h2⟩
structure Dg(σ:Sto)(b T:Nat)(ps:List B0)(tr:Int->Option CO)(A:Nat)(ids:List Nat)(f:Option (Aw->Option AV))(tb ob:Int->Nat):Prop where
 Ix:A1 σ b=.box 2 (.agg [.A8 A 0 ps.length,.AF T])
 row:A1 σ A=.var 1 (ids.map λi=>.ptr i 0)
 len:ids.length=ps.length
 nd:ids.Nodup
 Hr:∀i,i<ps.length->A1 σ (ids.getD i 0)=.box 11 (.d (ps.getD i default).A5)
 Ad:∀g,f=some g->A1 σ T=.map (some .i64) g
 look:∀g,f=some g->∀k,g (.i k)=(tr k).map λ_=>.ptr (tb k) 0
 FP:∀k t,tr k=some t->A1 σ (tb k)=.box 3 (.agg [.A8 (ob k) 0 t.open_.length,(t.expect:Int),(t.last:Int)])/\OQ σ (ob k) t.open_
 inj:∀k k',(tr k).isSome=true->(tr k').isSome=true->tb k=tb k'->k=k'
 Dk:∀k k',(tr k).isSome=true->(tr k').isSome=true->ob k=ob k'->k=k'
def Ae{α:Type}(tr:Int->α)(k:Int)(t:α):Int->α:=λk'=>if k'=k then t else tr k'
def CQ{α:Type}(tr:Int->α)(k:Int)(t:α):Ae tr k t k=t:=AD rfl
def CP{α:Type}(tr:Int->α){k k':Int}(t:α)(h:k'≠k):Ae tr k t k'=tr k':=A7 h
section
variable {σ s:Sto} {b T A:Nat} {ps:List B0} {tr:Int->Option CO} {ids:List Nat} {f:Option (Aw->Option AV)} {tb ob:Int->Nat}
def Dg.trkX(h:Dg σ b T ps tr A ids f tb ob){k:Int}(hk:(tr k).isSome=true):∃t xs,tr k=some t/\A1 σ (tb k)=.box 3 (.agg [.A8 (ob k) 0 t.open_.length,(t.expect:Int),(t.last:Int)])/\A1 σ (ob k)=.arr 1 xs:=by
 obtain⟨t,ht⟩:=Fa.1 hk;obtain⟨h1,h2⟩:=h.FP k t ht;obtain⟨xs,h3,_⟩:=h2.ex;exact⟨t,xs,ht,h1,h3⟩
def Dg.piece(h:Dg σ b T ps tr A ids f tb ob){i:Nat}(hi:i<ps.length)(y:B0):Dg (σ.set (ids.getD i 0) (.box 11 (.d y.A5))) b T (ps.set i y) tr A ids f tb ob:=by
 have hp:=h.Hr i hi;have lp:=AG hp rfl;have other:∀{j:Nat} {B:Blk},A1 σ j=B->(∀v,B≠.box 11 v)->A1 (σ.set (ids.getD i 0) (.box 11 (.d y.A5))) j=B:=λ{j B} hj hB=>by
  rw[As (λe=>hB (.d (ps.getD i default).A5) (by rw[<-hj,<-e];exact hp))];exact hj
 refine⟨by rw[BH];exact other h.Ix A6,other h.row A6,by rw[BH];exact h.len,h.nd,λj hj=>?_,λg hg=>other (h.Ad g hg) A6,h.look,λk t ht=>?_,h.inj,h.Dk⟩
 ·rw[BH] at hj;by_cases e:j=i
  ·subst e;rw[BX lp,B5,Lg hi];rfl
  have hne:ids.getD i 0≠ids.getD j 0:=λe2=>e (by
   have h1:i<ids.length:=by rw[h.len];exact hi
   have h2:j<ids.length:=by rw[h.len];exact hj
   simp only[B5,BP h1,BP h2,EA] at e2
   exact((List.getElem_inj h.nd).1 e2).symm)
  have h2:(ps.set i y).getD j default=ps.getD j default:=by rw[B5,IX (FX e),<-B5]
  rw[As hne,h2];exact h.Hr j hj
 obtain⟨h1,h2⟩:=h.FP k t ht;obtain⟨xs,h3,h4⟩:=h2.ex;exact⟨other h1 A6,⟨xs,other h3 A6,h4⟩⟩
def Dg.KD(h:Dg σ b T ps tr A ids f tb ob){k:Int}{t:CO}(hk:tr k=some t)(t':CO)(o':Nat)(hs:∀j,(A1 σ j).AP=false->j≠tb k->j≠ob k->A1 s j=A1 σ j)
  (hb:A1 s (tb k)=.box 3 (.agg [.A8 o' 0 t'.open_.length,(t'.expect:Int),(t'.last:Int)])) (ho:OQ s o' t'.open_) (hf:o'=ob k\/σ.length<=o') :
  Dg s b T ps (Ae tr k (some t')) A ids f tb (Ae ob k o'):=by
 obtain⟨q1,q2⟩:=h.FP k t hk;obtain⟨xs,q3,_⟩:=q2.ex;have hks:(tr k).isSome=true:=by rw[hk];rfl
 have other:∀{j:Nat} {B:Blk},A1 σ j=B->B.AP=false->(∀v,B≠.box 3 v)->(∀v,B≠.arr 1 v)->A1 s j=B:=λ{j B} hj hd h3 h1=>by
  rw[hs j RR (λe=>h3 _ (by rw[<-hj,e];exact q1)) (λe=>h1 _ (by rw[<-hj,e];exact q3))];exact hj
 refine⟨other h.Ix rfl A6 A6,other h.row rfl A6 A6,h.len,h.nd,λj hj=>other (h.Hr j hj) rfl A6 A6,λg hg=>other (h.Ad g hg) rfl A6 A6,λg hg k'=>?_,λk' t'' ht=>?_,λk1 k2 h1 h2=>h.inj k1 k2 ?_ ?_,λk1 k2 h1 h2 h3=>?_⟩
 ·rw[h.look g hg];unfold Ae;by_cases e:k'=k
  ·subst e;rw[AD rfl,hk];rfl
  rw[A7 e]
 ·unfold Ae at ht ⊢;by_cases e:k'=k
  ·subst e;rw[AD rfl] at ht;simp only[BF] at ht;subst ht;rw[AD rfl];exact⟨hb,ho⟩
  rw[A7 e] at ht;rw[A7 e];obtain⟨r1,r2⟩:=h.FP k' t'' ht;obtain⟨ys,r3,r4⟩:=r2.ex;have hk's:(tr k').isSome=true:=by rw[ht];rfl
  have n1:tb k'≠tb k:=λe2=>e (h.inj _ _ hk's hks e2);have n2:ob k'≠ob k:=λe2=>e (h.Dk _ _ hk's hks e2);refine⟨?_,⟨ys,?_,r4⟩⟩
  ·rw[hs _ (by rw[r1];rfl) n1 (AX r1 q3 A6)];exact r1
  rw[hs _ (by rw[r3];rfl) (AX r3 q1 A6) n2];exact r3
 ·exact WQ
 ·unfold Ae at h2;split at h2
  ·rename_i e;rw[e];exact hks
  exact h2
 have sm:∀k1,(Ae tr k (some t') k1).isSome=true->(tr k1).isSome=true:=λk1 h1=>by
  exact WQ
 have lt:∀k1,(tr k1).isSome=true->ob k1<σ.length:=λk1 h1=>by
  obtain⟨_,_,_,_,r3⟩:=h.trkX h1;exact AG r3 rfl
 by_cases e1:k1=k
 ·by_cases e2:k2=k
  ·rw[e1,e2]
  exfalso;rw[e1,CQ,CP _ _ e2] at h3;rcases hf with hf|hf
  ·exact e2 (h.Dk _ _ (sm _ h2) hks (by rw[<-h3,hf]))
  have:=lt k2 (sm _ h2);omega
 by_cases e2:k2=k
 ·exfalso;rw[e2,CQ,CP _ _ e1] at h3;rcases hf with hf|hf
  ·exact e1 (h.Dk _ _ (sm _ h1) hks (by rw[h3,hf]))
  have:=lt k1 (sm _ h1);omega
 rw[CP _ _ e1,CP _ _ e2] at h3;exact h.Dk _ _ (sm _ h1) (sm _ h2) h3
def Dg.ext(h:Dg σ b T ps tr A ids f tb ob)(hs:∀j,(A1 σ j).AP=false->A1 s j=A1 σ j):Dg s b T ps tr A ids f tb ob:=by
 have other:∀{j:Nat} {B:Blk},A1 σ j=B->B.AP=false->A1 s j=B:=λ{j B} hj hd=>by rw[hs j RR];exact hj
 refine⟨other h.Ix rfl,other h.row rfl,h.len,h.nd,λj hj=>other (h.Hr j hj) rfl,λg hg=>other (h.Ad g hg) rfl,h.look,λk t ht=>?_,h.inj,h.Dk⟩;obtain⟨h1,h2⟩:=h.FP k t ht;obtain⟨xs,h3,h4⟩:=h2.ex;exact⟨other h1 rfl,⟨xs,other h3 rfl,h4⟩⟩
def Dg.new{f:Aw->Option AV}(h:Dg σ b T ps tr A ids (some f) tb ob){k:Int}(hk:tr k=none):Dg (σ.set T (.map (some .i64) (BO f (.i k) (.ptr σ.length 0)))++[.box 3 (.agg [.A8 (σ.length+1) 0 0,(0:Int),(0:Int)]),.arr 1 []]) b T ps (Ae tr k (some CO.new)) A ids (some (BO f (.i k) (.ptr σ.length 0))) (Ae tb k σ.length) (Ae ob k (σ.length+1)):=by
 have hT:=h.Ad f rfl;have lT:=AG hT rfl;have hl:(σ.set T (.map (some .i64) (BO f (.i k) (.ptr σ.length 0)))).length=σ.length:=BH ..;have other:∀{j:Nat} {B:Blk},A1 σ j=B->B.AP=false->(∀v,B≠.map (some .i64) v)->A1 (σ.set T (.map (some .i64) (BO f (.i k) (.ptr σ.length 0)))++[.box 3 (.agg [.A8 (σ.length+1) 0 0,(0:Int),(0:Int)]),.arr 1 []]) j=B:=λ{j B} hj hd hm=>by
  rw[BB (by rw[hl];exact AG hj hd),As (λe=>hm _ (by rw[<-hj,<-e];exact hT))];exact hj
 have lt:∀k1,(tr k1).isSome=true->tb k1<σ.length/\ob k1<σ.length:=λk1 h1=>by
  obtain⟨_,_,_,r2,r3⟩:=h.trkX h1;exact⟨AG r2 rfl,AG r3 rfl⟩
 have sm:∀k1,k1≠k->(Ae tr k (some CO.new) k1).isSome=true->(tr k1).isSome=true:=λk1 e h1=>ak;refine⟨other h.Ix rfl A6,other h.row rfl A6,h.len,h.nd,λj hj=>other (h.Hr j hj) rfl A6,λg hg=>?_,λg hg k'=>?_,λk' t ht=>?_,λk1 k2 h1 h2 h3=>?_,λk1 k2 h1 h2 h3=>?_⟩
 ·cases hg;rw[BB (by rw[hl];exact lT),BX lT]
 ·cases hg;rw[MA];by_cases e:k'=k
  ·subst e;rw[AD rfl,CQ,CQ];rfl
  rw[A7 J5,CP _ _ e,CP _ _ e];exact h.look f rfl k'
 ·by_cases e:k'=k
  ·subst e;rw[CQ] at ht;simp only[BF] at ht;subst ht;rw[CQ,CQ];refine⟨?_,⟨[],?_,AR _,λi hi=>absurd hi (F9 _)⟩⟩
   ·rw[CE,hl,A7 oo,FA];rfl
   rw[CE,hl,A7 oo,EB];rfl
  rw[CP _ _ e] at ht;rw[CP _ _ e,CP _ _ e];obtain⟨h1,h2⟩:=h.FP k' t ht;exact nb
 ·by_cases e1:k1=k<;>by_cases e2:k2=k
  ·rw[e1,e2]
  ·rw[e1,CQ,CP _ _ e2] at h3;have:=(lt k2 (sm _ e2 h2)).1;omega
  ·rw[e2,CQ,CP _ _ e1] at h3;have:=(lt k1 (sm _ e1 h1)).1;omega
  rw[CP _ _ e1,CP _ _ e2] at h3;exact h.inj _ _ (sm _ e1 h1) (sm _ e2 h2) h3
 by_cases e1:k1=k<;>by_cases e2:k2=k
 ·rw[e1,e2]
 ·rw[e1,CQ,CP _ _ e2] at h3;have:=(lt k2 (sm _ e2 h2)).2;omega
 ·rw[e2,CQ,CP _ _ e1] at h3;have:=(lt k1 (sm _ e1 h1)).2;omega
 rw[CP _ _ e1,CP _ _ e2] at h3;exact h.Dk _ _ (sm _ e1 h1) (sm _ e2 h2) h3
def Dg.fresh(h:Dg σ b T ps tr A ids f tb ob){p:Nat}(hl:σ.length<=p):p∉ids:=λha=>by
 obtain⟨i,hi⟩:=GF ha;have hil:i<ids.length:=by
  exact nt
 have:=h.Hr i (by rw[<-h.len];exact hil);rw[B5,hi] at this;have:=AG this rfl;simp only[EA] at this;omega
def Dg.more(h:Dg σ b T ps tr A ids f tb ob)(A' p:Nat)(y:B0)(hs:∀j,(A1 σ j).AP=false->j≠b->j≠A->A1 s j=A1 σ j)(hb:A1 s b=.box 2 (.agg [.A8 A' 0 (ps.length+1),.AF T]))
  (hA:A1 s A'=.var 1 ((ids++[p]).map λi=>.ptr i 0)) (hp:A1 s p=.box 11 (.d y.A5)) (hl:p∉ids):Dg s b T (ps++[y]) tr A' (ids++[p]) f tb ob:=by
 have other:∀{j:Nat} {B:Blk},A1 σ j=B->B.AP=false->(∀v,B≠.box 2 v)->(∀v,B≠.var 1 v)->A1 s j=B:=λ{j B} hj hd h3 h1=>by
  rw[hs j RR (λe=>h3 _ (by rw[<-hj,e];exact h.Ix)) (λe=>h1 _ (by rw[<-hj,e];exact h.row))];exact hj
 refine⟨by rw[Bb];exact hb,hA,by simp[h.len],?_,λi hi=>?_,λg hg=>other (h.Ad g hg) rfl A6 A6,h.look,λk t ht=>?_,h.inj,h.Dk⟩
 ·rw[R8];refine⟨h.nd,A6,λa ha c hc e=>?_⟩;simp at hc;subst hc;subst e;exact hl ha
 ·rw[Bb,CT,C6] at hi;by_cases e:i<ps.length
  ·have h1:(ids++[p]).getD i 0=ids.getD i 0:=by rw[B5,Ec (by rw[h.len];exact e),<-B5]
   have h2:(ps++[y]).getD i default=ps.getD i default:=lK;rw[h1,h2];exact other (h.Hr i e) rfl A6 A6
  have e:i=ps.length:=oo;subst e;have h1:(ids++[p]).getD ps.length 0=p:=by rw[<-h.len];simp
  have h2:(ps++[y]).getD ps.length default=y:=A6;rw[h1,h2];exact hp
 obtain⟨h1,h2⟩:=h.FP k t ht;obtain⟨xs,h3,h4⟩:=h2.ex;exact⟨other h1 rfl A6 A6,⟨xs,other h3 rfl A6 A6,h4⟩⟩
end
def uQ(S:Sto)(b T:Nat)(k:Int)(v:AV)(f:Aw->Option AV)(p:Nat)(hb:A1 S b=.box 2 (.agg [v,.AF T]))(hT:A1 S T=.map (some .i64) f)(hf:f (.i k)=some (.ptr p 0)):
  AW prog Gl 69 [.ptr b 0,(k:Int)] S (λr s=>r=.ptr p 0/\s=S):=by
 have lT:=AG hT rfl;refine acS func69 ntmps69 results69 ?_;simp only[zT,seval,B6,hb,hT,hf,lT];exact⟨_,_,Bg.refl _ _ _,rfl,rfl⟩
def wy(S:Sto)(b T:Nat)(k:Int)(v:AV)(f:Aw->Option AV)(hb:A1 S b=.box 2 (.agg [v,.AF T]))(hT:A1 S T=.map (some .i64) f)(hf:f (.i k)=none):
  AW prog Gl 69 [.ptr b 0,(k:Int)] S (λr s=>r=.ptr S.length 0/\s=S.set T (.map (some .i64) (BO f (.i k) (.ptr S.length 0)))++[.box 3 (.agg [.AA,(0:Int),(0:Int)])]):=by
 have lT:=AG hT rfl;have lb:=AG hb rfl;have hbT:b≠T:=AX hb hT A6;refine acS func69 ntmps69 results69 ?_;simp only[zT,seval,B6,hb,hT,hf,lT,lb,hbT,hbT.symm];exact⟨_,_,Bg.refl _ _ _,rfl,rfl⟩

def Q5{α:Type}(g:Int->α)(k:Int):Ae g k (g k)=g:=by funext k';unfold Ae;split<;>simp_all
def Du(ps:List B0)(l:List Nat)(t:Int):List B0:=l.foldr (λi ps=>ps.set i ((ps.getD i default).shut t true)) ps
def Qn(l:List Nat):Int:=if l=[] then -1 else((l.getD (l.length-1) 0:Nat):Int)
def Qt(x:AN)(n:Nat)(op:List Nat):B0:=⟨⟨x.A0,0,0,x.ev.name,Am x.lo,0,0,false⟩,n,Qn op,false⟩
abbrev Bd:=List B0×(Int->Option CO)
def evT(ps:List B0)(op:List Nat)(tr:Int->Option CO)(x:AN):Bd:=
 if x.ev.kind=1 then(ps++[Qt x ps.length op],Ae tr x.A0 (some ⟨op++[ps.length],x.AB+1,Am x.lo⟩))
 else if x.ev.kind=2 then(if op=[] then ps else ps.set (op.getD (op.length-1) 0) ((ps.getD (op.getD (op.length-1) 0) default).shut (Am x.lo) false),Ae tr x.A0 (some ⟨op.dropLast,x.AB+1,Am x.lo⟩))
 else(ps,Ae tr x.A0 (some ⟨op,x.AB+1,Am x.lo⟩))
def evB(g:Bd)(x:AN):Bd:=
 let t:=(g.2 x.A0).getD CO.new
 if x.AB=t.expect then evT g.1 t.open_ g.2 x else evT (Du g.1 t.open_ t.last) [] g.2 x
def BAt(S:Sto)(b:Nat)(g:Bd):Prop:=∃T A ids f tb ob,Dg S b T g.1 g.2 A ids (some f) tb ob
def Op(g:Bd):Prop:=∀k t,g.2 k=some t->∀i∈t.open_,i<g.1.length
section
variable {σ s:Sto} {b T A:Nat} {ps:List B0} {tr:Int->Option CO} {ids:List Nat} {f:Option (Aw->Option AV)} {tb ob:Int->Nat}
def Q39(l:List Nat)(i:Nat)(h:i<l.length):(l.map λi=>AV.ptr i 0).getD i .undef=.ptr (l.getD i 0) 0:=by
 simp[h]
def ZO(h:Dg σ b T ps tr A ids f tb ob){k:Int}{t:CO}(hk:tr k=some t){l:List Nat}{i:Nat}(hl:t.open_=l++[i])(hi:i<ps.length)(hN:ps.length<1000000)(hn:l.length<1000000)(a:Int)(op:Bool):
  AW prog Gl 37 [.ptr b 0,.ptr (tb k) 0,(a:Int),(op:Bool)] σ
   (λr s=>r=.Aj []/\Dg s b T (ps.set i ((ps.getD i default).shut a op)) (Ae tr k (some ⟨l,t.expect,t.last⟩)) A ids f tb ob/\∀q B,A1 σ q=B->(∀v,B≠.box 11 v)->(∀v,B≠.box 3 v)->A1 s q=B):=by
 obtain⟨h1,h2⟩:=h.FP k t hk;obtain⟨xs,h3,h4,h5⟩:=h2.ex;have e1:t.open_.length=l.length+1:=by rw[hl];simp
 rw[e1] at h1 h4;have hx:xs.getD l.length default=.int .i64 (i:Nat):=by
  rw[h5 l.length oo,hl];simp
 have hcl:(ids.map λi=>AV.ptr i 0).length=ps.length:=by rw[BW,h.len]
 have hb:=h.Ix;rw[<-hcl] at hb;refine(Q9t σ b (tb k) (ob k) A (ids.getD i 0) i l.length (.AF T) t.expect t.last a op xs (ids.map λi=>.ptr i 0) (ps.getD i default) h1 h3 oo hn hx hb h.row (by rw[hcl];exact hi) (Q39 ids i (by rw[h.len];exact hi)) (h.Hr i hi)).mono λr s hs=>?_;obtain⟨rfl,rfl⟩:=hs;have hp:=h.piece hi ((ps.getD i default).shut a op);have hpt:ids.getD i 0≠tb k:=AX (h.Hr i hi) h1 A6;have g1:A1 (σ.set (ids.getD i 0) (.box 11 (.d ((ps.getD i default).shut a op).A5))) (tb k)=_:=(As hpt).trans h1;refine⟨rfl,?_,λq B hq hn1 hn2=>?_⟩
 ·have:=hp.KD hk ⟨l,t.expect,t.last⟩ (ob k) (s:=(σ.set (ids.getD i 0) (.box 11 (.d ((ps.getD i default).shut a op).A5))).set (tb k) (.box 3 (.agg [.A8 (ob k) 0 l.length,(t.expect:Int),(t.last:Int)])))
   (λj hj n1 n2=>As (FX n1)) (BX (AG g1 rfl)) ⟨xs,by
    rw[As (AX h1 h3 A6),As (AX (h.Hr i hi) h3 A6)];exact h3,(by show l.length<=xs.length;omega),λj hj=>by
    have hj:j<l.length:=hj
    rw[h5 j oo,hl]
    rw[B5,B5,Ec hj]⟩ (.inl rfl)
  rwa [Q5] at this
 rw[As (AX h1 hq (FX (hn2 _))),As (AX (h.Hr i hi) hq (FX (hn1 _)))];exact hq
def wx{f:Aw->Option AV}(h:Dg σ b T ps tr A ids (some f) tb ob)(k:Int):∃s2 f' tb' ob',AW prog Gl 69 [.ptr b 0,(k:Int)] σ (λr s=>r=.ptr (tb' k) 0/\s=s2) /\
  Dg s2 b T ps (Ae tr k (some ((tr k).getD CO.new))) A ids (some f') tb' ob'/\σ.length<=s2.length/\∀q v,A1 σ q=.box 10 v->A1 s2 q=.box 10 v:=by
 cases hk:tr k with
 | some t=>
  refine⟨σ,f,tb,ob,uQ σ b T k _ f (tb k) h.Ix (h.Ad f rfl) (by rw[h.look f rfl,hk];rfl),?_,AR _,λq v hq=>hq⟩;have e:Ae tr k (some t)=tr:=by rw[<-hk,Q5]
  simp only[EA];rw[e];exact h
 | none=>
  have hT:=h.Ad f rfl;have lT:=AG hT rfl;refine⟨_,_,_,_,?_,h.new hk,A6,λq v hq=>?_⟩
  ·refine(wy σ b T k _ f h.Ix (h.Ad f rfl) (by rw[h.look f rfl,hk];rfl)).post λr s hs=>?_;obtain⟨rfl,rfl⟩:=hs;refine⟨_,_,gG λn env=>?_,by rw[CQ],rfl⟩;have hl:(σ.set T (Blk.map (some .i64) (BO f (.i k) (.ptr σ.length 0)))++[Blk.box 3 (.agg [.AA,(0:Int),(0:Int)])]).length=σ.length+1:=A6;have hb:A1 (σ.set T (Blk.map (some .i64) (BO f (.i k) (.ptr σ.length 0)))++[Blk.box 3 (.agg [.AA,(0:Int),(0:Int)])]) σ.length=Blk.box 3 (.agg [.AA,(0:Int),(0:Int)]):=by
    rw[CE,BH,A7 oo,FA];rfl
   have:=QV (n:=n) (m:=σ.length) (env:=env) σ.length 1 0 (by rw[hl];omega) hb rfl A6 (by rw[hl];omega);rw[hl] at this;have e:((σ.set T (Blk.map (some .i64) (BO f (.i k) (.ptr σ.length 0)))++[Blk.box 3 (.agg [.AA,(0:Int),(0:Int)])])++[Blk.arr 1 []]).set σ.length (Blk.box 3 (.agg ([AV.AA,(0:Int),(0:Int)].set 0 (.A8 (σ.length+1) 0 0)))) =
     σ.set T (Blk.map (some .i64) (BO f (.i k) (.ptr σ.length 0)))++[Blk.box 3 (.agg [.A8 (σ.length+1) 0 0,(0:Int),(0:Int)]),.arr 1 []]:=by
    rw[MV,Vs _ _ A6,BH,FA];rfl
   rwa [e] at this
  rw[BB (by rw[BH];exact AG hq rfl),As (AX hT hq A6)];exact hq
def Dg.begin(h:Dg σ b T ps tr A ids f tb ob){k:Int}{t:CO}(hk:tr k=some t)(e l:Int){xs:List D}(c3:A1 σ (ob k)=.arr 1 xs)(c4:t.open_.length<=xs.length)(c5:∀i,i<t.open_.length->xs.getD i default=.int .i64 (t.open_.getD i 0:Nat))(y:B0)(X B1 B2:Blk):
  Dg ((((((σ.set (tb k) X).set (ob k) .dead).set (tb k) (.box 3 (.agg [.A8 (σ.length+2) 0 (t.open_.length+1),(e:Int),(l:Int)]))).set A .dead).set b (.box 2 (.agg [.A8 (σ.length+4) 0 (ps.length+1),.AF T]))) ++
   [.box 11 (.d y.A5),B1,.arr 1 (xs.take t.open_.length++[.int .i64 (ps.length:Nat)]),B2,.var 1 ((ids.map λi=>.ptr i 0)++[.ptr σ.length 0])]) b T (ps++[y]) (Ae tr k (some ⟨t.open_++[ps.length],e,l⟩)) (σ.length+4) (ids++[σ.length]) f tb (Ae ob k (σ.length+2)):=by
 obtain⟨g1,_⟩:=h.FP k t hk;have c1:=h.Ix;have c2:=h.row;have l1:=AG g1 rfl;have l3:=AG c1 rfl;have l4:=AG c2 rfl;have l5:=AG c3 rfl;have n2:tb k≠b:=AX g1 c1 A6;have n3:tb k≠A:=AX g1 c2 A6;have n4:tb k≠ob k:=AX g1 c3 A6;have n8:b≠A:=AX c1 c2 A6;have n9:b≠ob k:=AX c1 c3 A6;have n0:A≠ob k:=AX c2 c3 A6;obtain⟨S,hS⟩:∃S:Sto,S=(((((σ.set (tb k) X).set (ob k) .dead).set (tb k) (.box 3 (.agg [.A8 (σ.length+2) 0 (t.open_.length+1),.d (.int .i64 e),.d (.int .i64 l)]))).set A .dead).set b (.box 2 (.agg [.A8 (σ.length+4) 0 (ps.length+1),.AF T]))) ++
   [.box 11 (.d y.A5),B1,.arr 1 (xs.take t.open_.length++[.int .i64 (ps.length:Nat)]),B2,.var 1 ((ids.map λi=>.ptr i 0)++[.ptr σ.length 0])]:=⟨_,rfl⟩
 rw[<-hS];have hold:∀j,j<σ.length->j≠tb k->j≠ob k->j≠b->j≠A->A1 S j=A1 σ j:=λj hj m1 m2 m3 m4=>by
  rw[hS];simp only[CE,BH,AD hj,Py,FX m1,FX m2,FX m3,FX m4,false_and,CF]
 have hlen:S.length=σ.length+5:=by rw[hS];simp
 have at_:∀q,A1 S (σ.length+q)=A1 [.box 11 (.d y.A5),B1,.arr 1 (xs.take t.open_.length++[.int .i64 (ps.length:Nat)]),B2,.var 1 ((ids.map λi=>AV.ptr i 0)++[.ptr σ.length 0])] q:=λq=>by
  rw[hS,CE,BH,BH,BH,BH,BH,A7 oo,EB]
 have stb:A1 S (tb k)=.box 3 (.agg [.A8 (σ.length+2) 0 (t.open_.length+1),(e:Int),(l:Int)]):=by
  rw[hS];simp only[CE,BH,AD l1,Py,n2.symm,n3.symm,n4.symm,false_and,CF,l1,R1,By]
 have sb:A1 S b=.box 2 (.agg [.A8 (σ.length+4) 0 (ps.length+1),.AF T]):=by
  rw[hS];simp only[CE,BH,AD l3,Py,l3,R1,By]
 obtain⟨S1,hS1⟩:∃S1:Sto,S1=(S.set b (A1 σ b)).set A (A1 σ A):=⟨_,rfl⟩;have a1:∀j,j≠b->j≠A->A1 S1 j=A1 S j:=λj m3 m4=>by
  rw[hS1,As (FX m4),As (FX m3)]
 have a2:A1 S1 b=A1 σ b:=by rw[hS1,As (FX n8),BX oo]
 have a3:A1 S1 A=A1 σ A:=by rw[hS1,BX Ap]
 have h6:=h.KD hk ⟨t.open_++[ps.length],e,l⟩ (σ.length+2) (s:=S1) (λj hj m1 m2=>by
  have hjl:=AG rfl hj
  by_cases e1:j=b
  ·rw[e1];exact a2
  ·by_cases e2:j=A
   ·rw[e2];exact a3
   rw[a1 j e1 e2];exact hold j hjl m1 m2 e1 e2) (by
  rw[a1 _ n2 n3,stb];simp) ⟨xs.take t.open_.length++[.int .i64 (ps.length:Nat)],by rw[a1 _ oo oo,at_];rfl,Ap,λi hi=>by
   simp only[Bb,CT,C6] at hi
   have hl:(xs.take t.open_.length).length=t.open_.length:=Ap
   by_cases hi2:i<t.open_.length
   ·rw[B5,Ec oo,GH hi2,<-B5,c5 i hi2,B5 (l:=t.open_++_),Ec hi2,<-B5]
   have:i=t.open_.length:=oo
   subst this
   rw[B5,G2 oo,hl,FA,B5,G2 oo,FA];rfl⟩ (.inr oo)
 refine h6.more (σ.length+4) σ.length y (s:=S) (λj hj m3 m4=>(a1 j m3 m4).symm) sb (by rw[at_,CA];rfl) (at_ 0) (h.fresh (AR _))
def NP{α:Type}(g:Int->α)(k:Int)(x y:α):Ae (Ae g k x) k y=Ae g k y:=by funext k';unfold Ae;split<;>rfl
def tf{f:Aw->Option AV}(h:Dg σ b T ps tr A ids (some f) tb ob)(x:AN)(hN:ps.length<900000)(hop:Op (ps,tr))(hsr:0<=x.AB/\x.AB<2000000000000000)(hol:∀k t,tr k=some t->t.open_.length<=ps.length):
  AW prog Gl 35 [.ptr b 0,.d x.A5] σ (λr s=>r=.Aj []/\BAt s b (evB (ps,tr) x)/\∀q v,A1 σ q=.box 10 v->A1 s q=.box 10 v):=by
 have hx1:∀j,(A1 σ j).AP=false->A1 (σ++[Blk.box 10 (.d x.A5)]) j=A1 σ j:=λj hj=>BB (AG rfl hj);have h1:=h.ext hx1;obtain⟨s2,f',tb',ob',hcall,h2,hlen,hbox⟩:=wx (Gl:=Gl) h1 x.A0;have hq1:A1 (σ++[Blk.box 10 (.d x.A5)]) σ.length=.box 10 (.d x.A5):=Cd;have hq2:=hbox _ _ hq1;refine Fv func35 rfl rfl (by simp[ntmps35]) ?_;simp only[ntmps35,results35,B6,C6];refine AWp.seq (Bu rfl _ _ _ _ ?_);simp only[zT,seval];have hq:∀c:Bool,A1 (if c=true then s2 else σ++[Blk.box 10 (.d x.A5)]) σ.length=.box 10 (.d x.A5):=λc=>by cases c<;>simp[hq1,hq2]
 refine AWp.seq (v_ rfl (λL=>[(5,onV (L 8) (.d (.int .i64 (Am x.lo)))),(4,onV (L 7) (.ptr (tb' x.A0) 0)),(14,onV (L 6) (.d (.int .i64 (Am x.lo)))),(13,onV (L 5) (.d x.A5)),(12,onV (L 4) (.ptr (tb' x.A0) 0)),(11,onV (L 3) (.d (.int .i64 x.A0))),(10,onV (L 2) (.ptr σ.length 0)),(9,onV (L 1) (.ptr σ.length 0)),(8,onV (L 0) (.ptr b 0)),(3,.ptr σ.length 0),(0,.ptr b 0)])
  (λL=>if L 4=true then s2 else σ++[Blk.box 10 (.d x.A5)]) Ax ?_ ?_ ?_)
 ·exact Mi
 ·simp only[Rf];refine⟨?_,?_,?_,?_,?_,?_,?_,?_,?_,trivial⟩
  ·exact Pm
  ·exact Pm
  ·exact Pm
  ·exact Pm
  ·intro L hc hL hp;refine .inl ?_
   (simp only[EM,Region.binds,frB] at hp;(try simp only[EU,Nat.reduceAdd] at hL);simp only[zT,seval,hL,hp,Ef,Er,D3,hq])
   refine Be (hcall.mono λr s hs=>?_);obtain⟨rfl,rfl⟩:=hs;simp only[zT,seval];exact cA
  ·exact Pm
  ·intro L hc hL hp;refine .inl ?_
   (simp only[EM,Region.binds,frB] at hp;(try simp only[EU,Nat.reduceAdd] at hL);simp only[zT,seval,hL,hp,Ef,Er,D3,hq])
   refine Ak (fG x) ?_;simp only[zT,seval];exact cA
  ·exact Pm
  exact Pm
 simp only[Ef,By];obtain⟨t,ht⟩:∃t,t=(tr x.A0).getD CO.new:=⟨_,rfl⟩;rw[<-ht] at h2;obtain⟨g1,g2⟩:=h2.FP x.A0 t (CQ _ _ _);have hop2:∀i∈t.open_,i<ps.length:=by
  cases hk:tr x.A0 with
  | none=>rw[hk] at ht;subst ht;intro i hi;cases hi
  | some t0=>rw[hk] at ht;subst ht;exact hop _ _ hk
 have hol2:t.open_.length<=ps.length:=by
  cases hk:tr x.A0 with
  | none=>rw[hk] at ht;subst ht;exact Bq _
  | some t0=>rw[hk] at ht;subst ht;exact hol _ _ hk
 have e1:IntKind.i64.wrap (x.AB+1)=x.AB+1:=IL oo oo;have c1:=h2.Ix;have c2:=h2.row;obtain⟨xs,c3,c4,c5⟩:=g2.ex;have l1:=AG g1 rfl;have l2:=AG hq2 rfl;have l3:=AG c1 rfl;have l4:=AG c2 rfl;have l5:=AG c3 rfl;have n1:tb' x.A0≠σ.length:=AX g1 hq2 A6;have n2:tb' x.A0≠b:=AX g1 c1 A6;have n3:tb' x.A0≠A:=AX g1 c2 A6;have n4:tb' x.A0≠ob' x.A0:=AX g1 c3 A6;have n5:b≠σ.length:=AX c1 hq2 A6;have n6:A≠σ.length:=AX c2 hq2 A6;have n7:ob' x.A0≠σ.length:=AX c3 hq2 A6;have n8:b≠A:=AX c1 c2 A6;have n9:b≠ob' x.A0:=AX c1 c3 A6;have n0:A≠ob' x.A0:=AX c2 c3 A6;have hln:=h2.len;have d1:(ids.map λi=>AV.ptr i 0).length=ps.length:=by rw[BW,hln]
 have d2:(ids.map λi=>AV.ptr i 0).take ps.length=ids.map λi=>AV.ptr i 0:=Bi (by rw[d1];exact AR _);obtain⟨R,hR⟩:∃R:AV->Sto->Prop,R=λr s=>r=.Aj []/\BAt s b (evB (ps,tr) x)/\∀q v,A1 σ q=.box 10 v->A1 s q=.box 10 v:=⟨_,rfl⟩;rw[<-hR];refine Bu rfl _ _ _ _ ?_;simp only[zT,seval,d2,hln,e1,g1,hq2,c1,c2,c3,l1,l2,l3,l4,l5,n1,n2,n3,n4,n5,n6,n7,n8,n9,n0,n1.symm,n2.symm,n3.symm,n4.symm,n5.symm,n6.symm,n7.symm,n8.symm,n9.symm,n0.symm];refine⟨.inl Ax,?_⟩;apply ifC.mk<;>intro hc;have hc:¬x.AB=t.expect:=Dc;refine CL (τ:=Sto×List B0×List Nat) (λy=>[(0,.ptr b 0),(3,.ptr σ.length 0),(4,.ptr (tb' x.A0) 0),(5,(Am x.lo:Int))]) (λy=>y.1)
  (λy=>Dg y.1 b T y.2.1 (Ae tr x.A0 (some ⟨y.2.2,t.expect,t.last⟩)) A ids (some f') tb' ob'/\(∀q v,A1 σ q=.box 10 v->A1 y.1 q=.box 10 v)/\A1 y.1 σ.length=.box 10 (.d x.A5)/\Du y.2.1 y.2.2 t.last=Du ps t.open_ t.last/\y.2.1.length=ps.length/\(∀i∈y.2.2,i<ps.length)/\y.2.2.length<=ps.length) (λy=>y.2.2.length)
  (s2,ps,t.open_) ⟨h2,λq v hq=>hbox q v ((hx1 q (by rw[hq];rfl)).trans hq),hq2,rfl,rfl,hop2,hol2⟩ ?_ ?_
 ·exact Mi
 intro y hi;obtain⟨s2,ps3,op3⟩:=y;obtain⟨h2,hkp,hq2,hcl,hpl,hop2,hol2⟩:=hi;simp only at h2 hkp hq2 hcl hpl hop2 hol2;obtain⟨t3,ht3⟩:∃t3:CO,t3=⟨op3,t.expect,t.last⟩:=⟨_,rfl⟩;rw[<-ht3] at h2;obtain⟨g1,g2⟩:=h2.FP x.A0 t3 (CQ _ _ _);have hop3:t3.open_=op3:=by rw[ht3]
 have hE:evB (ps,tr) x=evT (Du ps3 op3 t.last) [] tr x:=by
  rw[evB];simp only[<-ht,A7 hc];rw[hcl]
 have hlast:t3.last=t.last:=by rw[ht3]
 rw[<-hop3] at hop2 hol2 hE;rw[<-hlast] at hE;rw[<-hpl] at hop2 hol2 hN;rw[hE] at hR;have hRR:t3.open_=[]->∀s,BAt s b (evT ps3 t3.open_ tr x)->(∀q v,A1 s2 q=.box 10 v->A1 s q=.box 10 v)->R (.Aj []) s:=λh0 s hs hq'=>by
  rw[hR];refine⟨rfl,?_,λq v hq=>hq' q v (hkp q v hq)⟩;rw[h0] at hs ⊢;exact hs
 have hex:t3.expect=t.expect:=by rw[ht3]
 have hcl2:Du ps3 t3.open_ t3.last=Du ps t.open_ t3.last:=by rw[hop3,hlast];exact hcl
 have hpl2:ps3.length=ps.length:=hpl;have hopl:t3.open_.length=op3.length:=by rw[hop3]
 rw[<-hex,<-hlast];clear ht hE hcl hpl ht3 hop3 hc hlast hex;generalize hpp:ps.length=NN at *;clear hop hol h h1 hcall hpp hx1 hq1 hbox hq;generalize t3=t at *;generalize ps3=ps at *;have c1:=h2.Ix;have c2:=h2.row;obtain⟨xs,c3,c4,c5⟩:=g2.ex;have l1:=AG g1 rfl;have l2:=AG hq2 rfl;have l3:=AG c1 rfl;have l4:=AG c2 rfl;have l5:=AG c3 rfl;have n1:tb' x.A0≠σ.length:=AX g1 hq2 A6;have n2:tb' x.A0≠b:=AX g1 c1 A6;have n3:tb' x.A0≠A:=AX g1 c2 A6;have n4:tb' x.A0≠ob' x.A0:=AX g1 c3 A6;have n5:b≠σ.length:=AX c1 hq2 A6;have n6:A≠σ.length:=AX c2 hq2 A6;have n7:ob' x.A0≠σ.length:=AX c3 hq2 A6;have n8:b≠A:=AX c1 c2 A6;have n9:b≠ob' x.A0:=AX c1 c3 A6;have n0:A≠ob' x.A0:=AX c2 c3 A6;have hln:=h2.len;have d1:(ids.map λi=>AV.ptr i 0).length=ps.length:=by rw[BW,hln]
 have d2:(ids.map λi=>AV.ptr i 0).take ps.length=ids.map λi=>AV.ptr i 0:=Bi (by rw[d1];exact AR _);simp only[zT,seval,d2,hln,e1,g1,hq2,c1,c2,c3,l1,l2,l3,l4,l5,n1,n2,n3,n4,n5,n6,n7,n8,n9,n0,n1.symm,n2.symm,n3.symm,n4.symm,n5.symm,n6.symm,n7.symm,n8.symm,n9.symm,n0.symm];apply ifC.mk<;>intro hlp
 ·rcases RE t.open_ with h0|⟨l,i,h0⟩
  ·rw[h0] at hlp;cases hlp
  rw[RD] at h0;have hli:i<ps.length:=hop2 i (by rw[h0];simp);have hll:l.length<ps.length:=by rw[h0] at hol2;simp at hol2;omega
  refine Be ((ZO h2 (CQ _ _ _) h0 hli oo oo t.last true).mono λr s hs=>?_);obtain⟨rfl,h6,hk⟩:=hs;simp only[zT,seval];refine⟨(s,ps.set i ((ps.getD i default).shut t.last true),l),⟨?_,λq v hq=>hk q _ (hkp q v hq) A6 A6,hk _ _ hq2 A6 A6,?_,?_,λj hj=>?_,?_⟩,?_,AU ?_⟩
  ·rw[NP] at h6;exact h6
  ·rw[<-hcl2,h0,Du,Du,aB];rfl
  ·simp[hpl2]
  ·rw[<-hpl2];exact hop2 j (by rw[h0];simp[hj])
  ·exact Ky
  ·have:op3.length=t.open_.length:=hopl.symm;simp only[this,h0];simp
  simp only[zT,seval]
 have h0:t.open_=[]:=by
  have:t.open_.length=0:=by simpa using hlp
  exact bG
 have hRR:=hRR h0;rotate_left;have hc:x.AB=t.expect:=Dc;have hRR:∀s,BAt s b (evT ps t.open_ tr x)->(∀q v,A1 s2 q=.box 10 v->A1 s q=.box 10 v)->R (.Aj []) s:=λs hs hq'=>by
  rw[hR];refine⟨rfl,?_,λq v hq=>hq' q v (hbox q v ((hx1 q (by rw[hq];rfl)).trans hq))⟩;rw[evB];simp only[<-ht,AD hc];exact hs
 all_goals
  apply ifC.mk<;>intro hk1
  ·refine⟨.inl Ax,?_⟩;apply ifC.mk<;>intro hp0
   ·have hp0:0<t.open_.length:=by simpa using hp0
    have e2:IntKind.i64.wrap ((t.open_.length:Int)-1)=((t.open_.length-1:Nat):Int):=Bz;have e3:=c5 (t.open_.length-1) oo;simp only[zT,seval,e2,e3];refine Ag ?_;refine Ln ?_;refine hRR _ ?_ ?bx
    case bx=>
     exact Th
    have hk1:x.ev.kind=1:=by simpa using hk1
    rw[evT];simp only[AD hk1,Qt];rw[<-NP tr x.A0 (some t)];rw[show Qn t.open_=((t.open_.getD (t.open_.length-1) 0:Nat):Int) from A7 (by intro h;rw[h] at hp0;simp at hp0)];exact⟨_,_,_,_,_,_,h2.begin (CQ _ _ _) (x.AB+1) (Am x.lo) c3 c4 c5 ⟨⟨x.A0,0,0,x.ev.name,Am x.lo,0,0,false⟩,ps.length,((t.open_.getD (t.open_.length-1) 0:Nat):Int),false⟩ _ _ _⟩
   have hp0:t.open_=[]:=by
    have:t.open_.length=0:=by simpa using hp0
    exact bG
   refine Ag ?_;refine Ln ?_;refine hRR _ ?_ ?bx
   case bx=>
    exact Th
   have hk1:x.ev.kind=1:=by simpa using hk1
   rw[evT];simp only[AD hk1,Qt];rw[<-NP tr x.A0 (some t)];rw[show Qn t.open_=-1 from AD hp0];exact⟨_,_,_,_,_,_,h2.begin (CQ _ _ _) (x.AB+1) (Am x.lo) c3 c4 c5 ⟨⟨x.A0,0,0,x.ev.name,Am x.lo,0,0,false⟩,ps.length,-1,false⟩ _ _ _⟩
  have hk1:¬x.ev.kind=1:=by simpa using hk1
  have h5:=h2.KD (CQ _ _ _) ⟨t.open_,x.AB+1,Am x.lo⟩ (ob' x.A0) (s:=s2.set (tb' x.A0) (.box 3 (.agg [.A8 (ob' x.A0) 0 t.open_.length,(x.AB+1:Int),(Am x.lo:Int)])))
   (λj hj m1 m2=>As (FX m1)) (BX l1) (g2.same (As n4)) (.inl rfl)
  rw[Q5,NP] at h5;apply ifC.mk<;>intro hk2
  ·have hk2:x.ev.kind=2:=Vu;rcases RE t.open_ with h0|⟨l,i,h0⟩
   ·rw[h0] at h5 ⊢;have hk0:=Q5z (Gl:=Gl) (s2.set (tb' x.A0) (.box 3 (.agg [.A8 (ob' x.A0) 0 ([]:List Nat).length,(x.AB+1:Int),(Am x.lo:Int)]))) b (tb' x.A0) (.d (.int .i64 (x.AB+1))) (.d (.int .i64 (Am x.lo))) (Am x.lo) false (ob' x.A0) (by rw[BX l1];rfl);refine Be (hk0.mono λr s hs=>?_);obtain⟨rfl,rfl⟩:=hs;simp only[zT,seval];refine Ln ?_;refine hRR _ ?_ ?bx
    case bx=>
     exact Th
    rw[evT];simp only[A7 hk1,AD hk2,h0,By,List.dropLast_nil];exact⟨_,_,_,_,_,_,h5⟩
   rw[RD] at h0;have hli:i<ps.length:=hop2 i (by rw[h0];simp);have hll:l.length<1000000:=by rw[h0] at hol2;simp at hol2;omega
   refine Be ((ZO h5 (CQ _ _ _) h0 hli oo hll (Am x.lo) false).mono λr s hs=>?_);obtain⟨rfl,h6,hk6⟩:=hs;simp only[zT,seval];refine Ln ?_;refine hRR _ ?_ ?bx
   case bx=>
    exact Th
   rw[evT];have q1:(l++[i]).getD ((l++[i]).length-1) 0=i:=A6;have q2:¬(l++[i])=[]:=A6;simp only[A7 hk1,AD hk2,h0,q1,A7 q2,List.dropLast_concat];rw[NP] at h6;exact⟨_,_,_,_,_,_,h6⟩
  have hk2:¬x.ev.kind=2:=Vu;refine Ln ?_;refine hRR _ ?_ ?bx
  case bx=>
   exact Th
  rw[evT];simp only[A7 hk1,A7 hk2];exact⟨_,_,_,_,_,_,h5⟩
end

def bd0:Bd:=([],λ_=>none)
def bdF(o:List AN):Bd:=o.foldl evB bd0
def kL(o:List AN)(k:Nat)(h:k<o.length):bdF (o.take (k+1))=evB (bdF (o.take k)) (o.getD k default):=by rw[CY o k h,bdF,GD];rfl
def Gk(e:Int)(o:List AN):Int:=o.foldl (λe x=>max e (Am x.lo)) e
def ga(e:Int)(o:List AN)(k:Nat)(h:k<o.length):Gk e (o.take (k+1))=max (Gk e (o.take k)) (Am (o.getD k default).lo):=by rw[CY o k h,Gk,GD];rfl
structure Bok(g:Bd)(n:Nat):Prop where
 op:Op g
 len:g.1.length<=n
 ol:∀k t,g.2 k=some t->t.open_.length<=g.1.length
def pS:Bok bd0 0:=⟨λk t h=>Pd,AR _,λk t h=>Pd⟩
def Ol(l:List Nat)(t:Int):∀ps:List B0,(Du ps l t).length=ps.length:=by
 induction l with
 | nil=>intro ps;rfl
 | cons i l ih=>intro ps;show((Du ps l t).set i _).length=_;rw[BH,ih]
def cG{ps:List B0}{op:List Nat}{tr:Int->Option CO}{n:Nat}(h:Bok (ps,tr) n)(ho:∀i∈op,i<ps.length)(hl:op.length<=ps.length)(x:AN):Bok (evT ps op tr x) (n+1):=by
 have h1:=h.op;have h2:=h.len;have h3:=h.ol;simp only at h2;have gen:∀(ps':List B0) (t':CO),ps.length<=ps'.length->ps'.length<=n+1->(∀i∈t'.open_,i<ps'.length)->t'.open_.length<=ps'.length->Bok (ps',Ae tr x.A0 (some t')) (n+1):=λps' t' q1 q2 q3 q4=>
  ⟨λk t hk=>by
   unfold Ae at hk
   simp only at hk ⊢
   split at hk
   ·cases hk;exact q3
   ·intro i hi;exact JX (h1 k t hk i hi) q1,q2,λk t hk=>by
   unfold Ae at hk
   simp only at hk ⊢
   split at hk
   ·cases hk;exact q4
   exact DC (h3 k t hk) q1⟩
 unfold evT;split
 ·refine gen _ _ A6 Ap (λi hi=>?_) (by simp;exact hl);simp at hi ⊢;rcases hi with hi|hi
  ·have:=ho i hi;omega
  omega
 split
 ·refine gen _ _ (by split<;>simp) (by split<;>first|omega|(simp;omega)) (λi hi=>?_) ?_
  ·have:=ho i (T9 _ hi);split<;>simpa using this
  simp only[RB];split<;>first|omega|(simp;omega)
 exact gen _ _ (AR _) oo ho hl
def ve{g:Bd}{n:Nat}(h:Bok g n)(x:AN):Bok (evB g x) (n+1):=by
 obtain⟨ps,tr⟩:=g;have hopn:∀i∈((tr x.A0).getD CO.new).open_,i<ps.length:=by
  cases hk:tr x.A0 with
  | none=>intro i hi;cases hi
  | some t=>exact h.op _ _ hk
 have holn:((tr x.A0).getD CO.new).open_.length<=ps.length:=by
  cases hk:tr x.A0 with
  | none=>exact Bq _
  | some t=>exact h.ol _ _ hk
 unfold evB;simp only;split
 ·exact cG h hopn holn x
 refine cG (ps:=Du ps _ _) ⟨λk t hk i hi=>?_,?_,λk t hk=>?_⟩ (λi hi=>by cases hi) (Bq _) x
 ·rw[Ol];exact h.op k t hk i hi
 ·rw[Ol];exact h.len
 rw[Ol];exact h.ol k t hk
def UC(o:List AN):∀k,k<=o.length->Bok (bdF (o.take k)) k
 | 0,_=>pS
 | k+1,h=>by rw[kL o k h];exact ve (UC o k oo) _
def CX(g:Bd)(en:Int)(D:List Aw):Bd:=D.foldr (λk g=>match k with|.i k=>(match g.2 k with|some t=>(Du g.1 t.open_ en,Ae g.2 k (some ⟨[],t.expect,t.last⟩))|none=>g)|_=>g) g
def de{g:Bd}{en:Int}{D:List Aw}{k:Int}{t:CO}(h:(CX g en D).2 k=some t):CX g en (.i k::D)=(Du (CX g en D).1 t.open_ en,Ae (CX g en D).2 k (some ⟨[],t.expect,t.last⟩)):=by
 have e:CX g en (.i k::D)=(match (CX g en D).2 k with|some t=>(Du (CX g en D).1 t.open_ en,Ae (CX g en D).2 k (some ⟨[],t.expect,t.last⟩))|none=>CX g en D):=rfl;rw[e,h]
def Ur(g:Bd)(en:Int)(k:Int):∀D:List Aw,Aw.i k∉D->(CX g en D).2 k=g.2 k
 | [],_=>rfl
 | .i k'::D,h=>by
  have h1:k≠k':=λe=>h (by rw[e];simp);have ih:=Ur g en k D (λhm=>h (Cy _ hm));show(match (CX g en D).2 k' with|some t=>(Du (CX g en D).1 t.open_ en,Ae (CX g en D).2 k' (some ⟨[],t.expect,t.last⟩))|none=>CX g en D).2 k=_;split
  ·simp only;rw[CP _ _ h1];exact ih
  exact ih
 | .s l::D,h=>Ur g en k D (λhm=>h (Cy _ hm))
 | .p a b::D,h=>Ur g en k D (λhm=>h (Cy _ hm))
def NO(g:Bd)(en:Int):∀D:List Aw,(CX g en D).1.length=g.1.length
 | []=>rfl
 | .i k'::D=>by
  show(match (CX g en D).2 k' with|some t=>(Du (CX g en D).1 t.open_ en,Ae (CX g en D).2 k' (some ⟨[],t.expect,t.last⟩))|none=>CX g en D).1.length=_;split
  ·simp only;rw[Ol];exact NO g en D
  exact NO g en D
 | .s l::D=>NO g en D
 | .p a b::D=>NO g en D
def Dg.drop{S s:Sto}{b T A:Nat}{ps:List B0}{tr:Int->Option CO}{ids:List Nat}{f:Aw->Option AV}{tb ob:Int->Nat}(h:Dg S b T ps tr A ids (some f) tb ob)(hs:∀j,(A1 S j).AP=false->j≠T->A1 s j=A1 S j):Dg s b T ps tr A ids none tb ob:=by
 have other:∀{j:Nat} {B:Blk},A1 S j=B->B.AP=false->(∀v,B≠.map (some .i64) v)->A1 s j=B:=λ{j B} hj hd hm=>by
  rw[hs j RR (λe=>hm _ (by rw[<-hj,e];exact h.Ad f rfl))];exact hj
 refine⟨other h.Ix rfl A6,other h.row rfl A6,h.len,h.nd,λj hj=>other (h.Hr j hj) rfl A6,λg hg=>(by cases hg),λg hg=>(by cases hg),λk t ht=>?_,h.inj,h.Dk⟩;obtain⟨h1,h2⟩:=h.FP k t ht;exact nb
end YtafpldmnkcegmaaGreat
end Go.Proofs

namespace Go.Proofs
open Go.AM Tryz
namespace YtafpldmnkcegmaaGreat
def Y4(t:Int):∀(l:List Nat) (ps:List B0) (j:Nat),(∀i∈l,i<ps.length)->j<ps.length->(Du ps l t).getD j default=if j∈l then(ps.getD j default).shut t true else ps.getD j default
 | [],ps,j,_,_=>by simp[Du]
 | i::l,ps,j,hl,hj=>by
  have ih:=λq hq=>Y4 t l ps q (λi hi=>hl i (Cy _ hi)) hq;have hi:=hl i DE;have e:Du ps (i::l) t=(Du ps l t).set i (((Du ps l t).getD i default).shut t true):=rfl;rw[e];by_cases h:j=i
  ·subst h;rw[B5,Lg (by rw[Ol];exact hi),AD DE,ih j hi];show(if j∈l then(ps.getD j default).shut t true else ps.getD j default).shut t true=_;split<;>rfl
  have hs:((Du ps l t).set i (((Du ps l t).getD i default).shut t true)).getD j default=(Du ps l t).getD j default:=by
   rw[B5,IX (FX h),<-B5]
  rw[hs,ih j hj];have:(j∈i::l)↔j∈l:=Lh;by_cases hm:j∈l
  ·rw[AD hm,AD (this.2 hm)]
  rw[A7 hm,A7 (λh'=>hm (this.1 h'))]
structure Cl(g:Bd):Prop where
 op:Op g
 Kg:∀i,i<g.1.length->((g.1.getD i default).closed=false↔∃k t,g.2 k=some t/\i∈t.open_)
 nd:∀k t,g.2 k=some t->t.open_.Nodup
 dj:∀k k' t t' i,g.2 k=some t->g.2 k'=some t'->i∈t.open_->i∈t'.open_->k=k'
def cl0:Cl bd0:=⟨λk t h=>Pd,λi hi=>absurd hi (F9 _),λk t h=>Pd,λk k' t t' i h=>Pd⟩
def Cl.fresh{ps:List B0}{tr:Int->Option CO}(h:Cl (ps,tr))(k:Int)(hk:tr k=none):Cl (ps,Ae tr k (some CO.new)):=by
 have sm:∀k' t',Ae tr k (some CO.new) k'=some t'->t'.open_=[]\/tr k'=some t':=λk' t' h'=>by
  unfold Ae at h';split at h'
  ·cases h';exact .inl rfl
  exact .inr h'
 refine⟨λk' t' h' i hi=>?_,λi hi=>?_,λk' t' h'=>?_,λk1 k2 t1 t2 i h1 h2 m1 m2=>?_⟩
 ·rcases sm k' t' h' with e|e
  ·rw[e] at hi;cases hi
  exact h.op k' t' e i hi
 ·rw[h.Kg i hi];constructor
  ·rintro⟨k',t',h1,h2⟩;refine⟨k',t',?_,h2⟩;by_cases e:k'=k
   ·subst e;simp only at h1;rw[hk] at h1;cases h1
   simp only;rw[CP _ _ e];exact h1
  rintro⟨k',t',h1,h2⟩;rcases sm k' t' h1 with e|e
  ·rw[e] at h2;cases h2
  exact⟨k',t',e,h2⟩
 ·rcases sm k' t' h' with e|e
  ·rw[e];exact Ht
  exact h.nd k' t' e
 rcases sm k1 t1 h1 with e|e
 ·rw[e] at m1;cases m1
 rcases sm k2 t2 h2 with e2|e2
 ·rw[e2] at m2;cases m2
 exact h.dj k1 k2 t1 t2 i e e2 m1 m2
def Cl.KC{ps ps':List B0}{tr:Int->Option CO}(h:Cl (ps,tr)){k:Int}{t:CO}(hk:tr k=some t)(t':CO)(hl:ps.length<=ps'.length)(hnd:t'.open_.Nodup)
  (hin:∀i∈t'.open_,i<ps'.length/\(i∈t.open_\/ps.length<=i)) (hc:∀i,i<ps'.length->((ps'.getD i default).closed=false↔i∈t'.open_\/(i<ps.length/\(ps.getD i default).closed=false/\i∉t.open_))):Cl (ps',Ae tr k (some t')):=by
 have sm:∀k1 t1,Ae tr k (some t') k1=some t1->(k1=k/\t1=t')\/(k1≠k/\tr k1=some t1):=λk1 t1 h1=>by
  by_cases e:k1=k
  ·subst e;rw[CQ] at h1;cases h1;exact .inl ⟨rfl,rfl⟩
  rw[CP _ _ e] at h1;exact .inr ⟨e,h1⟩
 have hop:∀k t,tr k=some t->∀i∈t.open_,i<ps.length:=h.op;have hdj:∀k k' t t' i,tr k=some t->tr k'=some t'->i∈t.open_->i∈t'.open_->k=k':=h.dj;have hio:∀i,i<ps.length->((ps.getD i default).closed=false↔∃k t,tr k=some t/\i∈t.open_):=h.Kg;have hnds:∀k t,tr k=some t->t.open_.Nodup:=h.nd;refine⟨λk1 t1 h1 i hi=>?_,λi hi=>?_,λk1 t1 h1=>?_,λk1 k2 t1 t2 i h1 h2 m1 m2=>?_⟩
 ·rcases sm k1 t1 h1 with⟨rfl,rfl⟩|⟨e,e1⟩
  ·exact(hin i hi).1
  exact JX (hop k1 t1 e1 i hi) hl
 ·simp only at hi ⊢;rw[hc i hi];constructor
  ·rintro(h1|⟨h1,h2,h3⟩)
   ·exact⟨k,t',CQ _ _ _,h1⟩
   obtain⟨k1,t1,e1,e2⟩:=(hio i h1).1 h2;refine⟨k1,t1,?_,e2⟩;rw[CP]
   ·exact e1
   rintro rfl;rw[hk] at e1;cases e1;exact h3 e2
  rintro⟨k1,t1,e1,e2⟩;rcases sm k1 t1 e1 with⟨rfl,rfl⟩|⟨e,e3⟩
  ·exact .inl e2
  have hlt:=hop k1 t1 e3 i e2;exact .inr ⟨hlt,(hio i hlt).2 ⟨k1,t1,e3,e2⟩,λhm=>e (hdj k1 k t1 t i e3 hk e2 hm)⟩
 ·rcases sm k1 t1 h1 with⟨rfl,rfl⟩|⟨e,e1⟩
  ·exact hnd
  exact hnds k1 t1 e1
 rcases sm k1 t1 h1 with⟨rfl,rfl⟩|⟨e,e1⟩<;>rcases sm k2 t2 h2 with⟨rfl,rfl⟩|⟨e',e2⟩
 ·rfl
 ·rcases(hin i m1).2 with h3|h3
  ·exact absurd (hdj k2 k1 t2 t i e2 hk m2 h3) e'
  have:=hop k2 t2 e2 i m2;omega
 ·rcases(hin i m2).2 with h3|h3
  ·exact absurd (hdj k1 k2 t1 t i e1 hk m1 h3) e
  have:=hop k1 t1 e1 i m1;omega
 exact hdj k1 k2 t1 t2 i e1 e2 m1 m2
def Cl.close{ps:List B0}{tr:Int->Option CO}(h:Cl (ps,tr)){k:Int}{t:CO}(hk:tr k=some t)(en e l:Int):Cl (Du ps t.open_ en,Ae tr k (some ⟨[],e,l⟩)):=by
 refine h.KC hk _ (by rw[Ol];exact AR _) Ht (λi hi=>by cases hi) λi hi=>?_;rw[Ol] at hi;rw[Y4 en t.open_ ps i (h.op k t hk) hi];by_cases hm:i∈t.open_
 ·rw[AD hm];simp[B0.shut,hm]
 rw[A7 hm];simp[hm,hi]
def clT{ps:List B0}{tr:Int->Option CO}{t:CO}(x:AN)(h:Cl (ps,tr))(hk:tr x.A0=some t):Cl (evT ps t.open_ tr x):=by
 have hop:=h.op _ _ hk;have hnd:=h.nd _ _ hk;simp only at hop;have BD:∀i,i∈t.open_->(ps.getD i default).closed=false:=λi hi=>(h.Kg i (hop i hi)).2 ⟨_,_,hk,hi⟩;unfold evT;split
 ·refine h.KC hk _ A6 ?_ (λi hi=>?_) (λi hi=>?_)
  ·simp only;rw[R8];refine⟨hnd,A6,λa ha b hb e=>?_⟩;simp at hb;subst hb;subst e;exact absurd (hop _ ha) (R5 _)
  ·simp at hi ⊢;rcases hi with hi|hi
   ·exact⟨Nat.lt_succ_of_lt (hop i hi),.inl hi⟩
   exact⟨oo,.inr oo⟩
  simp only[Bb,CT,C6] at hi;by_cases e:i<ps.length
  ·have:(ps++[Qt x ps.length t.open_]).getD i default=ps.getD i default:=lK;rw[this];simp only[CH,CG,show i≠ps.length by omega,E6,e,R0];by_cases hm:i∈t.open_
   ·exact⟨λ_=>.inl hm,λ_=>BD i hm⟩
   simp[hm]
  have:i=ps.length:=oo;subst this;simp[Qt]
 split
 ·by_cases h0:t.open_=[]
  ·rw[AD h0,h0];refine h.KC hk _ (AR _) Ht (λi hi=>by cases hi) (λi hi=>?_);simp[h0,hi]
  rw[A7 h0];obtain⟨l,i,e⟩:=(RE t.open_).resolve_left h0;rw[RD] at e;have q1:t.open_.getD (t.open_.length-1) 0=i:=by rw[e];simp
  rw[q1,e,List.dropLast_concat];rw[e] at hnd hop;have hni:i∉l:=λhm=>by
   rw[R8] at hnd;exact hnd.2.2 i hm i A6 rfl
  have hil:i<ps.length:=hop i A6;refine h.KC hk _ A6 (R8.1 hnd).1 (λj hj=>⟨by simp;exact hop j Ku,.inl (by rw[e];simp[hj])⟩) (λj hj=>?_);rw[BH] at hj;by_cases ej:j=i
  ·subst ej;rw[B5,Lg hil];simp[B0.shut,hni,e]
  have hs:(ps.set i ((ps.getD i default).shut (Am x.lo) false)).getD j default=ps.getD j default:=by rw[B5,IX (FX ej),<-B5]
  rw[hs,e];by_cases hm:j∈l
  ·exact⟨λ_=>.inl hm,λ_=>BD j (by rw[e];simp[hm])⟩
  simp[hm,ej,hj]
 refine h.KC hk _ (AR _) hnd (λi hi=>⟨hop i hi,.inl hi⟩) (λi hi=>?_);by_cases hm:i∈t.open_
 ·exact⟨λ_=>.inl hm,λ_=>BD i hm⟩
 simp[hm,hi]
def Tv(ps:List B0)(op:List Nat)(tr:Int->Option CO)(x:AN)(y:Option CO):evT ps op (Ae tr x.A0 y) x=evT ps op tr x:=by
 unfold evT;simp only[NP]
def Q0s{g:Bd}(h:Cl g)(x:AN):Cl (evB g x):=by
 obtain⟨ps,tr⟩:=g;have h2:Cl (ps,Ae tr x.A0 (some ((tr x.A0).getD CO.new))):=by
  cases hk:tr x.A0 with
  | none=>exact h.fresh x.A0 hk
  | some t=>
   have:Ae tr x.A0 (some t)=tr:=by rw[<-hk,Q5]
   simp only[EA];rw[this];exact h
 unfold evB;simp only;split
 ·rw[<-Tv _ _ _ _ (some ((tr x.A0).getD CO.new))];exact clT x h2 (CQ _ _ _)
 have h3:=h2.close (CQ _ _ _) ((tr x.A0).getD CO.new).last 0 0;rw[NP] at h3;have:=clT x h3 (CQ _ _ _)
 rwa [Tv] at this
def Q6s(o:List AN):Cl (bdF o):=by
 have gen:∀(l:List AN) (g:Bd),Cl g->Cl (l.foldl evB g):=λl=>by
  induction l with
  | nil=>intro g h;exact h
  | cons x l ih=>intro g h;exact ih _ (Q0s h x)
 exact gen o _ cl0
def Fe(g:Bd)(en:Int):List B0:=g.1.map λp=>if p.closed=true then p else p.shut en true
def yJ{g:Bd}(h:Cl g)(en:Int){D:List Aw}(hD:∀k t,g.2 k=some t->Aw.i k∈D):(CX g en D).1=Fe g en:=by
 have gen:∀D:List Aw,Cl (CX g en D)/\(∀j,j<g.1.length->(CX g en D).1.getD j default=g.1.getD j default\/((g.1.getD j default).closed=false/\(CX g en D).1.getD j default=(g.1.getD j default).shut en true)) /\
   (∀k t,(CX g en D).2 k=some t->Aw.i k∈D->t.open_=[])/\∀k,((CX g en D).2 k).isSome=(g.2 k).isSome:=λD=>by
  induction D with
  | nil=>exact⟨h,λj hj=>.inl rfl,λk t _ hm=>(by cases hm),λk=>rfl⟩
  | cons a D ih=>
   obtain⟨i1,i2,i3,i4⟩:=ih;cases a with
   | i k=>
    cases hk:(CX g en D).2 k with
    | none=>
     have e:CX g en (.i k::D)=CX g en D:=by
      have e:CX g en (.i k::D)=(match (CX g en D).2 k with|some t=>(Du (CX g en D).1 t.open_ en,Ae (CX g en D).2 k (some ⟨[],t.expect,t.last⟩))|none=>CX g en D):=rfl;rw[e,hk]
     rw[e];refine⟨i1,i2,λk' t' h1 h2=>?_,i4⟩;rcases Bw.1 h2 with h2|h2
     ·cases h2;rw[hk] at h1;cases h1
     exact i3 k' t' h1 h2
    | some t=>
     rw[de hk];have hlen:=NO g en D;have hop:=i1.op;have hio:=i1.Kg;refine⟨Cl.close (ps:=(CX g en D).1) (tr:=(CX g en D).2) i1 hk en _ _,λj hj=>?_,λk' t' h1 h2=>?_,λk'=>?_⟩
     ·simp only;rw[Y4 en t.open_ _ j (hop k t hk) (by rw[hlen];exact hj)];by_cases hm:j∈t.open_
      ·rw[AD hm];have hc:=(hio j (by rw[hlen];exact hj)).2 ⟨k,t,hk,hm⟩;rcases i2 j hj with h1|⟨h1,h2⟩
       ·rw[h1] at hc ⊢;exact .inr ⟨hc,rfl⟩
       rw[h2] at hc;cases hc
      rw[A7 hm];exact i2 j hj
     ·simp only at h1;by_cases e:k'=k
      ·subst e;rw[CQ] at h1;cases h1;rfl
      rw[CP _ _ e] at h1;rcases Bw.1 h2 with h2|h2
      ·cases h2;exact absurd rfl e
      exact i3 k' t' h1 h2
     simp only;by_cases e:k'=k
     ·subst e;rw[CQ,<-i4 k',hk];rfl
     rw[CP _ _ e];exact i4 k'
   | s l=>exact⟨i1,i2,λk t h1 h2=>i3 k t h1 DN,i4⟩
   | p x y=>exact⟨i1,i2,λk t h1 h2=>i3 k t h1 DN,i4⟩
 obtain⟨i1,i2,i3,i4⟩:=gen D;have hlen:=NO g en D;apply HY (by rw[hlen,Fe,BW]);intro j h1 h2;have hj:j<g.1.length:=oo;have hcl:((CX g en D).1.getD j default).closed=true:=by
  cases hc:((CX g en D).1.getD j default).closed with
  | true=>rfl
  | false=>
   obtain⟨k,t,e1,e2⟩:=(i1.Kg j h1).1 hc;have hs:(g.2 k).isSome=true:=by rw[<-i4 k,e1];rfl
   obtain⟨t0,ht0⟩:=Fa.1 hs;rw[i3 k t e1 (hD k t0 ht0)] at e2;cases e2
 have ea:(CX g en D).1.getD j default=(CX g en D).1[j]:=by simp[h1]
 have eb:g.1.getD j default=g.1[j]:=Ku;have hi:=i2 j hj;rw[ea] at hcl hi;rw[eb] at hi;simp only[Fe,H9];rcases hi with h3|⟨h3,h4⟩
 ·rw[<-h3,AD hcl]
 rw[h4,A7 K9]
end YtafpldmnkcegmaaGreat
end Go.Proofs

set_option maxRecDepth 100000
namespace Go.Proofs
open Go.AM Tryz
namespace YtafpldmnkcegmaaGreat
variable {Gl:BM} {τ:Sto}
def zS:=aI (aI @Ys (aI @ZJ @ZI)) (aI (aI @Z1 @Q5j) (aI @xU @uq))
def JJ(S E C:Nat):List (Nat×Nat):=[(38,S),(137,E),(139,C)]
def JI(n0 n1 n2 n3 n4 n5:Nat):List (Nat×Nat):=[(187,n0),(156,n1),(122,n2),(123,n3),(75,n4),(50,n5)]
structure Fam(S E C es:Nat)(g:Bool)(n0 n1 n2 n3 n4 n5:Nat):Prop where
 i0:PG prog (tyR (JJ S E C)) (tyR (JI n0 n1 n2 n3 n4 n5)) Tryz.f187 n0
 i1:PG prog (tyR (JJ S E C)) (tyR (JI n0 n1 n2 n3 n4 n5)) Tryz.f156 n1
 i2:PG prog (tyR (JJ S E C)) (tyR (JI n0 n1 n2 n3 n4 n5)) Tryz.f122 n2
 i3:PG prog (tyR (JJ S E C)) (tyR (JI n0 n1 n2 n3 n4 n5)) Tryz.f123 n3
 i4:PG prog (tyR (JJ S E C)) (tyR (JI n0 n1 n2 n3 n4 n5)) Tryz.f75 n4
 i5:PG prog (tyR (JJ S E C)) (tyR (JI n0 n1 n2 n3 n4 n5)) Tryz.f50 n5
 ti:Cn prog S=some (none,es)
 te:B_ prog S=some E
 tk:BR prog E=some g
 tz:tsz prog E=some es
def YI{S E C n0 n1 n2 n3 n4 n5 es:Nat}{g:Bool}(H:Fam S E C es g n0 n1 n2 n3 n4 n5)(Dm:D->Prop)(hD:∀x,Dm x->ElG g es x)(xs:List D)(n a b k:Nat)(fv:FuncId)(caps:List AV)(hx:∀y∈xs,Dm y)(hn:n<=xs.length)(hN:n<1000000)(ha:a+k<=n)(hb:b+k<=n)(hab:a+k<=b\/b+k<=a):
  AW prog Gl n0 [.A8 0 0 n,(a:Int),(b:Int),(k:Int),.fn fv caps] (.arr es xs::τ) (λr s=>r=.Aj []/\∃ys,s=(.arr es ys::τ)/\Arr Dm xs ys (Hh a b k)):=by
 refine Oo H.i0 rfl (by simp[ntmps187]) (Bu rfl _ _ _ _ ?_);simp only[JJ,JI,ntmps187,results187,B6,C6];simp only[zS,seval,H.ti,H.te,H.tk,H.tz];refine CL (τ:=Nat×List D) (λx=>[(0,.A8 0 0 n),(1,(a:Int)),(2,(b:Int)),(3,(k:Int)),(10,(x.1:Int))]) (λx=>(.arr es x.2::τ)) (λx=>x.1<=k/\Arr Dm xs x.2 (Hh a b x.1)) (λx=>k-x.1) (0,xs) ⟨Bq _,rfl,hx,λi hi=>by unfold Hh;rw[A7 oo,A7 oo]⟩ ?_ ?_
 ·refine AU ?_;simp only[zS,seval,H.ti,H.te,H.tk,H.tz]
  all_goals rfl
 intro x hi;obtain⟨j,ys⟩:=x;obtain⟨hj,hA⟩:=hi;simp only at hj hA;simp only[zS,seval,H.ti,H.te,H.tk,H.tz];apply ifC.mk<;>intro h
 ·have h:j<k:=Dy;have e1:IntKind.i64.wrap ((a:Int)+j)=((a+j:Nat):Int):=Bz;have e2:IntKind.i64.wrap ((b:Int)+j)=((b+j:Nat):Int):=Bz;have hl:=hA.len;have l1:=ElG.at hD hA.el (i:=a+j) oo;have l2:=ElG.at hD hA.el (i:=b+j) oo;simp only[zS,seval,H.ti,H.te,H.tk,H.tz,e1,e2,l1,l2];refine⟨.inl Ax,?_⟩;have c1:((b+j:Nat):Int)<(n:Int):=oo;have c2:((a+j:Nat):Int)<(n:Int):=oo;have c3:b+j<ys.length:=oo;have c4:a+j<ys.length:=oo;simp only[c1,c2,c3,c4,R0];refine⟨(j+1,_),⟨oo,(hA.swap (i:=a+j) (j:=b+j) oo oo).congr λi _=>?_⟩,AQ,AU ?_⟩
  ·exact Qbi a b j i oo
  refine L3 ?_;rw[IL oo oo];rfl
 have h:¬j<k:=Dy;have:j=k:=oo;subst this;exact⟨_,_,Bg.refl _ _ _,rfl,ys,rfl,hA⟩

def xI(a m i p:Nat)(h:i<=m):Hh (m-i) m i p=G7 (m-i) m (m+i) p:=by
 unfold Hh G7
 repeat' split
 all_goals omega
def xJ(m i j p:Nat)(h:j<i)(hm:i<=m):Hh (m-i) m j (G7 (m-(i-j)) m (m+j) p)=G7 (m-i) m (m+j) p:=by
 unfold Hh G7
 repeat' split
 all_goals omega
def zm(m i j p:Nat)(h:i<j)(hm:i<=m):Hh (m-i) (m+j-i) i (G7 (m-i) m (m+(j-i)) p)=G7 (m-i) m (m+j) p:=by
 unfold Hh G7
 repeat' split
 all_goals omega
def X6{a b k i n:Nat}(ha:a+k<=n)(hb:b+k<=n)(hi:i<n):Hh a b k i<n:=by
 unfold Hh
 repeat' split
 all_goals omega
def uz{a m b i n:Nat}(ha:a<=m)(hb:m<=b)(hn:b<=n)(hi:i<n):G7 a m b i<n:=by
 unfold G7
 repeat' split
 all_goals omega
def sX{S E C n0 n1 n2 n3 n4 n5 es:Nat}{g:Bool}(H:Fam S E C es g n0 n1 n2 n3 n4 n5)(Dm:D->Prop)(hD:∀x,Dm x->ElG g es x)(xs:List D)(n a m b:Nat)(fv:FuncId)(caps:List AV)(hx:∀y∈xs,Dm y)(hn:n<=xs.length)(hN:n<1000000)(ha:a<m)(hm:m<b)(hb:b<=n):
  AW prog Gl n1 [.A8 0 0 n,(a:Int),(m:Int),(b:Int),.fn fv caps] (.arr es xs::τ) (λr s=>r=.Aj []/\∃ys,s=(.arr es ys::τ)/\Arr Dm xs ys (G7 a m b)):=by
 refine Oo H.i1 rfl (by simp[ntmps156]) (Bu rfl _ _ _ _ ?_);simp only[JJ,JI,ntmps156,results156,B6,C6];simp only[zS,seval,H.ti,H.te,H.tk,H.tz];refine CL (τ:=(Nat×Nat)×List D) (λx=>[(0,.A8 0 0 n),(2,(m:Int)),(4,.fn fv caps),(10,(x.1.1:Int)),(11,(x.1.2:Int))]) (λx=>(.arr es x.2::τ))
  (λx=>1<=x.1.1/\x.1.1<=m-a/\1<=x.1.2/\x.1.2<=b-m/\∃W,Arr Dm xs x.2 W/\∀p,p<xs.length->W (G7 (m-x.1.1) m (m+x.1.2) p)=G7 a m b p) (λx=>x.1.1+x.1.2) ((m-a,b-m),xs)
  ⟨AQ,AQ,AQ,AQ,λi=>i,Arr.refl hx,λp _=>by simp only;congr 1<;>omega⟩ ?_ ?_
 ·refine AU ?_;have e1:IntKind.i64.wrap ((m:Int)-a)=((m-a:Nat):Int):=Bz;have e2:IntKind.i64.wrap ((b:Int)-m)=((b-m:Nat):Int):=Bz;simp only[zS,seval,H.ti,H.te,H.tk,H.tz,e1,e2]
 intro x hi;obtain⟨⟨i,j⟩,ys⟩:=x;obtain⟨h1,h2,h3,h4,W,hA,hπ⟩:=hi;simp only at h1 h2 h3 h4 hA hπ;have hl:=hA.len;have e1:IntKind.i64.wrap ((m:Int)-i)=((m-i:Nat):Int):=Bz;simp only[zS,seval,H.ti,H.te,H.tk,H.tz,e1];apply ifC.mk<;>intro h
 ·have h:i≠j:=Ks;apply ifC.mk<;>intro h
  ·have h:j<i:=Dy;refine Be ((YI H Dm hD ys n (m-i) m j fv caps hA.el oo hN oo oo oo).mono λr s h=>?_);obtain⟨rfl,zs,rfl,hB⟩:=h;have e2:IntKind.i64.wrap ((i:Int)-j)=((i-j:Nat):Int):=Bz;simp only[zS,seval,H.ti,H.te,H.tk,H.tz,e2];refine⟨((i-j,j),zs),⟨AQ,AQ,AQ,AQ,_,hA.trans hB λp hp=>X6 oo oo hp,λp hp=>?_⟩,AQ,AU ?_⟩
   ·simp only;rw[xJ m i j p oo oo];exact hπ p hp
   exact Ji
  have h:¬j<i:=Dy;have e2:IntKind.i64.wrap (IntKind.i64.wrap ((m:Int)+j)-i)=((m+j-i:Nat):Int):=by rw[IL (n:=(m:Int)+j) oo oo,IL oo oo];omega
  simp only[e2];refine Be ((YI H Dm hD ys n (m-i) (m+j-i) i fv caps hA.el oo hN oo oo oo).mono λr s h=>?_);obtain⟨rfl,zs,rfl,hB⟩:=h;have e3:IntKind.i64.wrap ((j:Int)-i)=((j-i:Nat):Int):=Bz;simp only[zS,seval,H.ti,H.te,H.tk,H.tz,e3];refine⟨((i,j-i),zs),⟨AQ,AQ,AQ,AQ,_,hA.trans hB λp hp=>X6 oo oo hp,λp hp=>?_⟩,AQ,AU ?_⟩
  ·simp only;rw[zm m i j p oo oo];exact hπ p hp
  exact Ji
 have h:i=j:=Ks;subst h;refine Be ((YI H Dm hD ys n (m-i) m i fv caps hA.el oo hN oo oo oo).mono λr s h=>?_);obtain⟨rfl,zs,rfl,hB⟩:=h;refine⟨trivial,_,_,Bg.refl _ _ _,rfl,zs,rfl,(hA.trans hB λp hp=>X6 oo oo hp).congr λp hp=>?_⟩;rw[xI a m i p oo];exact hπ p hp
end YtafpldmnkcegmaaGreat
end Go.Proofs
