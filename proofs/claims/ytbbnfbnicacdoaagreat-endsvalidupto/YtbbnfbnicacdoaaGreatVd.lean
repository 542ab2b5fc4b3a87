/- What the claim wants of the machine, the contracts and the law, laid together. -/
import Derived.Test.YtbbnfbnicacdoaaGreatVc
import Derived.Test.YtbbnfbnicacdoaaGreatProg
import Derived.KernelRfl
import Derived.Test.YtbbnfbnicacdoaaGreatRows
import Derived.ChangeReads
import Derived.WideShapes
set_option linter.unusedVariables false
set_option linter.unusedSimpArgs false
section
namespace Go.Proofs.YtbbnfbnicacdoaaGreat
open Go.Ab
open Go.Proofs.Tryz renaming prog→Pg
set_option maxRecDepth 20000
theorem ty1:tyOf Pg 1=some {kd:=.oth,size:=1,bytes:=8,zero:=some [.lit .nilFunc]}:=by kernel_rfl
theorem fn1:isFn Pg 1=true:=by kernel_rfl
theorem ty2:tyOf Pg 2=some {kd:=.int .i64,size:=1,bytes:=8,zero:=some [.lit (.int .i64 0)]}:=by kernel_rfl
theorem ty3:tyOf Pg 3=some {kd:=.int .i64,size:=1,bytes:=8,zero:=some [.lit (.int .i64 0)]}:=by kernel_rfl
theorem ty4:tyOf Pg 4=some {kd:=.bool,size:=1,bytes:=1,zero:=some [.lit (.bool false)]}:=by kernel_rfl
theorem zr4:zeroAV Pg 4=some (.lit (.bool false)):=by kernel_rfl
theorem ty5:tyOf Pg 5=some {kd:=.int .u8,size:=1,bytes:=1,zero:=some [.lit (.int .u8 0)]}:=by kernel_rfl
theorem ty6:tyOf Pg 6=some {kd:=.int .u8,size:=1,bytes:=1,zero:=some [.lit (.int .u8 0)]}:=by kernel_rfl
theorem ty7:tyOf Pg 7=some {kd:=.st [(0,2),(1,3),(2,4),(3,6)],size:=4,bytes:=24,zero:=some [.lit (.int .i64 0),.lit (.int .i64 0),.lit (.bool false),.lit (.int .u8 0)]}:=by kernel_rfl
theorem ty8:tyOf Pg 8=some {kd:=.st [(0,2),(1,3),(2,4),(3,6)],size:=4,bytes:=24,zero:=some [.lit (.int .i64 0),.lit (.int .i64 0),.lit (.bool false),.lit (.int .u8 0)]}:=by kernel_rfl
theorem ty9:tyOf Pg 9=some {kd:=.str,size:=1,bytes:=16,zero:=some [.lit (.string ⟨#[]⟩)]}:=by kernel_rfl
theorem ty10:tyOf Pg 10=some {kd:=.str,size:=1,bytes:=16,zero:=some [.lit (.string ⟨#[]⟩)]}:=by kernel_rfl
theorem ty11:tyOf Pg 11=some {kd:=.str,size:=1,bytes:=16,zero:=some [.lit (.string ⟨#[]⟩)]}:=by kernel_rfl
theorem ty12:tyOf Pg 12=some {kd:=.int .u64,size:=1,bytes:=8,zero:=some [.lit (.int .u64 0)]}:=by kernel_rfl
theorem ty13:tyOf Pg 13=some {kd:=.st [(0,9),(1,12)],size:=2,bytes:=24,zero:=some [.lit (.string ⟨#[]⟩),.lit (.int .u64 0)]}:=by kernel_rfl
theorem ty14:tyOf Pg 14=some {kd:=.st [(0,9),(1,12)],size:=2,bytes:=24,zero:=some [.lit (.string ⟨#[]⟩),.lit (.int .u64 0)]}:=by kernel_rfl
theorem ty15:tyOf Pg 15=some {kd:=.oth,size:=1,bytes:=8,zero:=some [.lit (.pointer none)]}:=by kernel_rfl
theorem pt15:isPtr Pg 15=true:=by kernel_rfl
theorem ty16:tyOf Pg 16=some {kd:=.oth,size:=1,bytes:=8,zero:=some [.lit (.pointer none)]}:=by kernel_rfl
theorem pt16:isPtr Pg 16=true:=by kernel_rfl
theorem ty17:tyOf Pg 17=some {kd:=.oth,size:=1,bytes:=8,zero:=some [.lit (.pointer none)]}:=by kernel_rfl
theorem pt17:isPtr Pg 17=true:=by kernel_rfl
theorem ty18:tyOf Pg 18=some {kd:=.st [(0,17)],size:=1,bytes:=8,zero:=some [.lit (.pointer none)]}:=by kernel_rfl
theorem ty19:tyOf Pg 19=some {kd:=.st [(0,17)],size:=1,bytes:=8,zero:=some [.lit (.pointer none)]}:=by kernel_rfl
theorem ty21:tyOf Pg 21=some {kd:=.int .i32,size:=1,bytes:=4,zero:=some [.lit (.int .i32 0)]}:=by kernel_rfl
theorem ty22:tyOf Pg 22=some {kd:=.sl 9,size:=1,bytes:=24,zero:=some [.vec [] true]}:=by kernel_rfl
theorem ty23:tyOf Pg 23=some {kd:=.sl 85,size:=1,bytes:=24,zero:=some [.vec [] true]}:=by kernel_rfl
theorem ty24:tyOf Pg 24=some {kd:=.sl 83,size:=1,bytes:=24,zero:=some [.vec [] true]}:=by kernel_rfl
theorem ty25:tyOf Pg 25=some {kd:=.st [(0,22),(1,22),(2,22),(3,23),(4,24)],size:=5,bytes:=120,zero:=some [.vec [] true,.vec [] true,.vec [] true,.vec [] true,.vec [] true]}:=by kernel_rfl
theorem ty26:tyOf Pg 26=some {kd:=.st [(0,22),(1,22),(2,22),(3,23),(4,24)],size:=5,bytes:=120,zero:=some [.vec [] true,.vec [] true,.vec [] true,.vec [] true,.vec [] true]}:=by kernel_rfl
theorem ty27:tyOf Pg 27=some {kd:=.sl 56,size:=1,bytes:=24,zero:=some [.vec [] true]}:=by kernel_rfl
theorem ty28:tyOf Pg 28=some {kd:=.sl 40,size:=1,bytes:=24,zero:=some [.vec [] true]}:=by kernel_rfl
theorem ty29:tyOf Pg 29=some {kd:=.oth,size:=1,bytes:=8,zero:=some [.lit .nilFunc]}:=by kernel_rfl
theorem fn29:isFn Pg 29=true:=by kernel_rfl
theorem ty30:tyOf Pg 30=some {kd:=.oth,size:=1,bytes:=8,zero:=some [.lit .nilFunc]}:=by kernel_rfl
theorem fn30:isFn Pg 30=true:=by kernel_rfl
theorem ty31:tyOf Pg 31=some {kd:=.oth,size:=1,bytes:=8,zero:=some [.lit (.pointer none)]}:=by kernel_rfl
theorem pt31:isPtr Pg 31=true:=by kernel_rfl
theorem ty32:tyOf Pg 32=some {kd:=.int .i64,size:=1,bytes:=8,zero:=some [.lit (.int .i64 0)]}:=by kernel_rfl
theorem ty34:tyOf Pg 34=some {kd:=.oth,size:=1,bytes:=8,zero:=some [.lit .nilFunc]}:=by kernel_rfl
theorem fn34:isFn Pg 34=true:=by kernel_rfl
theorem ty35:tyOf Pg 35=some {kd:=.oth,size:=1,bytes:=8,zero:=some [.lit (.pointer none)]}:=by kernel_rfl
theorem pt35:isPtr Pg 35=true:=by kernel_rfl
theorem ty37:tyOf Pg 37=some {kd:=.oth,size:=1,bytes:=8,zero:=some [.lit .nilFunc]}:=by kernel_rfl
theorem fn37:isFn Pg 37=true:=by kernel_rfl
theorem ty38:tyOf Pg 38=some {kd:=.sl 70,size:=1,bytes:=24,zero:=some [.vec [] true]}:=by kernel_rfl
theorem ty39:tyOf Pg 39=some {kd:=.st [(0,3),(1,3),(2,3),(3,3),(4,38),(5,3),(6,3)],size:=7,bytes:=72,zero:=some [.lit (.int .i64 0),.lit (.int .i64 0),.lit (.int .i64 0),.lit (.int .i64 0),.vec [] true,.lit (.int .i64 0),.lit (.int .i64 0)]}:=by kernel_rfl
theorem ty40:tyOf Pg 40=some {kd:=.st [(0,3),(1,3),(2,3),(3,3),(4,38),(5,3),(6,3)],size:=7,bytes:=72,zero:=some [.lit (.int .i64 0),.lit (.int .i64 0),.lit (.int .i64 0),.lit (.int .i64 0),.vec [] true,.lit (.int .i64 0),.lit (.int .i64 0)]}:=by kernel_rfl
theorem ty41:tyOf Pg 41=some {kd:=.sl 3,size:=1,bytes:=24,zero:=some [.vec [] true]}:=by kernel_rfl
theorem ty43:tyOf Pg 43=some {kd:=.oth,size:=1,bytes:=8,zero:=some [.lit .nilFunc]}:=by kernel_rfl
theorem fn43:isFn Pg 43=true:=by kernel_rfl
theorem ty44:tyOf Pg 44=some {kd:=.oth,size:=1,bytes:=8,zero:=some [.lit .nilFunc]}:=by kernel_rfl
theorem fn44:isFn Pg 44=true:=by kernel_rfl
theorem ty46:tyOf Pg 46=some {kd:=.oth,size:=1,bytes:=8,zero:=some [.lit .nilFunc]}:=by kernel_rfl
theorem fn46:isFn Pg 46=true:=by kernel_rfl
theorem ty47:tyOf Pg 47=some {kd:=.oth,size:=1,bytes:=8,zero:=some [.lit .nilFunc]}:=by kernel_rfl
theorem fn47:isFn Pg 47=true:=by kernel_rfl
theorem ty48:tyOf Pg 48=some {kd:=.oth,size:=1,bytes:=8,zero:=some [.lit .nilFunc]}:=by kernel_rfl
theorem fn48:isFn Pg 48=true:=by kernel_rfl
theorem ty49:tyOf Pg 49=some {kd:=.oth,size:=1,bytes:=8,zero:=some [.lit .nilFunc]}:=by kernel_rfl
theorem fn49:isFn Pg 49=true:=by kernel_rfl
theorem ty50:tyOf Pg 50=some {kd:=.oth,size:=1,bytes:=8,zero:=some [.lit .nilFunc]}:=by kernel_rfl
theorem fn50:isFn Pg 50=true:=by kernel_rfl
theorem ty51:tyOf Pg 51=some {kd:=.oth,size:=1,bytes:=8,zero:=some [.lit .nilFunc]}:=by kernel_rfl
theorem fn51:isFn Pg 51=true:=by kernel_rfl
theorem ty52:tyOf Pg 52=some {kd:=.oth,size:=1,bytes:=8,zero:=some [.lit .nilFunc]}:=by kernel_rfl
theorem fn52:isFn Pg 52=true:=by kernel_rfl
theorem ty53:tyOf Pg 53=some {kd:=.oth,size:=1,bytes:=8,zero:=some [.lit .nilFunc]}:=by kernel_rfl
theorem fn53:isFn Pg 53=true:=by kernel_rfl
theorem ty54:tyOf Pg 54=some {kd:=.oth,size:=1,bytes:=8,zero:=some [.lit .nilFunc]}:=by kernel_rfl
theorem fn54:isFn Pg 54=true:=by kernel_rfl
theorem ty55:tyOf Pg 55=some {kd:=.st [(0,2),(1,2),(2,4)],size:=3,bytes:=24,zero:=some [.lit (.int .i64 0),.lit (.int .i64 0),.lit (.bool false)]}:=by kernel_rfl
theorem ty56:tyOf Pg 56=some {kd:=.st [(0,2),(1,2),(2,4)],size:=3,bytes:=24,zero:=some [.lit (.int .i64 0),.lit (.int .i64 0),.lit (.bool false)]}:=by kernel_rfl
theorem nmOk56:namesOk Pg 56=true:=by kernel_rfl
theorem kyOk56:keyTyOk Pg 56 [(0,2),(1,2),(2,4)]=true:=by kernel_rfl
theorem ty57:tyOf Pg 57=some {kd:=.map 75 72,size:=1,bytes:=8,zero:=some [.lit (.map none)]}:=by kernel_rfl
theorem ty58:tyOf Pg 58=some {kd:=.map 75 4,size:=1,bytes:=8,zero:=some [.lit (.map none)]}:=by kernel_rfl
theorem ty59:tyOf Pg 59=some {kd:=.st [(0,26),(5,27),(6,38),(7,57),(8,58)],size:=9,bytes:=184,zero:=some [.vec [] true,.vec [] true,.vec [] true,.vec [] true,.vec [] true,.vec [] true,.vec [] true,.lit (.map none),.lit (.map none)]}:=by kernel_rfl
theorem ty60:tyOf Pg 60=some {kd:=.st [(0,26),(5,27),(6,38),(7,57),(8,58)],size:=9,bytes:=184,zero:=some [.vec [] true,.vec [] true,.vec [] true,.vec [] true,.vec [] true,.vec [] true,.vec [] true,.lit (.map none),.lit (.map none)]}:=by kernel_rfl
theorem ty61:tyOf Pg 61=some {kd:=.sl 111,size:=1,bytes:=24,zero:=some [.vec [] true]}:=by kernel_rfl
theorem ty62:tyOf Pg 62=some {kd:=.sl 41,size:=1,bytes:=24,zero:=some [.vec [] true]}:=by kernel_rfl
theorem ty63:tyOf Pg 63=some {kd:=.sl 4,size:=1,bytes:=24,zero:=some [.vec [] true]}:=by kernel_rfl
theorem ty64:tyOf Pg 64=some {kd:=.st [(0,26),(5,27),(6,38),(7,61),(8,62),(9,61),(10,63)],size:=11,bytes:=264,zero:=some [.vec [] true,.vec [] true,.vec [] true,.vec [] true,.vec [] true,.vec [] true,.vec [] true,.vec [] true,.vec [] true,.vec [] true,.vec [] true]}:=by kernel_rfl
theorem ty65:tyOf Pg 65=some {kd:=.st [(0,26),(5,27),(6,38),(7,61),(8,62),(9,61),(10,63)],size:=11,bytes:=264,zero:=some [.vec [] true,.vec [] true,.vec [] true,.vec [] true,.vec [] true,.vec [] true,.vec [] true,.vec [] true,.vec [] true,.vec [] true,.vec [] true]}:=by kernel_rfl
theorem ty66:tyOf Pg 66=some {kd:=.oth,size:=1,bytes:=8,zero:=some [.lit .nilFunc]}:=by kernel_rfl
theorem fn66:isFn Pg 66=true:=by kernel_rfl
theorem ty67:tyOf Pg 67=some {kd:=.oth,size:=1,bytes:=8,zero:=some [.lit .nilFunc]}:=by kernel_rfl
theorem fn67:isFn Pg 67=true:=by kernel_rfl
theorem ty68:tyOf Pg 68=some {kd:=.oth,size:=1,bytes:=8,zero:=some [.lit .nilFunc]}:=by kernel_rfl
theorem fn68:isFn Pg 68=true:=by kernel_rfl
theorem ty69:tyOf Pg 69=some {kd:=.st [(0,3),(1,3),(2,3),(3,4),(4,3)],size:=5,bytes:=40,zero:=some [.lit (.int .i64 0),.lit (.int .i64 0),.lit (.int .i64 0),.lit (.bool false),.lit (.int .i64 0)]}:=by kernel_rfl
theorem ty70:tyOf Pg 70=some {kd:=.st [(0,3),(1,3),(2,3),(3,4),(4,3)],size:=5,bytes:=40,zero:=some [.lit (.int .i64 0),.lit (.int .i64 0),.lit (.int .i64 0),.lit (.bool false),.lit (.int .i64 0)]}:=by kernel_rfl
theorem nmOk70:namesOk Pg 70=true:=by kernel_rfl
theorem kyOk70:keyTyOk Pg 70 [(0,3),(1,3),(2,3),(3,4),(4,3)]=true:=by kernel_rfl
theorem ty71:tyOf Pg 71=some {kd:=.sl 145,size:=1,bytes:=24,zero:=some [.vec [] true]}:=by kernel_rfl
theorem ty72:tyOf Pg 72=some {kd:=.sl 145,size:=1,bytes:=24,zero:=some [.vec [] true]}:=by kernel_rfl
theorem zr72:zeroAV Pg 72=some (.vec [] true):=by kernel_rfl
theorem ty73:tyOf Pg 73=some {kd:=.oth,size:=1,bytes:=8,zero:=some [.lit .nilFunc]}:=by kernel_rfl
theorem fn73:isFn Pg 73=true:=by kernel_rfl
theorem ty74:tyOf Pg 74=some {kd:=.st [(0,3),(1,3),(2,3)],size:=3,bytes:=24,zero:=some [.lit (.int .i64 0),.lit (.int .i64 0),.lit (.int .i64 0)]}:=by kernel_rfl
theorem ty75:tyOf Pg 75=some {kd:=.st [(0,3),(1,3),(2,3)],size:=3,bytes:=24,zero:=some [.lit (.int .i64 0),.lit (.int .i64 0),.lit (.int .i64 0)]}:=by kernel_rfl
theorem nmOk75:namesOk Pg 75=true:=by kernel_rfl
theorem kyOk75:keyTyOk Pg 75 [(0,3),(1,3),(2,3)]=true:=by kernel_rfl
theorem ty76:tyOf Pg 76=some {kd:=.oth,size:=1,bytes:=8,zero:=some [.lit .nilFunc]}:=by kernel_rfl
theorem fn76:isFn Pg 76=true:=by kernel_rfl
theorem ty77:tyOf Pg 77=some {kd:=.oth,size:=1,bytes:=8,zero:=some [.lit .nilFunc]}:=by kernel_rfl
theorem fn77:isFn Pg 77=true:=by kernel_rfl
theorem ty78:tyOf Pg 78=some {kd:=.oth,size:=1,bytes:=8,zero:=some [.lit .nilFunc]}:=by kernel_rfl
theorem fn78:isFn Pg 78=true:=by kernel_rfl
theorem ty79:tyOf Pg 79=some {kd:=.oth,size:=1,bytes:=8,zero:=some [.lit .nilFunc]}:=by kernel_rfl
theorem fn79:isFn Pg 79=true:=by kernel_rfl
theorem ty80:tyOf Pg 80=some {kd:=.oth,size:=1,bytes:=8,zero:=some [.lit .nilFunc]}:=by kernel_rfl
theorem fn80:isFn Pg 80=true:=by kernel_rfl
theorem ty81:tyOf Pg 81=some {kd:=.sl 94,size:=1,bytes:=24,zero:=some [.vec [] true]}:=by kernel_rfl
theorem ty82:tyOf Pg 82=some {kd:=.st [(0,3),(1,81)],size:=2,bytes:=32,zero:=some [.lit (.int .i64 0),.vec [] true]}:=by kernel_rfl
theorem ty83:tyOf Pg 83=some {kd:=.st [(0,3),(1,81)],size:=2,bytes:=32,zero:=some [.lit (.int .i64 0),.vec [] true]}:=by kernel_rfl
theorem ty84:tyOf Pg 84=some {kd:=.st [(0,9),(1,4),(2,4),(3,4),(4,4),(5,3),(6,3),(7,3),(8,3)],size:=9,bytes:=56,zero:=some [.lit (.string ⟨#[]⟩),.lit (.bool false),.lit (.bool false),.lit (.bool false),.lit (.bool false),.lit (.int .i64 0),.lit (.int .i64 0),.lit (.int .i64 0),.lit (.int .i64 0)]}:=by kernel_rfl
theorem ty85:tyOf Pg 85=some {kd:=.st [(0,9),(1,4),(2,4),(3,4),(4,4),(5,3),(6,3),(7,3),(8,3)],size:=9,bytes:=56,zero:=some [.lit (.string ⟨#[]⟩),.lit (.bool false),.lit (.bool false),.lit (.bool false),.lit (.bool false),.lit (.int .i64 0),.lit (.int .i64 0),.lit (.int .i64 0),.lit (.int .i64 0)]}:=by kernel_rfl
theorem nmOk85:namesOk Pg 85=true:=by kernel_rfl
theorem kyOk85:keyTyOk Pg 85 [(0,9),(1,4),(2,4),(3,4),(4,4),(5,3),(6,3),(7,3),(8,3)]=true:=by kernel_rfl
theorem ty86:tyOf Pg 86=some {kd:=.int .i8,size:=1,bytes:=1,zero:=some [.lit (.int .i8 0)]}:=by kernel_rfl
theorem ty87:tyOf Pg 87=some {kd:=.sl 119,size:=1,bytes:=24,zero:=some [.vec [] true]}:=by kernel_rfl
theorem ty88:tyOf Pg 88=some {kd:=.sl 119,size:=1,bytes:=24,zero:=some [.vec [] true]}:=by kernel_rfl
theorem ty89:tyOf Pg 89=some {kd:=.sl 91,size:=1,bytes:=24,zero:=some [.vec [] true]}:=by kernel_rfl
theorem ty90:tyOf Pg 90=some {kd:=.st [(0,86),(1,2),(2,9),(3,89)],size:=4,bytes:=56,zero:=some [.lit (.int .i8 0),.lit (.int .i64 0),.lit (.string ⟨#[]⟩),.vec [] true]}:=by kernel_rfl
theorem ty91:tyOf Pg 91=some {kd:=.st [(0,86),(1,2),(2,9),(3,89)],size:=4,bytes:=56,zero:=some [.lit (.int .i8 0),.lit (.int .i64 0),.lit (.string ⟨#[]⟩),.vec [] true]}:=by kernel_rfl
theorem ty92:tyOf Pg 92=some {kd:=.sl 158,size:=1,bytes:=24,zero:=some [.vec [] true]}:=by kernel_rfl
theorem ty93:tyOf Pg 93=some {kd:=.st [(0,86),(1,88),(2,3),(3,3),(4,91),(8,92),(9,3)],size:=10,bytes:=136,zero:=some [.lit (.int .i8 0),.vec [] true,.lit (.int .i64 0),.lit (.int .i64 0),.lit (.int .i8 0),.lit (.int .i64 0),.lit (.string ⟨#[]⟩),.vec [] true,.vec [] true,.lit (.int .i64 0)]}:=by kernel_rfl
theorem ty94:tyOf Pg 94=some {kd:=.st [(0,86),(1,88),(2,3),(3,3),(4,91),(8,92),(9,3)],size:=10,bytes:=136,zero:=some [.lit (.int .i8 0),.vec [] true,.lit (.int .i64 0),.lit (.int .i64 0),.lit (.int .i8 0),.lit (.int .i64 0),.lit (.string ⟨#[]⟩),.vec [] true,.vec [] true,.lit (.int .i64 0)]}:=by kernel_rfl
theorem ty95:tyOf Pg 95=some {kd:=.oth,size:=1,bytes:=8,zero:=some [.lit .nilFunc]}:=by kernel_rfl
theorem fn95:isFn Pg 95=true:=by kernel_rfl
theorem ty96:tyOf Pg 96=some {kd:=.oth,size:=1,bytes:=8,zero:=some [.lit .nilFunc]}:=by kernel_rfl
theorem fn96:isFn Pg 96=true:=by kernel_rfl
theorem ty97:tyOf Pg 97=some {kd:=.oth,size:=1,bytes:=8,zero:=some [.lit (.pointer none)]}:=by kernel_rfl
theorem pt97:isPtr Pg 97=true:=by kernel_rfl
theorem ty98:tyOf Pg 98=some {kd:=.oth,size:=1,bytes:=8,zero:=some [.lit .nilFunc]}:=by kernel_rfl
theorem fn98:isFn Pg 98=true:=by kernel_rfl
theorem ty99:tyOf Pg 99=some {kd:=.sl 41,size:=1,bytes:=24,zero:=some [.vec [] true]}:=by kernel_rfl
theorem ty100:tyOf Pg 100=some {kd:=.oth,size:=1,bytes:=8,zero:=some [.lit .nilFunc]}:=by kernel_rfl
theorem fn100:isFn Pg 100=true:=by kernel_rfl
theorem ty101:tyOf Pg 101=some {kd:=.oth,size:=1,bytes:=8,zero:=some [.lit .nilFunc]}:=by kernel_rfl
theorem fn101:isFn Pg 101=true:=by kernel_rfl
theorem ty102:tyOf Pg 102=some {kd:=.oth,size:=1,bytes:=8,zero:=some [.lit .nilFunc]}:=by kernel_rfl
theorem fn102:isFn Pg 102=true:=by kernel_rfl
theorem ty104:tyOf Pg 104=some {kd:=.int .u64,size:=1,bytes:=8,zero:=some [.lit (.int .u64 0)]}:=by kernel_rfl
theorem ty105:tyOf Pg 105=some {kd:=.oth,size:=1,bytes:=8,zero:=some [.lit .nilFunc]}:=by kernel_rfl
theorem fn105:isFn Pg 105=true:=by kernel_rfl
theorem ty106:tyOf Pg 106=some {kd:=.st [(0,3),(1,3)],size:=2,bytes:=16,zero:=some [.lit (.int .i64 0),.lit (.int .i64 0)]}:=by kernel_rfl
theorem ty107:tyOf Pg 107=some {kd:=.st [(0,3),(1,3)],size:=2,bytes:=16,zero:=some [.lit (.int .i64 0),.lit (.int .i64 0)]}:=by kernel_rfl
theorem nmOk107:namesOk Pg 107=true:=by kernel_rfl
theorem kyOk107:keyTyOk Pg 107 [(0,3),(1,3)]=true:=by kernel_rfl
theorem ty108:tyOf Pg 108=some {kd:=.oth,size:=1,bytes:=8,zero:=some [.lit .nilFunc]}:=by kernel_rfl
theorem fn108:isFn Pg 108=true:=by kernel_rfl
theorem ty109:tyOf Pg 109=some {kd:=.oth,size:=1,bytes:=8,zero:=some [.lit .nilFunc]}:=by kernel_rfl
theorem fn109:isFn Pg 109=true:=by kernel_rfl
theorem ty110:tyOf Pg 110=some {kd:=.oth,size:=1,bytes:=8,zero:=some [.lit .nilFunc]}:=by kernel_rfl
theorem fn110:isFn Pg 110=true:=by kernel_rfl
theorem ty111:tyOf Pg 111=some {kd:=.arr 3 3,size:=3,bytes:=24,zero:=some [.lit (.int .i64 0),.lit (.int .i64 0),.lit (.int .i64 0)]}:=by kernel_rfl
theorem ty112:tyOf Pg 112=some {kd:=.oth,size:=1,bytes:=8,zero:=some [.lit .nilFunc]}:=by kernel_rfl
theorem fn112:isFn Pg 112=true:=by kernel_rfl
theorem ty113:tyOf Pg 113=some {kd:=.oth,size:=1,bytes:=8,zero:=some [.lit .nilFunc]}:=by kernel_rfl
theorem fn113:isFn Pg 113=true:=by kernel_rfl
theorem ty114:tyOf Pg 114=some {kd:=.oth,size:=1,bytes:=8,zero:=some [.lit .nilFunc]}:=by kernel_rfl
theorem fn114:isFn Pg 114=true:=by kernel_rfl
theorem ty115:tyOf Pg 115=some {kd:=.oth,size:=1,bytes:=8,zero:=some [.lit .nilFunc]}:=by kernel_rfl
theorem fn115:isFn Pg 115=true:=by kernel_rfl
theorem ty116:tyOf Pg 116=some {kd:=.oth,size:=1,bytes:=8,zero:=some [.lit .nilFunc]}:=by kernel_rfl
theorem fn116:isFn Pg 116=true:=by kernel_rfl
theorem ty117:tyOf Pg 117=some {kd:=.oth,size:=1,bytes:=8,zero:=some [.lit .nilFunc]}:=by kernel_rfl
theorem fn117:isFn Pg 117=true:=by kernel_rfl
theorem ty118:tyOf Pg 118=some {kd:=.st [(0,21),(1,21)],size:=2,bytes:=8,zero:=some [.lit (.int .i32 0),.lit (.int .i32 0)]}:=by kernel_rfl
theorem ty119:tyOf Pg 119=some {kd:=.st [(0,21),(1,21)],size:=2,bytes:=8,zero:=some [.lit (.int .i32 0),.lit (.int .i32 0)]}:=by kernel_rfl
theorem nmOk119:namesOk Pg 119=true:=by kernel_rfl
theorem kyOk119:keyTyOk Pg 119 [(0,21),(1,21)]=true:=by kernel_rfl
theorem ty120:tyOf Pg 120=some {kd:=.oth,size:=1,bytes:=8,zero:=some [.lit .nilFunc]}:=by kernel_rfl
theorem fn120:isFn Pg 120=true:=by kernel_rfl
theorem ty121:tyOf Pg 121=some {kd:=.map 3 4,size:=1,bytes:=8,zero:=some [.lit (.map none)]}:=by kernel_rfl
theorem ty122:tyOf Pg 122=some {kd:=.oth,size:=1,bytes:=8,zero:=some [.lit .nilFunc]}:=by kernel_rfl
theorem fn122:isFn Pg 122=true:=by kernel_rfl
theorem ty123:tyOf Pg 123=some {kd:=.oth,size:=1,bytes:=8,zero:=some [.lit .nilFunc]}:=by kernel_rfl
theorem fn123:isFn Pg 123=true:=by kernel_rfl
theorem ty124:tyOf Pg 124=some {kd:=.arr 8 123,size:=8,bytes:=64,zero:=some [.lit .nilFunc,.lit .nilFunc,.lit .nilFunc,.lit .nilFunc,.lit .nilFunc,.lit .nilFunc,.lit .nilFunc,.lit .nilFunc]}:=by kernel_rfl
theorem ty125:tyOf Pg 125=some {kd:=.oth,size:=1,bytes:=8,zero:=some [.lit .nilFunc]}:=by kernel_rfl
theorem fn125:isFn Pg 125=true:=by kernel_rfl
theorem ty126:tyOf Pg 126=some {kd:=.oth,size:=1,bytes:=8,zero:=some [.lit (.pointer none)]}:=by kernel_rfl
theorem pt126:isPtr Pg 126=true:=by kernel_rfl
theorem ty127:tyOf Pg 127=some {kd:=.oth,size:=1,bytes:=8,zero:=some [.lit (.pointer none)]}:=by kernel_rfl
theorem pt127:isPtr Pg 127=true:=by kernel_rfl
theorem ty128:tyOf Pg 128=some {kd:=.oth,size:=1,bytes:=8,zero:=some [.lit .nilFunc]}:=by kernel_rfl
theorem fn128:isFn Pg 128=true:=by kernel_rfl
theorem ty129:tyOf Pg 129=some {kd:=.st [(0,97),(1,126),(2,3),(3,127)],size:=4,bytes:=32,zero:=some [.lit (.pointer none),.lit (.pointer none),.lit (.int .i64 0),.lit (.pointer none)]}:=by kernel_rfl
theorem ty130:tyOf Pg 130=some {kd:=.st [(0,97),(1,126),(2,3),(3,127)],size:=4,bytes:=32,zero:=some [.lit (.pointer none),.lit (.pointer none),.lit (.int .i64 0),.lit (.pointer none)]}:=by kernel_rfl
theorem ty131:tyOf Pg 131=some {kd:=.oth,size:=1,bytes:=8,zero:=some [.lit .nilFunc]}:=by kernel_rfl
theorem fn131:isFn Pg 131=true:=by kernel_rfl
theorem ty132:tyOf Pg 132=some {kd:=.oth,size:=1,bytes:=8,zero:=some [.lit .nilFunc]}:=by kernel_rfl
theorem fn132:isFn Pg 132=true:=by kernel_rfl
theorem ty133:tyOf Pg 133=some {kd:=.st [(0,3),(1,3)],size:=2,bytes:=16,zero:=some [.lit (.int .i64 0),.lit (.int .i64 0)]}:=by kernel_rfl
theorem ty134:tyOf Pg 134=some {kd:=.st [(0,3),(1,3)],size:=2,bytes:=16,zero:=some [.lit (.int .i64 0),.lit (.int .i64 0)]}:=by kernel_rfl
theorem nmOk134:namesOk Pg 134=true:=by kernel_rfl
theorem kyOk134:keyTyOk Pg 134 [(0,3),(1,3)]=true:=by kernel_rfl
theorem ty135:tyOf Pg 135=some {kd:=.sl 134,size:=1,bytes:=24,zero:=some [.vec [] true]}:=by kernel_rfl
theorem ty136:tyOf Pg 136=some {kd:=.oth,size:=1,bytes:=8,zero:=some [.lit (.pointer none)]}:=by kernel_rfl
theorem pt136:isPtr Pg 136=true:=by kernel_rfl
theorem ty137:tyOf Pg 137=some {kd:=.oth,size:=1,bytes:=8,zero:=some [.lit .nilFunc]}:=by kernel_rfl
theorem fn137:isFn Pg 137=true:=by kernel_rfl
theorem ty138:tyOf Pg 138=some {kd:=.oth,size:=1,bytes:=8,zero:=some [.lit .nilFunc]}:=by kernel_rfl
theorem fn138:isFn Pg 138=true:=by kernel_rfl
theorem ty139:tyOf Pg 139=some {kd:=.oth,size:=1,bytes:=8,zero:=some [.lit .nilFunc]}:=by kernel_rfl
theorem fn139:isFn Pg 139=true:=by kernel_rfl
theorem ty140:tyOf Pg 140=some {kd:=.map 107 4,size:=1,bytes:=8,zero:=some [.lit (.map none)]}:=by kernel_rfl
theorem ty141:tyOf Pg 141=some {kd:=.sl 107,size:=1,bytes:=24,zero:=some [.vec [] true]}:=by kernel_rfl
theorem ty142:tyOf Pg 142=some {kd:=.oth,size:=1,bytes:=8,zero:=some [.lit .nilFunc]}:=by kernel_rfl
theorem fn142:isFn Pg 142=true:=by kernel_rfl
theorem ty144:tyOf Pg 144=some {kd:=.oth,size:=1,bytes:=8,zero:=some [.lit .nilFunc]}:=by kernel_rfl
theorem fn144:isFn Pg 144=true:=by kernel_rfl
theorem ty145:tyOf Pg 145=some {kd:=.int .u64,size:=1,bytes:=8,zero:=some [.lit (.int .u64 0)]}:=by kernel_rfl
theorem ty146:tyOf Pg 146=some {kd:=.oth,size:=1,bytes:=8,zero:=some [.lit .nilFunc]}:=by kernel_rfl
theorem fn146:isFn Pg 146=true:=by kernel_rfl
theorem ty147:tyOf Pg 147=some {kd:=.oth,size:=1,bytes:=8,zero:=some [.lit .nilFunc]}:=by kernel_rfl
theorem fn147:isFn Pg 147=true:=by kernel_rfl
theorem ty148:tyOf Pg 148=some {kd:=.oth,size:=1,bytes:=8,zero:=some [.lit .nilFunc]}:=by kernel_rfl
theorem fn148:isFn Pg 148=true:=by kernel_rfl
theorem ty149:tyOf Pg 149=some {kd:=.oth,size:=1,bytes:=8,zero:=some [.lit .nilFunc]}:=by kernel_rfl
theorem fn149:isFn Pg 149=true:=by kernel_rfl
theorem ty150:tyOf Pg 150=some {kd:=.oth,size:=1,bytes:=8,zero:=some [.lit .nilFunc]}:=by kernel_rfl
theorem fn150:isFn Pg 150=true:=by kernel_rfl
theorem ty152:tyOf Pg 152=some {kd:=.map 9 4,size:=1,bytes:=8,zero:=some [.lit (.map none)]}:=by kernel_rfl
theorem ty153:tyOf Pg 153=some {kd:=.oth,size:=1,bytes:=8,zero:=some [.lit .nilFunc]}:=by kernel_rfl
theorem fn153:isFn Pg 153=true:=by kernel_rfl
theorem ty154:tyOf Pg 154=some {kd:=.oth,size:=1,bytes:=8,zero:=some [.lit .nilFunc]}:=by kernel_rfl
theorem fn154:isFn Pg 154=true:=by kernel_rfl
theorem ty155:tyOf Pg 155=some {kd:=.oth,size:=1,bytes:=8,zero:=some [.lit (.pointer none)]}:=by kernel_rfl
theorem pt155:isPtr Pg 155=true:=by kernel_rfl
theorem ty156:tyOf Pg 156=some {kd:=.oth,size:=1,bytes:=8,zero:=some [.lit .nilFunc]}:=by kernel_rfl
theorem fn156:isFn Pg 156=true:=by kernel_rfl
theorem ty157:tyOf Pg 157=some {kd:=.st [(0,86),(1,3)],size:=2,bytes:=16,zero:=some [.lit (.int .i8 0),.lit (.int .i64 0)]}:=by kernel_rfl
theorem ty158:tyOf Pg 158=some {kd:=.st [(0,86),(1,3)],size:=2,bytes:=16,zero:=some [.lit (.int .i8 0),.lit (.int .i64 0)]}:=by kernel_rfl
theorem nmOk158:namesOk Pg 158=true:=by kernel_rfl
theorem kyOk158:keyTyOk Pg 158 [(0,86),(1,3)]=true:=by kernel_rfl
theorem ty159:tyOf Pg 159=some {kd:=.oth,size:=1,bytes:=8,zero:=some [.lit .nilFunc]}:=by kernel_rfl
theorem fn159:isFn Pg 159=true:=by kernel_rfl
theorem ty160:tyOf Pg 160=some {kd:=.oth,size:=1,bytes:=8,zero:=some [.lit .nilFunc]}:=by kernel_rfl
theorem fn160:isFn Pg 160=true:=by kernel_rfl
theorem ty161:tyOf Pg 161=some {kd:=.oth,size:=1,bytes:=8,zero:=some [.lit .nilFunc]}:=by kernel_rfl
theorem fn161:isFn Pg 161=true:=by kernel_rfl
theorem ty162:tyOf Pg 162=some {kd:=.oth,size:=1,bytes:=8,zero:=some [.lit .nilFunc]}:=by kernel_rfl
theorem fn162:isFn Pg 162=true:=by kernel_rfl
theorem ty163:tyOf Pg 163=some {kd:=.oth,size:=1,bytes:=8,zero:=some [.lit .nilFunc]}:=by kernel_rfl
theorem fn163:isFn Pg 163=true:=by kernel_rfl
theorem ty164:tyOf Pg 164=some {kd:=.oth,size:=1,bytes:=8,zero:=some [.lit .nilFunc]}:=by kernel_rfl
theorem fn164:isFn Pg 164=true:=by kernel_rfl
theorem ty165:tyOf Pg 165=some {kd:=.oth,size:=1,bytes:=8,zero:=some [.lit .nilFunc]}:=by kernel_rfl
theorem fn165:isFn Pg 165=true:=by kernel_rfl
theorem ty166:tyOf Pg 166=some {kd:=.oth,size:=1,bytes:=8,zero:=some [.lit .nilFunc]}:=by kernel_rfl
theorem fn166:isFn Pg 166=true:=by kernel_rfl
theorem ty167:tyOf Pg 167=some {kd:=.st [(0,2),(1,2),(2,2),(3,2)],size:=4,bytes:=32,zero:=some [.lit (.int .i64 0),.lit (.int .i64 0),.lit (.int .i64 0),.lit (.int .i64 0)]}:=by kernel_rfl
theorem ty168:tyOf Pg 168=some {kd:=.st [(0,2),(1,2),(2,2),(3,2)],size:=4,bytes:=32,zero:=some [.lit (.int .i64 0),.lit (.int .i64 0),.lit (.int .i64 0),.lit (.int .i64 0)]}:=by kernel_rfl
theorem nmOk168:namesOk Pg 168=true:=by kernel_rfl
theorem kyOk168:keyTyOk Pg 168 [(0,2),(1,2),(2,2),(3,2)]=true:=by kernel_rfl
theorem ty169:tyOf Pg 169=some {kd:=.oth,size:=1,bytes:=8,zero:=some [.lit .nilFunc]}:=by kernel_rfl
theorem fn169:isFn Pg 169=true:=by kernel_rfl
theorem ty170:tyOf Pg 170=some {kd:=.oth,size:=1,bytes:=8,zero:=some [.lit .nilFunc]}:=by kernel_rfl
theorem fn170:isFn Pg 170=true:=by kernel_rfl
theorem ty171:tyOf Pg 171=some {kd:=.oth,size:=1,bytes:=8,zero:=some [.lit .nilFunc]}:=by kernel_rfl
theorem fn171:isFn Pg 171=true:=by kernel_rfl
theorem ty172:tyOf Pg 172=some {kd:=.oth,size:=1,bytes:=8,zero:=some [.lit .nilFunc]}:=by kernel_rfl
theorem fn172:isFn Pg 172=true:=by kernel_rfl
theorem ty173:tyOf Pg 173=some {kd:=.oth,size:=1,bytes:=8,zero:=some [.lit .nilFunc]}:=by kernel_rfl
theorem fn173:isFn Pg 173=true:=by kernel_rfl
theorem ty174:tyOf Pg 174=some {kd:=.oth,size:=1,bytes:=8,zero:=some [.lit .nilFunc]}:=by kernel_rfl
theorem fn174:isFn Pg 174=true:=by kernel_rfl
theorem ty175:tyOf Pg 175=some {kd:=.oth,size:=1,bytes:=8,zero:=some [.lit .nilFunc]}:=by kernel_rfl
theorem fn175:isFn Pg 175=true:=by kernel_rfl
theorem ty176:tyOf Pg 176=some {kd:=.oth,size:=1,bytes:=8,zero:=some [.lit .nilFunc]}:=by kernel_rfl
theorem fn176:isFn Pg 176=true:=by kernel_rfl
theorem ty177:tyOf Pg 177=some {kd:=.oth,size:=1,bytes:=8,zero:=some [.lit .nilFunc]}:=by kernel_rfl
theorem fn177:isFn Pg 177=true:=by kernel_rfl
theorem ty178:tyOf Pg 178=some {kd:=.oth,size:=1,bytes:=8,zero:=some [.lit .nilFunc]}:=by kernel_rfl
theorem fn178:isFn Pg 178=true:=by kernel_rfl
theorem ty179:tyOf Pg 179=some {kd:=.oth,size:=1,bytes:=8,zero:=some [.lit .nilFunc]}:=by kernel_rfl
theorem fn179:isFn Pg 179=true:=by kernel_rfl
theorem ty180:tyOf Pg 180=some {kd:=.oth,size:=1,bytes:=8,zero:=some [.lit .nilFunc]}:=by kernel_rfl
theorem fn180:isFn Pg 180=true:=by kernel_rfl
theorem ty181:tyOf Pg 181=some {kd:=.oth,size:=1,bytes:=8,zero:=some [.lit .nilFunc]}:=by kernel_rfl
theorem fn181:isFn Pg 181=true:=by kernel_rfl
theorem ty182:tyOf Pg 182=some {kd:=.oth,size:=1,bytes:=8,zero:=some [.lit .nilFunc]}:=by kernel_rfl
theorem fn182:isFn Pg 182=true:=by kernel_rfl
theorem ty184:tyOf Pg 184=some {kd:=.oth,size:=1,bytes:=8,zero:=some [.lit .nilFunc]}:=by kernel_rfl
theorem fn184:isFn Pg 184=true:=by kernel_rfl
theorem ty185:tyOf Pg 185=some {kd:=.arr 8 176,size:=8,bytes:=64,zero:=some [.lit .nilFunc,.lit .nilFunc,.lit .nilFunc,.lit .nilFunc,.lit .nilFunc,.lit .nilFunc,.lit .nilFunc,.lit .nilFunc]}:=by kernel_rfl
theorem ty186:tyOf Pg 186=some {kd:=.oth,size:=1,bytes:=8,zero:=some [.lit .nilFunc]}:=by kernel_rfl
theorem fn186:isFn Pg 186=true:=by kernel_rfl
theorem ty187:tyOf Pg 187=some {kd:=.arr 15 2,size:=15,bytes:=120,zero:=some [.lit (.int .i64 0),.lit (.int .i64 0),.lit (.int .i64 0),.lit (.int .i64 0),.lit (.int .i64 0),.lit (.int .i64 0),.lit (.int .i64 0),.lit (.int .i64 0),.lit (.int .i64 0),.lit (.int .i64 0),.lit (.int .i64 0),.lit (.int .i64 0),.lit (.int .i64 0),.lit (.int .i64 0),.lit (.int .i64 0)]}:=by kernel_rfl
theorem ty188:tyOf Pg 188=some {kd:=.oth,size:=1,bytes:=8,zero:=some [.lit .nilFunc]}:=by kernel_rfl
theorem fn188:isFn Pg 188=true:=by kernel_rfl
theorem ty189:tyOf Pg 189=some {kd:=.oth,size:=1,bytes:=8,zero:=some [.lit .nilFunc]}:=by kernel_rfl
theorem fn189:isFn Pg 189=true:=by kernel_rfl
theorem ty190:tyOf Pg 190=some {kd:=.oth,size:=1,bytes:=8,zero:=some [.lit .nilFunc]}:=by kernel_rfl
theorem fn190:isFn Pg 190=true:=by kernel_rfl
theorem ty191:tyOf Pg 191=some {kd:=.oth,size:=1,bytes:=8,zero:=some [.lit .nilFunc]}:=by kernel_rfl
theorem fn191:isFn Pg 191=true:=by kernel_rfl
theorem ty192:tyOf Pg 192=some {kd:=.oth,size:=1,bytes:=8,zero:=some [.lit .nilFunc]}:=by kernel_rfl
theorem fn192:isFn Pg 192=true:=by kernel_rfl
theorem ty193:tyOf Pg 193=some {kd:=.oth,size:=1,bytes:=8,zero:=some [.lit .nilFunc]}:=by kernel_rfl
theorem fn193:isFn Pg 193=true:=by kernel_rfl
theorem ty194:tyOf Pg 194=some {kd:=.arr 15 9,size:=15,bytes:=240,zero:=some [.lit (.string ⟨#[]⟩),.lit (.string ⟨#[]⟩),.lit (.string ⟨#[]⟩),.lit (.string ⟨#[]⟩),.lit (.string ⟨#[]⟩),.lit (.string ⟨#[]⟩),.lit (.string ⟨#[]⟩),.lit (.string ⟨#[]⟩),.lit (.string ⟨#[]⟩),.lit (.string ⟨#[]⟩),.lit (.string ⟨#[]⟩),.lit (.string ⟨#[]⟩),.lit (.string ⟨#[]⟩),.lit (.string ⟨#[]⟩),.lit (.string ⟨#[]⟩)]}:=by kernel_rfl
theorem ty195:tyOf Pg 195=some {kd:=.oth,size:=1,bytes:=8,zero:=some [.lit .nilFunc]}:=by kernel_rfl
theorem fn195:isFn Pg 195=true:=by kernel_rfl
theorem ty196:tyOf Pg 196=some {kd:=.oth,size:=1,bytes:=8,zero:=some [.lit .nilFunc]}:=by kernel_rfl
theorem fn196:isFn Pg 196=true:=by kernel_rfl
theorem ty197:tyOf Pg 197=some {kd:=.st [(0,17),(1,17),(2,17),(3,9)],size:=4,bytes:=40,zero:=some [.lit (.pointer none),.lit (.pointer none),.lit (.pointer none),.lit (.string ⟨#[]⟩)]}:=by kernel_rfl
theorem ty198:tyOf Pg 198=some {kd:=.st [(0,17),(1,17),(2,17),(3,9)],size:=4,bytes:=40,zero:=some [.lit (.pointer none),.lit (.pointer none),.lit (.pointer none),.lit (.string ⟨#[]⟩)]}:=by kernel_rfl
theorem ty199:tyOf Pg 199=some {kd:=.arr 0 16,size:=0,bytes:=0,zero:=some []}:=by kernel_rfl
theorem ty200:tyOf Pg 200=some {kd:=.st [(0,199)],size:=0,bytes:=0,zero:=some []}:=by kernel_rfl
theorem ty201:tyOf Pg 201=some {kd:=.st [(0,199)],size:=0,bytes:=0,zero:=some []}:=by kernel_rfl
theorem ty202:tyOf Pg 202=some {kd:=.oth,size:=1,bytes:=8,zero:=some [.lit .nilFunc]}:=by kernel_rfl
theorem fn202:isFn Pg 202=true:=by kernel_rfl
theorem ty203:tyOf Pg 203=some {kd:=.int .u32,size:=1,bytes:=4,zero:=some [.lit (.int .u32 0)]}:=by kernel_rfl
theorem ty204:tyOf Pg 204=some {kd:=.int .u8,size:=1,bytes:=1,zero:=some [.lit (.int .u8 0)]}:=by kernel_rfl
theorem ty205:tyOf Pg 205=some {kd:=.int .u8,size:=1,bytes:=1,zero:=some [.lit (.int .u8 0)]}:=by kernel_rfl
theorem ty206:tyOf Pg 206=some {kd:=.oth,size:=1,bytes:=8,zero:=some [.lit .nilFunc]}:=by kernel_rfl
theorem fn206:isFn Pg 206=true:=by kernel_rfl
theorem ty207:tyOf Pg 207=some {kd:=.oth,size:=1,bytes:=8,zero:=some [.lit (.pointer none)]}:=by kernel_rfl
theorem pt207:isPtr Pg 207=true:=by kernel_rfl
theorem ty208:tyOf Pg 208=some {kd:=.int .i32,size:=1,bytes:=4,zero:=some [.lit (.int .i32 0)]}:=by kernel_rfl
theorem ty209:tyOf Pg 209=some {kd:=.int .i32,size:=1,bytes:=4,zero:=some [.lit (.int .i32 0)]}:=by kernel_rfl
theorem ty210:tyOf Pg 210=some {kd:=.st [(0,12),(1,12),(2,203),(3,204),(4,5),(5,5),(6,205),(7,206),(8,207),(9,208),(10,209)],size:=11,bytes:=48,zero:=some [.lit (.int .u64 0),.lit (.int .u64 0),.lit (.int .u32 0),.lit (.int .u8 0),.lit (.int .u8 0),.lit (.int .u8 0),.lit (.int .u8 0),.lit .nilFunc,.lit (.pointer none),.lit (.int .i32 0),.lit (.int .i32 0)]}:=by kernel_rfl
theorem ty211:tyOf Pg 211=some {kd:=.st [(0,12),(1,12),(2,203),(3,204),(4,5),(5,5),(6,205),(7,206),(8,207),(9,208),(10,209)],size:=11,bytes:=48,zero:=some [.lit (.int .u64 0),.lit (.int .u64 0),.lit (.int .u32 0),.lit (.int .u8 0),.lit (.int .u8 0),.lit (.int .u8 0),.lit (.int .u8 0),.lit .nilFunc,.lit (.pointer none),.lit (.int .i32 0),.lit (.int .i32 0)]}:=by kernel_rfl
theorem tyW:(tyOf Pg 1=some {kd:=.oth,size:=1,bytes:=8,zero:=some [.lit .nilFunc]})∧(isFn Pg 1=true)∧(tyOf Pg 2=some {kd:=.int .i64,size:=1,bytes:=8,zero:=some [.lit (.int .i64 0)]})∧(tyOf Pg 3=some {kd:=.int .i64,size:=1,bytes:=8,zero:=some [.lit (.int .i64 0)]})∧(tyOf Pg 4=some {kd:=.bool,size:=1,bytes:=1,zero:=some [.lit (.bool false)]})∧(zeroAV Pg 4=some (.lit (.bool false)))∧(tyOf Pg 5=some {kd:=.int .u8,size:=1,bytes:=1,zero:=some [.lit (.int .u8 0)]})∧(tyOf Pg 6=some {kd:=.int .u8,size:=1,bytes:=1,zero:=some [.lit (.int .u8 0)]})∧(tyOf Pg 7=some {kd:=.st [(0,2),(1,3),(2,4),(3,6)],size:=4,bytes:=24,zero:=some [.lit (.int .i64 0),.lit (.int .i64 0),.lit (.bool false),.lit (.int .u8 0)]})∧(tyOf Pg 8=some {kd:=.st [(0,2),(1,3),(2,4),(3,6)],size:=4,bytes:=24,zero:=some [.lit (.int .i64 0),.lit (.int .i64 0),.lit (.bool false),.lit (.int .u8 0)]})∧(tyOf Pg 9=some {kd:=.str,size:=1,bytes:=16,zero:=some [.lit (.string ⟨#[]⟩)]})∧(tyOf Pg 10=some {kd:=.str,size:=1,bytes:=16,zero:=some [.lit (.string ⟨#[]⟩)]})∧(tyOf Pg 11=some {kd:=.str,size:=1,bytes:=16,zero:=some [.lit (.string ⟨#[]⟩)]})∧(tyOf Pg 12=some {kd:=.int .u64,size:=1,bytes:=8,zero:=some [.lit (.int .u64 0)]})∧(tyOf Pg 13=some {kd:=.st [(0,9),(1,12)],size:=2,bytes:=24,zero:=some [.lit (.string ⟨#[]⟩),.lit (.int .u64 0)]})∧(tyOf Pg 14=some {kd:=.st [(0,9),(1,12)],size:=2,bytes:=24,zero:=some [.lit (.string ⟨#[]⟩),.lit (.int .u64 0)]})∧(tyOf Pg 15=some {kd:=.oth,size:=1,bytes:=8,zero:=some [.lit (.pointer none)]})∧(isPtr Pg 15=true)∧(tyOf Pg 16=some {kd:=.oth,size:=1,bytes:=8,zero:=some [.lit (.pointer none)]})∧(isPtr Pg 16=true)∧(tyOf Pg 17=some {kd:=.oth,size:=1,bytes:=8,zero:=some [.lit (.pointer none)]})∧(isPtr Pg 17=true)∧(tyOf Pg 18=some {kd:=.st [(0,17)],size:=1,bytes:=8,zero:=some [.lit (.pointer none)]})∧(tyOf Pg 19=some {kd:=.st [(0,17)],size:=1,bytes:=8,zero:=some [.lit (.pointer none)]})∧(tyOf Pg 21=some {kd:=.int .i32,size:=1,bytes:=4,zero:=some [.lit (.int .i32 0)]})∧(tyOf Pg 22=some {kd:=.sl 9,size:=1,bytes:=24,zero:=some [.vec [] true]})∧(tyOf Pg 23=some {kd:=.sl 85,size:=1,bytes:=24,zero:=some [.vec [] true]})∧(tyOf Pg 24=some {kd:=.sl 83,size:=1,bytes:=24,zero:=some [.vec [] true]})∧(tyOf Pg 25=some {kd:=.st [(0,22),(1,22),(2,22),(3,23),(4,24)],size:=5,bytes:=120,zero:=some [.vec [] true,.vec [] true,.vec [] true,.vec [] true,.vec [] true]})∧(tyOf Pg 26=some {kd:=.st [(0,22),(1,22),(2,22),(3,23),(4,24)],size:=5,bytes:=120,zero:=some [.vec [] true,.vec [] true,.vec [] true,.vec [] true,.vec [] true]})∧(tyOf Pg 27=some {kd:=.sl 56,size:=1,bytes:=24,zero:=some [.vec [] true]})∧(tyOf Pg 28=some {kd:=.sl 40,size:=1,bytes:=24,zero:=some [.vec [] true]})∧(tyOf Pg 29=some {kd:=.oth,size:=1,bytes:=8,zero:=some [.lit .nilFunc]})∧(isFn Pg 29=true)∧(tyOf Pg 30=some {kd:=.oth,size:=1,bytes:=8,zero:=some [.lit .nilFunc]})∧(isFn Pg 30=true)∧(tyOf Pg 31=some {kd:=.oth,size:=1,bytes:=8,zero:=some [.lit (.pointer none)]})∧(isPtr Pg 31=true)∧(tyOf Pg 32=some {kd:=.int .i64,size:=1,bytes:=8,zero:=some [.lit (.int .i64 0)]})∧(tyOf Pg 34=some {kd:=.oth,size:=1,bytes:=8,zero:=some [.lit .nilFunc]})∧(isFn Pg 34=true)∧(tyOf Pg 35=some {kd:=.oth,size:=1,bytes:=8,zero:=some [.lit (.pointer none)]})∧(isPtr Pg 35=true)∧(tyOf Pg 37=some {kd:=.oth,size:=1,bytes:=8,zero:=some [.lit .nilFunc]})∧(isFn Pg 37=true)∧(tyOf Pg 38=some {kd:=.sl 70,size:=1,bytes:=24,zero:=some [.vec [] true]})∧(tyOf Pg 39=some {kd:=.st [(0,3),(1,3),(2,3),(3,3),(4,38),(5,3),(6,3)],size:=7,bytes:=72,zero:=some [.lit (.int .i64 0),.lit (.int .i64 0),.lit (.int .i64 0),.lit (.int .i64 0),.vec [] true,.lit (.int .i64 0),.lit (.int .i64 0)]})∧(tyOf Pg 40=some {kd:=.st [(0,3),(1,3),(2,3),(3,3),(4,38),(5,3),(6,3)],size:=7,bytes:=72,zero:=some [.lit (.int .i64 0),.lit (.int .i64 0),.lit (.int .i64 0),.lit (.int .i64 0),.vec [] true,.lit (.int .i64 0),.lit (.int .i64 0)]})∧(tyOf Pg 41=some {kd:=.sl 3,size:=1,bytes:=24,zero:=some [.vec [] true]})∧(tyOf Pg 43=some {kd:=.oth,size:=1,bytes:=8,zero:=some [.lit .nilFunc]})∧(isFn Pg 43=true)∧(tyOf Pg 44=some {kd:=.oth,size:=1,bytes:=8,zero:=some [.lit .nilFunc]})∧(isFn Pg 44=true)∧(tyOf Pg 46=some {kd:=.oth,size:=1,bytes:=8,zero:=some [.lit .nilFunc]})∧(isFn Pg 46=true)∧(tyOf Pg 47=some {kd:=.oth,size:=1,bytes:=8,zero:=some [.lit .nilFunc]})∧(isFn Pg 47=true)∧(tyOf Pg 48=some {kd:=.oth,size:=1,bytes:=8,zero:=some [.lit .nilFunc]})∧(isFn Pg 48=true)∧(tyOf Pg 49=some {kd:=.oth,size:=1,bytes:=8,zero:=some [.lit .nilFunc]})∧(isFn Pg 49=true)∧(tyOf Pg 50=some {kd:=.oth,size:=1,bytes:=8,zero:=some [.lit .nilFunc]})∧(isFn Pg 50=true)∧(tyOf Pg 51=some {kd:=.oth,size:=1,bytes:=8,zero:=some [.lit .nilFunc]})∧(isFn Pg 51=true)∧(tyOf Pg 52=some {kd:=.oth,size:=1,bytes:=8,zero:=some [.lit .nilFunc]})∧(isFn Pg 52=true)∧(tyOf Pg 53=some {kd:=.oth,size:=1,bytes:=8,zero:=some [.lit .nilFunc]})∧(isFn Pg 53=true)∧(tyOf Pg 54=some {kd:=.oth,size:=1,bytes:=8,zero:=some [.lit .nilFunc]})∧(isFn Pg 54=true)∧(tyOf Pg 55=some {kd:=.st [(0,2),(1,2),(2,4)],size:=3,bytes:=24,zero:=some [.lit (.int .i64 0),.lit (.int .i64 0),.lit (.bool false)]})∧(tyOf Pg 56=some {kd:=.st [(0,2),(1,2),(2,4)],size:=3,bytes:=24,zero:=some [.lit (.int .i64 0),.lit (.int .i64 0),.lit (.bool false)]})∧(namesOk Pg 56=true)∧(keyTyOk Pg 56 [(0,2),(1,2),(2,4)]=true)∧(tyOf Pg 57=some {kd:=.map 75 72,size:=1,bytes:=8,zero:=some [.lit (.map none)]})∧(tyOf Pg 58=some {kd:=.map 75 4,size:=1,bytes:=8,zero:=some [.lit (.map none)]})∧(tyOf Pg 59=some {kd:=.st [(0,26),(5,27),(6,38),(7,57),(8,58)],size:=9,bytes:=184,zero:=some [.vec [] true,.vec [] true,.vec [] true,.vec [] true,.vec [] true,.vec [] true,.vec [] true,.lit (.map none),.lit (.map none)]})∧(tyOf Pg 60=some {kd:=.st [(0,26),(5,27),(6,38),(7,57),(8,58)],size:=9,bytes:=184,zero:=some [.vec [] true,.vec [] true,.vec [] true,.vec [] true,.vec [] true,.vec [] true,.vec [] true,.lit (.map none),.lit (.map none)]})∧(tyOf Pg 61=some {kd:=.sl 111,size:=1,bytes:=24,zero:=some [.vec [] true]})∧(tyOf Pg 62=some {kd:=.sl 41,size:=1,bytes:=24,zero:=some [.vec [] true]})∧(tyOf Pg 63=some {kd:=.sl 4,size:=1,bytes:=24,zero:=some [.vec [] true]})∧(tyOf Pg 64=some {kd:=.st [(0,26),(5,27),(6,38),(7,61),(8,62),(9,61),(10,63)],size:=11,bytes:=264,zero:=some [.vec [] true,.vec [] true,.vec [] true,.vec [] true,.vec [] true,.vec [] true,.vec [] true,.vec [] true,.vec [] true,.vec [] true,.vec [] true]})∧(tyOf Pg 65=some {kd:=.st [(0,26),(5,27),(6,38),(7,61),(8,62),(9,61),(10,63)],size:=11,bytes:=264,zero:=some [.vec [] true,.vec [] true,.vec [] true,.vec [] true,.vec [] true,.vec [] true,.vec [] true,.vec [] true,.vec [] true,.vec [] true,.vec [] true]})∧(tyOf Pg 66=some {kd:=.oth,size:=1,bytes:=8,zero:=some [.lit .nilFunc]})∧(isFn Pg 66=true)∧(tyOf Pg 67=some {kd:=.oth,size:=1,bytes:=8,zero:=some [.lit .nilFunc]})∧(isFn Pg 67=true)∧(tyOf Pg 68=some {kd:=.oth,size:=1,bytes:=8,zero:=some [.lit .nilFunc]})∧(isFn Pg 68=true)∧(tyOf Pg 69=some {kd:=.st [(0,3),(1,3),(2,3),(3,4),(4,3)],size:=5,bytes:=40,zero:=some [.lit (.int .i64 0),.lit (.int .i64 0),.lit (.int .i64 0),.lit (.bool false),.lit (.int .i64 0)]})∧(tyOf Pg 70=some {kd:=.st [(0,3),(1,3),(2,3),(3,4),(4,3)],size:=5,bytes:=40,zero:=some [.lit (.int .i64 0),.lit (.int .i64 0),.lit (.int .i64 0),.lit (.bool false),.lit (.int .i64 0)]})∧(namesOk Pg 70=true)∧(keyTyOk Pg 70 [(0,3),(1,3),(2,3),(3,4),(4,3)]=true)∧(tyOf Pg 71=some {kd:=.sl 145,size:=1,bytes:=24,zero:=some [.vec [] true]})∧(tyOf Pg 72=some {kd:=.sl 145,size:=1,bytes:=24,zero:=some [.vec [] true]})∧(zeroAV Pg 72=some (.vec [] true))∧(tyOf Pg 73=some {kd:=.oth,size:=1,bytes:=8,zero:=some [.lit .nilFunc]})∧(isFn Pg 73=true)∧(tyOf Pg 74=some {kd:=.st [(0,3),(1,3),(2,3)],size:=3,bytes:=24,zero:=some [.lit (.int .i64 0),.lit (.int .i64 0),.lit (.int .i64 0)]})∧(tyOf Pg 75=some {kd:=.st [(0,3),(1,3),(2,3)],size:=3,bytes:=24,zero:=some [.lit (.int .i64 0),.lit (.int .i64 0),.lit (.int .i64 0)]})∧(namesOk Pg 75=true)∧(keyTyOk Pg 75 [(0,3),(1,3),(2,3)]=true)∧(tyOf Pg 76=some {kd:=.oth,size:=1,bytes:=8,zero:=some [.lit .nilFunc]})∧(isFn Pg 76=true)∧(tyOf Pg 77=some {kd:=.oth,size:=1,bytes:=8,zero:=some [.lit .nilFunc]})∧(isFn Pg 77=true)∧(tyOf Pg 78=some {kd:=.oth,size:=1,bytes:=8,zero:=some [.lit .nilFunc]})∧(isFn Pg 78=true)∧(tyOf Pg 79=some {kd:=.oth,size:=1,bytes:=8,zero:=some [.lit .nilFunc]})∧(isFn Pg 79=true)∧(tyOf Pg 80=some {kd:=.oth,size:=1,bytes:=8,zero:=some [.lit .nilFunc]})∧(isFn Pg 80=true)∧(tyOf Pg 81=some {kd:=.sl 94,size:=1,bytes:=24,zero:=some [.vec [] true]})∧(tyOf Pg 82=some {kd:=.st [(0,3),(1,81)],size:=2,bytes:=32,zero:=some [.lit (.int .i64 0),.vec [] true]})∧(tyOf Pg 83=some {kd:=.st [(0,3),(1,81)],size:=2,bytes:=32,zero:=some [.lit (.int .i64 0),.vec [] true]})∧(tyOf Pg 84=some {kd:=.st [(0,9),(1,4),(2,4),(3,4),(4,4),(5,3),(6,3),(7,3),(8,3)],size:=9,bytes:=56,zero:=some [.lit (.string ⟨#[]⟩),.lit (.bool false),.lit (.bool false),.lit (.bool false),.lit (.bool false),.lit (.int .i64 0),.lit (.int .i64 0),.lit (.int .i64 0),.lit (.int .i64 0)]})∧(tyOf Pg 85=some {kd:=.st [(0,9),(1,4),(2,4),(3,4),(4,4),(5,3),(6,3),(7,3),(8,3)],size:=9,bytes:=56,zero:=some [.lit (.string ⟨#[]⟩),.lit (.bool false),.lit (.bool false),.lit (.bool false),.lit (.bool false),.lit (.int .i64 0),.lit (.int .i64 0),.lit (.int .i64 0),.lit (.int .i64 0)]})∧(namesOk Pg 85=true)∧(keyTyOk Pg 85 [(0,9),(1,4),(2,4),(3,4),(4,4),(5,3),(6,3),(7,3),(8,3)]=true)∧(tyOf Pg 86=some {kd:=.int .i8,size:=1,bytes:=1,zero:=some [.lit (.int .i8 0)]})∧(tyOf Pg 87=some {kd:=.sl 119,size:=1,bytes:=24,zero:=some [.vec [] true]})∧(tyOf Pg 88=some {kd:=.sl 119,size:=1,bytes:=24,zero:=some [.vec [] true]})∧(tyOf Pg 89=some {kd:=.sl 91,size:=1,bytes:=24,zero:=some [.vec [] true]})∧(tyOf Pg 90=some {kd:=.st [(0,86),(1,2),(2,9),(3,89)],size:=4,bytes:=56,zero:=some [.lit (.int .i8 0),.lit (.int .i64 0),.lit (.string ⟨#[]⟩),.vec [] true]})∧(tyOf Pg 91=some {kd:=.st [(0,86),(1,2),(2,9),(3,89)],size:=4,bytes:=56,zero:=some [.lit (.int .i8 0),.lit (.int .i64 0),.lit (.string ⟨#[]⟩),.vec [] true]})∧(tyOf Pg 92=some {kd:=.sl 158,size:=1,bytes:=24,zero:=some [.vec [] true]})∧(tyOf Pg 93=some {kd:=.st [(0,86),(1,88),(2,3),(3,3),(4,91),(8,92),(9,3)],size:=10,bytes:=136,zero:=some [.lit (.int .i8 0),.vec [] true,.lit (.int .i64 0),.lit (.int .i64 0),.lit (.int .i8 0),.lit (.int .i64 0),.lit (.string ⟨#[]⟩),.vec [] true,.vec [] true,.lit (.int .i64 0)]})∧(tyOf Pg 94=some {kd:=.st [(0,86),(1,88),(2,3),(3,3),(4,91),(8,92),(9,3)],size:=10,bytes:=136,zero:=some [.lit (.int .i8 0),.vec [] true,.lit (.int .i64 0),.lit (.int .i64 0),.lit (.int .i8 0),.lit (.int .i64 0),.lit (.string ⟨#[]⟩),.vec [] true,.vec [] true,.lit (.int .i64 0)]})∧(tyOf Pg 95=some {kd:=.oth,size:=1,bytes:=8,zero:=some [.lit .nilFunc]})∧(isFn Pg 95=true)∧(tyOf Pg 96=some {kd:=.oth,size:=1,bytes:=8,zero:=some [.lit .nilFunc]})∧(isFn Pg 96=true)∧(tyOf Pg 97=some {kd:=.oth,size:=1,bytes:=8,zero:=some [.lit (.pointer none)]})∧(isPtr Pg 97=true)∧(tyOf Pg 98=some {kd:=.oth,size:=1,bytes:=8,zero:=some [.lit .nilFunc]})∧(isFn Pg 98=true)∧(tyOf Pg 99=some {kd:=.sl 41,size:=1,bytes:=24,zero:=some [.vec [] true]})∧(tyOf Pg 100=some {kd:=.oth,size:=1,bytes:=8,zero:=some [.lit .nilFunc]})∧(isFn Pg 100=true)∧(tyOf Pg 101=some {kd:=.oth,size:=1,bytes:=8,zero:=some [.lit .nilFunc]})∧(isFn Pg 101=true)∧(tyOf Pg 102=some {kd:=.oth,size:=1,bytes:=8,zero:=some [.lit .nilFunc]})∧(isFn Pg 102=true)∧(tyOf Pg 104=some {kd:=.int .u64,size:=1,bytes:=8,zero:=some [.lit (.int .u64 0)]})∧(tyOf Pg 105=some {kd:=.oth,size:=1,bytes:=8,zero:=some [.lit .nilFunc]})∧(isFn Pg 105=true)∧(tyOf Pg 106=some {kd:=.st [(0,3),(1,3)],size:=2,bytes:=16,zero:=some [.lit (.int .i64 0),.lit (.int .i64 0)]})∧(tyOf Pg 107=some {kd:=.st [(0,3),(1,3)],size:=2,bytes:=16,zero:=some [.lit (.int .i64 0),.lit (.int .i64 0)]})∧(namesOk Pg 107=true)∧(keyTyOk Pg 107 [(0,3),(1,3)]=true)∧(tyOf Pg 108=some {kd:=.oth,size:=1,bytes:=8,zero:=some [.lit .nilFunc]})∧(isFn Pg 108=true)∧(tyOf Pg 109=some {kd:=.oth,size:=1,bytes:=8,zero:=some [.lit .nilFunc]})∧(isFn Pg 109=true)∧(tyOf Pg 110=some {kd:=.oth,size:=1,bytes:=8,zero:=some [.lit .nilFunc]})∧(isFn Pg 110=true)∧(tyOf Pg 111=some {kd:=.arr 3 3,size:=3,bytes:=24,zero:=some [.lit (.int .i64 0),.lit (.int .i64 0),.lit (.int .i64 0)]})∧(tyOf Pg 112=some {kd:=.oth,size:=1,bytes:=8,zero:=some [.lit .nilFunc]})∧(isFn Pg 112=true)∧(tyOf Pg 113=some {kd:=.oth,size:=1,bytes:=8,zero:=some [.lit .nilFunc]})∧(isFn Pg 113=true)∧(tyOf Pg 114=some {kd:=.oth,size:=1,bytes:=8,zero:=some [.lit .nilFunc]})∧(isFn Pg 114=true)∧(tyOf Pg 115=some {kd:=.oth,size:=1,bytes:=8,zero:=some [.lit .nilFunc]})∧(isFn Pg 115=true)∧(tyOf Pg 116=some {kd:=.oth,size:=1,bytes:=8,zero:=some [.lit .nilFunc]})∧(isFn Pg 116=true)∧(tyOf Pg 117=some {kd:=.oth,size:=1,bytes:=8,zero:=some [.lit .nilFunc]})∧(isFn Pg 117=true)∧(tyOf Pg 118=some {kd:=.st [(0,21),(1,21)],size:=2,bytes:=8,zero:=some [.lit (.int .i32 0),.lit (.int .i32 0)]})∧(tyOf Pg 119=some {kd:=.st [(0,21),(1,21)],size:=2,bytes:=8,zero:=some [.lit (.int .i32 0),.lit (.int .i32 0)]})∧(namesOk Pg 119=true)∧(keyTyOk Pg 119 [(0,21),(1,21)]=true)∧(tyOf Pg 120=some {kd:=.oth,size:=1,bytes:=8,zero:=some [.lit .nilFunc]})∧(isFn Pg 120=true)∧(tyOf Pg 121=some {kd:=.map 3 4,size:=1,bytes:=8,zero:=some [.lit (.map none)]})∧(tyOf Pg 122=some {kd:=.oth,size:=1,bytes:=8,zero:=some [.lit .nilFunc]})∧(isFn Pg 122=true)∧(tyOf Pg 123=some {kd:=.oth,size:=1,bytes:=8,zero:=some [.lit .nilFunc]})∧(isFn Pg 123=true)∧(tyOf Pg 124=some {kd:=.arr 8 123,size:=8,bytes:=64,zero:=some [.lit .nilFunc,.lit .nilFunc,.lit .nilFunc,.lit .nilFunc,.lit .nilFunc,.lit .nilFunc,.lit .nilFunc,.lit .nilFunc]})∧(tyOf Pg 125=some {kd:=.oth,size:=1,bytes:=8,zero:=some [.lit .nilFunc]})∧(isFn Pg 125=true)∧(tyOf Pg 126=some {kd:=.oth,size:=1,bytes:=8,zero:=some [.lit (.pointer none)]})∧(isPtr Pg 126=true)∧(tyOf Pg 127=some {kd:=.oth,size:=1,bytes:=8,zero:=some [.lit (.pointer none)]})∧(isPtr Pg 127=true)∧(tyOf Pg 128=some {kd:=.oth,size:=1,bytes:=8,zero:=some [.lit .nilFunc]})∧(isFn Pg 128=true)∧(tyOf Pg 129=some {kd:=.st [(0,97),(1,126),(2,3),(3,127)],size:=4,bytes:=32,zero:=some [.lit (.pointer none),.lit (.pointer none),.lit (.int .i64 0),.lit (.pointer none)]})∧(tyOf Pg 130=some {kd:=.st [(0,97),(1,126),(2,3),(3,127)],size:=4,bytes:=32,zero:=some [.lit (.pointer none),.lit (.pointer none),.lit (.int .i64 0),.lit (.pointer none)]})∧(tyOf Pg 131=some {kd:=.oth,size:=1,bytes:=8,zero:=some [.lit .nilFunc]})∧(isFn Pg 131=true)∧(tyOf Pg 132=some {kd:=.oth,size:=1,bytes:=8,zero:=some [.lit .nilFunc]})∧(isFn Pg 132=true)∧(tyOf Pg 133=some {kd:=.st [(0,3),(1,3)],size:=2,bytes:=16,zero:=some [.lit (.int .i64 0),.lit (.int .i64 0)]})∧(tyOf Pg 134=some {kd:=.st [(0,3),(1,3)],size:=2,bytes:=16,zero:=some [.lit (.int .i64 0),.lit (.int .i64 0)]})∧(namesOk Pg 134=true)∧(keyTyOk Pg 134 [(0,3),(1,3)]=true)∧(tyOf Pg 135=some {kd:=.sl 134,size:=1,bytes:=24,zero:=some [.vec [] true]})∧(tyOf Pg 136=some {kd:=.oth,size:=1,bytes:=8,zero:=some [.lit (.pointer none)]})∧(isPtr Pg 136=true)∧(tyOf Pg 137=some {kd:=.oth,size:=1,bytes:=8,zero:=some [.lit .nilFunc]})∧(isFn Pg 137=true)∧(tyOf Pg 138=some {kd:=.oth,size:=1,bytes:=8,zero:=some [.lit .nilFunc]})∧(isFn Pg 138=true)∧(tyOf Pg 139=some {kd:=.oth,size:=1,bytes:=8,zero:=some [.lit .nilFunc]})∧(isFn Pg 139=true)∧(tyOf Pg 140=some {kd:=.map 107 4,size:=1,bytes:=8,zero:=some [.lit (.map none)]})∧(tyOf Pg 141=some {kd:=.sl 107,size:=1,bytes:=24,zero:=some [.vec [] true]})∧(tyOf Pg 142=some {kd:=.oth,size:=1,bytes:=8,zero:=some [.lit .nilFunc]})∧(isFn Pg 142=true)∧(tyOf Pg 144=some {kd:=.oth,size:=1,bytes:=8,zero:=some [.lit .nilFunc]})∧(isFn Pg 144=true)∧(tyOf Pg 145=some {kd:=.int .u64,size:=1,bytes:=8,zero:=some [.lit (.int .u64 0)]})∧(tyOf Pg 146=some {kd:=.oth,size:=1,bytes:=8,zero:=some [.lit .nilFunc]})∧(isFn Pg 146=true)∧(tyOf Pg 147=some {kd:=.oth,size:=1,bytes:=8,zero:=some [.lit .nilFunc]})∧(isFn Pg 147=true)∧(tyOf Pg 148=some {kd:=.oth,size:=1,bytes:=8,zero:=some [.lit .nilFunc]})∧(isFn Pg 148=true)∧(tyOf Pg 149=some {kd:=.oth,size:=1,bytes:=8,zero:=some [.lit .nilFunc]})∧(isFn Pg 149=true)∧(tyOf Pg 150=some {kd:=.oth,size:=1,bytes:=8,zero:=some [.lit .nilFunc]})∧(isFn Pg 150=true)∧(tyOf Pg 152=some {kd:=.map 9 4,size:=1,bytes:=8,zero:=some [.lit (.map none)]})∧(tyOf Pg 153=some {kd:=.oth,size:=1,bytes:=8,zero:=some [.lit .nilFunc]})∧(isFn Pg 153=true)∧(tyOf Pg 154=some {kd:=.oth,size:=1,bytes:=8,zero:=some [.lit .nilFunc]})∧(isFn Pg 154=true)∧(tyOf Pg 155=some {kd:=.oth,size:=1,bytes:=8,zero:=some [.lit (.pointer none)]})∧(isPtr Pg 155=true)∧(tyOf Pg 156=some {kd:=.oth,size:=1,bytes:=8,zero:=some [.lit .nilFunc]})∧(isFn Pg 156=true)∧(tyOf Pg 157=some {kd:=.st [(0,86),(1,3)],size:=2,bytes:=16,zero:=some [.lit (.int .i8 0),.lit (.int .i64 0)]})∧(tyOf Pg 158=some {kd:=.st [(0,86),(1,3)],size:=2,bytes:=16,zero:=some [.lit (.int .i8 0),.lit (.int .i64 0)]})∧(namesOk Pg 158=true)∧(keyTyOk Pg 158 [(0,86),(1,3)]=true)∧(tyOf Pg 159=some {kd:=.oth,size:=1,bytes:=8,zero:=some [.lit .nilFunc]})∧(isFn Pg 159=true)∧(tyOf Pg 160=some {kd:=.oth,size:=1,bytes:=8,zero:=some [.lit .nilFunc]})∧(isFn Pg 160=true)∧(tyOf Pg 161=some {kd:=.oth,size:=1,bytes:=8,zero:=some [.lit .nilFunc]})∧(isFn Pg 161=true)∧(tyOf Pg 162=some {kd:=.oth,size:=1,bytes:=8,zero:=some [.lit .nilFunc]})∧(isFn Pg 162=true)∧(tyOf Pg 163=some {kd:=.oth,size:=1,bytes:=8,zero:=some [.lit .nilFunc]})∧(isFn Pg 163=true)∧(tyOf Pg 164=some {kd:=.oth,size:=1,bytes:=8,zero:=some [.lit .nilFunc]})∧(isFn Pg 164=true)∧(tyOf Pg 165=some {kd:=.oth,size:=1,bytes:=8,zero:=some [.lit .nilFunc]})∧(isFn Pg 165=true)∧(tyOf Pg 166=some {kd:=.oth,size:=1,bytes:=8,zero:=some [.lit .nilFunc]})∧(isFn Pg 166=true)∧(tyOf Pg 167=some {kd:=.st [(0,2),(1,2),(2,2),(3,2)],size:=4,bytes:=32,zero:=some [.lit (.int .i64 0),.lit (.int .i64 0),.lit (.int .i64 0),.lit (.int .i64 0)]})∧(tyOf Pg 168=some {kd:=.st [(0,2),(1,2),(2,2),(3,2)],size:=4,bytes:=32,zero:=some [.lit (.int .i64 0),.lit (.int .i64 0),.lit (.int .i64 0),.lit (.int .i64 0)]})∧(namesOk Pg 168=true)∧(keyTyOk Pg 168 [(0,2),(1,2),(2,2),(3,2)]=true)∧(tyOf Pg 169=some {kd:=.oth,size:=1,bytes:=8,zero:=some [.lit .nilFunc]})∧(isFn Pg 169=true)∧(tyOf Pg 170=some {kd:=.oth,size:=1,bytes:=8,zero:=some [.lit .nilFunc]})∧(isFn Pg 170=true)∧(tyOf Pg 171=some {kd:=.oth,size:=1,bytes:=8,zero:=some [.lit .nilFunc]})∧(isFn Pg 171=true)∧(tyOf Pg 172=some {kd:=.oth,size:=1,bytes:=8,zero:=some [.lit .nilFunc]})∧(isFn Pg 172=true)∧(tyOf Pg 173=some {kd:=.oth,size:=1,bytes:=8,zero:=some [.lit .nilFunc]})∧(isFn Pg 173=true)∧(tyOf Pg 174=some {kd:=.oth,size:=1,bytes:=8,zero:=some [.lit .nilFunc]})∧(isFn Pg 174=true)∧(tyOf Pg 175=some {kd:=.oth,size:=1,bytes:=8,zero:=some [.lit .nilFunc]})∧(isFn Pg 175=true)∧(tyOf Pg 176=some {kd:=.oth,size:=1,bytes:=8,zero:=some [.lit .nilFunc]})∧(isFn Pg 176=true)∧(tyOf Pg 177=some {kd:=.oth,size:=1,bytes:=8,zero:=some [.lit .nilFunc]})∧(isFn Pg 177=true)∧(tyOf Pg 178=some {kd:=.oth,size:=1,bytes:=8,zero:=some [.lit .nilFunc]})∧(isFn Pg 178=true)∧(tyOf Pg 179=some {kd:=.oth,size:=1,bytes:=8,zero:=some [.lit .nilFunc]})∧(isFn Pg 179=true)∧(tyOf Pg 180=some {kd:=.oth,size:=1,bytes:=8,zero:=some [.lit .nilFunc]})∧(isFn Pg 180=true)∧(tyOf Pg 181=some {kd:=.oth,size:=1,bytes:=8,zero:=some [.lit .nilFunc]})∧(isFn Pg 181=true)∧(tyOf Pg 182=some {kd:=.oth,size:=1,bytes:=8,zero:=some [.lit .nilFunc]})∧(isFn Pg 182=true)∧(tyOf Pg 184=some {kd:=.oth,size:=1,bytes:=8,zero:=some [.lit .nilFunc]})∧(isFn Pg 184=true)∧(tyOf Pg 185=some {kd:=.arr 8 176,size:=8,bytes:=64,zero:=some [.lit .nilFunc,.lit .nilFunc,.lit .nilFunc,.lit .nilFunc,.lit .nilFunc,.lit .nilFunc,.lit .nilFunc,.lit .nilFunc]})∧(tyOf Pg 186=some {kd:=.oth,size:=1,bytes:=8,zero:=some [.lit .nilFunc]})∧(isFn Pg 186=true)∧(tyOf Pg 187=some {kd:=.arr 15 2,size:=15,bytes:=120,zero:=some [.lit (.int .i64 0),.lit (.int .i64 0),.lit (.int .i64 0),.lit (.int .i64 0),.lit (.int .i64 0),.lit (.int .i64 0),.lit (.int .i64 0),.lit (.int .i64 0),.lit (.int .i64 0),.lit (.int .i64 0),.lit (.int .i64 0),.lit (.int .i64 0),.lit (.int .i64 0),.lit (.int .i64 0),.lit (.int .i64 0)]})∧(tyOf Pg 188=some {kd:=.oth,size:=1,bytes:=8,zero:=some [.lit .nilFunc]})∧(isFn Pg 188=true)∧(tyOf Pg 189=some {kd:=.oth,size:=1,bytes:=8,zero:=some [.lit .nilFunc]})∧(isFn Pg 189=true)∧(tyOf Pg 190=some {kd:=.oth,size:=1,bytes:=8,zero:=some [.lit .nilFunc]})∧(isFn Pg 190=true)∧(tyOf Pg 191=some {kd:=.oth,size:=1,bytes:=8,zero:=some [.lit .nilFunc]})∧(isFn Pg 191=true)∧(tyOf Pg 192=some {kd:=.oth,size:=1,bytes:=8,zero:=some [.lit .nilFunc]})∧(isFn Pg 192=true)∧(tyOf Pg 193=some {kd:=.oth,size:=1,bytes:=8,zero:=some [.lit .nilFunc]})∧(isFn Pg 193=true)∧(tyOf Pg 194=some {kd:=.arr 15 9,size:=15,bytes:=240,zero:=some [.lit (.string ⟨#[]⟩),.lit (.string ⟨#[]⟩),.lit (.string ⟨#[]⟩),.lit (.string ⟨#[]⟩),.lit (.string ⟨#[]⟩),.lit (.string ⟨#[]⟩),.lit (.string ⟨#[]⟩),.lit (.string ⟨#[]⟩),.lit (.string ⟨#[]⟩),.lit (.string ⟨#[]⟩),.lit (.string ⟨#[]⟩),.lit (.string ⟨#[]⟩),.lit (.string ⟨#[]⟩),.lit (.string ⟨#[]⟩),.lit (.string ⟨#[]⟩)]})∧(tyOf Pg 195=some {kd:=.oth,size:=1,bytes:=8,zero:=some [.lit .nilFunc]})∧(isFn Pg 195=true)∧(tyOf Pg 196=some {kd:=.oth,size:=1,bytes:=8,zero:=some [.lit .nilFunc]})∧(isFn Pg 196=true)∧(tyOf Pg 197=some {kd:=.st [(0,17),(1,17),(2,17),(3,9)],size:=4,bytes:=40,zero:=some [.lit (.pointer none),.lit (.pointer none),.lit (.pointer none),.lit (.string ⟨#[]⟩)]})∧(tyOf Pg 198=some {kd:=.st [(0,17),(1,17),(2,17),(3,9)],size:=4,bytes:=40,zero:=some [.lit (.pointer none),.lit (.pointer none),.lit (.pointer none),.lit (.string ⟨#[]⟩)]})∧(tyOf Pg 199=some {kd:=.arr 0 16,size:=0,bytes:=0,zero:=some []})∧(tyOf Pg 200=some {kd:=.st [(0,199)],size:=0,bytes:=0,zero:=some []})∧(tyOf Pg 201=some {kd:=.st [(0,199)],size:=0,bytes:=0,zero:=some []})∧(tyOf Pg 202=some {kd:=.oth,size:=1,bytes:=8,zero:=some [.lit .nilFunc]})∧(isFn Pg 202=true)∧(tyOf Pg 203=some {kd:=.int .u32,size:=1,bytes:=4,zero:=some [.lit (.int .u32 0)]})∧(tyOf Pg 204=some {kd:=.int .u8,size:=1,bytes:=1,zero:=some [.lit (.int .u8 0)]})∧(tyOf Pg 205=some {kd:=.int .u8,size:=1,bytes:=1,zero:=some [.lit (.int .u8 0)]})∧(tyOf Pg 206=some {kd:=.oth,size:=1,bytes:=8,zero:=some [.lit .nilFunc]})∧(isFn Pg 206=true)∧(tyOf Pg 207=some {kd:=.oth,size:=1,bytes:=8,zero:=some [.lit (.pointer none)]})∧(isPtr Pg 207=true)∧(tyOf Pg 208=some {kd:=.int .i32,size:=1,bytes:=4,zero:=some [.lit (.int .i32 0)]})∧(tyOf Pg 209=some {kd:=.int .i32,size:=1,bytes:=4,zero:=some [.lit (.int .i32 0)]})∧(tyOf Pg 210=some {kd:=.st [(0,12),(1,12),(2,203),(3,204),(4,5),(5,5),(6,205),(7,206),(8,207),(9,208),(10,209)],size:=11,bytes:=48,zero:=some [.lit (.int .u64 0),.lit (.int .u64 0),.lit (.int .u32 0),.lit (.int .u8 0),.lit (.int .u8 0),.lit (.int .u8 0),.lit (.int .u8 0),.lit .nilFunc,.lit (.pointer none),.lit (.int .i32 0),.lit (.int .i32 0)]})∧(tyOf Pg 211=some {kd:=.st [(0,12),(1,12),(2,203),(3,204),(4,5),(5,5),(6,205),(7,206),(8,207),(9,208),(10,209)],size:=11,bytes:=48,zero:=some [.lit (.int .u64 0),.lit (.int .u64 0),.lit (.int .u32 0),.lit (.int .u8 0),.lit (.int .u8 0),.lit (.int .u8 0),.lit (.int .u8 0),.lit .nilFunc,.lit (.pointer none),.lit (.int .i32 0),.lit (.int .i32 0)]}):=⟨ty1,fn1,ty2,ty3,ty4,zr4,ty5,ty6,ty7,ty8,ty9,ty10,ty11,ty12,ty13,ty14,ty15,pt15,ty16,pt16,ty17,pt17,ty18,ty19,ty21,ty22,ty23,ty24,ty25,ty26,ty27,ty28,ty29,fn29,ty30,fn30,ty31,pt31,ty32,ty34,fn34,ty35,pt35,ty37,fn37,ty38,ty39,ty40,ty41,ty43,fn43,ty44,fn44,ty46,fn46,ty47,fn47,ty48,fn48,ty49,fn49,ty50,fn50,ty51,fn51,ty52,fn52,ty53,fn53,ty54,fn54,ty55,ty56,nmOk56,kyOk56,ty57,ty58,ty59,ty60,ty61,ty62,ty63,ty64,ty65,ty66,fn66,ty67,fn67,ty68,fn68,ty69,ty70,nmOk70,kyOk70,ty71,ty72,zr72,ty73,fn73,ty74,ty75,nmOk75,kyOk75,ty76,fn76,ty77,fn77,ty78,fn78,ty79,fn79,ty80,fn80,ty81,ty82,ty83,ty84,ty85,nmOk85,kyOk85,ty86,ty87,ty88,ty89,ty90,ty91,ty92,ty93,ty94,ty95,fn95,ty96,fn96,ty97,pt97,ty98,fn98,ty99,ty100,fn100,ty101,fn101,ty102,fn102,ty104,ty105,fn105,ty106,ty107,nmOk107,kyOk107,ty108,fn108,ty109,fn109,ty110,fn110,ty111,ty112,fn112,ty113,fn113,ty114,fn114,ty115,fn115,ty116,fn116,ty117,fn117,ty118,ty119,nmOk119,kyOk119,ty120,fn120,ty121,ty122,fn122,ty123,fn123,ty124,ty125,fn125,ty126,pt126,ty127,pt127,ty128,fn128,ty129,ty130,ty131,fn131,ty132,fn132,ty133,ty134,nmOk134,kyOk134,ty135,ty136,pt136,ty137,fn137,ty138,fn138,ty139,fn139,ty140,ty141,ty142,fn142,ty144,fn144,ty145,ty146,fn146,ty147,fn147,ty148,fn148,ty149,fn149,ty150,fn150,ty152,ty153,fn153,ty154,fn154,ty155,pt155,ty156,fn156,ty157,ty158,nmOk158,kyOk158,ty159,fn159,ty160,fn160,ty161,fn161,ty162,fn162,ty163,fn163,ty164,fn164,ty165,fn165,ty166,fn166,ty167,ty168,nmOk168,kyOk168,ty169,fn169,ty170,fn170,ty171,fn171,ty172,fn172,ty173,fn173,ty174,fn174,ty175,fn175,ty176,fn176,ty177,fn177,ty178,fn178,ty179,fn179,ty180,fn180,ty181,fn181,ty182,fn182,ty184,fn184,ty185,ty186,fn186,ty187,ty188,fn188,ty189,fn189,ty190,fn190,ty191,fn191,ty192,fn192,ty193,fn193,ty194,ty195,fn195,ty196,fn196,ty197,ty198,ty199,ty200,ty201,ty202,fn202,ty203,ty204,ty205,ty206,fn206,ty207,pt207,ty208,ty209,ty210,ty211⟩
theorem call5:Callable Pg 5:=⟨_,Tryz.func5,rfl,by decide⟩
theorem call6:Callable Pg 6:=⟨_,Tryz.func6,rfl,by decide⟩
theorem call7:Callable Pg 7:=⟨_,Tryz.func7,rfl,by decide⟩
theorem call8:Callable Pg 8:=⟨_,Tryz.func8,rfl,by decide⟩
theorem call9:Callable Pg 9:=⟨_,Tryz.func9,rfl,by decide⟩
theorem call11:Callable Pg 11:=⟨_,Tryz.func11,rfl,by decide⟩
theorem call12:Callable Pg 12:=⟨_,Tryz.func12,rfl,by decide⟩
theorem call14:Callable Pg 14:=⟨_,Tryz.func14,rfl,by decide⟩
theorem call16:Callable Pg 16:=⟨_,Tryz.func16,rfl,by decide⟩
theorem call17:Callable Pg 17:=⟨_,Tryz.func17,rfl,by decide⟩
theorem call18:Callable Pg 18:=⟨_,Tryz.func18,rfl,by decide⟩
theorem call19:Callable Pg 19:=⟨_,Tryz.func19,rfl,by decide⟩
theorem call20:Callable Pg 20:=⟨_,Tryz.func20,rfl,by decide⟩
theorem call21:Callable Pg 21:=⟨_,Tryz.func21,rfl,by decide⟩
theorem call22:Callable Pg 22:=⟨_,Tryz.func22,rfl,by decide⟩
theorem call23:Callable Pg 23:=⟨_,Tryz.func23,rfl,by decide⟩
theorem call24:Callable Pg 24:=⟨_,Tryz.func24,rfl,by decide⟩
theorem call25:Callable Pg 25:=⟨_,Tryz.func25,rfl,by decide⟩
theorem call26:Callable Pg 26:=⟨_,Tryz.func26,rfl,by decide⟩
theorem call27:Callable Pg 27:=⟨_,Tryz.func27,rfl,by decide⟩
theorem call28:Callable Pg 28:=⟨_,Tryz.func28,rfl,by decide⟩
theorem call29:Callable Pg 29:=⟨_,Tryz.func29,rfl,by decide⟩
theorem call30:Callable Pg 30:=⟨_,Tryz.func30,rfl,by decide⟩
theorem call31:Callable Pg 31:=⟨_,Tryz.func31,rfl,by decide⟩
theorem call32:Callable Pg 32:=⟨_,Tryz.func32,rfl,by decide⟩
theorem call33:Callable Pg 33:=⟨_,Tryz.func33,rfl,by decide⟩
theorem call34:Callable Pg 34:=⟨_,Tryz.func34,rfl,by decide⟩
theorem call35:Callable Pg 35:=⟨_,Tryz.func35,rfl,by decide⟩
theorem call36:Callable Pg 36:=⟨_,Tryz.func36,rfl,by decide⟩
theorem call37:Callable Pg 37:=⟨_,Tryz.func37,rfl,by decide⟩
theorem call38:Callable Pg 38:=⟨_,Tryz.func38,rfl,by decide⟩
theorem call39:Callable Pg 39:=⟨_,Tryz.func39,rfl,by decide⟩
theorem call40:Callable Pg 40:=⟨_,Tryz.func40,rfl,by decide⟩
theorem call41:Callable Pg 41:=⟨_,Tryz.func41,rfl,by decide⟩
theorem call42:Callable Pg 42:=⟨_,Tryz.func42,rfl,by decide⟩
theorem call43:Callable Pg 43:=⟨_,Tryz.func43,rfl,by decide⟩
theorem call44:Callable Pg 44:=⟨_,Tryz.func44,rfl,by decide⟩
theorem call45:Callable Pg 45:=⟨_,Tryz.func45,rfl,by decide⟩
theorem call46:Callable Pg 46:=⟨_,Tryz.func46,rfl,by decide⟩
theorem call47:Callable Pg 47:=⟨_,Tryz.func47,rfl,by decide⟩
theorem call48:Callable Pg 48:=⟨_,Tryz.func48,rfl,by decide⟩
theorem call49:Callable Pg 49:=⟨_,Tryz.func49,rfl,by decide⟩
theorem call50:Callable Pg 50:=⟨_,Tryz.func50,rfl,by decide⟩
theorem call51:Callable Pg 51:=⟨_,Tryz.func51,rfl,by decide⟩
theorem call52:Callable Pg 52:=⟨_,Tryz.func52,rfl,by decide⟩
theorem call53:Callable Pg 53:=⟨_,Tryz.func53,rfl,by decide⟩
theorem call54:Callable Pg 54:=⟨_,Tryz.func54,rfl,by decide⟩
theorem call55:Callable Pg 55:=⟨_,Tryz.func55,rfl,by decide⟩
theorem call56:Callable Pg 56:=⟨_,Tryz.func56,rfl,by decide⟩
theorem call57:Callable Pg 57:=⟨_,Tryz.func57,rfl,by decide⟩
theorem call58:Callable Pg 58:=⟨_,Tryz.func58,rfl,by decide⟩
theorem call59:Callable Pg 59:=⟨_,Tryz.func59,rfl,by decide⟩
theorem call60:Callable Pg 60:=⟨_,Tryz.func60,rfl,by decide⟩
theorem call61:Callable Pg 61:=⟨_,Tryz.func61,rfl,by decide⟩
theorem call62:Callable Pg 62:=⟨_,Tryz.func62,rfl,by decide⟩
theorem call63:Callable Pg 63:=⟨_,Tryz.func63,rfl,by decide⟩
theorem call64:Callable Pg 64:=⟨_,Tryz.func64,rfl,by decide⟩
theorem call65:Callable Pg 65:=⟨_,Tryz.func65,rfl,by decide⟩
theorem call66:Callable Pg 66:=⟨_,Tryz.func66,rfl,by decide⟩
theorem call67:Callable Pg 67:=⟨_,Tryz.func67,rfl,by decide⟩
theorem call68:Callable Pg 68:=⟨_,Tryz.func68,rfl,by decide⟩
theorem call69:Callable Pg 69:=⟨_,Tryz.func69,rfl,by decide⟩
theorem call70:Callable Pg 70:=⟨_,Tryz.func70,rfl,by decide⟩
theorem call71:Callable Pg 71:=⟨_,Tryz.func71,rfl,by decide⟩
theorem call72:Callable Pg 72:=⟨_,Tryz.func72,rfl,by decide⟩
theorem call73:Callable Pg 73:=⟨_,Tryz.func73,rfl,by decide⟩
theorem call74:Callable Pg 74:=⟨_,Tryz.func74,rfl,by decide⟩
theorem call75:Callable Pg 75:=⟨_,Tryz.func75,rfl,by decide⟩
theorem call76:Callable Pg 76:=⟨_,Tryz.func76,rfl,by decide⟩
theorem call77:Callable Pg 77:=⟨_,Tryz.func77,rfl,by decide⟩
theorem call78:Callable Pg 78:=⟨_,Tryz.func78,rfl,by decide⟩
theorem call79:Callable Pg 79:=⟨_,Tryz.func79,rfl,by decide⟩
theorem call80:Callable Pg 80:=⟨_,Tryz.func80,rfl,by decide⟩
theorem call81:Callable Pg 81:=⟨_,Tryz.func81,rfl,by decide⟩
theorem call82:Callable Pg 82:=⟨_,Tryz.func82,rfl,by decide⟩
theorem call83:Callable Pg 83:=⟨_,Tryz.func83,rfl,by decide⟩
theorem call84:Callable Pg 84:=⟨_,Tryz.func84,rfl,by decide⟩
theorem call85:Callable Pg 85:=⟨_,Tryz.func85,rfl,by decide⟩
theorem call86:Callable Pg 86:=⟨_,Tryz.func86,rfl,by decide⟩
theorem call87:Callable Pg 87:=⟨_,Tryz.func87,rfl,by decide⟩
theorem call88:Callable Pg 88:=⟨_,Tryz.func88,rfl,by decide⟩
theorem call89:Callable Pg 89:=⟨_,Tryz.func89,rfl,by decide⟩
theorem call90:Callable Pg 90:=⟨_,Tryz.func90,rfl,by decide⟩
theorem call91:Callable Pg 91:=⟨_,Tryz.func91,rfl,by decide⟩
theorem call92:Callable Pg 92:=⟨_,Tryz.func92,rfl,by decide⟩
theorem call93:Callable Pg 93:=⟨_,Tryz.func93,rfl,by decide⟩
theorem call94:Callable Pg 94:=⟨_,Tryz.func94,rfl,by decide⟩
theorem call95:Callable Pg 95:=⟨_,Tryz.func95,rfl,by decide⟩
theorem call96:Callable Pg 96:=⟨_,Tryz.func96,rfl,by decide⟩
theorem call97:Callable Pg 97:=⟨_,Tryz.func97,rfl,by decide⟩
theorem call98:Callable Pg 98:=⟨_,Tryz.func98,rfl,by decide⟩
theorem call99:Callable Pg 99:=⟨_,Tryz.func99,rfl,by decide⟩
theorem call100:Callable Pg 100:=⟨_,Tryz.func100,rfl,by decide⟩
theorem call101:Callable Pg 101:=⟨_,Tryz.func101,rfl,by decide⟩
theorem call102:Callable Pg 102:=⟨_,Tryz.func102,rfl,by decide⟩
theorem call103:Callable Pg 103:=⟨_,Tryz.func103,rfl,by decide⟩
theorem call104:Callable Pg 104:=⟨_,Tryz.func104,rfl,by decide⟩
theorem call105:Callable Pg 105:=⟨_,Tryz.func105,rfl,by decide⟩
theorem call106:Callable Pg 106:=⟨_,Tryz.func106,rfl,by decide⟩
theorem call107:Callable Pg 107:=⟨_,Tryz.func107,rfl,by decide⟩
theorem call108:Callable Pg 108:=⟨_,Tryz.func108,rfl,by decide⟩
theorem call109:Callable Pg 109:=⟨_,Tryz.func109,rfl,by decide⟩
theorem call110:Callable Pg 110:=⟨_,Tryz.func110,rfl,by decide⟩
theorem call111:Callable Pg 111:=⟨_,Tryz.func111,rfl,by decide⟩
theorem call112:Callable Pg 112:=⟨_,Tryz.func112,rfl,by decide⟩
theorem call113:Callable Pg 113:=⟨_,Tryz.func113,rfl,by decide⟩
theorem call114:Callable Pg 114:=⟨_,Tryz.func114,rfl,by decide⟩
theorem call115:Callable Pg 115:=⟨_,Tryz.func115,rfl,by decide⟩
theorem call116:Callable Pg 116:=⟨_,Tryz.func116,rfl,by decide⟩
theorem call117:Callable Pg 117:=⟨_,Tryz.func117,rfl,by decide⟩
theorem call118:Callable Pg 118:=⟨_,Tryz.func118,rfl,by decide⟩
theorem call119:Callable Pg 119:=⟨_,Tryz.func119,rfl,by decide⟩
theorem call120:Callable Pg 120:=⟨_,Tryz.func120,rfl,by decide⟩
theorem call121:Callable Pg 121:=⟨_,Tryz.func121,rfl,by decide⟩
theorem call122:Callable Pg 122:=⟨_,Tryz.func122,rfl,by decide⟩
theorem call123:Callable Pg 123:=⟨_,Tryz.func123,rfl,by decide⟩
theorem call124:Callable Pg 124:=⟨_,Tryz.func124,rfl,by decide⟩
theorem call125:Callable Pg 125:=⟨_,Tryz.func125,rfl,by decide⟩
theorem call126:Callable Pg 126:=⟨_,Tryz.func126,rfl,by decide⟩
theorem call127:Callable Pg 127:=⟨_,Tryz.func127,rfl,by decide⟩
theorem call128:Callable Pg 128:=⟨_,Tryz.func128,rfl,by decide⟩
theorem call129:Callable Pg 129:=⟨_,Tryz.func129,rfl,by decide⟩
theorem call130:Callable Pg 130:=⟨_,Tryz.func130,rfl,by decide⟩
theorem call131:Callable Pg 131:=⟨_,Tryz.func131,rfl,by decide⟩
theorem call132:Callable Pg 132:=⟨_,Tryz.func132,rfl,by decide⟩
theorem call133:Callable Pg 133:=⟨_,Tryz.func133,rfl,by decide⟩
theorem call134:Callable Pg 134:=⟨_,Tryz.func134,rfl,by decide⟩
theorem call135:Callable Pg 135:=⟨_,Tryz.func135,rfl,by decide⟩
theorem call136:Callable Pg 136:=⟨_,Tryz.func136,rfl,by decide⟩
theorem call137:Callable Pg 137:=⟨_,Tryz.func137,rfl,by decide⟩
theorem call138:Callable Pg 138:=⟨_,Tryz.func138,rfl,by decide⟩
theorem call139:Callable Pg 139:=⟨_,Tryz.func139,rfl,by decide⟩
theorem call140:Callable Pg 140:=⟨_,Tryz.func140,rfl,by decide⟩
theorem call141:Callable Pg 141:=⟨_,Tryz.func141,rfl,by decide⟩
theorem call142:Callable Pg 142:=⟨_,Tryz.func142,rfl,by decide⟩
end Go.Proofs.YtbbnfbnicacdoaaGreat
end
section
namespace Go.Proofs.YtbbnfbnicacdoaaGreat
open Go Go.Ab
def memOf(W:World):Nat→Nat→Option Value:=fun b o=>(W.cell? ⟨b,o,none⟩).bind fun v=>if v.oneCell' then some v else none
theorem memOf_some{W:World}{b o:Nat}{v:Value}(h:W.cell? ⟨b,o,none⟩=some v)(h1:v.oneCell'=true):memOf W b o=some v:=by simp[memOf,h,h1]
theorem memOk_of(W:World):MemOk (memOf W) W:=by
 intro b o v h
 simp only[memOf,Option.bind_eq_some_iff] at h
 obtain⟨u,h1,h2⟩:=h
 split at h2
 ·rename_i h3;cases h2;exact⟨h1,h3⟩
 ·cases h2
theorem bulk_one{H:Type}(d:DataW H):1≤Rows.uptoBulk d:=by
 cases d with
 | lit l=>cases l <;> simp[Rows.uptoBulk]
 | _=>simp[Rows.uptoBulk]
theorem bulkAll_sum{H:Type}(l:List (DataW H)):Rows.uptoBulkAll l=(l.map Rows.uptoBulk).sum:=by
 induction l with
 | nil=>simp[Rows.uptoBulkAll]
 | cons x l ih=>simp[Rows.uptoBulkAll,ih]
section
variable {H:Type} (enc:TypeId × Value→H) (P:Program) (W:World)
def Rd (n:Nat)(t:TypeId)(E:List AV→Nat→Prop):Prop :=
 ∀ cs d ps,DataW.trod enc P W 0 (fun _=>true) true n t cs=some (d,ps)→(∀ c∈cs,c.oneCell'=true)∧∃ av,RepL (gm (memOf W)) cs av∧E av (Rows.uptoBulk d)
variable {enc P W}
theorem Rd.mono{n:Nat}{t:TypeId}{E F:List AV→Nat→Prop}(h:Rd enc P W n t E)(k:∀ av m,E av m→F av m):Rd enc P W n t F:=fun cs d ps e=>by
 obtain⟨h1,av,h2,h3⟩:=h cs d ps e
 exact⟨h1,av,h2,k av _ h3⟩
theorem Rd.zero{t:TypeId}{E:List AV→Nat→Prop}:Rd enc P W 0 t E:=fun cs d ps e=>by simp[DataW.trod] at e
theorem repL_lit{g:Gh}{v:Value}(h:plain v=true):RepL g [v] [.lit v]:=.cons (.lit h) .nil
theorem under_of{t:TypeId}{ti:TI}(h:tyOf P t=some ti):∃ d,P.underlying t=some d∧ti.kd=kdOf d∧P.cellsOf t=ti.size:=by
 obtain⟨i,d,h1,h2,h3,h4,_⟩:=tyOf_some h
 exact⟨d,h2,h3,by simp[Program.cellsOf,h1,h4]⟩
theorem cellsOf_ty{t:TypeId}{ti:TI}(h:tyOf P t=some ti):P.cellsOf t=ti.size:=(under_of h).choose_spec.2.2
theorem Rd.int{n:Nat}{t:TypeId}{ti:TI}(h:tyOf P t=some ti){k:IntKind}(hk:ti.kd = .int k):Rd enc P W n t (fun av m=>∃ z,(Lit.int k z).wf=true∧av=[.lit (.int k z)]):=by
 cases n with
 | zero=>exact .zero
 | succ n =>
  intro cs d ps e
  obtain⟨u,hu,hd,_⟩:=under_of h
  rw[hk] at hd
  cases u <;> simp[kdOf] at hd
  subst hd
  rw[DataW.trod_step] at e
  unfold DataW.trodStep at e
  rw[hu] at e
  split at e <;> rename_i heq <;> first | (cases heq;done) | skip
  ·rename_i k' q
   cases heq
   split at e
   ·rename_i hc
    obtain⟨rfl,hw⟩:=hc
    exact⟨by simp[Value.oneCell'],_,repL_lit rfl,_,hw,rfl⟩
   ·cases e
  all_goals simp_all
theorem Rd.bool{n:Nat}{t:TypeId}{ti:TI}(h:tyOf P t=some ti)(hk:ti.kd = .bool):Rd enc P W n t (fun av m=>∃ b,av=[.lit (.bool b)]):=by
 cases n with
 | zero=>exact .zero
 | succ n =>
  intro cs d ps e
  obtain⟨u,hu,hd,_⟩:=under_of h
  rw[hk] at hd
  cases u <;> simp[kdOf] at hd
  rw[DataW.trod_step] at e
  unfold DataW.trodStep at e
  rw[hu] at e
  split at e <;> rename_i heq <;> first | (cases heq;done) | skip
  ·exact⟨by simp[Value.oneCell'],_,repL_lit rfl,_,rfl⟩
  all_goals simp_all
theorem Rd.str{n:Nat}{t:TypeId}{ti:TI}(h:tyOf P t=some ti)(hk:ti.kd = .str):Rd enc P W n t (fun av m=>∃ s:ByteArray,s.size≤maxLen∧s.size+1=m∧av=[.lit (.string s)]):=by
 cases n with
 | zero=>exact .zero
 | succ n =>
  intro cs d ps e
  obtain⟨u,hu,hd,_⟩:=under_of h
  rw[hk] at hd
  cases u <;> simp[kdOf] at hd
  rw[DataW.trod_step] at e
  unfold DataW.trodStep at e
  rw[hu] at e
  split at e <;> rename_i heq <;> first | (cases heq;done) | skip
  ·rename_i s
   split at e
   ·rename_i hs
    cases e
    refine⟨by simp[Value.oneCell'],_,repL_lit rfl,s,hs,?_,rfl⟩
    simp only[Rows.uptoBulk]
    rw[Array.length_toList];rfl
   ·cases e
  all_goals simp_all
theorem mapM_get{α β:Type}{f:α→Option β}:∀ {l:List α} {r:List β},l.mapM f=some r→∀ (i:Nat) (x:α),l[i]? = some x→∃ y,r[i]? = some y∧f x=some y:=by
 intro l
 induction l with
 | nil=>intro r h i x e;simp at e
 | cons a l ih =>
  intro r h i x e
  rw[List.mapM_cons] at h
  cases hx:f a with
  | none=>simp[hx] at h
  | some y =>
   cases hxs:l.mapM f with
   | none=>simp[hx,hxs] at h
   | some ys =>
    simp[hx,hxs] at h
    subst h
    cases i with
    | zero=>simp at e;subst e;exact⟨y,rfl,hx⟩
    | succ i=>simp at e;simpa using ih hxs i x e
theorem spot_none{a:Addr}{i:Nat}{v:Value}(h:W.cell? (a.add i)=some v):a.add i=⟨a.block,a.off+i,none⟩:=by
 have hspot:(a.add i).spot=none:=by
  cases hsp:(a.add i).spot with
  | none=>rfl
  | some s =>
   simp only[World.cell?] at h
   split at h
   ·simp[hsp] at h
   ·cases h
 unfold Addr.add at hspot ⊢
 split
 ·rename_i h0
  subst h0
  rw[if_pos rfl] at hspot
  cases a
  simp_all
 ·rfl
theorem cells_some{a:Addr}{n:Nat}{cs:List Value}(h:W.cells? 0 a n=some cs):cs.length=n∧∀ (i:Nat) (v:Value),cs[i]? = some v→W.cell? ⟨a.block,a.off+i,none⟩=some v∧W.cell? (a.add i)=some v:=by
 unfold World.cells? at h
 rw[if_pos (Nat.zero_le _)] at h
 have hl:cs.length=n:=by simpa using mapM_some_length h
 refine⟨hl,fun i v e=>?_⟩
 have hi:i<n:=by have:=(List.getElem?_eq_some_iff.1 e).1;omega
 obtain⟨y,h1,h2⟩:=mapM_get h i i (by simp[hi])
 rw[e] at h1;cases h1
 exact⟨by rw[← spot_none h2];exact h2,h2⟩
theorem add_add{a:Addr}{i j:Nat}:(a.add i).add j=a.add (i+j):=by
 unfold Addr.add
 by_cases h:i=0
 ·subst h;simp
 ·by_cases h2:j=0
  ·subst h2;simp
  ·simp[h,h2,Nat.add_assoc]
theorem Rd.slice{n:Nat}{t e:TypeId}{ti te:TI}(h:tyOf P t=some ti)(hk:ti.kd = .sl e)(he:tyOf P e=some te)(hpos:0<te.size){E:List AV→Nat→Prop}(hE:Rd enc P W n e E) :
  Rd enc P W (n+1) t (fun av m=>∃ l:List (List AV × Nat),av=[.vec (l.map (·.1)) false]∧(∀ p∈l,E p.1 p.2∧1≤p.2∧p.1.length=te.size)∧(l.map (·.2)).sum+1≤m∧l.length≤maxLen):=by
 intro cs d ps e0
 obtain⟨u,hu,hd,_⟩:=under_of h
 rw[hk] at hd
 cases u <;> simp[kdOf] at hd
 subst hd
 have hc:=cellsOf_ty he
 rw[DataW.trod_step] at e0
 unfold DataW.trodStep at e0
 rw[hu] at e0
 split at e0 <;> rename_i heq <;> first | (cases heq;done) | skip
 ·cases e0
  refine⟨by simp[Value.oneCell'],_,.cons .vecN .nil,[],rfl,by simp,by simp[Rows.uptoBulk],by simp⟩
 ·rename_i a len cap
  cases heq
  simp only at e0
  split at e0
  ·rename_i hcond
   obtain⟨_,hlc,hcm⟩:=hcond
   simp only[Option.map_eq_some_iff,Option.bind_eq_some_iff] at e0
   obtain⟨elems,hel,rest,hrest,heq2⟩:=e0
   cases heq2
   have hlen:elems.length=len:=by simpa using mapM_some_length hel
   refine⟨by simp[Value.oneCell'],?_⟩
   have row:∀ i,i<len→∃ y,elems[i]? = some y∧∃ cs',cs'.length=te.size∧(∀ j v,cs'[j]? = some v→W.cell? (a.add (i * te.size+j))=some v)∧(∀ c∈cs',c.oneCell'=true)∧∃ av,RepL (gm (memOf W)) cs' av∧E av (Rows.uptoBulk y.1):=by
    intro i hi
    obtain⟨y,h1,h2⟩:=mapM_get hel i i (by simp[hi])
    simp only[Option.bind_eq_some_iff] at h2
    obtain⟨cs',hc1,hc2⟩:=h2
    rw[hc] at hc1
    obtain⟨c1,c2⟩:=cells_some hc1
    obtain⟨y1,y2⟩:=y
    obtain⟨r1,r2⟩:=hE _ _ _ hc2
    refine⟨_,h1,cs',c1,fun j v e=>?_,r1,r2⟩
    rw[← add_add];exact(c2 j v e).2
   by_cases h0:len=0
   ·subst h0
    have:elems=[]:=List.length_eq_zero_iff.1 hlen
    subst this
    exact⟨_,.cons (.vecE (fun q=>by cases q)) .nil,[],rfl,by simp,by simp[Rows.uptoBulk,Rows.uptoBulkAll],by simp⟩
   ·
    have hp:0<len:=by omega
    obtain⟨y0,g1,cs0,g2,g3,_⟩:=row 0 hp
    obtain⟨v0,hv0⟩:∃ v0,cs0[0]? = some v0:=⟨cs0[0]'(by omega),by simp⟩
    have ha:a=⟨a.block,a.off,none⟩:=by
     have:=g3 0 v0 hv0
     have h2:=spot_none (a:=a) (i:=0) (by simpa using this)
     simpa [Addr.add] using h2
    classical
    let asf:Nat→List AV:=fun i=>if hi:i<len then (row i hi).choose_spec.2.choose_spec.2.2.2.choose else []
    let csf:Nat→List Value:=fun i=>if hi:i<len then (row i hi).choose_spec.2.choose else []
    let yf:Nat→Nat:=fun i=>if hi:i<len then Rows.uptoBulk (row i hi).choose.1 else 0
    have fact:∀ i,i<len→elems[i]?.map (fun y=>Rows.uptoBulk y.1)=some (yf i)∧(csf i).length=te.size∧(∀ j v,(csf i)[j]? = some v→W.cell? (a.add (i * te.size+j))=some v)∧(∀ c∈csf i,c.oneCell'=true)∧RepL (gm (memOf W)) (csf i) (asf i)∧E (asf i) (yf i)∧1≤yf i:=by
     intro i hi
     have q:=(row i hi).choose_spec
     have q2:=q.2.choose_spec
     have q3:=q2.2.2.2.choose_spec
     simp only[asf,csf,yf,dif_pos hi]
     exact⟨congrArg (Option.map fun y=>Rows.uptoBulk y.1) q.1,q2.1,q2.2.1,q2.2.2.1,q3.1,q3.2,bulk_one _⟩
    let l:List (List AV × Nat):=(List.range len).map fun i=>(asf i,yf i)
    have hll:l.length=len:=by simp[l]
    have hxs:(l.map (·.1))=(List.range len).map asf:=by simp[l,Function.comp_def]
    have hys:(l.map (·.2))=elems.map (fun y=>Rows.uptoBulk y.1):=by
     apply List.ext_getElem?
     intro i
     simp only[l,List.map_map,List.getElem?_map,Function.comp_def]
     by_cases hi:i<len
     ·rw[(fact i hi).1];simp[hi]
     ·simp[List.getElem?_eq_none (l:=elems) (i:=i) (by omega),hi]
    refine⟨[.vec (l.map (·.1)) false],.cons ?_ .nil,l,rfl,?_,?_,by rw[hll];omega⟩
    ·rw[ha]
     have key:Rep (gm (memOf W)) (.slice (some ⟨a.block,a.off,none⟩) ((List.range len).map asf).length cap) (.vec ((List.range len).map asf) false):=by
      refine .vec (s:=te.size) (fun i j=>(csf i).getD j (.bool false)) ?_ (fun q=>by cases q) (by simpa using hlc) ?_ ?_
      ·intro x hx
       obtain⟨i,hi,rfl⟩:=List.mem_map.1 hx
       have:=fact i (by simpa using hi)
       rw[← this.2.2.2.2.1.1];exact this.2.1
      ·intro i x j b e1 e2
       have hi:i<len:=by have:=(List.getElem?_eq_some_iff.1 e1).1;simpa using this
       have hx:asf i=x:=by simpa [hi] using e1
       subst hx
       obtain⟨_,f2,f3,f4,f5,_⟩:=fact i hi
       have hj:j<(csf i).length:=by rw[f5.1];exact(List.getElem?_eq_some_iff.1 e2).1
       have hv:(csf i)[j]? = some ((csf i).getD j (.bool false)):=by simp[List.getD,hj]
       have hcell:=f3 j _ hv
       have:=spot_none hcell
       rw[this] at hcell
       rw[Nat.add_assoc]
       exact memOf_some hcell (f4 _ (List.mem_of_getElem? hv))
      ·intro i x j b e1 e2
       have hi:i<len:=by have:=(List.getElem?_eq_some_iff.1 e1).1;simpa using this
       have hx:asf i=x:=by simpa [hi] using e1
       subst hx
       obtain⟨_,f2,f3,f4,f5,_⟩:=fact i hi
       have hj:j<(csf i).length:=by rw[f5.1];exact(List.getElem?_eq_some_iff.1 e2).1
       have hv:(csf i)[j]? = some ((csf i).getD j (.bool false)):=by simp[List.getD,hj]
       exact f5.2 j _ b hv e2
     rw[hxs]
     simpa using key
    ·intro p hp
     obtain⟨i,hi,rfl⟩:=List.mem_map.1 hp
     obtain⟨_,f2,_,_,f5,f6,f7⟩:=fact i (by simpa using hi)
     exact⟨f6,f7,by rw[← f5.1];exact f2⟩
    ·rw[hys]
     simp only[Rows.uptoBulk,bulkAll_sum,List.map_map]
     have:(List.map (Rows.uptoBulk ∘ fun x=>x.fst) elems).sum=(List.map (fun y=>Rows.uptoBulk y.1) elems).sum:=rfl
     omega
  ·cases e0
 all_goals simp_all
def RdFs (enc:TypeId × Value→H)(P:Program)(W:World)(n N:Nat)(fs:List (Nat × TypeId))(k:Nat)(E:List AV→Nat→Prop):Prop :=
 ∀ (cs:List Value) (xs:List (DataW H × List MemPlace)),cs.length=N→(fs.mapM fun f=>DataW.trod enc P W 0 (fun _=>true) true n f.2 ((cs.drop f.1).take (P.cellsOf f.2)))=some xs →
  (∀ c∈cs.drop k,c.oneCell'=true)∧∃ av,RepL (gm (memOf W)) (cs.drop k) av∧E av (Rows.uptoBulkAll (xs.map (·.1)))
theorem RdFs.nil{n N k:Nat}(h:N≤k):RdFs enc P W n N [] k (fun av m=>av=[]):=fun cs xs hl _=>by
 have:cs.drop k=[]:=List.drop_eq_nil_of_le (by omega)
 rw[this]
 exact⟨by simp,[],.nil,rfl⟩
theorem RdFs.cons{n N k t:Nat}{ti:TI}{fs:List (Nat × TypeId)}{E F:List AV→Nat→Prop}(ht:tyOf P t=some ti)(h:Rd enc P W n t E)(r:RdFs enc P W n N fs (k+ti.size) F) :
  RdFs enc P W n N ((k,t) :: fs) k (fun av m=>∃ a b p q,av=a++b∧E a p∧F b q∧p+q=m):=by
 intro cs xs hl hm
 rw[List.mapM_cons] at hm
 simp only[bind,Option.bind_eq_some_iff,pure,Option.some.injEq] at hm
 obtain⟨⟨d,ps⟩,h1,ys,h2,rfl⟩:=hm
 obtain⟨q1,av,q2,q3⟩:=h _ _ _ h1
 obtain⟨r1,bs,r2,r3⟩:=r cs ys hl h2
 have e:cs.drop k=(cs.drop k).take (P.cellsOf t)++cs.drop (k+ti.size):=by
  rw[cellsOf_ty ht,← List.drop_drop,List.take_append_drop]
 rw[e]
 refine⟨fun c hc=>?_,av++bs,q2.append r2,av,bs,_,_,rfl,q3,r3,?_⟩
 ·rcases List.mem_append.1 hc with hc | hc
  ·exact q1 c hc
  ·exact r1 c hc
 ·simp[Rows.uptoBulkAll]
theorem mapM_map'{α β γ:Type}(f:α→β)(g:β→Option γ):∀ l:List α,(l.map f).mapM g=l.mapM fun x=>g (f x)
 | []=>by simp
 | x :: l=>by simp only[List.map_cons,List.mapM_cons,mapM_map' f g l]
theorem Rd.struct{n:Nat}{t:TypeId}{ti:TI}(h:tyOf P t=some ti){fs:List (Nat × TypeId)}(hk:ti.kd = .st fs){E:List AV→Nat→Prop}(hE:RdFs enc P W n ti.size fs 0 E) :
  Rd enc P W (n+1) t (fun av m=>∃ q,E av q∧q+1=m):=by
 intro cs d ps e0
 obtain⟨u,hu,hd,hc⟩:=under_of h
 rw[hk] at hd
 cases u <;> simp[kdOf] at hd
 rename_i fs'
 subst hd
 rw[DataW.trod_step] at e0
 unfold DataW.trodStep at e0
 rw[hu] at e0
 have key:(if cs.length=P.cellsOf t then (fs'.toList.mapM fun f=>DataW.trod enc P W 0 (fun _=>true) true n f.type ((cs.drop f.offset).take (P.cellsOf f.type))).map fun xs=>(DataW.agg (xs.map (·.1)),xs.flatMap (·.2)) else none)=some (d,ps):=by
  split at e0 <;> rename_i heq <;> first | (cases heq;done) | skip
  ·cases heq;exact e0
  all_goals simp_all
 split at key
 ·rename_i hl
  simp only[Option.map_eq_some_iff,Prod.mk.injEq] at key
  obtain⟨xs,h1,rfl,rfl⟩:=key
  rw[hc] at hl
  obtain⟨r1,av,r2,r3⟩:=hE cs xs hl (by rw[mapM_map'];exact h1)
  exact⟨by simpa using r1,av,by simpa using r2,_,r3,by simp[Rows.uptoBulk]⟩
 ·cases key
theorem rows_of{T:Type}{f:T→List AV}{sz:T→Nat}{E:List AV→Nat→Prop}(hE:∀ a m,E a m→∃ t,a=f t∧sz t≤m):∀ (l:List (List AV × Nat)),(∀ p∈l,E p.1 p.2)→∃ ts:List T,l.map (·.1)=ts.map f∧(ts.map sz).sum≤(l.map (·.2)).sum
 | [],_=>⟨[],rfl,Nat.le_refl _⟩
 | p :: l,h=>by
  obtain⟨t,h1,h2⟩:=hE _ _ (h p (by simp))
  obtain⟨ts,h3,h4⟩:=rows_of hE l (fun q hq=>h q (by simp[hq]))
  exact⟨t :: ts,by simp[h1,h3],by simp;omega⟩
end
end Go.Proofs.YtbbnfbnicacdoaaGreat
end
section
namespace Go.Proofs.YtbbnfbnicacdoaaGreat
open Go Go.Ab
open Go.Proofs.Tryz renaming prog→Pg
set_option maxRecDepth 20000
theorem i64w{n:Int}(h : -9223372036854775808≤n)(k:n≤9223372036854775807):IntKind.i64.wrap n=n:=IntWalk.i64_in n ⟨h,k⟩
theorem mixed:Tryz.prog.follows .mixedOrders=true:=by decide
theorem ret1{σ:St}{h:Hp}{v:AV}{N:Nat}(t:Nat)(ho:Own h)(hN:h.nx=N)(hle:N≤σ.hp.nx)(hv:lk σ.slots t=some v)(hp:Rn id N v v)(hb:∀ p∈h.boxes,lk σ.hp.boxes p.1=some p.2)(ht:∀ p∈h.toks,lk σ.hp.toks p.1=some p.2) :
  ∃ σ',St.cp N σ σ'∧resK (resOf Pg σ' [.tmp t]) (fun r h'=>r=v∧h'=h) σ'.hp:=retC_one t ho hN hle hv hp hb ht
abbrev I8:={z:Int // -128≤z∧z≤127}
theorem I8.lo(z:I8) : -128≤z.1:=z.2.1
theorem I8.hi(z:I8):z.1≤127:=z.2.2
instance:Inhabited I8:=⟨⟨0,by decide⟩⟩
inductive Gd where
 | mk (op:I8) (n:Int) (name:ByteArray) (kids:List Gd)
structure Ed where
 op:I8
 set:List (Int × Int)
 n:Int
 level:Int
 g:Gd
 acts:List (Int × Int)
 to:Int
structure Sta where
 rule:Int
 edges:List Ed
structure Nr where
 name:ByteArray
 lexer:Bool
 frag:Bool
 lz:Bool
 left:Bool
 mode:Int
 type:Int
 start:Int
 stop:Int
structure Nt where
 types:List ByteArray
 channels:List ByteArray
 modes:List ByteArray
 rules:List Nr
 states:List Sta
structure It where
 type:Int
 index:Int
 column:Int
 made:Bool
 token:Int
structure Orc where
 id:Int
 index:Int
 says:Bool
instance:Inhabited Gd:=⟨.mk default 0 ⟨#[]⟩ []⟩
instance:Inhabited Ed:=⟨⟨default,[],0,0,default,[],0⟩⟩
instance:Inhabited Sta:=⟨⟨0,[]⟩⟩
instance:Inhabited Nr:=⟨⟨⟨#[]⟩,false,false,false,false,0,0,0,0⟩⟩
instance:Inhabited Nt:=⟨⟨[],[],[],[],[]⟩⟩
instance:Inhabited It:=⟨⟨0,0,0,false,0⟩⟩
instance:Inhabited Orc:=⟨⟨0,0,false⟩⟩
def Gd.op:Gd→I8 | .mk a _ _ _=>a
def Gd.n:Gd→Int | .mk _ a _ _=>a
def Gd.name:Gd→ByteArray | .mk _ _ a _=>a
def Gd.kids:Gd→List Gd | .mk _ _ _ a=>a
mutual
def encG:Gd→List AV
 | .mk op n name kids=>[.lit (.int .i8 op.1),.lit (.int .i64 n),.lit (.string name),.vec (encGs kids) false]
def encGs:List Gd→List (List AV)
 | []=>[]
 | g :: l=>encG g :: encGs l
end
theorem encGs_map(l:List Gd):encGs l=l.map encG:=by induction l with | nil=>rfl | cons x l ih=>simp[encGs,ih]
theorem encG_eq(g:Gd):encG g=[.lit (.int .i8 g.op.1),.lit (.int .i64 g.n),.lit (.string g.name),.vec (g.kids.map encG) false]:=by cases g;simp only[encG,encGs_map];rfl
def encR (p:Int × Int):List AV:=[.lit (.int .i32 p.1),.lit (.int .i32 p.2)]
def encAct(p:Int × Int):List AV:=[.lit (.int .i8 p.1),.lit (.int .i64 p.2)]
def encE (e:Ed):List AV:=[.lit (.int .i8 e.op.1),.vec (e.set.map encR) false,.lit (.int .i64 e.n),.lit (.int .i64 e.level),.lit (.int .i8 e.g.op.1),.lit (.int .i64 e.g.n),.lit (.string e.g.name),.vec (e.g.kids.map encG) false,.vec (e.acts.map encAct) false,.lit (.int .i64 e.to)]
def encSt(s:Sta):List AV:=[.lit (.int .i64 s.rule),.vec (s.edges.map encE) false]
def encNr(r:Nr):List AV:=[.lit (.string r.name),.lit (.bool r.lexer),.lit (.bool r.frag),.lit (.bool r.lz),.lit (.bool r.left),.lit (.int .i64 r.mode),.lit (.int .i64 r.type),.lit (.int .i64 r.start),.lit (.int .i64 r.stop)]
def encB (b:ByteArray):List AV:=[.lit (.string b)]
def encN (n:Nt):List AV:=[.vec (n.types.map encB) false,.vec (n.channels.map encB) false,.vec (n.modes.map encB) false,.vec (n.rules.map encNr) false,.vec (n.states.map encSt) false]
def encI (i:It):List AV:=[.lit (.int .i64 i.type),.lit (.int .i64 i.index),.lit (.int .i64 i.column),.lit (.bool i.made),.lit (.int .i64 i.token)]
def encO (o:Orc):List AV:=[.lit (.int .i64 o.id),.lit (.int .i64 o.index),.lit (.bool o.says)]
def enc1 (n:Int):List AV:=[.lit (.int .i64 n)]
theorem encG_length(g:Gd):(encG g).length=4:=by cases g;rfl
theorem encE_length(e:Ed):(encE e).length=10:=rfl
theorem encSt_length(s:Sta):(encSt s).length=2:=rfl
theorem encNr_length(r:Nr):(encNr r).length=9:=rfl
theorem encN_length(n:Nt):(encN n).length=5:=rfl
theorem encI_length(i:It):(encI i).length=5:=rfl
theorem encO_length(o:Orc):(encO o).length=3:=rfl
theorem encR_length(o:Int × Int):(encR o).length=2:=rfl
theorem encAct_length(o:Int × Int):(encAct o).length=2:=rfl
theorem encB_length(o:ByteArray):(encB o).length=1:=rfl
theorem enc1_length(o:Int):(enc1 o).length=1:=rfl
theorem encG_take(g:Gd):(encG g).take 4=encG g:=by cases g;rfl
theorem encE_take(e:Ed):(encE e).take 10=encE e:=rfl
theorem encSt_take(s:Sta):(encSt s).take 2=encSt s:=rfl
theorem encNr_take(r:Nr):(encNr r).take 9=encNr r:=rfl
theorem encN_take(n:Nt):(encN n).take 5=encN n:=rfl
theorem encI_take(i:It):(encI i).take 5=encI i:=rfl
theorem encO_take(o:Orc):(encO o).take 3=encO o:=rfl
theorem encR_take(o:Int × Int):(encR o).take 2=encR o:=rfl
theorem encAct_take(o:Int × Int):(encAct o).take 2=encAct o:=rfl
theorem cp_drop'{σ σ':St}{N:Nat}(hN:N≤σ'.hp.nx)(hnx:σ'.hp.nx≤σ.hp.nx)(hnt:σ'.nt=σ.nt)(hs:∀ p∈σ'.slots,lk σ.slots p.1=some p.2∧Rn id σ'.hp.nx p.2 p.2)
  (hb:∀ p∈σ'.hp.boxes,p.1<σ'.hp.nx∧lk σ.hp.boxes p.1=some p.2∧RnL id σ'.hp.nx p.2 p.2)
  (ht:∀ p∈σ'.hp.toks,p.1<σ'.hp.nx∧lk σ.hp.toks p.1=some p.2∧RnR id σ'.hp.nx p.2.xs p.2.xs):St.cp N σ σ':=(St.cp_drop hnx hnt hs hb ht).mono hN
theorem map_getD{T:Type}(f:T→List AV){l:List T}{i:Nat}{x:T}(h:l[i]? = some x):(l.map f).getD i []=f x:=by simp[List.getD_eq_getElem?_getD,h]
theorem mapD{T:Type}[Inhabited T]{f:T→List AV}{l:List T}{i:Nat}(h:i<l.length):(l.map f).getD i []=f (l.getD i default):=by simp[List.getD_eq_getElem?_getD,List.getElem?_eq_getElem h]
theorem mapQ{T:Type}[Inhabited T]{f:T→List AV}{l:List T}{i:Nat}(h:i<l.length):(l.map f)[i]? = some (f (l.getD i default)):=by simp[List.getD_eq_getElem?_getD,List.getElem?_eq_getElem h]
theorem beqT{a b:Int}(h:a=b):(a==b)=true:=by rw[h];exact beq_self_eq_true b
theorem beqF{a b:Int}(h:¬ a=b):(a==b)=false:=by rw[beq_eq_false_iff_ne];exact h
theorem getD_mem{T:Type}[Inhabited T]{l:List T}{i:Nat}(h:i<l.length):l.getD i default∈l:=by rw[List.getD_eq_getElem?_getD,List.getElem?_eq_getElem h];exact List.getElem_mem h
theorem getD_get{T:Type}[Inhabited T]{l:List T}{i:Nat}(h:i<l.length):l[i]? = some (l.getD i default):=by rw[List.getD_eq_getElem?_getD,List.getElem?_eq_getElem h];rfl
theorem pure_lits{l:List AV}(h:∀ a∈l,∃ v,a = .lit v):∀ a∈l,Ab.Pure a:=fun a ha=>by obtain⟨v,rfl⟩:=h a ha;exact .lit v
theorem pure_rows{T:Type}{f:T→List AV}(h:∀ t,∀ c∈f t,Ab.Pure c)(l:List T):∀ x∈l.map f,∀ c∈x,Ab.Pure c:=fun x hx=>by
 obtain⟨t,_,rfl⟩:=List.mem_map.1 hx;exact h t
theorem pure_encG(g:Gd):∀ c∈encG g,Ab.Pure c:=by
 match g with
 | .mk op n name kids =>
  intro c hc
  simp only[encG,List.mem_cons,List.not_mem_nil,or_false] at hc
  rcases hc with rfl | rfl | rfl | rfl
  iterate 3 exact .lit _
  refine .vec fun x hx=>?_
  rw[encGs_map] at hx
  obtain⟨k,hk,rfl⟩:=List.mem_map.1 hx
  exact pure_encG k
termination_by SizeOf.sizeOf g
decreasing_by simp_wf;have:=List.sizeOf_lt_of_mem hk;omega
theorem pure_encR(p:Int × Int):∀ c∈encR p,Ab.Pure c:=pure_lits (by simp[encR])
theorem pure_encAct(p:Int × Int):∀ c∈encAct p,Ab.Pure c:=pure_lits (by simp[encAct])
theorem pure_encI(p:It):∀ c∈encI p,Ab.Pure c:=pure_lits (by simp[encI])
theorem pure_encO(p:Orc):∀ c∈encO p,Ab.Pure c:=pure_lits (by simp[encO])
theorem pure_encNr(p:Nr):∀ c∈encNr p,Ab.Pure c:=pure_lits (by simp[encNr])
theorem pure_encB(p:ByteArray):∀ c∈encB p,Ab.Pure c:=pure_lits (by simp[encB])
theorem pure_encE(e:Ed):∀ c∈encE e,Ab.Pure c :=
 allc (.lit _) (allc (.vec (pure_rows pure_encR _)) (allc (.lit _) (allc (.lit _) (allc (.lit _) (allc (.lit _) (allc (.lit _) (allc (.vec (pure_rows pure_encG _)) (allc (.vec (pure_rows pure_encAct _)) (allc (.lit _) alln)))))))))
theorem pure_encSt(s:Sta):∀ c∈encSt s,Ab.Pure c:=allc (.lit _) (allc (.vec (pure_rows pure_encE _)) alln)
theorem pure_encN(n:Nt):∀ c∈encN n,Ab.Pure c :=
 allc (.vec (pure_rows pure_encB _)) (allc (.vec (pure_rows pure_encB _)) (allc (.vec (pure_rows pure_encB _)) (allc (.vec (pure_rows pure_encNr _)) (allc (.vec (pure_rows pure_encSt _)) alln))))
def grA (t:Nat):List (List AV)→AV
 | []=>.vec [] true
 | _ :: l=>.own t (l.length+1)
def grT (t s:Nat):List (List AV)→List (Nat × Tk)
 | []=>[]
 | x :: l=>[(t,⟨x :: l,0,s⟩)]
def grN (t:Nat):List (List AV)→Nat
 | []=>t
 | _ :: _=>t+1
theorem fits_of'{n b:Nat}(h:n≤2000000000)(k:n * b≤140737488355328):fits n b:=⟨Nat.le_trans h (by decide),k⟩
theorem lk_app{α:Type}:∀ (l m:List (Nat × α)) (i:Nat),lk (l++m) i=(lk l i).or (lk m i)
 | [],m,i=>by simp[lk]
 | (j,x) :: l,m,i=>by
  simp only[List.cons_append,lk]
  split
  ·rfl
  ·exact lk_app l m i
theorem St.wk_slots1{σ:St}{sl:List (Nat × AV)}{bx:List (Nat × List AV)}{tk:List (Nat × Tk)}(hs:∀ p∈sl,lk σ.slots p.1=some p.2)(hb:∀ p∈bx,lk σ.hp.boxes p.1=some p.2)(ht:∀ t,lk σ.hp.toks t=lk tk t) :
  St.wk σ ⟨sl,⟨bx,tk,σ.hp.nx⟩,σ.nt⟩ :=
 fun g0 h0 w0 g w a r=>⟨g,⟨r.st.less rfl (fun i c e=>hb _ (lk_mem e)) (fun i c e=>(ht i).trans e),fun s v e=>r.slots s v (hs _ (lk_mem e)),r.nt,r.defers⟩⟩
mutual
def gsz:Gd→Nat
 | .mk _ _ _ kids=>1+gszs kids
def gszs:List Gd→Nat
 | []=>0
 | g :: l=>gsz g+gszs l
end
theorem gszs_sum(l:List Gd):gszs l=(l.map gsz).sum:=by induction l with | nil=>rfl | cons x l ih=>simp[gszs,ih]
theorem gsz_eq(g:Gd):gsz g=1+(g.kids.map gsz).sum:=by cases g;simp only[gsz,gszs_sum];rfl
theorem sum_mem{l:List Nat}{x:Nat}(h:x∈l):x≤l.sum:=by
 induction l with
 | nil=>cases h
 | cons y l ih =>
  simp only[List.sum_cons]
  rcases List.mem_cons.1 h with rfl | h
  ·omega
  ·have:=ih h;omega
theorem sum_len{T:Type}(f:T→Nat)(h:∀ t,1≤f t)(l:List T):l.length≤(l.map f).sum:=by
 induction l with
 | nil=>simp
 | cons x l ih=>have:=h x;simp only[List.length_cons,List.map_cons,List.sum_cons];omega
theorem gsz_pos(g:Gd):1≤gsz g:=by rw[gsz_eq];omega
theorem gsz_kid{g k:Gd}(h:k∈g.kids):gsz k<gsz g:=by rw[gsz_eq g];have:=sum_mem (List.mem_map_of_mem (f:=gsz) h);omega
theorem gsz_len(g:Gd):g.kids.length<gsz g:=by rw[gsz_eq g];have:=sum_len gsz gsz_pos g.kids;omega
theorem i8_wf{z:Int}(h:(Lit.int .i8 z).wf=true) : -128≤z∧z≤127:=by
 simp only[Lit.wf,Bool.and_eq_true,decide_eq_true_eq] at h
 have e1:IntKind.i8.min = -128:=by decide
 have e2:IntKind.i8.max=127:=by decide
 omega
section
variable {H:Type} {en:TypeId × Value→H} {W:World}
theorem Rd.slice'{n:Nat}{t e:TypeId}{ti te:TI}(h:tyOf Pg t=some ti)(hk:ti.kd = .sl e)(he:tyOf Pg e=some te)(hpos:0<te.size){T:Type}{f:T→List AV}{sz:T→Nat}
  (hE:∀ k,k<n→Rd en Pg W k e (fun av m=>∃ t:T,av=f t∧sz t≤m)) :
  Rd en Pg W n t (fun av m=>∃ l:List T,av=[.vec (l.map f) false]∧(l.map sz).sum+1≤m∧l.length+1≤m):=by
 cases n with
 | zero=>exact .zero
 | succ n =>
  refine(Rd.slice h hk he hpos (hE n (Nat.lt_succ_self n))).mono ?_
  rintro av m ⟨l,rfl,h1,h2,_⟩
  obtain⟨ts,h3,h4⟩:=rows_of (f:=f) (sz:=sz) (fun a m h=>h) l (fun p hp=>(h1 p hp).1)
  have hl:l.length=ts.length:=by have:=congrArg List.length h3;simpa using this
  have h5:l.length≤(l.map (·.2)).sum:=by
   have:∀ l:List (List AV × Nat),(∀ p∈l,1≤p.2)→l.length≤(l.map (·.2)).sum:=by
    intro l
    induction l with
    | nil=>intro _;simp
    | cons x l ih=>intro hh;have:=ih (fun p hp=>hh p (by simp[hp]));have:=hh x (by simp);simp only[List.length_cons,List.map_cons,List.sum_cons];omega
   exact this l (fun p hp=>(h1 p hp).2.1)
  exact⟨ts,by rw[h3],by omega,by omega⟩
theorem Rd.struct'{n:Nat}{t:TypeId}{ti:TI}(h:tyOf Pg t=some ti){fs:List (Nat × TypeId)}(hk:ti.kd = .st fs){E:List AV→Nat→Prop}(hE:∀ k,k<n→RdFs en Pg W k ti.size fs 0 E) :
  Rd en Pg W n t (fun av m=>∃ q,E av q∧q+1=m):=by
 cases n with
 | zero=>exact .zero
 | succ n=>exact .struct h hk (hE n (Nat.lt_succ_self n))
theorem rd_act(n:Nat):Rd en Pg W n 158 (fun av m=>∃ t:Int × Int,av=encAct t∧1≤m):=by
 refine(Rd.struct' ty158 rfl fun k hk=>.cons ty86 (.int ty86 rfl) (.cons ty3 (.int ty3 rfl) (.nil (by decide)))).mono ?_
 rintro av m ⟨q,h,rfl⟩
 obtain⟨_,_,_,_,rfl,⟨z1,_,rfl⟩,h,rfl⟩:=h
 obtain⟨_,_,_,_,rfl,⟨z2,_,rfl⟩,rfl,rfl⟩:=h
 exact⟨(z1,z2),rfl,by omega⟩
theorem rd_item(n:Nat):Rd en Pg W n 70 (fun av m=>∃ t:It,av=encI t∧1≤m):=by
 refine(Rd.struct' ty70 rfl fun k hk=>.cons ty3 (.int ty3 rfl) (.cons ty3 (.int ty3 rfl) (.cons ty3 (.int ty3 rfl) (.cons ty4 (.bool ty4 rfl) (.cons ty3 (.int ty3 rfl) (.nil (by decide))))))).mono ?_
 rintro av m ⟨q,h,rfl⟩
 obtain⟨_,_,_,_,rfl,⟨z1,_,rfl⟩,h,rfl⟩:=h
 obtain⟨_,_,_,_,rfl,⟨z2,_,rfl⟩,h,rfl⟩:=h
 obtain⟨_,_,_,_,rfl,⟨z3,_,rfl⟩,h,rfl⟩:=h
 obtain⟨_,_,_,_,rfl,⟨b,rfl⟩,h,rfl⟩:=h
 obtain⟨_,_,_,_,rfl,⟨z4,_,rfl⟩,rfl,rfl⟩:=h
 exact⟨⟨z1,z2,z3,b,z4⟩,rfl,by omega⟩
theorem rd_orc(n:Nat):Rd en Pg W n 56 (fun av m=>∃ t:Orc,av=encO t∧1≤m):=by
 refine(Rd.struct' ty56 rfl fun k hk=>.cons ty2 (.int ty2 rfl) (.cons ty2 (.int ty2 rfl) (.cons ty4 (.bool ty4 rfl) (.nil (by decide))))).mono ?_
 rintro av m ⟨q,h,rfl⟩
 obtain⟨_,_,_,_,rfl,⟨z1,_,rfl⟩,h,rfl⟩:=h
 obtain⟨_,_,_,_,rfl,⟨z2,_,rfl⟩,h,rfl⟩:=h
 obtain⟨_,_,_,_,rfl,⟨b,rfl⟩,rfl,rfl⟩:=h
 exact⟨⟨z1,z2,b⟩,rfl,by omega⟩
end
end Go.Proofs.YtbbnfbnicacdoaaGreat
end
section
namespace Go.Proofs.YtbbnfbnicacdoaaGreat
open Go Go.Ab
theorem Azz:(type_of% @if_pos.{1})∧(type_of% @if_neg.{1})∧(type_of% @decide_eq_true)∧(type_of% @decide_eq_false)∧(type_of% @mapD)∧(type_of% @mapQ)∧(type_of% @List.length_map.{0,0})∧(type_of% @Int.toNat_natCast)∧(type_of% @Int.toNat_zero)∧(type_of% @Int.toNat_one)∧(type_of% @i64w)∧(type_of% @bne.eq_def.{0})∧(type_of% @beqT)∧(type_of% @beqF)∧(type_of% @encE_length)∧(type_of% @encSt_length)∧(type_of% @encNr_length)∧(type_of% @encN_length)∧(type_of% @encI_length)∧(type_of% @encO_length)∧(type_of% @encR_length)∧(type_of% @encAct_length)∧(type_of% @encB_length)∧(type_of% @enc1_length)∧(type_of% @encG_length)∧(type_of% @encG_take)∧(type_of% @encE_take)∧(type_of% @encSt_take)∧(type_of% @encNr_take)∧(type_of% @encN_take)∧(type_of% @encI_take)∧(type_of% @encO_take)∧(type_of% @encR_take)∧(type_of% @encAct_take):=⟨@if_pos.{1},@if_neg.{1},@decide_eq_true,@decide_eq_false,@mapD,@mapQ,@List.length_map.{0,0},@Int.toNat_natCast,@Int.toNat_zero,@Int.toNat_one,@i64w,@bne.eq_def.{0},@beqT,@beqF,@encE_length,@encSt_length,@encNr_length,@encN_length,@encI_length,@encO_length,@encR_length,@encAct_length,@encB_length,@enc1_length,@encG_length,@encG_take,@encE_take,@encSt_take,@encNr_take,@encN_take,@encI_take,@encO_take,@encR_take,@encAct_take⟩
theorem Wz:(type_of% @Wa)∧(type_of% @tyW)∧(type_of% @Azz)∧(type_of% @decide_false)∧(type_of% @decide_true)∧(type_of% @Bool.not_false)∧(type_of% @Bool.not_true):=⟨Wa,tyW,Azz,@decide_false,@decide_true,Bool.not_false,Bool.not_true⟩
end Go.Proofs.YtbbnfbnicacdoaaGreat
end
