/- What the claim wants of the machine, the contracts and the law, laid together. -/
import Derived.Test.YtgbbhilflgekhaaDoorXc
import Derived.Test.YtgbbhilflgekhaaDoorProg
import Derived.KernelRfl
import Derived.Test.YtgbbhilflgekhaaDoorRows
import Derived.ChangeReads
import Derived.WideShapes
set_option linter.unusedVariables false
set_option linter.unusedSimpArgs false
section
namespace Go.Proofs.YtgbbhilflgekhaaDoor
open Go.Ab
set_option maxRecDepth 20000
theorem ty1:tyOf Tryd.prog 1=some {kd:=.oth,size:=1,bytes:=8,zero:=some [.lit .nilFunc]}:=by kernel_rfl
theorem fn1:isFn Tryd.prog 1=true:=by kernel_rfl
theorem ty2:tyOf Tryd.prog 2=some {kd:=.int .i64,size:=1,bytes:=8,zero:=some [.lit (.int .i64 0)]}:=by kernel_rfl
theorem ty3:tyOf Tryd.prog 3=some {kd:=.int .i64,size:=1,bytes:=8,zero:=some [.lit (.int .i64 0)]}:=by kernel_rfl
theorem ty4:tyOf Tryd.prog 4=some {kd:=.bool,size:=1,bytes:=1,zero:=some [.lit (.bool false)]}:=by kernel_rfl
theorem zr4:zeroAV Tryd.prog 4=some (.lit (.bool false)):=by kernel_rfl
theorem ty5:tyOf Tryd.prog 5=some {kd:=.int .u8,size:=1,bytes:=1,zero:=some [.lit (.int .u8 0)]}:=by kernel_rfl
theorem ty6:tyOf Tryd.prog 6=some {kd:=.int .u8,size:=1,bytes:=1,zero:=some [.lit (.int .u8 0)]}:=by kernel_rfl
theorem ty7:tyOf Tryd.prog 7=some {kd:=.st [(0,2),(1,3),(2,4),(3,6)],size:=4,bytes:=24,zero:=some [.lit (.int .i64 0),.lit (.int .i64 0),.lit (.bool false),.lit (.int .u8 0)]}:=by kernel_rfl
theorem ty8:tyOf Tryd.prog 8=some {kd:=.st [(0,2),(1,3),(2,4),(3,6)],size:=4,bytes:=24,zero:=some [.lit (.int .i64 0),.lit (.int .i64 0),.lit (.bool false),.lit (.int .u8 0)]}:=by kernel_rfl
theorem ty9:tyOf Tryd.prog 9=some {kd:=.str,size:=1,bytes:=16,zero:=some [.lit (.string ⟨#[]⟩)]}:=by kernel_rfl
theorem ty10:tyOf Tryd.prog 10=some {kd:=.str,size:=1,bytes:=16,zero:=some [.lit (.string ⟨#[]⟩)]}:=by kernel_rfl
theorem ty11:tyOf Tryd.prog 11=some {kd:=.str,size:=1,bytes:=16,zero:=some [.lit (.string ⟨#[]⟩)]}:=by kernel_rfl
theorem ty12:tyOf Tryd.prog 12=some {kd:=.int .u64,size:=1,bytes:=8,zero:=some [.lit (.int .u64 0)]}:=by kernel_rfl
theorem ty13:tyOf Tryd.prog 13=some {kd:=.st [(0,9),(1,12)],size:=2,bytes:=24,zero:=some [.lit (.string ⟨#[]⟩),.lit (.int .u64 0)]}:=by kernel_rfl
theorem ty14:tyOf Tryd.prog 14=some {kd:=.st [(0,9),(1,12)],size:=2,bytes:=24,zero:=some [.lit (.string ⟨#[]⟩),.lit (.int .u64 0)]}:=by kernel_rfl
theorem ty15:tyOf Tryd.prog 15=some {kd:=.oth,size:=1,bytes:=8,zero:=some [.lit (.pointer none)]}:=by kernel_rfl
theorem pt15:isPtr Tryd.prog 15=true:=by kernel_rfl
theorem ty16:tyOf Tryd.prog 16=some {kd:=.oth,size:=1,bytes:=8,zero:=some [.lit (.pointer none)]}:=by kernel_rfl
theorem pt16:isPtr Tryd.prog 16=true:=by kernel_rfl
theorem ty17:tyOf Tryd.prog 17=some {kd:=.oth,size:=1,bytes:=8,zero:=some [.lit (.pointer none)]}:=by kernel_rfl
theorem pt17:isPtr Tryd.prog 17=true:=by kernel_rfl
theorem ty18:tyOf Tryd.prog 18=some {kd:=.st [(0,17)],size:=1,bytes:=8,zero:=some [.lit (.pointer none)]}:=by kernel_rfl
theorem ty19:tyOf Tryd.prog 19=some {kd:=.st [(0,17)],size:=1,bytes:=8,zero:=some [.lit (.pointer none)]}:=by kernel_rfl
theorem ty21:tyOf Tryd.prog 21=some {kd:=.int .i32,size:=1,bytes:=4,zero:=some [.lit (.int .i32 0)]}:=by kernel_rfl
theorem ty22:tyOf Tryd.prog 22=some {kd:=.sl 9,size:=1,bytes:=24,zero:=some [.vec [] true]}:=by kernel_rfl
theorem ty23:tyOf Tryd.prog 23=some {kd:=.sl 48,size:=1,bytes:=24,zero:=some [.vec [] true]}:=by kernel_rfl
theorem ty24:tyOf Tryd.prog 24=some {kd:=.sl 52,size:=1,bytes:=24,zero:=some [.vec [] true]}:=by kernel_rfl
theorem ty25:tyOf Tryd.prog 25=some {kd:=.st [(0,22),(1,22),(2,22),(3,23),(4,24)],size:=5,bytes:=120,zero:=some [.vec [] true,.vec [] true,.vec [] true,.vec [] true,.vec [] true]}:=by kernel_rfl
theorem ty26:tyOf Tryd.prog 26=some {kd:=.st [(0,22),(1,22),(2,22),(3,23),(4,24)],size:=5,bytes:=120,zero:=some [.vec [] true,.vec [] true,.vec [] true,.vec [] true,.vec [] true]}:=by kernel_rfl
theorem ty27:tyOf Tryd.prog 27=some {kd:=.sl 5,size:=1,bytes:=24,zero:=some [.vec [] true]}:=by kernel_rfl
theorem ty28:tyOf Tryd.prog 28=some {kd:=.oth,size:=1,bytes:=8,zero:=some [.lit .nilFunc]}:=by kernel_rfl
theorem fn28:isFn Tryd.prog 28=true:=by kernel_rfl
theorem ty29:tyOf Tryd.prog 29=some {kd:=.oth,size:=1,bytes:=8,zero:=some [.lit .nilFunc]}:=by kernel_rfl
theorem fn29:isFn Tryd.prog 29=true:=by kernel_rfl
theorem ty30:tyOf Tryd.prog 30=some {kd:=.oth,size:=1,bytes:=8,zero:=some [.lit .nilFunc]}:=by kernel_rfl
theorem fn30:isFn Tryd.prog 30=true:=by kernel_rfl
theorem ty31:tyOf Tryd.prog 31=some {kd:=.sl 3,size:=1,bytes:=24,zero:=some [.vec [] true]}:=by kernel_rfl
theorem ty32:tyOf Tryd.prog 32=some {kd:=.sl 21,size:=1,bytes:=24,zero:=some [.vec [] true]}:=by kernel_rfl
theorem ty33:tyOf Tryd.prog 33=some {kd:=.st [(0,27),(1,31),(2,32),(3,31)],size:=4,bytes:=96,zero:=some [.vec [] true,.vec [] true,.vec [] true,.vec [] true]}:=by kernel_rfl
theorem ty34:tyOf Tryd.prog 34=some {kd:=.st [(0,27),(1,31),(2,32),(3,31)],size:=4,bytes:=96,zero:=some [.vec [] true,.vec [] true,.vec [] true,.vec [] true]}:=by kernel_rfl
theorem ty35:tyOf Tryd.prog 35=some {kd:=.oth,size:=1,bytes:=8,zero:=some [.lit .nilFunc]}:=by kernel_rfl
theorem fn35:isFn Tryd.prog 35=true:=by kernel_rfl
theorem ty36:tyOf Tryd.prog 36=some {kd:=.oth,size:=1,bytes:=8,zero:=some [.lit .nilFunc]}:=by kernel_rfl
theorem fn36:isFn Tryd.prog 36=true:=by kernel_rfl
theorem ty37:tyOf Tryd.prog 37=some {kd:=.sl 82,size:=1,bytes:=24,zero:=some [.vec [] true]}:=by kernel_rfl
theorem ty38:tyOf Tryd.prog 38=some {kd:=.int .i64,size:=1,bytes:=8,zero:=some [.lit (.int .i64 0)]}:=by kernel_rfl
theorem ty40:tyOf Tryd.prog 40=some {kd:=.oth,size:=1,bytes:=8,zero:=some [.lit .nilFunc]}:=by kernel_rfl
theorem fn40:isFn Tryd.prog 40=true:=by kernel_rfl
theorem ty41:tyOf Tryd.prog 41=some {kd:=.oth,size:=1,bytes:=8,zero:=some [.lit .nilFunc]}:=by kernel_rfl
theorem fn41:isFn Tryd.prog 41=true:=by kernel_rfl
theorem ty42:tyOf Tryd.prog 42=some {kd:=.oth,size:=1,bytes:=8,zero:=some [.lit .nilFunc]}:=by kernel_rfl
theorem fn42:isFn Tryd.prog 42=true:=by kernel_rfl
theorem ty43:tyOf Tryd.prog 43=some {kd:=.sl 161,size:=1,bytes:=24,zero:=some [.vec [] true]}:=by kernel_rfl
theorem ty44:tyOf Tryd.prog 44=some {kd:=.oth,size:=1,bytes:=8,zero:=some [.lit .nilFunc]}:=by kernel_rfl
theorem fn44:isFn Tryd.prog 44=true:=by kernel_rfl
theorem ty45:tyOf Tryd.prog 45=some {kd:=.oth,size:=1,bytes:=8,zero:=some [.lit .nilFunc]}:=by kernel_rfl
theorem fn45:isFn Tryd.prog 45=true:=by kernel_rfl
theorem ty46:tyOf Tryd.prog 46=some {kd:=.oth,size:=1,bytes:=8,zero:=some [.lit .nilFunc]}:=by kernel_rfl
theorem fn46:isFn Tryd.prog 46=true:=by kernel_rfl
theorem ty47:tyOf Tryd.prog 47=some {kd:=.st [(0,9),(1,4),(2,4),(3,4),(4,4),(5,3),(6,3),(7,3),(8,3)],size:=9,bytes:=56,zero:=some [.lit (.string ⟨#[]⟩),.lit (.bool false),.lit (.bool false),.lit (.bool false),.lit (.bool false),.lit (.int .i64 0),.lit (.int .i64 0),.lit (.int .i64 0),.lit (.int .i64 0)]}:=by kernel_rfl
theorem ty48:tyOf Tryd.prog 48=some {kd:=.st [(0,9),(1,4),(2,4),(3,4),(4,4),(5,3),(6,3),(7,3),(8,3)],size:=9,bytes:=56,zero:=some [.lit (.string ⟨#[]⟩),.lit (.bool false),.lit (.bool false),.lit (.bool false),.lit (.bool false),.lit (.int .i64 0),.lit (.int .i64 0),.lit (.int .i64 0),.lit (.int .i64 0)]}:=by kernel_rfl
theorem nmOk48:namesOk Tryd.prog 48=true:=by kernel_rfl
theorem kyOk48:keyTyOk Tryd.prog 48 [(0,9),(1,4),(2,4),(3,4),(4,4),(5,3),(6,3),(7,3),(8,3)]=true:=by kernel_rfl
theorem ty49:tyOf Tryd.prog 49=some {kd:=.oth,size:=1,bytes:=8,zero:=some [.lit .nilFunc]}:=by kernel_rfl
theorem fn49:isFn Tryd.prog 49=true:=by kernel_rfl
theorem ty50:tyOf Tryd.prog 50=some {kd:=.sl 60,size:=1,bytes:=24,zero:=some [.vec [] true]}:=by kernel_rfl
theorem ty51:tyOf Tryd.prog 51=some {kd:=.st [(0,3),(1,50)],size:=2,bytes:=32,zero:=some [.lit (.int .i64 0),.vec [] true]}:=by kernel_rfl
theorem ty52:tyOf Tryd.prog 52=some {kd:=.st [(0,3),(1,50)],size:=2,bytes:=32,zero:=some [.lit (.int .i64 0),.vec [] true]}:=by kernel_rfl
theorem ty53:tyOf Tryd.prog 53=some {kd:=.int .i8,size:=1,bytes:=1,zero:=some [.lit (.int .i8 0)]}:=by kernel_rfl
theorem ty54:tyOf Tryd.prog 54=some {kd:=.sl 99,size:=1,bytes:=24,zero:=some [.vec [] true]}:=by kernel_rfl
theorem ty55:tyOf Tryd.prog 55=some {kd:=.sl 99,size:=1,bytes:=24,zero:=some [.vec [] true]}:=by kernel_rfl
theorem ty56:tyOf Tryd.prog 56=some {kd:=.sl 58,size:=1,bytes:=24,zero:=some [.vec [] true]}:=by kernel_rfl
theorem ty57:tyOf Tryd.prog 57=some {kd:=.st [(0,53),(1,2),(2,9),(3,56)],size:=4,bytes:=56,zero:=some [.lit (.int .i8 0),.lit (.int .i64 0),.lit (.string ⟨#[]⟩),.vec [] true]}:=by kernel_rfl
theorem ty58:tyOf Tryd.prog 58=some {kd:=.st [(0,53),(1,2),(2,9),(3,56)],size:=4,bytes:=56,zero:=some [.lit (.int .i8 0),.lit (.int .i64 0),.lit (.string ⟨#[]⟩),.vec [] true]}:=by kernel_rfl
theorem ty59:tyOf Tryd.prog 59=some {kd:=.st [(0,53),(1,55),(2,3),(3,3),(4,58),(8,37),(9,3)],size:=10,bytes:=136,zero:=some [.lit (.int .i8 0),.vec [] true,.lit (.int .i64 0),.lit (.int .i64 0),.lit (.int .i8 0),.lit (.int .i64 0),.lit (.string ⟨#[]⟩),.vec [] true,.vec [] true,.lit (.int .i64 0)]}:=by kernel_rfl
theorem ty60:tyOf Tryd.prog 60=some {kd:=.st [(0,53),(1,55),(2,3),(3,3),(4,58),(8,37),(9,3)],size:=10,bytes:=136,zero:=some [.lit (.int .i8 0),.vec [] true,.lit (.int .i64 0),.lit (.int .i64 0),.lit (.int .i8 0),.lit (.int .i64 0),.lit (.string ⟨#[]⟩),.vec [] true,.vec [] true,.lit (.int .i64 0)]}:=by kernel_rfl
theorem ty61:tyOf Tryd.prog 61=some {kd:=.oth,size:=1,bytes:=8,zero:=some [.lit .nilFunc]}:=by kernel_rfl
theorem fn61:isFn Tryd.prog 61=true:=by kernel_rfl
theorem ty63:tyOf Tryd.prog 63=some {kd:=.oth,size:=1,bytes:=8,zero:=some [.lit .nilFunc]}:=by kernel_rfl
theorem fn63:isFn Tryd.prog 63=true:=by kernel_rfl
theorem ty65:tyOf Tryd.prog 65=some {kd:=.oth,size:=1,bytes:=8,zero:=some [.lit .nilFunc]}:=by kernel_rfl
theorem fn65:isFn Tryd.prog 65=true:=by kernel_rfl
theorem ty66:tyOf Tryd.prog 66=some {kd:=.oth,size:=1,bytes:=8,zero:=some [.lit (.pointer none)]}:=by kernel_rfl
theorem pt66:isPtr Tryd.prog 66=true:=by kernel_rfl
theorem ty68:tyOf Tryd.prog 68=some {kd:=.oth,size:=1,bytes:=8,zero:=some [.lit .nilFunc]}:=by kernel_rfl
theorem fn68:isFn Tryd.prog 68=true:=by kernel_rfl
theorem ty69:tyOf Tryd.prog 69=some {kd:=.oth,size:=1,bytes:=8,zero:=some [.lit .nilFunc]}:=by kernel_rfl
theorem fn69:isFn Tryd.prog 69=true:=by kernel_rfl
theorem ty70:tyOf Tryd.prog 70=some {kd:=.oth,size:=1,bytes:=8,zero:=some [.lit .nilFunc]}:=by kernel_rfl
theorem fn70:isFn Tryd.prog 70=true:=by kernel_rfl
theorem ty71:tyOf Tryd.prog 71=some {kd:=.oth,size:=1,bytes:=8,zero:=some [.lit .nilFunc]}:=by kernel_rfl
theorem fn71:isFn Tryd.prog 71=true:=by kernel_rfl
theorem ty72:tyOf Tryd.prog 72=some {kd:=.st [(0,3),(1,37)],size:=2,bytes:=32,zero:=some [.lit (.int .i64 0),.vec [] true]}:=by kernel_rfl
theorem ty73:tyOf Tryd.prog 73=some {kd:=.st [(0,3),(1,37)],size:=2,bytes:=32,zero:=some [.lit (.int .i64 0),.vec [] true]}:=by kernel_rfl
theorem ty74:tyOf Tryd.prog 74=some {kd:=.st [(0,21),(1,3),(2,3)],size:=3,bytes:=24,zero:=some [.lit (.int .i32 0),.lit (.int .i64 0),.lit (.int .i64 0)]}:=by kernel_rfl
theorem ty75:tyOf Tryd.prog 75=some {kd:=.st [(0,21),(1,3),(2,3)],size:=3,bytes:=24,zero:=some [.lit (.int .i32 0),.lit (.int .i64 0),.lit (.int .i64 0)]}:=by kernel_rfl
theorem nmOk75:namesOk Tryd.prog 75=true:=by kernel_rfl
theorem kyOk75:keyTyOk Tryd.prog 75 [(0,21),(1,3),(2,3)]=true:=by kernel_rfl
theorem ty76:tyOf Tryd.prog 76=some {kd:=.sl 75,size:=1,bytes:=24,zero:=some [.vec [] true]}:=by kernel_rfl
theorem ty77:tyOf Tryd.prog 77=some {kd:=.map 102 85,size:=1,bytes:=8,zero:=some [.lit (.map none)]}:=by kernel_rfl
theorem ty78:tyOf Tryd.prog 78=some {kd:=.st [(0,26),(5,76),(6,43),(7,3),(8,77)],size:=9,bytes:=184,zero:=some [.vec [] true,.vec [] true,.vec [] true,.vec [] true,.vec [] true,.vec [] true,.vec [] true,.lit (.int .i64 0),.lit (.map none)]}:=by kernel_rfl
theorem ty79:tyOf Tryd.prog 79=some {kd:=.st [(0,26),(5,76),(6,43),(7,3),(8,77)],size:=9,bytes:=184,zero:=some [.vec [] true,.vec [] true,.vec [] true,.vec [] true,.vec [] true,.vec [] true,.vec [] true,.lit (.int .i64 0),.lit (.map none)]}:=by kernel_rfl
theorem ty80:tyOf Tryd.prog 80=some {kd:=.oth,size:=1,bytes:=8,zero:=some [.lit .nilFunc]}:=by kernel_rfl
theorem fn80:isFn Tryd.prog 80=true:=by kernel_rfl
theorem ty81:tyOf Tryd.prog 81=some {kd:=.st [(0,53),(1,3)],size:=2,bytes:=16,zero:=some [.lit (.int .i8 0),.lit (.int .i64 0)]}:=by kernel_rfl
theorem ty82:tyOf Tryd.prog 82=some {kd:=.st [(0,53),(1,3)],size:=2,bytes:=16,zero:=some [.lit (.int .i8 0),.lit (.int .i64 0)]}:=by kernel_rfl
theorem nmOk82:namesOk Tryd.prog 82=true:=by kernel_rfl
theorem kyOk82:keyTyOk Tryd.prog 82 [(0,53),(1,3)]=true:=by kernel_rfl
theorem ty83:tyOf Tryd.prog 83=some {kd:=.oth,size:=1,bytes:=8,zero:=some [.lit .nilFunc]}:=by kernel_rfl
theorem fn83:isFn Tryd.prog 83=true:=by kernel_rfl
theorem ty84:tyOf Tryd.prog 84=some {kd:=.oth,size:=1,bytes:=8,zero:=some [.lit .nilFunc]}:=by kernel_rfl
theorem fn84:isFn Tryd.prog 84=true:=by kernel_rfl
theorem ty85:tyOf Tryd.prog 85=some {kd:=.sl 73,size:=1,bytes:=24,zero:=some [.vec [] true]}:=by kernel_rfl
theorem zr85:zeroAV Tryd.prog 85=some (.vec [] true):=by kernel_rfl
theorem ty86:tyOf Tryd.prog 86=some {kd:=.oth,size:=1,bytes:=8,zero:=some [.lit .nilFunc]}:=by kernel_rfl
theorem fn86:isFn Tryd.prog 86=true:=by kernel_rfl
theorem ty88:tyOf Tryd.prog 88=some {kd:=.oth,size:=1,bytes:=8,zero:=some [.lit .nilFunc]}:=by kernel_rfl
theorem fn88:isFn Tryd.prog 88=true:=by kernel_rfl
theorem ty89:tyOf Tryd.prog 89=some {kd:=.int .u64,size:=1,bytes:=8,zero:=some [.lit (.int .u64 0)]}:=by kernel_rfl
theorem ty90:tyOf Tryd.prog 90=some {kd:=.oth,size:=1,bytes:=8,zero:=some [.lit .nilFunc]}:=by kernel_rfl
theorem fn90:isFn Tryd.prog 90=true:=by kernel_rfl
theorem ty91:tyOf Tryd.prog 91=some {kd:=.oth,size:=1,bytes:=8,zero:=some [.lit .nilFunc]}:=by kernel_rfl
theorem fn91:isFn Tryd.prog 91=true:=by kernel_rfl
theorem ty93:tyOf Tryd.prog 93=some {kd:=.oth,size:=1,bytes:=8,zero:=some [.lit .nilFunc]}:=by kernel_rfl
theorem fn93:isFn Tryd.prog 93=true:=by kernel_rfl
theorem ty94:tyOf Tryd.prog 94=some {kd:=.oth,size:=1,bytes:=8,zero:=some [.lit .nilFunc]}:=by kernel_rfl
theorem fn94:isFn Tryd.prog 94=true:=by kernel_rfl
theorem ty95:tyOf Tryd.prog 95=some {kd:=.oth,size:=1,bytes:=8,zero:=some [.lit .nilFunc]}:=by kernel_rfl
theorem fn95:isFn Tryd.prog 95=true:=by kernel_rfl
theorem ty97:tyOf Tryd.prog 97=some {kd:=.oth,size:=1,bytes:=8,zero:=some [.lit .nilFunc]}:=by kernel_rfl
theorem fn97:isFn Tryd.prog 97=true:=by kernel_rfl
theorem ty98:tyOf Tryd.prog 98=some {kd:=.st [(0,21),(1,21)],size:=2,bytes:=8,zero:=some [.lit (.int .i32 0),.lit (.int .i32 0)]}:=by kernel_rfl
theorem ty99:tyOf Tryd.prog 99=some {kd:=.st [(0,21),(1,21)],size:=2,bytes:=8,zero:=some [.lit (.int .i32 0),.lit (.int .i32 0)]}:=by kernel_rfl
theorem nmOk99:namesOk Tryd.prog 99=true:=by kernel_rfl
theorem kyOk99:keyTyOk Tryd.prog 99 [(0,21),(1,21)]=true:=by kernel_rfl
theorem ty101:tyOf Tryd.prog 101=some {kd:=.st [(0,3),(1,3)],size:=2,bytes:=16,zero:=some [.lit (.int .i64 0),.lit (.int .i64 0)]}:=by kernel_rfl
theorem ty102:tyOf Tryd.prog 102=some {kd:=.st [(0,3),(1,3)],size:=2,bytes:=16,zero:=some [.lit (.int .i64 0),.lit (.int .i64 0)]}:=by kernel_rfl
theorem nmOk102:namesOk Tryd.prog 102=true:=by kernel_rfl
theorem kyOk102:keyTyOk Tryd.prog 102 [(0,3),(1,3)]=true:=by kernel_rfl
theorem ty103:tyOf Tryd.prog 103=some {kd:=.sl 119,size:=1,bytes:=24,zero:=some [.vec [] true]}:=by kernel_rfl
theorem ty104:tyOf Tryd.prog 104=some {kd:=.sl 119,size:=1,bytes:=24,zero:=some [.vec [] true]}:=by kernel_rfl
theorem ty105:tyOf Tryd.prog 105=some {kd:=.st [(0,102),(2,37)],size:=3,bytes:=40,zero:=some [.lit (.int .i64 0),.lit (.int .i64 0),.vec [] true]}:=by kernel_rfl
theorem ty106:tyOf Tryd.prog 106=some {kd:=.st [(0,102),(2,37)],size:=3,bytes:=40,zero:=some [.lit (.int .i64 0),.lit (.int .i64 0),.vec [] true]}:=by kernel_rfl
theorem ty107:tyOf Tryd.prog 107=some {kd:=.sl 106,size:=1,bytes:=24,zero:=some [.vec [] true]}:=by kernel_rfl
theorem ty108:tyOf Tryd.prog 108=some {kd:=.oth,size:=1,bytes:=8,zero:=some [.lit .nilFunc]}:=by kernel_rfl
theorem fn108:isFn Tryd.prog 108=true:=by kernel_rfl
theorem ty109:tyOf Tryd.prog 109=some {kd:=.oth,size:=1,bytes:=8,zero:=some [.lit .nilFunc]}:=by kernel_rfl
theorem fn109:isFn Tryd.prog 109=true:=by kernel_rfl
theorem ty110:tyOf Tryd.prog 110=some {kd:=.oth,size:=1,bytes:=8,zero:=some [.lit .nilFunc]}:=by kernel_rfl
theorem fn110:isFn Tryd.prog 110=true:=by kernel_rfl
theorem ty111:tyOf Tryd.prog 111=some {kd:=.oth,size:=1,bytes:=8,zero:=some [.lit .nilFunc]}:=by kernel_rfl
theorem fn111:isFn Tryd.prog 111=true:=by kernel_rfl
theorem ty112:tyOf Tryd.prog 112=some {kd:=.oth,size:=1,bytes:=8,zero:=some [.lit .nilFunc]}:=by kernel_rfl
theorem fn112:isFn Tryd.prog 112=true:=by kernel_rfl
theorem ty113:tyOf Tryd.prog 113=some {kd:=.oth,size:=1,bytes:=8,zero:=some [.lit .nilFunc]}:=by kernel_rfl
theorem fn113:isFn Tryd.prog 113=true:=by kernel_rfl
theorem ty114:tyOf Tryd.prog 114=some {kd:=.oth,size:=1,bytes:=8,zero:=some [.lit (.pointer none)]}:=by kernel_rfl
theorem pt114:isPtr Tryd.prog 114=true:=by kernel_rfl
theorem ty115:tyOf Tryd.prog 115=some {kd:=.sl 4,size:=1,bytes:=24,zero:=some [.vec [] true]}:=by kernel_rfl
theorem ty116:tyOf Tryd.prog 116=some {kd:=.oth,size:=1,bytes:=8,zero:=some [.lit .nilFunc]}:=by kernel_rfl
theorem fn116:isFn Tryd.prog 116=true:=by kernel_rfl
theorem ty117:tyOf Tryd.prog 117=some {kd:=.sl 31,size:=1,bytes:=24,zero:=some [.vec [] true]}:=by kernel_rfl
theorem ty118:tyOf Tryd.prog 118=some {kd:=.sl 31,size:=1,bytes:=24,zero:=some [.vec [] true]}:=by kernel_rfl
theorem ty119:tyOf Tryd.prog 119=some {kd:=.int .u64,size:=1,bytes:=8,zero:=some [.lit (.int .u64 0)]}:=by kernel_rfl
theorem ty120:tyOf Tryd.prog 120=some {kd:=.oth,size:=1,bytes:=8,zero:=some [.lit .nilFunc]}:=by kernel_rfl
theorem fn120:isFn Tryd.prog 120=true:=by kernel_rfl
theorem ty121:tyOf Tryd.prog 121=some {kd:=.oth,size:=1,bytes:=8,zero:=some [.lit .nilFunc]}:=by kernel_rfl
theorem fn121:isFn Tryd.prog 121=true:=by kernel_rfl
theorem ty122:tyOf Tryd.prog 122=some {kd:=.st [(0,2),(1,2),(2,2),(3,2)],size:=4,bytes:=32,zero:=some [.lit (.int .i64 0),.lit (.int .i64 0),.lit (.int .i64 0),.lit (.int .i64 0)]}:=by kernel_rfl
theorem ty123:tyOf Tryd.prog 123=some {kd:=.st [(0,2),(1,2),(2,2),(3,2)],size:=4,bytes:=32,zero:=some [.lit (.int .i64 0),.lit (.int .i64 0),.lit (.int .i64 0),.lit (.int .i64 0)]}:=by kernel_rfl
theorem nmOk123:namesOk Tryd.prog 123=true:=by kernel_rfl
theorem kyOk123:keyTyOk Tryd.prog 123 [(0,2),(1,2),(2,2),(3,2)]=true:=by kernel_rfl
theorem ty124:tyOf Tryd.prog 124=some {kd:=.oth,size:=1,bytes:=8,zero:=some [.lit .nilFunc]}:=by kernel_rfl
theorem fn124:isFn Tryd.prog 124=true:=by kernel_rfl
theorem ty125:tyOf Tryd.prog 125=some {kd:=.oth,size:=1,bytes:=8,zero:=some [.lit .nilFunc]}:=by kernel_rfl
theorem fn125:isFn Tryd.prog 125=true:=by kernel_rfl
theorem ty126:tyOf Tryd.prog 126=some {kd:=.oth,size:=1,bytes:=8,zero:=some [.lit .nilFunc]}:=by kernel_rfl
theorem fn126:isFn Tryd.prog 126=true:=by kernel_rfl
theorem ty127:tyOf Tryd.prog 127=some {kd:=.map 3 4,size:=1,bytes:=8,zero:=some [.lit (.map none)]}:=by kernel_rfl
theorem ty128:tyOf Tryd.prog 128=some {kd:=.oth,size:=1,bytes:=8,zero:=some [.lit .nilFunc]}:=by kernel_rfl
theorem fn128:isFn Tryd.prog 128=true:=by kernel_rfl
theorem ty129:tyOf Tryd.prog 129=some {kd:=.oth,size:=1,bytes:=8,zero:=some [.lit .nilFunc]}:=by kernel_rfl
theorem fn129:isFn Tryd.prog 129=true:=by kernel_rfl
theorem ty130:tyOf Tryd.prog 130=some {kd:=.arr 8 129,size:=8,bytes:=64,zero:=some [.lit .nilFunc,.lit .nilFunc,.lit .nilFunc,.lit .nilFunc,.lit .nilFunc,.lit .nilFunc,.lit .nilFunc,.lit .nilFunc]}:=by kernel_rfl
theorem ty131:tyOf Tryd.prog 131=some {kd:=.oth,size:=1,bytes:=8,zero:=some [.lit .nilFunc]}:=by kernel_rfl
theorem fn131:isFn Tryd.prog 131=true:=by kernel_rfl
theorem ty132:tyOf Tryd.prog 132=some {kd:=.oth,size:=1,bytes:=8,zero:=some [.lit (.pointer none)]}:=by kernel_rfl
theorem pt132:isPtr Tryd.prog 132=true:=by kernel_rfl
theorem ty133:tyOf Tryd.prog 133=some {kd:=.oth,size:=1,bytes:=8,zero:=some [.lit (.pointer none)]}:=by kernel_rfl
theorem pt133:isPtr Tryd.prog 133=true:=by kernel_rfl
theorem ty134:tyOf Tryd.prog 134=some {kd:=.oth,size:=1,bytes:=8,zero:=some [.lit .nilFunc]}:=by kernel_rfl
theorem fn134:isFn Tryd.prog 134=true:=by kernel_rfl
theorem ty135:tyOf Tryd.prog 135=some {kd:=.st [(0,114),(1,132),(2,3),(3,133)],size:=4,bytes:=32,zero:=some [.lit (.pointer none),.lit (.pointer none),.lit (.int .i64 0),.lit (.pointer none)]}:=by kernel_rfl
theorem ty136:tyOf Tryd.prog 136=some {kd:=.st [(0,114),(1,132),(2,3),(3,133)],size:=4,bytes:=32,zero:=some [.lit (.pointer none),.lit (.pointer none),.lit (.int .i64 0),.lit (.pointer none)]}:=by kernel_rfl
theorem ty137:tyOf Tryd.prog 137=some {kd:=.oth,size:=1,bytes:=8,zero:=some [.lit .nilFunc]}:=by kernel_rfl
theorem fn137:isFn Tryd.prog 137=true:=by kernel_rfl
theorem ty138:tyOf Tryd.prog 138=some {kd:=.oth,size:=1,bytes:=8,zero:=some [.lit .nilFunc]}:=by kernel_rfl
theorem fn138:isFn Tryd.prog 138=true:=by kernel_rfl
theorem ty139:tyOf Tryd.prog 139=some {kd:=.st [(0,3),(1,3)],size:=2,bytes:=16,zero:=some [.lit (.int .i64 0),.lit (.int .i64 0)]}:=by kernel_rfl
theorem ty140:tyOf Tryd.prog 140=some {kd:=.st [(0,3),(1,3)],size:=2,bytes:=16,zero:=some [.lit (.int .i64 0),.lit (.int .i64 0)]}:=by kernel_rfl
theorem nmOk140:namesOk Tryd.prog 140=true:=by kernel_rfl
theorem kyOk140:keyTyOk Tryd.prog 140 [(0,3),(1,3)]=true:=by kernel_rfl
theorem ty141:tyOf Tryd.prog 141=some {kd:=.sl 140,size:=1,bytes:=24,zero:=some [.vec [] true]}:=by kernel_rfl
theorem ty142:tyOf Tryd.prog 142=some {kd:=.oth,size:=1,bytes:=8,zero:=some [.lit (.pointer none)]}:=by kernel_rfl
theorem pt142:isPtr Tryd.prog 142=true:=by kernel_rfl
theorem ty143:tyOf Tryd.prog 143=some {kd:=.oth,size:=1,bytes:=8,zero:=some [.lit .nilFunc]}:=by kernel_rfl
theorem fn143:isFn Tryd.prog 143=true:=by kernel_rfl
theorem ty144:tyOf Tryd.prog 144=some {kd:=.oth,size:=1,bytes:=8,zero:=some [.lit .nilFunc]}:=by kernel_rfl
theorem fn144:isFn Tryd.prog 144=true:=by kernel_rfl
theorem ty145:tyOf Tryd.prog 145=some {kd:=.oth,size:=1,bytes:=8,zero:=some [.lit .nilFunc]}:=by kernel_rfl
theorem fn145:isFn Tryd.prog 145=true:=by kernel_rfl
theorem ty146:tyOf Tryd.prog 146=some {kd:=.oth,size:=1,bytes:=8,zero:=some [.lit .nilFunc]}:=by kernel_rfl
theorem fn146:isFn Tryd.prog 146=true:=by kernel_rfl
theorem ty147:tyOf Tryd.prog 147=some {kd:=.sl 37,size:=1,bytes:=24,zero:=some [.vec [] true]}:=by kernel_rfl
theorem ty148:tyOf Tryd.prog 148=some {kd:=.oth,size:=1,bytes:=8,zero:=some [.lit .nilFunc]}:=by kernel_rfl
theorem fn148:isFn Tryd.prog 148=true:=by kernel_rfl
theorem ty149:tyOf Tryd.prog 149=some {kd:=.map 9 4,size:=1,bytes:=8,zero:=some [.lit (.map none)]}:=by kernel_rfl
theorem ty150:tyOf Tryd.prog 150=some {kd:=.oth,size:=1,bytes:=8,zero:=some [.lit .nilFunc]}:=by kernel_rfl
theorem fn150:isFn Tryd.prog 150=true:=by kernel_rfl
theorem ty151:tyOf Tryd.prog 151=some {kd:=.oth,size:=1,bytes:=8,zero:=some [.lit (.pointer none)]}:=by kernel_rfl
theorem pt151:isPtr Tryd.prog 151=true:=by kernel_rfl
theorem ty152:tyOf Tryd.prog 152=some {kd:=.oth,size:=1,bytes:=8,zero:=some [.lit .nilFunc]}:=by kernel_rfl
theorem fn152:isFn Tryd.prog 152=true:=by kernel_rfl
theorem ty153:tyOf Tryd.prog 153=some {kd:=.oth,size:=1,bytes:=8,zero:=some [.lit .nilFunc]}:=by kernel_rfl
theorem fn153:isFn Tryd.prog 153=true:=by kernel_rfl
theorem ty154:tyOf Tryd.prog 154=some {kd:=.oth,size:=1,bytes:=8,zero:=some [.lit .nilFunc]}:=by kernel_rfl
theorem fn154:isFn Tryd.prog 154=true:=by kernel_rfl
theorem ty155:tyOf Tryd.prog 155=some {kd:=.oth,size:=1,bytes:=8,zero:=some [.lit .nilFunc]}:=by kernel_rfl
theorem fn155:isFn Tryd.prog 155=true:=by kernel_rfl
theorem ty156:tyOf Tryd.prog 156=some {kd:=.oth,size:=1,bytes:=8,zero:=some [.lit .nilFunc]}:=by kernel_rfl
theorem fn156:isFn Tryd.prog 156=true:=by kernel_rfl
theorem ty157:tyOf Tryd.prog 157=some {kd:=.oth,size:=1,bytes:=8,zero:=some [.lit .nilFunc]}:=by kernel_rfl
theorem fn157:isFn Tryd.prog 157=true:=by kernel_rfl
theorem ty158:tyOf Tryd.prog 158=some {kd:=.oth,size:=1,bytes:=8,zero:=some [.lit .nilFunc]}:=by kernel_rfl
theorem fn158:isFn Tryd.prog 158=true:=by kernel_rfl
theorem ty159:tyOf Tryd.prog 159=some {kd:=.oth,size:=1,bytes:=8,zero:=some [.lit .nilFunc]}:=by kernel_rfl
theorem fn159:isFn Tryd.prog 159=true:=by kernel_rfl
theorem ty160:tyOf Tryd.prog 160=some {kd:=.st [(0,2),(1,2),(2,4)],size:=3,bytes:=24,zero:=some [.lit (.int .i64 0),.lit (.int .i64 0),.lit (.bool false)]}:=by kernel_rfl
theorem ty161:tyOf Tryd.prog 161=some {kd:=.st [(0,2),(1,2),(2,4)],size:=3,bytes:=24,zero:=some [.lit (.int .i64 0),.lit (.int .i64 0),.lit (.bool false)]}:=by kernel_rfl
theorem nmOk161:namesOk Tryd.prog 161=true:=by kernel_rfl
theorem kyOk161:keyTyOk Tryd.prog 161 [(0,2),(1,2),(2,4)]=true:=by kernel_rfl
theorem ty162:tyOf Tryd.prog 162=some {kd:=.oth,size:=1,bytes:=8,zero:=some [.lit .nilFunc]}:=by kernel_rfl
theorem fn162:isFn Tryd.prog 162=true:=by kernel_rfl
theorem ty163:tyOf Tryd.prog 163=some {kd:=.oth,size:=1,bytes:=8,zero:=some [.lit .nilFunc]}:=by kernel_rfl
theorem fn163:isFn Tryd.prog 163=true:=by kernel_rfl
theorem ty165:tyOf Tryd.prog 165=some {kd:=.oth,size:=1,bytes:=8,zero:=some [.lit .nilFunc]}:=by kernel_rfl
theorem fn165:isFn Tryd.prog 165=true:=by kernel_rfl
theorem ty166:tyOf Tryd.prog 166=some {kd:=.oth,size:=1,bytes:=8,zero:=some [.lit .nilFunc]}:=by kernel_rfl
theorem fn166:isFn Tryd.prog 166=true:=by kernel_rfl
theorem ty167:tyOf Tryd.prog 167=some {kd:=.oth,size:=1,bytes:=8,zero:=some [.lit .nilFunc]}:=by kernel_rfl
theorem fn167:isFn Tryd.prog 167=true:=by kernel_rfl
theorem ty168:tyOf Tryd.prog 168=some {kd:=.oth,size:=1,bytes:=8,zero:=some [.lit .nilFunc]}:=by kernel_rfl
theorem fn168:isFn Tryd.prog 168=true:=by kernel_rfl
theorem ty169:tyOf Tryd.prog 169=some {kd:=.oth,size:=1,bytes:=8,zero:=some [.lit .nilFunc]}:=by kernel_rfl
theorem fn169:isFn Tryd.prog 169=true:=by kernel_rfl
theorem ty171:tyOf Tryd.prog 171=some {kd:=.st [(0,5),(1,5)],size:=2,bytes:=2,zero:=some [.lit (.int .u8 0),.lit (.int .u8 0)]}:=by kernel_rfl
theorem ty172:tyOf Tryd.prog 172=some {kd:=.st [(0,5),(1,5)],size:=2,bytes:=2,zero:=some [.lit (.int .u8 0),.lit (.int .u8 0)]}:=by kernel_rfl
theorem ty173:tyOf Tryd.prog 173=some {kd:=.arr 16 172,size:=32,bytes:=32,zero:=some [.lit (.int .u8 0),.lit (.int .u8 0),.lit (.int .u8 0),.lit (.int .u8 0),.lit (.int .u8 0),.lit (.int .u8 0),.lit (.int .u8 0),.lit (.int .u8 0),.lit (.int .u8 0),.lit (.int .u8 0),.lit (.int .u8 0),.lit (.int .u8 0),.lit (.int .u8 0),.lit (.int .u8 0),.lit (.int .u8 0),.lit (.int .u8 0),.lit (.int .u8 0),.lit (.int .u8 0),.lit (.int .u8 0),.lit (.int .u8 0),.lit (.int .u8 0),.lit (.int .u8 0),.lit (.int .u8 0),.lit (.int .u8 0),.lit (.int .u8 0),.lit (.int .u8 0),.lit (.int .u8 0),.lit (.int .u8 0),.lit (.int .u8 0),.lit (.int .u8 0),.lit (.int .u8 0),.lit (.int .u8 0)]}:=by kernel_rfl
theorem ty174:tyOf Tryd.prog 174=some {kd:=.oth,size:=1,bytes:=8,zero:=some [.lit .nilFunc]}:=by kernel_rfl
theorem fn174:isFn Tryd.prog 174=true:=by kernel_rfl
theorem ty175:tyOf Tryd.prog 175=some {kd:=.arr 15 2,size:=15,bytes:=120,zero:=some [.lit (.int .i64 0),.lit (.int .i64 0),.lit (.int .i64 0),.lit (.int .i64 0),.lit (.int .i64 0),.lit (.int .i64 0),.lit (.int .i64 0),.lit (.int .i64 0),.lit (.int .i64 0),.lit (.int .i64 0),.lit (.int .i64 0),.lit (.int .i64 0),.lit (.int .i64 0),.lit (.int .i64 0),.lit (.int .i64 0)]}:=by kernel_rfl
theorem ty176:tyOf Tryd.prog 176=some {kd:=.arr 8 167,size:=8,bytes:=64,zero:=some [.lit .nilFunc,.lit .nilFunc,.lit .nilFunc,.lit .nilFunc,.lit .nilFunc,.lit .nilFunc,.lit .nilFunc,.lit .nilFunc]}:=by kernel_rfl
theorem ty177:tyOf Tryd.prog 177=some {kd:=.oth,size:=1,bytes:=8,zero:=some [.lit .nilFunc]}:=by kernel_rfl
theorem fn177:isFn Tryd.prog 177=true:=by kernel_rfl
theorem ty178:tyOf Tryd.prog 178=some {kd:=.oth,size:=1,bytes:=8,zero:=some [.lit .nilFunc]}:=by kernel_rfl
theorem fn178:isFn Tryd.prog 178=true:=by kernel_rfl
theorem ty179:tyOf Tryd.prog 179=some {kd:=.oth,size:=1,bytes:=8,zero:=some [.lit .nilFunc]}:=by kernel_rfl
theorem fn179:isFn Tryd.prog 179=true:=by kernel_rfl
theorem ty180:tyOf Tryd.prog 180=some {kd:=.oth,size:=1,bytes:=8,zero:=some [.lit .nilFunc]}:=by kernel_rfl
theorem fn180:isFn Tryd.prog 180=true:=by kernel_rfl
theorem ty181:tyOf Tryd.prog 181=some {kd:=.oth,size:=1,bytes:=8,zero:=some [.lit .nilFunc]}:=by kernel_rfl
theorem fn181:isFn Tryd.prog 181=true:=by kernel_rfl
theorem ty182:tyOf Tryd.prog 182=some {kd:=.oth,size:=1,bytes:=8,zero:=some [.lit .nilFunc]}:=by kernel_rfl
theorem fn182:isFn Tryd.prog 182=true:=by kernel_rfl
theorem ty183:tyOf Tryd.prog 183=some {kd:=.arr 15 9,size:=15,bytes:=240,zero:=some [.lit (.string ⟨#[]⟩),.lit (.string ⟨#[]⟩),.lit (.string ⟨#[]⟩),.lit (.string ⟨#[]⟩),.lit (.string ⟨#[]⟩),.lit (.string ⟨#[]⟩),.lit (.string ⟨#[]⟩),.lit (.string ⟨#[]⟩),.lit (.string ⟨#[]⟩),.lit (.string ⟨#[]⟩),.lit (.string ⟨#[]⟩),.lit (.string ⟨#[]⟩),.lit (.string ⟨#[]⟩),.lit (.string ⟨#[]⟩),.lit (.string ⟨#[]⟩)]}:=by kernel_rfl
theorem ty184:tyOf Tryd.prog 184=some {kd:=.oth,size:=1,bytes:=8,zero:=some [.lit .nilFunc]}:=by kernel_rfl
theorem fn184:isFn Tryd.prog 184=true:=by kernel_rfl
theorem ty185:tyOf Tryd.prog 185=some {kd:=.oth,size:=1,bytes:=8,zero:=some [.lit .nilFunc]}:=by kernel_rfl
theorem fn185:isFn Tryd.prog 185=true:=by kernel_rfl
theorem ty186:tyOf Tryd.prog 186=some {kd:=.st [(0,17),(1,17),(2,17),(3,9)],size:=4,bytes:=40,zero:=some [.lit (.pointer none),.lit (.pointer none),.lit (.pointer none),.lit (.string ⟨#[]⟩)]}:=by kernel_rfl
theorem ty187:tyOf Tryd.prog 187=some {kd:=.st [(0,17),(1,17),(2,17),(3,9)],size:=4,bytes:=40,zero:=some [.lit (.pointer none),.lit (.pointer none),.lit (.pointer none),.lit (.string ⟨#[]⟩)]}:=by kernel_rfl
theorem ty188:tyOf Tryd.prog 188=some {kd:=.arr 0 16,size:=0,bytes:=0,zero:=some []}:=by kernel_rfl
theorem ty189:tyOf Tryd.prog 189=some {kd:=.st [(0,188)],size:=0,bytes:=0,zero:=some []}:=by kernel_rfl
theorem ty190:tyOf Tryd.prog 190=some {kd:=.st [(0,188)],size:=0,bytes:=0,zero:=some []}:=by kernel_rfl
theorem ty191:tyOf Tryd.prog 191=some {kd:=.oth,size:=1,bytes:=8,zero:=some [.lit .nilFunc]}:=by kernel_rfl
theorem fn191:isFn Tryd.prog 191=true:=by kernel_rfl
theorem ty192:tyOf Tryd.prog 192=some {kd:=.int .u32,size:=1,bytes:=4,zero:=some [.lit (.int .u32 0)]}:=by kernel_rfl
theorem ty193:tyOf Tryd.prog 193=some {kd:=.int .u8,size:=1,bytes:=1,zero:=some [.lit (.int .u8 0)]}:=by kernel_rfl
theorem ty194:tyOf Tryd.prog 194=some {kd:=.int .u8,size:=1,bytes:=1,zero:=some [.lit (.int .u8 0)]}:=by kernel_rfl
theorem ty195:tyOf Tryd.prog 195=some {kd:=.oth,size:=1,bytes:=8,zero:=some [.lit .nilFunc]}:=by kernel_rfl
theorem fn195:isFn Tryd.prog 195=true:=by kernel_rfl
theorem ty196:tyOf Tryd.prog 196=some {kd:=.oth,size:=1,bytes:=8,zero:=some [.lit (.pointer none)]}:=by kernel_rfl
theorem pt196:isPtr Tryd.prog 196=true:=by kernel_rfl
theorem ty197:tyOf Tryd.prog 197=some {kd:=.int .i32,size:=1,bytes:=4,zero:=some [.lit (.int .i32 0)]}:=by kernel_rfl
theorem ty198:tyOf Tryd.prog 198=some {kd:=.int .i32,size:=1,bytes:=4,zero:=some [.lit (.int .i32 0)]}:=by kernel_rfl
theorem ty199:tyOf Tryd.prog 199=some {kd:=.st [(0,12),(1,12),(2,192),(3,193),(4,5),(5,5),(6,194),(7,195),(8,196),(9,197),(10,198)],size:=11,bytes:=48,zero:=some [.lit (.int .u64 0),.lit (.int .u64 0),.lit (.int .u32 0),.lit (.int .u8 0),.lit (.int .u8 0),.lit (.int .u8 0),.lit (.int .u8 0),.lit .nilFunc,.lit (.pointer none),.lit (.int .i32 0),.lit (.int .i32 0)]}:=by kernel_rfl
theorem ty200:tyOf Tryd.prog 200=some {kd:=.st [(0,12),(1,12),(2,192),(3,193),(4,5),(5,5),(6,194),(7,195),(8,196),(9,197),(10,198)],size:=11,bytes:=48,zero:=some [.lit (.int .u64 0),.lit (.int .u64 0),.lit (.int .u32 0),.lit (.int .u8 0),.lit (.int .u8 0),.lit (.int .u8 0),.lit (.int .u8 0),.lit .nilFunc,.lit (.pointer none),.lit (.int .i32 0),.lit (.int .i32 0)]}:=by kernel_rfl
theorem tyW:(tyOf Tryd.prog 1=some {kd:=.oth,size:=1,bytes:=8,zero:=some [.lit .nilFunc]})∧(isFn Tryd.prog 1=true)∧(tyOf Tryd.prog 2=some {kd:=.int .i64,size:=1,bytes:=8,zero:=some [.lit (.int .i64 0)]})∧(tyOf Tryd.prog 3=some {kd:=.int .i64,size:=1,bytes:=8,zero:=some [.lit (.int .i64 0)]})∧(tyOf Tryd.prog 4=some {kd:=.bool,size:=1,bytes:=1,zero:=some [.lit (.bool false)]})∧(zeroAV Tryd.prog 4=some (.lit (.bool false)))∧(tyOf Tryd.prog 5=some {kd:=.int .u8,size:=1,bytes:=1,zero:=some [.lit (.int .u8 0)]})∧(tyOf Tryd.prog 6=some {kd:=.int .u8,size:=1,bytes:=1,zero:=some [.lit (.int .u8 0)]})∧(tyOf Tryd.prog 7=some {kd:=.st [(0,2),(1,3),(2,4),(3,6)],size:=4,bytes:=24,zero:=some [.lit (.int .i64 0),.lit (.int .i64 0),.lit (.bool false),.lit (.int .u8 0)]})∧(tyOf Tryd.prog 8=some {kd:=.st [(0,2),(1,3),(2,4),(3,6)],size:=4,bytes:=24,zero:=some [.lit (.int .i64 0),.lit (.int .i64 0),.lit (.bool false),.lit (.int .u8 0)]})∧(tyOf Tryd.prog 9=some {kd:=.str,size:=1,bytes:=16,zero:=some [.lit (.string ⟨#[]⟩)]})∧(tyOf Tryd.prog 10=some {kd:=.str,size:=1,bytes:=16,zero:=some [.lit (.string ⟨#[]⟩)]})∧(tyOf Tryd.prog 11=some {kd:=.str,size:=1,bytes:=16,zero:=some [.lit (.string ⟨#[]⟩)]})∧(tyOf Tryd.prog 12=some {kd:=.int .u64,size:=1,bytes:=8,zero:=some [.lit (.int .u64 0)]})∧(tyOf Tryd.prog 13=some {kd:=.st [(0,9),(1,12)],size:=2,bytes:=24,zero:=some [.lit (.string ⟨#[]⟩),.lit (.int .u64 0)]})∧(tyOf Tryd.prog 14=some {kd:=.st [(0,9),(1,12)],size:=2,bytes:=24,zero:=some [.lit (.string ⟨#[]⟩),.lit (.int .u64 0)]})∧(tyOf Tryd.prog 15=some {kd:=.oth,size:=1,bytes:=8,zero:=some [.lit (.pointer none)]})∧(isPtr Tryd.prog 15=true)∧(tyOf Tryd.prog 16=some {kd:=.oth,size:=1,bytes:=8,zero:=some [.lit (.pointer none)]})∧(isPtr Tryd.prog 16=true)∧(tyOf Tryd.prog 17=some {kd:=.oth,size:=1,bytes:=8,zero:=some [.lit (.pointer none)]})∧(isPtr Tryd.prog 17=true)∧(tyOf Tryd.prog 18=some {kd:=.st [(0,17)],size:=1,bytes:=8,zero:=some [.lit (.pointer none)]})∧(tyOf Tryd.prog 19=some {kd:=.st [(0,17)],size:=1,bytes:=8,zero:=some [.lit (.pointer none)]})∧(tyOf Tryd.prog 21=some {kd:=.int .i32,size:=1,bytes:=4,zero:=some [.lit (.int .i32 0)]})∧(tyOf Tryd.prog 22=some {kd:=.sl 9,size:=1,bytes:=24,zero:=some [.vec [] true]})∧(tyOf Tryd.prog 23=some {kd:=.sl 48,size:=1,bytes:=24,zero:=some [.vec [] true]})∧(tyOf Tryd.prog 24=some {kd:=.sl 52,size:=1,bytes:=24,zero:=some [.vec [] true]})∧(tyOf Tryd.prog 25=some {kd:=.st [(0,22),(1,22),(2,22),(3,23),(4,24)],size:=5,bytes:=120,zero:=some [.vec [] true,.vec [] true,.vec [] true,.vec [] true,.vec [] true]})∧(tyOf Tryd.prog 26=some {kd:=.st [(0,22),(1,22),(2,22),(3,23),(4,24)],size:=5,bytes:=120,zero:=some [.vec [] true,.vec [] true,.vec [] true,.vec [] true,.vec [] true]})∧(tyOf Tryd.prog 27=some {kd:=.sl 5,size:=1,bytes:=24,zero:=some [.vec [] true]})∧(tyOf Tryd.prog 28=some {kd:=.oth,size:=1,bytes:=8,zero:=some [.lit .nilFunc]})∧(isFn Tryd.prog 28=true)∧(tyOf Tryd.prog 29=some {kd:=.oth,size:=1,bytes:=8,zero:=some [.lit .nilFunc]})∧(isFn Tryd.prog 29=true)∧(tyOf Tryd.prog 30=some {kd:=.oth,size:=1,bytes:=8,zero:=some [.lit .nilFunc]})∧(isFn Tryd.prog 30=true)∧(tyOf Tryd.prog 31=some {kd:=.sl 3,size:=1,bytes:=24,zero:=some [.vec [] true]})∧(tyOf Tryd.prog 32=some {kd:=.sl 21,size:=1,bytes:=24,zero:=some [.vec [] true]})∧(tyOf Tryd.prog 33=some {kd:=.st [(0,27),(1,31),(2,32),(3,31)],size:=4,bytes:=96,zero:=some [.vec [] true,.vec [] true,.vec [] true,.vec [] true]})∧(tyOf Tryd.prog 34=some {kd:=.st [(0,27),(1,31),(2,32),(3,31)],size:=4,bytes:=96,zero:=some [.vec [] true,.vec [] true,.vec [] true,.vec [] true]})∧(tyOf Tryd.prog 35=some {kd:=.oth,size:=1,bytes:=8,zero:=some [.lit .nilFunc]})∧(isFn Tryd.prog 35=true)∧(tyOf Tryd.prog 36=some {kd:=.oth,size:=1,bytes:=8,zero:=some [.lit .nilFunc]})∧(isFn Tryd.prog 36=true)∧(tyOf Tryd.prog 37=some {kd:=.sl 82,size:=1,bytes:=24,zero:=some [.vec [] true]})∧(tyOf Tryd.prog 38=some {kd:=.int .i64,size:=1,bytes:=8,zero:=some [.lit (.int .i64 0)]})∧(tyOf Tryd.prog 40=some {kd:=.oth,size:=1,bytes:=8,zero:=some [.lit .nilFunc]})∧(isFn Tryd.prog 40=true)∧(tyOf Tryd.prog 41=some {kd:=.oth,size:=1,bytes:=8,zero:=some [.lit .nilFunc]})∧(isFn Tryd.prog 41=true)∧(tyOf Tryd.prog 42=some {kd:=.oth,size:=1,bytes:=8,zero:=some [.lit .nilFunc]})∧(isFn Tryd.prog 42=true)∧(tyOf Tryd.prog 43=some {kd:=.sl 161,size:=1,bytes:=24,zero:=some [.vec [] true]})∧(tyOf Tryd.prog 44=some {kd:=.oth,size:=1,bytes:=8,zero:=some [.lit .nilFunc]})∧(isFn Tryd.prog 44=true)∧(tyOf Tryd.prog 45=some {kd:=.oth,size:=1,bytes:=8,zero:=some [.lit .nilFunc]})∧(isFn Tryd.prog 45=true)∧(tyOf Tryd.prog 46=some {kd:=.oth,size:=1,bytes:=8,zero:=some [.lit .nilFunc]})∧(isFn Tryd.prog 46=true)∧(tyOf Tryd.prog 47=some {kd:=.st [(0,9),(1,4),(2,4),(3,4),(4,4),(5,3),(6,3),(7,3),(8,3)],size:=9,bytes:=56,zero:=some [.lit (.string ⟨#[]⟩),.lit (.bool false),.lit (.bool false),.lit (.bool false),.lit (.bool false),.lit (.int .i64 0),.lit (.int .i64 0),.lit (.int .i64 0),.lit (.int .i64 0)]})∧(tyOf Tryd.prog 48=some {kd:=.st [(0,9),(1,4),(2,4),(3,4),(4,4),(5,3),(6,3),(7,3),(8,3)],size:=9,bytes:=56,zero:=some [.lit (.string ⟨#[]⟩),.lit (.bool false),.lit (.bool false),.lit (.bool false),.lit (.bool false),.lit (.int .i64 0),.lit (.int .i64 0),.lit (.int .i64 0),.lit (.int .i64 0)]})∧(namesOk Tryd.prog 48=true)∧(keyTyOk Tryd.prog 48 [(0,9),(1,4),(2,4),(3,4),(4,4),(5,3),(6,3),(7,3),(8,3)]=true)∧(tyOf Tryd.prog 49=some {kd:=.oth,size:=1,bytes:=8,zero:=some [.lit .nilFunc]})∧(isFn Tryd.prog 49=true)∧(tyOf Tryd.prog 50=some {kd:=.sl 60,size:=1,bytes:=24,zero:=some [.vec [] true]})∧(tyOf Tryd.prog 51=some {kd:=.st [(0,3),(1,50)],size:=2,bytes:=32,zero:=some [.lit (.int .i64 0),.vec [] true]})∧(tyOf Tryd.prog 52=some {kd:=.st [(0,3),(1,50)],size:=2,bytes:=32,zero:=some [.lit (.int .i64 0),.vec [] true]})∧(tyOf Tryd.prog 53=some {kd:=.int .i8,size:=1,bytes:=1,zero:=some [.lit (.int .i8 0)]})∧(tyOf Tryd.prog 54=some {kd:=.sl 99,size:=1,bytes:=24,zero:=some [.vec [] true]})∧(tyOf Tryd.prog 55=some {kd:=.sl 99,size:=1,bytes:=24,zero:=some [.vec [] true]})∧(tyOf Tryd.prog 56=some {kd:=.sl 58,size:=1,bytes:=24,zero:=some [.vec [] true]})∧(tyOf Tryd.prog 57=some {kd:=.st [(0,53),(1,2),(2,9),(3,56)],size:=4,bytes:=56,zero:=some [.lit (.int .i8 0),.lit (.int .i64 0),.lit (.string ⟨#[]⟩),.vec [] true]})∧(tyOf Tryd.prog 58=some {kd:=.st [(0,53),(1,2),(2,9),(3,56)],size:=4,bytes:=56,zero:=some [.lit (.int .i8 0),.lit (.int .i64 0),.lit (.string ⟨#[]⟩),.vec [] true]})∧(tyOf Tryd.prog 59=some {kd:=.st [(0,53),(1,55),(2,3),(3,3),(4,58),(8,37),(9,3)],size:=10,bytes:=136,zero:=some [.lit (.int .i8 0),.vec [] true,.lit (.int .i64 0),.lit (.int .i64 0),.lit (.int .i8 0),.lit (.int .i64 0),.lit (.string ⟨#[]⟩),.vec [] true,.vec [] true,.lit (.int .i64 0)]})∧(tyOf Tryd.prog 60=some {kd:=.st [(0,53),(1,55),(2,3),(3,3),(4,58),(8,37),(9,3)],size:=10,bytes:=136,zero:=some [.lit (.int .i8 0),.vec [] true,.lit (.int .i64 0),.lit (.int .i64 0),.lit (.int .i8 0),.lit (.int .i64 0),.lit (.string ⟨#[]⟩),.vec [] true,.vec [] true,.lit (.int .i64 0)]})∧(tyOf Tryd.prog 61=some {kd:=.oth,size:=1,bytes:=8,zero:=some [.lit .nilFunc]})∧(isFn Tryd.prog 61=true)∧(tyOf Tryd.prog 63=some {kd:=.oth,size:=1,bytes:=8,zero:=some [.lit .nilFunc]})∧(isFn Tryd.prog 63=true)∧(tyOf Tryd.prog 65=some {kd:=.oth,size:=1,bytes:=8,zero:=some [.lit .nilFunc]})∧(isFn Tryd.prog 65=true)∧(tyOf Tryd.prog 66=some {kd:=.oth,size:=1,bytes:=8,zero:=some [.lit (.pointer none)]})∧(isPtr Tryd.prog 66=true)∧(tyOf Tryd.prog 68=some {kd:=.oth,size:=1,bytes:=8,zero:=some [.lit .nilFunc]})∧(isFn Tryd.prog 68=true)∧(tyOf Tryd.prog 69=some {kd:=.oth,size:=1,bytes:=8,zero:=some [.lit .nilFunc]})∧(isFn Tryd.prog 69=true)∧(tyOf Tryd.prog 70=some {kd:=.oth,size:=1,bytes:=8,zero:=some [.lit .nilFunc]})∧(isFn Tryd.prog 70=true)∧(tyOf Tryd.prog 71=some {kd:=.oth,size:=1,bytes:=8,zero:=some [.lit .nilFunc]})∧(isFn Tryd.prog 71=true)∧(tyOf Tryd.prog 72=some {kd:=.st [(0,3),(1,37)],size:=2,bytes:=32,zero:=some [.lit (.int .i64 0),.vec [] true]})∧(tyOf Tryd.prog 73=some {kd:=.st [(0,3),(1,37)],size:=2,bytes:=32,zero:=some [.lit (.int .i64 0),.vec [] true]})∧(tyOf Tryd.prog 74=some {kd:=.st [(0,21),(1,3),(2,3)],size:=3,bytes:=24,zero:=some [.lit (.int .i32 0),.lit (.int .i64 0),.lit (.int .i64 0)]})∧(tyOf Tryd.prog 75=some {kd:=.st [(0,21),(1,3),(2,3)],size:=3,bytes:=24,zero:=some [.lit (.int .i32 0),.lit (.int .i64 0),.lit (.int .i64 0)]})∧(namesOk Tryd.prog 75=true)∧(keyTyOk Tryd.prog 75 [(0,21),(1,3),(2,3)]=true)∧(tyOf Tryd.prog 76=some {kd:=.sl 75,size:=1,bytes:=24,zero:=some [.vec [] true]})∧(tyOf Tryd.prog 77=some {kd:=.map 102 85,size:=1,bytes:=8,zero:=some [.lit (.map none)]})∧(tyOf Tryd.prog 78=some {kd:=.st [(0,26),(5,76),(6,43),(7,3),(8,77)],size:=9,bytes:=184,zero:=some [.vec [] true,.vec [] true,.vec [] true,.vec [] true,.vec [] true,.vec [] true,.vec [] true,.lit (.int .i64 0),.lit (.map none)]})∧(tyOf Tryd.prog 79=some {kd:=.st [(0,26),(5,76),(6,43),(7,3),(8,77)],size:=9,bytes:=184,zero:=some [.vec [] true,.vec [] true,.vec [] true,.vec [] true,.vec [] true,.vec [] true,.vec [] true,.lit (.int .i64 0),.lit (.map none)]})∧(tyOf Tryd.prog 80=some {kd:=.oth,size:=1,bytes:=8,zero:=some [.lit .nilFunc]})∧(isFn Tryd.prog 80=true)∧(tyOf Tryd.prog 81=some {kd:=.st [(0,53),(1,3)],size:=2,bytes:=16,zero:=some [.lit (.int .i8 0),.lit (.int .i64 0)]})∧(tyOf Tryd.prog 82=some {kd:=.st [(0,53),(1,3)],size:=2,bytes:=16,zero:=some [.lit (.int .i8 0),.lit (.int .i64 0)]})∧(namesOk Tryd.prog 82=true)∧(keyTyOk Tryd.prog 82 [(0,53),(1,3)]=true)∧(tyOf Tryd.prog 83=some {kd:=.oth,size:=1,bytes:=8,zero:=some [.lit .nilFunc]})∧(isFn Tryd.prog 83=true)∧(tyOf Tryd.prog 84=some {kd:=.oth,size:=1,bytes:=8,zero:=some [.lit .nilFunc]})∧(isFn Tryd.prog 84=true)∧(tyOf Tryd.prog 85=some {kd:=.sl 73,size:=1,bytes:=24,zero:=some [.vec [] true]})∧(zeroAV Tryd.prog 85=some (.vec [] true))∧(tyOf Tryd.prog 86=some {kd:=.oth,size:=1,bytes:=8,zero:=some [.lit .nilFunc]})∧(isFn Tryd.prog 86=true)∧(tyOf Tryd.prog 88=some {kd:=.oth,size:=1,bytes:=8,zero:=some [.lit .nilFunc]})∧(isFn Tryd.prog 88=true)∧(tyOf Tryd.prog 89=some {kd:=.int .u64,size:=1,bytes:=8,zero:=some [.lit (.int .u64 0)]})∧(tyOf Tryd.prog 90=some {kd:=.oth,size:=1,bytes:=8,zero:=some [.lit .nilFunc]})∧(isFn Tryd.prog 90=true)∧(tyOf Tryd.prog 91=some {kd:=.oth,size:=1,bytes:=8,zero:=some [.lit .nilFunc]})∧(isFn Tryd.prog 91=true)∧(tyOf Tryd.prog 93=some {kd:=.oth,size:=1,bytes:=8,zero:=some [.lit .nilFunc]})∧(isFn Tryd.prog 93=true)∧(tyOf Tryd.prog 94=some {kd:=.oth,size:=1,bytes:=8,zero:=some [.lit .nilFunc]})∧(isFn Tryd.prog 94=true)∧(tyOf Tryd.prog 95=some {kd:=.oth,size:=1,bytes:=8,zero:=some [.lit .nilFunc]})∧(isFn Tryd.prog 95=true)∧(tyOf Tryd.prog 97=some {kd:=.oth,size:=1,bytes:=8,zero:=some [.lit .nilFunc]})∧(isFn Tryd.prog 97=true)∧(tyOf Tryd.prog 98=some {kd:=.st [(0,21),(1,21)],size:=2,bytes:=8,zero:=some [.lit (.int .i32 0),.lit (.int .i32 0)]})∧(tyOf Tryd.prog 99=some {kd:=.st [(0,21),(1,21)],size:=2,bytes:=8,zero:=some [.lit (.int .i32 0),.lit (.int .i32 0)]})∧(namesOk Tryd.prog 99=true)∧(keyTyOk Tryd.prog 99 [(0,21),(1,21)]=true)∧(tyOf Tryd.prog 101=some {kd:=.st [(0,3),(1,3)],size:=2,bytes:=16,zero:=some [.lit (.int .i64 0),.lit (.int .i64 0)]})∧(tyOf Tryd.prog 102=some {kd:=.st [(0,3),(1,3)],size:=2,bytes:=16,zero:=some [.lit (.int .i64 0),.lit (.int .i64 0)]})∧(namesOk Tryd.prog 102=true)∧(keyTyOk Tryd.prog 102 [(0,3),(1,3)]=true)∧(tyOf Tryd.prog 103=some {kd:=.sl 119,size:=1,bytes:=24,zero:=some [.vec [] true]})∧(tyOf Tryd.prog 104=some {kd:=.sl 119,size:=1,bytes:=24,zero:=some [.vec [] true]})∧(tyOf Tryd.prog 105=some {kd:=.st [(0,102),(2,37)],size:=3,bytes:=40,zero:=some [.lit (.int .i64 0),.lit (.int .i64 0),.vec [] true]})∧(tyOf Tryd.prog 106=some {kd:=.st [(0,102),(2,37)],size:=3,bytes:=40,zero:=some [.lit (.int .i64 0),.lit (.int .i64 0),.vec [] true]})∧(tyOf Tryd.prog 107=some {kd:=.sl 106,size:=1,bytes:=24,zero:=some [.vec [] true]})∧(tyOf Tryd.prog 108=some {kd:=.oth,size:=1,bytes:=8,zero:=some [.lit .nilFunc]})∧(isFn Tryd.prog 108=true)∧(tyOf Tryd.prog 109=some {kd:=.oth,size:=1,bytes:=8,zero:=some [.lit .nilFunc]})∧(isFn Tryd.prog 109=true)∧(tyOf Tryd.prog 110=some {kd:=.oth,size:=1,bytes:=8,zero:=some [.lit .nilFunc]})∧(isFn Tryd.prog 110=true)∧(tyOf Tryd.prog 111=some {kd:=.oth,size:=1,bytes:=8,zero:=some [.lit .nilFunc]})∧(isFn Tryd.prog 111=true)∧(tyOf Tryd.prog 112=some {kd:=.oth,size:=1,bytes:=8,zero:=some [.lit .nilFunc]})∧(isFn Tryd.prog 112=true)∧(tyOf Tryd.prog 113=some {kd:=.oth,size:=1,bytes:=8,zero:=some [.lit .nilFunc]})∧(isFn Tryd.prog 113=true)∧(tyOf Tryd.prog 114=some {kd:=.oth,size:=1,bytes:=8,zero:=some [.lit (.pointer none)]})∧(isPtr Tryd.prog 114=true)∧(tyOf Tryd.prog 115=some {kd:=.sl 4,size:=1,bytes:=24,zero:=some [.vec [] true]})∧(tyOf Tryd.prog 116=some {kd:=.oth,size:=1,bytes:=8,zero:=some [.lit .nilFunc]})∧(isFn Tryd.prog 116=true)∧(tyOf Tryd.prog 117=some {kd:=.sl 31,size:=1,bytes:=24,zero:=some [.vec [] true]})∧(tyOf Tryd.prog 118=some {kd:=.sl 31,size:=1,bytes:=24,zero:=some [.vec [] true]})∧(tyOf Tryd.prog 119=some {kd:=.int .u64,size:=1,bytes:=8,zero:=some [.lit (.int .u64 0)]})∧(tyOf Tryd.prog 120=some {kd:=.oth,size:=1,bytes:=8,zero:=some [.lit .nilFunc]})∧(isFn Tryd.prog 120=true)∧(tyOf Tryd.prog 121=some {kd:=.oth,size:=1,bytes:=8,zero:=some [.lit .nilFunc]})∧(isFn Tryd.prog 121=true)∧(tyOf Tryd.prog 122=some {kd:=.st [(0,2),(1,2),(2,2),(3,2)],size:=4,bytes:=32,zero:=some [.lit (.int .i64 0),.lit (.int .i64 0),.lit (.int .i64 0),.lit (.int .i64 0)]})∧(tyOf Tryd.prog 123=some {kd:=.st [(0,2),(1,2),(2,2),(3,2)],size:=4,bytes:=32,zero:=some [.lit (.int .i64 0),.lit (.int .i64 0),.lit (.int .i64 0),.lit (.int .i64 0)]})∧(namesOk Tryd.prog 123=true)∧(keyTyOk Tryd.prog 123 [(0,2),(1,2),(2,2),(3,2)]=true)∧(tyOf Tryd.prog 124=some {kd:=.oth,size:=1,bytes:=8,zero:=some [.lit .nilFunc]})∧(isFn Tryd.prog 124=true)∧(tyOf Tryd.prog 125=some {kd:=.oth,size:=1,bytes:=8,zero:=some [.lit .nilFunc]})∧(isFn Tryd.prog 125=true)∧(tyOf Tryd.prog 126=some {kd:=.oth,size:=1,bytes:=8,zero:=some [.lit .nilFunc]})∧(isFn Tryd.prog 126=true)∧(tyOf Tryd.prog 127=some {kd:=.map 3 4,size:=1,bytes:=8,zero:=some [.lit (.map none)]})∧(tyOf Tryd.prog 128=some {kd:=.oth,size:=1,bytes:=8,zero:=some [.lit .nilFunc]})∧(isFn Tryd.prog 128=true)∧(tyOf Tryd.prog 129=some {kd:=.oth,size:=1,bytes:=8,zero:=some [.lit .nilFunc]})∧(isFn Tryd.prog 129=true)∧(tyOf Tryd.prog 130=some {kd:=.arr 8 129,size:=8,bytes:=64,zero:=some [.lit .nilFunc,.lit .nilFunc,.lit .nilFunc,.lit .nilFunc,.lit .nilFunc,.lit .nilFunc,.lit .nilFunc,.lit .nilFunc]})∧(tyOf Tryd.prog 131=some {kd:=.oth,size:=1,bytes:=8,zero:=some [.lit .nilFunc]})∧(isFn Tryd.prog 131=true)∧(tyOf Tryd.prog 132=some {kd:=.oth,size:=1,bytes:=8,zero:=some [.lit (.pointer none)]})∧(isPtr Tryd.prog 132=true)∧(tyOf Tryd.prog 133=some {kd:=.oth,size:=1,bytes:=8,zero:=some [.lit (.pointer none)]})∧(isPtr Tryd.prog 133=true)∧(tyOf Tryd.prog 134=some {kd:=.oth,size:=1,bytes:=8,zero:=some [.lit .nilFunc]})∧(isFn Tryd.prog 134=true)∧(tyOf Tryd.prog 135=some {kd:=.st [(0,114),(1,132),(2,3),(3,133)],size:=4,bytes:=32,zero:=some [.lit (.pointer none),.lit (.pointer none),.lit (.int .i64 0),.lit (.pointer none)]})∧(tyOf Tryd.prog 136=some {kd:=.st [(0,114),(1,132),(2,3),(3,133)],size:=4,bytes:=32,zero:=some [.lit (.pointer none),.lit (.pointer none),.lit (.int .i64 0),.lit (.pointer none)]})∧(tyOf Tryd.prog 137=some {kd:=.oth,size:=1,bytes:=8,zero:=some [.lit .nilFunc]})∧(isFn Tryd.prog 137=true)∧(tyOf Tryd.prog 138=some {kd:=.oth,size:=1,bytes:=8,zero:=some [.lit .nilFunc]})∧(isFn Tryd.prog 138=true)∧(tyOf Tryd.prog 139=some {kd:=.st [(0,3),(1,3)],size:=2,bytes:=16,zero:=some [.lit (.int .i64 0),.lit (.int .i64 0)]})∧(tyOf Tryd.prog 140=some {kd:=.st [(0,3),(1,3)],size:=2,bytes:=16,zero:=some [.lit (.int .i64 0),.lit (.int .i64 0)]})∧(namesOk Tryd.prog 140=true)∧(keyTyOk Tryd.prog 140 [(0,3),(1,3)]=true)∧(tyOf Tryd.prog 141=some {kd:=.sl 140,size:=1,bytes:=24,zero:=some [.vec [] true]})∧(tyOf Tryd.prog 142=some {kd:=.oth,size:=1,bytes:=8,zero:=some [.lit (.pointer none)]})∧(isPtr Tryd.prog 142=true)∧(tyOf Tryd.prog 143=some {kd:=.oth,size:=1,bytes:=8,zero:=some [.lit .nilFunc]})∧(isFn Tryd.prog 143=true)∧(tyOf Tryd.prog 144=some {kd:=.oth,size:=1,bytes:=8,zero:=some [.lit .nilFunc]})∧(isFn Tryd.prog 144=true)∧(tyOf Tryd.prog 145=some {kd:=.oth,size:=1,bytes:=8,zero:=some [.lit .nilFunc]})∧(isFn Tryd.prog 145=true)∧(tyOf Tryd.prog 146=some {kd:=.oth,size:=1,bytes:=8,zero:=some [.lit .nilFunc]})∧(isFn Tryd.prog 146=true)∧(tyOf Tryd.prog 147=some {kd:=.sl 37,size:=1,bytes:=24,zero:=some [.vec [] true]})∧(tyOf Tryd.prog 148=some {kd:=.oth,size:=1,bytes:=8,zero:=some [.lit .nilFunc]})∧(isFn Tryd.prog 148=true)∧(tyOf Tryd.prog 149=some {kd:=.map 9 4,size:=1,bytes:=8,zero:=some [.lit (.map none)]})∧(tyOf Tryd.prog 150=some {kd:=.oth,size:=1,bytes:=8,zero:=some [.lit .nilFunc]})∧(isFn Tryd.prog 150=true)∧(tyOf Tryd.prog 151=some {kd:=.oth,size:=1,bytes:=8,zero:=some [.lit (.pointer none)]})∧(isPtr Tryd.prog 151=true)∧(tyOf Tryd.prog 152=some {kd:=.oth,size:=1,bytes:=8,zero:=some [.lit .nilFunc]})∧(isFn Tryd.prog 152=true)∧(tyOf Tryd.prog 153=some {kd:=.oth,size:=1,bytes:=8,zero:=some [.lit .nilFunc]})∧(isFn Tryd.prog 153=true)∧(tyOf Tryd.prog 154=some {kd:=.oth,size:=1,bytes:=8,zero:=some [.lit .nilFunc]})∧(isFn Tryd.prog 154=true)∧(tyOf Tryd.prog 155=some {kd:=.oth,size:=1,bytes:=8,zero:=some [.lit .nilFunc]})∧(isFn Tryd.prog 155=true)∧(tyOf Tryd.prog 156=some {kd:=.oth,size:=1,bytes:=8,zero:=some [.lit .nilFunc]})∧(isFn Tryd.prog 156=true)∧(tyOf Tryd.prog 157=some {kd:=.oth,size:=1,bytes:=8,zero:=some [.lit .nilFunc]})∧(isFn Tryd.prog 157=true)∧(tyOf Tryd.prog 158=some {kd:=.oth,size:=1,bytes:=8,zero:=some [.lit .nilFunc]})∧(isFn Tryd.prog 158=true)∧(tyOf Tryd.prog 159=some {kd:=.oth,size:=1,bytes:=8,zero:=some [.lit .nilFunc]})∧(isFn Tryd.prog 159=true)∧(tyOf Tryd.prog 160=some {kd:=.st [(0,2),(1,2),(2,4)],size:=3,bytes:=24,zero:=some [.lit (.int .i64 0),.lit (.int .i64 0),.lit (.bool false)]})∧(tyOf Tryd.prog 161=some {kd:=.st [(0,2),(1,2),(2,4)],size:=3,bytes:=24,zero:=some [.lit (.int .i64 0),.lit (.int .i64 0),.lit (.bool false)]})∧(namesOk Tryd.prog 161=true)∧(keyTyOk Tryd.prog 161 [(0,2),(1,2),(2,4)]=true)∧(tyOf Tryd.prog 162=some {kd:=.oth,size:=1,bytes:=8,zero:=some [.lit .nilFunc]})∧(isFn Tryd.prog 162=true)∧(tyOf Tryd.prog 163=some {kd:=.oth,size:=1,bytes:=8,zero:=some [.lit .nilFunc]})∧(isFn Tryd.prog 163=true)∧(tyOf Tryd.prog 165=some {kd:=.oth,size:=1,bytes:=8,zero:=some [.lit .nilFunc]})∧(isFn Tryd.prog 165=true)∧(tyOf Tryd.prog 166=some {kd:=.oth,size:=1,bytes:=8,zero:=some [.lit .nilFunc]})∧(isFn Tryd.prog 166=true)∧(tyOf Tryd.prog 167=some {kd:=.oth,size:=1,bytes:=8,zero:=some [.lit .nilFunc]})∧(isFn Tryd.prog 167=true)∧(tyOf Tryd.prog 168=some {kd:=.oth,size:=1,bytes:=8,zero:=some [.lit .nilFunc]})∧(isFn Tryd.prog 168=true)∧(tyOf Tryd.prog 169=some {kd:=.oth,size:=1,bytes:=8,zero:=some [.lit .nilFunc]})∧(isFn Tryd.prog 169=true)∧(tyOf Tryd.prog 171=some {kd:=.st [(0,5),(1,5)],size:=2,bytes:=2,zero:=some [.lit (.int .u8 0),.lit (.int .u8 0)]})∧(tyOf Tryd.prog 172=some {kd:=.st [(0,5),(1,5)],size:=2,bytes:=2,zero:=some [.lit (.int .u8 0),.lit (.int .u8 0)]})∧(tyOf Tryd.prog 173=some {kd:=.arr 16 172,size:=32,bytes:=32,zero:=some [.lit (.int .u8 0),.lit (.int .u8 0),.lit (.int .u8 0),.lit (.int .u8 0),.lit (.int .u8 0),.lit (.int .u8 0),.lit (.int .u8 0),.lit (.int .u8 0),.lit (.int .u8 0),.lit (.int .u8 0),.lit (.int .u8 0),.lit (.int .u8 0),.lit (.int .u8 0),.lit (.int .u8 0),.lit (.int .u8 0),.lit (.int .u8 0),.lit (.int .u8 0),.lit (.int .u8 0),.lit (.int .u8 0),.lit (.int .u8 0),.lit (.int .u8 0),.lit (.int .u8 0),.lit (.int .u8 0),.lit (.int .u8 0),.lit (.int .u8 0),.lit (.int .u8 0),.lit (.int .u8 0),.lit (.int .u8 0),.lit (.int .u8 0),.lit (.int .u8 0),.lit (.int .u8 0),.lit (.int .u8 0)]})∧(tyOf Tryd.prog 174=some {kd:=.oth,size:=1,bytes:=8,zero:=some [.lit .nilFunc]})∧(isFn Tryd.prog 174=true)∧(tyOf Tryd.prog 175=some {kd:=.arr 15 2,size:=15,bytes:=120,zero:=some [.lit (.int .i64 0),.lit (.int .i64 0),.lit (.int .i64 0),.lit (.int .i64 0),.lit (.int .i64 0),.lit (.int .i64 0),.lit (.int .i64 0),.lit (.int .i64 0),.lit (.int .i64 0),.lit (.int .i64 0),.lit (.int .i64 0),.lit (.int .i64 0),.lit (.int .i64 0),.lit (.int .i64 0),.lit (.int .i64 0)]})∧(tyOf Tryd.prog 176=some {kd:=.arr 8 167,size:=8,bytes:=64,zero:=some [.lit .nilFunc,.lit .nilFunc,.lit .nilFunc,.lit .nilFunc,.lit .nilFunc,.lit .nilFunc,.lit .nilFunc,.lit .nilFunc]})∧(tyOf Tryd.prog 177=some {kd:=.oth,size:=1,bytes:=8,zero:=some [.lit .nilFunc]})∧(isFn Tryd.prog 177=true)∧(tyOf Tryd.prog 178=some {kd:=.oth,size:=1,bytes:=8,zero:=some [.lit .nilFunc]})∧(isFn Tryd.prog 178=true)∧(tyOf Tryd.prog 179=some {kd:=.oth,size:=1,bytes:=8,zero:=some [.lit .nilFunc]})∧(isFn Tryd.prog 179=true)∧(tyOf Tryd.prog 180=some {kd:=.oth,size:=1,bytes:=8,zero:=some [.lit .nilFunc]})∧(isFn Tryd.prog 180=true)∧(tyOf Tryd.prog 181=some {kd:=.oth,size:=1,bytes:=8,zero:=some [.lit .nilFunc]})∧(isFn Tryd.prog 181=true)∧(tyOf Tryd.prog 182=some {kd:=.oth,size:=1,bytes:=8,zero:=some [.lit .nilFunc]})∧(isFn Tryd.prog 182=true)∧(tyOf Tryd.prog 183=some {kd:=.arr 15 9,size:=15,bytes:=240,zero:=some [.lit (.string ⟨#[]⟩),.lit (.string ⟨#[]⟩),.lit (.string ⟨#[]⟩),.lit (.string ⟨#[]⟩),.lit (.string ⟨#[]⟩),.lit (.string ⟨#[]⟩),.lit (.string ⟨#[]⟩),.lit (.string ⟨#[]⟩),.lit (.string ⟨#[]⟩),.lit (.string ⟨#[]⟩),.lit (.string ⟨#[]⟩),.lit (.string ⟨#[]⟩),.lit (.string ⟨#[]⟩),.lit (.string ⟨#[]⟩),.lit (.string ⟨#[]⟩)]})∧(tyOf Tryd.prog 184=some {kd:=.oth,size:=1,bytes:=8,zero:=some [.lit .nilFunc]})∧(isFn Tryd.prog 184=true)∧(tyOf Tryd.prog 185=some {kd:=.oth,size:=1,bytes:=8,zero:=some [.lit .nilFunc]})∧(isFn Tryd.prog 185=true)∧(tyOf Tryd.prog 186=some {kd:=.st [(0,17),(1,17),(2,17),(3,9)],size:=4,bytes:=40,zero:=some [.lit (.pointer none),.lit (.pointer none),.lit (.pointer none),.lit (.string ⟨#[]⟩)]})∧(tyOf Tryd.prog 187=some {kd:=.st [(0,17),(1,17),(2,17),(3,9)],size:=4,bytes:=40,zero:=some [.lit (.pointer none),.lit (.pointer none),.lit (.pointer none),.lit (.string ⟨#[]⟩)]})∧(tyOf Tryd.prog 188=some {kd:=.arr 0 16,size:=0,bytes:=0,zero:=some []})∧(tyOf Tryd.prog 189=some {kd:=.st [(0,188)],size:=0,bytes:=0,zero:=some []})∧(tyOf Tryd.prog 190=some {kd:=.st [(0,188)],size:=0,bytes:=0,zero:=some []})∧(tyOf Tryd.prog 191=some {kd:=.oth,size:=1,bytes:=8,zero:=some [.lit .nilFunc]})∧(isFn Tryd.prog 191=true)∧(tyOf Tryd.prog 192=some {kd:=.int .u32,size:=1,bytes:=4,zero:=some [.lit (.int .u32 0)]})∧(tyOf Tryd.prog 193=some {kd:=.int .u8,size:=1,bytes:=1,zero:=some [.lit (.int .u8 0)]})∧(tyOf Tryd.prog 194=some {kd:=.int .u8,size:=1,bytes:=1,zero:=some [.lit (.int .u8 0)]})∧(tyOf Tryd.prog 195=some {kd:=.oth,size:=1,bytes:=8,zero:=some [.lit .nilFunc]})∧(isFn Tryd.prog 195=true)∧(tyOf Tryd.prog 196=some {kd:=.oth,size:=1,bytes:=8,zero:=some [.lit (.pointer none)]})∧(isPtr Tryd.prog 196=true)∧(tyOf Tryd.prog 197=some {kd:=.int .i32,size:=1,bytes:=4,zero:=some [.lit (.int .i32 0)]})∧(tyOf Tryd.prog 198=some {kd:=.int .i32,size:=1,bytes:=4,zero:=some [.lit (.int .i32 0)]})∧(tyOf Tryd.prog 199=some {kd:=.st [(0,12),(1,12),(2,192),(3,193),(4,5),(5,5),(6,194),(7,195),(8,196),(9,197),(10,198)],size:=11,bytes:=48,zero:=some [.lit (.int .u64 0),.lit (.int .u64 0),.lit (.int .u32 0),.lit (.int .u8 0),.lit (.int .u8 0),.lit (.int .u8 0),.lit (.int .u8 0),.lit .nilFunc,.lit (.pointer none),.lit (.int .i32 0),.lit (.int .i32 0)]})∧(tyOf Tryd.prog 200=some {kd:=.st [(0,12),(1,12),(2,192),(3,193),(4,5),(5,5),(6,194),(7,195),(8,196),(9,197),(10,198)],size:=11,bytes:=48,zero:=some [.lit (.int .u64 0),.lit (.int .u64 0),.lit (.int .u32 0),.lit (.int .u8 0),.lit (.int .u8 0),.lit (.int .u8 0),.lit (.int .u8 0),.lit .nilFunc,.lit (.pointer none),.lit (.int .i32 0),.lit (.int .i32 0)]}):=⟨ty1,fn1,ty2,ty3,ty4,zr4,ty5,ty6,ty7,ty8,ty9,ty10,ty11,ty12,ty13,ty14,ty15,pt15,ty16,pt16,ty17,pt17,ty18,ty19,ty21,ty22,ty23,ty24,ty25,ty26,ty27,ty28,fn28,ty29,fn29,ty30,fn30,ty31,ty32,ty33,ty34,ty35,fn35,ty36,fn36,ty37,ty38,ty40,fn40,ty41,fn41,ty42,fn42,ty43,ty44,fn44,ty45,fn45,ty46,fn46,ty47,ty48,nmOk48,kyOk48,ty49,fn49,ty50,ty51,ty52,ty53,ty54,ty55,ty56,ty57,ty58,ty59,ty60,ty61,fn61,ty63,fn63,ty65,fn65,ty66,pt66,ty68,fn68,ty69,fn69,ty70,fn70,ty71,fn71,ty72,ty73,ty74,ty75,nmOk75,kyOk75,ty76,ty77,ty78,ty79,ty80,fn80,ty81,ty82,nmOk82,kyOk82,ty83,fn83,ty84,fn84,ty85,zr85,ty86,fn86,ty88,fn88,ty89,ty90,fn90,ty91,fn91,ty93,fn93,ty94,fn94,ty95,fn95,ty97,fn97,ty98,ty99,nmOk99,kyOk99,ty101,ty102,nmOk102,kyOk102,ty103,ty104,ty105,ty106,ty107,ty108,fn108,ty109,fn109,ty110,fn110,ty111,fn111,ty112,fn112,ty113,fn113,ty114,pt114,ty115,ty116,fn116,ty117,ty118,ty119,ty120,fn120,ty121,fn121,ty122,ty123,nmOk123,kyOk123,ty124,fn124,ty125,fn125,ty126,fn126,ty127,ty128,fn128,ty129,fn129,ty130,ty131,fn131,ty132,pt132,ty133,pt133,ty134,fn134,ty135,ty136,ty137,fn137,ty138,fn138,ty139,ty140,nmOk140,kyOk140,ty141,ty142,pt142,ty143,fn143,ty144,fn144,ty145,fn145,ty146,fn146,ty147,ty148,fn148,ty149,ty150,fn150,ty151,pt151,ty152,fn152,ty153,fn153,ty154,fn154,ty155,fn155,ty156,fn156,ty157,fn157,ty158,fn158,ty159,fn159,ty160,ty161,nmOk161,kyOk161,ty162,fn162,ty163,fn163,ty165,fn165,ty166,fn166,ty167,fn167,ty168,fn168,ty169,fn169,ty171,ty172,ty173,ty174,fn174,ty175,ty176,ty177,fn177,ty178,fn178,ty179,fn179,ty180,fn180,ty181,fn181,ty182,fn182,ty183,ty184,fn184,ty185,fn185,ty186,ty187,ty188,ty189,ty190,ty191,fn191,ty192,ty193,ty194,ty195,fn195,ty196,pt196,ty197,ty198,ty199,ty200⟩
theorem call5:Callable Tryd.prog 5:=⟨_,Tryd.func5,rfl,by decide⟩
theorem call6:Callable Tryd.prog 6:=⟨_,Tryd.func6,rfl,by decide⟩
theorem call7:Callable Tryd.prog 7:=⟨_,Tryd.func7,rfl,by decide⟩
theorem call8:Callable Tryd.prog 8:=⟨_,Tryd.func8,rfl,by decide⟩
theorem call9:Callable Tryd.prog 9:=⟨_,Tryd.func9,rfl,by decide⟩
theorem call10:Callable Tryd.prog 10:=⟨_,Tryd.func10,rfl,by decide⟩
theorem call11:Callable Tryd.prog 11:=⟨_,Tryd.func11,rfl,by decide⟩
theorem call12:Callable Tryd.prog 12:=⟨_,Tryd.func12,rfl,by decide⟩
theorem call13:Callable Tryd.prog 13:=⟨_,Tryd.func13,rfl,by decide⟩
theorem call14:Callable Tryd.prog 14:=⟨_,Tryd.func14,rfl,by decide⟩
theorem call15:Callable Tryd.prog 15:=⟨_,Tryd.func15,rfl,by decide⟩
theorem call16:Callable Tryd.prog 16:=⟨_,Tryd.func16,rfl,by decide⟩
theorem call17:Callable Tryd.prog 17:=⟨_,Tryd.func17,rfl,by decide⟩
theorem call18:Callable Tryd.prog 18:=⟨_,Tryd.func18,rfl,by decide⟩
theorem call19:Callable Tryd.prog 19:=⟨_,Tryd.func19,rfl,by decide⟩
theorem call20:Callable Tryd.prog 20:=⟨_,Tryd.func20,rfl,by decide⟩
theorem call21:Callable Tryd.prog 21:=⟨_,Tryd.func21,rfl,by decide⟩
theorem call22:Callable Tryd.prog 22:=⟨_,Tryd.func22,rfl,by decide⟩
theorem call23:Callable Tryd.prog 23:=⟨_,Tryd.func23,rfl,by decide⟩
theorem call24:Callable Tryd.prog 24:=⟨_,Tryd.func24,rfl,by decide⟩
theorem call25:Callable Tryd.prog 25:=⟨_,Tryd.func25,rfl,by decide⟩
theorem call26:Callable Tryd.prog 26:=⟨_,Tryd.func26,rfl,by decide⟩
theorem call27:Callable Tryd.prog 27:=⟨_,Tryd.func27,rfl,by decide⟩
theorem call28:Callable Tryd.prog 28:=⟨_,Tryd.func28,rfl,by decide⟩
theorem call29:Callable Tryd.prog 29:=⟨_,Tryd.func29,rfl,by decide⟩
theorem call30:Callable Tryd.prog 30:=⟨_,Tryd.func30,rfl,by decide⟩
theorem call31:Callable Tryd.prog 31:=⟨_,Tryd.func31,rfl,by decide⟩
theorem call32:Callable Tryd.prog 32:=⟨_,Tryd.func32,rfl,by decide⟩
theorem call33:Callable Tryd.prog 33:=⟨_,Tryd.func33,rfl,by decide⟩
theorem call34:Callable Tryd.prog 34:=⟨_,Tryd.func34,rfl,by decide⟩
theorem call35:Callable Tryd.prog 35:=⟨_,Tryd.func35,rfl,by decide⟩
theorem call36:Callable Tryd.prog 36:=⟨_,Tryd.func36,rfl,by decide⟩
theorem call37:Callable Tryd.prog 37:=⟨_,Tryd.func37,rfl,by decide⟩
theorem call38:Callable Tryd.prog 38:=⟨_,Tryd.func38,rfl,by decide⟩
theorem call39:Callable Tryd.prog 39:=⟨_,Tryd.func39,rfl,by decide⟩
theorem call40:Callable Tryd.prog 40:=⟨_,Tryd.func40,rfl,by decide⟩
theorem call41:Callable Tryd.prog 41:=⟨_,Tryd.func41,rfl,by decide⟩
theorem call42:Callable Tryd.prog 42:=⟨_,Tryd.func42,rfl,by decide⟩
theorem call43:Callable Tryd.prog 43:=⟨_,Tryd.func43,rfl,by decide⟩
theorem call44:Callable Tryd.prog 44:=⟨_,Tryd.func44,rfl,by decide⟩
theorem call45:Callable Tryd.prog 45:=⟨_,Tryd.func45,rfl,by decide⟩
theorem call46:Callable Tryd.prog 46:=⟨_,Tryd.func46,rfl,by decide⟩
theorem call47:Callable Tryd.prog 47:=⟨_,Tryd.func47,rfl,by decide⟩
theorem call48:Callable Tryd.prog 48:=⟨_,Tryd.func48,rfl,by decide⟩
theorem call49:Callable Tryd.prog 49:=⟨_,Tryd.func49,rfl,by decide⟩
theorem call50:Callable Tryd.prog 50:=⟨_,Tryd.func50,rfl,by decide⟩
theorem call51:Callable Tryd.prog 51:=⟨_,Tryd.func51,rfl,by decide⟩
theorem call52:Callable Tryd.prog 52:=⟨_,Tryd.func52,rfl,by decide⟩
theorem call53:Callable Tryd.prog 53:=⟨_,Tryd.func53,rfl,by decide⟩
theorem call54:Callable Tryd.prog 54:=⟨_,Tryd.func54,rfl,by decide⟩
theorem call55:Callable Tryd.prog 55:=⟨_,Tryd.func55,rfl,by decide⟩
theorem call56:Callable Tryd.prog 56:=⟨_,Tryd.func56,rfl,by decide⟩
theorem call57:Callable Tryd.prog 57:=⟨_,Tryd.func57,rfl,by decide⟩
theorem call58:Callable Tryd.prog 58:=⟨_,Tryd.func58,rfl,by decide⟩
theorem call59:Callable Tryd.prog 59:=⟨_,Tryd.func59,rfl,by decide⟩
theorem call60:Callable Tryd.prog 60:=⟨_,Tryd.func60,rfl,by decide⟩
theorem call61:Callable Tryd.prog 61:=⟨_,Tryd.func61,rfl,by decide⟩
theorem call62:Callable Tryd.prog 62:=⟨_,Tryd.func62,rfl,by decide⟩
theorem call63:Callable Tryd.prog 63:=⟨_,Tryd.func63,rfl,by decide⟩
theorem call64:Callable Tryd.prog 64:=⟨_,Tryd.func64,rfl,by decide⟩
theorem call65:Callable Tryd.prog 65:=⟨_,Tryd.func65,rfl,by decide⟩
theorem call66:Callable Tryd.prog 66:=⟨_,Tryd.func66,rfl,by decide⟩
theorem call67:Callable Tryd.prog 67:=⟨_,Tryd.func67,rfl,by decide⟩
theorem call68:Callable Tryd.prog 68:=⟨_,Tryd.func68,rfl,by decide⟩
theorem call69:Callable Tryd.prog 69:=⟨_,Tryd.func69,rfl,by decide⟩
theorem call71:Callable Tryd.prog 71:=⟨_,Tryd.func71,rfl,by decide⟩
theorem call72:Callable Tryd.prog 72:=⟨_,Tryd.func72,rfl,by decide⟩
theorem call73:Callable Tryd.prog 73:=⟨_,Tryd.func73,rfl,by decide⟩
theorem call74:Callable Tryd.prog 74:=⟨_,Tryd.func74,rfl,by decide⟩
theorem call75:Callable Tryd.prog 75:=⟨_,Tryd.func75,rfl,by decide⟩
theorem call76:Callable Tryd.prog 76:=⟨_,Tryd.func76,rfl,by decide⟩
theorem call77:Callable Tryd.prog 77:=⟨_,Tryd.func77,rfl,by decide⟩
theorem call78:Callable Tryd.prog 78:=⟨_,Tryd.func78,rfl,by decide⟩
theorem call79:Callable Tryd.prog 79:=⟨_,Tryd.func79,rfl,by decide⟩
theorem call80:Callable Tryd.prog 80:=⟨_,Tryd.func80,rfl,by decide⟩
theorem call81:Callable Tryd.prog 81:=⟨_,Tryd.func81,rfl,by decide⟩
theorem call82:Callable Tryd.prog 82:=⟨_,Tryd.func82,rfl,by decide⟩
theorem call83:Callable Tryd.prog 83:=⟨_,Tryd.func83,rfl,by decide⟩
theorem call84:Callable Tryd.prog 84:=⟨_,Tryd.func84,rfl,by decide⟩
theorem call85:Callable Tryd.prog 85:=⟨_,Tryd.func85,rfl,by decide⟩
theorem call86:Callable Tryd.prog 86:=⟨_,Tryd.func86,rfl,by decide⟩
theorem call87:Callable Tryd.prog 87:=⟨_,Tryd.func87,rfl,by decide⟩
theorem call88:Callable Tryd.prog 88:=⟨_,Tryd.func88,rfl,by decide⟩
theorem call89:Callable Tryd.prog 89:=⟨_,Tryd.func89,rfl,by decide⟩
theorem call90:Callable Tryd.prog 90:=⟨_,Tryd.func90,rfl,by decide⟩
theorem call91:Callable Tryd.prog 91:=⟨_,Tryd.func91,rfl,by decide⟩
theorem call92:Callable Tryd.prog 92:=⟨_,Tryd.func92,rfl,by decide⟩
theorem call93:Callable Tryd.prog 93:=⟨_,Tryd.func93,rfl,by decide⟩
theorem call94:Callable Tryd.prog 94:=⟨_,Tryd.func94,rfl,by decide⟩
theorem call95:Callable Tryd.prog 95:=⟨_,Tryd.func95,rfl,by decide⟩
theorem call96:Callable Tryd.prog 96:=⟨_,Tryd.func96,rfl,by decide⟩
theorem call97:Callable Tryd.prog 97:=⟨_,Tryd.func97,rfl,by decide⟩
end Go.Proofs.YtgbbhilflgekhaaDoor
end
section
namespace Go.Proofs.YtgbbhilflgekhaaDoor
open Go Go.Ab
def memOf(W:World):Nat→Nat→Option Value:=fun b o=>(W.cell? ⟨b,o,none⟩).bind fun v=>if v.oneCell' then some v else none
theorem memOf_some{W:World}{b o:Nat}{v:Value}(h:W.cell? ⟨b,o,none⟩=some v)(h1:v.oneCell'=true):memOf W b o=some v:=by simp[memOf,h,h1]
theorem memOk_of(W:World):MemOk (memOf W) W:=by
 intro b o v h
 simp only[memOf,Option.bind_eq_some_iff] at h
 obtain⟨u,h1,h2⟩:=h
 split at h2
 ·rename_i h3;cases h2;exact⟨h1,h3⟩
 ·cases h2
theorem bulk_one{H:Type}(d:DataW H):1≤Rows.uptoBulk d:=by
 cases d with
 | lit l=>cases l <;> simp[Rows.uptoBulk]
 | _=>simp[Rows.uptoBulk]
theorem bulkAll_sum{H:Type}(l:List (DataW H)):Rows.uptoBulkAll l=(l.map Rows.uptoBulk).sum:=by
 induction l with
 | nil=>simp[Rows.uptoBulkAll]
 | cons x l ih=>simp[Rows.uptoBulkAll,ih]
section
variable {H:Type} (enc:TypeId × Value→H) (P:Program) (W:World)
def Rd (n:Nat)(t:TypeId)(E:List AV→Nat→Prop):Prop :=
 ∀ cs d ps,DataW.trod enc P W 0 (fun _=>true) true n t cs=some (d,ps)→(∀ c∈cs,c.oneCell'=true)∧∃ av,RepL (gm (memOf W)) cs av∧E av (Rows.uptoBulk d)
variable {enc P W}
theorem Rd.mono{n:Nat}{t:TypeId}{E F:List AV→Nat→Prop}(h:Rd enc P W n t E)(k:∀ av m,E av m→F av m):Rd enc P W n t F:=fun cs d ps e=>by
 obtain⟨h1,av,h2,h3⟩:=h cs d ps e
 exact⟨h1,av,h2,k av _ h3⟩
theorem Rd.zero{t:TypeId}{E:List AV→Nat→Prop}:Rd enc P W 0 t E:=fun cs d ps e=>by simp[DataW.trod] at e
theorem repL_lit{g:Gh}{v:Value}(h:plain v=true):RepL g [v] [.lit v]:=.cons (.lit h) .nil
theorem under_of{t:TypeId}{ti:TI}(h:tyOf P t=some ti):∃ d,P.underlying t=some d∧ti.kd=kdOf d∧P.cellsOf t=ti.size:=by
 obtain⟨i,d,h1,h2,h3,h4,_⟩:=tyOf_some h
 exact⟨d,h2,h3,by simp[Program.cellsOf,h1,h4]⟩
theorem cellsOf_ty{t:TypeId}{ti:TI}(h:tyOf P t=some ti):P.cellsOf t=ti.size:=(under_of h).choose_spec.2.2
theorem Rd.int{n:Nat}{t:TypeId}{ti:TI}(h:tyOf P t=some ti){k:IntKind}(hk:ti.kd = .int k):Rd enc P W n t (fun av m=>∃ z,(Lit.int k z).wf=true∧av=[.lit (.int k z)]):=by
 cases n with
 | zero=>exact .zero
 | succ n =>
  intro cs d ps e
  obtain⟨u,hu,hd,_⟩:=under_of h
  rw[hk] at hd
  cases u <;> simp[kdOf] at hd
  subst hd
  rw[DataW.trod_step] at e
  unfold DataW.trodStep at e
  rw[hu] at e
  split at e <;> rename_i heq <;> first | (cases heq;done) | skip
  ·rename_i k' q
   cases heq
   split at e
   ·rename_i hc
    obtain⟨rfl,hw⟩:=hc
    exact⟨by simp[Value.oneCell'],_,repL_lit rfl,_,hw,rfl⟩
   ·cases e
  all_goals simp_all
theorem Rd.bool{n:Nat}{t:TypeId}{ti:TI}(h:tyOf P t=some ti)(hk:ti.kd = .bool):Rd enc P W n t (fun av m=>∃ b,av=[.lit (.bool b)]):=by
 cases n with
 | zero=>exact .zero
 | succ n =>
  intro cs d ps e
  obtain⟨u,hu,hd,_⟩:=under_of h
  rw[hk] at hd
  cases u <;> simp[kdOf] at hd
  rw[DataW.trod_step] at e
  unfold DataW.trodStep at e
  rw[hu] at e
  split at e <;> rename_i heq <;> first | (cases heq;done) | skip
  ·exact⟨by simp[Value.oneCell'],_,repL_lit rfl,_,rfl⟩
  all_goals simp_all
theorem Rd.str{n:Nat}{t:TypeId}{ti:TI}(h:tyOf P t=some ti)(hk:ti.kd = .str):Rd enc P W n t (fun av m=>∃ s:ByteArray,s.size≤maxLen∧s.size+1=m∧av=[.lit (.string s)]):=by
 cases n with
 | zero=>exact .zero
 | succ n =>
  intro cs d ps e
  obtain⟨u,hu,hd,_⟩:=under_of h
  rw[hk] at hd
  cases u <;> simp[kdOf] at hd
  rw[DataW.trod_step] at e
  unfold DataW.trodStep at e
  rw[hu] at e
  split at e <;> rename_i heq <;> first | (cases heq;done) | skip
  ·rename_i s
   split at e
   ·rename_i hs
    cases e
    refine⟨by simp[Value.oneCell'],_,repL_lit rfl,s,hs,?_,rfl⟩
    simp only[Rows.uptoBulk]
    rw[Array.length_toList];rfl
   ·cases e
  all_goals simp_all
theorem mapM_get{α β:Type}{f:α→Option β}:∀ {l:List α} {r:List β},l.mapM f=some r→∀ (i:Nat) (x:α),l[i]? = some x→∃ y,r[i]? = some y∧f x=some y:=by
 intro l
 induction l with
 | nil=>intro r h i x e;simp at e
 | cons a l ih =>
  intro r h i x e
  rw[List.mapM_cons] at h
  cases hx:f a with
  | none=>simp[hx] at h
  | some y =>
   cases hxs:l.mapM f with
   | none=>simp[hx,hxs] at h
   | some ys =>
    simp[hx,hxs] at h
    subst h
    cases i with
    | zero=>simp at e;subst e;exact⟨y,rfl,hx⟩
    | succ i=>simp at e;simpa using ih hxs i x e
theorem spot_none{a:Addr}{i:Nat}{v:Value}(h:W.cell? (a.add i)=some v):a.add i=⟨a.block,a.off+i,none⟩:=by
 have hspot:(a.add i).spot=none:=by
  cases hsp:(a.add i).spot with
  | none=>rfl
  | some s =>
   simp only[World.cell?] at h
   split at h
   ·simp[hsp] at h
   ·cases h
 unfold Addr.add at hspot ⊢
 split
 ·rename_i h0
  subst h0
  rw[if_pos rfl] at hspot
  cases a
  simp_all
 ·rfl
theorem cells_some{a:Addr}{n:Nat}{cs:List Value}(h:W.cells? 0 a n=some cs):cs.length=n∧∀ (i:Nat) (v:Value),cs[i]? = some v→W.cell? ⟨a.block,a.off+i,none⟩=some v∧W.cell? (a.add i)=some v:=by
 unfold World.cells? at h
 rw[if_pos (Nat.zero_le _)] at h
 have hl:cs.length=n:=by simpa using mapM_some_length h
 refine⟨hl,fun i v e=>?_⟩
 have hi:i<n:=by have:=(List.getElem?_eq_some_iff.1 e).1;omega
 obtain⟨y,h1,h2⟩:=mapM_get h i i (by simp[hi])
 rw[e] at h1;cases h1
 exact⟨by rw[← spot_none h2];exact h2,h2⟩
theorem add_add{a:Addr}{i j:Nat}:(a.add i).add j=a.add (i+j):=by
 unfold Addr.add
 by_cases h:i=0
 ·subst h;simp
 ·by_cases h2:j=0
  ·subst h2;simp
  ·simp[h,h2,Nat.add_assoc]
theorem Rd.slice{n:Nat}{t e:TypeId}{ti te:TI}(h:tyOf P t=some ti)(hk:ti.kd = .sl e)(he:tyOf P e=some te)(hpos:0<te.size){E:List AV→Nat→Prop}(hE:Rd enc P W n e E) :
  Rd enc P W (n+1) t (fun av m=>∃ l:List (List AV × Nat),av=[.vec (l.map (·.1)) false]∧(∀ p∈l,E p.1 p.2∧1≤p.2∧p.1.length=te.size)∧(l.map (·.2)).sum+1≤m∧l.length≤maxLen):=by
 intro cs d ps e0
 obtain⟨u,hu,hd,_⟩:=under_of h
 rw[hk] at hd
 cases u <;> simp[kdOf] at hd
 subst hd
 have hc:=cellsOf_ty he
 rw[DataW.trod_step] at e0
 unfold DataW.trodStep at e0
 rw[hu] at e0
 split at e0 <;> rename_i heq <;> first | (cases heq;done) | skip
 ·cases e0
  refine⟨by simp[Value.oneCell'],_,.cons .vecN .nil,[],rfl,by simp,by simp[Rows.uptoBulk],by simp⟩
 ·rename_i a len cap
  cases heq
  simp only at e0
  split at e0
  ·rename_i hcond
   obtain⟨_,hlc,hcm⟩:=hcond
   simp only[Option.map_eq_some_iff,Option.bind_eq_some_iff] at e0
   obtain⟨elems,hel,rest,hrest,heq2⟩:=e0
   cases heq2
   have hlen:elems.length=len:=by simpa using mapM_some_length hel
   refine⟨by simp[Value.oneCell'],?_⟩
   have row:∀ i,i<len→∃ y,elems[i]? = some y∧∃ cs',cs'.length=te.size∧(∀ j v,cs'[j]? = some v→W.cell? (a.add (i * te.size+j))=some v)∧(∀ c∈cs',c.oneCell'=true)∧∃ av,RepL (gm (memOf W)) cs' av∧E av (Rows.uptoBulk y.1):=by
    intro i hi
    obtain⟨y,h1,h2⟩:=mapM_get hel i i (by simp[hi])
    simp only[Option.bind_eq_some_iff] at h2
    obtain⟨cs',hc1,hc2⟩:=h2
    rw[hc] at hc1
    obtain⟨c1,c2⟩:=cells_some hc1
    obtain⟨y1,y2⟩:=y
    obtain⟨r1,r2⟩:=hE _ _ _ hc2
    refine⟨_,h1,cs',c1,fun j v e=>?_,r1,r2⟩
    rw[← add_add];exact(c2 j v e).2
   by_cases h0:len=0
   ·subst h0
    have:elems=[]:=List.length_eq_zero_iff.1 hlen
    subst this
    exact⟨_,.cons (.vecE (fun q=>by cases q)) .nil,[],rfl,by simp,by simp[Rows.uptoBulk,Rows.uptoBulkAll],by simp⟩
   ·
    have hp:0<len:=by omega
    obtain⟨y0,g1,cs0,g2,g3,_⟩:=row 0 hp
    obtain⟨v0,hv0⟩:∃ v0,cs0[0]? = some v0:=⟨cs0[0]'(by omega),by simp⟩
    have ha:a=⟨a.block,a.off,none⟩:=by
     have:=g3 0 v0 hv0
     have h2:=spot_none (a:=a) (i:=0) (by simpa using this)
     simpa [Addr.add] using h2
    classical
    let asf:Nat→List AV:=fun i=>if hi:i<len then (row i hi).choose_spec.2.choose_spec.2.2.2.choose else []
    let csf:Nat→List Value:=fun i=>if hi:i<len then (row i hi).choose_spec.2.choose else []
    let yf:Nat→Nat:=fun i=>if hi:i<len then Rows.uptoBulk (row i hi).choose.1 else 0
    have fact:∀ i,i<len→elems[i]?.map (fun y=>Rows.uptoBulk y.1)=some (yf i)∧(csf i).length=te.size∧(∀ j v,(csf i)[j]? = some v→W.cell? (a.add (i * te.size+j))=some v)∧(∀ c∈csf i,c.oneCell'=true)∧RepL (gm (memOf W)) (csf i) (asf i)∧E (asf i) (yf i)∧1≤yf i:=by
     intro i hi
     have q:=(row i hi).choose_spec
     have q2:=q.2.choose_spec
     have q3:=q2.2.2.2.choose_spec
     simp only[asf,csf,yf,dif_pos hi]
     exact⟨congrArg (Option.map fun y=>Rows.uptoBulk y.1) q.1,q2.1,q2.2.1,q2.2.2.1,q3.1,q3.2,bulk_one _⟩
    let l:List (List AV × Nat):=(List.range len).map fun i=>(asf i,yf i)
    have hll:l.length=len:=by simp[l]
    have hxs:(l.map (·.1))=(List.range len).map asf:=by simp[l,Function.comp_def]
    have hys:(l.map (·.2))=elems.map (fun y=>Rows.uptoBulk y.1):=by
     apply List.ext_getElem?
     intro i
     simp only[l,List.map_map,List.getElem?_map,Function.comp_def]
     by_cases hi:i<len
     ·rw[(fact i hi).1];simp[hi]
     ·simp[List.getElem?_eq_none (l:=elems) (i:=i) (by omega),hi]
    refine⟨[.vec (l.map (·.1)) false],.cons ?_ .nil,l,rfl,?_,?_,by rw[hll];omega⟩
    ·rw[ha]
     have key:Rep (gm (memOf W)) (.slice (some ⟨a.block,a.off,none⟩) ((List.range len).map asf).length cap) (.vec ((List.range len).map asf) false):=by
      refine .vec (s:=te.size) (fun i j=>(csf i).getD j (.bool false)) ?_ (fun q=>by cases q) (by simpa using hlc) ?_ ?_
      ·intro x hx
       obtain⟨i,hi,rfl⟩:=List.mem_map.1 hx
       have:=fact i (by simpa using hi)
       rw[← this.2.2.2.2.1.1];exact this.2.1
      ·intro i x j b e1 e2
       have hi:i<len:=by have:=(List.getElem?_eq_some_iff.1 e1).1;simpa using this
       have hx:asf i=x:=by simpa [hi] using e1
       subst hx
       obtain⟨_,f2,f3,f4,f5,_⟩:=fact i hi
       have hj:j<(csf i).length:=by rw[f5.1];exact(List.getElem?_eq_some_iff.1 e2).1
       have hv:(csf i)[j]? = some ((csf i).getD j (.bool false)):=by simp[List.getD,hj]
       have hcell:=f3 j _ hv
       have:=spot_none hcell
       rw[this] at hcell
       rw[Nat.add_assoc]
       exact memOf_some hcell (f4 _ (List.mem_of_getElem? hv))
      ·intro i x j b e1 e2
       have hi:i<len:=by have:=(List.getElem?_eq_some_iff.1 e1).1;simpa using this
       have hx:asf i=x:=by simpa [hi] using e1
       subst hx
       obtain⟨_,f2,f3,f4,f5,_⟩:=fact i hi
       have hj:j<(csf i).length:=by rw[f5.1];exact(List.getElem?_eq_some_iff.1 e2).1
       have hv:(csf i)[j]? = some ((csf i).getD j (.bool false)):=by simp[List.getD,hj]
       exact f5.2 j _ b hv e2
     rw[hxs]
     simpa using key
    ·intro p hp
     obtain⟨i,hi,rfl⟩:=List.mem_map.1 hp
     obtain⟨_,f2,_,_,f5,f6,f7⟩:=fact i (by simpa using hi)
     exact⟨f6,f7,by rw[← f5.1];exact f2⟩
    ·rw[hys]
     simp only[Rows.uptoBulk,bulkAll_sum,List.map_map]
     have:(List.map (Rows.uptoBulk ∘ fun x=>x.fst) elems).sum=(List.map (fun y=>Rows.uptoBulk y.1) elems).sum:=rfl
     omega
  ·cases e0
 all_goals simp_all
def RdFs (enc:TypeId × Value→H)(P:Program)(W:World)(n N:Nat)(fs:List (Nat × TypeId))(k:Nat)(E:List AV→Nat→Prop):Prop :=
 ∀ (cs:List Value) (xs:List (DataW H × List MemPlace)),cs.length=N→(fs.mapM fun f=>DataW.trod enc P W 0 (fun _=>true) true n f.2 ((cs.drop f.1).take (P.cellsOf f.2)))=some xs →
  (∀ c∈cs.drop k,c.oneCell'=true)∧∃ av,RepL (gm (memOf W)) (cs.drop k) av∧E av (Rows.uptoBulkAll (xs.map (·.1)))
theorem RdFs.nil{n N k:Nat}(h:N≤k):RdFs enc P W n N [] k (fun av m=>av=[]):=fun cs xs hl _=>by
 have:cs.drop k=[]:=List.drop_eq_nil_of_le (by omega)
 rw[this]
 exact⟨by simp,[],.nil,rfl⟩
theorem RdFs.cons{n N k t:Nat}{ti:TI}{fs:List (Nat × TypeId)}{E F:List AV→Nat→Prop}(ht:tyOf P t=some ti)(h:Rd enc P W n t E)(r:RdFs enc P W n N fs (k+ti.size) F) :
  RdFs enc P W n N ((k,t) :: fs) k (fun av m=>∃ a b p q,av=a++b∧E a p∧F b q∧p+q=m):=by
 intro cs xs hl hm
 rw[List.mapM_cons] at hm
 simp only[bind,Option.bind_eq_some_iff,pure,Option.some.injEq] at hm
 obtain⟨⟨d,ps⟩,h1,ys,h2,rfl⟩:=hm
 obtain⟨q1,av,q2,q3⟩:=h _ _ _ h1
 obtain⟨r1,bs,r2,r3⟩:=r cs ys hl h2
 have e:cs.drop k=(cs.drop k).take (P.cellsOf t)++cs.drop (k+ti.size):=by
  rw[cellsOf_ty ht,← List.drop_drop,List.take_append_drop]
 rw[e]
 refine⟨fun c hc=>?_,av++bs,q2.append r2,av,bs,_,_,rfl,q3,r3,?_⟩
 ·rcases List.mem_append.1 hc with hc | hc
  ·exact q1 c hc
  ·exact r1 c hc
 ·simp[Rows.uptoBulkAll]
theorem mapM_map'{α β γ:Type}(f:α→β)(g:β→Option γ):∀ l:List α,(l.map f).mapM g=l.mapM fun x=>g (f x)
 | []=>by simp
 | x :: l=>by simp only[List.map_cons,List.mapM_cons,mapM_map' f g l]
theorem Rd.struct{n:Nat}{t:TypeId}{ti:TI}(h:tyOf P t=some ti){fs:List (Nat × TypeId)}(hk:ti.kd = .st fs){E:List AV→Nat→Prop}(hE:RdFs enc P W n ti.size fs 0 E) :
  Rd enc P W (n+1) t (fun av m=>∃ q,E av q∧q+1=m):=by
 intro cs d ps e0
 obtain⟨u,hu,hd,hc⟩:=under_of h
 rw[hk] at hd
 cases u <;> simp[kdOf] at hd
 rename_i fs'
 subst hd
 rw[DataW.trod_step] at e0
 unfold DataW.trodStep at e0
 rw[hu] at e0
 have key:(if cs.length=P.cellsOf t then (fs'.toList.mapM fun f=>DataW.trod enc P W 0 (fun _=>true) true n f.type ((cs.drop f.offset).take (P.cellsOf f.type))).map fun xs=>(DataW.agg (xs.map (·.1)),xs.flatMap (·.2)) else none)=some (d,ps):=by
  split at e0 <;> rename_i heq <;> first | (cases heq;done) | skip
  ·cases heq;exact e0
  all_goals simp_all
 split at key
 ·rename_i hl
  simp only[Option.map_eq_some_iff,Prod.mk.injEq] at key
  obtain⟨xs,h1,rfl,rfl⟩:=key
  rw[hc] at hl
  obtain⟨r1,av,r2,r3⟩:=hE cs xs hl (by rw[mapM_map'];exact h1)
  exact⟨by simpa using r1,av,by simpa using r2,_,r3,by simp[Rows.uptoBulk]⟩
 ·cases key
theorem rows_of{T:Type}{f:T→List AV}{sz:T→Nat}{E:List AV→Nat→Prop}(hE:∀ a m,E a m→∃ t,a=f t∧sz t≤m):∀ (l:List (List AV × Nat)),(∀ p∈l,E p.1 p.2)→∃ ts:List T,l.map (·.1)=ts.map f∧(ts.map sz).sum≤(l.map (·.2)).sum
 | [],_=>⟨[],rfl,Nat.le_refl _⟩
 | p :: l,h=>by
  obtain⟨t,h1,h2⟩:=hE _ _ (h p (by simp))
  obtain⟨ts,h3,h4⟩:=rows_of hE l (fun q hq=>h q (by simp[hq]))
  exact⟨t :: ts,by simp[h1,h3],by simp;omega⟩
end
end Go.Proofs.YtgbbhilflgekhaaDoor
end
section
namespace Go.Proofs.YtgbbhilflgekhaaDoor
open Go Go.Ab
set_option maxRecDepth 20000
theorem i64w{n:Int}(h : -9223372036854775808≤n)(k:n≤9223372036854775807):IntKind.i64.wrap n=n:=IntWalk.i64_in n ⟨h,k⟩
theorem mixed:Tryd.prog.follows .mixedOrders=true:=by decide
theorem ret1{σ:St}{h:Hp}{v:AV}{N:Nat}(t:Nat)(ho:Own h)(hN:h.nx=N)(hle:N≤σ.hp.nx)(hv:lk σ.slots t=some v)(hp:Rn id N v v)(hb:∀ p∈h.boxes,lk σ.hp.boxes p.1=some p.2)(ht:∀ p∈h.toks,lk σ.hp.toks p.1=some p.2) :
  ∃ σ',St.cp N σ σ'∧resK (resOf Tryd.prog σ' [.tmp t]) (fun r h'=>r=v∧h'=h) σ'.hp:=retC_one t ho hN hle hv hp hb ht
abbrev I8:={z:Int // -128≤z∧z≤127}
theorem I8.lo(z:I8) : -128≤z.1:=z.2.1
theorem I8.hi(z:I8):z.1≤127:=z.2.2
instance:Inhabited I8:=⟨⟨0,by decide⟩⟩
inductive Gd where
 | mk (op:I8) (n:Int) (name:ByteArray) (kids:List Gd)
structure Ed where
 op:I8
 set:List (Int × Int)
 n:Int
 level:Int
 g:Gd
 acts:List (Int × Int)
 to:Int
structure Sta where
 rule:Int
 edges:List Ed
structure Nr where
 name:ByteArray
 lexer:Bool
 frag:Bool
 lz:Bool
 left:Bool
 mode:Int
 type:Int
 start:Int
 stop:Int
structure Nt where
 types:List ByteArray
 channels:List ByteArray
 modes:List ByteArray
 rules:List Nr
 states:List Sta
structure It where
 type:Int
 index:Int
 column:Int
 made:Bool
 token:Int
structure Orc where
 id:Int
 index:Int
 says:Bool
instance:Inhabited Gd:=⟨.mk default 0 ⟨#[]⟩ []⟩
instance:Inhabited Ed:=⟨⟨default,[],0,0,default,[],0⟩⟩
instance:Inhabited Sta:=⟨⟨0,[]⟩⟩
instance:Inhabited Nr:=⟨⟨⟨#[]⟩,false,false,false,false,0,0,0,0⟩⟩
instance:Inhabited Nt:=⟨⟨[],[],[],[],[]⟩⟩
instance:Inhabited It:=⟨⟨0,0,0,false,0⟩⟩
instance:Inhabited Orc:=⟨⟨0,0,false⟩⟩
def Gd.op:Gd→I8 | .mk a _ _ _=>a
def Gd.n:Gd→Int | .mk _ a _ _=>a
def Gd.name:Gd→ByteArray | .mk _ _ a _=>a
def Gd.kids:Gd→List Gd | .mk _ _ _ a=>a
mutual
def encG:Gd→List AV
 | .mk op n name kids=>[.lit (.int .i8 op.1),.lit (.int .i64 n),.lit (.string name),.vec (encGs kids) false]
def encGs:List Gd→List (List AV)
 | []=>[]
 | g :: l=>encG g :: encGs l
end
theorem encGs_map(l:List Gd):encGs l=l.map encG:=by induction l with | nil=>rfl | cons x l ih=>simp[encGs,ih]
theorem encG_eq(g:Gd):encG g=[.lit (.int .i8 g.op.1),.lit (.int .i64 g.n),.lit (.string g.name),.vec (g.kids.map encG) false]:=by cases g;simp only[encG,encGs_map];rfl
def encR (p:Int × Int):List AV:=[.lit (.int .i32 p.1),.lit (.int .i32 p.2)]
def encAct(p:Int × Int):List AV:=[.lit (.int .i8 p.1),.lit (.int .i64 p.2)]
def encE (e:Ed):List AV:=[.lit (.int .i8 e.op.1),.vec (e.set.map encR) false,.lit (.int .i64 e.n),.lit (.int .i64 e.level),.lit (.int .i8 e.g.op.1),.lit (.int .i64 e.g.n),.lit (.string e.g.name),.vec (e.g.kids.map encG) false,.vec (e.acts.map encAct) false,.lit (.int .i64 e.to)]
def encSt(s:Sta):List AV:=[.lit (.int .i64 s.rule),.vec (s.edges.map encE) false]
def encNr(r:Nr):List AV:=[.lit (.string r.name),.lit (.bool r.lexer),.lit (.bool r.frag),.lit (.bool r.lz),.lit (.bool r.left),.lit (.int .i64 r.mode),.lit (.int .i64 r.type),.lit (.int .i64 r.start),.lit (.int .i64 r.stop)]
def encB (b:ByteArray):List AV:=[.lit (.string b)]
def encN (n:Nt):List AV:=[.vec (n.types.map encB) false,.vec (n.channels.map encB) false,.vec (n.modes.map encB) false,.vec (n.rules.map encNr) false,.vec (n.states.map encSt) false]
def encI (i:It):List AV:=[.lit (.int .i64 i.type),.lit (.int .i64 i.index),.lit (.int .i64 i.column),.lit (.bool i.made),.lit (.int .i64 i.token)]
def encO (o:Orc):List AV:=[.lit (.int .i64 o.id),.lit (.int .i64 o.index),.lit (.bool o.says)]
def enc1 (n:Int):List AV:=[.lit (.int .i64 n)]
theorem encG_length(g:Gd):(encG g).length=4:=by cases g;rfl
theorem encE_length(e:Ed):(encE e).length=10:=rfl
theorem encSt_length(s:Sta):(encSt s).length=2:=rfl
theorem encNr_length(r:Nr):(encNr r).length=9:=rfl
theorem encN_length(n:Nt):(encN n).length=5:=rfl
theorem encI_length(i:It):(encI i).length=5:=rfl
theorem encO_length(o:Orc):(encO o).length=3:=rfl
theorem encR_length(o:Int × Int):(encR o).length=2:=rfl
theorem encAct_length(o:Int × Int):(encAct o).length=2:=rfl
theorem encB_length(o:ByteArray):(encB o).length=1:=rfl
theorem enc1_length(o:Int):(enc1 o).length=1:=rfl
theorem encG_take(g:Gd):(encG g).take 4=encG g:=by cases g;rfl
theorem encE_take(e:Ed):(encE e).take 10=encE e:=rfl
theorem encSt_take(s:Sta):(encSt s).take 2=encSt s:=rfl
theorem encNr_take(r:Nr):(encNr r).take 9=encNr r:=rfl
theorem encN_take(n:Nt):(encN n).take 5=encN n:=rfl
theorem encI_take(i:It):(encI i).take 5=encI i:=rfl
theorem encO_take(o:Orc):(encO o).take 3=encO o:=rfl
theorem encR_take(o:Int × Int):(encR o).take 2=encR o:=rfl
theorem encAct_take(o:Int × Int):(encAct o).take 2=encAct o:=rfl
theorem cp_drop'{σ σ':St}{N:Nat}(hN:N≤σ'.hp.nx)(hnx:σ'.hp.nx≤σ.hp.nx)(hnt:σ'.nt=σ.nt)(hs:∀ p∈σ'.slots,lk σ.slots p.1=some p.2∧Rn id σ'.hp.nx p.2 p.2)
  (hb:∀ p∈σ'.hp.boxes,p.1<σ'.hp.nx∧lk σ.hp.boxes p.1=some p.2∧RnL id σ'.hp.nx p.2 p.2)
  (ht:∀ p∈σ'.hp.toks,p.1<σ'.hp.nx∧lk σ.hp.toks p.1=some p.2∧RnR id σ'.hp.nx p.2.xs p.2.xs):St.cp N σ σ':=(St.cp_drop hnx hnt hs hb ht).mono hN
theorem map_getD{T:Type}(f:T→List AV){l:List T}{i:Nat}{x:T}(h:l[i]? = some x):(l.map f).getD i []=f x:=by simp[List.getD_eq_getElem?_getD,h]
theorem mapD{T:Type}[Inhabited T]{f:T→List AV}{l:List T}{i:Nat}(h:i<l.length):(l.map f).getD i []=f (l.getD i default):=by simp[List.getD_eq_getElem?_getD,List.getElem?_eq_getElem h]
theorem mapQ{T:Type}[Inhabited T]{f:T→List AV}{l:List T}{i:Nat}(h:i<l.length):(l.map f)[i]? = some (f (l.getD i default)):=by simp[List.getD_eq_getElem?_getD,List.getElem?_eq_getElem h]
theorem beqT{a b:Int}(h:a=b):(a==b)=true:=by rw[h];exact beq_self_eq_true b
theorem beqF{a b:Int}(h:¬ a=b):(a==b)=false:=by rw[beq_eq_false_iff_ne];exact h
theorem getD_mem{T:Type}[Inhabited T]{l:List T}{i:Nat}(h:i<l.length):l.getD i default∈l:=by rw[List.getD_eq_getElem?_getD,List.getElem?_eq_getElem h];exact List.getElem_mem h
theorem getD_get{T:Type}[Inhabited T]{l:List T}{i:Nat}(h:i<l.length):l[i]? = some (l.getD i default):=by rw[List.getD_eq_getElem?_getD,List.getElem?_eq_getElem h];rfl
theorem pure_lits{l:List AV}(h:∀ a∈l,∃ v,a = .lit v):∀ a∈l,Ab.Pure a:=fun a ha=>by obtain⟨v,rfl⟩:=h a ha;exact .lit v
theorem pure_rows{T:Type}{f:T→List AV}(h:∀ t,∀ c∈f t,Ab.Pure c)(l:List T):∀ x∈l.map f,∀ c∈x,Ab.Pure c:=fun x hx=>by
 obtain⟨t,_,rfl⟩:=List.mem_map.1 hx;exact h t
theorem pure_encG(g:Gd):∀ c∈encG g,Ab.Pure c:=by
 match g with
 | .mk op n name kids =>
  intro c hc
  simp only[encG,List.mem_cons,List.not_mem_nil,or_false] at hc
  rcases hc with rfl | rfl | rfl | rfl
  iterate 3 exact .lit _
  refine .vec fun x hx=>?_
  rw[encGs_map] at hx
  obtain⟨k,hk,rfl⟩:=List.mem_map.1 hx
  exact pure_encG k
termination_by SizeOf.sizeOf g
decreasing_by simp_wf;have:=List.sizeOf_lt_of_mem hk;omega
theorem pure_encR(p:Int × Int):∀ c∈encR p,Ab.Pure c:=pure_lits (by simp[encR])
theorem pure_encAct(p:Int × Int):∀ c∈encAct p,Ab.Pure c:=pure_lits (by simp[encAct])
theorem pure_encO(p:Orc):∀ c∈encO p,Ab.Pure c:=pure_lits (by simp[encO])
theorem pure_encNr(p:Nr):∀ c∈encNr p,Ab.Pure c:=pure_lits (by simp[encNr])
theorem pure_encB(p:ByteArray):∀ c∈encB p,Ab.Pure c:=pure_lits (by simp[encB])
theorem pure_enc1(p:Int):∀ c∈enc1 p,Ab.Pure c:=pure_lits (by simp[enc1])
theorem pure_encE(e:Ed):∀ c∈encE e,Ab.Pure c :=
 allc (.lit _) (allc (.vec (pure_rows pure_encR _)) (allc (.lit _) (allc (.lit _) (allc (.lit _) (allc (.lit _) (allc (.lit _) (allc (.vec (pure_rows pure_encG _)) (allc (.vec (pure_rows pure_encAct _)) (allc (.lit _) alln)))))))))
theorem pure_encSt(s:Sta):∀ c∈encSt s,Ab.Pure c:=allc (.lit _) (allc (.vec (pure_rows pure_encE _)) alln)
theorem pure_encN(n:Nt):∀ c∈encN n,Ab.Pure c :=
 allc (.vec (pure_rows pure_encB _)) (allc (.vec (pure_rows pure_encB _)) (allc (.vec (pure_rows pure_encB _)) (allc (.vec (pure_rows pure_encNr _)) (allc (.vec (pure_rows pure_encSt _)) alln))))
def grA (t:Nat):List (List AV)→AV
 | []=>.vec [] true
 | _ :: l=>.own t (l.length+1)
def grT (t s:Nat):List (List AV)→List (Nat × Tk)
 | []=>[]
 | x :: l=>[(t,⟨x :: l,0,s⟩)]
def grN (t:Nat):List (List AV)→Nat
 | []=>t
 | _ :: _=>t+1
theorem fits_of'{n b:Nat}(h:n≤2000000000)(k:n * b≤140737488355328):fits n b:=⟨Nat.le_trans h (by decide),k⟩
theorem lk_app{α:Type}:∀ (l m:List (Nat × α)) (i:Nat),lk (l++m) i=(lk l i).or (lk m i)
 | [],m,i=>by simp[lk]
 | (j,x) :: l,m,i=>by
  simp only[List.cons_append,lk]
  split
  ·rfl
  ·exact lk_app l m i
theorem St.wk_slots1{σ:St}{sl:List (Nat × AV)}{bx:List (Nat × List AV)}{tk:List (Nat × Tk)}(hs:∀ p∈sl,lk σ.slots p.1=some p.2)(hb:∀ p∈bx,lk σ.hp.boxes p.1=some p.2)(ht:∀ t,lk σ.hp.toks t=lk tk t) :
  St.wk σ ⟨sl,⟨bx,tk,σ.hp.nx⟩,σ.nt⟩ :=
 fun g0 h0 w0 g w a r=>⟨g,⟨r.st.less rfl (fun i c e=>hb _ (lk_mem e)) (fun i c e=>(ht i).trans e),fun s v e=>r.slots s v (hs _ (lk_mem e)),r.nt,r.defers⟩⟩
mutual
def gsz:Gd→Nat
 | .mk _ _ _ kids=>1+gszs kids
def gszs:List Gd→Nat
 | []=>0
 | g :: l=>gsz g+gszs l
end
theorem gszs_sum(l:List Gd):gszs l=(l.map gsz).sum:=by induction l with | nil=>rfl | cons x l ih=>simp[gszs,ih]
theorem gsz_eq(g:Gd):gsz g=1+(g.kids.map gsz).sum:=by cases g;simp only[gsz,gszs_sum];rfl
theorem sum_mem{l:List Nat}{x:Nat}(h:x∈l):x≤l.sum:=by
 induction l with
 | nil=>cases h
 | cons y l ih =>
  simp only[List.sum_cons]
  rcases List.mem_cons.1 h with rfl | h
  ·omega
  ·have:=ih h;omega
theorem sum_len{T:Type}(f:T→Nat)(h:∀ t,1≤f t)(l:List T):l.length≤(l.map f).sum:=by
 induction l with
 | nil=>simp
 | cons x l ih=>have:=h x;simp only[List.length_cons,List.map_cons,List.sum_cons];omega
theorem gsz_pos(g:Gd):1≤gsz g:=by rw[gsz_eq];omega
theorem gsz_kid{g k:Gd}(h:k∈g.kids):gsz k<gsz g:=by rw[gsz_eq g];have:=sum_mem (List.mem_map_of_mem (f:=gsz) h);omega
theorem gsz_len(g:Gd):g.kids.length<gsz g:=by rw[gsz_eq g];have:=sum_len gsz gsz_pos g.kids;omega
theorem i8_wf{z:Int}(h:(Lit.int .i8 z).wf=true) : -128≤z∧z≤127:=by
 simp only[Lit.wf,Bool.and_eq_true,decide_eq_true_eq] at h
 have e1:IntKind.i8.min = -128:=by decide
 have e2:IntKind.i8.max=127:=by decide
 omega
section
variable {H:Type} {en:TypeId × Value→H} {W:World}
theorem Rd.slice'{n:Nat}{t e:TypeId}{ti te:TI}(h:tyOf Tryd.prog t=some ti)(hk:ti.kd = .sl e)(he:tyOf Tryd.prog e=some te)(hpos:0<te.size){T:Type}{f:T→List AV}{sz:T→Nat}
  (hE:∀ k,k<n→Rd en Tryd.prog W k e (fun av m=>∃ t:T,av=f t∧sz t≤m)) :
  Rd en Tryd.prog W n t (fun av m=>∃ l:List T,av=[.vec (l.map f) false]∧(l.map sz).sum+1≤m∧l.length+1≤m):=by
 cases n with
 | zero=>exact .zero
 | succ n =>
  refine(Rd.slice h hk he hpos (hE n (Nat.lt_succ_self n))).mono ?_
  rintro av m ⟨l,rfl,h1,h2,_⟩
  obtain⟨ts,h3,h4⟩:=rows_of (f:=f) (sz:=sz) (fun a m h=>h) l (fun p hp=>(h1 p hp).1)
  have hl:l.length=ts.length:=by have:=congrArg List.length h3;simpa using this
  have h5:l.length≤(l.map (·.2)).sum:=by
   have:∀ l:List (List AV × Nat),(∀ p∈l,1≤p.2)→l.length≤(l.map (·.2)).sum:=by
    intro l
    induction l with
    | nil=>intro _;simp
    | cons x l ih=>intro hh;have:=ih (fun p hp=>hh p (by simp[hp]));have:=hh x (by simp);simp only[List.length_cons,List.map_cons,List.sum_cons];omega
   exact this l (fun p hp=>(h1 p hp).2.1)
  exact⟨ts,by rw[h3],by omega,by omega⟩
theorem Rd.struct'{n:Nat}{t:TypeId}{ti:TI}(h:tyOf Tryd.prog t=some ti){fs:List (Nat × TypeId)}(hk:ti.kd = .st fs){E:List AV→Nat→Prop}(hE:∀ k,k<n→RdFs en Tryd.prog W k ti.size fs 0 E) :
  Rd en Tryd.prog W n t (fun av m=>∃ q,E av q∧q+1=m):=by
 cases n with
 | zero=>exact .zero
 | succ n=>exact .struct h hk (hE n (Nat.lt_succ_self n))
theorem rd_act(n:Nat):Rd en Tryd.prog W n 82 (fun av m=>∃ t:Int × Int,av=encAct t∧1≤m):=by
 refine(Rd.struct' ty82 rfl fun k hk=>.cons ty53 (.int ty53 rfl) (.cons ty3 (.int ty3 rfl) (.nil (by decide)))).mono ?_
 rintro av m ⟨q,h,rfl⟩
 obtain⟨_,_,_,_,rfl,⟨z1,_,rfl⟩,h,rfl⟩:=h
 obtain⟨_,_,_,_,rfl,⟨z2,_,rfl⟩,rfl,rfl⟩:=h
 exact⟨(z1,z2),rfl,by omega⟩
theorem rd_orc(n:Nat):Rd en Tryd.prog W n 161 (fun av m=>∃ t:Orc,av=encO t∧1≤m):=by
 refine(Rd.struct' ty161 rfl fun k hk=>.cons ty2 (.int ty2 rfl) (.cons ty2 (.int ty2 rfl) (.cons ty4 (.bool ty4 rfl) (.nil (by decide))))).mono ?_
 rintro av m ⟨q,h,rfl⟩
 obtain⟨_,_,_,_,rfl,⟨z1,_,rfl⟩,h,rfl⟩:=h
 obtain⟨_,_,_,_,rfl,⟨z2,_,rfl⟩,h,rfl⟩:=h
 obtain⟨_,_,_,_,rfl,⟨b,rfl⟩,rfl,rfl⟩:=h
 exact⟨⟨z1,z2,b⟩,rfl,by omega⟩
end
end Go.Proofs.YtgbbhilflgekhaaDoor
end
section
namespace Go.Proofs.YtgbbhilflgekhaaDoor
open Go Go.Ab
theorem Azz:(type_of% @if_pos.{1})∧(type_of% @if_neg.{1})∧(type_of% @decide_eq_true)∧(type_of% @decide_eq_false)∧(type_of% @mapD)∧(type_of% @mapQ)∧(type_of% @List.length_map.{0,0})∧(type_of% @Int.toNat_natCast)∧(type_of% @Int.toNat_zero)∧(type_of% @Int.toNat_one)∧(type_of% @i64w)∧(type_of% @bne.eq_def.{0})∧(type_of% @beqT)∧(type_of% @beqF)∧(type_of% @encE_length)∧(type_of% @encSt_length)∧(type_of% @encNr_length)∧(type_of% @encN_length)∧(type_of% @encI_length)∧(type_of% @encO_length)∧(type_of% @encR_length)∧(type_of% @encAct_length)∧(type_of% @encB_length)∧(type_of% @enc1_length)∧(type_of% @encG_length)∧(type_of% @encG_take)∧(type_of% @encE_take)∧(type_of% @encSt_take)∧(type_of% @encNr_take)∧(type_of% @encN_take)∧(type_of% @encI_take)∧(type_of% @encO_take)∧(type_of% @encR_take)∧(type_of% @encAct_take):=⟨@if_pos.{1},@if_neg.{1},@decide_eq_true,@decide_eq_false,@mapD,@mapQ,@List.length_map.{0,0},@Int.toNat_natCast,@Int.toNat_zero,@Int.toNat_one,@i64w,@bne.eq_def.{0},@beqT,@beqF,@encE_length,@encSt_length,@encNr_length,@encN_length,@encI_length,@encO_length,@encR_length,@encAct_length,@encB_length,@enc1_length,@encG_length,@encG_take,@encE_take,@encSt_take,@encNr_take,@encN_take,@encI_take,@encO_take,@encR_take,@encAct_take⟩
theorem Wz:(type_of% @Wa)∧(type_of% @tyW)∧(type_of% @Azz)∧(type_of% @decide_false)∧(type_of% @decide_true)∧(type_of% @Bool.not_false)∧(type_of% @Bool.not_true):=⟨Wa,tyW,Azz,@decide_false,@decide_true,Bool.not_false,Bool.not_true⟩
end Go.Proofs.YtgbbhilflgekhaaDoor
end
