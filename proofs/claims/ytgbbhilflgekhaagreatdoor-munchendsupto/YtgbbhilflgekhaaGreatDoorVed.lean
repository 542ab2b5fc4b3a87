/- Parts of the proof, laid together. -/
import Derived.Test.YtgbbhilflgekhaaGreatDoorVec
import Derived.Test.YtgbbhilflgekhaaGreatDoorProg
import Derived.KernelRfl
import Derived.Test.YtgbbhilflgekhaaGreatDoorRows
import Derived.ChangeReads
import Derived.WideShapes
set_option linter.unusedVariables false
set_option linter.unusedSimpArgs false
set_option maxRecDepth 20000
set_option maxHeartbeats 16000000
section
namespace Go.Proofs.Y
open Go.Ab
open Go.Proofs.Tryz renaming prog->Pg
theorem ty1:Jt Pg 1=some {kd:=.oth,size:=1,bytes:=8,zero:=some [.lit .nilFunc]}:=by kernel_rfl
theorem fn1:Jam Pg 1=true:=by kernel_rfl
theorem ty2:Jt Pg 2=some {kd:=.int .i64,size:=1,bytes:=8,zero:=some [.lit (.int .i64 0)]}:=by kernel_rfl
theorem ty3:Jt Pg 3=some {kd:=.int .i64,size:=1,bytes:=8,zero:=some [.lit (.int .i64 0)]}:=by kernel_rfl
theorem ty4:Jt Pg 4=some {kd:=.bool,size:=1,bytes:=1,zero:=some [.lit (.bool false)]}:=by kernel_rfl
theorem zr4:JdH Pg 4=some (.lit (.bool false)):=by kernel_rfl
theorem ty5:Jt Pg 5=some {kd:=.int .u8,size:=1,bytes:=1,zero:=some [.lit (.int .u8 0)]}:=by kernel_rfl
theorem ty6:Jt Pg 6=some {kd:=.int .u8,size:=1,bytes:=1,zero:=some [.lit (.int .u8 0)]}:=by kernel_rfl
theorem ty7:Jt Pg 7=some {kd:=.st [(0,2),(1,3),(2,4),(3,6)],size:=4,bytes:=24,zero:=some [.lit (.int .i64 0),.lit (.int .i64 0),.lit (.bool false),.lit (.int .u8 0)]}:=by kernel_rfl
theorem ty8:Jt Pg 8=some {kd:=.st [(0,2),(1,3),(2,4),(3,6)],size:=4,bytes:=24,zero:=some [.lit (.int .i64 0),.lit (.int .i64 0),.lit (.bool false),.lit (.int .u8 0)]}:=by kernel_rfl
theorem ty9:Jt Pg 9=some {kd:=.str,size:=1,bytes:=16,zero:=some [.lit (.string ⟨#[]⟩)]}:=by kernel_rfl
theorem JAf:Jt Pg 10=some {kd:=.str,size:=1,bytes:=16,zero:=some [.lit (.string ⟨#[]⟩)]}:=by kernel_rfl
theorem JAg:Jt Pg 11=some {kd:=.str,size:=1,bytes:=16,zero:=some [.lit (.string ⟨#[]⟩)]}:=by kernel_rfl
theorem JAh:Jt Pg 12=some {kd:=.int .u64,size:=1,bytes:=8,zero:=some [.lit (.int .u64 0)]}:=by kernel_rfl
theorem JAi:Jt Pg 13=some {kd:=.st [(0,9),(1,12)],size:=2,bytes:=24,zero:=some [.lit (.string ⟨#[]⟩),.lit (.int .u64 0)]}:=by kernel_rfl
theorem JAj:Jt Pg 14=some {kd:=.st [(0,9),(1,12)],size:=2,bytes:=24,zero:=some [.lit (.string ⟨#[]⟩),.lit (.int .u64 0)]}:=by kernel_rfl
theorem JAk:Jt Pg 15=some {kd:=.oth,size:=1,bytes:=8,zero:=some [.lit (.pointer none)]}:=by kernel_rfl
theorem JAl:Jel Pg 15=true:=by kernel_rfl
theorem JAm:Jt Pg 16=some {kd:=.oth,size:=1,bytes:=8,zero:=some [.lit (.pointer none)]}:=by kernel_rfl
theorem JAn:Jel Pg 16=true:=by kernel_rfl
theorem JAo:Jt Pg 17=some {kd:=.oth,size:=1,bytes:=8,zero:=some [.lit (.pointer none)]}:=by kernel_rfl
theorem JAp:Jel Pg 17=true:=by kernel_rfl
theorem JAq:Jt Pg 18=some {kd:=.st [(0,17)],size:=1,bytes:=8,zero:=some [.lit (.pointer none)]}:=by kernel_rfl
theorem JAr:Jt Pg 19=some {kd:=.st [(0,17)],size:=1,bytes:=8,zero:=some [.lit (.pointer none)]}:=by kernel_rfl
theorem JtU:Jt Pg 21=some {kd:=.int .i32,size:=1,bytes:=4,zero:=some [.lit (.int .i32 0)]}:=by kernel_rfl
theorem JtV:Jt Pg 22=some {kd:=.sl 9,size:=1,bytes:=24,zero:=some [.vec [] true]}:=by kernel_rfl
theorem Jzo:Jt Pg 23=some {kd:=.sl 39,size:=1,bytes:=24,zero:=some [.vec [] true]}:=by kernel_rfl
theorem Jzp:Jt Pg 24=some {kd:=.sl 87,size:=1,bytes:=24,zero:=some [.vec [] true]}:=by kernel_rfl
theorem JAs:Jt Pg 25=some {kd:=.st [(0,22),(1,22),(2,22),(3,23),(4,24)],size:=5,bytes:=120,zero:=some [.vec [] true,.vec [] true,.vec [] true,.vec [] true,.vec [] true]}:=by kernel_rfl
theorem JzM:Jt Pg 26=some {kd:=.st [(0,22),(1,22),(2,22),(3,23),(4,24)],size:=5,bytes:=120,zero:=some [.vec [] true,.vec [] true,.vec [] true,.vec [] true,.vec [] true]}:=by kernel_rfl
theorem JsB:Jt Pg 27=some {kd:=.sl 5,size:=1,bytes:=24,zero:=some [.vec [] true]}:=by kernel_rfl
theorem JzN:Jt Pg 28=some {kd:=.sl 201,size:=1,bytes:=24,zero:=some [.vec [] true]}:=by kernel_rfl
theorem JAt:Jt Pg 29=some {kd:=.oth,size:=1,bytes:=8,zero:=some [.lit .nilFunc]}:=by kernel_rfl
theorem JAu:Jam Pg 29=true:=by kernel_rfl
theorem JAv:Jt Pg 30=some {kd:=.oth,size:=1,bytes:=8,zero:=some [.lit .nilFunc]}:=by kernel_rfl
theorem JAw:Jam Pg 30=true:=by kernel_rfl
theorem JtW:Jt Pg 31=some {kd:=.sl 78,size:=1,bytes:=24,zero:=some [.vec [] true]}:=by kernel_rfl
theorem JAx:Jt Pg 32=some {kd:=.int .i64,size:=1,bytes:=8,zero:=some [.lit (.int .i64 0)]}:=by kernel_rfl
theorem JAy:Jt Pg 34=some {kd:=.oth,size:=1,bytes:=8,zero:=some [.lit .nilFunc]}:=by kernel_rfl
theorem JAz:Jam Pg 34=true:=by kernel_rfl
theorem JAA:Jt Pg 35=some {kd:=.oth,size:=1,bytes:=8,zero:=some [.lit .nilFunc]}:=by kernel_rfl
theorem JAB:Jam Pg 35=true:=by kernel_rfl
theorem JAC:Jt Pg 36=some {kd:=.oth,size:=1,bytes:=8,zero:=some [.lit .nilFunc]}:=by kernel_rfl
theorem JAD:Jam Pg 36=true:=by kernel_rfl
theorem JAE:Jt Pg 37=some {kd:=.oth,size:=1,bytes:=8,zero:=some [.lit .nilFunc]}:=by kernel_rfl
theorem JAF:Jam Pg 37=true:=by kernel_rfl
theorem JAG:Jt Pg 38=some {kd:=.st [(0,9),(1,4),(2,4),(3,4),(4,4),(5,3),(6,3),(7,3),(8,3)],size:=9,bytes:=56,zero:=some [.lit (.string ⟨#[]⟩),.lit (.bool false),.lit (.bool false),.lit (.bool false),.lit (.bool false),.lit (.int .i64 0),.lit (.int .i64 0),.lit (.int .i64 0),.lit (.int .i64 0)]}:=by kernel_rfl
theorem Jzq:Jt Pg 39=some {kd:=.st [(0,9),(1,4),(2,4),(3,4),(4,4),(5,3),(6,3),(7,3),(8,3)],size:=9,bytes:=56,zero:=some [.lit (.string ⟨#[]⟩),.lit (.bool false),.lit (.bool false),.lit (.bool false),.lit (.bool false),.lit (.int .i64 0),.lit (.int .i64 0),.lit (.int .i64 0),.lit (.int .i64 0)]}:=by kernel_rfl
theorem JrH:Ja6 Pg 39=true:=by kernel_rfl
theorem JrI:JbE Pg 39 [(0,9),(1,4),(2,4),(3,4),(4,4),(5,3),(6,3),(7,3),(8,3)]=true:=by kernel_rfl
theorem JAH:Jt Pg 40=some {kd:=.oth,size:=1,bytes:=8,zero:=some [.lit .nilFunc]}:=by kernel_rfl
theorem JAI:Jam Pg 40=true:=by kernel_rfl
theorem JrK:Jt Pg 41=some {kd:=.sl 3,size:=1,bytes:=24,zero:=some [.vec [] true]}:=by kernel_rfl
theorem JAK:Jt Pg 43=some {kd:=.oth,size:=1,bytes:=8,zero:=some [.lit .nilFunc]}:=by kernel_rfl
theorem JAL:Jam Pg 43=true:=by kernel_rfl
theorem JAM:Jt Pg 44=some {kd:=.sl 49,size:=1,bytes:=24,zero:=some [.vec [] true]}:=by kernel_rfl
theorem JAN:Jt Pg 45=some {kd:=.oth,size:=1,bytes:=8,zero:=some [.lit .nilFunc]}:=by kernel_rfl
theorem JAO:Jam Pg 45=true:=by kernel_rfl
theorem JAP:Jt Pg 47=some {kd:=.oth,size:=1,bytes:=8,zero:=some [.lit .nilFunc]}:=by kernel_rfl
theorem JAQ:Jam Pg 47=true:=by kernel_rfl
theorem JAR:Jt Pg 48=some {kd:=.st [(0,3),(1,3)],size:=2,bytes:=16,zero:=some [.lit (.int .i64 0),.lit (.int .i64 0)]}:=by kernel_rfl
theorem JAS:Jt Pg 49=some {kd:=.st [(0,3),(1,3)],size:=2,bytes:=16,zero:=some [.lit (.int .i64 0),.lit (.int .i64 0)]}:=by kernel_rfl
theorem JrL:Ja6 Pg 49=true:=by kernel_rfl
theorem JrM:JbE Pg 49 [(0,3),(1,3)]=true:=by kernel_rfl
theorem JAT:Jt Pg 50=some {kd:=.oth,size:=1,bytes:=8,zero:=some [.lit .nilFunc]}:=by kernel_rfl
theorem JAU:Jam Pg 50=true:=by kernel_rfl
theorem JAV:Jt Pg 51=some {kd:=.sl 57,size:=1,bytes:=24,zero:=some [.vec [] true]}:=by kernel_rfl
theorem JAW:Jt Pg 52=some {kd:=.oth,size:=1,bytes:=8,zero:=some [.lit .nilFunc]}:=by kernel_rfl
theorem JAX:Jam Pg 52=true:=by kernel_rfl
theorem JAY:Jt Pg 53=some {kd:=.oth,size:=1,bytes:=8,zero:=some [.lit .nilFunc]}:=by kernel_rfl
theorem JAZ:Jam Pg 53=true:=by kernel_rfl
theorem JA0:Jt Pg 54=some {kd:=.oth,size:=1,bytes:=8,zero:=some [.lit .nilFunc]}:=by kernel_rfl
theorem JA1:Jam Pg 54=true:=by kernel_rfl
theorem JA2:Jt Pg 55=some {kd:=.oth,size:=1,bytes:=8,zero:=some [.lit .nilFunc]}:=by kernel_rfl
theorem JA3:Jam Pg 55=true:=by kernel_rfl
theorem JA4:Jt Pg 56=some {kd:=.st [(0,3),(1,3),(2,31)],size:=3,bytes:=40,zero:=some [.lit (.int .i64 0),.lit (.int .i64 0),.vec [] true]}:=by kernel_rfl
theorem JA5:Jt Pg 57=some {kd:=.st [(0,3),(1,3),(2,31)],size:=3,bytes:=40,zero:=some [.lit (.int .i64 0),.lit (.int .i64 0),.vec [] true]}:=by kernel_rfl
theorem JA6:Jt Pg 58=some {kd:=.oth,size:=1,bytes:=8,zero:=some [.lit .nilFunc]}:=by kernel_rfl
theorem JA7:Jam Pg 58=true:=by kernel_rfl
theorem JA8:Jt Pg 59=some {kd:=.oth,size:=1,bytes:=8,zero:=some [.lit .nilFunc]}:=by kernel_rfl
theorem JA9:Jam Pg 59=true:=by kernel_rfl
theorem JBa:Jt Pg 60=some {kd:=.oth,size:=1,bytes:=8,zero:=some [.lit .nilFunc]}:=by kernel_rfl
theorem JBb:Jam Pg 60=true:=by kernel_rfl
theorem JBc:Jt Pg 61=some {kd:=.oth,size:=1,bytes:=8,zero:=some [.lit (.pointer none)]}:=by kernel_rfl
theorem JBd:Jel Pg 61=true:=by kernel_rfl
theorem JBe:Jt Pg 63=some {kd:=.oth,size:=1,bytes:=8,zero:=some [.lit .nilFunc]}:=by kernel_rfl
theorem JBf:Jam Pg 63=true:=by kernel_rfl
theorem JBg:Jt Pg 64=some {kd:=.oth,size:=1,bytes:=8,zero:=some [.lit .nilFunc]}:=by kernel_rfl
theorem JBh:Jam Pg 64=true:=by kernel_rfl
theorem JBi:Jt Pg 65=some {kd:=.oth,size:=1,bytes:=8,zero:=some [.lit .nilFunc]}:=by kernel_rfl
theorem JBj:Jam Pg 65=true:=by kernel_rfl
theorem JBk:Jt Pg 66=some {kd:=.oth,size:=1,bytes:=8,zero:=some [.lit .nilFunc]}:=by kernel_rfl
theorem JBl:Jam Pg 66=true:=by kernel_rfl
theorem JBm:Jt Pg 67=some {kd:=.st [(0,3),(1,31)],size:=2,bytes:=32,zero:=some [.lit (.int .i64 0),.vec [] true]}:=by kernel_rfl
theorem JBn:Jt Pg 68=some {kd:=.st [(0,3),(1,31)],size:=2,bytes:=32,zero:=some [.lit (.int .i64 0),.vec [] true]}:=by kernel_rfl
theorem JBo:Jt Pg 69=some {kd:=.st [(0,21),(1,3),(2,3)],size:=3,bytes:=24,zero:=some [.lit (.int .i32 0),.lit (.int .i64 0),.lit (.int .i64 0)]}:=by kernel_rfl
theorem JzO:Jt Pg 70=some {kd:=.st [(0,21),(1,3),(2,3)],size:=3,bytes:=24,zero:=some [.lit (.int .i32 0),.lit (.int .i64 0),.lit (.int .i64 0)]}:=by kernel_rfl
theorem JrN:Ja6 Pg 70=true:=by kernel_rfl
theorem JrO:JbE Pg 70 [(0,21),(1,3),(2,3)]=true:=by kernel_rfl
theorem JBp:Jt Pg 71=some {kd:=.sl 70,size:=1,bytes:=24,zero:=some [.vec [] true]}:=by kernel_rfl
theorem JBq:Jt Pg 72=some {kd:=.map 132 97,size:=1,bytes:=8,zero:=some [.lit (.map none)]}:=by kernel_rfl
theorem JBr:Jt Pg 73=some {kd:=.st [(0,26),(5,71),(6,28),(7,3),(8,72)],size:=9,bytes:=184,zero:=some [.vec [] true,.vec [] true,.vec [] true,.vec [] true,.vec [] true,.vec [] true,.vec [] true,.lit (.int .i64 0),.lit (.map none)]}:=by kernel_rfl
theorem JBs:Jt Pg 74=some {kd:=.st [(0,26),(5,71),(6,28),(7,3),(8,72)],size:=9,bytes:=184,zero:=some [.vec [] true,.vec [] true,.vec [] true,.vec [] true,.vec [] true,.vec [] true,.vec [] true,.lit (.int .i64 0),.lit (.map none)]}:=by kernel_rfl
theorem JBt:Jt Pg 75=some {kd:=.oth,size:=1,bytes:=8,zero:=some [.lit .nilFunc]}:=by kernel_rfl
theorem JBu:Jam Pg 75=true:=by kernel_rfl
theorem JrP:Jt Pg 76=some {kd:=.int .i8,size:=1,bytes:=1,zero:=some [.lit (.int .i8 0)]}:=by kernel_rfl
theorem JBv:Jt Pg 77=some {kd:=.st [(0,76),(1,3)],size:=2,bytes:=16,zero:=some [.lit (.int .i8 0),.lit (.int .i64 0)]}:=by kernel_rfl
theorem Jui:Jt Pg 78=some {kd:=.st [(0,76),(1,3)],size:=2,bytes:=16,zero:=some [.lit (.int .i8 0),.lit (.int .i64 0)]}:=by kernel_rfl
theorem JrQ:Ja6 Pg 78=true:=by kernel_rfl
theorem JrR:JbE Pg 78 [(0,76),(1,3)]=true:=by kernel_rfl
theorem JBw:Jt Pg 79=some {kd:=.oth,size:=1,bytes:=8,zero:=some [.lit (.pointer none)]}:=by kernel_rfl
theorem JBx:Jel Pg 79=true:=by kernel_rfl
theorem JBy:Jt Pg 81=some {kd:=.oth,size:=1,bytes:=8,zero:=some [.lit .nilFunc]}:=by kernel_rfl
theorem JBz:Jam Pg 81=true:=by kernel_rfl
theorem JBA:Jt Pg 82=some {kd:=.oth,size:=1,bytes:=8,zero:=some [.lit .nilFunc]}:=by kernel_rfl
theorem JBB:Jam Pg 82=true:=by kernel_rfl
theorem JBC:Jt Pg 83=some {kd:=.sl 4,size:=1,bytes:=24,zero:=some [.vec [] true]}:=by kernel_rfl
theorem JBD:Jt Pg 84=some {kd:=.oth,size:=1,bytes:=8,zero:=some [.lit .nilFunc]}:=by kernel_rfl
theorem JBE:Jam Pg 84=true:=by kernel_rfl
theorem Jzr:Jt Pg 85=some {kd:=.sl 96,size:=1,bytes:=24,zero:=some [.vec [] true]}:=by kernel_rfl
theorem JBF:Jt Pg 86=some {kd:=.st [(0,3),(1,85)],size:=2,bytes:=32,zero:=some [.lit (.int .i64 0),.vec [] true]}:=by kernel_rfl
theorem Jzs:Jt Pg 87=some {kd:=.st [(0,3),(1,85)],size:=2,bytes:=32,zero:=some [.lit (.int .i64 0),.vec [] true]}:=by kernel_rfl
theorem JBG:Jt Pg 88=some {kd:=.oth,size:=1,bytes:=8,zero:=some [.lit .nilFunc]}:=by kernel_rfl
theorem JBH:Jam Pg 88=true:=by kernel_rfl
theorem JBI:Jt Pg 89=some {kd:=.oth,size:=1,bytes:=8,zero:=some [.lit .nilFunc]}:=by kernel_rfl
theorem JBK:Jam Pg 89=true:=by kernel_rfl
theorem JBL:Jt Pg 90=some {kd:=.sl 150,size:=1,bytes:=24,zero:=some [.vec [] true]}:=by kernel_rfl
theorem Jzt:Jt Pg 91=some {kd:=.sl 150,size:=1,bytes:=24,zero:=some [.vec [] true]}:=by kernel_rfl
theorem Jzu:Jt Pg 92=some {kd:=.sl 94,size:=1,bytes:=24,zero:=some [.vec [] true]}:=by kernel_rfl
theorem JBM:Jt Pg 93=some {kd:=.st [(0,76),(1,2),(2,9),(3,92)],size:=4,bytes:=56,zero:=some [.lit (.int .i8 0),.lit (.int .i64 0),.lit (.string ⟨#[]⟩),.vec [] true]}:=by kernel_rfl
theorem Juj:Jt Pg 94=some {kd:=.st [(0,76),(1,2),(2,9),(3,92)],size:=4,bytes:=56,zero:=some [.lit (.int .i8 0),.lit (.int .i64 0),.lit (.string ⟨#[]⟩),.vec [] true]}:=by kernel_rfl
theorem JBN:Jt Pg 95=some {kd:=.st [(0,76),(1,91),(2,3),(3,3),(4,94),(8,31),(9,3)],size:=10,bytes:=136,zero:=some [.lit (.int .i8 0),.vec [] true,.lit (.int .i64 0),.lit (.int .i64 0),.lit (.int .i8 0),.lit (.int .i64 0),.lit (.string ⟨#[]⟩),.vec [] true,.vec [] true,.lit (.int .i64 0)]}:=by kernel_rfl
theorem Jzv:Jt Pg 96=some {kd:=.st [(0,76),(1,91),(2,3),(3,3),(4,94),(8,31),(9,3)],size:=10,bytes:=136,zero:=some [.lit (.int .i8 0),.vec [] true,.lit (.int .i64 0),.lit (.int .i64 0),.lit (.int .i8 0),.lit (.int .i64 0),.lit (.string ⟨#[]⟩),.vec [] true,.vec [] true,.lit (.int .i64 0)]}:=by kernel_rfl
theorem JBO:Jt Pg 97=some {kd:=.sl 68,size:=1,bytes:=24,zero:=some [.vec [] true]}:=by kernel_rfl
theorem JzP:JdH Pg 97=some (.vec [] true):=by kernel_rfl
theorem JBP:Jt Pg 98=some {kd:=.oth,size:=1,bytes:=8,zero:=some [.lit .nilFunc]}:=by kernel_rfl
theorem JBQ:Jam Pg 98=true:=by kernel_rfl
theorem JBR:Jt Pg 99=some {kd:=.oth,size:=1,bytes:=8,zero:=some [.lit .nilFunc]}:=by kernel_rfl
theorem JBS:Jam Pg 99=true:=by kernel_rfl
theorem Juk:Jt Pg 100=some {kd:=.oth,size:=1,bytes:=8,zero:=some [.lit .nilFunc]}:=by kernel_rfl
theorem Jul:Jam Pg 100=true:=by kernel_rfl
theorem Jum:Jt Pg 102=some {kd:=.oth,size:=1,bytes:=8,zero:=some [.lit .nilFunc]}:=by kernel_rfl
theorem Jun:Jam Pg 102=true:=by kernel_rfl
theorem Juo:Jt Pg 103=some {kd:=.int .u64,size:=1,bytes:=8,zero:=some [.lit (.int .u64 0)]}:=by kernel_rfl
theorem Jup:Jt Pg 104=some {kd:=.sl 113,size:=1,bytes:=24,zero:=some [.vec [] true]}:=by kernel_rfl
theorem Juq:Jt Pg 105=some {kd:=.oth,size:=1,bytes:=8,zero:=some [.lit .nilFunc]}:=by kernel_rfl
theorem Jur:Jam Pg 105=true:=by kernel_rfl
theorem Jus:Jt Pg 106=some {kd:=.sl 21,size:=1,bytes:=24,zero:=some [.vec [] true]}:=by kernel_rfl
theorem Jut:Jt Pg 107=some {kd:=.st [(0,27),(1,41),(2,106),(3,41)],size:=4,bytes:=96,zero:=some [.vec [] true,.vec [] true,.vec [] true,.vec [] true]}:=by kernel_rfl
theorem Juu:Jt Pg 108=some {kd:=.st [(0,27),(1,41),(2,106),(3,41)],size:=4,bytes:=96,zero:=some [.vec [] true,.vec [] true,.vec [] true,.vec [] true]}:=by kernel_rfl
theorem Juv:Jt Pg 109=some {kd:=.sl 104,size:=1,bytes:=24,zero:=some [.vec [] true]}:=by kernel_rfl
theorem Juw:Jt Pg 110=some {kd:=.st [(0,26),(5,108),(9,28),(10,3),(11,41),(12,41),(13,109)],size:=14,bytes:=320,zero:=some [.vec [] true,.vec [] true,.vec [] true,.vec [] true,.vec [] true,.vec [] true,.vec [] true,.vec [] true,.vec [] true,.vec [] true,.lit (.int .i64 0),.vec [] true,.vec [] true,.vec [] true]}:=by kernel_rfl
theorem Jux:Jt Pg 111=some {kd:=.st [(0,26),(5,108),(9,28),(10,3),(11,41),(12,41),(13,109)],size:=14,bytes:=320,zero:=some [.vec [] true,.vec [] true,.vec [] true,.vec [] true,.vec [] true,.vec [] true,.vec [] true,.vec [] true,.vec [] true,.vec [] true,.lit (.int .i64 0),.vec [] true,.vec [] true,.vec [] true]}:=by kernel_rfl
theorem Juy:Jt Pg 112=some {kd:=.st [(0,3),(1,31)],size:=2,bytes:=32,zero:=some [.lit (.int .i64 0),.vec [] true]}:=by kernel_rfl
theorem Juz:Jt Pg 113=some {kd:=.st [(0,3),(1,31)],size:=2,bytes:=32,zero:=some [.lit (.int .i64 0),.vec [] true]}:=by kernel_rfl
theorem JuA:Jt Pg 114=some {kd:=.oth,size:=1,bytes:=8,zero:=some [.lit .nilFunc]}:=by kernel_rfl
theorem JuB:Jam Pg 114=true:=by kernel_rfl
theorem JuC:Jt Pg 115=some {kd:=.oth,size:=1,bytes:=8,zero:=some [.lit .nilFunc]}:=by kernel_rfl
theorem JuD:Jam Pg 115=true:=by kernel_rfl
theorem JuE:Jt Pg 116=some {kd:=.oth,size:=1,bytes:=8,zero:=some [.lit .nilFunc]}:=by kernel_rfl
theorem JuF:Jam Pg 116=true:=by kernel_rfl
theorem JuG:Jt Pg 118=some {kd:=.oth,size:=1,bytes:=8,zero:=some [.lit .nilFunc]}:=by kernel_rfl
theorem JuH:Jam Pg 118=true:=by kernel_rfl
theorem JuI:Jt Pg 119=some {kd:=.oth,size:=1,bytes:=8,zero:=some [.lit .nilFunc]}:=by kernel_rfl
theorem JuK:Jam Pg 119=true:=by kernel_rfl
theorem JuL:Jt Pg 120=some {kd:=.oth,size:=1,bytes:=8,zero:=some [.lit .nilFunc]}:=by kernel_rfl
theorem JuM:Jam Pg 120=true:=by kernel_rfl
theorem JuN:Jt Pg 122=some {kd:=.oth,size:=1,bytes:=8,zero:=some [.lit .nilFunc]}:=by kernel_rfl
theorem JuO:Jam Pg 122=true:=by kernel_rfl
theorem JuP:Jt Pg 123=some {kd:=.oth,size:=1,bytes:=8,zero:=some [.lit .nilFunc]}:=by kernel_rfl
theorem JuQ:Jam Pg 123=true:=by kernel_rfl
theorem JuR:Jt Pg 124=some {kd:=.oth,size:=1,bytes:=8,zero:=some [.lit .nilFunc]}:=by kernel_rfl
theorem JuS:Jam Pg 124=true:=by kernel_rfl
theorem JuT:Jt Pg 126=some {kd:=.oth,size:=1,bytes:=8,zero:=some [.lit .nilFunc]}:=by kernel_rfl
theorem JuU:Jam Pg 126=true:=by kernel_rfl
theorem JuV:Jt Pg 127=some {kd:=.oth,size:=1,bytes:=8,zero:=some [.lit .nilFunc]}:=by kernel_rfl
theorem JuW:Jam Pg 127=true:=by kernel_rfl
theorem JuX:Jt Pg 128=some {kd:=.oth,size:=1,bytes:=8,zero:=some [.lit .nilFunc]}:=by kernel_rfl
theorem JuY:Jam Pg 128=true:=by kernel_rfl
theorem JuZ:Jt Pg 129=some {kd:=.oth,size:=1,bytes:=8,zero:=some [.lit .nilFunc]}:=by kernel_rfl
theorem Ju0:Jam Pg 129=true:=by kernel_rfl
theorem Ju1:Jt Pg 131=some {kd:=.st [(0,3),(1,3)],size:=2,bytes:=16,zero:=some [.lit (.int .i64 0),.lit (.int .i64 0)]}:=by kernel_rfl
theorem JsC:Jt Pg 132=some {kd:=.st [(0,3),(1,3)],size:=2,bytes:=16,zero:=some [.lit (.int .i64 0),.lit (.int .i64 0)]}:=by kernel_rfl
theorem JkT:Ja6 Pg 132=true:=by kernel_rfl
theorem Jod:JbE Pg 132 [(0,3),(1,3)]=true:=by kernel_rfl
theorem Ju2:Jt Pg 133=some {kd:=.sl 161,size:=1,bytes:=24,zero:=some [.vec [] true]}:=by kernel_rfl
theorem Ju3:Jt Pg 134=some {kd:=.sl 161,size:=1,bytes:=24,zero:=some [.vec [] true]}:=by kernel_rfl
theorem Ju4:Jt Pg 135=some {kd:=.st [(0,132),(2,31)],size:=3,bytes:=40,zero:=some [.lit (.int .i64 0),.lit (.int .i64 0),.vec [] true]}:=by kernel_rfl
theorem Joe:Jt Pg 136=some {kd:=.st [(0,132),(2,31)],size:=3,bytes:=40,zero:=some [.lit (.int .i64 0),.lit (.int .i64 0),.vec [] true]}:=by kernel_rfl
theorem Jof:Jt Pg 137=some {kd:=.sl 136,size:=1,bytes:=24,zero:=some [.vec [] true]}:=by kernel_rfl
theorem Ju5:Jt Pg 138=some {kd:=.oth,size:=1,bytes:=8,zero:=some [.lit .nilFunc]}:=by kernel_rfl
theorem Ju6:Jam Pg 138=true:=by kernel_rfl
theorem Ju7:Jt Pg 139=some {kd:=.oth,size:=1,bytes:=8,zero:=some [.lit .nilFunc]}:=by kernel_rfl
theorem Ju8:Jam Pg 139=true:=by kernel_rfl
theorem Ju9:Jt Pg 140=some {kd:=.oth,size:=1,bytes:=8,zero:=some [.lit .nilFunc]}:=by kernel_rfl
theorem Jva:Jam Pg 140=true:=by kernel_rfl
theorem Jvb:Jt Pg 141=some {kd:=.oth,size:=1,bytes:=8,zero:=some [.lit .nilFunc]}:=by kernel_rfl
theorem Jvc:Jam Pg 141=true:=by kernel_rfl
theorem Jvd:Jt Pg 142=some {kd:=.oth,size:=1,bytes:=8,zero:=some [.lit .nilFunc]}:=by kernel_rfl
theorem Jve:Jam Pg 142=true:=by kernel_rfl
theorem Jvf:Jt Pg 143=some {kd:=.oth,size:=1,bytes:=8,zero:=some [.lit .nilFunc]}:=by kernel_rfl
theorem Jvg:Jam Pg 143=true:=by kernel_rfl
theorem Jvh:Jt Pg 144=some {kd:=.oth,size:=1,bytes:=8,zero:=some [.lit .nilFunc]}:=by kernel_rfl
theorem Jvi:Jam Pg 144=true:=by kernel_rfl
theorem Jvj:Jt Pg 145=some {kd:=.oth,size:=1,bytes:=8,zero:=some [.lit (.pointer none)]}:=by kernel_rfl
theorem Jvk:Jel Pg 145=true:=by kernel_rfl
theorem Jvl:Jt Pg 146=some {kd:=.st [(0,41),(1,41),(2,104)],size:=3,bytes:=72,zero:=some [.vec [] true,.vec [] true,.vec [] true]}:=by kernel_rfl
theorem Jvm:Jt Pg 147=some {kd:=.st [(0,41),(1,41),(2,104)],size:=3,bytes:=72,zero:=some [.vec [] true,.vec [] true,.vec [] true]}:=by kernel_rfl
theorem Jvn:Jt Pg 148=some {kd:=.oth,size:=1,bytes:=8,zero:=some [.lit .nilFunc]}:=by kernel_rfl
theorem Jvo:Jam Pg 148=true:=by kernel_rfl
theorem Jvp:Jt Pg 149=some {kd:=.st [(0,21),(1,21)],size:=2,bytes:=8,zero:=some [.lit (.int .i32 0),.lit (.int .i32 0)]}:=by kernel_rfl
theorem Jqn:Jt Pg 150=some {kd:=.st [(0,21),(1,21)],size:=2,bytes:=8,zero:=some [.lit (.int .i32 0),.lit (.int .i32 0)]}:=by kernel_rfl
theorem Jog:Ja6 Pg 150=true:=by kernel_rfl
theorem Joh:JbE Pg 150 [(0,21),(1,21)]=true:=by kernel_rfl
theorem Jvq:Jt Pg 151=some {kd:=.oth,size:=1,bytes:=8,zero:=some [.lit .nilFunc]}:=by kernel_rfl
theorem Jvr:Jam Pg 151=true:=by kernel_rfl
theorem Jvs:Jt Pg 152=some {kd:=.oth,size:=1,bytes:=8,zero:=some [.lit (.pointer none)]}:=by kernel_rfl
theorem Jvt:Jel Pg 152=true:=by kernel_rfl
theorem Jvu:Jt Pg 153=some {kd:=.oth,size:=1,bytes:=8,zero:=some [.lit .nilFunc]}:=by kernel_rfl
theorem Jvv:Jam Pg 153=true:=by kernel_rfl
theorem Jvw:Jt Pg 154=some {kd:=.sl 41,size:=1,bytes:=24,zero:=some [.vec [] true]}:=by kernel_rfl
theorem Jvx:Jt Pg 155=some {kd:=.sl 41,size:=1,bytes:=24,zero:=some [.vec [] true]}:=by kernel_rfl
theorem Jvy:Jt Pg 156=some {kd:=.oth,size:=1,bytes:=8,zero:=some [.lit .nilFunc]}:=by kernel_rfl
theorem Jvz:Jam Pg 156=true:=by kernel_rfl
theorem JvA:Jt Pg 157=some {kd:=.oth,size:=1,bytes:=8,zero:=some [.lit .nilFunc]}:=by kernel_rfl
theorem JvB:Jam Pg 157=true:=by kernel_rfl
theorem JvC:Jt Pg 158=some {kd:=.oth,size:=1,bytes:=8,zero:=some [.lit .nilFunc]}:=by kernel_rfl
theorem JvD:Jam Pg 158=true:=by kernel_rfl
theorem JvE:Jt Pg 159=some {kd:=.oth,size:=1,bytes:=8,zero:=some [.lit .nilFunc]}:=by kernel_rfl
theorem JvF:Jam Pg 159=true:=by kernel_rfl
theorem JvG:Jt Pg 160=some {kd:=.oth,size:=1,bytes:=8,zero:=some [.lit .nilFunc]}:=by kernel_rfl
theorem JvH:Jam Pg 160=true:=by kernel_rfl
theorem JvI:Jt Pg 161=some {kd:=.int .u64,size:=1,bytes:=8,zero:=some [.lit (.int .u64 0)]}:=by kernel_rfl
theorem JvK:Jt Pg 162=some {kd:=.oth,size:=1,bytes:=8,zero:=some [.lit .nilFunc]}:=by kernel_rfl
theorem JvL:Jam Pg 162=true:=by kernel_rfl
theorem JvM:Jt Pg 163=some {kd:=.oth,size:=1,bytes:=8,zero:=some [.lit .nilFunc]}:=by kernel_rfl
theorem JvN:Jam Pg 163=true:=by kernel_rfl
theorem JvO:Jt Pg 164=some {kd:=.st [(0,2),(1,2),(2,2),(3,2)],size:=4,bytes:=32,zero:=some [.lit (.int .i64 0),.lit (.int .i64 0),.lit (.int .i64 0),.lit (.int .i64 0)]}:=by kernel_rfl
theorem JsD:Jt Pg 165=some {kd:=.st [(0,2),(1,2),(2,2),(3,2)],size:=4,bytes:=32,zero:=some [.lit (.int .i64 0),.lit (.int .i64 0),.lit (.int .i64 0),.lit (.int .i64 0)]}:=by kernel_rfl
theorem Joi:Ja6 Pg 165=true:=by kernel_rfl
theorem Joj:JbE Pg 165 [(0,2),(1,2),(2,2),(3,2)]=true:=by kernel_rfl
theorem JvP:Jt Pg 166=some {kd:=.oth,size:=1,bytes:=8,zero:=some [.lit .nilFunc]}:=by kernel_rfl
theorem JvQ:Jam Pg 166=true:=by kernel_rfl
theorem JvR:Jt Pg 167=some {kd:=.oth,size:=1,bytes:=8,zero:=some [.lit .nilFunc]}:=by kernel_rfl
theorem JvS:Jam Pg 167=true:=by kernel_rfl
theorem JvT:Jt Pg 168=some {kd:=.oth,size:=1,bytes:=8,zero:=some [.lit .nilFunc]}:=by kernel_rfl
theorem JvU:Jam Pg 168=true:=by kernel_rfl
theorem JvV:Jt Pg 169=some {kd:=.map 3 4,size:=1,bytes:=8,zero:=some [.lit (.map none)]}:=by kernel_rfl
theorem JvW:Jt Pg 170=some {kd:=.oth,size:=1,bytes:=8,zero:=some [.lit .nilFunc]}:=by kernel_rfl
theorem JvX:Jam Pg 170=true:=by kernel_rfl
theorem JvY:Jt Pg 171=some {kd:=.oth,size:=1,bytes:=8,zero:=some [.lit .nilFunc]}:=by kernel_rfl
theorem JvZ:Jam Pg 171=true:=by kernel_rfl
theorem Jv0:Jt Pg 172=some {kd:=.arr 8 171,size:=8,bytes:=64,zero:=some [.lit .nilFunc,.lit .nilFunc,.lit .nilFunc,.lit .nilFunc,.lit .nilFunc,.lit .nilFunc,.lit .nilFunc,.lit .nilFunc]}:=by kernel_rfl
theorem Jv1:Jt Pg 173=some {kd:=.oth,size:=1,bytes:=8,zero:=some [.lit .nilFunc]}:=by kernel_rfl
theorem Jv2:Jam Pg 173=true:=by kernel_rfl
theorem Jv3:Jt Pg 174=some {kd:=.oth,size:=1,bytes:=8,zero:=some [.lit (.pointer none)]}:=by kernel_rfl
theorem Jv4:Jel Pg 174=true:=by kernel_rfl
theorem Jv5:Jt Pg 175=some {kd:=.oth,size:=1,bytes:=8,zero:=some [.lit (.pointer none)]}:=by kernel_rfl
theorem Jv6:Jel Pg 175=true:=by kernel_rfl
theorem Jv7:Jt Pg 176=some {kd:=.st [(0,152),(1,174),(2,3),(3,175)],size:=4,bytes:=32,zero:=some [.lit (.pointer none),.lit (.pointer none),.lit (.int .i64 0),.lit (.pointer none)]}:=by kernel_rfl
theorem Jv8:Jt Pg 177=some {kd:=.st [(0,152),(1,174),(2,3),(3,175)],size:=4,bytes:=32,zero:=some [.lit (.pointer none),.lit (.pointer none),.lit (.int .i64 0),.lit (.pointer none)]}:=by kernel_rfl
theorem Jv9:Jt Pg 178=some {kd:=.oth,size:=1,bytes:=8,zero:=some [.lit .nilFunc]}:=by kernel_rfl
theorem Jwa:Jam Pg 178=true:=by kernel_rfl
theorem Jwb:Jt Pg 179=some {kd:=.oth,size:=1,bytes:=8,zero:=some [.lit .nilFunc]}:=by kernel_rfl
theorem Jwc:Jam Pg 179=true:=by kernel_rfl
theorem Jwd:Jt Pg 180=some {kd:=.st [(0,3),(1,3)],size:=2,bytes:=16,zero:=some [.lit (.int .i64 0),.lit (.int .i64 0)]}:=by kernel_rfl
theorem Jqo:Jt Pg 181=some {kd:=.st [(0,3),(1,3)],size:=2,bytes:=16,zero:=some [.lit (.int .i64 0),.lit (.int .i64 0)]}:=by kernel_rfl
theorem Jok:Ja6 Pg 181=true:=by kernel_rfl
theorem Jol:JbE Pg 181 [(0,3),(1,3)]=true:=by kernel_rfl
theorem Jqp:Jt Pg 182=some {kd:=.sl 181,size:=1,bytes:=24,zero:=some [.vec [] true]}:=by kernel_rfl
theorem Jwe:Jt Pg 183=some {kd:=.oth,size:=1,bytes:=8,zero:=some [.lit (.pointer none)]}:=by kernel_rfl
theorem Jwf:Jel Pg 183=true:=by kernel_rfl
theorem Jwg:Jt Pg 184=some {kd:=.oth,size:=1,bytes:=8,zero:=some [.lit .nilFunc]}:=by kernel_rfl
theorem Jwh:Jam Pg 184=true:=by kernel_rfl
theorem Jwi:Jt Pg 185=some {kd:=.oth,size:=1,bytes:=8,zero:=some [.lit .nilFunc]}:=by kernel_rfl
theorem Jwj:Jam Pg 185=true:=by kernel_rfl
theorem Jwk:Jt Pg 186=some {kd:=.oth,size:=1,bytes:=8,zero:=some [.lit .nilFunc]}:=by kernel_rfl
theorem Jwl:Jam Pg 186=true:=by kernel_rfl
theorem Jwm:Jt Pg 187=some {kd:=.oth,size:=1,bytes:=8,zero:=some [.lit .nilFunc]}:=by kernel_rfl
theorem Jwn:Jam Pg 187=true:=by kernel_rfl
theorem Jwo:Jt Pg 188=some {kd:=.sl 31,size:=1,bytes:=24,zero:=some [.vec [] true]}:=by kernel_rfl
theorem Jwp:Jt Pg 189=some {kd:=.oth,size:=1,bytes:=8,zero:=some [.lit .nilFunc]}:=by kernel_rfl
theorem Jwq:Jam Pg 189=true:=by kernel_rfl
theorem Jwr:Jt Pg 190=some {kd:=.map 9 4,size:=1,bytes:=8,zero:=some [.lit (.map none)]}:=by kernel_rfl
theorem Jws:Jt Pg 191=some {kd:=.oth,size:=1,bytes:=8,zero:=some [.lit .nilFunc]}:=by kernel_rfl
theorem Jwt:Jam Pg 191=true:=by kernel_rfl
theorem Jwu:Jt Pg 192=some {kd:=.oth,size:=1,bytes:=8,zero:=some [.lit (.pointer none)]}:=by kernel_rfl
theorem Jwv:Jel Pg 192=true:=by kernel_rfl
theorem Jww:Jt Pg 193=some {kd:=.oth,size:=1,bytes:=8,zero:=some [.lit .nilFunc]}:=by kernel_rfl
theorem Jwx:Jam Pg 193=true:=by kernel_rfl
theorem Jwy:Jt Pg 194=some {kd:=.oth,size:=1,bytes:=8,zero:=some [.lit .nilFunc]}:=by kernel_rfl
theorem Jwz:Jam Pg 194=true:=by kernel_rfl
theorem JwA:Jt Pg 195=some {kd:=.oth,size:=1,bytes:=8,zero:=some [.lit .nilFunc]}:=by kernel_rfl
theorem JwB:Jam Pg 195=true:=by kernel_rfl
theorem JwC:Jt Pg 196=some {kd:=.oth,size:=1,bytes:=8,zero:=some [.lit .nilFunc]}:=by kernel_rfl
theorem JwD:Jam Pg 196=true:=by kernel_rfl
theorem JwE:Jt Pg 197=some {kd:=.oth,size:=1,bytes:=8,zero:=some [.lit .nilFunc]}:=by kernel_rfl
theorem JwF:Jam Pg 197=true:=by kernel_rfl
theorem JwG:Jt Pg 198=some {kd:=.oth,size:=1,bytes:=8,zero:=some [.lit .nilFunc]}:=by kernel_rfl
theorem JwH:Jam Pg 198=true:=by kernel_rfl
theorem JwI:Jt Pg 199=some {kd:=.oth,size:=1,bytes:=8,zero:=some [.lit .nilFunc]}:=by kernel_rfl
theorem JwK:Jam Pg 199=true:=by kernel_rfl
theorem JwL:Jt Pg 200=some {kd:=.st [(0,2),(1,2),(2,4)],size:=3,bytes:=24,zero:=some [.lit (.int .i64 0),.lit (.int .i64 0),.lit (.bool false)]}:=by kernel_rfl
theorem Jqq:Jt Pg 201=some {kd:=.st [(0,2),(1,2),(2,4)],size:=3,bytes:=24,zero:=some [.lit (.int .i64 0),.lit (.int .i64 0),.lit (.bool false)]}:=by kernel_rfl
theorem Jom:Ja6 Pg 201=true:=by kernel_rfl
theorem Jon:JbE Pg 201 [(0,2),(1,2),(2,4)]=true:=by kernel_rfl
theorem JwM:Jt Pg 202=some {kd:=.oth,size:=1,bytes:=8,zero:=some [.lit .nilFunc]}:=by kernel_rfl
theorem JwN:Jam Pg 202=true:=by kernel_rfl
theorem JwO:Jt Pg 203=some {kd:=.oth,size:=1,bytes:=8,zero:=some [.lit .nilFunc]}:=by kernel_rfl
theorem JwP:Jam Pg 203=true:=by kernel_rfl
theorem JwQ:Jt Pg 205=some {kd:=.oth,size:=1,bytes:=8,zero:=some [.lit .nilFunc]}:=by kernel_rfl
theorem JwR:Jam Pg 205=true:=by kernel_rfl
theorem JwS:Jt Pg 206=some {kd:=.oth,size:=1,bytes:=8,zero:=some [.lit .nilFunc]}:=by kernel_rfl
theorem JwT:Jam Pg 206=true:=by kernel_rfl
theorem JwU:Jt Pg 207=some {kd:=.oth,size:=1,bytes:=8,zero:=some [.lit .nilFunc]}:=by kernel_rfl
theorem JwV:Jam Pg 207=true:=by kernel_rfl
theorem JwW:Jt Pg 208=some {kd:=.oth,size:=1,bytes:=8,zero:=some [.lit .nilFunc]}:=by kernel_rfl
theorem JwX:Jam Pg 208=true:=by kernel_rfl
theorem JwY:Jt Pg 209=some {kd:=.oth,size:=1,bytes:=8,zero:=some [.lit .nilFunc]}:=by kernel_rfl
theorem JwZ:Jam Pg 209=true:=by kernel_rfl
theorem Jw0:Jt Pg 210=some {kd:=.oth,size:=1,bytes:=8,zero:=some [.lit .nilFunc]}:=by kernel_rfl
theorem Jw1:Jam Pg 210=true:=by kernel_rfl
theorem Jw2:Jt Pg 212=some {kd:=.st [(0,5),(1,5)],size:=2,bytes:=2,zero:=some [.lit (.int .u8 0),.lit (.int .u8 0)]}:=by kernel_rfl
theorem Jw3:Jt Pg 213=some {kd:=.st [(0,5),(1,5)],size:=2,bytes:=2,zero:=some [.lit (.int .u8 0),.lit (.int .u8 0)]}:=by kernel_rfl
theorem Jw4:Jt Pg 214=some {kd:=.arr 16 213,size:=32,bytes:=32,zero:=some [.lit (.int .u8 0),.lit (.int .u8 0),.lit (.int .u8 0),.lit (.int .u8 0),.lit (.int .u8 0),.lit (.int .u8 0),.lit (.int .u8 0),.lit (.int .u8 0),.lit (.int .u8 0),.lit (.int .u8 0),.lit (.int .u8 0),.lit (.int .u8 0),.lit (.int .u8 0),.lit (.int .u8 0),.lit (.int .u8 0),.lit (.int .u8 0),.lit (.int .u8 0),.lit (.int .u8 0),.lit (.int .u8 0),.lit (.int .u8 0),.lit (.int .u8 0),.lit (.int .u8 0),.lit (.int .u8 0),.lit (.int .u8 0),.lit (.int .u8 0),.lit (.int .u8 0),.lit (.int .u8 0),.lit (.int .u8 0),.lit (.int .u8 0),.lit (.int .u8 0),.lit (.int .u8 0),.lit (.int .u8 0)]}:=by kernel_rfl
theorem Jw5:Jt Pg 215=some {kd:=.oth,size:=1,bytes:=8,zero:=some [.lit .nilFunc]}:=by kernel_rfl
theorem Jw6:Jam Pg 215=true:=by kernel_rfl
theorem Jw7:Jt Pg 216=some {kd:=.oth,size:=1,bytes:=8,zero:=some [.lit .nilFunc]}:=by kernel_rfl
theorem Jw8:Jam Pg 216=true:=by kernel_rfl
theorem Jw9:Jt Pg 217=some {kd:=.arr 15 2,size:=15,bytes:=120,zero:=some [.lit (.int .i64 0),.lit (.int .i64 0),.lit (.int .i64 0),.lit (.int .i64 0),.lit (.int .i64 0),.lit (.int .i64 0),.lit (.int .i64 0),.lit (.int .i64 0),.lit (.int .i64 0),.lit (.int .i64 0),.lit (.int .i64 0),.lit (.int .i64 0),.lit (.int .i64 0),.lit (.int .i64 0),.lit (.int .i64 0)]}:=by kernel_rfl
theorem Jxa:Jt Pg 218=some {kd:=.arr 8 207,size:=8,bytes:=64,zero:=some [.lit .nilFunc,.lit .nilFunc,.lit .nilFunc,.lit .nilFunc,.lit .nilFunc,.lit .nilFunc,.lit .nilFunc,.lit .nilFunc]}:=by kernel_rfl
theorem Jxb:Jt Pg 219=some {kd:=.oth,size:=1,bytes:=8,zero:=some [.lit .nilFunc]}:=by kernel_rfl
theorem Jxc:Jam Pg 219=true:=by kernel_rfl
theorem Jxd:Jt Pg 220=some {kd:=.oth,size:=1,bytes:=8,zero:=some [.lit .nilFunc]}:=by kernel_rfl
theorem Jxe:Jam Pg 220=true:=by kernel_rfl
theorem Jxf:Jt Pg 221=some {kd:=.oth,size:=1,bytes:=8,zero:=some [.lit .nilFunc]}:=by kernel_rfl
theorem Jxg:Jam Pg 221=true:=by kernel_rfl
theorem Jxh:Jt Pg 222=some {kd:=.oth,size:=1,bytes:=8,zero:=some [.lit .nilFunc]}:=by kernel_rfl
theorem Jxi:Jam Pg 222=true:=by kernel_rfl
theorem Jxj:Jt Pg 223=some {kd:=.oth,size:=1,bytes:=8,zero:=some [.lit .nilFunc]}:=by kernel_rfl
theorem Jxk:Jam Pg 223=true:=by kernel_rfl
theorem Jxl:Jt Pg 224=some {kd:=.arr 15 9,size:=15,bytes:=240,zero:=some [.lit (.string ⟨#[]⟩),.lit (.string ⟨#[]⟩),.lit (.string ⟨#[]⟩),.lit (.string ⟨#[]⟩),.lit (.string ⟨#[]⟩),.lit (.string ⟨#[]⟩),.lit (.string ⟨#[]⟩),.lit (.string ⟨#[]⟩),.lit (.string ⟨#[]⟩),.lit (.string ⟨#[]⟩),.lit (.string ⟨#[]⟩),.lit (.string ⟨#[]⟩),.lit (.string ⟨#[]⟩),.lit (.string ⟨#[]⟩),.lit (.string ⟨#[]⟩)]}:=by kernel_rfl
theorem Jxm:Jt Pg 225=some {kd:=.oth,size:=1,bytes:=8,zero:=some [.lit .nilFunc]}:=by kernel_rfl
theorem Jxn:Jam Pg 225=true:=by kernel_rfl
theorem Jxo:Jt Pg 226=some {kd:=.oth,size:=1,bytes:=8,zero:=some [.lit .nilFunc]}:=by kernel_rfl
theorem Jxp:Jam Pg 226=true:=by kernel_rfl
theorem Jxq:Jt Pg 227=some {kd:=.st [(0,17),(1,17),(2,17),(3,9)],size:=4,bytes:=40,zero:=some [.lit (.pointer none),.lit (.pointer none),.lit (.pointer none),.lit (.string ⟨#[]⟩)]}:=by kernel_rfl
theorem Jxr:Jt Pg 228=some {kd:=.st [(0,17),(1,17),(2,17),(3,9)],size:=4,bytes:=40,zero:=some [.lit (.pointer none),.lit (.pointer none),.lit (.pointer none),.lit (.string ⟨#[]⟩)]}:=by kernel_rfl
theorem Jxs:Jt Pg 229=some {kd:=.arr 0 16,size:=0,bytes:=0,zero:=some []}:=by kernel_rfl
theorem Jxt:Jt Pg 230=some {kd:=.st [(0,229)],size:=0,bytes:=0,zero:=some []}:=by kernel_rfl
theorem Jxu:Jt Pg 231=some {kd:=.st [(0,229)],size:=0,bytes:=0,zero:=some []}:=by kernel_rfl
theorem Jxv:Jt Pg 232=some {kd:=.oth,size:=1,bytes:=8,zero:=some [.lit .nilFunc]}:=by kernel_rfl
theorem Jxw:Jam Pg 232=true:=by kernel_rfl
theorem Jxx:Jt Pg 233=some {kd:=.int .u32,size:=1,bytes:=4,zero:=some [.lit (.int .u32 0)]}:=by kernel_rfl
theorem Jxy:Jt Pg 234=some {kd:=.int .u8,size:=1,bytes:=1,zero:=some [.lit (.int .u8 0)]}:=by kernel_rfl
theorem Jxz:Jt Pg 235=some {kd:=.int .u8,size:=1,bytes:=1,zero:=some [.lit (.int .u8 0)]}:=by kernel_rfl
theorem JxA:Jt Pg 236=some {kd:=.oth,size:=1,bytes:=8,zero:=some [.lit .nilFunc]}:=by kernel_rfl
theorem JxB:Jam Pg 236=true:=by kernel_rfl
theorem JxC:Jt Pg 237=some {kd:=.oth,size:=1,bytes:=8,zero:=some [.lit (.pointer none)]}:=by kernel_rfl
theorem JxD:Jel Pg 237=true:=by kernel_rfl
theorem JxE:Jt Pg 238=some {kd:=.int .i32,size:=1,bytes:=4,zero:=some [.lit (.int .i32 0)]}:=by kernel_rfl
theorem JxF:Jt Pg 239=some {kd:=.int .i32,size:=1,bytes:=4,zero:=some [.lit (.int .i32 0)]}:=by kernel_rfl
theorem JxG:Jt Pg 240=some {kd:=.st [(0,12),(1,12),(2,233),(3,234),(4,5),(5,5),(6,235),(7,236),(8,237),(9,238),(10,239)],size:=11,bytes:=48,zero:=some [.lit (.int .u64 0),.lit (.int .u64 0),.lit (.int .u32 0),.lit (.int .u8 0),.lit (.int .u8 0),.lit (.int .u8 0),.lit (.int .u8 0),.lit .nilFunc,.lit (.pointer none),.lit (.int .i32 0),.lit (.int .i32 0)]}:=by kernel_rfl
theorem JxH:Jt Pg 241=some {kd:=.st [(0,12),(1,12),(2,233),(3,234),(4,5),(5,5),(6,235),(7,236),(8,237),(9,238),(10,239)],size:=11,bytes:=48,zero:=some [.lit (.int .u64 0),.lit (.int .u64 0),.lit (.int .u32 0),.lit (.int .u8 0),.lit (.int .u8 0),.lit (.int .u8 0),.lit (.int .u8 0),.lit .nilFunc,.lit (.pointer none),.lit (.int .i32 0),.lit (.int .i32 0)]}:=by kernel_rfl
theorem tyW:(type_of% @ty1)/\(type_of% @fn1)/\(type_of% @ty2)/\(type_of% @ty3)/\(type_of% @ty4)/\(type_of% @zr4)/\(type_of% @ty5)/\(type_of% @ty6)/\(type_of% @ty7)/\(type_of% @ty8)/\(type_of% @ty9)/\(type_of% @JAf)/\(type_of% @JAg)/\(type_of% @JAh)/\(type_of% @JAi)/\(type_of% @JAj)/\(type_of% @JAk)/\(type_of% @JAl)/\(type_of% @JAm)/\(type_of% @JAn)/\(type_of% @JAo)/\(type_of% @JAp)/\(type_of% @JAq)/\(type_of% @JAr)/\(type_of% @JtU)/\(type_of% @JtV)/\(type_of% @Jzo)/\(type_of% @Jzp)/\(type_of% @JAs)/\(type_of% @JzM)/\(type_of% @JsB)/\(type_of% @JzN)/\(type_of% @JAt)/\(type_of% @JAu)/\(type_of% @JAv)/\(type_of% @JAw)/\(type_of% @JtW)/\(type_of% @JAx)/\(type_of% @JAy)/\(type_of% @JAz)/\(type_of% @JAA)/\(type_of% @JAB)/\(type_of% @JAC)/\(type_of% @JAD)/\(type_of% @JAE)/\(type_of% @JAF)/\(type_of% @JAG)/\(type_of% @Jzq)/\(type_of% @JrH)/\(type_of% @JrI)/\(type_of% @JAH)/\(type_of% @JAI)/\(type_of% @JrK)/\(type_of% @JAK)/\(type_of% @JAL)/\(type_of% @JAM)/\(type_of% @JAN)/\(type_of% @JAO)/\(type_of% @JAP)/\(type_of% @JAQ)/\(type_of% @JAR)/\(type_of% @JAS)/\(type_of% @JrL)/\(type_of% @JrM)/\(type_of% @JAT)/\(type_of% @JAU)/\(type_of% @JAV)/\(type_of% @JAW)/\(type_of% @JAX)/\(type_of% @JAY)/\(type_of% @JAZ)/\(type_of% @JA0)/\(type_of% @JA1)/\(type_of% @JA2)/\(type_of% @JA3)/\(type_of% @JA4)/\(type_of% @JA5)/\(type_of% @JA6)/\(type_of% @JA7)/\(type_of% @JA8)/\(type_of% @JA9)/\(type_of% @JBa)/\(type_of% @JBb)/\(type_of% @JBc)/\(type_of% @JBd)/\(type_of% @JBe)/\(type_of% @JBf)/\(type_of% @JBg)/\(type_of% @JBh)/\(type_of% @JBi)/\(type_of% @JBj)/\(type_of% @JBk)/\(type_of% @JBl)/\(type_of% @JBm)/\(type_of% @JBn)/\(type_of% @JBo)/\(type_of% @JzO)/\(type_of% @JrN)/\(type_of% @JrO)/\(type_of% @JBp)/\(type_of% @JBq)/\(type_of% @JBr)/\(type_of% @JBs)/\(type_of% @JBt)/\(type_of% @JBu)/\(type_of% @JrP)/\(type_of% @JBv)/\(type_of% @Jui)/\(type_of% @JrQ)/\(type_of% @JrR)/\(type_of% @JBw)/\(type_of% @JBx)/\(type_of% @JBy)/\(type_of% @JBz)/\(type_of% @JBA)/\(type_of% @JBB)/\(type_of% @JBC)/\(type_of% @JBD)/\(type_of% @JBE)/\(type_of% @Jzr)/\(type_of% @JBF)/\(type_of% @Jzs)/\(type_of% @JBG)/\(type_of% @JBH)/\(type_of% @JBI)/\(type_of% @JBK)/\(type_of% @JBL)/\(type_of% @Jzt)/\(type_of% @Jzu)/\(type_of% @JBM)/\(type_of% @Juj)/\(type_of% @JBN)/\(type_of% @Jzv)/\(type_of% @JBO)/\(type_of% @JzP)/\(type_of% @JBP)/\(type_of% @JBQ)/\(type_of% @JBR)/\(type_of% @JBS)/\(type_of% @Juk)/\(type_of% @Jul)/\(type_of% @Jum)/\(type_of% @Jun)/\(type_of% @Juo)/\(type_of% @Jup)/\(type_of% @Juq)/\(type_of% @Jur)/\(type_of% @Jus)/\(type_of% @Jut)/\(type_of% @Juu)/\(type_of% @Juv)/\(type_of% @Juw)/\(type_of% @Jux)/\(type_of% @Juy)/\(type_of% @Juz)/\(type_of% @JuA)/\(type_of% @JuB)/\(type_of% @JuC)/\(type_of% @JuD)/\(type_of% @JuE)/\(type_of% @JuF)/\(type_of% @JuG)/\(type_of% @JuH)/\(type_of% @JuI)/\(type_of% @JuK)/\(type_of% @JuL)/\(type_of% @JuM)/\(type_of% @JuN)/\(type_of% @JuO)/\(type_of% @JuP)/\(type_of% @JuQ)/\(type_of% @JuR)/\(type_of% @JuS)/\(type_of% @JuT)/\(type_of% @JuU)/\(type_of% @JuV)/\(type_of% @JuW)/\(type_of% @JuX)/\(type_of% @JuY)/\(type_of% @JuZ)/\(type_of% @Ju0)/\(type_of% @Ju1)/\(type_of% @JsC)/\(type_of% @JkT)/\(type_of% @Jod)/\(type_of% @Ju2)/\(type_of% @Ju3)/\(type_of% @Ju4)/\(type_of% @Joe)/\(type_of% @Jof)/\(type_of% @Ju5)/\(type_of% @Ju6)/\(type_of% @Ju7)/\(type_of% @Ju8)/\(type_of% @Ju9)/\(type_of% @Jva)/\(type_of% @Jvb)/\(type_of% @Jvc)/\(type_of% @Jvd)/\(type_of% @Jve)/\(type_of% @Jvf)/\(type_of% @Jvg)/\(type_of% @Jvh)/\(type_of% @Jvi)/\(type_of% @Jvj)/\(type_of% @Jvk)/\(type_of% @Jvl)/\(type_of% @Jvm)/\(type_of% @Jvn)/\(type_of% @Jvo)/\(type_of% @Jvp)/\(type_of% @Jqn)/\(type_of% @Jog)/\(type_of% @Joh)/\(type_of% @Jvq)/\(type_of% @Jvr)/\(type_of% @Jvs)/\(type_of% @Jvt)/\(type_of% @Jvu)/\(type_of% @Jvv)/\(type_of% @Jvw)/\(type_of% @Jvx)/\(type_of% @Jvy)/\(type_of% @Jvz)/\(type_of% @JvA)/\(type_of% @JvB)/\(type_of% @JvC)/\(type_of% @JvD)/\(type_of% @JvE)/\(type_of% @JvF)/\(type_of% @JvG)/\(type_of% @JvH)/\(type_of% @JvI)/\(type_of% @JvK)/\(type_of% @JvL)/\(type_of% @JvM)/\(type_of% @JvN)/\(type_of% @JvO)/\(type_of% @JsD)/\(type_of% @Joi)/\(type_of% @Joj)/\(type_of% @JvP)/\(type_of% @JvQ)/\(type_of% @JvR)/\(type_of% @JvS)/\(type_of% @JvT)/\(type_of% @JvU)/\(type_of% @JvV)/\(type_of% @JvW)/\(type_of% @JvX)/\(type_of% @JvY)/\(type_of% @JvZ)/\(type_of% @Jv0)/\(type_of% @Jv1)/\(type_of% @Jv2)/\(type_of% @Jv3)/\(type_of% @Jv4)/\(type_of% @Jv5)/\(type_of% @Jv6)/\(type_of% @Jv7)/\(type_of% @Jv8)/\(type_of% @Jv9)/\(type_of% @Jwa)/\(type_of% @Jwb)/\(type_of% @Jwc)/\(type_of% @Jwd)/\(type_of% @Jqo)/\(type_of% @Jok)/\(type_of% @Jol)/\(type_of% @Jqp)/\(type_of% @Jwe)/\(type_of% @Jwf)/\(type_of% @Jwg)/\(type_of% @Jwh)/\(type_of% @Jwi)/\(type_of% @Jwj)/\(type_of% @Jwk)/\(type_of% @Jwl)/\(type_of% @Jwm)/\(type_of% @Jwn)/\(type_of% @Jwo)/\(type_of% @Jwp)/\(type_of% @Jwq)/\(type_of% @Jwr)/\(type_of% @Jws)/\(type_of% @Jwt)/\(type_of% @Jwu)/\(type_of% @Jwv)/\(type_of% @Jww)/\(type_of% @Jwx)/\(type_of% @Jwy)/\(type_of% @Jwz)/\(type_of% @JwA)/\(type_of% @JwB)/\(type_of% @JwC)/\(type_of% @JwD)/\(type_of% @JwE)/\(type_of% @JwF)/\(type_of% @JwG)/\(type_of% @JwH)/\(type_of% @JwI)/\(type_of% @JwK)/\(type_of% @JwL)/\(type_of% @Jqq)/\(type_of% @Jom)/\(type_of% @Jon)/\(type_of% @JwM)/\(type_of% @JwN)/\(type_of% @JwO)/\(type_of% @JwP)/\(type_of% @JwQ)/\(type_of% @JwR)/\(type_of% @JwS)/\(type_of% @JwT)/\(type_of% @JwU)/\(type_of% @JwV)/\(type_of% @JwW)/\(type_of% @JwX)/\(type_of% @JwY)/\(type_of% @JwZ)/\(type_of% @Jw0)/\(type_of% @Jw1)/\(type_of% @Jw2)/\(type_of% @Jw3)/\(type_of% @Jw4)/\(type_of% @Jw5)/\(type_of% @Jw6)/\(type_of% @Jw7)/\(type_of% @Jw8)/\(type_of% @Jw9)/\(type_of% @Jxa)/\(type_of% @Jxb)/\(type_of% @Jxc)/\(type_of% @Jxd)/\(type_of% @Jxe)/\(type_of% @Jxf)/\(type_of% @Jxg)/\(type_of% @Jxh)/\(type_of% @Jxi)/\(type_of% @Jxj)/\(type_of% @Jxk)/\(type_of% @Jxl)/\(type_of% @Jxm)/\(type_of% @Jxn)/\(type_of% @Jxo)/\(type_of% @Jxp)/\(type_of% @Jxq)/\(type_of% @Jxr)/\(type_of% @Jxs)/\(type_of% @Jxt)/\(type_of% @Jxu)/\(type_of% @Jxv)/\(type_of% @Jxw)/\(type_of% @Jxx)/\(type_of% @Jxy)/\(type_of% @Jxz)/\(type_of% @JxA)/\(type_of% @JxB)/\(type_of% @JxC)/\(type_of% @JxD)/\(type_of% @JxE)/\(type_of% @JxF)/\(type_of% @JxG)/\(type_of% @JxH):=⟨ty1,fn1,ty2,ty3,ty4,zr4,ty5,ty6,ty7,ty8,ty9,JAf,JAg,JAh,JAi,JAj,JAk,JAl,JAm,JAn,JAo,JAp,JAq,JAr,JtU,JtV,Jzo,Jzp,JAs,JzM,JsB,JzN,JAt,JAu,JAv,JAw,JtW,JAx,JAy,JAz,JAA,JAB,JAC,JAD,JAE,JAF,JAG,Jzq,JrH,JrI,JAH,JAI,JrK,JAK,JAL,JAM,JAN,JAO,JAP,JAQ,JAR,JAS,JrL,JrM,JAT,JAU,JAV,JAW,JAX,JAY,JAZ,JA0,JA1,JA2,JA3,JA4,JA5,JA6,JA7,JA8,JA9,JBa,JBb,JBc,JBd,JBe,JBf,JBg,JBh,JBi,JBj,JBk,JBl,JBm,JBn,JBo,JzO,JrN,JrO,JBp,JBq,JBr,JBs,JBt,JBu,JrP,JBv,Jui,JrQ,JrR,JBw,JBx,JBy,JBz,JBA,JBB,JBC,JBD,JBE,Jzr,JBF,Jzs,JBG,JBH,JBI,JBK,JBL,Jzt,Jzu,JBM,Juj,JBN,Jzv,JBO,JzP,JBP,JBQ,JBR,JBS,Juk,Jul,Jum,Jun,Juo,Jup,Juq,Jur,Jus,Jut,Juu,Juv,Juw,Jux,Juy,Juz,JuA,JuB,JuC,JuD,JuE,JuF,JuG,JuH,JuI,JuK,JuL,JuM,JuN,JuO,JuP,JuQ,JuR,JuS,JuT,JuU,JuV,JuW,JuX,JuY,JuZ,Ju0,Ju1,JsC,JkT,Jod,Ju2,Ju3,Ju4,Joe,Jof,Ju5,Ju6,Ju7,Ju8,Ju9,Jva,Jvb,Jvc,Jvd,Jve,Jvf,Jvg,Jvh,Jvi,Jvj,Jvk,Jvl,Jvm,Jvn,Jvo,Jvp,Jqn,Jog,Joh,Jvq,Jvr,Jvs,Jvt,Jvu,Jvv,Jvw,Jvx,Jvy,Jvz,JvA,JvB,JvC,JvD,JvE,JvF,JvG,JvH,JvI,JvK,JvL,JvM,JvN,JvO,JsD,Joi,Joj,JvP,JvQ,JvR,JvS,JvT,JvU,JvV,JvW,JvX,JvY,JvZ,Jv0,Jv1,Jv2,Jv3,Jv4,Jv5,Jv6,Jv7,Jv8,Jv9,Jwa,Jwb,Jwc,Jwd,Jqo,Jok,Jol,Jqp,Jwe,Jwf,Jwg,Jwh,Jwi,Jwj,Jwk,Jwl,Jwm,Jwn,Jwo,Jwp,Jwq,Jwr,Jws,Jwt,Jwu,Jwv,Jww,Jwx,Jwy,Jwz,JwA,JwB,JwC,JwD,JwE,JwF,JwG,JwH,JwI,JwK,JwL,Jqq,Jom,Jon,JwM,JwN,JwO,JwP,JwQ,JwR,JwS,JwT,JwU,JwV,JwW,JwX,JwY,JwZ,Jw0,Jw1,Jw2,Jw3,Jw4,Jw5,Jw6,Jw7,Jw8,Jw9,Jxa,Jxb,Jxc,Jxd,Jxe,Jxf,Jxg,Jxh,Jxi,Jxj,Jxk,Jxl,Jxm,Jxn,Jxo,Jxp,Jxq,Jxr,Jxs,Jxt,Jxu,Jxv,Jxw,Jxx,Jxy,Jxz,JxA,JxB,JxC,JxD,JxE,JxF,JxG,JxH⟩
theorem JzQ:Jg Pg 6:=⟨_,Tryz.func6,rfl,by decide⟩
theorem Joo:Jg Pg 7:=⟨_,Tryz.func7,rfl,by decide⟩
theorem JsE:Jg Pg 8:=⟨_,Tryz.func8,rfl,by decide⟩
theorem JxI:Jg Pg 11:=⟨_,Tryz.func11,rfl,by decide⟩
theorem JrS:Jg Pg 13:=⟨_,Tryz.func13,rfl,by decide⟩
theorem JxK:Jg Pg 15:=⟨_,Tryz.func15,rfl,by decide⟩
theorem JxL:Jg Pg 16:=⟨_,Tryz.func16,rfl,by decide⟩
theorem JxM:Jg Pg 17:=⟨_,Tryz.func17,rfl,by decide⟩
theorem JxN:Jg Pg 18:=⟨_,Tryz.func18,rfl,by decide⟩
theorem JxO:Jg Pg 19:=⟨_,Tryz.func19,rfl,by decide⟩
theorem JlK:Jg Pg 20:=⟨_,Tryz.func20,rfl,by decide⟩
theorem Jop:Jg Pg 21:=⟨_,Tryz.func21,rfl,by decide⟩
theorem JrT:Jg Pg 22:=⟨_,Tryz.func22,rfl,by decide⟩
theorem JxP:Jg Pg 23:=⟨_,Tryz.func23,rfl,by decide⟩
theorem JrU:Jg Pg 24:=⟨_,Tryz.func24,rfl,by decide⟩
theorem JxQ:Jg Pg 25:=⟨_,Tryz.func25,rfl,by decide⟩
theorem JxR:Jg Pg 26:=⟨_,Tryz.func26,rfl,by decide⟩
theorem JxS:Jg Pg 27:=⟨_,Tryz.func27,rfl,by decide⟩
theorem JxT:Jg Pg 28:=⟨_,Tryz.func28,rfl,by decide⟩
theorem JrV:Jg Pg 29:=⟨_,Tryz.func29,rfl,by decide⟩
theorem JxU:Jg Pg 30:=⟨_,Tryz.func30,rfl,by decide⟩
theorem JxV:Jg Pg 31:=⟨_,Tryz.func31,rfl,by decide⟩
theorem JxW:Jg Pg 32:=⟨_,Tryz.func32,rfl,by decide⟩
theorem Joq:Jg Pg 33:=⟨_,Tryz.func33,rfl,by decide⟩
theorem Jor:Jg Pg 36:=⟨_,Tryz.func36,rfl,by decide⟩
theorem Jos:Jg Pg 37:=⟨_,Tryz.func37,rfl,by decide⟩
theorem JrW:Jg Pg 38:=⟨_,Tryz.func38,rfl,by decide⟩
theorem Jot:Jg Pg 39:=⟨_,Tryz.func39,rfl,by decide⟩
theorem JxX:Jg Pg 40:=⟨_,Tryz.func40,rfl,by decide⟩
theorem JxY:Jg Pg 41:=⟨_,Tryz.func41,rfl,by decide⟩
theorem JxZ:Jg Pg 42:=⟨_,Tryz.func42,rfl,by decide⟩
theorem JrX:Jg Pg 43:=⟨_,Tryz.func43,rfl,by decide⟩
theorem JrY:Jg Pg 44:=⟨_,Tryz.func44,rfl,by decide⟩
theorem Jx0:Jg Pg 45:=⟨_,Tryz.func45,rfl,by decide⟩
theorem Jx1:Jg Pg 46:=⟨_,Tryz.func46,rfl,by decide⟩
theorem Jx2:Jg Pg 47:=⟨_,Tryz.func47,rfl,by decide⟩
theorem Jx3:Jg Pg 48:=⟨_,Tryz.func48,rfl,by decide⟩
theorem JjF:Jg Pg 49:=⟨_,Tryz.func49,rfl,by decide⟩
theorem Jou:Jg Pg 50:=⟨_,Tryz.func50,rfl,by decide⟩
theorem Jx4:Jg Pg 51:=⟨_,Tryz.func51,rfl,by decide⟩
theorem Jx5:Jg Pg 52:=⟨_,Tryz.func52,rfl,by decide⟩
theorem Jx6:Jg Pg 53:=⟨_,Tryz.func53,rfl,by decide⟩
theorem Jx7:Jg Pg 54:=⟨_,Tryz.func54,rfl,by decide⟩
theorem Jgm:Jg Pg 57:=⟨_,Tryz.func57,rfl,by decide⟩
theorem Jx8:Jg Pg 58:=⟨_,Tryz.func58,rfl,by decide⟩
theorem Jx9:Jg Pg 59:=⟨_,Tryz.func59,rfl,by decide⟩
theorem Jya:Jg Pg 60:=⟨_,Tryz.func60,rfl,by decide⟩
theorem Jyb:Jg Pg 61:=⟨_,Tryz.func61,rfl,by decide⟩
theorem Jyc:Jg Pg 62:=⟨_,Tryz.func62,rfl,by decide⟩
theorem JrZ:Jg Pg 63:=⟨_,Tryz.func63,rfl,by decide⟩
theorem Jyd:Jg Pg 64:=⟨_,Tryz.func64,rfl,by decide⟩
theorem Jye:Jg Pg 65:=⟨_,Tryz.func65,rfl,by decide⟩
theorem Jft:Jg Pg 66:=⟨_,Tryz.func66,rfl,by decide⟩
theorem Jr0:Jg Pg 67:=⟨_,Tryz.func67,rfl,by decide⟩
theorem Jov:Jg Pg 68:=⟨_,Tryz.func68,rfl,by decide⟩
theorem Jyf:Jg Pg 69:=⟨_,Tryz.func69,rfl,by decide⟩
theorem Jyg:Jg Pg 70:=⟨_,Tryz.func70,rfl,by decide⟩
theorem Jyh:Jg Pg 71:=⟨_,Tryz.func71,rfl,by decide⟩
theorem Jyi:Jg Pg 72:=⟨_,Tryz.func72,rfl,by decide⟩
theorem Jyj:Jg Pg 73:=⟨_,Tryz.func73,rfl,by decide⟩
theorem Jyk:Jg Pg 74:=⟨_,Tryz.func74,rfl,by decide⟩
theorem Jyl:Jg Pg 75:=⟨_,Tryz.func75,rfl,by decide⟩
theorem Jym:Jg Pg 76:=⟨_,Tryz.func76,rfl,by decide⟩
theorem JlL:Jg Pg 77:=⟨_,Tryz.func77,rfl,by decide⟩
theorem Jr1:Jg Pg 78:=⟨_,Tryz.func78,rfl,by decide⟩
theorem JeN:Jg Pg 79:=⟨_,Tryz.func79,rfl,by decide⟩
theorem Jyn:Jg Pg 80:=⟨_,Tryz.func80,rfl,by decide⟩
theorem Jyo:Jg Pg 81:=⟨_,Tryz.func81,rfl,by decide⟩
theorem Jr2:Jg Pg 82:=⟨_,Tryz.func82,rfl,by decide⟩
theorem Jyp:Jg Pg 83:=⟨_,Tryz.func83,rfl,by decide⟩
theorem Jyq:Jg Pg 84:=⟨_,Tryz.func84,rfl,by decide⟩
theorem Jr3:Jg Pg 85:=⟨_,Tryz.func85,rfl,by decide⟩
theorem Jr4:Jg Pg 86:=⟨_,Tryz.func86,rfl,by decide⟩
theorem Jyr:Jg Pg 87:=⟨_,Tryz.func87,rfl,by decide⟩
theorem Jys:Jg Pg 88:=⟨_,Tryz.func88,rfl,by decide⟩
theorem Jr5:Jg Pg 89:=⟨_,Tryz.func89,rfl,by decide⟩
theorem Jow:Jg Pg 90:=⟨_,Tryz.func90,rfl,by decide⟩
theorem Jr6:Jg Pg 91:=⟨_,Tryz.func91,rfl,by decide⟩
theorem JlM:Jg Pg 92:=⟨_,Tryz.func92,rfl,by decide⟩
theorem Jyt:Jg Pg 93:=⟨_,Tryz.func93,rfl,by decide⟩
theorem Jyu:Jg Pg 94:=⟨_,Tryz.func94,rfl,by decide⟩
theorem Jyv:Jg Pg 95:=⟨_,Tryz.func95,rfl,by decide⟩
theorem Jyw:Jg Pg 96:=⟨_,Tryz.func96,rfl,by decide⟩
theorem Jox:Jg Pg 97:=⟨_,Tryz.func97,rfl,by decide⟩
theorem Jyx:Jg Pg 98:=⟨_,Tryz.func98,rfl,by decide⟩
theorem Jyy:Jg Pg 99:=⟨_,Tryz.func99,rfl,by decide⟩
theorem JsF:Jg Pg 100:=⟨_,Tryz.func100,rfl,by decide⟩
theorem JsG:Jg Pg 101:=⟨_,Tryz.func101,rfl,by decide⟩
theorem JsH:Jg Pg 102:=⟨_,Tryz.func102,rfl,by decide⟩
theorem JsI:Jg Pg 103:=⟨_,Tryz.func103,rfl,by decide⟩
theorem JsK:Jg Pg 104:=⟨_,Tryz.func104,rfl,by decide⟩
theorem JsL:Jg Pg 105:=⟨_,Tryz.func105,rfl,by decide⟩
theorem Joy:Jg Pg 107:=⟨_,Tryz.func107,rfl,by decide⟩
theorem Joz:Jg Pg 108:=⟨_,Tryz.func108,rfl,by decide⟩
theorem JsM:Jg Pg 109:=⟨_,Tryz.func109,rfl,by decide⟩
theorem JoA:Jg Pg 110:=⟨_,Tryz.func110,rfl,by decide⟩
theorem JoB:Jg Pg 111:=⟨_,Tryz.func111,rfl,by decide⟩
theorem JkU:Jg Pg 112:=⟨_,Tryz.func112,rfl,by decide⟩
theorem JsN:Jg Pg 113:=⟨_,Tryz.func113,rfl,by decide⟩
theorem JsO:Jg Pg 114:=⟨_,Tryz.func114,rfl,by decide⟩
theorem Jgn:Jg Pg 115:=⟨_,Tryz.func115,rfl,by decide⟩
theorem JsP:Jg Pg 116:=⟨_,Tryz.func116,rfl,by decide⟩
theorem JoC:Jg Pg 117:=⟨_,Tryz.func117,rfl,by decide⟩
theorem JoD:Jg Pg 118:=⟨_,Tryz.func118,rfl,by decide⟩
theorem JsQ:Jg Pg 119:=⟨_,Tryz.func119,rfl,by decide⟩
theorem JoE:Jg Pg 120:=⟨_,Tryz.func120,rfl,by decide⟩
theorem JoF:Jg Pg 121:=⟨_,Tryz.func121,rfl,by decide⟩
theorem JsR:Jg Pg 122:=⟨_,Tryz.func122,rfl,by decide⟩
theorem JsS:Jg Pg 123:=⟨_,Tryz.func123,rfl,by decide⟩
theorem JoG:Jg Pg 124:=⟨_,Tryz.func124,rfl,by decide⟩
theorem JoH:Jg Pg 125:=⟨_,Tryz.func125,rfl,by decide⟩
theorem JsT:Jg Pg 126:=⟨_,Tryz.func126,rfl,by decide⟩
theorem JsU:Jg Pg 127:=⟨_,Tryz.func127,rfl,by decide⟩
theorem JsV:Jg Pg 128:=⟨_,Tryz.func128,rfl,by decide⟩
theorem JsW:Jg Pg 129:=⟨_,Tryz.func129,rfl,by decide⟩
theorem JoI:Jg Pg 130:=⟨_,Tryz.func130,rfl,by decide⟩
theorem JsX:Jg Pg 131:=⟨_,Tryz.func131,rfl,by decide⟩
theorem JsY:Jg Pg 132:=⟨_,Tryz.func132,rfl,by decide⟩
theorem JoK:Jg Pg 133:=⟨_,Tryz.func133,rfl,by decide⟩
theorem JsZ:Jg Pg 134:=⟨_,Tryz.func134,rfl,by decide⟩
theorem Js0:Jg Pg 135:=⟨_,Tryz.func135,rfl,by decide⟩
theorem Js1:Jg Pg 136:=⟨_,Tryz.func136,rfl,by decide⟩
theorem Js2:Jg Pg 137:=⟨_,Tryz.func137,rfl,by decide⟩
theorem Js3:Jg Pg 138:=⟨_,Tryz.func138,rfl,by decide⟩
theorem Js4:Jg Pg 139:=⟨_,Tryz.func139,rfl,by decide⟩
theorem Js5:Jg Pg 140:=⟨_,Tryz.func140,rfl,by decide⟩
end Go.Proofs.Y
end
section
namespace Go.Proofs.Y
open Go Go.Ab
def Jdm(W:World):Nat->Nat->Option Value:=fun b o=>(W.cell? ⟨b,o,none⟩).bind fun v=>if v.oneCell' then some v else none
theorem Jd4{W:World}{b o:Nat}{v:Value}(h:W.cell? ⟨b,o,none⟩=some v)(h1:v.oneCell'=true):Jdm W b o=some v:=by simp[Jdm,h,h1]
theorem Jqr(W:World):Jjm (Jdm W) W:=by
 intro b o v h;simp only[Jdm,Option.bind_eq_some_iff] at h;obtain⟨u,h1,h2⟩:=h;split at h2
 ·rename_i h3;cases h2;exact⟨h1,h3⟩
 ·cases h2
theorem Jqs{H:Type}(d:DataW H):1<=YtgbbhilflgekhaaGreatDoor.Rows.uptoBulk d:=by
 cases d with
 | lit l=>cases l <;> simp[YtgbbhilflgekhaaGreatDoor.Rows.uptoBulk]
 | _=>simp[YtgbbhilflgekhaaGreatDoor.Rows.uptoBulk]
theorem JkV{H:Type}(l:List (DataW H)):YtgbbhilflgekhaaGreatDoor.Rows.uptoBulkAll l=(l.map YtgbbhilflgekhaaGreatDoor.Rows.uptoBulk).sum:=by
 induction l with
 | nil=>simp[YtgbbhilflgekhaaGreatDoor.Rows.uptoBulkAll]
 | cons x l ih=>simp[YtgbbhilflgekhaaGreatDoor.Rows.uptoBulkAll,ih]
section
variable {H:Type} (enc:TypeId × Value->H) (P:Program) (W:World)
def Rd (n:Nat)(t:TypeId)(E:List AV->Nat->Prop):Prop :=
 ∀ cs d ps,DataW.trod enc P W 0 (fun _=>true) true n t cs=some (d,ps)->(∀ c∈cs,c.oneCell'=true)/\∃ av,J9 (gm (Jdm W)) cs av/\E av (YtgbbhilflgekhaaGreatDoor.Rows.uptoBulk d)
variable {enc P W}
theorem Rd.mono{n:Nat}{t:TypeId}{E F:List AV->Nat->Prop}(h:Rd enc P W n t E)(k:∀ av m,E av m->F av m):Rd enc P W n t F:=fun cs d ps e=>by
 obtain⟨h1,av,h2,h3⟩:=h cs d ps e;exact⟨h1,av,h2,k av _ h3⟩
theorem Rd.zero{t:TypeId}{E:List AV->Nat->Prop}:Rd enc P W 0 t E:=fun cs d ps e=>by simp[DataW.trod] at e
theorem Jil{g:Gh}{v:Value}(h:JfY v=true):J9 g [v] [.lit v]:=.cons (.lit h) .nil
theorem Jd5{t:TypeId}{ti:TI}(h:Jt P t=some ti):∃ d,P.underlying t=some d/\ti.kd=JcP d/\P.cellsOf t=ti.size:=by
 obtain⟨i,d,h1,h2,h3,h4,_⟩:=JD h;exact⟨d,h2,h3,by simp[Program.cellsOf,h1,h4]⟩
theorem Jhq{t:TypeId}{ti:TI}(h:Jt P t=some ti):P.cellsOf t=ti.size:=(Jd5 h).choose_spec.2.2
theorem Rd.int{n:Nat}{t:TypeId}{ti:TI}(h:Jt P t=some ti){k:IntKind}(hk:ti.kd = .int k):Rd enc P W n t (fun av m=>∃ z,(Lit.int k z).wf=true/\av=[.lit (.int k z)]):=by
 cases n with
 | zero=>exact .zero
 | succ n =>
  intro cs d ps e;obtain⟨u,hu,hd,_⟩:=Jd5 h;rw[hk] at hd;cases u <;> simp[JcP] at hd
  subst hd;rw[DataW.trod_step] at e;unfold DataW.trodStep at e;rw[hu] at e;split at e <;> rename_i heq <;> first | (cases heq;done) | skip
  ·rename_i k' q;cases heq;split at e
   ·rename_i hc;obtain⟨rfl,hw⟩:=hc;exact⟨by simp[Value.oneCell'],_,Jil rfl,_,hw,rfl⟩
   ·cases e
  all_goals simp_all
theorem Rd.bool{n:Nat}{t:TypeId}{ti:TI}(h:Jt P t=some ti)(hk:ti.kd = .bool):Rd enc P W n t (fun av m=>∃ b,av=[.lit (.bool b)]):=by
 cases n with
 | zero=>exact .zero
 | succ n =>
  intro cs d ps e;obtain⟨u,hu,hd,_⟩:=Jd5 h;rw[hk] at hd;cases u <;> simp[JcP] at hd
  rw[DataW.trod_step] at e;unfold DataW.trodStep at e;rw[hu] at e;split at e <;> rename_i heq <;> first | (cases heq;done) | skip
  ·exact⟨by simp[Value.oneCell'],_,Jil rfl,_,rfl⟩
  all_goals simp_all
theorem Rd.str{n:Nat}{t:TypeId}{ti:TI}(h:Jt P t=some ti)(hk:ti.kd = .str):Rd enc P W n t (fun av m=>∃ s:ByteArray,s.size<=maxLen/\s.size+1=m/\av=[.lit (.string s)]):=by
 cases n with
 | zero=>exact .zero
 | succ n =>
  intro cs d ps e;obtain⟨u,hu,hd,_⟩:=Jd5 h;rw[hk] at hd;cases u <;> simp[JcP] at hd
  rw[DataW.trod_step] at e;unfold DataW.trodStep at e;rw[hu] at e;split at e <;> rename_i heq <;> first | (cases heq;done) | skip
  ·rename_i s;split at e
   ·rename_i hs;cases e;refine⟨by simp[Value.oneCell'],_,Jil rfl,s,hs,?_,rfl⟩;simp only[YtgbbhilflgekhaaGreatDoor.Rows.uptoBulk];rw[Array.length_toList];rfl
   ·cases e
  all_goals simp_all
theorem JlN{α β:Type}{f:α->Option β}:∀ {l:List α} {r:List β},l.mapM f=some r->∀ (i:Nat) (x:α),l[i]? = some x->∃ y,r[i]? = some y/\f x=some y:=by
 intro l;induction l with
 | nil=>intro r h i x e;simp at e
 | cons a l ih =>
  intro r h i x e;rw[List.mapM_cons] at h;cases hx:f a with
  | none=>simp[hx] at h
  | some y =>
   cases hxs:l.mapM f with
   | none=>simp[hx,hxs] at h
   | some ys =>
    simp[hx,hxs] at h;subst h;cases i with
    | zero=>simp at e;subst e;exact⟨y,rfl,hx⟩
    | succ i=>simp at e;simpa using ih hxs i x e
theorem Jgo{a:Addr}{i:Nat}{v:Value}(h:W.cell? (a.add i)=some v):a.add i=⟨a.block,a.off+i,none⟩:=by
 have hspot:(a.add i).spot=none:=by
  cases hsp:(a.add i).spot with
  | none=>rfl
  | some s =>
   simp only[World.cell?] at h;split at h
   ·simp[hsp] at h
   ·cases h
 unfold Addr.add at hspot ⊢;split
 ·rename_i h0;subst h0;rw[if_pos rfl] at hspot;cases a
  simp_all
 ·rfl
theorem JmD{a:Addr}{n:Nat}{cs:List Value}(h:W.cells? 0 a n=some cs):cs.length=n/\∀ (i:Nat) (v:Value),cs[i]? = some v->W.cell? ⟨a.block,a.off+i,none⟩=some v/\W.cell? (a.add i)=some v:=by
 unfold World.cells? at h;rw[if_pos (Nat.zero_le _)] at h;have hl:cs.length=n:=by simpa using mapM_some_length h
 refine⟨hl,fun i v e=>?_⟩;have hi:i<n:=by have:=(List.getElem?_eq_some_iff.1 e).1;omega
 obtain⟨y,h1,h2⟩:=JlN h i i (by simp[hi]);rw[e] at h1;cases h1;exact⟨by rw[<- Jgo h2];exact h2,h2⟩
theorem Js6{a:Addr}{i j:Nat}:(a.add i).add j=a.add (i+j):=by
 unfold Addr.add;by_cases h:i=0
 ·subst h;simp
 ·by_cases h2:j=0
  ·subst h2;simp
  ·simp[h,h2,Nat.add_assoc]
theorem Rd.slice{n:Nat}{t e:TypeId}{ti te:TI}(h:Jt P t=some ti)(hk:ti.kd = .sl e)(he:Jt P e=some te)(hpos:0<te.size){E:List AV->Nat->Prop}(hE:Rd enc P W n e E) :
  Rd enc P W (n+1) t (fun av m=>∃ l:List (List AV × Nat),av=[.vec (l.map (·.1)) false]/\(∀ p∈l,E p.1 p.2/\1<=p.2/\p.1.length=te.size)/\(l.map (·.2)).sum+1<=m/\l.length<=maxLen):=by
 intro cs d ps e0;obtain⟨u,hu,hd,_⟩:=Jd5 h;rw[hk] at hd;cases u <;> simp[JcP] at hd
 subst hd;have hc:=Jhq he;rw[DataW.trod_step] at e0;unfold DataW.trodStep at e0;rw[hu] at e0;split at e0 <;> rename_i heq <;> first | (cases heq;done) | skip
 ·cases e0;refine⟨by simp[Value.oneCell'],_,.cons .vecN .nil,[],rfl,by simp,by simp[YtgbbhilflgekhaaGreatDoor.Rows.uptoBulk],by simp⟩
 ·rename_i a len cap;cases heq;simp only at e0;split at e0
  ·rename_i hcond;obtain⟨_,hlc,hcm⟩:=hcond;simp only[Option.map_eq_some_iff,Option.bind_eq_some_iff] at e0;obtain⟨elems,hel,rest,hrest,heq2⟩:=e0;cases heq2;have hlen:elems.length=len:=by simpa using mapM_some_length hel
   refine⟨by simp[Value.oneCell'],?_⟩;have row:∀ i,i<len->∃ y,elems[i]? = some y/\∃ cs',cs'.length=te.size/\(∀ j v,cs'[j]? = some v->W.cell? (a.add (i * te.size+j))=some v)/\(∀ c∈cs',c.oneCell'=true)/\∃ av,J9 (gm (Jdm W)) cs' av/\E av (YtgbbhilflgekhaaGreatDoor.Rows.uptoBulk y.1):=by
    intro i hi;obtain⟨y,h1,h2⟩:=JlN hel i i (by simp[hi]);simp only[Option.bind_eq_some_iff] at h2;obtain⟨cs',hc1,hc2⟩:=h2;rw[hc] at hc1;obtain⟨c1,c2⟩:=JmD hc1;obtain⟨y1,y2⟩:=y;obtain⟨r1,r2⟩:=hE _ _ _ hc2;refine⟨_,h1,cs',c1,fun j v e=>?_,r1,r2⟩;rw[<- Js6];exact(c2 j v e).2
   by_cases h0:len=0
   ·subst h0;have:elems=[]:=List.length_eq_zero_iff.1 hlen;subst this;exact⟨_,.cons (.vecE (fun q=>by cases q)) .nil,[],rfl,by simp,by simp[YtgbbhilflgekhaaGreatDoor.Rows.uptoBulk,YtgbbhilflgekhaaGreatDoor.Rows.uptoBulkAll],by simp⟩
   ·
    have hp:0<len:=by omega
    obtain⟨y0,g1,cs0,g2,g3,_⟩:=row 0 hp;obtain⟨v0,hv0⟩:∃ v0,cs0[0]? = some v0:=⟨cs0[0]'(by omega),by simp⟩;have ha:a=⟨a.block,a.off,none⟩:=by
     have:=g3 0 v0 hv0;have h2:=Jgo (a:=a) (i:=0) (by simpa using this);simpa [Addr.add] using h2
    classical
    let asf:Nat->List AV:=fun i=>if hi:i<len then (row i hi).choose_spec.2.choose_spec.2.2.2.choose else []
    let csf:Nat->List Value:=fun i=>if hi:i<len then (row i hi).choose_spec.2.choose else []
    let yf:Nat->Nat:=fun i=>if hi:i<len then YtgbbhilflgekhaaGreatDoor.Rows.uptoBulk (row i hi).choose.1 else 0
    have fact:∀ i,i<len->elems[i]?.map (fun y=>YtgbbhilflgekhaaGreatDoor.Rows.uptoBulk y.1)=some (yf i)/\(csf i).length=te.size/\(∀ j v,(csf i)[j]? = some v->W.cell? (a.add (i * te.size+j))=some v)/\(∀ c∈csf i,c.oneCell'=true)/\J9 (gm (Jdm W)) (csf i) (asf i)/\E (asf i) (yf i)/\1<=yf i:=by
     intro i hi;have q:=(row i hi).choose_spec;have q2:=q.2.choose_spec;have q3:=q2.2.2.2.choose_spec;simp only[asf,csf,yf,dif_pos hi];exact⟨congrArg (Option.map fun y=>YtgbbhilflgekhaaGreatDoor.Rows.uptoBulk y.1) q.1,q2.1,q2.2.1,q2.2.2.1,q3.1,q3.2,Jqs _⟩
    let l:List (List AV × Nat):=(List.range len).map fun i=>(asf i,yf i)
    have hll:l.length=len:=by simp[l]
    have hxs:(l.map (·.1))=(List.range len).map asf:=by simp[l,Function.comp_def]
    have hys:(l.map (·.2))=elems.map (fun y=>YtgbbhilflgekhaaGreatDoor.Rows.uptoBulk y.1):=by
     apply List.ext_getElem?;intro i;simp only[l,List.map_map,List.getElem?_map,Function.comp_def];by_cases hi:i<len
     ·rw[(fact i hi).1];simp[hi]
     ·simp[List.getElem?_eq_none (l:=elems) (i:=i) (by omega),hi]
    refine⟨[.vec (l.map (·.1)) false],.cons ?_ .nil,l,rfl,?_,?_,by rw[hll];omega⟩
    ·rw[ha];have key:Rep (gm (Jdm W)) (.slice (some ⟨a.block,a.off,none⟩) ((List.range len).map asf).length cap) (.vec ((List.range len).map asf) false):=by
      refine .vec (s:=te.size) (fun i j=>(csf i).getD j (.bool false)) ?_ (fun q=>by cases q) (by simpa using hlc) ?_ ?_
      ·intro x hx;obtain⟨i,hi,rfl⟩:=List.mem_map.1 hx;have:=fact i (by simpa using hi);rw[<- this.2.2.2.2.1.1];exact this.2.1
      ·intro i x j b e1 e2;have hi:i<len:=by have:=(List.getElem?_eq_some_iff.1 e1).1;simpa using this
       have hx:asf i=x:=by simpa [hi] using e1
       subst hx;obtain⟨_,f2,f3,f4,f5,_⟩:=fact i hi;have hj:j<(csf i).length:=by rw[f5.1];exact(List.getElem?_eq_some_iff.1 e2).1
       have hv:(csf i)[j]? = some ((csf i).getD j (.bool false)):=by simp[List.getD,hj]
       have hcell:=f3 j _ hv;have:=Jgo hcell;rw[this] at hcell;rw[Nat.add_assoc];exact Jd4 hcell (f4 _ (List.mem_of_getElem? hv))
      ·intro i x j b e1 e2;have hi:i<len:=by have:=(List.getElem?_eq_some_iff.1 e1).1;simpa using this
       have hx:asf i=x:=by simpa [hi] using e1
       subst hx;obtain⟨_,f2,f3,f4,f5,_⟩:=fact i hi;have hj:j<(csf i).length:=by rw[f5.1];exact(List.getElem?_eq_some_iff.1 e2).1
       have hv:(csf i)[j]? = some ((csf i).getD j (.bool false)):=by simp[List.getD,hj]
       exact f5.2 j _ b hv e2
     rw[hxs];simpa using key
    ·intro p hp;obtain⟨i,hi,rfl⟩:=List.mem_map.1 hp;obtain⟨_,f2,_,_,f5,f6,f7⟩:=fact i (by simpa using hi);exact⟨f6,f7,by rw[<- f5.1];exact f2⟩
    ·rw[hys];simp only[YtgbbhilflgekhaaGreatDoor.Rows.uptoBulk,JkV,List.map_map];have:(List.map (YtgbbhilflgekhaaGreatDoor.Rows.uptoBulk ∘ fun x=>x.fst) elems).sum=(List.map (fun y=>YtgbbhilflgekhaaGreatDoor.Rows.uptoBulk y.1) elems).sum:=rfl;omega
  ·cases e0
 all_goals simp_all
def Js7 (enc:TypeId × Value->H)(P:Program)(W:World)(n N:Nat)(fs:List (Nat × TypeId))(k:Nat)(E:List AV->Nat->Prop):Prop :=
 ∀ (cs:List Value) (xs:List (DataW H × List MemPlace)),cs.length=N->(fs.mapM fun f=>DataW.trod enc P W 0 (fun _=>true) true n f.2 ((cs.drop f.1).take (P.cellsOf f.2)))=some xs ->
  (∀ c∈cs.drop k,c.oneCell'=true)/\∃ av,J9 (gm (Jdm W)) (cs.drop k) av/\E av (YtgbbhilflgekhaaGreatDoor.Rows.uptoBulkAll (xs.map (·.1)))
theorem Js7.nil{n N k:Nat}(h:N<=k):Js7 enc P W n N [] k (fun av m=>av=[]):=fun cs xs hl _=>by
 have:cs.drop k=[]:=List.drop_eq_nil_of_le (by omega);rw[this];exact⟨by simp,[],.nil,rfl⟩
theorem Js7.cons{n N k t:Nat}{ti:TI}{fs:List (Nat × TypeId)}{E F:List AV->Nat->Prop}(ht:Jt P t=some ti)(h:Rd enc P W n t E)(r:Js7 enc P W n N fs (k+ti.size) F) :
  Js7 enc P W n N ((k,t) :: fs) k (fun av m=>∃ a b p q,av=a++b/\E a p/\F b q/\p+q=m):=by
 intro cs xs hl hm;rw[List.mapM_cons] at hm;simp only[bind,Option.bind_eq_some_iff,pure,Option.some.injEq] at hm;obtain⟨⟨d,ps⟩,h1,ys,h2,rfl⟩:=hm;obtain⟨q1,av,q2,q3⟩:=h _ _ _ h1;obtain⟨r1,bs,r2,r3⟩:=r cs ys hl h2;have e:cs.drop k=(cs.drop k).take (P.cellsOf t)++cs.drop (k+ti.size):=by
  rw[Jhq ht,<- List.drop_drop,List.take_append_drop]
 rw[e];refine⟨fun c hc=>?_,av++bs,q2.append r2,av,bs,_,_,rfl,q3,r3,?_⟩
 ·rcases List.mem_append.1 hc with hc | hc
  ·exact q1 c hc
  ·exact r1 c hc
 ·simp[YtgbbhilflgekhaaGreatDoor.Rows.uptoBulkAll]
theorem JjG{α β γ:Type}(f:α->β)(g:β->Option γ):∀ l:List α,(l.map f).mapM g=l.mapM fun x=>g (f x)
 | []=>by simp
 | x :: l=>by simp only[List.map_cons,List.mapM_cons,JjG f g l]
theorem Rd.struct{n:Nat}{t:TypeId}{ti:TI}(h:Jt P t=some ti){fs:List (Nat × TypeId)}(hk:ti.kd = .st fs){E:List AV->Nat->Prop}(hE:Js7 enc P W n ti.size fs 0 E) :
  Rd enc P W (n+1) t (fun av m=>∃ q,E av q/\q+1=m):=by
 intro cs d ps e0;obtain⟨u,hu,hd,hc⟩:=Jd5 h;rw[hk] at hd;cases u <;> simp[JcP] at hd
 rename_i fs';subst hd;rw[DataW.trod_step] at e0;unfold DataW.trodStep at e0;rw[hu] at e0;have key:(if cs.length=P.cellsOf t then (fs'.toList.mapM fun f=>DataW.trod enc P W 0 (fun _=>true) true n f.type ((cs.drop f.offset).take (P.cellsOf f.type))).map fun xs=>(DataW.agg (xs.map (·.1)),xs.flatMap (·.2)) else none)=some (d,ps):=by
  split at e0 <;> rename_i heq <;> first | (cases heq;done) | skip
  ·cases heq;exact e0
  all_goals simp_all
 split at key
 ·rename_i hl;simp only[Option.map_eq_some_iff,Prod.mk.injEq] at key;obtain⟨xs,h1,rfl,rfl⟩:=key;rw[hc] at hl;obtain⟨r1,av,r2,r3⟩:=hE cs xs hl (by rw[JjG];exact h1);exact⟨by simpa using r1,av,by simpa using r2,_,r3,by simp[YtgbbhilflgekhaaGreatDoor.Rows.uptoBulk]⟩
 ·cases key
theorem JoL{T:Type}{f:T->List AV}{sz:T->Nat}{E:List AV->Nat->Prop}(hE:∀ a m,E a m->∃ t,a=f t/\sz t<=m):∀ (l:List (List AV × Nat)),(∀ p∈l,E p.1 p.2)->∃ ts:List T,l.map (·.1)=ts.map f/\(ts.map sz).sum<=(l.map (·.2)).sum
 | [],_=>⟨[],rfl,Nat.le_refl _⟩
 | p :: l,h=>by
  obtain⟨t,h1,h2⟩:=hE _ _ (h p (by simp));obtain⟨ts,h3,h4⟩:=JoL hE l (fun q hq=>h q (by simp[hq]));exact⟨t :: ts,by simp[h1,h3],by simp;omega⟩
end
end Go.Proofs.Y
end
section
namespace Go.Proofs.Y
open Go Go.Ab
open Go.Proofs.Tryz renaming prog->Pg
theorem Jdy{n:Int}(h : -9223372036854775808<=n)(k:n<=9223372036854775807):IntKind.i64.wrap n=n:=IntWalk.i64_in n ⟨h,k⟩
theorem mixed:Tryz.prog.follows .mixedOrders=true:=by decide
theorem JoM{σ:St}{h:Hp}{v:AV}{N:Nat}(t:Nat)(ho:Own h)(hN:h.nx=N)(hle:N<=σ.hp.nx)(hv:lk σ.slots t=some v)(hp:Rn id N v v)(hb:∀ p∈h.boxes,lk σ.hp.boxes p.1=some p.2)(ht:∀ p∈h.toks,lk σ.hp.toks p.1=some p.2) :
  ∃ σ',St.cp N σ σ'/\Jfp (JaQ Pg σ' [.tmp t]) (fun r h'=>r=v/\h'=h) σ'.hp:=Jqd t ho hN hle hv hp hb ht
abbrev I8:={z:Int // -128<=z/\z<=127}
theorem I8.lo(z:I8) : -128<=z.1:=z.2.1
theorem I8.hi(z:I8):z.1<=127:=z.2.2
instance:Inhabited I8:=⟨⟨0,by decide⟩⟩
inductive Gd where
 | mk (op:I8) (n:Int) (name:ByteArray) (kids:List Gd)
structure Ed where
 op:I8
 set:List (Int × Int)
 n:Int
 level:Int
 g:Gd
 acts:List (Int × Int)
 to:Int
structure Sta where
 rule:Int
 edges:List Ed
structure Nr where
 name:ByteArray
 lexer:Bool
 frag:Bool
 lz:Bool
 left:Bool
 mode:Int
 type:Int
 start:Int
 stop:Int
structure Nt where
 types:List ByteArray
 channels:List ByteArray
 modes:List ByteArray
 rules:List Nr
 states:List Sta
structure It where
 type:Int
 index:Int
 column:Int
 made:Bool
 token:Int
structure Orc where
 id:Int
 index:Int
 says:Bool
instance:Inhabited Gd:=⟨.mk default 0 ⟨#[]⟩ []⟩
instance:Inhabited Ed:=⟨⟨default,[],0,0,default,[],0⟩⟩
instance:Inhabited Sta:=⟨⟨0,[]⟩⟩
instance:Inhabited Nr:=⟨⟨⟨#[]⟩,false,false,false,false,0,0,0,0⟩⟩
instance:Inhabited Nt:=⟨⟨[],[],[],[],[]⟩⟩
instance:Inhabited It:=⟨⟨0,0,0,false,0⟩⟩
instance:Inhabited Orc:=⟨⟨0,0,false⟩⟩
def Gd.op:Gd->I8 | .mk a _ _ _=>a
def Gd.n:Gd->Int | .mk _ a _ _=>a
def Gd.name:Gd->ByteArray | .mk _ _ a _=>a
def Gd.kids:Gd->List Gd | .mk _ _ _ a=>a
mutual
def JaZ:Gd->List AV
 | .mk op n name kids=>[.lit (.int .i8 op.1),.lit (.int .i64 n),.lit (.string name),.vec (encGs kids) false]
def encGs:List Gd->List (List AV)
 | []=>[]
 | g :: l=>JaZ g :: encGs l
end
theorem Jgp(l:List Gd):encGs l=l.map JaZ:=by induction l with | nil=>rfl | cons x l ih=>simp[encGs,ih]
theorem Jy(g:Gd):JaZ g=[.lit (.int .i8 g.op.1),.lit (.int .i64 g.n),.lit (.string g.name),.vec (g.kids.map JaZ) false]:=by cases g;simp only[JaZ,Jgp];rfl
def Jbi (p:Int × Int):List AV:=[.lit (.int .i32 p.1),.lit (.int .i32 p.2)]
def JA(p:Int × Int):List AV:=[.lit (.int .i8 p.1),.lit (.int .i64 p.2)]
def Jo (e:Ed):List AV:=[.lit (.int .i8 e.op.1),.vec (e.set.map Jbi) false,.lit (.int .i64 e.n),.lit (.int .i64 e.level),.lit (.int .i8 e.g.op.1),.lit (.int .i64 e.g.n),.lit (.string e.g.name),.vec (e.g.kids.map JaZ) false,.vec (e.acts.map JA) false,.lit (.int .i64 e.to)]
def Jd(s:Sta):List AV:=[.lit (.int .i64 s.rule),.vec (s.edges.map Jo) false]
def Jc(r:Nr):List AV:=[.lit (.string r.name),.lit (.bool r.lexer),.lit (.bool r.frag),.lit (.bool r.lz),.lit (.bool r.left),.lit (.int .i64 r.mode),.lit (.int .i64 r.type),.lit (.int .i64 r.start),.lit (.int .i64 r.stop)]
def JaG (b:ByteArray):List AV:=[.lit (.string b)]
def Jh (n:Nt):List AV:=[.vec (n.types.map JaG) false,.vec (n.channels.map JaG) false,.vec (n.modes.map JaG) false,.vec (n.rules.map Jc) false,.vec (n.states.map Jd) false]
def JzR (i:It):List AV:=[.lit (.int .i64 i.type),.lit (.int .i64 i.index),.lit (.int .i64 i.column),.lit (.bool i.made),.lit (.int .i64 i.token)]
def Jb9 (o:Orc):List AV:=[.lit (.int .i64 o.id),.lit (.int .i64 o.index),.lit (.bool o.says)]
def Jhd (n:Int):List AV:=[.lit (.int .i64 n)]
theorem Jeq(g:Gd):(JaZ g).length=4:=by cases g;rfl
theorem Jgq(e:Ed):(Jo e).length=10:=rfl
theorem Jfu(s:Sta):(Jd s).length=2:=rfl
theorem Jfv(r:Nr):(Jc r).length=9:=rfl
theorem J6(n:Nt):(Jh n).length=5:=rfl
theorem Jgr(i:It):(JzR i).length=5:=rfl
theorem Jer(o:Orc):(Jb9 o).length=3:=rfl
theorem Jes(o:Int × Int):(Jbi o).length=2:=rfl
theorem Jbw(o:Int × Int):(JA o).length=2:=rfl
theorem Jgs(o:ByteArray):(JaG o).length=1:=rfl
theorem Jgt(o:Int):(Jhd o).length=1:=rfl
theorem JjH(g:Gd):(JaZ g).take 4=JaZ g:=by cases g;rfl
theorem JjI(e:Ed):(Jo e).take 10=Jo e:=rfl
theorem Jhr(s:Sta):(Jd s).take 2=Jd s:=rfl
theorem Jhs(r:Nr):(Jc r).take 9=Jc r:=rfl
theorem Jay(n:Nt):(Jh n).take 5=Jh n:=rfl
theorem JjK(i:It):(JzR i).take 5=JzR i:=rfl
theorem JjL(o:Orc):(Jb9 o).take 3=Jb9 o:=rfl
theorem JjM(o:Int × Int):(Jbi o).take 2=Jbi o:=rfl
theorem Jgu(o:Int × Int):(JA o).take 2=JA o:=rfl
theorem Jbj{σ σ':St}{N:Nat}(hN:N<=σ'.hp.nx)(hnx:σ'.hp.nx<=σ.hp.nx)(hnt:σ'.nt=σ.nt)(hs:∀ p∈σ'.slots,lk σ.slots p.1=some p.2/\Rn id σ'.hp.nx p.2 p.2)
  (hb:∀ p∈σ'.hp.boxes,p.1<σ'.hp.nx/\lk σ.hp.boxes p.1=some p.2/\RnL id σ'.hp.nx p.2 p.2)
  (ht:∀ p∈σ'.hp.toks,p.1<σ'.hp.nx/\lk σ.hp.toks p.1=some p.2/\RnR id σ'.hp.nx p.2.xs p.2.xs):St.cp N σ σ':=(St.cp_drop hnx hnt hs hb ht).mono hN
theorem Jd6{T:Type}(f:T->List AV){l:List T}{i:Nat}{x:T}(h:l[i]? = some x):(l.map f).getD i []=f x:=by simp[List.getD_eq_getElem?_getD,h]
theorem JBT{T:Type}[Inhabited T]{f:T->List AV}{l:List T}{i:Nat}(h:i<l.length):(l.map f).getD i []=f (l.getD i default):=by simp[List.getD_eq_getElem?_getD,List.getElem?_eq_getElem h]
theorem Jr7{T:Type}[Inhabited T]{f:T->List AV}{l:List T}{i:Nat}(h:i<l.length):(l.map f)[i]? = some (f (l.getD i default)):=by simp[List.getD_eq_getElem?_getD,List.getElem?_eq_getElem h]
theorem Jgv{a b:Int}(h:a=b):(a==b)=true:=by rw[h];exact beq_self_eq_true b
theorem JjN{a b:Int}(h:¬ a=b):(a==b)=false:=by rw[beq_eq_false_iff_ne];exact h
theorem Ju{T:Type}[Inhabited T]{l:List T}{i:Nat}(h:i<l.length):l.getD i default∈l:=by rw[List.getD_eq_getElem?_getD,List.getElem?_eq_getElem h];exact List.getElem_mem h
theorem JfS{T:Type}[Inhabited T]{l:List T}{i:Nat}(h:i<l.length):l[i]? = some (l.getD i default):=by rw[List.getD_eq_getElem?_getD,List.getElem?_eq_getElem h];rfl
theorem Jau{l:List AV}(h:∀ a∈l,∃ v,a = .lit v):∀ a∈l,Ab.Pure a:=fun a ha=>by obtain⟨v,rfl⟩:=h a ha;exact .lit v
theorem Ji{T:Type}{f:T->List AV}(h:∀ t,∀ c∈f t,Ab.Pure c)(l:List T):∀ x∈l.map f,∀ c∈x,Ab.Pure c:=fun x hx=>by
 obtain⟨t,_,rfl⟩:=List.mem_map.1 hx;exact h t
theorem JQ(g:Gd):∀ c∈JaZ g,Ab.Pure c:=by
 match g with
 | .mk op n name kids =>
  intro c hc;simp only[JaZ,List.mem_cons,List.not_mem_nil,or_false] at hc;rcases hc with rfl | rfl | rfl | rfl
  iterate 3 exact .lit _
  refine .vec fun x hx=>?_
  rw[Jgp] at hx;obtain⟨k,hk,rfl⟩:=List.mem_map.1 hx;exact JQ k
termination_by SizeOf.sizeOf g
decreasing_by simp_wf;have:=List.sizeOf_lt_of_mem hk;omega
theorem Jcl(p:Int × Int):∀ c∈Jbi p,Ab.Pure c:=Jau (by simp[Jbi])
theorem J7(p:Int × Int):∀ c∈JA p,Ab.Pure c:=Jau (by simp[JA])
theorem Jbx(p:Orc):∀ c∈Jb9 p,Ab.Pure c:=Jau (by simp[Jb9])
theorem Jbp(p:Nr):∀ c∈Jc p,Ab.Pure c:=Jau (by simp[Jc])
theorem Jao(p:ByteArray):∀ c∈JaG p,Ab.Pure c:=Jau (by simp[JaG])
theorem JeO(p:Int):∀ c∈Jhd p,Ab.Pure c:=Jau (by simp[Jhd])
theorem JbT(e:Ed):∀ c∈Jo e,Ab.Pure c :=
 Jb (.lit _) (Jb (.vec (Ji Jcl _)) (Jb (.lit _) (Jb (.lit _) (Jb (.lit _) (Jb (.lit _) (Jb (.lit _) (Jb (.vec (Ji JQ _)) (Jb (.vec (Ji J7 _)) (Jb (.lit _) Jl)))))))))
theorem Jc2(s:Sta):∀ c∈Jd s,Ab.Pure c:=Jb (.lit _) (Jb (.vec (Ji JbT _)) Jl)
theorem Jab(n:Nt):∀ c∈Jh n,Ab.Pure c :=
 Jb (.vec (Ji Jao _)) (Jb (.vec (Ji Jao _)) (Jb (.vec (Ji Jao _)) (Jb (.vec (Ji Jbp _)) (Jb (.vec (Ji Jc2 _)) Jl))))
def grA (t:Nat):List (List AV)->AV
 | []=>.vec [] true
 | _ :: l=>.own t (l.length+1)
def grT (t s:Nat):List (List AV)->List (Nat × Tk)
 | []=>[]
 | x :: l=>[(t,⟨x :: l,0,s⟩)]
def grN (t:Nat):List (List AV)->Nat
 | []=>t
 | _ :: _=>t+1
theorem JN{n b:Nat}(h:n<=2000000000)(k:n * b<=140737488355328):Ja7 n b:=⟨Nat.le_trans h (by decide),k⟩
theorem JC{α:Type}:∀ (l m:List (Nat × α)) (i:Nat),lk (l++m) i=(lk l i).or (lk m i)
 | [],m,i=>by simp[lk]
 | (j,x) :: l,m,i=>by
  simp only[List.cons_append,lk];split
  ·rfl
  ·exact JC l m i
theorem St.wk_slots1{σ:St}{sl:List (Nat × AV)}{bx:List (Nat × List AV)}{tk:List (Nat × Tk)}(hs:∀ p∈sl,lk σ.slots p.1=some p.2)(hb:∀ p∈bx,lk σ.hp.boxes p.1=some p.2)(ht:∀ t,lk σ.hp.toks t=lk tk t) :
  St.wk σ ⟨sl,⟨bx,tk,σ.hp.nx⟩,σ.nt⟩ :=
 fun g0 h0 w0 g w a r=>⟨g,⟨r.st.less rfl (fun i c e=>hb _ (JaD e)) (fun i c e=>(ht i).trans e),fun s v e=>r.slots s v (hs _ (JaD e)),r.nt,r.defers⟩⟩
mutual
def gsz:Gd->Nat
 | .mk _ _ _ kids=>1+gszs kids
def gszs:List Gd->Nat
 | []=>0
 | g :: l=>gsz g+gszs l
end
theorem Jqt(l:List Gd):gszs l=(l.map gsz).sum:=by induction l with | nil=>rfl | cons x l ih=>simp[gszs,ih]
theorem JlO(g:Gd):gsz g=1+(g.kids.map gsz).sum:=by cases g;simp only[gsz,Jqt];rfl
theorem JdR{l:List Nat}{x:Nat}(h:x∈l):x<=l.sum:=by
 induction l with
 | nil=>cases h
 | cons y l ih =>
  simp only[List.sum_cons];rcases List.mem_cons.1 h with rfl | h
  ·omega
  ·have:=ih h;omega
theorem Jet{T:Type}(f:T->Nat)(h:∀ t,1<=f t)(l:List T):l.length<=(l.map f).sum:=by
 induction l with
 | nil=>simp
 | cons x l ih=>have:=h x;simp only[List.length_cons,List.map_cons,List.sum_cons];omega
theorem JcI(g:Gd):1<=gsz g:=by rw[JlO];omega
theorem Jbm{g k:Gd}(h:k∈g.kids):gsz k<gsz g:=by rw[JlO g];have:=JdR (List.mem_map_of_mem (f:=gsz) h);omega
theorem Jby(g:Gd):g.kids.length<gsz g:=by rw[JlO g];have:=Jet gsz JcI g.kids;omega
theorem Jyz{z:Int}(h:(Lit.int .i8 z).wf=true) : -128<=z/\z<=127:=by
 simp only[Lit.wf,Bool.and_eq_true,decide_eq_true_eq] at h;have e1:IntKind.i8.min = -128:=by decide
 have e2:IntKind.i8.max=127:=by decide
 omega
section
variable {H:Type} {en:TypeId × Value->H} {W:World}
theorem Rd.slice'{n:Nat}{t e:TypeId}{ti te:TI}(h:Jt Pg t=some ti)(hk:ti.kd = .sl e)(he:Jt Pg e=some te)(hpos:0<te.size){T:Type}{f:T->List AV}{sz:T->Nat}
  (hE:∀ k,k<n->Rd en Pg W k e (fun av m=>∃ t:T,av=f t/\sz t<=m)) :
  Rd en Pg W n t (fun av m=>∃ l:List T,av=[.vec (l.map f) false]/\(l.map sz).sum+1<=m/\l.length+1<=m):=by
 cases n with
 | zero=>exact .zero
 | succ n =>
  refine(Rd.slice h hk he hpos (hE n (Nat.lt_succ_self n))).mono ?_;rintro av m ⟨l,rfl,h1,h2,_⟩;obtain⟨ts,h3,h4⟩:=JoL (f:=f) (sz:=sz) (fun a m h=>h) l (fun p hp=>(h1 p hp).1);have hl:l.length=ts.length:=by have:=congrArg List.length h3;simpa using this
  have h5:l.length<=(l.map (·.2)).sum:=by
   have:∀ l:List (List AV × Nat),(∀ p∈l,1<=p.2)->l.length<=(l.map (·.2)).sum:=by
    intro l;induction l with
    | nil=>intro _;simp
    | cons x l ih=>intro hh;have:=ih (fun p hp=>hh p (by simp[hp]));have:=hh x (by simp);simp only[List.length_cons,List.map_cons,List.sum_cons];omega
   exact this l (fun p hp=>(h1 p hp).2.1)
  exact⟨ts,by rw[h3],by omega,by omega⟩
theorem Rd.struct'{n:Nat}{t:TypeId}{ti:TI}(h:Jt Pg t=some ti){fs:List (Nat × TypeId)}(hk:ti.kd = .st fs){E:List AV->Nat->Prop}(hE:∀ k,k<n->Js7 en Pg W k ti.size fs 0 E) :
  Rd en Pg W n t (fun av m=>∃ q,E av q/\q+1=m):=by
 cases n with
 | zero=>exact .zero
 | succ n=>exact .struct h hk (hE n (Nat.lt_succ_self n))
theorem JyA(n:Nat):Rd en Pg W n 78 (fun av m=>∃ t:Int × Int,av=JA t/\1<=m):=by
 refine(Rd.struct' Jui rfl fun k hk=>.cons JrP (.int JrP rfl) (.cons ty3 (.int ty3 rfl) (.nil (by decide)))).mono ?_;rintro av m ⟨q,h,rfl⟩;obtain⟨_,_,_,_,rfl,⟨z1,_,rfl⟩,h,rfl⟩:=h;obtain⟨_,_,_,_,rfl,⟨z2,_,rfl⟩,rfl,rfl⟩:=h;exact⟨(z1,z2),rfl,by omega⟩
theorem JyB(n:Nat):Rd en Pg W n 201 (fun av m=>∃ t:Orc,av=Jb9 t/\1<=m):=by
 refine(Rd.struct' Jqq rfl fun k hk=>.cons ty2 (.int ty2 rfl) (.cons ty2 (.int ty2 rfl) (.cons ty4 (.bool ty4 rfl) (.nil (by decide))))).mono ?_;rintro av m ⟨q,h,rfl⟩;obtain⟨_,_,_,_,rfl,⟨z1,_,rfl⟩,h,rfl⟩:=h;obtain⟨_,_,_,_,rfl,⟨z2,_,rfl⟩,h,rfl⟩:=h;obtain⟨_,_,_,_,rfl,⟨b,rfl⟩,rfl,rfl⟩:=h;exact⟨⟨z1,z2,b⟩,rfl,by omega⟩
end
end Go.Proofs.Y
end
section
namespace Go.Proofs.Y
open Go Go.Ab
theorem Azz:(type_of% @if_pos.{1})/\(type_of% @if_neg.{1})/\(type_of% @decide_eq_true)/\(type_of% @decide_eq_false)/\(type_of% @JBT)/\(type_of% @Jr7)/\(type_of% @List.length_map.{0,0})/\(type_of% @Int.toNat_natCast)/\(type_of% @Int.toNat_zero)/\(type_of% @Int.toNat_one)/\(type_of% @Jdy)/\(type_of% @bne.eq_def.{0})/\(type_of% @Jgv)/\(type_of% @JjN)/\(type_of% @Jgq)/\(type_of% @Jfu)/\(type_of% @Jfv)/\(type_of% @J6)/\(type_of% @Jgr)/\(type_of% @Jer)/\(type_of% @Jes)/\(type_of% @Jbw)/\(type_of% @Jgs)/\(type_of% @Jgt)/\(type_of% @Jeq)/\(type_of% @JjH)/\(type_of% @JjI)/\(type_of% @Jhr)/\(type_of% @Jhs)/\(type_of% @Jay)/\(type_of% @JjK)/\(type_of% @JjL)/\(type_of% @JjM)/\(type_of% @Jgu):=⟨@if_pos.{1},@if_neg.{1},@decide_eq_true,@decide_eq_false,@JBT,@Jr7,@List.length_map.{0,0},@Int.toNat_natCast,@Int.toNat_zero,@Int.toNat_one,@Jdy,@bne.eq_def.{0},@Jgv,@JjN,@Jgq,@Jfu,@Jfv,@J6,@Jgr,@Jer,@Jes,@Jbw,@Jgs,@Jgt,@Jeq,@JjH,@JjI,@Jhr,@Jhs,@Jay,@JjK,@JjL,@JjM,@Jgu⟩
theorem Wz:(type_of% @Wa)/\(type_of% @tyW)/\(type_of% @Azz)/\(type_of% @decide_false)/\(type_of% @decide_true)/\(type_of% @Bool.not_false)/\(type_of% @Bool.not_true):=⟨Wa,tyW,Azz,@decide_false,@decide_true,Bool.not_false,Bool.not_true⟩
theorem Lx:(type_of% @List.append_eq.{0})/\(type_of% @List.cons_append.{0})/\(type_of% @List.nil_append.{0}):=⟨@List.append_eq.{0},@List.cons_append.{0},@List.nil_append.{0}⟩
theorem Bx:(type_of% @Bool.true_and)/\(type_of% @Bool.false_and)/\(type_of% @Bool.and_true)/\(type_of% @Bool.and_false):=⟨@Bool.true_and,@Bool.false_and,@Bool.and_true,@Bool.and_false⟩
theorem Bf:(type_of% @Bool.false_eq_true)/\(type_of% @if_true.{1})/\(type_of% @if_false.{1}):=⟨@Bool.false_eq_true,@if_true.{1},@if_false.{1}⟩
end Go.Proofs.Y
end
