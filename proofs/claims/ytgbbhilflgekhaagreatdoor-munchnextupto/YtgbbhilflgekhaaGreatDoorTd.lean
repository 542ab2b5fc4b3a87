/- Parts of the proof, laid together. -/
import Derived.Test.YtgbbhilflgekhaaGreatDoorTc
import Derived.Test.YtgbbhilflgekhaaGreatDoorProg
import Derived.KernelRfl
import Derived.Test.YtgbbhilflgekhaaGreatDoorRows
import Derived.ChangeReads
import Derived.WideShapes
set_option linter.unusedVariables false
set_option linter.unusedSimpArgs false
set_option maxRecDepth 20000
set_option maxHeartbeats 16000000
section
namespace Go.Proofs.Y
open Go.Ab
open Go.Proofs.Tryz renaming prog->Pg
theorem ty1:Js Pg 1=some {kd:=.oth,size:=1,bytes:=8,zero:=some [.lit .nilFunc]}:=by kernel_rfl
theorem fn1:Jai Pg 1=true:=by kernel_rfl
theorem ty2:Js Pg 2=some {kd:=.int .i64,size:=1,bytes:=8,zero:=some [.lit (.int .i64 0)]}:=by kernel_rfl
theorem ty3:Js Pg 3=some {kd:=.int .i64,size:=1,bytes:=8,zero:=some [.lit (.int .i64 0)]}:=by kernel_rfl
theorem ty4:Js Pg 4=some {kd:=.bool,size:=1,bytes:=1,zero:=some [.lit (.bool false)]}:=by kernel_rfl
theorem zr4:Jdz Pg 4=some (.lit (.bool false)):=by kernel_rfl
theorem ty5:Js Pg 5=some {kd:=.int .u8,size:=1,bytes:=1,zero:=some [.lit (.int .u8 0)]}:=by kernel_rfl
theorem ty6:Js Pg 6=some {kd:=.int .u8,size:=1,bytes:=1,zero:=some [.lit (.int .u8 0)]}:=by kernel_rfl
theorem ty7:Js Pg 7=some {kd:=.st [(0,2),(1,3),(2,4),(3,6)],size:=4,bytes:=24,zero:=some [.lit (.int .i64 0),.lit (.int .i64 0),.lit (.bool false),.lit (.int .u8 0)]}:=by kernel_rfl
theorem ty8:Js Pg 8=some {kd:=.st [(0,2),(1,3),(2,4),(3,6)],size:=4,bytes:=24,zero:=some [.lit (.int .i64 0),.lit (.int .i64 0),.lit (.bool false),.lit (.int .u8 0)]}:=by kernel_rfl
theorem ty9:Js Pg 9=some {kd:=.str,size:=1,bytes:=16,zero:=some [.lit (.string ⟨#[]⟩)]}:=by kernel_rfl
theorem JAa:Js Pg 10=some {kd:=.str,size:=1,bytes:=16,zero:=some [.lit (.string ⟨#[]⟩)]}:=by kernel_rfl
theorem JAb:Js Pg 11=some {kd:=.str,size:=1,bytes:=16,zero:=some [.lit (.string ⟨#[]⟩)]}:=by kernel_rfl
theorem JAc:Js Pg 12=some {kd:=.int .u64,size:=1,bytes:=8,zero:=some [.lit (.int .u64 0)]}:=by kernel_rfl
theorem JAd:Js Pg 13=some {kd:=.st [(0,9),(1,12)],size:=2,bytes:=24,zero:=some [.lit (.string ⟨#[]⟩),.lit (.int .u64 0)]}:=by kernel_rfl
theorem JAe:Js Pg 14=some {kd:=.st [(0,9),(1,12)],size:=2,bytes:=24,zero:=some [.lit (.string ⟨#[]⟩),.lit (.int .u64 0)]}:=by kernel_rfl
theorem JAf:Js Pg 15=some {kd:=.oth,size:=1,bytes:=8,zero:=some [.lit (.pointer none)]}:=by kernel_rfl
theorem JAg:Jeh Pg 15=true:=by kernel_rfl
theorem JAh:Js Pg 16=some {kd:=.oth,size:=1,bytes:=8,zero:=some [.lit (.pointer none)]}:=by kernel_rfl
theorem JAi:Jeh Pg 16=true:=by kernel_rfl
theorem JAj:Js Pg 17=some {kd:=.oth,size:=1,bytes:=8,zero:=some [.lit (.pointer none)]}:=by kernel_rfl
theorem JAk:Jeh Pg 17=true:=by kernel_rfl
theorem JAl:Js Pg 18=some {kd:=.st [(0,17)],size:=1,bytes:=8,zero:=some [.lit (.pointer none)]}:=by kernel_rfl
theorem JAm:Js Pg 19=some {kd:=.st [(0,17)],size:=1,bytes:=8,zero:=some [.lit (.pointer none)]}:=by kernel_rfl
theorem JtL:Js Pg 21=some {kd:=.int .i32,size:=1,bytes:=4,zero:=some [.lit (.int .i32 0)]}:=by kernel_rfl
theorem JtM:Js Pg 22=some {kd:=.sl 9,size:=1,bytes:=24,zero:=some [.vec [] true]}:=by kernel_rfl
theorem Jzj:Js Pg 23=some {kd:=.sl 39,size:=1,bytes:=24,zero:=some [.vec [] true]}:=by kernel_rfl
theorem Jzk:Js Pg 24=some {kd:=.sl 87,size:=1,bytes:=24,zero:=some [.vec [] true]}:=by kernel_rfl
theorem JAn:Js Pg 25=some {kd:=.st [(0,22),(1,22),(2,22),(3,23),(4,24)],size:=5,bytes:=120,zero:=some [.vec [] true,.vec [] true,.vec [] true,.vec [] true,.vec [] true]}:=by kernel_rfl
theorem JzF:Js Pg 26=some {kd:=.st [(0,22),(1,22),(2,22),(3,23),(4,24)],size:=5,bytes:=120,zero:=some [.vec [] true,.vec [] true,.vec [] true,.vec [] true,.vec [] true]}:=by kernel_rfl
theorem Jsv:Js Pg 27=some {kd:=.sl 5,size:=1,bytes:=24,zero:=some [.vec [] true]}:=by kernel_rfl
theorem JzG:Js Pg 28=some {kd:=.sl 201,size:=1,bytes:=24,zero:=some [.vec [] true]}:=by kernel_rfl
theorem JAo:Js Pg 29=some {kd:=.oth,size:=1,bytes:=8,zero:=some [.lit .nilFunc]}:=by kernel_rfl
theorem JAp:Jai Pg 29=true:=by kernel_rfl
theorem JAq:Js Pg 30=some {kd:=.oth,size:=1,bytes:=8,zero:=some [.lit .nilFunc]}:=by kernel_rfl
theorem JAr:Jai Pg 30=true:=by kernel_rfl
theorem JtN:Js Pg 31=some {kd:=.sl 78,size:=1,bytes:=24,zero:=some [.vec [] true]}:=by kernel_rfl
theorem JAs:Js Pg 32=some {kd:=.int .i64,size:=1,bytes:=8,zero:=some [.lit (.int .i64 0)]}:=by kernel_rfl
theorem JAt:Js Pg 34=some {kd:=.oth,size:=1,bytes:=8,zero:=some [.lit .nilFunc]}:=by kernel_rfl
theorem JAu:Jai Pg 34=true:=by kernel_rfl
theorem JAv:Js Pg 35=some {kd:=.oth,size:=1,bytes:=8,zero:=some [.lit .nilFunc]}:=by kernel_rfl
theorem JAw:Jai Pg 35=true:=by kernel_rfl
theorem JAx:Js Pg 36=some {kd:=.oth,size:=1,bytes:=8,zero:=some [.lit .nilFunc]}:=by kernel_rfl
theorem JAy:Jai Pg 36=true:=by kernel_rfl
theorem JAz:Js Pg 37=some {kd:=.oth,size:=1,bytes:=8,zero:=some [.lit .nilFunc]}:=by kernel_rfl
theorem JAA:Jai Pg 37=true:=by kernel_rfl
theorem JAB:Js Pg 38=some {kd:=.st [(0,9),(1,4),(2,4),(3,4),(4,4),(5,3),(6,3),(7,3),(8,3)],size:=9,bytes:=56,zero:=some [.lit (.string ⟨#[]⟩),.lit (.bool false),.lit (.bool false),.lit (.bool false),.lit (.bool false),.lit (.int .i64 0),.lit (.int .i64 0),.lit (.int .i64 0),.lit (.int .i64 0)]}:=by kernel_rfl
theorem Jzl:Js Pg 39=some {kd:=.st [(0,9),(1,4),(2,4),(3,4),(4,4),(5,3),(6,3),(7,3),(8,3)],size:=9,bytes:=56,zero:=some [.lit (.string ⟨#[]⟩),.lit (.bool false),.lit (.bool false),.lit (.bool false),.lit (.bool false),.lit (.int .i64 0),.lit (.int .i64 0),.lit (.int .i64 0),.lit (.int .i64 0)]}:=by kernel_rfl
theorem JrD:Ja2 Pg 39=true:=by kernel_rfl
theorem JrE:JbB Pg 39 [(0,9),(1,4),(2,4),(3,4),(4,4),(5,3),(6,3),(7,3),(8,3)]=true:=by kernel_rfl
theorem JAC:Js Pg 40=some {kd:=.oth,size:=1,bytes:=8,zero:=some [.lit .nilFunc]}:=by kernel_rfl
theorem JAD:Jai Pg 40=true:=by kernel_rfl
theorem JrF:Js Pg 41=some {kd:=.sl 3,size:=1,bytes:=24,zero:=some [.vec [] true]}:=by kernel_rfl
theorem JAE:Js Pg 43=some {kd:=.oth,size:=1,bytes:=8,zero:=some [.lit .nilFunc]}:=by kernel_rfl
theorem JAF:Jai Pg 43=true:=by kernel_rfl
theorem JAG:Js Pg 44=some {kd:=.sl 49,size:=1,bytes:=24,zero:=some [.vec [] true]}:=by kernel_rfl
theorem JAH:Js Pg 45=some {kd:=.oth,size:=1,bytes:=8,zero:=some [.lit .nilFunc]}:=by kernel_rfl
theorem JAI:Jai Pg 45=true:=by kernel_rfl
theorem JAK:Js Pg 47=some {kd:=.oth,size:=1,bytes:=8,zero:=some [.lit .nilFunc]}:=by kernel_rfl
theorem JAL:Jai Pg 47=true:=by kernel_rfl
theorem JAM:Js Pg 48=some {kd:=.st [(0,3),(1,3)],size:=2,bytes:=16,zero:=some [.lit (.int .i64 0),.lit (.int .i64 0)]}:=by kernel_rfl
theorem JAN:Js Pg 49=some {kd:=.st [(0,3),(1,3)],size:=2,bytes:=16,zero:=some [.lit (.int .i64 0),.lit (.int .i64 0)]}:=by kernel_rfl
theorem JrG:Ja2 Pg 49=true:=by kernel_rfl
theorem JrH:JbB Pg 49 [(0,3),(1,3)]=true:=by kernel_rfl
theorem JAO:Js Pg 50=some {kd:=.oth,size:=1,bytes:=8,zero:=some [.lit .nilFunc]}:=by kernel_rfl
theorem JAP:Jai Pg 50=true:=by kernel_rfl
theorem JAQ:Js Pg 51=some {kd:=.sl 57,size:=1,bytes:=24,zero:=some [.vec [] true]}:=by kernel_rfl
theorem JAR:Js Pg 52=some {kd:=.oth,size:=1,bytes:=8,zero:=some [.lit .nilFunc]}:=by kernel_rfl
theorem JAS:Jai Pg 52=true:=by kernel_rfl
theorem JAT:Js Pg 53=some {kd:=.oth,size:=1,bytes:=8,zero:=some [.lit .nilFunc]}:=by kernel_rfl
theorem JAU:Jai Pg 53=true:=by kernel_rfl
theorem JAV:Js Pg 54=some {kd:=.oth,size:=1,bytes:=8,zero:=some [.lit .nilFunc]}:=by kernel_rfl
theorem JAW:Jai Pg 54=true:=by kernel_rfl
theorem JAX:Js Pg 55=some {kd:=.oth,size:=1,bytes:=8,zero:=some [.lit .nilFunc]}:=by kernel_rfl
theorem JAY:Jai Pg 55=true:=by kernel_rfl
theorem JAZ:Js Pg 56=some {kd:=.st [(0,3),(1,3),(2,31)],size:=3,bytes:=40,zero:=some [.lit (.int .i64 0),.lit (.int .i64 0),.vec [] true]}:=by kernel_rfl
theorem JA0:Js Pg 57=some {kd:=.st [(0,3),(1,3),(2,31)],size:=3,bytes:=40,zero:=some [.lit (.int .i64 0),.lit (.int .i64 0),.vec [] true]}:=by kernel_rfl
theorem JA1:Js Pg 58=some {kd:=.oth,size:=1,bytes:=8,zero:=some [.lit .nilFunc]}:=by kernel_rfl
theorem JA2:Jai Pg 58=true:=by kernel_rfl
theorem JA3:Js Pg 59=some {kd:=.oth,size:=1,bytes:=8,zero:=some [.lit .nilFunc]}:=by kernel_rfl
theorem JA4:Jai Pg 59=true:=by kernel_rfl
theorem JA5:Js Pg 60=some {kd:=.oth,size:=1,bytes:=8,zero:=some [.lit .nilFunc]}:=by kernel_rfl
theorem JA6:Jai Pg 60=true:=by kernel_rfl
theorem JA7:Js Pg 61=some {kd:=.oth,size:=1,bytes:=8,zero:=some [.lit (.pointer none)]}:=by kernel_rfl
theorem JA8:Jeh Pg 61=true:=by kernel_rfl
theorem JA9:Js Pg 63=some {kd:=.oth,size:=1,bytes:=8,zero:=some [.lit .nilFunc]}:=by kernel_rfl
theorem JBa:Jai Pg 63=true:=by kernel_rfl
theorem JBb:Js Pg 64=some {kd:=.oth,size:=1,bytes:=8,zero:=some [.lit .nilFunc]}:=by kernel_rfl
theorem JBc:Jai Pg 64=true:=by kernel_rfl
theorem JBd:Js Pg 65=some {kd:=.oth,size:=1,bytes:=8,zero:=some [.lit .nilFunc]}:=by kernel_rfl
theorem JBe:Jai Pg 65=true:=by kernel_rfl
theorem JBf:Js Pg 66=some {kd:=.oth,size:=1,bytes:=8,zero:=some [.lit .nilFunc]}:=by kernel_rfl
theorem JBg:Jai Pg 66=true:=by kernel_rfl
theorem JBh:Js Pg 67=some {kd:=.st [(0,3),(1,31)],size:=2,bytes:=32,zero:=some [.lit (.int .i64 0),.vec [] true]}:=by kernel_rfl
theorem JBi:Js Pg 68=some {kd:=.st [(0,3),(1,31)],size:=2,bytes:=32,zero:=some [.lit (.int .i64 0),.vec [] true]}:=by kernel_rfl
theorem JBj:Js Pg 69=some {kd:=.st [(0,21),(1,3),(2,3)],size:=3,bytes:=24,zero:=some [.lit (.int .i32 0),.lit (.int .i64 0),.lit (.int .i64 0)]}:=by kernel_rfl
theorem JzH:Js Pg 70=some {kd:=.st [(0,21),(1,3),(2,3)],size:=3,bytes:=24,zero:=some [.lit (.int .i32 0),.lit (.int .i64 0),.lit (.int .i64 0)]}:=by kernel_rfl
theorem JrI:Ja2 Pg 70=true:=by kernel_rfl
theorem JrK:JbB Pg 70 [(0,21),(1,3),(2,3)]=true:=by kernel_rfl
theorem JBk:Js Pg 71=some {kd:=.sl 70,size:=1,bytes:=24,zero:=some [.vec [] true]}:=by kernel_rfl
theorem JBl:Js Pg 72=some {kd:=.map 132 97,size:=1,bytes:=8,zero:=some [.lit (.map none)]}:=by kernel_rfl
theorem JBm:Js Pg 73=some {kd:=.st [(0,26),(5,71),(6,28),(7,3),(8,72)],size:=9,bytes:=184,zero:=some [.vec [] true,.vec [] true,.vec [] true,.vec [] true,.vec [] true,.vec [] true,.vec [] true,.lit (.int .i64 0),.lit (.map none)]}:=by kernel_rfl
theorem JBn:Js Pg 74=some {kd:=.st [(0,26),(5,71),(6,28),(7,3),(8,72)],size:=9,bytes:=184,zero:=some [.vec [] true,.vec [] true,.vec [] true,.vec [] true,.vec [] true,.vec [] true,.vec [] true,.lit (.int .i64 0),.lit (.map none)]}:=by kernel_rfl
theorem JBo:Js Pg 75=some {kd:=.oth,size:=1,bytes:=8,zero:=some [.lit .nilFunc]}:=by kernel_rfl
theorem JBp:Jai Pg 75=true:=by kernel_rfl
theorem JrL:Js Pg 76=some {kd:=.int .i8,size:=1,bytes:=1,zero:=some [.lit (.int .i8 0)]}:=by kernel_rfl
theorem JBq:Js Pg 77=some {kd:=.st [(0,76),(1,3)],size:=2,bytes:=16,zero:=some [.lit (.int .i8 0),.lit (.int .i64 0)]}:=by kernel_rfl
theorem Jt9:Js Pg 78=some {kd:=.st [(0,76),(1,3)],size:=2,bytes:=16,zero:=some [.lit (.int .i8 0),.lit (.int .i64 0)]}:=by kernel_rfl
theorem JrM:Ja2 Pg 78=true:=by kernel_rfl
theorem JrN:JbB Pg 78 [(0,76),(1,3)]=true:=by kernel_rfl
theorem JBr:Js Pg 79=some {kd:=.oth,size:=1,bytes:=8,zero:=some [.lit (.pointer none)]}:=by kernel_rfl
theorem JBs:Jeh Pg 79=true:=by kernel_rfl
theorem JBt:Js Pg 81=some {kd:=.oth,size:=1,bytes:=8,zero:=some [.lit .nilFunc]}:=by kernel_rfl
theorem JBu:Jai Pg 81=true:=by kernel_rfl
theorem JBv:Js Pg 82=some {kd:=.oth,size:=1,bytes:=8,zero:=some [.lit .nilFunc]}:=by kernel_rfl
theorem JBw:Jai Pg 82=true:=by kernel_rfl
theorem JBx:Js Pg 83=some {kd:=.sl 4,size:=1,bytes:=24,zero:=some [.vec [] true]}:=by kernel_rfl
theorem JBy:Js Pg 84=some {kd:=.oth,size:=1,bytes:=8,zero:=some [.lit .nilFunc]}:=by kernel_rfl
theorem JBz:Jai Pg 84=true:=by kernel_rfl
theorem Jzm:Js Pg 85=some {kd:=.sl 96,size:=1,bytes:=24,zero:=some [.vec [] true]}:=by kernel_rfl
theorem JBA:Js Pg 86=some {kd:=.st [(0,3),(1,85)],size:=2,bytes:=32,zero:=some [.lit (.int .i64 0),.vec [] true]}:=by kernel_rfl
theorem Jzn:Js Pg 87=some {kd:=.st [(0,3),(1,85)],size:=2,bytes:=32,zero:=some [.lit (.int .i64 0),.vec [] true]}:=by kernel_rfl
theorem JBB:Js Pg 88=some {kd:=.oth,size:=1,bytes:=8,zero:=some [.lit .nilFunc]}:=by kernel_rfl
theorem JBC:Jai Pg 88=true:=by kernel_rfl
theorem JBD:Js Pg 89=some {kd:=.oth,size:=1,bytes:=8,zero:=some [.lit .nilFunc]}:=by kernel_rfl
theorem JBE:Jai Pg 89=true:=by kernel_rfl
theorem JBF:Js Pg 90=some {kd:=.sl 150,size:=1,bytes:=24,zero:=some [.vec [] true]}:=by kernel_rfl
theorem Jzo:Js Pg 91=some {kd:=.sl 150,size:=1,bytes:=24,zero:=some [.vec [] true]}:=by kernel_rfl
theorem Jzp:Js Pg 92=some {kd:=.sl 94,size:=1,bytes:=24,zero:=some [.vec [] true]}:=by kernel_rfl
theorem JBG:Js Pg 93=some {kd:=.st [(0,76),(1,2),(2,9),(3,92)],size:=4,bytes:=56,zero:=some [.lit (.int .i8 0),.lit (.int .i64 0),.lit (.string ⟨#[]⟩),.vec [] true]}:=by kernel_rfl
theorem Jua:Js Pg 94=some {kd:=.st [(0,76),(1,2),(2,9),(3,92)],size:=4,bytes:=56,zero:=some [.lit (.int .i8 0),.lit (.int .i64 0),.lit (.string ⟨#[]⟩),.vec [] true]}:=by kernel_rfl
theorem JBH:Js Pg 95=some {kd:=.st [(0,76),(1,91),(2,3),(3,3),(4,94),(8,31),(9,3)],size:=10,bytes:=136,zero:=some [.lit (.int .i8 0),.vec [] true,.lit (.int .i64 0),.lit (.int .i64 0),.lit (.int .i8 0),.lit (.int .i64 0),.lit (.string ⟨#[]⟩),.vec [] true,.vec [] true,.lit (.int .i64 0)]}:=by kernel_rfl
theorem Jzq:Js Pg 96=some {kd:=.st [(0,76),(1,91),(2,3),(3,3),(4,94),(8,31),(9,3)],size:=10,bytes:=136,zero:=some [.lit (.int .i8 0),.vec [] true,.lit (.int .i64 0),.lit (.int .i64 0),.lit (.int .i8 0),.lit (.int .i64 0),.lit (.string ⟨#[]⟩),.vec [] true,.vec [] true,.lit (.int .i64 0)]}:=by kernel_rfl
theorem JBI:Js Pg 97=some {kd:=.sl 68,size:=1,bytes:=24,zero:=some [.vec [] true]}:=by kernel_rfl
theorem JzI:Jdz Pg 97=some (.vec [] true):=by kernel_rfl
theorem JBK:Js Pg 98=some {kd:=.oth,size:=1,bytes:=8,zero:=some [.lit .nilFunc]}:=by kernel_rfl
theorem JBL:Jai Pg 98=true:=by kernel_rfl
theorem JBM:Js Pg 99=some {kd:=.oth,size:=1,bytes:=8,zero:=some [.lit .nilFunc]}:=by kernel_rfl
theorem JBN:Jai Pg 99=true:=by kernel_rfl
theorem Jub:Js Pg 100=some {kd:=.oth,size:=1,bytes:=8,zero:=some [.lit .nilFunc]}:=by kernel_rfl
theorem Juc:Jai Pg 100=true:=by kernel_rfl
theorem Jud:Js Pg 102=some {kd:=.oth,size:=1,bytes:=8,zero:=some [.lit .nilFunc]}:=by kernel_rfl
theorem Jue:Jai Pg 102=true:=by kernel_rfl
theorem Juf:Js Pg 103=some {kd:=.int .u64,size:=1,bytes:=8,zero:=some [.lit (.int .u64 0)]}:=by kernel_rfl
theorem Jug:Js Pg 104=some {kd:=.sl 113,size:=1,bytes:=24,zero:=some [.vec [] true]}:=by kernel_rfl
theorem Juh:Js Pg 105=some {kd:=.oth,size:=1,bytes:=8,zero:=some [.lit .nilFunc]}:=by kernel_rfl
theorem Jui:Jai Pg 105=true:=by kernel_rfl
theorem Juj:Js Pg 106=some {kd:=.sl 21,size:=1,bytes:=24,zero:=some [.vec [] true]}:=by kernel_rfl
theorem Juk:Js Pg 107=some {kd:=.st [(0,27),(1,41),(2,106),(3,41)],size:=4,bytes:=96,zero:=some [.vec [] true,.vec [] true,.vec [] true,.vec [] true]}:=by kernel_rfl
theorem Jul:Js Pg 108=some {kd:=.st [(0,27),(1,41),(2,106),(3,41)],size:=4,bytes:=96,zero:=some [.vec [] true,.vec [] true,.vec [] true,.vec [] true]}:=by kernel_rfl
theorem Jum:Js Pg 109=some {kd:=.sl 104,size:=1,bytes:=24,zero:=some [.vec [] true]}:=by kernel_rfl
theorem Jun:Js Pg 110=some {kd:=.st [(0,26),(5,108),(9,28),(10,3),(11,41),(12,41),(13,109)],size:=14,bytes:=320,zero:=some [.vec [] true,.vec [] true,.vec [] true,.vec [] true,.vec [] true,.vec [] true,.vec [] true,.vec [] true,.vec [] true,.vec [] true,.lit (.int .i64 0),.vec [] true,.vec [] true,.vec [] true]}:=by kernel_rfl
theorem Juo:Js Pg 111=some {kd:=.st [(0,26),(5,108),(9,28),(10,3),(11,41),(12,41),(13,109)],size:=14,bytes:=320,zero:=some [.vec [] true,.vec [] true,.vec [] true,.vec [] true,.vec [] true,.vec [] true,.vec [] true,.vec [] true,.vec [] true,.vec [] true,.lit (.int .i64 0),.vec [] true,.vec [] true,.vec [] true]}:=by kernel_rfl
theorem Jup:Js Pg 112=some {kd:=.st [(0,3),(1,31)],size:=2,bytes:=32,zero:=some [.lit (.int .i64 0),.vec [] true]}:=by kernel_rfl
theorem Juq:Js Pg 113=some {kd:=.st [(0,3),(1,31)],size:=2,bytes:=32,zero:=some [.lit (.int .i64 0),.vec [] true]}:=by kernel_rfl
theorem Jur:Js Pg 114=some {kd:=.oth,size:=1,bytes:=8,zero:=some [.lit .nilFunc]}:=by kernel_rfl
theorem Jus:Jai Pg 114=true:=by kernel_rfl
theorem Jut:Js Pg 115=some {kd:=.oth,size:=1,bytes:=8,zero:=some [.lit .nilFunc]}:=by kernel_rfl
theorem Juu:Jai Pg 115=true:=by kernel_rfl
theorem Juv:Js Pg 116=some {kd:=.oth,size:=1,bytes:=8,zero:=some [.lit .nilFunc]}:=by kernel_rfl
theorem Juw:Jai Pg 116=true:=by kernel_rfl
theorem Jux:Js Pg 118=some {kd:=.oth,size:=1,bytes:=8,zero:=some [.lit .nilFunc]}:=by kernel_rfl
theorem Juy:Jai Pg 118=true:=by kernel_rfl
theorem Juz:Js Pg 119=some {kd:=.oth,size:=1,bytes:=8,zero:=some [.lit .nilFunc]}:=by kernel_rfl
theorem JuA:Jai Pg 119=true:=by kernel_rfl
theorem JuB:Js Pg 120=some {kd:=.oth,size:=1,bytes:=8,zero:=some [.lit .nilFunc]}:=by kernel_rfl
theorem JuC:Jai Pg 120=true:=by kernel_rfl
theorem JuD:Js Pg 122=some {kd:=.oth,size:=1,bytes:=8,zero:=some [.lit .nilFunc]}:=by kernel_rfl
theorem JuE:Jai Pg 122=true:=by kernel_rfl
theorem JuF:Js Pg 123=some {kd:=.oth,size:=1,bytes:=8,zero:=some [.lit .nilFunc]}:=by kernel_rfl
theorem JuG:Jai Pg 123=true:=by kernel_rfl
theorem JuH:Js Pg 124=some {kd:=.oth,size:=1,bytes:=8,zero:=some [.lit .nilFunc]}:=by kernel_rfl
theorem JuI:Jai Pg 124=true:=by kernel_rfl
theorem JuK:Js Pg 126=some {kd:=.oth,size:=1,bytes:=8,zero:=some [.lit .nilFunc]}:=by kernel_rfl
theorem JuL:Jai Pg 126=true:=by kernel_rfl
theorem JuM:Js Pg 127=some {kd:=.oth,size:=1,bytes:=8,zero:=some [.lit .nilFunc]}:=by kernel_rfl
theorem JuN:Jai Pg 127=true:=by kernel_rfl
theorem JuO:Js Pg 128=some {kd:=.oth,size:=1,bytes:=8,zero:=some [.lit .nilFunc]}:=by kernel_rfl
theorem JuP:Jai Pg 128=true:=by kernel_rfl
theorem JuQ:Js Pg 129=some {kd:=.oth,size:=1,bytes:=8,zero:=some [.lit .nilFunc]}:=by kernel_rfl
theorem JuR:Jai Pg 129=true:=by kernel_rfl
theorem JuS:Js Pg 131=some {kd:=.st [(0,3),(1,3)],size:=2,bytes:=16,zero:=some [.lit (.int .i64 0),.lit (.int .i64 0)]}:=by kernel_rfl
theorem Jsw:Js Pg 132=some {kd:=.st [(0,3),(1,3)],size:=2,bytes:=16,zero:=some [.lit (.int .i64 0),.lit (.int .i64 0)]}:=by kernel_rfl
theorem JkG:Ja2 Pg 132=true:=by kernel_rfl
theorem Jn8:JbB Pg 132 [(0,3),(1,3)]=true:=by kernel_rfl
theorem JuT:Js Pg 133=some {kd:=.sl 161,size:=1,bytes:=24,zero:=some [.vec [] true]}:=by kernel_rfl
theorem JuU:Js Pg 134=some {kd:=.sl 161,size:=1,bytes:=24,zero:=some [.vec [] true]}:=by kernel_rfl
theorem JuV:Js Pg 135=some {kd:=.st [(0,132),(2,31)],size:=3,bytes:=40,zero:=some [.lit (.int .i64 0),.lit (.int .i64 0),.vec [] true]}:=by kernel_rfl
theorem Jn9:Js Pg 136=some {kd:=.st [(0,132),(2,31)],size:=3,bytes:=40,zero:=some [.lit (.int .i64 0),.lit (.int .i64 0),.vec [] true]}:=by kernel_rfl
theorem Joa:Js Pg 137=some {kd:=.sl 136,size:=1,bytes:=24,zero:=some [.vec [] true]}:=by kernel_rfl
theorem JuW:Js Pg 138=some {kd:=.oth,size:=1,bytes:=8,zero:=some [.lit .nilFunc]}:=by kernel_rfl
theorem JuX:Jai Pg 138=true:=by kernel_rfl
theorem JuY:Js Pg 139=some {kd:=.oth,size:=1,bytes:=8,zero:=some [.lit .nilFunc]}:=by kernel_rfl
theorem JuZ:Jai Pg 139=true:=by kernel_rfl
theorem Ju0:Js Pg 140=some {kd:=.oth,size:=1,bytes:=8,zero:=some [.lit .nilFunc]}:=by kernel_rfl
theorem Ju1:Jai Pg 140=true:=by kernel_rfl
theorem Ju2:Js Pg 141=some {kd:=.oth,size:=1,bytes:=8,zero:=some [.lit .nilFunc]}:=by kernel_rfl
theorem Ju3:Jai Pg 141=true:=by kernel_rfl
theorem Ju4:Js Pg 142=some {kd:=.oth,size:=1,bytes:=8,zero:=some [.lit .nilFunc]}:=by kernel_rfl
theorem Ju5:Jai Pg 142=true:=by kernel_rfl
theorem Ju6:Js Pg 143=some {kd:=.oth,size:=1,bytes:=8,zero:=some [.lit .nilFunc]}:=by kernel_rfl
theorem Ju7:Jai Pg 143=true:=by kernel_rfl
theorem Ju8:Js Pg 144=some {kd:=.oth,size:=1,bytes:=8,zero:=some [.lit .nilFunc]}:=by kernel_rfl
theorem Ju9:Jai Pg 144=true:=by kernel_rfl
theorem Jva:Js Pg 145=some {kd:=.oth,size:=1,bytes:=8,zero:=some [.lit (.pointer none)]}:=by kernel_rfl
theorem Jvb:Jeh Pg 145=true:=by kernel_rfl
theorem Jvc:Js Pg 146=some {kd:=.st [(0,41),(1,41),(2,104)],size:=3,bytes:=72,zero:=some [.vec [] true,.vec [] true,.vec [] true]}:=by kernel_rfl
theorem Jvd:Js Pg 147=some {kd:=.st [(0,41),(1,41),(2,104)],size:=3,bytes:=72,zero:=some [.vec [] true,.vec [] true,.vec [] true]}:=by kernel_rfl
theorem Jve:Js Pg 148=some {kd:=.oth,size:=1,bytes:=8,zero:=some [.lit .nilFunc]}:=by kernel_rfl
theorem Jvf:Jai Pg 148=true:=by kernel_rfl
theorem Jvg:Js Pg 149=some {kd:=.st [(0,21),(1,21)],size:=2,bytes:=8,zero:=some [.lit (.int .i32 0),.lit (.int .i32 0)]}:=by kernel_rfl
theorem Jqg:Js Pg 150=some {kd:=.st [(0,21),(1,21)],size:=2,bytes:=8,zero:=some [.lit (.int .i32 0),.lit (.int .i32 0)]}:=by kernel_rfl
theorem Job:Ja2 Pg 150=true:=by kernel_rfl
theorem Joc:JbB Pg 150 [(0,21),(1,21)]=true:=by kernel_rfl
theorem Jvh:Js Pg 151=some {kd:=.oth,size:=1,bytes:=8,zero:=some [.lit .nilFunc]}:=by kernel_rfl
theorem Jvi:Jai Pg 151=true:=by kernel_rfl
theorem Jvj:Js Pg 152=some {kd:=.oth,size:=1,bytes:=8,zero:=some [.lit (.pointer none)]}:=by kernel_rfl
theorem Jvk:Jeh Pg 152=true:=by kernel_rfl
theorem Jvl:Js Pg 153=some {kd:=.oth,size:=1,bytes:=8,zero:=some [.lit .nilFunc]}:=by kernel_rfl
theorem Jvm:Jai Pg 153=true:=by kernel_rfl
theorem Jvn:Js Pg 154=some {kd:=.sl 41,size:=1,bytes:=24,zero:=some [.vec [] true]}:=by kernel_rfl
theorem Jvo:Js Pg 155=some {kd:=.sl 41,size:=1,bytes:=24,zero:=some [.vec [] true]}:=by kernel_rfl
theorem Jvp:Js Pg 156=some {kd:=.oth,size:=1,bytes:=8,zero:=some [.lit .nilFunc]}:=by kernel_rfl
theorem Jvq:Jai Pg 156=true:=by kernel_rfl
theorem Jvr:Js Pg 157=some {kd:=.oth,size:=1,bytes:=8,zero:=some [.lit .nilFunc]}:=by kernel_rfl
theorem Jvs:Jai Pg 157=true:=by kernel_rfl
theorem Jvt:Js Pg 158=some {kd:=.oth,size:=1,bytes:=8,zero:=some [.lit .nilFunc]}:=by kernel_rfl
theorem Jvu:Jai Pg 158=true:=by kernel_rfl
theorem Jvv:Js Pg 159=some {kd:=.oth,size:=1,bytes:=8,zero:=some [.lit .nilFunc]}:=by kernel_rfl
theorem Jvw:Jai Pg 159=true:=by kernel_rfl
theorem Jvx:Js Pg 160=some {kd:=.oth,size:=1,bytes:=8,zero:=some [.lit .nilFunc]}:=by kernel_rfl
theorem Jvy:Jai Pg 160=true:=by kernel_rfl
theorem Jvz:Js Pg 161=some {kd:=.int .u64,size:=1,bytes:=8,zero:=some [.lit (.int .u64 0)]}:=by kernel_rfl
theorem JvA:Js Pg 162=some {kd:=.oth,size:=1,bytes:=8,zero:=some [.lit .nilFunc]}:=by kernel_rfl
theorem JvB:Jai Pg 162=true:=by kernel_rfl
theorem JvC:Js Pg 163=some {kd:=.oth,size:=1,bytes:=8,zero:=some [.lit .nilFunc]}:=by kernel_rfl
theorem JvD:Jai Pg 163=true:=by kernel_rfl
theorem JvE:Js Pg 164=some {kd:=.st [(0,2),(1,2),(2,2),(3,2)],size:=4,bytes:=32,zero:=some [.lit (.int .i64 0),.lit (.int .i64 0),.lit (.int .i64 0),.lit (.int .i64 0)]}:=by kernel_rfl
theorem Jsx:Js Pg 165=some {kd:=.st [(0,2),(1,2),(2,2),(3,2)],size:=4,bytes:=32,zero:=some [.lit (.int .i64 0),.lit (.int .i64 0),.lit (.int .i64 0),.lit (.int .i64 0)]}:=by kernel_rfl
theorem Jod:Ja2 Pg 165=true:=by kernel_rfl
theorem Joe:JbB Pg 165 [(0,2),(1,2),(2,2),(3,2)]=true:=by kernel_rfl
theorem JvF:Js Pg 166=some {kd:=.oth,size:=1,bytes:=8,zero:=some [.lit .nilFunc]}:=by kernel_rfl
theorem JvG:Jai Pg 166=true:=by kernel_rfl
theorem JvH:Js Pg 167=some {kd:=.oth,size:=1,bytes:=8,zero:=some [.lit .nilFunc]}:=by kernel_rfl
theorem JvI:Jai Pg 167=true:=by kernel_rfl
theorem JvK:Js Pg 168=some {kd:=.oth,size:=1,bytes:=8,zero:=some [.lit .nilFunc]}:=by kernel_rfl
theorem JvL:Jai Pg 168=true:=by kernel_rfl
theorem JvM:Js Pg 169=some {kd:=.map 3 4,size:=1,bytes:=8,zero:=some [.lit (.map none)]}:=by kernel_rfl
theorem JvN:Js Pg 170=some {kd:=.oth,size:=1,bytes:=8,zero:=some [.lit .nilFunc]}:=by kernel_rfl
theorem JvO:Jai Pg 170=true:=by kernel_rfl
theorem JvP:Js Pg 171=some {kd:=.oth,size:=1,bytes:=8,zero:=some [.lit .nilFunc]}:=by kernel_rfl
theorem JvQ:Jai Pg 171=true:=by kernel_rfl
theorem JvR:Js Pg 172=some {kd:=.arr 8 171,size:=8,bytes:=64,zero:=some [.lit .nilFunc,.lit .nilFunc,.lit .nilFunc,.lit .nilFunc,.lit .nilFunc,.lit .nilFunc,.lit .nilFunc,.lit .nilFunc]}:=by kernel_rfl
theorem JvS:Js Pg 173=some {kd:=.oth,size:=1,bytes:=8,zero:=some [.lit .nilFunc]}:=by kernel_rfl
theorem JvT:Jai Pg 173=true:=by kernel_rfl
theorem JvU:Js Pg 174=some {kd:=.oth,size:=1,bytes:=8,zero:=some [.lit (.pointer none)]}:=by kernel_rfl
theorem JvV:Jeh Pg 174=true:=by kernel_rfl
theorem JvW:Js Pg 175=some {kd:=.oth,size:=1,bytes:=8,zero:=some [.lit (.pointer none)]}:=by kernel_rfl
theorem JvX:Jeh Pg 175=true:=by kernel_rfl
theorem JvY:Js Pg 176=some {kd:=.st [(0,152),(1,174),(2,3),(3,175)],size:=4,bytes:=32,zero:=some [.lit (.pointer none),.lit (.pointer none),.lit (.int .i64 0),.lit (.pointer none)]}:=by kernel_rfl
theorem JvZ:Js Pg 177=some {kd:=.st [(0,152),(1,174),(2,3),(3,175)],size:=4,bytes:=32,zero:=some [.lit (.pointer none),.lit (.pointer none),.lit (.int .i64 0),.lit (.pointer none)]}:=by kernel_rfl
theorem Jv0:Js Pg 178=some {kd:=.oth,size:=1,bytes:=8,zero:=some [.lit .nilFunc]}:=by kernel_rfl
theorem Jv1:Jai Pg 178=true:=by kernel_rfl
theorem Jv2:Js Pg 179=some {kd:=.oth,size:=1,bytes:=8,zero:=some [.lit .nilFunc]}:=by kernel_rfl
theorem Jv3:Jai Pg 179=true:=by kernel_rfl
theorem Jv4:Js Pg 180=some {kd:=.st [(0,3),(1,3)],size:=2,bytes:=16,zero:=some [.lit (.int .i64 0),.lit (.int .i64 0)]}:=by kernel_rfl
theorem Jqh:Js Pg 181=some {kd:=.st [(0,3),(1,3)],size:=2,bytes:=16,zero:=some [.lit (.int .i64 0),.lit (.int .i64 0)]}:=by kernel_rfl
theorem Jof:Ja2 Pg 181=true:=by kernel_rfl
theorem Jog:JbB Pg 181 [(0,3),(1,3)]=true:=by kernel_rfl
theorem Jqi:Js Pg 182=some {kd:=.sl 181,size:=1,bytes:=24,zero:=some [.vec [] true]}:=by kernel_rfl
theorem Jv5:Js Pg 183=some {kd:=.oth,size:=1,bytes:=8,zero:=some [.lit (.pointer none)]}:=by kernel_rfl
theorem Jv6:Jeh Pg 183=true:=by kernel_rfl
theorem Jv7:Js Pg 184=some {kd:=.oth,size:=1,bytes:=8,zero:=some [.lit .nilFunc]}:=by kernel_rfl
theorem Jv8:Jai Pg 184=true:=by kernel_rfl
theorem Jv9:Js Pg 185=some {kd:=.oth,size:=1,bytes:=8,zero:=some [.lit .nilFunc]}:=by kernel_rfl
theorem Jwa:Jai Pg 185=true:=by kernel_rfl
theorem Jwb:Js Pg 186=some {kd:=.oth,size:=1,bytes:=8,zero:=some [.lit .nilFunc]}:=by kernel_rfl
theorem Jwc:Jai Pg 186=true:=by kernel_rfl
theorem Jwd:Js Pg 187=some {kd:=.oth,size:=1,bytes:=8,zero:=some [.lit .nilFunc]}:=by kernel_rfl
theorem Jwe:Jai Pg 187=true:=by kernel_rfl
theorem Jwf:Js Pg 188=some {kd:=.sl 31,size:=1,bytes:=24,zero:=some [.vec [] true]}:=by kernel_rfl
theorem Jwg:Js Pg 189=some {kd:=.oth,size:=1,bytes:=8,zero:=some [.lit .nilFunc]}:=by kernel_rfl
theorem Jwh:Jai Pg 189=true:=by kernel_rfl
theorem Jwi:Js Pg 190=some {kd:=.map 9 4,size:=1,bytes:=8,zero:=some [.lit (.map none)]}:=by kernel_rfl
theorem Jwj:Js Pg 191=some {kd:=.oth,size:=1,bytes:=8,zero:=some [.lit .nilFunc]}:=by kernel_rfl
theorem Jwk:Jai Pg 191=true:=by kernel_rfl
theorem Jwl:Js Pg 192=some {kd:=.oth,size:=1,bytes:=8,zero:=some [.lit (.pointer none)]}:=by kernel_rfl
theorem Jwm:Jeh Pg 192=true:=by kernel_rfl
theorem Jwn:Js Pg 193=some {kd:=.oth,size:=1,bytes:=8,zero:=some [.lit .nilFunc]}:=by kernel_rfl
theorem Jwo:Jai Pg 193=true:=by kernel_rfl
theorem Jwp:Js Pg 194=some {kd:=.oth,size:=1,bytes:=8,zero:=some [.lit .nilFunc]}:=by kernel_rfl
theorem Jwq:Jai Pg 194=true:=by kernel_rfl
theorem Jwr:Js Pg 195=some {kd:=.oth,size:=1,bytes:=8,zero:=some [.lit .nilFunc]}:=by kernel_rfl
theorem Jws:Jai Pg 195=true:=by kernel_rfl
theorem Jwt:Js Pg 196=some {kd:=.oth,size:=1,bytes:=8,zero:=some [.lit .nilFunc]}:=by kernel_rfl
theorem Jwu:Jai Pg 196=true:=by kernel_rfl
theorem Jwv:Js Pg 197=some {kd:=.oth,size:=1,bytes:=8,zero:=some [.lit .nilFunc]}:=by kernel_rfl
theorem Jww:Jai Pg 197=true:=by kernel_rfl
theorem Jwx:Js Pg 198=some {kd:=.oth,size:=1,bytes:=8,zero:=some [.lit .nilFunc]}:=by kernel_rfl
theorem Jwy:Jai Pg 198=true:=by kernel_rfl
theorem Jwz:Js Pg 199=some {kd:=.oth,size:=1,bytes:=8,zero:=some [.lit .nilFunc]}:=by kernel_rfl
theorem JwA:Jai Pg 199=true:=by kernel_rfl
theorem JwB:Js Pg 200=some {kd:=.st [(0,2),(1,2),(2,4)],size:=3,bytes:=24,zero:=some [.lit (.int .i64 0),.lit (.int .i64 0),.lit (.bool false)]}:=by kernel_rfl
theorem Jqj:Js Pg 201=some {kd:=.st [(0,2),(1,2),(2,4)],size:=3,bytes:=24,zero:=some [.lit (.int .i64 0),.lit (.int .i64 0),.lit (.bool false)]}:=by kernel_rfl
theorem Joh:Ja2 Pg 201=true:=by kernel_rfl
theorem Joi:JbB Pg 201 [(0,2),(1,2),(2,4)]=true:=by kernel_rfl
theorem JwC:Js Pg 202=some {kd:=.oth,size:=1,bytes:=8,zero:=some [.lit .nilFunc]}:=by kernel_rfl
theorem JwD:Jai Pg 202=true:=by kernel_rfl
theorem JwE:Js Pg 203=some {kd:=.oth,size:=1,bytes:=8,zero:=some [.lit .nilFunc]}:=by kernel_rfl
theorem JwF:Jai Pg 203=true:=by kernel_rfl
theorem JwG:Js Pg 205=some {kd:=.oth,size:=1,bytes:=8,zero:=some [.lit .nilFunc]}:=by kernel_rfl
theorem JwH:Jai Pg 205=true:=by kernel_rfl
theorem JwI:Js Pg 206=some {kd:=.oth,size:=1,bytes:=8,zero:=some [.lit .nilFunc]}:=by kernel_rfl
theorem JwK:Jai Pg 206=true:=by kernel_rfl
theorem JwL:Js Pg 207=some {kd:=.oth,size:=1,bytes:=8,zero:=some [.lit .nilFunc]}:=by kernel_rfl
theorem JwM:Jai Pg 207=true:=by kernel_rfl
theorem JwN:Js Pg 208=some {kd:=.oth,size:=1,bytes:=8,zero:=some [.lit .nilFunc]}:=by kernel_rfl
theorem JwO:Jai Pg 208=true:=by kernel_rfl
theorem JwP:Js Pg 209=some {kd:=.oth,size:=1,bytes:=8,zero:=some [.lit .nilFunc]}:=by kernel_rfl
theorem JwQ:Jai Pg 209=true:=by kernel_rfl
theorem JwR:Js Pg 210=some {kd:=.oth,size:=1,bytes:=8,zero:=some [.lit .nilFunc]}:=by kernel_rfl
theorem JwS:Jai Pg 210=true:=by kernel_rfl
theorem JwT:Js Pg 212=some {kd:=.st [(0,5),(1,5)],size:=2,bytes:=2,zero:=some [.lit (.int .u8 0),.lit (.int .u8 0)]}:=by kernel_rfl
theorem JwU:Js Pg 213=some {kd:=.st [(0,5),(1,5)],size:=2,bytes:=2,zero:=some [.lit (.int .u8 0),.lit (.int .u8 0)]}:=by kernel_rfl
theorem JwV:Js Pg 214=some {kd:=.arr 16 213,size:=32,bytes:=32,zero:=some [.lit (.int .u8 0),.lit (.int .u8 0),.lit (.int .u8 0),.lit (.int .u8 0),.lit (.int .u8 0),.lit (.int .u8 0),.lit (.int .u8 0),.lit (.int .u8 0),.lit (.int .u8 0),.lit (.int .u8 0),.lit (.int .u8 0),.lit (.int .u8 0),.lit (.int .u8 0),.lit (.int .u8 0),.lit (.int .u8 0),.lit (.int .u8 0),.lit (.int .u8 0),.lit (.int .u8 0),.lit (.int .u8 0),.lit (.int .u8 0),.lit (.int .u8 0),.lit (.int .u8 0),.lit (.int .u8 0),.lit (.int .u8 0),.lit (.int .u8 0),.lit (.int .u8 0),.lit (.int .u8 0),.lit (.int .u8 0),.lit (.int .u8 0),.lit (.int .u8 0),.lit (.int .u8 0),.lit (.int .u8 0)]}:=by kernel_rfl
theorem JwW:Js Pg 215=some {kd:=.oth,size:=1,bytes:=8,zero:=some [.lit .nilFunc]}:=by kernel_rfl
theorem JwX:Jai Pg 215=true:=by kernel_rfl
theorem JwY:Js Pg 216=some {kd:=.oth,size:=1,bytes:=8,zero:=some [.lit .nilFunc]}:=by kernel_rfl
theorem JwZ:Jai Pg 216=true:=by kernel_rfl
theorem Jw0:Js Pg 217=some {kd:=.arr 15 2,size:=15,bytes:=120,zero:=some [.lit (.int .i64 0),.lit (.int .i64 0),.lit (.int .i64 0),.lit (.int .i64 0),.lit (.int .i64 0),.lit (.int .i64 0),.lit (.int .i64 0),.lit (.int .i64 0),.lit (.int .i64 0),.lit (.int .i64 0),.lit (.int .i64 0),.lit (.int .i64 0),.lit (.int .i64 0),.lit (.int .i64 0),.lit (.int .i64 0)]}:=by kernel_rfl
theorem Jw1:Js Pg 218=some {kd:=.arr 8 207,size:=8,bytes:=64,zero:=some [.lit .nilFunc,.lit .nilFunc,.lit .nilFunc,.lit .nilFunc,.lit .nilFunc,.lit .nilFunc,.lit .nilFunc,.lit .nilFunc]}:=by kernel_rfl
theorem Jw2:Js Pg 219=some {kd:=.oth,size:=1,bytes:=8,zero:=some [.lit .nilFunc]}:=by kernel_rfl
theorem Jw3:Jai Pg 219=true:=by kernel_rfl
theorem Jw4:Js Pg 220=some {kd:=.oth,size:=1,bytes:=8,zero:=some [.lit .nilFunc]}:=by kernel_rfl
theorem Jw5:Jai Pg 220=true:=by kernel_rfl
theorem Jw6:Js Pg 221=some {kd:=.oth,size:=1,bytes:=8,zero:=some [.lit .nilFunc]}:=by kernel_rfl
theorem Jw7:Jai Pg 221=true:=by kernel_rfl
theorem Jw8:Js Pg 222=some {kd:=.oth,size:=1,bytes:=8,zero:=some [.lit .nilFunc]}:=by kernel_rfl
theorem Jw9:Jai Pg 222=true:=by kernel_rfl
theorem Jxa:Js Pg 223=some {kd:=.oth,size:=1,bytes:=8,zero:=some [.lit .nilFunc]}:=by kernel_rfl
theorem Jxb:Jai Pg 223=true:=by kernel_rfl
theorem Jxc:Js Pg 224=some {kd:=.arr 15 9,size:=15,bytes:=240,zero:=some [.lit (.string ⟨#[]⟩),.lit (.string ⟨#[]⟩),.lit (.string ⟨#[]⟩),.lit (.string ⟨#[]⟩),.lit (.string ⟨#[]⟩),.lit (.string ⟨#[]⟩),.lit (.string ⟨#[]⟩),.lit (.string ⟨#[]⟩),.lit (.string ⟨#[]⟩),.lit (.string ⟨#[]⟩),.lit (.string ⟨#[]⟩),.lit (.string ⟨#[]⟩),.lit (.string ⟨#[]⟩),.lit (.string ⟨#[]⟩),.lit (.string ⟨#[]⟩)]}:=by kernel_rfl
theorem Jxd:Js Pg 225=some {kd:=.oth,size:=1,bytes:=8,zero:=some [.lit .nilFunc]}:=by kernel_rfl
theorem Jxe:Jai Pg 225=true:=by kernel_rfl
theorem Jxf:Js Pg 226=some {kd:=.oth,size:=1,bytes:=8,zero:=some [.lit .nilFunc]}:=by kernel_rfl
theorem Jxg:Jai Pg 226=true:=by kernel_rfl
theorem Jxh:Js Pg 227=some {kd:=.st [(0,17),(1,17),(2,17),(3,9)],size:=4,bytes:=40,zero:=some [.lit (.pointer none),.lit (.pointer none),.lit (.pointer none),.lit (.string ⟨#[]⟩)]}:=by kernel_rfl
theorem Jxi:Js Pg 228=some {kd:=.st [(0,17),(1,17),(2,17),(3,9)],size:=4,bytes:=40,zero:=some [.lit (.pointer none),.lit (.pointer none),.lit (.pointer none),.lit (.string ⟨#[]⟩)]}:=by kernel_rfl
theorem Jxj:Js Pg 229=some {kd:=.arr 0 16,size:=0,bytes:=0,zero:=some []}:=by kernel_rfl
theorem Jxk:Js Pg 230=some {kd:=.st [(0,229)],size:=0,bytes:=0,zero:=some []}:=by kernel_rfl
theorem Jxl:Js Pg 231=some {kd:=.st [(0,229)],size:=0,bytes:=0,zero:=some []}:=by kernel_rfl
theorem Jxm:Js Pg 232=some {kd:=.oth,size:=1,bytes:=8,zero:=some [.lit .nilFunc]}:=by kernel_rfl
theorem Jxn:Jai Pg 232=true:=by kernel_rfl
theorem Jxo:Js Pg 233=some {kd:=.int .u32,size:=1,bytes:=4,zero:=some [.lit (.int .u32 0)]}:=by kernel_rfl
theorem Jxp:Js Pg 234=some {kd:=.int .u8,size:=1,bytes:=1,zero:=some [.lit (.int .u8 0)]}:=by kernel_rfl
theorem Jxq:Js Pg 235=some {kd:=.int .u8,size:=1,bytes:=1,zero:=some [.lit (.int .u8 0)]}:=by kernel_rfl
theorem Jxr:Js Pg 236=some {kd:=.oth,size:=1,bytes:=8,zero:=some [.lit .nilFunc]}:=by kernel_rfl
theorem Jxs:Jai Pg 236=true:=by kernel_rfl
theorem Jxt:Js Pg 237=some {kd:=.oth,size:=1,bytes:=8,zero:=some [.lit (.pointer none)]}:=by kernel_rfl
theorem Jxu:Jeh Pg 237=true:=by kernel_rfl
theorem Jxv:Js Pg 238=some {kd:=.int .i32,size:=1,bytes:=4,zero:=some [.lit (.int .i32 0)]}:=by kernel_rfl
theorem Jxw:Js Pg 239=some {kd:=.int .i32,size:=1,bytes:=4,zero:=some [.lit (.int .i32 0)]}:=by kernel_rfl
theorem Jxx:Js Pg 240=some {kd:=.st [(0,12),(1,12),(2,233),(3,234),(4,5),(5,5),(6,235),(7,236),(8,237),(9,238),(10,239)],size:=11,bytes:=48,zero:=some [.lit (.int .u64 0),.lit (.int .u64 0),.lit (.int .u32 0),.lit (.int .u8 0),.lit (.int .u8 0),.lit (.int .u8 0),.lit (.int .u8 0),.lit .nilFunc,.lit (.pointer none),.lit (.int .i32 0),.lit (.int .i32 0)]}:=by kernel_rfl
theorem Jxy:Js Pg 241=some {kd:=.st [(0,12),(1,12),(2,233),(3,234),(4,5),(5,5),(6,235),(7,236),(8,237),(9,238),(10,239)],size:=11,bytes:=48,zero:=some [.lit (.int .u64 0),.lit (.int .u64 0),.lit (.int .u32 0),.lit (.int .u8 0),.lit (.int .u8 0),.lit (.int .u8 0),.lit (.int .u8 0),.lit .nilFunc,.lit (.pointer none),.lit (.int .i32 0),.lit (.int .i32 0)]}:=by kernel_rfl
theorem tyW:(type_of% @ty1)/\(type_of% @fn1)/\(type_of% @ty2)/\(type_of% @ty3)/\(type_of% @ty4)/\(type_of% @zr4)/\(type_of% @ty5)/\(type_of% @ty6)/\(type_of% @ty7)/\(type_of% @ty8)/\(type_of% @ty9)/\(type_of% @JAa)/\(type_of% @JAb)/\(type_of% @JAc)/\(type_of% @JAd)/\(type_of% @JAe)/\(type_of% @JAf)/\(type_of% @JAg)/\(type_of% @JAh)/\(type_of% @JAi)/\(type_of% @JAj)/\(type_of% @JAk)/\(type_of% @JAl)/\(type_of% @JAm)/\(type_of% @JtL)/\(type_of% @JtM)/\(type_of% @Jzj)/\(type_of% @Jzk)/\(type_of% @JAn)/\(type_of% @JzF)/\(type_of% @Jsv)/\(type_of% @JzG)/\(type_of% @JAo)/\(type_of% @JAp)/\(type_of% @JAq)/\(type_of% @JAr)/\(type_of% @JtN)/\(type_of% @JAs)/\(type_of% @JAt)/\(type_of% @JAu)/\(type_of% @JAv)/\(type_of% @JAw)/\(type_of% @JAx)/\(type_of% @JAy)/\(type_of% @JAz)/\(type_of% @JAA)/\(type_of% @JAB)/\(type_of% @Jzl)/\(type_of% @JrD)/\(type_of% @JrE)/\(type_of% @JAC)/\(type_of% @JAD)/\(type_of% @JrF)/\(type_of% @JAE)/\(type_of% @JAF)/\(type_of% @JAG)/\(type_of% @JAH)/\(type_of% @JAI)/\(type_of% @JAK)/\(type_of% @JAL)/\(type_of% @JAM)/\(type_of% @JAN)/\(type_of% @JrG)/\(type_of% @JrH)/\(type_of% @JAO)/\(type_of% @JAP)/\(type_of% @JAQ)/\(type_of% @JAR)/\(type_of% @JAS)/\(type_of% @JAT)/\(type_of% @JAU)/\(type_of% @JAV)/\(type_of% @JAW)/\(type_of% @JAX)/\(type_of% @JAY)/\(type_of% @JAZ)/\(type_of% @JA0)/\(type_of% @JA1)/\(type_of% @JA2)/\(type_of% @JA3)/\(type_of% @JA4)/\(type_of% @JA5)/\(type_of% @JA6)/\(type_of% @JA7)/\(type_of% @JA8)/\(type_of% @JA9)/\(type_of% @JBa)/\(type_of% @JBb)/\(type_of% @JBc)/\(type_of% @JBd)/\(type_of% @JBe)/\(type_of% @JBf)/\(type_of% @JBg)/\(type_of% @JBh)/\(type_of% @JBi)/\(type_of% @JBj)/\(type_of% @JzH)/\(type_of% @JrI)/\(type_of% @JrK)/\(type_of% @JBk)/\(type_of% @JBl)/\(type_of% @JBm)/\(type_of% @JBn)/\(type_of% @JBo)/\(type_of% @JBp)/\(type_of% @JrL)/\(type_of% @JBq)/\(type_of% @Jt9)/\(type_of% @JrM)/\(type_of% @JrN)/\(type_of% @JBr)/\(type_of% @JBs)/\(type_of% @JBt)/\(type_of% @JBu)/\(type_of% @JBv)/\(type_of% @JBw)/\(type_of% @JBx)/\(type_of% @JBy)/\(type_of% @JBz)/\(type_of% @Jzm)/\(type_of% @JBA)/\(type_of% @Jzn)/\(type_of% @JBB)/\(type_of% @JBC)/\(type_of% @JBD)/\(type_of% @JBE)/\(type_of% @JBF)/\(type_of% @Jzo)/\(type_of% @Jzp)/\(type_of% @JBG)/\(type_of% @Jua)/\(type_of% @JBH)/\(type_of% @Jzq)/\(type_of% @JBI)/\(type_of% @JzI)/\(type_of% @JBK)/\(type_of% @JBL)/\(type_of% @JBM)/\(type_of% @JBN)/\(type_of% @Jub)/\(type_of% @Juc)/\(type_of% @Jud)/\(type_of% @Jue)/\(type_of% @Juf)/\(type_of% @Jug)/\(type_of% @Juh)/\(type_of% @Jui)/\(type_of% @Juj)/\(type_of% @Juk)/\(type_of% @Jul)/\(type_of% @Jum)/\(type_of% @Jun)/\(type_of% @Juo)/\(type_of% @Jup)/\(type_of% @Juq)/\(type_of% @Jur)/\(type_of% @Jus)/\(type_of% @Jut)/\(type_of% @Juu)/\(type_of% @Juv)/\(type_of% @Juw)/\(type_of% @Jux)/\(type_of% @Juy)/\(type_of% @Juz)/\(type_of% @JuA)/\(type_of% @JuB)/\(type_of% @JuC)/\(type_of% @JuD)/\(type_of% @JuE)/\(type_of% @JuF)/\(type_of% @JuG)/\(type_of% @JuH)/\(type_of% @JuI)/\(type_of% @JuK)/\(type_of% @JuL)/\(type_of% @JuM)/\(type_of% @JuN)/\(type_of% @JuO)/\(type_of% @JuP)/\(type_of% @JuQ)/\(type_of% @JuR)/\(type_of% @JuS)/\(type_of% @Jsw)/\(type_of% @JkG)/\(type_of% @Jn8)/\(type_of% @JuT)/\(type_of% @JuU)/\(type_of% @JuV)/\(type_of% @Jn9)/\(type_of% @Joa)/\(type_of% @JuW)/\(type_of% @JuX)/\(type_of% @JuY)/\(type_of% @JuZ)/\(type_of% @Ju0)/\(type_of% @Ju1)/\(type_of% @Ju2)/\(type_of% @Ju3)/\(type_of% @Ju4)/\(type_of% @Ju5)/\(type_of% @Ju6)/\(type_of% @Ju7)/\(type_of% @Ju8)/\(type_of% @Ju9)/\(type_of% @Jva)/\(type_of% @Jvb)/\(type_of% @Jvc)/\(type_of% @Jvd)/\(type_of% @Jve)/\(type_of% @Jvf)/\(type_of% @Jvg)/\(type_of% @Jqg)/\(type_of% @Job)/\(type_of% @Joc)/\(type_of% @Jvh)/\(type_of% @Jvi)/\(type_of% @Jvj)/\(type_of% @Jvk)/\(type_of% @Jvl)/\(type_of% @Jvm)/\(type_of% @Jvn)/\(type_of% @Jvo)/\(type_of% @Jvp)/\(type_of% @Jvq)/\(type_of% @Jvr)/\(type_of% @Jvs)/\(type_of% @Jvt)/\(type_of% @Jvu)/\(type_of% @Jvv)/\(type_of% @Jvw)/\(type_of% @Jvx)/\(type_of% @Jvy)/\(type_of% @Jvz)/\(type_of% @JvA)/\(type_of% @JvB)/\(type_of% @JvC)/\(type_of% @JvD)/\(type_of% @JvE)/\(type_of% @Jsx)/\(type_of% @Jod)/\(type_of% @Joe)/\(type_of% @JvF)/\(type_of% @JvG)/\(type_of% @JvH)/\(type_of% @JvI)/\(type_of% @JvK)/\(type_of% @JvL)/\(type_of% @JvM)/\(type_of% @JvN)/\(type_of% @JvO)/\(type_of% @JvP)/\(type_of% @JvQ)/\(type_of% @JvR)/\(type_of% @JvS)/\(type_of% @JvT)/\(type_of% @JvU)/\(type_of% @JvV)/\(type_of% @JvW)/\(type_of% @JvX)/\(type_of% @JvY)/\(type_of% @JvZ)/\(type_of% @Jv0)/\(type_of% @Jv1)/\(type_of% @Jv2)/\(type_of% @Jv3)/\(type_of% @Jv4)/\(type_of% @Jqh)/\(type_of% @Jof)/\(type_of% @Jog)/\(type_of% @Jqi)/\(type_of% @Jv5)/\(type_of% @Jv6)/\(type_of% @Jv7)/\(type_of% @Jv8)/\(type_of% @Jv9)/\(type_of% @Jwa)/\(type_of% @Jwb)/\(type_of% @Jwc)/\(type_of% @Jwd)/\(type_of% @Jwe)/\(type_of% @Jwf)/\(type_of% @Jwg)/\(type_of% @Jwh)/\(type_of% @Jwi)/\(type_of% @Jwj)/\(type_of% @Jwk)/\(type_of% @Jwl)/\(type_of% @Jwm)/\(type_of% @Jwn)/\(type_of% @Jwo)/\(type_of% @Jwp)/\(type_of% @Jwq)/\(type_of% @Jwr)/\(type_of% @Jws)/\(type_of% @Jwt)/\(type_of% @Jwu)/\(type_of% @Jwv)/\(type_of% @Jww)/\(type_of% @Jwx)/\(type_of% @Jwy)/\(type_of% @Jwz)/\(type_of% @JwA)/\(type_of% @JwB)/\(type_of% @Jqj)/\(type_of% @Joh)/\(type_of% @Joi)/\(type_of% @JwC)/\(type_of% @JwD)/\(type_of% @JwE)/\(type_of% @JwF)/\(type_of% @JwG)/\(type_of% @JwH)/\(type_of% @JwI)/\(type_of% @JwK)/\(type_of% @JwL)/\(type_of% @JwM)/\(type_of% @JwN)/\(type_of% @JwO)/\(type_of% @JwP)/\(type_of% @JwQ)/\(type_of% @JwR)/\(type_of% @JwS)/\(type_of% @JwT)/\(type_of% @JwU)/\(type_of% @JwV)/\(type_of% @JwW)/\(type_of% @JwX)/\(type_of% @JwY)/\(type_of% @JwZ)/\(type_of% @Jw0)/\(type_of% @Jw1)/\(type_of% @Jw2)/\(type_of% @Jw3)/\(type_of% @Jw4)/\(type_of% @Jw5)/\(type_of% @Jw6)/\(type_of% @Jw7)/\(type_of% @Jw8)/\(type_of% @Jw9)/\(type_of% @Jxa)/\(type_of% @Jxb)/\(type_of% @Jxc)/\(type_of% @Jxd)/\(type_of% @Jxe)/\(type_of% @Jxf)/\(type_of% @Jxg)/\(type_of% @Jxh)/\(type_of% @Jxi)/\(type_of% @Jxj)/\(type_of% @Jxk)/\(type_of% @Jxl)/\(type_of% @Jxm)/\(type_of% @Jxn)/\(type_of% @Jxo)/\(type_of% @Jxp)/\(type_of% @Jxq)/\(type_of% @Jxr)/\(type_of% @Jxs)/\(type_of% @Jxt)/\(type_of% @Jxu)/\(type_of% @Jxv)/\(type_of% @Jxw)/\(type_of% @Jxx)/\(type_of% @Jxy):=⟨ty1,fn1,ty2,ty3,ty4,zr4,ty5,ty6,ty7,ty8,ty9,JAa,JAb,JAc,JAd,JAe,JAf,JAg,JAh,JAi,JAj,JAk,JAl,JAm,JtL,JtM,Jzj,Jzk,JAn,JzF,Jsv,JzG,JAo,JAp,JAq,JAr,JtN,JAs,JAt,JAu,JAv,JAw,JAx,JAy,JAz,JAA,JAB,Jzl,JrD,JrE,JAC,JAD,JrF,JAE,JAF,JAG,JAH,JAI,JAK,JAL,JAM,JAN,JrG,JrH,JAO,JAP,JAQ,JAR,JAS,JAT,JAU,JAV,JAW,JAX,JAY,JAZ,JA0,JA1,JA2,JA3,JA4,JA5,JA6,JA7,JA8,JA9,JBa,JBb,JBc,JBd,JBe,JBf,JBg,JBh,JBi,JBj,JzH,JrI,JrK,JBk,JBl,JBm,JBn,JBo,JBp,JrL,JBq,Jt9,JrM,JrN,JBr,JBs,JBt,JBu,JBv,JBw,JBx,JBy,JBz,Jzm,JBA,Jzn,JBB,JBC,JBD,JBE,JBF,Jzo,Jzp,JBG,Jua,JBH,Jzq,JBI,JzI,JBK,JBL,JBM,JBN,Jub,Juc,Jud,Jue,Juf,Jug,Juh,Jui,Juj,Juk,Jul,Jum,Jun,Juo,Jup,Juq,Jur,Jus,Jut,Juu,Juv,Juw,Jux,Juy,Juz,JuA,JuB,JuC,JuD,JuE,JuF,JuG,JuH,JuI,JuK,JuL,JuM,JuN,JuO,JuP,JuQ,JuR,JuS,Jsw,JkG,Jn8,JuT,JuU,JuV,Jn9,Joa,JuW,JuX,JuY,JuZ,Ju0,Ju1,Ju2,Ju3,Ju4,Ju5,Ju6,Ju7,Ju8,Ju9,Jva,Jvb,Jvc,Jvd,Jve,Jvf,Jvg,Jqg,Job,Joc,Jvh,Jvi,Jvj,Jvk,Jvl,Jvm,Jvn,Jvo,Jvp,Jvq,Jvr,Jvs,Jvt,Jvu,Jvv,Jvw,Jvx,Jvy,Jvz,JvA,JvB,JvC,JvD,JvE,Jsx,Jod,Joe,JvF,JvG,JvH,JvI,JvK,JvL,JvM,JvN,JvO,JvP,JvQ,JvR,JvS,JvT,JvU,JvV,JvW,JvX,JvY,JvZ,Jv0,Jv1,Jv2,Jv3,Jv4,Jqh,Jof,Jog,Jqi,Jv5,Jv6,Jv7,Jv8,Jv9,Jwa,Jwb,Jwc,Jwd,Jwe,Jwf,Jwg,Jwh,Jwi,Jwj,Jwk,Jwl,Jwm,Jwn,Jwo,Jwp,Jwq,Jwr,Jws,Jwt,Jwu,Jwv,Jww,Jwx,Jwy,Jwz,JwA,JwB,Jqj,Joh,Joi,JwC,JwD,JwE,JwF,JwG,JwH,JwI,JwK,JwL,JwM,JwN,JwO,JwP,JwQ,JwR,JwS,JwT,JwU,JwV,JwW,JwX,JwY,JwZ,Jw0,Jw1,Jw2,Jw3,Jw4,Jw5,Jw6,Jw7,Jw8,Jw9,Jxa,Jxb,Jxc,Jxd,Jxe,Jxf,Jxg,Jxh,Jxi,Jxj,Jxk,Jxl,Jxm,Jxn,Jxo,Jxp,Jxq,Jxr,Jxs,Jxt,Jxu,Jxv,Jxw,Jxx,Jxy⟩
theorem JzK:Je Pg 6:=⟨_,Tryz.func6,rfl,by decide⟩
theorem Jxz:Je Pg 7:=⟨_,Tryz.func7,rfl,by decide⟩
theorem Jqk:Je Pg 8:=⟨_,Tryz.func8,rfl,by decide⟩
theorem JzL:Je Pg 9:=⟨_,Tryz.func9,rfl,by decide⟩
theorem JxA:Je Pg 10:=⟨_,Tryz.func10,rfl,by decide⟩
theorem JxB:Je Pg 11:=⟨_,Tryz.func11,rfl,by decide⟩
theorem JxC:Je Pg 13:=⟨_,Tryz.func13,rfl,by decide⟩
theorem JxD:Je Pg 15:=⟨_,Tryz.func15,rfl,by decide⟩
theorem JxE:Je Pg 19:=⟨_,Tryz.func19,rfl,by decide⟩
theorem JlA:Je Pg 20:=⟨_,Tryz.func20,rfl,by decide⟩
theorem JrO:Je Pg 21:=⟨_,Tryz.func21,rfl,by decide⟩
theorem JxF:Je Pg 22:=⟨_,Tryz.func22,rfl,by decide⟩
theorem JxG:Je Pg 23:=⟨_,Tryz.func23,rfl,by decide⟩
theorem JxH:Je Pg 24:=⟨_,Tryz.func24,rfl,by decide⟩
theorem JxI:Je Pg 25:=⟨_,Tryz.func25,rfl,by decide⟩
theorem JxK:Je Pg 26:=⟨_,Tryz.func26,rfl,by decide⟩
theorem JxL:Je Pg 27:=⟨_,Tryz.func27,rfl,by decide⟩
theorem JxM:Je Pg 28:=⟨_,Tryz.func28,rfl,by decide⟩
theorem JrP:Je Pg 29:=⟨_,Tryz.func29,rfl,by decide⟩
theorem JxN:Je Pg 30:=⟨_,Tryz.func30,rfl,by decide⟩
theorem JxO:Je Pg 31:=⟨_,Tryz.func31,rfl,by decide⟩
theorem JxP:Je Pg 32:=⟨_,Tryz.func32,rfl,by decide⟩
theorem Joj:Je Pg 33:=⟨_,Tryz.func33,rfl,by decide⟩
theorem Jok:Je Pg 36:=⟨_,Tryz.func36,rfl,by decide⟩
theorem JrQ:Je Pg 37:=⟨_,Tryz.func37,rfl,by decide⟩
theorem Jol:Je Pg 39:=⟨_,Tryz.func39,rfl,by decide⟩
theorem JxQ:Je Pg 40:=⟨_,Tryz.func40,rfl,by decide⟩
theorem JxR:Je Pg 41:=⟨_,Tryz.func41,rfl,by decide⟩
theorem JxS:Je Pg 42:=⟨_,Tryz.func42,rfl,by decide⟩
theorem JrR:Je Pg 43:=⟨_,Tryz.func43,rfl,by decide⟩
theorem JxT:Je Pg 44:=⟨_,Tryz.func44,rfl,by decide⟩
theorem JxU:Je Pg 45:=⟨_,Tryz.func45,rfl,by decide⟩
theorem JxV:Je Pg 46:=⟨_,Tryz.func46,rfl,by decide⟩
theorem JxW:Je Pg 47:=⟨_,Tryz.func47,rfl,by decide⟩
theorem JxX:Je Pg 48:=⟨_,Tryz.func48,rfl,by decide⟩
theorem Jjv:Je Pg 49:=⟨_,Tryz.func49,rfl,by decide⟩
theorem Jom:Je Pg 50:=⟨_,Tryz.func50,rfl,by decide⟩
theorem JxY:Je Pg 51:=⟨_,Tryz.func51,rfl,by decide⟩
theorem JxZ:Je Pg 52:=⟨_,Tryz.func52,rfl,by decide⟩
theorem Jx0:Je Pg 53:=⟨_,Tryz.func53,rfl,by decide⟩
theorem Jx1:Je Pg 54:=⟨_,Tryz.func54,rfl,by decide⟩
theorem Jgk:Je Pg 57:=⟨_,Tryz.func57,rfl,by decide⟩
theorem Jx2:Je Pg 58:=⟨_,Tryz.func58,rfl,by decide⟩
theorem Jx3:Je Pg 59:=⟨_,Tryz.func59,rfl,by decide⟩
theorem Jx4:Je Pg 60:=⟨_,Tryz.func60,rfl,by decide⟩
theorem Jx5:Je Pg 61:=⟨_,Tryz.func61,rfl,by decide⟩
theorem Jx6:Je Pg 62:=⟨_,Tryz.func62,rfl,by decide⟩
theorem JrS:Je Pg 63:=⟨_,Tryz.func63,rfl,by decide⟩
theorem Jx7:Je Pg 64:=⟨_,Tryz.func64,rfl,by decide⟩
theorem Jx8:Je Pg 65:=⟨_,Tryz.func65,rfl,by decide⟩
theorem Jfq:Je Pg 66:=⟨_,Tryz.func66,rfl,by decide⟩
theorem JrT:Je Pg 67:=⟨_,Tryz.func67,rfl,by decide⟩
theorem Jon:Je Pg 68:=⟨_,Tryz.func68,rfl,by decide⟩
theorem Jx9:Je Pg 69:=⟨_,Tryz.func69,rfl,by decide⟩
theorem Jya:Je Pg 70:=⟨_,Tryz.func70,rfl,by decide⟩
theorem Jyb:Je Pg 71:=⟨_,Tryz.func71,rfl,by decide⟩
theorem Jyc:Je Pg 72:=⟨_,Tryz.func72,rfl,by decide⟩
theorem Jyd:Je Pg 73:=⟨_,Tryz.func73,rfl,by decide⟩
theorem Jye:Je Pg 74:=⟨_,Tryz.func74,rfl,by decide⟩
theorem Jyf:Je Pg 75:=⟨_,Tryz.func75,rfl,by decide⟩
theorem Jyg:Je Pg 76:=⟨_,Tryz.func76,rfl,by decide⟩
theorem JlB:Je Pg 77:=⟨_,Tryz.func77,rfl,by decide⟩
theorem JrU:Je Pg 78:=⟨_,Tryz.func78,rfl,by decide⟩
theorem JeK:Je Pg 79:=⟨_,Tryz.func79,rfl,by decide⟩
theorem Jyh:Je Pg 80:=⟨_,Tryz.func80,rfl,by decide⟩
theorem Jyi:Je Pg 81:=⟨_,Tryz.func81,rfl,by decide⟩
theorem JrV:Je Pg 82:=⟨_,Tryz.func82,rfl,by decide⟩
theorem Jyj:Je Pg 83:=⟨_,Tryz.func83,rfl,by decide⟩
theorem Jyk:Je Pg 84:=⟨_,Tryz.func84,rfl,by decide⟩
theorem JrW:Je Pg 85:=⟨_,Tryz.func85,rfl,by decide⟩
theorem JrX:Je Pg 86:=⟨_,Tryz.func86,rfl,by decide⟩
theorem Jyl:Je Pg 87:=⟨_,Tryz.func87,rfl,by decide⟩
theorem Jym:Je Pg 88:=⟨_,Tryz.func88,rfl,by decide⟩
theorem JrY:Je Pg 89:=⟨_,Tryz.func89,rfl,by decide⟩
theorem Joo:Je Pg 90:=⟨_,Tryz.func90,rfl,by decide⟩
theorem JrZ:Je Pg 91:=⟨_,Tryz.func91,rfl,by decide⟩
theorem JlC:Je Pg 92:=⟨_,Tryz.func92,rfl,by decide⟩
theorem Jyn:Je Pg 93:=⟨_,Tryz.func93,rfl,by decide⟩
theorem Jyo:Je Pg 94:=⟨_,Tryz.func94,rfl,by decide⟩
theorem Jyp:Je Pg 95:=⟨_,Tryz.func95,rfl,by decide⟩
theorem Jyq:Je Pg 96:=⟨_,Tryz.func96,rfl,by decide⟩
theorem Jop:Je Pg 97:=⟨_,Tryz.func97,rfl,by decide⟩
theorem Jyr:Je Pg 98:=⟨_,Tryz.func98,rfl,by decide⟩
theorem Jys:Je Pg 99:=⟨_,Tryz.func99,rfl,by decide⟩
theorem Jsy:Je Pg 100:=⟨_,Tryz.func100,rfl,by decide⟩
theorem Jsz:Je Pg 101:=⟨_,Tryz.func101,rfl,by decide⟩
theorem JsA:Je Pg 102:=⟨_,Tryz.func102,rfl,by decide⟩
theorem JsB:Je Pg 103:=⟨_,Tryz.func103,rfl,by decide⟩
theorem JsC:Je Pg 104:=⟨_,Tryz.func104,rfl,by decide⟩
theorem JsD:Je Pg 105:=⟨_,Tryz.func105,rfl,by decide⟩
theorem Joq:Je Pg 107:=⟨_,Tryz.func107,rfl,by decide⟩
theorem Jor:Je Pg 108:=⟨_,Tryz.func108,rfl,by decide⟩
theorem JsE:Je Pg 109:=⟨_,Tryz.func109,rfl,by decide⟩
theorem Jos:Je Pg 110:=⟨_,Tryz.func110,rfl,by decide⟩
theorem Jot:Je Pg 111:=⟨_,Tryz.func111,rfl,by decide⟩
theorem JkH:Je Pg 112:=⟨_,Tryz.func112,rfl,by decide⟩
theorem JsF:Je Pg 113:=⟨_,Tryz.func113,rfl,by decide⟩
theorem JsG:Je Pg 114:=⟨_,Tryz.func114,rfl,by decide⟩
theorem Jgl:Je Pg 115:=⟨_,Tryz.func115,rfl,by decide⟩
theorem JsH:Je Pg 116:=⟨_,Tryz.func116,rfl,by decide⟩
theorem Jou:Je Pg 117:=⟨_,Tryz.func117,rfl,by decide⟩
theorem Jov:Je Pg 118:=⟨_,Tryz.func118,rfl,by decide⟩
theorem JsI:Je Pg 119:=⟨_,Tryz.func119,rfl,by decide⟩
theorem Jow:Je Pg 120:=⟨_,Tryz.func120,rfl,by decide⟩
theorem Jox:Je Pg 121:=⟨_,Tryz.func121,rfl,by decide⟩
theorem JsK:Je Pg 122:=⟨_,Tryz.func122,rfl,by decide⟩
theorem JsL:Je Pg 123:=⟨_,Tryz.func123,rfl,by decide⟩
theorem Joy:Je Pg 124:=⟨_,Tryz.func124,rfl,by decide⟩
theorem Joz:Je Pg 125:=⟨_,Tryz.func125,rfl,by decide⟩
theorem JsM:Je Pg 126:=⟨_,Tryz.func126,rfl,by decide⟩
theorem JsN:Je Pg 127:=⟨_,Tryz.func127,rfl,by decide⟩
theorem JsO:Je Pg 128:=⟨_,Tryz.func128,rfl,by decide⟩
theorem JsP:Je Pg 129:=⟨_,Tryz.func129,rfl,by decide⟩
theorem JoA:Je Pg 130:=⟨_,Tryz.func130,rfl,by decide⟩
theorem JsQ:Je Pg 131:=⟨_,Tryz.func131,rfl,by decide⟩
theorem JsR:Je Pg 132:=⟨_,Tryz.func132,rfl,by decide⟩
theorem JoB:Je Pg 133:=⟨_,Tryz.func133,rfl,by decide⟩
theorem JsS:Je Pg 134:=⟨_,Tryz.func134,rfl,by decide⟩
theorem JsT:Je Pg 135:=⟨_,Tryz.func135,rfl,by decide⟩
theorem JsU:Je Pg 136:=⟨_,Tryz.func136,rfl,by decide⟩
theorem JsV:Je Pg 137:=⟨_,Tryz.func137,rfl,by decide⟩
theorem JsW:Je Pg 138:=⟨_,Tryz.func138,rfl,by decide⟩
theorem JsX:Je Pg 139:=⟨_,Tryz.func139,rfl,by decide⟩
theorem JsY:Je Pg 140:=⟨_,Tryz.func140,rfl,by decide⟩
end Go.Proofs.Y
end
section
namespace Go.Proofs.Y
open Go Go.Ab
def JdI(W:World):Nat->Nat->Option Value:=fun b o=>(W.cell? ⟨b,o,none⟩).bind fun v=>if v.oneCell' then some v else none
theorem JdX{W:World}{b o:Nat}{v:Value}(h:W.cell? ⟨b,o,none⟩=some v)(h1:v.oneCell'=true):JdI W b o=some v:=by simp[JdI,h,h1]
theorem Jql(W:World):Jjc (JdI W) W:=by
 intro b o v h;simp only[JdI,Option.bind_eq_some_iff] at h;obtain⟨u,h1,h2⟩:=h;split at h2
 ·rename_i h3;cases h2;exact⟨h1,h3⟩
 ·cases h2
theorem Jqm{H:Type}(d:DataW H):1<=YtgbbhilflgekhaaGreatDoor.Rows.uptoBulk d:=by
 cases d with
 | lit l=>cases l <;> simp[YtgbbhilflgekhaaGreatDoor.Rows.uptoBulk]
 | _=>simp[YtgbbhilflgekhaaGreatDoor.Rows.uptoBulk]
theorem JkI{H:Type}(l:List (DataW H)):YtgbbhilflgekhaaGreatDoor.Rows.uptoBulkAll l=(l.map YtgbbhilflgekhaaGreatDoor.Rows.uptoBulk).sum:=by
 induction l with
 | nil=>simp[YtgbbhilflgekhaaGreatDoor.Rows.uptoBulkAll]
 | cons x l ih=>simp[YtgbbhilflgekhaaGreatDoor.Rows.uptoBulkAll,ih]
section
variable {H:Type} (enc:TypeId × Value->H) (P:Program) (W:World)
def Rd (n:Nat)(t:TypeId)(E:List AV->Nat->Prop):Prop :=
 ∀ cs d ps,DataW.trod enc P W 0 (fun _=>true) true n t cs=some (d,ps)->(∀ c∈cs,c.oneCell'=true)/\∃ av,J4 (gm (JdI W)) cs av/\E av (YtgbbhilflgekhaaGreatDoor.Rows.uptoBulk d)
variable {enc P W}
theorem Rd.mono{n:Nat}{t:TypeId}{E F:List AV->Nat->Prop}(h:Rd enc P W n t E)(k:∀ av m,E av m->F av m):Rd enc P W n t F:=fun cs d ps e=>by
 obtain⟨h1,av,h2,h3⟩:=h cs d ps e;exact⟨h1,av,h2,k av _ h3⟩
theorem Rd.zero{t:TypeId}{E:List AV->Nat->Prop}:Rd enc P W 0 t E:=fun cs d ps e=>by simp[DataW.trod] at e
theorem Jia{g:Gh}{v:Value}(h:JfW v=true):J4 g [v] [.lit v]:=.cons (.lit h) .nil
theorem JdY{t:TypeId}{ti:TI}(h:Js P t=some ti):∃ d,P.underlying t=some d/\ti.kd=JcM d/\P.cellsOf t=ti.size:=by
 obtain⟨i,d,h1,h2,h3,h4,_⟩:=JB h;exact⟨d,h2,h3,by simp[Program.cellsOf,h1,h4]⟩
theorem Jhi{t:TypeId}{ti:TI}(h:Js P t=some ti):P.cellsOf t=ti.size:=(JdY h).choose_spec.2.2
theorem Rd.int{n:Nat}{t:TypeId}{ti:TI}(h:Js P t=some ti){k:IntKind}(hk:ti.kd = .int k):Rd enc P W n t (fun av m=>∃ z,(Lit.int k z).wf=true/\av=[.lit (.int k z)]):=by
 cases n with
 | zero=>exact .zero
 | succ n =>
  intro cs d ps e;obtain⟨u,hu,hd,_⟩:=JdY h;rw[hk] at hd;cases u <;> simp[JcM] at hd
  subst hd;rw[DataW.trod_step] at e;unfold DataW.trodStep at e;rw[hu] at e;split at e <;> rename_i heq <;> first | (cases heq;done) | skip
  ·rename_i k' q;cases heq;split at e
   ·rename_i hc;obtain⟨rfl,hw⟩:=hc;exact⟨by simp[Value.oneCell'],_,Jia rfl,_,hw,rfl⟩
   ·cases e
  all_goals simp_all
theorem Rd.bool{n:Nat}{t:TypeId}{ti:TI}(h:Js P t=some ti)(hk:ti.kd = .bool):Rd enc P W n t (fun av m=>∃ b,av=[.lit (.bool b)]):=by
 cases n with
 | zero=>exact .zero
 | succ n =>
  intro cs d ps e;obtain⟨u,hu,hd,_⟩:=JdY h;rw[hk] at hd;cases u <;> simp[JcM] at hd
  rw[DataW.trod_step] at e;unfold DataW.trodStep at e;rw[hu] at e;split at e <;> rename_i heq <;> first | (cases heq;done) | skip
  ·exact⟨by simp[Value.oneCell'],_,Jia rfl,_,rfl⟩
  all_goals simp_all
theorem Rd.str{n:Nat}{t:TypeId}{ti:TI}(h:Js P t=some ti)(hk:ti.kd = .str):Rd enc P W n t (fun av m=>∃ s:ByteArray,s.size<=maxLen/\s.size+1=m/\av=[.lit (.string s)]):=by
 cases n with
 | zero=>exact .zero
 | succ n =>
  intro cs d ps e;obtain⟨u,hu,hd,_⟩:=JdY h;rw[hk] at hd;cases u <;> simp[JcM] at hd
  rw[DataW.trod_step] at e;unfold DataW.trodStep at e;rw[hu] at e;split at e <;> rename_i heq <;> first | (cases heq;done) | skip
  ·rename_i s;split at e
   ·rename_i hs;cases e;refine⟨by simp[Value.oneCell'],_,Jia rfl,s,hs,?_,rfl⟩;simp only[YtgbbhilflgekhaaGreatDoor.Rows.uptoBulk];rw[Array.length_toList];rfl
   ·cases e
  all_goals simp_all
theorem JlD{α β:Type}{f:α->Option β}:∀ {l:List α} {r:List β},l.mapM f=some r->∀ (i:Nat) (x:α),l[i]? = some x->∃ y,r[i]? = some y/\f x=some y:=by
 intro l;induction l with
 | nil=>intro r h i x e;simp at e
 | cons a l ih =>
  intro r h i x e;rw[List.mapM_cons] at h;cases hx:f a with
  | none=>simp[hx] at h
  | some y =>
   cases hxs:l.mapM f with
   | none=>simp[hx,hxs] at h
   | some ys =>
    simp[hx,hxs] at h;subst h;cases i with
    | zero=>simp at e;subst e;exact⟨y,rfl,hx⟩
    | succ i=>simp at e;simpa using ih hxs i x e
theorem Jgm{a:Addr}{i:Nat}{v:Value}(h:W.cell? (a.add i)=some v):a.add i=⟨a.block,a.off+i,none⟩:=by
 have hspot:(a.add i).spot=none:=by
  cases hsp:(a.add i).spot with
  | none=>rfl
  | some s =>
   simp only[World.cell?] at h;split at h
   ·simp[hsp] at h
   ·cases h
 unfold Addr.add at hspot ⊢;split
 ·rename_i h0;subst h0;rw[if_pos rfl] at hspot;cases a
  simp_all
 ·rfl
theorem Jmw{a:Addr}{n:Nat}{cs:List Value}(h:W.cells? 0 a n=some cs):cs.length=n/\∀ (i:Nat) (v:Value),cs[i]? = some v->W.cell? ⟨a.block,a.off+i,none⟩=some v/\W.cell? (a.add i)=some v:=by
 unfold World.cells? at h;rw[if_pos (Nat.zero_le _)] at h;have hl:cs.length=n:=by simpa using mapM_some_length h
 refine⟨hl,fun i v e=>?_⟩;have hi:i<n:=by have:=(List.getElem?_eq_some_iff.1 e).1;omega
 obtain⟨y,h1,h2⟩:=JlD h i i (by simp[hi]);rw[e] at h1;cases h1;exact⟨by rw[<- Jgm h2];exact h2,h2⟩
theorem JsZ{a:Addr}{i j:Nat}:(a.add i).add j=a.add (i+j):=by
 unfold Addr.add;by_cases h:i=0
 ·subst h;simp
 ·by_cases h2:j=0
  ·subst h2;simp
  ·simp[h,h2,Nat.add_assoc]
theorem Rd.slice{n:Nat}{t e:TypeId}{ti te:TI}(h:Js P t=some ti)(hk:ti.kd = .sl e)(he:Js P e=some te)(hpos:0<te.size){E:List AV->Nat->Prop}(hE:Rd enc P W n e E) :
  Rd enc P W (n+1) t (fun av m=>∃ l:List (List AV × Nat),av=[.vec (l.map (·.1)) false]/\(∀ p∈l,E p.1 p.2/\1<=p.2/\p.1.length=te.size)/\(l.map (·.2)).sum+1<=m/\l.length<=maxLen):=by
 intro cs d ps e0;obtain⟨u,hu,hd,_⟩:=JdY h;rw[hk] at hd;cases u <;> simp[JcM] at hd
 subst hd;have hc:=Jhi he;rw[DataW.trod_step] at e0;unfold DataW.trodStep at e0;rw[hu] at e0;split at e0 <;> rename_i heq <;> first | (cases heq;done) | skip
 ·cases e0;refine⟨by simp[Value.oneCell'],_,.cons .vecN .nil,[],rfl,by simp,by simp[YtgbbhilflgekhaaGreatDoor.Rows.uptoBulk],by simp⟩
 ·rename_i a len cap;cases heq;simp only at e0;split at e0
  ·rename_i hcond;obtain⟨_,hlc,hcm⟩:=hcond;simp only[Option.map_eq_some_iff,Option.bind_eq_some_iff] at e0;obtain⟨elems,hel,rest,hrest,heq2⟩:=e0;cases heq2;have hlen:elems.length=len:=by simpa using mapM_some_length hel
   refine⟨by simp[Value.oneCell'],?_⟩;have row:∀ i,i<len->∃ y,elems[i]? = some y/\∃ cs',cs'.length=te.size/\(∀ j v,cs'[j]? = some v->W.cell? (a.add (i * te.size+j))=some v)/\(∀ c∈cs',c.oneCell'=true)/\∃ av,J4 (gm (JdI W)) cs' av/\E av (YtgbbhilflgekhaaGreatDoor.Rows.uptoBulk y.1):=by
    intro i hi;obtain⟨y,h1,h2⟩:=JlD hel i i (by simp[hi]);simp only[Option.bind_eq_some_iff] at h2;obtain⟨cs',hc1,hc2⟩:=h2;rw[hc] at hc1;obtain⟨c1,c2⟩:=Jmw hc1;obtain⟨y1,y2⟩:=y;obtain⟨r1,r2⟩:=hE _ _ _ hc2;refine⟨_,h1,cs',c1,fun j v e=>?_,r1,r2⟩;rw[<- JsZ];exact(c2 j v e).2
   by_cases h0:len=0
   ·subst h0;have:elems=[]:=List.length_eq_zero_iff.1 hlen;subst this;exact⟨_,.cons (.vecE (fun q=>by cases q)) .nil,[],rfl,by simp,by simp[YtgbbhilflgekhaaGreatDoor.Rows.uptoBulk,YtgbbhilflgekhaaGreatDoor.Rows.uptoBulkAll],by simp⟩
   ·
    have hp:0<len:=by omega
    obtain⟨y0,g1,cs0,g2,g3,_⟩:=row 0 hp;obtain⟨v0,hv0⟩:∃ v0,cs0[0]? = some v0:=⟨cs0[0]'(by omega),by simp⟩;have ha:a=⟨a.block,a.off,none⟩:=by
     have:=g3 0 v0 hv0;have h2:=Jgm (a:=a) (i:=0) (by simpa using this);simpa [Addr.add] using h2
    classical
    let asf:Nat->List AV:=fun i=>if hi:i<len then (row i hi).choose_spec.2.choose_spec.2.2.2.choose else []
    let csf:Nat->List Value:=fun i=>if hi:i<len then (row i hi).choose_spec.2.choose else []
    let yf:Nat->Nat:=fun i=>if hi:i<len then YtgbbhilflgekhaaGreatDoor.Rows.uptoBulk (row i hi).choose.1 else 0
    have fact:∀ i,i<len->elems[i]?.map (fun y=>YtgbbhilflgekhaaGreatDoor.Rows.uptoBulk y.1)=some (yf i)/\(csf i).length=te.size/\(∀ j v,(csf i)[j]? = some v->W.cell? (a.add (i * te.size+j))=some v)/\(∀ c∈csf i,c.oneCell'=true)/\J4 (gm (JdI W)) (csf i) (asf i)/\E (asf i) (yf i)/\1<=yf i:=by
     intro i hi;have q:=(row i hi).choose_spec;have q2:=q.2.choose_spec;have q3:=q2.2.2.2.choose_spec;simp only[asf,csf,yf,dif_pos hi];exact⟨congrArg (Option.map fun y=>YtgbbhilflgekhaaGreatDoor.Rows.uptoBulk y.1) q.1,q2.1,q2.2.1,q2.2.2.1,q3.1,q3.2,Jqm _⟩
    let l:List (List AV × Nat):=(List.range len).map fun i=>(asf i,yf i)
    have hll:l.length=len:=by simp[l]
    have hxs:(l.map (·.1))=(List.range len).map asf:=by simp[l,Function.comp_def]
    have hys:(l.map (·.2))=elems.map (fun y=>YtgbbhilflgekhaaGreatDoor.Rows.uptoBulk y.1):=by
     apply List.ext_getElem?;intro i;simp only[l,List.map_map,List.getElem?_map,Function.comp_def];by_cases hi:i<len
     ·rw[(fact i hi).1];simp[hi]
     ·simp[List.getElem?_eq_none (l:=elems) (i:=i) (by omega),hi]
    refine⟨[.vec (l.map (·.1)) false],.cons ?_ .nil,l,rfl,?_,?_,by rw[hll];omega⟩
    ·rw[ha];have key:Rep (gm (JdI W)) (.slice (some ⟨a.block,a.off,none⟩) ((List.range len).map asf).length cap) (.vec ((List.range len).map asf) false):=by
      refine .vec (s:=te.size) (fun i j=>(csf i).getD j (.bool false)) ?_ (fun q=>by cases q) (by simpa using hlc) ?_ ?_
      ·intro x hx;obtain⟨i,hi,rfl⟩:=List.mem_map.1 hx;have:=fact i (by simpa using hi);rw[<- this.2.2.2.2.1.1];exact this.2.1
      ·intro i x j b e1 e2;have hi:i<len:=by have:=(List.getElem?_eq_some_iff.1 e1).1;simpa using this
       have hx:asf i=x:=by simpa [hi] using e1
       subst hx;obtain⟨_,f2,f3,f4,f5,_⟩:=fact i hi;have hj:j<(csf i).length:=by rw[f5.1];exact(List.getElem?_eq_some_iff.1 e2).1
       have hv:(csf i)[j]? = some ((csf i).getD j (.bool false)):=by simp[List.getD,hj]
       have hcell:=f3 j _ hv;have:=Jgm hcell;rw[this] at hcell;rw[Nat.add_assoc];exact JdX hcell (f4 _ (List.mem_of_getElem? hv))
      ·intro i x j b e1 e2;have hi:i<len:=by have:=(List.getElem?_eq_some_iff.1 e1).1;simpa using this
       have hx:asf i=x:=by simpa [hi] using e1
       subst hx;obtain⟨_,f2,f3,f4,f5,_⟩:=fact i hi;have hj:j<(csf i).length:=by rw[f5.1];exact(List.getElem?_eq_some_iff.1 e2).1
       have hv:(csf i)[j]? = some ((csf i).getD j (.bool false)):=by simp[List.getD,hj]
       exact f5.2 j _ b hv e2
     rw[hxs];simpa using key
    ·intro p hp;obtain⟨i,hi,rfl⟩:=List.mem_map.1 hp;obtain⟨_,f2,_,_,f5,f6,f7⟩:=fact i (by simpa using hi);exact⟨f6,f7,by rw[<- f5.1];exact f2⟩
    ·rw[hys];simp only[YtgbbhilflgekhaaGreatDoor.Rows.uptoBulk,JkI,List.map_map];have:(List.map (YtgbbhilflgekhaaGreatDoor.Rows.uptoBulk ∘ fun x=>x.fst) elems).sum=(List.map (fun y=>YtgbbhilflgekhaaGreatDoor.Rows.uptoBulk y.1) elems).sum:=rfl;omega
  ·cases e0
 all_goals simp_all
def Js0 (enc:TypeId × Value->H)(P:Program)(W:World)(n N:Nat)(fs:List (Nat × TypeId))(k:Nat)(E:List AV->Nat->Prop):Prop :=
 ∀ (cs:List Value) (xs:List (DataW H × List MemPlace)),cs.length=N->(fs.mapM fun f=>DataW.trod enc P W 0 (fun _=>true) true n f.2 ((cs.drop f.1).take (P.cellsOf f.2)))=some xs ->
  (∀ c∈cs.drop k,c.oneCell'=true)/\∃ av,J4 (gm (JdI W)) (cs.drop k) av/\E av (YtgbbhilflgekhaaGreatDoor.Rows.uptoBulkAll (xs.map (·.1)))
theorem Js0.nil{n N k:Nat}(h:N<=k):Js0 enc P W n N [] k (fun av m=>av=[]):=fun cs xs hl _=>by
 have:cs.drop k=[]:=List.drop_eq_nil_of_le (by omega);rw[this];exact⟨by simp,[],.nil,rfl⟩
theorem Js0.cons{n N k t:Nat}{ti:TI}{fs:List (Nat × TypeId)}{E F:List AV->Nat->Prop}(ht:Js P t=some ti)(h:Rd enc P W n t E)(r:Js0 enc P W n N fs (k+ti.size) F) :
  Js0 enc P W n N ((k,t) :: fs) k (fun av m=>∃ a b p q,av=a++b/\E a p/\F b q/\p+q=m):=by
 intro cs xs hl hm;rw[List.mapM_cons] at hm;simp only[bind,Option.bind_eq_some_iff,pure,Option.some.injEq] at hm;obtain⟨⟨d,ps⟩,h1,ys,h2,rfl⟩:=hm;obtain⟨q1,av,q2,q3⟩:=h _ _ _ h1;obtain⟨r1,bs,r2,r3⟩:=r cs ys hl h2;have e:cs.drop k=(cs.drop k).take (P.cellsOf t)++cs.drop (k+ti.size):=by
  rw[Jhi ht,<- List.drop_drop,List.take_append_drop]
 rw[e];refine⟨fun c hc=>?_,av++bs,q2.append r2,av,bs,_,_,rfl,q3,r3,?_⟩
 ·rcases List.mem_append.1 hc with hc | hc
  ·exact q1 c hc
  ·exact r1 c hc
 ·simp[YtgbbhilflgekhaaGreatDoor.Rows.uptoBulkAll]
theorem Jjw{α β γ:Type}(f:α->β)(g:β->Option γ):∀ l:List α,(l.map f).mapM g=l.mapM fun x=>g (f x)
 | []=>by simp
 | x :: l=>by simp only[List.map_cons,List.mapM_cons,Jjw f g l]
theorem Rd.struct{n:Nat}{t:TypeId}{ti:TI}(h:Js P t=some ti){fs:List (Nat × TypeId)}(hk:ti.kd = .st fs){E:List AV->Nat->Prop}(hE:Js0 enc P W n ti.size fs 0 E) :
  Rd enc P W (n+1) t (fun av m=>∃ q,E av q/\q+1=m):=by
 intro cs d ps e0;obtain⟨u,hu,hd,hc⟩:=JdY h;rw[hk] at hd;cases u <;> simp[JcM] at hd
 rename_i fs';subst hd;rw[DataW.trod_step] at e0;unfold DataW.trodStep at e0;rw[hu] at e0;have key:(if cs.length=P.cellsOf t then (fs'.toList.mapM fun f=>DataW.trod enc P W 0 (fun _=>true) true n f.type ((cs.drop f.offset).take (P.cellsOf f.type))).map fun xs=>(DataW.agg (xs.map (·.1)),xs.flatMap (·.2)) else none)=some (d,ps):=by
  split at e0 <;> rename_i heq <;> first | (cases heq;done) | skip
  ·cases heq;exact e0
  all_goals simp_all
 split at key
 ·rename_i hl;simp only[Option.map_eq_some_iff,Prod.mk.injEq] at key;obtain⟨xs,h1,rfl,rfl⟩:=key;rw[hc] at hl;obtain⟨r1,av,r2,r3⟩:=hE cs xs hl (by rw[Jjw];exact h1);exact⟨by simpa using r1,av,by simpa using r2,_,r3,by simp[YtgbbhilflgekhaaGreatDoor.Rows.uptoBulk]⟩
 ·cases key
theorem JoC{T:Type}{f:T->List AV}{sz:T->Nat}{E:List AV->Nat->Prop}(hE:∀ a m,E a m->∃ t,a=f t/\sz t<=m):∀ (l:List (List AV × Nat)),(∀ p∈l,E p.1 p.2)->∃ ts:List T,l.map (·.1)=ts.map f/\(ts.map sz).sum<=(l.map (·.2)).sum
 | [],_=>⟨[],rfl,Nat.le_refl _⟩
 | p :: l,h=>by
  obtain⟨t,h1,h2⟩:=hE _ _ (h p (by simp));obtain⟨ts,h3,h4⟩:=JoC hE l (fun q hq=>h q (by simp[hq]));exact⟨t :: ts,by simp[h1,h3],by simp;omega⟩
end
end Go.Proofs.Y
end
section
namespace Go.Proofs.Y
open Go Go.Ab
open Go.Proofs.Tryz renaming prog->Pg
theorem Jdi{n:Int}(h : -9223372036854775808<=n)(k:n<=9223372036854775807):IntKind.i64.wrap n=n:=IntWalk.i64_in n ⟨h,k⟩
theorem mixed:Tryz.prog.follows .mixedOrders=true:=by decide
theorem JoD{σ:St}{h:Hp}{v:AV}{N:Nat}(t:Nat)(ho:Own h)(hN:h.nx=N)(hle:N<=σ.hp.nx)(hv:lk σ.slots t=some v)(hp:Rn id N v v)(hb:∀ p∈h.boxes,lk σ.hp.boxes p.1=some p.2)(ht:∀ p∈h.toks,lk σ.hp.toks p.1=some p.2) :
  ∃ σ',St.cp N σ σ'/\Jfl (JaL Pg σ' [.tmp t]) (fun r h'=>r=v/\h'=h) σ'.hp:=Jp6 t ho hN hle hv hp hb ht
abbrev I8:={z:Int // -128<=z/\z<=127}
theorem I8.lo(z:I8) : -128<=z.1:=z.2.1
theorem I8.hi(z:I8):z.1<=127:=z.2.2
instance:Inhabited I8:=⟨⟨0,by decide⟩⟩
inductive Gd where
 | mk (op:I8) (n:Int) (name:ByteArray) (kids:List Gd)
structure Ed where
 op:I8
 set:List (Int × Int)
 n:Int
 level:Int
 g:Gd
 acts:List (Int × Int)
 to:Int
structure Sta where
 rule:Int
 edges:List Ed
structure Nr where
 name:ByteArray
 lexer:Bool
 frag:Bool
 lz:Bool
 left:Bool
 mode:Int
 type:Int
 start:Int
 stop:Int
structure Nt where
 types:List ByteArray
 channels:List ByteArray
 modes:List ByteArray
 rules:List Nr
 states:List Sta
structure It where
 type:Int
 index:Int
 column:Int
 made:Bool
 token:Int
structure Orc where
 id:Int
 index:Int
 says:Bool
instance:Inhabited Gd:=⟨.mk default 0 ⟨#[]⟩ []⟩
instance:Inhabited Ed:=⟨⟨default,[],0,0,default,[],0⟩⟩
instance:Inhabited Sta:=⟨⟨0,[]⟩⟩
instance:Inhabited Nr:=⟨⟨⟨#[]⟩,false,false,false,false,0,0,0,0⟩⟩
instance:Inhabited Nt:=⟨⟨[],[],[],[],[]⟩⟩
instance:Inhabited It:=⟨⟨0,0,0,false,0⟩⟩
instance:Inhabited Orc:=⟨⟨0,0,false⟩⟩
def Gd.op:Gd->I8 | .mk a _ _ _=>a
def Gd.n:Gd->Int | .mk _ a _ _=>a
def Gd.name:Gd->ByteArray | .mk _ _ a _=>a
def Gd.kids:Gd->List Gd | .mk _ _ _ a=>a
mutual
def JaU:Gd->List AV
 | .mk op n name kids=>[.lit (.int .i8 op.1),.lit (.int .i64 n),.lit (.string name),.vec (encGs kids) false]
def encGs:List Gd->List (List AV)
 | []=>[]
 | g :: l=>JaU g :: encGs l
end
theorem Jgn(l:List Gd):encGs l=l.map JaU:=by induction l with | nil=>rfl | cons x l ih=>simp[encGs,ih]
theorem Jw(g:Gd):JaU g=[.lit (.int .i8 g.op.1),.lit (.int .i64 g.n),.lit (.string g.name),.vec (g.kids.map JaU) false]:=by cases g;simp only[JaU,Jgn];rfl
def Jbb (p:Int × Int):List AV:=[.lit (.int .i32 p.1),.lit (.int .i32 p.2)]
def Jy(p:Int × Int):List AV:=[.lit (.int .i8 p.1),.lit (.int .i64 p.2)]
def Jn (e:Ed):List AV:=[.lit (.int .i8 e.op.1),.vec (e.set.map Jbb) false,.lit (.int .i64 e.n),.lit (.int .i64 e.level),.lit (.int .i8 e.g.op.1),.lit (.int .i64 e.g.n),.lit (.string e.g.name),.vec (e.g.kids.map JaU) false,.vec (e.acts.map Jy) false,.lit (.int .i64 e.to)]
def Jd(s:Sta):List AV:=[.lit (.int .i64 s.rule),.vec (s.edges.map Jn) false]
def Jc(r:Nr):List AV:=[.lit (.string r.name),.lit (.bool r.lexer),.lit (.bool r.frag),.lit (.bool r.lz),.lit (.bool r.left),.lit (.int .i64 r.mode),.lit (.int .i64 r.type),.lit (.int .i64 r.start),.lit (.int .i64 r.stop)]
def JaD (b:ByteArray):List AV:=[.lit (.string b)]
def Jh (n:Nt):List AV:=[.vec (n.types.map JaD) false,.vec (n.channels.map JaD) false,.vec (n.modes.map JaD) false,.vec (n.rules.map Jc) false,.vec (n.states.map Jd) false]
def JzM (i:It):List AV:=[.lit (.int .i64 i.type),.lit (.int .i64 i.index),.lit (.int .i64 i.column),.lit (.bool i.made),.lit (.int .i64 i.token)]
def Jct (o:Orc):List AV:=[.lit (.int .i64 o.id),.lit (.int .i64 o.index),.lit (.bool o.says)]
def Jqn (n:Int):List AV:=[.lit (.int .i64 n)]
theorem Jem(g:Gd):(JaU g).length=4:=by cases g;rfl
theorem Jgo(e:Ed):(Jn e).length=10:=rfl
theorem Jfr(s:Sta):(Jd s).length=2:=rfl
theorem Jfs(r:Nr):(Jc r).length=9:=rfl
theorem Jav(n:Nt):(Jh n).length=5:=rfl
theorem Jgp(i:It):(JzM i).length=5:=rfl
theorem Jen(o:Orc):(Jct o).length=3:=rfl
theorem Jeo(o:Int × Int):(Jbb o).length=2:=rfl
theorem Jbt(o:Int × Int):(Jy o).length=2:=rfl
theorem Jgq(o:ByteArray):(JaD o).length=1:=rfl
theorem Jgr(o:Int):(Jqn o).length=1:=rfl
theorem Jjx(g:Gd):(JaU g).take 4=JaU g:=by cases g;rfl
theorem Jjy(e:Ed):(Jn e).take 10=Jn e:=rfl
theorem Jhj(s:Sta):(Jd s).take 2=Jd s:=rfl
theorem Jhk(r:Nr):(Jc r).take 9=Jc r:=rfl
theorem JaY(n:Nt):(Jh n).take 5=Jh n:=rfl
theorem Jjz(i:It):(JzM i).take 5=JzM i:=rfl
theorem JjA(o:Orc):(Jct o).take 3=Jct o:=rfl
theorem JjB(o:Int × Int):(Jbb o).take 2=Jbb o:=rfl
theorem Jgs(o:Int × Int):(Jy o).take 2=Jy o:=rfl
theorem Jbc{σ σ':St}{N:Nat}(hN:N<=σ'.hp.nx)(hnx:σ'.hp.nx<=σ.hp.nx)(hnt:σ'.nt=σ.nt)(hs:∀ p∈σ'.slots,lk σ.slots p.1=some p.2/\Rn id σ'.hp.nx p.2 p.2)
  (hb:∀ p∈σ'.hp.boxes,p.1<σ'.hp.nx/\lk σ.hp.boxes p.1=some p.2/\RnL id σ'.hp.nx p.2 p.2)
  (ht:∀ p∈σ'.hp.toks,p.1<σ'.hp.nx/\lk σ.hp.toks p.1=some p.2/\RnR id σ'.hp.nx p.2.xs p.2.xs):St.cp N σ σ':=(St.cp_drop hnx hnt hs hb ht).mono hN
theorem JdZ{T:Type}(f:T->List AV){l:List T}{i:Nat}{x:T}(h:l[i]? = some x):(l.map f).getD i []=f x:=by simp[List.getD_eq_getElem?_getD,h]
theorem JBO{T:Type}[Inhabited T]{f:T->List AV}{l:List T}{i:Nat}(h:i<l.length):(l.map f).getD i []=f (l.getD i default):=by simp[List.getD_eq_getElem?_getD,List.getElem?_eq_getElem h]
theorem Jr0{T:Type}[Inhabited T]{f:T->List AV}{l:List T}{i:Nat}(h:i<l.length):(l.map f)[i]? = some (f (l.getD i default)):=by simp[List.getD_eq_getElem?_getD,List.getElem?_eq_getElem h]
theorem Jg4{a b:Int}(h:a=b):(a==b)=true:=by rw[h];exact beq_self_eq_true b
theorem Jkh{a b:Int}(h:¬ a=b):(a==b)=false:=by rw[beq_eq_false_iff_ne];exact h
theorem Jt{T:Type}[Inhabited T]{l:List T}{i:Nat}(h:i<l.length):l.getD i default∈l:=by rw[List.getD_eq_getElem?_getD,List.getElem?_eq_getElem h];exact List.getElem_mem h
theorem JfQ{T:Type}[Inhabited T]{l:List T}{i:Nat}(h:i<l.length):l[i]? = some (l.getD i default):=by rw[List.getD_eq_getElem?_getD,List.getElem?_eq_getElem h];rfl
theorem Jap{l:List AV}(h:∀ a∈l,∃ v,a = .lit v):∀ a∈l,Ab.Pure a:=fun a ha=>by obtain⟨v,rfl⟩:=h a ha;exact .lit v
theorem Ji{T:Type}{f:T->List AV}(h:∀ t,∀ c∈f t,Ab.Pure c)(l:List T):∀ x∈l.map f,∀ c∈x,Ab.Pure c:=fun x hx=>by
 obtain⟨t,_,rfl⟩:=List.mem_map.1 hx;exact h t
theorem JN(g:Gd):∀ c∈JaU g,Ab.Pure c:=by
 match g with
 | .mk op n name kids =>
  intro c hc;simp only[JaU,List.mem_cons,List.not_mem_nil,or_false] at hc;rcases hc with rfl | rfl | rfl | rfl
  iterate 3 exact .lit _
  refine .vec fun x hx=>?_
  rw[Jgn] at hx;obtain⟨k,hk,rfl⟩:=List.mem_map.1 hx;exact JN k
termination_by SizeOf.sizeOf g
decreasing_by simp_wf;have:=List.sizeOf_lt_of_mem hk;omega
theorem Jcj(p:Int × Int):∀ c∈Jbb p,Ab.Pure c:=Jap (by simp[Jbb])
theorem JU(p:Int × Int):∀ c∈Jy p,Ab.Pure c:=Jap (by simp[Jy])
theorem Jbu(p:Orc):∀ c∈Jct p,Ab.Pure c:=Jap (by simp[Jct])
theorem Jbj(p:Nr):∀ c∈Jc p,Ab.Pure c:=Jap (by simp[Jc])
theorem Jak(p:ByteArray):∀ c∈JaD p,Ab.Pure c:=Jap (by simp[JaD])
theorem JjC(p:Int):∀ c∈Jqn p,Ab.Pure c:=Jap (by simp[Jqn])
theorem JbQ(e:Ed):∀ c∈Jn e,Ab.Pure c :=
 Jb (.lit _) (Jb (.vec (Ji Jcj _)) (Jb (.lit _) (Jb (.lit _) (Jb (.lit _) (Jb (.lit _) (Jb (.lit _) (Jb (.vec (Ji JN _)) (Jb (.vec (Ji JU _)) (Jb (.lit _) Jl)))))))))
theorem JcZ(s:Sta):∀ c∈Jd s,Ab.Pure c:=Jb (.lit _) (Jb (.vec (Ji JbQ _)) Jl)
theorem J6(n:Nt):∀ c∈Jh n,Ab.Pure c :=
 Jb (.vec (Ji Jak _)) (Jb (.vec (Ji Jak _)) (Jb (.vec (Ji Jak _)) (Jb (.vec (Ji Jbj _)) (Jb (.vec (Ji JcZ _)) Jl))))
def grA (t:Nat):List (List AV)->AV
 | []=>.vec [] true
 | _ :: l=>.own t (l.length+1)
def grT (t s:Nat):List (List AV)->List (Nat × Tk)
 | []=>[]
 | x :: l=>[(t,⟨x :: l,0,s⟩)]
def grN (t:Nat):List (List AV)->Nat
 | []=>t
 | _ :: _=>t+1
theorem JM{n b:Nat}(h:n<=2000000000)(k:n * b<=140737488355328):Ja4 n b:=⟨Nat.le_trans h (by decide),k⟩
theorem JI{α:Type}:∀ (l m:List (Nat × α)) (i:Nat),lk (l++m) i=(lk l i).or (lk m i)
 | [],m,i=>by simp[lk]
 | (j,x) :: l,m,i=>by
  simp only[List.cons_append,lk];split
  ·rfl
  ·exact JI l m i
theorem St.wk_slots1{σ:St}{sl:List (Nat × AV)}{bx:List (Nat × List AV)}{tk:List (Nat × Tk)}(hs:∀ p∈sl,lk σ.slots p.1=some p.2)(hb:∀ p∈bx,lk σ.hp.boxes p.1=some p.2)(ht:∀ t,lk σ.hp.toks t=lk tk t) :
  St.wk σ ⟨sl,⟨bx,tk,σ.hp.nx⟩,σ.nt⟩ :=
 fun g0 h0 w0 g w a r=>⟨g,⟨r.st.less rfl (fun i c e=>hb _ (Jaz e)) (fun i c e=>(ht i).trans e),fun s v e=>r.slots s v (hs _ (Jaz e)),r.nt,r.defers⟩⟩
mutual
def gsz:Gd->Nat
 | .mk _ _ _ kids=>1+gszs kids
def gszs:List Gd->Nat
 | []=>0
 | g :: l=>gsz g+gszs l
end
theorem Jqo(l:List Gd):gszs l=(l.map gsz).sum:=by induction l with | nil=>rfl | cons x l ih=>simp[gszs,ih]
theorem JlE(g:Gd):gsz g=1+(g.kids.map gsz).sum:=by cases g;simp only[gsz,Jqo];rfl
theorem JdK{l:List Nat}{x:Nat}(h:x∈l):x<=l.sum:=by
 induction l with
 | nil=>cases h
 | cons y l ih =>
  simp only[List.sum_cons];rcases List.mem_cons.1 h with rfl | h
  ·omega
  ·have:=ih h;omega
theorem Jep{T:Type}(f:T->Nat)(h:∀ t,1<=f t)(l:List T):l.length<=(l.map f).sum:=by
 induction l with
 | nil=>simp
 | cons x l ih=>have:=h x;simp only[List.length_cons,List.map_cons,List.sum_cons];omega
theorem JcF(g:Gd):1<=gsz g:=by rw[JlE];omega
theorem Jbg{g k:Gd}(h:k∈g.kids):gsz k<gsz g:=by rw[JlE g];have:=JdK (List.mem_map_of_mem (f:=gsz) h);omega
theorem Jbv(g:Gd):g.kids.length<gsz g:=by rw[JlE g];have:=Jep gsz JcF g.kids;omega
theorem Jyt{z:Int}(h:(Lit.int .i8 z).wf=true) : -128<=z/\z<=127:=by
 simp only[Lit.wf,Bool.and_eq_true,decide_eq_true_eq] at h;have e1:IntKind.i8.min = -128:=by decide
 have e2:IntKind.i8.max=127:=by decide
 omega
section
variable {H:Type} {en:TypeId × Value->H} {W:World}
theorem Rd.slice'{n:Nat}{t e:TypeId}{ti te:TI}(h:Js Pg t=some ti)(hk:ti.kd = .sl e)(he:Js Pg e=some te)(hpos:0<te.size){T:Type}{f:T->List AV}{sz:T->Nat}
  (hE:∀ k,k<n->Rd en Pg W k e (fun av m=>∃ t:T,av=f t/\sz t<=m)) :
  Rd en Pg W n t (fun av m=>∃ l:List T,av=[.vec (l.map f) false]/\(l.map sz).sum+1<=m/\l.length+1<=m):=by
 cases n with
 | zero=>exact .zero
 | succ n =>
  refine(Rd.slice h hk he hpos (hE n (Nat.lt_succ_self n))).mono ?_;rintro av m ⟨l,rfl,h1,h2,_⟩;obtain⟨ts,h3,h4⟩:=JoC (f:=f) (sz:=sz) (fun a m h=>h) l (fun p hp=>(h1 p hp).1);have hl:l.length=ts.length:=by have:=congrArg List.length h3;simpa using this
  have h5:l.length<=(l.map (·.2)).sum:=by
   have:∀ l:List (List AV × Nat),(∀ p∈l,1<=p.2)->l.length<=(l.map (·.2)).sum:=by
    intro l;induction l with
    | nil=>intro _;simp
    | cons x l ih=>intro hh;have:=ih (fun p hp=>hh p (by simp[hp]));have:=hh x (by simp);simp only[List.length_cons,List.map_cons,List.sum_cons];omega
   exact this l (fun p hp=>(h1 p hp).2.1)
  exact⟨ts,by rw[h3],by omega,by omega⟩
theorem Rd.struct'{n:Nat}{t:TypeId}{ti:TI}(h:Js Pg t=some ti){fs:List (Nat × TypeId)}(hk:ti.kd = .st fs){E:List AV->Nat->Prop}(hE:∀ k,k<n->Js0 en Pg W k ti.size fs 0 E) :
  Rd en Pg W n t (fun av m=>∃ q,E av q/\q+1=m):=by
 cases n with
 | zero=>exact .zero
 | succ n=>exact .struct h hk (hE n (Nat.lt_succ_self n))
theorem Jyu(n:Nat):Rd en Pg W n 78 (fun av m=>∃ t:Int × Int,av=Jy t/\1<=m):=by
 refine(Rd.struct' Jt9 rfl fun k hk=>.cons JrL (.int JrL rfl) (.cons ty3 (.int ty3 rfl) (.nil (by decide)))).mono ?_;rintro av m ⟨q,h,rfl⟩;obtain⟨_,_,_,_,rfl,⟨z1,_,rfl⟩,h,rfl⟩:=h;obtain⟨_,_,_,_,rfl,⟨z2,_,rfl⟩,rfl,rfl⟩:=h;exact⟨(z1,z2),rfl,by omega⟩
theorem Jyv(n:Nat):Rd en Pg W n 201 (fun av m=>∃ t:Orc,av=Jct t/\1<=m):=by
 refine(Rd.struct' Jqj rfl fun k hk=>.cons ty2 (.int ty2 rfl) (.cons ty2 (.int ty2 rfl) (.cons ty4 (.bool ty4 rfl) (.nil (by decide))))).mono ?_;rintro av m ⟨q,h,rfl⟩;obtain⟨_,_,_,_,rfl,⟨z1,_,rfl⟩,h,rfl⟩:=h;obtain⟨_,_,_,_,rfl,⟨z2,_,rfl⟩,h,rfl⟩:=h;obtain⟨_,_,_,_,rfl,⟨b,rfl⟩,rfl,rfl⟩:=h;exact⟨⟨z1,z2,b⟩,rfl,by omega⟩
end
end Go.Proofs.Y
end
section
namespace Go.Proofs.Y
open Go Go.Ab
theorem Azz:(type_of% @if_pos.{1})/\(type_of% @if_neg.{1})/\(type_of% @decide_eq_true)/\(type_of% @decide_eq_false)/\(type_of% @JBO)/\(type_of% @Jr0)/\(type_of% @List.length_map.{0,0})/\(type_of% @Int.toNat_natCast)/\(type_of% @Int.toNat_zero)/\(type_of% @Int.toNat_one)/\(type_of% @Jdi)/\(type_of% @bne.eq_def.{0})/\(type_of% @Jg4)/\(type_of% @Jkh)/\(type_of% @Jgo)/\(type_of% @Jfr)/\(type_of% @Jfs)/\(type_of% @Jav)/\(type_of% @Jgp)/\(type_of% @Jen)/\(type_of% @Jeo)/\(type_of% @Jbt)/\(type_of% @Jgq)/\(type_of% @Jgr)/\(type_of% @Jem)/\(type_of% @Jjx)/\(type_of% @Jjy)/\(type_of% @Jhj)/\(type_of% @Jhk)/\(type_of% @JaY)/\(type_of% @Jjz)/\(type_of% @JjA)/\(type_of% @JjB)/\(type_of% @Jgs):=⟨@if_pos.{1},@if_neg.{1},@decide_eq_true,@decide_eq_false,@JBO,@Jr0,@List.length_map.{0,0},@Int.toNat_natCast,@Int.toNat_zero,@Int.toNat_one,@Jdi,@bne.eq_def.{0},@Jg4,@Jkh,@Jgo,@Jfr,@Jfs,@Jav,@Jgp,@Jen,@Jeo,@Jbt,@Jgq,@Jgr,@Jem,@Jjx,@Jjy,@Jhj,@Jhk,@JaY,@Jjz,@JjA,@JjB,@Jgs⟩
theorem Wz:(type_of% @Wa)/\(type_of% @tyW)/\(type_of% @Azz)/\(type_of% @decide_false)/\(type_of% @decide_true)/\(type_of% @Bool.not_false)/\(type_of% @Bool.not_true):=⟨Wa,tyW,Azz,@decide_false,@decide_true,Bool.not_false,Bool.not_true⟩
theorem Lx:(type_of% @List.append_eq.{0})/\(type_of% @List.cons_append.{0})/\(type_of% @List.nil_append.{0}):=⟨@List.append_eq.{0},@List.cons_append.{0},@List.nil_append.{0}⟩
theorem Bx:(type_of% @Bool.true_and)/\(type_of% @Bool.false_and)/\(type_of% @Bool.and_true)/\(type_of% @Bool.and_false):=⟨@Bool.true_and,@Bool.false_and,@Bool.and_true,@Bool.and_false⟩
theorem Bf:(type_of% @Bool.false_eq_true)/\(type_of% @if_true.{1})/\(type_of% @if_false.{1}):=⟨@Bool.false_eq_true,@if_true.{1},@if_false.{1}⟩
end Go.Proofs.Y
end
