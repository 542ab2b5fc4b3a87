/- Parts of the proof, laid together. -/
import Derived.Test.YtgbbhilflgekhaaGreatDoorVyc
import Derived.Test.YtgbbhilflgekhaaGreatDoorProg
import Derived.KernelRfl
import Derived.Test.YtgbbhilflgekhaaGreatDoorRows
import Derived.ChangeReads
import Derived.WideShapes
set_option linter.unusedVariables false
set_option linter.unusedSimpArgs false
set_option maxRecDepth 20000
set_option maxHeartbeats 16000000
section
namespace Go.Proofs.Y
open Go.Ab
open Go.Proofs.Tryz renaming prog->Pg
theorem ty1:Jt Pg 1=some {kd:=.oth,size:=1,bytes:=8,zero:=some [.lit .nilFunc]}:=by kernel_rfl
theorem fn1:Jaj Pg 1=true:=by kernel_rfl
theorem ty2:Jt Pg 2=some {kd:=.int .i64,size:=1,bytes:=8,zero:=some [.lit (.int .i64 0)]}:=by kernel_rfl
theorem ty3:Jt Pg 3=some {kd:=.int .i64,size:=1,bytes:=8,zero:=some [.lit (.int .i64 0)]}:=by kernel_rfl
theorem ty4:Jt Pg 4=some {kd:=.bool,size:=1,bytes:=1,zero:=some [.lit (.bool false)]}:=by kernel_rfl
theorem zr4:Jdm Pg 4=some (.lit (.bool false)):=by kernel_rfl
theorem ty5:Jt Pg 5=some {kd:=.int .u8,size:=1,bytes:=1,zero:=some [.lit (.int .u8 0)]}:=by kernel_rfl
theorem ty6:Jt Pg 6=some {kd:=.int .u8,size:=1,bytes:=1,zero:=some [.lit (.int .u8 0)]}:=by kernel_rfl
theorem ty7:Jt Pg 7=some {kd:=.st [(0,2),(1,3),(2,4),(3,6)],size:=4,bytes:=24,zero:=some [.lit (.int .i64 0),.lit (.int .i64 0),.lit (.bool false),.lit (.int .u8 0)]}:=by kernel_rfl
theorem ty8:Jt Pg 8=some {kd:=.st [(0,2),(1,3),(2,4),(3,6)],size:=4,bytes:=24,zero:=some [.lit (.int .i64 0),.lit (.int .i64 0),.lit (.bool false),.lit (.int .u8 0)]}:=by kernel_rfl
theorem ty9:Jt Pg 9=some {kd:=.str,size:=1,bytes:=16,zero:=some [.lit (.string ⟨#[]⟩)]}:=by kernel_rfl
theorem Jzv:Jt Pg 10=some {kd:=.str,size:=1,bytes:=16,zero:=some [.lit (.string ⟨#[]⟩)]}:=by kernel_rfl
theorem Jzw:Jt Pg 11=some {kd:=.str,size:=1,bytes:=16,zero:=some [.lit (.string ⟨#[]⟩)]}:=by kernel_rfl
theorem Jzx:Jt Pg 12=some {kd:=.int .u64,size:=1,bytes:=8,zero:=some [.lit (.int .u64 0)]}:=by kernel_rfl
theorem Jzy:Jt Pg 13=some {kd:=.st [(0,9),(1,12)],size:=2,bytes:=24,zero:=some [.lit (.string ⟨#[]⟩),.lit (.int .u64 0)]}:=by kernel_rfl
theorem Jzz:Jt Pg 14=some {kd:=.st [(0,9),(1,12)],size:=2,bytes:=24,zero:=some [.lit (.string ⟨#[]⟩),.lit (.int .u64 0)]}:=by kernel_rfl
theorem JzA:Jt Pg 15=some {kd:=.oth,size:=1,bytes:=8,zero:=some [.lit (.pointer none)]}:=by kernel_rfl
theorem JzB:Jd7 Pg 15=true:=by kernel_rfl
theorem JzC:Jt Pg 16=some {kd:=.oth,size:=1,bytes:=8,zero:=some [.lit (.pointer none)]}:=by kernel_rfl
theorem JzD:Jd7 Pg 16=true:=by kernel_rfl
theorem JzE:Jt Pg 17=some {kd:=.oth,size:=1,bytes:=8,zero:=some [.lit (.pointer none)]}:=by kernel_rfl
theorem JzF:Jd7 Pg 17=true:=by kernel_rfl
theorem JzG:Jt Pg 18=some {kd:=.st [(0,17)],size:=1,bytes:=8,zero:=some [.lit (.pointer none)]}:=by kernel_rfl
theorem JzH:Jt Pg 19=some {kd:=.st [(0,17)],size:=1,bytes:=8,zero:=some [.lit (.pointer none)]}:=by kernel_rfl
theorem Jta:Jt Pg 21=some {kd:=.int .i32,size:=1,bytes:=4,zero:=some [.lit (.int .i32 0)]}:=by kernel_rfl
theorem Jtb:Jt Pg 22=some {kd:=.sl 9,size:=1,bytes:=24,zero:=some [.vec [] true]}:=by kernel_rfl
theorem JyE:Jt Pg 23=some {kd:=.sl 39,size:=1,bytes:=24,zero:=some [.vec [] true]}:=by kernel_rfl
theorem JyF:Jt Pg 24=some {kd:=.sl 87,size:=1,bytes:=24,zero:=some [.vec [] true]}:=by kernel_rfl
theorem JzI:Jt Pg 25=some {kd:=.st [(0,22),(1,22),(2,22),(3,23),(4,24)],size:=5,bytes:=120,zero:=some [.vec [] true,.vec [] true,.vec [] true,.vec [] true,.vec [] true]}:=by kernel_rfl
theorem Jy1:Jt Pg 26=some {kd:=.st [(0,22),(1,22),(2,22),(3,23),(4,24)],size:=5,bytes:=120,zero:=some [.vec [] true,.vec [] true,.vec [] true,.vec [] true,.vec [] true]}:=by kernel_rfl
theorem JrT:Jt Pg 27=some {kd:=.sl 5,size:=1,bytes:=24,zero:=some [.vec [] true]}:=by kernel_rfl
theorem JzK:Jt Pg 28=some {kd:=.sl 201,size:=1,bytes:=24,zero:=some [.vec [] true]}:=by kernel_rfl
theorem JzL:Jt Pg 29=some {kd:=.oth,size:=1,bytes:=8,zero:=some [.lit .nilFunc]}:=by kernel_rfl
theorem JzM:Jaj Pg 29=true:=by kernel_rfl
theorem JzN:Jt Pg 30=some {kd:=.oth,size:=1,bytes:=8,zero:=some [.lit .nilFunc]}:=by kernel_rfl
theorem JzO:Jaj Pg 30=true:=by kernel_rfl
theorem Jtc:Jt Pg 31=some {kd:=.sl 78,size:=1,bytes:=24,zero:=some [.vec [] true]}:=by kernel_rfl
theorem JzP:Jt Pg 32=some {kd:=.int .i64,size:=1,bytes:=8,zero:=some [.lit (.int .i64 0)]}:=by kernel_rfl
theorem JzQ:Jt Pg 34=some {kd:=.oth,size:=1,bytes:=8,zero:=some [.lit .nilFunc]}:=by kernel_rfl
theorem JzR:Jaj Pg 34=true:=by kernel_rfl
theorem JzS:Jt Pg 35=some {kd:=.oth,size:=1,bytes:=8,zero:=some [.lit .nilFunc]}:=by kernel_rfl
theorem JzT:Jaj Pg 35=true:=by kernel_rfl
theorem JzU:Jt Pg 36=some {kd:=.oth,size:=1,bytes:=8,zero:=some [.lit .nilFunc]}:=by kernel_rfl
theorem JzV:Jaj Pg 36=true:=by kernel_rfl
theorem JzW:Jt Pg 37=some {kd:=.oth,size:=1,bytes:=8,zero:=some [.lit .nilFunc]}:=by kernel_rfl
theorem JzX:Jaj Pg 37=true:=by kernel_rfl
theorem JzY:Jt Pg 38=some {kd:=.st [(0,9),(1,4),(2,4),(3,4),(4,4),(5,3),(6,3),(7,3),(8,3)],size:=9,bytes:=56,zero:=some [.lit (.string ⟨#[]⟩),.lit (.bool false),.lit (.bool false),.lit (.bool false),.lit (.bool false),.lit (.int .i64 0),.lit (.int .i64 0),.lit (.int .i64 0),.lit (.int .i64 0)]}:=by kernel_rfl
theorem JyG:Jt Pg 39=some {kd:=.st [(0,9),(1,4),(2,4),(3,4),(4,4),(5,3),(6,3),(7,3),(8,3)],size:=9,bytes:=56,zero:=some [.lit (.string ⟨#[]⟩),.lit (.bool false),.lit (.bool false),.lit (.bool false),.lit (.bool false),.lit (.int .i64 0),.lit (.int .i64 0),.lit (.int .i64 0),.lit (.int .i64 0)]}:=by kernel_rfl
theorem Jq1:JaU Pg 39=true:=by kernel_rfl
theorem Jq2:Jbo Pg 39 [(0,9),(1,4),(2,4),(3,4),(4,4),(5,3),(6,3),(7,3),(8,3)]=true:=by kernel_rfl
theorem JzZ:Jt Pg 40=some {kd:=.oth,size:=1,bytes:=8,zero:=some [.lit .nilFunc]}:=by kernel_rfl
theorem Jz0:Jaj Pg 40=true:=by kernel_rfl
theorem Jq3:Jt Pg 41=some {kd:=.sl 3,size:=1,bytes:=24,zero:=some [.vec [] true]}:=by kernel_rfl
theorem Jz1:Jt Pg 43=some {kd:=.oth,size:=1,bytes:=8,zero:=some [.lit .nilFunc]}:=by kernel_rfl
theorem Jz2:Jaj Pg 43=true:=by kernel_rfl
theorem Jz3:Jt Pg 44=some {kd:=.sl 49,size:=1,bytes:=24,zero:=some [.vec [] true]}:=by kernel_rfl
theorem Jz4:Jt Pg 45=some {kd:=.oth,size:=1,bytes:=8,zero:=some [.lit .nilFunc]}:=by kernel_rfl
theorem Jz5:Jaj Pg 45=true:=by kernel_rfl
theorem Jz6:Jt Pg 47=some {kd:=.oth,size:=1,bytes:=8,zero:=some [.lit .nilFunc]}:=by kernel_rfl
theorem Jz7:Jaj Pg 47=true:=by kernel_rfl
theorem Jz8:Jt Pg 48=some {kd:=.st [(0,3),(1,3)],size:=2,bytes:=16,zero:=some [.lit (.int .i64 0),.lit (.int .i64 0)]}:=by kernel_rfl
theorem Jz9:Jt Pg 49=some {kd:=.st [(0,3),(1,3)],size:=2,bytes:=16,zero:=some [.lit (.int .i64 0),.lit (.int .i64 0)]}:=by kernel_rfl
theorem Jq4:JaU Pg 49=true:=by kernel_rfl
theorem Jq5:Jbo Pg 49 [(0,3),(1,3)]=true:=by kernel_rfl
theorem JAa:Jt Pg 50=some {kd:=.oth,size:=1,bytes:=8,zero:=some [.lit .nilFunc]}:=by kernel_rfl
theorem JAb:Jaj Pg 50=true:=by kernel_rfl
theorem JAc:Jt Pg 51=some {kd:=.sl 57,size:=1,bytes:=24,zero:=some [.vec [] true]}:=by kernel_rfl
theorem JAd:Jt Pg 52=some {kd:=.oth,size:=1,bytes:=8,zero:=some [.lit .nilFunc]}:=by kernel_rfl
theorem JAe:Jaj Pg 52=true:=by kernel_rfl
theorem JAf:Jt Pg 53=some {kd:=.oth,size:=1,bytes:=8,zero:=some [.lit .nilFunc]}:=by kernel_rfl
theorem JAg:Jaj Pg 53=true:=by kernel_rfl
theorem JAh:Jt Pg 54=some {kd:=.oth,size:=1,bytes:=8,zero:=some [.lit .nilFunc]}:=by kernel_rfl
theorem JAi:Jaj Pg 54=true:=by kernel_rfl
theorem JAj:Jt Pg 55=some {kd:=.oth,size:=1,bytes:=8,zero:=some [.lit .nilFunc]}:=by kernel_rfl
theorem JAk:Jaj Pg 55=true:=by kernel_rfl
theorem JAl:Jt Pg 56=some {kd:=.st [(0,3),(1,3),(2,31)],size:=3,bytes:=40,zero:=some [.lit (.int .i64 0),.lit (.int .i64 0),.vec [] true]}:=by kernel_rfl
theorem JAm:Jt Pg 57=some {kd:=.st [(0,3),(1,3),(2,31)],size:=3,bytes:=40,zero:=some [.lit (.int .i64 0),.lit (.int .i64 0),.vec [] true]}:=by kernel_rfl
theorem JAn:Jt Pg 58=some {kd:=.oth,size:=1,bytes:=8,zero:=some [.lit .nilFunc]}:=by kernel_rfl
theorem JAo:Jaj Pg 58=true:=by kernel_rfl
theorem JAp:Jt Pg 59=some {kd:=.oth,size:=1,bytes:=8,zero:=some [.lit .nilFunc]}:=by kernel_rfl
theorem JAq:Jaj Pg 59=true:=by kernel_rfl
theorem JAr:Jt Pg 60=some {kd:=.oth,size:=1,bytes:=8,zero:=some [.lit .nilFunc]}:=by kernel_rfl
theorem JAs:Jaj Pg 60=true:=by kernel_rfl
theorem JAt:Jt Pg 61=some {kd:=.oth,size:=1,bytes:=8,zero:=some [.lit (.pointer none)]}:=by kernel_rfl
theorem JAu:Jd7 Pg 61=true:=by kernel_rfl
theorem JAv:Jt Pg 63=some {kd:=.oth,size:=1,bytes:=8,zero:=some [.lit .nilFunc]}:=by kernel_rfl
theorem JAw:Jaj Pg 63=true:=by kernel_rfl
theorem JAx:Jt Pg 64=some {kd:=.oth,size:=1,bytes:=8,zero:=some [.lit .nilFunc]}:=by kernel_rfl
theorem JAy:Jaj Pg 64=true:=by kernel_rfl
theorem JAz:Jt Pg 65=some {kd:=.oth,size:=1,bytes:=8,zero:=some [.lit .nilFunc]}:=by kernel_rfl
theorem JAA:Jaj Pg 65=true:=by kernel_rfl
theorem JAB:Jt Pg 66=some {kd:=.oth,size:=1,bytes:=8,zero:=some [.lit .nilFunc]}:=by kernel_rfl
theorem JAC:Jaj Pg 66=true:=by kernel_rfl
theorem JAD:Jt Pg 67=some {kd:=.st [(0,3),(1,31)],size:=2,bytes:=32,zero:=some [.lit (.int .i64 0),.vec [] true]}:=by kernel_rfl
theorem JAE:Jt Pg 68=some {kd:=.st [(0,3),(1,31)],size:=2,bytes:=32,zero:=some [.lit (.int .i64 0),.vec [] true]}:=by kernel_rfl
theorem JAF:Jt Pg 69=some {kd:=.st [(0,21),(1,3),(2,3)],size:=3,bytes:=24,zero:=some [.lit (.int .i32 0),.lit (.int .i64 0),.lit (.int .i64 0)]}:=by kernel_rfl
theorem Jy2:Jt Pg 70=some {kd:=.st [(0,21),(1,3),(2,3)],size:=3,bytes:=24,zero:=some [.lit (.int .i32 0),.lit (.int .i64 0),.lit (.int .i64 0)]}:=by kernel_rfl
theorem Jq6:JaU Pg 70=true:=by kernel_rfl
theorem Jq7:Jbo Pg 70 [(0,21),(1,3),(2,3)]=true:=by kernel_rfl
theorem JAG:Jt Pg 71=some {kd:=.sl 70,size:=1,bytes:=24,zero:=some [.vec [] true]}:=by kernel_rfl
theorem JAH:Jt Pg 72=some {kd:=.map 132 97,size:=1,bytes:=8,zero:=some [.lit (.map none)]}:=by kernel_rfl
theorem JAI:Jt Pg 73=some {kd:=.st [(0,26),(5,71),(6,28),(7,3),(8,72)],size:=9,bytes:=184,zero:=some [.vec [] true,.vec [] true,.vec [] true,.vec [] true,.vec [] true,.vec [] true,.vec [] true,.lit (.int .i64 0),.lit (.map none)]}:=by kernel_rfl
theorem JAK:Jt Pg 74=some {kd:=.st [(0,26),(5,71),(6,28),(7,3),(8,72)],size:=9,bytes:=184,zero:=some [.vec [] true,.vec [] true,.vec [] true,.vec [] true,.vec [] true,.vec [] true,.vec [] true,.lit (.int .i64 0),.lit (.map none)]}:=by kernel_rfl
theorem JAL:Jt Pg 75=some {kd:=.oth,size:=1,bytes:=8,zero:=some [.lit .nilFunc]}:=by kernel_rfl
theorem JAM:Jaj Pg 75=true:=by kernel_rfl
theorem Jq8:Jt Pg 76=some {kd:=.int .i8,size:=1,bytes:=1,zero:=some [.lit (.int .i8 0)]}:=by kernel_rfl
theorem JAN:Jt Pg 77=some {kd:=.st [(0,76),(1,3)],size:=2,bytes:=16,zero:=some [.lit (.int .i8 0),.lit (.int .i64 0)]}:=by kernel_rfl
theorem Jtz:Jt Pg 78=some {kd:=.st [(0,76),(1,3)],size:=2,bytes:=16,zero:=some [.lit (.int .i8 0),.lit (.int .i64 0)]}:=by kernel_rfl
theorem Jq9:JaU Pg 78=true:=by kernel_rfl
theorem Jra:Jbo Pg 78 [(0,76),(1,3)]=true:=by kernel_rfl
theorem JAO:Jt Pg 79=some {kd:=.oth,size:=1,bytes:=8,zero:=some [.lit (.pointer none)]}:=by kernel_rfl
theorem JAP:Jd7 Pg 79=true:=by kernel_rfl
theorem JAQ:Jt Pg 81=some {kd:=.oth,size:=1,bytes:=8,zero:=some [.lit .nilFunc]}:=by kernel_rfl
theorem JAR:Jaj Pg 81=true:=by kernel_rfl
theorem JAS:Jt Pg 82=some {kd:=.oth,size:=1,bytes:=8,zero:=some [.lit .nilFunc]}:=by kernel_rfl
theorem JAT:Jaj Pg 82=true:=by kernel_rfl
theorem JAU:Jt Pg 83=some {kd:=.sl 4,size:=1,bytes:=24,zero:=some [.vec [] true]}:=by kernel_rfl
theorem JAV:Jt Pg 84=some {kd:=.oth,size:=1,bytes:=8,zero:=some [.lit .nilFunc]}:=by kernel_rfl
theorem JAW:Jaj Pg 84=true:=by kernel_rfl
theorem JyH:Jt Pg 85=some {kd:=.sl 96,size:=1,bytes:=24,zero:=some [.vec [] true]}:=by kernel_rfl
theorem JAX:Jt Pg 86=some {kd:=.st [(0,3),(1,85)],size:=2,bytes:=32,zero:=some [.lit (.int .i64 0),.vec [] true]}:=by kernel_rfl
theorem JyI:Jt Pg 87=some {kd:=.st [(0,3),(1,85)],size:=2,bytes:=32,zero:=some [.lit (.int .i64 0),.vec [] true]}:=by kernel_rfl
theorem JAY:Jt Pg 88=some {kd:=.oth,size:=1,bytes:=8,zero:=some [.lit .nilFunc]}:=by kernel_rfl
theorem JAZ:Jaj Pg 88=true:=by kernel_rfl
theorem JA0:Jt Pg 89=some {kd:=.oth,size:=1,bytes:=8,zero:=some [.lit .nilFunc]}:=by kernel_rfl
theorem JA1:Jaj Pg 89=true:=by kernel_rfl
theorem JA2:Jt Pg 90=some {kd:=.sl 150,size:=1,bytes:=24,zero:=some [.vec [] true]}:=by kernel_rfl
theorem JyK:Jt Pg 91=some {kd:=.sl 150,size:=1,bytes:=24,zero:=some [.vec [] true]}:=by kernel_rfl
theorem JyL:Jt Pg 92=some {kd:=.sl 94,size:=1,bytes:=24,zero:=some [.vec [] true]}:=by kernel_rfl
theorem JA3:Jt Pg 93=some {kd:=.st [(0,76),(1,2),(2,9),(3,92)],size:=4,bytes:=56,zero:=some [.lit (.int .i8 0),.lit (.int .i64 0),.lit (.string ⟨#[]⟩),.vec [] true]}:=by kernel_rfl
theorem JtA:Jt Pg 94=some {kd:=.st [(0,76),(1,2),(2,9),(3,92)],size:=4,bytes:=56,zero:=some [.lit (.int .i8 0),.lit (.int .i64 0),.lit (.string ⟨#[]⟩),.vec [] true]}:=by kernel_rfl
theorem JA4:Jt Pg 95=some {kd:=.st [(0,76),(1,91),(2,3),(3,3),(4,94),(8,31),(9,3)],size:=10,bytes:=136,zero:=some [.lit (.int .i8 0),.vec [] true,.lit (.int .i64 0),.lit (.int .i64 0),.lit (.int .i8 0),.lit (.int .i64 0),.lit (.string ⟨#[]⟩),.vec [] true,.vec [] true,.lit (.int .i64 0)]}:=by kernel_rfl
theorem JyM:Jt Pg 96=some {kd:=.st [(0,76),(1,91),(2,3),(3,3),(4,94),(8,31),(9,3)],size:=10,bytes:=136,zero:=some [.lit (.int .i8 0),.vec [] true,.lit (.int .i64 0),.lit (.int .i64 0),.lit (.int .i8 0),.lit (.int .i64 0),.lit (.string ⟨#[]⟩),.vec [] true,.vec [] true,.lit (.int .i64 0)]}:=by kernel_rfl
theorem JA5:Jt Pg 97=some {kd:=.sl 68,size:=1,bytes:=24,zero:=some [.vec [] true]}:=by kernel_rfl
theorem Jy3:Jdm Pg 97=some (.vec [] true):=by kernel_rfl
theorem JA6:Jt Pg 98=some {kd:=.oth,size:=1,bytes:=8,zero:=some [.lit .nilFunc]}:=by kernel_rfl
theorem JA7:Jaj Pg 98=true:=by kernel_rfl
theorem JA8:Jt Pg 99=some {kd:=.oth,size:=1,bytes:=8,zero:=some [.lit .nilFunc]}:=by kernel_rfl
theorem JA9:Jaj Pg 99=true:=by kernel_rfl
theorem JtB:Jt Pg 100=some {kd:=.oth,size:=1,bytes:=8,zero:=some [.lit .nilFunc]}:=by kernel_rfl
theorem JtC:Jaj Pg 100=true:=by kernel_rfl
theorem JtD:Jt Pg 102=some {kd:=.oth,size:=1,bytes:=8,zero:=some [.lit .nilFunc]}:=by kernel_rfl
theorem JtE:Jaj Pg 102=true:=by kernel_rfl
theorem JtF:Jt Pg 103=some {kd:=.int .u64,size:=1,bytes:=8,zero:=some [.lit (.int .u64 0)]}:=by kernel_rfl
theorem JtG:Jt Pg 104=some {kd:=.sl 113,size:=1,bytes:=24,zero:=some [.vec [] true]}:=by kernel_rfl
theorem JtH:Jt Pg 105=some {kd:=.oth,size:=1,bytes:=8,zero:=some [.lit .nilFunc]}:=by kernel_rfl
theorem JtI:Jaj Pg 105=true:=by kernel_rfl
theorem JtK:Jt Pg 106=some {kd:=.sl 21,size:=1,bytes:=24,zero:=some [.vec [] true]}:=by kernel_rfl
theorem JtL:Jt Pg 107=some {kd:=.st [(0,27),(1,41),(2,106),(3,41)],size:=4,bytes:=96,zero:=some [.vec [] true,.vec [] true,.vec [] true,.vec [] true]}:=by kernel_rfl
theorem JtM:Jt Pg 108=some {kd:=.st [(0,27),(1,41),(2,106),(3,41)],size:=4,bytes:=96,zero:=some [.vec [] true,.vec [] true,.vec [] true,.vec [] true]}:=by kernel_rfl
theorem JtN:Jt Pg 109=some {kd:=.sl 104,size:=1,bytes:=24,zero:=some [.vec [] true]}:=by kernel_rfl
theorem JtO:Jt Pg 110=some {kd:=.st [(0,26),(5,108),(9,28),(10,3),(11,41),(12,41),(13,109)],size:=14,bytes:=320,zero:=some [.vec [] true,.vec [] true,.vec [] true,.vec [] true,.vec [] true,.vec [] true,.vec [] true,.vec [] true,.vec [] true,.vec [] true,.lit (.int .i64 0),.vec [] true,.vec [] true,.vec [] true]}:=by kernel_rfl
theorem JtP:Jt Pg 111=some {kd:=.st [(0,26),(5,108),(9,28),(10,3),(11,41),(12,41),(13,109)],size:=14,bytes:=320,zero:=some [.vec [] true,.vec [] true,.vec [] true,.vec [] true,.vec [] true,.vec [] true,.vec [] true,.vec [] true,.vec [] true,.vec [] true,.lit (.int .i64 0),.vec [] true,.vec [] true,.vec [] true]}:=by kernel_rfl
theorem JtQ:Jt Pg 112=some {kd:=.st [(0,3),(1,31)],size:=2,bytes:=32,zero:=some [.lit (.int .i64 0),.vec [] true]}:=by kernel_rfl
theorem JtR:Jt Pg 113=some {kd:=.st [(0,3),(1,31)],size:=2,bytes:=32,zero:=some [.lit (.int .i64 0),.vec [] true]}:=by kernel_rfl
theorem JtS:Jt Pg 114=some {kd:=.oth,size:=1,bytes:=8,zero:=some [.lit .nilFunc]}:=by kernel_rfl
theorem JtT:Jaj Pg 114=true:=by kernel_rfl
theorem JtU:Jt Pg 115=some {kd:=.oth,size:=1,bytes:=8,zero:=some [.lit .nilFunc]}:=by kernel_rfl
theorem JtV:Jaj Pg 115=true:=by kernel_rfl
theorem JtW:Jt Pg 116=some {kd:=.oth,size:=1,bytes:=8,zero:=some [.lit .nilFunc]}:=by kernel_rfl
theorem JtX:Jaj Pg 116=true:=by kernel_rfl
theorem JtY:Jt Pg 118=some {kd:=.oth,size:=1,bytes:=8,zero:=some [.lit .nilFunc]}:=by kernel_rfl
theorem JtZ:Jaj Pg 118=true:=by kernel_rfl
theorem Jt0:Jt Pg 119=some {kd:=.oth,size:=1,bytes:=8,zero:=some [.lit .nilFunc]}:=by kernel_rfl
theorem Jt1:Jaj Pg 119=true:=by kernel_rfl
theorem Jt2:Jt Pg 120=some {kd:=.oth,size:=1,bytes:=8,zero:=some [.lit .nilFunc]}:=by kernel_rfl
theorem Jt3:Jaj Pg 120=true:=by kernel_rfl
theorem Jt4:Jt Pg 122=some {kd:=.oth,size:=1,bytes:=8,zero:=some [.lit .nilFunc]}:=by kernel_rfl
theorem Jt5:Jaj Pg 122=true:=by kernel_rfl
theorem Jt6:Jt Pg 123=some {kd:=.oth,size:=1,bytes:=8,zero:=some [.lit .nilFunc]}:=by kernel_rfl
theorem Jt7:Jaj Pg 123=true:=by kernel_rfl
theorem Jt8:Jt Pg 124=some {kd:=.oth,size:=1,bytes:=8,zero:=some [.lit .nilFunc]}:=by kernel_rfl
theorem Jt9:Jaj Pg 124=true:=by kernel_rfl
theorem Jua:Jt Pg 126=some {kd:=.oth,size:=1,bytes:=8,zero:=some [.lit .nilFunc]}:=by kernel_rfl
theorem Jub:Jaj Pg 126=true:=by kernel_rfl
theorem Juc:Jt Pg 127=some {kd:=.oth,size:=1,bytes:=8,zero:=some [.lit .nilFunc]}:=by kernel_rfl
theorem Jud:Jaj Pg 127=true:=by kernel_rfl
theorem Jue:Jt Pg 128=some {kd:=.oth,size:=1,bytes:=8,zero:=some [.lit .nilFunc]}:=by kernel_rfl
theorem Juf:Jaj Pg 128=true:=by kernel_rfl
theorem Jug:Jt Pg 129=some {kd:=.oth,size:=1,bytes:=8,zero:=some [.lit .nilFunc]}:=by kernel_rfl
theorem Juh:Jaj Pg 129=true:=by kernel_rfl
theorem Jui:Jt Pg 131=some {kd:=.st [(0,3),(1,3)],size:=2,bytes:=16,zero:=some [.lit (.int .i64 0),.lit (.int .i64 0)]}:=by kernel_rfl
theorem JrU:Jt Pg 132=some {kd:=.st [(0,3),(1,3)],size:=2,bytes:=16,zero:=some [.lit (.int .i64 0),.lit (.int .i64 0)]}:=by kernel_rfl
theorem Jkh:JaU Pg 132=true:=by kernel_rfl
theorem JnE:Jbo Pg 132 [(0,3),(1,3)]=true:=by kernel_rfl
theorem Juj:Jt Pg 133=some {kd:=.sl 161,size:=1,bytes:=24,zero:=some [.vec [] true]}:=by kernel_rfl
theorem Juk:Jt Pg 134=some {kd:=.sl 161,size:=1,bytes:=24,zero:=some [.vec [] true]}:=by kernel_rfl
theorem Jul:Jt Pg 135=some {kd:=.st [(0,132),(2,31)],size:=3,bytes:=40,zero:=some [.lit (.int .i64 0),.lit (.int .i64 0),.vec [] true]}:=by kernel_rfl
theorem JnF:Jt Pg 136=some {kd:=.st [(0,132),(2,31)],size:=3,bytes:=40,zero:=some [.lit (.int .i64 0),.lit (.int .i64 0),.vec [] true]}:=by kernel_rfl
theorem JnG:Jt Pg 137=some {kd:=.sl 136,size:=1,bytes:=24,zero:=some [.vec [] true]}:=by kernel_rfl
theorem Jum:Jt Pg 138=some {kd:=.oth,size:=1,bytes:=8,zero:=some [.lit .nilFunc]}:=by kernel_rfl
theorem Jun:Jaj Pg 138=true:=by kernel_rfl
theorem Juo:Jt Pg 139=some {kd:=.oth,size:=1,bytes:=8,zero:=some [.lit .nilFunc]}:=by kernel_rfl
theorem Jup:Jaj Pg 139=true:=by kernel_rfl
theorem Juq:Jt Pg 140=some {kd:=.oth,size:=1,bytes:=8,zero:=some [.lit .nilFunc]}:=by kernel_rfl
theorem Jur:Jaj Pg 140=true:=by kernel_rfl
theorem Jus:Jt Pg 141=some {kd:=.oth,size:=1,bytes:=8,zero:=some [.lit .nilFunc]}:=by kernel_rfl
theorem Jut:Jaj Pg 141=true:=by kernel_rfl
theorem Juu:Jt Pg 142=some {kd:=.oth,size:=1,bytes:=8,zero:=some [.lit .nilFunc]}:=by kernel_rfl
theorem Juv:Jaj Pg 142=true:=by kernel_rfl
theorem Juw:Jt Pg 143=some {kd:=.oth,size:=1,bytes:=8,zero:=some [.lit .nilFunc]}:=by kernel_rfl
theorem Jux:Jaj Pg 143=true:=by kernel_rfl
theorem Juy:Jt Pg 144=some {kd:=.oth,size:=1,bytes:=8,zero:=some [.lit .nilFunc]}:=by kernel_rfl
theorem Juz:Jaj Pg 144=true:=by kernel_rfl
theorem JuA:Jt Pg 145=some {kd:=.oth,size:=1,bytes:=8,zero:=some [.lit (.pointer none)]}:=by kernel_rfl
theorem JuB:Jd7 Pg 145=true:=by kernel_rfl
theorem JuC:Jt Pg 146=some {kd:=.st [(0,41),(1,41),(2,104)],size:=3,bytes:=72,zero:=some [.vec [] true,.vec [] true,.vec [] true]}:=by kernel_rfl
theorem JuD:Jt Pg 147=some {kd:=.st [(0,41),(1,41),(2,104)],size:=3,bytes:=72,zero:=some [.vec [] true,.vec [] true,.vec [] true]}:=by kernel_rfl
theorem JuE:Jt Pg 148=some {kd:=.oth,size:=1,bytes:=8,zero:=some [.lit .nilFunc]}:=by kernel_rfl
theorem JuF:Jaj Pg 148=true:=by kernel_rfl
theorem JuG:Jt Pg 149=some {kd:=.st [(0,21),(1,21)],size:=2,bytes:=8,zero:=some [.lit (.int .i32 0),.lit (.int .i32 0)]}:=by kernel_rfl
theorem JpN:Jt Pg 150=some {kd:=.st [(0,21),(1,21)],size:=2,bytes:=8,zero:=some [.lit (.int .i32 0),.lit (.int .i32 0)]}:=by kernel_rfl
theorem JnH:JaU Pg 150=true:=by kernel_rfl
theorem JnI:Jbo Pg 150 [(0,21),(1,21)]=true:=by kernel_rfl
theorem JuH:Jt Pg 151=some {kd:=.oth,size:=1,bytes:=8,zero:=some [.lit .nilFunc]}:=by kernel_rfl
theorem JuI:Jaj Pg 151=true:=by kernel_rfl
theorem JuK:Jt Pg 152=some {kd:=.oth,size:=1,bytes:=8,zero:=some [.lit (.pointer none)]}:=by kernel_rfl
theorem JuL:Jd7 Pg 152=true:=by kernel_rfl
theorem JuM:Jt Pg 153=some {kd:=.oth,size:=1,bytes:=8,zero:=some [.lit .nilFunc]}:=by kernel_rfl
theorem JuN:Jaj Pg 153=true:=by kernel_rfl
theorem JuO:Jt Pg 154=some {kd:=.sl 41,size:=1,bytes:=24,zero:=some [.vec [] true]}:=by kernel_rfl
theorem JuP:Jt Pg 155=some {kd:=.sl 41,size:=1,bytes:=24,zero:=some [.vec [] true]}:=by kernel_rfl
theorem JuQ:Jt Pg 156=some {kd:=.oth,size:=1,bytes:=8,zero:=some [.lit .nilFunc]}:=by kernel_rfl
theorem JuR:Jaj Pg 156=true:=by kernel_rfl
theorem JuS:Jt Pg 157=some {kd:=.oth,size:=1,bytes:=8,zero:=some [.lit .nilFunc]}:=by kernel_rfl
theorem JuT:Jaj Pg 157=true:=by kernel_rfl
theorem JuU:Jt Pg 158=some {kd:=.oth,size:=1,bytes:=8,zero:=some [.lit .nilFunc]}:=by kernel_rfl
theorem JuV:Jaj Pg 158=true:=by kernel_rfl
theorem JuW:Jt Pg 159=some {kd:=.oth,size:=1,bytes:=8,zero:=some [.lit .nilFunc]}:=by kernel_rfl
theorem JuX:Jaj Pg 159=true:=by kernel_rfl
theorem JuY:Jt Pg 160=some {kd:=.oth,size:=1,bytes:=8,zero:=some [.lit .nilFunc]}:=by kernel_rfl
theorem JuZ:Jaj Pg 160=true:=by kernel_rfl
theorem Ju0:Jt Pg 161=some {kd:=.int .u64,size:=1,bytes:=8,zero:=some [.lit (.int .u64 0)]}:=by kernel_rfl
theorem Ju1:Jt Pg 162=some {kd:=.oth,size:=1,bytes:=8,zero:=some [.lit .nilFunc]}:=by kernel_rfl
theorem Ju2:Jaj Pg 162=true:=by kernel_rfl
theorem Ju3:Jt Pg 163=some {kd:=.oth,size:=1,bytes:=8,zero:=some [.lit .nilFunc]}:=by kernel_rfl
theorem Ju4:Jaj Pg 163=true:=by kernel_rfl
theorem Ju5:Jt Pg 164=some {kd:=.st [(0,2),(1,2),(2,2),(3,2)],size:=4,bytes:=32,zero:=some [.lit (.int .i64 0),.lit (.int .i64 0),.lit (.int .i64 0),.lit (.int .i64 0)]}:=by kernel_rfl
theorem Ju6:Jt Pg 165=some {kd:=.st [(0,2),(1,2),(2,2),(3,2)],size:=4,bytes:=32,zero:=some [.lit (.int .i64 0),.lit (.int .i64 0),.lit (.int .i64 0),.lit (.int .i64 0)]}:=by kernel_rfl
theorem JnK:JaU Pg 165=true:=by kernel_rfl
theorem JnL:Jbo Pg 165 [(0,2),(1,2),(2,2),(3,2)]=true:=by kernel_rfl
theorem Ju7:Jt Pg 166=some {kd:=.oth,size:=1,bytes:=8,zero:=some [.lit .nilFunc]}:=by kernel_rfl
theorem Ju8:Jaj Pg 166=true:=by kernel_rfl
theorem Ju9:Jt Pg 167=some {kd:=.oth,size:=1,bytes:=8,zero:=some [.lit .nilFunc]}:=by kernel_rfl
theorem Jva:Jaj Pg 167=true:=by kernel_rfl
theorem Jvb:Jt Pg 168=some {kd:=.oth,size:=1,bytes:=8,zero:=some [.lit .nilFunc]}:=by kernel_rfl
theorem Jvc:Jaj Pg 168=true:=by kernel_rfl
theorem Jvd:Jt Pg 169=some {kd:=.map 3 4,size:=1,bytes:=8,zero:=some [.lit (.map none)]}:=by kernel_rfl
theorem Jve:Jt Pg 170=some {kd:=.oth,size:=1,bytes:=8,zero:=some [.lit .nilFunc]}:=by kernel_rfl
theorem Jvf:Jaj Pg 170=true:=by kernel_rfl
theorem Jvg:Jt Pg 171=some {kd:=.oth,size:=1,bytes:=8,zero:=some [.lit .nilFunc]}:=by kernel_rfl
theorem Jvh:Jaj Pg 171=true:=by kernel_rfl
theorem Jvi:Jt Pg 172=some {kd:=.arr 8 171,size:=8,bytes:=64,zero:=some [.lit .nilFunc,.lit .nilFunc,.lit .nilFunc,.lit .nilFunc,.lit .nilFunc,.lit .nilFunc,.lit .nilFunc,.lit .nilFunc]}:=by kernel_rfl
theorem Jvj:Jt Pg 173=some {kd:=.oth,size:=1,bytes:=8,zero:=some [.lit .nilFunc]}:=by kernel_rfl
theorem Jvk:Jaj Pg 173=true:=by kernel_rfl
theorem Jvl:Jt Pg 174=some {kd:=.oth,size:=1,bytes:=8,zero:=some [.lit (.pointer none)]}:=by kernel_rfl
theorem Jvm:Jd7 Pg 174=true:=by kernel_rfl
theorem Jvn:Jt Pg 175=some {kd:=.oth,size:=1,bytes:=8,zero:=some [.lit (.pointer none)]}:=by kernel_rfl
theorem Jvo:Jd7 Pg 175=true:=by kernel_rfl
theorem Jvp:Jt Pg 176=some {kd:=.st [(0,152),(1,174),(2,3),(3,175)],size:=4,bytes:=32,zero:=some [.lit (.pointer none),.lit (.pointer none),.lit (.int .i64 0),.lit (.pointer none)]}:=by kernel_rfl
theorem Jvq:Jt Pg 177=some {kd:=.st [(0,152),(1,174),(2,3),(3,175)],size:=4,bytes:=32,zero:=some [.lit (.pointer none),.lit (.pointer none),.lit (.int .i64 0),.lit (.pointer none)]}:=by kernel_rfl
theorem Jvr:Jt Pg 178=some {kd:=.oth,size:=1,bytes:=8,zero:=some [.lit .nilFunc]}:=by kernel_rfl
theorem Jvs:Jaj Pg 178=true:=by kernel_rfl
theorem Jvt:Jt Pg 179=some {kd:=.oth,size:=1,bytes:=8,zero:=some [.lit .nilFunc]}:=by kernel_rfl
theorem Jvu:Jaj Pg 179=true:=by kernel_rfl
theorem Jvv:Jt Pg 180=some {kd:=.st [(0,3),(1,3)],size:=2,bytes:=16,zero:=some [.lit (.int .i64 0),.lit (.int .i64 0)]}:=by kernel_rfl
theorem JpO:Jt Pg 181=some {kd:=.st [(0,3),(1,3)],size:=2,bytes:=16,zero:=some [.lit (.int .i64 0),.lit (.int .i64 0)]}:=by kernel_rfl
theorem JnM:JaU Pg 181=true:=by kernel_rfl
theorem JnN:Jbo Pg 181 [(0,3),(1,3)]=true:=by kernel_rfl
theorem JpP:Jt Pg 182=some {kd:=.sl 181,size:=1,bytes:=24,zero:=some [.vec [] true]}:=by kernel_rfl
theorem Jvw:Jt Pg 183=some {kd:=.oth,size:=1,bytes:=8,zero:=some [.lit (.pointer none)]}:=by kernel_rfl
theorem Jvx:Jd7 Pg 183=true:=by kernel_rfl
theorem Jvy:Jt Pg 184=some {kd:=.oth,size:=1,bytes:=8,zero:=some [.lit .nilFunc]}:=by kernel_rfl
theorem Jvz:Jaj Pg 184=true:=by kernel_rfl
theorem JvA:Jt Pg 185=some {kd:=.oth,size:=1,bytes:=8,zero:=some [.lit .nilFunc]}:=by kernel_rfl
theorem JvB:Jaj Pg 185=true:=by kernel_rfl
theorem JvC:Jt Pg 186=some {kd:=.oth,size:=1,bytes:=8,zero:=some [.lit .nilFunc]}:=by kernel_rfl
theorem JvD:Jaj Pg 186=true:=by kernel_rfl
theorem JvE:Jt Pg 187=some {kd:=.oth,size:=1,bytes:=8,zero:=some [.lit .nilFunc]}:=by kernel_rfl
theorem JvF:Jaj Pg 187=true:=by kernel_rfl
theorem JvG:Jt Pg 188=some {kd:=.sl 31,size:=1,bytes:=24,zero:=some [.vec [] true]}:=by kernel_rfl
theorem JvH:Jt Pg 189=some {kd:=.oth,size:=1,bytes:=8,zero:=some [.lit .nilFunc]}:=by kernel_rfl
theorem JvI:Jaj Pg 189=true:=by kernel_rfl
theorem JvK:Jt Pg 190=some {kd:=.map 9 4,size:=1,bytes:=8,zero:=some [.lit (.map none)]}:=by kernel_rfl
theorem JvL:Jt Pg 191=some {kd:=.oth,size:=1,bytes:=8,zero:=some [.lit .nilFunc]}:=by kernel_rfl
theorem JvM:Jaj Pg 191=true:=by kernel_rfl
theorem JvN:Jt Pg 192=some {kd:=.oth,size:=1,bytes:=8,zero:=some [.lit (.pointer none)]}:=by kernel_rfl
theorem JvO:Jd7 Pg 192=true:=by kernel_rfl
theorem JvP:Jt Pg 193=some {kd:=.oth,size:=1,bytes:=8,zero:=some [.lit .nilFunc]}:=by kernel_rfl
theorem JvQ:Jaj Pg 193=true:=by kernel_rfl
theorem JvR:Jt Pg 194=some {kd:=.oth,size:=1,bytes:=8,zero:=some [.lit .nilFunc]}:=by kernel_rfl
theorem JvS:Jaj Pg 194=true:=by kernel_rfl
theorem JvT:Jt Pg 195=some {kd:=.oth,size:=1,bytes:=8,zero:=some [.lit .nilFunc]}:=by kernel_rfl
theorem JvU:Jaj Pg 195=true:=by kernel_rfl
theorem JvV:Jt Pg 196=some {kd:=.oth,size:=1,bytes:=8,zero:=some [.lit .nilFunc]}:=by kernel_rfl
theorem JvW:Jaj Pg 196=true:=by kernel_rfl
theorem JvX:Jt Pg 197=some {kd:=.oth,size:=1,bytes:=8,zero:=some [.lit .nilFunc]}:=by kernel_rfl
theorem JvY:Jaj Pg 197=true:=by kernel_rfl
theorem JvZ:Jt Pg 198=some {kd:=.oth,size:=1,bytes:=8,zero:=some [.lit .nilFunc]}:=by kernel_rfl
theorem Jv0:Jaj Pg 198=true:=by kernel_rfl
theorem Jv1:Jt Pg 199=some {kd:=.oth,size:=1,bytes:=8,zero:=some [.lit .nilFunc]}:=by kernel_rfl
theorem Jv2:Jaj Pg 199=true:=by kernel_rfl
theorem Jv3:Jt Pg 200=some {kd:=.st [(0,2),(1,2),(2,4)],size:=3,bytes:=24,zero:=some [.lit (.int .i64 0),.lit (.int .i64 0),.lit (.bool false)]}:=by kernel_rfl
theorem Jv4:Jt Pg 201=some {kd:=.st [(0,2),(1,2),(2,4)],size:=3,bytes:=24,zero:=some [.lit (.int .i64 0),.lit (.int .i64 0),.lit (.bool false)]}:=by kernel_rfl
theorem JnO:JaU Pg 201=true:=by kernel_rfl
theorem JnP:Jbo Pg 201 [(0,2),(1,2),(2,4)]=true:=by kernel_rfl
theorem Jv5:Jt Pg 202=some {kd:=.oth,size:=1,bytes:=8,zero:=some [.lit .nilFunc]}:=by kernel_rfl
theorem Jv6:Jaj Pg 202=true:=by kernel_rfl
theorem Jv7:Jt Pg 203=some {kd:=.oth,size:=1,bytes:=8,zero:=some [.lit .nilFunc]}:=by kernel_rfl
theorem Jv8:Jaj Pg 203=true:=by kernel_rfl
theorem Jv9:Jt Pg 205=some {kd:=.oth,size:=1,bytes:=8,zero:=some [.lit .nilFunc]}:=by kernel_rfl
theorem Jwa:Jaj Pg 205=true:=by kernel_rfl
theorem Jwb:Jt Pg 206=some {kd:=.oth,size:=1,bytes:=8,zero:=some [.lit .nilFunc]}:=by kernel_rfl
theorem Jwc:Jaj Pg 206=true:=by kernel_rfl
theorem Jwd:Jt Pg 207=some {kd:=.oth,size:=1,bytes:=8,zero:=some [.lit .nilFunc]}:=by kernel_rfl
theorem Jwe:Jaj Pg 207=true:=by kernel_rfl
theorem Jwf:Jt Pg 208=some {kd:=.oth,size:=1,bytes:=8,zero:=some [.lit .nilFunc]}:=by kernel_rfl
theorem Jwg:Jaj Pg 208=true:=by kernel_rfl
theorem Jwh:Jt Pg 209=some {kd:=.oth,size:=1,bytes:=8,zero:=some [.lit .nilFunc]}:=by kernel_rfl
theorem Jwi:Jaj Pg 209=true:=by kernel_rfl
theorem Jwj:Jt Pg 210=some {kd:=.oth,size:=1,bytes:=8,zero:=some [.lit .nilFunc]}:=by kernel_rfl
theorem Jwk:Jaj Pg 210=true:=by kernel_rfl
theorem Jwl:Jt Pg 212=some {kd:=.st [(0,5),(1,5)],size:=2,bytes:=2,zero:=some [.lit (.int .u8 0),.lit (.int .u8 0)]}:=by kernel_rfl
theorem Jwm:Jt Pg 213=some {kd:=.st [(0,5),(1,5)],size:=2,bytes:=2,zero:=some [.lit (.int .u8 0),.lit (.int .u8 0)]}:=by kernel_rfl
theorem Jwn:Jt Pg 214=some {kd:=.arr 16 213,size:=32,bytes:=32,zero:=some [.lit (.int .u8 0),.lit (.int .u8 0),.lit (.int .u8 0),.lit (.int .u8 0),.lit (.int .u8 0),.lit (.int .u8 0),.lit (.int .u8 0),.lit (.int .u8 0),.lit (.int .u8 0),.lit (.int .u8 0),.lit (.int .u8 0),.lit (.int .u8 0),.lit (.int .u8 0),.lit (.int .u8 0),.lit (.int .u8 0),.lit (.int .u8 0),.lit (.int .u8 0),.lit (.int .u8 0),.lit (.int .u8 0),.lit (.int .u8 0),.lit (.int .u8 0),.lit (.int .u8 0),.lit (.int .u8 0),.lit (.int .u8 0),.lit (.int .u8 0),.lit (.int .u8 0),.lit (.int .u8 0),.lit (.int .u8 0),.lit (.int .u8 0),.lit (.int .u8 0),.lit (.int .u8 0),.lit (.int .u8 0)]}:=by kernel_rfl
theorem Jwo:Jt Pg 215=some {kd:=.oth,size:=1,bytes:=8,zero:=some [.lit .nilFunc]}:=by kernel_rfl
theorem Jwp:Jaj Pg 215=true:=by kernel_rfl
theorem Jwq:Jt Pg 216=some {kd:=.oth,size:=1,bytes:=8,zero:=some [.lit .nilFunc]}:=by kernel_rfl
theorem Jwr:Jaj Pg 216=true:=by kernel_rfl
theorem Jws:Jt Pg 217=some {kd:=.arr 15 2,size:=15,bytes:=120,zero:=some [.lit (.int .i64 0),.lit (.int .i64 0),.lit (.int .i64 0),.lit (.int .i64 0),.lit (.int .i64 0),.lit (.int .i64 0),.lit (.int .i64 0),.lit (.int .i64 0),.lit (.int .i64 0),.lit (.int .i64 0),.lit (.int .i64 0),.lit (.int .i64 0),.lit (.int .i64 0),.lit (.int .i64 0),.lit (.int .i64 0)]}:=by kernel_rfl
theorem Jwt:Jt Pg 218=some {kd:=.arr 8 207,size:=8,bytes:=64,zero:=some [.lit .nilFunc,.lit .nilFunc,.lit .nilFunc,.lit .nilFunc,.lit .nilFunc,.lit .nilFunc,.lit .nilFunc,.lit .nilFunc]}:=by kernel_rfl
theorem Jwu:Jt Pg 219=some {kd:=.oth,size:=1,bytes:=8,zero:=some [.lit .nilFunc]}:=by kernel_rfl
theorem Jwv:Jaj Pg 219=true:=by kernel_rfl
theorem Jww:Jt Pg 220=some {kd:=.oth,size:=1,bytes:=8,zero:=some [.lit .nilFunc]}:=by kernel_rfl
theorem Jwx:Jaj Pg 220=true:=by kernel_rfl
theorem Jwy:Jt Pg 221=some {kd:=.oth,size:=1,bytes:=8,zero:=some [.lit .nilFunc]}:=by kernel_rfl
theorem Jwz:Jaj Pg 221=true:=by kernel_rfl
theorem JwA:Jt Pg 222=some {kd:=.oth,size:=1,bytes:=8,zero:=some [.lit .nilFunc]}:=by kernel_rfl
theorem JwB:Jaj Pg 222=true:=by kernel_rfl
theorem JwC:Jt Pg 223=some {kd:=.oth,size:=1,bytes:=8,zero:=some [.lit .nilFunc]}:=by kernel_rfl
theorem JwD:Jaj Pg 223=true:=by kernel_rfl
theorem JwE:Jt Pg 224=some {kd:=.arr 15 9,size:=15,bytes:=240,zero:=some [.lit (.string ⟨#[]⟩),.lit (.string ⟨#[]⟩),.lit (.string ⟨#[]⟩),.lit (.string ⟨#[]⟩),.lit (.string ⟨#[]⟩),.lit (.string ⟨#[]⟩),.lit (.string ⟨#[]⟩),.lit (.string ⟨#[]⟩),.lit (.string ⟨#[]⟩),.lit (.string ⟨#[]⟩),.lit (.string ⟨#[]⟩),.lit (.string ⟨#[]⟩),.lit (.string ⟨#[]⟩),.lit (.string ⟨#[]⟩),.lit (.string ⟨#[]⟩)]}:=by kernel_rfl
theorem JwF:Jt Pg 225=some {kd:=.oth,size:=1,bytes:=8,zero:=some [.lit .nilFunc]}:=by kernel_rfl
theorem JwG:Jaj Pg 225=true:=by kernel_rfl
theorem JwH:Jt Pg 226=some {kd:=.oth,size:=1,bytes:=8,zero:=some [.lit .nilFunc]}:=by kernel_rfl
theorem JwI:Jaj Pg 226=true:=by kernel_rfl
theorem JwK:Jt Pg 227=some {kd:=.st [(0,17),(1,17),(2,17),(3,9)],size:=4,bytes:=40,zero:=some [.lit (.pointer none),.lit (.pointer none),.lit (.pointer none),.lit (.string ⟨#[]⟩)]}:=by kernel_rfl
theorem JwL:Jt Pg 228=some {kd:=.st [(0,17),(1,17),(2,17),(3,9)],size:=4,bytes:=40,zero:=some [.lit (.pointer none),.lit (.pointer none),.lit (.pointer none),.lit (.string ⟨#[]⟩)]}:=by kernel_rfl
theorem JwM:Jt Pg 229=some {kd:=.arr 0 16,size:=0,bytes:=0,zero:=some []}:=by kernel_rfl
theorem JwN:Jt Pg 230=some {kd:=.st [(0,229)],size:=0,bytes:=0,zero:=some []}:=by kernel_rfl
theorem JwO:Jt Pg 231=some {kd:=.st [(0,229)],size:=0,bytes:=0,zero:=some []}:=by kernel_rfl
theorem JwP:Jt Pg 232=some {kd:=.oth,size:=1,bytes:=8,zero:=some [.lit .nilFunc]}:=by kernel_rfl
theorem JwQ:Jaj Pg 232=true:=by kernel_rfl
theorem JwR:Jt Pg 233=some {kd:=.int .u32,size:=1,bytes:=4,zero:=some [.lit (.int .u32 0)]}:=by kernel_rfl
theorem JwS:Jt Pg 234=some {kd:=.int .u8,size:=1,bytes:=1,zero:=some [.lit (.int .u8 0)]}:=by kernel_rfl
theorem JwT:Jt Pg 235=some {kd:=.int .u8,size:=1,bytes:=1,zero:=some [.lit (.int .u8 0)]}:=by kernel_rfl
theorem JwU:Jt Pg 236=some {kd:=.oth,size:=1,bytes:=8,zero:=some [.lit .nilFunc]}:=by kernel_rfl
theorem JwV:Jaj Pg 236=true:=by kernel_rfl
theorem JwW:Jt Pg 237=some {kd:=.oth,size:=1,bytes:=8,zero:=some [.lit (.pointer none)]}:=by kernel_rfl
theorem JwX:Jd7 Pg 237=true:=by kernel_rfl
theorem JwY:Jt Pg 238=some {kd:=.int .i32,size:=1,bytes:=4,zero:=some [.lit (.int .i32 0)]}:=by kernel_rfl
theorem JwZ:Jt Pg 239=some {kd:=.int .i32,size:=1,bytes:=4,zero:=some [.lit (.int .i32 0)]}:=by kernel_rfl
theorem Jw0:Jt Pg 240=some {kd:=.st [(0,12),(1,12),(2,233),(3,234),(4,5),(5,5),(6,235),(7,236),(8,237),(9,238),(10,239)],size:=11,bytes:=48,zero:=some [.lit (.int .u64 0),.lit (.int .u64 0),.lit (.int .u32 0),.lit (.int .u8 0),.lit (.int .u8 0),.lit (.int .u8 0),.lit (.int .u8 0),.lit .nilFunc,.lit (.pointer none),.lit (.int .i32 0),.lit (.int .i32 0)]}:=by kernel_rfl
theorem Jw1:Jt Pg 241=some {kd:=.st [(0,12),(1,12),(2,233),(3,234),(4,5),(5,5),(6,235),(7,236),(8,237),(9,238),(10,239)],size:=11,bytes:=48,zero:=some [.lit (.int .u64 0),.lit (.int .u64 0),.lit (.int .u32 0),.lit (.int .u8 0),.lit (.int .u8 0),.lit (.int .u8 0),.lit (.int .u8 0),.lit .nilFunc,.lit (.pointer none),.lit (.int .i32 0),.lit (.int .i32 0)]}:=by kernel_rfl
theorem tyW:(type_of% @ty1)/\(type_of% @fn1)/\(type_of% @ty2)/\(type_of% @ty3)/\(type_of% @ty4)/\(type_of% @zr4)/\(type_of% @ty5)/\(type_of% @ty6)/\(type_of% @ty7)/\(type_of% @ty8)/\(type_of% @ty9)/\(type_of% @Jzv)/\(type_of% @Jzw)/\(type_of% @Jzx)/\(type_of% @Jzy)/\(type_of% @Jzz)/\(type_of% @JzA)/\(type_of% @JzB)/\(type_of% @JzC)/\(type_of% @JzD)/\(type_of% @JzE)/\(type_of% @JzF)/\(type_of% @JzG)/\(type_of% @JzH)/\(type_of% @Jta)/\(type_of% @Jtb)/\(type_of% @JyE)/\(type_of% @JyF)/\(type_of% @JzI)/\(type_of% @Jy1)/\(type_of% @JrT)/\(type_of% @JzK)/\(type_of% @JzL)/\(type_of% @JzM)/\(type_of% @JzN)/\(type_of% @JzO)/\(type_of% @Jtc)/\(type_of% @JzP)/\(type_of% @JzQ)/\(type_of% @JzR)/\(type_of% @JzS)/\(type_of% @JzT)/\(type_of% @JzU)/\(type_of% @JzV)/\(type_of% @JzW)/\(type_of% @JzX)/\(type_of% @JzY)/\(type_of% @JyG)/\(type_of% @Jq1)/\(type_of% @Jq2)/\(type_of% @JzZ)/\(type_of% @Jz0)/\(type_of% @Jq3)/\(type_of% @Jz1)/\(type_of% @Jz2)/\(type_of% @Jz3)/\(type_of% @Jz4)/\(type_of% @Jz5)/\(type_of% @Jz6)/\(type_of% @Jz7)/\(type_of% @Jz8)/\(type_of% @Jz9)/\(type_of% @Jq4)/\(type_of% @Jq5)/\(type_of% @JAa)/\(type_of% @JAb)/\(type_of% @JAc)/\(type_of% @JAd)/\(type_of% @JAe)/\(type_of% @JAf)/\(type_of% @JAg)/\(type_of% @JAh)/\(type_of% @JAi)/\(type_of% @JAj)/\(type_of% @JAk)/\(type_of% @JAl)/\(type_of% @JAm)/\(type_of% @JAn)/\(type_of% @JAo)/\(type_of% @JAp)/\(type_of% @JAq)/\(type_of% @JAr)/\(type_of% @JAs)/\(type_of% @JAt)/\(type_of% @JAu)/\(type_of% @JAv)/\(type_of% @JAw)/\(type_of% @JAx)/\(type_of% @JAy)/\(type_of% @JAz)/\(type_of% @JAA)/\(type_of% @JAB)/\(type_of% @JAC)/\(type_of% @JAD)/\(type_of% @JAE)/\(type_of% @JAF)/\(type_of% @Jy2)/\(type_of% @Jq6)/\(type_of% @Jq7)/\(type_of% @JAG)/\(type_of% @JAH)/\(type_of% @JAI)/\(type_of% @JAK)/\(type_of% @JAL)/\(type_of% @JAM)/\(type_of% @Jq8)/\(type_of% @JAN)/\(type_of% @Jtz)/\(type_of% @Jq9)/\(type_of% @Jra)/\(type_of% @JAO)/\(type_of% @JAP)/\(type_of% @JAQ)/\(type_of% @JAR)/\(type_of% @JAS)/\(type_of% @JAT)/\(type_of% @JAU)/\(type_of% @JAV)/\(type_of% @JAW)/\(type_of% @JyH)/\(type_of% @JAX)/\(type_of% @JyI)/\(type_of% @JAY)/\(type_of% @JAZ)/\(type_of% @JA0)/\(type_of% @JA1)/\(type_of% @JA2)/\(type_of% @JyK)/\(type_of% @JyL)/\(type_of% @JA3)/\(type_of% @JtA)/\(type_of% @JA4)/\(type_of% @JyM)/\(type_of% @JA5)/\(type_of% @Jy3)/\(type_of% @JA6)/\(type_of% @JA7)/\(type_of% @JA8)/\(type_of% @JA9)/\(type_of% @JtB)/\(type_of% @JtC)/\(type_of% @JtD)/\(type_of% @JtE)/\(type_of% @JtF)/\(type_of% @JtG)/\(type_of% @JtH)/\(type_of% @JtI)/\(type_of% @JtK)/\(type_of% @JtL)/\(type_of% @JtM)/\(type_of% @JtN)/\(type_of% @JtO)/\(type_of% @JtP)/\(type_of% @JtQ)/\(type_of% @JtR)/\(type_of% @JtS)/\(type_of% @JtT)/\(type_of% @JtU)/\(type_of% @JtV)/\(type_of% @JtW)/\(type_of% @JtX)/\(type_of% @JtY)/\(type_of% @JtZ)/\(type_of% @Jt0)/\(type_of% @Jt1)/\(type_of% @Jt2)/\(type_of% @Jt3)/\(type_of% @Jt4)/\(type_of% @Jt5)/\(type_of% @Jt6)/\(type_of% @Jt7)/\(type_of% @Jt8)/\(type_of% @Jt9)/\(type_of% @Jua)/\(type_of% @Jub)/\(type_of% @Juc)/\(type_of% @Jud)/\(type_of% @Jue)/\(type_of% @Juf)/\(type_of% @Jug)/\(type_of% @Juh)/\(type_of% @Jui)/\(type_of% @JrU)/\(type_of% @Jkh)/\(type_of% @JnE)/\(type_of% @Juj)/\(type_of% @Juk)/\(type_of% @Jul)/\(type_of% @JnF)/\(type_of% @JnG)/\(type_of% @Jum)/\(type_of% @Jun)/\(type_of% @Juo)/\(type_of% @Jup)/\(type_of% @Juq)/\(type_of% @Jur)/\(type_of% @Jus)/\(type_of% @Jut)/\(type_of% @Juu)/\(type_of% @Juv)/\(type_of% @Juw)/\(type_of% @Jux)/\(type_of% @Juy)/\(type_of% @Juz)/\(type_of% @JuA)/\(type_of% @JuB)/\(type_of% @JuC)/\(type_of% @JuD)/\(type_of% @JuE)/\(type_of% @JuF)/\(type_of% @JuG)/\(type_of% @JpN)/\(type_of% @JnH)/\(type_of% @JnI)/\(type_of% @JuH)/\(type_of% @JuI)/\(type_of% @JuK)/\(type_of% @JuL)/\(type_of% @JuM)/\(type_of% @JuN)/\(type_of% @JuO)/\(type_of% @JuP)/\(type_of% @JuQ)/\(type_of% @JuR)/\(type_of% @JuS)/\(type_of% @JuT)/\(type_of% @JuU)/\(type_of% @JuV)/\(type_of% @JuW)/\(type_of% @JuX)/\(type_of% @JuY)/\(type_of% @JuZ)/\(type_of% @Ju0)/\(type_of% @Ju1)/\(type_of% @Ju2)/\(type_of% @Ju3)/\(type_of% @Ju4)/\(type_of% @Ju5)/\(type_of% @Ju6)/\(type_of% @JnK)/\(type_of% @JnL)/\(type_of% @Ju7)/\(type_of% @Ju8)/\(type_of% @Ju9)/\(type_of% @Jva)/\(type_of% @Jvb)/\(type_of% @Jvc)/\(type_of% @Jvd)/\(type_of% @Jve)/\(type_of% @Jvf)/\(type_of% @Jvg)/\(type_of% @Jvh)/\(type_of% @Jvi)/\(type_of% @Jvj)/\(type_of% @Jvk)/\(type_of% @Jvl)/\(type_of% @Jvm)/\(type_of% @Jvn)/\(type_of% @Jvo)/\(type_of% @Jvp)/\(type_of% @Jvq)/\(type_of% @Jvr)/\(type_of% @Jvs)/\(type_of% @Jvt)/\(type_of% @Jvu)/\(type_of% @Jvv)/\(type_of% @JpO)/\(type_of% @JnM)/\(type_of% @JnN)/\(type_of% @JpP)/\(type_of% @Jvw)/\(type_of% @Jvx)/\(type_of% @Jvy)/\(type_of% @Jvz)/\(type_of% @JvA)/\(type_of% @JvB)/\(type_of% @JvC)/\(type_of% @JvD)/\(type_of% @JvE)/\(type_of% @JvF)/\(type_of% @JvG)/\(type_of% @JvH)/\(type_of% @JvI)/\(type_of% @JvK)/\(type_of% @JvL)/\(type_of% @JvM)/\(type_of% @JvN)/\(type_of% @JvO)/\(type_of% @JvP)/\(type_of% @JvQ)/\(type_of% @JvR)/\(type_of% @JvS)/\(type_of% @JvT)/\(type_of% @JvU)/\(type_of% @JvV)/\(type_of% @JvW)/\(type_of% @JvX)/\(type_of% @JvY)/\(type_of% @JvZ)/\(type_of% @Jv0)/\(type_of% @Jv1)/\(type_of% @Jv2)/\(type_of% @Jv3)/\(type_of% @Jv4)/\(type_of% @JnO)/\(type_of% @JnP)/\(type_of% @Jv5)/\(type_of% @Jv6)/\(type_of% @Jv7)/\(type_of% @Jv8)/\(type_of% @Jv9)/\(type_of% @Jwa)/\(type_of% @Jwb)/\(type_of% @Jwc)/\(type_of% @Jwd)/\(type_of% @Jwe)/\(type_of% @Jwf)/\(type_of% @Jwg)/\(type_of% @Jwh)/\(type_of% @Jwi)/\(type_of% @Jwj)/\(type_of% @Jwk)/\(type_of% @Jwl)/\(type_of% @Jwm)/\(type_of% @Jwn)/\(type_of% @Jwo)/\(type_of% @Jwp)/\(type_of% @Jwq)/\(type_of% @Jwr)/\(type_of% @Jws)/\(type_of% @Jwt)/\(type_of% @Jwu)/\(type_of% @Jwv)/\(type_of% @Jww)/\(type_of% @Jwx)/\(type_of% @Jwy)/\(type_of% @Jwz)/\(type_of% @JwA)/\(type_of% @JwB)/\(type_of% @JwC)/\(type_of% @JwD)/\(type_of% @JwE)/\(type_of% @JwF)/\(type_of% @JwG)/\(type_of% @JwH)/\(type_of% @JwI)/\(type_of% @JwK)/\(type_of% @JwL)/\(type_of% @JwM)/\(type_of% @JwN)/\(type_of% @JwO)/\(type_of% @JwP)/\(type_of% @JwQ)/\(type_of% @JwR)/\(type_of% @JwS)/\(type_of% @JwT)/\(type_of% @JwU)/\(type_of% @JwV)/\(type_of% @JwW)/\(type_of% @JwX)/\(type_of% @JwY)/\(type_of% @JwZ)/\(type_of% @Jw0)/\(type_of% @Jw1):=⟨ty1,fn1,ty2,ty3,ty4,zr4,ty5,ty6,ty7,ty8,ty9,Jzv,Jzw,Jzx,Jzy,Jzz,JzA,JzB,JzC,JzD,JzE,JzF,JzG,JzH,Jta,Jtb,JyE,JyF,JzI,Jy1,JrT,JzK,JzL,JzM,JzN,JzO,Jtc,JzP,JzQ,JzR,JzS,JzT,JzU,JzV,JzW,JzX,JzY,JyG,Jq1,Jq2,JzZ,Jz0,Jq3,Jz1,Jz2,Jz3,Jz4,Jz5,Jz6,Jz7,Jz8,Jz9,Jq4,Jq5,JAa,JAb,JAc,JAd,JAe,JAf,JAg,JAh,JAi,JAj,JAk,JAl,JAm,JAn,JAo,JAp,JAq,JAr,JAs,JAt,JAu,JAv,JAw,JAx,JAy,JAz,JAA,JAB,JAC,JAD,JAE,JAF,Jy2,Jq6,Jq7,JAG,JAH,JAI,JAK,JAL,JAM,Jq8,JAN,Jtz,Jq9,Jra,JAO,JAP,JAQ,JAR,JAS,JAT,JAU,JAV,JAW,JyH,JAX,JyI,JAY,JAZ,JA0,JA1,JA2,JyK,JyL,JA3,JtA,JA4,JyM,JA5,Jy3,JA6,JA7,JA8,JA9,JtB,JtC,JtD,JtE,JtF,JtG,JtH,JtI,JtK,JtL,JtM,JtN,JtO,JtP,JtQ,JtR,JtS,JtT,JtU,JtV,JtW,JtX,JtY,JtZ,Jt0,Jt1,Jt2,Jt3,Jt4,Jt5,Jt6,Jt7,Jt8,Jt9,Jua,Jub,Juc,Jud,Jue,Juf,Jug,Juh,Jui,JrU,Jkh,JnE,Juj,Juk,Jul,JnF,JnG,Jum,Jun,Juo,Jup,Juq,Jur,Jus,Jut,Juu,Juv,Juw,Jux,Juy,Juz,JuA,JuB,JuC,JuD,JuE,JuF,JuG,JpN,JnH,JnI,JuH,JuI,JuK,JuL,JuM,JuN,JuO,JuP,JuQ,JuR,JuS,JuT,JuU,JuV,JuW,JuX,JuY,JuZ,Ju0,Ju1,Ju2,Ju3,Ju4,Ju5,Ju6,JnK,JnL,Ju7,Ju8,Ju9,Jva,Jvb,Jvc,Jvd,Jve,Jvf,Jvg,Jvh,Jvi,Jvj,Jvk,Jvl,Jvm,Jvn,Jvo,Jvp,Jvq,Jvr,Jvs,Jvt,Jvu,Jvv,JpO,JnM,JnN,JpP,Jvw,Jvx,Jvy,Jvz,JvA,JvB,JvC,JvD,JvE,JvF,JvG,JvH,JvI,JvK,JvL,JvM,JvN,JvO,JvP,JvQ,JvR,JvS,JvT,JvU,JvV,JvW,JvX,JvY,JvZ,Jv0,Jv1,Jv2,Jv3,Jv4,JnO,JnP,Jv5,Jv6,Jv7,Jv8,Jv9,Jwa,Jwb,Jwc,Jwd,Jwe,Jwf,Jwg,Jwh,Jwi,Jwj,Jwk,Jwl,Jwm,Jwn,Jwo,Jwp,Jwq,Jwr,Jws,Jwt,Jwu,Jwv,Jww,Jwx,Jwy,Jwz,JwA,JwB,JwC,JwD,JwE,JwF,JwG,JwH,JwI,JwK,JwL,JwM,JwN,JwO,JwP,JwQ,JwR,JwS,JwT,JwU,JwV,JwW,JwX,JwY,JwZ,Jw0,Jw1⟩
theorem Jy4:Ji Pg 6:=⟨_,Tryz.func6,rfl,by decide⟩
theorem Jf5:Ji Pg 7:=⟨_,Tryz.func7,rfl,by decide⟩
theorem JrV:Ji Pg 8:=⟨_,Tryz.func8,rfl,by decide⟩
theorem Jrb:Ji Pg 11:=⟨_,Tryz.func11,rfl,by decide⟩
theorem Jw2:Ji Pg 12:=⟨_,Tryz.func12,rfl,by decide⟩
theorem Jrc:Ji Pg 13:=⟨_,Tryz.func13,rfl,by decide⟩
theorem Jrd:Ji Pg 14:=⟨_,Tryz.func14,rfl,by decide⟩
theorem Jre:Ji Pg 15:=⟨_,Tryz.func15,rfl,by decide⟩
theorem Jw3:Ji Pg 19:=⟨_,Tryz.func19,rfl,by decide⟩
theorem Jll:Ji Pg 20:=⟨_,Tryz.func20,rfl,by decide⟩
theorem Jrf:Ji Pg 21:=⟨_,Tryz.func21,rfl,by decide⟩
theorem Jw4:Ji Pg 22:=⟨_,Tryz.func22,rfl,by decide⟩
theorem Jw5:Ji Pg 23:=⟨_,Tryz.func23,rfl,by decide⟩
theorem Jw6:Ji Pg 26:=⟨_,Tryz.func26,rfl,by decide⟩
theorem Jw7:Ji Pg 27:=⟨_,Tryz.func27,rfl,by decide⟩
theorem Jw8:Ji Pg 28:=⟨_,Tryz.func28,rfl,by decide⟩
theorem Jrg:Ji Pg 29:=⟨_,Tryz.func29,rfl,by decide⟩
theorem Jw9:Ji Pg 30:=⟨_,Tryz.func30,rfl,by decide⟩
theorem Jxa:Ji Pg 31:=⟨_,Tryz.func31,rfl,by decide⟩
theorem Jxb:Ji Pg 32:=⟨_,Tryz.func32,rfl,by decide⟩
theorem JnQ:Ji Pg 33:=⟨_,Tryz.func33,rfl,by decide⟩
theorem Jxc:Ji Pg 34:=⟨_,Tryz.func34,rfl,by decide⟩
theorem Jxd:Ji Pg 35:=⟨_,Tryz.func35,rfl,by decide⟩
theorem JnR:Ji Pg 36:=⟨_,Tryz.func36,rfl,by decide⟩
theorem JnS:Ji Pg 39:=⟨_,Tryz.func39,rfl,by decide⟩
theorem Jxe:Ji Pg 40:=⟨_,Tryz.func40,rfl,by decide⟩
theorem Jxf:Ji Pg 41:=⟨_,Tryz.func41,rfl,by decide⟩
theorem Jxg:Ji Pg 42:=⟨_,Tryz.func42,rfl,by decide⟩
theorem Jrh:Ji Pg 43:=⟨_,Tryz.func43,rfl,by decide⟩
theorem Jxh:Ji Pg 44:=⟨_,Tryz.func44,rfl,by decide⟩
theorem Jxi:Ji Pg 45:=⟨_,Tryz.func45,rfl,by decide⟩
theorem Ji6:Ji Pg 49:=⟨_,Tryz.func49,rfl,by decide⟩
theorem JnT:Ji Pg 50:=⟨_,Tryz.func50,rfl,by decide⟩
theorem Jxj:Ji Pg 51:=⟨_,Tryz.func51,rfl,by decide⟩
theorem Jxk:Ji Pg 52:=⟨_,Tryz.func52,rfl,by decide⟩
theorem Jxl:Ji Pg 53:=⟨_,Tryz.func53,rfl,by decide⟩
theorem Jxm:Ji Pg 54:=⟨_,Tryz.func54,rfl,by decide⟩
theorem Jri:Ji Pg 55:=⟨_,Tryz.func55,rfl,by decide⟩
theorem Jxn:Ji Pg 56:=⟨_,Tryz.func56,rfl,by decide⟩
theorem Jxo:Ji Pg 58:=⟨_,Tryz.func58,rfl,by decide⟩
theorem Jxp:Ji Pg 59:=⟨_,Tryz.func59,rfl,by decide⟩
theorem Jxq:Ji Pg 60:=⟨_,Tryz.func60,rfl,by decide⟩
theorem Jxr:Ji Pg 61:=⟨_,Tryz.func61,rfl,by decide⟩
theorem Jxs:Ji Pg 62:=⟨_,Tryz.func62,rfl,by decide⟩
theorem Jrj:Ji Pg 63:=⟨_,Tryz.func63,rfl,by decide⟩
theorem Jxt:Ji Pg 64:=⟨_,Tryz.func64,rfl,by decide⟩
theorem Jxu:Ji Pg 65:=⟨_,Tryz.func65,rfl,by decide⟩
theorem Jfd:Ji Pg 66:=⟨_,Tryz.func66,rfl,by decide⟩
theorem Jxv:Ji Pg 67:=⟨_,Tryz.func67,rfl,by decide⟩
theorem JnU:Ji Pg 68:=⟨_,Tryz.func68,rfl,by decide⟩
theorem Jxw:Ji Pg 69:=⟨_,Tryz.func69,rfl,by decide⟩
theorem Jxx:Ji Pg 70:=⟨_,Tryz.func70,rfl,by decide⟩
theorem Jxy:Ji Pg 71:=⟨_,Tryz.func71,rfl,by decide⟩
theorem Jxz:Ji Pg 72:=⟨_,Tryz.func72,rfl,by decide⟩
theorem JxA:Ji Pg 73:=⟨_,Tryz.func73,rfl,by decide⟩
theorem JxB:Ji Pg 74:=⟨_,Tryz.func74,rfl,by decide⟩
theorem Jlm:Ji Pg 77:=⟨_,Tryz.func77,rfl,by decide⟩
theorem Jrk:Ji Pg 78:=⟨_,Tryz.func78,rfl,by decide⟩
theorem Jez:Ji Pg 79:=⟨_,Tryz.func79,rfl,by decide⟩
theorem JxC:Ji Pg 80:=⟨_,Tryz.func80,rfl,by decide⟩
theorem JxD:Ji Pg 81:=⟨_,Tryz.func81,rfl,by decide⟩
theorem Jrl:Ji Pg 82:=⟨_,Tryz.func82,rfl,by decide⟩
theorem JxE:Ji Pg 83:=⟨_,Tryz.func83,rfl,by decide⟩
theorem JxF:Ji Pg 84:=⟨_,Tryz.func84,rfl,by decide⟩
theorem Jrm:Ji Pg 85:=⟨_,Tryz.func85,rfl,by decide⟩
theorem Jrn:Ji Pg 86:=⟨_,Tryz.func86,rfl,by decide⟩
theorem JxG:Ji Pg 87:=⟨_,Tryz.func87,rfl,by decide⟩
theorem JxH:Ji Pg 88:=⟨_,Tryz.func88,rfl,by decide⟩
theorem Jro:Ji Pg 89:=⟨_,Tryz.func89,rfl,by decide⟩
theorem JnV:Ji Pg 90:=⟨_,Tryz.func90,rfl,by decide⟩
theorem Jrp:Ji Pg 91:=⟨_,Tryz.func91,rfl,by decide⟩
theorem JxI:Ji Pg 93:=⟨_,Tryz.func93,rfl,by decide⟩
theorem JxK:Ji Pg 94:=⟨_,Tryz.func94,rfl,by decide⟩
theorem JxL:Ji Pg 95:=⟨_,Tryz.func95,rfl,by decide⟩
theorem JxM:Ji Pg 96:=⟨_,Tryz.func96,rfl,by decide⟩
theorem JnW:Ji Pg 97:=⟨_,Tryz.func97,rfl,by decide⟩
theorem JxN:Ji Pg 98:=⟨_,Tryz.func98,rfl,by decide⟩
theorem JxO:Ji Pg 99:=⟨_,Tryz.func99,rfl,by decide⟩
theorem JrW:Ji Pg 100:=⟨_,Tryz.func100,rfl,by decide⟩
theorem JrX:Ji Pg 101:=⟨_,Tryz.func101,rfl,by decide⟩
theorem JrY:Ji Pg 102:=⟨_,Tryz.func102,rfl,by decide⟩
theorem JrZ:Ji Pg 103:=⟨_,Tryz.func103,rfl,by decide⟩
theorem Jr0:Ji Pg 104:=⟨_,Tryz.func104,rfl,by decide⟩
theorem Jr1:Ji Pg 105:=⟨_,Tryz.func105,rfl,by decide⟩
theorem JnX:Ji Pg 107:=⟨_,Tryz.func107,rfl,by decide⟩
theorem JnY:Ji Pg 108:=⟨_,Tryz.func108,rfl,by decide⟩
theorem Jr2:Ji Pg 109:=⟨_,Tryz.func109,rfl,by decide⟩
theorem JnZ:Ji Pg 110:=⟨_,Tryz.func110,rfl,by decide⟩
theorem Jn0:Ji Pg 111:=⟨_,Tryz.func111,rfl,by decide⟩
theorem Jki:Ji Pg 112:=⟨_,Tryz.func112,rfl,by decide⟩
theorem Jr3:Ji Pg 113:=⟨_,Tryz.func113,rfl,by decide⟩
theorem Jr4:Ji Pg 114:=⟨_,Tryz.func114,rfl,by decide⟩
theorem Jf6:Ji Pg 115:=⟨_,Tryz.func115,rfl,by decide⟩
theorem Jr5:Ji Pg 116:=⟨_,Tryz.func116,rfl,by decide⟩
theorem Jn1:Ji Pg 117:=⟨_,Tryz.func117,rfl,by decide⟩
theorem Jn2:Ji Pg 118:=⟨_,Tryz.func118,rfl,by decide⟩
theorem Jn3:Ji Pg 121:=⟨_,Tryz.func121,rfl,by decide⟩
theorem Jr6:Ji Pg 122:=⟨_,Tryz.func122,rfl,by decide⟩
theorem Jr7:Ji Pg 123:=⟨_,Tryz.func123,rfl,by decide⟩
theorem Jn4:Ji Pg 124:=⟨_,Tryz.func124,rfl,by decide⟩
theorem Jn5:Ji Pg 125:=⟨_,Tryz.func125,rfl,by decide⟩
theorem Jr8:Ji Pg 126:=⟨_,Tryz.func126,rfl,by decide⟩
theorem Jr9:Ji Pg 127:=⟨_,Tryz.func127,rfl,by decide⟩
theorem Jsa:Ji Pg 128:=⟨_,Tryz.func128,rfl,by decide⟩
theorem Jsb:Ji Pg 129:=⟨_,Tryz.func129,rfl,by decide⟩
theorem Jn6:Ji Pg 130:=⟨_,Tryz.func130,rfl,by decide⟩
theorem Jsc:Ji Pg 131:=⟨_,Tryz.func131,rfl,by decide⟩
theorem Jsd:Ji Pg 132:=⟨_,Tryz.func132,rfl,by decide⟩
theorem Jn7:Ji Pg 133:=⟨_,Tryz.func133,rfl,by decide⟩
theorem Jse:Ji Pg 134:=⟨_,Tryz.func134,rfl,by decide⟩
theorem Jsf:Ji Pg 135:=⟨_,Tryz.func135,rfl,by decide⟩
theorem Jsg:Ji Pg 136:=⟨_,Tryz.func136,rfl,by decide⟩
theorem Jsh:Ji Pg 137:=⟨_,Tryz.func137,rfl,by decide⟩
theorem Jsi:Ji Pg 138:=⟨_,Tryz.func138,rfl,by decide⟩
theorem Jsj:Ji Pg 139:=⟨_,Tryz.func139,rfl,by decide⟩
theorem Jsk:Ji Pg 140:=⟨_,Tryz.func140,rfl,by decide⟩
end Go.Proofs.Y
end
section
namespace Go.Proofs.Y
open Go Go.Ab
def JdW(W:World):Nat->Nat->Option Value:=fun b o=>(W.cell? ⟨b,o,none⟩).bind fun v=>if v.oneCell' then some v else none
theorem JdM{W:World}{b o:Nat}{v:Value}(h:W.cell? ⟨b,o,none⟩=some v)(h1:v.oneCell'=true):JdW W b o=some v:=by simp[JdW,h,h1]
theorem JpQ(W:World):JhN (JdW W) W:=by
 intro b o v h;simp only[JdW,Option.bind_eq_some_iff] at h;obtain⟨u,h1,h2⟩:=h;split at h2
 ·rename_i h3;cases h2;exact⟨h1,h3⟩
 ·cases h2
theorem JpR{H:Type}(d:DataW H):1<=YtgbbhilflgekhaaGreatDoor.Rows.uptoBulk d:=by
 cases d with
 | lit l=>cases l <;> simp[YtgbbhilflgekhaaGreatDoor.Rows.uptoBulk]
 | _=>simp[YtgbbhilflgekhaaGreatDoor.Rows.uptoBulk]
theorem Jkj{H:Type}(l:List (DataW H)):YtgbbhilflgekhaaGreatDoor.Rows.uptoBulkAll l=(l.map YtgbbhilflgekhaaGreatDoor.Rows.uptoBulk).sum:=by
 induction l with
 | nil=>simp[YtgbbhilflgekhaaGreatDoor.Rows.uptoBulkAll]
 | cons x l ih=>simp[YtgbbhilflgekhaaGreatDoor.Rows.uptoBulkAll,ih]
section
variable {H:Type} (enc:TypeId × Value->H) (P:Program) (W:World)
def Rd (n:Nat)(t:TypeId)(E:List AV->Nat->Prop):Prop :=
 ∀ cs d ps,DataW.trod enc P W 0 (fun _=>true) true n t cs=some (d,ps)->(∀ c∈cs,c.oneCell'=true)/\∃ av,J3 (gm (JdW W)) cs av/\E av (YtgbbhilflgekhaaGreatDoor.Rows.uptoBulk d)
variable {enc P W}
theorem Rd.mono{n:Nat}{t:TypeId}{E F:List AV->Nat->Prop}(h:Rd enc P W n t E)(k:∀ av m,E av m->F av m):Rd enc P W n t F:=fun cs d ps e=>by
 obtain⟨h1,av,h2,h3⟩:=h cs d ps e;exact⟨h1,av,h2,k av _ h3⟩
theorem Rd.zero{t:TypeId}{E:List AV->Nat->Prop}:Rd enc P W 0 t E:=fun cs d ps e=>by simp[DataW.trod] at e
theorem JhW{g:Gh}{v:Value}(h:JfG v=true):J3 g [v] [.lit v]:=.cons (.lit h) .nil
theorem JdN{t:TypeId}{ti:TI}(h:Jt P t=some ti):∃ d,P.underlying t=some d/\ti.kd=Jcu d/\P.cellsOf t=ti.size:=by
 obtain⟨i,d,h1,h2,h3,h4,_⟩:=Jz h;exact⟨d,h2,h3,by simp[Program.cellsOf,h1,h4]⟩
theorem Jg5{t:TypeId}{ti:TI}(h:Jt P t=some ti):P.cellsOf t=ti.size:=(JdN h).choose_spec.2.2
theorem Rd.int{n:Nat}{t:TypeId}{ti:TI}(h:Jt P t=some ti){k:IntKind}(hk:ti.kd = .int k):Rd enc P W n t (fun av m=>∃ z,(Lit.int k z).wf=true/\av=[.lit (.int k z)]):=by
 cases n with
 | zero=>exact .zero
 | succ n =>
  intro cs d ps e;obtain⟨u,hu,hd,_⟩:=JdN h;rw[hk] at hd;cases u <;> simp[Jcu] at hd
  subst hd;rw[DataW.trod_step] at e;unfold DataW.trodStep at e;rw[hu] at e;split at e <;> rename_i heq <;> first | (cases heq;done) | skip
  ·rename_i k' q;cases heq;split at e
   ·rename_i hc;obtain⟨rfl,hw⟩:=hc;exact⟨by simp[Value.oneCell'],_,JhW rfl,_,hw,rfl⟩
   ·cases e
  all_goals simp_all
theorem Rd.bool{n:Nat}{t:TypeId}{ti:TI}(h:Jt P t=some ti)(hk:ti.kd = .bool):Rd enc P W n t (fun av m=>∃ b,av=[.lit (.bool b)]):=by
 cases n with
 | zero=>exact .zero
 | succ n =>
  intro cs d ps e;obtain⟨u,hu,hd,_⟩:=JdN h;rw[hk] at hd;cases u <;> simp[Jcu] at hd
  rw[DataW.trod_step] at e;unfold DataW.trodStep at e;rw[hu] at e;split at e <;> rename_i heq <;> first | (cases heq;done) | skip
  ·exact⟨by simp[Value.oneCell'],_,JhW rfl,_,rfl⟩
  all_goals simp_all
theorem Rd.str{n:Nat}{t:TypeId}{ti:TI}(h:Jt P t=some ti)(hk:ti.kd = .str):Rd enc P W n t (fun av m=>∃ s:ByteArray,s.size<=maxLen/\s.size+1=m/\av=[.lit (.string s)]):=by
 cases n with
 | zero=>exact .zero
 | succ n =>
  intro cs d ps e;obtain⟨u,hu,hd,_⟩:=JdN h;rw[hk] at hd;cases u <;> simp[Jcu] at hd
  rw[DataW.trod_step] at e;unfold DataW.trodStep at e;rw[hu] at e;split at e <;> rename_i heq <;> first | (cases heq;done) | skip
  ·rename_i s;split at e
   ·rename_i hs;cases e;refine⟨by simp[Value.oneCell'],_,JhW rfl,s,hs,?_,rfl⟩;simp only[YtgbbhilflgekhaaGreatDoor.Rows.uptoBulk];rw[Array.length_toList];rfl
   ·cases e
  all_goals simp_all
theorem Jln{α β:Type}{f:α->Option β}:∀ {l:List α} {r:List β},l.mapM f=some r->∀ (i:Nat) (x:α),l[i]? = some x->∃ y,r[i]? = some y/\f x=some y:=by
 intro l;induction l with
 | nil=>intro r h i x e;simp at e
 | cons a l ih =>
  intro r h i x e;rw[List.mapM_cons] at h;cases hx:f a with
  | none=>simp[hx] at h
  | some y =>
   cases hxs:l.mapM f with
   | none=>simp[hx,hxs] at h
   | some ys =>
    simp[hx,hxs] at h;subst h;cases i with
    | zero=>simp at e;subst e;exact⟨y,rfl,hx⟩
    | succ i=>simp at e;simpa using ih hxs i x e
theorem Jf7{a:Addr}{i:Nat}{v:Value}(h:W.cell? (a.add i)=some v):a.add i=⟨a.block,a.off+i,none⟩:=by
 have hspot:(a.add i).spot=none:=by
  cases hsp:(a.add i).spot with
  | none=>rfl
  | some s =>
   simp only[World.cell?] at h;split at h
   ·simp[hsp] at h
   ·cases h
 unfold Addr.add at hspot ⊢;split
 ·rename_i h0;subst h0;rw[if_pos rfl] at hspot;cases a
  simp_all
 ·rfl
theorem Jmf{a:Addr}{n:Nat}{cs:List Value}(h:W.cells? 0 a n=some cs):cs.length=n/\∀ (i:Nat) (v:Value),cs[i]? = some v->W.cell? ⟨a.block,a.off+i,none⟩=some v/\W.cell? (a.add i)=some v:=by
 unfold World.cells? at h;rw[if_pos (Nat.zero_le _)] at h;have hl:cs.length=n:=by simpa using mapM_some_length h
 refine⟨hl,fun i v e=>?_⟩;have hi:i<n:=by have:=(List.getElem?_eq_some_iff.1 e).1;omega
 obtain⟨y,h1,h2⟩:=Jln h i i (by simp[hi]);rw[e] at h1;cases h1;exact⟨by rw[<- Jf7 h2];exact h2,h2⟩
theorem Jsl{a:Addr}{i j:Nat}:(a.add i).add j=a.add (i+j):=by
 unfold Addr.add;by_cases h:i=0
 ·subst h;simp
 ·by_cases h2:j=0
  ·subst h2;simp
  ·simp[h,h2,Nat.add_assoc]
theorem Rd.slice{n:Nat}{t e:TypeId}{ti te:TI}(h:Jt P t=some ti)(hk:ti.kd = .sl e)(he:Jt P e=some te)(hpos:0<te.size){E:List AV->Nat->Prop}(hE:Rd enc P W n e E) :
  Rd enc P W (n+1) t (fun av m=>∃ l:List (List AV × Nat),av=[.vec (l.map (·.1)) false]/\(∀ p∈l,E p.1 p.2/\1<=p.2/\p.1.length=te.size)/\(l.map (·.2)).sum+1<=m/\l.length<=maxLen):=by
 intro cs d ps e0;obtain⟨u,hu,hd,_⟩:=JdN h;rw[hk] at hd;cases u <;> simp[Jcu] at hd
 subst hd;have hc:=Jg5 he;rw[DataW.trod_step] at e0;unfold DataW.trodStep at e0;rw[hu] at e0;split at e0 <;> rename_i heq <;> first | (cases heq;done) | skip
 ·cases e0;refine⟨by simp[Value.oneCell'],_,.cons .vecN .nil,[],rfl,by simp,by simp[YtgbbhilflgekhaaGreatDoor.Rows.uptoBulk],by simp⟩
 ·rename_i a len cap;cases heq;simp only at e0;split at e0
  ·rename_i hcond;obtain⟨_,hlc,hcm⟩:=hcond;simp only[Option.map_eq_some_iff,Option.bind_eq_some_iff] at e0;obtain⟨elems,hel,rest,hrest,heq2⟩:=e0;cases heq2;have hlen:elems.length=len:=by simpa using mapM_some_length hel
   refine⟨by simp[Value.oneCell'],?_⟩;have row:∀ i,i<len->∃ y,elems[i]? = some y/\∃ cs',cs'.length=te.size/\(∀ j v,cs'[j]? = some v->W.cell? (a.add (i * te.size+j))=some v)/\(∀ c∈cs',c.oneCell'=true)/\∃ av,J3 (gm (JdW W)) cs' av/\E av (YtgbbhilflgekhaaGreatDoor.Rows.uptoBulk y.1):=by
    intro i hi;obtain⟨y,h1,h2⟩:=Jln hel i i (by simp[hi]);simp only[Option.bind_eq_some_iff] at h2;obtain⟨cs',hc1,hc2⟩:=h2;rw[hc] at hc1;obtain⟨c1,c2⟩:=Jmf hc1;obtain⟨y1,y2⟩:=y;obtain⟨r1,r2⟩:=hE _ _ _ hc2;refine⟨_,h1,cs',c1,fun j v e=>?_,r1,r2⟩;rw[<- Jsl];exact(c2 j v e).2
   by_cases h0:len=0
   ·subst h0;have:elems=[]:=List.length_eq_zero_iff.1 hlen;subst this;exact⟨_,.cons (.vecE (fun q=>by cases q)) .nil,[],rfl,by simp,by simp[YtgbbhilflgekhaaGreatDoor.Rows.uptoBulk,YtgbbhilflgekhaaGreatDoor.Rows.uptoBulkAll],by simp⟩
   ·
    have hp:0<len:=by omega
    obtain⟨y0,g1,cs0,g2,g3,_⟩:=row 0 hp;obtain⟨v0,hv0⟩:∃ v0,cs0[0]? = some v0:=⟨cs0[0]'(by omega),by simp⟩;have ha:a=⟨a.block,a.off,none⟩:=by
     have:=g3 0 v0 hv0;have h2:=Jf7 (a:=a) (i:=0) (by simpa using this);simpa [Addr.add] using h2
    classical
    let asf:Nat->List AV:=fun i=>if hi:i<len then (row i hi).choose_spec.2.choose_spec.2.2.2.choose else []
    let csf:Nat->List Value:=fun i=>if hi:i<len then (row i hi).choose_spec.2.choose else []
    let yf:Nat->Nat:=fun i=>if hi:i<len then YtgbbhilflgekhaaGreatDoor.Rows.uptoBulk (row i hi).choose.1 else 0
    have fact:∀ i,i<len->elems[i]?.map (fun y=>YtgbbhilflgekhaaGreatDoor.Rows.uptoBulk y.1)=some (yf i)/\(csf i).length=te.size/\(∀ j v,(csf i)[j]? = some v->W.cell? (a.add (i * te.size+j))=some v)/\(∀ c∈csf i,c.oneCell'=true)/\J3 (gm (JdW W)) (csf i) (asf i)/\E (asf i) (yf i)/\1<=yf i:=by
     intro i hi;have q:=(row i hi).choose_spec;have q2:=q.2.choose_spec;have q3:=q2.2.2.2.choose_spec;simp only[asf,csf,yf,dif_pos hi];exact⟨congrArg (Option.map fun y=>YtgbbhilflgekhaaGreatDoor.Rows.uptoBulk y.1) q.1,q2.1,q2.2.1,q2.2.2.1,q3.1,q3.2,JpR _⟩
    let l:List (List AV × Nat):=(List.range len).map fun i=>(asf i,yf i)
    have hll:l.length=len:=by simp[l]
    have hxs:(l.map (·.1))=(List.range len).map asf:=by simp[l,Function.comp_def]
    have hys:(l.map (·.2))=elems.map (fun y=>YtgbbhilflgekhaaGreatDoor.Rows.uptoBulk y.1):=by
     apply List.ext_getElem?;intro i;simp only[l,List.map_map,List.getElem?_map,Function.comp_def];by_cases hi:i<len
     ·rw[(fact i hi).1];simp[hi]
     ·simp[List.getElem?_eq_none (l:=elems) (i:=i) (by omega),hi]
    refine⟨[.vec (l.map (·.1)) false],.cons ?_ .nil,l,rfl,?_,?_,by rw[hll];omega⟩
    ·rw[ha];have key:Rep (gm (JdW W)) (.slice (some ⟨a.block,a.off,none⟩) ((List.range len).map asf).length cap) (.vec ((List.range len).map asf) false):=by
      refine .vec (s:=te.size) (fun i j=>(csf i).getD j (.bool false)) ?_ (fun q=>by cases q) (by simpa using hlc) ?_ ?_
      ·intro x hx;obtain⟨i,hi,rfl⟩:=List.mem_map.1 hx;have:=fact i (by simpa using hi);rw[<- this.2.2.2.2.1.1];exact this.2.1
      ·intro i x j b e1 e2;have hi:i<len:=by have:=(List.getElem?_eq_some_iff.1 e1).1;simpa using this
       have hx:asf i=x:=by simpa [hi] using e1
       subst hx;obtain⟨_,f2,f3,f4,f5,_⟩:=fact i hi;have hj:j<(csf i).length:=by rw[f5.1];exact(List.getElem?_eq_some_iff.1 e2).1
       have hv:(csf i)[j]? = some ((csf i).getD j (.bool false)):=by simp[List.getD,hj]
       have hcell:=f3 j _ hv;have:=Jf7 hcell;rw[this] at hcell;rw[Nat.add_assoc];exact JdM hcell (f4 _ (List.mem_of_getElem? hv))
      ·intro i x j b e1 e2;have hi:i<len:=by have:=(List.getElem?_eq_some_iff.1 e1).1;simpa using this
       have hx:asf i=x:=by simpa [hi] using e1
       subst hx;obtain⟨_,f2,f3,f4,f5,_⟩:=fact i hi;have hj:j<(csf i).length:=by rw[f5.1];exact(List.getElem?_eq_some_iff.1 e2).1
       have hv:(csf i)[j]? = some ((csf i).getD j (.bool false)):=by simp[List.getD,hj]
       exact f5.2 j _ b hv e2
     rw[hxs];simpa using key
    ·intro p hp;obtain⟨i,hi,rfl⟩:=List.mem_map.1 hp;obtain⟨_,f2,_,_,f5,f6,f7⟩:=fact i (by simpa using hi);exact⟨f6,f7,by rw[<- f5.1];exact f2⟩
    ·rw[hys];simp only[YtgbbhilflgekhaaGreatDoor.Rows.uptoBulk,Jkj,List.map_map];have:(List.map (YtgbbhilflgekhaaGreatDoor.Rows.uptoBulk ∘ fun x=>x.fst) elems).sum=(List.map (fun y=>YtgbbhilflgekhaaGreatDoor.Rows.uptoBulk y.1) elems).sum:=rfl;omega
  ·cases e0
 all_goals simp_all
def Jsm (enc:TypeId × Value->H)(P:Program)(W:World)(n N:Nat)(fs:List (Nat × TypeId))(k:Nat)(E:List AV->Nat->Prop):Prop :=
 ∀ (cs:List Value) (xs:List (DataW H × List MemPlace)),cs.length=N->(fs.mapM fun f=>DataW.trod enc P W 0 (fun _=>true) true n f.2 ((cs.drop f.1).take (P.cellsOf f.2)))=some xs ->
  (∀ c∈cs.drop k,c.oneCell'=true)/\∃ av,J3 (gm (JdW W)) (cs.drop k) av/\E av (YtgbbhilflgekhaaGreatDoor.Rows.uptoBulkAll (xs.map (·.1)))
theorem Jsm.nil{n N k:Nat}(h:N<=k):Jsm enc P W n N [] k (fun av m=>av=[]):=fun cs xs hl _=>by
 have:cs.drop k=[]:=List.drop_eq_nil_of_le (by omega);rw[this];exact⟨by simp,[],.nil,rfl⟩
theorem Jsm.cons{n N k t:Nat}{ti:TI}{fs:List (Nat × TypeId)}{E F:List AV->Nat->Prop}(ht:Jt P t=some ti)(h:Rd enc P W n t E)(r:Jsm enc P W n N fs (k+ti.size) F) :
  Jsm enc P W n N ((k,t) :: fs) k (fun av m=>∃ a b p q,av=a++b/\E a p/\F b q/\p+q=m):=by
 intro cs xs hl hm;rw[List.mapM_cons] at hm;simp only[bind,Option.bind_eq_some_iff,pure,Option.some.injEq] at hm;obtain⟨⟨d,ps⟩,h1,ys,h2,rfl⟩:=hm;obtain⟨q1,av,q2,q3⟩:=h _ _ _ h1;obtain⟨r1,bs,r2,r3⟩:=r cs ys hl h2;have e:cs.drop k=(cs.drop k).take (P.cellsOf t)++cs.drop (k+ti.size):=by
  rw[Jg5 ht,<- List.drop_drop,List.take_append_drop]
 rw[e];refine⟨fun c hc=>?_,av++bs,q2.append r2,av,bs,_,_,rfl,q3,r3,?_⟩
 ·rcases List.mem_append.1 hc with hc | hc
  ·exact q1 c hc
  ·exact r1 c hc
 ·simp[YtgbbhilflgekhaaGreatDoor.Rows.uptoBulkAll]
theorem Ji7{α β γ:Type}(f:α->β)(g:β->Option γ):∀ l:List α,(l.map f).mapM g=l.mapM fun x=>g (f x)
 | []=>by simp
 | x :: l=>by simp only[List.map_cons,List.mapM_cons,Ji7 f g l]
theorem Rd.struct{n:Nat}{t:TypeId}{ti:TI}(h:Jt P t=some ti){fs:List (Nat × TypeId)}(hk:ti.kd = .st fs){E:List AV->Nat->Prop}(hE:Jsm enc P W n ti.size fs 0 E) :
  Rd enc P W (n+1) t (fun av m=>∃ q,E av q/\q+1=m):=by
 intro cs d ps e0;obtain⟨u,hu,hd,hc⟩:=JdN h;rw[hk] at hd;cases u <;> simp[Jcu] at hd
 rename_i fs';subst hd;rw[DataW.trod_step] at e0;unfold DataW.trodStep at e0;rw[hu] at e0;have key:(if cs.length=P.cellsOf t then (fs'.toList.mapM fun f=>DataW.trod enc P W 0 (fun _=>true) true n f.type ((cs.drop f.offset).take (P.cellsOf f.type))).map fun xs=>(DataW.agg (xs.map (·.1)),xs.flatMap (·.2)) else none)=some (d,ps):=by
  split at e0 <;> rename_i heq <;> first | (cases heq;done) | skip
  ·cases heq;exact e0
  all_goals simp_all
 split at key
 ·rename_i hl;simp only[Option.map_eq_some_iff,Prod.mk.injEq] at key;obtain⟨xs,h1,rfl,rfl⟩:=key;rw[hc] at hl;obtain⟨r1,av,r2,r3⟩:=hE cs xs hl (by rw[Ji7];exact h1);exact⟨by simpa using r1,av,by simpa using r2,_,r3,by simp[YtgbbhilflgekhaaGreatDoor.Rows.uptoBulk]⟩
 ·cases key
theorem Jn8{T:Type}{f:T->List AV}{sz:T->Nat}{E:List AV->Nat->Prop}(hE:∀ a m,E a m->∃ t,a=f t/\sz t<=m):∀ (l:List (List AV × Nat)),(∀ p∈l,E p.1 p.2)->∃ ts:List T,l.map (·.1)=ts.map f/\(ts.map sz).sum<=(l.map (·.2)).sum
 | [],_=>⟨[],rfl,Nat.le_refl _⟩
 | p :: l,h=>by
  obtain⟨t,h1,h2⟩:=hE _ _ (h p (by simp));obtain⟨ts,h3,h4⟩:=Jn8 hE l (fun q hq=>h q (by simp[hq]));exact⟨t :: ts,by simp[h1,h3],by simp;omega⟩
end
end Go.Proofs.Y
end
section
namespace Go.Proofs.Y
open Go Go.Ab
open Go.Proofs.Tryz renaming prog->Pg
theorem Jdh{n:Int}(h : -9223372036854775808<=n)(k:n<=9223372036854775807):IntKind.i64.wrap n=n:=IntWalk.i64_in n ⟨h,k⟩
theorem mixed:Tryz.prog.follows .mixedOrders=true:=by decide
theorem Jn9{σ:St}{h:Hp}{v:AV}{N:Nat}(t:Nat)(ho:Own h)(hN:h.nx=N)(hle:N<=σ.hp.nx)(hv:lk σ.slots t=some v)(hp:Rn id N v v)(hb:∀ p∈h.boxes,lk σ.hp.boxes p.1=some p.2)(ht:∀ p∈h.toks,lk σ.hp.toks p.1=some p.2) :
  ∃ σ',St.cp N σ σ'/\Je9 (JaG Pg σ' [.tmp t]) (fun r h'=>r=v/\h'=h) σ'.hp:=JpC t ho hN hle hv hp hb ht
abbrev I8:={z:Int // -128<=z/\z<=127}
theorem I8.lo(z:I8) : -128<=z.1:=z.2.1
theorem I8.hi(z:I8):z.1<=127:=z.2.2
instance:Inhabited I8:=⟨⟨0,by decide⟩⟩
inductive Gd where
 | mk (op:I8) (n:Int) (name:ByteArray) (kids:List Gd)
structure Ed where
 op:I8
 set:List (Int × Int)
 n:Int
 level:Int
 g:Gd
 acts:List (Int × Int)
 to:Int
structure Sta where
 rule:Int
 edges:List Ed
structure Nr where
 name:ByteArray
 lexer:Bool
 frag:Bool
 lz:Bool
 left:Bool
 mode:Int
 type:Int
 start:Int
 stop:Int
structure Nt where
 types:List ByteArray
 channels:List ByteArray
 modes:List ByteArray
 rules:List Nr
 states:List Sta
structure It where
 type:Int
 index:Int
 column:Int
 made:Bool
 token:Int
structure Orc where
 id:Int
 index:Int
 says:Bool
instance:Inhabited Gd:=⟨.mk default 0 ⟨#[]⟩ []⟩
instance:Inhabited Ed:=⟨⟨default,[],0,0,default,[],0⟩⟩
instance:Inhabited Sta:=⟨⟨0,[]⟩⟩
instance:Inhabited Nr:=⟨⟨⟨#[]⟩,false,false,false,false,0,0,0,0⟩⟩
instance:Inhabited Nt:=⟨⟨[],[],[],[],[]⟩⟩
instance:Inhabited It:=⟨⟨0,0,0,false,0⟩⟩
instance:Inhabited Orc:=⟨⟨0,0,false⟩⟩
def Gd.op:Gd->I8 | .mk a _ _ _=>a
def Gd.n:Gd->Int | .mk _ a _ _=>a
def Gd.name:Gd->ByteArray | .mk _ _ a _=>a
def Gd.kids:Gd->List Gd | .mk _ _ _ a=>a
mutual
def JaT:Gd->List AV
 | .mk op n name kids=>[.lit (.int .i8 op.1),.lit (.int .i64 n),.lit (.string name),.vec (encGs kids) false]
def encGs:List Gd->List (List AV)
 | []=>[]
 | g :: l=>JaT g :: encGs l
end
theorem Jf8(l:List Gd):encGs l=l.map JaT:=by induction l with | nil=>rfl | cons x l ih=>simp[encGs,ih]
theorem JF(g:Gd):JaT g=[.lit (.int .i8 g.op.1),.lit (.int .i64 g.n),.lit (.string g.name),.vec (g.kids.map JaT) false]:=by cases g;simp only[JaT,Jf8];rfl
def Ja2 (p:Int × Int):List AV:=[.lit (.int .i32 p.1),.lit (.int .i32 p.2)]
def JG(p:Int × Int):List AV:=[.lit (.int .i8 p.1),.lit (.int .i64 p.2)]
def Jr (e:Ed):List AV:=[.lit (.int .i8 e.op.1),.vec (e.set.map Ja2) false,.lit (.int .i64 e.n),.lit (.int .i64 e.level),.lit (.int .i8 e.g.op.1),.lit (.int .i64 e.g.n),.lit (.string e.g.name),.vec (e.g.kids.map JaT) false,.vec (e.acts.map JG) false,.lit (.int .i64 e.to)]
def Je(s:Sta):List AV:=[.lit (.int .i64 s.rule),.vec (s.edges.map Jr) false]
def Jf(r:Nr):List AV:=[.lit (.string r.name),.lit (.bool r.lexer),.lit (.bool r.frag),.lit (.bool r.lz),.lit (.bool r.left),.lit (.int .i64 r.mode),.lit (.int .i64 r.type),.lit (.int .i64 r.start),.lit (.int .i64 r.stop)]
def JaA (b:ByteArray):List AV:=[.lit (.string b)]
def Jh (n:Nt):List AV:=[.vec (n.types.map JaA) false,.vec (n.channels.map JaA) false,.vec (n.modes.map JaA) false,.vec (n.rules.map Jf) false,.vec (n.states.map Je) false]
def Jy5 (i:It):List AV:=[.lit (.int .i64 i.type),.lit (.int .i64 i.index),.lit (.int .i64 i.column),.lit (.bool i.made),.lit (.int .i64 i.token)]
def Jfy (o:Orc):List AV:=[.lit (.int .i64 o.id),.lit (.int .i64 o.index),.lit (.bool o.says)]
def Jkk (n:Int):List AV:=[.lit (.int .i64 n)]
theorem Jec(g:Gd):(JaT g).length=4:=by cases g;rfl
theorem Jf9(e:Ed):(Jr e).length=10:=rfl
theorem Jfe(s:Sta):(Je s).length=2:=rfl
theorem Jff(r:Nr):(Jf r).length=9:=rfl
theorem J6(n:Nt):(Jh n).length=5:=rfl
theorem Jga(i:It):(Jy5 i).length=5:=rfl
theorem Jed(o:Orc):(Jfy o).length=3:=rfl
theorem Jee(o:Int × Int):(Ja2 o).length=2:=rfl
theorem Jc1(o:Int × Int):(JG o).length=2:=rfl
theorem Jgb(o:ByteArray):(JaA o).length=1:=rfl
theorem Jgc(o:Int):(Jkk o).length=1:=rfl
theorem Ji8(g:Gd):(JaT g).take 4=JaT g:=by cases g;rfl
theorem Ji9(e:Ed):(Jr e).take 10=Jr e:=rfl
theorem Jg6(s:Sta):(Je s).take 2=Je s:=rfl
theorem Jg7(r:Nr):(Jf r).take 9=Jf r:=rfl
theorem Jay(n:Nt):(Jh n).take 5=Jh n:=rfl
theorem Jja(i:It):(Jy5 i).take 5=Jy5 i:=rfl
theorem Jjb(o:Orc):(Jfy o).take 3=Jfy o:=rfl
theorem Jjc(o:Int × Int):(Ja2 o).take 2=Ja2 o:=rfl
theorem Jgd(o:Int × Int):(JG o).take 2=JG o:=rfl
theorem Ja3{σ σ':St}{N:Nat}(hN:N<=σ'.hp.nx)(hnx:σ'.hp.nx<=σ.hp.nx)(hnt:σ'.nt=σ.nt)(hs:∀ p∈σ'.slots,lk σ.slots p.1=some p.2/\Rn id σ'.hp.nx p.2 p.2)
  (hb:∀ p∈σ'.hp.boxes,p.1<σ'.hp.nx/\lk σ.hp.boxes p.1=some p.2/\RnL id σ'.hp.nx p.2 p.2)
  (ht:∀ p∈σ'.hp.toks,p.1<σ'.hp.nx/\lk σ.hp.toks p.1=some p.2/\RnR id σ'.hp.nx p.2.xs p.2.xs):St.cp N σ σ':=(St.cp_drop hnx hnt hs hb ht).mono hN
theorem JdO{T:Type}(f:T->List AV){l:List T}{i:Nat}{x:T}(h:l[i]? = some x):(l.map f).getD i []=f x:=by simp[List.getD_eq_getElem?_getD,h]
theorem JBa{T:Type}[Inhabited T]{f:T->List AV}{l:List T}{i:Nat}(h:i<l.length):(l.map f).getD i []=f (l.getD i default):=by simp[List.getD_eq_getElem?_getD,List.getElem?_eq_getElem h]
theorem Jrq{T:Type}[Inhabited T]{f:T->List AV}{l:List T}{i:Nat}(h:i<l.length):(l.map f)[i]? = some (f (l.getD i default)):=by simp[List.getD_eq_getElem?_getD,List.getElem?_eq_getElem h]
theorem JpS{a b:Int}(h:a=b):(a==b)=true:=by rw[h];exact beq_self_eq_true b
theorem Jsn{a b:Int}(h:¬ a=b):(a==b)=false:=by rw[beq_eq_false_iff_ne];exact h
theorem Jv{T:Type}[Inhabited T]{l:List T}{i:Nat}(h:i<l.length):l.getD i default∈l:=by rw[List.getD_eq_getElem?_getD,List.getElem?_eq_getElem h];exact List.getElem_mem h
theorem Jfz{T:Type}[Inhabited T]{l:List T}{i:Nat}(h:i<l.length):l[i]? = some (l.getD i default):=by rw[List.getD_eq_getElem?_getD,List.getElem?_eq_getElem h];rfl
theorem JaC{l:List AV}(h:∀ a∈l,∃ v,a = .lit v):∀ a∈l,Ab.Pure a:=fun a ha=>by obtain⟨v,rfl⟩:=h a ha;exact .lit v
theorem Jk{T:Type}{f:T->List AV}(h:∀ t,∀ c∈f t,Ab.Pure c)(l:List T):∀ x∈l.map f,∀ c∈x,Ab.Pure c:=fun x hx=>by
 obtain⟨t,_,rfl⟩:=List.mem_map.1 hx;exact h t
theorem JS(g:Gd):∀ c∈JaT g,Ab.Pure c:=by
 match g with
 | .mk op n name kids =>
  intro c hc;simp only[JaT,List.mem_cons,List.not_mem_nil,or_false] at hc;rcases hc with rfl | rfl | rfl | rfl
  iterate 3 exact .lit _
  refine .vec fun x hx=>?_
  rw[Jf8] at hx;obtain⟨k,hk,rfl⟩:=List.mem_map.1 hx;exact JS k
termination_by SizeOf.sizeOf g
decreasing_by simp_wf;have:=List.sizeOf_lt_of_mem hk;omega
theorem Jb3(p:Int × Int):∀ c∈Ja2 p,Ab.Pure c:=JaC (by simp[Ja2])
theorem J7(p:Int × Int):∀ c∈JG p,Ab.Pure c:=JaC (by simp[JG])
theorem Jdv(p:Orc):∀ c∈Jfy p,Ab.Pure c:=JaC (by simp[Jfy])
theorem Ja9(p:Nr):∀ c∈Jf p,Ab.Pure c:=JaC (by simp[Jf])
theorem Jal(p:ByteArray):∀ c∈JaA p,Ab.Pure c:=JaC (by simp[JaA])
theorem Jge(p:Int):∀ c∈Jkk p,Ab.Pure c:=JaC (by simp[Jkk])
theorem Jbi(e:Ed):∀ c∈Jr e,Ab.Pure c :=
 Jc (.lit _) (Jc (.vec (Jk Jb3 _)) (Jc (.lit _) (Jc (.lit _) (Jc (.lit _) (Jc (.lit _) (Jc (.lit _) (Jc (.vec (Jk JS _)) (Jc (.vec (Jk J7 _)) (Jc (.lit _) Jm)))))))))
theorem JcH(s:Sta):∀ c∈Je s,Ab.Pure c:=Jc (.lit _) (Jc (.vec (Jk Jbi _)) Jm)
theorem J8(n:Nt):∀ c∈Jh n,Ab.Pure c :=
 Jc (.vec (Jk Jal _)) (Jc (.vec (Jk Jal _)) (Jc (.vec (Jk Jal _)) (Jc (.vec (Jk Ja9 _)) (Jc (.vec (Jk JcH _)) Jm))))
def grA (t:Nat):List (List AV)->AV
 | []=>.vec [] true
 | _ :: l=>.own t (l.length+1)
def grT (t s:Nat):List (List AV)->List (Nat × Tk)
 | []=>[]
 | x :: l=>[(t,⟨x :: l,0,s⟩)]
def grN (t:Nat):List (List AV)->Nat
 | []=>t
 | _ :: _=>t+1
theorem J2{n b:Nat}(h:n<=2000000000)(k:n * b<=140737488355328):JbS n b:=⟨Nat.le_trans h (by decide),k⟩
theorem JP{α:Type}:∀ (l m:List (Nat × α)) (i:Nat),lk (l++m) i=(lk l i).or (lk m i)
 | [],m,i=>by simp[lk]
 | (j,x) :: l,m,i=>by
  simp only[List.cons_append,lk];split
  ·rfl
  ·exact JP l m i
theorem St.wk_slots1{σ:St}{sl:List (Nat × AV)}{bx:List (Nat × List AV)}{tk:List (Nat × Tk)}(hs:∀ p∈sl,lk σ.slots p.1=some p.2)(hb:∀ p∈bx,lk σ.hp.boxes p.1=some p.2)(ht:∀ t,lk σ.hp.toks t=lk tk t) :
  St.wk σ ⟨sl,⟨bx,tk,σ.hp.nx⟩,σ.nt⟩ :=
 fun g0 h0 w0 g w a r=>⟨g,⟨r.st.less rfl (fun i c e=>hb _ (Jaw e)) (fun i c e=>(ht i).trans e),fun s v e=>r.slots s v (hs _ (Jaw e)),r.nt,r.defers⟩⟩
mutual
def gsz:Gd->Nat
 | .mk _ _ _ kids=>1+gszs kids
def gszs:List Gd->Nat
 | []=>0
 | g :: l=>gsz g+gszs l
end
theorem JpT(l:List Gd):gszs l=(l.map gsz).sum:=by induction l with | nil=>rfl | cons x l ih=>simp[gszs,ih]
theorem Jlo(g:Gd):gsz g=1+(g.kids.map gsz).sum:=by cases g;simp only[gsz,JpT];rfl
theorem Jdw{l:List Nat}{x:Nat}(h:x∈l):x<=l.sum:=by
 induction l with
 | nil=>cases h
 | cons y l ih =>
  simp only[List.sum_cons];rcases List.mem_cons.1 h with rfl | h
  ·omega
  ·have:=ih h;omega
theorem Jef{T:Type}(f:T->Nat)(h:∀ t,1<=f t)(l:List T):l.length<=(l.map f).sum:=by
 induction l with
 | nil=>simp
 | cons x l ih=>have:=h x;simp only[List.length_cons,List.map_cons,List.sum_cons];omega
theorem Jc2(g:Gd):1<=gsz g:=by rw[Jlo];omega
theorem Jbj{g k:Gd}(h:k∈g.kids):gsz k<gsz g:=by rw[Jlo g];have:=Jdw (List.mem_map_of_mem (f:=gsz) h);omega
theorem Jbq(g:Gd):g.kids.length<gsz g:=by rw[Jlo g];have:=Jef gsz Jc2 g.kids;omega
theorem JxP{z:Int}(h:(Lit.int .i8 z).wf=true) : -128<=z/\z<=127:=by
 simp only[Lit.wf,Bool.and_eq_true,decide_eq_true_eq] at h;have e1:IntKind.i8.min = -128:=by decide
 have e2:IntKind.i8.max=127:=by decide
 omega
section
variable {H:Type} {en:TypeId × Value->H} {W:World}
theorem Rd.slice'{n:Nat}{t e:TypeId}{ti te:TI}(h:Jt Pg t=some ti)(hk:ti.kd = .sl e)(he:Jt Pg e=some te)(hpos:0<te.size){T:Type}{f:T->List AV}{sz:T->Nat}
  (hE:∀ k,k<n->Rd en Pg W k e (fun av m=>∃ t:T,av=f t/\sz t<=m)) :
  Rd en Pg W n t (fun av m=>∃ l:List T,av=[.vec (l.map f) false]/\(l.map sz).sum+1<=m/\l.length+1<=m):=by
 cases n with
 | zero=>exact .zero
 | succ n =>
  refine(Rd.slice h hk he hpos (hE n (Nat.lt_succ_self n))).mono ?_;rintro av m ⟨l,rfl,h1,h2,_⟩;obtain⟨ts,h3,h4⟩:=Jn8 (f:=f) (sz:=sz) (fun a m h=>h) l (fun p hp=>(h1 p hp).1);have hl:l.length=ts.length:=by have:=congrArg List.length h3;simpa using this
  have h5:l.length<=(l.map (·.2)).sum:=by
   have:∀ l:List (List AV × Nat),(∀ p∈l,1<=p.2)->l.length<=(l.map (·.2)).sum:=by
    intro l;induction l with
    | nil=>intro _;simp
    | cons x l ih=>intro hh;have:=ih (fun p hp=>hh p (by simp[hp]));have:=hh x (by simp);simp only[List.length_cons,List.map_cons,List.sum_cons];omega
   exact this l (fun p hp=>(h1 p hp).2.1)
  exact⟨ts,by rw[h3],by omega,by omega⟩
theorem Rd.struct'{n:Nat}{t:TypeId}{ti:TI}(h:Jt Pg t=some ti){fs:List (Nat × TypeId)}(hk:ti.kd = .st fs){E:List AV->Nat->Prop}(hE:∀ k,k<n->Jsm en Pg W k ti.size fs 0 E) :
  Rd en Pg W n t (fun av m=>∃ q,E av q/\q+1=m):=by
 cases n with
 | zero=>exact .zero
 | succ n=>exact .struct h hk (hE n (Nat.lt_succ_self n))
theorem JxQ(n:Nat):Rd en Pg W n 78 (fun av m=>∃ t:Int × Int,av=JG t/\1<=m):=by
 refine(Rd.struct' Jtz rfl fun k hk=>.cons Jq8 (.int Jq8 rfl) (.cons ty3 (.int ty3 rfl) (.nil (by decide)))).mono ?_;rintro av m ⟨q,h,rfl⟩;obtain⟨_,_,_,_,rfl,⟨z1,_,rfl⟩,h,rfl⟩:=h;obtain⟨_,_,_,_,rfl,⟨z2,_,rfl⟩,rfl,rfl⟩:=h;exact⟨(z1,z2),rfl,by omega⟩
end
end Go.Proofs.Y
end
section
namespace Go.Proofs.Y
open Go Go.Ab
theorem Azz:(type_of% @if_pos.{1})/\(type_of% @if_neg.{1})/\(type_of% @decide_eq_true)/\(type_of% @decide_eq_false)/\(type_of% @JBa)/\(type_of% @Jrq)/\(type_of% @List.length_map.{0,0})/\(type_of% @Int.toNat_natCast)/\(type_of% @Int.toNat_zero)/\(type_of% @Int.toNat_one)/\(type_of% @Jdh)/\(type_of% @bne.eq_def.{0})/\(type_of% @JpS)/\(type_of% @Jsn)/\(type_of% @Jf9)/\(type_of% @Jfe)/\(type_of% @Jff)/\(type_of% @J6)/\(type_of% @Jga)/\(type_of% @Jed)/\(type_of% @Jee)/\(type_of% @Jc1)/\(type_of% @Jgb)/\(type_of% @Jgc)/\(type_of% @Jec)/\(type_of% @Ji8)/\(type_of% @Ji9)/\(type_of% @Jg6)/\(type_of% @Jg7)/\(type_of% @Jay)/\(type_of% @Jja)/\(type_of% @Jjb)/\(type_of% @Jjc)/\(type_of% @Jgd):=⟨@if_pos.{1},@if_neg.{1},@decide_eq_true,@decide_eq_false,@JBa,@Jrq,@List.length_map.{0,0},@Int.toNat_natCast,@Int.toNat_zero,@Int.toNat_one,@Jdh,@bne.eq_def.{0},@JpS,@Jsn,@Jf9,@Jfe,@Jff,@J6,@Jga,@Jed,@Jee,@Jc1,@Jgb,@Jgc,@Jec,@Ji8,@Ji9,@Jg6,@Jg7,@Jay,@Jja,@Jjb,@Jjc,@Jgd⟩
theorem Wz:(type_of% @Wa)/\(type_of% @tyW)/\(type_of% @Azz)/\(type_of% @decide_false)/\(type_of% @decide_true)/\(type_of% @Bool.not_false)/\(type_of% @Bool.not_true):=⟨Wa,tyW,Azz,@decide_false,@decide_true,Bool.not_false,Bool.not_true⟩
theorem Lx:(type_of% @List.append_eq.{0})/\(type_of% @List.cons_append.{0})/\(type_of% @List.nil_append.{0}):=⟨@List.append_eq.{0},@List.cons_append.{0},@List.nil_append.{0}⟩
theorem Bx:(type_of% @Bool.true_and)/\(type_of% @Bool.false_and)/\(type_of% @Bool.and_true)/\(type_of% @Bool.and_false):=⟨@Bool.true_and,@Bool.false_and,@Bool.and_true,@Bool.and_false⟩
theorem Bf:(type_of% @Bool.false_eq_true)/\(type_of% @if_true.{1})/\(type_of% @if_false.{1}):=⟨@Bool.false_eq_true,@if_true.{1},@if_false.{1}⟩
end Go.Proofs.Y
end
