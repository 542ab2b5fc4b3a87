/- What the claim wants of the machine, the contracts and the law, laid together. -/
import Derived.Test.YtbbnfbnicacdoaaGreatVk
set_option linter.unusedVariables false
set_option linter.unusedSimpArgs false
section
namespace Go.Proofs.YtbbnfbnicacdoaaGreat
open Go Go.Ab
open Go.Proofs.Tryz renaming prog→Pg
set_option maxRecDepth 20000
set_option maxHeartbeats 16000000
def edgeV(n:Nt)(i:Nat)(s:Sta)(e:Ed):Bool :=
 ofN n e.to s.rule && (chkS e.set && (decide (0≤e.op.1∧e.op.1<8) && ((decide (e.op.1=1)==decide (0<e.set.length)) && ((decide (e.op.1=7)==decide (0<e.acts.length)) &&
  ((decide (e.op.1=4)==decide ((i:Int)=(n.rules.getD s.rule.toNat default).start)) && ((decide (e.op.1=3) || noG e.g) && kindV n (n.rules.getD s.rule.toNat default) s.rule e))))))
theorem lkB{x z w:List AV}{y:List AV}{p:Nat}{c:List AV}(q:lk [(0,x),(2,z),(3,w)] p=some c)(_h:True):lk [(0,x),(1,y),(2,z),(3,w)] p=some c:=by
 simp only[lk] at q ⊢
 by_cases e0:0=p
 ·subst e0;simpa using q
 ·by_cases e2:2=p
  ·subst e2;simpa using q
  ·by_cases e3:3=p
   ·subst e3;simpa using q
   ·simp[e0,e2,e3] at q
theorem redge_spec(n:Nt)(ok:NtOk n)(i:Nat)(s:Sta)(e:Ed)(eok:EdOk e)(h0:0≤s.rule)(h0':s.rule<(n.rules.length:Int)) :
  PCall Pg 69 [.agg (encN n),.agg (encSt s),.lit (.int .i64 (i:Int)),.agg (encE e)] (.lit (.bool (edgeV n i s e))):=by
 have bb:((true==true)=true)∧((true==false)=false)∧((false==true)=false)∧((false==false)=true):=⟨rfl,rfl,rfl,rfl⟩
 have ht:=ok.types
 have hch:=ok.channels
 have hmo:=ok.modes
 have hru:=ok.rules
 have hst:=ok.states
 have hse:=eok.set
 have hac:=eok.acts
 have hgz:=eok.g
 refine PCall_intro Tryz.func69 rfl Tryz.ntmps69 (rs:=[.tmp 8]) rfl (by simp) ?_
 have fin:∀ h (b:Bool),Expo h (.lit (.bool b)) (.lit (.bool b)):=fun h b=>expo_pure (.lit _)
 obtain⟨v,hv⟩:∃ v,edgeV n i s e=v:=⟨_,rfl⟩
 rw[hv]
 obtain⟨sr,hsr⟩:∃ sr:Nat,s.rule=(sr:Int):=⟨s.rule.toNat,by omega⟩
 have hsl:sr<n.rules.length:=by omega
 obtain⟨r,hr⟩:∃ r,n.rules.getD sr default=r:=⟨_,rfl⟩
 have o1:=rof_spec n e.to s.rule (by omega)
 have po:∀ x∈[AV.agg (encN n),.lit (.int .i64 e.to),.lit (.int .i64 s.rule)],Ab.Pure x:=allc (.agg (pure_encN n)) (allc (.lit _) (allc (.lit _) alln))
 have sc:=rsCheck_spec e.set (by omega) eok.rng
 have psx:∀ x∈[AV.vec (e.set.map encR) false],Ab.Pure x:=allc (.vec (pure_rows pure_encR _)) alln
 have zz:=rzero_spec e.g (by have:=gsz_len e.g;omega)
 have pz:∀ x∈[AV.agg (encG e.g)],Ab.Pure x:=allc (.agg (pure_encG _)) alln
 have gc:=rgCheck_spec e.g (by omega) eok.gd
 have q14:=rnamed_spec 14 (gsz e.g) e.g (Nat.le_refl _) (by omega)
 have q13:=rnamed_spec 13 (gsz e.g) e.g (Nat.le_refl _) (by omega)
 have pq:∀ k:Int,∀ x∈[AV.agg (encG e.g),.lit (.int .i8 k)],Ab.Pure x:=fun k=>allc (.agg (pure_encG _)) (allc (.lit _) alln)
 rw[encG_eq] at zz pz gc q14 q13
 simp only[encG_eq] at pq
 unfold encN at o1 po
 rw[hsr] at o1 po
 unfold edgeV at hv
 rw[hsr,Int.toNat_natCast,hr] at hv
 simp -implicitDefEqProofs (disch:=omega) only[Wz,seval,encN,encNr,encSt,encE,hsr,hr]
 refine CallK_pure call68 o1 po (.lit _) ?_
 cases h1:ofN n e.to sr with
 | false =>
  have hb:false=v:=by rw[← hv,h1];rfl
  subst hb
  simp -implicitDefEqProofs (disch:=omega) only[Wz,seval,encN,encNr,encSt,encE]
  exact fin _ _
 | true =>
 simp -implicitDefEqProofs (disch:=omega) only[Wz,seval,encN,encNr,encSt,encE]
 refine CallK_pure call93 sc psx (.lit _) ?_
 cases h2:chkS e.set with
 | false =>
  have hb:false=v:=by rw[← hv,h2];simp
  subst hb
  simp -implicitDefEqProofs (disch:=omega) only[Wz,seval,encN,encNr,encSt,encE,Bool.false_eq_true]
  exact fin _ _
 | true =>
 rw[h1,h2,Bool.true_and,Bool.true_and] at hv
 rcases(by omega:e.op.1=0∨e.op.1=1∨e.op.1=2∨e.op.1=3∨e.op.1=4∨e.op.1=5∨e.op.1=6∨e.op.1=7∨(e.op.1<0∨7<e.op.1)) with hop | hop | hop | hop | hop | hop | hop | hop | hop
 ·skip
  by_cases l1:0<e.set.length
  ·skip
   have hb:false=v:=by rw[← hv];simp[edgeV,kindV,hop,h1,h2,l1]
   subst hb
   simp -implicitDefEqProofs (disch:=omega) only[Wz,seval,bb,encN,encNr,encSt,encE,hop]
   exact fin _ _
  have l1:e.set.length=0:=by omega
  by_cases l2:0<e.acts.length
  ·skip
   have hb:false=v:=by rw[← hv];simp[edgeV,kindV,hop,h1,h2,l1,l2]
   subst hb
   simp -implicitDefEqProofs (disch:=omega) only[Wz,seval,bb,encN,encNr,encSt,encE,hop]
   exact fin _ _
  have l2:e.acts.length=0:=by omega
  simp -implicitDefEqProofs (disch:=omega) only[Wz,seval,bb,encN,encNr,encSt,encE,hop]
  refine CallK_pure call94 zz pz (.lit _) ?_
  cases hz:noG e.g with
  | false =>
   have hb:false=v:=by rw[← hv];simp[edgeV,kindV,hop,h1,h2,l1,l2,hz]
   subst hb
   simp -implicitDefEqProofs (disch:=omega) only[Wz,seval,bb,encN,encNr,encSt,encE,hop]
   exact fin _ _
  | true =>
  by_cases st:(i:Int)=r.start
  ·skip
   have hb:false=v:=by rw[← hv];simp[edgeV,kindV,hop,h1,h2,l1,l2,hz,st]
   subst hb
   simp -implicitDefEqProofs (disch:=omega) only[Wz,seval,bb,encN,encNr,encSt,encE,hop]
   exact fin _ _
  by_cases k1:e.n=0
  ·by_cases k2:e.level=0
   ·skip
    have hb:true=v:=by rw[← hv];simp[edgeV,kindV,hop,h1,h2,l1,l2,hz,st,kd0,k1,k2]
    subst hb
    simp -implicitDefEqProofs (disch:=omega) only[Wz,seval,bb,encN,encNr,encSt,encE,hop]
    exact fin _ _
   ·skip
    have hb:false=v:=by rw[← hv];simp[edgeV,kindV,hop,h1,h2,l1,l2,hz,st,kd0,k1,k2]
    subst hb
    simp -implicitDefEqProofs (disch:=omega) only[Wz,seval,bb,encN,encNr,encSt,encE,hop]
    exact fin _ _
  ·skip
   have hb:false=v:=by rw[← hv];simp[edgeV,kindV,hop,h1,h2,l1,l2,hz,st,kd0,k1]
   subst hb
   simp -implicitDefEqProofs (disch:=omega) only[Wz,seval,bb,encN,encNr,encSt,encE,hop]
   exact fin _ _
 ·skip
  by_cases l1:¬ 0<e.set.length
  ·skip
   have hb:false=v:=by rw[← hv];simp[edgeV,kindV,hop,h1,h2,l1]
   subst hb
   simp -implicitDefEqProofs (disch:=omega) only[Wz,seval,bb,encN,encNr,encSt,encE,hop]
   exact fin _ _
  have l1:0<e.set.length:=by omega
  by_cases l2:0<e.acts.length
  ·skip
   have hb:false=v:=by rw[← hv];simp[edgeV,kindV,hop,h1,h2,l1,l2]
   subst hb
   simp -implicitDefEqProofs (disch:=omega) only[Wz,seval,bb,encN,encNr,encSt,encE,hop]
   exact fin _ _
  have l2:e.acts.length=0:=by omega
  simp -implicitDefEqProofs (disch:=omega) only[Wz,seval,bb,encN,encNr,encSt,encE,hop]
  refine CallK_pure call94 zz pz (.lit _) ?_
  cases hz:noG e.g with
  | false =>
   have hb:false=v:=by rw[← hv];simp[edgeV,kindV,hop,h1,h2,l1,l2,hz]
   subst hb
   simp -implicitDefEqProofs (disch:=omega) only[Wz,seval,bb,encN,encNr,encSt,encE,hop]
   exact fin _ _
  | true =>
  by_cases st:(i:Int)=r.start
  ·skip
   have hb:false=v:=by rw[← hv];simp[edgeV,kindV,hop,h1,h2,l1,l2,hz,st]
   subst hb
   simp -implicitDefEqProofs (disch:=omega) only[Wz,seval,bb,encN,encNr,encSt,encE,hop]
   exact fin _ _
  have hw:IntKind.i32.wrap (n.types.length:Int)=(n.types.length:Int):=IntWalk.i32_in _ ⟨by omega,by omega⟩
  have i1:((e.set.length:Int) - 1).toNat=e.set.length - 1:=by omega
  have i2:IntKind.i64.wrap ((e.set.length:Int) - 1)=(e.set.length:Int) - 1:=i64w (by omega) (by omega)
  obtain⟨a,ha⟩:∃ a,e.set.getD 0 default=a:=⟨_,rfl⟩
  obtain⟨b,hb1⟩:∃ b,e.set.getD (e.set.length - 1) default=b:=⟨_,rfl⟩
  have kk:kd1 n r e=(decide (e.n=0∧e.level=0) && (decide ((if r.lexer then 0 else 1)≤a.1) && decide (b.2≤(if r.lexer then 1114111 else (n.types.length:Int))))):=by unfold kd1;rw[ha,hb1]
  cases hlx:r.lexer with
  | true =>
   rw[hlx] at kk
   simp only[if_true,if_false,Bool.false_eq_true] at kk
   by_cases a1:¬ 0≤a.1
   ·skip
    have hb:false=v:=by rw[← hv];simp[edgeV,kindV,hop,h1,h2,l1,l2,hz,st,kk,a1]
    subst hb
    simp -implicitDefEqProofs (disch:=omega) only[Wz,seval,bb,encN,encNr,encSt,encE,hop,hlx,hw,i1,i2,ha,hb1,encR]
    exact fin _ _
   have a1:0≤a.1:=by omega
   by_cases a2:¬ b.2≤1114111
   ·skip
    have hb:false=v:=by rw[← hv];simp[edgeV,kindV,hop,h1,h2,l1,l2,hz,st,kk,a1,a2]
    subst hb
    simp -implicitDefEqProofs (disch:=omega) only[Wz,seval,bb,encN,encNr,encSt,encE,hop,hlx,hw,i1,i2,ha,hb1,encR]
    exact fin _ _
   have a2:b.2≤1114111:=by omega
   by_cases k1:e.n=0
   ·by_cases k2:e.level=0
    ·skip
     have hb:true=v:=by rw[← hv];simp[edgeV,kindV,hop,h1,h2,l1,l2,hz,st,kk,a1,a2,k1,k2]
     subst hb
     simp -implicitDefEqProofs (disch:=omega) only[Wz,seval,bb,encN,encNr,encSt,encE,hop,hlx,hw,i1,i2,ha,hb1,encR]
     exact fin _ _
    ·skip
     have hb:false=v:=by rw[← hv];simp[edgeV,kindV,hop,h1,h2,l1,l2,hz,st,kk,a1,a2,k1,k2]
     subst hb
     simp -implicitDefEqProofs (disch:=omega) only[Wz,seval,bb,encN,encNr,encSt,encE,hop,hlx,hw,i1,i2,ha,hb1,encR]
     exact fin _ _
   ·skip
    have hb:false=v:=by rw[← hv];simp[edgeV,kindV,hop,h1,h2,l1,l2,hz,st,kk,k1,a1,a2]
    subst hb
    simp -implicitDefEqProofs (disch:=omega) only[Wz,seval,bb,encN,encNr,encSt,encE,hop,hlx,hw,i1,i2,ha,hb1,encR]
    exact fin _ _
  | false =>
   rw[hlx] at kk
   simp only[if_true,if_false,Bool.false_eq_true] at kk
   by_cases a1:¬ 1≤a.1
   ·skip
    have hb:false=v:=by rw[← hv];simp[edgeV,kindV,hop,h1,h2,l1,l2,hz,st,kk,a1]
    subst hb
    simp -implicitDefEqProofs (disch:=omega) only[Wz,seval,bb,encN,encNr,encSt,encE,hop,hlx,hw,i1,i2,ha,hb1,encR]
    exact fin _ _
   have a1:1≤a.1:=by omega
   by_cases a2:¬ b.2≤(n.types.length:Int)
   ·skip
    have hb:false=v:=by rw[← hv];simp[edgeV,kindV,hop,h1,h2,l1,l2,hz,st,kk,a1,a2]
    subst hb
    simp -implicitDefEqProofs (disch:=omega) only[Wz,seval,bb,encN,encNr,encSt,encE,hop,hlx,hw,i1,i2,ha,hb1,encR]
    exact fin _ _
   have a2:b.2≤(n.types.length:Int):=by omega
   by_cases k1:e.n=0
   ·by_cases k2:e.level=0
    ·skip
     have hb:true=v:=by rw[← hv];simp[edgeV,kindV,hop,h1,h2,l1,l2,hz,st,kk,a1,a2,k1,k2]
     subst hb
     simp -implicitDefEqProofs (disch:=omega) only[Wz,seval,bb,encN,encNr,encSt,encE,hop,hlx,hw,i1,i2,ha,hb1,encR]
     exact fin _ _
    ·skip
     have hb:false=v:=by rw[← hv];simp[edgeV,kindV,hop,h1,h2,l1,l2,hz,st,kk,a1,a2,k1,k2]
     subst hb
     simp -implicitDefEqProofs (disch:=omega) only[Wz,seval,bb,encN,encNr,encSt,encE,hop,hlx,hw,i1,i2,ha,hb1,encR]
     exact fin _ _
   ·skip
    have hb:false=v:=by rw[← hv];simp[edgeV,kindV,hop,h1,h2,l1,l2,hz,st,kk,k1,a1,a2]
    subst hb
    simp -implicitDefEqProofs (disch:=omega) only[Wz,seval,bb,encN,encNr,encSt,encE,hop,hlx,hw,i1,i2,ha,hb1,encR]
    exact fin _ _
 ·skip
  by_cases l1:0<e.set.length
  ·skip
   have hb:false=v:=by rw[← hv];simp[edgeV,kindV,hop,h1,h2,l1]
   subst hb
   simp -implicitDefEqProofs (disch:=omega) only[Wz,seval,bb,encN,encNr,encSt,encE,hop]
   exact fin _ _
  have l1:e.set.length=0:=by omega
  by_cases l2:0<e.acts.length
  ·skip
   have hb:false=v:=by rw[← hv];simp[edgeV,kindV,hop,h1,h2,l1,l2]
   subst hb
   simp -implicitDefEqProofs (disch:=omega) only[Wz,seval,bb,encN,encNr,encSt,encE,hop]
   exact fin _ _
  have l2:e.acts.length=0:=by omega
  simp -implicitDefEqProofs (disch:=omega) only[Wz,seval,bb,encN,encNr,encSt,encE,hop]
  refine CallK_pure call94 zz pz (.lit _) ?_
  cases hz:noG e.g with
  | false =>
   have hb:false=v:=by rw[← hv];simp[edgeV,kindV,hop,h1,h2,l1,l2,hz]
   subst hb
   simp -implicitDefEqProofs (disch:=omega) only[Wz,seval,bb,encN,encNr,encSt,encE,hop]
   exact fin _ _
  | true =>
  by_cases st:(i:Int)=r.start
  ·skip
   have hb:false=v:=by rw[← hv];simp[edgeV,kindV,hop,h1,h2,l1,l2,hz,st]
   subst hb
   simp -implicitDefEqProofs (disch:=omega) only[Wz,seval,bb,encN,encNr,encSt,encE,hop]
   exact fin _ _
  simp -implicitDefEqProofs (disch:=omega) only[Wz,seval,bb,encN,encNr,encSt,encE,hop]
  refine aw_quietN (n:=262) rfl (by decide) mixed ?_
  by_cases a1:¬ 0≤e.n
  ·skip
   have hb:false=v:=by rw[← hv];simp[edgeV,kindV,hop,h1,h2,l1,l2,hz,st,kd2,a1]
   subst hb
   simp -implicitDefEqProofs (disch:=omega) only[Wz,seval,bb,encN,encNr,encSt,encE,List.append_eq,List.cons_append,List.nil_append,hop]
   exact fin _ _
  have a1:0≤e.n:=by omega
  by_cases a2:¬ e.n<(n.rules.length:Int)
  ·skip
   have hb:false=v:=by rw[← hv];simp[edgeV,kindV,hop,h1,h2,l1,l2,hz,st,kd2,a1,a2]
   subst hb
   simp -implicitDefEqProofs (disch:=omega) only[Wz,seval,bb,encN,encNr,encSt,encE,List.append_eq,List.cons_append,List.nil_append,hop]
   exact fin _ _
  have a2:e.n<(n.rules.length:Int):=by omega
  obtain⟨en,hen⟩:∃ en:Nat,e.n=(en:Int):=⟨e.n.toNat,by omega⟩
  have a3:en<n.rules.length:=by omega
  obtain⟨u,hu⟩:∃ u,n.rules.getD en default=u:=⟨_,rfl⟩
  have kk:kd2 n r (sr:Int) e=(u.lexer==r.lexer && (decide (0≤e.level∧e.level≤65) && (decide (e.level=0) || (decide ((en:Int)=(sr:Int)) && r.left)))):=by unfold kd2;rw[hen,Int.toNat_natCast,hu,decide_eq_true (by omega:(0:Int)≤(en:Int)∧(en:Int)<(n.rules.length:Int)),Bool.true_and]
  cases hul:u.lexer <;> cases hlx:r.lexer
  ·skip
   by_cases c1:¬ 0≤e.level
   ·skip
    have hb:false=v:=by rw[← hv];simp[edgeV,kindV,hop,h1,h2,l1,l2,hz,st,kk,hul,hlx,c1]
    subst hb
    simp -implicitDefEqProofs (disch:=omega) only[Wz,seval,bb,encN,encNr,encSt,encE,List.append_eq,List.cons_append,List.nil_append,hop,hen,hu,hul,hlx]
    exact fin _ _
   have c1:0≤e.level:=by omega
   by_cases c2:¬ e.level≤65
   ·skip
    have hb:false=v:=by rw[← hv];simp[edgeV,kindV,hop,h1,h2,l1,l2,hz,st,kk,hul,hlx,c1,c2]
    subst hb
    simp -implicitDefEqProofs (disch:=omega) only[Wz,seval,bb,encN,encNr,encSt,encE,List.append_eq,List.cons_append,List.nil_append,hop,hen,hu,hul,hlx]
    exact fin _ _
   have c2:e.level≤65:=by omega
   by_cases c3:e.level=0
   ·skip
    have hb:true=v:=by rw[← hv];simp[edgeV,kindV,hop,h1,h2,l1,l2,hz,st,kk,hul,hlx,c3]
    subst hb
    simp -implicitDefEqProofs (disch:=omega) only[Wz,seval,bb,encN,encNr,encSt,encE,List.append_eq,List.cons_append,List.nil_append,hop,hen,hu,hul,hlx]
    exact fin _ _
   by_cases c4:¬ (en:Int)=(sr:Int)
   ·skip
    have hb:false=v:=by rw[← hv];simp[edgeV,kindV,hop,h1,h2,l1,l2,hz,st,kk,hul,hlx,c1,c2,c3,c4]
    subst hb
    simp -implicitDefEqProofs (disch:=omega) only[Wz,seval,bb,encN,encNr,encSt,encE,List.append_eq,List.cons_append,List.nil_append,hop,hen,hu,hul,hlx]
    exact fin _ _
   have c4:(en:Int)=(sr:Int):=by omega
   cases hle:r.left
   ·skip
    have hb:false=v:=by rw[← hv];simp[edgeV,kindV,hop,h1,h2,l1,l2,hz,st,kk,hul,hlx,c1,c2,c3,c4,hle]
    subst hb
    simp -implicitDefEqProofs (disch:=omega) only[Wz,seval,bb,encN,encNr,encSt,encE,List.append_eq,List.cons_append,List.nil_append,hop,hen,hu,hul,hlx,hle]
    exact fin _ _
   ·skip
    have hb:true=v:=by rw[← hv];simp[edgeV,kindV,hop,h1,h2,l1,l2,hz,st,kk,hul,hlx,c1,c2,c3,c4,hle]
    subst hb
    simp -implicitDefEqProofs (disch:=omega) only[Wz,seval,bb,encN,encNr,encSt,encE,List.append_eq,List.cons_append,List.nil_append,hop,hen,hu,hul,hlx,hle]
    exact fin _ _
  ·skip
   have hb:false=v:=by rw[← hv];simp[edgeV,kindV,hop,h1,h2,l1,l2,hz,st,kk,hul,hlx]
   subst hb
   simp -implicitDefEqProofs (disch:=omega) only[Wz,seval,bb,encN,encNr,encSt,encE,List.append_eq,List.cons_append,List.nil_append,hop,hen,hu,hul,hlx]
   exact fin _ _
  ·skip
   have hb:false=v:=by rw[← hv];simp[edgeV,kindV,hop,h1,h2,l1,l2,hz,st,kk,hul,hlx]
   subst hb
   simp -implicitDefEqProofs (disch:=omega) only[Wz,seval,bb,encN,encNr,encSt,encE,List.append_eq,List.cons_append,List.nil_append,hop,hen,hu,hul,hlx]
   exact fin _ _
  ·skip
   by_cases c1:¬ 0≤e.level
   ·skip
    have hb:false=v:=by rw[← hv];simp[edgeV,kindV,hop,h1,h2,l1,l2,hz,st,kk,hul,hlx,c1]
    subst hb
    simp -implicitDefEqProofs (disch:=omega) only[Wz,seval,bb,encN,encNr,encSt,encE,List.append_eq,List.cons_append,List.nil_append,hop,hen,hu,hul,hlx]
    exact fin _ _
   have c1:0≤e.level:=by omega
   by_cases c2:¬ e.level≤65
   ·skip
    have hb:false=v:=by rw[← hv];simp[edgeV,kindV,hop,h1,h2,l1,l2,hz,st,kk,hul,hlx,c1,c2]
    subst hb
    simp -implicitDefEqProofs (disch:=omega) only[Wz,seval,bb,encN,encNr,encSt,encE,List.append_eq,List.cons_append,List.nil_append,hop,hen,hu,hul,hlx]
    exact fin _ _
   have c2:e.level≤65:=by omega
   by_cases c3:e.level=0
   ·skip
    have hb:true=v:=by rw[← hv];simp[edgeV,kindV,hop,h1,h2,l1,l2,hz,st,kk,hul,hlx,c3]
    subst hb
    simp -implicitDefEqProofs (disch:=omega) only[Wz,seval,bb,encN,encNr,encSt,encE,List.append_eq,List.cons_append,List.nil_append,hop,hen,hu,hul,hlx]
    exact fin _ _
   by_cases c4:¬ (en:Int)=(sr:Int)
   ·skip
    have hb:false=v:=by rw[← hv];simp[edgeV,kindV,hop,h1,h2,l1,l2,hz,st,kk,hul,hlx,c1,c2,c3,c4]
    subst hb
    simp -implicitDefEqProofs (disch:=omega) only[Wz,seval,bb,encN,encNr,encSt,encE,List.append_eq,List.cons_append,List.nil_append,hop,hen,hu,hul,hlx]
    exact fin _ _
   have c4:(en:Int)=(sr:Int):=by omega
   cases hle:r.left
   ·skip
    have hb:false=v:=by rw[← hv];simp[edgeV,kindV,hop,h1,h2,l1,l2,hz,st,kk,hul,hlx,c1,c2,c3,c4,hle]
    subst hb
    simp -implicitDefEqProofs (disch:=omega) only[Wz,seval,bb,encN,encNr,encSt,encE,List.append_eq,List.cons_append,List.nil_append,hop,hen,hu,hul,hlx,hle]
    exact fin _ _
   ·skip
    have hb:true=v:=by rw[← hv];simp[edgeV,kindV,hop,h1,h2,l1,l2,hz,st,kk,hul,hlx,c1,c2,c3,c4,hle]
    subst hb
    simp -implicitDefEqProofs (disch:=omega) only[Wz,seval,bb,encN,encNr,encSt,encE,List.append_eq,List.cons_append,List.nil_append,hop,hen,hu,hul,hlx,hle]
    exact fin _ _
 ·skip
  by_cases l1:0<e.set.length
  ·skip
   have hb:false=v:=by rw[← hv];simp[edgeV,kindV,hop,h1,h2,l1]
   subst hb
   simp -implicitDefEqProofs (disch:=omega) only[Wz,seval,bb,encN,encNr,encSt,encE,hop]
   exact fin _ _
  have l1:e.set.length=0:=by omega
  by_cases l2:0<e.acts.length
  ·skip
   have hb:false=v:=by rw[← hv];simp[edgeV,kindV,hop,h1,h2,l1,l2]
   subst hb
   simp -implicitDefEqProofs (disch:=omega) only[Wz,seval,bb,encN,encNr,encSt,encE,hop]
   exact fin _ _
  have l2:e.acts.length=0:=by omega
  by_cases st:(i:Int)=r.start
  ·skip
   have hb:false=v:=by rw[← hv];simp[edgeV,kindV,hop,h1,h2,l1,l2,st]
   subst hb
   simp -implicitDefEqProofs (disch:=omega) only[Wz,seval,bb,encN,encNr,encSt,encE,hop]
   exact fin _ _
  by_cases k1:¬ e.n=0
  ·skip
   have hb:false=v:=by rw[← hv];simp[edgeV,kindV,hop,h1,h2,l1,l2,st,kd3,k1]
   subst hb
   simp -implicitDefEqProofs (disch:=omega) only[Wz,seval,bb,encN,encNr,encSt,encE,hop]
   exact fin _ _
  have k1:e.n=0:=by omega
  by_cases k2:¬ e.level=0
  ·skip
   have hb:false=v:=by rw[← hv];simp[edgeV,kindV,hop,h1,h2,l1,l2,st,kd3,k1,k2]
   subst hb
   simp -implicitDefEqProofs (disch:=omega) only[Wz,seval,bb,encN,encNr,encSt,encE,hop]
   exact fin _ _
  have k2:e.level=0:=by omega
  simp -implicitDefEqProofs (disch:=omega) only[Wz,seval,bb,encN,encNr,encSt,encE,hop]
  refine CallK_pure call95 gc pz (.lit _) ?_
  cases g1:ckG e.g with
  | false =>
   have hb:false=v:=by rw[← hv];simp[edgeV,kindV,hop,h1,h2,l1,l2,st,kd3,k1,k2,g1]
   subst hb
   simp -implicitDefEqProofs (disch:=omega) only[Wz,seval,bb,encN,encNr,encSt,encE,hop,Bool.false_eq_true]
   exact fin _ _
  | true =>
  simp -implicitDefEqProofs (disch:=omega) only[Wz,seval,bb,encN,encNr,encSt,encE,hop]
  refine CallK_pure call96 q14 (pq _) (.lit _) ?_
  cases g2:holdsV 14 e.g with
  | true =>
   have hb:false=v:=by rw[← hv];simp[edgeV,kindV,hop,h1,h2,l1,l2,st,kd3,k1,k2,g1,g2]
   subst hb
   simp -implicitDefEqProofs (disch:=omega) only[Wz,seval,bb,encN,encNr,encSt,encE,hop]
   exact fin _ _
  | false =>
  cases hlx:r.lexer with
  | true =>
   have hb:true=v:=by rw[← hv];simp[edgeV,kindV,hop,h1,h2,l1,l2,st,kd3,k1,k2,g1,g2,hlx]
   subst hb
   simp -implicitDefEqProofs (disch:=omega) only[Wz,seval,bb,encN,encNr,encSt,encE,hop,hlx]
   exact fin _ _
  | false =>
  simp -implicitDefEqProofs (disch:=omega) only[Wz,seval,bb,encN,encNr,encSt,encE,hop,hlx]
  refine CallK_pure call96 q13 (pq _) (.lit _) ?_
  cases g3:holdsV 13 e.g with
  | true =>
   have hb:false=v:=by rw[← hv];simp[edgeV,kindV,hop,h1,h2,l1,l2,st,kd3,k1,k2,g1,g2,hlx,g3]
   subst hb
   simp -implicitDefEqProofs (disch:=omega) only[Wz,seval,bb,encN,encNr,encSt,encE,hop,hlx]
   exact fin _ _
  | false =>
   have hb:true=v:=by rw[← hv];simp[edgeV,kindV,hop,h1,h2,l1,l2,st,kd3,k1,k2,g1,g2,hlx,g3]
   subst hb
   simp -implicitDefEqProofs (disch:=omega) only[Wz,seval,bb,encN,encNr,encSt,encE,hop,hlx]
   exact fin _ _
 ·skip
  by_cases l1:0<e.set.length
  ·skip
   have hb:false=v:=by rw[← hv];simp[edgeV,kindV,hop,h1,h2,l1]
   subst hb
   simp -implicitDefEqProofs (disch:=omega) only[Wz,seval,bb,encN,encNr,encSt,encE,hop]
   exact fin _ _
  have l1:e.set.length=0:=by omega
  by_cases l2:0<e.acts.length
  ·skip
   have hb:false=v:=by rw[← hv];simp[edgeV,kindV,hop,h1,h2,l1,l2]
   subst hb
   simp -implicitDefEqProofs (disch:=omega) only[Wz,seval,bb,encN,encNr,encSt,encE,hop]
   exact fin _ _
  have l2:e.acts.length=0:=by omega
  simp -implicitDefEqProofs (disch:=omega) only[Wz,seval,bb,encN,encNr,encSt,encE,hop]
  refine CallK_pure call94 zz pz (.lit _) ?_
  cases hz:noG e.g with
  | false =>
   have hb:false=v:=by rw[← hv];simp[edgeV,kindV,hop,h1,h2,l1,l2,hz]
   subst hb
   simp -implicitDefEqProofs (disch:=omega) only[Wz,seval,bb,encN,encNr,encSt,encE,hop]
   exact fin _ _
  | true =>
  by_cases st:¬ (i:Int)=r.start
  ·skip
   have hb:false=v:=by rw[← hv];simp[edgeV,kindV,hop,h1,h2,l1,l2,hz,st]
   subst hb
   simp -implicitDefEqProofs (disch:=omega) only[Wz,seval,bb,encN,encNr,encSt,encE,hop]
   exact fin _ _
  have st:(i:Int)=r.start:=by omega
  have st':(e.op.1==4)=((i:Int)==r.start):=by rw[beqT hop,beqT st]
  have st1:((i:Int)==r.start)=true:=beqT st
  by_cases k1:¬ 1≤e.n
  ·skip
   have hb:false=v:=by rw[← hv];simp[edgeV,kindV,hop,h1,h2,l1,l2,hz,st,kd4,k1]
   subst hb
   simp -implicitDefEqProofs (disch:=omega) only[Wz,seval,bb,encN,encNr,encSt,encE,hop]
   exact fin _ _
  have k1:1≤e.n:=by omega
  by_cases k2:¬ e.n≤64
  ·skip
   have hb:false=v:=by rw[← hv];simp[edgeV,kindV,hop,h1,h2,l1,l2,hz,st,kd4,k1,k2]
   subst hb
   simp -implicitDefEqProofs (disch:=omega) only[Wz,seval,bb,encN,encNr,encSt,encE,hop]
   exact fin _ _
  have k2:e.n≤64:=by omega
  by_cases k3:¬ e.level=0
  ·skip
   have hb:false=v:=by rw[← hv];simp[edgeV,kindV,hop,h1,h2,l1,l2,hz,st,kd4,k1,k2,k3]
   subst hb
   simp -implicitDefEqProofs (disch:=omega) only[Wz,seval,bb,encN,encNr,encSt,encE,hop]
   exact fin _ _
  have k3:e.level=0:=by omega
  have hb:true=v:=by rw[← hv];simp[edgeV,kindV,hop,h1,h2,l1,l2,hz,st,kd4,k1,k2,k3]
  subst hb
  simp -implicitDefEqProofs (disch:=omega) only[Wz,seval,bb,encN,encNr,encSt,encE,hop]
  exact fin _ _
 ·skip
  by_cases l1:0<e.set.length
  ·skip
   have hb:false=v:=by rw[← hv];simp[edgeV,kindV,hop,h1,h2,l1]
   subst hb
   simp -implicitDefEqProofs (disch:=omega) only[Wz,seval,bb,encN,encNr,encSt,encE,hop]
   exact fin _ _
  have l1:e.set.length=0:=by omega
  by_cases l2:0<e.acts.length
  ·skip
   have hb:false=v:=by rw[← hv];simp[edgeV,kindV,hop,h1,h2,l1,l2]
   subst hb
   simp -implicitDefEqProofs (disch:=omega) only[Wz,seval,bb,encN,encNr,encSt,encE,hop]
   exact fin _ _
  have l2:e.acts.length=0:=by omega
  simp -implicitDefEqProofs (disch:=omega) only[Wz,seval,bb,encN,encNr,encSt,encE,hop]
  refine CallK_pure call94 zz pz (.lit _) ?_
  cases hz:noG e.g with
  | false =>
   have hb:false=v:=by rw[← hv];simp[edgeV,kindV,hop,h1,h2,l1,l2,hz]
   subst hb
   simp -implicitDefEqProofs (disch:=omega) only[Wz,seval,bb,encN,encNr,encSt,encE,hop]
   exact fin _ _
  | true =>
  by_cases st:(i:Int)=r.start
  ·skip
   have hb:false=v:=by rw[← hv];simp[edgeV,kindV,hop,h1,h2,l1,l2,hz,st]
   subst hb
   simp -implicitDefEqProofs (disch:=omega) only[Wz,seval,bb,encN,encNr,encSt,encE,hop]
   exact fin _ _
  cases hle:r.left with
  | false =>
   have hb:false=v:=by rw[← hv];simp[edgeV,kindV,hop,h1,h2,l1,l2,hz,st,kd5,hle]
   subst hb
   simp -implicitDefEqProofs (disch:=omega) only[Wz,seval,bb,encN,encNr,encSt,encE,hop,hle]
   exact fin _ _
  | true =>
  by_cases k1:¬ 1≤e.n
  ·skip
   have hb:false=v:=by rw[← hv];simp[edgeV,kindV,hop,h1,h2,l1,l2,hz,st,kd5,hle,k1]
   subst hb
   simp -implicitDefEqProofs (disch:=omega) only[Wz,seval,bb,encN,encNr,encSt,encE,hop,hle]
   exact fin _ _
  have k1:1≤e.n:=by omega
  by_cases k2:¬ e.n≤64
  ·skip
   have hb:false=v:=by rw[← hv];simp[edgeV,kindV,hop,h1,h2,l1,l2,hz,st,kd5,hle,k1,k2]
   subst hb
   simp -implicitDefEqProofs (disch:=omega) only[Wz,seval,bb,encN,encNr,encSt,encE,hop,hle]
   exact fin _ _
  have k2:e.n≤64:=by omega
  by_cases k3:¬ 1≤e.level
  ·skip
   have hb:false=v:=by rw[← hv];simp[edgeV,kindV,hop,h1,h2,l1,l2,hz,st,kd5,hle,k1,k2,k3]
   subst hb
   simp -implicitDefEqProofs (disch:=omega) only[Wz,seval,bb,encN,encNr,encSt,encE,hop,hle]
   exact fin _ _
  have k3:1≤e.level:=by omega
  by_cases k4:¬ e.level≤64
  ·skip
   have hb:false=v:=by rw[← hv];simp[edgeV,kindV,hop,h1,h2,l1,l2,hz,st,kd5,hle,k1,k2,k3,k4]
   subst hb
   simp -implicitDefEqProofs (disch:=omega) only[Wz,seval,bb,encN,encNr,encSt,encE,hop,hle]
   exact fin _ _
  have k4:e.level≤64:=by omega
  have hb:true=v:=by rw[← hv];simp[edgeV,kindV,hop,h1,h2,l1,l2,hz,st,kd5,hle,k1,k2,k3,k4]
  subst hb
  simp -implicitDefEqProofs (disch:=omega) only[Wz,seval,bb,encN,encNr,encSt,encE,hop,hle]
  exact fin _ _
 ·skip
  by_cases l1:0<e.set.length
  ·skip
   have hb:false=v:=by rw[← hv];simp[edgeV,kindV,hop,h1,h2,l1]
   subst hb
   simp -implicitDefEqProofs (disch:=omega) only[Wz,seval,bb,encN,encNr,encSt,encE,hop]
   exact fin _ _
  have l1:e.set.length=0:=by omega
  by_cases l2:0<e.acts.length
  ·skip
   have hb:false=v:=by rw[← hv];simp[edgeV,kindV,hop,h1,h2,l1,l2]
   subst hb
   simp -implicitDefEqProofs (disch:=omega) only[Wz,seval,bb,encN,encNr,encSt,encE,hop]
   exact fin _ _
  have l2:e.acts.length=0:=by omega
  simp -implicitDefEqProofs (disch:=omega) only[Wz,seval,bb,encN,encNr,encSt,encE,hop]
  refine CallK_pure call94 zz pz (.lit _) ?_
  cases hz:noG e.g with
  | false =>
   have hb:false=v:=by rw[← hv];simp[edgeV,kindV,hop,h1,h2,l1,l2,hz]
   subst hb
   simp -implicitDefEqProofs (disch:=omega) only[Wz,seval,bb,encN,encNr,encSt,encE,hop]
   exact fin _ _
  | true =>
  by_cases st:(i:Int)=r.start
  ·skip
   have hb:false=v:=by rw[← hv];simp[edgeV,kindV,hop,h1,h2,l1,l2,hz,st]
   subst hb
   simp -implicitDefEqProofs (disch:=omega) only[Wz,seval,bb,encN,encNr,encSt,encE,hop]
   exact fin _ _
  by_cases k1:¬ e.n=0
  ·skip
   have hb:false=v:=by rw[← hv];simp[edgeV,kindV,hop,h1,h2,l1,l2,hz,st,kd6,k1]
   subst hb
   simp -implicitDefEqProofs (disch:=omega) only[Wz,seval,bb,encN,encNr,encSt,encE,hop]
   exact fin _ _
  have k1:e.n=0:=by omega
  by_cases k2:¬ e.level=0
  ·skip
   have hb:false=v:=by rw[← hv];simp[edgeV,kindV,hop,h1,h2,l1,l2,hz,st,kd6,k1,k2]
   subst hb
   simp -implicitDefEqProofs (disch:=omega) only[Wz,seval,bb,encN,encNr,encSt,encE,hop]
   exact fin _ _
  have k2:e.level=0:=by omega
  cases hle:r.left
  ·skip
   have hb:false=v:=by rw[← hv];simp[edgeV,kindV,hop,h1,h2,l1,l2,hz,st,kd6,k1,k2,hle]
   subst hb
   simp -implicitDefEqProofs (disch:=omega) only[Wz,seval,bb,encN,encNr,encSt,encE,hop,hle]
   exact fin _ _
  ·skip
   have hb:true=v:=by rw[← hv];simp[edgeV,kindV,hop,h1,h2,l1,l2,hz,st,kd6,k1,k2,hle]
   subst hb
   simp -implicitDefEqProofs (disch:=omega) only[Wz,seval,bb,encN,encNr,encSt,encE,hop,hle]
   exact fin _ _
 ·skip
  by_cases l1:0<e.set.length
  ·skip
   have hb:false=v:=by rw[← hv];simp[edgeV,kindV,hop,h1,h2,l1]
   subst hb
   simp -implicitDefEqProofs (disch:=omega) only[Wz,seval,bb,encN,encNr,encSt,encE,hop]
   exact fin _ _
  have l1:e.set.length=0:=by omega
  by_cases l2:¬ 0<e.acts.length
  ·skip
   have hb:false=v:=by rw[← hv];simp[edgeV,kindV,hop,h1,h2,l1,l2]
   subst hb
   simp -implicitDefEqProofs (disch:=omega) only[Wz,seval,bb,encN,encNr,encSt,encE,hop]
   exact fin _ _
  have l2:0<e.acts.length:=by omega
  simp -implicitDefEqProofs (disch:=omega) only[Wz,seval,bb,encN,encNr,encSt,encE,hop]
  refine CallK_pure call94 zz pz (.lit _) ?_
  cases hz:noG e.g with
  | false =>
   have hb:false=v:=by rw[← hv];simp[edgeV,kindV,hop,h1,h2,l1,l2,hz]
   subst hb
   simp -implicitDefEqProofs (disch:=omega) only[Wz,seval,bb,encN,encNr,encSt,encE,hop]
   exact fin _ _
  | true =>
  by_cases st:(i:Int)=r.start
  ·skip
   have hb:false=v:=by rw[← hv];simp[edgeV,kindV,hop,h1,h2,l1,l2,hz,st]
   subst hb
   simp -implicitDefEqProofs (disch:=omega) only[Wz,seval,bb,encN,encNr,encSt,encE,hop]
   exact fin _ _
  by_cases k1:¬ e.n=0
  ·skip
   have hb:false=v:=by rw[← hv];simp[edgeV,kindV,hop,h1,h2,l1,l2,hz,st,kd7,k1]
   subst hb
   simp -implicitDefEqProofs (disch:=omega) only[Wz,seval,bb,encN,encNr,encSt,encE,hop]
   exact fin _ _
  have k1:e.n=0:=by omega
  by_cases k2:¬ e.level=0
  ·skip
   have hb:false=v:=by rw[← hv];simp[edgeV,kindV,hop,h1,h2,l1,l2,hz,st,kd7,k1,k2]
   subst hb
   simp -implicitDefEqProofs (disch:=omega) only[Wz,seval,bb,encN,encNr,encSt,encE,hop]
   exact fin _ _
  have k2:e.level=0:=by omega
  have kk:(e.acts.all (actV n) && (r.lexer && !r.frag))=v:=by rw[← hv];simp[edgeV,kindV,hop,h1,h2,l1,l2,hz,st,kd7,k1,k2];cases r.lexer <;> cases r.frag <;> simp
  simp -implicitDefEqProofs (disch:=omega) only[Wz,seval,bb,encN,encNr,encSt,encE,hop]
  refine aw_measA (fun k:Nat=>⟨[(12,.lit (.int .i64 (k:Int))),(4,.ptr 0 0),(7,.ptr 2 0),(9,.ptr 3 0)],⟨[(0,encN n),(2,encE e),(3,encNr r)],[],4⟩,262⟩) (fun k=>k≤e.acts.length∧((e.acts.drop k).all (actV n) && (r.lexer && !r.frag))=v) (fun k=>e.acts.length - k) 0 (wk_lk (by simp[lk]) ?_ (fun _ _ q=>q) rfl rfl) ⟨Nat.zero_le _,by rw[List.drop_zero];exact kk⟩ ?_
  ·intro p c q
   simp only[encE,hop,encN,encNr] at q
   exact lkB q trivial
  rintro k ⟨hk,hkv⟩
  refine aw_of ?_
  rcases Nat.lt_or_ge k e.acts.length with hkl | hge
  ·obtain⟨a,ha⟩:∃ a,e.acts.getD k default=a:=⟨_,rfl⟩
   rw[drop_getD hkl,List.all_cons,ha] at hkv
   have ra:=ract_spec n a (by omega) (by omega) (by omega)
   have pa:∀ x∈[AV.agg (encN n),.agg (encAct a)],Ab.Pure x:=allc (.agg (pure_encN n)) (allc (.agg (pure_encAct a)) alln)
   unfold encN at ra pa
   simp -implicitDefEqProofs (disch:=omega) only[Wz,seval,encN,encNr,encE,ha]
   refine aw_drawQ (n:=262) 6 (.alt 6 (.alt 7 .leaf .nil) .nil) rfl (by decide) (by decide) mixed (by kernel_rfl) (by decide) ?_
   simp -implicitDefEqProofs (disch:=omega) only[Wz,seval,encN,encNr,encE,ha]
   refine CallK_pure call97 ra pa (.lit _) ?_
   cases hc:actV n a with
   | false =>
    have hb:false=v:=by rw[← hkv,hc];rfl
    subst hb
    simp -implicitDefEqProofs (disch:=omega) only[Wz,seval]
    exact fin _ _
   | true =>
    have hn:((e.acts.drop (k+1)).all (actV n) && (r.lexer && !r.frag))=v:=by rw[← hkv,hc,Bool.true_and]
    simp -implicitDefEqProofs (disch:=omega) only[Wz,seval]
    exact⟨k+1,⟨by omega,hn⟩,by omega,wk_lk (by simp[lk]) (fun _ _ q=>q) (fun _ _ q=>q) rfl rfl⟩
  ·have e1:k=e.acts.length:=by omega
   subst e1
   rw[List.drop_length,List.all_nil,Bool.true_and] at hkv
   subst hkv
   cases hlx:r.lexer with
   | false =>
    simp -implicitDefEqProofs (disch:=omega) only[Wz,seval,encN,encNr,encE,hlx,Bool.false_and]
    exact fin _ _
   | true =>
    cases hfr:r.frag
    all_goals
     simp -implicitDefEqProofs (disch:=omega) only[Wz,seval,encN,encNr,encE,hlx,hfr,Bool.true_and]
     exact fin _ _
 ·skip
  have n0:¬ e.op.1=0:=by omega
  have n1:¬ e.op.1=1:=by omega
  have n2:¬ e.op.1=2:=by omega
  have n3:¬ e.op.1=3:=by omega
  have n4:¬ e.op.1=4:=by omega
  have n5:¬ e.op.1=5:=by omega
  have n6:¬ e.op.1=6:=by omega
  have n7:¬ e.op.1=7:=by omega
  have hb:false=v:=by rw[← hv];rw[decide_eq_false (by omega:¬ (0≤e.op.1∧e.op.1<8))];simp
  subst hb
  by_cases l1:0<e.set.length
  ·skip
   simp -implicitDefEqProofs (disch:=omega) only[Wz,seval,bb,encN,encNr,encSt,encE]
   exact fin _ _
  have l1:e.set.length=0:=by omega
  by_cases l2:0<e.acts.length
  ·skip
   simp -implicitDefEqProofs (disch:=omega) only[Wz,seval,bb,encN,encNr,encSt,encE]
   exact fin _ _
  have l2:e.acts.length=0:=by omega
  simp -implicitDefEqProofs (disch:=omega) only[Wz,seval,bb,encN,encNr,encSt,encE]
  refine CallK_pure call94 zz pz (.lit _) ?_
  cases hz:noG e.g with
  | false =>
   simp -implicitDefEqProofs (disch:=omega) only[Wz,seval,bb,encN,encNr,encSt,encE]
   exact fin _ _
  | true =>
  by_cases st:(i:Int)=r.start
  ·skip
   simp -implicitDefEqProofs (disch:=omega) only[Wz,seval,bb,encN,encNr,encSt,encE]
   exact fin _ _
  by_cases k1:e.n=0
  ·by_cases k2:e.level=0
   all_goals
    simp -implicitDefEqProofs (disch:=omega) only[Wz,seval,bb,encN,encNr,encSt,encE]
    exact fin _ _
  ·skip
   simp -implicitDefEqProofs (disch:=omega) only[Wz,seval,bb,encN,encNr,encSt,encE]
   exact fin _ _
theorem mem_addS{K:Type}[DecidableEq K]{S:List K}{k x:K}:x∈addS S k↔x∈S∨x=k:=by
 unfold addS
 split
 ·rename_i h
  exact⟨.inl,fun q=>by rcases q with q | q;exact q;rw[q];exact h⟩
 ·simp
theorem mem_alts{s:Sta}{x:Int}:∀ {k:Nat},k≤s.edges.length→(x∈altsS s k↔∃ j,j<k∧(s.edges.getD j default).n=x):=by
 intro k
 induction k with
 | zero=>intro _;simp[altsS]
 | succ k ih =>
  intro h
  rw[altsS_step s (by omega:k<s.edges.length)]
  refine Iff.trans mem_addS ?_
  rw[ih (by omega)]
  constructor
  ·rintro(⟨j,h1,h2⟩ | q)
   ·exact⟨j,by omega,h2⟩
   ·exact⟨k,by omega,q.symm⟩
  ·rintro⟨j,h1,h2⟩
   rcases Nat.lt_succ_iff_lt_or_eq.1 h1 with q | q
   ·exact .inl ⟨j,q,h2⟩
   ·subst q;exact .inr h2.symm
theorem edgeR_eq(n:Nt)(i:Nat)(s:Sta)(k:Nat)(e:Ed)(he:s.edges.getD k default=e):edgeR n i s k=(edgeV n i s e && !(decide (e.op.1=4) && decide (e.n∈altsS s k))):=by
 subst he
 unfold edgeR edgeV
 simp only[Bool.and_assoc]
theorem rstates_spec(n:Nt)(ok:NtOk n):PCall Pg 44 [.agg (encN n)] (.lit (.bool (statesV n))):=by
 have h:=ok.rules
 have ht:=ok.types
 have hm:=ok.modes
 have hst:=ok.states
 refine PCall_intro Tryz.func44 rfl Tryz.ntmps44 (rs:=[.tmp 2]) rfl (by simp) ?_
 have fin:∀ h (b:Bool),Expo h (.lit (.bool b)) (.lit (.bool b)):=fun h b=>expo_pure (.lit _)
 simp -implicitDefEqProofs (disch:=omega) only[Wz,seval]
 refine aw_measA (fun a:Nat × Nat=>⟨[(3,.lit (.int .i64 (a.1:Int))),(1,.ptr 0 0)],⟨[(0,encN n)],[],a.2⟩,89⟩) (fun a=>a.1≤n.states.length∧1≤a.2∧∀ j,j<a.1→stateR n j=true) (fun a=>n.states.length - a.1) (0,1) (wk_lk (by simp[lk]) (fun _ _ q=>q) (fun _ _ q=>q) rfl rfl) ⟨Nat.zero_le _,Nat.le_refl _,fun j q=>absurd q (Nat.not_lt_zero _)⟩ ?_
 rintro⟨i,N⟩ ⟨hi,hN,hno⟩
 simp only at hi hN hno
 refine aw_of ?_
 rcases Nat.lt_or_ge i n.states.length with hlt | hge
 ·have bad:stateR n i=false→statesV n=false:=fun q=>all_not hlt q
  have oks:=ok.edges _ (getD_mem hlt)
  obtain⟨s,hs⟩:∃ s,n.states.getD i default=s:=⟨_,rfl⟩
  rw[hs] at oks
  have key:stateR n i=(decide (0≤s.rule∧s.rule<(n.rules.length:Int)) && (!(decide (s.edges.length=0) && decide ((i:Int)≠(n.rules.getD s.rule.toNat default).stop)) && (List.range s.edges.length).all (edgeR n i s))):=by unfold stateR;rw[hs]
  by_cases c1:¬ 0≤s.rule
  ·have hb:=bad (by rw[key];simp[c1])
   simp -implicitDefEqProofs (disch:=omega) only[Wz,seval,encN,encSt,hs,hb]
   exact fin _ _
  have c1:0≤s.rule:=by omega
  by_cases c2:¬ s.rule<(n.rules.length:Int)
  ·have hb:=bad (by rw[key];simp[c2])
   simp -implicitDefEqProofs (disch:=omega) only[Wz,seval,encN,encSt,hs,hb]
   exact fin _ _
  have c2:s.rule<(n.rules.length:Int):=by omega
  obtain⟨sr,hsr⟩:∃ sr:Nat,s.rule=(sr:Int):=⟨s.rule.toNat,by omega⟩
  have hsl:sr<n.rules.length:=by omega
  obtain⟨r,hr⟩:∃ r,n.rules.getD sr default=r:=⟨_,rfl⟩
  rw[decide_eq_true (⟨c1,c2⟩:0≤s.rule∧s.rule<(n.rules.length:Int)),Bool.true_and,hsr,Int.toNat_natCast,hr] at key
  have hsl2:=oks.1
  by_cases c3:s.edges.length=0∧¬ (i:Int)=r.stop
  ·obtain⟨c4,c5⟩:=c3
   have hb:=bad (by rw[key];simp[c4,c5])
   simp -implicitDefEqProofs (disch:=omega) only[Wz,seval,encN,encSt,encNr,hs,hsr,hr,hb]
   exact fin _ _
  rw[show (!(decide (s.edges.length=0) && decide ((i:Int)≠r.stop)))=true by rw[Bool.not_eq_true',Bool.and_eq_false_iff];by_cases q:s.edges.length=0;exact .inr (decide_eq_false fun x=>c3 ⟨q,x⟩);exact .inl (decide_eq_false q),Bool.true_and] at key
  have bad2:∀ {k},k<s.edges.length→edgeR n i s k=false→statesV n=false:=fun hk q=>bad (by rw[key];exact all_not hk q)
  obtain⟨S,hS⟩:∃ S:Nat→St,∀ k,S k=⟨[(5,.lit (.int .i64 (k:Int))),(3,.lit (.int .i64 (i:Int))),(1,.ptr 0 0),(4,.ptr N 0)],⟨[(0,encN n),(N,encSt s)],[],N+1⟩,89⟩:=⟨_,fun _=>rfl⟩
  by_cases c4:s.edges.length=0
  ·have c5:(i:Int)=r.stop:=by
    by_cases q:(i:Int)=r.stop
    ·exact q
    ·exact absurd ⟨c4,q⟩ c3
   have hg:stateR n i=true:=by rw[key,c4];rfl
   have c6:((i:Int)==r.stop)=true:=beqT c5
   simp -implicitDefEqProofs (disch:=omega) only[Wz,seval,encN,encSt,encNr,hs,hsr,hr,c6]
   refine aw_measA S (fun k=>k=0) (fun _=>0) 0 ?_ rfl ?_
   ·rw[hS]
    refine wk_lk (by simp[lk]) ?_ (fun _ _ q=>q) rfl rfl
    intro p c q
    simp only[encN,encSt,hsr] at q
    exact q
   rintro k rfl
   rw[hS]
   refine aw_of ?_
   simp -implicitDefEqProofs (disch:=omega) only[Wz,seval,encN,encSt]
   exact⟨(i+1,N+1),⟨by simp only;omega,by simp only;omega,lt_step hno hg⟩,by simp only;omega,wk_lk (by simp[lk]) (lkA trivial) (fun _ _ q=>q) rfl rfl⟩
  ·simp -implicitDefEqProofs (disch:=omega) only[Wz,seval,encN,encSt,encNr,hs,hsr,hr]
   refine aw_measA S (fun k=>k≤s.edges.length∧∀ j,j<k→edgeR n i s j=true) (fun k=>s.edges.length - k) 0 ?_ ⟨Nat.zero_le _,fun j q=>absurd q (Nat.not_lt_zero _)⟩ ?_
   ·rw[hS]
    refine wk_lk (by simp[lk]) ?_ (fun _ _ q=>q) rfl rfl
    intro p c q
    simp only[encN,encSt,hsr] at q
    exact q
   rintro k ⟨hk,hkv⟩
   rw[hS]
   refine aw_of ?_
   rcases Nat.lt_or_ge k s.edges.length with hkl | hge
   ·obtain⟨e,he⟩:∃ e,s.edges.getD k default=e:=⟨_,rfl⟩
    have eok:=oks.2 _ (getD_mem hkl)
    rw[he] at eok
    have keyk:=edgeR_eq n i s k e he
    have re:=redge_spec n ok i s e eok c1 c2
    have pe:∀ x∈[AV.agg (encN n),.agg (encSt s),.lit (.int .i64 (i:Int)),.agg (encE e)],Ab.Pure x:=allc (.agg (pure_encN n)) (allc (.agg (pure_encSt s)) (allc (.lit _) (allc (.agg (pure_encE e)) alln)))
    unfold encN encSt encE at re pe
    simp -implicitDefEqProofs (disch:=omega) only[Wz,seval,encN,encSt,encE,he]
    refine aw_drawQ (n:=89) 8 (.alt 8 (.alt 9 .leaf .nil) .nil) rfl (by decide) (by decide) mixed (by kernel_rfl) (by decide) ?_
    simp -implicitDefEqProofs (disch:=omega) only[Wz,seval,encN,encSt,encE,he]
    refine CallK_pure call69 re pe (.lit _) ?_
    cases hv:edgeV n i s e with
    | false =>
     have hb:=bad2 hkl (by rw[keyk,hv];rfl)
     simp -implicitDefEqProofs (disch:=omega) only[Wz,seval,hb]
     exact fin _ _
    | true =>
    rw[hv,Bool.true_and] at keyk
    have ma:=mem_alts (s:=s) (x:=e.n) (k:=k) (by omega)
    simp -implicitDefEqProofs (disch:=omega) only[Wz,seval]
    refine aw_measA (fun j:Nat=>⟨[(6,.lit (.int .i64 (j:Int))),(5,.lit (.int .i64 (k:Int))),(3,.lit (.int .i64 (i:Int))),(1,.ptr 0 0),(4,.ptr N 0)],⟨[(0,encN n),(N,encSt s)],[],N+1⟩,89⟩) (fun j=>j≤k∧∀ q,q<j→¬ (e.op.1=4∧(s.edges.getD q default).n=e.n)) (fun j=>k - j) 0 (wk_lk (by simp[lk]) (fun _ _ q=>q) (fun _ _ q=>q) rfl rfl) ⟨Nat.zero_le _,fun j q=>absurd q (Nat.not_lt_zero _)⟩ ?_
    rintro j ⟨hj,hjv⟩
    refine aw_of ?_
    rcases Nat.lt_or_ge j k with hjl | hge
    ·obtain⟨u,hu⟩:∃ u,s.edges.getD j default=u:=⟨_,rfl⟩
     simp -implicitDefEqProofs (disch:=omega) only[Wz,seval,encN,encSt,encE]
     refine aw_quietN (n:=89) rfl (by decide) mixed ?_
     by_cases h4:e.op.1=4
     ·by_cases hx:u.n=e.n
      ·have hb:=bad2 hkl (by rw[keyk,decide_eq_true h4,decide_eq_true (ma.2 ⟨j,hjl,by rw[hu];exact hx⟩)];rfl)
       simp -implicitDefEqProofs (disch:=omega) only[Wz,seval,encN,encSt,encE,he,hu,hb]
       exact fin _ _
      ·simp -implicitDefEqProofs (disch:=omega) only[Wz,seval,encN,encSt,encE,he,hu]
       exact⟨j+1,⟨by omega,fun q hq=>by rcases Nat.lt_succ_iff_lt_or_eq.1 hq with r | r;exact hjv q r;subst r;rw[hu];exact fun x=>hx x.2⟩,by omega,wk_lk (by simp[lk]) (fun _ _ q=>q) (fun _ _ q=>q) rfl rfl⟩
     ·simp -implicitDefEqProofs (disch:=omega) only[Wz,seval,encN,encSt,encE,he,hu]
      exact⟨j+1,⟨by omega,fun q hq=>fun x=>h4 x.1⟩,by omega,wk_lk (by simp[lk]) (fun _ _ q=>q) (fun _ _ q=>q) rfl rfl⟩
    ·have e1:j=k:=by omega
     subst e1
     have hg:edgeR n i s j=true:=by
      rw[keyk,Bool.not_eq_true',Bool.and_eq_false_iff]
      by_cases h4:e.op.1=4
      ·refine .inr (decide_eq_false fun q=>?_)
       obtain⟨q,h5,h6⟩:=ma.1 q
       exact hjv q h5 ⟨h4,h6⟩
      ·exact .inl (decide_eq_false h4)
     simp -implicitDefEqProofs (disch:=omega) only[Wz,seval]
     exact⟨j+1,⟨by omega,lt_step hkv hg⟩,by omega,by rw[hS];exact wk_lk (by simp[lk]) (fun _ _ q=>q) (fun _ _ q=>q) rfl rfl⟩
   ·have e1:k=s.edges.length:=by omega
    subst e1
    have hg:stateR n i=true:=by rw[key];exact all_range hkv
    simp -implicitDefEqProofs (disch:=omega) only[Wz,seval,encN,encSt]
    exact⟨(i+1,N+1),⟨by simp only;omega,by simp only;omega,lt_step hno hg⟩,by simp only;omega,wk_lk (by simp[lk]) (lkA trivial) (fun _ _ q=>q) rfl rfl⟩
 ·have e:i=n.states.length:=by omega
  subst e
  have hn:statesV n=true:=all_range hno
  simp -implicitDefEqProofs (disch:=omega) only[Wz,seval,encN,hn]
  exact fin _ _
def goE (free:Bool)(em:List Bool)(e:Ed):Bool := !(free && (decide (e.op.1=1) || (decide (e.op.1=2) && !(em.getD e.n.toNat false))))
inductive Rc (n:Nt) (go:Ed→Bool) (a:Nat):Nat→Prop
 | base:Rc n go a a
 | step {s:Nat} {e:Ed}:Rc n go a s→s<n.states.length→e∈(n.states.getD s default).edges→go e=true→Rc n go a e.to.toNat
noncomputable def rcV(n:Nt)(go:Ed→Bool)(a:Nat):List Bool:=(List.range n.states.length).map fun j=>decP (Rc n go a j)
def ClsR (n:Nt)(go:Ed→Bool)(I:List Bool)(i k:Nat):Prop:=∀ i' k',(i'<i∨i'=i∧k'<k)→i'<n.states.length→k'<(n.states.getD i' default).edges.length→I.getD i' false=true→go ((n.states.getD i' default).edges.getD k' default)=true→I.getD ((n.states.getD i' default).edges.getD k' default).to.toNat false=true
structure RcI (n:Nt) (go:Ed→Bool) (a:Nat) (I:List Bool):Prop where
 len:I.length=n.states.length
 fr:I.getD a false=true
 snd:∀ j,I.getD j false=true→Rc n go a j
theorem RcI.init{n:Nt}{go:Ed→Bool}{a:Nat}(h:a<n.states.length):RcI n go a ((List.replicate n.states.length false).set a true):=by
 have hl:a<(List.replicate n.states.length false).length:=by simpa using h
 refine⟨by simp,by rw[getD_set hl,if_pos rfl],fun j hj=>?_⟩
 rw[getD_set hl] at hj
 split at hj
 ·rename_i e;subst e;exact .base
 ·rw[List.getD_eq_getElem?_getD,List.getElem?_replicate] at hj
  split at hj <;> cases hj
theorem RcI.put{n:Nt}{go:Ed→Bool}{a:Nat}{I:List Bool}(h:RcI n go a I){t:Nat}(ht:t<n.states.length)(hr:Rc n go a t):RcI n go a (I.set t true):=by
 have hl:t<I.length:=by rw[h.len];exact ht
 refine⟨by simp[h.len],?_,fun j hj=>?_⟩
 ·rw[getD_set hl];split
  ·rfl
  ·exact h.fr
 ·rw[getD_set hl] at hj
  split at hj
  ·rename_i e;subst e;exact hr
  ·exact h.snd j hj
theorem RcI.last{n:Nt}{go:Ed→Bool}{a:Nat}{I:List Bool}(h:RcI n go a I)(hc:ClsR n go I n.states.length 0):I=rcV n go a:=by
 have all:∀ j,Rc n go a j→I.getD j false=true:=fun j hj=>by
  induction hj with
  | base=>exact h.fr
  | @step s e h1 h2 h3 h4 ih =>
   obtain⟨k,hk,e1⟩:=mem_getD h3
   have:=hc s k (.inl h2) h2 hk ih (by rw[e1];exact h4)
   rw[e1] at this;exact this
 apply List.ext_getElem?
 intro j
 unfold rcV
 rw[List.getElem?_map]
 rcases Nat.lt_or_ge j n.states.length with hj | hj
 ·have hji:j<I.length:=by rw[h.len];exact hj
  rw[List.getElem?_range hj,List.getElem?_eq_getElem hji]
  have e:I.getD j false=I[j]:=by rw[List.getD_eq_getElem?_getD,List.getElem?_eq_getElem hji];rfl
  show some I[j]=some (decP (Rc n go a j))
  congr 1
  rw[← e,Bool.eq_iff_iff,decP_true]
  exact⟨h.snd j,all j⟩
 ·rw[List.getElem?_eq_none (by rw[h.len];exact hj),List.getElem?_eq_none (by simpa using hj)];rfl
theorem ret_frz{σ:St}{h:Hp}{xs:List (List AV)}{N tI z f m:Nat}(t:Nat)(ho:Own h)(hN:h.nx=N)(hle:N≤σ.hp.nx)(hv:lk σ.slots t=some (.own tI m))(hm:m=xs.length)(hk:lk σ.hp.toks tI=some ⟨xs,f,z⟩)(hp:∀ x∈xs,∀ c∈x,Ab.Pure c)
  (hb:∀ p∈h.boxes,lk σ.hp.boxes p.1=some p.2) (ht:∀ p∈h.toks,p.1≠tI∧lk σ.hp.toks p.1=some p.2) (kb:∀ p∈h.boxes,lk h.boxes p.1=some p.2) (kt:∀ p∈h.toks,lk h.toks p.1=some p.2) :
  ∃ σ',St.cp N σ σ'∧resK (resOf Pg σ' [.tmp t]) (fun r h'=>r = .vec xs false∧h'=h) σ'.hp:=by
 subst hm
 have w1:St.wk σ ⟨[(t,.vec xs false)],⟨h.boxes,h.toks,σ.hp.nx⟩,σ.nt⟩:=wk_frz hk rfl rfl (allc ⟨_,hv,.inr ⟨rfl,rfl⟩⟩ alln) (fun i c e=>hb _ (lk_mem e)) (fun i c e=>ht _ (lk_mem e))
 obtain⟨σ',c1,c2⟩:=ret1 (σ:=⟨[(t,.vec xs false)],⟨h.boxes,h.toks,σ.hp.nx⟩,σ.nt⟩) (h:=h) (v:=.vec xs false) (N:=N) t ho hN hle (by simp[lk]) (.pure (.vec hp)) kb kt
 exact⟨σ',St.cp.trans w1.cp c1,c2⟩
theorem lkA1{b:Nat}{x:List AV}{y:List (Nat × List AV)}:∀ i c,lk [(b,x)] i=some c→lk ((b,x) :: y) i=some c:=fun i c q=>by
 simp only[lk] at q ⊢
 split at q
 ·rename_i e;rw[if_pos e];exact q
 ·cases q
theorem ClsR.step{n:Nt}{go:Ed→Bool}{I:List Bool}{i k:Nat}(h:ClsR n go I i k)(hs:go ((n.states.getD i default).edges.getD k default)=true→I.getD ((n.states.getD i default).edges.getD k default).to.toNat false=true):ClsR n go I i (k+1):=fun i' k' hl a b c d=>by
 rcases hl with q | ⟨q1,q2⟩
 ·exact h i' k' (.inl q) a b c d
 ·subst q1
  rcases Nat.lt_succ_iff_lt_or_eq.1 q2 with q | q
  ·exact h i' k' (.inr ⟨rfl,q⟩) a b c d
  ·subst q;exact hs d
theorem ClsR.row{n:Nt}{go:Ed→Bool}{I:List Bool}{i:Nat}(h:ClsR n go I i (n.states.getD i default).edges.length):ClsR n go I (i+1) 0:=fun i' k' hl a b c d=>by
 rcases hl with q | ⟨_,q2⟩
 ·rcases Nat.lt_succ_iff_lt_or_eq.1 q with q | q
  ·exact h i' k' (.inl q) a b c d
  ·subst q;exact h i' k' (.inr ⟨rfl,b⟩) a b c d
 ·exact absurd q2 (Nat.not_lt_zero _)
theorem ClsR.none{n:Nt}{go:Ed→Bool}{I:List Bool}{i:Nat}(h:ClsR n go I i 0)(hi:I.getD i false=false):ClsR n go I (i+1) 0:=fun i' k' hl a b c d=>by
 rcases hl with q | ⟨_,q2⟩
 ·rcases Nat.lt_succ_iff_lt_or_eq.1 q with q | q
  ·exact h i' k' (.inl q) a b c d
  ·subst q;rw[hi] at c;cases c
 ·exact absurd q2 (Nat.not_lt_zero _)
theorem ClsR.nil{n:Nt}{go:Ed→Bool}{I:List Bool}:ClsR n go I 0 0:=fun i' k' hl _ _ _ _=>by
 rcases hl with q | ⟨_,q2⟩
 ·exact absurd q (Nat.not_lt_zero _)
 ·exact absurd q2 (Nat.not_lt_zero _)
theorem map_getBo{l:List Bool}{i:Nat}(h:i<l.length):(l.map encBo)[i]? = some [.lit (.bool (l.getD i false))]:=mapQ h
theorem reach1_spec(n:Nt)(w:Wf n)(ok:NtOk n)(em:List Bool)(hem:em.length=n.rules.length)(a:Nat)(ha:a<n.states.length) :
  QCall Pg 45 [.agg (encN n),.lit (.int .i64 (a:Int)),.lit (.bool true),.own 0 em.length] (⟨[],[(0,⟨em.map encBo,0,1⟩)],1⟩) (.vec ((rcV n (goE true em) a).map encBo) false):=by
 have hst:=w.nst
 have hru:=w.nru
 obtain⟨v,hv⟩:∃ v,rcV n (goE true em) a=v:=⟨_,rfl⟩
 rw[hv]
 refine SCall_introC Tryz.func45 rfl Tryz.ntmps45 (rs:=[.tmp 8]) rfl (by simp) (N:=1) rfl ?_
 obtain⟨go,hgo⟩:∃ go,goE true em=go:=⟨_,rfl⟩
 rw[hgo] at hv
 obtain⟨S1,hS1⟩:∃ S1:List Bool × Bool × Nat→St,∀ I ag N,S1 (I,ag,N)=⟨[(10,.lit (.bool ag)),(9,.own 2 n.states.length),(4,.ptr 1 0),(2,.lit (.bool true)),(3,.own 0 em.length)],⟨[(1,encN n)],[(0,⟨em.map encBo,0,1⟩),(2,⟨I.map encBo,0,1⟩)],N⟩,85⟩:=⟨fun x=>(fun I ag N=>⟨[(10,.lit (.bool ag)),(9,.own 2 n.states.length),(4,.ptr 1 0),(2,.lit (.bool true)),(3,.own 0 em.length)],⟨[(1,encN n)],[(0,⟨em.map encBo,0,1⟩),(2,⟨I.map encBo,0,1⟩)],N⟩,85⟩) x.1 x.2.1 x.2.2,fun _ _ _=>rfl⟩
 obtain⟨S2,hS2⟩:∃ S2:Nat × List Bool × Bool × Nat→St,∀ i I ag N,S2 (i,I,ag,N)=⟨[(11,.lit (.int .i64 (i:Int))),(10,.lit (.bool ag)),(9,.own 2 n.states.length),(4,.ptr 1 0),(2,.lit (.bool true)),(3,.own 0 em.length)],⟨[(1,encN n)],[(0,⟨em.map encBo,0,1⟩),(2,⟨I.map encBo,0,1⟩)],N⟩,85⟩:=⟨fun x=>(fun(i:Nat) I ag N=>⟨[(11,.lit (.int .i64 (i:Int))),(10,.lit (.bool ag)),(9,.own 2 n.states.length),(4,.ptr 1 0),(2,.lit (.bool true)),(3,.own 0 em.length)],⟨[(1,encN n)],[(0,⟨em.map encBo,0,1⟩),(2,⟨I.map encBo,0,1⟩)],N⟩,85⟩) x.1 x.2.1 x.2.2.1 x.2.2.2,fun _ _ _ _=>rfl⟩
 obtain⟨S3,hS3⟩:∃ S3:Nat→Nat × List Bool × Bool × Nat→St,∀ i k I ag N,S3 i (k,I,ag,N)=⟨[(12,.lit (.int .i64 (k:Int))),(11,.lit (.int .i64 (i:Int))),(10,.lit (.bool ag)),(9,.own 2 n.states.length),(4,.ptr 1 0),(2,.lit (.bool true)),(3,.own 0 em.length)],⟨[(1,encN n)],[(0,⟨em.map encBo,0,1⟩),(2,⟨I.map encBo,0,1⟩)],N⟩,85⟩:=⟨fun i x=>(fun(i k:Nat) I ag N=>⟨[(12,.lit (.int .i64 (k:Int))),(11,.lit (.int .i64 (i:Int))),(10,.lit (.bool ag)),(9,.own 2 n.states.length),(4,.ptr 1 0),(2,.lit (.bool true)),(3,.own 0 em.length)],⟨[(1,encN n)],[(0,⟨em.map encBo,0,1⟩),(2,⟨I.map encBo,0,1⟩)],N⟩,85⟩) i x.1 x.2.1 x.2.2.1 x.2.2.2,fun _ _ _ _ _=>rfl⟩
 have g0:(List.replicate n.states.length [AV.lit (.bool false)])[a]? = some [AV.lit (.bool false)]:=by rw[List.getElem?_replicate,if_pos ha]
 simp -implicitDefEqProofs (disch:=omega) only[Wz,seval,encN,List.length_replicate,g0,List.length_cons,List.length_nil]
 refine aw_measA S1 (fun x=>RcI n go a x.1∧(x.2.1=false→ClsR n go x.1 n.states.length 0)∧3≤x.2.2) (fun x=>2 * x.1.count false+x.2.1.toNat) ((List.replicate n.states.length false).set a true,true,3) ?_ ⟨RcI.init ha,fun(q:true=false)=>(nomatch q),Nat.le_refl _⟩ ?_
 ·rw[hS1]
  exact wk_lk (by simp[lk]) (fun _ _ q=>q) (fun p c q=>by rw[← q];simp[List.map_set,List.map_replicate,encBo]) rfl rfl
 rintro⟨I,ag,N⟩ ⟨hI,hc,hN⟩
 simp only at hI hc hN
 have hIl:=hI.len
 cases ag with
 | false =>
  have e:=hI.last (hc rfl)
  rw[hv] at e
  subst e
  rw[hS1]
  refine aw_of ?_
  simp -implicitDefEqProofs (disch:=omega) only[Wz,seval]
  exact ret_frz (tI:=2) 8 ⟨alln,allc ⟨by show 0<1;decide,.pure (pure_rows pure_encBo _)⟩ alln⟩ rfl (by show 1≤N;omega) rfl (by simp[hIl]) rfl (pure_rows pure_encBo _) alln (allc ⟨(show 0≠2 by decide),rfl⟩ alln) alln (allc rfl alln)
 | true =>
 rw[hS1]
 refine aw_of ?_
 simp -implicitDefEqProofs (disch:=omega) only[Wz,seval]
 refine aw_measA S2 (fun x=>x.1≤n.states.length∧RcI n go a x.2.1∧(x.2.2.1=false→ClsR n go x.2.1 x.1 0)∧x.2.1.count false≤I.count false∧(x.2.2.1=true→x.2.1.count false<I.count false)∧3≤x.2.2.2) (fun x=>n.states.length - x.1) (0,I,false,N) ?_ ⟨Nat.zero_le _,hI,fun _=>ClsR.nil,Nat.le_refl _,fun(q:false=true)=>(nomatch q),hN⟩ ?_
 ·rw[hS2]
  exact wk_lk (by simp[lk]) (fun _ _ q=>q) (fun _ _ q=>q) rfl rfl
 rintro⟨i,I',ag,N'⟩ ⟨hi,hI',hc',hn1,hn2,hN'⟩
 simp only at hi hI' hc' hn1 hn2 hN'
 have hIl':=hI'.len
 rw[hS2]
 refine aw_of ?_
 rcases Nat.lt_or_ge i n.states.length with hlt | hge
 rotate_left
 ·have e:i=n.states.length:=by omega
  subst e
  simp -implicitDefEqProofs (disch:=omega) only[Wz,seval,encN]
  refine⟨(I',ag,N'),⟨hI',hc',hN'⟩,?_,?_⟩
  ·simp only
   cases ag with
   | false=>simp only[Bool.toNat];simp;omega
   | true=>have:=hn2 rfl;simp only[Bool.toNat];simp;omega
  ·rw[hS1]
   exact wk_lk (by simp[lk]) (fun _ _ q=>q) (fun _ _ q=>q) rfl rfl
 obtain⟨s,hs⟩:∃ s,n.states.getD i default=s:=⟨_,rfl⟩
 have hse:=(ok.edges s (by rw[← hs];exact getD_mem hlt)).1
 have gi:=map_getBo (l:=I') (i:=i) (by omega)
 cases hIi:I'.getD i false with
 | false =>
  rw[hIi] at gi
  simp -implicitDefEqProofs (disch:=omega) only[Wz,seval,encN,gi,hIl']
  refine⟨(i+1,I',ag,N'),⟨by simp only;omega,hI',fun q=>(hc' q).none hIi,hn1,hn2,hN'⟩,by simp only;omega,?_⟩
  rw[hS2]
  exact wk_lk (by simp[lk]) (fun _ _ q=>q) (fun _ _ q=>q) rfl rfl
 | true =>
 rw[hIi] at gi
 simp -implicitDefEqProofs (disch:=omega) only[Wz,seval,encN,gi,hIl']
 refine aw_measA (S3 i) (fun x=>x.1≤s.edges.length∧RcI n go a x.2.1∧x.2.1.getD i false=true∧(x.2.2.1=false→ClsR n go x.2.1 i x.1)∧x.2.1.count false≤I.count false∧(x.2.2.1=true→x.2.1.count false<I.count false)∧3≤x.2.2.2) (fun x=>s.edges.length - x.1) (0,I',ag,N') ?_ ⟨Nat.zero_le _,hI',hIi,hc',hn1,hn2,hN'⟩ ?_
 ·rw[hS3]
  exact wk_lk (by simp[lk]) (fun _ _ q=>q) (fun _ _ q=>q) rfl rfl
 clear hI' hc' hn1 hn2 hN' hIi gi hIl'
 rintro⟨k,J,ag,N2⟩ ⟨hk,hJ,hJi,hc',hn1,hn2,hN'⟩
 simp only at hk hJ hJi hc' hn1 hn2 hN'
 have hJl:=hJ.len
 rw[hS3]
 refine aw_of ?_
 rcases Nat.lt_or_ge k s.edges.length with hkl | hge
 rotate_left
 ·have e:k=s.edges.length:=by omega
  subst e
  simp -implicitDefEqProofs (disch:=omega) only[Wz,seval,encN,encSt,hs]
  refine⟨(i+1,J,ag,N2),⟨by simp only;omega,hJ,fun q=>by have:=hc' q;rw[← hs] at this;exact this.row,hn1,hn2,hN'⟩,by simp only;omega,?_⟩
  rw[hS2]
  exact wk_lk (by simp[lk]) (fun _ _ q=>q) (fun _ _ q=>q) rfl rfl
 obtain⟨e,he⟩:∃ e,s.edges.getD k default=e:=⟨_,rfl⟩
 have hem2:e∈(n.states.getD i default).edges:=by rw[hs,← he];exact getD_mem hkl
 have hto:=w.to hlt hem2
 obtain⟨tn,htn⟩:∃ tn:Nat,e.to=(tn:Int):=⟨e.to.toNat,by omega⟩
 have htl:tn<n.states.length:=by omega
 have gt:=map_getBo (l:=J) (i:=tn) (by omega)
 have skip:(go e=true→J.getD tn false=true)→ag=false→ClsR n go J i (k+1):=fun q r=>(hc' r).step (by rw[hs,he,htn,Int.toNat_natCast];exact q)
 have put:go e=true→Rc n go a tn:=fun q=>by have:=Rc.step (hJ.snd i hJi) hlt hem2 q;rwa [htn,Int.toNat_natCast] at this
 have hgoe:go e=goE true em e:=by rw[hgo]
 unfold goE at hgoe
 have lenset:∀ b:Bool,(J.set tn b).length=n.states.length:=fun b=>by simp[hJl]
 by_cases h1:e.op.1=1
 ·skip
  simp -implicitDefEqProofs (disch:=omega) only[Wz,seval,encN,encSt,hs,he,encE,htn,hJl,h1]
  exact⟨(k+1,J,ag,N2+1),⟨by simp only;omega,hJ,hJi,skip (fun q=>by rw[hgoe] at q;simp[h1] at q),hn1,hn2,by simp only;omega⟩,by simp only;omega,by rw[hS3];exact wk_lk (by simp[lk]) lkA1 (fun _ _ q=>q) rfl rfl⟩
 by_cases h2:e.op.1=2
 ·have hcl:=w.call hlt hem2 h2
  obtain⟨en,hen⟩:∃ en:Nat,e.n=(en:Int):=⟨e.n.toNat,by omega⟩
  have ge:=map_getBo (l:=em) (i:=en) (by omega)
  cases hem3:em.getD en false with
  | false =>
   rw[hem3] at ge
   simp -implicitDefEqProofs (disch:=omega) only[Wz,seval,encN,encSt,hs,he,encE,htn,hJl,h2,hen,ge]
   exact⟨(k+1,J,ag,N2+1),⟨by simp only;omega,hJ,hJi,skip (fun q=>by rw[hgoe,hen,Int.toNat_natCast,hem3] at q;simp[h2] at q),hn1,hn2,by simp only;omega⟩,by simp only;omega,by rw[hS3];exact wk_lk (by simp[lk]) lkA1 (fun _ _ q=>q) rfl rfl⟩
  | true =>
   rw[hem3] at ge
   cases ht:J.getD tn false with
   | true =>
    rw[ht] at gt
    simp -implicitDefEqProofs (disch:=omega) only[Wz,seval,encN,encSt,hs,he,encE,htn,hJl,gt,h2,hen,ge]
    exact⟨(k+1,J,ag,N2+1),⟨by simp only;omega,hJ,hJi,skip (fun q=>by exact ht),hn1,hn2,by simp only;omega⟩,by simp only;omega,by rw[hS3];exact wk_lk (by simp[lk]) lkA1 (fun _ _ q=>q) rfl rfl⟩
   | false =>
    rw[ht] at gt
    have hg:go e=true:=by rw[hgoe,hen,Int.toNat_natCast,hem3];simp[h2]
    simp -implicitDefEqProofs (disch:=omega) only[Wz,seval,encN,encSt,hs,he,encE,htn,hJl,gt,h2,hen,ge]
    have hc1:=count_setF (l:=J) (i:=tn) (by omega) ht
    refine⟨(k+1,J.set tn true,true,N2+1),⟨by simp only;omega,hJ.put htl (put hg),by simp only;rw[getD_set (by omega)];split;rfl;exact hJi,fun(q:true=false)=>(nomatch q),by simp only;omega,fun _=>by simp only;omega,by simp only;omega⟩,by simp only;omega,?_⟩
    rw[hS3]
    exact wk_lk (by simp[lk]) lkA1 (fun p c q=>by rw[← q];simp[List.map_set,encBo]) rfl rfl
 ·skip
  cases ht:J.getD tn false with
  | true =>
   rw[ht] at gt
   simp -implicitDefEqProofs (disch:=omega) only[Wz,seval,encN,encSt,hs,he,encE,htn,hJl,gt,h1,h2]
   exact⟨(k+1,J,ag,N2+1),⟨by simp only;omega,hJ,hJi,skip (fun q=>by exact ht),hn1,hn2,by simp only;omega⟩,by simp only;omega,by rw[hS3];exact wk_lk (by simp[lk]) lkA1 (fun _ _ q=>q) rfl rfl⟩
  | false =>
   rw[ht] at gt
   have hg:go e=true:=by rw[hgoe];simp[h1,h2]
   simp -implicitDefEqProofs (disch:=omega) only[Wz,seval,encN,encSt,hs,he,encE,htn,hJl,gt,h1,h2]
   have hc1:=count_setF (l:=J) (i:=tn) (by omega) ht
   refine⟨(k+1,J.set tn true,true,N2+1),⟨by simp only;omega,hJ.put htl (put hg),by simp only;rw[getD_set (by omega)];split;rfl;exact hJi,fun(q:true=false)=>(nomatch q),by simp only;omega,fun _=>by simp only;omega,by simp only;omega⟩,by simp only;omega,?_⟩
   rw[hS3]
   exact wk_lk (by simp[lk]) lkA1 (fun p c q=>by rw[← q];simp[List.map_set,encBo]) rfl rfl
theorem reach0_spec(n:Nt)(w:Wf n)(ok:NtOk n)(em:List Bool)(hem:em.length=n.rules.length)(a:Nat)(ha:a<n.states.length) :
  QCall Pg 45 [.agg (encN n),.lit (.int .i64 (a:Int)),.lit (.bool false),.vec [] true] (.none) (.vec ((rcV n (goE false em) a).map encBo) false):=by
 have hst:=w.nst
 have hru:=w.nru
 obtain⟨v,hv⟩:∃ v,rcV n (goE false em) a=v:=⟨_,rfl⟩
 rw[hv]
 refine SCall_introC Tryz.func45 rfl Tryz.ntmps45 (rs:=[.tmp 8]) rfl (by simp) (N:=0) rfl ?_
 obtain⟨go,hgo⟩:∃ go,goE false em=go:=⟨_,rfl⟩
 rw[hgo] at hv
 obtain⟨S1,hS1⟩:∃ S1:List Bool × Bool × Nat→St,∀ I ag N,S1 (I,ag,N)=⟨[(10,.lit (.bool ag)),(9,.own 1 n.states.length),(4,.ptr 0 0),(2,.lit (.bool false)),(3,.vec [] true)],⟨[(0,encN n)],[(1,⟨I.map encBo,0,1⟩)],N⟩,85⟩:=⟨fun x=>(fun I ag N=>⟨[(10,.lit (.bool ag)),(9,.own 1 n.states.length),(4,.ptr 0 0),(2,.lit (.bool false)),(3,.vec [] true)],⟨[(0,encN n)],[(1,⟨I.map encBo,0,1⟩)],N⟩,85⟩) x.1 x.2.1 x.2.2,fun _ _ _=>rfl⟩
 obtain⟨S2,hS2⟩:∃ S2:Nat × List Bool × Bool × Nat→St,∀ i I ag N,S2 (i,I,ag,N)=⟨[(11,.lit (.int .i64 (i:Int))),(10,.lit (.bool ag)),(9,.own 1 n.states.length),(4,.ptr 0 0),(2,.lit (.bool false)),(3,.vec [] true)],⟨[(0,encN n)],[(1,⟨I.map encBo,0,1⟩)],N⟩,85⟩:=⟨fun x=>(fun(i:Nat) I ag N=>⟨[(11,.lit (.int .i64 (i:Int))),(10,.lit (.bool ag)),(9,.own 1 n.states.length),(4,.ptr 0 0),(2,.lit (.bool false)),(3,.vec [] true)],⟨[(0,encN n)],[(1,⟨I.map encBo,0,1⟩)],N⟩,85⟩) x.1 x.2.1 x.2.2.1 x.2.2.2,fun _ _ _ _=>rfl⟩
 obtain⟨S3,hS3⟩:∃ S3:Nat→Nat × List Bool × Bool × Nat→St,∀ i k I ag N,S3 i (k,I,ag,N)=⟨[(12,.lit (.int .i64 (k:Int))),(11,.lit (.int .i64 (i:Int))),(10,.lit (.bool ag)),(9,.own 1 n.states.length),(4,.ptr 0 0),(2,.lit (.bool false)),(3,.vec [] true)],⟨[(0,encN n)],[(1,⟨I.map encBo,0,1⟩)],N⟩,85⟩:=⟨fun i x=>(fun(i k:Nat) I ag N=>⟨[(12,.lit (.int .i64 (k:Int))),(11,.lit (.int .i64 (i:Int))),(10,.lit (.bool ag)),(9,.own 1 n.states.length),(4,.ptr 0 0),(2,.lit (.bool false)),(3,.vec [] true)],⟨[(0,encN n)],[(1,⟨I.map encBo,0,1⟩)],N⟩,85⟩) i x.1 x.2.1 x.2.2.1 x.2.2.2,fun _ _ _ _ _=>rfl⟩
 have g0:(List.replicate n.states.length [AV.lit (.bool false)])[a]? = some [AV.lit (.bool false)]:=by rw[List.getElem?_replicate,if_pos ha]
 simp -implicitDefEqProofs (disch:=omega) only[Wz,seval,encN,List.length_replicate,g0,List.length_cons,List.length_nil]
 refine aw_measA S1 (fun x=>RcI n go a x.1∧(x.2.1=false→ClsR n go x.1 n.states.length 0)∧2≤x.2.2) (fun x=>2 * x.1.count false+x.2.1.toNat) ((List.replicate n.states.length false).set a true,true,2) ?_ ⟨RcI.init ha,fun(q:true=false)=>(nomatch q),Nat.le_refl _⟩ ?_
 ·rw[hS1]
  exact wk_lk (by simp[lk]) (fun _ _ q=>q) (fun p c q=>by rw[← q];simp[List.map_set,List.map_replicate,encBo]) rfl rfl
 rintro⟨I,ag,N⟩ ⟨hI,hc,hN⟩
 simp only at hI hc hN
 have hIl:=hI.len
 cases ag with
 | false =>
  have e:=hI.last (hc rfl)
  rw[hv] at e
  subst e
  rw[hS1]
  refine aw_of ?_
  simp -implicitDefEqProofs (disch:=omega) only[Wz,seval]
  exact ret_frz (tI:=1) 8 ⟨alln,alln⟩ rfl (Nat.zero_le _) rfl (by simp[hIl]) rfl (pure_rows pure_encBo _) alln alln alln alln
 | true =>
 rw[hS1]
 refine aw_of ?_
 simp -implicitDefEqProofs (disch:=omega) only[Wz,seval]
 refine aw_measA S2 (fun x=>x.1≤n.states.length∧RcI n go a x.2.1∧(x.2.2.1=false→ClsR n go x.2.1 x.1 0)∧x.2.1.count false≤I.count false∧(x.2.2.1=true→x.2.1.count false<I.count false)∧2≤x.2.2.2) (fun x=>n.states.length - x.1) (0,I,false,N) ?_ ⟨Nat.zero_le _,hI,fun _=>ClsR.nil,Nat.le_refl _,fun(q:false=true)=>(nomatch q),hN⟩ ?_
 ·rw[hS2]
  exact wk_lk (by simp[lk]) (fun _ _ q=>q) (fun _ _ q=>q) rfl rfl
 rintro⟨i,I',ag,N'⟩ ⟨hi,hI',hc',hn1,hn2,hN'⟩
 simp only at hi hI' hc' hn1 hn2 hN'
 have hIl':=hI'.len
 rw[hS2]
 refine aw_of ?_
 rcases Nat.lt_or_ge i n.states.length with hlt | hge
 rotate_left
 ·have e:i=n.states.length:=by omega
  subst e
  simp -implicitDefEqProofs (disch:=omega) only[Wz,seval,encN]
  refine⟨(I',ag,N'),⟨hI',hc',hN'⟩,?_,?_⟩
  ·simp only
   cases ag with
   | false=>simp only[Bool.toNat];simp;omega
   | true=>have:=hn2 rfl;simp only[Bool.toNat];simp;omega
  ·rw[hS1]
   exact wk_lk (by simp[lk]) (fun _ _ q=>q) (fun _ _ q=>q) rfl rfl
 obtain⟨s,hs⟩:∃ s,n.states.getD i default=s:=⟨_,rfl⟩
 have hse:=(ok.edges s (by rw[← hs];exact getD_mem hlt)).1
 have gi:=map_getBo (l:=I') (i:=i) (by omega)
 cases hIi:I'.getD i false with
 | false =>
  rw[hIi] at gi
  simp -implicitDefEqProofs (disch:=omega) only[Wz,seval,encN,gi,hIl']
  refine⟨(i+1,I',ag,N'),⟨by simp only;omega,hI',fun q=>(hc' q).none hIi,hn1,hn2,hN'⟩,by simp only;omega,?_⟩
  rw[hS2]
  exact wk_lk (by simp[lk]) (fun _ _ q=>q) (fun _ _ q=>q) rfl rfl
 | true =>
 rw[hIi] at gi
 simp -implicitDefEqProofs (disch:=omega) only[Wz,seval,encN,gi,hIl']
 refine aw_measA (S3 i) (fun x=>x.1≤s.edges.length∧RcI n go a x.2.1∧x.2.1.getD i false=true∧(x.2.2.1=false→ClsR n go x.2.1 i x.1)∧x.2.1.count false≤I.count false∧(x.2.2.1=true→x.2.1.count false<I.count false)∧2≤x.2.2.2) (fun x=>s.edges.length - x.1) (0,I',ag,N') ?_ ⟨Nat.zero_le _,hI',hIi,hc',hn1,hn2,hN'⟩ ?_
 ·rw[hS3]
  exact wk_lk (by simp[lk]) (fun _ _ q=>q) (fun _ _ q=>q) rfl rfl
 clear hI' hc' hn1 hn2 hN' hIi gi hIl'
 rintro⟨k,J,ag,N2⟩ ⟨hk,hJ,hJi,hc',hn1,hn2,hN'⟩
 simp only at hk hJ hJi hc' hn1 hn2 hN'
 have hJl:=hJ.len
 rw[hS3]
 refine aw_of ?_
 rcases Nat.lt_or_ge k s.edges.length with hkl | hge
 rotate_left
 ·have e:k=s.edges.length:=by omega
  subst e
  simp -implicitDefEqProofs (disch:=omega) only[Wz,seval,encN,encSt,hs]
  refine⟨(i+1,J,ag,N2),⟨by simp only;omega,hJ,fun q=>by have:=hc' q;rw[← hs] at this;exact this.row,hn1,hn2,hN'⟩,by simp only;omega,?_⟩
  rw[hS2]
  exact wk_lk (by simp[lk]) (fun _ _ q=>q) (fun _ _ q=>q) rfl rfl
 obtain⟨e,he⟩:∃ e,s.edges.getD k default=e:=⟨_,rfl⟩
 have hem2:e∈(n.states.getD i default).edges:=by rw[hs,← he];exact getD_mem hkl
 have hto:=w.to hlt hem2
 obtain⟨tn,htn⟩:∃ tn:Nat,e.to=(tn:Int):=⟨e.to.toNat,by omega⟩
 have htl:tn<n.states.length:=by omega
 have gt:=map_getBo (l:=J) (i:=tn) (by omega)
 have skip:(go e=true→J.getD tn false=true)→ag=false→ClsR n go J i (k+1):=fun q r=>(hc' r).step (by rw[hs,he,htn,Int.toNat_natCast];exact q)
 have put:go e=true→Rc n go a tn:=fun q=>by have:=Rc.step (hJ.snd i hJi) hlt hem2 q;rwa [htn,Int.toNat_natCast] at this
 have hgoe:go e=goE false em e:=by rw[hgo]
 unfold goE at hgoe
 have lenset:∀ b:Bool,(J.set tn b).length=n.states.length:=fun b=>by simp[hJl]
 cases ht:J.getD tn false with
 | true =>
  rw[ht] at gt
  simp -implicitDefEqProofs (disch:=omega) only[Wz,seval,encN,encSt,hs,he,encE,htn,hJl,gt]
  exact⟨(k+1,J,ag,N2+1),⟨by simp only;omega,hJ,hJi,skip (fun q=>by exact ht),hn1,hn2,by simp only;omega⟩,by simp only;omega,by rw[hS3];exact wk_lk (by simp[lk]) lkA1 (fun _ _ q=>q) rfl rfl⟩
 | false =>
  rw[ht] at gt
  have hg:go e=true:=by rw[hgoe];simp[Bool.false_and]
  simp -implicitDefEqProofs (disch:=omega) only[Wz,seval,encN,encSt,hs,he,encE,htn,hJl,gt]
  have hc1:=count_setF (l:=J) (i:=tn) (by omega) ht
  refine⟨(k+1,J.set tn true,true,N2+1),⟨by simp only;omega,hJ.put htl (put hg),by simp only;rw[getD_set (by omega)];split;rfl;exact hJi,fun(q:true=false)=>(nomatch q),by simp only;omega,fun _=>by simp only;omega,by simp only;omega⟩,by simp only;omega,?_⟩
  rw[hS3]
  exact wk_lk (by simp[lk]) lkA1 (fun p c q=>by rw[← q];simp[List.map_set,encBo]) rfl rfl
theorem goE_true{em:List Bool}{e:Ed}:goE true em e=true↔e.op.1≠1∧(e.op.1≠2∨em.getD e.n.toNat false=true):=by
 unfold goE
 by_cases h1:e.op.1=1
 ·simp[h1]
 ·by_cases h2:e.op.1=2
  ·cases em.getD e.n.toNat false <;> simp[h1,h2]
  ·simp[h1,h2]
theorem rc_rch{n:Nt}(w:Wf n)(ok:NtOk n){em:List Bool}{a b:Nat}(h:Rc n (goE true em) a b):a=b∨Rch (gE n em) a b:=by
 induction h with
 | base=>exact .inl rfl
 | @step s e _ h2 h3 h4 ih =>
  obtain⟨q1,q2⟩:=goE_true.1 h4
  have m:e.to.toNat∈(gE n em).getD s []:=(gE_mem w ok).2 ⟨e,h2,h3,q1,q2,rfl⟩
  rcases ih with r | r
  ·subst r;exact .inr (.one m)
  ·exact .inr (.step r m)
theorem rch_rc{n:Nt}(w:Wf n)(ok:NtOk n){em:List Bool}{a b:Nat}(h:Rch (gE n em) a b):Rc n (goE true em) a b:=by
 induction h with
 | one m =>
  obtain⟨e,h1,h2,h3,h4,rfl⟩:=(gE_mem w ok).1 m
  exact .step .base h1 h2 (goE_true.2 ⟨h3,h4⟩)
 | step _ m ih =>
  obtain⟨e,h1,h2,h3,h4,rfl⟩:=(gE_mem w ok).1 m
  exact .step ih h1 h2 (goE_true.2 ⟨h3,h4⟩)
theorem rcV_get{n:Nt}{go:Ed→Bool}{a j:Nat}(h:j<n.states.length):(rcV n go a).getD j false=decP (Rc n go a j):=by
 unfold rcV
 rw[List.getD_eq_getElem?_getD,List.getElem?_map,List.getElem?_range h];rfl
theorem rcV_length{n:Nt}{go:Ed→Bool}{a:Nat}:(rcV n go a).length=n.states.length:=by simp[rcV]
theorem reach_at{n:Nt}(w:Wf n)(ok:NtOk n){em:List Bool}(hem:em.length=n.rules.length){a:Nat}(ha:a<n.states.length)(H:Hp)(t:Nat)(ht:lk H.toks t=some ⟨em.map encBo,0,1⟩)(hn:t<H.nx) :
  QCall Pg 45 [.agg (encN n),.lit (.int .i64 (a:Int)),.lit (.bool true),.own t em.length] H (.vec ((rcV n (goE true em) a).map encBo) false):=by
 have r0:rho [t] 0=t:=rfl
 refine QCall.sub [t] rfl (by simp) (by simp only[List.mem_singleton,forall_eq];exact hn) (.cons (.pure (.agg (pure_encN n))) (.cons (.pure (.lit _)) (.cons (.pure (.lit _)) (.cons (.own (by show 0<1;decide) r0) .nil)))) alln
  (allc ⟨by show 0<1;decide,_,ht,rfl,rfl,.pure (pure_rows pure_encBo _)⟩ alln) (fun i hi e=>?_) (reach1_spec n w ok em hem a ha) (.pure (.vec (pure_rows pure_encBo _)))
 have hi:i<1:=hi
 have:i=0:=by omega
 subst this
 cases e
theorem rempties_spec(n:Nt)(w:Wf n)(ok:NtOk n):PCall Pg 46 [.agg (encN n)] (.vec ((emptiesV n).map encBo) false):=by
 refine PCall_intro Tryz.func46 rfl Tryz.ntmps46 (rs:=[.tmp 2]) rfl (by simp) ?_
 have hst:=w.nst
 have hru:=w.nru
 obtain⟨S1,hS1⟩:∃ S1:List Bool × Bool→St,∀ em ag,S1 (em,ag)=⟨[(4,.lit (.bool ag)),(3,.own 1 n.rules.length),(1,.ptr 0 0)],⟨[(0,encN n)],[(1,⟨em.map encBo,0,1⟩)],2⟩,46⟩:=⟨fun x=>⟨[(4,.lit (.bool x.2)),(3,.own 1 n.rules.length),(1,.ptr 0 0)],⟨[(0,encN n)],[(1,⟨x.1.map encBo,0,1⟩)],2⟩,46⟩,fun _ _=>rfl⟩
 obtain⟨S2,hS2⟩:∃ S2:Nat × List Bool × Bool→St,∀ i em ag,S2 (i,em,ag)=⟨[(5,.lit (.int .i64 (i:Int))),(4,.lit (.bool ag)),(3,.own 1 n.rules.length),(1,.ptr 0 0)],⟨[(0,encN n)],[(1,⟨em.map encBo,0,1⟩)],2⟩,46⟩:=⟨fun x=>⟨[(5,.lit (.int .i64 (x.1:Int))),(4,.lit (.bool x.2.2)),(3,.own 1 n.rules.length),(1,.ptr 0 0)],⟨[(0,encN n)],[(1,⟨x.2.1.map encBo,0,1⟩)],2⟩,46⟩,fun _ _ _=>rfl⟩
 simp -implicitDefEqProofs (disch:=omega) only[Wz,seval,encN]
 refine aw_measA S1 (fun x=>x.1.length=n.rules.length∧(∀ i,x.1.getD i false=true→Emp n i)∧(x.2=false→closedE n x.1)) (fun x=>2 * x.1.count false+x.2.toNat) (List.replicate n.rules.length false,true) ?_ ⟨by simp,fun i hi=>?_,fun(q:true=false)=>(nomatch q)⟩ ?_
 ·rw[hS1]
  exact wk_lk (by simp[lk]) (fun _ _ q=>q) (fun p c q=>by rw[← q];simp[List.map_replicate,encBo]) rfl rfl
 ·simp only[List.getD_eq_getElem?_getD,List.getElem?_replicate] at hi
  split at hi <;> cases hi
 rintro⟨em,ag⟩ ⟨hel,hes,hec⟩
 simp only at hel hes hec
 rw[hS1]
 refine aw_of ?_
 cases ag with
 | false =>
  have e:=empties_last w ok hel hes (hec rfl)
  rw[← e]
  simp -implicitDefEqProofs (disch:=omega) only[Wz,seval]
  exact expo_own (k:=⟨em.map encBo,0,1⟩) rfl (by simpa using hel.symm) (pure_rows pure_encBo _)
 | true =>
 simp -implicitDefEqProofs (disch:=omega) only[Wz,seval]
 refine aw_measA S2 (fun x=>x.1≤n.rules.length∧x.2.1.length=n.rules.length∧(∀ i,x.2.1.getD i false=true→Emp n i)∧(x.2.2=false→∀ j,j<x.1→Rch (gE n x.2.1) (stN n j) (spN n j)→x.2.1.getD j false=true)∧x.2.1.count false≤em.count false∧(x.2.2=true→x.2.1.count false<em.count false)) (fun x=>n.rules.length - x.1) (0,em,false) ?_ ⟨Nat.zero_le _,hel,hes,fun _ j q=>absurd q (Nat.not_lt_zero _),Nat.le_refl _,fun(q:false=true)=>(nomatch q)⟩ ?_
 ·rw[hS2]
  exact wk_lk (by simp[lk]) (fun _ _ q=>q) (fun _ _ q=>q) rfl rfl
 rintro⟨i,J,ag⟩ ⟨hi,hl,hs,hc,hn1,hn2⟩
 simp only at hi hl hs hc hn1 hn2
 rw[hS2]
 refine aw_of ?_
 rcases Nat.lt_or_ge i n.rules.length with hlt | hge
 rotate_left
 ·have e:i=n.rules.length:=by omega
  subst e
  simp -implicitDefEqProofs (disch:=omega) only[Wz,seval,encN]
  refine⟨(J,ag),⟨hl,hs,fun q j hj r=>hc q j hj r⟩,?_,by rw[hS1];exact wk_lk (by simp[lk]) (fun _ _ q=>q) (fun _ _ q=>q) rfl rfl⟩
  cases ag with
  | false=>simp only[Bool.toNat];simp;omega
  | true=>have:=hn2 rfl;simp only[Bool.toNat];simp;omega
 obtain⟨r,hr⟩:∃ r,n.rules.getD i default=r:=⟨_,rfl⟩
 have gi:=map_getBo (l:=J) (i:=i) (by omega)
 have nxt:(ag=false→Rch (gE n J) (stN n i) (spN n i)→J.getD i false=true)→ag=false→∀ j,j<i+1→Rch (gE n J) (stN n j) (spN n j)→J.getD j false=true:=fun q e j hj=>by
  rcases Nat.lt_succ_iff_lt_or_eq.1 hj with h | h
  ·exact hc e j h
  ·subst h;exact q e
 cases hJi:J.getD i false with
 | true =>
  rw[hJi] at gi
  simp -implicitDefEqProofs (disch:=omega) only[Wz,seval,encN]
  refine aw_quietN (n:=46) rfl (by decide) mixed ?_
  simp -implicitDefEqProofs (disch:=omega) only[Wz,seval,encN,gi,hl,List.append_eq,List.cons_append,List.nil_append]
  exact⟨(i+1,J,ag),⟨by simp only;omega,hl,hs,nxt fun _ _=>hJi,hn1,hn2⟩,by simp only;omega,by rw[hS2];exact wk_lk (by simp[lk]) (fun _ _ q=>q) (fun _ _ q=>q) rfl rfl⟩
 | false =>
 rw[hJi] at gi
 have hsta:=w.start hlt
 have hsto:=w.stop hlt
 have hne:=(w.ru i hlt).2.2.1
 rw[hr] at hsta hsto hne
 obtain⟨sn,hsn⟩:∃ sn:Nat,r.start=(sn:Int):=⟨r.start.toNat,by omega⟩
 obtain⟨pn,hpn⟩:∃ pn:Nat,r.stop=(pn:Int):=⟨r.stop.toNat,by omega⟩
 have es:stN n i=sn:=by unfold stN;rw[hr,hsn];rfl
 have ep:spN n i=pn:=by unfold spN;rw[hr,hpn];rfl
 have rq:=reach_at w ok hl (a:=sn) (by omega) ⟨[(0,encN n)],[(1,⟨J.map encBo,0,1⟩)],2⟩ 1 rfl (show 1<2 by decide)
 obtain⟨R,hR⟩:∃ R,rcV n (goE true J) sn=R:=⟨_,rfl⟩
 have hRl:R.length=n.states.length:=by rw[← hR];exact rcV_length
 have hRp:R.getD pn false=decP (Rc n (goE true J) sn pn):=by rw[← hR];exact rcV_get (by omega)
 rw[hR,hl] at rq
 have gR:=map_getBo (l:=R) (i:=pn) (by omega)
 unfold encN at rq
 simp -implicitDefEqProofs (disch:=omega) only[Wz,seval,encN]
 refine aw_quietN (n:=46) rfl (by decide) mixed ?_
 simp -implicitDefEqProofs (disch:=omega) only[Wz,seval,encN,gi,hl,hr,hsn,encNr,List.append_eq,List.cons_append,List.nil_append]
 refine CallQ_intro call45 rq ?_
 cases hb:R.getD pn false with
 | false =>
  rw[hb] at gR
  have hbd:R.getD pn default=false:=hb
  have nr:¬ Rch (gE n J) (stN n i) (spN n i):=fun q=>by
   rw[es,ep] at q
   have:=decP_true.2 (rch_rc w ok q)
   rw[← hRp,hb] at this;cases this
  simp -implicitDefEqProofs (disch:=omega) only[Wz,seval,encN,hr,hpn,encNr,encBo,hbd,hRl,List.append_eq,List.cons_append,List.nil_append]
  exact⟨(i+1,J,ag),⟨by simp only;omega,hl,hs,nxt fun _ q=>absurd q nr,hn1,hn2⟩,by simp only;omega,by rw[hS2];exact wk_lk (by simp[lk]) (fun _ _ q=>q) (fun _ _ q=>q) rfl rfl⟩
 | true =>
  rw[hb] at gR
  have hbd:R.getD pn default=true:=hb
  have hrc:Rc n (goE true J) sn pn:=decP_true.1 (hRp.symm.trans hb)
  have hE:Emp n i:=by
   rcases rc_rch w ok hrc with q | q
   ·omega
   ·have:=gE_sound w ok hs q
    unfold Emp
    rw[es,ep];exact this
  have hc1:=count_setF (l:=J) (i:=i) (by omega) hJi
  simp -implicitDefEqProofs (disch:=omega) only[Wz,seval,encN,hr,hpn,encNr,encBo,hbd,hRl,gi,hl,List.append_eq,List.cons_append,List.nil_append]
  refine⟨(i+1,J.set i true,true),⟨by simp only;omega,by simp[hl],fun j hj=>?_,fun(q:true=false)=>(nomatch q),by simp only;omega,fun _=>by simp only;omega⟩,by simp only;omega,?_⟩
  ·simp only at hj
   rw[getD_set (by omega)] at hj
   split at hj
   ·rename_i q;subst q;exact hE
   ·exact hs j hj
  ·rw[hS2]
   exact wk_lk (by simp[lk]) (fun _ _ q=>q) (fun p c q=>by rw[← q];simp[List.map_set,encBo]) rfl rfl
end Go.Proofs.YtbbnfbnicacdoaaGreat
end
