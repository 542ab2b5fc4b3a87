/- Parts of the proof, laid together. -/
import Derived.Test.YtgbbhilflgekhaaGreatDoorVef
set_option linter.unusedVariables false
set_option linter.unusedSimpArgs false
set_option maxRecDepth 20000
set_option maxHeartbeats 16000000
section
namespace Go.Proofs.Y
open Go Go.Ab
def JM(n:Nt)(r:Nr)(no:Int)(e:Ed):Bool :=
 if e.op.1=0 then kd0 e else if e.op.1=1 then kd1 n r e else if e.op.1=2 then kd2 n r no e else if e.op.1=3 then kd3 r e else if e.op.1=4 then kd4 e else if e.op.1=5 then kd5 r e else if e.op.1=6 then kd6 r e else kd7 n r e
def Jef(s:Sta)(k:Nat):List Int:=(s.edges.take k).foldl (fun S e=>Jmt S e.n) []
theorem Jhz(s:Sta){k:Nat}(h:k<s.edges.length):Jef s (k+1)=Jmt (Jef s k) (s.edges.getD k default).n:=by
 unfold Jef;rw[List.take_add_one,List.getElem?_eq_getElem h,List.getD_eq_getElem?_getD,List.getElem?_eq_getElem h];simp only[Option.toList_some,List.foldl_append,Option.getD_some];rfl
def noG (g:Gd):Bool:=decide (g.op.1=0) && (decide (g.n=0) && (decide (g.name=⟨#[]⟩) && decide (g.kids.length=0)))
def Jeg(n:Nt)(i:Nat)(s:Sta)(k:Nat):Bool :=
 ofN n (s.edges.getD k default).to s.rule && (JmQ (s.edges.getD k default).set && (decide (0<=(s.edges.getD k default).op.1/\(s.edges.getD k default).op.1<8) &&
  ((decide ((s.edges.getD k default).op.1=1)==decide (0<(s.edges.getD k default).set.length)) && ((decide ((s.edges.getD k default).op.1=7)==decide (0<(s.edges.getD k default).acts.length)) &&
  ((decide ((s.edges.getD k default).op.1=4)==decide ((i:Int)=(n.rules.getD s.rule.toNat default).start)) && ((decide ((s.edges.getD k default).op.1=3) || noG (s.edges.getD k default).g) &&
  (JM n (n.rules.getD s.rule.toNat default) s.rule (s.edges.getD k default) && !(decide ((s.edges.getD k default).op.1=4) && decide ((s.edges.getD k default).n∈Jef s k)))))))))
def JcF(n:Nt)(i:Nat):Bool :=
 decide (0<=(n.states.getD i default).rule/\(n.states.getD i default).rule<(n.rules.length:Int)) &&
  (!(decide ((n.states.getD i default).edges.length=0) && decide ((i:Int)≠(n.rules.getD (n.states.getD i default).rule.toNat default).stop)) &&
  (List.range (n.states.getD i default).edges.length).all (Jeg n i (n.states.getD i default)))
def JbK(n:Nt):Bool:=(List.range n.states.length).all (JcF n)
def kF:List AV:=[.fn (.func 93) [] [],.fn (.func 94) [] [],.fn (.func 95) [] [],.fn (.func 96) [] [],.fn (.func 98) [] [],.fn (.func 99) [] [],.fn (.func 100) [] [],.fn (.func 101) [] []]
theorem Jo0:∀ c∈kF,Ab.Pure c:=Jb (.fn Jl Jl) (Jb (.fn Jl Jl) (Jb (.fn Jl Jl) (Jb (.fn Jl Jl) (Jb (.fn Jl Jl) (Jb (.fn Jl Jl) (Jb (.fn Jl Jl) (Jb (.fn Jl Jl) Jl)))))))
theorem Jk2(n:Nt)(ok:JcL n):Ja9 Tryz.prog 60 [.pp (Jh n) 0] (.lit (.bool (JbK n))):=by
 have h:=ok.rules;have ht:=ok.types;have hm:=ok.modes;have hst:=ok.states;have kf:GP (.agg [.fn (.func 93) [] [],.fn (.func 94) [] [],.fn (.func 95) [] [],.fn (.func 96) [] [],.fn (.func 98) [] [],.fn (.func 99) [] [],.fn (.func 100) [] [],.fn (.func 101) [] []]) :=
  .of_pure (.agg (Jb (.fn Jl Jl) (Jb (.fn Jl Jl) (Jb (.fn Jl Jl) (Jb (.fn Jl Jl) (Jb (.fn Jl Jl) (Jb (.fn Jl Jl) (Jb (.fn Jl Jl) (Jb (.fn Jl Jl) Jl)))))))))
 refine Jaa (JL Tryz.func60 rfl Tryz.ntmps60 (rs:=[.tmp 2]) rfl (by simp) ?_);simp (disch:=omega) only[Wz,seval,Jh];refine JV Jyn JmS Jl kf ?_;simp (disch:=omega) only[Wz,seval,Jh];refine Jb7 n.states.length 1 (fun i (_:Unit)=>⟨[(16,.lit (.int .i64 (i:Int))),(15,.lit (.int .i64 (n.states.length:Int))),(14,.vec (n.states.map Jd) false),(0,.pp (Jh n) 0),(3,.ptr 0 0)],⟨[(0,kF)],[],1⟩,201⟩) (fun i _=>∀ j,j<i->JcF n j=true) (fun _ _=>rfl) () (St.wk_slots (by simp[lk,Jh,kF])) (by simp) (fun i _ hlt hno=>?_) (fun _ hno=>?_)
 ·have no:JcF n i=false->JbK n=false:=Jbn hlt;have yes:JcF n i=true->∀ j,j<i+1->JcF n j=true:=Jav hno;have fin:∀ h (b:Bool),Jec h (.lit (.bool b)) (.lit (.bool b)):=fun h b=>Jaw (.lit _);have oks:=ok.edges _ (Ju hlt);obtain⟨s,hs⟩:∃ s,n.states.getD i default=s:=⟨_,rfl⟩;rw[hs] at oks;unfold JcF at no yes;rw[hs] at no yes;simp (disch:=omega) only[Wz,seval,hs,Jd];refine Jx (n:=201) rfl (by decide) mixed ?_;by_cases h1:0<=s.rule/\s.rule<(n.rules.length:Int);rotate_left
  ·rw[no (by rw[decide_eq_false h1,Bool.false_and])];by_cases h1':s.rule<0;all_goals
    simp (disch:=omega) only[Wz,seval,Jh,Jd,hs];exact fin _ _
  rw[decide_eq_true h1,Bool.true_and] at no yes;simp (disch:=omega) only[Wz,seval,Jh,Jd,hs];refine Jx (n:=201) rfl (by decide) mixed ?_;simp (disch:=omega) only[Wz,seval,Jh,Jd,hs];obtain⟨r,hr⟩:∃ r,n.rules.getD s.rule.toNat default=r:=⟨_,rfl⟩;rw[hr] at no yes;by_cases h2:s.edges.length=0
  ·by_cases h3:(i:Int)=r.stop
   ·simp (disch:=omega) only[Wz,seval,Jh,Jd,Jc,hs,hr];refine Jb7 s.edges.length 3 (fun k (_:Unit)=>⟨[(57,.lit (.int .i64 (k:Int))),(56,.lit (.int .i64 (s.edges.length:Int))),(55,.vec (s.edges.map Jo) false),(7,.om 2),(6,.pp (Jc r) 0),(4,.lit (.int .i64 (i:Int))),(5,.ptr 1 0),(16,.lit (.int .i64 (i:Int))),(15,.lit (.int .i64 (n.states.length:Int))),(14,.vec (n.states.map Jd) false),(0,.pp (Jh n) 0),(3,.ptr 0 0)],⟨[(0,kF),(1,[.lit (.int .i64 s.rule),.vec (s.edges.map Jo) false])],[(2,⟨Jeo Jiq (Jef s k),0,0⟩)],3⟩,201⟩) (fun k _=>∀ j,j<k->Jeg n i s j=true) (fun _ _=>rfl) () (St.wk_slots (by simp[lk,Jh,Jc,Jef,Jeo])) (by simp) (fun k _ klt kno=>?_) (fun _ kno=>?_)
    ·exact absurd klt (by omega)
    ·have hk:(!(decide (s.edges.length=0) && decide ((i:Int)≠r.stop)) && (List.range s.edges.length).all (Jeg n i s))=true:=by rw[Jaz kno,decide_eq_false (by omega:¬ (i:Int)≠r.stop)];simp
     simp (disch:=omega) only[Wz,seval,Jh,Jd,Jc,hs,hr];exact⟨(),yes hk,Jbj (Nat.le_refl _) (by show 1<=3;decide) rfl (Jb ⟨rfl,.pure (.lit _)⟩ (Jb ⟨rfl,.pure (.lit _)⟩ (Jb ⟨rfl,.pure (.vec (Ji Jc2 _))⟩ (Jb ⟨rfl,.pure (Jbk n)⟩ (Jb ⟨rfl,.ptr (by show 0<1;decide) rfl⟩ Jl))))) (Jb ⟨by show 0<1;decide,rfl,RnL.pure Jo0⟩ Jl) Jl⟩
   ·rw[no (by rw[decide_eq_true h2,decide_eq_true h3];rfl)];simp (disch:=omega) only[Wz,seval,Jh,Jd,Jc,hs,hr];exact fin _ _
  ·rw[decide_eq_false h2,Bool.false_and,Bool.not_false,Bool.true_and] at no yes;simp (disch:=omega) only[Wz,seval,Jh,Jd,Jc,hs,hr];refine Jb7 s.edges.length 3 (fun k (_:Unit)=>⟨[(57,.lit (.int .i64 (k:Int))),(56,.lit (.int .i64 (s.edges.length:Int))),(55,.vec (s.edges.map Jo) false),(7,.om 2),(6,.pp (Jc r) 0),(4,.lit (.int .i64 (i:Int))),(5,.ptr 1 0),(16,.lit (.int .i64 (i:Int))),(15,.lit (.int .i64 (n.states.length:Int))),(14,.vec (n.states.map Jd) false),(0,.pp (Jh n) 0),(3,.ptr 0 0)],⟨[(0,kF),(1,[.lit (.int .i64 s.rule),.vec (s.edges.map Jo) false])],[(2,⟨Jeo Jiq (Jef s k),0,0⟩)],3⟩,201⟩) (fun k _=>∀ j,j<k->Jeg n i s j=true) (fun _ _=>rfl) () (St.wk_slots (by simp[lk,Jh,Jc,Jef,Jeo])) (by simp) (fun k _ klt kno=>?_) (fun _ kno=>?_)
   ·have no2:Jeg n i s k=false->JbK n=false:=fun h=>no (Jbn klt h)
    have yes2:Jeg n i s k=true->∀ j,j<k+1->Jeg n i s j=true:=Jav kno;have oke:=oks.2 _ (Ju klt);obtain⟨e,he⟩:∃ e,s.edges.getD k default=e:=⟨_,rfl⟩;rw[he] at oke;obtain⟨Q,hQ⟩:∃ Q:Prop,Q=∀ j,j<k+1->Jeg n i s j=true:=⟨_,rfl⟩;rw[<- hQ] at yes2;unfold Jeg at no2 yes2;rw[he,hr] at no2 yes2;have s1:=Jta n e.to s.rule (by omega);have pa:∀ a∈[AV.pp (Jh n) 0,.lit (.int .i64 e.to),.lit (.int .i64 s.rule)],Ab.Pure a:=Jb (Jbk n) (Jb (.lit _) (Jb (.lit _) Jl));simp (disch:=omega) only[Wz,seval,Jd,hs,hr,he];refine Jx (n:=201) rfl (by decide) mixed ?_;simp (disch:=omega) only[Wz,seval,Jd,hs,hr,he,Jo];refine Jac JeN s1 pa (.lit _) ?_;cases k1:ofN n e.to s.rule
    ·rw[no2 (by rw[k1,Bool.false_and])];simp (disch:=omega) only[Wz,seval,Jd,hs,hr,he,Jo];exact fin _ _
    rw[k1,Bool.true_and] at no2 yes2;have hp:=Jie Jzx e.n (Jef s k);rw[show Jmt (Jef s k) e.n=Jef s (k+1) by rw[Jhz s klt,he]] at hp;simp only[Jiq] at hp;simp (disch:=omega) only[Wz,seval,Jd,Jc,hs,hr,he,Jo];refine JV Jyo (Jk1 e.set (by have:=oke.set;omega) oke.rng) (Jb (.of_pure (.vec (Ji Jcl _))) Jl) (.lit _) ?_;have o1:=e.op.lo;have o2:=e.op.hi;cases k2:JmQ e.set
    ·rw[no2 (by rw[k2,Bool.false_and])];simp (disch:=omega) only[Wz,seval,Jd,Jc,hs,hr,he,Jo,Bool.false_eq_true,if_false];exact fin _ _
    rw[k2,Bool.true_and] at no2 yes2;simp (disch:=omega) only[Wz,seval,Jd,Jc,hs,hr,he,Jo,if_true];by_cases k3:0<=e.op.1/\e.op.1<8;rotate_left
    ·rw[no2 (by rw[decide_eq_false k3,Bool.false_and])];by_cases k3':e.op.1<0;all_goals
      simp (disch:=omega) only[Wz,seval,Jd,Jc,hs,hr,he,Jo,Bool.false_eq_true,if_false];exact fin _ _
    rw[decide_eq_true k3,Bool.true_and] at no2 yes2;simp (disch:=omega) only[Wz,seval,Jd,Jc,hs,hr,he,Jo,if_true];have q4:((e.op.1==1)==decide ((e.set.length:Int) > 0))=(decide (e.op.1=1)==decide (0<e.set.length)):=by
     rw[show decide ((e.set.length:Int) > 0)=decide (0<e.set.length) from decide_eq_decide.2 (by omega)];rfl
    have q5:((e.op.1==7)==decide ((e.acts.length:Int) > 0))=(decide (e.op.1=7)==decide (0<e.acts.length)):=by
     rw[show decide ((e.acts.length:Int) > 0)=decide (0<e.acts.length) from decide_eq_decide.2 (by omega)];rfl
    have q6:((e.op.1==4)==((i:Int)==r.start))=(decide (e.op.1=4)==decide ((i:Int)=r.start)):=rfl;refine Jx (n:=201) rfl (by decide) mixed ?_;simp (disch:=omega) only[Wz,seval,Jd,Jc,hs,hr,he,Jo,if_true,q4];cases k4:(decide (e.op.1=1)==decide (0<e.set.length))
    ·rw[no2 (by rw[k4,Bool.false_and])];simp (disch:=omega) only[Wz,seval,Jd,Jc,hs,hr,he,Jo,Bool.false_eq_true,if_false,k4];exact fin _ _
    rw[k4,Bool.true_and] at no2 yes2;simp (disch:=omega) only[Wz,seval,Jd,Jc,hs,hr,he,Jo,if_true,k4];refine Jx (n:=201) rfl (by decide) mixed ?_;simp (disch:=omega) only[Wz,seval,Jd,Jc,hs,hr,he,Jo,if_true,q5];cases k5:(decide (e.op.1=7)==decide (0<e.acts.length))
    ·rw[no2 (by rw[k5,Bool.false_and])];simp (disch:=omega) only[Wz,seval,Jd,Jc,hs,hr,he,Jo,Bool.false_eq_true,if_false,k5];exact fin _ _
    rw[k5,Bool.true_and] at no2 yes2;simp (disch:=omega) only[Wz,seval,Jd,Jc,hs,hr,he,Jo,if_true,k5];refine Jx (n:=201) rfl (by decide) mixed ?_;simp (disch:=omega) only[Wz,seval,Jd,Jc,hs,hr,he,Jo,if_true,q6];cases k6:(decide (e.op.1=4)==decide ((i:Int)=r.start))
    ·rw[no2 (by rw[k6,Bool.false_and])];simp (disch:=omega) only[Wz,seval,Jd,Jc,hs,hr,he,Jo,Bool.false_eq_true,if_false,k6];exact fin _ _
    rw[k6,Bool.true_and] at no2 yes2;simp (disch:=omega) only[Wz,seval,Jd,Jc,hs,hr,he,Jo,if_true,k6];by_cases g3:e.op.1=3
    ·rw[decide_eq_true g3,Bool.true_or,Bool.true_and] at no2 yes2;simp (disch:=omega) only[Wz,seval,Jd,Jc,hs,hr,he,Jo,JB,Bf];refine Jx (n:=201) rfl (by decide) mixed ?_;simp (disch:=omega) only[Wz,seval,Jd,Jc,hs,hr,he,Jo,JB,Bf,g3,kF,Int.reduceToNat,Nat.reduceMul,List.getElem?_cons_succ,List.getElem?_cons_zero];have q:=JqG n r s.rule e (by have:=oke.g;omega) oke.gd;have gq:=gpK n r s.rule e;simp only[Jc8,Jo,Jc,g3] at q gq;refine Jif Jyw q (Jb gq Jl) (.lit _) ?_;have kv:JM n r s.rule e=kd3 r e:=by unfold JM;rw[g3];rfl
     rw[kv] at no2 yes2;cases kk:kd3 r e
     ·rw[no2 (by rw[kk,Bool.false_and])];simp (disch:=omega) only[Wz,seval,Jd,Jc,hs,hr,he,Jo,JB,Bf];exact fin _ _
     rw[kk,Bool.true_and] at no2 yes2;have op4:decide (e.op.1=4)=false:=decide_eq_false (by omega);rw[op4,Bool.false_and] at yes2;simp (disch:=omega) only[Wz,seval,Jd,Jc,hs,hr,he,Jo,JB,Bf,g3,hp,Jiq];exact⟨(),hQ.mp (yes2 rfl),St.wk.cp (St.wk_slots (by simp[lk,kF,Jh,Jc]))⟩
    rw[decide_eq_false g3,Bool.false_or] at no2 yes2;by_cases a1:e.g.op.1=0;rotate_left
    ·rw[no2 (by unfold noG;rw[decide_eq_false a1];rfl)];simp (disch:=omega) only[Wz,seval,Jd,Jc,hs,hr,he,Jo,JB,Bf];exact fin _ _
    by_cases a2:e.g.n=0;rotate_left
    ·rw[no2 (by unfold noG;rw[decide_eq_true a1,decide_eq_false a2];rfl)];simp (disch:=omega) only[Wz,seval,Jd,Jc,hs,hr,he,Jo,JB,Bf];exact fin _ _
    cases a3:decide (e.g.name=⟨#[]⟩)
    ·rw[no2 (by unfold noG;rw[decide_eq_true a1,decide_eq_true a2,a3];rfl)];simp (disch:=omega) only[Wz,seval,Jd,Jc,hs,hr,he,Jo,JB,Bf,a3];exact fin _ _
    by_cases a4:e.g.kids.length=0;rotate_left
    ·rw[no2 (by unfold noG;rw[decide_eq_true a1,decide_eq_true a2,a3,decide_eq_false a4];rfl)];simp (disch:=omega) only[Wz,seval,Jd,Jc,hs,hr,he,Jo,JB,Bf,a3];exact fin _ _
    rw[show noG e.g=true by unfold noG;rw[decide_eq_true a1,decide_eq_true a2,a3,decide_eq_true a4];rfl,Bool.true_and] at no2 yes2;simp (disch:=omega) only[Wz,seval,Jd,Jc,hs,hr,he,Jo,JB,Bf,a3];refine Jx (n:=201) rfl (by decide) mixed ?_;rcases(by omega:e.op.1=0\/e.op.1=1\/e.op.1=2\/e.op.1=4\/e.op.1=5\/e.op.1=6\/e.op.1=7) with g | g | g | g | g | g | g
    ·have q:=JqC n r s.rule e;have gq:=Ab.Pure.agg (JbV n r s.rule e);have kv:JM n r s.rule e=kd0 e:=by unfold JM;rw[g];rfl
     rw[kv] at no2 yes2;simp only[Jc8,Jo,Jc,g] at q gq;simp (disch:=omega) only[Wz,seval,Jd,Jc,hs,hr,he,Jo,JB,Bf,g,kF,Int.reduceToNat,Nat.reduceMul,Nat.zero_mul,List.getElem?_cons_succ,List.getElem?_cons_zero];refine Jac Jyt q (Jb gq Jl) (.lit _) ?_;cases kk:kd0 e
     ·rw[no2 (by rw[kk,Bool.false_and])];simp (disch:=omega) only[Wz,seval,Jd,Jc,hs,hr,he,Jo,JB,Bf];exact fin _ _
     rw[kk,Bool.true_and] at no2 yes2;have op4:decide (e.op.1=4)=false:=decide_eq_false (by omega);rw[op4,Bool.false_and] at yes2;simp (disch:=omega) only[Wz,seval,Jd,Jc,hs,hr,he,Jo,JB,Bf,g,hp,Jiq];exact⟨(),hQ.mp (yes2 rfl),St.wk.cp (St.wk_slots (by simp[lk,kF,Jh,Jc]))⟩
    ·have q:=JqK n r s.rule e (by omega) (by rw[decide_eq_true g] at k4;simpa using k4) (by have:=oke.set;omega);have gq:=Ab.Pure.agg (JbV n r s.rule e);have kv:JM n r s.rule e=kd1 n r e:=by unfold JM;rw[g];rfl
     rw[kv] at no2 yes2;simp only[Jc8,Jo,Jc,g] at q gq;simp (disch:=omega) only[Wz,seval,Jd,Jc,hs,hr,he,Jo,JB,Bf,g,kF,Int.reduceToNat,Nat.reduceMul,Nat.zero_mul,List.getElem?_cons_succ,List.getElem?_cons_zero];refine Jac Jyu q (Jb gq Jl) (.lit _) ?_;cases kk:kd1 n r e
     ·rw[no2 (by rw[kk,Bool.false_and])];simp (disch:=omega) only[Wz,seval,Jd,Jc,hs,hr,he,Jo,JB,Bf];exact fin _ _
     rw[kk,Bool.true_and] at no2 yes2;have op4:decide (e.op.1=4)=false:=decide_eq_false (by omega);rw[op4,Bool.false_and] at yes2;simp (disch:=omega) only[Wz,seval,Jd,Jc,hs,hr,he,Jo,JB,Bf,g,hp,Jiq];exact⟨(),hQ.mp (yes2 rfl),St.wk.cp (St.wk_slots (by simp[lk,kF,Jh,Jc]))⟩
    ·have q:=JqI n r s.rule e (by omega);have gq:=Ab.Pure.agg (JbV n r s.rule e);have kv:JM n r s.rule e=kd2 n r s.rule e:=by unfold JM;rw[g];rfl
     rw[kv] at no2 yes2;simp only[Jc8,Jo,Jc,g] at q gq;simp (disch:=omega) only[Wz,seval,Jd,Jc,hs,hr,he,Jo,JB,Bf,g,kF,Int.reduceToNat,Nat.reduceMul,Nat.zero_mul,List.getElem?_cons_succ,List.getElem?_cons_zero];refine Jac Jyv q (Jb gq Jl) (.lit _) ?_;cases kk:kd2 n r s.rule e
     ·rw[no2 (by rw[kk,Bool.false_and])];simp (disch:=omega) only[Wz,seval,Jd,Jc,hs,hr,he,Jo,JB,Bf];exact fin _ _
     rw[kk,Bool.true_and] at no2 yes2;have op4:decide (e.op.1=4)=false:=decide_eq_false (by omega);rw[op4,Bool.false_and] at yes2;simp (disch:=omega) only[Wz,seval,Jd,Jc,hs,hr,he,Jo,JB,Bf,g,hp,Jiq];exact⟨(),hQ.mp (yes2 rfl),St.wk.cp (St.wk_slots (by simp[lk,kF,Jh,Jc]))⟩
    ·have q:=JqD n r s.rule e;have gq:=Ab.Pure.agg (JbV n r s.rule e);have kv:JM n r s.rule e=kd4 e:=by unfold JM;rw[g];rfl
     rw[kv] at no2 yes2;simp only[Jc8,Jo,Jc,g] at q gq;simp (disch:=omega) only[Wz,seval,Jd,Jc,hs,hr,he,Jo,JB,Bf,g,kF,Int.reduceToNat,Nat.reduceMul,Nat.zero_mul,List.getElem?_cons_succ,List.getElem?_cons_zero];refine Jac Jyx q (Jb gq Jl) (.lit _) ?_;cases kk:kd4 e
     ·rw[no2 (by rw[kk,Bool.false_and])];simp (disch:=omega) only[Wz,seval,Jd,Jc,hs,hr,he,Jo,JB,Bf];exact fin _ _
     rw[kk,Bool.true_and] at no2 yes2;rw[decide_eq_true g,Bool.true_and] at no2 yes2;have hmm:=Jid (et:=4) Jzx e.n (Jef s k) zr4;simp only[Jiq] at hmm;by_cases h9:e.n∈Jef s k
     ·rw[decide_eq_true h9] at no2 hmm;rw[no2 rfl];simp (disch:=omega) only[Wz,seval,Jd,Jc,hs,hr,he,Jo,JB,Bf,g,hmm,Jiq];exact fin _ _
     rw[decide_eq_false h9] at yes2 hmm;simp (disch:=omega) only[Wz,seval,Jd,Jc,hs,hr,he,Jo,JB,Bf,g,hp,hmm,Jiq];exact⟨(),hQ.mp (yes2 rfl),St.wk.cp (St.wk_slots (by simp[lk,kF,Jh,Jc]))⟩
    ·have q:=JqE n r s.rule e;have gq:=Ab.Pure.agg (JbV n r s.rule e);have kv:JM n r s.rule e=kd5 r e:=by unfold JM;rw[g];rfl
     rw[kv] at no2 yes2;simp only[Jc8,Jo,Jc,g] at q gq;simp (disch:=omega) only[Wz,seval,Jd,Jc,hs,hr,he,Jo,JB,Bf,g,kF,Int.reduceToNat,Nat.reduceMul,Nat.zero_mul,List.getElem?_cons_succ,List.getElem?_cons_zero];refine Jac Jyy q (Jb gq Jl) (.lit _) ?_;cases kk:kd5 r e
     ·rw[no2 (by rw[kk,Bool.false_and])];simp (disch:=omega) only[Wz,seval,Jd,Jc,hs,hr,he,Jo,JB,Bf];exact fin _ _
     rw[kk,Bool.true_and] at no2 yes2;have op4:decide (e.op.1=4)=false:=decide_eq_false (by omega);rw[op4,Bool.false_and] at yes2;simp (disch:=omega) only[Wz,seval,Jd,Jc,hs,hr,he,Jo,JB,Bf,g,hp,Jiq];exact⟨(),hQ.mp (yes2 rfl),St.wk.cp (St.wk_slots (by simp[lk,kF,Jh,Jc]))⟩
    ·have q:=JqF n r s.rule e;have gq:=Ab.Pure.agg (JbV n r s.rule e);have kv:JM n r s.rule e=kd6 r e:=by unfold JM;rw[g];rfl
     rw[kv] at no2 yes2;simp only[Jc8,Jo,Jc,g] at q gq;simp (disch:=omega) only[Wz,seval,Jd,Jc,hs,hr,he,Jo,JB,Bf,g,kF,Int.reduceToNat,Nat.reduceMul,Nat.zero_mul,List.getElem?_cons_succ,List.getElem?_cons_zero];refine Jac JsF q (Jb gq Jl) (.lit _) ?_;cases kk:kd6 r e
     ·rw[no2 (by rw[kk,Bool.false_and])];simp (disch:=omega) only[Wz,seval,Jd,Jc,hs,hr,he,Jo,JB,Bf];exact fin _ _
     rw[kk,Bool.true_and] at no2 yes2;have op4:decide (e.op.1=4)=false:=decide_eq_false (by omega);rw[op4,Bool.false_and] at yes2;simp (disch:=omega) only[Wz,seval,Jd,Jc,hs,hr,he,Jo,JB,Bf,g,hp,Jiq];exact⟨(),hQ.mp (yes2 rfl),St.wk.cp (St.wk_slots (by simp[lk,kF,Jh,Jc]))⟩
    ·have q:=JqH n r s.rule e (by have:=oke.acts;omega);have gq:=gpK n r s.rule e;have kv:JM n r s.rule e=kd7 n r e:=by unfold JM;rw[g];rfl
     rw[kv] at no2 yes2;simp only[Jc8,Jo,Jc,g] at q gq;simp (disch:=omega) only[Wz,seval,Jd,Jc,hs,hr,he,Jo,JB,Bf,g,kF,Int.reduceToNat,Nat.reduceMul,Nat.zero_mul,List.getElem?_cons_succ,List.getElem?_cons_zero];refine Jif JsG q (Jb gq Jl) (.lit _) ?_;cases kk:kd7 n r e
     ·rw[no2 (by rw[kk,Bool.false_and])];simp (disch:=omega) only[Wz,seval,Jd,Jc,hs,hr,he,Jo,JB,Bf];exact fin _ _
     rw[kk,Bool.true_and] at no2 yes2;have op4:decide (e.op.1=4)=false:=decide_eq_false (by omega);rw[op4,Bool.false_and] at yes2;simp (disch:=omega) only[Wz,seval,Jd,Jc,hs,hr,he,Jo,JB,Bf,g,hp,Jiq];exact⟨(),hQ.mp (yes2 rfl),St.wk.cp (St.wk_slots (by simp[lk,kF,Jh,Jc]))⟩
   ·have hk:=Jaz kno;simp (disch:=omega) only[Wz,seval,Jh,Jd,hs,hr];exact⟨(),yes hk,Jbj (Nat.le_refl _) (by show 1<=3;decide) rfl (Jb ⟨rfl,.pure (.lit _)⟩ (Jb ⟨rfl,.pure (.lit _)⟩ (Jb ⟨rfl,.pure (.vec (Ji Jc2 _))⟩ (Jb ⟨rfl,.pure (Jbk n)⟩ (Jb ⟨rfl,.ptr (by show 0<1;decide) rfl⟩ Jl))))) (Jb ⟨by show 0<1;decide,rfl,RnL.pure Jo0⟩ Jl) Jl⟩
 ·have e:JbK n=true:=Jaz hno;rw[e];simp (disch:=omega) only[Wz,seval];exact Jaw (.lit _)
structure GOk (G:List (List Nat)):Prop where
 len:G.length<=100000
 row:∀ l∈G,l.length<=10000000000000
 to:∀ l∈G,∀ j∈l,j<G.length
inductive Rch (G:List (List Nat)) (i:Nat):Nat->Prop
 | one {j:Nat}:j∈G.getD i []->Rch G i j
 | step {k j:Nat}:Rch G i k->j∈G.getD k []->Rch G i j
noncomputable def JlU(G:List (List Nat))(i j:Nat):Bool:=@decide (Rch G i j) (Classical.propDecidable _)
noncomputable def JfN(G:List (List Nat))(i:Nat):List Bool:=(List.range G.length).map (JlU G i)
theorem GOk.get{G:List (List Nat)}(h:GOk G){k:Nat}:(G.getD k []).length<=10000000000000/\∀ j∈G.getD k [],j<G.length:=by
 rw[List.getD_eq_getElem?_getD];cases e:G[k]? with
 | none=>simp
 | some l=>exact⟨h.row l (List.mem_of_getElem? e),h.to l (List.mem_of_getElem? e)⟩
theorem Rch.lt{G:List (List Nat)}(h:GOk G){i j:Nat}(r:Rch G i j):j<G.length:=by
 cases r with
 | one e=>exact h.get.2 _ e
 | step _ e=>exact h.get.2 _ e
def Jbb(s:List Bool × List Nat)(j:Nat):List Bool × List Nat:=if s.1.getD j false=true then s else (s.1.set j true,s.2++[j])
theorem Jbl{l:List Bool}{i j:Nat}{b:Bool}(hi:i<l.length):(l.set i b).getD j false=if i=j then b else l.getD j false:=by
 simp only[List.getD_eq_getElem?_getD,List.getElem?_set];by_cases h:i=j
 ·subst h;simp[hi]
 ·simp[h]
theorem Jcc{l:List Bool}{i:Nat}(hi:i<l.length)(h:l.getD i false=false):(l.set i true).count false+1=l.count false:=by
 have h':l[i]=false:=by rw[List.getD_eq_getElem?_getD,List.getElem?_eq_getElem hi] at h;simpa using h
 rw[List.count_set hi,h'];have:0<l.count false:=List.count_pos_iff.2 (by rw[<- h'];exact List.getElem_mem hi);simp;omega
structure Mk1 (s t:List Bool × List Nat) (p:List Nat):Prop where
 len:t.1.length=s.1.length
 mkd:∀ j,t.1.getD j false=true↔s.1.getD j false=true\/j∈p
 keep:∀ j,j∈s.2->j∈t.2
 new:∀ j,t.1.getD j false=true->s.1.getD j false=true\/j∈t.2
 bk:∀ j,j∈t.2->j∈s.2\/t.1.getD j false=true
 cnt:t.1.count false+t.2.length=s.1.count false+s.2.length
 le:t.1.count false<=s.1.count false
theorem Mk1.refl(s:List Bool × List Nat):Mk1 s s []:=⟨rfl,by simp,fun _ h=>h,fun _ h=>.inl h,fun _ h=>.inl h,rfl,Nat.le_refl _⟩
theorem Mk1.push{s t:List Bool × List Nat}{p:List Nat}(h:Mk1 s t p){j:Nat}(hj:j<s.1.length):Mk1 s (Jbb t j) (p++[j]):=by
 unfold Jbb;by_cases c:t.1.getD j false=true
 ·rw[if_pos c];refine⟨h.len,fun k=>?_,h.keep,h.new,h.bk,h.cnt,h.le⟩;rw[h.mkd k];simp only[List.mem_append,List.mem_singleton];constructor
  ·rintro(q | q)
   ·exact .inl q
   ·exact .inr (.inl q)
  ·rintro(q | q | q)
   ·exact .inl q
   ·exact .inr q
   ·subst q;exact(h.mkd _).1 c
 ·rw[if_neg c];have c':t.1.getD j false=false:=by simpa using c
  have hjt:j<t.1.length:=by rw[h.len];exact hj
  have hc:=Jcc hjt c';have hg:∀ k,(t.1.set j true).getD k false=if j=k then true else t.1.getD k false:=fun k=>Jbl hjt
  refine⟨by simpa using h.len,fun k=>?_,fun k hk=>by simp[h.keep k hk],fun k hk=>?_,fun k hk=>?_,?_,?_⟩
  ·show (t.1.set j true).getD k false=true↔_;rw[hg k];simp only[List.mem_append,List.mem_singleton];by_cases q:j=k
   ·subst q;simp
   ·rw[if_neg q,h.mkd k];constructor
    ·rintro(a | a)
     ·exact .inl a
     ·exact .inr (.inl a)
    ·rintro(a | a | a)
     ·exact .inl a
     ·exact .inr a
     ·exact absurd a.symm q
  ·have hk:(t.1.set j true).getD k false=true:=hk;rw[hg k] at hk;by_cases q:j=k
   ·subst q;exact .inr (by simp)
   ·rw[if_neg q] at hk;rcases h.new k hk with a | a
    ·exact .inl a
    ·exact .inr (by simp[a])
  ·simp only[List.mem_append,List.mem_singleton] at hk;show k∈s.2\/(t.1.set j true).getD k false=true;rw[hg k];rcases hk with hk | hk
   ·rcases h.bk k hk with a | a
    ·exact .inl a
    ·refine .inr ?_;split
     ·rfl
     ·exact a
   ·subst hk;exact .inr (by simp)
  ·have:=h.cnt;simp only[List.length_append,List.length_singleton];omega
  ·have:=h.le;show (t.1.set j true).count false<=_;omega
def JdE (s:List Bool × List Nat)(p:List Nat):List Bool × List Nat:=p.foldl Jbb s
theorem JfT{α:Type}{p:List α->Prop}(h0:p [])(hs:∀ l a,p l->p (l++[a]))(l:List α):p l:=by
 rw[<- l.reverse_reverse];induction l.reverse with
 | nil=>exact h0
 | cons a l ih=>rw[List.reverse_cons];exact hs _ _ ih
theorem Mk1.fold{s:List Bool × List Nat}(p:List Nat):(∀ j∈p,j<s.1.length)->Mk1 s (JdE s p) p:=by
 induction p using JfT with
 | h0=>intro _;exact Mk1.refl s
 | hs p j ih =>
  intro h;have:=(ih (fun k hk=>h k (by simp[hk]))).push (h j (by simp));unfold JdE at this ⊢;rw[List.foldl_append];exact this
theorem Jo1{s:List Bool × List Nat}{p:List Nat}{i:Nat}(h:i<p.length):JdE s (p.take (i+1))=Jbb (JdE s (p.take i)) (p.getD i 0):=by
 unfold JdE;rw[List.take_add_one,List.getElem?_eq_getElem h,List.foldl_append];simp[List.getD_eq_getElem?_getD,List.getElem?_eq_getElem h]
structure FrI (G:List (List Nat)) (i:Nat) (s:List Bool × List Nat):Prop where
 len:s.1.length=G.length
 snd:∀ j,s.1.getD j false=true->Rch G i j
 todo:∀ k∈s.2,k<G.length/\(k=i\/s.1.getD k false=true)
 done:∀ k,(k=i\/s.1.getD k false=true)->k∉s.2->∀ j∈G.getD k [],s.1.getD j false=true
 cnt:s.2.length+s.1.count false<=G.length+1
theorem FrI.init{G:List (List Nat)}{i:Nat}(hi:i<G.length):FrI G i (List.replicate G.length false,[i]):=by
 have h:∀ j,(List.replicate G.length false).getD j false=false:=fun j=>by
  rw[List.getD_eq_getElem?_getD,List.getElem?_replicate];split <;> rfl
 refine⟨by simp,fun j hj=>?_,fun k hk=>?_,fun k hk hk'=>?_,?_⟩
 ·simp only[h j] at hj;cases hj
 ·simp only[List.mem_singleton] at hk;exact⟨by omega,.inl hk⟩
 ·rcases hk with q | q
  ·exact absurd (by simp[q]) hk'
  ·simp only[h k] at q;cases q
 ·simp;omega
theorem FrI.next{G:List (List Nat)}{i:Nat}(hG:GOk G){m:List Bool}{t:List Nat}{k:Nat}(h:FrI G i (m,t++[k])):FrI G i (JdE (m,t) (G.getD k [])):=by
 have hk:=h.todo k (by simp);have hlt:∀ j∈G.getD k [],j<(m,t).1.length:=fun j hj=>by rw[h.len];exact hG.get.2 j hj
 have q:=Mk1.fold (s:=(m,t)) (G.getD k []) hlt;have hc:=h.cnt;have hn:=h.len;simp only[List.length_append,List.length_singleton] at hc hn;have r1:=q.cnt;simp only at r1;refine⟨q.len.trans h.len,fun j hj=>?_,fun j hj=>?_,fun j hj hj' l hl=>?_,by omega⟩
 ·rcases(q.mkd j).1 hj with a | a
  ·exact h.snd j a
  ·rcases hk.2 with b | b
   ·rw[b] at a;exact .one a
   ·exact .step (h.snd k b) a
 ·rcases q.bk j hj with a | a
  ·have:=h.todo j (by simp only[List.mem_append];exact .inl a);exact⟨this.1,this.2.imp id fun b=>(q.mkd j).2 (.inl b)⟩
  ·refine⟨?_,.inr a⟩;rcases(q.mkd j).1 a with b | b
   ·exact(h.snd j b).lt hG
   ·exact hG.get.2 j b
 ·by_cases e:j=k
  ·subst e;exact(q.mkd l).2 (.inr hl)
  ·have old:j=i\/m.getD j false=true:=by
    rcases hj with a | a
    ·exact .inl a
    ·rcases q.new j a with b | b
     ·exact .inr b
     ·exact absurd b hj'
   have:j∉t++[k]:=fun a=>by
    rcases List.mem_append.1 a with a | a
    ·exact hj' (q.keep j a)
    ·exact e (by simpa using a)
   exact(q.mkd l).2 (.inl (h.done j old this l hl))
theorem FrI.last{G:List (List Nat)}{i:Nat}(hG:GOk G){m:List Bool}(h:FrI G i (m,[])):m=JfN G i:=by
 have full:∀ j,Rch G i j->m.getD j false=true:=fun j r=>by
  induction r with
  | one e=>exact h.done i (.inl rfl) (by simp) _ e
  | step _ e ih=>exact h.done _ (.inr ih) (by simp) _ e
 have hl:=h.len;apply List.ext_getElem?;intro j;unfold JfN;rw[List.getElem?_map];rcases Nat.lt_or_ge j G.length with hj | hj
 ·rw[List.getElem?_range hj,List.getElem?_eq_getElem (by rw[hl];exact hj)];have hd:m.getD j false=m[j]'(by rw[hl];exact hj):=by
   rw[List.getD_eq_getElem?_getD,List.getElem?_eq_getElem (by rw[hl];exact hj)];rfl
  simp only[Option.map_some,Option.some.injEq,JlU];rw[<- hd];by_cases c:Rch G i j
  ·rw[full j c];exact(@decide_eq_true _ (Classical.propDecidable _) c).symm
  ·have:m.getD j false=false:=by
    cases e:m.getD j false with
    | false=>rfl
    | true=>exact absurd (h.snd j e) c
   rw[this];exact(@decide_eq_false _ (Classical.propDecidable _) c).symm
 ·rw[List.getElem?_eq_none (by rw[hl];exact hj),List.getElem?_eq_none (by simpa using hj)];rfl
theorem JjT(G:List (List Nat))(i:Nat)(hG:GOk G)(hi:i<G.length):JR Tryz.prog 82 [vG G,.lit (.int .i64 (i:Int))] (.vec ((JfN G i).map Jr) false):=by
 refine JG (Jq Tryz.func82 rfl Tryz.ntmps82 (rs:=[.tmp 4]) rfl (by simp) ?_);unfold vG;have hlen:=hG.len;refine Jm ?_;refine Jj ?_;simp (disch:=omega) only[Wz,seval];refine Jm ?_;refine Jj ?_;simp (disch:=omega) only[Wz,seval];refine Jm ?_;refine Jc0 ?_;simp (disch:=omega) only[Wz,seval,JlE];refine JcZ (ps:=[(0,.lit (.int .i64 (i:Int)))]) (z:=[.lit (.int .i64 0)]) (rows:=[Jak i]) JrK rfl ty3 rfl ⟨rfl,by decide⟩ (by decide) rfl rfl ?_;simp (disch:=omega) only[Wz,seval,JlE];refine Jj ?_;simp (disch:=omega) only[Wz,seval];refine Jbv (fun(x:(List Bool × List Nat) × Nat × Nat)=>⟨[(6,.own x.2.1 x.1.2.length),(5,.own 0 G.length),(0,.vec (G.map Jep) false)],⟨[],[(0,⟨x.1.1.map Jr,0,1⟩),(x.2.1,⟨x.1.2.map Jak,0,1⟩)],x.2.2⟩,52⟩) (fun x=>FrI G i x.1/\0<x.2.1/\x.2.1<x.2.2) (fun x=>2 * x.1.1.count false+x.1.2.length) ((List.replicate G.length false,[i]),1,2) (St.le.wk ⟨Jb rfl (Jb (by simp[lk]) (Jb rfl Jl)),Jl,Jb (by simp[lk,Jr]) (Jb rfl Jl),rfl,rfl⟩) ⟨FrI.init hi,Nat.one_pos,Nat.lt_succ_self 1⟩ ?_;rintro⟨⟨m,todo⟩,t,nx⟩ ⟨hI,ht0,htn⟩;simp only at ht0 htn hI ⊢;rcases List.eq_nil_or_concat todo with rfl | ⟨T,k,rfl⟩
 ·have e:=hI.last hG;rw[<- e];simp (disch:=omega) only[Wz,seval];have hl:=hI.len;refine Jbf (k:=⟨m.map Jr,0,1⟩) rfl (by simpa using hl.symm) (Ji Jad _)
 ·simp only[List.concat_eq_append] at hI ⊢;have h0t:(0=t)=False:=by simp;omega
  have ht0':(t=0)=False:=by simp;omega
  have hk:=(hI.todo k (by simp)).1;have hln:=hI.len;have hc:=hI.cnt;simp only[List.length_append,List.length_singleton] at hln hc;have g1:((T.map Jak)++[[AV.lit (.int .i64 (k:Int))]])[T.length]? = some [AV.lit (.int .i64 (k:Int))]:=by rw[List.getElem?_append_right (by simp)];simp
  have i1:(((T.length+1:Nat):Int) - 1).toNat=T.length:=by omega
  simp (disch:=omega) only[Wz,seval,h0t,ht0',List.map_append,List.length_append,List.length_singleton,g1,i1,Jak];refine JcX (k:=⟨T.map Jak++[[AV.lit (.int .i64 (k:Int))]],0,1⟩) rfl rfl JrK rfl ty3 rfl (by simp[lk,h0t]) (by simp) (by omega) (by omega) (by simp) ?_;have tk1:(T.map Jak++[[AV.lit (.int .i64 (k:Int))]]).take T.length=T.map Jak:=by rw[List.take_append_of_le_length (by simp),List.take_of_length_le (by simp)]
  obtain⟨row,hrow⟩:∃ row,G.getD k []=row:=⟨_,rfl⟩;have hd:G.getD k default=row:=hrow;simp (disch:=omega) only[Wz,seval,Hp.cut,dl,h0t,i1,tk1,hd,Jep];have hrl:=hG.get (k:=k);rw[hrow] at hrl;have hmk:∀ j,Mk1 (m,T) (JdE (m,T) (row.take j)) (row.take j):=fun j=>Mk1.fold _ (fun a ha=>by rw[hln];exact hrl.2 a (List.mem_of_mem_take ha));have hnext:=hI.next hG;rw[hrow] at hnext;refine Jb7 row.length (nx+1) (fun j (_:Unit)=>⟨[(34,.lit (.int .i64 (j:Int))),(33,.lit (.int .i64 (row.length:Int))),(32,.vec (row.map Jak) false),(6,.own nx (JdE (m,T) (row.take j)).2.length),(5,.own 0 G.length),(0,.vec (G.map Jep) false)],
   ⟨[],[(0,⟨(JdE (m,T) (row.take j)).1.map Jr,0,1⟩),(nx,⟨(JdE (m,T) (row.take j)).2.map Jak,0,1⟩)],nx+1⟩,52⟩) (fun _ _=>True) (fun _ _=>rfl) () (St.wk_slots (by simp[lk,JdE])) trivial (fun j _ hj _=>?_) (fun _ _=>?_)
  ·have h0n:(0=nx)=False:=by simp;omega
   have hn0:(nx=0)=False:=by simp;omega
   have q:=hmk j;have hstep:=Jo1 (s:=(m,T)) hj;obtain⟨⟨ms,U⟩,hmu⟩:∃ x,JdE (m,T) (row.take j)=x:=⟨_,rfl⟩;rw[hmu] at q hstep;obtain⟨to,hto⟩:∃ to,row.getD j 0=to:=⟨_,rfl⟩;have htd:row.getD j default=to:=hto;have htl:to<G.length:=by rw[<- hto];exact hrl.2 _ (Ju hj)
   rw[hto] at hstep;have ql:=q.len;have qc:=q.cnt;simp only at ql qc;have hml:ms.length=G.length:=by omega
   cases hb:ms.getD to false
   ·have hbd:ms.getD to default=false:=hb;have e1:JdE (m,T) (row.take (j+1))=(ms.set to true,U++[to]):=by rw[hstep];unfold Jbb;simp only[hb];rfl
    have hfit:Ja7 (U.length+1) 8:=JN (by omega) (by omega);simp (disch:=omega) only[Wz,seval,hmu,h0n,hn0,htd,hbd,Jr,Jak,hfit,List.mem_singleton,forall_eq];rw[e1];simp only[List.map_set,List.map_append,List.map_cons,List.map_nil,List.length_append,List.length_cons,List.length_nil];exact⟨(),St.wk.cp (St.wk_slots (by simp[lk]))⟩
   ·have hbd:ms.getD to default=true:=hb;have e1:JdE (m,T) (row.take (j+1))=(ms,U):=by rw[hstep];unfold Jbb;simp only[hb];rfl
    simp (disch:=omega) only[Wz,seval,hmu,h0n,hn0,htd,hbd,Jr,Jak,e1];exact⟨(),St.wk.cp (St.wk_slots (by simp[lk]))⟩
  ·simp (disch:=omega) only[Wz,seval];rw[List.take_length];have q:=hmk row.length;rw[List.take_length] at q;have q1:=q.cnt;have q2:=q.le;simp only at q1 q2;exact⟨(JdE (m,T) row,nx,nx+1),⟨hnext,Nat.lt_trans ht0 htn,Nat.lt_succ_self nx⟩,by simp only;omega,St.wk_slots (by simp[lk])⟩
end Go.Proofs.Y
end
section
namespace Go.Proofs.Y
open Go Go.Ab
def JyG (G:List (List Nat))(rk:Nat->Nat):Prop:=∀ i j,j∈G.getD i []->rk j<rk i
def Jnx (G:List (List Nat)):Prop:=∃ rk,JyG G rk
noncomputable def JcM(G:List (List Nat)):Bool := !@decide (Jnx G) (Classical.propDecidable _)
theorem Jco{G:List (List Nat)}(h:Jnx G):JcM G=false:=by
 unfold JcM;rw[@decide_eq_true _ (Classical.propDecidable _) h];rfl
theorem Jd7{G:List (List Nat)}(h:¬ Jnx G):JcM G=true:=by
 unfold JcM;rw[@decide_eq_false _ (Classical.propDecidable _) h];rfl
theorem Jtb{G:List (List Nat)}(h:JcM G=false):Jnx G:=by
 by_cases c:Jnx G
 ·exact c
 ·rw[Jd7 c] at h;cases h
def JzS(G:List (List Nat))(a b:Nat):Prop:=∀ rk,JyG G rk->rk b<rk a
def JqM (G:List (List Nat))(l:List Nat):Prop:=∀ p k q,l=p++k :: q->∀ j∈G.getD k [],j∈p
theorem Jfc{α:Type}(l:List α):l=[]\/∃ q y,l=q++[y]:=by
 rcases List.eq_nil_or_concat l with h | ⟨q,y,h⟩
 ·exact .inl h
 ·exact .inr ⟨q,y,by rw[h];simp⟩
theorem Jc5{α:Type}{l p q:List α}{k x:α}(h:l++[k]=p++x :: q):(q=[]/\p=l/\x=k)\/∃ q',q=q'++[k]/\l=p++x :: q':=by
 rcases Jfc q with rfl | ⟨q',y,rfl⟩
 ·have:=List.append_inj' h rfl;exact .inl ⟨rfl,this.1.symm,by simpa using this.2.symm⟩
 ·have h':l++[k]=(p++x :: q')++[y]:=by simpa using h
  have:=List.append_inj' h' rfl;have hy:k=y:=by simpa using this.2
  subst hy;exact .inr ⟨q',rfl,this.1⟩
theorem JqM.nil{G:List (List Nat)}:JqM G []:=fun p k q h=>by simp at h
theorem JqM.snoc{G:List (List Nat)}{l:List Nat}{k:Nat}(h:JqM G l)(hk:∀ j∈G.getD k [],j∈l):JqM G (l++[k]):=fun p x q e j hj=>by
 rcases Jc5 e with ⟨rfl,rfl,rfl⟩ | ⟨q',rfl,e'⟩
 ·exact hk j hj
 ·exact h p x q' e' j hj
theorem JqM.acyc{G:List (List Nat)}{l:List Nat}(h:JqM G l)(full:∀ i,i<G.length->i∈l):Jnx G:=by
 refine⟨fun i=>l.idxOf i,fun i j hj=>?_⟩;have hi:i<G.length:=by
  rcases Nat.lt_or_ge i G.length with h1 | h1
  ·exact h1
  ·rw[List.getD_eq_getElem?_getD,List.getElem?_eq_none h1] at hj;simp at hj
 obtain⟨p,q,e,hp⟩:=List.eq_append_cons_of_mem (full i hi);have hjp:=h p i q e j hj;simp only[e];rw[List.idxOf_append,List.idxOf_append,if_pos hjp,if_neg hp,List.idxOf_cons_self];have:=List.idxOf_lt_length_of_mem hjp;omega
theorem Jcp{α:Type}{l:List α}{i j:Nat}{b d:α}(hi:i<l.length):(l.set i b).getD j d=if i=j then b else l.getD j d:=by
 simp only[List.getD_eq_getElem?_getD,List.getElem?_set];by_cases h:i=j
 ·subst h;simp[hi]
 ·simp[h]
theorem JhA{l:List Nat}{i b:Nat}(hi:i<l.length)(h:l.getD i 0=0)(hb:b≠0):(l.set i b).count 0+1=l.count 0:=by
 have h':l[i]=0:=by rw[List.getD_eq_getElem?_getD,List.getElem?_eq_getElem hi] at h;simpa using h
 rw[List.count_set hi,h'];have:0<l.count 0:=List.count_pos_iff.2 (by rw[<- h'];exact List.getElem_mem hi);simp[hb];omega
theorem JmV{l:List Nat}{i:Nat}(hi:i<l.length)(h:l.getD i 0≠0):(l.set i 2).count 0=l.count 0:=by
 have h':l[i]≠0:=by rw[List.getD_eq_getElem?_getD,List.getElem?_eq_getElem hi] at h;simpa using h
 rw[List.count_set hi];simp[h']
structure RgI (G:List (List Nat)) (is:List Nat) (row:List (Nat × Nat)) (fin:List Nat):Prop where
 len:is.length=G.length
 fin2:∀ k,is.getD k 0=2↔k∈fin
 row1:∀ k,is.getD k 0=1↔k∈row.map Prod.fst
 st:∀ k,is.getD k 0=0\/is.getD k 0=1\/is.getD k 0=2
 lt:∀ e∈row,e.1<G.length/\e.2<=(G.getD e.1 []).length
 nd:(row.map Prod.fst).Nodup
 topo:JqM G fin
 pw:row.Pairwise fun a b=>JzS G a.1 b.1
 below:∀ p e q,row=p++e :: q->∀ y j,y<e.2->(G.getD e.1 [])[y]? = some j->j∈fin\/(y+1=e.2/\∃ e2 q',q=e2 :: q'/\e2.1=j)
theorem RgI.init(G:List (List Nat)):RgI G (List.replicate G.length 0) [] []:=by
 have h:∀ j,(List.replicate G.length 0).getD j 0=0:=fun j=>by
  rw[List.getD_eq_getElem?_getD,List.getElem?_replicate];split <;> rfl
 refine⟨by simp,fun k=>by rw[h k];simp,fun k=>by rw[h k];simp,fun k=>.inl (h k),fun e he=>by simp at he,by simp,JqM.nil,by simp,fun p e q h=>by simp at h⟩
section
variable {G:List (List Nat)} {is:List Nat} {r:List (Nat × Nat)} {fin:List Nat} {n x:Nat}
theorem RgI.start{i:Nat}(h:RgI G is [] fin)(hi:i<G.length)(h0:is.getD i 0=0):RgI G (is.set i 1) [(i,0)] fin:=by
 have hil:i<is.length:=by rw[h.len];exact hi
 have hg:∀ k,(is.set i 1).getD k 0=if i=k then 1 else is.getD k 0:=fun k=>Jcp hil
 refine⟨by simpa using h.len,fun k=>?_,fun k=>?_,fun k=>?_,fun e he=>?_,by simp,h.topo,by simp,fun p e q hp=>?_⟩
 ·rw[hg k,<- h.fin2 k];by_cases q:i=k
  ·subst q;rw[if_pos rfl,h0];exact iff_of_false (by decide) (by decide)
  ·rw[if_neg q]
 ·rw[hg k];by_cases q:i=k
  ·subst q;simp
  ·rw[if_neg q,h.row1 k];simp[Ne.symm q]
 ·rw[hg k];split
  ·exact .inr (.inl rfl)
  ·exact h.st k
 ·simp only[List.mem_singleton] at he;subst he;exact⟨hi,Nat.zero_le _⟩
 ·rcases Jc5 (l:=[]) hp with ⟨rfl,rfl,rfl⟩ | ⟨q',rfl,e'⟩
  ·intro y j hy;exact absurd hy (Nat.not_lt_zero _)
  ·simp at e'
theorem RgI.topfin(h:RgI G is (r++[(n,x)]) fin):∀ y j,y<x->(G.getD n [])[y]? = some j->j∈fin:=fun y j hy e=>by
 rcases h.below r (n,x) [] rfl y j hy e with q | ⟨_,e2,q',q,_⟩
 ·exact q
 ·cases q
theorem RgI.inc{to:Nat}(h:RgI G is (r++[(n,x)]) fin)(hx:(G.getD n [])[x]? = some to)(h2:is.getD to 0=2):RgI G is (r++[(n,x+1)]) fin:=by
 have hm:(r++[(n,x+1)]).map Prod.fst=(r++[(n,x)]).map Prod.fst:=by simp
 have hlx:x<(G.getD n []).length:=(List.getElem?_eq_some_iff.1 hx).1;have hpw:=h.pw;rw[List.pairwise_append] at hpw;refine⟨h.len,h.fin2,fun k=>by rw[hm];exact h.row1 k,h.st,fun e he=>?_,by rw[hm];exact h.nd,h.topo,?_,fun p e q hp=>?_⟩
 ·rcases List.mem_append.1 he with he | he
  ·exact h.lt e (by simp[he])
  ·have:=h.lt (n,x) (by simp);simp only[List.mem_singleton] at he;subst he;exact⟨this.1,hlx⟩
 ·rw[List.pairwise_append];refine⟨hpw.1,by simp,fun a ha b hb=>?_⟩;simp only[List.mem_singleton] at hb;subst hb;exact hpw.2.2 a ha (n,x) (by simp)
 ·rcases Jc5 hp with ⟨rfl,rfl,rfl⟩ | ⟨q',rfl,e'⟩
  ·intro y j hy e;rcases Nat.lt_succ_iff_lt_or_eq.1 hy with hy | hy
   ·exact .inl (h.topfin y j hy e)
   ·simp only at hy e;rw[hy,hx] at e;cases e;exact .inl ((h.fin2 _).1 h2)
  ·intro y j hy e;rcases h.below p _ (q'++[(n,x)]) (by rw[e'];simp) y j hy e with w | ⟨w,e2,q2,w1,w2⟩
   ·exact .inl w
   ·refine .inr ⟨w,?_⟩;cases q' with
    | nil=>simp at w1;exact⟨(n,x+1),[],rfl,by rw[<- w2,<- w1.1]⟩
    | cons a q'=>simp at w1;exact⟨a,q'++[(n,x+1)],rfl,by rw[w1.1];exact w2⟩
theorem RgI.push{to:Nat}(hG:GOk G)(h:RgI G is (r++[(n,x)]) fin)(hx:(G.getD n [])[x]? = some to)(h0:is.getD to 0=0):RgI G (is.set to 1) (r++[(n,x+1)]++[(to,0)]) fin:=by
 have hlx:x<(G.getD n []).length:=(List.getElem?_eq_some_iff.1 hx).1;have hto:to<G.length:=hG.get.2 to (List.mem_of_getElem? hx);have hmem:to∈G.getD n []:=List.mem_of_getElem? hx;have hil:to<is.length:=by rw[h.len];exact hto
 have hg:∀ k,(is.set to 1).getD k 0=if to=k then 1 else is.getD k 0:=fun k=>Jcp hil
 have hm:(r++[(n,x+1)]).map Prod.fst=(r++[(n,x)]).map Prod.fst:=by simp
 have hpw:=h.pw;rw[List.pairwise_append] at hpw;have hno:to∉(r++[(n,x)]).map Prod.fst:=fun q=>by
  rw[<- h.row1 to,h0] at q;cases q
 refine⟨by simpa using h.len,fun k=>?_,fun k=>?_,fun k=>?_,fun e he=>?_,?_,h.topo,?_,fun p e q hp=>?_⟩
 ·rw[hg k,<- h.fin2 k];by_cases q:to=k
  ·subst q;rw[if_pos rfl,h0];exact iff_of_false (by decide) (by decide)
  ·rw[if_neg q]
 ·rw[hg k,List.map_append,hm];by_cases q:to=k
  ·subst q;simp
  ·rw[if_neg q,h.row1 k];simp[Ne.symm q]
 ·rw[hg k];split
  ·exact .inr (.inl rfl)
  ·exact h.st k
 ·rcases List.mem_append.1 he with he | he
  ·rcases List.mem_append.1 he with he | he
   ·exact h.lt e (by simp[he])
   ·have:=h.lt (n,x) (by simp);simp only[List.mem_singleton] at he;subst he;exact⟨this.1,hlx⟩
  ·simp only[List.mem_singleton] at he;subst he;exact⟨hto,Nat.zero_le _⟩
 ·rw[List.map_append,hm,List.nodup_append];refine⟨h.nd,by simp,fun a ha b hb q=>?_⟩;simp only[List.map_cons,List.map_nil,List.mem_singleton] at hb;subst q;subst hb;exact hno ha
 ·rw[List.pairwise_append,List.pairwise_append];refine⟨⟨hpw.1,by simp,fun a ha b hb=>?_⟩,by simp,fun a ha b hb=>?_⟩
  ·simp only[List.mem_singleton] at hb;subst hb;exact hpw.2.2 a ha (n,x) (by simp)
  ·simp only[List.mem_singleton] at hb;subst hb;intro rk hrk;have ht:=hrk n to hmem;rcases List.mem_append.1 ha with ha | ha
   ·exact Nat.lt_trans ht (hpw.2.2 a ha (n,x) (by simp) rk hrk)
   ·simp only[List.mem_singleton] at ha;subst ha;exact ht
 ·rcases Jc5 hp with ⟨rfl,rfl,rfl⟩ | ⟨q',rfl,e'⟩
  ·intro y j hy;exact absurd hy (Nat.not_lt_zero _)
  ·rcases Jc5 e' with ⟨rfl,rfl,rfl⟩ | ⟨q',rfl,e3⟩
   ·intro y j hy e;rcases Nat.lt_succ_iff_lt_or_eq.1 hy with hy | hy
    ·exact .inl (h.topfin y j hy e)
    ·simp only at hy e;rw[hy,hx] at e;cases e;exact .inr ⟨by rw[hy],(to,0),[],rfl,rfl⟩
   ·intro y j hy e;rcases h.below p _ (q'++[(n,x)]) (by rw[e3];simp) y j hy e with w | ⟨w,e2,q2,w1,w2⟩
    ·exact .inl w
    ·refine .inr ⟨w,?_⟩;cases q' with
     | nil=>simp at w1;exact⟨(n,x+1),[(to,0)],rfl,by rw[<- w2,<- w1.1]⟩
     | cons a q'=>simp at w1;exact⟨a,q'++[(n,x+1)]++[(to,0)],by simp,by rw[w1.1];exact w2⟩
theorem RgI.pop(h:RgI G is (r++[(n,x)]) fin)(hx:x=(G.getD n []).length):RgI G (is.set n 2) r (fin++[n]):=by
 have hn:=(h.lt (n,x) (by simp)).1;simp only at hn;have hil:n<is.length:=by rw[h.len];exact hn
 have hg:∀ k,(is.set n 2).getD k 0=if n=k then 2 else is.getD k 0:=fun k=>Jcp hil
 have hnd:=h.nd;rw[List.map_append,List.nodup_append] at hnd;have hno:n∉r.map Prod.fst:=fun q=>hnd.2.2 n q n (by simp) rfl
 have hpw:=h.pw;rw[List.pairwise_append] at hpw;refine⟨by simpa using h.len,fun k=>?_,fun k=>?_,fun k=>?_,fun e he=>h.lt e (by simp[he]),hnd.1,h.topo.snoc (fun j hj=>?_),hpw.1,fun p e q hp=>?_⟩
 ·rw[hg k];simp only[List.mem_append,List.mem_singleton];by_cases q:n=k
  ·subst q;simp
  ·rw[if_neg q,h.fin2 k];simp[Ne.symm q]
 ·rw[hg k];by_cases q:n=k
  ·subst q;simp;simpa using hno
  ·rw[if_neg q,h.row1 k];simp[Ne.symm q]
 ·rw[hg k];split
  ·exact .inr (.inr rfl)
  ·exact h.st k
 ·obtain⟨y,hy⟩:=List.getElem?_of_mem hj;exact h.topfin y j (by rw[hx];exact(List.getElem?_eq_some_iff.1 hy).1) hy
 ·intro y j hy e;rcases h.below p _ (q++[(n,x)]) (by rw[hp];simp) y j hy e with w | ⟨w,e2,q2,w1,w2⟩
  ·exact .inl (by simp[w])
  ·cases q with
   | nil=>simp at w1;exact .inl (by rw[<- w2,<- w1.1];simp)
   | cons a q=>simp at w1;exact .inr ⟨w,a,q,rfl,by rw[w1.1];exact w2⟩
theorem RgI.ring{to:Nat}(h:RgI G is (r++[(n,x)]) fin)(hx:(G.getD n [])[x]? = some to)(h1:is.getD to 0=1):¬ Jnx G:=by
 rintro⟨rk,hrk⟩;have ht:=hrk n to (List.mem_of_getElem? hx);have hm:=(h.row1 to).1 h1;rw[List.map_append,List.mem_append] at hm;rcases hm with hm | hm
 ·obtain⟨e,he,rfl⟩:=List.mem_map.1 hm;have hpw:=h.pw;rw[List.pairwise_append] at hpw;have:=hpw.2.2 e he (n,x) (by simp) rk hrk;simp only at this;omega
 ·simp at hm;subst hm;omega
theorem RgI.acyc(h:RgI G is [] fin)(full:∀ k,k<G.length->is.getD k 0≠0):Jnx G:=by
 refine h.topo.acyc fun i hi=>?_
 rcases h.st i with q | q | q
 ·exact absurd q (full i hi)
 ·have:=(h.row1 i).1 q;simp at this
 ·exact(h.fin2 i).1 q
end
end Go.Proofs.Y
end
section
namespace Go.Proofs.Y
open Go Go.Ab
def JfO(e:Nat × Nat):List AV:=[.lit (.int .i64 (e.1:Int)),.lit (.int .i64 (e.2:Int))]
theorem JjU(j:Nat):∀ c∈Jak j,Ab.Pure c:=Jau (by simp[Jak])
theorem JmW(l:List Nat):∀ c∈Jep l,Ab.Pure c:=fun c hc=>by
 simp only[Jep,List.mem_singleton] at hc;subst hc;exact .vec (Ji JjU _)
theorem JgL(G:List (List Nat)):Ab.Pure (vG G):=.vec (Ji JmW _)
theorem JjV(G:List (List Nat))(hG:GOk G):JR Tryz.prog 63 [vG G] (.lit (.bool (JcM G))):=by
 refine Jn Tryz.func63 rfl Tryz.ntmps63 (rs:=[.tmp 2]) rfl (by simp) ?_;unfold vG;have hlen:=hG.len;have fin:∀ h b,JcV h (.lit (.bool b)) (.lit (.bool b)):=fun h b=>Ja (.lit _);simp (disch:=omega) only[Wz,seval];refine JcU ?_;simp (disch:=omega) only[Wz,seval];refine Jb7 G.length 1 (fun i (is:List Nat)=>⟨[(13,.lit (.int .i64 (i:Int))),(12,.lit (.int .i64 (G.length:Int))),(3,.own 0 G.length),(0,.vec (G.map Jep) false)],⟨[],[(0,⟨is.map Jak,0,1⟩)],1⟩,96⟩)
  (fun i is=>(∃ fin,RgI G is [] fin)/\∀ k,k<i->is.getD k 0≠0) (fun _ _=>rfl) (List.replicate G.length 0)
  (JaE (Jb rfl (Jb rfl (Jb rfl (Jb rfl Jl)))) Jl (Jb (by simp[lk,Jak]) Jl) rfl rfl) ⟨⟨[],RgI.init G⟩,fun k hk=>absurd hk (Nat.not_lt_zero _)⟩ (fun i is hi hI=>?_) (fun is hI=>?_)
 ·obtain⟨⟨fin0,hR⟩,hdone⟩:=hI;have hl:=hR.len;have hn1:is.getD i 0≠1:=fun q=>by have:=(hR.row1 i).1 q;simp at this
  rcases Nat.eq_zero_or_pos (is.getD i 0) with hv | hv;rotate_left
  ·have hvd:is.getD i default=2:=by
    rcases hR.st i with q | q | q
    ·omega
    ·exact absurd q hn1
    ·exact q
   simp (disch:=omega) only[Wz,seval,Jak,hvd];refine JcU ?_;simp (disch:=omega) only[Wz,seval,Jak,hvd];refine⟨is,⟨⟨fin0,hR⟩,fun k hk=>?_⟩,St.wk.cp (St.wk_slots (by simp[lk]))⟩;rcases Nat.lt_succ_iff_lt_or_eq.1 hk with hk | rfl
   ·exact hdone k hk
   ·omega
  ·have hvd:is.getD i default=0:=hv;simp (disch:=omega) only[Wz,seval,Jak,hvd];refine Jn6 ?_;refine Jm ?_;refine Jj ?_;simp (disch:=omega) only[Wz,seval,Jak,hvd];refine Jm ?_;refine Jj ?_;simp (disch:=omega) only[Wz,seval,Jak,hvd];refine Jm ?_;refine Jc0 ?_;simp (disch:=omega) only[Wz,seval,JlE];refine JcZ (ps:=[(0,.agg (JfO (i,0)))]) (z:=[.lit (.int .i64 0),.lit (.int .i64 0)]) (rows:=[JfO (i,0)]) Jqp rfl Jqo rfl ⟨rfl,by decide⟩ (by decide) rfl rfl ?_;simp (disch:=omega) only[Wz,seval,JlE];refine Jj ?_;simp (disch:=omega) only[Wz,seval];have hil:i<is.length:=by omega
   have hc0:=JhA hil hv (b:=1) (by decide);have hcl:is.count 0<=is.length:=List.count_le_length;have hset:∀ k,(is.set i 1).getD k 0=if i=k then 1 else is.getD k 0:=fun k=>Jcp hil
   refine Jbv (fun(x:(List Nat × List (Nat × Nat)) × Nat × Nat)=>⟨[(5,.own x.2.1 x.1.2.length),(13,.lit (.int .i64 (i:Int))),(12,.lit (.int .i64 (G.length:Int))),(3,.own 0 G.length),(0,.vec (G.map Jep) false)],⟨[],[(0,⟨x.1.1.map Jak,0,1⟩),(x.2.1,⟨x.1.2.map JfO,0,2⟩)],x.2.2⟩,96⟩)
    (fun x=>(∃ f,RgI G x.1.1 x.1.2 f)/\x.1.2.length+x.1.1.count 0<=G.length/\(∀ k,k<i+1->x.1.1.getD k 0≠0)/\0<x.2.1/\x.2.1<x.2.2) (fun x=>2 * x.1.1.count 0+x.1.2.length) ((is.set i 1,[(i,0)]),1,2)
    (JaE (Jb rfl (Jb rfl (Jb rfl (Jb rfl (Jb rfl Jl))))) Jl (Jb (by simp[lk,Jak]) (Jb rfl Jl)) rfl rfl)
    ⟨⟨fin0,hR.start hi hv⟩,by simp only[List.length_singleton];omega,fun k hk=>?_,Nat.one_pos,Nat.lt_succ_self 1⟩ ?_
   ·simp only[hset k];rcases Nat.lt_succ_iff_lt_or_eq.1 hk with hk | rfl
    ·rw[if_neg (by omega)];exact hdone k hk
    ·rw[if_pos rfl];decide
   rintro⟨⟨js,row⟩,t,nx⟩ ⟨⟨f,hJ⟩,hJc,hJd,ht0,htn⟩;simp only at hJ hJc hJd ht0 htn ⊢;have h0t:(0=t)=False:=by simp;omega
   have ht0':(t=0)=False:=by simp;omega
   have hjl:=hJ.len;rcases Jfc row with rfl | ⟨r,⟨n,x0⟩,rfl⟩
   ·simp (disch:=omega) only[Wz,seval,h0t,ht0'];exact⟨js,⟨⟨f,hJ⟩,hJd⟩,Jbj (Nat.le_refl _) (by show 1<=nx;omega) rfl (Jb ⟨rfl,.pure (.lit _)⟩ (Jb ⟨rfl,.pure (.lit _)⟩ (Jb ⟨rfl,.own (by show 0<1;decide) rfl⟩ (Jb ⟨rfl,.pure (JgL G)⟩ Jl)))) Jl (Jb ⟨by show 0<1;decide,rfl,.pure (Ji JjU _)⟩ Jl)⟩
   ·have g1:∀ x:Nat,(r.map JfO++[[AV.lit (.int .i64 (n:Int)),AV.lit (.int .i64 (x:Int))]])[r.length]? = some [AV.lit (.int .i64 (n:Int)),AV.lit (.int .i64 (x:Int))]:=fun x=>by rw[List.getElem?_append_right (by simp)];simp
    have i1:(((r.length+1:Nat):Int) - 1).toNat=r.length:=by omega
    simp only[List.length_append,List.length_singleton] at hJc;simp (disch:=omega) only[Wz,seval,h0t,ht0',List.map_append,List.length_append,List.length_singleton,g1,i1,JfO];have hn:=hJ.lt (n,x0) (by simp);simp only at hn;obtain⟨row,hrow⟩:∃ row,G.getD n []=row:=⟨_,rfl⟩;have hd:G.getD n default=row:=hrow;have hrl:=hG.get (k:=n);rw[hrow] at hrl hn;refine Jbv (fun(x:Nat)=>⟨[(6,.ep t (r.length+1) 2 r.length 0),(5,.own t (r.length+1)),(13,.lit (.int .i64 (i:Int))),(12,.lit (.int .i64 (G.length:Int))),(3,.own 0 G.length),(0,.vec (G.map Jep) false)],⟨[],[(0,⟨js.map Jak,0,1⟩),(t,⟨r.map JfO++[[AV.lit (.int .i64 (n:Int)),AV.lit (.int .i64 (x:Int))]],0,2⟩)],nx⟩,96⟩)
     (fun x=>RgI G js (r++[(n,x)]) f) (fun x=>row.length - x) x0 (St.wk_slots (by simp[lk])) hJ ?_
    intro x hX;have hx:=(hX.lt (n,x) (by simp)).2;simp only at hx;rw[hrow] at hx;rcases Nat.lt_or_ge x row.length with hlt | hge
    ·obtain⟨to,hto⟩:∃ to,row.getD x 0=to:=⟨_,rfl⟩;have htd:row.getD x default=to:=hto;have hxe:(G.getD n [])[x]? = some to:=by rw[hrow,<- hto,List.getD_eq_getElem?_getD,List.getElem?_eq_getElem hlt];rfl
     have htl:to<G.length:=hrl.2 to (by rw[<- hrow];exact List.mem_of_getElem? hxe);have hset1:(r.map JfO++[[AV.lit (.int .i64 (n:Int)),AV.lit (.int .i64 (x:Int))]]).set r.length [AV.lit (.int .i64 (n:Int)),AV.lit (.int .i64 ((x:Int)+1))]=r.map JfO++[[AV.lit (.int .i64 (n:Int)),AV.lit (.int .i64 ((x:Int)+1))]]:=by rw[List.set_append_right _ _ (by simp)];simp
     simp (disch:=omega) only[Wz,seval];refine Jx (n:=96) rfl (by decide) mixed ?_;simp (disch:=omega) only[Wz,seval,h0t,ht0',g1,i1,hd,Jep,List.length_append,List.length_singleton];refine Jx (n:=96) rfl (by decide) mixed ?_;simp (disch:=omega) only[Wz,seval,h0t,ht0',g1,i1,hd,Jep,List.length_append,List.length_singleton,htd,Jak,hset1];have hcast:((x:Int)+1)=((x+1:Nat):Int):=by omega
     rcases hX.st to with hv0 | hv0 | hv0
     ·
      have hvd0:js.getD to default=0:=hv0;have hset0:∀ k,(js.set to 1).getD k 0=if to=k then 1 else js.getD k 0:=fun k=>Jcp (by omega)
      have hcc:=JhA (show to<js.length by omega) hv0 (b:=1) (by decide);have hfit:Ja7 (r.length+1+1) 16:=JN (by omega) (by omega);have hrw:∀ k,k<i+1->(js.set to 1).getD k 0≠0:=fun k hk=>by
       rw[hset0 k];split
       ·decide
       ·exact hJd k hk
      simp (disch:=omega) only[Wz,seval,h0t,ht0',hvd0,Jak,hfit,List.mem_singleton,forall_eq,List.length_append,List.length_singleton,List.append_assoc];refine⟨((js.set to 1,r++[(n,x+1)]++[(to,0)]),t,nx),⟨⟨f,hX.push hG hxe hv0⟩,?_,hrw,ht0,htn⟩,?_,?_⟩
      ·simp only[List.length_append,List.length_singleton];omega
      ·simp only[List.length_append,List.length_singleton];omega
      ·refine JaE (Jb ?_ (Jb rfl (Jb rfl (Jb rfl (Jb rfl Jl))))) Jl (Jb ?_ (Jb ?_ Jl)) rfl rfl
       ·simp[lk]
       ·simp[lk,List.map_set,Jak]
       ·simp[lk,h0t,JfO]
     ·
      have hvd0:js.getD to default=1:=hv0;have e:JcM G=true:=Jd7 (hX.ring hxe hv0);rw[e];simp (disch:=omega) only[Wz,seval,h0t,ht0',hvd0];exact fin _ _
     ·
      have hvd0:js.getD to default=2:=hv0;simp (disch:=omega) only[Wz,seval,h0t,ht0',hvd0];exact⟨x+1,hX.inc hxe hv0,by omega,JaE (Jb rfl (Jb rfl (Jb rfl (Jb rfl (Jb rfl (Jb rfl Jl)))))) Jl (Jb rfl (Jb (by simp[lk,h0t]) Jl)) rfl rfl⟩
    ·have hxe:x=row.length:=by omega
     simp (disch:=omega) only[Wz,seval];refine Jx (n:=96) rfl (by decide) mixed ?_;simp (disch:=omega) only[Wz,seval,h0t,ht0',g1,i1,hd,Jep,List.length_append,List.length_singleton,Jak];have hnj:n<js.length:=by omega
     have hset0:∀ k,(js.set n 2).getD k 0=if n=k then 2 else js.getD k 0:=fun k=>Jcp hnj
     have hn1':js.getD n 0=1:=(hX.row1 n).2 (by simp);have hcc:=JmV hnj (show js.getD n 0≠0 by omega);have tk1:(r.map JfO++[[AV.lit (.int .i64 (n:Int)),AV.lit (.int .i64 (x:Int))]]).take r.length=r.map JfO:=by rw[List.take_append_of_le_length (by simp),List.take_of_length_le (by simp)]
     refine JcX (k:=⟨r.map JfO++[[AV.lit (.int .i64 (n:Int)),AV.lit (.int .i64 (x:Int))]],0,2⟩) rfl rfl Jqp rfl Jqo rfl (by simp[lk,h0t]) (by simp) (by omega) (by omega) (by simp) ?_;simp (disch:=omega) only[Wz,seval,Hp.cut,dl,h0t,i1,tk1];refine⟨((js.set n 2,r),nx,nx+1),⟨⟨f++[n],hX.pop (by rw[hrow];exact hxe)⟩,by simp only;omega,fun k hk=>?_,by simp only;omega,by simp only;omega⟩,by simp only;omega,?_⟩
     ·simp only[hset0 k];split
      ·decide
      ·exact hJd k hk
     ·exact JaE (Jb rfl (Jb rfl (Jb rfl (Jb rfl (Jb rfl Jl))))) Jl (Jb (by simp[lk,List.map_set,Jak]) (Jb (by simp[lk];omega) Jl)) rfl rfl
 ·obtain⟨⟨fin0,hR⟩,hdone⟩:=hI;have e:JcM G=false:=Jco (hR.acyc hdone);rw[e];simp (disch:=omega) only[Wz,seval];exact fin _ _
end Go.Proofs.Y
end
section
namespace Go.Proofs.Y
open Go Go.Ab
structure Wf (n:Nt):Prop where
 nst:n.states.length<=4000
 nru:n.rules.length<=100
 ntp:n.types.length<=200
 ru:∀ i,i<n.rules.length->ofN n (n.rules.getD i default).start i=true/\ofN n (n.rules.getD i default).stop i=true/\(n.rules.getD i default).start≠(n.rules.getD i default).stop/\(n.states.getD (n.rules.getD i default).stop.toNat default).edges=[]
 st:∀ i,i<n.states.length->0<=(n.states.getD i default).rule/\(n.states.getD i default).rule<(n.rules.length:Int)
 ed:∀ i,i<n.states.length->∀ e∈(n.states.getD i default).edges,ofN n e.to (n.states.getD i default).rule=true/\(0<=e.op.1/\e.op.1<8)/\JM n (n.rules.getD (n.states.getD i default).rule.toNat default) (n.states.getD i default).rule e=true/\(e.op.1=1->0<e.set.length)/\JmQ e.set=true
theorem Jis{n i:Nat}{p:Nat->Bool}(h:(List.range n).all p=true)(hi:i<n):p i=true:=List.all_eq_true.1 h i (List.mem_range.2 hi)
theorem Jit{T:Type}[Inhabited T]{l:List T}{x:T}(h:x∈l):∃ i,i<l.length/\l.getD i default=x:=by
 obtain⟨i,hi,e⟩:=List.getElem_of_mem h;exact⟨i,hi,by rw[List.getD_eq_getElem?_getD,List.getElem?_eq_getElem hi];exact e⟩
theorem Wf.of{n:Nt}(h1:Jc4 n=true)(h2:Jdz n=true)(h3:JbK n=true):Wf n:=by
 unfold Jc4 at h1;simp only[Bool.and_eq_true,decide_eq_true_eq] at h1;refine⟨h1.2.1.2.2,h1.2.1.2.1,h1.2.1.1,fun i hi=>?_,fun i hi=>?_,fun i hi e he=>?_⟩
 ·have h:=Jis h2 hi;unfold Jee at h;simp only[Bool.and_eq_true,decide_eq_true_eq] at h;exact⟨h.1,h.2.1,h.2.2.1,List.eq_nil_of_length_eq_zero h.2.2.2.1⟩
 ·have h:=Jis h3 hi;unfold JcF at h;simp only[Bool.and_eq_true,decide_eq_true_eq] at h;exact h.1
 ·have h:=Jis h3 hi;unfold JcF at h;simp only[Bool.and_eq_true,decide_eq_true_eq] at h;obtain⟨k,hk,rfl⟩:=Jit he;have h':=Jis h.2.2 hk;unfold Jeg at h';simp only[Bool.and_eq_true,decide_eq_true_eq] at h';refine⟨h'.1,h'.2.2.1,h'.2.2.2.2.2.2.2.1,fun q=>?_,h'.2.1⟩;have:=h'.2.2.2.1;simp only[q,decide_true] at this;simpa using this
section
variable {n:Nt} (w:Wf n)
include w
theorem Wf.start{i:Nat}(hi:i<n.rules.length):0<=(n.rules.getD i default).start/\(n.rules.getD i default).start<(n.states.length:Int):=JdS (w.ru i hi).1
theorem Wf.stop{i:Nat}(hi:i<n.rules.length):0<=(n.rules.getD i default).stop/\(n.rules.getD i default).stop<(n.states.length:Int):=JdS (w.ru i hi).2.1
theorem Wf.to{i:Nat}(hi:i<n.states.length){e:Ed}(he:e∈(n.states.getD i default).edges):0<=e.to/\e.to<(n.states.length:Int):=JdS (w.ed i hi e he).1
theorem Wf.call{i:Nat}(hi:i<n.states.length){e:Ed}(he:e∈(n.states.getD i default).edges)(h2:e.op.1=2):0<=e.n/\e.n<(n.rules.length:Int):=by
 have h:=(w.ed i hi e he).2.2.1;unfold JM at h;rw[if_neg (by omega),if_neg (by omega),if_pos h2] at h;unfold kd2 at h;simp only[Bool.and_eq_true,decide_eq_true_eq] at h;exact h.1
end
def Ji7 (G:List (List Nat))(p:Nat × Nat):List (List Nat):=G.set p.1 (G.getD p.1 []++[p.2])
def gOf (N:Nat)(ps:List (Nat × Nat)):List (List Nat):=ps.foldl Ji7 (List.replicate N [])
theorem Jfd{N:Nat}:gOf N []=List.replicate N []:=rfl
theorem Jca{N:Nat}{ps:List (Nat × Nat)}{p:Nat × Nat}:gOf N (ps++[p])=Ji7 (gOf N ps) p:=by unfold gOf;rw[List.foldl_append];rfl
theorem Jbq{N:Nat}(ps:List (Nat × Nat)):(gOf N ps).length=N:=by
 induction ps using JfT with
 | h0=>simp[Jfd]
 | hs ps p ih=>rw[Jca];simp[Ji7,ih]
theorem JlV{N r:Nat}:(gOf N []).getD r []=[]:=by
 rw[Jfd,List.getD_eq_getElem?_getD,List.getElem?_replicate];split <;> rfl
theorem Jo2{N:Nat}{ps:List (Nat × Nat)}{p:Nat × Nat}(hp:p.1<N)(r:Nat):(gOf N (ps++[p])).getD r []=if p.1=r then (gOf N ps).getD r []++[p.2] else (gOf N ps).getD r []:=by
 rw[Jca];unfold Ji7;rw[Jcp (by rw[Jbq];exact hp)];split
 ·rename_i h;rw[h]
 ·rfl
theorem Jeu{N:Nat}{ps:List (Nat × Nat)}(h:∀ p∈ps,p.1<N){r v:Nat}:v∈(gOf N ps).getD r []↔(r,v)∈ps:=by
 induction ps using JfT with
 | h0=>rw[JlV];simp
 | hs ps p ih =>
  rw[Jo2 (h p (by simp))];have ih:=ih (fun q hq=>h q (by simp[hq]));obtain⟨a,b⟩:=p;by_cases c:a=r
  ·subst c;simp only[if_true,List.mem_append,ih,List.mem_singleton,Prod.mk.injEq,true_and]
  ·simp only[if_neg c,List.mem_append,ih,List.mem_singleton,Prod.mk.injEq,Ne.symm c,false_and,or_false]
theorem Jiu{N:Nat}{ps:List (Nat × Nat)}(h:∀ p∈ps,p.1<N)(r:Nat):((gOf N ps).getD r []).length<=ps.length:=by
 induction ps using JfT with
 | h0=>rw[JlV];simp
 | hs ps p ih =>
  rw[Jo2 (h p (by simp))];have ih:=ih (fun q hq=>h q (by simp[hq]));split <;> simp only[List.length_append,List.length_singleton] <;> omega
theorem JlW{N:Nat}{ps:List (Nat × Nat)}(hN:N<=100000)(h:∀ p∈ps,p.1<N/\p.2<N)(hl:ps.length<=10000000000000):GOk (gOf N ps):=by
 have key:∀ l∈gOf N ps,∃ r,(gOf N ps).getD r []=l:=fun l hl=>by
  obtain⟨i,hi,e⟩:=List.getElem_of_mem hl;exact⟨i,by rw[List.getD_eq_getElem?_getD,List.getElem?_eq_getElem hi];exact e⟩
 refine⟨by rw[Jbq];exact hN,fun l hl'=>?_,fun l hl' j hj=>?_⟩
 ·obtain⟨r,rfl⟩:=key l hl';exact Nat.le_trans (Jiu (fun p hp=>(h p hp).1) r) hl
 ·obtain⟨r,rfl⟩:=key l hl';rw[Jbq];exact(h _ ((Jeu fun p hp=>(h p hp).1).1 hj)).2
section
variable (pr:Nat->Ed->List (Nat × Nat)) (n:Nt)
def JbB (i k:Nat):List (Nat × Nat):=(List.range i).flatMap (fun j=>(n.states.getD j default).edges.flatMap (pr j))++((n.states.getD i default).edges.take k).flatMap (pr i)
theorem JeQ{i k:Nat}(h:k<(n.states.getD i default).edges.length):JbB pr n i (k+1)=JbB pr n i k++pr i ((n.states.getD i default).edges.getD k default):=by
 have e:(n.states.getD i default).edges.getD k default=(n.states.getD i default).edges[k]:=by rw[List.getD_eq_getElem?_getD,List.getElem?_eq_getElem h];rfl
 unfold JbB;rw[e,List.take_add_one,List.getElem?_eq_getElem h,List.flatMap_append,List.append_assoc];simp only[Option.toList_some,List.flatMap_cons,List.flatMap_nil,List.append_nil,List.append_assoc]
theorem JfU{i:Nat}:JbB pr n i (n.states.getD i default).edges.length=JbB pr n (i+1) 0:=by
 unfold JbB;rw[List.take_length,List.take_zero,List.range_succ,List.flatMap_append];simp
theorem JeR:JbB pr n 0 0=[]:=by simp[JbB]
theorem Jiv{i k:Nat}{p:Nat × Nat}(h:p∈JbB pr n i k):∃ j e,(j<i\/j=i)/\e∈(n.states.getD j default).edges/\p∈pr j e:=by
 unfold JbB at h;rcases List.mem_append.1 h with h | h
 ·obtain⟨j,h1,h2⟩:=List.mem_flatMap.1 h;obtain⟨e,h3,h4⟩:=List.mem_flatMap.1 h2;exact⟨j,e,.inl (List.mem_range.1 h1),h3,h4⟩
 ·obtain⟨e,h3,h4⟩:=List.mem_flatMap.1 h;exact⟨i,e,.inr rfl,List.mem_of_mem_take h3,h4⟩
theorem Jd8{p:Nat × Nat}{j:Nat}{e:Ed}(hj:j<n.states.length)(he:e∈(n.states.getD j default).edges)(hp:p∈pr j e):p∈JbB pr n n.states.length 0:=by
 unfold JbB;refine List.mem_append.2 (.inl ?_);exact List.mem_flatMap.2 ⟨j,List.mem_range.2 hj,List.mem_flatMap.2 ⟨e,he,hp⟩⟩
theorem JbL{T U:Type}{f:T->List U}{c:Nat}{l:List T}(h:∀ x∈l,(f x).length<=c):(l.flatMap f).length<=c * l.length:=by
 induction l with
 | nil=>simp
 | cons x l ih =>
  have h1:=h x (by simp);have h2:=ih (fun y hy=>h y (by simp[hy]));simp only[List.flatMap_cons,List.length_append,List.length_cons,Nat.mul_add,Nat.mul_one];omega
theorem JfV{i k c:Nat}(hc:∀ j e,(pr j e).length<=c)(he:∀ j,(n.states.getD j default).edges.length<=1000000000):(JbB pr n i k).length<=c * 1000000000 * (i+1):=by
 have h1:∀ j,((n.states.getD j default).edges.flatMap (pr j)).length<=c * 1000000000:=fun j=>Nat.le_trans (JbL fun e _=>hc j e) (Nat.mul_le_mul_left c (he j));have h2:(((n.states.getD i default).edges.take k).flatMap (pr i)).length<=c * 1000000000:=Nat.le_trans (JbL fun e _=>hc i e) (Nat.mul_le_mul_left c (by rw[List.length_take];have:=he i;omega));have h3:((List.range i).flatMap (fun j=>(n.states.getD j default).edges.flatMap (pr j))).length<=c * 1000000000 * i:=by
  have:=JbL (l:=List.range i) (f:=fun j=>(n.states.getD j default).edges.flatMap (pr j)) (c:=c * 1000000000) (fun j _=>h1 j);simpa using this
 unfold JbB;rw[List.length_append,Nat.mul_add,Nat.mul_one];omega
end
theorem JcL.edgesD{n:Nt}(ok:JcL n)(j:Nat):(n.states.getD j default).edges.length<=1000000000:=by
 rcases Nat.lt_or_ge j n.states.length with h | h
 ·exact(ok.edges _ (Ju h)).1
 ·rw[List.getD_eq_getElem?_getD,List.getElem?_eq_none h];exact Nat.zero_le _
def stN (n:Nt)(i:Nat):Nat:=(n.rules.getD i default).start.toNat
def spN (n:Nt)(i:Nat):Nat:=(n.rules.getD i default).stop.toNat
inductive Nul (n:Nt):Nat->Nat->Prop
 | edge {s:Nat} {e:Ed}:s<n.states.length->e∈(n.states.getD s default).edges->e.op.1≠1->e.op.1≠2->Nul n s e.to.toNat
 | call {s:Nat} {e:Ed}:s<n.states.length->e∈(n.states.getD s default).edges->e.op.1=2->Nul n (stN n e.n.toNat) (spN n e.n.toNat)->Nul n s e.to.toNat
 | step {s t u:Nat}:Nul n s t->Nul n t u->Nul n s u
def Emp (n:Nt)(i:Nat):Prop:=Nul n (stN n i) (spN n i)
noncomputable def Jny(n:Nt)(i:Nat):Bool:=@decide (Emp n i) (Classical.propDecidable _)
noncomputable def J4(n:Nt):List Bool:=(List.range n.rules.length).map (Jny n)
theorem JeS{n:Nt}{i:Nat}:Jny n i=true↔Emp n i:=by unfold Jny;exact @decide_eq_true_iff _ (Classical.propDecidable _)
theorem JbW{G:List (List Nat)}{i j:Nat}:JlU G i j=true↔Rch G i j:=by unfold JlU;exact @decide_eq_true_iff _ (Classical.propDecidable _)
theorem JgM{G:List (List Nat)}{i j:Nat}(h:j<G.length):(JfN G i).getD j false=JlU G i j:=by
 unfold JfN;rw[List.getD_eq_getElem?_getD,List.getElem?_map,List.getElem?_range h];rfl
def prE (em:List Bool)(i:Nat)(e:Ed):List (Nat × Nat):=if e.op.1≠1/\(e.op.1≠2\/em.getD e.n.toNat false=true) then [(i,e.to.toNat)] else []
def gE (n:Nt)(em:List Bool):List (List Nat):=gOf n.states.length (JbB (prE em) n n.states.length 0)
section
variable {n:Nt} (w:Wf n) (ok:JcL n)
include w ok
theorem Jk3{em:List Bool}{i k:Nat}(hi:i<n.states.length\/k=0/\i=n.states.length):(∀ p∈JbB (prE em) n i k,p.1<n.states.length/\p.2<n.states.length)/\(JbB (prE em) n i k).length<=10000000000000:=by
 refine⟨fun p hp=>?_,?_⟩
 ·have:∃ j e,j<n.states.length/\e∈(n.states.getD j default).edges/\p∈prE em j e:=by
   rcases hi with hi | ⟨rfl,rfl⟩
   ·obtain⟨j,e,h1,h2,h3⟩:=Jiv _ n hp;exact⟨j,e,by omega,h2,h3⟩
   ·unfold JbB at hp;simp only[List.take_zero,List.flatMap_nil,List.append_nil] at hp;obtain⟨j,h1,h2⟩:=List.mem_flatMap.1 hp;obtain⟨e,h3,h4⟩:=List.mem_flatMap.1 h2;exact⟨j,e,List.mem_range.1 h1,h3,h4⟩
  obtain⟨j,e,hj,he,hp⟩:=this;unfold prE at hp;split at hp
  ·simp only[List.mem_singleton] at hp;subst hp;have:=w.to hj he;exact⟨hj,by simp only;omega⟩
  ·simp at hp
 ·have:=JfV (prE em) n (i:=i) (k:=k) (c:=1) (fun j e=>by unfold prE;split <;> simp) ok.edgesD
  have:=w.nst;omega
theorem JzT(em:List Bool):GOk (gE n em):=by
 have h:=Jk3 w ok (em:=em) (i:=n.states.length) (k:=0) (.inr ⟨rfl,rfl⟩);exact JlW (by have:=w.nst;omega) h.1 h.2
theorem JhB{em:List Bool}{s t:Nat}:t∈(gE n em).getD s []↔∃ e,s<n.states.length/\e∈(n.states.getD s default).edges/\e.op.1≠1/\(e.op.1≠2\/em.getD e.n.toNat false=true)/\t=e.to.toNat:=by
 have h:=Jk3 w ok (em:=em) (i:=n.states.length) (k:=0) (.inr ⟨rfl,rfl⟩);unfold gE;rw[Jeu fun p hp=>(h.1 p hp).1];constructor
 ·intro hp;unfold JbB at hp;simp only[List.take_zero,List.flatMap_nil,List.append_nil] at hp;obtain⟨j,h1,h2⟩:=List.mem_flatMap.1 hp;obtain⟨e,h3,h4⟩:=List.mem_flatMap.1 h2;unfold prE at h4;split at h4
  ·rename_i hc;simp only[List.mem_singleton,Prod.mk.injEq] at h4;obtain⟨rfl,rfl⟩:=h4;exact⟨e,List.mem_range.1 h1,h3,hc.1,hc.2,rfl⟩
  ·simp at h4
 ·rintro⟨e,h1,h2,h3,h4,rfl⟩;refine Jd8 _ n h1 h2 ?_;unfold prE;rw[if_pos ⟨h3,h4⟩];simp
theorem Jiw{em:List Bool}(hem:∀ i,em.getD i false=true->Emp n i){s t:Nat}(h:Rch (gE n em) s t):Nul n s t:=by
 have one:∀ {s t},t∈(gE n em).getD s []->Nul n s t:=fun {s t} h=>by
  obtain⟨e,h1,h2,h3,h4,rfl⟩:=(JhB w ok).1 h;by_cases c:e.op.1=2
  ·exact .call h1 h2 c (hem _ (h4.resolve_left fun q=>q c))
  ·exact .edge h1 h2 h3 c
 induction h with
 | one e=>exact one e
 | step _ e ih=>exact .step ih (one e)
theorem Rch.trans{G:List (List Nat)}{a b c:Nat}(h:Rch G a b)(k:Rch G b c):Rch G a c:=by
 have _:=w;have _:=ok;induction k with
 | one e=>exact .step h e
 | step _ e ih=>exact .step ih e
theorem Jo3{em:List Bool}(hem:∀ i,i<n.rules.length->Rch (gE n em) (stN n i) (spN n i)->em.getD i false=true){s t:Nat}(h:Nul n s t):Rch (gE n em) s t:=by
 induction h with
 | edge h1 h2 h3 h4=>exact .one ((JhB w ok).2 ⟨_,h1,h2,h3,.inl h4,rfl⟩)
 | call h1 h2 h3 _ ih =>
  have:=w.call h1 h2 h3;exact .one ((JhB w ok).2 ⟨_,h1,h2,by omega,.inr (hem _ (by omega) ih),rfl⟩)
 | step _ _ ih1 ih2=>exact Rch.trans w ok ih1 ih2
end
end Go.Proofs.Y
end
