/- Parts of the proof, laid together. -/
import Derived.Test.YtgbbhilflgekhaaGreatDoorVel
set_option linter.unusedVariables false
set_option linter.unusedSimpArgs false
set_option maxRecDepth 20000
set_option maxHeartbeats 16000000
section
namespace Go.Proofs.Y
noncomputable def JtB(p:Prop):Bool:=@decide p (Classical.propDecidable p)
theorem JdW{p:Prop}:JtB p=true↔p:=by unfold JtB;exact @decide_eq_true_iff _ (Classical.propDecidable _)
end Go.Proofs.Y
end
section
namespace Go.Proofs.Y
open Go Go.Ab
open Go.Proofs.Tryz renaming prog->Pg
theorem Jkl(s:List (Int × Int))(h:s.length<=2000000000)(hs:JjS s):JR Pg 65 [.vec (s.map Jbi) false] (.lit (.int .i64 (if JmQ s then 0 else 2))):=by
 refine Jn Tryz.func65 rfl Tryz.ntmps65 (rs:=[.tmp 2]) rfl (by simp) ?_;have fin:∀ h (b:Int),JcV h (.lit (.int .i64 b)) (.lit (.int .i64 b)):=fun h b=>Ja (.lit _);simp (disch:=omega) only[Wz,seval];refine Jp (fun i:Nat=>⟨[(3,.lit (.int .i64 (i:Int))),(0,.vec (s.map Jbi) false)],.none,42⟩) (fun i=>i<=s.length/\(∀ j,j<i->Jnw s j=true)) (fun i=>s.length - i) 0 (Jk (by simp[lk]) (fun _ _ q=>q) (fun _ _ q=>q) rfl rfl) ⟨Nat.zero_le _,fun j q=>absurd q (Nat.not_lt_zero _)⟩ ?_;rintro i ⟨hi,hiv⟩;refine Jj ?_;rcases Nat.lt_or_ge i s.length with hlt | hge
 ·have hr:=hs _ (Ju (l:=s) hlt);have hq:=hs (s.getD (i - 1) default) (Ju (l:=s) (by omega));have key:Jnw s i=decide ((s.getD i default).1<=(s.getD i default).2/\(i=0\/(s.getD (i - 1) default).2+1<(s.getD i default).1)):=rfl;obtain⟨r,ei⟩:∃ r,s.getD i default=r:=⟨_,rfl⟩;obtain⟨q,ep⟩:∃ q,s.getD (i - 1) default=q:=⟨_,rfl⟩;rw[ei] at hr key;rw[ep] at hq key;have c1:IntKind.i64.wrap r.1=r.1:=Jdy (by omega) (by omega);have c2:IntKind.i64.wrap q.2=q.2:=Jdy (by omega) (by omega);have c3:IntKind.i64.wrap (q.2+2)=q.2+2:=Jdy (by omega) (by omega);simp (disch:=omega) only[Wz,seval];refine Jx (n:=42) rfl (by decide) mixed ?_;by_cases h1:r.1<=r.2
  ·by_cases h2:i=0
   ·have hn:=Jav hiv (by rw[key];exact decide_eq_true ⟨h1,.inl h2⟩);simp (disch:=omega) only[Wz,seval,ei,ep,Jbi,c1,c2,c3];exact⟨i+1,⟨by omega,hn⟩,by omega,Jk (by simp[lk]) (fun _ _ q=>q) (fun _ _ q=>q) rfl rfl⟩
   ·have i1:((i:Int) - 1).toNat=i - 1:=by omega
    have i2:IntKind.i64.wrap ((i:Int) - 1)=(i:Int) - 1:=Jdy (by omega) (by omega);by_cases h3:q.2+1<r.1
    ·have hn:=Jav hiv (by rw[key];exact decide_eq_true ⟨h1,.inr h3⟩);simp (disch:=omega) only[Wz,seval,ei,ep,Jbi,c1,c2,c3,i1,i2];exact⟨i+1,⟨by omega,hn⟩,by omega,Jk (by simp[lk]) (fun _ _ q=>q) (fun _ _ q=>q) rfl rfl⟩
    ·have hn:JmQ s=false:=Jbn hlt (by rw[key];exact decide_eq_false fun x=>by rcases x.2 with x | x <;> omega)
     simp (disch:=omega) only[Wz,seval,ei,ep,Jbi,c1,c2,c3,i1,i2,hn,Bool.false_eq_true];exact fin _ _
  ·have hn:JmQ s=false:=Jbn hlt (by rw[key];exact decide_eq_false fun x=>h1 x.1);simp (disch:=omega) only[Wz,seval,ei,ep,Jbi,c1,c2,c3,hn,Bool.false_eq_true];exact fin _ _
 ·have e:i=s.length:=by omega
  subst e;have hn:JmQ s=true:=Jaz hiv;simp (disch:=omega) only[Wz,seval,hn];exact fin _ _
theorem Jnh(g:Gd)(h:g.kids.length<=2000000000):JR Pg 66 [.agg (JaZ g)] (.lit (.bool (noG g))):=by
 refine Jn Tryz.func66 rfl Tryz.ntmps66 (rs:=[.tmp 2]) rfl (by simp) ?_;have fin:∀ h (b:Bool),JcV h (.lit (.bool b)) (.lit (.bool b)):=fun h b=>Ja (.lit _);have hsE:=JB g.name ⟨#[]⟩;unfold noG;by_cases h1:g.op.1=0
 ·by_cases h2:g.n=0
  ·cases h3:decide (g.name=⟨#[]⟩) with
   | true =>
    by_cases h4:g.kids.length=0;all_goals
     simp (disch:=omega) only[Wz,seval,Jy,hsE,h3,Bool.true_and];exact fin _ _
   | false =>
    simp (disch:=omega) only[Wz,seval,Jy,hsE,h3,Bool.true_and,Bool.false_and];exact fin _ _
  ·simp (disch:=omega) only[Wz,seval,Jy,hsE,Bool.true_and,Bool.false_and];exact fin _ _
 ·simp (disch:=omega) only[Wz,seval,Jy,hsE,Bool.true_and,Bool.false_and];exact fin _ _
theorem Jez(op:Int):∀ (m:Nat) (g:Gd),gsz g<=m->m<=2000000000->JR Pg 68 [.agg (JaZ g),.lit (.int .i8 op)] (.lit (.bool (JaF op g)))
 | 0,g,h,_=>by have:=JcI g;omega
 | m+1,g,h,hm=>by
  have hl:=Jby g;refine Jn Tryz.func68 rfl Tryz.ntmps68 (rs:=[.tmp 4]) rfl (by simp) ?_;have fin:∀ h (b:Bool),JcV h (.lit (.bool b)) (.lit (.bool b)):=fun h b=>Ja (.lit _);rw[JgH];by_cases h1:g.op.1=op
  ·have e1:(g.op.1==op)=true:=Jgv h1;simp (disch:=omega) only[Wz,seval,Jy,e1,Bool.true_or];exact fin _ _
  ·have e1:(g.op.1==op)=false:=JjN h1;obtain⟨v,hv⟩:∃ v,g.kids.any (JaF op)=v:=⟨_,rfl⟩;simp (disch:=omega) only[Wz,seval,Jy,e1,hv,Bool.false_or];refine Jp (fun i:Nat=>⟨[(5,.lit (.int .i64 (i:Int))),(1,.lit (.int .i8 op)),(2,.ptr 0 0)],⟨[(0,gdB g)],[],1⟩,24⟩) (fun i=>i<=g.kids.length/\((g.kids.drop i).any (JaF op)=v)) (fun i=>g.kids.length - i) 0 (Jk (by simp[lk]) (fun _ _ q=>q) (fun _ _ q=>q) rfl rfl) ⟨Nat.zero_le _,by rw[List.drop_zero];exact hv⟩ ?_;rintro i ⟨hi,hiv⟩;refine Jj ?_;rcases Nat.lt_or_ge i g.kids.length with hlt | hge
   ·have hkm:=Ju (l:=g.kids) hlt;obtain⟨x,hx⟩:∃ x,g.kids.getD i default=x:=⟨_,rfl⟩;rw[Jbc hlt,List.any_cons,hx] at hiv;rw[hx] at hkm;have ih:=Jez op m x (by have:=Jbm hkm;omega) (by omega);simp (disch:=omega) only[Wz,seval,gdB,hx];refine Je Jov ih (Jb (.agg (JQ _)) (Jb (.lit _) Jl)) (.lit _) ?_;cases hc:JaF op x with
    | true =>
     have hiv:true=v:=by rw[<- hiv,hc];rfl
     subst hiv;simp (disch:=omega) only[Wz,seval];exact fin _ _
    | false =>
     have hiv:(g.kids.drop (i+1)).any (JaF op)=v:=by rw[<- hiv,hc];rfl
     simp (disch:=omega) only[Wz,seval];exact⟨i+1,⟨by omega,hiv⟩,by omega,Jk (by simp[lk]) (fun _ _ q=>q) (fun _ _ q=>q) rfl rfl⟩
   ·have e:i=g.kids.length:=by omega
    subst e;rw[List.drop_length] at hiv;have hiv:false=v:=hiv;subst hiv;simp (disch:=omega) only[Wz,seval,gdB];exact fin _ _
theorem JpD(n:Nt)(a:Int × Int)(h1:n.types.length<=2000000000)(h2:n.channels.length<=2000000000)(h3:n.modes.length<=2000000000):JR Pg 69 [.agg (Jh n),.agg (JA a)] (.lit (.bool (JmR n a))):=by
 refine Jn Tryz.func69 rfl Tryz.ntmps69 (rs:=[.tmp 4]) rfl (by simp) ?_;have fin:∀ h (b:Bool),JcV h (.lit (.bool b)) (.lit (.bool b)):=fun h b=>Ja (.lit _);unfold JmR;by_cases k2:a.1=2
 ·by_cases q1:1<=a.2
  ·by_cases q2:a.2<=(n.types.length:Int);all_goals
    simp (disch:=omega) only[Wz,seval,Jh,JA];exact fin _ _
  ·simp (disch:=omega) only[Wz,seval,Jh,JA];exact fin _ _
 by_cases k3:a.1=3
 ·by_cases q1:0<=a.2
  ·by_cases q2:a.2<(n.channels.length:Int);all_goals
    simp (disch:=omega) only[Wz,seval,Jh,JA];exact fin _ _
  ·simp (disch:=omega) only[Wz,seval,Jh,JA];exact fin _ _
 by_cases k4:a.1=4
 ·by_cases q1:0<=a.2
  ·by_cases q2:a.2<(n.modes.length:Int);all_goals
    simp (disch:=omega) only[Wz,seval,Jh,JA];exact fin _ _
  ·simp (disch:=omega) only[Wz,seval,Jh,JA];exact fin _ _
 by_cases k5:a.1=5
 ·by_cases q1:0<=a.2
  ·by_cases q2:a.2<(n.modes.length:Int);all_goals
    simp (disch:=omega) only[Wz,seval,Jh,JA];exact fin _ _
  ·simp (disch:=omega) only[Wz,seval,Jh,JA];exact fin _ _
 by_cases k0:a.1=0
 ·by_cases q1:a.2=0;all_goals
   simp (disch:=omega) only[Wz,seval,Jh,JA];exact fin _ _
 by_cases k1:a.1=1
 ·by_cases q1:a.2=0;all_goals
   simp (disch:=omega) only[Wz,seval,Jh,JA];exact fin _ _
 by_cases k6:a.1=6
 ·by_cases q1:a.2=0;all_goals
   simp (disch:=omega) only[Wz,seval,Jh,JA];exact fin _ _
 simp (disch:=omega) only[Wz,seval,Jh,JA];exact fin _ _
theorem JiS(n:Nt)(s r:Int)(h:n.states.length<=2000000000):JR Pg 50 [.agg (Jh n),.lit (.int .i64 s),.lit (.int .i64 r)] (.lit (.bool (ofN n s r))):=by
 refine Jn Tryz.func50 rfl Tryz.ntmps50 (rs:=[.tmp 6]) rfl (by simp) ?_;have fin:∀ h (b:Bool),JcV h (.lit (.bool b)) (.lit (.bool b)):=fun h b=>Ja (.lit _);unfold ofN;by_cases h1:0<=s
 ·by_cases h2:s<(n.states.length:Int)
  ·obtain⟨sn,rfl⟩:∃ sn:Nat,s=(sn:Int):=⟨s.toNat,by omega⟩;have hlt:sn<n.states.length:=by omega
   obtain⟨x,hx⟩:∃ x,n.states.getD sn default=x:=⟨_,rfl⟩;have e0:decide ((sn:Int)<n.states.length)=true:=decide_eq_true h2;simp (disch:=omega) only[Wz,seval,Jh,Jd,hx,e0,Bool.true_and];exact fin _ _
  ·simp (disch:=omega) only[Wz,seval,Jh,Bool.true_and,Bool.false_and];exact fin _ _
 ·simp (disch:=omega) only[Wz,seval,Jh,Bool.true_and,Bool.false_and];exact fin _ _
def JtC (l:List ByteArray)(f:Bool)(j:Nat):Bool:=if f=true/\j=0 then decide (l.getD 0 default=⟨#[]⟩) else JlT l j
def Jc7(l:List ByteArray)(f:Bool):Bool:=(List.range l.length).all (JtC l f)
theorem JiT{s:ByteArray}:s.size≠0↔s≠⟨#[]⟩:=by
 have h:=@JbU s;rw[JB] at h;constructor
 ·intro q e;rw[decide_eq_true e] at h;exact q (of_decide_eq_true h.symm)
 ·intro q e;rw[decide_eq_false q] at h;exact of_decide_eq_false h.symm e
theorem Jcv(l:List ByteArray)(fl f:Bool)(h:l.length<=2000000000)(hs:∀ s∈l,s.size<=9000000000000000000):JR Pg 49 [.vec (l.map JaG) fl,.lit (.bool f)] (.lit (.bool (Jc7 l f))):=by
 refine Jn Tryz.func49 rfl Tryz.ntmps49 (rs:=[.tmp 4]) rfl (by simp) ?_;have fin:∀ h (b:Bool),JcV h (.lit (.bool b)) (.lit (.bool b)):=fun h b=>Ja (.lit _);simp (disch:=omega) only[Wz,seval];refine Jp (fun i:Nat=>⟨[(5,.lit (.int .i64 (i:Int))),(0,.vec (l.map JaG) fl),(1,.lit (.bool f))],.none,50⟩) (fun i=>i<=l.length/\(∀ j,j<i->JtC l f j=true)) (fun i=>l.length - i) 0 (Jk (by simp[lk]) (fun _ _ q=>q) (fun _ _ q=>q) rfl rfl) ⟨Nat.zero_le _,fun j q=>absurd q (Nat.not_lt_zero _)⟩ ?_;rintro i ⟨hi,hiv⟩;refine Jj ?_;rcases Nat.lt_or_ge i l.length with hlt | hge
 ·have bad:JtC l f i=false->Jc7 l f=false:=fun q=>Jbn hlt q
  by_cases h0:f=true/\i=0
  ·obtain⟨rfl,rfl⟩:=h0;have key:JtC l true 0=decide (l.getD 0 default=⟨#[]⟩):=rfl;cases hd:decide (l.getD 0 default=⟨#[]⟩) with
   | true =>
    have hn:=Jav hiv (key.trans hd);simp (disch:=omega) only[Wz,seval,JaG,JB,hd];exact⟨1,⟨by omega,hn⟩,by omega,Jk (by simp[lk]) (fun _ _ q=>q) (fun _ _ q=>q) rfl rfl⟩
   | false =>
    simp (disch:=omega) only[Wz,seval,JaG,JB,hd,bad (key.trans hd)];exact fin _ _
  ·have key:JtC l f i=JlT l i:=if_neg h0;have hsz:=hs _ (Ju (l:=l) hlt);have k2:JlT l i=(decide (l.getD i default≠⟨#[]⟩) && (decide ((l.getD i default).size<=40) && !decide (l.getD i default∈l.take i))):=rfl;obtain⟨x,hx⟩:∃ x,l.getD i default=x:=⟨_,rfl⟩;rw[hx] at hsz k2;cases f with
   | false =>
    try have hi0:i≠0:=fun q=>h0 ⟨rfl,q⟩
    by_cases h1:x.size<1
    ·have hn:x=⟨#[]⟩:=by
      by_cases q:x=⟨#[]⟩
      ·exact q
      ·have:=JiT.2 q;omega
     have hb:=bad (key.trans (by rw[k2,decide_eq_false (fun q=>q hn)];rfl));simp (disch:=omega) only[Wz,seval,JaG,hx,hb];exact fin _ _
    have hne:x≠⟨#[]⟩:=JiT.1 (by omega);by_cases h2:x.size > 40
    ·have hb:=bad (key.trans (by rw[k2,decide_eq_false (by omega:¬ x.size<=40),decide_eq_true hne];rfl));simp (disch:=omega) only[Wz,seval,JaG,hx,hb];exact fin _ _
    rw[decide_eq_true hne,decide_eq_true (by omega:x.size<=40),Bool.true_and,Bool.true_and] at k2;simp (disch:=omega) only[Wz,seval,JaG,hx];refine Jp (fun k:Nat=>⟨[(6,.lit (.int .i64 (k:Int))),(5,.lit (.int .i64 (i:Int))),(0,.vec (l.map JaG) fl),(1,.lit (.bool false))],.none,50⟩) (fun k=>k<=i/\(∀ j,j<k->l.getD j default≠x)) (fun k=>i - k) 0 (Jk (by simp[lk]) (fun _ _ q=>q) (fun _ _ q=>q) rfl rfl) ⟨Nat.zero_le _,fun j q=>absurd q (Nat.not_lt_zero _)⟩ ?_;rintro k ⟨hk,hkv⟩;refine Jj ?_;rcases Nat.lt_or_ge k i with hk | hge
    ·have hy:(l.map JaG)[k]? = some (JaG (l.getD k default)):=Jr7 (by omega);have hmem:l.getD k default∈l.take i:=by
      rw[List.mem_take_iff_getElem];exact⟨k,by omega,by rw[List.getD_eq_getElem?_getD,List.getElem?_eq_getElem (by omega)];rfl⟩
     obtain⟨y,hy⟩:∃ y,l.getD k default=y:=⟨_,rfl⟩;rw[hy] at hmem;simp (disch:=omega) only[Wz,seval];refine Jx (n:=50) rfl (by decide) mixed ?_;cases hd:decide (y=x) with
     | true =>
      have hyx:=of_decide_eq_true hd;rw[hyx] at hmem;have hb:=bad (key.trans (by rw[k2,decide_eq_true hmem];rfl));simp (disch:=omega) only[Wz,seval,JaG,hx,hy,JB,hd,hb];exact fin _ _
     | false =>
      have hyx:=of_decide_eq_false hd;simp (disch:=omega) only[Wz,seval,JaG,hx,hy,JB,hd];exact⟨k+1,⟨by omega,fun j hj=>by rcases Nat.lt_succ_iff_lt_or_eq.1 hj with q | q;exact hkv j q;subst q;rw[hy];exact hyx⟩,by omega,Jk (by simp[lk]) (fun _ _ q=>q) (fun _ _ q=>q) rfl rfl⟩
    ·have e:k=i:=by omega
     subst e;have hn:JlT l k=true:=by
      rw[k2,Bool.not_eq_true',decide_eq_false_iff_not];intro hm;rw[List.mem_take_iff_getElem] at hm;obtain⟨j,hj,e⟩:=hm;exact hkv j (by omega) (by rw[List.getD_eq_getElem?_getD,List.getElem?_eq_getElem (by omega)];exact e)
     have hm:=Jav hiv (key.trans hn);simp (disch:=omega) only[Wz,seval];exact⟨k+1,⟨by omega,hm⟩,by omega,Jk (by simp[lk]) (fun _ _ q=>q) (fun _ _ q=>q) rfl rfl⟩
   | true =>
    try have hi0:i≠0:=fun q=>h0 ⟨rfl,q⟩
    by_cases h1:x.size<1
    ·have hn:x=⟨#[]⟩:=by
      by_cases q:x=⟨#[]⟩
      ·exact q
      ·have:=JiT.2 q;omega
     have hb:=bad (key.trans (by rw[k2,decide_eq_false (fun q=>q hn)];rfl));simp (disch:=omega) only[Wz,seval,JaG,hx,hb];exact fin _ _
    have hne:x≠⟨#[]⟩:=JiT.1 (by omega);by_cases h2:x.size > 40
    ·have hb:=bad (key.trans (by rw[k2,decide_eq_false (by omega:¬ x.size<=40),decide_eq_true hne];rfl));simp (disch:=omega) only[Wz,seval,JaG,hx,hb];exact fin _ _
    rw[decide_eq_true hne,decide_eq_true (by omega:x.size<=40),Bool.true_and,Bool.true_and] at k2;simp (disch:=omega) only[Wz,seval,JaG,hx];refine Jp (fun k:Nat=>⟨[(6,.lit (.int .i64 (k:Int))),(5,.lit (.int .i64 (i:Int))),(0,.vec (l.map JaG) fl),(1,.lit (.bool true))],.none,50⟩) (fun k=>k<=i/\(∀ j,j<k->l.getD j default≠x)) (fun k=>i - k) 0 (Jk (by simp[lk]) (fun _ _ q=>q) (fun _ _ q=>q) rfl rfl) ⟨Nat.zero_le _,fun j q=>absurd q (Nat.not_lt_zero _)⟩ ?_;rintro k ⟨hk,hkv⟩;refine Jj ?_;rcases Nat.lt_or_ge k i with hk | hge
    ·have hy:(l.map JaG)[k]? = some (JaG (l.getD k default)):=Jr7 (by omega);have hmem:l.getD k default∈l.take i:=by
      rw[List.mem_take_iff_getElem];exact⟨k,by omega,by rw[List.getD_eq_getElem?_getD,List.getElem?_eq_getElem (by omega)];rfl⟩
     obtain⟨y,hy⟩:∃ y,l.getD k default=y:=⟨_,rfl⟩;rw[hy] at hmem;simp (disch:=omega) only[Wz,seval];refine Jx (n:=50) rfl (by decide) mixed ?_;cases hd:decide (y=x) with
     | true =>
      have hyx:=of_decide_eq_true hd;rw[hyx] at hmem;have hb:=bad (key.trans (by rw[k2,decide_eq_true hmem];rfl));simp (disch:=omega) only[Wz,seval,JaG,hx,hy,JB,hd,hb];exact fin _ _
     | false =>
      have hyx:=of_decide_eq_false hd;simp (disch:=omega) only[Wz,seval,JaG,hx,hy,JB,hd];exact⟨k+1,⟨by omega,fun j hj=>by rcases Nat.lt_succ_iff_lt_or_eq.1 hj with q | q;exact hkv j q;subst q;rw[hy];exact hyx⟩,by omega,Jk (by simp[lk]) (fun _ _ q=>q) (fun _ _ q=>q) rfl rfl⟩
    ·have e:k=i:=by omega
     subst e;have hn:JlT l k=true:=by
      rw[k2,Bool.not_eq_true',decide_eq_false_iff_not];intro hm;rw[List.mem_take_iff_getElem] at hm;obtain⟨j,hj,e⟩:=hm;exact hkv j (by omega) (by rw[List.getD_eq_getElem?_getD,List.getElem?_eq_getElem (by omega)];exact e)
     have hm:=Jav hiv (key.trans hn);simp (disch:=omega) only[Wz,seval];exact⟨k+1,⟨by omega,hm⟩,by omega,Jk (by simp[lk]) (fun _ _ q=>q) (fun _ _ q=>q) rfl rfl⟩
 ·have e:i=l.length:=by omega
  subst e;have hn:Jc7 l f=true:=Jaz hiv;simp (disch:=omega) only[Wz,seval,hn];exact fin _ _
theorem JfG(l:List ByteArray):Jc7 l false=JcK l:=rfl
theorem JpE{l:List ByteArray}(h0:l.getD 0 default=⟨#[]⟩)(hl:0<l.length)(j:Nat):JlT l (j+1)=JlT (l.drop 1) j:=by
 unfold JlT;have e:(l.drop 1).getD j default=l.getD (j+1) default:=by
  rw[List.getD_eq_getElem?_getD,List.getElem?_drop,List.getD_eq_getElem?_getD,Nat.add_comm]
 rw[e];cases hd:decide (l.getD (j+1) default≠⟨#[]⟩) with
 | false=>rfl
 | true =>
  have hne:=of_decide_eq_true hd;congr 2
  obtain⟨x,m,rfl⟩:∃ x m,l=x :: m:=by
   cases l with
   | nil=>cases hl
   | cons x m=>exact⟨x,m,rfl⟩
  have hx:x=⟨#[]⟩:=h0;rw[List.take_succ_cons,List.drop_succ_cons,List.drop_zero];simp only[List.mem_cons];have:¬ (x :: m).getD (j+1) default=x:=by rw[hx] at hne ⊢;exact hne
  congr 1
  exact decide_eq_decide.2 (by simp only[this,false_or])
theorem Jg6(l:List ByteArray)(hl:0<l.length):Jc7 l true=(decide (l.getD 0 default=⟨#[]⟩) && JcK (l.drop 1)):=by
 unfold Jc7 JcK;obtain⟨k,hk⟩:∃ k,l.length=k+1:=⟨l.length - 1,by omega⟩;have hk1:(l.drop 1).length=k:=by rw[List.length_drop];omega
 rw[hk,hk1,List.range_succ_eq_map,List.all_cons,List.all_map];show (decide (l.getD 0 default=⟨#[]⟩) && _)=_;cases hd:decide (l.getD 0 default=⟨#[]⟩) with
 | false=>rfl
 | true =>
  have h0:=of_decide_eq_true hd;congr 2
  funext j
  show JtC l true (j+1)=_;unfold JtC;rw[if_neg (by omega)];exact JpE h0 hl j
def JtD(n:Nt):Bool:=decide (n.types.length<=200) && (decide (1<=n.channels.length) && (decide (n.channels.length<=20) && (decide (1<=n.modes.length) && (decide (n.modes.length<=20) && (decide (n.rules.length<=100) && decide (n.states.length<=4000))))))
theorem JpF(n:Nt):Jc4 n=(JtD n && ((List.range n.rules.length).all (Jed n) && (Jc7 n.types false && (Jc7 n.channels true && (Jc7 n.modes true && Jc7 (n.rules.map Nr.name) false))))):=by
 unfold Jc4 JtD JgI;rw[JfG,JfG];by_cases h1:n.types.length<=200;rotate_left
 ·simp[h1]
 by_cases h2:1<=n.channels.length;rotate_left
 ·simp[h2,show ¬ 0<n.channels.length by omega]
 by_cases h3:n.channels.length<=20;rotate_left
 ·simp[h3]
 by_cases h4:1<=n.modes.length;rotate_left
 ·simp[h4,show ¬ 0<n.modes.length by omega]
 by_cases h5:n.modes.length<=20;rotate_left
 ·simp[h5]
 rw[Jg6 _ (by omega),Jg6 _ (by omega)];by_cases h6:n.rules.length<=100;rotate_left
 ·simp[h6]
 by_cases h7:n.states.length<=4000;rotate_left
 ·simp[h7]
 have h2':0<n.channels.length:=by omega
 have h4':0<n.modes.length:=by omega
 simp[h1,h2,h3,h4,h5,h6,h7,h2',h4']
theorem Jlo(n:Nt)(ok:JcL n):Ja9 Pg 26 [.agg (Jh n)] (.lit (.bool (Jc4 n))):=by
 have h:=ok.rules;have ht:=ok.types;have hc:=ok.channels;have hm:=ok.modes;have hst:=ok.states;refine Jaa (JL Tryz.func26 rfl Tryz.ntmps26 (rs:=[.tmp 2]) rfl (by simp) ?_);have fin:∀ h (b:Bool),Jec h (.lit (.bool b)) (.lit (.bool b)):=fun h b=>Jaw (.lit _);obtain⟨v,hv⟩:∃ v,Jc4 n=v:=⟨_,rfl⟩;rw[hv];rw[JpF] at hv;unfold JtD at hv;rcases Decidable.em (n.types.length<=200) with hy | hy
 rotate_left
 ·rw[decide_eq_false hy] at hv;simp only[Bool.false_and,Bool.true_and] at hv;subst hv;simp (disch:=omega) only[Wz,seval,Jh,Lx];exact fin _ _
 rw[decide_eq_true hy] at hv;have:=hy;clear hy;rcases Decidable.em (1<=n.channels.length) with hy | hy
 rotate_left
 ·rw[decide_eq_false hy] at hv;simp only[Bool.false_and,Bool.true_and] at hv;subst hv;simp (disch:=omega) only[Wz,seval,Jh,Lx];exact fin _ _
 rw[decide_eq_true hy] at hv;have:=hy;clear hy;rcases Decidable.em (n.channels.length<=20) with hy | hy
 rotate_left
 ·rw[decide_eq_false hy] at hv;simp only[Bool.false_and,Bool.true_and] at hv;subst hv;simp (disch:=omega) only[Wz,seval,Jh,Lx];exact fin _ _
 rw[decide_eq_true hy] at hv;have:=hy;clear hy;rcases Decidable.em (1<=n.modes.length) with hy | hy
 rotate_left
 ·rw[decide_eq_false hy] at hv;simp only[Bool.false_and,Bool.true_and] at hv;subst hv;simp (disch:=omega) only[Wz,seval,Jh,Lx];exact fin _ _
 rw[decide_eq_true hy] at hv;have:=hy;clear hy;rcases Decidable.em (n.modes.length<=20) with hy | hy
 rotate_left
 ·rw[decide_eq_false hy] at hv;simp only[Bool.false_and,Bool.true_and] at hv;subst hv;simp (disch:=omega) only[Wz,seval,Jh,Lx];exact fin _ _
 rw[decide_eq_true hy] at hv;have:=hy;clear hy;rcases Decidable.em (n.rules.length<=100) with hy | hy
 rotate_left
 ·rw[decide_eq_false hy] at hv;simp only[Bool.false_and,Bool.true_and] at hv;subst hv;simp (disch:=omega) only[Wz,seval,Jh,Lx];exact fin _ _
 rw[decide_eq_true hy] at hv;have:=hy;clear hy;rcases Decidable.em (n.states.length<=4000) with hy | hy
 rotate_left
 ·rw[decide_eq_false hy] at hv;simp only[Bool.false_and,Bool.true_and] at hv;subst hv;simp (disch:=omega) only[Wz,seval,Jh,Lx];exact fin _ _
 rw[decide_eq_true hy] at hv;have:=hy;clear hy;simp only[Bool.true_and] at hv;simp (disch:=omega) only[Wz,seval,Jh,Lx];obtain⟨X,hX⟩:∃ X:Nat->List (List AV),∀ i,X i=((n.rules.map Nr.name).take i).map JaG:=⟨_,fun _=>rfl⟩;obtain⟨S,hS⟩:∃ S:Nat × Nat × Nat->St,∀ i t N,S (i,t,N)=⟨[(4,.lit (.int .i64 (i:Int))),(3,grA t (X i)),(1,.ptr 0 0)],⟨[(0,Jh n)],grT t 1 (X i),N⟩,98⟩:=⟨fun a=>⟨[(4,.lit (.int .i64 (a.1:Int))),(3,grA a.2.1 (X a.1)),(1,.ptr 0 0)],⟨[(0,Jh n)],grT a.2.1 1 (X a.1),a.2.2⟩,98⟩,fun _ _ _=>rfl⟩;refine Jp S (fun a=>a.1<=n.rules.length/\1<=a.2.2/\(0<a.1->1<=a.2.1/\a.2.1<a.2.2)/\∀ j,j<a.1->Jed n j=true) (fun a=>n.rules.length - a.1) (0,1,1) ?_ ⟨Nat.zero_le _,Nat.le_refl _,fun q=>absurd q (Nat.lt_irrefl _),fun j q=>absurd q (Nat.not_lt_zero _)⟩ ?_
 ·have e:X 0=[]:=by rw[hX];rfl
  rw[hS,e];exact Jk (by simp[lk,grA]) (fun _ _ q=>q) (fun _ _ q=>q) rfl rfl
 rintro⟨i,t,N⟩ ⟨hi,hN,htN,hno⟩;simp only at hi hN htN hno;rw[hS];refine Jj ?_;have hxl:(X i).length=i:=by rw[hX];simp;omega
 rcases Nat.lt_or_ge i n.rules.length with hlt | hge
 ·have key:Jed n i = !(decide (0<i) && ((n.rules.getD i default).lexer && !(n.rules.getD (i - 1) default).lexer)):=rfl;have hnext:X (i+1)=X i++[JaG (n.rules.getD i default).name]:=by
   rw[hX,hX,List.take_add_one,List.getElem?_map,List.getElem?_eq_getElem hlt];simp[List.getD_eq_getElem?_getD,List.getElem?_eq_getElem hlt]
  have bad:Jed n i=false->false=v:=fun q=>by rw[<- hv,Jbn hlt q];rfl
  obtain⟨r,hr⟩:∃ r,n.rules.getD i default=r:=⟨_,rfl⟩;rw[hr] at key hnext;cases hx:X i with
  | nil =>
   rw[hx] at hxl hnext;have h0:i=0:=hxl.symm;subst h0;have hfit:Ja7 1 16:=JN (by decide) (by decide);have hm:=Jav hno (key.trans (by rfl));cases hx1:r.lexer;all_goals
    simp (disch:=omega) only[Wz,seval,Jh,Jc,grA,grT,hr,hx1,hfit,List.mem_singleton,forall_eq,List.not_mem_nil,false_imp_iff,implies_true];refine⟨(1,N,N+1),⟨by omega,by simp only;omega,fun _=>⟨by simp only;omega,by simp only;omega⟩,hm⟩,by simp only;omega,?_⟩;rw[hS,hnext];exact Jk (by simp[lk,grA]) (fun _ _ q=>q) (fun _ _ q=>q) rfl rfl
  | cons x l =>
   rw[hx] at hxl hnext;simp only[List.length_cons] at hxl;obtain⟨ht1,ht2⟩:=htN (by omega);have hfit:Ja7 (l.length+1+1) 16:=JN (by omega) (by omega);have i1:((i:Int) - 1).toNat=i - 1:=by omega
   have i2:IntKind.i64.wrap ((i:Int) - 1)=(i:Int) - 1:=Jdy (by omega) (by omega);obtain⟨u,hu⟩:∃ u,n.rules.getD (i - 1) default=u:=⟨_,rfl⟩;have key1:Jed n i = !(r.lexer && !u.lexer):=by rw[key,hu,decide_eq_true (by omega),Bool.true_and]
   have nxt:Jed n i=true->∀ σ:St,lk σ.slots 4=some (.lit (.int .i64 ((i:Int)+1)))->lk σ.slots 3=some (.own t (l.length+1+1))->lk σ.slots 1=some (.ptr 0 0)->lk σ.hp.boxes 0=some (Jh n)->lk σ.hp.toks t=some ⟨x :: l++[JaG r.name],0,1⟩->σ.hp.nx=N->σ.nt=98->∃ x',(x'.1<=n.rules.length/\1<=x'.2.2/\(0<x'.1->1<=x'.2.1/\x'.2.1<x'.2.2)/\∀ j,j<x'.1->Jed n j=true)/\n.rules.length - x'.1<n.rules.length - i/\St.wk σ (S x'):=fun hh σ e1 e2 e3 e4 e5 e6 e7=>by
    refine⟨(i+1,t,N),⟨by simp only;omega,by simp only;omega,fun _=>⟨ht1,by simp only;omega⟩,Jav hno hh⟩,by simp only;omega,?_⟩;rw[hS,hnext];have e2':lk σ.slots 3=some (grA t (x :: l++[JaG r.name])):=by rw[e2];simp[grA]
    refine Jk (Jb (by rw[e1];simp) (Jb e2' (Jb e3 Jl))) ?_ ?_ e6.symm e7.symm
    ·intro i c q;simp only[lk] at q;split at q
     ·rename_i q1;subst q1;rw[e4];exact q
     ·cases q
    ·intro i c q;simp only[List.cons_append,grT,lk] at q;split at q
     ·rename_i q1;subst q1;rw[e5];exact q
     ·cases q
   cases hx1:r.lexer
   ·simp (disch:=omega) only[Wz,seval,Jh,Jc,grA,grT,hx,hr,hx1,hfit,List.mem_singleton,forall_eq,List.not_mem_nil,false_imp_iff,implies_true];exact nxt (by rw[key1,hx1];rfl) _ rfl rfl rfl rfl (by simp[lk,JaG]) rfl rfl
   ·cases hy:u.lexer
    ·simp (disch:=omega) only[Wz,seval,Jh,Jc,grA,grT,hx,hr,hu,hx1,hy,i1,i2,hfit,List.mem_singleton,forall_eq,List.not_mem_nil,false_imp_iff,implies_true];have hb:=bad (by rw[key1,hx1,hy];rfl);subst hb;exact fin _ _
    ·simp (disch:=omega) only[Wz,seval,Jh,Jc,grA,grT,hx,hr,hu,hx1,hy,i1,i2,hfit,List.mem_singleton,forall_eq,List.not_mem_nil,false_imp_iff,implies_true];exact nxt (by rw[key1,hx1,hy];rfl) _ rfl rfl rfl rfl (by simp[lk,JaG]) rfl rfl
 ·have e:i=n.rules.length:=by omega
  subst e;have e1:(List.range n.rules.length).all (Jed n)=true:=Jaz hno;rw[e1,Bool.true_and] at hv;have hX1:X n.rules.length=(n.rules.map Nr.name).map JaG:=by rw[hX,List.take_of_length_le (by simp)]
  have pv:∀ (l:List ByteArray) b,∀ v∈[AV.vec (l.map JaG) false,.lit (.bool b)],Ab.Pure v:=fun l b=>Jb (.vec (Ji Jao _)) (Jb (.lit _) Jl);simp (disch:=omega) only[Wz,seval,Jh];refine Je JjF (Jcv n.types false false (by omega) ok.typ) (pv _ _) (.lit _) ?_;cases h1:Jc7 n.types false with
  | false =>
   rw[h1] at hv;have hv:false=v:=hv;subst hv;simp (disch:=omega) only[Wz,seval];exact fin _ _
  | true =>
  rw[h1,Bool.true_and] at hv;simp (disch:=omega) only[Wz,seval,Jh];refine Je JjF (Jcv n.channels false true (by omega) ok.chan) (pv _ _) (.lit _) ?_;cases h2:Jc7 n.channels true with
  | false =>
   rw[h2] at hv;have hv:false=v:=hv;subst hv;simp (disch:=omega) only[Wz,seval];exact fin _ _
  | true =>
  rw[h2,Bool.true_and] at hv;simp (disch:=omega) only[Wz,seval,Jh];refine Je JjF (Jcv n.modes false true (by omega) ok.mode) (pv _ _) (.lit _) ?_;cases h3:Jc7 n.modes true with
  | false =>
   rw[h3] at hv;have hv:false=v:=hv;subst hv;simp (disch:=omega) only[Wz,seval];exact fin _ _
  | true =>
  rw[h3,Bool.true_and] at hv;have un:=Jcv (n.rules.map Nr.name) false false (by simp;omega) (fun s hs=>by obtain⟨r,hr,rfl⟩:=List.mem_map.1 hs;exact ok.name r hr);have un':=Jcv (n.rules.map Nr.name) true false (by simp;omega) (fun s hs=>by obtain⟨r,hr,rfl⟩:=List.mem_map.1 hs;exact ok.name r hr);rw[<- hX1] at un un';rw[hv] at un un';cases hx:X n.rules.length with
  | nil =>
   rw[hx] at un';simp (disch:=omega) only[Wz,seval,Jh,grA,grT];refine Je JjF un' (Jb (.vec Jl) (Jb (.lit _) Jl)) (.lit _) ?_;simp (disch:=omega) only[Wz,seval];exact fin _ _
  | cons x l =>
   rw[hx] at un hxl;simp (disch:=omega) only[Wz,seval,Jh,grA,grT];refine Jcz.freeze (t:=t) (k:=⟨x :: l,0,1⟩) (args1:=[.vec (x :: l) false,.lit (.bool false)]) (by simp[lk]) (fun g g' e c=>Jv c (Jv (JF e _) JaV)) ?_;refine Je JjF un (Jb (.vec (by rw[<- hx,hX];exact Ji Jao _)) (Jb (.lit _) Jl)) (.lit _) ?_;simp (disch:=omega) only[Wz,seval];exact fin _ _
def Jeh(n:Nt)(i:Nat)(r:Nr):Bool:=if Jfa r then decide (1<=r.type/\r.type<=(n.types.length:Int)) && !decide (r.type∈Jir n i) else decide (r.type=0)
theorem Jmc(n:Nt)(i:Nat)(r:Nr)(hr:n.rules.getD i default=r):Jee n i=(ofN n r.start i && (ofN n r.stop i && (decide (r.start≠r.stop) && (decide ((n.states.getD r.stop.toNat default).edges.length=0) &&
  (!(!r.lexer && (r.frag || (r.lz || decide (r.mode≠0)))) && (!(r.lexer && r.left) && (decide (0<=r.mode/\r.mode<(n.modes.length:Int)) && Jeh n i r))))))):=by
 subst hr;rfl
theorem JtE{n:Nt}{i:Nat}(h:∀ j,j<i->Jee n j=true)(hi:i<=n.rules.length){t:Int}(ht:1<=t):t∈Jir n i↔∃ k,k<i/\(n.rules.getD k default).type=t:=by
 unfold Jir;constructor
 ·intro hm;obtain⟨r,hr,e⟩:=List.mem_map.1 hm;obtain⟨k,hk,e2⟩:=List.mem_take_iff_getElem.1 (List.mem_filter.1 hr).1;exact⟨k,by omega,by rw[List.getD_eq_getElem?_getD,List.getElem?_eq_getElem (by omega)];show (n.rules[k]).type=t;rw[e2];exact e⟩
 ·rintro⟨k,hk,e⟩;have hkl:k<n.rules.length:=by omega
  have hR:=h k hk;rw[Jmc n k _ rfl] at hR;simp only[Bool.and_eq_true] at hR;have hT:=hR.2.2.2.2.2.2.2;have hty:Jfa (n.rules.getD k default)=true:=by
   unfold Jeh at hT;cases hd:Jfa (n.rules.getD k default) with
   | true=>rfl
   | false=>rw[hd] at hT;simp only[Bool.false_eq_true,if_false,decide_eq_true_eq] at hT;omega
  have eg:n.rules.getD k default=n.rules[k]:=by rw[List.getD_eq_getElem?_getD,List.getElem?_eq_getElem hkl];rfl
  rw[eg] at e hty;exact List.mem_map.2 ⟨n.rules[k],List.mem_filter.2 ⟨List.mem_take_iff_getElem.2 ⟨k,by omega,rfl⟩,hty⟩,e⟩
theorem lkA{x:List AV}{y:List (Nat × List AV)}(_h:True):∀ i c,lk [(0,x)] i=some c->lk ((0,x) :: y) i=some c:=fun i c q=>by
 simp only[lk] at q ⊢;split at q
 ·rename_i e;rw[if_pos e];exact q
 ·cases q
theorem Jlp(n:Nt)(ok:JcL n):JR Pg 27 [.agg (Jh n)] (.lit (.bool (Jdz n))):=by
 have h:=ok.rules;have ht:=ok.types;have hm:=ok.modes;have hst:=ok.states;refine Jn Tryz.func27 rfl Tryz.ntmps27 (rs:=[.tmp 2]) rfl (by simp) ?_;have fin:∀ h (b:Bool),JcV h (.lit (.bool b)) (.lit (.bool b)):=fun h b=>Ja (.lit _);simp (disch:=omega) only[Wz,seval];refine Jp (fun a:Nat × Nat=>⟨[(3,.lit (.int .i64 (a.1:Int))),(1,.ptr 0 0)],⟨[(0,Jh n)],[],a.2⟩,122⟩) (fun a=>a.1<=n.rules.length/\1<=a.2/\∀ j,j<a.1->Jee n j=true) (fun a=>n.rules.length - a.1) (0,1) (Jk (by simp[lk]) (fun _ _ q=>q) (fun _ _ q=>q) rfl rfl) ⟨Nat.zero_le _,Nat.le_refl _,fun j q=>absurd q (Nat.not_lt_zero _)⟩ ?_;rintro⟨i,N⟩ ⟨hi,hN,hno⟩;simp only at hi hN hno;refine Jj ?_;rcases Nat.lt_or_ge i n.rules.length with hlt | hge
 ·obtain⟨r,hr⟩:∃ r,n.rules.getD i default=r:=⟨_,rfl⟩;have key:=Jmc n i r hr;have bad:Jee n i=false->Jdz n=false:=fun q=>Jbn hlt q
  have pn:=Jab n;have pv:∀ a b:Int,∀ v∈[AV.agg (Jh n),.lit (.int .i64 a),.lit (.int .i64 b)],Ab.Pure v:=fun a b=>Jb (.agg pn) (Jb (.lit _) (Jb (.lit _) Jl));have o1:=JiS n r.start (i:Int) (by omega);have o2:=JiS n r.stop (i:Int) (by omega);have pv1:=pv r.start i;have pv2:=pv r.stop i;unfold Jh at o1 o2 pv1 pv2;simp (disch:=omega) only[Wz,seval,Jh,hr,Jc,Lx];refine Je Jou o1 pv1 (.lit _) ?_;cases h1:ofN n r.start i with
  | false =>
   have hb:=bad (by rw[key,h1];rfl);simp (disch:=omega) only[Wz,seval,hb];exact fin _ _
  | true =>
  simp (disch:=omega) only[Wz,seval,Jh,Jc];refine Je Jou o2 pv2 (.lit _) ?_;cases h2:ofN n r.stop i with
  | false =>
   have hb:=bad (by rw[key,h1,h2];rfl);simp (disch:=omega) only[Wz,seval,hb];exact fin _ _
  | true =>
  obtain⟨b1,b2⟩:=JdS h2;obtain⟨sp,hsp⟩:∃ sp:Nat,r.stop=(sp:Int):=⟨r.stop.toNat,by omega⟩;have hspl:sp<n.states.length:=by omega
  obtain⟨s,hs⟩:∃ s,n.states.getD sp default=s:=⟨_,rfl⟩;have hsl:s.edges.length<=2000000000:=by
   have:=(ok.edges _ (Ju hspl)).1;rw[hs] at this;omega
  rw[hsp,Int.toNat_natCast,hs] at key;rw[hsp] at h2;by_cases h3:r.start=(sp:Int)
  ·have hb:=bad (by rw[key];simp[h3]);simp (disch:=omega) only[Wz,seval,Jh,Jc,Jd,hsp,hs,hb];exact fin _ _
  by_cases h4:¬ s.edges.length=0
  ·have hb:=bad (by rw[key];simp only[decide_eq_false h4,Bool.and_false,Bool.false_and]);simp (disch:=omega) only[Wz,seval,Jh,Jc,Jd,hsp,hs,hb];exact fin _ _
  have h4:s.edges.length=0:=by omega
  rw[h1,h2,decide_eq_true (by omega:r.start≠(sp:Int)),decide_eq_true h4,Bool.true_and,Bool.true_and,Bool.true_and,Bool.true_and] at key;cases hlx:r.lexer with
  | false =>
   cases hfr:r.frag with
   | true =>
    have hb:=bad (by rw[key];unfold Jeh Jfa;simp[hlx,hfr]);simp (disch:=omega) only[Wz,seval,Jh,Jc,Jd,hsp,hs,hlx,hfr,hb];exact fin _ _
   | false =>
   cases hlz:r.lz with
   | true =>
    have hb:=bad (by rw[key];unfold Jeh Jfa;simp[hlx,hfr,hlz]);simp (disch:=omega) only[Wz,seval,Jh,Jc,Jd,hsp,hs,hlx,hfr,hlz,hb];exact fin _ _
   | false =>
   by_cases hm0:¬ r.mode=0
   ·have hb:=bad (by rw[key];unfold Jeh Jfa;simp[hlx,hfr,hlz,hm0]);simp (disch:=omega) only[Wz,seval,Jh,Jc,Jd,hsp,hs,hlx,hfr,hlz,hb];exact fin _ _
   have hm0:r.mode=0:=by omega
   by_cases hmm:¬ 0<n.modes.length
   ·have hb:=bad (by rw[key];unfold Jeh Jfa;simp[hlx,hfr,hlz,hm0,hmm]);simp (disch:=omega) only[Wz,seval,Jh,Jc,Jd,hsp,hs,hlx,hfr,hlz,hm0,hb];exact fin _ _
   have hmm:0<n.modes.length:=by omega
   by_cases hty:¬ r.type=0
   ·have hb:=bad (by rw[key];unfold Jeh Jfa;simp[hlx,hfr,hlz,hm0,hmm,hty]);simp (disch:=omega) only[Wz,seval,Jh,Jc,Jd,hsp,hs,hlx,hfr,hlz,hm0,hb];exact fin _ _
   have hty:r.type=0:=by omega
   have hg:Jee n i=true:=by rw[key];unfold Jeh Jfa;simp[hlx,hfr,hlz,hm0,hmm,hty]
   simp (disch:=omega) only[Wz,seval,Jh,Jc,Jd,hsp,hs,hlx,hfr,hlz,hm0];exact⟨(i+1,N+1),⟨by simp only;omega,by simp only;omega,Jav hno hg⟩,by simp only;omega,Jk (by simp[lk]) (lkA trivial) (fun _ _ q=>q) rfl rfl⟩
  | true =>
   cases hle:r.left with
   | true =>
    have hb:=bad (by rw[key];unfold Jeh Jfa;simp[hlx,hle]);simp (disch:=omega) only[Wz,seval,Jh,Jc,Jd,hsp,hs,hlx,hle,hb];exact fin _ _
   | false =>
   by_cases m1:¬ 0<=r.mode
   ·have hb:=bad (by rw[key];unfold Jeh Jfa;simp[hlx,hle,m1]);simp (disch:=omega) only[Wz,seval,Jh,Jc,Jd,hsp,hs,hlx,hle,hb];exact fin _ _
   have m1:0<=r.mode:=by omega
   by_cases m2:¬ r.mode<(n.modes.length:Int)
   ·have hb:=bad (by rw[key];unfold Jeh Jfa;simp[hlx,hle,m1,m2]);simp (disch:=omega) only[Wz,seval,Jh,Jc,Jd,hsp,hs,hlx,hle,hb];exact fin _ _
   have m2:r.mode<(n.modes.length:Int):=by omega
   cases hfr:r.frag with
   | true =>
    by_cases hty:¬ r.type=0
    ·have hb:=bad (by rw[key];unfold Jeh Jfa;simp[hlx,hfr,hle,m1,m2,hty]);simp (disch:=omega) only[Wz,seval,Jh,Jc,Jd,hsp,hs,hlx,hfr,hle,hb];exact fin _ _
    have hty:r.type=0:=by omega
    have hg:Jee n i=true:=by rw[key];unfold Jeh Jfa;simp[hlx,hfr,hle,m1,m2,hty]
    simp (disch:=omega) only[Wz,seval,Jh,Jc,Jd,hsp,hs,hlx,hfr,hle];exact⟨(i+1,N+1),⟨by simp only;omega,by simp only;omega,Jav hno hg⟩,by simp only;omega,Jk (by simp[lk]) (lkA trivial) (fun _ _ q=>q) rfl rfl⟩
   | false =>
    by_cases t1:¬ 1<=r.type
    ·have hb:=bad (by rw[key];unfold Jeh Jfa;simp[hlx,hfr,hle,m1,m2,t1]);simp (disch:=omega) only[Wz,seval,Jh,Jc,Jd,hsp,hs,hlx,hfr,hle,hb];exact fin _ _
    have t1:1<=r.type:=by omega
    by_cases t2:¬ r.type<=(n.types.length:Int)
    ·have hb:=bad (by rw[key];unfold Jeh Jfa;simp[hlx,hfr,hle,m1,m2,t1,t2]);simp (disch:=omega) only[Wz,seval,Jh,Jc,Jd,hsp,hs,hlx,hfr,hle,hb];exact fin _ _
    have t2:r.type<=(n.types.length:Int):=by omega
    have key2:Jee n i = !decide (r.type∈Jir n i):=by rw[key];unfold Jeh Jfa;simp[hlx,hfr,hle,m1,m2,t1,t2]
    have tm:=JtE hno hi t1;simp (disch:=omega) only[Wz,seval,Jh,Jc,Jd,hsp,hs,hlx,hfr,hle];refine Jp (fun k:Nat=>⟨[(5,.lit (.int .i64 (k:Int))),(3,.lit (.int .i64 (i:Int))),(1,.ptr 0 0),(4,.ptr N 0)],⟨[(0,Jh n),(N,Jc r)],[],N+1⟩,122⟩) (fun k=>k<=i/\∀ j,j<k->(n.rules.getD j default).type≠r.type) (fun k=>i - k) 0 (Jk (by simp[lk]) ?_ (fun _ _ q=>q) rfl rfl) ⟨Nat.zero_le _,fun j q=>absurd q (Nat.not_lt_zero _)⟩ ?_
    ·intro p c q;rw[<- q];simp[Jc,Jh,hlx,hfr,hle,hsp]
    rintro k ⟨hk,hkv⟩;refine Jj ?_;rcases Nat.lt_or_ge k i with hkl | hge
    ·obtain⟨u,hu⟩:∃ u,n.rules.getD k default=u:=⟨_,rfl⟩;simp (disch:=omega) only[Wz,seval,Jh,Jc];refine Jx (n:=122) rfl (by decide) mixed ?_;by_cases hx:u.type=r.type
     ·have hb:=bad (by rw[key2,decide_eq_true (tm.2 ⟨k,hkl,by rw[hu];exact hx⟩)];rfl);simp (disch:=omega) only[Wz,seval,Jh,Jc,hu,hb];exact fin _ _
     ·simp (disch:=omega) only[Wz,seval,Jh,Jc,hu];exact⟨k+1,⟨by omega,fun j hj=>by rcases Nat.lt_succ_iff_lt_or_eq.1 hj with q | q;exact hkv j q;subst q;rw[hu];exact hx⟩,by omega,Jk (by simp[lk]) (fun _ _ q=>q) (fun _ _ q=>q) rfl rfl⟩
    ·have e:k=i:=by omega
     subst e;have hg:Jee n k=true:=by
      rw[key2,decide_eq_false (fun q=>by obtain⟨j,h1,h2⟩:=tm.1 q;exact hkv j h1 h2)];rfl
     simp (disch:=omega) only[Wz,seval];exact⟨(k+1,N+1),⟨by simp only;omega,by simp only;omega,Jav hno hg⟩,by simp only;omega,Jk (by simp[lk]) (lkA trivial) (fun _ _ q=>q) rfl rfl⟩
 ·have e:i=n.rules.length:=by omega
  subst e;have hn:Jdz n=true:=Jaz hno;simp (disch:=omega) only[Wz,seval,Jh,hn];exact fin _ _
def JS(n:Nt)(i:Nat)(s:Sta)(e:Ed):Bool :=
 ofN n e.to s.rule && (JmQ e.set && (decide (0<=e.op.1/\e.op.1<8) && ((decide (e.op.1=1)==decide (0<e.set.length)) && ((decide (e.op.1=7)==decide (0<e.acts.length)) &&
  ((decide (e.op.1=4)==decide ((i:Int)=(n.rules.getD s.rule.toNat default).start)) && ((decide (e.op.1=3) || noG e.g) && JM n (n.rules.getD s.rule.toNat default) s.rule e))))))
theorem lkB{x z w:List AV}{y:List AV}{p:Nat}{c:List AV}(q:lk [(0,x),(2,z),(3,w)] p=some c)(_h:True):lk [(0,x),(1,y),(2,z),(3,w)] p=some c:=by
 simp only[lk] at q ⊢;by_cases e0:0=p
 ·subst e0;simpa using q
 ·by_cases e2:2=p
  ·subst e2;simpa using q
  ·by_cases e3:3=p
   ·subst e3;simpa using q
   ·simp[e0,e2,e3] at q
theorem Jni(n:Nt)(ok:JcL n)(i:Nat)(s:Sta)(e:Ed)(eok:JBV e)(h0:0<=s.rule)(h0':s.rule<(n.rules.length:Int)) :
  JR Pg 51 [.agg (Jh n),.agg (Jd s),.lit (.int .i64 (i:Int)),.agg (Jo e)] (.lit (.bool (JS n i s e))):=by
 have bb:((true==true)=true)/\((true==false)=false)/\((false==true)=false)/\((false==false)=true):=⟨rfl,rfl,rfl,rfl⟩;have ht:=ok.types;have hch:=ok.channels;have hmo:=ok.modes;have hru:=ok.rules;have hst:=ok.states;have hse:=eok.set;have hac:=eok.acts;have hgz:=eok.g;refine Jn Tryz.func51 rfl Tryz.ntmps51 (rs:=[.tmp 8]) rfl (by simp) ?_;have fin:∀ h (b:Bool),JcV h (.lit (.bool b)) (.lit (.bool b)):=fun h b=>Ja (.lit _);obtain⟨v,hv⟩:∃ v,JS n i s e=v:=⟨_,rfl⟩;rw[hv];obtain⟨sr,hsr⟩:∃ sr:Nat,s.rule=(sr:Int):=⟨s.rule.toNat,by omega⟩;have hsl:sr<n.rules.length:=by omega
 obtain⟨r,hr⟩:∃ r,n.rules.getD sr default=r:=⟨_,rfl⟩;have o1:=JiS n e.to s.rule (by omega);have po:∀ x∈[AV.agg (Jh n),.lit (.int .i64 e.to),.lit (.int .i64 s.rule)],Ab.Pure x:=Jb (.agg (Jab n)) (Jb (.lit _) (Jb (.lit _) Jl));have sc:=Jkl e.set (by omega) eok.rng;have psx:∀ x∈[AV.vec (e.set.map Jbi) false],Ab.Pure x:=Jb (.vec (Ji Jcl _)) Jl;have zz:=Jnh e.g (by have:=Jby e.g;omega);have pz:∀ x∈[AV.agg (JaZ e.g)],Ab.Pure x:=Jb (.agg (JQ _)) Jl;have gc:=JfF e.g (by omega) eok.gd;have q14:=Jez 14 (gsz e.g) e.g (Nat.le_refl _) (by omega);have q13:=Jez 13 (gsz e.g) e.g (Nat.le_refl _) (by omega);have pq:∀ k:Int,∀ x∈[AV.agg (JaZ e.g),.lit (.int .i8 k)],Ab.Pure x:=fun k=>Jb (.agg (JQ _)) (Jb (.lit _) Jl);rw[Jy] at zz pz gc q14 q13;simp only[Jy] at pq;unfold Jh at o1 po;rw[hsr] at o1 po;unfold JS at hv;rw[hsr,Int.toNat_natCast,hr] at hv;simp (disch:=omega) only[Wz,seval,Jh,Jc,Jd,Jo,hsr,hr];refine Je Jou o1 po (.lit _) ?_;cases h1:ofN n e.to sr with
 | false =>
  have hb:false=v:=by rw[<- hv,h1];rfl
  subst hb;simp (disch:=omega) only[Wz,seval,Jh,Jc,Jd,Jo];exact fin _ _
 | true =>
 simp (disch:=omega) only[Wz,seval,Jh,Jc,Jd,Jo];refine Je Jye sc psx (.lit _) ?_;cases h2:JmQ e.set with
 | false =>
  have hb:false=v:=by rw[<- hv,h2];simp
  subst hb;simp (disch:=omega) only[Wz,seval,Jh,Jc,Jd,Jo,Bool.false_eq_true];exact fin _ _
 | true =>
 rw[h1,h2,Bool.true_and,Bool.true_and] at hv;rcases(by omega:e.op.1=0\/e.op.1=1\/e.op.1=2\/e.op.1=3\/e.op.1=4\/e.op.1=5\/e.op.1=6\/e.op.1=7\/(e.op.1<0\/7<e.op.1)) with hop | hop | hop | hop | hop | hop | hop | hop | hop
 ·skip
  by_cases l1:0<e.set.length
  ·skip
   have hb:false=v:=by rw[<- hv];simp[JS,JM,hop,h1,h2,l1]
   subst hb;simp (disch:=omega) only[Wz,seval,bb,Jh,Jc,Jd,Jo,hop];exact fin _ _
  have l1:e.set.length=0:=by omega
  by_cases l2:0<e.acts.length
  ·skip
   have hb:false=v:=by rw[<- hv];simp[JS,JM,hop,h1,h2,l1,l2]
   subst hb;simp (disch:=omega) only[Wz,seval,bb,Jh,Jc,Jd,Jo,hop];exact fin _ _
  have l2:e.acts.length=0:=by omega
  simp (disch:=omega) only[Wz,seval,bb,Jh,Jc,Jd,Jo,hop];refine Je Jft zz pz (.lit _) ?_;cases hz:noG e.g with
  | false =>
   have hb:false=v:=by rw[<- hv];simp[JS,JM,hop,h1,h2,l1,l2,hz]
   subst hb;simp (disch:=omega) only[Wz,seval,bb,Jh,Jc,Jd,Jo,hop];exact fin _ _
  | true =>
  by_cases st:(i:Int)=r.start
  ·skip
   have hb:false=v:=by rw[<- hv];simp[JS,JM,hop,h1,h2,l1,l2,hz,st]
   subst hb;simp (disch:=omega) only[Wz,seval,bb,Jh,Jc,Jd,Jo,hop];exact fin _ _
  by_cases k1:e.n=0
  ·by_cases k2:e.level=0
   ·skip
    have hb:true=v:=by rw[<- hv];simp[JS,JM,hop,h1,h2,l1,l2,hz,st,kd0,k1,k2]
    subst hb;simp (disch:=omega) only[Wz,seval,bb,Jh,Jc,Jd,Jo,hop];exact fin _ _
   ·skip
    have hb:false=v:=by rw[<- hv];simp[JS,JM,hop,h1,h2,l1,l2,hz,st,kd0,k1,k2]
    subst hb;simp (disch:=omega) only[Wz,seval,bb,Jh,Jc,Jd,Jo,hop];exact fin _ _
  ·skip
   have hb:false=v:=by rw[<- hv];simp[JS,JM,hop,h1,h2,l1,l2,hz,st,kd0,k1]
   subst hb;simp (disch:=omega) only[Wz,seval,bb,Jh,Jc,Jd,Jo,hop];exact fin _ _
 ·skip
  by_cases l1:¬ 0<e.set.length
  ·skip
   have hb:false=v:=by rw[<- hv];simp[JS,JM,hop,h1,h2,l1]
   subst hb;simp (disch:=omega) only[Wz,seval,bb,Jh,Jc,Jd,Jo,hop];exact fin _ _
  have l1:0<e.set.length:=by omega
  by_cases l2:0<e.acts.length
  ·skip
   have hb:false=v:=by rw[<- hv];simp[JS,JM,hop,h1,h2,l1,l2]
   subst hb;simp (disch:=omega) only[Wz,seval,bb,Jh,Jc,Jd,Jo,hop];exact fin _ _
  have l2:e.acts.length=0:=by omega
  simp (disch:=omega) only[Wz,seval,bb,Jh,Jc,Jd,Jo,hop];refine Je Jft zz pz (.lit _) ?_;cases hz:noG e.g with
  | false =>
   have hb:false=v:=by rw[<- hv];simp[JS,JM,hop,h1,h2,l1,l2,hz]
   subst hb;simp (disch:=omega) only[Wz,seval,bb,Jh,Jc,Jd,Jo,hop];exact fin _ _
  | true =>
  by_cases st:(i:Int)=r.start
  ·skip
   have hb:false=v:=by rw[<- hv];simp[JS,JM,hop,h1,h2,l1,l2,hz,st]
   subst hb;simp (disch:=omega) only[Wz,seval,bb,Jh,Jc,Jd,Jo,hop];exact fin _ _
  have hw:IntKind.i32.wrap (n.types.length:Int)=(n.types.length:Int):=IntWalk.i32_in _ ⟨by omega,by omega⟩;have i1:((e.set.length:Int) - 1).toNat=e.set.length - 1:=by omega
  have i2:IntKind.i64.wrap ((e.set.length:Int) - 1)=(e.set.length:Int) - 1:=Jdy (by omega) (by omega);obtain⟨a,ha⟩:∃ a,e.set.getD 0 default=a:=⟨_,rfl⟩;obtain⟨b,hb1⟩:∃ b,e.set.getD (e.set.length - 1) default=b:=⟨_,rfl⟩;have kk:kd1 n r e=(decide (e.n=0/\e.level=0) && (decide ((if r.lexer then 0 else 1)<=a.1) && decide (b.2<=(if r.lexer then 1114111 else (n.types.length:Int))))):=by unfold kd1;rw[ha,hb1]
  cases hlx:r.lexer with
  | true =>
   rw[hlx] at kk;simp only[if_true,if_false,Bool.false_eq_true] at kk;by_cases a1:¬ 0<=a.1
   ·skip
    have hb:false=v:=by rw[<- hv];simp[JS,JM,hop,h1,h2,l1,l2,hz,st,kk,a1]
    subst hb;simp (disch:=omega) only[Wz,seval,bb,Jh,Jc,Jd,Jo,hop,hlx,hw,i1,i2,ha,hb1,Jbi];exact fin _ _
   have a1:0<=a.1:=by omega
   by_cases a2:¬ b.2<=1114111
   ·skip
    have hb:false=v:=by rw[<- hv];simp[JS,JM,hop,h1,h2,l1,l2,hz,st,kk,a1,a2]
    subst hb;simp (disch:=omega) only[Wz,seval,bb,Jh,Jc,Jd,Jo,hop,hlx,hw,i1,i2,ha,hb1,Jbi];exact fin _ _
   have a2:b.2<=1114111:=by omega
   by_cases k1:e.n=0
   ·by_cases k2:e.level=0
    ·skip
     have hb:true=v:=by rw[<- hv];simp[JS,JM,hop,h1,h2,l1,l2,hz,st,kk,a1,a2,k1,k2]
     subst hb;simp (disch:=omega) only[Wz,seval,bb,Jh,Jc,Jd,Jo,hop,hlx,hw,i1,i2,ha,hb1,Jbi];exact fin _ _
    ·skip
     have hb:false=v:=by rw[<- hv];simp[JS,JM,hop,h1,h2,l1,l2,hz,st,kk,a1,a2,k1,k2]
     subst hb;simp (disch:=omega) only[Wz,seval,bb,Jh,Jc,Jd,Jo,hop,hlx,hw,i1,i2,ha,hb1,Jbi];exact fin _ _
   ·skip
    have hb:false=v:=by rw[<- hv];simp[JS,JM,hop,h1,h2,l1,l2,hz,st,kk,k1,a1,a2]
    subst hb;simp (disch:=omega) only[Wz,seval,bb,Jh,Jc,Jd,Jo,hop,hlx,hw,i1,i2,ha,hb1,Jbi];exact fin _ _
  | false =>
   rw[hlx] at kk;simp only[if_true,if_false,Bool.false_eq_true] at kk;by_cases a1:¬ 1<=a.1
   ·skip
    have hb:false=v:=by rw[<- hv];simp[JS,JM,hop,h1,h2,l1,l2,hz,st,kk,a1]
    subst hb;simp (disch:=omega) only[Wz,seval,bb,Jh,Jc,Jd,Jo,hop,hlx,hw,i1,i2,ha,hb1,Jbi];exact fin _ _
   have a1:1<=a.1:=by omega
   by_cases a2:¬ b.2<=(n.types.length:Int)
   ·skip
    have hb:false=v:=by rw[<- hv];simp[JS,JM,hop,h1,h2,l1,l2,hz,st,kk,a1,a2]
    subst hb;simp (disch:=omega) only[Wz,seval,bb,Jh,Jc,Jd,Jo,hop,hlx,hw,i1,i2,ha,hb1,Jbi];exact fin _ _
   have a2:b.2<=(n.types.length:Int):=by omega
   by_cases k1:e.n=0
   ·by_cases k2:e.level=0
    ·skip
     have hb:true=v:=by rw[<- hv];simp[JS,JM,hop,h1,h2,l1,l2,hz,st,kk,a1,a2,k1,k2]
     subst hb;simp (disch:=omega) only[Wz,seval,bb,Jh,Jc,Jd,Jo,hop,hlx,hw,i1,i2,ha,hb1,Jbi];exact fin _ _
    ·skip
     have hb:false=v:=by rw[<- hv];simp[JS,JM,hop,h1,h2,l1,l2,hz,st,kk,a1,a2,k1,k2]
     subst hb;simp (disch:=omega) only[Wz,seval,bb,Jh,Jc,Jd,Jo,hop,hlx,hw,i1,i2,ha,hb1,Jbi];exact fin _ _
   ·skip
    have hb:false=v:=by rw[<- hv];simp[JS,JM,hop,h1,h2,l1,l2,hz,st,kk,k1,a1,a2]
    subst hb;simp (disch:=omega) only[Wz,seval,bb,Jh,Jc,Jd,Jo,hop,hlx,hw,i1,i2,ha,hb1,Jbi];exact fin _ _
 ·skip
  by_cases l1:0<e.set.length
  ·skip
   have hb:false=v:=by rw[<- hv];simp[JS,JM,hop,h1,h2,l1]
   subst hb;simp (disch:=omega) only[Wz,seval,bb,Jh,Jc,Jd,Jo,hop];exact fin _ _
  have l1:e.set.length=0:=by omega
  by_cases l2:0<e.acts.length
  ·skip
   have hb:false=v:=by rw[<- hv];simp[JS,JM,hop,h1,h2,l1,l2]
   subst hb;simp (disch:=omega) only[Wz,seval,bb,Jh,Jc,Jd,Jo,hop];exact fin _ _
  have l2:e.acts.length=0:=by omega
  simp (disch:=omega) only[Wz,seval,bb,Jh,Jc,Jd,Jo,hop];refine Je Jft zz pz (.lit _) ?_;cases hz:noG e.g with
  | false =>
   have hb:false=v:=by rw[<- hv];simp[JS,JM,hop,h1,h2,l1,l2,hz]
   subst hb;simp (disch:=omega) only[Wz,seval,bb,Jh,Jc,Jd,Jo,hop];exact fin _ _
  | true =>
  by_cases st:(i:Int)=r.start
  ·skip
   have hb:false=v:=by rw[<- hv];simp[JS,JM,hop,h1,h2,l1,l2,hz,st]
   subst hb;simp (disch:=omega) only[Wz,seval,bb,Jh,Jc,Jd,Jo,hop];exact fin _ _
  simp (disch:=omega) only[Wz,seval,bb,Jh,Jc,Jd,Jo,hop];refine Jx (n:=262) rfl (by decide) mixed ?_;by_cases a1:¬ 0<=e.n
  ·skip
   have hb:false=v:=by rw[<- hv];simp[JS,JM,hop,h1,h2,l1,l2,hz,st,kd2,a1]
   subst hb;simp (disch:=omega) only[Wz,seval,bb,Jh,Jc,Jd,Jo,Lx,hop];exact fin _ _
  have a1:0<=e.n:=by omega
  by_cases a2:¬ e.n<(n.rules.length:Int)
  ·skip
   have hb:false=v:=by rw[<- hv];simp[JS,JM,hop,h1,h2,l1,l2,hz,st,kd2,a1,a2]
   subst hb;simp (disch:=omega) only[Wz,seval,bb,Jh,Jc,Jd,Jo,Lx,hop];exact fin _ _
  have a2:e.n<(n.rules.length:Int):=by omega
  obtain⟨en,hen⟩:∃ en:Nat,e.n=(en:Int):=⟨e.n.toNat,by omega⟩;have a3:en<n.rules.length:=by omega
  obtain⟨u,hu⟩:∃ u,n.rules.getD en default=u:=⟨_,rfl⟩;have kk:kd2 n r (sr:Int) e=(u.lexer==r.lexer && (decide (0<=e.level/\e.level<=65) && (decide (e.level=0) || (decide ((en:Int)=(sr:Int)) && r.left)))):=by unfold kd2;rw[hen,Int.toNat_natCast,hu,decide_eq_true (by omega:(0:Int)<=(en:Int)/\(en:Int)<(n.rules.length:Int)),Bool.true_and]
  cases hul:u.lexer <;> cases hlx:r.lexer
  ·skip
   by_cases c1:¬ 0<=e.level
   ·skip
    have hb:false=v:=by rw[<- hv];simp[JS,JM,hop,h1,h2,l1,l2,hz,st,kk,hul,hlx,c1]
    subst hb;simp (disch:=omega) only[Wz,seval,bb,Jh,Jc,Jd,Jo,Lx,hop,hen,hu,hul,hlx];exact fin _ _
   have c1:0<=e.level:=by omega
   by_cases c2:¬ e.level<=65
   ·skip
    have hb:false=v:=by rw[<- hv];simp[JS,JM,hop,h1,h2,l1,l2,hz,st,kk,hul,hlx,c1,c2]
    subst hb;simp (disch:=omega) only[Wz,seval,bb,Jh,Jc,Jd,Jo,Lx,hop,hen,hu,hul,hlx];exact fin _ _
   have c2:e.level<=65:=by omega
   by_cases c3:e.level=0
   ·skip
    have hb:true=v:=by rw[<- hv];simp[JS,JM,hop,h1,h2,l1,l2,hz,st,kk,hul,hlx,c3]
    subst hb;simp (disch:=omega) only[Wz,seval,bb,Jh,Jc,Jd,Jo,Lx,hop,hen,hu,hul,hlx];exact fin _ _
   by_cases c4:¬ (en:Int)=(sr:Int)
   ·skip
    have hb:false=v:=by rw[<- hv];simp[JS,JM,hop,h1,h2,l1,l2,hz,st,kk,hul,hlx,c1,c2,c3,c4]
    subst hb;simp (disch:=omega) only[Wz,seval,bb,Jh,Jc,Jd,Jo,Lx,hop,hen,hu,hul,hlx];exact fin _ _
   have c4:(en:Int)=(sr:Int):=by omega
   cases hle:r.left
   ·skip
    have hb:false=v:=by rw[<- hv];simp[JS,JM,hop,h1,h2,l1,l2,hz,st,kk,hul,hlx,c1,c2,c3,c4,hle]
    subst hb;simp (disch:=omega) only[Wz,seval,bb,Jh,Jc,Jd,Jo,Lx,hop,hen,hu,hul,hlx,hle];exact fin _ _
   ·skip
    have hb:true=v:=by rw[<- hv];simp[JS,JM,hop,h1,h2,l1,l2,hz,st,kk,hul,hlx,c1,c2,c3,c4,hle]
    subst hb;simp (disch:=omega) only[Wz,seval,bb,Jh,Jc,Jd,Jo,Lx,hop,hen,hu,hul,hlx,hle];exact fin _ _
  ·skip
   have hb:false=v:=by rw[<- hv];simp[JS,JM,hop,h1,h2,l1,l2,hz,st,kk,hul,hlx]
   subst hb;simp (disch:=omega) only[Wz,seval,bb,Jh,Jc,Jd,Jo,Lx,hop,hen,hu,hul,hlx];exact fin _ _
  ·skip
   have hb:false=v:=by rw[<- hv];simp[JS,JM,hop,h1,h2,l1,l2,hz,st,kk,hul,hlx]
   subst hb;simp (disch:=omega) only[Wz,seval,bb,Jh,Jc,Jd,Jo,Lx,hop,hen,hu,hul,hlx];exact fin _ _
  ·skip
   by_cases c1:¬ 0<=e.level
   ·skip
    have hb:false=v:=by rw[<- hv];simp[JS,JM,hop,h1,h2,l1,l2,hz,st,kk,hul,hlx,c1]
    subst hb;simp (disch:=omega) only[Wz,seval,bb,Jh,Jc,Jd,Jo,Lx,hop,hen,hu,hul,hlx];exact fin _ _
   have c1:0<=e.level:=by omega
   by_cases c2:¬ e.level<=65
   ·skip
    have hb:false=v:=by rw[<- hv];simp[JS,JM,hop,h1,h2,l1,l2,hz,st,kk,hul,hlx,c1,c2]
    subst hb;simp (disch:=omega) only[Wz,seval,bb,Jh,Jc,Jd,Jo,Lx,hop,hen,hu,hul,hlx];exact fin _ _
   have c2:e.level<=65:=by omega
   by_cases c3:e.level=0
   ·skip
    have hb:true=v:=by rw[<- hv];simp[JS,JM,hop,h1,h2,l1,l2,hz,st,kk,hul,hlx,c3]
    subst hb;simp (disch:=omega) only[Wz,seval,bb,Jh,Jc,Jd,Jo,Lx,hop,hen,hu,hul,hlx];exact fin _ _
   by_cases c4:¬ (en:Int)=(sr:Int)
   ·skip
    have hb:false=v:=by rw[<- hv];simp[JS,JM,hop,h1,h2,l1,l2,hz,st,kk,hul,hlx,c1,c2,c3,c4]
    subst hb;simp (disch:=omega) only[Wz,seval,bb,Jh,Jc,Jd,Jo,Lx,hop,hen,hu,hul,hlx];exact fin _ _
   have c4:(en:Int)=(sr:Int):=by omega
   cases hle:r.left
   ·skip
    have hb:false=v:=by rw[<- hv];simp[JS,JM,hop,h1,h2,l1,l2,hz,st,kk,hul,hlx,c1,c2,c3,c4,hle]
    subst hb;simp (disch:=omega) only[Wz,seval,bb,Jh,Jc,Jd,Jo,Lx,hop,hen,hu,hul,hlx,hle];exact fin _ _
   ·skip
    have hb:true=v:=by rw[<- hv];simp[JS,JM,hop,h1,h2,l1,l2,hz,st,kk,hul,hlx,c1,c2,c3,c4,hle]
    subst hb;simp (disch:=omega) only[Wz,seval,bb,Jh,Jc,Jd,Jo,Lx,hop,hen,hu,hul,hlx,hle];exact fin _ _
 ·skip
  by_cases l1:0<e.set.length
  ·skip
   have hb:false=v:=by rw[<- hv];simp[JS,JM,hop,h1,h2,l1]
   subst hb;simp (disch:=omega) only[Wz,seval,bb,Jh,Jc,Jd,Jo,hop];exact fin _ _
  have l1:e.set.length=0:=by omega
  by_cases l2:0<e.acts.length
  ·skip
   have hb:false=v:=by rw[<- hv];simp[JS,JM,hop,h1,h2,l1,l2]
   subst hb;simp (disch:=omega) only[Wz,seval,bb,Jh,Jc,Jd,Jo,hop];exact fin _ _
  have l2:e.acts.length=0:=by omega
  by_cases st:(i:Int)=r.start
  ·skip
   have hb:false=v:=by rw[<- hv];simp[JS,JM,hop,h1,h2,l1,l2,st]
   subst hb;simp (disch:=omega) only[Wz,seval,bb,Jh,Jc,Jd,Jo,hop];exact fin _ _
  by_cases k1:¬ e.n=0
  ·skip
   have hb:false=v:=by rw[<- hv];simp[JS,JM,hop,h1,h2,l1,l2,st,kd3,k1]
   subst hb;simp (disch:=omega) only[Wz,seval,bb,Jh,Jc,Jd,Jo,hop];exact fin _ _
  have k1:e.n=0:=by omega
  by_cases k2:¬ e.level=0
  ·skip
   have hb:false=v:=by rw[<- hv];simp[JS,JM,hop,h1,h2,l1,l2,st,kd3,k1,k2]
   subst hb;simp (disch:=omega) only[Wz,seval,bb,Jh,Jc,Jd,Jo,hop];exact fin _ _
  have k2:e.level=0:=by omega
  simp (disch:=omega) only[Wz,seval,bb,Jh,Jc,Jd,Jo,hop];refine Je Jr0 gc pz (.lit _) ?_;cases g1:ckG e.g with
  | false =>
   have hb:false=v:=by rw[<- hv];simp[JS,JM,hop,h1,h2,l1,l2,st,kd3,k1,k2,g1]
   subst hb;simp (disch:=omega) only[Wz,seval,bb,Jh,Jc,Jd,Jo,hop,Bool.false_eq_true];exact fin _ _
  | true =>
  simp (disch:=omega) only[Wz,seval,bb,Jh,Jc,Jd,Jo,hop];refine Je Jov q14 (pq _) (.lit _) ?_;cases g2:JaF 14 e.g with
  | true =>
   have hb:false=v:=by rw[<- hv];simp[JS,JM,hop,h1,h2,l1,l2,st,kd3,k1,k2,g1,g2]
   subst hb;simp (disch:=omega) only[Wz,seval,bb,Jh,Jc,Jd,Jo,hop];exact fin _ _
  | false =>
  cases hlx:r.lexer with
  | true =>
   have hb:true=v:=by rw[<- hv];simp[JS,JM,hop,h1,h2,l1,l2,st,kd3,k1,k2,g1,g2,hlx]
   subst hb;simp (disch:=omega) only[Wz,seval,bb,Jh,Jc,Jd,Jo,hop,hlx];exact fin _ _
  | false =>
  simp (disch:=omega) only[Wz,seval,bb,Jh,Jc,Jd,Jo,hop,hlx];refine Je Jov q13 (pq _) (.lit _) ?_;cases g3:JaF 13 e.g with
  | true =>
   have hb:false=v:=by rw[<- hv];simp[JS,JM,hop,h1,h2,l1,l2,st,kd3,k1,k2,g1,g2,hlx,g3]
   subst hb;simp (disch:=omega) only[Wz,seval,bb,Jh,Jc,Jd,Jo,hop,hlx];exact fin _ _
  | false =>
   have hb:true=v:=by rw[<- hv];simp[JS,JM,hop,h1,h2,l1,l2,st,kd3,k1,k2,g1,g2,hlx,g3]
   subst hb;simp (disch:=omega) only[Wz,seval,bb,Jh,Jc,Jd,Jo,hop,hlx];exact fin _ _
 ·skip
  by_cases l1:0<e.set.length
  ·skip
   have hb:false=v:=by rw[<- hv];simp[JS,JM,hop,h1,h2,l1]
   subst hb;simp (disch:=omega) only[Wz,seval,bb,Jh,Jc,Jd,Jo,hop];exact fin _ _
  have l1:e.set.length=0:=by omega
  by_cases l2:0<e.acts.length
  ·skip
   have hb:false=v:=by rw[<- hv];simp[JS,JM,hop,h1,h2,l1,l2]
   subst hb;simp (disch:=omega) only[Wz,seval,bb,Jh,Jc,Jd,Jo,hop];exact fin _ _
  have l2:e.acts.length=0:=by omega
  simp (disch:=omega) only[Wz,seval,bb,Jh,Jc,Jd,Jo,hop];refine Je Jft zz pz (.lit _) ?_;cases hz:noG e.g with
  | false =>
   have hb:false=v:=by rw[<- hv];simp[JS,JM,hop,h1,h2,l1,l2,hz]
   subst hb;simp (disch:=omega) only[Wz,seval,bb,Jh,Jc,Jd,Jo,hop];exact fin _ _
  | true =>
  by_cases st:¬ (i:Int)=r.start
  ·skip
   have hb:false=v:=by rw[<- hv];simp[JS,JM,hop,h1,h2,l1,l2,hz,st]
   subst hb;simp (disch:=omega) only[Wz,seval,bb,Jh,Jc,Jd,Jo,hop];exact fin _ _
  have st:(i:Int)=r.start:=by omega
  have st':(e.op.1==4)=((i:Int)==r.start):=by rw[Jgv hop,Jgv st]
  have st1:((i:Int)==r.start)=true:=Jgv st;by_cases k1:¬ 1<=e.n
  ·skip
   have hb:false=v:=by rw[<- hv];simp[JS,JM,hop,h1,h2,l1,l2,hz,st,kd4,k1]
   subst hb;simp (disch:=omega) only[Wz,seval,bb,Jh,Jc,Jd,Jo,hop];exact fin _ _
  have k1:1<=e.n:=by omega
  by_cases k2:¬ e.n<=64
  ·skip
   have hb:false=v:=by rw[<- hv];simp[JS,JM,hop,h1,h2,l1,l2,hz,st,kd4,k1,k2]
   subst hb;simp (disch:=omega) only[Wz,seval,bb,Jh,Jc,Jd,Jo,hop];exact fin _ _
  have k2:e.n<=64:=by omega
  by_cases k3:¬ e.level=0
  ·skip
   have hb:false=v:=by rw[<- hv];simp[JS,JM,hop,h1,h2,l1,l2,hz,st,kd4,k1,k2,k3]
   subst hb;simp (disch:=omega) only[Wz,seval,bb,Jh,Jc,Jd,Jo,hop];exact fin _ _
  have k3:e.level=0:=by omega
  have hb:true=v:=by rw[<- hv];simp[JS,JM,hop,h1,h2,l1,l2,hz,st,kd4,k1,k2,k3]
  subst hb;simp (disch:=omega) only[Wz,seval,bb,Jh,Jc,Jd,Jo,hop];exact fin _ _
 ·skip
  by_cases l1:0<e.set.length
  ·skip
   have hb:false=v:=by rw[<- hv];simp[JS,JM,hop,h1,h2,l1]
   subst hb;simp (disch:=omega) only[Wz,seval,bb,Jh,Jc,Jd,Jo,hop];exact fin _ _
  have l1:e.set.length=0:=by omega
  by_cases l2:0<e.acts.length
  ·skip
   have hb:false=v:=by rw[<- hv];simp[JS,JM,hop,h1,h2,l1,l2]
   subst hb;simp (disch:=omega) only[Wz,seval,bb,Jh,Jc,Jd,Jo,hop];exact fin _ _
  have l2:e.acts.length=0:=by omega
  simp (disch:=omega) only[Wz,seval,bb,Jh,Jc,Jd,Jo,hop];refine Je Jft zz pz (.lit _) ?_;cases hz:noG e.g with
  | false =>
   have hb:false=v:=by rw[<- hv];simp[JS,JM,hop,h1,h2,l1,l2,hz]
   subst hb;simp (disch:=omega) only[Wz,seval,bb,Jh,Jc,Jd,Jo,hop];exact fin _ _
  | true =>
  by_cases st:(i:Int)=r.start
  ·skip
   have hb:false=v:=by rw[<- hv];simp[JS,JM,hop,h1,h2,l1,l2,hz,st]
   subst hb;simp (disch:=omega) only[Wz,seval,bb,Jh,Jc,Jd,Jo,hop];exact fin _ _
  cases hle:r.left with
  | false =>
   have hb:false=v:=by rw[<- hv];simp[JS,JM,hop,h1,h2,l1,l2,hz,st,kd5,hle]
   subst hb;simp (disch:=omega) only[Wz,seval,bb,Jh,Jc,Jd,Jo,hop,hle];exact fin _ _
  | true =>
  by_cases k1:¬ 1<=e.n
  ·skip
   have hb:false=v:=by rw[<- hv];simp[JS,JM,hop,h1,h2,l1,l2,hz,st,kd5,hle,k1]
   subst hb;simp (disch:=omega) only[Wz,seval,bb,Jh,Jc,Jd,Jo,hop,hle];exact fin _ _
  have k1:1<=e.n:=by omega
  by_cases k2:¬ e.n<=64
  ·skip
   have hb:false=v:=by rw[<- hv];simp[JS,JM,hop,h1,h2,l1,l2,hz,st,kd5,hle,k1,k2]
   subst hb;simp (disch:=omega) only[Wz,seval,bb,Jh,Jc,Jd,Jo,hop,hle];exact fin _ _
  have k2:e.n<=64:=by omega
  by_cases k3:¬ 1<=e.level
  ·skip
   have hb:false=v:=by rw[<- hv];simp[JS,JM,hop,h1,h2,l1,l2,hz,st,kd5,hle,k1,k2,k3]
   subst hb;simp (disch:=omega) only[Wz,seval,bb,Jh,Jc,Jd,Jo,hop,hle];exact fin _ _
  have k3:1<=e.level:=by omega
  by_cases k4:¬ e.level<=64
  ·skip
   have hb:false=v:=by rw[<- hv];simp[JS,JM,hop,h1,h2,l1,l2,hz,st,kd5,hle,k1,k2,k3,k4]
   subst hb;simp (disch:=omega) only[Wz,seval,bb,Jh,Jc,Jd,Jo,hop,hle];exact fin _ _
  have k4:e.level<=64:=by omega
  have hb:true=v:=by rw[<- hv];simp[JS,JM,hop,h1,h2,l1,l2,hz,st,kd5,hle,k1,k2,k3,k4]
  subst hb;simp (disch:=omega) only[Wz,seval,bb,Jh,Jc,Jd,Jo,hop,hle];exact fin _ _
 ·skip
  by_cases l1:0<e.set.length
  ·skip
   have hb:false=v:=by rw[<- hv];simp[JS,JM,hop,h1,h2,l1]
   subst hb;simp (disch:=omega) only[Wz,seval,bb,Jh,Jc,Jd,Jo,hop];exact fin _ _
  have l1:e.set.length=0:=by omega
  by_cases l2:0<e.acts.length
  ·skip
   have hb:false=v:=by rw[<- hv];simp[JS,JM,hop,h1,h2,l1,l2]
   subst hb;simp (disch:=omega) only[Wz,seval,bb,Jh,Jc,Jd,Jo,hop];exact fin _ _
  have l2:e.acts.length=0:=by omega
  simp (disch:=omega) only[Wz,seval,bb,Jh,Jc,Jd,Jo,hop];refine Je Jft zz pz (.lit _) ?_;cases hz:noG e.g with
  | false =>
   have hb:false=v:=by rw[<- hv];simp[JS,JM,hop,h1,h2,l1,l2,hz]
   subst hb;simp (disch:=omega) only[Wz,seval,bb,Jh,Jc,Jd,Jo,hop];exact fin _ _
  | true =>
  by_cases st:(i:Int)=r.start
  ·skip
   have hb:false=v:=by rw[<- hv];simp[JS,JM,hop,h1,h2,l1,l2,hz,st]
   subst hb;simp (disch:=omega) only[Wz,seval,bb,Jh,Jc,Jd,Jo,hop];exact fin _ _
  by_cases k1:¬ e.n=0
  ·skip
   have hb:false=v:=by rw[<- hv];simp[JS,JM,hop,h1,h2,l1,l2,hz,st,kd6,k1]
   subst hb;simp (disch:=omega) only[Wz,seval,bb,Jh,Jc,Jd,Jo,hop];exact fin _ _
  have k1:e.n=0:=by omega
  by_cases k2:¬ e.level=0
  ·skip
   have hb:false=v:=by rw[<- hv];simp[JS,JM,hop,h1,h2,l1,l2,hz,st,kd6,k1,k2]
   subst hb;simp (disch:=omega) only[Wz,seval,bb,Jh,Jc,Jd,Jo,hop];exact fin _ _
  have k2:e.level=0:=by omega
  cases hle:r.left
  ·skip
   have hb:false=v:=by rw[<- hv];simp[JS,JM,hop,h1,h2,l1,l2,hz,st,kd6,k1,k2,hle]
   subst hb;simp (disch:=omega) only[Wz,seval,bb,Jh,Jc,Jd,Jo,hop,hle];exact fin _ _
  ·skip
   have hb:true=v:=by rw[<- hv];simp[JS,JM,hop,h1,h2,l1,l2,hz,st,kd6,k1,k2,hle]
   subst hb;simp (disch:=omega) only[Wz,seval,bb,Jh,Jc,Jd,Jo,hop,hle];exact fin _ _
 ·skip
  by_cases l1:0<e.set.length
  ·skip
   have hb:false=v:=by rw[<- hv];simp[JS,JM,hop,h1,h2,l1]
   subst hb;simp (disch:=omega) only[Wz,seval,bb,Jh,Jc,Jd,Jo,hop];exact fin _ _
  have l1:e.set.length=0:=by omega
  by_cases l2:¬ 0<e.acts.length
  ·skip
   have hb:false=v:=by rw[<- hv];simp[JS,JM,hop,h1,h2,l1,l2]
   subst hb;simp (disch:=omega) only[Wz,seval,bb,Jh,Jc,Jd,Jo,hop];exact fin _ _
  have l2:0<e.acts.length:=by omega
  simp (disch:=omega) only[Wz,seval,bb,Jh,Jc,Jd,Jo,hop];refine Je Jft zz pz (.lit _) ?_;cases hz:noG e.g with
  | false =>
   have hb:false=v:=by rw[<- hv];simp[JS,JM,hop,h1,h2,l1,l2,hz]
   subst hb;simp (disch:=omega) only[Wz,seval,bb,Jh,Jc,Jd,Jo,hop];exact fin _ _
  | true =>
  by_cases st:(i:Int)=r.start
  ·skip
   have hb:false=v:=by rw[<- hv];simp[JS,JM,hop,h1,h2,l1,l2,hz,st]
   subst hb;simp (disch:=omega) only[Wz,seval,bb,Jh,Jc,Jd,Jo,hop];exact fin _ _
  by_cases k1:¬ e.n=0
  ·skip
   have hb:false=v:=by rw[<- hv];simp[JS,JM,hop,h1,h2,l1,l2,hz,st,kd7,k1]
   subst hb;simp (disch:=omega) only[Wz,seval,bb,Jh,Jc,Jd,Jo,hop];exact fin _ _
  have k1:e.n=0:=by omega
  by_cases k2:¬ e.level=0
  ·skip
   have hb:false=v:=by rw[<- hv];simp[JS,JM,hop,h1,h2,l1,l2,hz,st,kd7,k1,k2]
   subst hb;simp (disch:=omega) only[Wz,seval,bb,Jh,Jc,Jd,Jo,hop];exact fin _ _
  have k2:e.level=0:=by omega
  have kk:(e.acts.all (JmR n) && (r.lexer && !r.frag))=v:=by rw[<- hv];simp[JS,JM,hop,h1,h2,l1,l2,hz,st,kd7,k1,k2];cases r.lexer <;> cases r.frag <;> simp
  simp (disch:=omega) only[Wz,seval,bb,Jh,Jc,Jd,Jo,hop];refine Jp (fun k:Nat=>⟨[(12,.lit (.int .i64 (k:Int))),(4,.ptr 0 0),(7,.ptr 2 0),(9,.ptr 3 0)],⟨[(0,Jh n),(2,Jo e),(3,Jc r)],[],4⟩,262⟩) (fun k=>k<=e.acts.length/\((e.acts.drop k).all (JmR n) && (r.lexer && !r.frag))=v) (fun k=>e.acts.length - k) 0 (Jk (by simp[lk]) ?_ (fun _ _ q=>q) rfl rfl) ⟨Nat.zero_le _,by rw[List.drop_zero];exact kk⟩ ?_
  ·intro p c q;simp only[Jo,hop,Jh,Jc] at q;exact lkB q trivial
  rintro k ⟨hk,hkv⟩;refine Jj ?_;rcases Nat.lt_or_ge k e.acts.length with hkl | hge
  ·obtain⟨a,ha⟩:∃ a,e.acts.getD k default=a:=⟨_,rfl⟩;rw[Jbc hkl,List.all_cons,ha] at hkv;have ra:=JpD n a (by omega) (by omega) (by omega);have pa:∀ x∈[AV.agg (Jh n),.agg (JA a)],Ab.Pure x:=Jb (.agg (Jab n)) (Jb (.agg (J7 a)) Jl);unfold Jh at ra pa;simp (disch:=omega) only[Wz,seval,Jh,Jc,Jo,ha];refine Jbh (n:=262) 6 (.alt 6 (.alt 7 .leaf .nil) .nil) rfl (by decide) (by decide) mixed (by kernel_rfl) (by decide) ?_;simp (disch:=omega) only[Wz,seval,Jh,Jc,Jo,ha];refine Je Jyf ra pa (.lit _) ?_;cases hc:JmR n a with
   | false =>
    have hb:false=v:=by rw[<- hkv,hc];rfl
    subst hb;simp (disch:=omega) only[Wz,seval];exact fin _ _
   | true =>
    have hn:((e.acts.drop (k+1)).all (JmR n) && (r.lexer && !r.frag))=v:=by rw[<- hkv,hc,Bool.true_and]
    simp (disch:=omega) only[Wz,seval];exact⟨k+1,⟨by omega,hn⟩,by omega,Jk (by simp[lk]) (fun _ _ q=>q) (fun _ _ q=>q) rfl rfl⟩
  ·have e1:k=e.acts.length:=by omega
   subst e1;rw[List.drop_length,List.all_nil,Bool.true_and] at hkv;subst hkv;cases hlx:r.lexer with
   | false =>
    simp (disch:=omega) only[Wz,seval,Jh,Jc,Jo,hlx,Bool.false_and];exact fin _ _
   | true =>
    cases hfr:r.frag;all_goals
     simp (disch:=omega) only[Wz,seval,Jh,Jc,Jo,hlx,hfr,Bool.true_and];exact fin _ _
 ·skip
  have n0:¬ e.op.1=0:=by omega
  have n1:¬ e.op.1=1:=by omega
  have n2:¬ e.op.1=2:=by omega
  have n3:¬ e.op.1=3:=by omega
  have n4:¬ e.op.1=4:=by omega
  have n5:¬ e.op.1=5:=by omega
  have n6:¬ e.op.1=6:=by omega
  have n7:¬ e.op.1=7:=by omega
  have hb:false=v:=by rw[<- hv];rw[decide_eq_false (by omega:¬ (0<=e.op.1/\e.op.1<8))];simp
  subst hb;by_cases l1:0<e.set.length
  ·skip
   simp (disch:=omega) only[Wz,seval,bb,Jh,Jc,Jd,Jo];exact fin _ _
  have l1:e.set.length=0:=by omega
  by_cases l2:0<e.acts.length
  ·skip
   simp (disch:=omega) only[Wz,seval,bb,Jh,Jc,Jd,Jo];exact fin _ _
  have l2:e.acts.length=0:=by omega
  simp (disch:=omega) only[Wz,seval,bb,Jh,Jc,Jd,Jo];refine Je Jft zz pz (.lit _) ?_;cases hz:noG e.g with
  | false =>
   simp (disch:=omega) only[Wz,seval,bb,Jh,Jc,Jd,Jo];exact fin _ _
  | true =>
  by_cases st:(i:Int)=r.start
  ·skip
   simp (disch:=omega) only[Wz,seval,bb,Jh,Jc,Jd,Jo];exact fin _ _
  by_cases k1:e.n=0
  ·by_cases k2:e.level=0;all_goals
    simp (disch:=omega) only[Wz,seval,bb,Jh,Jc,Jd,Jo];exact fin _ _
  ·skip
   simp (disch:=omega) only[Wz,seval,bb,Jh,Jc,Jd,Jo];exact fin _ _
theorem Jrh{K:Type}[DecidableEq K]{S:List K}{k x:K}:x∈Jmt S k↔x∈S\/x=k:=by
 unfold Jmt;split
 ·rename_i h;exact⟨.inl,fun q=>by rcases q with q | q;exact q;rw[q];exact h⟩
 ·simp
theorem Jri{s:Sta}{x:Int}:∀ {k:Nat},k<=s.edges.length->(x∈Jef s k↔∃ j,j<k/\(s.edges.getD j default).n=x):=by
 intro k;induction k with
 | zero=>intro _;simp[Jef]
 | succ k ih =>
  intro h;rw[Jhz s (by omega:k<s.edges.length)];refine Iff.trans Jrh ?_;rw[ih (by omega)];constructor
  ·rintro(⟨j,h1,h2⟩ | q)
   ·exact⟨j,by omega,h2⟩
   ·exact⟨k,by omega,q.symm⟩
  ·rintro⟨j,h1,h2⟩;rcases Nat.lt_succ_iff_lt_or_eq.1 h1 with q | q
   ·exact .inl ⟨j,q,h2⟩
   ·subst q;exact .inr h2.symm
theorem Jrj(n:Nt)(i:Nat)(s:Sta)(k:Nat)(e:Ed)(he:s.edges.getD k default=e):Jeg n i s k=(JS n i s e && !(decide (e.op.1=4) && decide (e.n∈Jef s k))):=by
 subst he;unfold Jeg JS;simp only[Bool.and_assoc]
theorem Jkm(n:Nt)(ok:JcL n):JR Pg 28 [.agg (Jh n)] (.lit (.bool (JbK n))):=by
 have h:=ok.rules;have ht:=ok.types;have hm:=ok.modes;have hst:=ok.states;refine Jn Tryz.func28 rfl Tryz.ntmps28 (rs:=[.tmp 2]) rfl (by simp) ?_;have fin:∀ h (b:Bool),JcV h (.lit (.bool b)) (.lit (.bool b)):=fun h b=>Ja (.lit _);simp (disch:=omega) only[Wz,seval];refine Jp (fun a:Nat × Nat=>⟨[(3,.lit (.int .i64 (a.1:Int))),(1,.ptr 0 0)],⟨[(0,Jh n)],[],a.2⟩,89⟩) (fun a=>a.1<=n.states.length/\1<=a.2/\∀ j,j<a.1->JcF n j=true) (fun a=>n.states.length - a.1) (0,1) (Jk (by simp[lk]) (fun _ _ q=>q) (fun _ _ q=>q) rfl rfl) ⟨Nat.zero_le _,Nat.le_refl _,fun j q=>absurd q (Nat.not_lt_zero _)⟩ ?_;rintro⟨i,N⟩ ⟨hi,hN,hno⟩;simp only at hi hN hno;refine Jj ?_;rcases Nat.lt_or_ge i n.states.length with hlt | hge
 ·have bad:JcF n i=false->JbK n=false:=fun q=>Jbn hlt q
  have oks:=ok.edges _ (Ju hlt);obtain⟨s,hs⟩:∃ s,n.states.getD i default=s:=⟨_,rfl⟩;rw[hs] at oks;have key:JcF n i=(decide (0<=s.rule/\s.rule<(n.rules.length:Int)) && (!(decide (s.edges.length=0) && decide ((i:Int)≠(n.rules.getD s.rule.toNat default).stop)) && (List.range s.edges.length).all (Jeg n i s))):=by unfold JcF;rw[hs]
  by_cases c1:¬ 0<=s.rule
  ·have hb:=bad (by rw[key];simp[c1]);simp (disch:=omega) only[Wz,seval,Jh,Jd,hs,hb];exact fin _ _
  have c1:0<=s.rule:=by omega
  by_cases c2:¬ s.rule<(n.rules.length:Int)
  ·have hb:=bad (by rw[key];simp[c2]);simp (disch:=omega) only[Wz,seval,Jh,Jd,hs,hb];exact fin _ _
  have c2:s.rule<(n.rules.length:Int):=by omega
  obtain⟨sr,hsr⟩:∃ sr:Nat,s.rule=(sr:Int):=⟨s.rule.toNat,by omega⟩;have hsl:sr<n.rules.length:=by omega
  obtain⟨r,hr⟩:∃ r,n.rules.getD sr default=r:=⟨_,rfl⟩;rw[decide_eq_true (⟨c1,c2⟩:0<=s.rule/\s.rule<(n.rules.length:Int)),Bool.true_and,hsr,Int.toNat_natCast,hr] at key;have hsl2:=oks.1;by_cases c3:s.edges.length=0/\¬ (i:Int)=r.stop
  ·obtain⟨c4,c5⟩:=c3;have hb:=bad (by rw[key];simp[c4,c5]);simp (disch:=omega) only[Wz,seval,Jh,Jd,Jc,hs,hsr,hr,hb];exact fin _ _
  rw[show (!(decide (s.edges.length=0) && decide ((i:Int)≠r.stop)))=true by rw[Bool.not_eq_true',Bool.and_eq_false_iff];by_cases q:s.edges.length=0;exact .inr (decide_eq_false fun x=>c3 ⟨q,x⟩);exact .inl (decide_eq_false q),Bool.true_and] at key;have bad2:∀ {k},k<s.edges.length->Jeg n i s k=false->JbK n=false:=fun hk q=>bad (by rw[key];exact Jbn hk q);obtain⟨S,hS⟩:∃ S:Nat->St,∀ k,S k=⟨[(5,.lit (.int .i64 (k:Int))),(3,.lit (.int .i64 (i:Int))),(1,.ptr 0 0),(4,.ptr N 0)],⟨[(0,Jh n),(N,Jd s)],[],N+1⟩,89⟩:=⟨_,fun _=>rfl⟩;by_cases c4:s.edges.length=0
  ·have c5:(i:Int)=r.stop:=by
    by_cases q:(i:Int)=r.stop
    ·exact q
    ·exact absurd ⟨c4,q⟩ c3
   have hg:JcF n i=true:=by rw[key,c4];rfl
   have c6:((i:Int)==r.stop)=true:=Jgv c5;simp (disch:=omega) only[Wz,seval,Jh,Jd,Jc,hs,hsr,hr,c6];refine Jp S (fun k=>k=0) (fun _=>0) 0 ?_ rfl ?_
   ·rw[hS];refine Jk (by simp[lk]) ?_ (fun _ _ q=>q) rfl rfl;intro p c q;simp only[Jh,Jd,hsr] at q;exact q
   rintro k rfl;rw[hS];refine Jj ?_;simp (disch:=omega) only[Wz,seval,Jh,Jd];exact⟨(i+1,N+1),⟨by simp only;omega,by simp only;omega,Jav hno hg⟩,by simp only;omega,Jk (by simp[lk]) (lkA trivial) (fun _ _ q=>q) rfl rfl⟩
  ·simp (disch:=omega) only[Wz,seval,Jh,Jd,Jc,hs,hsr,hr];refine Jp S (fun k=>k<=s.edges.length/\∀ j,j<k->Jeg n i s j=true) (fun k=>s.edges.length - k) 0 ?_ ⟨Nat.zero_le _,fun j q=>absurd q (Nat.not_lt_zero _)⟩ ?_
   ·rw[hS];refine Jk (by simp[lk]) ?_ (fun _ _ q=>q) rfl rfl;intro p c q;simp only[Jh,Jd,hsr] at q;exact q
   rintro k ⟨hk,hkv⟩;rw[hS];refine Jj ?_;rcases Nat.lt_or_ge k s.edges.length with hkl | hge
   ·obtain⟨e,he⟩:∃ e,s.edges.getD k default=e:=⟨_,rfl⟩;have eok:=oks.2 _ (Ju hkl);rw[he] at eok;have keyk:=Jrj n i s k e he;have re:=Jni n ok i s e eok c1 c2;have pe:∀ x∈[AV.agg (Jh n),.agg (Jd s),.lit (.int .i64 (i:Int)),.agg (Jo e)],Ab.Pure x:=Jb (.agg (Jab n)) (Jb (.agg (Jc2 s)) (Jb (.lit _) (Jb (.agg (JbT e)) Jl)));unfold Jh Jd Jo at re pe;simp (disch:=omega) only[Wz,seval,Jh,Jd,Jo,he];refine Jbh (n:=89) 8 (.alt 8 (.alt 9 .leaf .nil) .nil) rfl (by decide) (by decide) mixed (by kernel_rfl) (by decide) ?_;simp (disch:=omega) only[Wz,seval,Jh,Jd,Jo,he];refine Je Jx4 re pe (.lit _) ?_;cases hv:JS n i s e with
    | false =>
     have hb:=bad2 hkl (by rw[keyk,hv];rfl);simp (disch:=omega) only[Wz,seval,hb];exact fin _ _
    | true =>
    rw[hv,Bool.true_and] at keyk;have ma:=Jri (s:=s) (x:=e.n) (k:=k) (by omega);simp (disch:=omega) only[Wz,seval];refine Jp (fun j:Nat=>⟨[(6,.lit (.int .i64 (j:Int))),(5,.lit (.int .i64 (k:Int))),(3,.lit (.int .i64 (i:Int))),(1,.ptr 0 0),(4,.ptr N 0)],⟨[(0,Jh n),(N,Jd s)],[],N+1⟩,89⟩) (fun j=>j<=k/\∀ q,q<j->¬ (e.op.1=4/\(s.edges.getD q default).n=e.n)) (fun j=>k - j) 0 (Jk (by simp[lk]) (fun _ _ q=>q) (fun _ _ q=>q) rfl rfl) ⟨Nat.zero_le _,fun j q=>absurd q (Nat.not_lt_zero _)⟩ ?_;rintro j ⟨hj,hjv⟩;refine Jj ?_;rcases Nat.lt_or_ge j k with hjl | hge
    ·obtain⟨u,hu⟩:∃ u,s.edges.getD j default=u:=⟨_,rfl⟩;simp (disch:=omega) only[Wz,seval,Jh,Jd,Jo];refine Jx (n:=89) rfl (by decide) mixed ?_;by_cases h4:e.op.1=4
     ·by_cases hx:u.n=e.n
      ·have hb:=bad2 hkl (by rw[keyk,decide_eq_true h4,decide_eq_true (ma.2 ⟨j,hjl,by rw[hu];exact hx⟩)];rfl);simp (disch:=omega) only[Wz,seval,Jh,Jd,Jo,he,hu,hb];exact fin _ _
      ·simp (disch:=omega) only[Wz,seval,Jh,Jd,Jo,he,hu];exact⟨j+1,⟨by omega,fun q hq=>by rcases Nat.lt_succ_iff_lt_or_eq.1 hq with r | r;exact hjv q r;subst r;rw[hu];exact fun x=>hx x.2⟩,by omega,Jk (by simp[lk]) (fun _ _ q=>q) (fun _ _ q=>q) rfl rfl⟩
     ·simp (disch:=omega) only[Wz,seval,Jh,Jd,Jo,he,hu];exact⟨j+1,⟨by omega,fun q hq=>fun x=>h4 x.1⟩,by omega,Jk (by simp[lk]) (fun _ _ q=>q) (fun _ _ q=>q) rfl rfl⟩
    ·have e1:j=k:=by omega
     subst e1;have hg:Jeg n i s j=true:=by
      rw[keyk,Bool.not_eq_true',Bool.and_eq_false_iff];by_cases h4:e.op.1=4
      ·refine .inr (decide_eq_false fun q=>?_);obtain⟨q,h5,h6⟩:=ma.1 q;exact hjv q h5 ⟨h4,h6⟩
      ·exact .inl (decide_eq_false h4)
     simp (disch:=omega) only[Wz,seval];exact⟨j+1,⟨by omega,Jav hkv hg⟩,by omega,by rw[hS];exact Jk (by simp[lk]) (fun _ _ q=>q) (fun _ _ q=>q) rfl rfl⟩
   ·have e1:k=s.edges.length:=by omega
    subst e1;have hg:JcF n i=true:=by rw[key];exact Jaz hkv
    simp (disch:=omega) only[Wz,seval,Jh,Jd];exact⟨(i+1,N+1),⟨by simp only;omega,by simp only;omega,Jav hno hg⟩,by simp only;omega,Jk (by simp[lk]) (lkA trivial) (fun _ _ q=>q) rfl rfl⟩
 ·have e:i=n.states.length:=by omega
  subst e;have hn:JbK n=true:=Jaz hno;simp (disch:=omega) only[Wz,seval,Jh,hn];exact fin _ _
def goE (free:Bool)(em:List Bool)(e:Ed):Bool := !(free && (decide (e.op.1=1) || (decide (e.op.1=2) && !(em.getD e.n.toNat false))))
inductive Rc (n:Nt) (go:Ed->Bool) (a:Nat):Nat->Prop
 | base:Rc n go a a
 | step {s:Nat} {e:Ed}:Rc n go a s->s<n.states.length->e∈(n.states.getD s default).edges->go e=true->Rc n go a e.to.toNat
noncomputable def rcV(n:Nt)(go:Ed->Bool)(a:Nat):List Bool:=(List.range n.states.length).map fun j=>JtB (Rc n go a j)
def Jg8 (n:Nt)(go:Ed->Bool)(I:List Bool)(i k:Nat):Prop:=∀ i' k',(i'<i\/i'=i/\k'<k)->i'<n.states.length->k'<(n.states.getD i' default).edges.length->I.getD i' false=true->go ((n.states.getD i' default).edges.getD k' default)=true->I.getD ((n.states.getD i' default).edges.getD k' default).to.toNat false=true
structure RcI (n:Nt) (go:Ed->Bool) (a:Nat) (I:List Bool):Prop where
 len:I.length=n.states.length
 fr:I.getD a false=true
 snd:∀ j,I.getD j false=true->Rc n go a j
theorem RcI.init{n:Nt}{go:Ed->Bool}{a:Nat}(h:a<n.states.length):RcI n go a ((List.replicate n.states.length false).set a true):=by
 have hl:a<(List.replicate n.states.length false).length:=by simpa using h
 refine⟨by simp,by rw[Jbl hl,if_pos rfl],fun j hj=>?_⟩;rw[Jbl hl] at hj;split at hj
 ·rename_i e;subst e;exact .base
 ·rw[List.getD_eq_getElem?_getD,List.getElem?_replicate] at hj;split at hj <;> cases hj
theorem RcI.put{n:Nt}{go:Ed->Bool}{a:Nat}{I:List Bool}(h:RcI n go a I){t:Nat}(ht:t<n.states.length)(hr:Rc n go a t):RcI n go a (I.set t true):=by
 have hl:t<I.length:=by rw[h.len];exact ht
 refine⟨by simp[h.len],?_,fun j hj=>?_⟩
 ·rw[Jbl hl];split
  ·rfl
  ·exact h.fr
 ·rw[Jbl hl] at hj;split at hj
  ·rename_i e;subst e;exact hr
  ·exact h.snd j hj
theorem RcI.last{n:Nt}{go:Ed->Bool}{a:Nat}{I:List Bool}(h:RcI n go a I)(hc:Jg8 n go I n.states.length 0):I=rcV n go a:=by
 have all:∀ j,Rc n go a j->I.getD j false=true:=fun j hj=>by
  induction hj with
  | base=>exact h.fr
  | @step s e h1 h2 h3 h4 ih =>
   obtain⟨k,hk,e1⟩:=Jit h3;have:=hc s k (.inl h2) h2 hk ih (by rw[e1];exact h4);rw[e1] at this;exact this
 apply List.ext_getElem?;intro j;unfold rcV;rw[List.getElem?_map];rcases Nat.lt_or_ge j n.states.length with hj | hj
 ·have hji:j<I.length:=by rw[h.len];exact hj
  rw[List.getElem?_range hj,List.getElem?_eq_getElem hji];have e:I.getD j false=I[j]:=by rw[List.getD_eq_getElem?_getD,List.getElem?_eq_getElem hji];rfl
  show some I[j]=some (JtB (Rc n go a j));congr 1
  rw[<- e,Bool.eq_iff_iff,JdW];exact⟨h.snd j,all j⟩
 ·rw[List.getElem?_eq_none (by rw[h.len];exact hj),List.getElem?_eq_none (by simpa using hj)];rfl
theorem JpG{σ:St}{h:Hp}{xs:List (List AV)}{N tI z f m:Nat}(t:Nat)(ho:Own h)(hN:h.nx=N)(hle:N<=σ.hp.nx)(hv:lk σ.slots t=some (.own tI m))(hm:m=xs.length)(hk:lk σ.hp.toks tI=some ⟨xs,f,z⟩)(hp:∀ x∈xs,∀ c∈x,Ab.Pure c)
  (hb:∀ p∈h.boxes,lk σ.hp.boxes p.1=some p.2) (ht:∀ p∈h.toks,p.1≠tI/\lk σ.hp.toks p.1=some p.2) (kb:∀ p∈h.boxes,lk h.boxes p.1=some p.2) (kt:∀ p∈h.toks,lk h.toks p.1=some p.2) :
  ∃ σ',St.cp N σ σ'/\Jfp (JaQ Pg σ' [.tmp t]) (fun r h'=>r = .vec xs false/\h'=h) σ'.hp:=by
 subst hm;have w1:St.wk σ ⟨[(t,.vec xs false)],⟨h.boxes,h.toks,σ.hp.nx⟩,σ.nt⟩:=Jpa hk rfl rfl (Jb ⟨_,hv,.inr ⟨rfl,rfl⟩⟩ Jl) (fun i c e=>hb _ (JaD e)) (fun i c e=>ht _ (JaD e));obtain⟨σ',c1,c2⟩:=JoM (σ:=⟨[(t,.vec xs false)],⟨h.boxes,h.toks,σ.hp.nx⟩,σ.nt⟩) (h:=h) (v:=.vec xs false) (N:=N) t ho hN hle (by simp[lk]) (.pure (.vec hp)) kb kt;exact⟨σ',St.cp.trans w1.cp c1,c2⟩
theorem Jkn{b:Nat}{x:List AV}{y:List (Nat × List AV)}:∀ i c,lk [(b,x)] i=some c->lk ((b,x) :: y) i=some c:=fun i c q=>by
 simp only[lk] at q ⊢;split at q
 ·rename_i e;rw[if_pos e];exact q
 ·cases q
theorem Jg8.step{n:Nt}{go:Ed->Bool}{I:List Bool}{i k:Nat}(h:Jg8 n go I i k)(hs:go ((n.states.getD i default).edges.getD k default)=true->I.getD ((n.states.getD i default).edges.getD k default).to.toNat false=true):Jg8 n go I i (k+1):=fun i' k' hl a b c d=>by
 rcases hl with q | ⟨q1,q2⟩
 ·exact h i' k' (.inl q) a b c d
 ·subst q1;rcases Nat.lt_succ_iff_lt_or_eq.1 q2 with q | q
  ·exact h i' k' (.inr ⟨rfl,q⟩) a b c d
  ·subst q;exact hs d
theorem Jg8.row{n:Nt}{go:Ed->Bool}{I:List Bool}{i:Nat}(h:Jg8 n go I i (n.states.getD i default).edges.length):Jg8 n go I (i+1) 0:=fun i' k' hl a b c d=>by
 rcases hl with q | ⟨_,q2⟩
 ·rcases Nat.lt_succ_iff_lt_or_eq.1 q with q | q
  ·exact h i' k' (.inl q) a b c d
  ·subst q;exact h i' k' (.inr ⟨rfl,b⟩) a b c d
 ·exact absurd q2 (Nat.not_lt_zero _)
theorem Jg8.none{n:Nt}{go:Ed->Bool}{I:List Bool}{i:Nat}(h:Jg8 n go I i 0)(hi:I.getD i false=false):Jg8 n go I (i+1) 0:=fun i' k' hl a b c d=>by
 rcases hl with q | ⟨_,q2⟩
 ·rcases Nat.lt_succ_iff_lt_or_eq.1 q with q | q
  ·exact h i' k' (.inl q) a b c d
  ·subst q;rw[hi] at c;cases c
 ·exact absurd q2 (Nat.not_lt_zero _)
theorem Jg8.nil{n:Nt}{go:Ed->Bool}{I:List Bool}:Jg8 n go I 0 0:=fun i' k' hl _ _ _ _=>by
 rcases hl with q | ⟨_,q2⟩
 ·exact absurd q (Nat.not_lt_zero _)
 ·exact absurd q2 (Nat.not_lt_zero _)
theorem JaS{l:List Bool}{i:Nat}(h:i<l.length):(l.map Jr)[i]? = some [.lit (.bool (l.getD i false))]:=Jr7 h
theorem Jlq(n:Nt)(w:Wf n)(ok:JcL n)(em:List Bool)(hem:em.length=n.rules.length)(a:Nat)(ha:a<n.states.length) :
  JaM Pg 29 [.agg (Jh n),.lit (.int .i64 (a:Int)),.lit (.bool true),.own 0 em.length] (⟨[],[(0,⟨em.map Jr,0,1⟩)],1⟩) (.vec ((rcV n (goE true em) a).map Jr) false):=by
 have hst:=w.nst;have hru:=w.nru;obtain⟨v,hv⟩:∃ v,rcV n (goE true em) a=v:=⟨_,rfl⟩;rw[hv];refine Jan Tryz.func29 rfl Tryz.ntmps29 (rs:=[.tmp 8]) rfl (by simp) (N:=1) rfl ?_;obtain⟨go,hgo⟩:∃ go,goE true em=go:=⟨_,rfl⟩;rw[hgo] at hv;obtain⟨S1,hS1⟩:∃ S1:List Bool × Bool × Nat->St,∀ I ag N,S1 (I,ag,N)=⟨[(10,.lit (.bool ag)),(9,.own 2 n.states.length),(4,.ptr 1 0),(2,.lit (.bool true)),(3,.own 0 em.length)],⟨[(1,Jh n)],[(0,⟨em.map Jr,0,1⟩),(2,⟨I.map Jr,0,1⟩)],N⟩,85⟩:=⟨fun x=>(fun I ag N=>⟨[(10,.lit (.bool ag)),(9,.own 2 n.states.length),(4,.ptr 1 0),(2,.lit (.bool true)),(3,.own 0 em.length)],⟨[(1,Jh n)],[(0,⟨em.map Jr,0,1⟩),(2,⟨I.map Jr,0,1⟩)],N⟩,85⟩) x.1 x.2.1 x.2.2,fun _ _ _=>rfl⟩;obtain⟨S2,hS2⟩:∃ S2:Nat × List Bool × Bool × Nat->St,∀ i I ag N,S2 (i,I,ag,N)=⟨[(11,.lit (.int .i64 (i:Int))),(10,.lit (.bool ag)),(9,.own 2 n.states.length),(4,.ptr 1 0),(2,.lit (.bool true)),(3,.own 0 em.length)],⟨[(1,Jh n)],[(0,⟨em.map Jr,0,1⟩),(2,⟨I.map Jr,0,1⟩)],N⟩,85⟩:=⟨fun x=>(fun(i:Nat) I ag N=>⟨[(11,.lit (.int .i64 (i:Int))),(10,.lit (.bool ag)),(9,.own 2 n.states.length),(4,.ptr 1 0),(2,.lit (.bool true)),(3,.own 0 em.length)],⟨[(1,Jh n)],[(0,⟨em.map Jr,0,1⟩),(2,⟨I.map Jr,0,1⟩)],N⟩,85⟩) x.1 x.2.1 x.2.2.1 x.2.2.2,fun _ _ _ _=>rfl⟩;obtain⟨S3,hS3⟩:∃ S3:Nat->Nat × List Bool × Bool × Nat->St,∀ i k I ag N,S3 i (k,I,ag,N)=⟨[(12,.lit (.int .i64 (k:Int))),(11,.lit (.int .i64 (i:Int))),(10,.lit (.bool ag)),(9,.own 2 n.states.length),(4,.ptr 1 0),(2,.lit (.bool true)),(3,.own 0 em.length)],⟨[(1,Jh n)],[(0,⟨em.map Jr,0,1⟩),(2,⟨I.map Jr,0,1⟩)],N⟩,85⟩:=⟨fun i x=>(fun(i k:Nat) I ag N=>⟨[(12,.lit (.int .i64 (k:Int))),(11,.lit (.int .i64 (i:Int))),(10,.lit (.bool ag)),(9,.own 2 n.states.length),(4,.ptr 1 0),(2,.lit (.bool true)),(3,.own 0 em.length)],⟨[(1,Jh n)],[(0,⟨em.map Jr,0,1⟩),(2,⟨I.map Jr,0,1⟩)],N⟩,85⟩) i x.1 x.2.1 x.2.2.1 x.2.2.2,fun _ _ _ _ _=>rfl⟩;have g0:(List.replicate n.states.length [AV.lit (.bool false)])[a]? = some [AV.lit (.bool false)]:=by rw[List.getElem?_replicate,if_pos ha]
 simp (disch:=omega) only[Wz,seval,Jh,List.length_replicate,g0,List.length_cons,List.length_nil];refine Jp S1 (fun x=>RcI n go a x.1/\(x.2.1=false->Jg8 n go x.1 n.states.length 0)/\3<=x.2.2) (fun x=>2 * x.1.count false+x.2.1.toNat) ((List.replicate n.states.length false).set a true,true,3) ?_ ⟨RcI.init ha,fun(q:true=false)=>(nomatch q),Nat.le_refl _⟩ ?_
 ·rw[hS1];exact Jk (by simp[lk]) (fun _ _ q=>q) (fun p c q=>by rw[<- q];simp[List.map_set,List.map_replicate,Jr]) rfl rfl
 rintro⟨I,ag,N⟩ ⟨hI,hc,hN⟩;simp only at hI hc hN;have hIl:=hI.len;cases ag with
 | false =>
  have e:=hI.last (hc rfl);rw[hv] at e;subst e;rw[hS1];refine Jj ?_;simp (disch:=omega) only[Wz,seval];exact JpG (tI:=2) 8 ⟨Jl,Jb ⟨by show 0<1;decide,.pure (Ji Jad _)⟩ Jl⟩ rfl (by show 1<=N;omega) rfl (by simp[hIl]) rfl (Ji Jad _) Jl (Jb ⟨(show 0≠2 by decide),rfl⟩ Jl) Jl (Jb rfl Jl)
 | true =>
 rw[hS1];refine Jj ?_;simp (disch:=omega) only[Wz,seval];refine Jp S2 (fun x=>x.1<=n.states.length/\RcI n go a x.2.1/\(x.2.2.1=false->Jg8 n go x.2.1 x.1 0)/\x.2.1.count false<=I.count false/\(x.2.2.1=true->x.2.1.count false<I.count false)/\3<=x.2.2.2) (fun x=>n.states.length - x.1) (0,I,false,N) ?_ ⟨Nat.zero_le _,hI,fun _=>Jg8.nil,Nat.le_refl _,fun(q:false=true)=>(nomatch q),hN⟩ ?_
 ·rw[hS2];exact Jk (by simp[lk]) (fun _ _ q=>q) (fun _ _ q=>q) rfl rfl
 rintro⟨i,I',ag,N'⟩ ⟨hi,hI',hc',hn1,hn2,hN'⟩;simp only at hi hI' hc' hn1 hn2 hN';have hIl':=hI'.len;rw[hS2];refine Jj ?_;rcases Nat.lt_or_ge i n.states.length with hlt | hge
 rotate_left
 ·have e:i=n.states.length:=by omega
  subst e;simp (disch:=omega) only[Wz,seval,Jh];refine⟨(I',ag,N'),⟨hI',hc',hN'⟩,?_,?_⟩
  ·simp only;cases ag with
   | false=>simp only[Bool.toNat];simp;omega
   | true=>have:=hn2 rfl;simp only[Bool.toNat];simp;omega
  ·rw[hS1];exact Jk (by simp[lk]) (fun _ _ q=>q) (fun _ _ q=>q) rfl rfl
 obtain⟨s,hs⟩:∃ s,n.states.getD i default=s:=⟨_,rfl⟩;have hse:=(ok.edges s (by rw[<- hs];exact Ju hlt)).1;have gi:=JaS (l:=I') (i:=i) (by omega);cases hIi:I'.getD i false with
 | false =>
  rw[hIi] at gi;simp (disch:=omega) only[Wz,seval,Jh,gi,hIl'];refine⟨(i+1,I',ag,N'),⟨by simp only;omega,hI',fun q=>(hc' q).none hIi,hn1,hn2,hN'⟩,by simp only;omega,?_⟩;rw[hS2];exact Jk (by simp[lk]) (fun _ _ q=>q) (fun _ _ q=>q) rfl rfl
 | true =>
 rw[hIi] at gi;simp (disch:=omega) only[Wz,seval,Jh,gi,hIl'];refine Jp (S3 i) (fun x=>x.1<=s.edges.length/\RcI n go a x.2.1/\x.2.1.getD i false=true/\(x.2.2.1=false->Jg8 n go x.2.1 i x.1)/\x.2.1.count false<=I.count false/\(x.2.2.1=true->x.2.1.count false<I.count false)/\3<=x.2.2.2) (fun x=>s.edges.length - x.1) (0,I',ag,N') ?_ ⟨Nat.zero_le _,hI',hIi,hc',hn1,hn2,hN'⟩ ?_
 ·rw[hS3];exact Jk (by simp[lk]) (fun _ _ q=>q) (fun _ _ q=>q) rfl rfl
 clear hI' hc' hn1 hn2 hN' hIi gi hIl';rintro⟨k,J,ag,N2⟩ ⟨hk,hJ,hJi,hc',hn1,hn2,hN'⟩;simp only at hk hJ hJi hc' hn1 hn2 hN';have hJl:=hJ.len;rw[hS3];refine Jj ?_;rcases Nat.lt_or_ge k s.edges.length with hkl | hge
 rotate_left
 ·have e:k=s.edges.length:=by omega
  subst e;simp (disch:=omega) only[Wz,seval,Jh,Jd,hs];refine⟨(i+1,J,ag,N2),⟨by simp only;omega,hJ,fun q=>by have:=hc' q;rw[<- hs] at this;exact this.row,hn1,hn2,hN'⟩,by simp only;omega,?_⟩;rw[hS2];exact Jk (by simp[lk]) (fun _ _ q=>q) (fun _ _ q=>q) rfl rfl
 obtain⟨e,he⟩:∃ e,s.edges.getD k default=e:=⟨_,rfl⟩;have hem2:e∈(n.states.getD i default).edges:=by rw[hs,<- he];exact Ju hkl
 have hto:=w.to hlt hem2;obtain⟨tn,htn⟩:∃ tn:Nat,e.to=(tn:Int):=⟨e.to.toNat,by omega⟩;have htl:tn<n.states.length:=by omega
 have gt:=JaS (l:=J) (i:=tn) (by omega);have skip:(go e=true->J.getD tn false=true)->ag=false->Jg8 n go J i (k+1):=fun q r=>(hc' r).step (by rw[hs,he,htn,Int.toNat_natCast];exact q);have put:go e=true->Rc n go a tn:=fun q=>by have:=Rc.step (hJ.snd i hJi) hlt hem2 q;rwa [htn,Int.toNat_natCast] at this
 have hgoe:go e=goE true em e:=by rw[hgo]
 unfold goE at hgoe;have lenset:∀ b:Bool,(J.set tn b).length=n.states.length:=fun b=>by simp[hJl]
 by_cases h1:e.op.1=1
 ·skip
  simp (disch:=omega) only[Wz,seval,Jh,Jd,hs,he,Jo,htn,hJl,h1];exact⟨(k+1,J,ag,N2+1),⟨by simp only;omega,hJ,hJi,skip (fun q=>by rw[hgoe] at q;simp[h1] at q),hn1,hn2,by simp only;omega⟩,by simp only;omega,by rw[hS3];exact Jk (by simp[lk]) Jkn (fun _ _ q=>q) rfl rfl⟩
 by_cases h2:e.op.1=2
 ·have hcl:=w.call hlt hem2 h2;obtain⟨en,hen⟩:∃ en:Nat,e.n=(en:Int):=⟨e.n.toNat,by omega⟩;have ge:=JaS (l:=em) (i:=en) (by omega);cases hem3:em.getD en false with
  | false =>
   rw[hem3] at ge;simp (disch:=omega) only[Wz,seval,Jh,Jd,hs,he,Jo,htn,hJl,h2,hen,ge];exact⟨(k+1,J,ag,N2+1),⟨by simp only;omega,hJ,hJi,skip (fun q=>by rw[hgoe,hen,Int.toNat_natCast,hem3] at q;simp[h2] at q),hn1,hn2,by simp only;omega⟩,by simp only;omega,by rw[hS3];exact Jk (by simp[lk]) Jkn (fun _ _ q=>q) rfl rfl⟩
  | true =>
   rw[hem3] at ge;cases ht:J.getD tn false with
   | true =>
    rw[ht] at gt;simp (disch:=omega) only[Wz,seval,Jh,Jd,hs,he,Jo,htn,hJl,gt,h2,hen,ge];exact⟨(k+1,J,ag,N2+1),⟨by simp only;omega,hJ,hJi,skip (fun q=>by exact ht),hn1,hn2,by simp only;omega⟩,by simp only;omega,by rw[hS3];exact Jk (by simp[lk]) Jkn (fun _ _ q=>q) rfl rfl⟩
   | false =>
    rw[ht] at gt;have hg:go e=true:=by rw[hgoe,hen,Int.toNat_natCast,hem3];simp[h2]
    simp (disch:=omega) only[Wz,seval,Jh,Jd,hs,he,Jo,htn,hJl,gt,h2,hen,ge];have hc1:=Jcc (l:=J) (i:=tn) (by omega) ht;refine⟨(k+1,J.set tn true,true,N2+1),⟨by simp only;omega,hJ.put htl (put hg),by simp only;rw[Jbl (by omega)];split;rfl;exact hJi,fun(q:true=false)=>(nomatch q),by simp only;omega,fun _=>by simp only;omega,by simp only;omega⟩,by simp only;omega,?_⟩;rw[hS3];exact Jk (by simp[lk]) Jkn (fun p c q=>by rw[<- q];simp[List.map_set,Jr]) rfl rfl
 ·skip
  cases ht:J.getD tn false with
  | true =>
   rw[ht] at gt;simp (disch:=omega) only[Wz,seval,Jh,Jd,hs,he,Jo,htn,hJl,gt,h1,h2];exact⟨(k+1,J,ag,N2+1),⟨by simp only;omega,hJ,hJi,skip (fun q=>by exact ht),hn1,hn2,by simp only;omega⟩,by simp only;omega,by rw[hS3];exact Jk (by simp[lk]) Jkn (fun _ _ q=>q) rfl rfl⟩
  | false =>
   rw[ht] at gt;have hg:go e=true:=by rw[hgoe];simp[h1,h2]
   simp (disch:=omega) only[Wz,seval,Jh,Jd,hs,he,Jo,htn,hJl,gt,h1,h2];have hc1:=Jcc (l:=J) (i:=tn) (by omega) ht;refine⟨(k+1,J.set tn true,true,N2+1),⟨by simp only;omega,hJ.put htl (put hg),by simp only;rw[Jbl (by omega)];split;rfl;exact hJi,fun(q:true=false)=>(nomatch q),by simp only;omega,fun _=>by simp only;omega,by simp only;omega⟩,by simp only;omega,?_⟩;rw[hS3];exact Jk (by simp[lk]) Jkn (fun p c q=>by rw[<- q];simp[List.map_set,Jr]) rfl rfl
theorem Jlr(n:Nt)(w:Wf n)(ok:JcL n)(em:List Bool)(hem:em.length=n.rules.length)(a:Nat)(ha:a<n.states.length) :
  JaM Pg 29 [.agg (Jh n),.lit (.int .i64 (a:Int)),.lit (.bool false),.vec [] true] (.none) (.vec ((rcV n (goE false em) a).map Jr) false):=by
 have hst:=w.nst;have hru:=w.nru;obtain⟨v,hv⟩:∃ v,rcV n (goE false em) a=v:=⟨_,rfl⟩;rw[hv];refine Jan Tryz.func29 rfl Tryz.ntmps29 (rs:=[.tmp 8]) rfl (by simp) (N:=0) rfl ?_;obtain⟨go,hgo⟩:∃ go,goE false em=go:=⟨_,rfl⟩;rw[hgo] at hv;obtain⟨S1,hS1⟩:∃ S1:List Bool × Bool × Nat->St,∀ I ag N,S1 (I,ag,N)=⟨[(10,.lit (.bool ag)),(9,.own 1 n.states.length),(4,.ptr 0 0),(2,.lit (.bool false)),(3,.vec [] true)],⟨[(0,Jh n)],[(1,⟨I.map Jr,0,1⟩)],N⟩,85⟩:=⟨fun x=>(fun I ag N=>⟨[(10,.lit (.bool ag)),(9,.own 1 n.states.length),(4,.ptr 0 0),(2,.lit (.bool false)),(3,.vec [] true)],⟨[(0,Jh n)],[(1,⟨I.map Jr,0,1⟩)],N⟩,85⟩) x.1 x.2.1 x.2.2,fun _ _ _=>rfl⟩;obtain⟨S2,hS2⟩:∃ S2:Nat × List Bool × Bool × Nat->St,∀ i I ag N,S2 (i,I,ag,N)=⟨[(11,.lit (.int .i64 (i:Int))),(10,.lit (.bool ag)),(9,.own 1 n.states.length),(4,.ptr 0 0),(2,.lit (.bool false)),(3,.vec [] true)],⟨[(0,Jh n)],[(1,⟨I.map Jr,0,1⟩)],N⟩,85⟩:=⟨fun x=>(fun(i:Nat) I ag N=>⟨[(11,.lit (.int .i64 (i:Int))),(10,.lit (.bool ag)),(9,.own 1 n.states.length),(4,.ptr 0 0),(2,.lit (.bool false)),(3,.vec [] true)],⟨[(0,Jh n)],[(1,⟨I.map Jr,0,1⟩)],N⟩,85⟩) x.1 x.2.1 x.2.2.1 x.2.2.2,fun _ _ _ _=>rfl⟩;obtain⟨S3,hS3⟩:∃ S3:Nat->Nat × List Bool × Bool × Nat->St,∀ i k I ag N,S3 i (k,I,ag,N)=⟨[(12,.lit (.int .i64 (k:Int))),(11,.lit (.int .i64 (i:Int))),(10,.lit (.bool ag)),(9,.own 1 n.states.length),(4,.ptr 0 0),(2,.lit (.bool false)),(3,.vec [] true)],⟨[(0,Jh n)],[(1,⟨I.map Jr,0,1⟩)],N⟩,85⟩:=⟨fun i x=>(fun(i k:Nat) I ag N=>⟨[(12,.lit (.int .i64 (k:Int))),(11,.lit (.int .i64 (i:Int))),(10,.lit (.bool ag)),(9,.own 1 n.states.length),(4,.ptr 0 0),(2,.lit (.bool false)),(3,.vec [] true)],⟨[(0,Jh n)],[(1,⟨I.map Jr,0,1⟩)],N⟩,85⟩) i x.1 x.2.1 x.2.2.1 x.2.2.2,fun _ _ _ _ _=>rfl⟩;have g0:(List.replicate n.states.length [AV.lit (.bool false)])[a]? = some [AV.lit (.bool false)]:=by rw[List.getElem?_replicate,if_pos ha]
 simp (disch:=omega) only[Wz,seval,Jh,List.length_replicate,g0,List.length_cons,List.length_nil];refine Jp S1 (fun x=>RcI n go a x.1/\(x.2.1=false->Jg8 n go x.1 n.states.length 0)/\2<=x.2.2) (fun x=>2 * x.1.count false+x.2.1.toNat) ((List.replicate n.states.length false).set a true,true,2) ?_ ⟨RcI.init ha,fun(q:true=false)=>(nomatch q),Nat.le_refl _⟩ ?_
 ·rw[hS1];exact Jk (by simp[lk]) (fun _ _ q=>q) (fun p c q=>by rw[<- q];simp[List.map_set,List.map_replicate,Jr]) rfl rfl
 rintro⟨I,ag,N⟩ ⟨hI,hc,hN⟩;simp only at hI hc hN;have hIl:=hI.len;cases ag with
 | false =>
  have e:=hI.last (hc rfl);rw[hv] at e;subst e;rw[hS1];refine Jj ?_;simp (disch:=omega) only[Wz,seval];exact JpG (tI:=1) 8 ⟨Jl,Jl⟩ rfl (Nat.zero_le _) rfl (by simp[hIl]) rfl (Ji Jad _) Jl Jl Jl Jl
 | true =>
 rw[hS1];refine Jj ?_;simp (disch:=omega) only[Wz,seval];refine Jp S2 (fun x=>x.1<=n.states.length/\RcI n go a x.2.1/\(x.2.2.1=false->Jg8 n go x.2.1 x.1 0)/\x.2.1.count false<=I.count false/\(x.2.2.1=true->x.2.1.count false<I.count false)/\2<=x.2.2.2) (fun x=>n.states.length - x.1) (0,I,false,N) ?_ ⟨Nat.zero_le _,hI,fun _=>Jg8.nil,Nat.le_refl _,fun(q:false=true)=>(nomatch q),hN⟩ ?_
 ·rw[hS2];exact Jk (by simp[lk]) (fun _ _ q=>q) (fun _ _ q=>q) rfl rfl
 rintro⟨i,I',ag,N'⟩ ⟨hi,hI',hc',hn1,hn2,hN'⟩;simp only at hi hI' hc' hn1 hn2 hN';have hIl':=hI'.len;rw[hS2];refine Jj ?_;rcases Nat.lt_or_ge i n.states.length with hlt | hge
 rotate_left
 ·have e:i=n.states.length:=by omega
  subst e;simp (disch:=omega) only[Wz,seval,Jh];refine⟨(I',ag,N'),⟨hI',hc',hN'⟩,?_,?_⟩
  ·simp only;cases ag with
   | false=>simp only[Bool.toNat];simp;omega
   | true=>have:=hn2 rfl;simp only[Bool.toNat];simp;omega
  ·rw[hS1];exact Jk (by simp[lk]) (fun _ _ q=>q) (fun _ _ q=>q) rfl rfl
 obtain⟨s,hs⟩:∃ s,n.states.getD i default=s:=⟨_,rfl⟩;have hse:=(ok.edges s (by rw[<- hs];exact Ju hlt)).1;have gi:=JaS (l:=I') (i:=i) (by omega);cases hIi:I'.getD i false with
 | false =>
  rw[hIi] at gi;simp (disch:=omega) only[Wz,seval,Jh,gi,hIl'];refine⟨(i+1,I',ag,N'),⟨by simp only;omega,hI',fun q=>(hc' q).none hIi,hn1,hn2,hN'⟩,by simp only;omega,?_⟩;rw[hS2];exact Jk (by simp[lk]) (fun _ _ q=>q) (fun _ _ q=>q) rfl rfl
 | true =>
 rw[hIi] at gi;simp (disch:=omega) only[Wz,seval,Jh,gi,hIl'];refine Jp (S3 i) (fun x=>x.1<=s.edges.length/\RcI n go a x.2.1/\x.2.1.getD i false=true/\(x.2.2.1=false->Jg8 n go x.2.1 i x.1)/\x.2.1.count false<=I.count false/\(x.2.2.1=true->x.2.1.count false<I.count false)/\2<=x.2.2.2) (fun x=>s.edges.length - x.1) (0,I',ag,N') ?_ ⟨Nat.zero_le _,hI',hIi,hc',hn1,hn2,hN'⟩ ?_
 ·rw[hS3];exact Jk (by simp[lk]) (fun _ _ q=>q) (fun _ _ q=>q) rfl rfl
 clear hI' hc' hn1 hn2 hN' hIi gi hIl';rintro⟨k,J,ag,N2⟩ ⟨hk,hJ,hJi,hc',hn1,hn2,hN'⟩;simp only at hk hJ hJi hc' hn1 hn2 hN';have hJl:=hJ.len;rw[hS3];refine Jj ?_;rcases Nat.lt_or_ge k s.edges.length with hkl | hge
 rotate_left
 ·have e:k=s.edges.length:=by omega
  subst e;simp (disch:=omega) only[Wz,seval,Jh,Jd,hs];refine⟨(i+1,J,ag,N2),⟨by simp only;omega,hJ,fun q=>by have:=hc' q;rw[<- hs] at this;exact this.row,hn1,hn2,hN'⟩,by simp only;omega,?_⟩;rw[hS2];exact Jk (by simp[lk]) (fun _ _ q=>q) (fun _ _ q=>q) rfl rfl
 obtain⟨e,he⟩:∃ e,s.edges.getD k default=e:=⟨_,rfl⟩;have hem2:e∈(n.states.getD i default).edges:=by rw[hs,<- he];exact Ju hkl
 have hto:=w.to hlt hem2;obtain⟨tn,htn⟩:∃ tn:Nat,e.to=(tn:Int):=⟨e.to.toNat,by omega⟩;have htl:tn<n.states.length:=by omega
 have gt:=JaS (l:=J) (i:=tn) (by omega);have skip:(go e=true->J.getD tn false=true)->ag=false->Jg8 n go J i (k+1):=fun q r=>(hc' r).step (by rw[hs,he,htn,Int.toNat_natCast];exact q);have put:go e=true->Rc n go a tn:=fun q=>by have:=Rc.step (hJ.snd i hJi) hlt hem2 q;rwa [htn,Int.toNat_natCast] at this
 have hgoe:go e=goE false em e:=by rw[hgo]
 unfold goE at hgoe;have lenset:∀ b:Bool,(J.set tn b).length=n.states.length:=fun b=>by simp[hJl]
 cases ht:J.getD tn false with
 | true =>
  rw[ht] at gt;simp (disch:=omega) only[Wz,seval,Jh,Jd,hs,he,Jo,htn,hJl,gt];exact⟨(k+1,J,ag,N2+1),⟨by simp only;omega,hJ,hJi,skip (fun q=>by exact ht),hn1,hn2,by simp only;omega⟩,by simp only;omega,by rw[hS3];exact Jk (by simp[lk]) Jkn (fun _ _ q=>q) rfl rfl⟩
 | false =>
  rw[ht] at gt;have hg:go e=true:=by rw[hgoe];simp[Bool.false_and]
  simp (disch:=omega) only[Wz,seval,Jh,Jd,hs,he,Jo,htn,hJl,gt];have hc1:=Jcc (l:=J) (i:=tn) (by omega) ht;refine⟨(k+1,J.set tn true,true,N2+1),⟨by simp only;omega,hJ.put htl (put hg),by simp only;rw[Jbl (by omega)];split;rfl;exact hJi,fun(q:true=false)=>(nomatch q),by simp only;omega,fun _=>by simp only;omega,by simp only;omega⟩,by simp only;omega,?_⟩;rw[hS3];exact Jk (by simp[lk]) Jkn (fun p c q=>by rw[<- q];simp[List.map_set,Jr]) rfl rfl
end Go.Proofs.Y
end
