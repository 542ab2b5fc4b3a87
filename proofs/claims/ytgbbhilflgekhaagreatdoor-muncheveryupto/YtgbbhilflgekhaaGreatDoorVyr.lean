/- Parts of the proof, laid together. -/
import Derived.Test.YtgbbhilflgekhaaGreatDoorVyq
import Derived.Carry
import Derived.ChangeSame
import Derived.JoinedCond
import Derived.OpenShut
import Derived.Test.YtgbbhilflgekhaaGreatDoorRows
import Derived.Lib.LaidU8T
set_option linter.unusedVariables false
set_option linter.unusedSimpArgs false
set_option maxRecDepth 20000
set_option maxHeartbeats 16000000
section
namespace Go.Proofs.Y
open Go Go.Ab
theorem JlU:∀ (k:Nat) (s:ByteArray) (p c:Nat),s.size - p<=k->p<=s.size->((Jc7 k s p c).getD 0 default).pos=p/\∀ j,j<(Jc7 k s p c).length ->
  (((Jc7 k s p c).getD j default).pos<s.size->((Jc7 k s p c).getD j default).x=((uV s ((Jc7 k s p c).getD j default).pos).1:Int)/\j+1<(Jc7 k s p c).length/\((Jc7 k s p c).getD (j+1) default).pos=((Jc7 k s p c).getD j default).pos+(uV s ((Jc7 k s p c).getD j default).pos).2)
 | 0,s,p,c,h,hp=>by
  have:p=s.size:=by omega
  subst this;refine⟨rfl,fun j hj hl=>?_⟩;have hj:j<1:=hj;have:j=0:=by omega
  subst this;exact absurd hl (Nat.lt_irrefl _)
 | k+1,s,p,c,h,hp=>by
  unfold Jc7;by_cases hlt:p<s.size
  ·rw[if_pos hlt];obtain⟨u1,u2,_⟩:=JmD hlt;obtain⟨h1,h2⟩:=JlU k s (p+(uV s p).2) (if (uV s p).1=10 then 0 else c+1) (by omega) (by omega);refine⟨rfl,fun j hj hl=>?_⟩;cases j with
   | zero=>exact⟨rfl,by simpa using Jie _ _ _ _,h1⟩
   | succ j =>
    have hj:j<(Jc7 k s (p+(uV s p).2) (if (uV s p).1=10 then 0 else c+1)).length:=by simpa using hj
    obtain⟨q1,q2,q3⟩:=h2 j hj hl;exact⟨q1,by simpa using q2,q3⟩
  ·rw[if_neg hlt];have:p=s.size:=by omega
   subst this;refine⟨rfl,fun j hj hl=>?_⟩;have hj:j<1:=hj;have:j=0:=by omega
   subst this;exact absurd hl (Nat.lt_irrefl _)
def tkQ (q:Option Nat)(ws:List Int):List (Nat × Tk):=match q with | none=>[] | some t=>[(t,⟨ws.map Jcf,0,2⟩)]
theorem Jpl(L:List (Nat × List Value))(n:Nt)(x:List UInt8)(hL:Jd5 L x)(md rule:Int)(ok:JbU n)(hx:x.length<=1000000000)(ha:∀ s,∀ e∈(n.states.getD s default).edges,e.acts.length<=JiE)
  (hmd : -9223372036854775808<=md/\md<=9223372036854775807) :
  JN Tryz.prog 4 [.agg (Jh n),inV L x false,.lit (.int .i64 md),.lit (.int .i64 rule)] (.lit (.bool true)):=by
 refine JD (Ju Tryz.func4 rfl Tryz.ntmps4 (rs:=[.tmp 8]) rfl (by simp) ?_);have hgr:=JjA L n x false true [] ok hx (by decide);have hck:=JgH n ok;have gN:GP (.agg (Jh n)):=.of_pure (.agg (J8 _));have pN:Ab.Pure (.agg (Jh n)):=.agg (J8 _);have pO:Ab.Pure (.vec [] true):=.vec (by simp);have pO2:Ab.Pure (.vec [] false):=.vec (by simp);have pI:=JaS L x false;have hmo:=ok.modes;have hrus:=ok.rules;obtain⟨g16,hg16⟩:∃ v,Jth n x.length []=v:=⟨_,rfl⟩;rw[hg16] at hgr;refine Jq ?_;refine Jl ?_;unfold inV at hgr pI ⊢;simp -implicitDefEqProofs (disch:=omega) only[Wz,seval,Ja,Jd,Lx];refine Jq ?_;refine Jl ?_;simp -implicitDefEqProofs (disch:=omega) only[Wz,seval,Ja,Jd,Lx,J6,Jay];refine JR Jy4 hgr (Jc gN (Jc (.of_pure pI) (Jc (.of_pure pO) Jm))) (.lit _) ?_;cases g16 with
 | true =>
  simp -implicitDefEqProofs (disch:=omega) only[Wz,seval,Ja,Jd,Lx,Jh];refine Jg Jf5 JaD Jm (.lit _) ?_;simp -implicitDefEqProofs (disch:=omega) only[Wz,seval,Ja,Jd,Lx];exact Jb (.lit _)
 | false =>
 by_cases hx12:12<x.length
 ·simp -implicitDefEqProofs (disch:=omega) only[Wz,seval,Ja,Jd,Lx,Jh];refine Jg Jf5 JaD Jm (.lit _) ?_;simp -implicitDefEqProofs (disch:=omega) only[Wz,seval,Ja,Jd,Lx];exact Jb (.lit _)
 by_cases hm0:md<0
 ·simp -implicitDefEqProofs (disch:=omega) only[Wz,seval,Ja,Jd,Lx,Jh];refine Jg Jf5 JaD Jm (.lit _) ?_;simp -implicitDefEqProofs (disch:=omega) only[Wz,seval,Ja,Jd,Lx];exact Jb (.lit _)
 by_cases hm1:(n.modes.length:Int)<=md
 ·simp -implicitDefEqProofs (disch:=omega) only[Wz,seval,Ja,Jd,Lx,Jh];refine Jg Jf5 JaD Jm (.lit _) ?_;simp -implicitDefEqProofs (disch:=omega) only[Wz,seval,Ja,Jd,Lx];exact Jb (.lit _)
 by_cases hr0:rule<0
 ·simp -implicitDefEqProofs (disch:=omega) only[Wz,seval,Ja,Jd,Lx,Jh];refine Jg Jf5 JaD Jm (.lit _) ?_;simp -implicitDefEqProofs (disch:=omega) only[Wz,seval,Ja,Jd,Lx];exact Jb (.lit _)
 by_cases hr1:(n.rules.length:Int)<=rule
 ·simp -implicitDefEqProofs (disch:=omega) only[Wz,seval,Ja,Jd,Lx,Jh];refine Jg Jf5 JaD Jm (.lit _) ?_;simp -implicitDefEqProofs (disch:=omega) only[Wz,seval,Ja,Jd,Lx];exact Jb (.lit _)
 obtain⟨r,rfl⟩:∃ r:Nat,rule=(r:Int):=⟨rule.toNat,by omega⟩;have hr:r<n.rules.length:=by omega
 obtain⟨rr,hrr⟩:∃ rr,n.rules.getD r default=rr:=⟨_,rfl⟩;simp -implicitDefEqProofs (disch:=omega) only[Wz,seval,Ja,Jd,Lx,Jh];refine Jq ?_;refine Jl ?_;simp -implicitDefEqProofs (disch:=omega) only[Wz,seval,Ja,Jd,Lx,J6,Jay];refine JR Jrb hck (Jc gN Jm) (.lit _) ?_;cases hok:okV n with
 | false =>
  simp -implicitDefEqProofs (disch:=omega) only[Wz,seval,Ja,Jd,Lx,Jh];refine Jg Jf5 JaD Jm (.lit _) ?_;simp -implicitDefEqProofs (disch:=omega) only[Wz,seval,Ja,Jd,Lx];exact Jb (.lit _)
 | true =>
 cases hlx:rr.lexer with
 | false =>
  simp -implicitDefEqProofs (disch:=omega) only[Wz,seval,Ja,Jd,Lx,Jh,hrr,Jf,hlx,if_true];refine Jg Jf5 JaD Jm (.lit _) ?_;simp -implicitDefEqProofs (disch:=omega) only[Wz,seval,Ja,Jd,Lx];exact Jb (.lit _)
 | true =>
 simp -implicitDefEqProofs (disch:=omega) only[Wz,seval,Ja,Jd,Lx,Jh,hrr,Jf,hlx,if_true];refine Jg Jw2 (JjQ n ok r) (Jc pN (Jc (.lit _) Jm)) (.lit _) ?_;cases hgd:Jhw n r with
 | true =>
  simp -implicitDefEqProofs (disch:=omega) only[Wz,seval,Ja,Jd,Lx];refine Jg Jf5 JaD Jm (.lit _) ?_;simp -implicitDefEqProofs (disch:=omega) only[Wz,seval,Ja,Jd,Lx];exact Jb (.lit _)
 | false =>
 have ng:=Jyv hgd;obtain⟨mu,hx3,ho1⟩:=Jzg hg16 ha;have g:JsO n [] x 0 md:=⟨ok,by omega,by decide,by decide,hmd⟩;have w:=(Jgv hok).1;have hlk:=Jzf g hok;have u:=Jif (ofB x);obtain⟨rk,hrk⟩:=Jia ok hok;obtain⟨R,hR⟩:=Jid rk n.states.length;obtain⟨k,fk⟩:=Jyl g hok;have hme:=Jhn L n [] x false hL 0 md (r:Int) g mu k fun _=>fk
 have hrise:=JeE (ofB x);have hlast:=JlU (ofB x).size (ofB x) 0 0 (Nat.le_refl _) (Nat.zero_le _);have hsz:=JaR x;have hl13:=JfD (ofB x);obtain⟨hlen,hpos⟩:=Jdz g.len;have hxs:=fun u (h:u∈Jcl (ofB x))=>(Jrw (ofB x).size (ofB x) 0 0 u h);have hat:=fun i (h:i<x.length)=>JmR L x false i hx h
 have hnet:=fun ws h=>Jm0 n hok ok r hr ws h
 have hlexr:(n.rules.getD r default).lexer=true:=by rw[hrr];exact hlx
 unfold Jjz at hme;rw[hok] at hme;obtain⟨l,hl⟩:∃ l,Jcl (ofB x)=l:=⟨_,rfl⟩;have hcl:Jc7 (ofB x).size (ofB x) 0 0=l:=hl;rw[hcl] at hlast;rw[hl] at hme hrise u fk hlen hpos hlk hxs hl13;obtain⟨hl0,hstep⟩:=hlast;have hll:0<l.length:=u.1;have hany:(l.any fun u=>decide ((u.pos:Int)=0))=true:=List.any_eq_true.2 ⟨_,Jv hll,by rw[hl0];rfl⟩;have hix:ixV l 0=0:=JoC hrise hll (by rw[hl0];rfl);rw[hany,Int.toNat_natCast,hlexr,if_pos (by simp;omega),hix] at hme;have hends:=Js2 (o:=[]) (md:=md) w u ng hrk hR fk hlexr hr hll;have heo:=Joz w u (o:=[]) (md:=md) (k:=k) hr hll;have hel:=JmC w u (o:=[]) (md:=md) (k:=k) hr hll;obtain⟨ys,hys⟩:∃ ys,eF n [] l md k r 0=ys:=⟨_,rfl⟩;rw[hys] at hme hends heo hel;obtain⟨X,hX⟩:∃ X,plV l ys=X:=⟨_,rfl⟩;have hXl:X.length<=1000:=by rw[<- hX];unfold plV;rw[List.length_map];omega
 rw[hX] at hme;have hXm:∀ j,j<l.length->((X.any fun z=>decide (z=((l.getD j default).pos:Int)))=true↔Pw n (xsV l) (stN n r) (spN n r) j):=fun j hj=>by
  rw[<- hends j,List.any_eq_true,<- hX];constructor
  ·rintro⟨z,hz,hzq⟩;obtain⟨y,hy,rfl⟩:=List.mem_map.1 hz;simp only[decide_eq_true_eq] at hzq;refine⟨y,hy,?_⟩;obtain⟨_,q2,_⟩:=heo y hy;rcases Nat.lt_trichotomy y.pos j with q | q | q
   ·have:=JlS hrise q hj;omega
   ·exact q
   ·have:=JlS hrise q q2;omega
  ·rintro⟨y,hy,rfl⟩;exact⟨_,List.mem_map.2 ⟨y,hy,rfl⟩,by simp⟩
 unfold inV at hme hat;simp -implicitDefEqProofs (disch:=omega) only[Wz,seval,Ja,Jd,Lx];refine Jq ?_;refine Jl ?_;simp -implicitDefEqProofs (disch:=omega) only[Wz,seval,Ja,Jd,Lx,J6,Jay];refine Jcn.cv (fun g=>JB (JK (.refl g) _) (JB (JK (.refl g) _) (JB (Jb0 (.refl g) _ _) (JB (JK (.refl g) _) (JB (JK (.refl g) _) (JB (JK (.refl g) _) JaW)))))) ?_;refine Jg Jrc hme (Jc pN (Jc pI (Jc pO2 (Jc (.lit _) (Jc (.lit _) (Jc (.lit _) Jm)))))) (.tup (Jc (.vec (Jk Jge _)) (Jc (.lit _) Jm))) ?_;simp -implicitDefEqProofs (disch:=omega) only[Wz,seval,Ja,Jd,Lx];refine Jq ?_;refine Jl ?_;simp -implicitDefEqProofs (disch:=omega) only[Wz,seval,Ja,Jd,Lx];refine Jq ?_;refine Jl ?_;simp -implicitDefEqProofs (disch:=omega) only[Wz,seval,Ja,Jd,Lx];refine Jq ?_;refine Jl ?_;simp -implicitDefEqProofs (disch:=omega) only[Wz,seval,Ja,Jd,Lx];refine JQ ?_;refine Js (A:=Nat × Option Nat × Nat) (fun z=>⟨[(1,.wit L (.vec (x.map Jbb) false)),(3,.lit (.int .i64 (r:Int))),(4,.ptr 0 0),(9,.vec (X.map Jkk) false),(11,owV z.2.1 z.1),(12,.lit (.int .i64 ((l.getD z.1 default).pos:Int)))],⟨[(0,Jh n)],tkQ z.2.1 ((xsV l).take z.1),z.2.2⟩,117⟩) (fun z=>z.1<l.length/\1<=z.2.2/\(z.2.1=none->z.1=0)/\∀ t,z.2.1=some t->1<=t/\t<z.2.2) (fun z=>l.length - z.1) (0,none,1) (Jn (by simp only[hl0];simp[lk,owV]) (fun _ _ e=>by simpa [Jh] using e) (fun _ _ e=>e) rfl rfl) ⟨hll,Nat.le_refl _,fun _=>rfl,fun t e=>(by cases e)⟩ ?_;rintro⟨j,xo,m⟩ ⟨hj,hm,hx0,hxt⟩;simp only at hj hm hx0 hxt ⊢;have hxl:(xsV l).length=l.length:=by unfold xsV;exact List.length_map _
 have hwl:((xsV l).take j).length=j:=by rw[List.length_take];omega
 have hsj:=hstep j hj;have hXj:=hXm j hj;have hpj:=hpos _ (Jv hj);obtain⟨uj,huj⟩:∃ u,l.getD j default=u:=⟨_,rfl⟩;rw[huj] at hsj hXj hpj ⊢;obtain⟨v,hv1,hv2⟩:=hnet ((xsV l).take j) (by rw[hwl];omega);rw[hwl] at hv1;have hthere:(X.any fun z=>decide (z=(uj.pos:Int)))=v:=by
  rw[Bool.eq_iff_iff,hXj,hv1];exact⟨fun h=>h.to_take (Nat.le_refl _),fun h=>h.of_take.1⟩
 refine JQ ?_;refine Jq ?_;refine Jl ?_;simp -implicitDefEqProofs (disch:=omega) only[Wz,seval,Ja,Jd,Lx];refine Jq ?_;refine Jq ?_;refine Jl ?_;simp -implicitDefEqProofs (disch:=omega) only[Wz,seval,Ja,Jd,Lx];refine JQ ?_;refine Js (fun i:Nat=>⟨[(1,.wit L (.vec (x.map Jbb) false)),(3,.lit (.int .i64 (r:Int))),(4,.ptr 0 0),(9,.vec (X.map Jkk) false),(11,owV xo j),(12,.lit (.int .i64 (uj.pos:Int))),(13,.lit (.bool ((X.take i).any fun z=>decide (z=(uj.pos:Int))))),(14,.lit (.int .i64 (i:Int)))],⟨[(0,Jh n)],tkQ xo ((xsV l).take j),m⟩,117⟩) (fun i=>i<=X.length) (fun i=>X.length - i) 0 (Jn (by simp[lk]) (fun _ _ e=>e) (fun _ _ e=>e) rfl rfl) (Nat.zero_le _) ?_;rintro i hi;refine Jq ?_;refine Jl ?_;rcases Nat.lt_or_ge i X.length with hlt | hge
 ·obtain⟨z,hz⟩:∃ z,X.getD i default=z:=⟨_,rfl⟩;have hsn:((X.take (i+1)).any fun z=>decide (z=(uj.pos:Int)))=((X.take i).any (fun z=>decide (z=(uj.pos:Int))) || decide (z=(uj.pos:Int))):=by
   rw[List.take_succ_eq_append_getElem hlt,List.any_append,List.any_cons,List.any_nil,Bool.or_false,<- hz,List.getD_eq_getElem?_getD,List.getElem?_eq_getElem hlt];rfl
  obtain⟨b,hb⟩:∃ b,((X.take i).any fun z=>decide (z=(uj.pos:Int)))=b:=⟨_,rfl⟩;rw[hb] at hsn ⊢;simp -implicitDefEqProofs (disch:=omega) only[Wz,seval,Ja,Jd,Lx];refine Jq ?_;refine JQ ?_;refine Jl ?_;have hfin:∀ (q:Bool),q=(b || decide (z=(uj.pos:Int)))->∀ (sl:List (Nat × AV)),(∀ p∈[(1,AV.wit L (.vec (x.map Jbb) false)),(3,.lit (.int .i64 (r:Int))),(4,.ptr 0 0),(9,.vec (X.map Jkk) false),(11,owV xo j),(12,.lit (.int .i64 (uj.pos:Int))),(13,.lit (.bool q)),(14,.lit (.int .i64 ((i+1:Nat):Int)))],lk sl p.1=some p.2) ->
    ∃ x',x'<=X.length/\X.length - x'<X.length - i/\St.wk ⟨sl,⟨[(0,Jh n)],tkQ xo ((xsV l).take j),m⟩,117⟩ ⟨[(1,.wit L (.vec (x.map Jbb) false)),(3,.lit (.int .i64 (r:Int))),(4,.ptr 0 0),(9,.vec (X.map Jkk) false),(11,owV xo j),(12,.lit (.int .i64 (uj.pos:Int))),(13,.lit (.bool ((X.take x').any fun z=>decide (z=(uj.pos:Int))))),(14,.lit (.int .i64 (x':Int)))],⟨[(0,Jh n)],tkQ xo ((xsV l).take j),m⟩,117⟩:=fun q hq sl hsl=>by
   refine⟨i+1,hlt,by omega,?_⟩;rw[hsn,<- hq];exact Jn hsl (fun _ _ e=>e) (fun _ _ e=>e) rfl rfl
  cases b with
  | true =>
   simp -implicitDefEqProofs (disch:=omega) only[Wz,seval,Ja,Jd,Lx];refine Jl ?_;simp -implicitDefEqProofs (disch:=omega) only[Wz,seval,Ja,Jd,Lx];exact hfin true (by simp) _ (by simp[lk])
  | false =>
   by_cases hzq:z=(uj.pos:Int)
   ·have c1:(z==(uj.pos:Int))=true:=by simpa using hzq
    simp -implicitDefEqProofs (disch:=omega) only[Wz,seval,Ja,Jd,Lx,hz,Jkk,c1];refine Jl ?_;simp -implicitDefEqProofs (disch:=omega) only[Wz,seval,Ja,Jd,Lx];exact hfin true (by simp[hzq]) _ (by simp[lk])
   ·have c1:(z==(uj.pos:Int))=false:=by simpa using hzq
    simp -implicitDefEqProofs (disch:=omega) only[Wz,seval,Ja,Jd,Lx,hz,Jkk,c1];refine Jl ?_;simp -implicitDefEqProofs (disch:=omega) only[Wz,seval,Ja,Jd,Lx];exact hfin false (by simp[hzq]) _ (by simp[lk])
 have hie:i=X.length:=by omega
 subst hie;rw[List.take_length,hthere];simp -implicitDefEqProofs (disch:=omega) only[Wz,seval,Ja,Jd,Lx];refine Jq ?_;refine Jl ?_;simp -implicitDefEqProofs (disch:=omega) only[Wz,seval,Ja,Jd,Lx,J6,Jay];have bv:(v==v)=true:=by simp
 have pw:∀ ws:List Int,Ab.Pure (.vec (ws.map Jcf) false):=fun ws=>.vec (Jk Jhv _);have pU:∀ a b:Int,Ab.Pure (AV.tup [.lit (.int .i32 a),.lit (.int .i64 b)]):=fun a b=>.tup (Jc (.lit _) (Jc (.lit _) Jm));have hf0:JbS 1 16=True:=eq_true (J2 (by decide) (by decide));have hf1:JbS (j+1) 16=True:=eq_true (J2 (by omega) (by omega));have hcv:uj.pos<x.length->IntKind.i64.wrap ((uV (ofB x) uj.pos).1:Int)=((uV (ofB x) uj.pos).1:Int):=fun h=>by
  obtain⟨_,_,q3⟩:=JmD (s:=ofB x) (i:=uj.pos) (by rw[hsz];exact h);exact Jdh (by omega) (by omega)
 have hadd:uj.pos<x.length->IntKind.i64.wrap ((uj.pos:Int)+((uV (ofB x) uj.pos).2:Int))=((uj.pos+(uV (ofB x) uj.pos).2:Nat):Int):=fun h=>by
  obtain⟨_,q2,_⟩:=JmD (s:=ofB x) (i:=uj.pos) (by rw[hsz];exact h);rw[hsz] at q2;rw[Jdh (by omega) (by omega)];omega
 have htake:∀ x1,uj.x=x1->(xsV l).take (j+1)=(xsV l).take j++[x1]:=fun x1 h=>by
  rw[List.take_succ_eq_append_getElem (by rw[hxl];exact hj)];have hg:=JkX hj;rw[huj,h,List.getD_eq_getElem?_getD,List.getElem?_eq_getElem (by rw[hxl];exact hj)] at hg;have hg:(xsV l)[j]=x1:=hg;rw[hg]
 cases xo with
 | none =>
  have hj0:=hx0 rfl;subst hj0;refine Jcn.cv (args1:=[.agg (Jh n),.lit (.int .i64 (r:Int)),.vec (((xsV l).take 0).map Jcf) false]) (fun g=>JB (JK (.refl g) _) (JB (JK (.refl g) _) (JB (Jb0 (.refl g) _ _) JaW))) ?_;refine Jg Jrd hv2 (Jc pN (Jc (.lit _) (Jc (pw _) Jm))) (.lit _) ?_;simp -implicitDefEqProofs (disch:=omega) only[Wz,seval,Ja,Jd,Lx,bv];refine Jq ?_;refine Jl ?_;by_cases hpl:uj.pos<x.length;rotate_left
  ·simp -implicitDefEqProofs (disch:=omega) only[Wz,seval,Ja,Jd,Lx];refine Jg Jf5 JaD Jm (.lit _) ?_;simp -implicitDefEqProofs (disch:=omega) only[Wz,seval,Ja,Jd,Lx];exact Jb (.lit _)
  obtain⟨t1,t2,t3⟩:=hsj (by rw[hsz];exact hpl);have hcv:=hcv hpl;have hadd:=hadd hpl;have htake:=htake _ t1;simp -implicitDefEqProofs (disch:=omega) only[Wz,seval,Ja,Jd,Lx];refine Jq ?_;refine Jl ?_;simp -implicitDefEqProofs (disch:=omega) only[Wz,seval,Ja,Jd,Lx];refine Jg Jre (hat uj.pos hpl) (Jc pI (Jc (.lit _) Jm)) (pU _ _) ?_;simp -implicitDefEqProofs (disch:=omega) only[Wz,seval,Ja,Jd,Lx];refine Jq ?_;refine Jl ?_;simp -implicitDefEqProofs (disch:=omega) only[Wz,seval,Ja,Jd,Lx,owV,tkQ,hcv,JyO,JBf,hf0,if_true,true_and];refine Jl ?_;simp -implicitDefEqProofs (disch:=omega) only[Wz,seval,Ja,Jd,Lx,hadd];refine⟨(1,some m,m+1),⟨t2,by show 1<=m+1;omega,fun q=>(by cases q),fun t e=>(by cases e;exact⟨hm,Nat.lt_succ_self _⟩)⟩,by show l.length - 1<l.length - 0;omega,?_⟩;have t3':(l.getD 1 default).pos=uj.pos+(uV (ofB x) uj.pos).2:=t3;have htk:(xsV l).take 1=[((uV (ofB x) uj.pos).1:Int)]:=by have:=htake;simpa using this
  simp only[t3',htk];exact Jn (by simp[lk,owV]) (fun _ _ e=>e) (fun _ _ e=>e) rfl rfl
 | some t =>
  refine JM Jrd (Jl9 (t:=t) (k:=⟨((xsV l).take j).map Jcf,0,2⟩) (r':=.lit (.bool v)) ?_ hv2 (Jc pN (Jc (.lit _) (Jc (pw _) Jm))) (fun g g' x c=>JB (JK x _) (JB (JK x _) (JB ?_ JaW))) (fun m g v' _ _ h=>by cases h with | lit hp=>exact .lit hp)) ?_
  ·show lk [(t,_)] t=_;simp[lk]
  ·rw[List.length_map,hwl] at c;exact c
  rintro _ _ ⟨rfl,rfl⟩;obtain⟨ht1,ht2⟩:=hxt t rfl;simp -implicitDefEqProofs (disch:=omega) only[Wz,seval,Ja,Jd,Lx,bv];refine Jq ?_;refine Jl ?_;by_cases hpl:uj.pos<x.length;rotate_left
  ·simp -implicitDefEqProofs (disch:=omega) only[Wz,seval,Ja,Jd,Lx];refine Jg Jf5 JaD Jm (.lit _) ?_;simp -implicitDefEqProofs (disch:=omega) only[Wz,seval,Ja,Jd,Lx];exact Jb (.lit _)
  obtain⟨t1,t2,t3⟩:=hsj (by rw[hsz];exact hpl);have hcv:=hcv hpl;have hadd:=hadd hpl;have htake:=htake _ t1;simp -implicitDefEqProofs (disch:=omega) only[Wz,seval,Ja,Jd,Lx];refine Jq ?_;refine Jl ?_;simp -implicitDefEqProofs (disch:=omega) only[Wz,seval,Ja,Jd,Lx];refine Jg Jre (hat uj.pos hpl) (Jc pI (Jc (.lit _) Jm)) (pU _ _) ?_;simp -implicitDefEqProofs (disch:=omega) only[Wz,seval,Ja,Jd,Lx];refine Jq ?_;refine Jl ?_;obtain⟨ws,hws⟩:∃ ws,(xsV l).take j=ws:=⟨_,rfl⟩;rw[hws] at hwl htake;simp -implicitDefEqProofs (disch:=omega) only[Wz,seval,Ja,Jd,Lx,owV,tkQ,hws,hcv,JyO,hwl,List.length_map,hf1,if_true,true_and];refine Jl ?_;simp -implicitDefEqProofs (disch:=omega) only[Wz,seval,Ja,Jd,Lx,hadd];refine⟨(j+1,some t,m+1),⟨t2,by show 1<=m+1;omega,fun q=>(by cases q),fun t' e=>(by cases e;exact⟨ht1,by show t<m+1;omega⟩)⟩,by show l.length - (j+1)<l.length - j;omega,?_⟩;simp only[t3,htake];exact Jn (by simp[lk,owV]) (fun _ _ e=>e) (fun _ _ e=>by rw[List.map_append] at e;exact e) rfl rfl
end Go.Proofs.Y
end
section
namespace Go.Proofs.Y
open Go Go.Ab
open Go.Proofs.Tryz renaming prog->Pg
mutual
def gz:Gd->Nat
 | .mk _ _ name kids=>1+name.size+gzs kids
def gzs:List Gd->Nat
 | []=>0
 | g :: l=>gz g+gzs l
end
theorem Jpm(l:List Gd):gzs l=(l.map gz).sum:=by induction l with | nil=>rfl | cons x l ih=>simp[gzs,ih]
theorem Js5(g:Gd):gz g=1+g.name.size+(g.kids.map gz).sum:=by cases g;simp only[gz,Jpm];rfl
theorem Jyw{l:List Gd}{f g:Gd->Nat}(h:∀ x∈l,f x<=g x):(l.map f).sum<=(l.map g).sum:=by
 induction l with
 | nil=>simp
 | cons x l ih =>
  simp only[List.map_cons,List.sum_cons];have:=h x (by simp);have:=ih (fun y hy=>h y (by simp[hy]));omega
theorem Jzn:∀ (m:Nat) (g:Gd),gz g<=m->m<=1000000000->Jof g/\gsz g<=gz g:=by
 intro m;induction m using Nat.strongRecOn with
 | _ m ih =>
  intro g h hm;have hk:∀ k∈g.kids,Jof k/\gsz k<=gz k:=fun k hk=>by
   have h1:=Jdw (List.mem_map_of_mem (f:=gz) hk);have h2:=Js5 g;exact ih (gz k) (by omega) k (Nat.le_refl _) (by omega)
  refine⟨.mk (by have:=Js5 g;omega) fun k hk'=>(hk k hk').1,?_⟩;rw[Jlo,Js5];have:=Jyw fun x hx=>(hk x hx).2
  omega
abbrev RgS:Type:={p:Int × Int // (-2147483648<=p.1/\p.1<=2147483647)/\(-2147483648<=p.2/\p.2<=2147483647)}
abbrev EdS:Type:={e:Ed // Jjh e.set}
abbrev StS:Type:={s:Sta // ∀ e∈s.edges,Jjh e.set}
def edz (e:Ed):Nat:=1+e.set.length+gz e.g+e.acts.length
def stz (s:Sta):Nat:=1+(s.edges.map edz).sum
def nrz (r:Nr):Nat:=1+r.name.size
def baz (s:ByteArray):Nat:=1+s.size
def ntz (n:Nt):Nat:=1+(n.types.map baz).sum+(n.channels.map baz).sum+(n.modes.map baz).sum+(n.rules.map nrz).sum+(n.states.map stz).sum
theorem JrF{z:Int}(h:(Lit.int .i32 z).wf=true) : -2147483648<=z/\z<=2147483647:=by
 simp only[Lit.wf,Bool.and_eq_true,decide_eq_true_eq] at h;have e1:IntKind.i32.min = -2147483648:=by decide
 have e2:IntKind.i32.max=2147483647:=by decide
 omega
theorem Jk0{α:Type}{P:α->Prop}(l:List {a // P a}):∀ a∈l.map (fun x=>x.1),P a:=fun a h=>by
 obtain⟨x,_,rfl⟩:=List.mem_map.1 h;exact x.2
section
variable {H:Type} {en:TypeId × Value->H} {W:World}
theorem Jzo(n:Nat):Rd en Pg W n 94 (fun av m=>∃ t:Gd,av=JaT t/\gz t<=m):=by
 induction n using Nat.strongRecOn with
 | _ n ih =>
  refine(Rd.struct' JtA rfl fun k hk=>.cons Jq8 (.int Jq8 rfl) (.cons ty2 (.int ty2 rfl) (.cons ty9 (.str ty9 rfl)
   (.cons JyL (.slice' JyL rfl JtA (by decide) (f:=JaT) (sz:=gz) fun j hj=>ih j (by omega)) (.nil (by decide)))))).mono ?_
  rintro av m ⟨q,h,rfl⟩;obtain⟨_,_,_,_,rfl,⟨z1,w1,rfl⟩,h,rfl⟩:=h;obtain⟨_,_,_,_,rfl,⟨z2,_,rfl⟩,h,rfl⟩:=h;obtain⟨_,_,_,_,rfl,⟨s,hs,hs2,rfl⟩,h,rfl⟩:=h;obtain⟨_,_,_,_,rfl,⟨l,rfl,hl,_⟩,rfl,rfl⟩:=h;exact⟨.mk ⟨z1,JxP w1⟩ z2 s l,by simp[JaT,Jf8],by simp only[gz,Jpm];omega⟩
theorem JqN(n:Nat):Rd en Pg W n 150 (fun av m=>∃ t:RgS,av=Ja2 t.1/\1<=m):=by
 refine(Rd.struct' JpN rfl fun k hk=>.cons Jta (.int Jta rfl) (.cons Jta (.int Jta rfl) (.nil (by decide)))).mono ?_;rintro av m ⟨q,h,rfl⟩;obtain⟨_,_,_,_,rfl,⟨z1,w1,rfl⟩,h,rfl⟩:=h;obtain⟨_,_,_,_,rfl,⟨z2,w2,rfl⟩,rfl,rfl⟩:=h;exact⟨⟨(z1,z2),JrF w1,JrF w2⟩,rfl,by omega⟩
theorem Jzp(n:Nat):Rd en Pg W n 96 (fun av m=>∃ t:EdS,av=Jr t.1/\edz t.1<=m):=by
 refine(Rd.struct' JyM rfl fun k hk=>.cons Jq8 (.int Jq8 rfl) (.cons JyK (.slice' JyK rfl JpN (by decide) (f:=fun t:RgS=>Ja2 t.1) (sz:=fun _=>1) fun j _=>JqN j)
  (.cons ty3 (.int ty3 rfl) (.cons ty3 (.int ty3 rfl) (.cons JtA (Jzo k)
  (.cons Jtc (.slice' Jtc rfl Jtz (by decide) (f:=JG) (sz:=fun _=>1) fun j _=>JxQ j) (.cons ty3 (.int ty3 rfl) (.nil (by decide))))))))).mono ?_
 rintro av m ⟨q,h,rfl⟩;obtain⟨_,_,_,_,rfl,⟨z1,w1,rfl⟩,h,rfl⟩:=h;obtain⟨_,_,_,_,rfl,⟨st,rfl,_,hs⟩,h,rfl⟩:=h;obtain⟨_,_,_,_,rfl,⟨z2,_,rfl⟩,h,rfl⟩:=h;obtain⟨_,_,_,_,rfl,⟨z3,_,rfl⟩,h,rfl⟩:=h;obtain⟨_,_,_,_,rfl,⟨g,rfl,hg⟩,h,rfl⟩:=h;obtain⟨_,_,_,_,rfl,⟨ac,rfl,_,ha⟩,h,rfl⟩:=h;obtain⟨_,_,_,_,rfl,⟨z4,_,rfl⟩,rfl,rfl⟩:=h;have hst:Jjh (st.map fun x=>x.1):=Jk0 st;exact⟨⟨⟨⟨z1,JxP w1⟩,st.map (fun x=>x.1),z2,z3,g,ac,z4⟩,hst⟩,by simp[Jr,JF,List.map_map,Function.comp_def],by simp only[edz,List.length_map];omega⟩
theorem Jyx(n:Nat):Rd en Pg W n 87 (fun av m=>∃ t:StS,av=Je t.1/\stz t.1<=m):=by
 refine(Rd.struct' JyI rfl fun k hk=>.cons ty3 (.int ty3 rfl) (.cons JyH (.slice' JyH rfl JyM (by decide) (f:=fun t:EdS=>Jr t.1) (sz:=fun t:EdS=>edz t.1) fun j _=>Jzp j) (.nil (by decide)))).mono ?_;rintro av m ⟨q,h,rfl⟩;obtain⟨_,_,_,_,rfl,⟨z1,_,rfl⟩,h,rfl⟩:=h;obtain⟨_,_,_,_,rfl,⟨l,rfl,hl,_⟩,rfl,rfl⟩:=h;exact⟨⟨⟨z1,l.map (fun x=>x.1)⟩,Jk0 l⟩,by simp[Je,List.map_map,Function.comp_def],by simp only[stz,List.map_map,Function.comp_def];omega⟩
theorem Jzq(n:Nat):Rd en Pg W n 39 (fun av m=>∃ t:Nr,av=Jf t/\nrz t<=m):=by
 refine(Rd.struct' JyG rfl fun k hk=>.cons ty9 (.str ty9 rfl) (.cons ty4 (.bool ty4 rfl) (.cons ty4 (.bool ty4 rfl) (.cons ty4 (.bool ty4 rfl) (.cons ty4 (.bool ty4 rfl)
  (.cons ty3 (.int ty3 rfl) (.cons ty3 (.int ty3 rfl) (.cons ty3 (.int ty3 rfl) (.cons ty3 (.int ty3 rfl) (.nil (by decide))))))))))).mono ?_
 rintro av m ⟨q,h,rfl⟩;obtain⟨_,_,_,_,rfl,⟨s,hs,hs2,rfl⟩,h,rfl⟩:=h;obtain⟨_,_,_,_,rfl,⟨b1,rfl⟩,h,rfl⟩:=h;obtain⟨_,_,_,_,rfl,⟨b2,rfl⟩,h,rfl⟩:=h;obtain⟨_,_,_,_,rfl,⟨b3,rfl⟩,h,rfl⟩:=h;obtain⟨_,_,_,_,rfl,⟨b4,rfl⟩,h,rfl⟩:=h;obtain⟨_,_,_,_,rfl,⟨z1,_,rfl⟩,h,rfl⟩:=h;obtain⟨_,_,_,_,rfl,⟨z2,_,rfl⟩,h,rfl⟩:=h;obtain⟨_,_,_,_,rfl,⟨z3,_,rfl⟩,h,rfl⟩:=h;obtain⟨_,_,_,_,rfl,⟨z4,_,rfl⟩,rfl,rfl⟩:=h;exact⟨⟨s,b1,b2,b3,b4,z1,z2,z3,z4⟩,rfl,by simp only[nrz];omega⟩
theorem Jyy(n:Nat):Rd en Pg W n 9 (fun av m=>∃ t:ByteArray,av=JaA t/\baz t<=m):=by
 refine(Rd.str ty9 rfl).mono ?_;rintro av m ⟨s,_,hs,rfl⟩;exact⟨s,rfl,by simp only[baz];omega⟩
theorem Jzr(n:Nat):Rd en Pg W n 26 (fun av m=>∃ t:Nt,av=Jh t/\ntz t<=m/\∀ s∈t.states,∀ e∈s.edges,Jjh e.set):=by
 have ws:∀ k,Rd en Pg W k 22 (fun av m=>∃ l:List ByteArray,av=[.vec (l.map JaA) false]/\(l.map baz).sum+1<=m/\l.length+1<=m):=fun k =>
  .slice' Jtb rfl ty9 (by decide) (f:=JaA) (sz:=baz) fun j _=>Jyy j
 refine(Rd.struct' Jy1 rfl fun k hk=>.cons Jtb (ws k) (.cons Jtb (ws k) (.cons Jtb (ws k)
  (.cons JyE (.slice' JyE rfl JyG (by decide) (f:=Jf) (sz:=nrz) fun j _=>Jzq j)
  (.cons JyF (.slice' JyF rfl JyI (by decide) (f:=fun t:StS=>Je t.1) (sz:=fun t:StS=>stz t.1) fun j _=>Jyx j) (.nil (by decide))))))).mono ?_
 rintro av m ⟨q,h,rfl⟩;obtain⟨_,_,_,_,rfl,⟨l1,rfl,h1,_⟩,h,rfl⟩:=h;obtain⟨_,_,_,_,rfl,⟨l2,rfl,h2,_⟩,h,rfl⟩:=h;obtain⟨_,_,_,_,rfl,⟨l3,rfl,h3,_⟩,h,rfl⟩:=h;obtain⟨_,_,_,_,rfl,⟨l4,rfl,h4,_⟩,h,rfl⟩:=h;obtain⟨_,_,_,_,rfl,⟨l5,rfl,h5,_⟩,rfl,rfl⟩:=h;exact⟨⟨l1,l2,l3,l4,l5.map (fun x=>x.1)⟩,by simp[Jh,List.map_map,Function.comp_def],by simp only[ntz,List.map_map,Function.comp_def];omega,Jk0 l5⟩
theorem Js6{n:Nt}(h:ntz n<=100000000)(p:∀ s∈n.states,∀ e∈s.edges,Jjh e.set):JbU n:=by
 unfold ntz at h;have b1:=Jef baz (fun t=>by unfold baz;omega) n.types;have b2:=Jef baz (fun t=>by unfold baz;omega) n.channels;have b3:=Jef baz (fun t=>by unfold baz;omega) n.modes;have b4:=Jef nrz (fun t=>by unfold nrz;omega) n.rules;have b5:=Jef stz (fun t=>by unfold stz;omega) n.states;have sb:∀ (l:List ByteArray),(l.map baz).sum<=100000000->∀ s∈l,s.size<=9000000000000000000:=fun l hl s hs=>by
  have:=Jdw (List.mem_map_of_mem (f:=baz) hs);unfold baz at this hl;omega
 refine⟨by omega,by omega,by omega,by omega,by omega,sb _ (by omega),sb _ (by omega),sb _ (by omega),fun r hr=>?_,fun s hs=>?_⟩
 ·have:=Jdw (List.mem_map_of_mem (f:=nrz) hr);have e:nrz r=1+r.name.size:=rfl;omega
 ·have h1:=Jdw (List.mem_map_of_mem (f:=stz) hs);have e1:stz s=1+(s.edges.map edz).sum:=rfl;have h2:=Jef edz (fun t=>by unfold edz;omega) s.edges;refine⟨by omega,fun e he=>?_⟩;have h3:=Jdw (List.mem_map_of_mem (f:=edz) he);have e2:edz e=1+e.set.length+gz e.g+e.acts.length:=rfl;obtain⟨q1,q2⟩:=Jzn _ e.g (Nat.le_refl _) (by omega);exact⟨by omega,by omega,by omega,q1,p s hs e he⟩
theorem JrG(n:Nat):Rd en Pg W n 3 (fun av m=>∃ z:Int,av=[.lit (.int .i64 z)]/\(-9223372036854775808<=z/\z<=9223372036854775807)):=by
 refine(Rd.int ty3 rfl).mono ?_;rintro av m ⟨z,hz,rfl⟩;simp only[Lit.wf,Bool.and_eq_true,decide_eq_true_eq] at hz;have e1:IntKind.i64.min = -9223372036854775808:=by decide
 have e2:IntKind.i64.max=9223372036854775807:=by decide
 exact⟨z,rfl,by omega⟩
theorem Jzs(n:Nat):Rd en Pg W n 5 (fun av m=>∃ t:UInt8,av=Jbb t/\0<=m):=by
 refine(Rd.int ty5 rfl).mono ?_;rintro av m ⟨z,hz,rfl⟩;simp only[Lit.wf,Bool.and_eq_true,decide_eq_true_eq] at hz;have e1:IntKind.u8.min=0:=by decide
 have e2:IntKind.u8.max=255:=by decide
 refine⟨UInt8.ofNat z.toNat,?_,Nat.zero_le _⟩;unfold Jbb;have:((UInt8.ofNat z.toNat).toNat:Int)=z:=by
  rw[UInt8.toNat_ofNat'];omega
 rw[this]
theorem JqO(n:Nat):Rd en Pg W n 27 (fun av m=>∃ l:List UInt8,av=[.vec (l.map Jbb) false]/\l.length<=m) :=
 (Rd.slice' JrT rfl ty5 (by decide) (f:=Jbb) (sz:=fun _=>0) fun j _=>Jzs j).mono fun av m ⟨l,h1,_,h2⟩=>⟨l,h1,by omega⟩
end
theorem Js7{n:Nt}{M:Nat}(h:ntz n<=M):∀ s,∀ e∈(n.states.getD s default).edges,e.acts.length<=M:=fun s e he=>by
 rcases Nat.lt_or_ge s n.states.length with hs | hs
 ·unfold ntz at h;have h1:=Jdw (List.mem_map_of_mem (f:=stz) (Jv hs));have e1:stz (n.states.getD s default)=1+((n.states.getD s default).edges.map edz).sum:=rfl;have h3:=Jdw (List.mem_map_of_mem (f:=edz) he);have e2:edz e=1+e.set.length+gz e.g+e.acts.length:=rfl;omega
 ·have:n.states.getD s default=default:=by rw[List.getD_eq_getElem?_getD,List.getElem?_eq_none hs];rfl
  rw[this] at he;cases he
end Go.Proofs.Y
end
section
namespace Go.Proofs.Y
open Go Go.Ab Go.RowKit Go.ChangeShapes
section
variable {H:Type} {enc:TypeId × Value->H} {P:Program}
theorem Jad.below{W W':World}(h:Jad (fun _=>False) W W'):Below W.heap.size W W':=⟨h.os,h.tape,h.output,h.size,fun b hb=>h.block b hb (fun q=>q)⟩
theorem JeH(hl:laidOutB P=true){W W':World}(hb:Below W.heap.size W W'){sp:Nat->Bool}:∀ {ts:List TypeId} {vs:List Value} {ds:List (DataW H)} {ps:List MemPlace},
  (∀ t∈ts,P.readableRec t=true/\t<P.types.size)->DataW.TrodAll enc P W 0 (fun _=>true) true ts vs ds ps->(∀ p∈ps,p.block<W.heap.size/\sp p.block=true)->DataW.TrodAll enc P W' 0 sp true ts vs ds ps
 | [],vs,ds,ps,_,h,_=>by
  obtain⟨rfl,rfl,rfl⟩:=trodAll_nil h;exact trodAll_mk0
 | t :: ts,_,_,_,ht,h,hp=>by
  obtain⟨v,vs',d,ds',p,q,rfl,rfl,rfl,h1,h2⟩:=trodAll_cons h;obtain⟨hr,hrow⟩:=ht t (by simp);exact⟨p,q,WideElems.Trod_stays hl hr hrow h1 (fun x hx=>hb.same (hp x (by simp[hx])).1) (fun x hx=>(hp x (by simp[hx])).2),
   JeH hl hb (fun t' h'=>ht t' (by simp[h'])) h2 (fun x hx=>hp x (by simp[hx])),rfl⟩
theorem JqP{f:Func}{s:ChangeSpec}{apart fresh handsOn again:Bool}{W W':World}{args:Array Value}{ds gs:List (DataW H)}{before:List MemPlace}{tb:TypeId}
  (hW:DataW.Whole enc P f.params.toList s.vars apart W args.toList ds gs before) (hv:s.vars=[]) (hs:s.fn H ds={results:=[.lit (.bool true)],args:=ds})
  (hl:laidOutB P=true) (hp:(f.params.toList.all fun t=>P.readableRec t && decide (t<P.types.size))=true) (hres:f.resultTypes = #[tb]) (htb:P.underlying tb=some .bool)
  (hk:Jad (fun _=>False) W W'):s.post enc P f apart fresh handsOn again W args (.bool true) W':=by
 have hb:=Jad.below hk;have hlt:=hW.lt;have hW0:=hW;have hpar:∀ t∈f.params.toList,P.readableRec t=true/\t<P.types.size:=fun t ht=>by
  have:=List.all_eq_true.1 hp t ht;simpa using this
 obtain⟨p,q,h1,h2,rfl,hz,hn⟩:=hW;rw[hv] at h2;obtain⟨rfl,rfl⟩:=trodVars_none h2;have hfn:s.fn H (ds++[])={results:=[.lit (.bool true)],args:=ds}:=by rw[List.append_nil];exact hs
 have hr:∀ (b:Nat) (sp:Nat->Bool) (hd:Bool),DataW.TrodAll enc P W' b sp hd f.resultTypes.toList ((Value.bool true).resultList f.resultTypes.size) [.lit (.bool true)] []:=fun b sp hd=>by
  rw[hres];exact trodAll_cons_mk (shut_bool htb true) trodAll_mk0
 have ha:∀ sp:Nat->Bool,(∀ x∈p,sp x.block=true)->DataW.TrodAll enc P W' 0 sp true f.params.toList args.toList ds p:=fun sp hsp =>
  JeH hl hb hpar h1 (fun x hx=>⟨hlt x (by simp[hx]),hsp x hx⟩)
 refine⟨ds,[],p++[],[],p,[],hW0,?_,?_,?_,hb.frame _,fun _=>⟨?_,.lit (.bool true) :: ds,[],p++[],?_,fun x hx _=>hx⟩⟩
 ·rw[hfn];exact hr _ _ _
 ·rw[hfn];exact ha _ (fun x hx=>by simpa using hlt x (by simp[hx]))
 ·rw[hfn,hv];rfl
 ·exact ok_one hres rfl (okWide_bool_mk htb true)
 ·refine⟨p,[],?_,by rw[hv];rfl,rfl,fun b off hx=>?_,fun hap=>hn hap⟩
  ·exact trodAll_append (p:=[]) (ha (fun _=>true) (fun _ _=>rfl)) (hr 0 (fun _=>true) true)
  ·have hlt':=hlt _ hx;exact(World.frozen?_of_block (w:=W) (hb.block b hlt')).trans (hz b off hx)
end
end Go.Proofs.Y
end
section
namespace Go.Proofs.Y
open Go Go.Ab Go.RowKit Go.ChangeShapes
def JrH:Go.Shelf.Ren:=⟨id,fun | 5=>5 | 119=>211 | 138=>213 | 139=>214 | n=>n,fun | 3=>0 | 4=>1 | n=>n⟩
theorem JqQ:U8Types Tryz.prog JrH:=⟨Tryz.underlying5,Tryz.underlying211,Tryz.underlying213,Tryz.underlying214⟩
theorem JqR:U8Extra Tryz.prog JrH:=⟨by kernel_rfl,by kernel_rfl,by kernel_rfl,by kernel_rfl,by kernel_rfl,by kernel_rfl,by kernel_rfl⟩
theorem Js8{W:World}(h:laidMetH Tryz.prog [("unicode/utf8.acceptRanges",YtgbbhilflgekhaaGreatDoor.Rows.laid_unicode_utf8_acceptRanges),("unicode/utf8.first",YtgbbhilflgekhaaGreatDoor.Rows.laid_unicode_utf8_first)] W):Lib.Utf8Tabs 0 1 W:=by
 have e1:YtgbbhilflgekhaaGreatDoor.Rows.laid_unicode_utf8_acceptRanges=Go.Lib.acceptData:=by kernel_rfl
 have e2:YtgbbhilflgekhaaGreatDoor.Rows.laid_unicode_utf8_first=Go.Lib.firstData:=by kernel_rfl
 rw[e1,e2] at h;exact utf8Tabs_of_readsT JqQ JqR (Lib.laidMet.reads h (.tail _ (.head _))) (Lib.laidMet.reads h (.head _))
theorem Jyz{W:World}(h:Lib.Utf8Tabs 0 1 W):∀ p∈Jm7,∀ (j:Nat) (c:Value),p.2[j]? = some c->JdW W p.1 j=some c:=by
 intro p hp j c hc;unfold Jm7 at hp;rcases List.mem_cons.1 hp with rfl | hp
 ·simp only[List.getElem?_map,Option.map_eq_some_iff] at hc;obtain⟨i,hi,rfl⟩:=hc;obtain⟨hj,e⟩:=List.getElem?_eq_some_iff.1 hi;simp only[List.getElem_range] at e;subst e;exact JdM (h.1 _ (by simpa using hj)) rfl
 ·rw[List.mem_singleton] at hp;subst hp;simp only[List.getElem?_map,Option.map_eq_some_iff] at hc;obtain⟨i,hi,rfl⟩:=hc;obtain⟨hj,e⟩:=List.getElem?_eq_some_iff.1 hi;simp only[List.getElem_range] at e;subst e;have hj:j<32:=by simpa using hj
  obtain⟨a,b⟩:=h.2 (j / 2) (by omega);unfold JyS;by_cases q:j % 2=0
  ·rw[if_pos q];have e:2 * (j / 2)=j:=by omega
   rw[e] at a;exact JdM a rfl
  ·rw[if_neg q];have e:2 * (j / 2)+1=j:=by omega
   rw[e] at b;exact JdM b rfl
end Go.Proofs.Y
end
