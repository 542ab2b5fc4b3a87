/- Parts of the proof, laid together. -/
import Derived.Test.YtgbbhilflgekhaaGreatDoorVym
set_option linter.unusedVariables false
set_option linter.unusedSimpArgs false
set_option maxRecDepth 20000
set_option maxHeartbeats 16000000
section
namespace Go.Proofs.Y
open Go Go.Ab
theorem Jit{em:List Bool}{e:Ed}:goE true em e=true↔e.op.1≠1/\(e.op.1≠2\/em.getD e.n.toNat false=true):=by
 unfold goE;by_cases h1:e.op.1=1
 ·simp[h1]
 ·by_cases h2:e.op.1=2
  ·cases em.getD e.n.toNat false <;> simp[h1,h2]
  ·simp[h1,h2]
theorem Jyq{n:Nt}(w:Wf n)(ok:JbU n){em:List Bool}{a b:Nat}(h:Rc n (goE true em) a b):a=b\/Rch (gE n em) a b:=by
 induction h with
 | base=>exact .inl rfl
 | @step s e _ h2 h3 h4 ih =>
  obtain⟨q1,q2⟩:=Jit.1 h4;have m:e.to.toNat∈(gE n em).getD s []:=(Jhg w ok).2 ⟨e,h2,h3,q1,q2,rfl⟩;rcases ih with r | r
  ·subst r;exact .inr (.one m)
  ·exact .inr (.step r m)
theorem Jyr{n:Nt}(w:Wf n)(ok:JbU n){em:List Bool}{a b:Nat}(h:Rch (gE n em) a b):Rc n (goE true em) a b:=by
 induction h with
 | one m =>
  obtain⟨e,h1,h2,h3,h4,rfl⟩:=(Jhg w ok).1 m;exact .step .base h1 h2 (Jit.2 ⟨h3,h4⟩)
 | step _ m ih =>
  obtain⟨e,h1,h2,h3,h4,rfl⟩:=(Jhg w ok).1 m;exact .step ih h1 h2 (Jit.2 ⟨h3,h4⟩)
theorem Jo8{n:Nt}{go:Ed->Bool}{a j:Nat}(h:j<n.states.length):(rcV n go a).getD j false=JsT (Rc n go a j):=by
 unfold rcV;rw[List.getD_eq_getElem?_getD,List.getElem?_map,List.getElem?_range h];rfl
theorem Jht{n:Nt}{go:Ed->Bool}{a:Nat}:(rcV n go a).length=n.states.length:=by simp[rcV]
theorem JqG{n:Nt}(w:Wf n)(ok:JbU n){em:List Bool}(hem:em.length=n.rules.length){a:Nat}(ha:a<n.states.length)(H:Hp)(t:Nat)(ht:lk H.toks t=some ⟨em.map Jp,0,1⟩)(hn:t<H.nx) :
  JaE Tryz.prog 29 [.agg (Jh n),.lit (.int .i64 (a:Int)),.lit (.bool true),.own t em.length] H (.vec ((rcV n (goE true em) a).map Jp) false):=by
 have r0:rho [t] 0=t:=rfl;refine JaE.sub [t] rfl (by simp) (by simp only[List.mem_singleton,forall_eq];exact hn) (.cons (.pure (.agg (J8 n))) (.cons (.pure (.lit _)) (.cons (.pure (.lit _)) (.cons (.own (by show 0<1;decide) r0) .nil)))) Jm
  (Jc ⟨by show 0<1;decide,_,ht,rfl,rfl,.pure (Jk J9 _)⟩ Jm) (fun i hi e=>?_) (JkT n w ok em hem a ha) (.pure (.vec (Jk J9 _)))
 have hi:i<1:=hi;have:i=0:=by omega
 subst this;cases e
theorem Jiu(n:Nt)(w:Wf n)(ok:JbU n):JN Tryz.prog 30 [.agg (Jh n)] (.vec ((J0 n).map Jp) false):=by
 refine Jo Tryz.func30 rfl Tryz.ntmps30 (rs:=[.tmp 2]) rfl (by simp) ?_;have hst:=w.nst;have hru:=w.nru;obtain⟨S1,hS1⟩:∃ S1:List Bool × Bool->St,∀ em ag,S1 (em,ag)=⟨[(4,.lit (.bool ag)),(3,.own 1 n.rules.length),(1,.ptr 0 0)],⟨[(0,Jh n)],[(1,⟨em.map Jp,0,1⟩)],2⟩,46⟩:=⟨fun x=>⟨[(4,.lit (.bool x.2)),(3,.own 1 n.rules.length),(1,.ptr 0 0)],⟨[(0,Jh n)],[(1,⟨x.1.map Jp,0,1⟩)],2⟩,46⟩,fun _ _=>rfl⟩;obtain⟨S2,hS2⟩:∃ S2:Nat × List Bool × Bool->St,∀ i em ag,S2 (i,em,ag)=⟨[(5,.lit (.int .i64 (i:Int))),(4,.lit (.bool ag)),(3,.own 1 n.rules.length),(1,.ptr 0 0)],⟨[(0,Jh n)],[(1,⟨em.map Jp,0,1⟩)],2⟩,46⟩:=⟨fun x=>⟨[(5,.lit (.int .i64 (x.1:Int))),(4,.lit (.bool x.2.2)),(3,.own 1 n.rules.length),(1,.ptr 0 0)],⟨[(0,Jh n)],[(1,⟨x.2.1.map Jp,0,1⟩)],2⟩,46⟩,fun _ _ _=>rfl⟩;simp (disch:=omega) only[Wz,seval,Jh];refine Js S1 (fun x=>x.1.length=n.rules.length/\(∀ i,x.1.getD i false=true->Emp n i)/\(x.2=false->Jkv n x.1)) (fun x=>2 * x.1.count false+x.2.toNat) (List.replicate n.rules.length false,true) ?_ ⟨by simp,fun i hi=>?_,fun(q:true=false)=>(nomatch q)⟩ ?_
 ·rw[hS1];exact Jn (by simp[lk]) (fun _ _ q=>q) (fun p c q=>by rw[<- q];simp[List.map_replicate,Jp]) rfl rfl
 ·simp only[List.getD_eq_getElem?_getD,List.getElem?_replicate] at hi;split at hi <;> cases hi
 rintro⟨em,ag⟩ ⟨hel,hes,hec⟩;simp only at hel hes hec;rw[hS1];refine Jl ?_;cases ag with
 | false =>
  have e:=Jfh w ok hel hes (hec rfl);rw[<- e];simp (disch:=omega) only[Wz,seval];exact Jch (k:=⟨em.map Jp,0,1⟩) rfl (by simpa using hel.symm) (Jk J9 _)
 | true =>
 simp (disch:=omega) only[Wz,seval];refine Js S2 (fun x=>x.1<=n.rules.length/\x.2.1.length=n.rules.length/\(∀ i,x.2.1.getD i false=true->Emp n i)/\(x.2.2=false->∀ j,j<x.1->Rch (gE n x.2.1) (stN n j) (spN n j)->x.2.1.getD j false=true)/\x.2.1.count false<=em.count false/\(x.2.2=true->x.2.1.count false<em.count false)) (fun x=>n.rules.length - x.1) (0,em,false) ?_ ⟨Nat.zero_le _,hel,hes,fun _ j q=>absurd q (Nat.not_lt_zero _),Nat.le_refl _,fun(q:false=true)=>(nomatch q)⟩ ?_
 ·rw[hS2];exact Jn (by simp[lk]) (fun _ _ q=>q) (fun _ _ q=>q) rfl rfl
 rintro⟨i,J,ag⟩ ⟨hi,hl,hs,hc,hn1,hn2⟩;simp only at hi hl hs hc hn1 hn2;rw[hS2];refine Jl ?_;rcases Nat.lt_or_ge i n.rules.length with hlt | hge
 rotate_left
 ·have e:i=n.rules.length:=by omega
  subst e;simp (disch:=omega) only[Wz,seval,Jh];refine⟨(J,ag),⟨hl,hs,fun q j hj r=>hc q j hj r⟩,?_,by rw[hS1];exact Jn (by simp[lk]) (fun _ _ q=>q) (fun _ _ q=>q) rfl rfl⟩;cases ag with
  | false=>simp only[Bool.toNat];simp;omega
  | true=>have:=hn2 rfl;simp only[Bool.toNat];simp;omega
 obtain⟨r,hr⟩:∃ r,n.rules.getD i default=r:=⟨_,rfl⟩;have gi:=JaI (l:=J) (i:=i) (by omega);have nxt:(ag=false->Rch (gE n J) (stN n i) (spN n i)->J.getD i false=true)->ag=false->∀ j,j<i+1->Rch (gE n J) (stN n j) (spN n j)->J.getD j false=true:=fun q e j hj=>by
  rcases Nat.lt_succ_iff_lt_or_eq.1 hj with h | h
  ·exact hc e j h
  ·subst h;exact q e
 cases hJi:J.getD i false with
 | true =>
  rw[hJi] at gi;simp (disch:=omega) only[Wz,seval,Jh];refine Jw (n:=46) rfl (by decide) mixed ?_;simp (disch:=omega) only[Wz,seval,Jh,gi,hl,Lx];exact⟨(i+1,J,ag),⟨by simp only;omega,hl,hs,nxt fun _ _=>hJi,hn1,hn2⟩,by simp only;omega,by rw[hS2];exact Jn (by simp[lk]) (fun _ _ q=>q) (fun _ _ q=>q) rfl rfl⟩
 | false =>
 rw[hJi] at gi;have hsta:=w.start hlt;have hsto:=w.stop hlt;have hne:=(w.ru i hlt).2.2.1;rw[hr] at hsta hsto hne;obtain⟨sn,hsn⟩:∃ sn:Nat,r.start=(sn:Int):=⟨r.start.toNat,by omega⟩;obtain⟨pn,hpn⟩:∃ pn:Nat,r.stop=(pn:Int):=⟨r.stop.toNat,by omega⟩;have es:stN n i=sn:=by unfold stN;rw[hr,hsn];rfl
 have ep:spN n i=pn:=by unfold spN;rw[hr,hpn];rfl
 have rq:=JqG w ok hl (a:=sn) (by omega) ⟨[(0,Jh n)],[(1,⟨J.map Jp,0,1⟩)],2⟩ 1 rfl (show 1<2 by decide);obtain⟨R,hR⟩:∃ R,rcV n (goE true J) sn=R:=⟨_,rfl⟩;have hRl:R.length=n.states.length:=by rw[<- hR];exact Jht
 have hRp:R.getD pn false=JsT (Rc n (goE true J) sn pn):=by rw[<- hR];exact Jo8 (by omega)
 rw[hR,hl] at rq;have gR:=JaI (l:=R) (i:=pn) (by omega);unfold Jh at rq;simp (disch:=omega) only[Wz,seval,Jh];refine Jw (n:=46) rfl (by decide) mixed ?_;simp (disch:=omega) only[Wz,seval,Jh,gi,hl,hr,hsn,Jf,Lx];refine Jb1 Jrg rq ?_;cases hb:R.getD pn false with
 | false =>
  rw[hb] at gR;have hbd:R.getD pn default=false:=hb;have nr:¬ Rch (gE n J) (stN n i) (spN n i):=fun q=>by
   rw[es,ep] at q;have:=JdA.2 (Jyr w ok q);rw[<- hRp,hb] at this;cases this
  simp (disch:=omega) only[Wz,seval,Jh,hr,hpn,Jf,Jp,hbd,hRl,Lx];exact⟨(i+1,J,ag),⟨by simp only;omega,hl,hs,nxt fun _ q=>absurd q nr,hn1,hn2⟩,by simp only;omega,by rw[hS2];exact Jn (by simp[lk]) (fun _ _ q=>q) (fun _ _ q=>q) rfl rfl⟩
 | true =>
  rw[hb] at gR;have hbd:R.getD pn default=true:=hb;have hrc:Rc n (goE true J) sn pn:=JdA.1 (hRp.symm.trans hb);have hE:Emp n i:=by
   rcases Jyq w ok hrc with q | q
   ·omega
   ·have:=Jh7 w ok hs q;unfold Emp;rw[es,ep];exact this
  have hc1:=JbV (l:=J) (i:=i) (by omega) hJi;simp (disch:=omega) only[Wz,seval,Jh,hr,hpn,Jf,Jp,hbd,hRl,gi,hl,Lx];refine⟨(i+1,J.set i true,true),⟨by simp only;omega,by simp[hl],fun j hj=>?_,fun(q:true=false)=>(nomatch q),by simp only;omega,fun _=>by simp only;omega⟩,by simp only;omega,?_⟩
  ·simp only at hj;rw[Ja5 (by omega)] at hj;split at hj
   ·rename_i q;subst q;exact hE
   ·exact hs j hj
  ·rw[hS2];exact Jn (by simp[lk]) (fun _ _ q=>q) (fun p c q=>by rw[<- q];simp[List.map_set,Jp]) rfl rfl
end Go.Proofs.Y
end
section
namespace Go.Proofs.Y
open Go Go.Ab
theorem JqH{G:List (List Nat)}{rk:Nat->Nat}(h:JxU G rk){i j:Nat}(r:Rch G i j):rk j<rk i:=by
 induction r with
 | one e=>exact h _ _ e
 | step _ e ih=>exact Nat.lt_trans (h _ _ e) ih
theorem JrA{G:List (List Nat)}{a b c:Nat}(h:Rch G a b)(k:Rch G b c):Rch G a c:=by
 induction k with
 | one e=>exact .step h e
 | step _ e ih=>exact .step ih e
theorem JmW{l:List Nat}{p q:Nat->Bool}(h:∀ x,p x=true->q x=true):(l.filter p).length<=(l.filter q).length:=by
 induction l with
 | nil=>exact Nat.le_refl _
 | cons x l ih =>
  rw[List.filter_cons,List.filter_cons];by_cases hp:p x=true
  ·rw[if_pos hp,if_pos (h x hp)];simpa using ih
  ·rw[if_neg hp];split
   ·simp only[List.length_cons];omega
   ·exact ih
theorem Jb2{l:List Nat}{p q:Nat->Bool}(h:∀ x,p x=true->q x=true){y:Nat}(hy:y∈l)(h1:p y=false)(h2:q y=true):(l.filter p).length<(l.filter q).length:=by
 induction l with
 | nil=>cases hy
 | cons x l ih =>
  rw[List.filter_cons,List.filter_cons];rcases List.mem_cons.1 hy with e | e
  ·subst e;rw[h1,h2];simp only[Bool.false_eq_true,if_false,if_true,List.length_cons];have:=JmW (l:=l) h;omega
  ·have:=ih e;by_cases hp:p x=true
   ·rw[if_pos hp,if_pos (h x hp)];simpa using this
   ·rw[if_neg hp];split
    ·simp only[List.length_cons];omega
    ·exact this
theorem JlP{G:List (List Nat)}(hG:GOk G):Jm5 G↔∀ i,¬ Rch G i i:=by
 constructor
 ·rintro⟨rk,h⟩ i r;exact Nat.lt_irrefl _ (JqH h r)
 ·intro h;refine⟨fun i=>((List.range G.length).filter (Jlu G i)).length,fun i j hj=>?_⟩;refine Jb2 (y:=j) (fun x hx=>?_) (List.mem_range.2 (hG.get.2 _ hj)) ?_ (JbB.2 (.one hj))
  ·exact JbB.2 (JrA (.one hj) (JbB.1 hx))
  ·cases e:Jlu G j j with
   | false=>rfl
   | true=>exact absurd (JbB.1 e) (h j)
theorem Jo9{G G':List (List Nat)}(h:∀ s v,v∈G.getD s []->v∈G'.getD s []){i j:Nat}(r:Rch G i j):Rch G' i j:=by
 induction r with
 | one e=>exact .one (h _ _ e)
 | step _ e ih=>exact .step ih (h _ _ e)
structure RgD (G:List (List Nat)) (i:Nat) (s:List Bool × List Nat):Prop where
 fr:FrI G i s
 no:∀ k,(k=i\/s.1.getD k false=true)->k∉s.2->i∉G.getD k []
theorem RgD.init{G:List (List Nat)}{i:Nat}(hi:i<G.length):RgD G i (List.replicate G.length false,[i]):=by
 refine⟨FrI.init hi,fun k hk hn=>?_⟩;rcases hk with rfl | hk
 ·exact absurd (by simp) hn
 ·simp only[List.getD_eq_getElem?_getD,List.getElem?_replicate] at hk;split at hk <;> cases hk
theorem RgD.next{G:List (List Nat)}{i:Nat}(hG:GOk G){m:List Bool}{t:List Nat}{k:Nat}(h:RgD G i (m,t++[k]))(hi:i∉G.getD k []):RgD G i (Jdj (m,t) (G.getD k [])):=by
 have ml:m.length=G.length:=h.fr.len;have q:Mk1 (m,t) (Jdj (m,t) (G.getD k [])) (G.getD k []):=Mk1.fold _ (fun a ha=>by rw[ml];exact hG.get.2 a ha);refine⟨h.fr.next hG,fun k' hk' hn=>?_⟩;by_cases e:k'=k
 ·subst e;exact hi
 ·have hnt:k'∉t:=fun x=>hn (q.keep _ x)
  refine h.no k' ?_ (by simp only[List.mem_append,List.mem_singleton];rintro(x | x);exact hnt x;exact e x);rcases hk' with x | x
  ·exact .inl x
  ·rcases q.new _ x with y | y
   ·exact .inr y
   ·exact absurd y hn
theorem RgD.last{G:List (List Nat)}{i:Nat}(hG:GOk G){m:List Bool}(h:RgD G i (m,[])):¬ Rch G i i:=fun r=>by
 have e:=h.fr.last hG;have key:∀ k,k=i\/Rch G i k->i∉G.getD k []:=fun k hk=>by
  refine h.no k ?_ (by simp);rcases hk with x | x
  ·exact .inl x
  ·right
   show m.getD k false=true;rw[e,Jgt (x.lt hG)];exact JbB.2 x
 cases r with
 | one q=>exact key i (.inl rfl) q
 | step a q=>exact key _ (.inr a) q
theorem RgD.hit{G:List (List Nat)}{i:Nat}{m:List Bool}{t:List Nat}{k:Nat}(h:RgD G i (m,t++[k]))(hi:i∈G.getD k []):Rch G i i:=by
 rcases(h.fr.todo k (by simp)).2 with e | e
 ·subst e;exact .one hi
 ·exact .step (h.fr.snd k e) hi
def tgF (n:Nt)(em:List Bool)(e:Ed):List Nat:=if e.op.1=1 then [] else if e.op.1=2 then stN n e.n.toNat :: (if em.getD e.n.toNat false=true then [e.to.toNat] else []) else [e.to.toNat]
def rwF (n:Nt)(em:List Bool)(s:Nat):List Nat:=(n.states.getD s default).edges.flatMap (tgF n em)
def gF' (n:Nt)(em:List Bool):List (List Nat):=(List.range n.states.length).map (rwF n em)
theorem JsX(n:Nt)(em:List Bool)(e:Ed):(tgF n em e).length<=2:=by
 unfold tgF;split
 ·simp
 ·split
  ·split <;> simp
  ·simp
theorem JrB{n:Nt}{em:List Bool}{i:Nat}{e:Ed}:prF n em i e=(tgF n em e).map fun v=>(i,v):=by
 unfold prF tgF;split
 ·rfl
 ·split
  ·split <;> rfl
  ·rfl
theorem Jpa{n:Nt}{em:List Bool}{s:Nat}(h:s<n.states.length):(gF' n em).getD s []=rwF n em s:=by
 unfold gF';rw[List.getD_eq_getElem?_getD,List.getElem?_map,List.getElem?_range h];rfl
theorem Jiv{n:Nt}{em:List Bool}:(gF' n em).length=n.states.length:=by simp[gF']
theorem JsY{n:Nt}{em:List Bool}{s:Nat}(h:¬ s<n.states.length):(gF' n em).getD s []=[]:=by
 unfold gF';rw[List.getD_eq_getElem?_getD,List.getElem?_map,List.getElem?_eq_none (by simpa using h)];rfl
section
variable {n:Nt} (w:Wf n) (ok:JbU n)
include w ok
theorem JrC{em:List Bool}{s:Nat}{e:Ed}(hs:s<n.states.length)(he:e∈(n.states.getD s default).edges){v:Nat}(hv:v∈tgF n em e):v<n.states.length:=by
 have _:=ok;have ht:=w.to hs he;unfold tgF at hv;split at hv
 ·cases hv
 ·split at hv
  ·rename_i h2;have hc:=w.call hs he h2;have hb:=w.start (i:=e.n.toNat) (by omega);rcases List.mem_cons.1 hv with q | q
   ·rw[q];unfold stN;omega
   ·split at q
    ·simp only[List.mem_singleton] at q;rw[q];omega
    ·cases q
  ·simp only[List.mem_singleton] at hv;rw[hv];omega
theorem Jpb{s v:Nat}:v∈(gF' n (J0 n)).getD s []↔v∈(gF n).getD s []:=by
 have hb:=Je0 w ok (em:=J0 n) (i:=n.states.length) (k:=0) (.inr ⟨rfl,rfl⟩);unfold gF;rw[Jeg fun p hp=>(hb.1 p hp).1];by_cases hs:s<n.states.length
 ·rw[Jpa hs];unfold rwF;constructor
  ·intro h;obtain⟨e,he,hv⟩:=List.mem_flatMap.1 h;exact JdQ _ n hs he (by rw[JrB];exact List.mem_map.2 ⟨v,hv,rfl⟩)
  ·intro h;obtain⟨j,e,hj,he,hp⟩:=Jdy w ok (.inr ⟨rfl,rfl⟩) h;rw[JrB] at hp;obtain⟨u,hu,q⟩:=List.mem_map.1 hp;simp only[Prod.mk.injEq] at q;obtain⟨rfl,rfl⟩:=q;exact List.mem_flatMap.2 ⟨e,he,hu⟩
 ·rw[JsY hs];constructor
  ·intro h;cases h
  ·intro h;exact absurd (hb.1 _ h).1 hs
theorem JrD{em:List Bool}:GOk (gF' n em):=by
 refine⟨by rw[Jiv];have:=w.nst;omega,fun l hl=>?_,fun l hl j hj=>?_⟩
 ·obtain⟨s,hs,rfl⟩:=List.mem_map.1 hl;have h1:=Jbs (f:=tgF n em) (c:=2) (l:=(n.states.getD s default).edges) (fun e _=>JsX n em e);have h2:=ok.edgesD s;unfold rwF;omega
 ·obtain⟨s,hs,rfl⟩:=List.mem_map.1 hl;obtain⟨e,he,hv⟩:=List.mem_flatMap.1 hj;rw[Jiv];exact JrC w ok (List.mem_range.1 hs) he hv
theorem Jpc:Jcr (gF n)=true↔∃ i,i<n.states.length/\Rch (gF' n (J0 n)) i i:=by
 have a1:=JlP (JxV w ok);constructor
 ·intro h;have na:¬ Jm5 (gF n):=fun q=>by rw[Jb6 q] at h;cases h
  rw[a1] at na;have:∃ i,Rch (gF n) i i:=by
   by_cases c:∃ i,Rch (gF n) i i
   ·exact c
   ·exact absurd (fun i q=>c ⟨i,q⟩) na
  obtain⟨i,hi⟩:=this;have hi':=Jo9 (G':=gF' n (J0 n)) (fun s v q=>(Jpb w ok).2 q) hi;exact⟨i,by have:=hi'.lt (JrD w ok);rwa [Jiv] at this,hi'⟩
 ·rintro⟨i,_,hi⟩;exact JdP fun q=>a1.1 q i (Jo9 (fun s v q=>(Jpb w ok).1 q) hi)
end
end Go.Proofs.Y
end
section
namespace Go.Proofs.Y
open Go Go.Ab
theorem Jiw(s:List Bool × List Nat)(p q:List Nat):Jdj s (p++q)=Jdj (Jdj s p) q:=by unfold Jdj;rw[List.foldl_append]
theorem JqI{n:Nt}{em:List Bool}{es:List Ed}{k:Nat}{e:Ed}(hk:k<es.length)(he:es.getD k default=e):(es.take (k+1)).flatMap (tgF n em)=(es.take k).flatMap (tgF n em)++tgF n em e:=by
 rw[List.take_add_one,Jfz hk,Option.toList_some,List.flatMap_append,he];simp
theorem JfF{i:Nat}{p:Nat->Prop}(h:∀ j,j<i->p j)(hi:p i):∀ j,j<i+1->p j:=fun j hj=>by
 rcases Nat.lt_succ_iff_lt_or_eq.1 hj with q | q
 ·exact h j q
 ·subst q;exact hi
theorem JmX(n:Nt)(w:Wf n)(ok:JbU n)(em:List Bool)(hem:em.length=n.rules.length)(v:Bool)(hv:v=true↔∃ i,i<n.states.length/\Rch (gF' n em) i i) :
  JN Tryz.prog 31 [.agg (Jh n),.vec (em.map Jp) false] (.lit (.bool v)):=by
 have hst:=w.nst;have hru:=w.nru;have fin:∀ h (b:Bool),Jdg h (.lit (.bool b)) (.lit (.bool b)):=fun h b=>Jb (.lit _);have hG:=JrD w ok (em:=em);have hGl:=Jiv (n:=n) (em:=em);obtain⟨G,hGG⟩:∃ G,gF' n em=G:=⟨_,rfl⟩;refine JD (Ju Tryz.func31 rfl Tryz.ntmps31 (rs:=[.tmp 4]) rfl (by simp) ?_);obtain⟨S1,hS1⟩:∃ S1:Nat × Nat->St,∀ i N,S1 (i,N)=⟨[(5,.lit (.int .i64 (i:Int))),(2,.ptr 0 0),(1,.vec (em.map Jp) false)],⟨[(0,Jh n)],[],N⟩,107⟩:=⟨fun x=>⟨[(5,.lit (.int .i64 (x.1:Int))),(2,.ptr 0 0),(1,.vec (em.map Jp) false)],⟨[(0,Jh n)],[],x.2⟩,107⟩,fun _ _=>rfl⟩;refine Jl ?_;simp (disch:=omega) only[Wz,seval,Jh];refine Js S1 (fun x=>x.1<=n.states.length/\1<=x.2/\∀ j,j<x.1->¬ Rch G j j) (fun x=>n.states.length - x.1) (0,1) ?_ ⟨Nat.zero_le _,Nat.le_refl _,fun j q=>absurd q (Nat.not_lt_zero _)⟩ ?_
 ·rw[hS1];exact Jn (by simp[lk]) (fun _ _ q=>q) (fun _ _ q=>q) rfl rfl
 rintro⟨i,N⟩ ⟨hi,hN,hno⟩;simp only at hi hN hno;rw[hS1];rcases Nat.lt_or_ge i n.states.length with hlt | hge
 rotate_left
 ·have e:i=n.states.length:=by omega
  subst e;have hb:v=false:=by
   cases v with
   | false=>rfl
   | true=>obtain⟨j,h1,h2⟩:=hv.1 rfl;rw[hGG] at h2;exact absurd h2 (hno j h1)
  subst hb;refine Jl ?_;simp (disch:=omega) only[Wz,seval,Jh];exact fin _ _
 have hit:Rch G i i->v=true:=fun q=>hv.2 ⟨i,hlt,by rw[hGG];exact q⟩
 have hGL:G.length=n.states.length:=by rw[<- hGG];exact hGl
 rw[hGG] at hG;refine Jq ?_;refine Jl ?_;simp (disch:=omega) only[Wz,seval,Jh];refine Jq ?_;refine JQ ?_;refine Jq ?_;refine Jl ?_;simp (disch:=omega) only[Wz,seval,Jh];refine Jq ?_;refine JcG ?_;simp (disch:=omega) only[Wz,seval,Jla];refine JcF (ps:=[(0,.lit (.int .i64 (i:Int)))]) (z:=[.lit (.int .i64 0)]) (rows:=[Jag i]) Jq3 rfl ty3 rfl ⟨rfl,by decide⟩ (by decide) rfl rfl ?_;simp (disch:=omega) only[Wz,seval,Jla];refine Jl ?_;simp (disch:=omega) only[Wz,seval];obtain⟨S2,hS2⟩:∃ S2:(List Bool × List Nat) × Nat × Nat->St,∀ m T t nx,S2 ((m,T),t,nx)=⟨[(7,.own t T.length),(6,.own N n.states.length),(5,.lit (.int .i64 (i:Int))),(2,.ptr 0 0),(1,.vec (em.map Jp) false)],⟨[(0,Jh n)],[(N,⟨m.map Jp,0,1⟩),(t,⟨T.map Jag,0,1⟩)],nx⟩,107⟩:=⟨fun x=>⟨[(7,.own x.2.1 x.1.2.length),(6,.own N n.states.length),(5,.lit (.int .i64 (i:Int))),(2,.ptr 0 0),(1,.vec (em.map Jp) false)],⟨[(0,Jh n)],[(N,⟨x.1.1.map Jp,0,1⟩),(x.2.1,⟨x.1.2.map Jag,0,1⟩)],x.2.2⟩,107⟩,fun _ _ _ _=>rfl⟩;refine Js S2 (fun x=>RgD G i x.1/\N<x.2.1/\x.2.1<x.2.2) (fun x=>2 * x.1.1.count false+x.1.2.length) ((List.replicate n.states.length false,[i]),N+1,N+2) ?_ ⟨by have:=RgD.init (G:=G) (i:=i) (by omega);rwa [hGL] at this,by simp only;omega,by simp only;omega⟩ ?_
 ·rw[hS2];exact Jn (by simp[lk]) (fun _ _ q=>q) (fun p c q=>by rw[<- q];simp[List.map_replicate,Jp]) rfl rfl
 rintro⟨⟨m,todo⟩,t,nx⟩ ⟨hI,htN,htn⟩;simp only at htN htn hI;rw[hS2];refine Jl ?_;have hml:m.length=n.states.length:=by rw[<- hGL];exact hI.fr.len
 rcases List.eq_nil_or_concat todo with rfl | ⟨T,k,rfl⟩
 ·have nr:=hI.last hG;simp (disch:=omega) only[Wz,seval];refine Jl ?_;simp (disch:=omega) only[Wz,seval];exact⟨(i+1,nx),⟨by simp only;omega,by simp only;omega,JfF hno nr⟩,by simp only;omega,by rw[hS1];exact Jn (by simp[lk]) (fun _ _ q=>q) (fun _ _ q=>by cases q) rfl rfl⟩
 simp only[List.concat_eq_append] at hI ⊢;have hNt:(N=t)=False:=by simp;omega
 have htN':(t=N)=False:=by simp;omega
 have hk:=(hI.fr.todo k (by simp)).1;have hc:=hI.fr.cnt;simp only[List.length_append,List.length_singleton] at hc;have g1:((T.map Jag)++[[AV.lit (.int .i64 (k:Int))]])[T.length]? = some [AV.lit (.int .i64 (k:Int))]:=by rw[List.getElem?_append_right (by simp)];simp
 have i1:(((T.length+1:Nat):Int) - 1).toNat=T.length:=by omega
 simp (disch:=omega) only[Wz,seval,hNt,htN',List.map_append,List.length_append,List.length_singleton,g1,i1,Jag];refine JcD (k:=⟨T.map Jag++[[AV.lit (.int .i64 (k:Int))]],0,1⟩) rfl rfl Jq3 rfl ty3 rfl (by simp[lk,hNt]) (by simp) (by omega) (by omega) (by simp) ?_;have tk1:(T.map Jag++[[AV.lit (.int .i64 (k:Int))]]).take T.length=T.map Jag:=by rw[List.take_append_of_le_length (by simp),List.take_of_length_le (by simp)]
 have hkL:k<n.states.length:=by omega
 obtain⟨s,hs⟩:∃ s,n.states.getD k default=s:=⟨_,rfl⟩;have hse:=(ok.edges s (by rw[<- hs];exact Jv hkL)).1;have hrow:G.getD k []=s.edges.flatMap (tgF n em):=by rw[<- hGG,Jpa hkL];unfold rwF;rw[hs]
 have hrl:=hG.get (k:=k);rw[hrow] at hrl;simp (disch:=omega) only[Wz,seval,Hp.cut,dl,hNt,i1,tk1];obtain⟨S3,hS3⟩:∃ S3:Nat × (List Bool × List Nat) × Nat->St,∀ q ms U y,S3 (q,(ms,U),y)=⟨[(9,.lit (.int .i64 (q:Int))),(8,.lit (.int .i64 (k:Int))),(7,.own nx U.length),(6,.own N n.states.length),(5,.lit (.int .i64 (i:Int))),(2,.ptr 0 0),(1,.vec (em.map Jp) false)],⟨[(0,Jh n)],[(N,⟨ms.map Jp,0,1⟩),(nx,⟨U.map Jag,0,1⟩)],y⟩,107⟩:=⟨fun x=>⟨[(9,.lit (.int .i64 (x.1:Int))),(8,.lit (.int .i64 (k:Int))),(7,.own nx x.2.1.2.length),(6,.own N n.states.length),(5,.lit (.int .i64 (i:Int))),(2,.ptr 0 0),(1,.vec (em.map Jp) false)],⟨[(0,Jh n)],[(N,⟨x.2.1.1.map Jp,0,1⟩),(nx,⟨x.2.1.2.map Jag,0,1⟩)],x.2.2⟩,107⟩,fun _ _ _ _=>rfl⟩;refine Js S3 (fun x=>x.1<=s.edges.length/\x.2.1=Jdj (m,T) ((s.edges.take x.1).flatMap (tgF n em))/\i∉(s.edges.take x.1).flatMap (tgF n em)/\nx+1<=x.2.2) (fun x=>s.edges.length - x.1) (0,(m,T),nx+1) ?_ ⟨Nat.zero_le _,rfl,by simp,Nat.le_refl _⟩ ?_
 ·rw[hS3];exact Jn (by simp[lk]) (fun _ _ q=>q) (fun p c q=>by first | exact q | (rw[<- q];simp[lk,hNt])) rfl rfl
 rintro⟨q,⟨ms,U⟩,y⟩ ⟨hq,hst,hni,hy⟩;simp only at hq hst hni hy;rw[hS3];refine Jl ?_;have hNx:(N=nx)=False:=by simp;omega
 have hxN:(nx=N)=False:=by simp;omega
 have hmk:=fun(p:List Nat) (hp:∀ a∈p,a<n.states.length)=>Mk1.fold (s:=(m,T)) p (fun a ha=>by rw[show (m,T).1.length=n.states.length from hml];exact hp a ha);rcases Nat.lt_or_ge q s.edges.length with hql | hge
 rotate_left
 ·have e:q=s.edges.length:=by omega
  subst e;rw[List.take_length,<- hrow] at hst hni;have hnext:=hI.next hG hni;rw[<- hst] at hnext;have mk:=hmk (G.getD k []) (fun a ha=>by rw[<- hGL];exact(hG.get (k:=k)).2 a ha);rw[<- hst] at mk;have q1:=mk.cnt;have q2:=mk.le;simp only at q1 q2;simp (disch:=omega) only[Wz,seval,Jh,hs,Je];exact⟨((ms,U),nx,y),⟨hnext,by simp only;omega,by simp only;omega⟩,by simp only[List.length_append,List.length_singleton];omega,by rw[hS2];exact Jn (by simp[lk]) (fun _ _ q=>q) (fun _ _ q=>q) rfl rfl⟩
 obtain⟨e,he⟩:∃ e,s.edges.getD q default=e:=⟨_,rfl⟩;have hem2:e∈(n.states.getD k default).edges:=by rw[hs,<- he];exact Jv hql
 have hto:=w.to hkL hem2;obtain⟨tn,htn2⟩:∃ tn:Nat,e.to=(tn:Int):=⟨e.to.toNat,by omega⟩;have htl:tn<n.states.length:=by omega
 have hft:=JqI (n:=n) (em:=em) hql he;have rowlt:∀ a∈(s.edges.take q).flatMap (tgF n em),a<n.states.length:=fun a ha=>by
  obtain⟨u,hu,hv'⟩:=List.mem_flatMap.1 ha;exact JrC w ok hkL (by rw[hs];exact List.mem_of_mem_take hu) hv'
 have mkq:=hmk _ rowlt;rw[<- hst] at mkq;have msl:ms.length=n.states.length:=by have:=mkq.len;simp only at this;omega
 have mkc:=mkq.cnt;simp only at mkc;have hcl:ms.count false<=n.states.length:=by rw[<- msl];exact List.count_le_length
 have hcl2:m.count false<=n.states.length:=by rw[<- hml];exact List.count_le_length
 have hUl:U.length<=10000000:=by omega
 have hyN:(N=y)=False:=by simp;omega
 have hitk:∀ a,a=i->a∈tgF n em e->v=true:=fun a ea ha=>hit (hI.hit (by rw[hrow];rw[ea] at ha;exact List.mem_flatMap.2 ⟨e,by rw[<- he];exact Jv hql,ha⟩))
 have nxt:∀ p:List Nat,tgF n em e=p->i∉p->∀ ms' U',(ms',U')=Jdj (ms,U) p->(ms',U')=Jdj (m,T) ((s.edges.take (q+1)).flatMap (tgF n em))/\i∉(s.edges.take (q+1)).flatMap (tgF n em):=fun p hp hip ms' U' h=>by
  rw[hft,Jiw,<- hst,hp];exact⟨h,by rw[List.mem_append];rintro(r | r);exact hni r;exact hip r⟩
 by_cases h1:e.op.1=1
 ·have tg:tgF n em e=[]:=by unfold tgF;rw[if_pos h1]
  obtain⟨z1,z2⟩:=nxt [] tg (by simp) ms U rfl;simp (disch:=omega) only[Wz,seval,Jh,Je,hs,he,Jr,h1];exact⟨(q+1,(ms,U),y+1),⟨by simp only;omega,z1,z2,by simp only;omega⟩,by simp only;omega,by rw[hS3];exact Jn (by simp[lk]) JjK (fun _ _ q=>q) rfl rfl⟩
 by_cases h2:e.op.1=2;rotate_left
 ·skip
  obtain⟨S4,hS4⟩:∃ S4:Nat × Nat × (List Bool × List Nat)->St,∀ (j a:Nat) (ms':List Bool) (U':List Nat),S4 (j,a,(ms',U'))=⟨[(12,.lit (.int .i64 (j:Int))),(11,.lit (.int .i64 (a:Int))),(10,.ptr y 0),(9,.lit (.int .i64 (q:Int))),(8,.lit (.int .i64 (k:Int))),(7,.own nx U'.length),(6,.own N n.states.length),(5,.lit (.int .i64 (i:Int))),(2,.ptr 0 0),(1,.vec (em.map Jp) false)],⟨[(0,Jh n),(y,Jr e)],[(N,⟨ms'.map Jp,0,1⟩),(nx,⟨U'.map Jag,0,1⟩)],y+1⟩,107⟩:=⟨fun x=>⟨[(12,.lit (.int .i64 (x.1:Int))),(11,.lit (.int .i64 (x.2.1:Int))),(10,.ptr y 0),(9,.lit (.int .i64 (q:Int))),(8,.lit (.int .i64 (k:Int))),(7,.own nx x.2.2.2.length),(6,.own N n.states.length),(5,.lit (.int .i64 (i:Int))),(2,.ptr 0 0),(1,.vec (em.map Jp) false)],⟨[(0,Jh n),(y,Jr e)],[(N,⟨x.2.2.1.map Jp,0,1⟩),(nx,⟨x.2.2.2.map Jag,0,1⟩)],y+1⟩,107⟩,fun _ _ _ _=>rfl⟩;have tg:tgF n em e=[tn]:=by unfold tgF;rw[if_neg h1,if_neg h2,htn2,Int.toNat_natCast]
  simp (disch:=omega) only[Wz,seval,Jh,Je,hs,he,Jr,htn2,Jf,h1,h2];refine Js S4 (fun x=>x.1=0/\x.2.1=tn/\x.2.2=(ms,U)) (fun x=>2 - x.1) (0,tn,(ms,U)) ?_ ⟨rfl,rfl,rfl⟩ ?_
  ·rw[hS4];exact Jn (by simp[lk]) (fun p c q=>by rw[<- q];simp[Jh,Jr,htn2]) (fun _ _ q=>q) rfl rfl
  rintro⟨j,a,⟨bm,bU⟩⟩ ⟨e1,e2,e3⟩;simp only at e1 e2 e3;subst e1
  replace e2:=e2.symm
  subst e2;cases e3;have bl:=msl;rw[hS4];refine Jl ?_;by_cases hx:tn=i
  ·have hb:=hitk _ hx (by rw[tg];simp);subst hb;simp (disch:=omega) only[Wz,seval,Jh,hx];exact fin _ _
  have hxi:¬ (tn:Int)=(i:Int):=by omega
  have gt:=JaI (l:=ms) (i:=tn) (by omega);cases hb:ms.getD tn false with
  | true =>
   rw[hb] at gt;have pz:Ja1 (ms,U) tn=(ms,U):=by unfold Ja1;simp only[hb];rfl
   simp (disch:=omega) only[Wz,seval,Jh,gt,hNx,hxN,hyN,Jag,Jf,Jr,htn2,h1,h2,bl];obtain⟨z1,z2⟩:=nxt _ tg (by simp;exact fun z=>hx z.symm) ms U (by rw[show Jdj (ms,U) [tn]=Ja1 (ms,U) tn from rfl];exact pz.symm);exact⟨(q+1,(ms,U),y+1),⟨by simp only;omega,z1,z2,by simp only;omega⟩,by simp only;omega,by rw[hS3];exact Jn (by simp[lk]) JjK (fun p c q=>by first | exact q | (rw[<- q];simp[Jag,List.map_set,Jp,lk,hNx])) rfl rfl⟩
  | false =>
   rw[hb] at gt;have pz:Ja1 (ms,U) tn=((ms.set tn true),(U++[tn])):=by unfold Ja1;simp only[hb];rfl
   have hfit:JbS (U.length+1) 8:=J2 (by omega) (by omega);simp (disch:=omega) only[Wz,seval,Jh,gt,hNx,hxN,hyN,Jag,Jf,Jr,htn2,h1,h2,bl,hfit,List.mem_singleton,forall_eq,List.length_set];obtain⟨z1,z2⟩:=nxt _ tg (by simp;exact fun z=>hx z.symm) (ms.set tn true) (U++[tn]) (by rw[show Jdj (ms,U) [tn]=Ja1 (ms,U) tn from rfl];exact pz.symm);exact⟨(q+1,((ms.set tn true),(U++[tn])),y+1),⟨by simp only;omega,z1,z2,by simp only;omega⟩,by simp only;omega,by rw[hS3];exact Jn (by simp[lk]) JjK (fun p c q=>by first | exact q | (rw[<- q];simp[Jag,List.map_set,Jp,lk,hNx])) rfl rfl⟩
 have hcl3:=w.call hkL hem2 h2;obtain⟨en,hen⟩:∃ en:Nat,e.n=(en:Int):=⟨e.n.toNat,by omega⟩;obtain⟨r,hr⟩:∃ r,n.rules.getD en default=r:=⟨_,rfl⟩;have hsta:=w.start (i:=en) (by omega);rw[hr] at hsta;obtain⟨sn,hsn⟩:∃ sn:Nat,r.start=(sn:Int):=⟨r.start.toNat,by omega⟩;have hsnl:sn<n.states.length:=by omega
 have est:stN n e.n.toNat=sn:=by unfold stN;rw[hen,Int.toNat_natCast,hr,hsn];rfl
 cases hemv:em.getD en false with
 | false =>
  have hemd:em.getD en default=false:=hemv;obtain⟨S4,hS4⟩:∃ S4:Nat × Nat × (List Bool × List Nat)->St,∀ (j a:Nat) (ms':List Bool) (U':List Nat),S4 (j,a,(ms',U'))=⟨[(12,.lit (.int .i64 (j:Int))),(11,.lit (.int .i64 (a:Int))),(10,.ptr y 0),(9,.lit (.int .i64 (q:Int))),(8,.lit (.int .i64 (k:Int))),(7,.own nx U'.length),(6,.own N n.states.length),(5,.lit (.int .i64 (i:Int))),(2,.ptr 0 0),(1,.vec (em.map Jp) false)],⟨[(0,Jh n),(y,Jr e)],[(N,⟨ms'.map Jp,0,1⟩),(nx,⟨U'.map Jag,0,1⟩)],y+1⟩,107⟩:=⟨fun x=>⟨[(12,.lit (.int .i64 (x.1:Int))),(11,.lit (.int .i64 (x.2.1:Int))),(10,.ptr y 0),(9,.lit (.int .i64 (q:Int))),(8,.lit (.int .i64 (k:Int))),(7,.own nx x.2.2.2.length),(6,.own N n.states.length),(5,.lit (.int .i64 (i:Int))),(2,.ptr 0 0),(1,.vec (em.map Jp) false)],⟨[(0,Jh n),(y,Jr e)],[(N,⟨x.2.2.1.map Jp,0,1⟩),(nx,⟨x.2.2.2.map Jag,0,1⟩)],y+1⟩,107⟩,fun _ _ _ _=>rfl⟩;have tg:tgF n em e=[sn]:=by unfold tgF;rw[if_neg (by omega),if_pos h2,est,hen,Int.toNat_natCast,hemv];rfl
  simp (disch:=omega) only[Wz,seval,Jh,Je,hs,he,Jr,htn2,Jf,h2,hen,hr,hsn,hemd,Jp];refine Js S4 (fun x=>x.1=0/\x.2.1=sn/\x.2.2=(ms,U)) (fun x=>2 - x.1) (0,sn,(ms,U)) ?_ ⟨rfl,rfl,rfl⟩ ?_
  ·rw[hS4];exact Jn (by simp[lk]) (fun p c q=>by rw[<- q];simp[Jh,Jr,h2,hen,htn2]) (fun _ _ q=>q) rfl rfl
  rintro⟨j,a,⟨bm,bU⟩⟩ ⟨e1,e2,e3⟩;simp only at e1 e2 e3;subst e1
  replace e2:=e2.symm
  subst e2;cases e3;have bl:=msl;rw[hS4];refine Jl ?_;by_cases hx:sn=i
  ·have hb:=hitk _ hx (by rw[tg];simp);subst hb;simp (disch:=omega) only[Wz,seval,Jh,hx];exact fin _ _
  have hxi:¬ (sn:Int)=(i:Int):=by omega
  have gt:=JaI (l:=ms) (i:=sn) (by omega);cases hb:ms.getD sn false with
  | true =>
   rw[hb] at gt;have pz:Ja1 (ms,U) sn=(ms,U):=by unfold Ja1;simp only[hb];rfl
   simp (disch:=omega) only[Wz,seval,Jh,gt,hNx,hxN,hyN,Jag,Jf,Jr,htn2,h2,hen,hr,hsn,hemd,Jp,bl];obtain⟨z1,z2⟩:=nxt _ tg (by simp;exact fun z=>hx z.symm) ms U (by rw[show Jdj (ms,U) [sn]=Ja1 (ms,U) sn from rfl];exact pz.symm);exact⟨(q+1,(ms,U),y+1),⟨by simp only;omega,z1,z2,by simp only;omega⟩,by simp only;omega,by rw[hS3];exact Jn (by simp[lk]) JjK (fun p c q=>by first | exact q | (rw[<- q];simp[Jag,List.map_set,Jp,lk,hNx])) rfl rfl⟩
  | false =>
   rw[hb] at gt;have pz:Ja1 (ms,U) sn=((ms.set sn true),(U++[sn])):=by unfold Ja1;simp only[hb];rfl
   have hfit:JbS (U.length+1) 8:=J2 (by omega) (by omega);simp (disch:=omega) only[Wz,seval,Jh,gt,hNx,hxN,hyN,Jag,Jf,Jr,htn2,h2,hen,hr,hsn,hemd,Jp,bl,hfit,List.mem_singleton,forall_eq,List.length_set];obtain⟨z1,z2⟩:=nxt _ tg (by simp;exact fun z=>hx z.symm) (ms.set sn true) (U++[sn]) (by rw[show Jdj (ms,U) [sn]=Ja1 (ms,U) sn from rfl];exact pz.symm);exact⟨(q+1,((ms.set sn true),(U++[sn])),y+1),⟨by simp only;omega,z1,z2,by simp only;omega⟩,by simp only;omega,by rw[hS3];exact Jn (by simp[lk]) JjK (fun p c q=>by first | exact q | (rw[<- q];simp[Jag,List.map_set,Jp,lk,hNx])) rfl rfl⟩
 | true =>
  have hemd:em.getD en default=true:=hemv;obtain⟨S4,hS4⟩:∃ S4:Nat × Nat × (List Bool × List Nat)->St,∀ (j a:Nat) (ms':List Bool) (U':List Nat),S4 (j,a,(ms',U'))=⟨[(12,.lit (.int .i64 (j:Int))),(11,.lit (.int .i64 (a:Int))),(10,.ptr y 0),(9,.lit (.int .i64 (q:Int))),(8,.lit (.int .i64 (k:Int))),(7,.own nx U'.length),(6,.own N n.states.length),(5,.lit (.int .i64 (i:Int))),(2,.ptr 0 0),(1,.vec (em.map Jp) false)],⟨[(0,Jh n),(y,Jr e)],[(N,⟨ms'.map Jp,0,1⟩),(nx,⟨U'.map Jag,0,1⟩)],y+1⟩,107⟩:=⟨fun x=>⟨[(12,.lit (.int .i64 (x.1:Int))),(11,.lit (.int .i64 (x.2.1:Int))),(10,.ptr y 0),(9,.lit (.int .i64 (q:Int))),(8,.lit (.int .i64 (k:Int))),(7,.own nx x.2.2.2.length),(6,.own N n.states.length),(5,.lit (.int .i64 (i:Int))),(2,.ptr 0 0),(1,.vec (em.map Jp) false)],⟨[(0,Jh n),(y,Jr e)],[(N,⟨x.2.2.1.map Jp,0,1⟩),(nx,⟨x.2.2.2.map Jag,0,1⟩)],y+1⟩,107⟩,fun _ _ _ _=>rfl⟩;have tg:tgF n em e=[sn,tn]:=by unfold tgF;rw[if_neg (by omega),if_pos h2,est,hen,Int.toNat_natCast,hemv,if_pos rfl,htn2,Int.toNat_natCast]
  simp (disch:=omega) only[Wz,seval,Jh,Je,hs,he,Jr,htn2,Jf,h2,hen,hr,hsn,hemd,Jp];refine Js S4 (fun x=>(x.1=0/\x.2.1=sn/\x.2.2=(ms,U))\/(x.1=1/\x.2.1=tn/\x.2.2=Jdj (ms,U) [sn]/\i≠sn)\/(x.1=2/\x.2.2=Jdj (ms,U) [sn,tn]/\i∉[sn,tn])) (fun x=>2 - x.1) (0,sn,(ms,U)) ?_ (.inl ⟨rfl,rfl,rfl⟩) ?_
  ·rw[hS4];exact Jn (by simp[lk]) (fun p c q=>by rw[<- q];simp[Jh,Jr,h2,hen,htn2]) (fun _ _ q=>q) rfl rfl
  rintro⟨j,a,⟨bm,bU⟩⟩ (⟨e1,e2,e3⟩ | ⟨e1,e2,e3,hn0⟩ | ⟨e1,e3,hn0⟩)
  ·simp only at e1 e2 e3;subst e1
   replace e2:=e2.symm
   subst e2;cases e3;have bl:=msl;rw[hS4];refine Jl ?_;by_cases hx:sn=i
   ·have hb:=hitk _ hx (by rw[tg];simp);subst hb;simp (disch:=omega) only[Wz,seval,Jh,hx];exact fin _ _
   have hxi:¬ (sn:Int)=(i:Int):=by omega
   have gt:=JaI (l:=ms) (i:=sn) (by omega);cases hb:ms.getD sn false with
   | true =>
    rw[hb] at gt;have pz:Ja1 (ms,U) sn=(ms,U):=by unfold Ja1;simp only[hb];rfl
    simp (disch:=omega) only[Wz,seval,Jh,gt,hNx,hxN,hyN,Jag,Jf,Jr,htn2,h2,hen,hr,hsn,hemd,Jp,bl];refine⟨(1,tn,(ms,U)),?_,by simp only;omega,by rw[hS4];exact Jn (by simp[lk]) (fun p c q=>by rw[<- q];simp[Jh,Jr,h2,hen,htn2]) (fun p c q=>by first | exact q | (rw[<- q];simp[Jag,List.map_set,Jp,lk,hNx])) rfl rfl⟩;exact .inr (.inl ⟨rfl,rfl,pz.symm,fun z=>hx z.symm⟩)
   | false =>
    rw[hb] at gt;have pz:Ja1 (ms,U) sn=((ms.set sn true),(U++[sn])):=by unfold Ja1;simp only[hb];rfl
    have hfit:JbS (U.length+1) 8:=J2 (by omega) (by omega);simp (disch:=omega) only[Wz,seval,Jh,gt,hNx,hxN,hyN,Jag,Jf,Jr,htn2,h2,hen,hr,hsn,hemd,Jp,bl,hfit,List.mem_singleton,forall_eq,List.length_set];refine⟨(1,tn,((ms.set sn true),(U++[sn]))),?_,by simp only;omega,by rw[hS4];exact Jn (by simp[lk]) (fun p c q=>by rw[<- q];simp[Jh,Jr,h2,hen,htn2]) (fun p c q=>by first | exact q | (rw[<- q];simp[Jag,List.map_set,Jp,lk,hNx])) rfl rfl⟩;exact .inr (.inl ⟨rfl,rfl,pz.symm,fun z=>hx z.symm⟩)
  ·simp only at e1 e2 e3;subst e1
   replace e2:=e2.symm
   subst e2;have mk2:=Mk1.fold (s:=(ms,U)) [sn] (fun a ha=>by simp only[List.mem_singleton] at ha;rw[ha,show (ms,U).1.length=n.states.length from msl];omega);rw[<- e3] at mk2;have bl:bm.length=n.states.length:=by have:=mk2.len;simp only at this;omega
   have mc2:=mk2.cnt;simp only at mc2;have hbU:bU.length<=20000000:=by omega
   rw[hS4];refine Jl ?_;by_cases hx:tn=i
   ·have hb:=hitk _ hx (by rw[tg];simp);subst hb;simp (disch:=omega) only[Wz,seval,Jh,hx];exact fin _ _
   have hxi:¬ (tn:Int)=(i:Int):=by omega
   have gt:=JaI (l:=bm) (i:=tn) (by omega);cases hb:bm.getD tn false with
   | true =>
    rw[hb] at gt;have pz:Ja1 (bm,bU) tn=(bm,bU):=by unfold Ja1;simp only[hb];rfl
    simp (disch:=omega) only[Wz,seval,Jh,gt,hNx,hxN,hyN,Jag,Jf,Jr,htn2,h2,hen,hr,hsn,hemd,Jp,bl];refine⟨(2,tn,(bm,bU)),?_,by simp only;omega,by rw[hS4];exact Jn (by simp[lk]) (fun p c q=>by rw[<- q];simp[Jh,Jr,h2,hen,htn2]) (fun p c q=>by first | exact q | (rw[<- q];simp[Jag,List.map_set,Jp,lk,hNx])) rfl rfl⟩;exact .inr (.inr ⟨rfl,by rw[show Jdj (ms,U) [sn,tn]=Ja1 (Jdj (ms,U) [sn]) tn from rfl,<- e3];exact pz.symm,by simp;exact⟨hn0,fun z=>hx z.symm⟩⟩)
   | false =>
    rw[hb] at gt;have pz:Ja1 (bm,bU) tn=((bm.set tn true),(bU++[tn])):=by unfold Ja1;simp only[hb];rfl
    have hfit:JbS (bU.length+1) 8:=J2 (by omega) (by omega);simp (disch:=omega) only[Wz,seval,Jh,gt,hNx,hxN,hyN,Jag,Jf,Jr,htn2,h2,hen,hr,hsn,hemd,Jp,bl,hfit,List.mem_singleton,forall_eq,List.length_set];refine⟨(2,tn,((bm.set tn true),(bU++[tn]))),?_,by simp only;omega,by rw[hS4];exact Jn (by simp[lk]) (fun p c q=>by rw[<- q];simp[Jh,Jr,h2,hen,htn2]) (fun p c q=>by first | exact q | (rw[<- q];simp[Jag,List.map_set,Jp,lk,hNx])) rfl rfl⟩;exact .inr (.inr ⟨rfl,by rw[show Jdj (ms,U) [sn,tn]=Ja1 (Jdj (ms,U) [sn]) tn from rfl,<- e3];exact pz.symm,by simp;exact⟨hn0,fun z=>hx z.symm⟩⟩)
  ·simp only at e1 e3;subst e1;obtain⟨z1,z2⟩:=nxt _ tg hn0 bm bU e3;rw[hS4];refine Jl ?_;simp (disch:=omega) only[Wz,seval,Jh];exact⟨(q+1,(bm,bU),y+1),⟨by simp only;omega,z1,z2,by simp only;omega⟩,by simp only;omega,by rw[hS3];exact Jn (by simp[lk]) JjK (fun _ _ q=>q) rfl rfl⟩
end Go.Proofs.Y
end
section
namespace Go.Proofs.Y
open Go Go.Ab
def tgC (e:Ed):List Nat:=if e.op.1=2 then [e.n.toNat] else []
def Jem (n:Nt)(r s k:Nat):List Nat:=(List.range s).flatMap (fun j=>if (n.states.getD j default).rule=(r:Int) then (n.states.getD j default).edges.flatMap tgC else [])++(if (n.states.getD s default).rule=(r:Int) then ((n.states.getD s default).edges.take k).flatMap tgC else [])
def rwC (n:Nt)(r:Nat):List Nat:=(List.range n.states.length).flatMap fun j=>if (n.states.getD j default).rule=(r:Int) then (n.states.getD j default).edges.flatMap tgC else []
def gC' (n:Nt):List (List Nat):=(List.range n.rules.length).map (rwC n)
theorem JjL{n:Nt}{r:Nat}:Jem n r 0 0=[]:=by unfold Jem;simp
theorem JlQ{n:Nt}{r:Nat}:Jem n r n.states.length 0=rwC n r:=by unfold Jem rwC;simp
theorem Jpd{n:Nt}{r s:Nat}(h:(n.states.getD s default).rule≠(r:Int)):Jem n r (s+1) 0=Jem n r s 0:=by
 unfold Jem;simp only[List.range_succ,List.flatMap_append,List.flatMap_cons,List.flatMap_nil,List.take_zero,ite_self,List.append_nil,if_neg h]
theorem JqK{n:Nt}{r s:Nat}(h:(n.states.getD s default).rule=(r:Int)):Jem n r (s+1) 0=Jem n r s (n.states.getD s default).edges.length:=by
 unfold Jem;simp only[List.range_succ,List.flatMap_append,List.flatMap_cons,List.flatMap_nil,List.take_zero,ite_self,List.append_nil,if_pos h,List.take_length]
theorem Jpe{n:Nt}{r s q:Nat}{e:Ed}(h:(n.states.getD s default).rule=(r:Int))(hq:q<(n.states.getD s default).edges.length)(he:(n.states.getD s default).edges.getD q default=e):Jem n r s (q+1)=Jem n r s q++tgC e:=by
 unfold Jem;rw[if_pos h,if_pos h,List.take_add_one,Jfz hq,Option.toList_some,List.flatMap_append,he,List.append_assoc];simp
theorem Jix{n:Nt}{r:Nat}(h:r<n.rules.length):(gC' n).getD r []=rwC n r:=by
 unfold gC';rw[List.getD_eq_getElem?_getD,List.getElem?_map,List.getElem?_range h];rfl
theorem Jiy{n:Nt}:(gC' n).length=n.rules.length:=by simp[gC']
theorem JsZ{n:Nt}{r:Nat}(h:¬ r<n.rules.length):(gC' n).getD r []=[]:=by
 unfold gC';rw[List.getD_eq_getElem?_getD,List.getElem?_map,List.getElem?_eq_none (by simpa using h)];rfl
theorem Jiz{n:Nt}{r v:Nat}:v∈rwC n r↔∃ s e,s<n.states.length/\(n.states.getD s default).rule=(r:Int)/\e∈(n.states.getD s default).edges/\e.op.1=2/\v=e.n.toNat:=by
 unfold rwC;constructor
 ·intro h;obtain⟨s,hs,hv⟩:=List.mem_flatMap.1 h;split at hv
  ·rename_i hr;obtain⟨e,he,hv⟩:=List.mem_flatMap.1 hv;unfold tgC at hv;split at hv
   ·rename_i h2;exact⟨s,e,List.mem_range.1 hs,hr,he,h2,by simpa using hv⟩
   ·cases hv
  ·cases hv
 ·rintro⟨s,e,hs,hr,he,h2,rfl⟩;refine List.mem_flatMap.2 ⟨s,List.mem_range.2 hs,?_⟩;rw[if_pos hr];refine List.mem_flatMap.2 ⟨e,he,?_⟩;unfold tgC;rw[if_pos h2];simp
theorem JqL{n:Nt}{r s k v:Nat}(hs:s<n.states.length)(hk:k<=(n.states.getD s default).edges.length)(h:v∈Jem n r s k):v∈Jem n r n.states.length 0:=by
 rw[JlQ];unfold Jem at h;unfold rwC;rcases List.mem_append.1 h with h | h
 ·obtain⟨j,hj,hv⟩:=List.mem_flatMap.1 h;exact List.mem_flatMap.2 ⟨j,List.mem_range.2 (Nat.lt_trans (List.mem_range.1 hj) hs),hv⟩
 ·refine List.mem_flatMap.2 ⟨s,List.mem_range.2 hs,?_⟩;split at h
  ·rename_i hr;rw[if_pos hr];obtain⟨e,he,hv⟩:=List.mem_flatMap.1 h;exact List.mem_flatMap.2 ⟨e,List.mem_of_mem_take he,hv⟩
  ·cases h
section
variable {n:Nt} (w:Wf n) (ok:JbU n)
include w ok
theorem Jys{r v:Nat}(h:v∈rwC n r):v<n.rules.length:=by
 have _:=ok;obtain⟨s,e,hs,_,he,h2,rfl⟩:=Jiz.1 h;have:=w.call hs he h2;omega
theorem Js0{r s k v:Nat}(hs:s<=n.states.length)(hs2:s<n.states.length\/k=0)(h:v∈Jem n r s k):v<n.rules.length:=by
 have _:=ok;have one:∀ j,j<n.states.length->∀ e∈(n.states.getD j default).edges,v∈tgC e->v<n.rules.length:=fun j hj e he hv=>by
  unfold tgC at hv;split at hv
  ·rename_i h2;have:=w.call hj he h2;simp only[List.mem_singleton] at hv;omega
  ·cases hv
 unfold Jem at h;rcases List.mem_append.1 h with h | h
 ·obtain⟨j,hj,hv⟩:=List.mem_flatMap.1 h;split at hv
  ·obtain⟨e,he,hv⟩:=List.mem_flatMap.1 hv;exact one j (by have:=List.mem_range.1 hj;omega) e he hv
  ·cases hv
 ·split at h
  ·obtain⟨e,he,hv⟩:=List.mem_flatMap.1 h;rcases hs2 with q | q
   ·exact one s q e (List.mem_of_mem_take he) hv
   ·subst q;simp at he
  ·cases h
theorem JrE:GOk (gC' n):=by
 refine⟨by rw[Jiy];have:=w.nru;omega,fun l hl=>?_,fun l hl j hj=>?_⟩
 ·obtain⟨r,hr,rfl⟩:=List.mem_map.1 hl;have h1:=Jbs (f:=fun j=>if (n.states.getD j default).rule=(r:Int) then (n.states.getD j default).edges.flatMap tgC else []) (c:=1000000000) (l:=List.range n.states.length) (fun j _=>by
   split
   ·have h2:=Jbs (f:=tgC) (c:=1) (l:=(n.states.getD j default).edges) (fun e _=>by unfold tgC;split <;> simp)
    have h3:=ok.edgesD j;omega
   ·simp)
  have h2:=w.nst;rw[List.length_range] at h1;unfold rwC;omega
 ·obtain⟨r,hr,rfl⟩:=List.mem_map.1 hl;rw[Jiy];exact Jys w ok hj
theorem JiA{r v:Nat}:v∈(gC n).getD r []↔r<n.rules.length/\v∈rwC n r/\(n.rules.getD v default).lexer=true:=by
 have hb:=Jkx w ok (i:=n.states.length) (k:=0) (.inr ⟨rfl,rfl⟩);unfold gC;rw[Jeg fun p hp=>(hb.1 p hp).1];constructor
 ·intro h;have h0:=(hb.1 _ h).1;obtain⟨s,e,hs,he,hp⟩:=Jdy w ok (.inr ⟨rfl,rfl⟩) h;unfold prC at hp;split at hp
  ·rename_i h2;simp only[List.mem_singleton,Prod.mk.injEq] at hp;obtain⟨rfl,rfl⟩:=hp;have:=w.st s hs;exact⟨h0,Jiz.2 ⟨s,e,hs,by omega,he,h2.1,rfl⟩,h2.2⟩
  ·cases hp
 ·rintro⟨h0,h1,h3⟩;obtain⟨s,e,hs,hr,he,h2,rfl⟩:=Jiz.1 h1;refine JdQ _ n hs he ?_;unfold prC;rw[if_pos ⟨h2,h3⟩,hr];simp
theorem Jpf{r v:Nat}(h:v∈rwC n r):(n.rules.getD v default).lexer=(n.rules.getD r default).lexer:=by
 have _:=ok;obtain⟨s,e,hs,hr,he,h2,rfl⟩:=Jiz.1 h;have hk:=(w.ed s hs e he).2.2.1;unfold JE at hk;rw[if_neg (by omega),if_neg (by omega),if_pos h2,hr] at hk;unfold kd2 at hk;simp only[Bool.and_eq_true,beq_iff_eq,Int.toNat_natCast] at hk;exact hk.2.1
theorem Jpg:Jcr (gC n)=true↔∃ i,i<n.rules.length/\(n.rules.getD i default).lexer=true/\Rch (gC' n) i i:=by
 have a1:=JlP (JxW w ok);have up:∀ i j,Rch (gC n) i j->Rch (gC' n) i j/\(n.rules.getD j default).lexer=true:=fun i j h=>by
  induction h with
  | one q=>obtain⟨q1,q2,q3⟩:=(JiA w ok).1 q;exact⟨.one (by rw[Jix q1];exact q2),q3⟩
  | step _ q ih=>obtain⟨q1,q2,q3⟩:=(JiA w ok).1 q;exact⟨.step ih.1 (by rw[Jix q1];exact q2),q3⟩
 have inrow:∀ s v,v∈(gC' n).getD s []->s<n.rules.length/\v∈rwC n s:=fun s v h=>by
  by_cases hs:s<n.rules.length
  ·rw[Jix hs] at h;exact⟨hs,h⟩
  ·rw[JsZ hs] at h;cases h
 have dn:∀ i j,(n.rules.getD i default).lexer=true->Rch (gC' n) i j->Rch (gC n) i j/\(n.rules.getD j default).lexer=true:=fun i j hl h=>by
  induction h with
  | one q =>
   obtain⟨q1,q2⟩:=inrow _ _ q;have:=Jpf w ok q2;exact⟨.one ((JiA w ok).2 ⟨q1,q2,by rw[this];exact hl⟩),by rw[this];exact hl⟩
  | step _ q ih =>
   obtain⟨q1,q2⟩:=inrow _ _ q;have:=Jpf w ok q2;exact⟨.step ih.1 ((JiA w ok).2 ⟨q1,q2,by rw[this];exact ih.2⟩),by rw[this];exact ih.2⟩
 constructor
 ·intro h;have na:¬ Jm5 (gC n):=fun q=>by rw[Jb6 q] at h;cases h
  rw[a1] at na;have:∃ i,Rch (gC n) i i:=by
   by_cases c:∃ i,Rch (gC n) i i
   ·exact c
   ·exact absurd (fun i q=>c ⟨i,q⟩) na
  obtain⟨i,hi⟩:=this;have hi':=up i i hi;exact⟨i,by have:=hi'.1.lt (JrE w ok);rwa [Jiy] at this,hi'.2,hi'.1⟩
 ·rintro⟨i,_,hl,hi⟩;exact JdP fun q=>a1.1 q i (dn i i hl hi).1
end
theorem JkV(n:Nt)(w:Wf n)(ok:JbU n)(v:Bool)(hv:v=true↔∃ i,i<n.rules.length/\(n.rules.getD i default).lexer=true/\Rch (gC' n) i i) :
  JN Tryz.prog 32 [.agg (Jh n)] (.lit (.bool v)):=by
 have hst:=w.nst;have hru:=w.nru;have fin:∀ h (b:Bool),Jdg h (.lit (.bool b)) (.lit (.bool b)):=fun h b=>Jb (.lit _);have hG:=JrE w ok;have hGL:=Jiy (n:=n);obtain⟨G,hGG⟩:∃ G,gC' n=G:=⟨_,rfl⟩;rw[hGG] at hG hGL hv;refine JD (Ju Tryz.func32 rfl Tryz.ntmps32 (rs:=[.tmp 2]) rfl (by simp) ?_);obtain⟨S1,hS1⟩:∃ S1:Nat × Nat->St,∀ i N,S1 (i,N)=⟨[(3,.lit (.int .i64 (i:Int))),(1,.ptr 0 0)],⟨[(0,Jh n)],[],N⟩,101⟩:=⟨fun x=>⟨[(3,.lit (.int .i64 (x.1:Int))),(1,.ptr 0 0)],⟨[(0,Jh n)],[],x.2⟩,101⟩,fun _ _=>rfl⟩;refine Jl ?_;simp (disch:=omega) only[Wz,seval,Jh];refine Js S1 (fun x=>x.1<=n.rules.length/\1<=x.2/\∀ j,j<x.1->(n.rules.getD j default).lexer=true->¬ Rch G j j) (fun x=>n.rules.length - x.1) (0,1) ?_ ⟨Nat.zero_le _,Nat.le_refl _,fun j q=>absurd q (Nat.not_lt_zero _)⟩ ?_
 ·rw[hS1];exact Jn (by simp[lk]) (fun _ _ q=>q) (fun _ _ q=>q) rfl rfl
 rintro⟨i,N⟩ ⟨hi,hN,hno⟩;simp only at hi hN hno;rw[hS1];rcases Nat.lt_or_ge i n.rules.length with hlt | hge
 rotate_left
 ·have e:i=n.rules.length:=by omega
  subst e;have hb:v=false:=by
   cases v with
   | false=>rfl
   | true=>obtain⟨j,h1,h2,h3⟩:=hv.1 rfl;exact absurd h3 (hno j h1 h2)
  subst hb;refine Jl ?_;simp (disch:=omega) only[Wz,seval,Jh];exact fin _ _
 obtain⟨lr,hlr⟩:∃ lr,n.rules.getD i default=lr:=⟨_,rfl⟩;cases hlx:lr.lexer with
 | false =>
  refine Jl ?_;simp (disch:=omega) only[Wz,seval,Jh,hlr,Jf,hlx];exact⟨(i+1,N),⟨by simp only;omega,hN,JfF hno fun q=>by rw[hlr,hlx] at q;cases q⟩,by simp only;omega,by rw[hS1];exact Jn (by simp[lk]) (fun _ _ q=>q) (fun _ _ q=>q) rfl rfl⟩
 | true =>
 have hit:Rch G i i->v=true:=fun q=>hv.2 ⟨i,hlt,by rw[hlr];exact hlx,q⟩
 refine Jq ?_;refine Jl ?_;simp (disch:=omega) only[Wz,seval,Jh];refine Jq ?_;refine JQ ?_;refine Jq ?_;refine Jl ?_;simp (disch:=omega) only[Wz,seval,Jh,hlr,Jf,hlx];refine Jq ?_;refine Jl ?_;simp (disch:=omega) only[Wz,seval,Jh];refine Jq ?_;refine JcG ?_;simp (disch:=omega) only[Wz,seval,Jla];refine JcF (ps:=[(0,.lit (.int .i64 (i:Int)))]) (z:=[.lit (.int .i64 0)]) (rows:=[Jag i]) Jq3 rfl ty3 rfl ⟨rfl,by decide⟩ (by decide) rfl rfl ?_;simp (disch:=omega) only[Wz,seval,Jla];refine Jl ?_;simp (disch:=omega) only[Wz,seval];obtain⟨S2,hS2⟩:∃ S2:(List Bool × List Nat) × Nat × Nat->St,∀ m T t nx,S2 ((m,T),t,nx)=⟨[(5,.own t T.length),(4,.own N n.rules.length),(3,.lit (.int .i64 (i:Int))),(1,.ptr 0 0)],⟨[(0,Jh n)],[(N,⟨m.map Jp,0,1⟩),(t,⟨T.map Jag,0,1⟩)],nx⟩,101⟩:=⟨fun x=>⟨[(5,.own x.2.1 x.1.2.length),(4,.own N n.rules.length),(3,.lit (.int .i64 (i:Int))),(1,.ptr 0 0)],⟨[(0,Jh n)],[(N,⟨x.1.1.map Jp,0,1⟩),(x.2.1,⟨x.1.2.map Jag,0,1⟩)],x.2.2⟩,101⟩,fun _ _ _ _=>rfl⟩;refine Js S2 (fun x=>RgD G i x.1/\N<x.2.1/\x.2.1<x.2.2) (fun x=>2 * x.1.1.count false+x.1.2.length) ((List.replicate n.rules.length false,[i]),N+1,N+2) ?_ ⟨by have:=RgD.init (G:=G) (i:=i) (by omega);rwa [hGL] at this,by simp only;omega,by simp only;omega⟩ ?_
 ·rw[hS2];exact Jn (by simp[lk]) (fun _ _ q=>q) (fun p c q=>by first | exact q | (rw[<- q];simp[List.map_replicate,Jp])) rfl rfl
 rintro⟨⟨m,todo⟩,t,nx⟩ ⟨hI,htN,htn⟩;simp only at htN htn hI;rw[hS2];refine Jl ?_;have hml:m.length=n.rules.length:=by rw[<- hGL];exact hI.fr.len
 rcases List.eq_nil_or_concat todo with rfl | ⟨T,k,rfl⟩
 ·have nr:=hI.last hG;simp (disch:=omega) only[Wz,seval];refine Jl ?_;simp (disch:=omega) only[Wz,seval];exact⟨(i+1,nx),⟨by simp only;omega,by simp only;omega,JfF hno fun _=>nr⟩,by simp only;omega,by rw[hS1];exact Jn (by simp[lk]) (fun _ _ q=>q) (fun _ _ q=>by cases q) rfl rfl⟩
 simp only[List.concat_eq_append] at hI ⊢;have hNt:(N=t)=False:=by simp;omega
 have htN':(t=N)=False:=by simp;omega
 have hk:=(hI.fr.todo k (by simp)).1;have hc:=hI.fr.cnt;simp only[List.length_append,List.length_singleton] at hc;have g1:((T.map Jag)++[[AV.lit (.int .i64 (k:Int))]])[T.length]? = some [AV.lit (.int .i64 (k:Int))]:=by rw[List.getElem?_append_right (by simp)];simp
 have i1:(((T.length+1:Nat):Int) - 1).toNat=T.length:=by omega
 simp (disch:=omega) only[Wz,seval,hNt,htN',List.map_append,List.length_append,List.length_singleton,g1,i1,Jag];refine JcD (k:=⟨T.map Jag++[[AV.lit (.int .i64 (k:Int))]],0,1⟩) rfl rfl Jq3 rfl ty3 rfl (by simp[lk,hNt]) (by simp) (by omega) (by omega) (by simp) ?_;have tk1:(T.map Jag++[[AV.lit (.int .i64 (k:Int))]]).take T.length=T.map Jag:=by rw[List.take_append_of_le_length (by simp),List.take_of_length_le (by simp)]
 have hkL:k<n.rules.length:=by omega
 have hrow:G.getD k []=Jem n k n.states.length 0:=by rw[<- hGG,Jix hkL];exact JlQ.symm
 simp (disch:=omega) only[Wz,seval,Hp.cut,dl,hNt,i1,tk1];have hmk:=fun(p:List Nat) (hp:∀ a∈p,a<n.rules.length)=>Mk1.fold (s:=(m,T)) p (fun a ha=>by rw[show (m,T).1.length=n.rules.length from hml];exact hp a ha);have hcl2:m.count false<=n.rules.length:=by rw[<- hml];exact List.count_le_length
 obtain⟨S3,hS3⟩:∃ S3:Nat × (List Bool × List Nat) × Nat->St,∀ q ms U y,S3 (q,(ms,U),y)=⟨[(7,.lit (.int .i64 (q:Int))),(6,.lit (.int .i64 (k:Int))),(5,.own nx U.length),(4,.own N n.rules.length),(3,.lit (.int .i64 (i:Int))),(1,.ptr 0 0)],⟨[(0,Jh n)],[(N,⟨ms.map Jp,0,1⟩),(nx,⟨U.map Jag,0,1⟩)],y⟩,101⟩:=⟨fun x=>⟨[(7,.lit (.int .i64 (x.1:Int))),(6,.lit (.int .i64 (k:Int))),(5,.own nx x.2.1.2.length),(4,.own N n.rules.length),(3,.lit (.int .i64 (i:Int))),(1,.ptr 0 0)],⟨[(0,Jh n)],[(N,⟨x.2.1.1.map Jp,0,1⟩),(nx,⟨x.2.1.2.map Jag,0,1⟩)],x.2.2⟩,101⟩,fun _ _ _ _=>rfl⟩;refine Js S3 (fun x=>x.1<=n.states.length/\x.2.1=Jdj (m,T) (Jem n k x.1 0)/\i∉Jem n k x.1 0/\nx+1<=x.2.2) (fun x=>n.states.length - x.1) (0,(m,T),nx+1) ?_ ⟨Nat.zero_le _,by rw[JjL];rfl,by rw[JjL];simp,Nat.le_refl _⟩ ?_
 ·rw[hS3];exact Jn (by simp[lk]) (fun _ _ q=>q) (fun p c q=>by first | exact q | (rw[<- q];simp[lk,hNt])) rfl rfl
 rintro⟨s,⟨ms,U⟩,y⟩ ⟨hsL,hst,hni,hy⟩;simp only at hsL hst hni hy;rw[hS3];refine Jl ?_;have hNx:(N=nx)=False:=by simp;omega
 have hxN:(nx=N)=False:=by simp;omega
 rcases Nat.lt_or_ge s n.states.length with hsl | hge;rotate_left
 ·have e:s=n.states.length:=by omega
  subst e;rw[<- hrow] at hst hni;have hnext:=hI.next hG hni;rw[<- hst] at hnext;have mk:=hmk (G.getD k []) (fun a ha=>by rw[<- hGL];exact(hG.get (k:=k)).2 a ha);rw[<- hst] at mk;have q1:=mk.cnt;have q2:=mk.le;simp only at q1 q2;simp (disch:=omega) only[Wz,seval,Jh];exact⟨((ms,U),nx,y),⟨hnext,by simp only;omega,by simp only;omega⟩,by simp only[List.length_append,List.length_singleton];omega,by rw[hS2];exact Jn (by simp[lk]) (fun _ _ q=>q) (fun _ _ q=>q) rfl rfl⟩
 obtain⟨x,hx⟩:∃ x,n.states.getD s default=x:=⟨_,rfl⟩;have hxe:=(ok.edges x (by rw[<- hx];exact Jv hsl)).1;have hxr:=w.st s hsl;rw[hx] at hxr;obtain⟨xr,hxr2⟩:∃ xr:Nat,x.rule=(xr:Int):=⟨x.rule.toNat,by omega⟩;by_cases hxk:¬ xr=k
 ·have pe:Jem n k (s+1) 0=Jem n k s 0:=Jpd (by rw[hx,hxr2];omega);have hne:¬ (xr:Int)=(k:Int):=by omega
  simp (disch:=omega) only[Wz,seval,Jh,hx,Je,hxr2];exact⟨(s+1,(ms,U),y),⟨by simp only;omega,by rw[pe];exact hst,by rw[pe];exact hni,hy⟩,by simp only;omega,by rw[hS3];exact Jn (by simp[lk]) (fun _ _ q=>q) (fun _ _ q=>q) rfl rfl⟩
 have hxk:xr=k:=by omega
 subst hxk;have hxx:(n.states.getD s default).rule=(xr:Int):=by rw[hx,hxr2]
 simp (disch:=omega) only[Wz,seval,Jh,hx,Je,hxr2];obtain⟨S4,hS4⟩:∃ S4:Nat × (List Bool × List Nat) × Nat->St,∀ q ms U y,S4 (q,(ms,U),y)=⟨[(8,.lit (.int .i64 (q:Int))),(7,.lit (.int .i64 (s:Int))),(6,.lit (.int .i64 (xr:Int))),(5,.own nx U.length),(4,.own N n.rules.length),(3,.lit (.int .i64 (i:Int))),(1,.ptr 0 0)],⟨[(0,Jh n)],[(N,⟨ms.map Jp,0,1⟩),(nx,⟨U.map Jag,0,1⟩)],y⟩,101⟩:=⟨fun x=>⟨[(8,.lit (.int .i64 (x.1:Int))),(7,.lit (.int .i64 (s:Int))),(6,.lit (.int .i64 (xr:Int))),(5,.own nx x.2.1.2.length),(4,.own N n.rules.length),(3,.lit (.int .i64 (i:Int))),(1,.ptr 0 0)],⟨[(0,Jh n)],[(N,⟨x.2.1.1.map Jp,0,1⟩),(nx,⟨x.2.1.2.map Jag,0,1⟩)],x.2.2⟩,101⟩,fun _ _ _ _=>rfl⟩;refine Js S4 (fun z=>z.1<=x.edges.length/\z.2.1=Jdj (m,T) (Jem n xr s z.1)/\i∉Jem n xr s z.1/\nx+1<=z.2.2) (fun z=>x.edges.length - z.1) (0,(ms,U),y) ?_ ⟨Nat.zero_le _,hst,hni,hy⟩ ?_
 ·rw[hS4];exact Jn (by simp[lk]) (fun _ _ q=>q) (fun _ _ q=>q) rfl rfl
 clear hst hni hy;rintro⟨q,⟨bm,bU⟩,y'⟩ ⟨hq,hst,hni,hy⟩;simp only at hq hst hni hy;rw[hS4];refine Jl ?_;rcases Nat.lt_or_ge q x.edges.length with hql | hge
 rotate_left
 ·have e:q=x.edges.length:=by omega
  subst e;have pe:Jem n xr (s+1) 0=Jem n xr s x.edges.length:=by rw[<- hx];exact JqK hxx
  simp (disch:=omega) only[Wz,seval,Jh,hx,Je];exact⟨(s+1,(bm,bU),y'),⟨by simp only;omega,by rw[pe];exact hst,by rw[pe];exact hni,hy⟩,by simp only;omega,by rw[hS3];exact Jn (by simp[lk]) (fun _ _ q=>q) (fun _ _ q=>q) rfl rfl⟩
 obtain⟨e,he⟩:∃ e,x.edges.getD q default=e:=⟨_,rfl⟩;have hem2:e∈(n.states.getD s default).edges:=by rw[hx,<- he];exact Jv hql
 have hpre:Jem n xr s (q+1)=Jem n xr s q++tgC e:=Jpe hxx (by rw[hx];exact hql) (by rw[hx];exact he);have rowlt:∀ a∈Jem n xr s q,a<n.rules.length:=fun a ha=>Js0 w ok (Nat.le_of_lt hsl) (.inl hsl) ha
 have mkq:=hmk _ rowlt;rw[<- hst] at mkq;have bl:bm.length=n.rules.length:=by have:=mkq.len;simp only at this;omega
 have mkc:=mkq.cnt;simp only at mkc;have hbc:bm.count false<=n.rules.length:=by rw[<- bl];exact List.count_le_length
 have hUl:bU.length<=10000000:=by omega
 have hyN:(N=y')=False:=by simp;omega
 by_cases h2:¬ e.op.1=2
 ·have tg:tgC e=[]:=by unfold tgC;rw[if_neg h2]
  rw[tg,List.append_nil] at hpre;simp (disch:=omega) only[Wz,seval,Jh,Je,hx,he,Jr];exact⟨(q+1,(bm,bU),y'+1),⟨by simp only;omega,by rw[hpre];exact hst,by rw[hpre];exact hni,by simp only;omega⟩,by simp only;omega,by rw[hS4];exact Jn (by simp[lk]) JjK (fun _ _ q=>q) rfl rfl⟩
 have h2:e.op.1=2:=by omega
 have hcl:=w.call hsl hem2 h2;obtain⟨en,hen⟩:∃ en:Nat,e.n=(en:Int):=⟨e.n.toNat,by omega⟩;have tg:tgC e=[en]:=by unfold tgC;rw[if_pos h2,hen];rfl
 rw[tg] at hpre;by_cases hxi:en=i
 ·have hb:=hit (hI.hit (by rw[hrow];exact JqL hsl (k:=q+1) (by rw[hx];exact hql) (by rw[hpre,hxi];simp)));subst hb;simp (disch:=omega) only[Wz,seval,Jh,Je,hx,he,Jr,h2,hen,hxi];exact fin _ _
 have hxi':¬ (en:Int)=(i:Int):=by omega
 have gt:=JaI (l:=bm) (i:=en) (by omega);cases hb:bm.getD en false with
 | true =>
  rw[hb] at gt;have pz:Ja1 (bm,bU) en=(bm,bU):=by unfold Ja1;simp only[hb];rfl
  simp (disch:=omega) only[Wz,seval,Jh,Je,hx,he,Jr,h2,hen,gt,hNx,hxN,hyN,Jag,bl];exact⟨(q+1,(bm,bU),y'+1),⟨by simp only;omega,by rw[hpre,Jiw,<- hst];exact pz.symm,by rw[hpre];simp;exact⟨hni,fun z=>hxi z.symm⟩,by simp only;omega⟩,by simp only;omega,by rw[hS4];exact Jn (by simp[lk]) JjK (fun p c q=>by first | exact q | (rw[<- q];simp[Jag,List.map_set,Jp,lk,hNx])) rfl rfl⟩
 | false =>
  rw[hb] at gt;have hfit:JbS (bU.length+1) 8:=J2 (by omega) (by omega);have pz:Ja1 (bm,bU) en=((bm.set en true),(bU++[en])):=by unfold Ja1;simp only[hb];rfl
  simp (disch:=omega) only[Wz,seval,Jh,Je,hx,he,Jr,h2,hen,gt,hNx,hxN,hyN,Jag,bl,hfit,List.mem_singleton,forall_eq,List.length_set];exact⟨(q+1,((bm.set en true),(bU++[en])),y'+1),⟨by simp only;omega,by rw[hpre,Jiw,<- hst];exact pz.symm,by rw[hpre];simp;exact⟨hni,fun z=>hxi z.symm⟩,by simp only;omega⟩,by simp only;omega,by rw[hS4];exact Jn (by simp[lk]) JjK (fun p c q=>by first | exact q | (rw[<- q];simp[Jag,List.map_set,Jp,lk,hNx])) rfl rfl⟩
end Go.Proofs.Y
end
section
namespace Go.Proofs.Y
open Go Go.Ab
theorem Rc.trans{n:Nt}{go:Ed->Bool}{a b c:Nat}(h:Rc n go a b)(k:Rc n go b c):Rc n go a c:=by
 induction k with
 | base=>exact h
 | step _ h2 h3 h4 ih=>exact .step ih h2 h3 h4
theorem JjM{em:List Bool}{e:Ed}:goE false em e=true:=rfl
def rlN (n:Nt)(s:Nat):Nat:=(n.states.getD s default).rule.toNat
section
variable {n:Nt} (w:Wf n) (ok:JbU n)
include w ok
theorem JkW{t s:Nat}:s∈(gB n).getD t []↔∃ e,s<n.states.length/\e∈(n.states.getD s default).edges/\t=e.to.toNat:=by
 have hb:=Jkw w ok (i:=n.states.length) (k:=0) (.inr ⟨rfl,rfl⟩);unfold gB;rw[Jeg fun p hp=>(hb.1 p hp).1];constructor
 ·intro h;obtain⟨j,e,hj,he,hp⟩:=Jdy w ok (.inr ⟨rfl,rfl⟩) h;unfold prB at hp;simp only[List.mem_singleton,Prod.mk.injEq] at hp;obtain⟨rfl,rfl⟩:=hp;exact⟨e,hj,he,rfl⟩
 ·rintro⟨e,hs,he,rfl⟩;exact JdQ _ n hs he (by unfold prB;simp)
theorem Jph{s:Nat}(hs:s<n.states.length){e:Ed}(he:e∈(n.states.getD s default).edges):(n.states.getD e.to.toNat default).rule=(n.states.getD s default).rule:=by
 have _:=ok;have h:=(w.ed s hs e he).1;unfold ofN at h;simp only[Bool.and_eq_true,decide_eq_true_eq,beq_iff_eq] at h;exact h.2.2
theorem JlR:Jfv n=true↔∀ s,s<n.states.length->Rc n (goE false []) s (spN n (rlN n s)):=by
 have spr:∀ i,i<n.rules.length->(n.states.getD (spN n i) default).rule=(i:Int):=fun i hi=>by
  have h:=(w.ru i hi).2.1;unfold ofN at h;simp only[Bool.and_eq_true,decide_eq_true_eq,beq_iff_eq] at h;exact h.2.2
 have bwd:∀ a b,Rc n (goE false []) a b->b=a\/Rch (gB n) b a:=fun a b h=>by
  induction h with
  | base=>exact .inl rfl
  | @step s e _ h2 h3 _ ih =>
   have m:s∈(gB n).getD e.to.toNat []:=(JkW w ok).2 ⟨e,h2,h3,rfl⟩;rcases ih with q | q
   ·subst q;exact .inr (.one m)
   ·exact .inr (JrA (.one m) q)
 have fwd:∀ t s,Rch (gB n) t s->Rc n (goE false []) s t/\(n.states.getD s default).rule=(n.states.getD t default).rule:=fun t s h=>by
  induction h with
  | one m =>
   obtain⟨e,h1,h2,rfl⟩:=(JkW w ok).1 m;exact⟨.step .base h1 h2 JjM,(Jph w ok h1 h2).symm⟩
  | step _ m ih =>
   obtain⟨e,h1,h2,h3⟩:=(JkW w ok).1 m;subst h3;exact⟨(Rc.step .base h1 h2 JjM).trans ih.1,by rw[<- ih.2];exact(Jph w ok h1 h2).symm⟩
 unfold Jfv;rw[@decide_eq_true_iff _ (Classical.propDecidable _)];constructor
 ·intro h s hs;obtain⟨i,hi,q⟩:=h s hs;have e:(n.states.getD s default).rule=(i:Int)/\Rc n (goE false []) s (spN n i):=by
   rcases q with q | q
   ·rw[q];exact⟨spr i hi,.base⟩
   ·have:=fwd _ _ q;exact⟨by rw[this.2];exact spr i hi,this.1⟩
  unfold rlN;rw[e.1,Int.toNat_natCast];exact e.2
 ·intro h s hs;have hr:=w.st s hs;refine⟨rlN n s,by unfold rlN;omega,?_⟩;rcases bwd _ _ (h s hs) with q | q
  ·exact .inl q.symm
  ·exact .inr q
end
theorem JgH(n:Nt)(ok:JbU n):JaY Tryz.prog 11 [.agg (Jh n)] (.lit (.int .i64 (if okV n then 0 else 110))):=by
 have ht:=ok.types;have hru:=ok.rules;have hst:=ok.states;refine J5 (Ju Tryz.func11 rfl Tryz.ntmps11 (rs:=[.tmp 2]) rfl (by simp) ?_);obtain⟨v,hv⟩:∃ v:Int,(if okV n then (0:Int) else 110)=v:=⟨_,rfl⟩;rw[hv];have fin:∀ h,JdV h (.lit (.int .i64 v)) (.lit (.int .i64 v)):=fun h=>Jar (.lit _);have bad:okV n=false->v=110:=fun h=>by rw[<- hv,h];rfl
 have gn:∀ x∈[AV.agg (Jh n)],GP x:=Jc (.of_pure (.agg (J8 n))) Jm;have pn:∀ x∈[AV.agg (Jh n)],Ab.Pure x:=Jc (.agg (J8 n)) Jm;have c1:=JkR n ok;have c2:=JkS n ok;have c3:=JjI n ok;have pn1:=pn;unfold Jh at c1 c2 c3 gn pn1;refine Jl ?_;simp (disch:=omega) only[Wz,seval,Jh];refine JR Jw6 c1 gn (.lit _) ?_;cases h1:JcL n with
 | false =>
  have hb:=bad (by unfold okV;rw[h1];rfl);subst hb;simp (disch:=omega) only[Wz,seval];exact fin _
 | true =>
 simp (disch:=omega) only[Wz,seval];refine Jg Jw7 c2 pn1 (.lit _) ?_;cases h2:Jdf n with
 | false =>
  have hb:=bad (by unfold okV;rw[h1,h2];rfl);subst hb;simp (disch:=omega) only[Wz,seval];exact fin _
 | true =>
 simp (disch:=omega) only[Wz,seval];refine Jg Jw8 c3 pn1 (.lit _) ?_;cases h3:Jbr n with
 | false =>
  have hb:=bad (by unfold okV;rw[h1,h2,h3];rfl);subst hb;simp (disch:=omega) only[Wz,seval];exact fin _
 | true =>
 have w:=Wf.of h1 h2 h3;have wst:=w.nst;have wru:=w.nru;have c4:=Jiu n w ok;unfold Jh at c4;have eok:okV n=(Jfv n && ((List.range n.rules.length).all (JjS n) && (!Jcr (gF n) && !Jcr (gC n)))):=by unfold okV;rw[h1,h2,h3];rfl
 simp (disch:=omega) only[Wz,seval];refine Js (fun i:Nat=>⟨[(3,.lit (.int .i64 (i:Int))),(1,.ptr 0 0)],⟨[(0,Jh n)],[],1⟩,80⟩) (fun i=>i<=n.states.length/\(∀ s,s<i->Rc n (goE false []) s (spN n (rlN n s)))) (fun i=>n.states.length - i) 0 (Jn (by simp[lk]) (fun _ _ q=>q) (fun _ _ q=>q) rfl rfl) ⟨Nat.zero_le _,fun j q=>absurd q (Nat.not_lt_zero _)⟩ ?_;rintro i ⟨hi,hiv⟩;refine Jl ?_;rcases Nat.lt_or_ge i n.states.length with hlt | hge
 ·obtain⟨s,hs⟩:∃ s,n.states.getD i default=s:=⟨_,rfl⟩;have hsr:=w.st i hlt;rw[hs] at hsr;obtain⟨sr,hsr2⟩:∃ sr:Nat,s.rule=(sr:Int):=⟨s.rule.toNat,by omega⟩;have hsrl:sr<n.rules.length:=by omega
  obtain⟨r,hr⟩:∃ r,n.rules.getD sr default=r:=⟨_,rfl⟩;have hsto:=w.stop hsrl;rw[hr] at hsto;obtain⟨pn2,hpn2⟩:∃ pn:Nat,r.stop=(pn:Int):=⟨r.stop.toNat,by omega⟩;have ep:spN n (rlN n i)=pn2:=by unfold spN rlN;rw[hs,hsr2,Int.toNat_natCast,hr,hpn2];rfl
  have rk:JaY Tryz.prog 29 [.agg (Jh n),.lit (.int .i64 (i:Int)),.lit (.bool false),.vec [] true] _:=JkU n w ok (List.replicate n.rules.length false) (by simp) i hlt;obtain⟨R,hR⟩:∃ R,rcV n (goE false (List.replicate n.rules.length false)) i=R:=⟨_,rfl⟩;have hRl:R.length=n.states.length:=by rw[<- hR];exact Jht
  have hRp:R.getD pn2 default=JsT (Rc n (goE false (List.replicate n.rules.length false)) i pn2):=by rw[<- hR];exact Jo8 (by omega)
  have eR:Rc n (goE false (List.replicate n.rules.length false)) i pn2↔Rc n (goE false []) i pn2:=Iff.rfl;rw[hR] at rk;have ra:∀ x∈[AV.agg (Jh n),.lit (.int .i64 (i:Int)),.lit (.bool false),.vec [] true],GP x:=Jc (.of_pure (.agg (J8 n))) (Jc (.lit _) (Jc (.lit _) (Jc (.of_pure (.vec Jm)) Jm)));unfold Jh at rk ra;simp (disch:=omega) only[Wz,seval,Jh];refine Jw (n:=80) rfl (by decide) mixed ?_;simp (disch:=omega) only[Wz,seval,Jh];refine JhQ Jrg rk ra (.of_pure (.vec (Jk J9 _))) ?_;cases hb:R.getD pn2 default with
  | false =>
   have ne:Jfv n=false:=by
    cases q:Jfv n with
    | false=>rfl
    | true =>
     have:=(JlR w ok).1 q i hlt;rw[ep] at this;have:=JdA.2 (eR.2 this);rw[<- hRp,hb] at this;cases this
   have hv2:=bad (by rw[eok,ne];rfl);subst hv2;simp (disch:=omega) only[Wz,seval,Jh,hs,Je,hsr2,hr,Jf,hpn2,hRl,hb,Jp];exact fin _
  | true =>
   have hrc:Rc n (goE false []) i (spN n (rlN n i)):=by rw[ep];exact eR.1 (JdA.1 (hRp.symm.trans hb))
   simp (disch:=omega) only[Wz,seval,Jh,hs,Je,hsr2,hr,Jf,hpn2,hRl,hb,Jp];exact⟨i+1,⟨by omega,JfF hiv hrc⟩,by omega,Jn (by simp[lk]) (fun _ _ q=>q) (fun _ _ q=>q) rfl rfl⟩
 have e:i=n.states.length:=by omega
 subst e;have he:=(JlR w ok).2 hiv;rw[he,Bool.true_and] at eok;simp (disch:=omega) only[Wz,seval,Jh];refine Jg Jw9 c4 pn1 (.vec (Jk J9 _)) ?_;simp (disch:=omega) only[Wz,seval,Jh];obtain⟨em,hem⟩:∃ em,J0 n=em:=⟨_,rfl⟩;have hel:em.length=n.rules.length:=by rw[<- hem];simp[J0]
 have heg:∀ i,i<n.rules.length->em.getD i default=Jm6 n i:=fun i hi=>by rw[<- hem];exact JbC hi
 rw[hem];refine Js (fun i:Nat=>⟨[(5,.lit (.int .i64 (i:Int))),(4,.vec (em.map Jp) false),(1,.ptr 0 0)],⟨[(0,Jh n)],[],1⟩,80⟩) (fun i=>i<=n.rules.length/\(∀ j,j<i->JjS n j=true)) (fun i=>n.rules.length - i) 0 (Jn (by simp[lk]) (fun _ _ q=>q) (fun _ _ q=>q) rfl rfl) ⟨Nat.zero_le _,fun j q=>absurd q (Nat.not_lt_zero _)⟩ ?_;rintro i ⟨hi,hiv⟩;refine Jl ?_;rcases Nat.lt_or_ge i n.rules.length with hlt | hge
 ·obtain⟨r,hr⟩:∃ r,n.rules.getD i default=r:=⟨_,rfl⟩;have hg:=heg i hlt;have key:JjS n i = !(r.lexer && (!r.frag && Jm6 n i)):=by unfold JjS;rw[hr]
  have bad2:JjS n i=false->v=110:=fun q=>bad (by rw[eok,Ja7 hlt q];rfl)
  cases hlx:r.lexer with
  | false =>
   have hn:=Jap hiv (by rw[key,hlx];rfl);simp (disch:=omega) only[Wz,seval,Jh,hr,Jf,hlx];exact⟨i+1,⟨by omega,hn⟩,by omega,Jn (by simp[lk]) (fun _ _ q=>q) (fun _ _ q=>q) rfl rfl⟩
  | true =>
   cases hfr:r.frag with
   | true =>
    have hn:=Jap hiv (by rw[key,hlx,hfr];rfl);simp (disch:=omega) only[Wz,seval,Jh,hr,Jf,hlx,hfr];exact⟨i+1,⟨by omega,hn⟩,by omega,Jn (by simp[lk]) (fun _ _ q=>q) (fun _ _ q=>q) rfl rfl⟩
   | false =>
    cases hb:Jm6 n i with
    | false =>
     rw[hb] at hg;have hn:=Jap hiv (by rw[key,hlx,hfr,hb];rfl);simp (disch:=omega) only[Wz,seval,Jh,hr,Jf,hlx,hfr,hg,Jp,hel];exact⟨i+1,⟨by omega,hn⟩,by omega,Jn (by simp[lk]) (fun _ _ q=>q) (fun _ _ q=>q) rfl rfl⟩
    | true =>
     rw[hb] at hg;have hv2:=bad2 (by rw[key,hlx,hfr,hb];rfl);subst hv2;simp (disch:=omega) only[Wz,seval,Jh,hr,Jf,hlx,hfr,hg,Jp,hel];exact fin _
 have e:i=n.rules.length:=by omega
 subst e;rw[Jat hiv,Bool.true_and] at eok;have c5:=JmX n w ok em hel (Jcr (gF n)) (by rw[<- hem];exact Jpc w ok);have c6:=JkV n w ok (Jcr (gC n)) (Jpg w ok);have pn5:∀ x∈[AV.agg (Jh n),.vec (em.map Jp) false],Ab.Pure x:=Jc (.agg (J8 n)) (Jc (.vec (Jk J9 _)) Jm);unfold Jh at c5 c6 pn5;simp (disch:=omega) only[Wz,seval,Jh];refine Jg Jxa c5 pn5 (.lit _) ?_;cases h5:Jcr (gF n) with
 | true =>
  have hv2:=bad (by rw[eok,h5];rfl);subst hv2;simp (disch:=omega) only[Wz,seval];exact fin _
 | false =>
 simp (disch:=omega) only[Wz,seval,Jh];refine Jg Jxb c6 pn1 (.lit _) ?_;cases h6:Jcr (gC n) with
 | true =>
  have hv2:=bad (by rw[eok,h5,h6];rfl);subst hv2;simp (disch:=omega) only[Wz,seval];exact fin _
 | false =>
  have hv2:v=0:=by rw[<- hv,eok,h5,h6];rfl
  subst hv2;simp (disch:=omega) only[Wz,seval];exact fin _
end Go.Proofs.Y
end
