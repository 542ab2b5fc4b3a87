/- Parts of the proof, laid together. -/
import Derived.Test.YtgbbhilflgekhaaGreatDoorVem
set_option linter.unusedVariables false
set_option linter.unusedSimpArgs false
set_option maxRecDepth 20000
set_option maxHeartbeats 16000000
section
namespace Go.Proofs.Y
open Go Go.Ab
theorem JiU{em:List Bool}{e:Ed}:goE true em e=true↔e.op.1≠1/\(e.op.1≠2\/em.getD e.n.toNat false=true):=by
 unfold goE;by_cases h1:e.op.1=1
 ·simp[h1]
 ·by_cases h2:e.op.1=2
  ·cases em.getD e.n.toNat false <;> simp[h1,h2]
  ·simp[h1,h2]
theorem Jzc{n:Nt}(w:Wf n)(ok:JcL n){em:List Bool}{a b:Nat}(h:Rc n (goE true em) a b):a=b\/Rch (gE n em) a b:=by
 induction h with
 | base=>exact .inl rfl
 | @step s e _ h2 h3 h4 ih =>
  obtain⟨q1,q2⟩:=JiU.1 h4;have m:e.to.toNat∈(gE n em).getD s []:=(JhB w ok).2 ⟨e,h2,h3,q1,q2,rfl⟩;rcases ih with r | r
  ·subst r;exact .inr (.one m)
  ·exact .inr (.step r m)
theorem Jzd{n:Nt}(w:Wf n)(ok:JcL n){em:List Bool}{a b:Nat}(h:Rch (gE n em) a b):Rc n (goE true em) a b:=by
 induction h with
 | one m =>
  obtain⟨e,h1,h2,h3,h4,rfl⟩:=(JhB w ok).1 m;exact .step .base h1 h2 (JiU.2 ⟨h3,h4⟩)
 | step _ m ih =>
  obtain⟨e,h1,h2,h3,h4,rfl⟩:=(JhB w ok).1 m;exact .step ih h1 h2 (JiU.2 ⟨h3,h4⟩)
theorem JpH{n:Nt}{go:Ed->Bool}{a j:Nat}(h:j<n.states.length):(rcV n go a).getD j false=JtB (Rc n go a j):=by
 unfold rcV;rw[List.getD_eq_getElem?_getD,List.getElem?_map,List.getElem?_range h];rfl
theorem JhU{n:Nt}{go:Ed->Bool}{a:Nat}:(rcV n go a).length=n.states.length:=by simp[rcV]
theorem Jrk{n:Nt}(w:Wf n)(ok:JcL n){em:List Bool}(hem:em.length=n.rules.length){a:Nat}(ha:a<n.states.length)(H:Hp)(t:Nat)(ht:lk H.toks t=some ⟨em.map Jr,0,1⟩)(hn:t<H.nx) :
  JaM Tryz.prog 29 [.agg (Jh n),.lit (.int .i64 (a:Int)),.lit (.bool true),.own t em.length] H (.vec ((rcV n (goE true em) a).map Jr) false):=by
 have r0:rho [t] 0=t:=rfl;refine JaM.sub [t] rfl (by simp) (by simp only[List.mem_singleton,forall_eq];exact hn) (.cons (.pure (.agg (Jab n))) (.cons (.pure (.lit _)) (.cons (.pure (.lit _)) (.cons (.own (by show 0<1;decide) r0) .nil)))) Jl
  (Jb ⟨by show 0<1;decide,_,ht,rfl,rfl,.pure (Ji Jad _)⟩ Jl) (fun i hi e=>?_) (Jlq n w ok em hem a ha) (.pure (.vec (Ji Jad _)))
 have hi:i<1:=hi;have:i=0:=by omega
 subst this;cases e
theorem JiV(n:Nt)(w:Wf n)(ok:JcL n):JR Tryz.prog 30 [.agg (Jh n)] (.vec ((J4 n).map Jr) false):=by
 refine Jn Tryz.func30 rfl Tryz.ntmps30 (rs:=[.tmp 2]) rfl (by simp) ?_;have hst:=w.nst;have hru:=w.nru;obtain⟨S1,hS1⟩:∃ S1:List Bool × Bool->St,∀ em ag,S1 (em,ag)=⟨[(4,.lit (.bool ag)),(3,.own 1 n.rules.length),(1,.ptr 0 0)],⟨[(0,Jh n)],[(1,⟨em.map Jr,0,1⟩)],2⟩,46⟩:=⟨fun x=>⟨[(4,.lit (.bool x.2)),(3,.own 1 n.rules.length),(1,.ptr 0 0)],⟨[(0,Jh n)],[(1,⟨x.1.map Jr,0,1⟩)],2⟩,46⟩,fun _ _=>rfl⟩;obtain⟨S2,hS2⟩:∃ S2:Nat × List Bool × Bool->St,∀ i em ag,S2 (i,em,ag)=⟨[(5,.lit (.int .i64 (i:Int))),(4,.lit (.bool ag)),(3,.own 1 n.rules.length),(1,.ptr 0 0)],⟨[(0,Jh n)],[(1,⟨em.map Jr,0,1⟩)],2⟩,46⟩:=⟨fun x=>⟨[(5,.lit (.int .i64 (x.1:Int))),(4,.lit (.bool x.2.2)),(3,.own 1 n.rules.length),(1,.ptr 0 0)],⟨[(0,Jh n)],[(1,⟨x.2.1.map Jr,0,1⟩)],2⟩,46⟩,fun _ _ _=>rfl⟩;simp (disch:=omega) only[Wz,seval,Jh];refine Jp S1 (fun x=>x.1.length=n.rules.length/\(∀ i,x.1.getD i false=true->Emp n i)/\(x.2=false->Jk4 n x.1)) (fun x=>2 * x.1.count false+x.2.toNat) (List.replicate n.rules.length false,true) ?_ ⟨by simp,fun i hi=>?_,fun(q:true=false)=>(nomatch q)⟩ ?_
 ·rw[hS1];exact Jk (by simp[lk]) (fun _ _ q=>q) (fun p c q=>by rw[<- q];simp[List.map_replicate,Jr]) rfl rfl
 ·simp only[List.getD_eq_getElem?_getD,List.getElem?_replicate] at hi;split at hi <;> cases hi
 rintro⟨em,ag⟩ ⟨hel,hes,hec⟩;simp only at hel hes hec;rw[hS1];refine Jj ?_;cases ag with
 | false =>
  have e:=Jfx w ok hel hes (hec rfl);rw[<- e];simp (disch:=omega) only[Wz,seval];exact Jbf (k:=⟨em.map Jr,0,1⟩) rfl (by simpa using hel.symm) (Ji Jad _)
 | true =>
 simp (disch:=omega) only[Wz,seval];refine Jp S2 (fun x=>x.1<=n.rules.length/\x.2.1.length=n.rules.length/\(∀ i,x.2.1.getD i false=true->Emp n i)/\(x.2.2=false->∀ j,j<x.1->Rch (gE n x.2.1) (stN n j) (spN n j)->x.2.1.getD j false=true)/\x.2.1.count false<=em.count false/\(x.2.2=true->x.2.1.count false<em.count false)) (fun x=>n.rules.length - x.1) (0,em,false) ?_ ⟨Nat.zero_le _,hel,hes,fun _ j q=>absurd q (Nat.not_lt_zero _),Nat.le_refl _,fun(q:false=true)=>(nomatch q)⟩ ?_
 ·rw[hS2];exact Jk (by simp[lk]) (fun _ _ q=>q) (fun _ _ q=>q) rfl rfl
 rintro⟨i,J,ag⟩ ⟨hi,hl,hs,hc,hn1,hn2⟩;simp only at hi hl hs hc hn1 hn2;rw[hS2];refine Jj ?_;rcases Nat.lt_or_ge i n.rules.length with hlt | hge
 rotate_left
 ·have e:i=n.rules.length:=by omega
  subst e;simp (disch:=omega) only[Wz,seval,Jh];refine⟨(J,ag),⟨hl,hs,fun q j hj r=>hc q j hj r⟩,?_,by rw[hS1];exact Jk (by simp[lk]) (fun _ _ q=>q) (fun _ _ q=>q) rfl rfl⟩;cases ag with
  | false=>simp only[Bool.toNat];simp;omega
  | true=>have:=hn2 rfl;simp only[Bool.toNat];simp;omega
 obtain⟨r,hr⟩:∃ r,n.rules.getD i default=r:=⟨_,rfl⟩;have gi:=JaS (l:=J) (i:=i) (by omega);have nxt:(ag=false->Rch (gE n J) (stN n i) (spN n i)->J.getD i false=true)->ag=false->∀ j,j<i+1->Rch (gE n J) (stN n j) (spN n j)->J.getD j false=true:=fun q e j hj=>by
  rcases Nat.lt_succ_iff_lt_or_eq.1 hj with h | h
  ·exact hc e j h
  ·subst h;exact q e
 cases hJi:J.getD i false with
 | true =>
  rw[hJi] at gi;simp (disch:=omega) only[Wz,seval,Jh];refine Jx (n:=46) rfl (by decide) mixed ?_;simp (disch:=omega) only[Wz,seval,Jh,gi,hl,Lx];exact⟨(i+1,J,ag),⟨by simp only;omega,hl,hs,nxt fun _ _=>hJi,hn1,hn2⟩,by simp only;omega,by rw[hS2];exact Jk (by simp[lk]) (fun _ _ q=>q) (fun _ _ q=>q) rfl rfl⟩
 | false =>
 rw[hJi] at gi;have hsta:=w.start hlt;have hsto:=w.stop hlt;have hne:=(w.ru i hlt).2.2.1;rw[hr] at hsta hsto hne;obtain⟨sn,hsn⟩:∃ sn:Nat,r.start=(sn:Int):=⟨r.start.toNat,by omega⟩;obtain⟨pn,hpn⟩:∃ pn:Nat,r.stop=(pn:Int):=⟨r.stop.toNat,by omega⟩;have es:stN n i=sn:=by unfold stN;rw[hr,hsn];rfl
 have ep:spN n i=pn:=by unfold spN;rw[hr,hpn];rfl
 have rq:=Jrk w ok hl (a:=sn) (by omega) ⟨[(0,Jh n)],[(1,⟨J.map Jr,0,1⟩)],2⟩ 1 rfl (show 1<2 by decide);obtain⟨R,hR⟩:∃ R,rcV n (goE true J) sn=R:=⟨_,rfl⟩;have hRl:R.length=n.states.length:=by rw[<- hR];exact JhU
 have hRp:R.getD pn false=JtB (Rc n (goE true J) sn pn):=by rw[<- hR];exact JpH (by omega)
 rw[hR,hl] at rq;have gR:=JaS (l:=R) (i:=pn) (by omega);unfold Jh at rq;simp (disch:=omega) only[Wz,seval,Jh];refine Jx (n:=46) rfl (by decide) mixed ?_;simp (disch:=omega) only[Wz,seval,Jh,gi,hl,hr,hsn,Jc,Lx];refine Jch JrV rq ?_;cases hb:R.getD pn false with
 | false =>
  rw[hb] at gR;have hbd:R.getD pn default=false:=hb;have nr:¬ Rch (gE n J) (stN n i) (spN n i):=fun q=>by
   rw[es,ep] at q;have:=JdW.2 (Jzd w ok q);rw[<- hRp,hb] at this;cases this
  simp (disch:=omega) only[Wz,seval,Jh,hr,hpn,Jc,Jr,hbd,hRl,Lx];exact⟨(i+1,J,ag),⟨by simp only;omega,hl,hs,nxt fun _ q=>absurd q nr,hn1,hn2⟩,by simp only;omega,by rw[hS2];exact Jk (by simp[lk]) (fun _ _ q=>q) (fun _ _ q=>q) rfl rfl⟩
 | true =>
  rw[hb] at gR;have hbd:R.getD pn default=true:=hb;have hrc:Rc n (goE true J) sn pn:=JdW.1 (hRp.symm.trans hb);have hE:Emp n i:=by
   rcases Jzc w ok hrc with q | q
   ·omega
   ·have:=Jiw w ok hs q;unfold Emp;rw[es,ep];exact this
  have hc1:=Jcc (l:=J) (i:=i) (by omega) hJi;simp (disch:=omega) only[Wz,seval,Jh,hr,hpn,Jc,Jr,hbd,hRl,gi,hl,Lx];refine⟨(i+1,J.set i true,true),⟨by simp only;omega,by simp[hl],fun j hj=>?_,fun(q:true=false)=>(nomatch q),by simp only;omega,fun _=>by simp only;omega⟩,by simp only;omega,?_⟩
  ·simp only at hj;rw[Jbl (by omega)] at hj;split at hj
   ·rename_i q;subst q;exact hE
   ·exact hs j hj
  ·rw[hS2];exact Jk (by simp[lk]) (fun _ _ q=>q) (fun p c q=>by rw[<- q];simp[List.map_set,Jr]) rfl rfl
end Go.Proofs.Y
end
section
namespace Go.Proofs.Y
open Go Go.Ab
theorem Jrl{G:List (List Nat)}{rk:Nat->Nat}(h:JyG G rk){i j:Nat}(r:Rch G i j):rk j<rk i:=by
 induction r with
 | one e=>exact h _ _ e
 | step _ e ih=>exact Nat.lt_trans (h _ _ e) ih
theorem Jsh{G:List (List Nat)}{a b c:Nat}(h:Rch G a b)(k:Rch G b c):Rch G a c:=by
 induction k with
 | one e=>exact .step h e
 | step _ e ih=>exact .step ih e
theorem Jnj{l:List Nat}{p q:Nat->Bool}(h:∀ x,p x=true->q x=true):(l.filter p).length<=(l.filter q).length:=by
 induction l with
 | nil=>exact Nat.le_refl _
 | cons x l ih =>
  rw[List.filter_cons,List.filter_cons];by_cases hp:p x=true
  ·rw[if_pos hp,if_pos (h x hp)];simpa using ih
  ·rw[if_neg hp];split
   ·simp only[List.length_cons];omega
   ·exact ih
theorem Jck{l:List Nat}{p q:Nat->Bool}(h:∀ x,p x=true->q x=true){y:Nat}(hy:y∈l)(h1:p y=false)(h2:q y=true):(l.filter p).length<(l.filter q).length:=by
 induction l with
 | nil=>cases hy
 | cons x l ih =>
  rw[List.filter_cons,List.filter_cons];rcases List.mem_cons.1 hy with e | e
  ·subst e;rw[h1,h2];simp only[Bool.false_eq_true,if_false,if_true,List.length_cons];have:=Jnj (l:=l) h;omega
  ·have:=ih e;by_cases hp:p x=true
   ·rw[if_pos hp,if_pos (h x hp)];simpa using this
   ·rw[if_neg hp];split
    ·simp only[List.length_cons];omega
    ·exact this
theorem Jmd{G:List (List Nat)}(hG:GOk G):Jnx G↔∀ i,¬ Rch G i i:=by
 constructor
 ·rintro⟨rk,h⟩ i r;exact Nat.lt_irrefl _ (Jrl h r)
 ·intro h;refine⟨fun i=>((List.range G.length).filter (JlU G i)).length,fun i j hj=>?_⟩;refine Jck (y:=j) (fun x hx=>?_) (List.mem_range.2 (hG.get.2 _ hj)) ?_ (JbW.2 (.one hj))
  ·exact JbW.2 (Jsh (.one hj) (JbW.1 hx))
  ·cases e:JlU G j j with
   | false=>rfl
   | true=>exact absurd (JbW.1 e) (h j)
theorem JpI{G G':List (List Nat)}(h:∀ s v,v∈G.getD s []->v∈G'.getD s []){i j:Nat}(r:Rch G i j):Rch G' i j:=by
 induction r with
 | one e=>exact .one (h _ _ e)
 | step _ e ih=>exact .step ih (h _ _ e)
structure RgD (G:List (List Nat)) (i:Nat) (s:List Bool × List Nat):Prop where
 fr:FrI G i s
 no:∀ k,(k=i\/s.1.getD k false=true)->k∉s.2->i∉G.getD k []
theorem RgD.init{G:List (List Nat)}{i:Nat}(hi:i<G.length):RgD G i (List.replicate G.length false,[i]):=by
 refine⟨FrI.init hi,fun k hk hn=>?_⟩;rcases hk with rfl | hk
 ·exact absurd (by simp) hn
 ·simp only[List.getD_eq_getElem?_getD,List.getElem?_replicate] at hk;split at hk <;> cases hk
theorem RgD.next{G:List (List Nat)}{i:Nat}(hG:GOk G){m:List Bool}{t:List Nat}{k:Nat}(h:RgD G i (m,t++[k]))(hi:i∉G.getD k []):RgD G i (JdE (m,t) (G.getD k [])):=by
 have ml:m.length=G.length:=h.fr.len;have q:Mk1 (m,t) (JdE (m,t) (G.getD k [])) (G.getD k []):=Mk1.fold _ (fun a ha=>by rw[ml];exact hG.get.2 a ha);refine⟨h.fr.next hG,fun k' hk' hn=>?_⟩;by_cases e:k'=k
 ·subst e;exact hi
 ·have hnt:k'∉t:=fun x=>hn (q.keep _ x)
  refine h.no k' ?_ (by simp only[List.mem_append,List.mem_singleton];rintro(x | x);exact hnt x;exact e x);rcases hk' with x | x
  ·exact .inl x
  ·rcases q.new _ x with y | y
   ·exact .inr y
   ·exact absurd y hn
theorem RgD.last{G:List (List Nat)}{i:Nat}(hG:GOk G){m:List Bool}(h:RgD G i (m,[])):¬ Rch G i i:=fun r=>by
 have e:=h.fr.last hG;have key:∀ k,k=i\/Rch G i k->i∉G.getD k []:=fun k hk=>by
  refine h.no k ?_ (by simp);rcases hk with x | x
  ·exact .inl x
  ·right
   show m.getD k false=true;rw[e,JgM (x.lt hG)];exact JbW.2 x
 cases r with
 | one q=>exact key i (.inl rfl) q
 | step a q=>exact key _ (.inr a) q
theorem RgD.hit{G:List (List Nat)}{i:Nat}{m:List Bool}{t:List Nat}{k:Nat}(h:RgD G i (m,t++[k]))(hi:i∈G.getD k []):Rch G i i:=by
 rcases(h.fr.todo k (by simp)).2 with e | e
 ·subst e;exact .one hi
 ·exact .step (h.fr.snd k e) hi
def tgF (n:Nt)(em:List Bool)(e:Ed):List Nat:=if e.op.1=1 then [] else if e.op.1=2 then stN n e.n.toNat :: (if em.getD e.n.toNat false=true then [e.to.toNat] else []) else [e.to.toNat]
def rwF (n:Nt)(em:List Bool)(s:Nat):List Nat:=(n.states.getD s default).edges.flatMap (tgF n em)
def gF' (n:Nt)(em:List Bool):List (List Nat):=(List.range n.states.length).map (rwF n em)
theorem JtF(n:Nt)(em:List Bool)(e:Ed):(tgF n em e).length<=2:=by
 unfold tgF;split
 ·simp
 ·split
  ·split <;> simp
  ·simp
theorem Jsi{n:Nt}{em:List Bool}{i:Nat}{e:Ed}:prF n em i e=(tgF n em e).map fun v=>(i,v):=by
 unfold prF tgF;split
 ·rfl
 ·split
  ·split <;> rfl
  ·rfl
theorem JpK{n:Nt}{em:List Bool}{s:Nat}(h:s<n.states.length):(gF' n em).getD s []=rwF n em s:=by
 unfold gF';rw[List.getD_eq_getElem?_getD,List.getElem?_map,List.getElem?_range h];rfl
theorem JiW{n:Nt}{em:List Bool}:(gF' n em).length=n.states.length:=by simp[gF']
theorem JtG{n:Nt}{em:List Bool}{s:Nat}(h:¬ s<n.states.length):(gF' n em).getD s []=[]:=by
 unfold gF';rw[List.getD_eq_getElem?_getD,List.getElem?_map,List.getElem?_eq_none (by simpa using h)];rfl
section
variable {n:Nt} (w:Wf n) (ok:JcL n)
include w ok
theorem Jsj{em:List Bool}{s:Nat}{e:Ed}(hs:s<n.states.length)(he:e∈(n.states.getD s default).edges){v:Nat}(hv:v∈tgF n em e):v<n.states.length:=by
 have _:=ok;have ht:=w.to hs he;unfold tgF at hv;split at hv
 ·cases hv
 ·split at hv
  ·rename_i h2;have hc:=w.call hs he h2;have hb:=w.start (i:=e.n.toNat) (by omega);rcases List.mem_cons.1 hv with q | q
   ·rw[q];unfold stN;omega
   ·split at q
    ·simp only[List.mem_singleton] at q;rw[q];omega
    ·cases q
  ·simp only[List.mem_singleton] at hv;rw[hv];omega
theorem JpL{s v:Nat}:v∈(gF' n (J4 n)).getD s []↔v∈(gF n).getD s []:=by
 have hb:=Jfe w ok (em:=J4 n) (i:=n.states.length) (k:=0) (.inr ⟨rfl,rfl⟩);unfold gF;rw[Jeu fun p hp=>(hb.1 p hp).1];by_cases hs:s<n.states.length
 ·rw[JpK hs];unfold rwF;constructor
  ·intro h;obtain⟨e,he,hv⟩:=List.mem_flatMap.1 h;exact Jd8 _ n hs he (by rw[Jsi];exact List.mem_map.2 ⟨v,hv,rfl⟩)
  ·intro h;obtain⟨j,e,hj,he,hp⟩:=JdT w ok (.inr ⟨rfl,rfl⟩) h;rw[Jsi] at hp;obtain⟨u,hu,q⟩:=List.mem_map.1 hp;simp only[Prod.mk.injEq] at q;obtain⟨rfl,rfl⟩:=q;exact List.mem_flatMap.2 ⟨e,he,hu⟩
 ·rw[JtG hs];constructor
  ·intro h;cases h
  ·intro h;exact absurd (hb.1 _ h).1 hs
theorem Jsk{em:List Bool}:GOk (gF' n em):=by
 refine⟨by rw[JiW];have:=w.nst;omega,fun l hl=>?_,fun l hl j hj=>?_⟩
 ·obtain⟨s,hs,rfl⟩:=List.mem_map.1 hl;have h1:=JbL (f:=tgF n em) (c:=2) (l:=(n.states.getD s default).edges) (fun e _=>JtF n em e);have h2:=ok.edgesD s;unfold rwF;omega
 ·obtain⟨s,hs,rfl⟩:=List.mem_map.1 hl;obtain⟨e,he,hv⟩:=List.mem_flatMap.1 hj;rw[JiW];exact Jsj w ok (List.mem_range.1 hs) he hv
theorem JpM:JcM (gF n)=true↔∃ i,i<n.states.length/\Rch (gF' n (J4 n)) i i:=by
 have a1:=Jmd (JyH w ok);constructor
 ·intro h;have na:¬ Jnx (gF n):=fun q=>by rw[Jco q] at h;cases h
  rw[a1] at na;have:∃ i,Rch (gF n) i i:=by
   by_cases c:∃ i,Rch (gF n) i i
   ·exact c
   ·exact absurd (fun i q=>c ⟨i,q⟩) na
  obtain⟨i,hi⟩:=this;have hi':=JpI (G':=gF' n (J4 n)) (fun s v q=>(JpL w ok).2 q) hi;exact⟨i,by have:=hi'.lt (Jsk w ok);rwa [JiW] at this,hi'⟩
 ·rintro⟨i,_,hi⟩;exact Jd7 fun q=>a1.1 q i (JpI (fun s v q=>(JpL w ok).1 q) hi)
end
end Go.Proofs.Y
end
section
namespace Go.Proofs.Y
open Go Go.Ab
theorem JiX(s:List Bool × List Nat)(p q:List Nat):JdE s (p++q)=JdE (JdE s p) q:=by unfold JdE;rw[List.foldl_append]
theorem Jrm{n:Nt}{em:List Bool}{es:List Ed}{k:Nat}{e:Ed}(hk:k<es.length)(he:es.getD k default=e):(es.take (k+1)).flatMap (tgF n em)=(es.take k).flatMap (tgF n em)++tgF n em e:=by
 rw[List.take_add_one,JfS hk,Option.toList_some,List.flatMap_append,he];simp
theorem JfX{i:Nat}{p:Nat->Prop}(h:∀ j,j<i->p j)(hi:p i):∀ j,j<i+1->p j:=fun j hj=>by
 rcases Nat.lt_succ_iff_lt_or_eq.1 hj with q | q
 ·exact h j q
 ·subst q;exact hi
theorem Jnk(n:Nt)(w:Wf n)(ok:JcL n)(em:List Bool)(hem:em.length=n.rules.length)(v:Bool)(hv:v=true↔∃ i,i<n.states.length/\Rch (gF' n em) i i) :
  JR Tryz.prog 31 [.agg (Jh n),.vec (em.map Jr) false] (.lit (.bool v)):=by
 have hst:=w.nst;have hru:=w.nru;have fin:∀ h (b:Bool),JcV h (.lit (.bool b)) (.lit (.bool b)):=fun h b=>Ja (.lit _);have hG:=Jsk w ok (em:=em);have hGl:=JiW (n:=n) (em:=em);obtain⟨G,hGG⟩:∃ G,gF' n em=G:=⟨_,rfl⟩;refine JG (Jq Tryz.func31 rfl Tryz.ntmps31 (rs:=[.tmp 4]) rfl (by simp) ?_);obtain⟨S1,hS1⟩:∃ S1:Nat × Nat->St,∀ i N,S1 (i,N)=⟨[(5,.lit (.int .i64 (i:Int))),(2,.ptr 0 0),(1,.vec (em.map Jr) false)],⟨[(0,Jh n)],[],N⟩,107⟩:=⟨fun x=>⟨[(5,.lit (.int .i64 (x.1:Int))),(2,.ptr 0 0),(1,.vec (em.map Jr) false)],⟨[(0,Jh n)],[],x.2⟩,107⟩,fun _ _=>rfl⟩;refine Jj ?_;simp (disch:=omega) only[Wz,seval,Jh];refine Jp S1 (fun x=>x.1<=n.states.length/\1<=x.2/\∀ j,j<x.1->¬ Rch G j j) (fun x=>n.states.length - x.1) (0,1) ?_ ⟨Nat.zero_le _,Nat.le_refl _,fun j q=>absurd q (Nat.not_lt_zero _)⟩ ?_
 ·rw[hS1];exact Jk (by simp[lk]) (fun _ _ q=>q) (fun _ _ q=>q) rfl rfl
 rintro⟨i,N⟩ ⟨hi,hN,hno⟩;simp only at hi hN hno;rw[hS1];rcases Nat.lt_or_ge i n.states.length with hlt | hge
 rotate_left
 ·have e:i=n.states.length:=by omega
  subst e;have hb:v=false:=by
   cases v with
   | false=>rfl
   | true=>obtain⟨j,h1,h2⟩:=hv.1 rfl;rw[hGG] at h2;exact absurd h2 (hno j h1)
  subst hb;refine Jj ?_;simp (disch:=omega) only[Wz,seval,Jh];exact fin _ _
 have hit:Rch G i i->v=true:=fun q=>hv.2 ⟨i,hlt,by rw[hGG];exact q⟩
 have hGL:G.length=n.states.length:=by rw[<- hGG];exact hGl
 rw[hGG] at hG;refine Jm ?_;refine Jj ?_;simp (disch:=omega) only[Wz,seval,Jh];refine Jm ?_;refine JX ?_;refine Jm ?_;refine Jj ?_;simp (disch:=omega) only[Wz,seval,Jh];refine Jm ?_;refine Jc0 ?_;simp (disch:=omega) only[Wz,seval,JlE];refine JcZ (ps:=[(0,.lit (.int .i64 (i:Int)))]) (z:=[.lit (.int .i64 0)]) (rows:=[Jak i]) JrK rfl ty3 rfl ⟨rfl,by decide⟩ (by decide) rfl rfl ?_;simp (disch:=omega) only[Wz,seval,JlE];refine Jj ?_;simp (disch:=omega) only[Wz,seval];obtain⟨S2,hS2⟩:∃ S2:(List Bool × List Nat) × Nat × Nat->St,∀ m T t nx,S2 ((m,T),t,nx)=⟨[(7,.own t T.length),(6,.own N n.states.length),(5,.lit (.int .i64 (i:Int))),(2,.ptr 0 0),(1,.vec (em.map Jr) false)],⟨[(0,Jh n)],[(N,⟨m.map Jr,0,1⟩),(t,⟨T.map Jak,0,1⟩)],nx⟩,107⟩:=⟨fun x=>⟨[(7,.own x.2.1 x.1.2.length),(6,.own N n.states.length),(5,.lit (.int .i64 (i:Int))),(2,.ptr 0 0),(1,.vec (em.map Jr) false)],⟨[(0,Jh n)],[(N,⟨x.1.1.map Jr,0,1⟩),(x.2.1,⟨x.1.2.map Jak,0,1⟩)],x.2.2⟩,107⟩,fun _ _ _ _=>rfl⟩;refine Jp S2 (fun x=>RgD G i x.1/\N<x.2.1/\x.2.1<x.2.2) (fun x=>2 * x.1.1.count false+x.1.2.length) ((List.replicate n.states.length false,[i]),N+1,N+2) ?_ ⟨by have:=RgD.init (G:=G) (i:=i) (by omega);rwa [hGL] at this,by simp only;omega,by simp only;omega⟩ ?_
 ·rw[hS2];exact Jk (by simp[lk]) (fun _ _ q=>q) (fun p c q=>by rw[<- q];simp[List.map_replicate,Jr]) rfl rfl
 rintro⟨⟨m,todo⟩,t,nx⟩ ⟨hI,htN,htn⟩;simp only at htN htn hI;rw[hS2];refine Jj ?_;have hml:m.length=n.states.length:=by rw[<- hGL];exact hI.fr.len
 rcases List.eq_nil_or_concat todo with rfl | ⟨T,k,rfl⟩
 ·have nr:=hI.last hG;simp (disch:=omega) only[Wz,seval];refine Jj ?_;simp (disch:=omega) only[Wz,seval];exact⟨(i+1,nx),⟨by simp only;omega,by simp only;omega,JfX hno nr⟩,by simp only;omega,by rw[hS1];exact Jk (by simp[lk]) (fun _ _ q=>q) (fun _ _ q=>by cases q) rfl rfl⟩
 simp only[List.concat_eq_append] at hI ⊢;have hNt:(N=t)=False:=by simp;omega
 have htN':(t=N)=False:=by simp;omega
 have hk:=(hI.fr.todo k (by simp)).1;have hc:=hI.fr.cnt;simp only[List.length_append,List.length_singleton] at hc;have g1:((T.map Jak)++[[AV.lit (.int .i64 (k:Int))]])[T.length]? = some [AV.lit (.int .i64 (k:Int))]:=by rw[List.getElem?_append_right (by simp)];simp
 have i1:(((T.length+1:Nat):Int) - 1).toNat=T.length:=by omega
 simp (disch:=omega) only[Wz,seval,hNt,htN',List.map_append,List.length_append,List.length_singleton,g1,i1,Jak];refine JcX (k:=⟨T.map Jak++[[AV.lit (.int .i64 (k:Int))]],0,1⟩) rfl rfl JrK rfl ty3 rfl (by simp[lk,hNt]) (by simp) (by omega) (by omega) (by simp) ?_;have tk1:(T.map Jak++[[AV.lit (.int .i64 (k:Int))]]).take T.length=T.map Jak:=by rw[List.take_append_of_le_length (by simp),List.take_of_length_le (by simp)]
 have hkL:k<n.states.length:=by omega
 obtain⟨s,hs⟩:∃ s,n.states.getD k default=s:=⟨_,rfl⟩;have hse:=(ok.edges s (by rw[<- hs];exact Ju hkL)).1;have hrow:G.getD k []=s.edges.flatMap (tgF n em):=by rw[<- hGG,JpK hkL];unfold rwF;rw[hs]
 have hrl:=hG.get (k:=k);rw[hrow] at hrl;simp (disch:=omega) only[Wz,seval,Hp.cut,dl,hNt,i1,tk1];obtain⟨S3,hS3⟩:∃ S3:Nat × (List Bool × List Nat) × Nat->St,∀ q ms U y,S3 (q,(ms,U),y)=⟨[(9,.lit (.int .i64 (q:Int))),(8,.lit (.int .i64 (k:Int))),(7,.own nx U.length),(6,.own N n.states.length),(5,.lit (.int .i64 (i:Int))),(2,.ptr 0 0),(1,.vec (em.map Jr) false)],⟨[(0,Jh n)],[(N,⟨ms.map Jr,0,1⟩),(nx,⟨U.map Jak,0,1⟩)],y⟩,107⟩:=⟨fun x=>⟨[(9,.lit (.int .i64 (x.1:Int))),(8,.lit (.int .i64 (k:Int))),(7,.own nx x.2.1.2.length),(6,.own N n.states.length),(5,.lit (.int .i64 (i:Int))),(2,.ptr 0 0),(1,.vec (em.map Jr) false)],⟨[(0,Jh n)],[(N,⟨x.2.1.1.map Jr,0,1⟩),(nx,⟨x.2.1.2.map Jak,0,1⟩)],x.2.2⟩,107⟩,fun _ _ _ _=>rfl⟩;refine Jp S3 (fun x=>x.1<=s.edges.length/\x.2.1=JdE (m,T) ((s.edges.take x.1).flatMap (tgF n em))/\i∉(s.edges.take x.1).flatMap (tgF n em)/\nx+1<=x.2.2) (fun x=>s.edges.length - x.1) (0,(m,T),nx+1) ?_ ⟨Nat.zero_le _,rfl,by simp,Nat.le_refl _⟩ ?_
 ·rw[hS3];exact Jk (by simp[lk]) (fun _ _ q=>q) (fun p c q=>by first | exact q | (rw[<- q];simp[lk,hNt])) rfl rfl
 rintro⟨q,⟨ms,U⟩,y⟩ ⟨hq,hst,hni,hy⟩;simp only at hq hst hni hy;rw[hS3];refine Jj ?_;have hNx:(N=nx)=False:=by simp;omega
 have hxN:(nx=N)=False:=by simp;omega
 have hmk:=fun(p:List Nat) (hp:∀ a∈p,a<n.states.length)=>Mk1.fold (s:=(m,T)) p (fun a ha=>by rw[show (m,T).1.length=n.states.length from hml];exact hp a ha);rcases Nat.lt_or_ge q s.edges.length with hql | hge
 rotate_left
 ·have e:q=s.edges.length:=by omega
  subst e;rw[List.take_length,<- hrow] at hst hni;have hnext:=hI.next hG hni;rw[<- hst] at hnext;have mk:=hmk (G.getD k []) (fun a ha=>by rw[<- hGL];exact(hG.get (k:=k)).2 a ha);rw[<- hst] at mk;have q1:=mk.cnt;have q2:=mk.le;simp only at q1 q2;simp (disch:=omega) only[Wz,seval,Jh,hs,Jd];exact⟨((ms,U),nx,y),⟨hnext,by simp only;omega,by simp only;omega⟩,by simp only[List.length_append,List.length_singleton];omega,by rw[hS2];exact Jk (by simp[lk]) (fun _ _ q=>q) (fun _ _ q=>q) rfl rfl⟩
 obtain⟨e,he⟩:∃ e,s.edges.getD q default=e:=⟨_,rfl⟩;have hem2:e∈(n.states.getD k default).edges:=by rw[hs,<- he];exact Ju hql
 have hto:=w.to hkL hem2;obtain⟨tn,htn2⟩:∃ tn:Nat,e.to=(tn:Int):=⟨e.to.toNat,by omega⟩;have htl:tn<n.states.length:=by omega
 have hft:=Jrm (n:=n) (em:=em) hql he;have rowlt:∀ a∈(s.edges.take q).flatMap (tgF n em),a<n.states.length:=fun a ha=>by
  obtain⟨u,hu,hv'⟩:=List.mem_flatMap.1 ha;exact Jsj w ok hkL (by rw[hs];exact List.mem_of_mem_take hu) hv'
 have mkq:=hmk _ rowlt;rw[<- hst] at mkq;have msl:ms.length=n.states.length:=by have:=mkq.len;simp only at this;omega
 have mkc:=mkq.cnt;simp only at mkc;have hcl:ms.count false<=n.states.length:=by rw[<- msl];exact List.count_le_length
 have hcl2:m.count false<=n.states.length:=by rw[<- hml];exact List.count_le_length
 have hUl:U.length<=10000000:=by omega
 have hyN:(N=y)=False:=by simp;omega
 have hitk:∀ a,a=i->a∈tgF n em e->v=true:=fun a ea ha=>hit (hI.hit (by rw[hrow];rw[ea] at ha;exact List.mem_flatMap.2 ⟨e,by rw[<- he];exact Ju hql,ha⟩))
 have nxt:∀ p:List Nat,tgF n em e=p->i∉p->∀ ms' U',(ms',U')=JdE (ms,U) p->(ms',U')=JdE (m,T) ((s.edges.take (q+1)).flatMap (tgF n em))/\i∉(s.edges.take (q+1)).flatMap (tgF n em):=fun p hp hip ms' U' h=>by
  rw[hft,JiX,<- hst,hp];exact⟨h,by rw[List.mem_append];rintro(r | r);exact hni r;exact hip r⟩
 by_cases h1:e.op.1=1
 ·have tg:tgF n em e=[]:=by unfold tgF;rw[if_pos h1]
  obtain⟨z1,z2⟩:=nxt [] tg (by simp) ms U rfl;simp (disch:=omega) only[Wz,seval,Jh,Jd,hs,he,Jo,h1];exact⟨(q+1,(ms,U),y+1),⟨by simp only;omega,z1,z2,by simp only;omega⟩,by simp only;omega,by rw[hS3];exact Jk (by simp[lk]) Jkn (fun _ _ q=>q) rfl rfl⟩
 by_cases h2:e.op.1=2;rotate_left
 ·skip
  obtain⟨S4,hS4⟩:∃ S4:Nat × Nat × (List Bool × List Nat)->St,∀ (j a:Nat) (ms':List Bool) (U':List Nat),S4 (j,a,(ms',U'))=⟨[(12,.lit (.int .i64 (j:Int))),(11,.lit (.int .i64 (a:Int))),(10,.ptr y 0),(9,.lit (.int .i64 (q:Int))),(8,.lit (.int .i64 (k:Int))),(7,.own nx U'.length),(6,.own N n.states.length),(5,.lit (.int .i64 (i:Int))),(2,.ptr 0 0),(1,.vec (em.map Jr) false)],⟨[(0,Jh n),(y,Jo e)],[(N,⟨ms'.map Jr,0,1⟩),(nx,⟨U'.map Jak,0,1⟩)],y+1⟩,107⟩:=⟨fun x=>⟨[(12,.lit (.int .i64 (x.1:Int))),(11,.lit (.int .i64 (x.2.1:Int))),(10,.ptr y 0),(9,.lit (.int .i64 (q:Int))),(8,.lit (.int .i64 (k:Int))),(7,.own nx x.2.2.2.length),(6,.own N n.states.length),(5,.lit (.int .i64 (i:Int))),(2,.ptr 0 0),(1,.vec (em.map Jr) false)],⟨[(0,Jh n),(y,Jo e)],[(N,⟨x.2.2.1.map Jr,0,1⟩),(nx,⟨x.2.2.2.map Jak,0,1⟩)],y+1⟩,107⟩,fun _ _ _ _=>rfl⟩;have tg:tgF n em e=[tn]:=by unfold tgF;rw[if_neg h1,if_neg h2,htn2,Int.toNat_natCast]
  simp (disch:=omega) only[Wz,seval,Jh,Jd,hs,he,Jo,htn2,Jc,h1,h2];refine Jp S4 (fun x=>x.1=0/\x.2.1=tn/\x.2.2=(ms,U)) (fun x=>2 - x.1) (0,tn,(ms,U)) ?_ ⟨rfl,rfl,rfl⟩ ?_
  ·rw[hS4];exact Jk (by simp[lk]) (fun p c q=>by rw[<- q];simp[Jh,Jo,htn2]) (fun _ _ q=>q) rfl rfl
  rintro⟨j,a,⟨bm,bU⟩⟩ ⟨e1,e2,e3⟩;simp only at e1 e2 e3;subst e1
  replace e2:=e2.symm
  subst e2;cases e3;have bl:=msl;rw[hS4];refine Jj ?_;by_cases hx:tn=i
  ·have hb:=hitk _ hx (by rw[tg];simp);subst hb;simp (disch:=omega) only[Wz,seval,Jh,hx];exact fin _ _
  have hxi:¬ (tn:Int)=(i:Int):=by omega
  have gt:=JaS (l:=ms) (i:=tn) (by omega);cases hb:ms.getD tn false with
  | true =>
   rw[hb] at gt;have pz:Jbb (ms,U) tn=(ms,U):=by unfold Jbb;simp only[hb];rfl
   simp (disch:=omega) only[Wz,seval,Jh,gt,hNx,hxN,hyN,Jak,Jc,Jo,htn2,h1,h2,bl];obtain⟨z1,z2⟩:=nxt _ tg (by simp;exact fun z=>hx z.symm) ms U (by rw[show JdE (ms,U) [tn]=Jbb (ms,U) tn from rfl];exact pz.symm);exact⟨(q+1,(ms,U),y+1),⟨by simp only;omega,z1,z2,by simp only;omega⟩,by simp only;omega,by rw[hS3];exact Jk (by simp[lk]) Jkn (fun p c q=>by first | exact q | (rw[<- q];simp[Jak,List.map_set,Jr,lk,hNx])) rfl rfl⟩
  | false =>
   rw[hb] at gt;have pz:Jbb (ms,U) tn=((ms.set tn true),(U++[tn])):=by unfold Jbb;simp only[hb];rfl
   have hfit:Ja7 (U.length+1) 8:=JN (by omega) (by omega);simp (disch:=omega) only[Wz,seval,Jh,gt,hNx,hxN,hyN,Jak,Jc,Jo,htn2,h1,h2,bl,hfit,List.mem_singleton,forall_eq,List.length_set];obtain⟨z1,z2⟩:=nxt _ tg (by simp;exact fun z=>hx z.symm) (ms.set tn true) (U++[tn]) (by rw[show JdE (ms,U) [tn]=Jbb (ms,U) tn from rfl];exact pz.symm);exact⟨(q+1,((ms.set tn true),(U++[tn])),y+1),⟨by simp only;omega,z1,z2,by simp only;omega⟩,by simp only;omega,by rw[hS3];exact Jk (by simp[lk]) Jkn (fun p c q=>by first | exact q | (rw[<- q];simp[Jak,List.map_set,Jr,lk,hNx])) rfl rfl⟩
 have hcl3:=w.call hkL hem2 h2;obtain⟨en,hen⟩:∃ en:Nat,e.n=(en:Int):=⟨e.n.toNat,by omega⟩;obtain⟨r,hr⟩:∃ r,n.rules.getD en default=r:=⟨_,rfl⟩;have hsta:=w.start (i:=en) (by omega);rw[hr] at hsta;obtain⟨sn,hsn⟩:∃ sn:Nat,r.start=(sn:Int):=⟨r.start.toNat,by omega⟩;have hsnl:sn<n.states.length:=by omega
 have est:stN n e.n.toNat=sn:=by unfold stN;rw[hen,Int.toNat_natCast,hr,hsn];rfl
 cases hemv:em.getD en false with
 | false =>
  have hemd:em.getD en default=false:=hemv;obtain⟨S4,hS4⟩:∃ S4:Nat × Nat × (List Bool × List Nat)->St,∀ (j a:Nat) (ms':List Bool) (U':List Nat),S4 (j,a,(ms',U'))=⟨[(12,.lit (.int .i64 (j:Int))),(11,.lit (.int .i64 (a:Int))),(10,.ptr y 0),(9,.lit (.int .i64 (q:Int))),(8,.lit (.int .i64 (k:Int))),(7,.own nx U'.length),(6,.own N n.states.length),(5,.lit (.int .i64 (i:Int))),(2,.ptr 0 0),(1,.vec (em.map Jr) false)],⟨[(0,Jh n),(y,Jo e)],[(N,⟨ms'.map Jr,0,1⟩),(nx,⟨U'.map Jak,0,1⟩)],y+1⟩,107⟩:=⟨fun x=>⟨[(12,.lit (.int .i64 (x.1:Int))),(11,.lit (.int .i64 (x.2.1:Int))),(10,.ptr y 0),(9,.lit (.int .i64 (q:Int))),(8,.lit (.int .i64 (k:Int))),(7,.own nx x.2.2.2.length),(6,.own N n.states.length),(5,.lit (.int .i64 (i:Int))),(2,.ptr 0 0),(1,.vec (em.map Jr) false)],⟨[(0,Jh n),(y,Jo e)],[(N,⟨x.2.2.1.map Jr,0,1⟩),(nx,⟨x.2.2.2.map Jak,0,1⟩)],y+1⟩,107⟩,fun _ _ _ _=>rfl⟩;have tg:tgF n em e=[sn]:=by unfold tgF;rw[if_neg (by omega),if_pos h2,est,hen,Int.toNat_natCast,hemv];rfl
  simp (disch:=omega) only[Wz,seval,Jh,Jd,hs,he,Jo,htn2,Jc,h2,hen,hr,hsn,hemd,Jr];refine Jp S4 (fun x=>x.1=0/\x.2.1=sn/\x.2.2=(ms,U)) (fun x=>2 - x.1) (0,sn,(ms,U)) ?_ ⟨rfl,rfl,rfl⟩ ?_
  ·rw[hS4];exact Jk (by simp[lk]) (fun p c q=>by rw[<- q];simp[Jh,Jo,h2,hen,htn2]) (fun _ _ q=>q) rfl rfl
  rintro⟨j,a,⟨bm,bU⟩⟩ ⟨e1,e2,e3⟩;simp only at e1 e2 e3;subst e1
  replace e2:=e2.symm
  subst e2;cases e3;have bl:=msl;rw[hS4];refine Jj ?_;by_cases hx:sn=i
  ·have hb:=hitk _ hx (by rw[tg];simp);subst hb;simp (disch:=omega) only[Wz,seval,Jh,hx];exact fin _ _
  have hxi:¬ (sn:Int)=(i:Int):=by omega
  have gt:=JaS (l:=ms) (i:=sn) (by omega);cases hb:ms.getD sn false with
  | true =>
   rw[hb] at gt;have pz:Jbb (ms,U) sn=(ms,U):=by unfold Jbb;simp only[hb];rfl
   simp (disch:=omega) only[Wz,seval,Jh,gt,hNx,hxN,hyN,Jak,Jc,Jo,htn2,h2,hen,hr,hsn,hemd,Jr,bl];obtain⟨z1,z2⟩:=nxt _ tg (by simp;exact fun z=>hx z.symm) ms U (by rw[show JdE (ms,U) [sn]=Jbb (ms,U) sn from rfl];exact pz.symm);exact⟨(q+1,(ms,U),y+1),⟨by simp only;omega,z1,z2,by simp only;omega⟩,by simp only;omega,by rw[hS3];exact Jk (by simp[lk]) Jkn (fun p c q=>by first | exact q | (rw[<- q];simp[Jak,List.map_set,Jr,lk,hNx])) rfl rfl⟩
  | false =>
   rw[hb] at gt;have pz:Jbb (ms,U) sn=((ms.set sn true),(U++[sn])):=by unfold Jbb;simp only[hb];rfl
   have hfit:Ja7 (U.length+1) 8:=JN (by omega) (by omega);simp (disch:=omega) only[Wz,seval,Jh,gt,hNx,hxN,hyN,Jak,Jc,Jo,htn2,h2,hen,hr,hsn,hemd,Jr,bl,hfit,List.mem_singleton,forall_eq,List.length_set];obtain⟨z1,z2⟩:=nxt _ tg (by simp;exact fun z=>hx z.symm) (ms.set sn true) (U++[sn]) (by rw[show JdE (ms,U) [sn]=Jbb (ms,U) sn from rfl];exact pz.symm);exact⟨(q+1,((ms.set sn true),(U++[sn])),y+1),⟨by simp only;omega,z1,z2,by simp only;omega⟩,by simp only;omega,by rw[hS3];exact Jk (by simp[lk]) Jkn (fun p c q=>by first | exact q | (rw[<- q];simp[Jak,List.map_set,Jr,lk,hNx])) rfl rfl⟩
 | true =>
  have hemd:em.getD en default=true:=hemv;obtain⟨S4,hS4⟩:∃ S4:Nat × Nat × (List Bool × List Nat)->St,∀ (j a:Nat) (ms':List Bool) (U':List Nat),S4 (j,a,(ms',U'))=⟨[(12,.lit (.int .i64 (j:Int))),(11,.lit (.int .i64 (a:Int))),(10,.ptr y 0),(9,.lit (.int .i64 (q:Int))),(8,.lit (.int .i64 (k:Int))),(7,.own nx U'.length),(6,.own N n.states.length),(5,.lit (.int .i64 (i:Int))),(2,.ptr 0 0),(1,.vec (em.map Jr) false)],⟨[(0,Jh n),(y,Jo e)],[(N,⟨ms'.map Jr,0,1⟩),(nx,⟨U'.map Jak,0,1⟩)],y+1⟩,107⟩:=⟨fun x=>⟨[(12,.lit (.int .i64 (x.1:Int))),(11,.lit (.int .i64 (x.2.1:Int))),(10,.ptr y 0),(9,.lit (.int .i64 (q:Int))),(8,.lit (.int .i64 (k:Int))),(7,.own nx x.2.2.2.length),(6,.own N n.states.length),(5,.lit (.int .i64 (i:Int))),(2,.ptr 0 0),(1,.vec (em.map Jr) false)],⟨[(0,Jh n),(y,Jo e)],[(N,⟨x.2.2.1.map Jr,0,1⟩),(nx,⟨x.2.2.2.map Jak,0,1⟩)],y+1⟩,107⟩,fun _ _ _ _=>rfl⟩;have tg:tgF n em e=[sn,tn]:=by unfold tgF;rw[if_neg (by omega),if_pos h2,est,hen,Int.toNat_natCast,hemv,if_pos rfl,htn2,Int.toNat_natCast]
  simp (disch:=omega) only[Wz,seval,Jh,Jd,hs,he,Jo,htn2,Jc,h2,hen,hr,hsn,hemd,Jr];refine Jp S4 (fun x=>(x.1=0/\x.2.1=sn/\x.2.2=(ms,U))\/(x.1=1/\x.2.1=tn/\x.2.2=JdE (ms,U) [sn]/\i≠sn)\/(x.1=2/\x.2.2=JdE (ms,U) [sn,tn]/\i∉[sn,tn])) (fun x=>2 - x.1) (0,sn,(ms,U)) ?_ (.inl ⟨rfl,rfl,rfl⟩) ?_
  ·rw[hS4];exact Jk (by simp[lk]) (fun p c q=>by rw[<- q];simp[Jh,Jo,h2,hen,htn2]) (fun _ _ q=>q) rfl rfl
  rintro⟨j,a,⟨bm,bU⟩⟩ (⟨e1,e2,e3⟩ | ⟨e1,e2,e3,hn0⟩ | ⟨e1,e3,hn0⟩)
  ·simp only at e1 e2 e3;subst e1
   replace e2:=e2.symm
   subst e2;cases e3;have bl:=msl;rw[hS4];refine Jj ?_;by_cases hx:sn=i
   ·have hb:=hitk _ hx (by rw[tg];simp);subst hb;simp (disch:=omega) only[Wz,seval,Jh,hx];exact fin _ _
   have hxi:¬ (sn:Int)=(i:Int):=by omega
   have gt:=JaS (l:=ms) (i:=sn) (by omega);cases hb:ms.getD sn false with
   | true =>
    rw[hb] at gt;have pz:Jbb (ms,U) sn=(ms,U):=by unfold Jbb;simp only[hb];rfl
    simp (disch:=omega) only[Wz,seval,Jh,gt,hNx,hxN,hyN,Jak,Jc,Jo,htn2,h2,hen,hr,hsn,hemd,Jr,bl];refine⟨(1,tn,(ms,U)),?_,by simp only;omega,by rw[hS4];exact Jk (by simp[lk]) (fun p c q=>by rw[<- q];simp[Jh,Jo,h2,hen,htn2]) (fun p c q=>by first | exact q | (rw[<- q];simp[Jak,List.map_set,Jr,lk,hNx])) rfl rfl⟩;exact .inr (.inl ⟨rfl,rfl,pz.symm,fun z=>hx z.symm⟩)
   | false =>
    rw[hb] at gt;have pz:Jbb (ms,U) sn=((ms.set sn true),(U++[sn])):=by unfold Jbb;simp only[hb];rfl
    have hfit:Ja7 (U.length+1) 8:=JN (by omega) (by omega);simp (disch:=omega) only[Wz,seval,Jh,gt,hNx,hxN,hyN,Jak,Jc,Jo,htn2,h2,hen,hr,hsn,hemd,Jr,bl,hfit,List.mem_singleton,forall_eq,List.length_set];refine⟨(1,tn,((ms.set sn true),(U++[sn]))),?_,by simp only;omega,by rw[hS4];exact Jk (by simp[lk]) (fun p c q=>by rw[<- q];simp[Jh,Jo,h2,hen,htn2]) (fun p c q=>by first | exact q | (rw[<- q];simp[Jak,List.map_set,Jr,lk,hNx])) rfl rfl⟩;exact .inr (.inl ⟨rfl,rfl,pz.symm,fun z=>hx z.symm⟩)
  ·simp only at e1 e2 e3;subst e1
   replace e2:=e2.symm
   subst e2;have mk2:=Mk1.fold (s:=(ms,U)) [sn] (fun a ha=>by simp only[List.mem_singleton] at ha;rw[ha,show (ms,U).1.length=n.states.length from msl];omega);rw[<- e3] at mk2;have bl:bm.length=n.states.length:=by have:=mk2.len;simp only at this;omega
   have mc2:=mk2.cnt;simp only at mc2;have hbU:bU.length<=20000000:=by omega
   rw[hS4];refine Jj ?_;by_cases hx:tn=i
   ·have hb:=hitk _ hx (by rw[tg];simp);subst hb;simp (disch:=omega) only[Wz,seval,Jh,hx];exact fin _ _
   have hxi:¬ (tn:Int)=(i:Int):=by omega
   have gt:=JaS (l:=bm) (i:=tn) (by omega);cases hb:bm.getD tn false with
   | true =>
    rw[hb] at gt;have pz:Jbb (bm,bU) tn=(bm,bU):=by unfold Jbb;simp only[hb];rfl
    simp (disch:=omega) only[Wz,seval,Jh,gt,hNx,hxN,hyN,Jak,Jc,Jo,htn2,h2,hen,hr,hsn,hemd,Jr,bl];refine⟨(2,tn,(bm,bU)),?_,by simp only;omega,by rw[hS4];exact Jk (by simp[lk]) (fun p c q=>by rw[<- q];simp[Jh,Jo,h2,hen,htn2]) (fun p c q=>by first | exact q | (rw[<- q];simp[Jak,List.map_set,Jr,lk,hNx])) rfl rfl⟩;exact .inr (.inr ⟨rfl,by rw[show JdE (ms,U) [sn,tn]=Jbb (JdE (ms,U) [sn]) tn from rfl,<- e3];exact pz.symm,by simp;exact⟨hn0,fun z=>hx z.symm⟩⟩)
   | false =>
    rw[hb] at gt;have pz:Jbb (bm,bU) tn=((bm.set tn true),(bU++[tn])):=by unfold Jbb;simp only[hb];rfl
    have hfit:Ja7 (bU.length+1) 8:=JN (by omega) (by omega);simp (disch:=omega) only[Wz,seval,Jh,gt,hNx,hxN,hyN,Jak,Jc,Jo,htn2,h2,hen,hr,hsn,hemd,Jr,bl,hfit,List.mem_singleton,forall_eq,List.length_set];refine⟨(2,tn,((bm.set tn true),(bU++[tn]))),?_,by simp only;omega,by rw[hS4];exact Jk (by simp[lk]) (fun p c q=>by rw[<- q];simp[Jh,Jo,h2,hen,htn2]) (fun p c q=>by first | exact q | (rw[<- q];simp[Jak,List.map_set,Jr,lk,hNx])) rfl rfl⟩;exact .inr (.inr ⟨rfl,by rw[show JdE (ms,U) [sn,tn]=Jbb (JdE (ms,U) [sn]) tn from rfl,<- e3];exact pz.symm,by simp;exact⟨hn0,fun z=>hx z.symm⟩⟩)
  ·simp only at e1 e3;subst e1;obtain⟨z1,z2⟩:=nxt _ tg hn0 bm bU e3;rw[hS4];refine Jj ?_;simp (disch:=omega) only[Wz,seval,Jh];exact⟨(q+1,(bm,bU),y+1),⟨by simp only;omega,z1,z2,by simp only;omega⟩,by simp only;omega,by rw[hS3];exact Jk (by simp[lk]) Jkn (fun _ _ q=>q) rfl rfl⟩
end Go.Proofs.Y
end
section
namespace Go.Proofs.Y
open Go Go.Ab
def tgC (e:Ed):List Nat:=if e.op.1=2 then [e.n.toNat] else []
def JeA (n:Nt)(r s k:Nat):List Nat:=(List.range s).flatMap (fun j=>if (n.states.getD j default).rule=(r:Int) then (n.states.getD j default).edges.flatMap tgC else [])++(if (n.states.getD s default).rule=(r:Int) then ((n.states.getD s default).edges.take k).flatMap tgC else [])
def rwC (n:Nt)(r:Nat):List Nat:=(List.range n.states.length).flatMap fun j=>if (n.states.getD j default).rule=(r:Int) then (n.states.getD j default).edges.flatMap tgC else []
def gC' (n:Nt):List (List Nat):=(List.range n.rules.length).map (rwC n)
theorem Jko{n:Nt}{r:Nat}:JeA n r 0 0=[]:=by unfold JeA;simp
theorem Jme{n:Nt}{r:Nat}:JeA n r n.states.length 0=rwC n r:=by unfold JeA rwC;simp
theorem JpN{n:Nt}{r s:Nat}(h:(n.states.getD s default).rule≠(r:Int)):JeA n r (s+1) 0=JeA n r s 0:=by
 unfold JeA;simp only[List.range_succ,List.flatMap_append,List.flatMap_cons,List.flatMap_nil,List.take_zero,ite_self,List.append_nil,if_neg h]
theorem Jrn{n:Nt}{r s:Nat}(h:(n.states.getD s default).rule=(r:Int)):JeA n r (s+1) 0=JeA n r s (n.states.getD s default).edges.length:=by
 unfold JeA;simp only[List.range_succ,List.flatMap_append,List.flatMap_cons,List.flatMap_nil,List.take_zero,ite_self,List.append_nil,if_pos h,List.take_length]
theorem JpO{n:Nt}{r s q:Nat}{e:Ed}(h:(n.states.getD s default).rule=(r:Int))(hq:q<(n.states.getD s default).edges.length)(he:(n.states.getD s default).edges.getD q default=e):JeA n r s (q+1)=JeA n r s q++tgC e:=by
 unfold JeA;rw[if_pos h,if_pos h,List.take_add_one,JfS hq,Option.toList_some,List.flatMap_append,he,List.append_assoc];simp
theorem JiY{n:Nt}{r:Nat}(h:r<n.rules.length):(gC' n).getD r []=rwC n r:=by
 unfold gC';rw[List.getD_eq_getElem?_getD,List.getElem?_map,List.getElem?_range h];rfl
theorem JiZ{n:Nt}:(gC' n).length=n.rules.length:=by simp[gC']
theorem JtH{n:Nt}{r:Nat}(h:¬ r<n.rules.length):(gC' n).getD r []=[]:=by
 unfold gC';rw[List.getD_eq_getElem?_getD,List.getElem?_map,List.getElem?_eq_none (by simpa using h)];rfl
theorem Ji0{n:Nt}{r v:Nat}:v∈rwC n r↔∃ s e,s<n.states.length/\(n.states.getD s default).rule=(r:Int)/\e∈(n.states.getD s default).edges/\e.op.1=2/\v=e.n.toNat:=by
 unfold rwC;constructor
 ·intro h;obtain⟨s,hs,hv⟩:=List.mem_flatMap.1 h;split at hv
  ·rename_i hr;obtain⟨e,he,hv⟩:=List.mem_flatMap.1 hv;unfold tgC at hv;split at hv
   ·rename_i h2;exact⟨s,e,List.mem_range.1 hs,hr,he,h2,by simpa using hv⟩
   ·cases hv
  ·cases hv
 ·rintro⟨s,e,hs,hr,he,h2,rfl⟩;refine List.mem_flatMap.2 ⟨s,List.mem_range.2 hs,?_⟩;rw[if_pos hr];refine List.mem_flatMap.2 ⟨e,he,?_⟩;unfold tgC;rw[if_pos h2];simp
theorem Jro{n:Nt}{r s k v:Nat}(hs:s<n.states.length)(hk:k<=(n.states.getD s default).edges.length)(h:v∈JeA n r s k):v∈JeA n r n.states.length 0:=by
 rw[Jme];unfold JeA at h;unfold rwC;rcases List.mem_append.1 h with h | h
 ·obtain⟨j,hj,hv⟩:=List.mem_flatMap.1 h;exact List.mem_flatMap.2 ⟨j,List.mem_range.2 (Nat.lt_trans (List.mem_range.1 hj) hs),hv⟩
 ·refine List.mem_flatMap.2 ⟨s,List.mem_range.2 hs,?_⟩;split at h
  ·rename_i hr;rw[if_pos hr];obtain⟨e,he,hv⟩:=List.mem_flatMap.1 h;exact List.mem_flatMap.2 ⟨e,List.mem_of_mem_take he,hv⟩
  ·cases h
section
variable {n:Nt} (w:Wf n) (ok:JcL n)
include w ok
theorem Jze{r v:Nat}(h:v∈rwC n r):v<n.rules.length:=by
 have _:=ok;obtain⟨s,e,hs,_,he,h2,rfl⟩:=Ji0.1 h;have:=w.call hs he h2;omega
theorem JtI{r s k v:Nat}(hs:s<=n.states.length)(hs2:s<n.states.length\/k=0)(h:v∈JeA n r s k):v<n.rules.length:=by
 have _:=ok;have one:∀ j,j<n.states.length->∀ e∈(n.states.getD j default).edges,v∈tgC e->v<n.rules.length:=fun j hj e he hv=>by
  unfold tgC at hv;split at hv
  ·rename_i h2;have:=w.call hj he h2;simp only[List.mem_singleton] at hv;omega
  ·cases hv
 unfold JeA at h;rcases List.mem_append.1 h with h | h
 ·obtain⟨j,hj,hv⟩:=List.mem_flatMap.1 h;split at hv
  ·obtain⟨e,he,hv⟩:=List.mem_flatMap.1 hv;exact one j (by have:=List.mem_range.1 hj;omega) e he hv
  ·cases hv
 ·split at h
  ·obtain⟨e,he,hv⟩:=List.mem_flatMap.1 h;rcases hs2 with q | q
   ·exact one s q e (List.mem_of_mem_take he) hv
   ·subst q;simp at he
  ·cases h
theorem Jsl:GOk (gC' n):=by
 refine⟨by rw[JiZ];have:=w.nru;omega,fun l hl=>?_,fun l hl j hj=>?_⟩
 ·obtain⟨r,hr,rfl⟩:=List.mem_map.1 hl;have h1:=JbL (f:=fun j=>if (n.states.getD j default).rule=(r:Int) then (n.states.getD j default).edges.flatMap tgC else []) (c:=1000000000) (l:=List.range n.states.length) (fun j _=>by
   split
   ·have h2:=JbL (f:=tgC) (c:=1) (l:=(n.states.getD j default).edges) (fun e _=>by unfold tgC;split <;> simp)
    have h3:=ok.edgesD j;omega
   ·simp)
  have h2:=w.nst;rw[List.length_range] at h1;unfold rwC;omega
 ·obtain⟨r,hr,rfl⟩:=List.mem_map.1 hl;rw[JiZ];exact Jze w ok hj
theorem Ji1{r v:Nat}:v∈(gC n).getD r []↔r<n.rules.length/\v∈rwC n r/\(n.rules.getD v default).lexer=true:=by
 have hb:=Jk6 w ok (i:=n.states.length) (k:=0) (.inr ⟨rfl,rfl⟩);unfold gC;rw[Jeu fun p hp=>(hb.1 p hp).1];constructor
 ·intro h;have h0:=(hb.1 _ h).1;obtain⟨s,e,hs,he,hp⟩:=JdT w ok (.inr ⟨rfl,rfl⟩) h;unfold prC at hp;split at hp
  ·rename_i h2;simp only[List.mem_singleton,Prod.mk.injEq] at hp;obtain⟨rfl,rfl⟩:=hp;have:=w.st s hs;exact⟨h0,Ji0.2 ⟨s,e,hs,by omega,he,h2.1,rfl⟩,h2.2⟩
  ·cases hp
 ·rintro⟨h0,h1,h3⟩;obtain⟨s,e,hs,hr,he,h2,rfl⟩:=Ji0.1 h1;refine Jd8 _ n hs he ?_;unfold prC;rw[if_pos ⟨h2,h3⟩,hr];simp
theorem JpP{r v:Nat}(h:v∈rwC n r):(n.rules.getD v default).lexer=(n.rules.getD r default).lexer:=by
 have _:=ok;obtain⟨s,e,hs,hr,he,h2,rfl⟩:=Ji0.1 h;have hk:=(w.ed s hs e he).2.2.1;unfold JM at hk;rw[if_neg (by omega),if_neg (by omega),if_pos h2,hr] at hk;unfold kd2 at hk;simp only[Bool.and_eq_true,beq_iff_eq,Int.toNat_natCast] at hk;exact hk.2.1
theorem JpQ:JcM (gC n)=true↔∃ i,i<n.rules.length/\(n.rules.getD i default).lexer=true/\Rch (gC' n) i i:=by
 have a1:=Jmd (JyI w ok);have up:∀ i j,Rch (gC n) i j->Rch (gC' n) i j/\(n.rules.getD j default).lexer=true:=fun i j h=>by
  induction h with
  | one q=>obtain⟨q1,q2,q3⟩:=(Ji1 w ok).1 q;exact⟨.one (by rw[JiY q1];exact q2),q3⟩
  | step _ q ih=>obtain⟨q1,q2,q3⟩:=(Ji1 w ok).1 q;exact⟨.step ih.1 (by rw[JiY q1];exact q2),q3⟩
 have inrow:∀ s v,v∈(gC' n).getD s []->s<n.rules.length/\v∈rwC n s:=fun s v h=>by
  by_cases hs:s<n.rules.length
  ·rw[JiY hs] at h;exact⟨hs,h⟩
  ·rw[JtH hs] at h;cases h
 have dn:∀ i j,(n.rules.getD i default).lexer=true->Rch (gC' n) i j->Rch (gC n) i j/\(n.rules.getD j default).lexer=true:=fun i j hl h=>by
  induction h with
  | one q =>
   obtain⟨q1,q2⟩:=inrow _ _ q;have:=JpP w ok q2;exact⟨.one ((Ji1 w ok).2 ⟨q1,q2,by rw[this];exact hl⟩),by rw[this];exact hl⟩
  | step _ q ih =>
   obtain⟨q1,q2⟩:=inrow _ _ q;have:=JpP w ok q2;exact⟨.step ih.1 ((Ji1 w ok).2 ⟨q1,q2,by rw[this];exact ih.2⟩),by rw[this];exact ih.2⟩
 constructor
 ·intro h;have na:¬ Jnx (gC n):=fun q=>by rw[Jco q] at h;cases h
  rw[a1] at na;have:∃ i,Rch (gC n) i i:=by
   by_cases c:∃ i,Rch (gC n) i i
   ·exact c
   ·exact absurd (fun i q=>c ⟨i,q⟩) na
  obtain⟨i,hi⟩:=this;have hi':=up i i hi;exact⟨i,by have:=hi'.1.lt (Jsl w ok);rwa [JiZ] at this,hi'.2,hi'.1⟩
 ·rintro⟨i,_,hl,hi⟩;exact Jd7 fun q=>a1.1 q i (dn i i hl hi).1
end
theorem Jls(n:Nt)(w:Wf n)(ok:JcL n)(v:Bool)(hv:v=true↔∃ i,i<n.rules.length/\(n.rules.getD i default).lexer=true/\Rch (gC' n) i i) :
  JR Tryz.prog 32 [.agg (Jh n)] (.lit (.bool v)):=by
 have hst:=w.nst;have hru:=w.nru;have fin:∀ h (b:Bool),JcV h (.lit (.bool b)) (.lit (.bool b)):=fun h b=>Ja (.lit _);have hG:=Jsl w ok;have hGL:=JiZ (n:=n);obtain⟨G,hGG⟩:∃ G,gC' n=G:=⟨_,rfl⟩;rw[hGG] at hG hGL hv;refine JG (Jq Tryz.func32 rfl Tryz.ntmps32 (rs:=[.tmp 2]) rfl (by simp) ?_);obtain⟨S1,hS1⟩:∃ S1:Nat × Nat->St,∀ i N,S1 (i,N)=⟨[(3,.lit (.int .i64 (i:Int))),(1,.ptr 0 0)],⟨[(0,Jh n)],[],N⟩,101⟩:=⟨fun x=>⟨[(3,.lit (.int .i64 (x.1:Int))),(1,.ptr 0 0)],⟨[(0,Jh n)],[],x.2⟩,101⟩,fun _ _=>rfl⟩;refine Jj ?_;simp (disch:=omega) only[Wz,seval,Jh];refine Jp S1 (fun x=>x.1<=n.rules.length/\1<=x.2/\∀ j,j<x.1->(n.rules.getD j default).lexer=true->¬ Rch G j j) (fun x=>n.rules.length - x.1) (0,1) ?_ ⟨Nat.zero_le _,Nat.le_refl _,fun j q=>absurd q (Nat.not_lt_zero _)⟩ ?_
 ·rw[hS1];exact Jk (by simp[lk]) (fun _ _ q=>q) (fun _ _ q=>q) rfl rfl
 rintro⟨i,N⟩ ⟨hi,hN,hno⟩;simp only at hi hN hno;rw[hS1];rcases Nat.lt_or_ge i n.rules.length with hlt | hge
 rotate_left
 ·have e:i=n.rules.length:=by omega
  subst e;have hb:v=false:=by
   cases v with
   | false=>rfl
   | true=>obtain⟨j,h1,h2,h3⟩:=hv.1 rfl;exact absurd h3 (hno j h1 h2)
  subst hb;refine Jj ?_;simp (disch:=omega) only[Wz,seval,Jh];exact fin _ _
 obtain⟨lr,hlr⟩:∃ lr,n.rules.getD i default=lr:=⟨_,rfl⟩;cases hlx:lr.lexer with
 | false =>
  refine Jj ?_;simp (disch:=omega) only[Wz,seval,Jh,hlr,Jc,hlx];exact⟨(i+1,N),⟨by simp only;omega,hN,JfX hno fun q=>by rw[hlr,hlx] at q;cases q⟩,by simp only;omega,by rw[hS1];exact Jk (by simp[lk]) (fun _ _ q=>q) (fun _ _ q=>q) rfl rfl⟩
 | true =>
 have hit:Rch G i i->v=true:=fun q=>hv.2 ⟨i,hlt,by rw[hlr];exact hlx,q⟩
 refine Jm ?_;refine Jj ?_;simp (disch:=omega) only[Wz,seval,Jh];refine Jm ?_;refine JX ?_;refine Jm ?_;refine Jj ?_;simp (disch:=omega) only[Wz,seval,Jh,hlr,Jc,hlx];refine Jm ?_;refine Jj ?_;simp (disch:=omega) only[Wz,seval,Jh];refine Jm ?_;refine Jc0 ?_;simp (disch:=omega) only[Wz,seval,JlE];refine JcZ (ps:=[(0,.lit (.int .i64 (i:Int)))]) (z:=[.lit (.int .i64 0)]) (rows:=[Jak i]) JrK rfl ty3 rfl ⟨rfl,by decide⟩ (by decide) rfl rfl ?_;simp (disch:=omega) only[Wz,seval,JlE];refine Jj ?_;simp (disch:=omega) only[Wz,seval];obtain⟨S2,hS2⟩:∃ S2:(List Bool × List Nat) × Nat × Nat->St,∀ m T t nx,S2 ((m,T),t,nx)=⟨[(5,.own t T.length),(4,.own N n.rules.length),(3,.lit (.int .i64 (i:Int))),(1,.ptr 0 0)],⟨[(0,Jh n)],[(N,⟨m.map Jr,0,1⟩),(t,⟨T.map Jak,0,1⟩)],nx⟩,101⟩:=⟨fun x=>⟨[(5,.own x.2.1 x.1.2.length),(4,.own N n.rules.length),(3,.lit (.int .i64 (i:Int))),(1,.ptr 0 0)],⟨[(0,Jh n)],[(N,⟨x.1.1.map Jr,0,1⟩),(x.2.1,⟨x.1.2.map Jak,0,1⟩)],x.2.2⟩,101⟩,fun _ _ _ _=>rfl⟩;refine Jp S2 (fun x=>RgD G i x.1/\N<x.2.1/\x.2.1<x.2.2) (fun x=>2 * x.1.1.count false+x.1.2.length) ((List.replicate n.rules.length false,[i]),N+1,N+2) ?_ ⟨by have:=RgD.init (G:=G) (i:=i) (by omega);rwa [hGL] at this,by simp only;omega,by simp only;omega⟩ ?_
 ·rw[hS2];exact Jk (by simp[lk]) (fun _ _ q=>q) (fun p c q=>by first | exact q | (rw[<- q];simp[List.map_replicate,Jr])) rfl rfl
 rintro⟨⟨m,todo⟩,t,nx⟩ ⟨hI,htN,htn⟩;simp only at htN htn hI;rw[hS2];refine Jj ?_;have hml:m.length=n.rules.length:=by rw[<- hGL];exact hI.fr.len
 rcases List.eq_nil_or_concat todo with rfl | ⟨T,k,rfl⟩
 ·have nr:=hI.last hG;simp (disch:=omega) only[Wz,seval];refine Jj ?_;simp (disch:=omega) only[Wz,seval];exact⟨(i+1,nx),⟨by simp only;omega,by simp only;omega,JfX hno fun _=>nr⟩,by simp only;omega,by rw[hS1];exact Jk (by simp[lk]) (fun _ _ q=>q) (fun _ _ q=>by cases q) rfl rfl⟩
 simp only[List.concat_eq_append] at hI ⊢;have hNt:(N=t)=False:=by simp;omega
 have htN':(t=N)=False:=by simp;omega
 have hk:=(hI.fr.todo k (by simp)).1;have hc:=hI.fr.cnt;simp only[List.length_append,List.length_singleton] at hc;have g1:((T.map Jak)++[[AV.lit (.int .i64 (k:Int))]])[T.length]? = some [AV.lit (.int .i64 (k:Int))]:=by rw[List.getElem?_append_right (by simp)];simp
 have i1:(((T.length+1:Nat):Int) - 1).toNat=T.length:=by omega
 simp (disch:=omega) only[Wz,seval,hNt,htN',List.map_append,List.length_append,List.length_singleton,g1,i1,Jak];refine JcX (k:=⟨T.map Jak++[[AV.lit (.int .i64 (k:Int))]],0,1⟩) rfl rfl JrK rfl ty3 rfl (by simp[lk,hNt]) (by simp) (by omega) (by omega) (by simp) ?_;have tk1:(T.map Jak++[[AV.lit (.int .i64 (k:Int))]]).take T.length=T.map Jak:=by rw[List.take_append_of_le_length (by simp),List.take_of_length_le (by simp)]
 have hkL:k<n.rules.length:=by omega
 have hrow:G.getD k []=JeA n k n.states.length 0:=by rw[<- hGG,JiY hkL];exact Jme.symm
 simp (disch:=omega) only[Wz,seval,Hp.cut,dl,hNt,i1,tk1];have hmk:=fun(p:List Nat) (hp:∀ a∈p,a<n.rules.length)=>Mk1.fold (s:=(m,T)) p (fun a ha=>by rw[show (m,T).1.length=n.rules.length from hml];exact hp a ha);have hcl2:m.count false<=n.rules.length:=by rw[<- hml];exact List.count_le_length
 obtain⟨S3,hS3⟩:∃ S3:Nat × (List Bool × List Nat) × Nat->St,∀ q ms U y,S3 (q,(ms,U),y)=⟨[(7,.lit (.int .i64 (q:Int))),(6,.lit (.int .i64 (k:Int))),(5,.own nx U.length),(4,.own N n.rules.length),(3,.lit (.int .i64 (i:Int))),(1,.ptr 0 0)],⟨[(0,Jh n)],[(N,⟨ms.map Jr,0,1⟩),(nx,⟨U.map Jak,0,1⟩)],y⟩,101⟩:=⟨fun x=>⟨[(7,.lit (.int .i64 (x.1:Int))),(6,.lit (.int .i64 (k:Int))),(5,.own nx x.2.1.2.length),(4,.own N n.rules.length),(3,.lit (.int .i64 (i:Int))),(1,.ptr 0 0)],⟨[(0,Jh n)],[(N,⟨x.2.1.1.map Jr,0,1⟩),(nx,⟨x.2.1.2.map Jak,0,1⟩)],x.2.2⟩,101⟩,fun _ _ _ _=>rfl⟩;refine Jp S3 (fun x=>x.1<=n.states.length/\x.2.1=JdE (m,T) (JeA n k x.1 0)/\i∉JeA n k x.1 0/\nx+1<=x.2.2) (fun x=>n.states.length - x.1) (0,(m,T),nx+1) ?_ ⟨Nat.zero_le _,by rw[Jko];rfl,by rw[Jko];simp,Nat.le_refl _⟩ ?_
 ·rw[hS3];exact Jk (by simp[lk]) (fun _ _ q=>q) (fun p c q=>by first | exact q | (rw[<- q];simp[lk,hNt])) rfl rfl
 rintro⟨s,⟨ms,U⟩,y⟩ ⟨hsL,hst,hni,hy⟩;simp only at hsL hst hni hy;rw[hS3];refine Jj ?_;have hNx:(N=nx)=False:=by simp;omega
 have hxN:(nx=N)=False:=by simp;omega
 rcases Nat.lt_or_ge s n.states.length with hsl | hge;rotate_left
 ·have e:s=n.states.length:=by omega
  subst e;rw[<- hrow] at hst hni;have hnext:=hI.next hG hni;rw[<- hst] at hnext;have mk:=hmk (G.getD k []) (fun a ha=>by rw[<- hGL];exact(hG.get (k:=k)).2 a ha);rw[<- hst] at mk;have q1:=mk.cnt;have q2:=mk.le;simp only at q1 q2;simp (disch:=omega) only[Wz,seval,Jh];exact⟨((ms,U),nx,y),⟨hnext,by simp only;omega,by simp only;omega⟩,by simp only[List.length_append,List.length_singleton];omega,by rw[hS2];exact Jk (by simp[lk]) (fun _ _ q=>q) (fun _ _ q=>q) rfl rfl⟩
 obtain⟨x,hx⟩:∃ x,n.states.getD s default=x:=⟨_,rfl⟩;have hxe:=(ok.edges x (by rw[<- hx];exact Ju hsl)).1;have hxr:=w.st s hsl;rw[hx] at hxr;obtain⟨xr,hxr2⟩:∃ xr:Nat,x.rule=(xr:Int):=⟨x.rule.toNat,by omega⟩;by_cases hxk:¬ xr=k
 ·have pe:JeA n k (s+1) 0=JeA n k s 0:=JpN (by rw[hx,hxr2];omega);have hne:¬ (xr:Int)=(k:Int):=by omega
  simp (disch:=omega) only[Wz,seval,Jh,hx,Jd,hxr2];exact⟨(s+1,(ms,U),y),⟨by simp only;omega,by rw[pe];exact hst,by rw[pe];exact hni,hy⟩,by simp only;omega,by rw[hS3];exact Jk (by simp[lk]) (fun _ _ q=>q) (fun _ _ q=>q) rfl rfl⟩
 have hxk:xr=k:=by omega
 subst hxk;have hxx:(n.states.getD s default).rule=(xr:Int):=by rw[hx,hxr2]
 simp (disch:=omega) only[Wz,seval,Jh,hx,Jd,hxr2];obtain⟨S4,hS4⟩:∃ S4:Nat × (List Bool × List Nat) × Nat->St,∀ q ms U y,S4 (q,(ms,U),y)=⟨[(8,.lit (.int .i64 (q:Int))),(7,.lit (.int .i64 (s:Int))),(6,.lit (.int .i64 (xr:Int))),(5,.own nx U.length),(4,.own N n.rules.length),(3,.lit (.int .i64 (i:Int))),(1,.ptr 0 0)],⟨[(0,Jh n)],[(N,⟨ms.map Jr,0,1⟩),(nx,⟨U.map Jak,0,1⟩)],y⟩,101⟩:=⟨fun x=>⟨[(8,.lit (.int .i64 (x.1:Int))),(7,.lit (.int .i64 (s:Int))),(6,.lit (.int .i64 (xr:Int))),(5,.own nx x.2.1.2.length),(4,.own N n.rules.length),(3,.lit (.int .i64 (i:Int))),(1,.ptr 0 0)],⟨[(0,Jh n)],[(N,⟨x.2.1.1.map Jr,0,1⟩),(nx,⟨x.2.1.2.map Jak,0,1⟩)],x.2.2⟩,101⟩,fun _ _ _ _=>rfl⟩;refine Jp S4 (fun z=>z.1<=x.edges.length/\z.2.1=JdE (m,T) (JeA n xr s z.1)/\i∉JeA n xr s z.1/\nx+1<=z.2.2) (fun z=>x.edges.length - z.1) (0,(ms,U),y) ?_ ⟨Nat.zero_le _,hst,hni,hy⟩ ?_
 ·rw[hS4];exact Jk (by simp[lk]) (fun _ _ q=>q) (fun _ _ q=>q) rfl rfl
 clear hst hni hy;rintro⟨q,⟨bm,bU⟩,y'⟩ ⟨hq,hst,hni,hy⟩;simp only at hq hst hni hy;rw[hS4];refine Jj ?_;rcases Nat.lt_or_ge q x.edges.length with hql | hge
 rotate_left
 ·have e:q=x.edges.length:=by omega
  subst e;have pe:JeA n xr (s+1) 0=JeA n xr s x.edges.length:=by rw[<- hx];exact Jrn hxx
  simp (disch:=omega) only[Wz,seval,Jh,hx,Jd];exact⟨(s+1,(bm,bU),y'),⟨by simp only;omega,by rw[pe];exact hst,by rw[pe];exact hni,hy⟩,by simp only;omega,by rw[hS3];exact Jk (by simp[lk]) (fun _ _ q=>q) (fun _ _ q=>q) rfl rfl⟩
 obtain⟨e,he⟩:∃ e,x.edges.getD q default=e:=⟨_,rfl⟩;have hem2:e∈(n.states.getD s default).edges:=by rw[hx,<- he];exact Ju hql
 have hpre:JeA n xr s (q+1)=JeA n xr s q++tgC e:=JpO hxx (by rw[hx];exact hql) (by rw[hx];exact he);have rowlt:∀ a∈JeA n xr s q,a<n.rules.length:=fun a ha=>JtI w ok (Nat.le_of_lt hsl) (.inl hsl) ha
 have mkq:=hmk _ rowlt;rw[<- hst] at mkq;have bl:bm.length=n.rules.length:=by have:=mkq.len;simp only at this;omega
 have mkc:=mkq.cnt;simp only at mkc;have hbc:bm.count false<=n.rules.length:=by rw[<- bl];exact List.count_le_length
 have hUl:bU.length<=10000000:=by omega
 have hyN:(N=y')=False:=by simp;omega
 by_cases h2:¬ e.op.1=2
 ·have tg:tgC e=[]:=by unfold tgC;rw[if_neg h2]
  rw[tg,List.append_nil] at hpre;simp (disch:=omega) only[Wz,seval,Jh,Jd,hx,he,Jo];exact⟨(q+1,(bm,bU),y'+1),⟨by simp only;omega,by rw[hpre];exact hst,by rw[hpre];exact hni,by simp only;omega⟩,by simp only;omega,by rw[hS4];exact Jk (by simp[lk]) Jkn (fun _ _ q=>q) rfl rfl⟩
 have h2:e.op.1=2:=by omega
 have hcl:=w.call hsl hem2 h2;obtain⟨en,hen⟩:∃ en:Nat,e.n=(en:Int):=⟨e.n.toNat,by omega⟩;have tg:tgC e=[en]:=by unfold tgC;rw[if_pos h2,hen];rfl
 rw[tg] at hpre;by_cases hxi:en=i
 ·have hb:=hit (hI.hit (by rw[hrow];exact Jro hsl (k:=q+1) (by rw[hx];exact hql) (by rw[hpre,hxi];simp)));subst hb;simp (disch:=omega) only[Wz,seval,Jh,Jd,hx,he,Jo,h2,hen,hxi];exact fin _ _
 have hxi':¬ (en:Int)=(i:Int):=by omega
 have gt:=JaS (l:=bm) (i:=en) (by omega);cases hb:bm.getD en false with
 | true =>
  rw[hb] at gt;have pz:Jbb (bm,bU) en=(bm,bU):=by unfold Jbb;simp only[hb];rfl
  simp (disch:=omega) only[Wz,seval,Jh,Jd,hx,he,Jo,h2,hen,gt,hNx,hxN,hyN,Jak,bl];exact⟨(q+1,(bm,bU),y'+1),⟨by simp only;omega,by rw[hpre,JiX,<- hst];exact pz.symm,by rw[hpre];simp;exact⟨hni,fun z=>hxi z.symm⟩,by simp only;omega⟩,by simp only;omega,by rw[hS4];exact Jk (by simp[lk]) Jkn (fun p c q=>by first | exact q | (rw[<- q];simp[Jak,List.map_set,Jr,lk,hNx])) rfl rfl⟩
 | false =>
  rw[hb] at gt;have hfit:Ja7 (bU.length+1) 8:=JN (by omega) (by omega);have pz:Jbb (bm,bU) en=((bm.set en true),(bU++[en])):=by unfold Jbb;simp only[hb];rfl
  simp (disch:=omega) only[Wz,seval,Jh,Jd,hx,he,Jo,h2,hen,gt,hNx,hxN,hyN,Jak,bl,hfit,List.mem_singleton,forall_eq,List.length_set];exact⟨(q+1,((bm.set en true),(bU++[en])),y'+1),⟨by simp only;omega,by rw[hpre,JiX,<- hst];exact pz.symm,by rw[hpre];simp;exact⟨hni,fun z=>hxi z.symm⟩,by simp only;omega⟩,by simp only;omega,by rw[hS4];exact Jk (by simp[lk]) Jkn (fun p c q=>by first | exact q | (rw[<- q];simp[Jak,List.map_set,Jr,lk,hNx])) rfl rfl⟩
end Go.Proofs.Y
end
section
namespace Go.Proofs.Y
open Go Go.Ab
theorem Rc.trans{n:Nt}{go:Ed->Bool}{a b c:Nat}(h:Rc n go a b)(k:Rc n go b c):Rc n go a c:=by
 induction k with
 | base=>exact h
 | step _ h2 h3 h4 ih=>exact .step ih h2 h3 h4
theorem Jkp{em:List Bool}{e:Ed}:goE false em e=true:=rfl
def rlN (n:Nt)(s:Nat):Nat:=(n.states.getD s default).rule.toNat
section
variable {n:Nt} (w:Wf n) (ok:JcL n)
include w ok
theorem Jlt{t s:Nat}:s∈(gB n).getD t []↔∃ e,s<n.states.length/\e∈(n.states.getD s default).edges/\t=e.to.toNat:=by
 have hb:=Jk5 w ok (i:=n.states.length) (k:=0) (.inr ⟨rfl,rfl⟩);unfold gB;rw[Jeu fun p hp=>(hb.1 p hp).1];constructor
 ·intro h;obtain⟨j,e,hj,he,hp⟩:=JdT w ok (.inr ⟨rfl,rfl⟩) h;unfold prB at hp;simp only[List.mem_singleton,Prod.mk.injEq] at hp;obtain⟨rfl,rfl⟩:=hp;exact⟨e,hj,he,rfl⟩
 ·rintro⟨e,hs,he,rfl⟩;exact Jd8 _ n hs he (by unfold prB;simp)
theorem JpR{s:Nat}(hs:s<n.states.length){e:Ed}(he:e∈(n.states.getD s default).edges):(n.states.getD e.to.toNat default).rule=(n.states.getD s default).rule:=by
 have _:=ok;have h:=(w.ed s hs e he).1;unfold ofN at h;simp only[Bool.and_eq_true,decide_eq_true_eq,beq_iff_eq] at h;exact h.2.2
theorem Jmf:JfP n=true↔∀ s,s<n.states.length->Rc n (goE false []) s (spN n (rlN n s)):=by
 have spr:∀ i,i<n.rules.length->(n.states.getD (spN n i) default).rule=(i:Int):=fun i hi=>by
  have h:=(w.ru i hi).2.1;unfold ofN at h;simp only[Bool.and_eq_true,decide_eq_true_eq,beq_iff_eq] at h;exact h.2.2
 have bwd:∀ a b,Rc n (goE false []) a b->b=a\/Rch (gB n) b a:=fun a b h=>by
  induction h with
  | base=>exact .inl rfl
  | @step s e _ h2 h3 _ ih =>
   have m:s∈(gB n).getD e.to.toNat []:=(Jlt w ok).2 ⟨e,h2,h3,rfl⟩;rcases ih with q | q
   ·subst q;exact .inr (.one m)
   ·exact .inr (Jsh (.one m) q)
 have fwd:∀ t s,Rch (gB n) t s->Rc n (goE false []) s t/\(n.states.getD s default).rule=(n.states.getD t default).rule:=fun t s h=>by
  induction h with
  | one m =>
   obtain⟨e,h1,h2,rfl⟩:=(Jlt w ok).1 m;exact⟨.step .base h1 h2 Jkp,(JpR w ok h1 h2).symm⟩
  | step _ m ih =>
   obtain⟨e,h1,h2,h3⟩:=(Jlt w ok).1 m;subst h3;exact⟨(Rc.step .base h1 h2 Jkp).trans ih.1,by rw[<- ih.2];exact(JpR w ok h1 h2).symm⟩
 unfold JfP;rw[@decide_eq_true_iff _ (Classical.propDecidable _)];constructor
 ·intro h s hs;obtain⟨i,hi,q⟩:=h s hs;have e:(n.states.getD s default).rule=(i:Int)/\Rc n (goE false []) s (spN n i):=by
   rcases q with q | q
   ·rw[q];exact⟨spr i hi,.base⟩
   ·have:=fwd _ _ q;exact⟨by rw[this.2];exact spr i hi,this.1⟩
  unfold rlN;rw[e.1,Int.toNat_natCast];exact e.2
 ·intro h s hs;have hr:=w.st s hs;refine⟨rlN n s,by unfold rlN;omega,?_⟩;rcases bwd _ _ (h s hs) with q | q
  ·exact .inl q.symm
  ·exact .inr q
end
theorem Jlu(n:Nt)(ok:JcL n):Ja9 Tryz.prog 11 [.agg (Jh n)] (.lit (.int .i64 (if okV n then 0 else 110))):=by
 have ht:=ok.types;have hru:=ok.rules;have hst:=ok.states;refine Jaa (Jq Tryz.func11 rfl Tryz.ntmps11 (rs:=[.tmp 2]) rfl (by simp) ?_);obtain⟨v,hv⟩:∃ v:Int,(if okV n then (0:Int) else 110)=v:=⟨_,rfl⟩;rw[hv];have fin:∀ h,Jec h (.lit (.int .i64 v)) (.lit (.int .i64 v)):=fun h=>Jaw (.lit _);have bad:okV n=false->v=110:=fun h=>by rw[<- hv,h];rfl
 have gn:∀ x∈[AV.agg (Jh n)],GP x:=Jb (.of_pure (.agg (Jab n))) Jl;have pn:∀ x∈[AV.agg (Jh n)],Ab.Pure x:=Jb (.agg (Jab n)) Jl;have c1:=Jlo n ok;have c2:=Jlp n ok;have c3:=Jkm n ok;have pn1:=pn;unfold Jh at c1 c2 c3 gn pn1;refine Jj ?_;simp (disch:=omega) only[Wz,seval,Jh];refine JV JxR c1 gn (.lit _) ?_;cases h1:Jc4 n with
 | false =>
  have hb:=bad (by unfold okV;rw[h1];rfl);subst hb;simp (disch:=omega) only[Wz,seval];exact fin _
 | true =>
 simp (disch:=omega) only[Wz,seval];refine Je JxS c2 pn1 (.lit _) ?_;cases h2:Jdz n with
 | false =>
  have hb:=bad (by unfold okV;rw[h1,h2];rfl);subst hb;simp (disch:=omega) only[Wz,seval];exact fin _
 | true =>
 simp (disch:=omega) only[Wz,seval];refine Je JxT c3 pn1 (.lit _) ?_;cases h3:JbK n with
 | false =>
  have hb:=bad (by unfold okV;rw[h1,h2,h3];rfl);subst hb;simp (disch:=omega) only[Wz,seval];exact fin _
 | true =>
 have w:=Wf.of h1 h2 h3;have wst:=w.nst;have wru:=w.nru;have c4:=JiV n w ok;unfold Jh at c4;have eok:okV n=(JfP n && ((List.range n.rules.length).all (Jku n) && (!JcM (gF n) && !JcM (gC n)))):=by unfold okV;rw[h1,h2,h3];rfl
 simp (disch:=omega) only[Wz,seval];refine Jp (fun i:Nat=>⟨[(3,.lit (.int .i64 (i:Int))),(1,.ptr 0 0)],⟨[(0,Jh n)],[],1⟩,80⟩) (fun i=>i<=n.states.length/\(∀ s,s<i->Rc n (goE false []) s (spN n (rlN n s)))) (fun i=>n.states.length - i) 0 (Jk (by simp[lk]) (fun _ _ q=>q) (fun _ _ q=>q) rfl rfl) ⟨Nat.zero_le _,fun j q=>absurd q (Nat.not_lt_zero _)⟩ ?_;rintro i ⟨hi,hiv⟩;refine Jj ?_;rcases Nat.lt_or_ge i n.states.length with hlt | hge
 ·obtain⟨s,hs⟩:∃ s,n.states.getD i default=s:=⟨_,rfl⟩;have hsr:=w.st i hlt;rw[hs] at hsr;obtain⟨sr,hsr2⟩:∃ sr:Nat,s.rule=(sr:Int):=⟨s.rule.toNat,by omega⟩;have hsrl:sr<n.rules.length:=by omega
  obtain⟨r,hr⟩:∃ r,n.rules.getD sr default=r:=⟨_,rfl⟩;have hsto:=w.stop hsrl;rw[hr] at hsto;obtain⟨pn2,hpn2⟩:∃ pn:Nat,r.stop=(pn:Int):=⟨r.stop.toNat,by omega⟩;have ep:spN n (rlN n i)=pn2:=by unfold spN rlN;rw[hs,hsr2,Int.toNat_natCast,hr,hpn2];rfl
  have rk:Ja9 Tryz.prog 29 [.agg (Jh n),.lit (.int .i64 (i:Int)),.lit (.bool false),.vec [] true] _:=Jlr n w ok (List.replicate n.rules.length false) (by simp) i hlt;obtain⟨R,hR⟩:∃ R,rcV n (goE false (List.replicate n.rules.length false)) i=R:=⟨_,rfl⟩;have hRl:R.length=n.states.length:=by rw[<- hR];exact JhU
  have hRp:R.getD pn2 default=JtB (Rc n (goE false (List.replicate n.rules.length false)) i pn2):=by rw[<- hR];exact JpH (by omega)
  have eR:Rc n (goE false (List.replicate n.rules.length false)) i pn2↔Rc n (goE false []) i pn2:=Iff.rfl;rw[hR] at rk;have ra:∀ x∈[AV.agg (Jh n),.lit (.int .i64 (i:Int)),.lit (.bool false),.vec [] true],GP x:=Jb (.of_pure (.agg (Jab n))) (Jb (.lit _) (Jb (.lit _) (Jb (.of_pure (.vec Jl)) Jl)));unfold Jh at rk ra;simp (disch:=omega) only[Wz,seval,Jh];refine Jx (n:=80) rfl (by decide) mixed ?_;simp (disch:=omega) only[Wz,seval,Jh];refine Jif JrV rk ra (.of_pure (.vec (Ji Jad _))) ?_;cases hb:R.getD pn2 default with
  | false =>
   have ne:JfP n=false:=by
    cases q:JfP n with
    | false=>rfl
    | true =>
     have:=(Jmf w ok).1 q i hlt;rw[ep] at this;have:=JdW.2 (eR.2 this);rw[<- hRp,hb] at this;cases this
   have hv2:=bad (by rw[eok,ne];rfl);subst hv2;simp (disch:=omega) only[Wz,seval,Jh,hs,Jd,hsr2,hr,Jc,hpn2,hRl,hb,Jr];exact fin _
  | true =>
   have hrc:Rc n (goE false []) i (spN n (rlN n i)):=by rw[ep];exact eR.1 (JdW.1 (hRp.symm.trans hb))
   simp (disch:=omega) only[Wz,seval,Jh,hs,Jd,hsr2,hr,Jc,hpn2,hRl,hb,Jr];exact⟨i+1,⟨by omega,JfX hiv hrc⟩,by omega,Jk (by simp[lk]) (fun _ _ q=>q) (fun _ _ q=>q) rfl rfl⟩
 have e:i=n.states.length:=by omega
 subst e;have he:=(Jmf w ok).2 hiv;rw[he,Bool.true_and] at eok;simp (disch:=omega) only[Wz,seval,Jh];refine Je JxU c4 pn1 (.vec (Ji Jad _)) ?_;simp (disch:=omega) only[Wz,seval,Jh];obtain⟨em,hem⟩:∃ em,J4 n=em:=⟨_,rfl⟩;have hel:em.length=n.rules.length:=by rw[<- hem];simp[J4]
 have heg:∀ i,i<n.rules.length->em.getD i default=Jny n i:=fun i hi=>by rw[<- hem];exact JbX hi
 rw[hem];refine Jp (fun i:Nat=>⟨[(5,.lit (.int .i64 (i:Int))),(4,.vec (em.map Jr) false),(1,.ptr 0 0)],⟨[(0,Jh n)],[],1⟩,80⟩) (fun i=>i<=n.rules.length/\(∀ j,j<i->Jku n j=true)) (fun i=>n.rules.length - i) 0 (Jk (by simp[lk]) (fun _ _ q=>q) (fun _ _ q=>q) rfl rfl) ⟨Nat.zero_le _,fun j q=>absurd q (Nat.not_lt_zero _)⟩ ?_;rintro i ⟨hi,hiv⟩;refine Jj ?_;rcases Nat.lt_or_ge i n.rules.length with hlt | hge
 ·obtain⟨r,hr⟩:∃ r,n.rules.getD i default=r:=⟨_,rfl⟩;have hg:=heg i hlt;have key:Jku n i = !(r.lexer && (!r.frag && Jny n i)):=by unfold Jku;rw[hr]
  have bad2:Jku n i=false->v=110:=fun q=>bad (by rw[eok,Jbn hlt q];rfl)
  cases hlx:r.lexer with
  | false =>
   have hn:=Jav hiv (by rw[key,hlx];rfl);simp (disch:=omega) only[Wz,seval,Jh,hr,Jc,hlx];exact⟨i+1,⟨by omega,hn⟩,by omega,Jk (by simp[lk]) (fun _ _ q=>q) (fun _ _ q=>q) rfl rfl⟩
  | true =>
   cases hfr:r.frag with
   | true =>
    have hn:=Jav hiv (by rw[key,hlx,hfr];rfl);simp (disch:=omega) only[Wz,seval,Jh,hr,Jc,hlx,hfr];exact⟨i+1,⟨by omega,hn⟩,by omega,Jk (by simp[lk]) (fun _ _ q=>q) (fun _ _ q=>q) rfl rfl⟩
   | false =>
    cases hb:Jny n i with
    | false =>
     rw[hb] at hg;have hn:=Jav hiv (by rw[key,hlx,hfr,hb];rfl);simp (disch:=omega) only[Wz,seval,Jh,hr,Jc,hlx,hfr,hg,Jr,hel];exact⟨i+1,⟨by omega,hn⟩,by omega,Jk (by simp[lk]) (fun _ _ q=>q) (fun _ _ q=>q) rfl rfl⟩
    | true =>
     rw[hb] at hg;have hv2:=bad2 (by rw[key,hlx,hfr,hb];rfl);subst hv2;simp (disch:=omega) only[Wz,seval,Jh,hr,Jc,hlx,hfr,hg,Jr,hel];exact fin _
 have e:i=n.rules.length:=by omega
 subst e;rw[Jaz hiv,Bool.true_and] at eok;have c5:=Jnk n w ok em hel (JcM (gF n)) (by rw[<- hem];exact JpM w ok);have c6:=Jls n w ok (JcM (gC n)) (JpQ w ok);have pn5:∀ x∈[AV.agg (Jh n),.vec (em.map Jr) false],Ab.Pure x:=Jb (.agg (Jab n)) (Jb (.vec (Ji Jad _)) Jl);unfold Jh at c5 c6 pn5;simp (disch:=omega) only[Wz,seval,Jh];refine Je JxV c5 pn5 (.lit _) ?_;cases h5:JcM (gF n) with
 | true =>
  have hv2:=bad (by rw[eok,h5];rfl);subst hv2;simp (disch:=omega) only[Wz,seval];exact fin _
 | false =>
 simp (disch:=omega) only[Wz,seval,Jh];refine Je JxW c6 pn1 (.lit _) ?_;cases h6:JcM (gC n) with
 | true =>
  have hv2:=bad (by rw[eok,h5,h6];rfl);subst hv2;simp (disch:=omega) only[Wz,seval];exact fin _
 | false =>
  have hv2:v=0:=by rw[<- hv,eok,h5,h6];rfl
  subst hv2;simp (disch:=omega) only[Wz,seval];exact fin _
end Go.Proofs.Y
end
