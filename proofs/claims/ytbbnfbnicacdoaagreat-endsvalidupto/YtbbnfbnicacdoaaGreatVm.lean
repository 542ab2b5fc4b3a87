/- What the claim wants of the machine, the contracts and the law, laid together. -/
import Derived.Test.YtbbnfbnicacdoaaGreatVl
set_option linter.unusedVariables false
set_option linter.unusedSimpArgs false
section
namespace Go.Proofs.YtbbnfbnicacdoaaGreat
open Go Go.Ab
set_option maxRecDepth 20000
set_option maxHeartbeats 4000000
theorem rch_rank{G:List (List Nat)}{rk:Nat→Nat}(h:Rank G rk){i j:Nat}(r:Rch G i j):rk j<rk i:=by
 induction r with
 | one e=>exact h _ _ e
 | step _ e ih=>exact Nat.lt_trans (h _ _ e) ih
theorem rch_tr{G:List (List Nat)}{a b c:Nat}(h:Rch G a b)(k:Rch G b c):Rch G a c:=by
 induction k with
 | one e=>exact .step h e
 | step _ e ih=>exact .step ih e
theorem filter_sub{l:List Nat}{p q:Nat→Bool}(h:∀ x,p x=true→q x=true):(l.filter p).length≤(l.filter q).length:=by
 induction l with
 | nil=>exact Nat.le_refl _
 | cons x l ih =>
  rw[List.filter_cons,List.filter_cons]
  by_cases hp:p x=true
  ·rw[if_pos hp,if_pos (h x hp)];simpa using ih
  ·rw[if_neg hp];split
   ·simp only[List.length_cons];omega
   ·exact ih
theorem filter_lt{l:List Nat}{p q:Nat→Bool}(h:∀ x,p x=true→q x=true){y:Nat}(hy:y∈l)(h1:p y=false)(h2:q y=true):(l.filter p).length<(l.filter q).length:=by
 induction l with
 | nil=>cases hy
 | cons x l ih =>
  rw[List.filter_cons,List.filter_cons]
  rcases List.mem_cons.1 hy with e | e
  ·subst e
   rw[h1,h2]
   simp only[Bool.false_eq_true,if_false,if_true,List.length_cons]
   have:=filter_sub (l:=l) h
   omega
  ·have:=ih e
   by_cases hp:p x=true
   ·rw[if_pos hp,if_pos (h x hp)];simpa using this
   ·rw[if_neg hp];split
    ·simp only[List.length_cons];omega
    ·exact this
theorem acyc_iff{G:List (List Nat)}(hG:GOk G):Acyc G↔∀ i,¬ Rch G i i:=by
 constructor
 ·rintro⟨rk,h⟩ i r
  exact Nat.lt_irrefl _ (rch_rank h r)
 ·intro h
  refine⟨fun i=>((List.range G.length).filter (rchB G i)).length,fun i j hj=>?_⟩
  refine filter_lt (y:=j) (fun x hx=>?_) (List.mem_range.2 (hG.get.2 _ hj)) ?_ (rchB_true.2 (.one hj))
  ·exact rchB_true.2 (rch_tr (.one hj) (rchB_true.1 hx))
  ·cases e:rchB G j j with
   | false=>rfl
   | true=>exact absurd (rchB_true.1 e) (h j)
theorem rch_mem{G G':List (List Nat)}(h:∀ s v,v∈G.getD s []→v∈G'.getD s []){i j:Nat}(r:Rch G i j):Rch G' i j:=by
 induction r with
 | one e=>exact .one (h _ _ e)
 | step _ e ih=>exact .step ih (h _ _ e)
structure RgD (G:List (List Nat)) (i:Nat) (s:List Bool × List Nat):Prop where
 fr:FrI G i s
 no:∀ k,(k=i∨s.1.getD k false=true)→k∉s.2→i∉G.getD k []
theorem RgD.init{G:List (List Nat)}{i:Nat}(hi:i<G.length):RgD G i (List.replicate G.length false,[i]):=by
 refine⟨FrI.init hi,fun k hk hn=>?_⟩
 rcases hk with rfl | hk
 ·exact absurd (by simp) hn
 ·simp only[List.getD_eq_getElem?_getD,List.getElem?_replicate] at hk
  split at hk <;> cases hk
theorem RgD.next{G:List (List Nat)}{i:Nat}(hG:GOk G){m:List Bool}{t:List Nat}{k:Nat}(h:RgD G i (m,t++[k]))(hi:i∉G.getD k []):RgD G i (fldF (m,t) (G.getD k [])):=by
 have ml:m.length=G.length:=h.fr.len
 have q:Mk1 (m,t) (fldF (m,t) (G.getD k [])) (G.getD k []):=Mk1.fold _ (fun a ha=>by rw[ml];exact hG.get.2 a ha)
 refine⟨h.fr.next hG,fun k' hk' hn=>?_⟩
 by_cases e:k'=k
 ·subst e;exact hi
 ·have hnt:k'∉t:=fun x=>hn (q.keep _ x)
  refine h.no k' ?_ (by simp only[List.mem_append,List.mem_singleton];rintro(x | x);exact hnt x;exact e x)
  rcases hk' with x | x
  ·exact .inl x
  ·rcases q.new _ x with y | y
   ·exact .inr y
   ·exact absurd y hn
theorem RgD.last{G:List (List Nat)}{i:Nat}(hG:GOk G){m:List Bool}(h:RgD G i (m,[])):¬ Rch G i i:=fun r=>by
 have e:=h.fr.last hG
 have key:∀ k,k=i∨Rch G i k→i∉G.getD k []:=fun k hk=>by
  refine h.no k ?_ (by simp)
  rcases hk with x | x
  ·exact .inl x
  ·right
   show m.getD k false=true
   rw[e,fromV_get (x.lt hG)];exact rchB_true.2 x
 cases r with
 | one q=>exact key i (.inl rfl) q
 | step a q=>exact key _ (.inr a) q
theorem RgD.hit{G:List (List Nat)}{i:Nat}{m:List Bool}{t:List Nat}{k:Nat}(h:RgD G i (m,t++[k]))(hi:i∈G.getD k []):Rch G i i:=by
 rcases(h.fr.todo k (by simp)).2 with e | e
 ·subst e;exact .one hi
 ·exact .step (h.fr.snd k e) hi
def tgF (n:Nt)(em:List Bool)(e:Ed):List Nat:=if e.op.1=1 then [] else if e.op.1=2 then stN n e.n.toNat :: (if em.getD e.n.toNat false=true then [e.to.toNat] else []) else [e.to.toNat]
def rwF (n:Nt)(em:List Bool)(s:Nat):List Nat:=(n.states.getD s default).edges.flatMap (tgF n em)
def gF' (n:Nt)(em:List Bool):List (List Nat):=(List.range n.states.length).map (rwF n em)
theorem tgF_two(n:Nt)(em:List Bool)(e:Ed):(tgF n em e).length≤2:=by
 unfold tgF
 split
 ·simp
 ·split
  ·split <;> simp
  ·simp
theorem prF_tg{n:Nt}{em:List Bool}{i:Nat}{e:Ed}:prF n em i e=(tgF n em e).map fun v=>(i,v):=by
 unfold prF tgF
 split
 ·rfl
 ·split
  ·split <;> rfl
  ·rfl
theorem gF'_get{n:Nt}{em:List Bool}{s:Nat}(h:s<n.states.length):(gF' n em).getD s []=rwF n em s:=by
 unfold gF'
 rw[List.getD_eq_getElem?_getD,List.getElem?_map,List.getElem?_range h];rfl
theorem gF'_len{n:Nt}{em:List Bool}:(gF' n em).length=n.states.length:=by simp[gF']
theorem gF'_out{n:Nt}{em:List Bool}{s:Nat}(h:¬ s<n.states.length):(gF' n em).getD s []=[]:=by
 unfold gF'
 rw[List.getD_eq_getElem?_getD,List.getElem?_map,List.getElem?_eq_none (by simpa using h)];rfl
section
variable {n:Nt} (w:Wf n) (ok:NtOk n)
include w ok
theorem tgF_lt{em:List Bool}{s:Nat}{e:Ed}(hs:s<n.states.length)(he:e∈(n.states.getD s default).edges){v:Nat}(hv:v∈tgF n em e):v<n.states.length:=by
 have _:=ok
 have ht:=w.to hs he
 unfold tgF at hv
 split at hv
 ·cases hv
 ·split at hv
  ·rename_i h2
   have hc:=w.call hs he h2
   have hb:=w.start (i:=e.n.toNat) (by omega)
   rcases List.mem_cons.1 hv with q | q
   ·rw[q];unfold stN;omega
   ·split at q
    ·simp only[List.mem_singleton] at q;rw[q];omega
    ·cases q
  ·simp only[List.mem_singleton] at hv;rw[hv];omega
theorem gF'_mem{s v:Nat}:v∈(gF' n (emptiesV n)).getD s []↔v∈(gF n).getD s []:=by
 have hb:=psF_bnd w ok (em:=emptiesV n) (i:=n.states.length) (k:=0) (.inr ⟨rfl,rfl⟩)
 unfold gF
 rw[gOf_mem fun p hp=>(hb.1 p hp).1]
 by_cases hs:s<n.states.length
 ·rw[gF'_get hs]
  unfold rwF
  constructor
  ·intro h
   obtain⟨e,he,hv⟩:=List.mem_flatMap.1 h
   exact psAt_all _ n hs he (by rw[prF_tg];exact List.mem_map.2 ⟨v,hv,rfl⟩)
  ·intro h
   obtain⟨j,e,hj,he,hp⟩:=psAt_edge w ok (.inr ⟨rfl,rfl⟩) h
   rw[prF_tg] at hp
   obtain⟨u,hu,q⟩:=List.mem_map.1 hp
   simp only[Prod.mk.injEq] at q
   obtain⟨rfl,rfl⟩:=q
   exact List.mem_flatMap.2 ⟨e,he,hu⟩
 ·rw[gF'_out hs]
  constructor
  ·intro h;cases h
  ·intro h;exact absurd (hb.1 _ h).1 hs
theorem gF'_ok{em:List Bool}:GOk (gF' n em):=by
 refine⟨by rw[gF'_len];have:=w.nst;omega,fun l hl=>?_,fun l hl j hj=>?_⟩
 ·obtain⟨s,hs,rfl⟩:=List.mem_map.1 hl
  have h1:=flatMap_len (f:=tgF n em) (c:=2) (l:=(n.states.getD s default).edges) (fun e _=>tgF_two n em e)
  have h2:=ok.edgesD s
  unfold rwF
  omega
 ·obtain⟨s,hs,rfl⟩:=List.mem_map.1 hl
  obtain⟨e,he,hv⟩:=List.mem_flatMap.1 hj
  rw[gF'_len]
  exact tgF_lt w ok (List.mem_range.1 hs) he hv
theorem ringF_iff:ringV (gF n)=true↔∃ i,i<n.states.length∧Rch (gF' n (emptiesV n)) i i:=by
 have a1:=acyc_iff (gF_ok w ok)
 constructor
 ·intro h
  have na:¬ Acyc (gF n):=fun q=>by rw[ringV_false q] at h;cases h
  rw[a1] at na
  have:∃ i,Rch (gF n) i i:=by
   by_cases c:∃ i,Rch (gF n) i i
   ·exact c
   ·exact absurd (fun i q=>c ⟨i,q⟩) na
  obtain⟨i,hi⟩:=this
  have hi':=rch_mem (G':=gF' n (emptiesV n)) (fun s v q=>(gF'_mem w ok).2 q) hi
  exact⟨i,by have:=hi'.lt (gF'_ok w ok);rwa [gF'_len] at this,hi'⟩
 ·rintro⟨i,_,hi⟩
  exact ringV_true fun q=>a1.1 q i (rch_mem (fun s v q=>(gF'_mem w ok).1 q) hi)
end
end Go.Proofs.YtbbnfbnicacdoaaGreat
end
section
namespace Go.Proofs.YtbbnfbnicacdoaaGreat
open Go Go.Ab
set_option maxRecDepth 20000
set_option maxHeartbeats 16000000
theorem fldF_app(s:List Bool × List Nat)(p q:List Nat):fldF s (p++q)=fldF (fldF s p) q:=by unfold fldF;rw[List.foldl_append]
theorem flatTake{n:Nt}{em:List Bool}{es:List Ed}{k:Nat}{e:Ed}(hk:k<es.length)(he:es.getD k default=e):(es.take (k+1)).flatMap (tgF n em)=(es.take k).flatMap (tgF n em)++tgF n em e:=by
 rw[List.take_add_one,getD_get hk,Option.toList_some,List.flatMap_append,he]
 simp
theorem lt_stepP{i:Nat}{p:Nat→Prop}(h:∀ j,j<i→p j)(hi:p i):∀ j,j<i+1→p j:=fun j hj=>by
 rcases Nat.lt_succ_iff_lt_or_eq.1 hj with q | q
 ·exact h j q
 ·subst q;exact hi
theorem rring_spec(n:Nt)(w:Wf n)(ok:NtOk n)(em:List Bool)(hem:em.length=n.rules.length)(v:Bool)(hv:v=true↔∃ i,i<n.states.length∧Rch (gF' n em) i i) :
  PCall Tryz.prog 47 [.agg (encN n),.vec (em.map encBo) false] (.lit (.bool v)):=by
 have hst:=w.nst
 have hru:=w.nru
 have fin:∀ h (b:Bool),Expo h (.lit (.bool b)) (.lit (.bool b)):=fun h b=>expo_pure (.lit _)
 have hG:=gF'_ok w ok (em:=em)
 have hGl:=gF'_len (n:=n) (em:=em)
 obtain⟨G,hGG⟩:∃ G,gF' n em=G:=⟨_,rfl⟩
 refine PCall_of_SCall (SCall_introK Tryz.func47 rfl Tryz.ntmps47 (rs:=[.tmp 4]) rfl (by simp) ?_)
 obtain⟨S1,hS1⟩:∃ S1:Nat × Nat→St,∀ i N,S1 (i,N)=⟨[(5,.lit (.int .i64 (i:Int))),(2,.ptr 0 0),(1,.vec (em.map encBo) false)],⟨[(0,encN n)],[],N⟩,107⟩:=⟨fun x=>⟨[(5,.lit (.int .i64 (x.1:Int))),(2,.ptr 0 0),(1,.vec (em.map encBo) false)],⟨[(0,encN n)],[],x.2⟩,107⟩,fun _ _=>rfl⟩
 refine aw_of ?_
 simp -implicitDefEqProofs (disch:=omega) only[Wz,seval,encN]
 refine aw_measA S1 (fun x=>x.1≤n.states.length∧1≤x.2∧∀ j,j<x.1→¬ Rch G j j) (fun x=>n.states.length - x.1) (0,1) ?_ ⟨Nat.zero_le _,Nat.le_refl _,fun j q=>absurd q (Nat.not_lt_zero _)⟩ ?_
 ·rw[hS1]
  exact wk_lk (by simp[lk]) (fun _ _ q=>q) (fun _ _ q=>q) rfl rfl
 rintro⟨i,N⟩ ⟨hi,hN,hno⟩
 simp only at hi hN hno
 rw[hS1]
 rcases Nat.lt_or_ge i n.states.length with hlt | hge
 rotate_left
 ·have e:i=n.states.length:=by omega
  subst e
  have hb:v=false:=by
   cases v with
   | false=>rfl
   | true=>obtain⟨j,h1,h2⟩:=hv.1 rfl;rw[hGG] at h2;exact absurd h2 (hno j h1)
  subst hb
  refine aw_of ?_
  simp -implicitDefEqProofs (disch:=omega) only[Wz,seval,encN]
  exact fin _ _
 have hit:Rch G i i→v=true:=fun q=>hv.2 ⟨i,hlt,by rw[hGG];exact q⟩
 have hGL:G.length=n.states.length:=by rw[← hGG];exact hGl
 rw[hGG] at hG
 refine aw_seq ?_
 refine aw_of ?_
 simp -implicitDefEqProofs (disch:=omega) only[Wz,seval,encN]
 refine aw_seq ?_
 refine aw_block' ?_
 refine aw_seq ?_
 refine aw_of ?_
 simp -implicitDefEqProofs (disch:=omega) only[Wz,seval,encN]
 refine aw_seq ?_
 refine aw_regionB ?_
 simp -implicitDefEqProofs (disch:=omega) only[Wz,seval,awoB]
 refine awop_build (ps:=[(0,.lit (.int .i64 (i:Int)))]) (z:=[.lit (.int .i64 0)]) (rows:=[rowI i]) ty41 rfl ty3 rfl ⟨rfl,by decide⟩ (by decide) rfl rfl ?_
 simp -implicitDefEqProofs (disch:=omega) only[Wz,seval,awoB]
 refine aw_of ?_
 simp -implicitDefEqProofs (disch:=omega) only[Wz,seval]
 obtain⟨S2,hS2⟩:∃ S2:(List Bool × List Nat) × Nat × Nat→St,∀ m T t nx,S2 ((m,T),t,nx)=⟨[(7,.own t T.length),(6,.own N n.states.length),(5,.lit (.int .i64 (i:Int))),(2,.ptr 0 0),(1,.vec (em.map encBo) false)],⟨[(0,encN n)],[(N,⟨m.map encBo,0,1⟩),(t,⟨T.map rowI,0,1⟩)],nx⟩,107⟩:=⟨fun x=>⟨[(7,.own x.2.1 x.1.2.length),(6,.own N n.states.length),(5,.lit (.int .i64 (i:Int))),(2,.ptr 0 0),(1,.vec (em.map encBo) false)],⟨[(0,encN n)],[(N,⟨x.1.1.map encBo,0,1⟩),(x.2.1,⟨x.1.2.map rowI,0,1⟩)],x.2.2⟩,107⟩,fun _ _ _ _=>rfl⟩
 refine aw_measA S2 (fun x=>RgD G i x.1∧N<x.2.1∧x.2.1<x.2.2) (fun x=>2 * x.1.1.count false+x.1.2.length) ((List.replicate n.states.length false,[i]),N+1,N+2) ?_ ⟨by have:=RgD.init (G:=G) (i:=i) (by omega);rwa [hGL] at this,by simp only;omega,by simp only;omega⟩ ?_
 ·rw[hS2]
  exact wk_lk (by simp[lk]) (fun _ _ q=>q) (fun p c q=>by rw[← q];simp[List.map_replicate,encBo]) rfl rfl
 rintro⟨⟨m,todo⟩,t,nx⟩ ⟨hI,htN,htn⟩
 simp only at htN htn hI
 rw[hS2]
 refine aw_of ?_
 have hml:m.length=n.states.length:=by rw[← hGL];exact hI.fr.len
 rcases List.eq_nil_or_concat todo with rfl | ⟨T,k,rfl⟩
 ·have nr:=hI.last hG
  simp -implicitDefEqProofs (disch:=omega) only[Wz,seval]
  refine aw_of ?_
  simp -implicitDefEqProofs (disch:=omega) only[Wz,seval]
  exact⟨(i+1,nx),⟨by simp only;omega,by simp only;omega,lt_stepP hno nr⟩,by simp only;omega,by rw[hS1];exact wk_lk (by simp[lk]) (fun _ _ q=>q) (fun _ _ q=>by cases q) rfl rfl⟩
 simp only[List.concat_eq_append] at hI ⊢
 have hNt:(N=t)=False:=by simp;omega
 have htN':(t=N)=False:=by simp;omega
 have hk:=(hI.fr.todo k (by simp)).1
 have hc:=hI.fr.cnt
 simp only[List.length_append,List.length_singleton] at hc
 have g1:((T.map rowI)++[[AV.lit (.int .i64 (k:Int))]])[T.length]? = some [AV.lit (.int .i64 (k:Int))]:=by rw[List.getElem?_append_right (by simp)];simp
 have i1:(((T.length+1:Nat):Int) - 1).toNat=T.length:=by omega
 simp -implicitDefEqProofs (disch:=omega) only[Wz,seval,hNt,htN',List.map_append,List.length_append,List.length_singleton,g1,i1,rowI]
 refine stepK_cut (k:=⟨T.map rowI++[[AV.lit (.int .i64 (k:Int))]],0,1⟩) rfl rfl ty41 rfl ty3 rfl (by simp[lk,hNt]) (by simp) (by omega) (by omega) (by simp) ?_
 have tk1:(T.map rowI++[[AV.lit (.int .i64 (k:Int))]]).take T.length=T.map rowI:=by rw[List.take_append_of_le_length (by simp),List.take_of_length_le (by simp)]
 have hkL:k<n.states.length:=by omega
 obtain⟨s,hs⟩:∃ s,n.states.getD k default=s:=⟨_,rfl⟩
 have hse:=(ok.edges s (by rw[← hs];exact getD_mem hkL)).1
 have hrow:G.getD k []=s.edges.flatMap (tgF n em):=by rw[← hGG,gF'_get hkL];unfold rwF;rw[hs]
 have hrl:=hG.get (k:=k)
 rw[hrow] at hrl
 simp -implicitDefEqProofs (disch:=omega) only[Wz,seval,Hp.cut,dl,hNt,i1,tk1]
 obtain⟨S3,hS3⟩:∃ S3:Nat × (List Bool × List Nat) × Nat→St,∀ q ms U y,S3 (q,(ms,U),y)=⟨[(9,.lit (.int .i64 (q:Int))),(8,.lit (.int .i64 (k:Int))),(7,.own nx U.length),(6,.own N n.states.length),(5,.lit (.int .i64 (i:Int))),(2,.ptr 0 0),(1,.vec (em.map encBo) false)],⟨[(0,encN n)],[(N,⟨ms.map encBo,0,1⟩),(nx,⟨U.map rowI,0,1⟩)],y⟩,107⟩:=⟨fun x=>⟨[(9,.lit (.int .i64 (x.1:Int))),(8,.lit (.int .i64 (k:Int))),(7,.own nx x.2.1.2.length),(6,.own N n.states.length),(5,.lit (.int .i64 (i:Int))),(2,.ptr 0 0),(1,.vec (em.map encBo) false)],⟨[(0,encN n)],[(N,⟨x.2.1.1.map encBo,0,1⟩),(nx,⟨x.2.1.2.map rowI,0,1⟩)],x.2.2⟩,107⟩,fun _ _ _ _=>rfl⟩
 refine aw_measA S3 (fun x=>x.1≤s.edges.length∧x.2.1=fldF (m,T) ((s.edges.take x.1).flatMap (tgF n em))∧i∉(s.edges.take x.1).flatMap (tgF n em)∧nx+1≤x.2.2) (fun x=>s.edges.length - x.1) (0,(m,T),nx+1) ?_ ⟨Nat.zero_le _,rfl,by simp,Nat.le_refl _⟩ ?_
 ·rw[hS3]
  exact wk_lk (by simp[lk]) (fun _ _ q=>q) (fun p c q=>by first | exact q | (rw[← q];simp[lk,hNt])) rfl rfl
 rintro⟨q,⟨ms,U⟩,y⟩ ⟨hq,hst,hni,hy⟩
 simp only at hq hst hni hy
 rw[hS3]
 refine aw_of ?_
 have hNx:(N=nx)=False:=by simp;omega
 have hxN:(nx=N)=False:=by simp;omega
 have hmk:=fun(p:List Nat) (hp:∀ a∈p,a<n.states.length)=>Mk1.fold (s:=(m,T)) p (fun a ha=>by rw[show (m,T).1.length=n.states.length from hml];exact hp a ha)
 rcases Nat.lt_or_ge q s.edges.length with hql | hge
 rotate_left
 ·have e:q=s.edges.length:=by omega
  subst e
  rw[List.take_length,← hrow] at hst hni
  have hnext:=hI.next hG hni
  rw[← hst] at hnext
  have mk:=hmk (G.getD k []) (fun a ha=>by rw[← hGL];exact(hG.get (k:=k)).2 a ha)
  rw[← hst] at mk
  have q1:=mk.cnt
  have q2:=mk.le
  simp only at q1 q2
  simp -implicitDefEqProofs (disch:=omega) only[Wz,seval,encN,hs,encSt]
  exact⟨((ms,U),nx,y),⟨hnext,by simp only;omega,by simp only;omega⟩,by simp only[List.length_append,List.length_singleton];omega,by rw[hS2];exact wk_lk (by simp[lk]) (fun _ _ q=>q) (fun _ _ q=>q) rfl rfl⟩
 obtain⟨e,he⟩:∃ e,s.edges.getD q default=e:=⟨_,rfl⟩
 have hem2:e∈(n.states.getD k default).edges:=by rw[hs,← he];exact getD_mem hql
 have hto:=w.to hkL hem2
 obtain⟨tn,htn2⟩:∃ tn:Nat,e.to=(tn:Int):=⟨e.to.toNat,by omega⟩
 have htl:tn<n.states.length:=by omega
 have hft:=flatTake (n:=n) (em:=em) hql he
 have rowlt:∀ a∈(s.edges.take q).flatMap (tgF n em),a<n.states.length:=fun a ha=>by
  obtain⟨u,hu,hv'⟩:=List.mem_flatMap.1 ha
  exact tgF_lt w ok hkL (by rw[hs];exact List.mem_of_mem_take hu) hv'
 have mkq:=hmk _ rowlt
 rw[← hst] at mkq
 have msl:ms.length=n.states.length:=by have:=mkq.len;simp only at this;omega
 have mkc:=mkq.cnt
 simp only at mkc
 have hcl:ms.count false≤n.states.length:=by rw[← msl];exact List.count_le_length
 have hcl2:m.count false≤n.states.length:=by rw[← hml];exact List.count_le_length
 have hUl:U.length≤10000000:=by omega
 have hyN:(N=y)=False:=by simp;omega
 have hitk:∀ a,a=i→a∈tgF n em e→v=true:=fun a ea ha=>hit (hI.hit (by rw[hrow];rw[ea] at ha;exact List.mem_flatMap.2 ⟨e,by rw[← he];exact getD_mem hql,ha⟩))
 have nxt:∀ p:List Nat,tgF n em e=p→i∉p→∀ ms' U',(ms',U')=fldF (ms,U) p→(ms',U')=fldF (m,T) ((s.edges.take (q+1)).flatMap (tgF n em))∧i∉(s.edges.take (q+1)).flatMap (tgF n em):=fun p hp hip ms' U' h=>by
  rw[hft,fldF_app,← hst,hp]
  exact⟨h,by rw[List.mem_append];rintro(r | r);exact hni r;exact hip r⟩
 by_cases h1:e.op.1=1
 ·have tg:tgF n em e=[]:=by unfold tgF;rw[if_pos h1]
  obtain⟨z1,z2⟩:=nxt [] tg (by simp) ms U rfl
  simp -implicitDefEqProofs (disch:=omega) only[Wz,seval,encN,encSt,hs,he,encE,h1]
  exact⟨(q+1,(ms,U),y+1),⟨by simp only;omega,z1,z2,by simp only;omega⟩,by simp only;omega,by rw[hS3];exact wk_lk (by simp[lk]) lkA1 (fun _ _ q=>q) rfl rfl⟩
 by_cases h2:e.op.1=2
 rotate_left
 ·skip
  obtain⟨S4,hS4⟩:∃ S4:Nat × Nat × (List Bool × List Nat)→St,∀ (j a:Nat) (ms':List Bool) (U':List Nat),S4 (j,a,(ms',U'))=⟨[(12,.lit (.int .i64 (j:Int))),(11,.lit (.int .i64 (a:Int))),(10,.ptr y 0),(9,.lit (.int .i64 (q:Int))),(8,.lit (.int .i64 (k:Int))),(7,.own nx U'.length),(6,.own N n.states.length),(5,.lit (.int .i64 (i:Int))),(2,.ptr 0 0),(1,.vec (em.map encBo) false)],⟨[(0,encN n),(y,encE e)],[(N,⟨ms'.map encBo,0,1⟩),(nx,⟨U'.map rowI,0,1⟩)],y+1⟩,107⟩:=⟨fun x=>⟨[(12,.lit (.int .i64 (x.1:Int))),(11,.lit (.int .i64 (x.2.1:Int))),(10,.ptr y 0),(9,.lit (.int .i64 (q:Int))),(8,.lit (.int .i64 (k:Int))),(7,.own nx x.2.2.2.length),(6,.own N n.states.length),(5,.lit (.int .i64 (i:Int))),(2,.ptr 0 0),(1,.vec (em.map encBo) false)],⟨[(0,encN n),(y,encE e)],[(N,⟨x.2.2.1.map encBo,0,1⟩),(nx,⟨x.2.2.2.map rowI,0,1⟩)],y+1⟩,107⟩,fun _ _ _ _=>rfl⟩
  have tg:tgF n em e=[tn]:=by unfold tgF;rw[if_neg h1,if_neg h2,htn2,Int.toNat_natCast]
  simp -implicitDefEqProofs (disch:=omega) only[Wz,seval,encN,encSt,hs,he,encE,htn2,encNr,h1,h2]
  refine aw_measA S4 (fun x=>x.1=0∧x.2.1=tn∧x.2.2=(ms,U)) (fun x=>2 - x.1) (0,tn,(ms,U)) ?_ ⟨rfl,rfl,rfl⟩ ?_
  ·rw[hS4]
   exact wk_lk (by simp[lk]) (fun p c q=>by rw[← q];simp[encN,encE,htn2]) (fun _ _ q=>q) rfl rfl
  rintro⟨j,a,⟨bm,bU⟩⟩ ⟨e1,e2,e3⟩
  simp only at e1 e2 e3
  subst e1
  replace e2:=e2.symm
  subst e2
  cases e3
  have bl:=msl
  rw[hS4]
  refine aw_of ?_
  by_cases hx:tn=i
  ·have hb:=hitk _ hx (by rw[tg];simp)
   subst hb
   simp -implicitDefEqProofs (disch:=omega) only[Wz,seval,encN,hx]
   exact fin _ _
  have hxi:¬ (tn:Int)=(i:Int):=by omega
  have gt:=map_getBo (l:=ms) (i:=tn) (by omega)
  cases hb:ms.getD tn false with
  | true =>
   rw[hb] at gt
   have pz:pushF (ms,U) tn=(ms,U):=by unfold pushF;simp only[hb];rfl
   simp -implicitDefEqProofs (disch:=omega) only[Wz,seval,encN,gt,hNx,hxN,hyN,rowI,encNr,encE,htn2,h1,h2,bl]
   obtain⟨z1,z2⟩:=nxt _ tg (by simp;exact fun z=>hx z.symm) ms U (by rw[show fldF (ms,U) [tn]=pushF (ms,U) tn from rfl];exact pz.symm)
   exact⟨(q+1,(ms,U),y+1),⟨by simp only;omega,z1,z2,by simp only;omega⟩,by simp only;omega,by rw[hS3];exact wk_lk (by simp[lk]) lkA1 (fun p c q=>by first | exact q | (rw[← q];simp[rowI,List.map_set,encBo,lk,hNx])) rfl rfl⟩
  | false =>
   rw[hb] at gt
   have pz:pushF (ms,U) tn=((ms.set tn true),(U++[tn])):=by unfold pushF;simp only[hb];rfl
   have hfit:fits (U.length+1) 8:=fits_of' (by omega) (by omega)
   simp -implicitDefEqProofs (disch:=omega) only[Wz,seval,encN,gt,hNx,hxN,hyN,rowI,encNr,encE,htn2,h1,h2,bl,hfit,List.mem_singleton,forall_eq,List.length_set]
   obtain⟨z1,z2⟩:=nxt _ tg (by simp;exact fun z=>hx z.symm) (ms.set tn true) (U++[tn]) (by rw[show fldF (ms,U) [tn]=pushF (ms,U) tn from rfl];exact pz.symm)
   exact⟨(q+1,((ms.set tn true),(U++[tn])),y+1),⟨by simp only;omega,z1,z2,by simp only;omega⟩,by simp only;omega,by rw[hS3];exact wk_lk (by simp[lk]) lkA1 (fun p c q=>by first | exact q | (rw[← q];simp[rowI,List.map_set,encBo,lk,hNx])) rfl rfl⟩
 have hcl3:=w.call hkL hem2 h2
 obtain⟨en,hen⟩:∃ en:Nat,e.n=(en:Int):=⟨e.n.toNat,by omega⟩
 obtain⟨r,hr⟩:∃ r,n.rules.getD en default=r:=⟨_,rfl⟩
 have hsta:=w.start (i:=en) (by omega)
 rw[hr] at hsta
 obtain⟨sn,hsn⟩:∃ sn:Nat,r.start=(sn:Int):=⟨r.start.toNat,by omega⟩
 have hsnl:sn<n.states.length:=by omega
 have est:stN n e.n.toNat=sn:=by unfold stN;rw[hen,Int.toNat_natCast,hr,hsn];rfl
 cases hemv:em.getD en false with
 | false =>
  have hemd:em.getD en default=false:=hemv
  obtain⟨S4,hS4⟩:∃ S4:Nat × Nat × (List Bool × List Nat)→St,∀ (j a:Nat) (ms':List Bool) (U':List Nat),S4 (j,a,(ms',U'))=⟨[(12,.lit (.int .i64 (j:Int))),(11,.lit (.int .i64 (a:Int))),(10,.ptr y 0),(9,.lit (.int .i64 (q:Int))),(8,.lit (.int .i64 (k:Int))),(7,.own nx U'.length),(6,.own N n.states.length),(5,.lit (.int .i64 (i:Int))),(2,.ptr 0 0),(1,.vec (em.map encBo) false)],⟨[(0,encN n),(y,encE e)],[(N,⟨ms'.map encBo,0,1⟩),(nx,⟨U'.map rowI,0,1⟩)],y+1⟩,107⟩:=⟨fun x=>⟨[(12,.lit (.int .i64 (x.1:Int))),(11,.lit (.int .i64 (x.2.1:Int))),(10,.ptr y 0),(9,.lit (.int .i64 (q:Int))),(8,.lit (.int .i64 (k:Int))),(7,.own nx x.2.2.2.length),(6,.own N n.states.length),(5,.lit (.int .i64 (i:Int))),(2,.ptr 0 0),(1,.vec (em.map encBo) false)],⟨[(0,encN n),(y,encE e)],[(N,⟨x.2.2.1.map encBo,0,1⟩),(nx,⟨x.2.2.2.map rowI,0,1⟩)],y+1⟩,107⟩,fun _ _ _ _=>rfl⟩
  have tg:tgF n em e=[sn]:=by unfold tgF;rw[if_neg (by omega),if_pos h2,est,hen,Int.toNat_natCast,hemv];rfl
  simp -implicitDefEqProofs (disch:=omega) only[Wz,seval,encN,encSt,hs,he,encE,htn2,encNr,h2,hen,hr,hsn,hemd,encBo]
  refine aw_measA S4 (fun x=>x.1=0∧x.2.1=sn∧x.2.2=(ms,U)) (fun x=>2 - x.1) (0,sn,(ms,U)) ?_ ⟨rfl,rfl,rfl⟩ ?_
  ·rw[hS4]
   exact wk_lk (by simp[lk]) (fun p c q=>by rw[← q];simp[encN,encE,h2,hen,htn2]) (fun _ _ q=>q) rfl rfl
  rintro⟨j,a,⟨bm,bU⟩⟩ ⟨e1,e2,e3⟩
  simp only at e1 e2 e3
  subst e1
  replace e2:=e2.symm
  subst e2
  cases e3
  have bl:=msl
  rw[hS4]
  refine aw_of ?_
  by_cases hx:sn=i
  ·have hb:=hitk _ hx (by rw[tg];simp)
   subst hb
   simp -implicitDefEqProofs (disch:=omega) only[Wz,seval,encN,hx]
   exact fin _ _
  have hxi:¬ (sn:Int)=(i:Int):=by omega
  have gt:=map_getBo (l:=ms) (i:=sn) (by omega)
  cases hb:ms.getD sn false with
  | true =>
   rw[hb] at gt
   have pz:pushF (ms,U) sn=(ms,U):=by unfold pushF;simp only[hb];rfl
   simp -implicitDefEqProofs (disch:=omega) only[Wz,seval,encN,gt,hNx,hxN,hyN,rowI,encNr,encE,htn2,h2,hen,hr,hsn,hemd,encBo,bl]
   obtain⟨z1,z2⟩:=nxt _ tg (by simp;exact fun z=>hx z.symm) ms U (by rw[show fldF (ms,U) [sn]=pushF (ms,U) sn from rfl];exact pz.symm)
   exact⟨(q+1,(ms,U),y+1),⟨by simp only;omega,z1,z2,by simp only;omega⟩,by simp only;omega,by rw[hS3];exact wk_lk (by simp[lk]) lkA1 (fun p c q=>by first | exact q | (rw[← q];simp[rowI,List.map_set,encBo,lk,hNx])) rfl rfl⟩
  | false =>
   rw[hb] at gt
   have pz:pushF (ms,U) sn=((ms.set sn true),(U++[sn])):=by unfold pushF;simp only[hb];rfl
   have hfit:fits (U.length+1) 8:=fits_of' (by omega) (by omega)
   simp -implicitDefEqProofs (disch:=omega) only[Wz,seval,encN,gt,hNx,hxN,hyN,rowI,encNr,encE,htn2,h2,hen,hr,hsn,hemd,encBo,bl,hfit,List.mem_singleton,forall_eq,List.length_set]
   obtain⟨z1,z2⟩:=nxt _ tg (by simp;exact fun z=>hx z.symm) (ms.set sn true) (U++[sn]) (by rw[show fldF (ms,U) [sn]=pushF (ms,U) sn from rfl];exact pz.symm)
   exact⟨(q+1,((ms.set sn true),(U++[sn])),y+1),⟨by simp only;omega,z1,z2,by simp only;omega⟩,by simp only;omega,by rw[hS3];exact wk_lk (by simp[lk]) lkA1 (fun p c q=>by first | exact q | (rw[← q];simp[rowI,List.map_set,encBo,lk,hNx])) rfl rfl⟩
 | true =>
  have hemd:em.getD en default=true:=hemv
  obtain⟨S4,hS4⟩:∃ S4:Nat × Nat × (List Bool × List Nat)→St,∀ (j a:Nat) (ms':List Bool) (U':List Nat),S4 (j,a,(ms',U'))=⟨[(12,.lit (.int .i64 (j:Int))),(11,.lit (.int .i64 (a:Int))),(10,.ptr y 0),(9,.lit (.int .i64 (q:Int))),(8,.lit (.int .i64 (k:Int))),(7,.own nx U'.length),(6,.own N n.states.length),(5,.lit (.int .i64 (i:Int))),(2,.ptr 0 0),(1,.vec (em.map encBo) false)],⟨[(0,encN n),(y,encE e)],[(N,⟨ms'.map encBo,0,1⟩),(nx,⟨U'.map rowI,0,1⟩)],y+1⟩,107⟩:=⟨fun x=>⟨[(12,.lit (.int .i64 (x.1:Int))),(11,.lit (.int .i64 (x.2.1:Int))),(10,.ptr y 0),(9,.lit (.int .i64 (q:Int))),(8,.lit (.int .i64 (k:Int))),(7,.own nx x.2.2.2.length),(6,.own N n.states.length),(5,.lit (.int .i64 (i:Int))),(2,.ptr 0 0),(1,.vec (em.map encBo) false)],⟨[(0,encN n),(y,encE e)],[(N,⟨x.2.2.1.map encBo,0,1⟩),(nx,⟨x.2.2.2.map rowI,0,1⟩)],y+1⟩,107⟩,fun _ _ _ _=>rfl⟩
  have tg:tgF n em e=[sn,tn]:=by unfold tgF;rw[if_neg (by omega),if_pos h2,est,hen,Int.toNat_natCast,hemv,if_pos rfl,htn2,Int.toNat_natCast]
  simp -implicitDefEqProofs (disch:=omega) only[Wz,seval,encN,encSt,hs,he,encE,htn2,encNr,h2,hen,hr,hsn,hemd,encBo]
  refine aw_measA S4 (fun x=>(x.1=0∧x.2.1=sn∧x.2.2=(ms,U))∨(x.1=1∧x.2.1=tn∧x.2.2=fldF (ms,U) [sn]∧i≠sn)∨(x.1=2∧x.2.2=fldF (ms,U) [sn,tn]∧i∉[sn,tn])) (fun x=>2 - x.1) (0,sn,(ms,U)) ?_ (.inl ⟨rfl,rfl,rfl⟩) ?_
  ·rw[hS4]
   exact wk_lk (by simp[lk]) (fun p c q=>by rw[← q];simp[encN,encE,h2,hen,htn2]) (fun _ _ q=>q) rfl rfl
  rintro⟨j,a,⟨bm,bU⟩⟩ (⟨e1,e2,e3⟩ | ⟨e1,e2,e3,hn0⟩ | ⟨e1,e3,hn0⟩)
  ·simp only at e1 e2 e3
   subst e1
   replace e2:=e2.symm
   subst e2
   cases e3
   have bl:=msl
   rw[hS4]
   refine aw_of ?_
   by_cases hx:sn=i
   ·have hb:=hitk _ hx (by rw[tg];simp)
    subst hb
    simp -implicitDefEqProofs (disch:=omega) only[Wz,seval,encN,hx]
    exact fin _ _
   have hxi:¬ (sn:Int)=(i:Int):=by omega
   have gt:=map_getBo (l:=ms) (i:=sn) (by omega)
   cases hb:ms.getD sn false with
   | true =>
    rw[hb] at gt
    have pz:pushF (ms,U) sn=(ms,U):=by unfold pushF;simp only[hb];rfl
    simp -implicitDefEqProofs (disch:=omega) only[Wz,seval,encN,gt,hNx,hxN,hyN,rowI,encNr,encE,htn2,h2,hen,hr,hsn,hemd,encBo,bl]
    refine⟨(1,tn,(ms,U)),?_,by simp only;omega,by rw[hS4];exact wk_lk (by simp[lk]) (fun p c q=>by rw[← q];simp[encN,encE,h2,hen,htn2]) (fun p c q=>by first | exact q | (rw[← q];simp[rowI,List.map_set,encBo,lk,hNx])) rfl rfl⟩
    exact .inr (.inl ⟨rfl,rfl,pz.symm,fun z=>hx z.symm⟩)
   | false =>
    rw[hb] at gt
    have pz:pushF (ms,U) sn=((ms.set sn true),(U++[sn])):=by unfold pushF;simp only[hb];rfl
    have hfit:fits (U.length+1) 8:=fits_of' (by omega) (by omega)
    simp -implicitDefEqProofs (disch:=omega) only[Wz,seval,encN,gt,hNx,hxN,hyN,rowI,encNr,encE,htn2,h2,hen,hr,hsn,hemd,encBo,bl,hfit,List.mem_singleton,forall_eq,List.length_set]
    refine⟨(1,tn,((ms.set sn true),(U++[sn]))),?_,by simp only;omega,by rw[hS4];exact wk_lk (by simp[lk]) (fun p c q=>by rw[← q];simp[encN,encE,h2,hen,htn2]) (fun p c q=>by first | exact q | (rw[← q];simp[rowI,List.map_set,encBo,lk,hNx])) rfl rfl⟩
    exact .inr (.inl ⟨rfl,rfl,pz.symm,fun z=>hx z.symm⟩)
  ·simp only at e1 e2 e3
   subst e1
   replace e2:=e2.symm
   subst e2
   have mk2:=Mk1.fold (s:=(ms,U)) [sn] (fun a ha=>by simp only[List.mem_singleton] at ha;rw[ha,show (ms,U).1.length=n.states.length from msl];omega)
   rw[← e3] at mk2
   have bl:bm.length=n.states.length:=by have:=mk2.len;simp only at this;omega
   have mc2:=mk2.cnt
   simp only at mc2
   have hbU:bU.length≤20000000:=by omega
   rw[hS4]
   refine aw_of ?_
   by_cases hx:tn=i
   ·have hb:=hitk _ hx (by rw[tg];simp)
    subst hb
    simp -implicitDefEqProofs (disch:=omega) only[Wz,seval,encN,hx]
    exact fin _ _
   have hxi:¬ (tn:Int)=(i:Int):=by omega
   have gt:=map_getBo (l:=bm) (i:=tn) (by omega)
   cases hb:bm.getD tn false with
   | true =>
    rw[hb] at gt
    have pz:pushF (bm,bU) tn=(bm,bU):=by unfold pushF;simp only[hb];rfl
    simp -implicitDefEqProofs (disch:=omega) only[Wz,seval,encN,gt,hNx,hxN,hyN,rowI,encNr,encE,htn2,h2,hen,hr,hsn,hemd,encBo,bl]
    refine⟨(2,tn,(bm,bU)),?_,by simp only;omega,by rw[hS4];exact wk_lk (by simp[lk]) (fun p c q=>by rw[← q];simp[encN,encE,h2,hen,htn2]) (fun p c q=>by first | exact q | (rw[← q];simp[rowI,List.map_set,encBo,lk,hNx])) rfl rfl⟩
    exact .inr (.inr ⟨rfl,by rw[show fldF (ms,U) [sn,tn]=pushF (fldF (ms,U) [sn]) tn from rfl,← e3];exact pz.symm,by simp;exact⟨hn0,fun z=>hx z.symm⟩⟩)
   | false =>
    rw[hb] at gt
    have pz:pushF (bm,bU) tn=((bm.set tn true),(bU++[tn])):=by unfold pushF;simp only[hb];rfl
    have hfit:fits (bU.length+1) 8:=fits_of' (by omega) (by omega)
    simp -implicitDefEqProofs (disch:=omega) only[Wz,seval,encN,gt,hNx,hxN,hyN,rowI,encNr,encE,htn2,h2,hen,hr,hsn,hemd,encBo,bl,hfit,List.mem_singleton,forall_eq,List.length_set]
    refine⟨(2,tn,((bm.set tn true),(bU++[tn]))),?_,by simp only;omega,by rw[hS4];exact wk_lk (by simp[lk]) (fun p c q=>by rw[← q];simp[encN,encE,h2,hen,htn2]) (fun p c q=>by first | exact q | (rw[← q];simp[rowI,List.map_set,encBo,lk,hNx])) rfl rfl⟩
    exact .inr (.inr ⟨rfl,by rw[show fldF (ms,U) [sn,tn]=pushF (fldF (ms,U) [sn]) tn from rfl,← e3];exact pz.symm,by simp;exact⟨hn0,fun z=>hx z.symm⟩⟩)
  ·simp only at e1 e3
   subst e1
   obtain⟨z1,z2⟩:=nxt _ tg hn0 bm bU e3
   rw[hS4]
   refine aw_of ?_
   simp -implicitDefEqProofs (disch:=omega) only[Wz,seval,encN]
   exact⟨(q+1,(bm,bU),y+1),⟨by simp only;omega,z1,z2,by simp only;omega⟩,by simp only;omega,by rw[hS3];exact wk_lk (by simp[lk]) lkA1 (fun _ _ q=>q) rfl rfl⟩
end Go.Proofs.YtbbnfbnicacdoaaGreat
end
section
namespace Go.Proofs.YtbbnfbnicacdoaaGreat
open Go Go.Ab
set_option maxRecDepth 20000
set_option maxHeartbeats 8000000
def tgC (e:Ed):List Nat:=if e.op.1=2 then [e.n.toNat] else []
def preC (n:Nt)(r s k:Nat):List Nat:=(List.range s).flatMap (fun j=>if (n.states.getD j default).rule=(r:Int) then (n.states.getD j default).edges.flatMap tgC else [])++(if (n.states.getD s default).rule=(r:Int) then ((n.states.getD s default).edges.take k).flatMap tgC else [])
def rwC (n:Nt)(r:Nat):List Nat:=(List.range n.states.length).flatMap fun j=>if (n.states.getD j default).rule=(r:Int) then (n.states.getD j default).edges.flatMap tgC else []
def gC' (n:Nt):List (List Nat):=(List.range n.rules.length).map (rwC n)
theorem preC_zero{n:Nt}{r:Nat}:preC n r 0 0=[]:=by unfold preC;simp
theorem preC_all{n:Nt}{r:Nat}:preC n r n.states.length 0=rwC n r:=by unfold preC rwC;simp
theorem preC_skip{n:Nt}{r s:Nat}(h:(n.states.getD s default).rule≠(r:Int)):preC n r (s+1) 0=preC n r s 0:=by
 unfold preC
 simp only[List.range_succ,List.flatMap_append,List.flatMap_cons,List.flatMap_nil,List.take_zero,ite_self,List.append_nil,if_neg h]
theorem preC_row{n:Nt}{r s:Nat}(h:(n.states.getD s default).rule=(r:Int)):preC n r (s+1) 0=preC n r s (n.states.getD s default).edges.length:=by
 unfold preC
 simp only[List.range_succ,List.flatMap_append,List.flatMap_cons,List.flatMap_nil,List.take_zero,ite_self,List.append_nil,if_pos h,List.take_length]
theorem preC_step{n:Nt}{r s q:Nat}{e:Ed}(h:(n.states.getD s default).rule=(r:Int))(hq:q<(n.states.getD s default).edges.length)(he:(n.states.getD s default).edges.getD q default=e):preC n r s (q+1)=preC n r s q++tgC e:=by
 unfold preC
 rw[if_pos h,if_pos h,List.take_add_one,getD_get hq,Option.toList_some,List.flatMap_append,he,List.append_assoc]
 simp
theorem gC'_get{n:Nt}{r:Nat}(h:r<n.rules.length):(gC' n).getD r []=rwC n r:=by
 unfold gC'
 rw[List.getD_eq_getElem?_getD,List.getElem?_map,List.getElem?_range h];rfl
theorem gC'_len{n:Nt}:(gC' n).length=n.rules.length:=by simp[gC']
theorem gC'_out{n:Nt}{r:Nat}(h:¬ r<n.rules.length):(gC' n).getD r []=[]:=by
 unfold gC'
 rw[List.getD_eq_getElem?_getD,List.getElem?_map,List.getElem?_eq_none (by simpa using h)];rfl
theorem rwC_mem{n:Nt}{r v:Nat}:v∈rwC n r↔∃ s e,s<n.states.length∧(n.states.getD s default).rule=(r:Int)∧e∈(n.states.getD s default).edges∧e.op.1=2∧v=e.n.toNat:=by
 unfold rwC
 constructor
 ·intro h
  obtain⟨s,hs,hv⟩:=List.mem_flatMap.1 h
  split at hv
  ·rename_i hr
   obtain⟨e,he,hv⟩:=List.mem_flatMap.1 hv
   unfold tgC at hv
   split at hv
   ·rename_i h2
    exact⟨s,e,List.mem_range.1 hs,hr,he,h2,by simpa using hv⟩
   ·cases hv
  ·cases hv
 ·rintro⟨s,e,hs,hr,he,h2,rfl⟩
  refine List.mem_flatMap.2 ⟨s,List.mem_range.2 hs,?_⟩
  rw[if_pos hr]
  refine List.mem_flatMap.2 ⟨e,he,?_⟩
  unfold tgC
  rw[if_pos h2];simp
theorem preC_sub{n:Nt}{r s k v:Nat}(hs:s<n.states.length)(hk:k≤(n.states.getD s default).edges.length)(h:v∈preC n r s k):v∈preC n r n.states.length 0:=by
 rw[preC_all]
 unfold preC at h
 unfold rwC
 rcases List.mem_append.1 h with h | h
 ·obtain⟨j,hj,hv⟩:=List.mem_flatMap.1 h
  exact List.mem_flatMap.2 ⟨j,List.mem_range.2 (Nat.lt_trans (List.mem_range.1 hj) hs),hv⟩
 ·refine List.mem_flatMap.2 ⟨s,List.mem_range.2 hs,?_⟩
  split at h
  ·rename_i hr
   rw[if_pos hr]
   obtain⟨e,he,hv⟩:=List.mem_flatMap.1 h
   exact List.mem_flatMap.2 ⟨e,List.mem_of_mem_take he,hv⟩
  ·cases h
section
variable {n:Nt} (w:Wf n) (ok:NtOk n)
include w ok
theorem rwC_lt{r v:Nat}(h:v∈rwC n r):v<n.rules.length:=by
 have _:=ok
 obtain⟨s,e,hs,_,he,h2,rfl⟩:=rwC_mem.1 h
 have:=w.call hs he h2
 omega
theorem preC_lt{r s k v:Nat}(hs:s≤n.states.length)(hs2:s<n.states.length∨k=0)(h:v∈preC n r s k):v<n.rules.length:=by
 have _:=ok
 have one:∀ j,j<n.states.length→∀ e∈(n.states.getD j default).edges,v∈tgC e→v<n.rules.length:=fun j hj e he hv=>by
  unfold tgC at hv
  split at hv
  ·rename_i h2
   have:=w.call hj he h2
   simp only[List.mem_singleton] at hv
   omega
  ·cases hv
 unfold preC at h
 rcases List.mem_append.1 h with h | h
 ·obtain⟨j,hj,hv⟩:=List.mem_flatMap.1 h
  split at hv
  ·obtain⟨e,he,hv⟩:=List.mem_flatMap.1 hv
   exact one j (by have:=List.mem_range.1 hj;omega) e he hv
  ·cases hv
 ·split at h
  ·obtain⟨e,he,hv⟩:=List.mem_flatMap.1 h
   rcases hs2 with q | q
   ·exact one s q e (List.mem_of_mem_take he) hv
   ·subst q;simp at he
  ·cases h
theorem gC'_ok:GOk (gC' n):=by
 refine⟨by rw[gC'_len];have:=w.nru;omega,fun l hl=>?_,fun l hl j hj=>?_⟩
 ·obtain⟨r,hr,rfl⟩:=List.mem_map.1 hl
  have h1:=flatMap_len (f:=fun j=>if (n.states.getD j default).rule=(r:Int) then (n.states.getD j default).edges.flatMap tgC else []) (c:=1000000000) (l:=List.range n.states.length) (fun j _=>by
   split
   ·have h2:=flatMap_len (f:=tgC) (c:=1) (l:=(n.states.getD j default).edges) (fun e _=>by unfold tgC;split <;> simp)
    have h3:=ok.edgesD j
    omega
   ·simp)
  have h2:=w.nst
  rw[List.length_range] at h1
  unfold rwC
  omega
 ·obtain⟨r,hr,rfl⟩:=List.mem_map.1 hl
  rw[gC'_len]
  exact rwC_lt w ok hj
theorem gC_memR{r v:Nat}:v∈(gC n).getD r []↔r<n.rules.length∧v∈rwC n r∧(n.rules.getD v default).lexer=true:=by
 have hb:=psC_bnd w ok (i:=n.states.length) (k:=0) (.inr ⟨rfl,rfl⟩)
 unfold gC
 rw[gOf_mem fun p hp=>(hb.1 p hp).1]
 constructor
 ·intro h
  have h0:=(hb.1 _ h).1
  obtain⟨s,e,hs,he,hp⟩:=psAt_edge w ok (.inr ⟨rfl,rfl⟩) h
  unfold prC at hp
  split at hp
  ·rename_i h2
   simp only[List.mem_singleton,Prod.mk.injEq] at hp
   obtain⟨rfl,rfl⟩:=hp
   have:=w.st s hs
   exact⟨h0,rwC_mem.2 ⟨s,e,hs,by omega,he,h2.1,rfl⟩,h2.2⟩
  ·cases hp
 ·rintro⟨h0,h1,h3⟩
  obtain⟨s,e,hs,hr,he,h2,rfl⟩:=rwC_mem.1 h1
  refine psAt_all _ n hs he ?_
  unfold prC
  rw[if_pos ⟨h2,h3⟩,hr]
  simp
theorem lex_row{r v:Nat}(h:v∈rwC n r):(n.rules.getD v default).lexer=(n.rules.getD r default).lexer:=by
 have _:=ok
 obtain⟨s,e,hs,hr,he,h2,rfl⟩:=rwC_mem.1 h
 have hk:=(w.ed s hs e he).2.2.1
 unfold kindV at hk
 rw[if_neg (by omega),if_neg (by omega),if_pos h2,hr] at hk
 unfold kd2 at hk
 simp only[Bool.and_eq_true,beq_iff_eq,Int.toNat_natCast] at hk
 exact hk.2.1
theorem ringC_iff:ringV (gC n)=true↔∃ i,i<n.rules.length∧(n.rules.getD i default).lexer=true∧Rch (gC' n) i i:=by
 have a1:=acyc_iff (gC_ok w ok)
 have up:∀ i j,Rch (gC n) i j→Rch (gC' n) i j∧(n.rules.getD j default).lexer=true:=fun i j h=>by
  induction h with
  | one q=>obtain⟨q1,q2,q3⟩:=(gC_memR w ok).1 q;exact⟨.one (by rw[gC'_get q1];exact q2),q3⟩
  | step _ q ih=>obtain⟨q1,q2,q3⟩:=(gC_memR w ok).1 q;exact⟨.step ih.1 (by rw[gC'_get q1];exact q2),q3⟩
 have inrow:∀ s v,v∈(gC' n).getD s []→s<n.rules.length∧v∈rwC n s:=fun s v h=>by
  by_cases hs:s<n.rules.length
  ·rw[gC'_get hs] at h;exact⟨hs,h⟩
  ·rw[gC'_out hs] at h;cases h
 have dn:∀ i j,(n.rules.getD i default).lexer=true→Rch (gC' n) i j→Rch (gC n) i j∧(n.rules.getD j default).lexer=true:=fun i j hl h=>by
  induction h with
  | one q =>
   obtain⟨q1,q2⟩:=inrow _ _ q
   have:=lex_row w ok q2
   exact⟨.one ((gC_memR w ok).2 ⟨q1,q2,by rw[this];exact hl⟩),by rw[this];exact hl⟩
  | step _ q ih =>
   obtain⟨q1,q2⟩:=inrow _ _ q
   have:=lex_row w ok q2
   exact⟨.step ih.1 ((gC_memR w ok).2 ⟨q1,q2,by rw[this];exact ih.2⟩),by rw[this];exact ih.2⟩
 constructor
 ·intro h
  have na:¬ Acyc (gC n):=fun q=>by rw[ringV_false q] at h;cases h
  rw[a1] at na
  have:∃ i,Rch (gC n) i i:=by
   by_cases c:∃ i,Rch (gC n) i i
   ·exact c
   ·exact absurd (fun i q=>c ⟨i,q⟩) na
  obtain⟨i,hi⟩:=this
  have hi':=up i i hi
  exact⟨i,by have:=hi'.1.lt (gC'_ok w ok);rwa [gC'_len] at this,hi'.2,hi'.1⟩
 ·rintro⟨i,_,hl,hi⟩
  exact ringV_true fun q=>a1.1 q i (dn i i hl hi).1
end
theorem rcalls_spec(n:Nt)(w:Wf n)(ok:NtOk n)(v:Bool)(hv:v=true↔∃ i,i<n.rules.length∧(n.rules.getD i default).lexer=true∧Rch (gC' n) i i) :
  PCall Tryz.prog 48 [.agg (encN n)] (.lit (.bool v)):=by
 have hst:=w.nst
 have hru:=w.nru
 have fin:∀ h (b:Bool),Expo h (.lit (.bool b)) (.lit (.bool b)):=fun h b=>expo_pure (.lit _)
 have hG:=gC'_ok w ok
 have hGL:=gC'_len (n:=n)
 obtain⟨G,hGG⟩:∃ G,gC' n=G:=⟨_,rfl⟩
 rw[hGG] at hG hGL hv
 refine PCall_of_SCall (SCall_introK Tryz.func48 rfl Tryz.ntmps48 (rs:=[.tmp 2]) rfl (by simp) ?_)
 obtain⟨S1,hS1⟩:∃ S1:Nat × Nat→St,∀ i N,S1 (i,N)=⟨[(3,.lit (.int .i64 (i:Int))),(1,.ptr 0 0)],⟨[(0,encN n)],[],N⟩,101⟩:=⟨fun x=>⟨[(3,.lit (.int .i64 (x.1:Int))),(1,.ptr 0 0)],⟨[(0,encN n)],[],x.2⟩,101⟩,fun _ _=>rfl⟩
 refine aw_of ?_
 simp -implicitDefEqProofs (disch:=omega) only[Wz,seval,encN]
 refine aw_measA S1 (fun x=>x.1≤n.rules.length∧1≤x.2∧∀ j,j<x.1→(n.rules.getD j default).lexer=true→¬ Rch G j j) (fun x=>n.rules.length - x.1) (0,1) ?_ ⟨Nat.zero_le _,Nat.le_refl _,fun j q=>absurd q (Nat.not_lt_zero _)⟩ ?_
 ·rw[hS1]
  exact wk_lk (by simp[lk]) (fun _ _ q=>q) (fun _ _ q=>q) rfl rfl
 rintro⟨i,N⟩ ⟨hi,hN,hno⟩
 simp only at hi hN hno
 rw[hS1]
 rcases Nat.lt_or_ge i n.rules.length with hlt | hge
 rotate_left
 ·have e:i=n.rules.length:=by omega
  subst e
  have hb:v=false:=by
   cases v with
   | false=>rfl
   | true=>obtain⟨j,h1,h2,h3⟩:=hv.1 rfl;exact absurd h3 (hno j h1 h2)
  subst hb
  refine aw_of ?_
  simp -implicitDefEqProofs (disch:=omega) only[Wz,seval,encN]
  exact fin _ _
 obtain⟨lr,hlr⟩:∃ lr,n.rules.getD i default=lr:=⟨_,rfl⟩
 cases hlx:lr.lexer with
 | false =>
  refine aw_of ?_
  simp -implicitDefEqProofs (disch:=omega) only[Wz,seval,encN,hlr,encNr,hlx]
  exact⟨(i+1,N),⟨by simp only;omega,hN,lt_stepP hno fun q=>by rw[hlr,hlx] at q;cases q⟩,by simp only;omega,by rw[hS1];exact wk_lk (by simp[lk]) (fun _ _ q=>q) (fun _ _ q=>q) rfl rfl⟩
 | true =>
 have hit:Rch G i i→v=true:=fun q=>hv.2 ⟨i,hlt,by rw[hlr];exact hlx,q⟩
 refine aw_seq ?_
 refine aw_of ?_
 simp -implicitDefEqProofs (disch:=omega) only[Wz,seval,encN]
 refine aw_seq ?_
 refine aw_block' ?_
 refine aw_seq ?_
 refine aw_of ?_
 simp -implicitDefEqProofs (disch:=omega) only[Wz,seval,encN,hlr,encNr,hlx]
 refine aw_seq ?_
 refine aw_of ?_
 simp -implicitDefEqProofs (disch:=omega) only[Wz,seval,encN]
 refine aw_seq ?_
 refine aw_regionB ?_
 simp -implicitDefEqProofs (disch:=omega) only[Wz,seval,awoB]
 refine awop_build (ps:=[(0,.lit (.int .i64 (i:Int)))]) (z:=[.lit (.int .i64 0)]) (rows:=[rowI i]) ty41 rfl ty3 rfl ⟨rfl,by decide⟩ (by decide) rfl rfl ?_
 simp -implicitDefEqProofs (disch:=omega) only[Wz,seval,awoB]
 refine aw_of ?_
 simp -implicitDefEqProofs (disch:=omega) only[Wz,seval]
 obtain⟨S2,hS2⟩:∃ S2:(List Bool × List Nat) × Nat × Nat→St,∀ m T t nx,S2 ((m,T),t,nx)=⟨[(5,.own t T.length),(4,.own N n.rules.length),(3,.lit (.int .i64 (i:Int))),(1,.ptr 0 0)],⟨[(0,encN n)],[(N,⟨m.map encBo,0,1⟩),(t,⟨T.map rowI,0,1⟩)],nx⟩,101⟩:=⟨fun x=>⟨[(5,.own x.2.1 x.1.2.length),(4,.own N n.rules.length),(3,.lit (.int .i64 (i:Int))),(1,.ptr 0 0)],⟨[(0,encN n)],[(N,⟨x.1.1.map encBo,0,1⟩),(x.2.1,⟨x.1.2.map rowI,0,1⟩)],x.2.2⟩,101⟩,fun _ _ _ _=>rfl⟩
 refine aw_measA S2 (fun x=>RgD G i x.1∧N<x.2.1∧x.2.1<x.2.2) (fun x=>2 * x.1.1.count false+x.1.2.length) ((List.replicate n.rules.length false,[i]),N+1,N+2) ?_ ⟨by have:=RgD.init (G:=G) (i:=i) (by omega);rwa [hGL] at this,by simp only;omega,by simp only;omega⟩ ?_
 ·rw[hS2]
  exact wk_lk (by simp[lk]) (fun _ _ q=>q) (fun p c q=>by first | exact q | (rw[← q];simp[List.map_replicate,encBo])) rfl rfl
 rintro⟨⟨m,todo⟩,t,nx⟩ ⟨hI,htN,htn⟩
 simp only at htN htn hI
 rw[hS2]
 refine aw_of ?_
 have hml:m.length=n.rules.length:=by rw[← hGL];exact hI.fr.len
 rcases List.eq_nil_or_concat todo with rfl | ⟨T,k,rfl⟩
 ·have nr:=hI.last hG
  simp -implicitDefEqProofs (disch:=omega) only[Wz,seval]
  refine aw_of ?_
  simp -implicitDefEqProofs (disch:=omega) only[Wz,seval]
  exact⟨(i+1,nx),⟨by simp only;omega,by simp only;omega,lt_stepP hno fun _=>nr⟩,by simp only;omega,by rw[hS1];exact wk_lk (by simp[lk]) (fun _ _ q=>q) (fun _ _ q=>by cases q) rfl rfl⟩
 simp only[List.concat_eq_append] at hI ⊢
 have hNt:(N=t)=False:=by simp;omega
 have htN':(t=N)=False:=by simp;omega
 have hk:=(hI.fr.todo k (by simp)).1
 have hc:=hI.fr.cnt
 simp only[List.length_append,List.length_singleton] at hc
 have g1:((T.map rowI)++[[AV.lit (.int .i64 (k:Int))]])[T.length]? = some [AV.lit (.int .i64 (k:Int))]:=by rw[List.getElem?_append_right (by simp)];simp
 have i1:(((T.length+1:Nat):Int) - 1).toNat=T.length:=by omega
 simp -implicitDefEqProofs (disch:=omega) only[Wz,seval,hNt,htN',List.map_append,List.length_append,List.length_singleton,g1,i1,rowI]
 refine stepK_cut (k:=⟨T.map rowI++[[AV.lit (.int .i64 (k:Int))]],0,1⟩) rfl rfl ty41 rfl ty3 rfl (by simp[lk,hNt]) (by simp) (by omega) (by omega) (by simp) ?_
 have tk1:(T.map rowI++[[AV.lit (.int .i64 (k:Int))]]).take T.length=T.map rowI:=by rw[List.take_append_of_le_length (by simp),List.take_of_length_le (by simp)]
 have hkL:k<n.rules.length:=by omega
 have hrow:G.getD k []=preC n k n.states.length 0:=by rw[← hGG,gC'_get hkL];exact preC_all.symm
 simp -implicitDefEqProofs (disch:=omega) only[Wz,seval,Hp.cut,dl,hNt,i1,tk1]
 have hmk:=fun(p:List Nat) (hp:∀ a∈p,a<n.rules.length)=>Mk1.fold (s:=(m,T)) p (fun a ha=>by rw[show (m,T).1.length=n.rules.length from hml];exact hp a ha)
 have hcl2:m.count false≤n.rules.length:=by rw[← hml];exact List.count_le_length
 obtain⟨S3,hS3⟩:∃ S3:Nat × (List Bool × List Nat) × Nat→St,∀ q ms U y,S3 (q,(ms,U),y)=⟨[(7,.lit (.int .i64 (q:Int))),(6,.lit (.int .i64 (k:Int))),(5,.own nx U.length),(4,.own N n.rules.length),(3,.lit (.int .i64 (i:Int))),(1,.ptr 0 0)],⟨[(0,encN n)],[(N,⟨ms.map encBo,0,1⟩),(nx,⟨U.map rowI,0,1⟩)],y⟩,101⟩:=⟨fun x=>⟨[(7,.lit (.int .i64 (x.1:Int))),(6,.lit (.int .i64 (k:Int))),(5,.own nx x.2.1.2.length),(4,.own N n.rules.length),(3,.lit (.int .i64 (i:Int))),(1,.ptr 0 0)],⟨[(0,encN n)],[(N,⟨x.2.1.1.map encBo,0,1⟩),(nx,⟨x.2.1.2.map rowI,0,1⟩)],x.2.2⟩,101⟩,fun _ _ _ _=>rfl⟩
 refine aw_measA S3 (fun x=>x.1≤n.states.length∧x.2.1=fldF (m,T) (preC n k x.1 0)∧i∉preC n k x.1 0∧nx+1≤x.2.2) (fun x=>n.states.length - x.1) (0,(m,T),nx+1) ?_ ⟨Nat.zero_le _,by rw[preC_zero];rfl,by rw[preC_zero];simp,Nat.le_refl _⟩ ?_
 ·rw[hS3]
  exact wk_lk (by simp[lk]) (fun _ _ q=>q) (fun p c q=>by first | exact q | (rw[← q];simp[lk,hNt])) rfl rfl
 rintro⟨s,⟨ms,U⟩,y⟩ ⟨hsL,hst,hni,hy⟩
 simp only at hsL hst hni hy
 rw[hS3]
 refine aw_of ?_
 have hNx:(N=nx)=False:=by simp;omega
 have hxN:(nx=N)=False:=by simp;omega
 rcases Nat.lt_or_ge s n.states.length with hsl | hge
 rotate_left
 ·have e:s=n.states.length:=by omega
  subst e
  rw[← hrow] at hst hni
  have hnext:=hI.next hG hni
  rw[← hst] at hnext
  have mk:=hmk (G.getD k []) (fun a ha=>by rw[← hGL];exact(hG.get (k:=k)).2 a ha)
  rw[← hst] at mk
  have q1:=mk.cnt
  have q2:=mk.le
  simp only at q1 q2
  simp -implicitDefEqProofs (disch:=omega) only[Wz,seval,encN]
  exact⟨((ms,U),nx,y),⟨hnext,by simp only;omega,by simp only;omega⟩,by simp only[List.length_append,List.length_singleton];omega,by rw[hS2];exact wk_lk (by simp[lk]) (fun _ _ q=>q) (fun _ _ q=>q) rfl rfl⟩
 obtain⟨x,hx⟩:∃ x,n.states.getD s default=x:=⟨_,rfl⟩
 have hxe:=(ok.edges x (by rw[← hx];exact getD_mem hsl)).1
 have hxr:=w.st s hsl
 rw[hx] at hxr
 obtain⟨xr,hxr2⟩:∃ xr:Nat,x.rule=(xr:Int):=⟨x.rule.toNat,by omega⟩
 by_cases hxk:¬ xr=k
 ·have pe:preC n k (s+1) 0=preC n k s 0:=preC_skip (by rw[hx,hxr2];omega)
  have hne:¬ (xr:Int)=(k:Int):=by omega
  simp -implicitDefEqProofs (disch:=omega) only[Wz,seval,encN,hx,encSt,hxr2]
  exact⟨(s+1,(ms,U),y),⟨by simp only;omega,by rw[pe];exact hst,by rw[pe];exact hni,hy⟩,by simp only;omega,by rw[hS3];exact wk_lk (by simp[lk]) (fun _ _ q=>q) (fun _ _ q=>q) rfl rfl⟩
 have hxk:xr=k:=by omega
 subst hxk
 have hxx:(n.states.getD s default).rule=(xr:Int):=by rw[hx,hxr2]
 simp -implicitDefEqProofs (disch:=omega) only[Wz,seval,encN,hx,encSt,hxr2]
 obtain⟨S4,hS4⟩:∃ S4:Nat × (List Bool × List Nat) × Nat→St,∀ q ms U y,S4 (q,(ms,U),y)=⟨[(8,.lit (.int .i64 (q:Int))),(7,.lit (.int .i64 (s:Int))),(6,.lit (.int .i64 (xr:Int))),(5,.own nx U.length),(4,.own N n.rules.length),(3,.lit (.int .i64 (i:Int))),(1,.ptr 0 0)],⟨[(0,encN n)],[(N,⟨ms.map encBo,0,1⟩),(nx,⟨U.map rowI,0,1⟩)],y⟩,101⟩:=⟨fun x=>⟨[(8,.lit (.int .i64 (x.1:Int))),(7,.lit (.int .i64 (s:Int))),(6,.lit (.int .i64 (xr:Int))),(5,.own nx x.2.1.2.length),(4,.own N n.rules.length),(3,.lit (.int .i64 (i:Int))),(1,.ptr 0 0)],⟨[(0,encN n)],[(N,⟨x.2.1.1.map encBo,0,1⟩),(nx,⟨x.2.1.2.map rowI,0,1⟩)],x.2.2⟩,101⟩,fun _ _ _ _=>rfl⟩
 refine aw_measA S4 (fun z=>z.1≤x.edges.length∧z.2.1=fldF (m,T) (preC n xr s z.1)∧i∉preC n xr s z.1∧nx+1≤z.2.2) (fun z=>x.edges.length - z.1) (0,(ms,U),y) ?_ ⟨Nat.zero_le _,hst,hni,hy⟩ ?_
 ·rw[hS4]
  exact wk_lk (by simp[lk]) (fun _ _ q=>q) (fun _ _ q=>q) rfl rfl
 clear hst hni hy
 rintro⟨q,⟨bm,bU⟩,y'⟩ ⟨hq,hst,hni,hy⟩
 simp only at hq hst hni hy
 rw[hS4]
 refine aw_of ?_
 rcases Nat.lt_or_ge q x.edges.length with hql | hge
 rotate_left
 ·have e:q=x.edges.length:=by omega
  subst e
  have pe:preC n xr (s+1) 0=preC n xr s x.edges.length:=by rw[← hx];exact preC_row hxx
  simp -implicitDefEqProofs (disch:=omega) only[Wz,seval,encN,hx,encSt]
  exact⟨(s+1,(bm,bU),y'),⟨by simp only;omega,by rw[pe];exact hst,by rw[pe];exact hni,hy⟩,by simp only;omega,by rw[hS3];exact wk_lk (by simp[lk]) (fun _ _ q=>q) (fun _ _ q=>q) rfl rfl⟩
 obtain⟨e,he⟩:∃ e,x.edges.getD q default=e:=⟨_,rfl⟩
 have hem2:e∈(n.states.getD s default).edges:=by rw[hx,← he];exact getD_mem hql
 have hpre:preC n xr s (q+1)=preC n xr s q++tgC e:=preC_step hxx (by rw[hx];exact hql) (by rw[hx];exact he)
 have rowlt:∀ a∈preC n xr s q,a<n.rules.length:=fun a ha=>preC_lt w ok (Nat.le_of_lt hsl) (.inl hsl) ha
 have mkq:=hmk _ rowlt
 rw[← hst] at mkq
 have bl:bm.length=n.rules.length:=by have:=mkq.len;simp only at this;omega
 have mkc:=mkq.cnt
 simp only at mkc
 have hbc:bm.count false≤n.rules.length:=by rw[← bl];exact List.count_le_length
 have hUl:bU.length≤10000000:=by omega
 have hyN:(N=y')=False:=by simp;omega
 by_cases h2:¬ e.op.1=2
 ·have tg:tgC e=[]:=by unfold tgC;rw[if_neg h2]
  rw[tg,List.append_nil] at hpre
  simp -implicitDefEqProofs (disch:=omega) only[Wz,seval,encN,encSt,hx,he,encE]
  exact⟨(q+1,(bm,bU),y'+1),⟨by simp only;omega,by rw[hpre];exact hst,by rw[hpre];exact hni,by simp only;omega⟩,by simp only;omega,by rw[hS4];exact wk_lk (by simp[lk]) lkA1 (fun _ _ q=>q) rfl rfl⟩
 have h2:e.op.1=2:=by omega
 have hcl:=w.call hsl hem2 h2
 obtain⟨en,hen⟩:∃ en:Nat,e.n=(en:Int):=⟨e.n.toNat,by omega⟩
 have tg:tgC e=[en]:=by unfold tgC;rw[if_pos h2,hen];rfl
 rw[tg] at hpre
 by_cases hxi:en=i
 ·have hb:=hit (hI.hit (by rw[hrow];exact preC_sub hsl (k:=q+1) (by rw[hx];exact hql) (by rw[hpre,hxi];simp)))
  subst hb
  simp -implicitDefEqProofs (disch:=omega) only[Wz,seval,encN,encSt,hx,he,encE,h2,hen,hxi]
  exact fin _ _
 have hxi':¬ (en:Int)=(i:Int):=by omega
 have gt:=map_getBo (l:=bm) (i:=en) (by omega)
 cases hb:bm.getD en false with
 | true =>
  rw[hb] at gt
  have pz:pushF (bm,bU) en=(bm,bU):=by unfold pushF;simp only[hb];rfl
  simp -implicitDefEqProofs (disch:=omega) only[Wz,seval,encN,encSt,hx,he,encE,h2,hen,gt,hNx,hxN,hyN,rowI,bl]
  exact⟨(q+1,(bm,bU),y'+1),⟨by simp only;omega,by rw[hpre,fldF_app,← hst];exact pz.symm,by rw[hpre];simp;exact⟨hni,fun z=>hxi z.symm⟩,by simp only;omega⟩,by simp only;omega,by rw[hS4];exact wk_lk (by simp[lk]) lkA1 (fun p c q=>by first | exact q | (rw[← q];simp[rowI,List.map_set,encBo,lk,hNx])) rfl rfl⟩
 | false =>
  rw[hb] at gt
  have hfit:fits (bU.length+1) 8:=fits_of' (by omega) (by omega)
  have pz:pushF (bm,bU) en=((bm.set en true),(bU++[en])):=by unfold pushF;simp only[hb];rfl
  simp -implicitDefEqProofs (disch:=omega) only[Wz,seval,encN,encSt,hx,he,encE,h2,hen,gt,hNx,hxN,hyN,rowI,bl,hfit,List.mem_singleton,forall_eq,List.length_set]
  exact⟨(q+1,((bm.set en true),(bU++[en])),y'+1),⟨by simp only;omega,by rw[hpre,fldF_app,← hst];exact pz.symm,by rw[hpre];simp;exact⟨hni,fun z=>hxi z.symm⟩,by simp only;omega⟩,by simp only;omega,by rw[hS4];exact wk_lk (by simp[lk]) lkA1 (fun p c q=>by first | exact q | (rw[← q];simp[rowI,List.map_set,encBo,lk,hNx])) rfl rfl⟩
end Go.Proofs.YtbbnfbnicacdoaaGreat
end
section
namespace Go.Proofs.YtbbnfbnicacdoaaGreat
open Go Go.Ab
set_option maxRecDepth 20000
set_option maxHeartbeats 8000000
theorem Rc.trans{n:Nt}{go:Ed→Bool}{a b c:Nat}(h:Rc n go a b)(k:Rc n go b c):Rc n go a c:=by
 induction k with
 | base=>exact h
 | step _ h2 h3 h4 ih=>exact .step ih h2 h3 h4
theorem goE_false{em:List Bool}{e:Ed}:goE false em e=true:=rfl
def rlN (n:Nt)(s:Nat):Nat:=(n.states.getD s default).rule.toNat
section
variable {n:Nt} (w:Wf n) (ok:NtOk n)
include w ok
theorem gB_memR{t s:Nat}:s∈(gB n).getD t []↔∃ e,s<n.states.length∧e∈(n.states.getD s default).edges∧t=e.to.toNat:=by
 have hb:=psB_bnd w ok (i:=n.states.length) (k:=0) (.inr ⟨rfl,rfl⟩)
 unfold gB
 rw[gOf_mem fun p hp=>(hb.1 p hp).1]
 constructor
 ·intro h
  obtain⟨j,e,hj,he,hp⟩:=psAt_edge w ok (.inr ⟨rfl,rfl⟩) h
  unfold prB at hp
  simp only[List.mem_singleton,Prod.mk.injEq] at hp
  obtain⟨rfl,rfl⟩:=hp
  exact⟨e,hj,he,rfl⟩
 ·rintro⟨e,hs,he,rfl⟩
  exact psAt_all _ n hs he (by unfold prB;simp)
theorem rule_to{s:Nat}(hs:s<n.states.length){e:Ed}(he:e∈(n.states.getD s default).edges):(n.states.getD e.to.toNat default).rule=(n.states.getD s default).rule:=by
 have _:=ok
 have h:=(w.ed s hs e he).1
 unfold ofN at h
 simp only[Bool.and_eq_true,decide_eq_true_eq,beq_iff_eq] at h
 exact h.2.2
theorem ends_iff:endsV n=true↔∀ s,s<n.states.length→Rc n (goE false []) s (spN n (rlN n s)):=by
 have spr:∀ i,i<n.rules.length→(n.states.getD (spN n i) default).rule=(i:Int):=fun i hi=>by
  have h:=(w.ru i hi).2.1
  unfold ofN at h
  simp only[Bool.and_eq_true,decide_eq_true_eq,beq_iff_eq] at h
  exact h.2.2
 have bwd:∀ a b,Rc n (goE false []) a b→b=a∨Rch (gB n) b a:=fun a b h=>by
  induction h with
  | base=>exact .inl rfl
  | @step s e _ h2 h3 _ ih =>
   have m:s∈(gB n).getD e.to.toNat []:=(gB_memR w ok).2 ⟨e,h2,h3,rfl⟩
   rcases ih with q | q
   ·subst q;exact .inr (.one m)
   ·exact .inr (rch_tr (.one m) q)
 have fwd:∀ t s,Rch (gB n) t s→Rc n (goE false []) s t∧(n.states.getD s default).rule=(n.states.getD t default).rule:=fun t s h=>by
  induction h with
  | one m =>
   obtain⟨e,h1,h2,rfl⟩:=(gB_memR w ok).1 m
   exact⟨.step .base h1 h2 goE_false,(rule_to w ok h1 h2).symm⟩
  | step _ m ih =>
   obtain⟨e,h1,h2,h3⟩:=(gB_memR w ok).1 m
   subst h3
   exact⟨(Rc.step .base h1 h2 goE_false).trans ih.1,by rw[← ih.2];exact(rule_to w ok h1 h2).symm⟩
 unfold endsV
 rw[@decide_eq_true_iff _ (Classical.propDecidable _)]
 constructor
 ·intro h s hs
  obtain⟨i,hi,q⟩:=h s hs
  have e:(n.states.getD s default).rule=(i:Int)∧Rc n (goE false []) s (spN n i):=by
   rcases q with q | q
   ·rw[q];exact⟨spr i hi,.base⟩
   ·have:=fwd _ _ q
    exact⟨by rw[this.2];exact spr i hi,this.1⟩
  unfold rlN
  rw[e.1,Int.toNat_natCast]
  exact e.2
 ·intro h s hs
  have hr:=w.st s hs
  refine⟨rlN n s,by unfold rlN;omega,?_⟩
  rcases bwd _ _ (h s hs) with q | q
  ·exact .inl q.symm
  ·exact .inr q
end
theorem rCheck_spec(n:Nt)(ok:NtOk n):KCall Tryz.prog 23 [.agg (encN n)] (.lit (.int .i64 (if okV n then 0 else 110))):=by
 have ht:=ok.types
 have hru:=ok.rules
 have hst:=ok.states
 refine KCall_of (SCall_introK Tryz.func23 rfl Tryz.ntmps23 (rs:=[.tmp 2]) rfl (by simp) ?_)
 obtain⟨v,hv⟩:∃ v:Int,(if okV n then (0:Int) else 110)=v:=⟨_,rfl⟩
 rw[hv]
 have fin:∀ h,KExpo h (.lit (.int .i64 v)) (.lit (.int .i64 v)):=fun h=>kexpo (.lit _)
 have bad:okV n=false→v=110:=fun h=>by rw[← hv,h];rfl
 have gn:∀ x∈[AV.agg (encN n)],GP x:=allc (.of_pure (.agg (pure_encN n))) alln
 have pn:∀ x∈[AV.agg (encN n)],Ab.Pure x:=allc (.agg (pure_encN n)) alln
 have c1:=rheads_spec n ok
 have c2:=rrules_spec n ok
 have c3:=rstates_spec n ok
 have pn1:=pn
 unfold encN at c1 c2 c3 gn pn1
 refine aw_of ?_
 simp -implicitDefEqProofs (disch:=omega) only[Wz,seval,encN]
 refine CallK_k call42 c1 gn (.lit _) ?_
 cases h1:headsV n with
 | false =>
  have hb:=bad (by unfold okV;rw[h1];rfl)
  subst hb
  simp -implicitDefEqProofs (disch:=omega) only[Wz,seval]
  exact fin _
 | true =>
 simp -implicitDefEqProofs (disch:=omega) only[Wz,seval]
 refine CallK_pure call43 c2 pn1 (.lit _) ?_
 cases h2:rulesV n with
 | false =>
  have hb:=bad (by unfold okV;rw[h1,h2];rfl)
  subst hb
  simp -implicitDefEqProofs (disch:=omega) only[Wz,seval]
  exact fin _
 | true =>
 simp -implicitDefEqProofs (disch:=omega) only[Wz,seval]
 refine CallK_pure call44 c3 pn1 (.lit _) ?_
 cases h3:statesV n with
 | false =>
  have hb:=bad (by unfold okV;rw[h1,h2,h3];rfl)
  subst hb
  simp -implicitDefEqProofs (disch:=omega) only[Wz,seval]
  exact fin _
 | true =>
 have w:=Wf.of h1 h2 h3
 have wst:=w.nst
 have wru:=w.nru
 have c4:=rempties_spec n w ok
 unfold encN at c4
 have eok:okV n=(endsV n && ((List.range n.rules.length).all (lexR n) && (!ringV (gF n) && !ringV (gC n)))):=by unfold okV;rw[h1,h2,h3];rfl
 simp -implicitDefEqProofs (disch:=omega) only[Wz,seval]
 refine aw_measA (fun i:Nat=>⟨[(3,.lit (.int .i64 (i:Int))),(1,.ptr 0 0)],⟨[(0,encN n)],[],1⟩,80⟩) (fun i=>i≤n.states.length∧(∀ s,s<i→Rc n (goE false []) s (spN n (rlN n s)))) (fun i=>n.states.length - i) 0 (wk_lk (by simp[lk]) (fun _ _ q=>q) (fun _ _ q=>q) rfl rfl) ⟨Nat.zero_le _,fun j q=>absurd q (Nat.not_lt_zero _)⟩ ?_
 rintro i ⟨hi,hiv⟩
 refine aw_of ?_
 rcases Nat.lt_or_ge i n.states.length with hlt | hge
 ·obtain⟨s,hs⟩:∃ s,n.states.getD i default=s:=⟨_,rfl⟩
  have hsr:=w.st i hlt
  rw[hs] at hsr
  obtain⟨sr,hsr2⟩:∃ sr:Nat,s.rule=(sr:Int):=⟨s.rule.toNat,by omega⟩
  have hsrl:sr<n.rules.length:=by omega
  obtain⟨r,hr⟩:∃ r,n.rules.getD sr default=r:=⟨_,rfl⟩
  have hsto:=w.stop hsrl
  rw[hr] at hsto
  obtain⟨pn2,hpn2⟩:∃ pn:Nat,r.stop=(pn:Int):=⟨r.stop.toNat,by omega⟩
  have ep:spN n (rlN n i)=pn2:=by unfold spN rlN;rw[hs,hsr2,Int.toNat_natCast,hr,hpn2];rfl
  have rk:KCall Tryz.prog 45 [.agg (encN n),.lit (.int .i64 (i:Int)),.lit (.bool false),.vec [] true] _:=reach0_spec n w ok (List.replicate n.rules.length false) (by simp) i hlt
  obtain⟨R,hR⟩:∃ R,rcV n (goE false (List.replicate n.rules.length false)) i=R:=⟨_,rfl⟩
  have hRl:R.length=n.states.length:=by rw[← hR];exact rcV_length
  have hRp:R.getD pn2 default=decP (Rc n (goE false (List.replicate n.rules.length false)) i pn2):=by rw[← hR];exact rcV_get (by omega)
  have eR:Rc n (goE false (List.replicate n.rules.length false)) i pn2↔Rc n (goE false []) i pn2:=Iff.rfl
  rw[hR] at rk
  have ra:∀ x∈[AV.agg (encN n),.lit (.int .i64 (i:Int)),.lit (.bool false),.vec [] true],GP x:=allc (.of_pure (.agg (pure_encN n))) (allc (.lit _) (allc (.lit _) (allc (.of_pure (.vec alln)) alln)))
  unfold encN at rk ra
  simp -implicitDefEqProofs (disch:=omega) only[Wz,seval,encN]
  refine aw_quietN (n:=80) rfl (by decide) mixed ?_
  simp -implicitDefEqProofs (disch:=omega) only[Wz,seval,encN]
  refine CallQ_k call45 rk ra (.of_pure (.vec (pure_rows pure_encBo _))) ?_
  cases hb:R.getD pn2 default with
  | false =>
   have ne:endsV n=false:=by
    cases q:endsV n with
    | false=>rfl
    | true =>
     have:=(ends_iff w ok).1 q i hlt
     rw[ep] at this
     have:=decP_true.2 (eR.2 this)
     rw[← hRp,hb] at this;cases this
   have hv2:=bad (by rw[eok,ne];rfl)
   subst hv2
   simp -implicitDefEqProofs (disch:=omega) only[Wz,seval,encN,hs,encSt,hsr2,hr,encNr,hpn2,hRl,hb,encBo]
   exact fin _
  | true =>
   have hrc:Rc n (goE false []) i (spN n (rlN n i)):=by rw[ep];exact eR.1 (decP_true.1 (hRp.symm.trans hb))
   simp -implicitDefEqProofs (disch:=omega) only[Wz,seval,encN,hs,encSt,hsr2,hr,encNr,hpn2,hRl,hb,encBo]
   exact⟨i+1,⟨by omega,lt_stepP hiv hrc⟩,by omega,wk_lk (by simp[lk]) (fun _ _ q=>q) (fun _ _ q=>q) rfl rfl⟩
 have e:i=n.states.length:=by omega
 subst e
 have he:=(ends_iff w ok).2 hiv
 rw[he,Bool.true_and] at eok
 simp -implicitDefEqProofs (disch:=omega) only[Wz,seval,encN]
 refine CallK_pure call46 c4 pn1 (.vec (pure_rows pure_encBo _)) ?_
 simp -implicitDefEqProofs (disch:=omega) only[Wz,seval,encN]
 obtain⟨em,hem⟩:∃ em,emptiesV n=em:=⟨_,rfl⟩
 have hel:em.length=n.rules.length:=by rw[← hem];simp[emptiesV]
 have heg:∀ i,i<n.rules.length→em.getD i default=empB n i:=fun i hi=>by rw[← hem];exact emptiesV_get hi
 rw[hem]
 refine aw_measA (fun i:Nat=>⟨[(5,.lit (.int .i64 (i:Int))),(4,.vec (em.map encBo) false),(1,.ptr 0 0)],⟨[(0,encN n)],[],1⟩,80⟩) (fun i=>i≤n.rules.length∧(∀ j,j<i→lexR n j=true)) (fun i=>n.rules.length - i) 0 (wk_lk (by simp[lk]) (fun _ _ q=>q) (fun _ _ q=>q) rfl rfl) ⟨Nat.zero_le _,fun j q=>absurd q (Nat.not_lt_zero _)⟩ ?_
 rintro i ⟨hi,hiv⟩
 refine aw_of ?_
 rcases Nat.lt_or_ge i n.rules.length with hlt | hge
 ·obtain⟨r,hr⟩:∃ r,n.rules.getD i default=r:=⟨_,rfl⟩
  have hg:=heg i hlt
  have key:lexR n i = !(r.lexer && (!r.frag && empB n i)):=by unfold lexR;rw[hr]
  have bad2:lexR n i=false→v=110:=fun q=>bad (by rw[eok,all_not hlt q];rfl)
  cases hlx:r.lexer with
  | false =>
   have hn:=lt_step hiv (by rw[key,hlx];rfl)
   simp -implicitDefEqProofs (disch:=omega) only[Wz,seval,encN,hr,encNr,hlx]
   exact⟨i+1,⟨by omega,hn⟩,by omega,wk_lk (by simp[lk]) (fun _ _ q=>q) (fun _ _ q=>q) rfl rfl⟩
  | true =>
   cases hfr:r.frag with
   | true =>
    have hn:=lt_step hiv (by rw[key,hlx,hfr];rfl)
    simp -implicitDefEqProofs (disch:=omega) only[Wz,seval,encN,hr,encNr,hlx,hfr]
    exact⟨i+1,⟨by omega,hn⟩,by omega,wk_lk (by simp[lk]) (fun _ _ q=>q) (fun _ _ q=>q) rfl rfl⟩
   | false =>
    cases hb:empB n i with
    | false =>
     rw[hb] at hg
     have hn:=lt_step hiv (by rw[key,hlx,hfr,hb];rfl)
     simp -implicitDefEqProofs (disch:=omega) only[Wz,seval,encN,hr,encNr,hlx,hfr,hg,encBo,hel]
     exact⟨i+1,⟨by omega,hn⟩,by omega,wk_lk (by simp[lk]) (fun _ _ q=>q) (fun _ _ q=>q) rfl rfl⟩
    | true =>
     rw[hb] at hg
     have hv2:=bad2 (by rw[key,hlx,hfr,hb];rfl)
     subst hv2
     simp -implicitDefEqProofs (disch:=omega) only[Wz,seval,encN,hr,encNr,hlx,hfr,hg,encBo,hel]
     exact fin _
 have e:i=n.rules.length:=by omega
 subst e
 rw[all_range hiv,Bool.true_and] at eok
 have c5:=rring_spec n w ok em hel (ringV (gF n)) (by rw[← hem];exact ringF_iff w ok)
 have c6:=rcalls_spec n w ok (ringV (gC n)) (ringC_iff w ok)
 have pn5:∀ x∈[AV.agg (encN n),.vec (em.map encBo) false],Ab.Pure x:=allc (.agg (pure_encN n)) (allc (.vec (pure_rows pure_encBo _)) alln)
 unfold encN at c5 c6 pn5
 simp -implicitDefEqProofs (disch:=omega) only[Wz,seval,encN]
 refine CallK_pure call47 c5 pn5 (.lit _) ?_
 cases h5:ringV (gF n) with
 | true =>
  have hv2:=bad (by rw[eok,h5];rfl)
  subst hv2
  simp -implicitDefEqProofs (disch:=omega) only[Wz,seval]
  exact fin _
 | false =>
 simp -implicitDefEqProofs (disch:=omega) only[Wz,seval,encN]
 refine CallK_pure call48 c6 pn1 (.lit _) ?_
 cases h6:ringV (gC n) with
 | true =>
  have hv2:=bad (by rw[eok,h5,h6];rfl)
  subst hv2
  simp -implicitDefEqProofs (disch:=omega) only[Wz,seval]
  exact fin _
 | false =>
  have hv2:v=0:=by rw[← hv,eok,h5,h6];rfl
  subst hv2
  simp -implicitDefEqProofs (disch:=omega) only[Wz,seval]
  exact fin _
end Go.Proofs.YtbbnfbnicacdoaaGreat
end
section
namespace Go.Ab
open Go
set_option maxRecDepth 20000
section
variable {P:Program} {g:Gh}
theorem run_equalIn_arr3{w:World}{t e:TypeId}{te:TI}(ht:P.underlying t=some (.array 3 e))(he:tyOf P e=some te)(hs:te.size=1){k:IntKind}(hk:te.kd = .int k){a0 a1 a2 b0 b1 b2:Int} :
  (Op.equalIn 10000 t (.agg #[.int k a0,.int k a1,.int k a2]) (.agg #[.int k b0,.int k b1,.int k b2])).run P w = .ok (a0==b0 && (a1==b1 && a2==b2)) w:=by
 obtain⟨i,d,e1,e2,e3,e4,_⟩:=tyOf_some he
 have hd:d = .int k:=by rw[e3] at hk;cases d <;> simp[kdOf] at hk;rw[hk]
 subst hd
 have hz:=run_sizeOf (w:=w) he
 rw[hs] at hz
 have ha:te.kd.agg=false:=by rw[hk];rfl
 have p:∀ (zs:Array Value) (off:Nat) (v:Value),zs[off]? = some v→(part e zs off).run P w = .ok v w:=fun zs off v h=>run_part_lit he ha h
 have q:∀ a b:Int,(Op.equalIn 9999 e (.int k a) (.int k b)).run P w = .ok (a==b) w:=fun a b=>run_equalIn_int w 9998 e k k a b e2
 rw[show (10000:Nat)=9999+1 from rfl,Op.equalIn]
 simp only[Sem.run_bind,run_underlying ht,Result.andThen_ok,hz]
 simp only[Std.Legacy.Range.forIn_eq_forIn_range',Std.Legacy.Range.size,Nat.sub_zero,Nat.add_sub_cancel,Nat.div_one,List.range'_succ,List.range'_zero,List.forIn_cons,List.forIn_nil]
 have p0:∀ x y z:Int,(part e #[.int k x,.int k y,.int k z] 0).run P w = .ok (.int k x) w:=fun x y z=>p _ 0 _ rfl
 have p1:∀ x y z:Int,(part e #[.int k x,.int k y,.int k z] 1).run P w = .ok (.int k y) w:=fun x y z=>p _ 1 _ rfl
 have p2:∀ x y z:Int,(part e #[.int k x,.int k y,.int k z] 2).run P w = .ok (.int k z) w:=fun x y z=>p _ 2 _ rfl
 simp only[Sem.run_bind,Nat.zero_mul,Nat.mul_one,Nat.zero_add,Nat.reduceAdd,p0,p1,p2,q,Result.andThen_ok,Sem.run_ite,Sem.run_pure]
 by_cases h0:a0=b0 <;> by_cases h1:a1=b1 <;> by_cases h2:a2=b2 <;> simp[h0,h1,h2,p0,p1,p2,q]
def row3 (k:IntKind)(a0 a1 a2:Int):List AV:=[.lit (.int k a0),.lit (.int k a1),.lit (.int k a2)]
theorem rep_row3{u:Value}{k:IntKind}{a0 a1 a2:Int}(h:Rep g u (.agg (row3 k a0 a1 a2))):u = .agg #[.int k a0,.int k a1,.int k a2]:=by
 obtain⟨xs,rfl,hx,_⟩:=RepL.of_agg h
 obtain⟨l,hl⟩:∃ l,xs.toList=l:=⟨_,rfl⟩
 rw[hl] at hx
 have hlen:l.length=3:=hx.1
 match l,hlen with
 | [x,y,z],_ =>
  have h0:=hx.2 0 x _ rfl rfl
  have h1:=hx.2 1 y _ rfl rfl
  have h2:=hx.2 2 z _ rfl rfl
  cases h0;cases h1;cases h2
  have:xs = #[.int k a0,.int k a1,.int k a2]:=by rw[← Array.toList_inj,hl]
  rw[this]
variable {σ:St}
theorem stepK_eql_arr3{K:St→Prop}{d:Option Tmp}{t t' t2 e:TypeId}{x y:Operand}{pos:String}{af:Array Edge}{gu:Option (Nat × Bool)}{ti te:TI}{k:IntKind}{a0 a1 a2 b0 b1 b2:Int}
  (hx:ev σ x=some (.agg (row3 k a0 a1 a2))) (hy:ev σ y=some (.agg (row3 k b0 b1 b2))) (ht:tyOf P t=some ti) (hkd:ti.kd = .arr 3 e) (he:tyOf P e=some te) (hs:te.size=1) (hk:te.kd = .int k) (hg:P.eqGuardType P.depth t=false)
  (h:K (σ.put d (.lit (.bool (a0==b0 && (a1==b1 && a2==b2)))))):stepK P ⟨d,.binOp .eql t x y t',t2,pos,af,gu⟩ none K σ:=by
 intro g0 h0 w0 g w a Q r
 obtain⟨i,dd,e1,e2,e3,_⟩:=tyOf_some ht
 rw[e3] at hkd
 have hdd:dd = .array 3 e:=by cases dd <;> simp[kdOf] at hkd;rw[hkd.1,hkd.2]
 subst hdd
 have hu:=rep_row3 (r.ev hx)
 have hv:=rep_row3 (r.ev hy)
 have k1:=run_equalIn_arr3 (P:=P) (w:=w) e2 he hs hk (a0:=a0) (a1:=a1) (a2:=a2) (b0:=b0) (b1:=b1) (b2:=b2)
 have hb:(execOp a.eval ⟨d,.binOp .eql t x y t',t2,pos,af,gu⟩).run P w = .ok (.value (.bool (a0==b0 && (a1==b1 && a2==b2)))) w:=by
  simp[execOp,hu,hv,run_eqGuard_agg w .eql t x y _ _ hg,run_eql_struct,k1]
 unfold Oper.wp
 rw[hb]
 exact⟨_,g,h,r.put d (.lit rfl)⟩
end
end Go.Ab
end
section
namespace Go.Proofs.YtbbnfbnicacdoaaGreat
open Go Go.Ab
set_option maxRecDepth 20000
set_option maxHeartbeats 16000000
def vO (l:List Nat):AV:=.vec (l.map rowI) l.isEmpty
theorem pure_vO(l:List Nat):Ab.Pure (vO l):=.vec (pure_rows pure_rowI _)
def putN:List Nat→Nat→List Nat
 | [],p=>[p]
 | x :: l,p=>if x<p then x :: putN l p else if x=p then x :: l else p :: x :: l
theorem putN_ne(l:List Nat)(p:Nat):(putN l p).isEmpty=false:=by
 cases l with
 | nil=>rfl
 | cons x l=>unfold putN;split;rfl;split <;> rfl
theorem putN_at{l:List Nat}{p:Nat}:∀ {a:Nat},a≤l.length→(∀ j,j<a→l.getD j 0<p)→(a<l.length→¬ l.getD a 0<p)→putN l p=if a<l.length∧l.getD a 0=p then l else l.take a++p :: l.drop a:=by
 induction l with
 | nil =>
  intro a h _ _
  have:a=0:=by simpa using h
  subst this;simp[putN]
 | cons x l ih =>
  intro a h h1 h2
  cases a with
  | zero =>
   have h2:=h2 (by simp)
   have h2:¬ x<p:=h2
   unfold putN
   rw[if_neg h2]
   by_cases e:x=p
   ·rw[if_pos e,if_pos ⟨by simp,e⟩]
   ·rw[if_neg e,if_neg fun q=>e q.2];rfl
  | succ a =>
   have hx:x<p:=h1 0 (Nat.succ_pos a)
   unfold putN
   rw[if_pos hx,ih (a:=a) (by simpa using h) (fun j hj=>h1 (j+1) (by omega)) (fun q=>h2 (by simpa using q))]
   simp only[List.length_cons,Nat.add_lt_add_iff_right,List.getD_cons_succ,List.take_succ_cons,List.drop_succ_cons,List.cons_append]
   split <;> rfl
theorem mem_putN{l:List Nat}{p x:Nat}:x∈putN l p↔x∈l∨x=p:=by
 induction l with
 | nil=>simp[putN]
 | cons y l ih =>
  unfold putN
  split
  ·simp only[List.mem_cons,ih]
   constructor
   ·rintro(a | a | a)
    ·exact .inl (.inl a)
    ·exact .inl (.inr a)
    ·exact .inr a
   ·rintro((a | a) | a)
    ·exact .inl a
    ·exact .inr (.inl a)
    ·exact .inr (.inr a)
  ·split
   ·rename_i e;subst e
    exact⟨.inl,fun q=>by rcases q with q | q;exact q;rw[q];simp⟩
   ·simp only[List.mem_cons]
    constructor
    ·rintro(a | a | a)
     ·exact .inr a
     ·exact .inl (.inl a)
     ·exact .inl (.inr a)
    ·rintro((a | a) | a)
     ·exact .inr (.inl a)
     ·exact .inr (.inr a)
     ·exact .inl a
theorem putN_sorted{l:List Nat}{p:Nat}(h:l.Pairwise (· < ·)):(putN l p).Pairwise (· < ·):=by
 induction l with
 | nil=>simp[putN]
 | cons y l ih =>
  rw[List.pairwise_cons] at h
  unfold putN
  split
  ·rename_i hy
   rw[List.pairwise_cons]
   refine⟨fun a ha=>?_,ih h.2⟩
   rcases mem_putN.1 ha with q | q
   ·exact h.1 a q
   ·rw[q];exact hy
  ·split
   ·rw[List.pairwise_cons];exact h
   ·rename_i h1 h2
    rw[List.pairwise_cons,List.pairwise_cons]
    refine⟨fun a ha=>?_,h⟩
    rcases List.mem_cons.1 ha with q | q
    ·omega
    ·have:=h.1 a q;omega
theorem rowI_len(l:List Nat):∀ x∈l.map rowI,x.length=1:=fun x hx=>by obtain⟨b,_,rfl⟩:=List.mem_map.1 hx;rfl
theorem sliceR1(l:List Nat)(f:Bool){k:Nat}(hk:k≤l.length):sliceV 1 (l.map rowI) f none (some (k:Int)) none=some (.vec ((l.take k).map rowI) (fullOf none k f l.length)):=by
 unfold sliceV
 simp only[Option.getD_none,Option.getD_some]
 rw[if_pos ⟨by decide,by omega,by simp;omega,Int.le_refl _,fun q=>(by cases q),rowI_len l⟩]
 have e:((l.map rowI).drop (0:Int).toNat).take ((k:Int).toNat - (0:Int).toNat)=(l.take k).map rowI:=by simp[List.map_take]
 rw[e,List.length_map]
theorem sliceR2(l:List Nat)(f:Bool){k:Nat}(hk:k≤l.length):sliceV 1 (l.map rowI) f (some (k:Int)) none none=some (.vec ((l.drop k).map rowI) (fullOf none l.length f l.length)):=by
 unfold sliceV
 simp only[Option.getD_none,Option.getD_some]
 rw[if_pos ⟨by omega,by simp;omega,by simp,Int.le_refl _,fun q=>(by cases q),rowI_len l⟩]
 have e:((l.map rowI).drop (k:Int).toNat).take (((l.map rowI).length:Int).toNat - (k:Int).toNat)=(l.drop k).map rowI:=by
  rw[Int.toNat_natCast,Int.toNat_natCast,List.map_drop,List.take_of_length_le (by simp)]
 rw[e,List.length_map]
theorem rput_spec(l:List Nat)(p:Nat)(h:l.length≤1000000000):PCall Tryz.prog 73 [vO l,.lit (.int .i64 (p:Int))] (vO (putN l p)):=by
 obtain⟨r,hr⟩:∃ r,putN l p=r:=⟨_,rfl⟩
 have hne:=putN_ne l p
 rw[hr] at hne ⊢
 unfold vO
 rw[hne]
 refine PCall_intro Tryz.func73 rfl Tryz.ntmps73 (rs:=[.tmp 4]) rfl (by simp) ?_
 simp -implicitDefEqProofs (disch:=omega) only[Wz,seval]
 refine aw_measA (fun a:Nat=>⟨[(5,.lit (.int .i64 (a:Int))),(0,.vec (l.map rowI) l.isEmpty),(1,.lit (.int .i64 (p:Int)))],.none,47⟩) (fun a=>a≤l.length∧(∀ j,j<a→l.getD j 0<p)) (fun a=>l.length - a) 0 (wk_lk (by simp[lk]) (fun _ _ q=>q) (fun _ _ q=>q) rfl rfl) ⟨Nat.zero_le _,fun j q=>absurd q (Nat.not_lt_zero _)⟩ ?_
 rintro a ⟨ha,hav⟩
 refine aw_of ?_
 rcases Nat.lt_or_ge a l.length with hlt | hge
 ·obtain⟨x,hx⟩:∃ x,l.getD a default=x:=⟨_,rfl⟩
  by_cases h1:x<p
  ·simp -implicitDefEqProofs (disch:=omega) only[Wz,seval,hx,rowI]
   exact⟨a+1,⟨by omega,lt_stepP hav (show l.getD a 0<p by rw[show l.getD a 0=x from hx];exact h1)⟩,by omega,wk_lk (by simp[lk]) (fun _ _ q=>q) (fun _ _ q=>q) rfl rfl⟩
  have hpa:=putN_at (Nat.le_of_lt hlt) hav (fun _=>show ¬ l.getD a 0<p by rw[show l.getD a 0=x from hx];exact h1)
  rw[hr,show l.getD a 0=x from hx] at hpa
  by_cases h2:x=p
  ·rw[if_pos ⟨hlt,h2⟩] at hpa
   subst hpa
   have hie:r.isEmpty=false:=hne
   simp -implicitDefEqProofs (disch:=omega) only[Wz,seval,hx,rowI,hie]
   exact expo_pure (.vec (pure_rows pure_rowI _))
  ·rw[if_neg fun q=>h2 q.2] at hpa
   have s1:=sliceR1 l l.isEmpty (k:=a) (Nat.le_of_lt hlt)
   have s2:=sliceR2 l l.isEmpty (k:=a) (Nat.le_of_lt hlt)
   have htl:(l.take a).length=a:=by rw[List.length_take];omega
   have hdl:(l.drop a).length=l.length - a:=by rw[List.length_drop]
   have q1:(∀ q:List AV,q∈(l.take a).map rowI→q.length=1)=True:=eq_true (rowI_len _)
   have q2:(∀ q:List AV,q∈(l.drop a).map rowI→q.length=1)=True:=eq_true (rowI_len _)
   have f1:fits a 8:=fits_of' (by omega) (by omega)
   have f2:fits (a+1) 8:=fits_of' (by omega) (by omega)
   have f3:fits (a+1+(l.length - a)) 8:=fits_of' (by omega) (by omega)
   have rows:r.map rowI=(l.take a).map rowI++[[.lit (.int .i64 (p:Int))]]++(l.drop a).map rowI:=by rw[hpa];simp[rowI]
   have rl:r.length=a+1+(l.length - a):=by have:=congrArg List.length rows;simp only[List.length_map,List.length_append,List.length_cons,List.length_nil] at this;omega
   by_cases h0:a=0
   ·have f4:fits 1 8:=by decide
    have f5:fits (1+(l.length - a)) 8:=fits_of' (by omega) (by omega)
    have f6:fits 0 8:=by decide
    have ht0:l.take a=[]:=by rw[h0];rfl
    rw[ht0] at s1 rows
    simp -implicitDefEqProofs (disch:=omega) only[Wz,seval,hx,rowI,s1,s2,hdl,q2,f4,f5,f6,List.mem_singleton,forall_eq,List.not_mem_nil,false_imp_iff,implies_true,if_true,List.length_cons,List.length_nil]
    exact expo_own (k:=⟨r.map rowI,0,1⟩) (by rw[rows];simp[lk]) (by simp[rl];omega) (pure_rows pure_rowI _)
   ·simp -implicitDefEqProofs (disch:=omega) only[Wz,seval,hx,rowI,s1,s2,htl,hdl,q1,q2,f1,f2,f3,List.mem_singleton,forall_eq,List.not_mem_nil,false_imp_iff,implies_true,if_true,List.length_cons,List.length_nil,List.length_append]
    exact expo_own (k:=⟨r.map rowI,0,1⟩) (by rw[rows];simp[lk]) (by simp[rl]) (pure_rows pure_rowI _)
 ·have e:a=l.length:=by omega
  have hpa:=putN_at ha hav (fun q=>absurd q (by omega))
  rw[hr,if_neg fun q=>absurd q.1 (by omega)] at hpa
  have s1:=sliceR1 l l.isEmpty (k:=a) (by omega)
  have s2:=sliceR2 l l.isEmpty (k:=a) (by omega)
  have htl:(l.take a).length=a:=by rw[List.length_take];omega
  have hdl:(l.drop a).length=l.length - a:=by rw[List.length_drop]
  have q1:(∀ q:List AV,q∈(l.take a).map rowI→q.length=1)=True:=eq_true (rowI_len _)
  have q2:(∀ q:List AV,q∈(l.drop a).map rowI→q.length=1)=True:=eq_true (rowI_len _)
  have f1:fits a 8:=fits_of' (by omega) (by omega)
  have f2:fits (a+1) 8:=fits_of' (by omega) (by omega)
  have f3:fits (a+1+(l.length - a)) 8:=fits_of' (by omega) (by omega)
  have rows:r.map rowI=(l.take a).map rowI++[[.lit (.int .i64 (p:Int))]]++(l.drop a).map rowI:=by rw[hpa];simp[rowI]
  have rl:r.length=a+1+(l.length - a):=by have:=congrArg List.length rows;simp only[List.length_map,List.length_append,List.length_cons,List.length_nil] at this;omega
  by_cases h0:a=0
  ·have f4:fits 1 8:=by decide
   have f5:fits (1+(l.length - a)) 8:=fits_of' (by omega) (by omega)
   have f6:fits 0 8:=by decide
   have ht0:l.take a=[]:=by rw[h0];rfl
   rw[ht0] at s1 rows
   simp -implicitDefEqProofs (disch:=omega) only[Wz,seval,rowI,s1,s2,hdl,q2,f4,f5,f6,List.mem_singleton,forall_eq,List.not_mem_nil,false_imp_iff,implies_true,if_true,List.length_cons,List.length_nil]
   exact expo_own (k:=⟨r.map rowI,0,1⟩) (by rw[rows];simp[lk]) (by simp[rl];omega) (pure_rows pure_rowI _)
  ·simp -implicitDefEqProofs (disch:=omega) only[Wz,seval,rowI,s1,s2,htl,hdl,q1,q2,f1,f2,f3,List.mem_singleton,forall_eq,List.not_mem_nil,false_imp_iff,implies_true,if_true,List.length_cons,List.length_nil,List.length_append]
   exact expo_own (k:=⟨r.map rowI,0,1⟩) (by rw[rows];simp[lk]) (by simp[rl]) (pure_rows pure_rowI _)
end Go.Proofs.YtbbnfbnicacdoaaGreat
end
section
namespace Go.Proofs.YtbbnfbnicacdoaaGreat
open Go Go.Ab
set_option maxRecDepth 20000
set_option maxHeartbeats 8000000
theorem rHasN_spec(l:List Nat)(f:Bool)(p:Nat)(h:l.length≤1000000000):PCall Tryz.prog 58 [.vec (l.map rowI) f,.lit (.int .i64 (p:Int))] (.lit (.bool (decide (p∈l)))):=by
 refine PCall_intro Tryz.func58 rfl Tryz.ntmps58 (rs:=[.tmp 4]) rfl (by simp) ?_
 have fin:∀ h (b:Bool),Expo h (.lit (.bool b)) (.lit (.bool b)):=fun h b=>expo_pure (.lit _)
 obtain⟨v,hv⟩:∃ v,decide (p∈l)=v:=⟨_,rfl⟩
 rw[hv]
 simp -implicitDefEqProofs (disch:=omega) only[Wz,seval]
 refine aw_measA (fun i:Nat=>⟨[(5,.lit (.int .i64 (i:Int))),(0,.vec (l.map rowI) f),(1,.lit (.int .i64 (p:Int)))],.none,18⟩) (fun i=>i≤l.length∧(decide (p∈l.drop i)=v)) (fun i=>l.length - i) 0 (wk_lk (by simp[lk]) (fun _ _ q=>q) (fun _ _ q=>q) rfl rfl) ⟨Nat.zero_le _,by rw[List.drop_zero];exact hv⟩ ?_
 rintro i ⟨hi,hiv⟩
 refine aw_of ?_
 rcases Nat.lt_or_ge i l.length with hlt | hge
 ·obtain⟨x,hx⟩:∃ x,l.getD i default=x:=⟨_,rfl⟩
  rw[drop_getD hlt,hx] at hiv
  by_cases e:x=p
  ·have hb:true=v:=by rw[← hiv,decide_eq_true (by rw[e];simp)]
   subst hb
   have e1:((x:Int)==(p:Int))=true:=beqT (by omega)
   simp -implicitDefEqProofs (disch:=omega) only[Wz,seval,hx,rowI,e1]
   exact fin _ _
  ·have hb:decide (p∈l.drop (i+1))=v:=by
    rw[← hiv,decide_eq_decide,List.mem_cons]
    exact⟨.inr,fun q=>by rcases q with q | q;exact absurd q.symm e;exact q⟩
   have e1:((x:Int)==(p:Int))=false:=beqF (by omega)
   simp -implicitDefEqProofs (disch:=omega) only[Wz,seval,hx,rowI,e1]
   exact⟨i+1,⟨by omega,hb⟩,by omega,wk_lk (by simp[lk]) (fun _ _ q=>q) (fun _ _ q=>q) rfl rfl⟩
 ·have e:i=l.length:=by omega
  subst e
  rw[List.drop_length] at hiv
  have hb:false=v:=by rw[← hiv];simp
  subst hb
  simp -implicitDefEqProofs (disch:=omega) only[Wz,seval]
  exact fin _ _
def rkX (n:Nt)(o:List Orc)(it k e p b:AV):List AV:=encN n++[.vec (o.map encO) false,it,k,e,p,b]
def itA (L:List It):AV:=.vec (L.map encI) false
def takesV(L:List It)(e:Ed)(p:Nat):Bool:=decide (e.op.1=1) && (decide (p<L.length) && (decide (0<(L.getD p default).type∧(L.getD p default).type<2147483648) && hasV e.set (L.getD p default).type))
def holdsAt(o:List Orc)(L:List It)(g:Gd)(p:Nat):Bool:=if L.length≤p then true else ckG g && saysG ⟨(L.getD p default).index,(L.getD p default).column,(L.getD p default).type,0⟩ o g
def goesV(o:List Orc)(L:List It)(e:Ed)(lv:Int)(p:Nat):Bool :=
 if e.op.1=1 then false else if e.op.1=2 then false else if e.op.1=3 then holdsAt o L e.g p else if e.op.1=5 then decide (lv≤e.level) else true
section
variable (n:Nt) (o:List Orc) (L:List It) (k ee pp b:AV) (H:Hp) (ai:Nat) (hb:lk H.boxes ai=some (rkX n o (itA L) k ee pp b)) (hf:∀ i,H.nx≤i→lk H.boxes i=none)
theorem rTakes_spec(hL:L.length≤1000000000)(e:Ed)(he:EdOk e)(p:Nat)(hp:p≤1000000000)(hb:lk H.boxes ai=some (rkX n o (itA L) k ee pp b))(hf:∀ i,H.nx≤i→lk H.boxes i=none) :
  SCall Tryz.prog 74 [.ptr ai 0,.agg (encE e),.lit (.int .i64 (p:Int))] H fun r h'=>r = .lit (.bool (takesV L e p))∧∃ m,H.nx≤m∧h'={H with nx:=m}:=by
 obtain⟨v,hv⟩:∃ v,takesV L e p=v:=⟨_,rfl⟩
 rw[hv]
 obtain⟨R,hR⟩:∃ R:AV→Hp→Prop,(fun r h'=>r=AV.lit (.bool v)∧∃ m,H.nx≤m∧h'={H with nx:=m})=R:=⟨_,rfl⟩
 rw[hR]
 refine SCall_introW Tryz.func74 rfl Tryz.ntmps74 (rs:=[.tmp 6]) rfl (by simp) ?_
 have hbx:∀ x,lk (H.boxes++x) ai=some (rkX n o (itA L) k ee pp b):=fun x=>by rw[lk_app,hb];rfl
 have hnx0:∀ c,lk (H.boxes++[(H.nx,c)]) H.nx=some c:=fun c=>by rw[lk_app,hf _ (Nat.le_refl _)];simp[lk]
 have fin:∀ (sl:List (Nat × AV)) (B:List (Nat × List AV)) (m:Nat),lk sl 6=some (.lit (.bool v))→H.nx≤m→∃ σ',St.wk ⟨sl,⟨H.boxes++B,H.toks,m⟩,55⟩ σ'∧resK (resOf Tryz.prog σ' [.tmp 6]) R σ'.hp:=fun sl B m e1 hm =>
  ⟨⟨[(6,.lit (.bool v))],⟨H.boxes,H.toks,m⟩,55⟩,wk_lk (allc e1 alln) (fun i c e=>by show lk (H.boxes++B) i=some c;rw[lk_app,e];rfl) (fun _ _ e=>e) rfl rfl,by rw[← hR];exact⟨rfl,m,hm,rfl⟩⟩
 unfold takesV at hv
 have hse:=he.set
 unfold rkX itA encN at hbx
 simp only[List.cons_append,List.nil_append] at hbx
 simp -implicitDefEqProofs (disch:=omega) only[Wz,seval]
 refine aw_quietN (n:=55) rfl (by decide) mixed ?_
 by_cases c1:¬ e.op.1=1
 ·have hv2:false=v:=by rw[← hv,decide_eq_false c1];rfl
  subst hv2
  simp -implicitDefEqProofs (disch:=omega) only[Wz,seval,encE,hbx,hnx0,List.append_eq,List.cons_append,List.nil_append]
  exact fin _ _ _ rfl (Nat.le_succ _)
 have c1:e.op.1=1:=by omega
 rw[decide_eq_true c1,Bool.true_and] at hv
 by_cases c2:¬ p<L.length
 ·have hv2:false=v:=by rw[← hv,decide_eq_false c2];rfl
  subst hv2
  simp -implicitDefEqProofs (disch:=omega) only[Wz,seval,encE,hbx,hnx0,c1,List.append_eq,List.cons_append,List.nil_append]
  exact fin _ _ _ rfl (Nat.le_succ _)
 have c2:p<L.length:=by omega
 obtain⟨x,hx⟩:∃ x,L.getD p default=x:=⟨_,rfl⟩
 rw[decide_eq_true c2,Bool.true_and,hx] at hv
 by_cases t1:¬ 0<x.type
 ·have hv2:false=v:=by rw[← hv,decide_eq_false (fun q=>t1 q.1)];rfl
  subst hv2
  simp -implicitDefEqProofs (disch:=omega) only[Wz,seval,encE,hbx,hnx0,c1,encI,hx,List.append_eq,List.cons_append,List.nil_append]
  exact fin _ _ _ rfl (Nat.le_succ _)
 have t1:0<x.type:=by omega
 by_cases t2:¬ x.type<2147483648
 ·have hv2:false=v:=by rw[← hv,decide_eq_false (fun q=>t2 q.2)];rfl
  subst hv2
  simp -implicitDefEqProofs (disch:=omega) only[Wz,seval,encE,hbx,hnx0,c1,encI,hx,List.append_eq,List.cons_append,List.nil_append]
  exact fin _ _ _ rfl (Nat.le_succ _)
 have t2:x.type<2147483648:=by omega
 rw[decide_eq_true ⟨t1,t2⟩,Bool.true_and] at hv
 have hw:IntKind.i32.wrap x.type=x.type:=IntWalk.i32_in _ ⟨by omega,by omega⟩
 simp -implicitDefEqProofs (disch:=omega) only[Wz,seval,encE,hbx,hnx0,c1,encI,hx,hw,List.append_eq,List.cons_append,List.nil_append]
 refine CallQ_pure call100 (rHas_spec e.set x.type (by omega)) (allc (.vec (pure_rows pure_encR _)) (allc (.lit _) alln)) (.lit _) ?_
 rw[hv]
 simp -implicitDefEqProofs (disch:=omega) only[Wz,seval]
 exact fin _ _ _ rfl (Nat.le_succ _)
theorem rHoldsA_spec(hL:L.length≤1000000000)(ho:o.length≤1000000000)(g:Gd)(hg:gsz g≤1000000000)(hok:GdOk g)(p:Nat)(hp:p≤1000000000)(hb:lk H.boxes ai=some (rkX n o (itA L) k ee pp b))(hf:∀ i,H.nx≤i→lk H.boxes i=none) :
  SCall Tryz.prog 101 [.ptr ai 0,.agg (encG g),.lit (.int .i64 (p:Int))] H fun r h'=>r = .lit (.bool (holdsAt o L g p))∧∃ m,H.nx≤m∧h'={H with nx:=m}:=by
 obtain⟨v,hv⟩:∃ v,holdsAt o L g p=v:=⟨_,rfl⟩
 rw[hv]
 obtain⟨R,hR⟩:∃ R:AV→Hp→Prop,(fun r h'=>r=AV.lit (.bool v)∧∃ m,H.nx≤m∧h'={H with nx:=m})=R:=⟨_,rfl⟩
 rw[hR]
 refine SCall_introW Tryz.func101 rfl Tryz.ntmps101 (rs:=[.tmp 6]) rfl (by simp) ?_
 have hbx:∀ x,lk (H.boxes++x) ai=some (rkX n o (itA L) k ee pp b):=fun x=>by rw[lk_app,hb];rfl
 have hnx0:∀ c,lk (H.boxes++[(H.nx,c)]) H.nx=some c:=fun c=>by rw[lk_app,hf _ (Nat.le_refl _)];simp[lk]
 have hnx1:∀ c d,lk (H.boxes++[(H.nx,c),(H.nx+1,d)]) H.nx=some c:=fun c d=>by rw[lk_app,hf _ (Nat.le_refl _)];simp[lk]
 have hnx2:∀ c d,lk (H.boxes++[(H.nx,c),(H.nx+1,d)]) (H.nx+1)=some d:=fun c d=>by rw[lk_app,hf _ (by omega)];simp[lk]
 have hup2:∀ c d x,up (H.boxes++[(H.nx,c),(H.nx+1,d)]) (H.nx+1) x=H.boxes++[(H.nx,c),(H.nx+1,x)]:=fun c d x=>by
  have:=up_app (B:=H.boxes++[(H.nx,c)]) (k:=H.nx+1) (c:=d) (x:=x) (by rw[lk_app,hf _ (by omega)];simp[lk])
  simpa using this
 have fin:∀ (sl:List (Nat × AV)) (B:List (Nat × List AV)) (m:Nat),lk sl 6=some (.lit (.bool v))→H.nx≤m→∃ σ',St.wk ⟨sl,⟨H.boxes++B,H.toks,m⟩,35⟩ σ'∧resK (resOf Tryz.prog σ' [.tmp 6]) R σ'.hp:=fun sl B m e1 hm =>
  ⟨⟨[(6,.lit (.bool v))],⟨H.boxes,H.toks,m⟩,35⟩,wk_lk (allc e1 alln) (fun i c e=>by show lk (H.boxes++B) i=some c;rw[lk_app,e];rfl) (fun _ _ e=>e) rfl rfl,by rw[← hR];exact⟨rfl,m,hm,rfl⟩⟩
 unfold holdsAt at hv
 unfold rkX itA encN at hbx
 simp only[List.cons_append,List.nil_append] at hbx
 by_cases hlp:L.length≤p
 ·rw[if_pos hlp] at hv
  subst hv
  simp -implicitDefEqProofs (disch:=omega) only[Wz,seval,encG_eq,hbx,hnx0]
  exact fin _ _ _ rfl (Nat.le_succ _)
 ·rw[if_neg hlp] at hv
  obtain⟨x,hx⟩:∃ x,L.getD p default=x:=⟨_,rfl⟩
  rw[hx] at hv
  have hh:=rHolds_spec g ⟨x.index,x.column,x.type,0⟩ o (by omega) hok (by omega)
  rw[hv] at hh
  have pa:∀ y∈[AV.agg (encG g),.agg (encPl ⟨x.index,x.column,x.type,0⟩),.vec (o.map encO) false],Ab.Pure y:=allc (.agg (pure_encG g)) (allc (.agg (pure_encPl _)) (allc (.vec (pure_rows pure_encO _)) alln))
  rw[encG_eq] at hh pa
  unfold encPl at hh pa
  simp only at hh pa
  simp -implicitDefEqProofs (disch:=omega) only[Wz,seval,encG_eq,hbx,hnx0,hnx1,hnx2,hup2,encI,hx,List.append_assoc,List.cons_append,List.nil_append]
  refine aw_quietN (n:=35) rfl (by decide) mixed ?_
  simp -implicitDefEqProofs (disch:=omega) only[Wz,seval,encG_eq,hbx,hnx0,hnx1,hnx2,hup2,encI,hx,List.append_assoc,List.cons_append,List.nil_append]
  refine CallQ_pure call112 hh pa (.lit _) ?_
  simp -implicitDefEqProofs (disch:=omega) only[Wz,seval]
  exact fin _ _ _ rfl (by omega)
end
end Go.Proofs.YtbbnfbnicacdoaaGreat
end
section
namespace Go.Proofs.YtbbnfbnicacdoaaGreat
open Go Go.Ab
open Go.Proofs.Tryz renaming prog→Pg
set_option maxRecDepth 20000
set_option maxHeartbeats 8000000
section
variable (n:Nt) (o:List Orc) (L:List It) (k ee pp b:AV) (H:Hp) (ai:Nat)
theorem rGoes_spec(hL:L.length≤1000000000)(ho:o.length≤1000000000)(e:Ed)(he:EdOk e)(lv:Int)(p:Nat)(hp:p≤1000000000)(hb:lk H.boxes ai=some (rkX n o (itA L) k ee pp b))(hf:∀ i,H.nx≤i→lk H.boxes i=none) :
  SCall Pg 75 [.ptr ai 0,.agg (encE e),.lit (.int .i64 lv),.lit (.int .i64 (p:Int))] H fun r h'=>r = .lit (.bool (goesV o L e lv p))∧∃ m,H.nx≤m∧h'={H with nx:=m}:=by
 obtain⟨v,hv⟩:∃ v,goesV o L e lv p=v:=⟨_,rfl⟩
 rw[hv]
 obtain⟨R,hR⟩:∃ R:AV→Hp→Prop,(fun r h'=>r=AV.lit (.bool v)∧∃ m,H.nx≤m∧h'={H with nx:=m})=R:=⟨_,rfl⟩
 rw[hR]
 refine SCall_introW Tryz.func75 rfl Tryz.ntmps75 (rs:=[.tmp 8]) rfl (by simp) ?_
 have hnx0:∀ c,lk (H.boxes++[(H.nx,c)]) H.nx=some c:=fun c=>by rw[lk_app,hf _ (Nat.le_refl _)];simp[lk]
 have fin:∀ (sl:List (Nat × AV)) (B:List (Nat × List AV)) (m:Nat),lk sl 8=some (.lit (.bool v))→H.nx≤m→∃ σ',St.wk ⟨sl,⟨H.boxes++B,H.toks,m⟩,27⟩ σ'∧resK (resOf Pg σ' [.tmp 8]) R σ'.hp:=fun sl B m e1 hm =>
  ⟨⟨[(8,.lit (.bool v))],⟨H.boxes,H.toks,m⟩,27⟩,wk_lk (allc e1 alln) (fun i c e=>by show lk (H.boxes++B) i=some c;rw[lk_app,e];rfl) (fun _ _ e=>e) rfl rfl,by rw[← hR];exact⟨rfl,m,hm,rfl⟩⟩
 unfold goesV at hv
 by_cases c1:e.op.1=1
 ·rw[if_pos c1] at hv;subst hv
  simp -implicitDefEqProofs (disch:=omega) only[Wz,seval,encE,hnx0,c1]
  exact fin _ _ _ rfl (Nat.le_succ _)
 rw[if_neg c1] at hv
 by_cases c2:e.op.1=2
 ·rw[if_pos c2] at hv;subst hv
  simp -implicitDefEqProofs (disch:=omega) only[Wz,seval,encE,hnx0,c2]
  exact fin _ _ _ rfl (Nat.le_succ _)
 rw[if_neg c2] at hv
 by_cases c3:e.op.1=3
 ·rw[if_pos c3] at hv
  have hh:=rHoldsA_spec n o L k ee pp b ⟨H.boxes++[(H.nx,encE e)],H.toks,H.nx+1⟩ ai hL ho e.g (by have:=he.g;omega) he.gd p hp (by show lk (H.boxes++_) ai=_;rw[lk_app,hb];rfl) (fun i hi=>by
   have hi:H.nx+1≤i:=hi
   show lk (H.boxes++_) i=_
   rw[lk_app,hf i (by omega)];simp only[lk];rw[if_neg (by omega)];rfl)
  rw[hv,encG_eq] at hh
  unfold encE at hh
  rw[c3] at hh
  simp -implicitDefEqProofs (disch:=omega) only[Wz,seval,encE,hnx0,c3]
  refine CallK_of call101 hh ?_
  rintro r h' ⟨rfl,m,hm,rfl⟩
  have hm:H.nx+1≤m:=hm
  simp -implicitDefEqProofs (disch:=omega) only[Wz,seval]
  exact fin _ _ _ rfl (by omega)
 rw[if_neg c3] at hv
 by_cases c5:e.op.1=5
 ·rw[if_pos c5] at hv
  by_cases c6:lv≤e.level
  ·rw[decide_eq_true c6] at hv;subst hv
   simp -implicitDefEqProofs (disch:=omega) only[Wz,seval,encE,hnx0,c5]
   exact fin _ _ _ rfl (Nat.le_succ _)
  ·rw[decide_eq_false c6] at hv;subst hv
   simp -implicitDefEqProofs (disch:=omega) only[Wz,seval,encE,hnx0,c5]
   exact fin _ _ _ rfl (Nat.le_succ _)
 rw[if_neg c5] at hv;subst hv
 simp -implicitDefEqProofs (disch:=omega) only[Wz,seval,encE,hnx0]
 exact fin _ _ _ rfl (Nat.le_succ _)
def parserV(n:Nt)(rule:Int):Bool:=decide (0≤rule) && (decide (rule<(n.rules.length:Int)) && !(n.rules.getD rule.toNat default).lexer)
theorem rParser_spec(it:AV)(rule:Int)(hn:n.rules.length≤1000000000)(hb:lk H.boxes ai=some (rkX n o it k ee pp b)) :
  SCall Pg 29 [.ptr ai 0,.lit (.int .i64 rule)] H fun r h'=>r = .lit (.bool (parserV n rule))∧h'=H:=by
 obtain⟨v,hv⟩:∃ v,parserV n rule=v:=⟨_,rfl⟩
 rw[hv]
 refine SCall_introW Tryz.func29 rfl Tryz.ntmps29 (rs:=[.tmp 4]) rfl (by simp) ?_
 unfold parserV at hv
 unfold rkX encN at hb
 simp only[List.cons_append,List.nil_append] at hb
 have fin:∀ (σ':St),σ'.hp=H→σ'.nt=29→lk σ'.slots 4=some (.lit (.bool v))→∃ σ'',St.wk σ' σ''∧resK (resOf Pg σ'' [.tmp 4]) (fun r h'=>r = .lit (.bool v)∧h'=H) σ''.hp:=fun σ' e1 e2 e3 =>
  ⟨⟨[(4,.lit (.bool v))],H,29⟩,wk_lk (allc e3 alln) (fun i c e=>by rw[e1];exact e) (fun i c e=>by rw[e1];exact e) (by rw[e1]) (by rw[e2]),(show _∧_ from ⟨rfl,rfl⟩)⟩
 by_cases h1:0≤rule
 ·by_cases h2:rule<(n.rules.length:Int)
  ·obtain⟨rn,rfl⟩:∃ rn:Nat,rule=(rn:Int):=⟨rule.toNat,by omega⟩
   obtain⟨r,hr⟩:∃ r,n.rules.getD rn default=r:=⟨_,rfl⟩
   rw[decide_eq_true h1,decide_eq_true h2,Int.toNat_natCast,hr,Bool.true_and,Bool.true_and] at hv
   subst hv
   simp -implicitDefEqProofs (disch:=omega) only[Wz,seval,hb,encNr,hr]
   exact fin _ rfl rfl rfl
  ·rw[decide_eq_true h1,decide_eq_false h2] at hv
   have hv:false=v:=hv
   subst hv
   simp -implicitDefEqProofs (disch:=omega) only[Wz,seval,hb]
   exact fin _ rfl rfl rfl
 ·rw[decide_eq_false h1] at hv
  have hv:false=v:=hv
  subst hv
  simp -implicitDefEqProofs (disch:=omega) only[Wz,seval,hb]
  exact fin _ rfl rfl rfl
def rasksV(n:Nt)(rule:Int)(c:Nat):Int:=if parserV n rule then (if 601<c then 3 else 0) else 2
theorem rasksV_eq(n:Nt)(rule:Int)(c:Nat):rasksV n rule c=asksV n rule c:=by
 unfold rasksV asksV parserV
 by_cases h1:rule<0
 ·rw[if_pos h1,decide_eq_false (by omega)];rfl
 ·rw[if_neg h1,decide_eq_true (by omega:0≤rule),Bool.true_and]
  by_cases h2:(n.rules.length:Int)≤rule
  ·rw[if_pos h2,decide_eq_false (by omega)];rfl
  ·rw[if_neg h2,decide_eq_true (by omega:rule<(n.rules.length:Int)),Bool.true_and]
   cases (n.rules.getD rule.toNat default).lexer <;> rfl
theorem rAsks_spec(it:AV)(rule:Int)(l:List It)(hn:n.rules.length≤1000000000)(hl:l.length≤1000000000)(hb:lk H.boxes ai=some (rkX n o it k ee pp b)) :
  SCall Pg 33 [.ptr ai 0,.lit (.int .i64 rule),.vec (l.map encI) false] H fun r h'=>r = .lit (.int .i64 (asksV n rule l.length))∧h'=H:=by
 rw[← rasksV_eq]
 obtain⟨v,hv⟩:∃ v,rasksV n rule l.length=v:=⟨_,rfl⟩
 rw[hv]
 refine SCall_introW Tryz.func33 rfl Tryz.ntmps33 (rs:=[.tmp 6]) rfl (by simp) ?_
 unfold rasksV at hv
 have fin:∀ (σ':St),σ'.hp=H→σ'.nt=14→lk σ'.slots 6=some (.lit (.int .i64 v))→∃ σ'',St.wk σ' σ''∧resK (resOf Pg σ'' [.tmp 6]) (fun r h'=>r = .lit (.int .i64 v)∧h'=H) σ''.hp:=fun σ' e1 e2 e3 =>
  ⟨⟨[(6,.lit (.int .i64 v))],H,14⟩,wk_lk (allc e3 alln) (fun i c e=>by rw[e1];exact e) (fun i c e=>by rw[e1];exact e) (by rw[e1]) (by rw[e2]),(show _∧_ from ⟨rfl,rfl⟩)⟩
 have hP:=rParser_spec n o k ee pp b H ai it rule hn hb
 simp -implicitDefEqProofs (disch:=omega) only[Wz,seval]
 refine CallK_of call29 hP ?_
 rintro r h' ⟨rfl,hh⟩
 rw[hh]
 clear hh
 cases hp:parserV n rule with
 | false =>
  rw[hp] at hv
  have hv:(2:Int)=v:=hv
  subst hv
  simp -implicitDefEqProofs (disch:=omega) only[Wz,seval]
  exact fin _ rfl rfl rfl
 | true =>
  rw[hp,if_pos rfl] at hv
  by_cases h3:601<l.length
  ·rw[if_pos h3] at hv;subst hv
   simp -implicitDefEqProofs (disch:=omega) only[Wz,seval]
   exact fin _ rfl rfl rfl
  ·rw[if_neg h3] at hv;subst hv
   simp -implicitDefEqProofs (disch:=omega) only[Wz,seval]
   exact fin _ rfl rfl rfl
theorem rUse_spec(it:AV)(l:List It)(hb:lk H.boxes ai=some (rkX n o it k ee pp b)) :
  SCall Pg 30 [.ptr ai 0,.vec (l.map encI) false] H fun r h'=>h'=⟨up H.boxes ai (rkX n o (itA l) (.vec [] true) (.vec [] true) (.vec [] true) (.vec [] true)),H.toks,H.nx⟩:=by
 refine SCall_introW Tryz.func30 rfl Tryz.ntmps30 (rs:=[]) rfl (by simp) ?_
 obtain⟨B,hB⟩:∃ B,H.boxes=B:=⟨_,rfl⟩
 rw[hB] at hb
 unfold rkX encN at hb
 simp only[List.cons_append,List.nil_append] at hb
 have hu:∀ c,lk (up B ai c) ai=some c:=fun c=>by rw[lk_up,if_pos rfl,hb];rfl
 simp -implicitDefEqProofs (disch:=omega) only[Wz,seval,hB,hb,hu,up_up]
 exact⟨⟨[],⟨up B ai (rkX n o (itA l) (.vec [] true) (.vec [] true) (.vec [] true) (.vec [] true)),H.toks,H.nx⟩,20⟩,wk_lk alln (fun _ _ q=>q) (fun _ _ q=>q) rfl rfl,rfl⟩
end
end Go.Proofs.YtbbnfbnicacdoaaGreat
end
