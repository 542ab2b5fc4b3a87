/- Parts of the proof, laid together. -/
import Derived.Test.YtgbbhilflgekhaaGreatDoorVeg
set_option linter.unusedVariables false
set_option linter.unusedSimpArgs false
set_option maxRecDepth 20000
set_option maxHeartbeats 16000000
section
namespace Go.Proofs.Y
open Go Go.Ab
theorem Jbz{A:List (Nat × List Nat)}{lo hi hi':Nat}(h:NOk A lo hi)(k:hi<=hi'):NOk A lo hi':=⟨fun p hp hn=>⟨(h.rg p hp hn).1,Nat.lt_of_lt_of_le (h.rg p hp hn).2 k⟩,h.ne⟩
theorem Jix{N lo hi:Nat}:NOk (List.replicate N (0,[])) lo hi:=by
 refine⟨fun p hp hn=>?_,fun i j p q e1 e2 hp hq=>?_⟩
 ·rw[(List.mem_replicate.1 hp).2] at hn;exact absurd rfl hn
 ·rw[(List.mem_replicate.1 (List.mem_of_getElem? e1)).2] at hp;exact absurd rfl hp
theorem Jdo{A:List (Nat × List Nat)}{G:List (List Nat)}(h:A.map (·.2)=G){i:Nat}(hi:i<G.length):∃ t,A[i]? = some (t,G.getD i []):=by
 subst h;simp only[List.length_map] at hi;refine⟨A[i].1,?_⟩;rw[List.getElem?_eq_getElem hi,List.getD_eq_getElem?_getD,List.getElem?_map,List.getElem?_eq_getElem hi];rfl
theorem Jdp{A:List (Nat × List Nat)}{G:List (List Nat)}(h:A.map (·.2)=G){i v:Nat}{t:Nat}{l:List Nat}(hl:G.getD i []=l):(A.set i (t,l++[v])).map (·.2)=Ji7 G (i,v):=by
 subst h;subst hl;simp only[List.map_set,Ji7]
theorem Jo4{N:Nat}:Jjs (List.replicate N (0,[]))=[]:=by
 induction N with
 | zero=>rfl
 | succ N ih=>rw[List.replicate_succ];unfold Jjs at ih ⊢;rw[List.flatMap_cons,ih];rfl
theorem Jo5{T0:List (Nat × Tk)}{gt N:Nat}:nT T0 gt (List.replicate N (0,[]))=T0++[(gt,⟨List.replicate N [.vec [] true],0,1⟩)]:=by
 unfold nT;rw[Jo4];simp[JY]
theorem Jb1{A:List (Nat × List Nat)}{T0:List (Nat × Tk)}{gt lo hi:Nat}(h0:TOk T0 gt)(hok:NOk A lo hi)(hlo:gt<lo):∀ p∈nT T0 gt A,lk (nT T0 gt A) p.1=some p.2:=fun p hp=>by
 have hp':=hp;unfold nT at hp';rcases List.mem_append.1 hp' with hp' | hp'
 ·obtain⟨q1,q2⟩:=h0 p hp';rw[Jmx q1 hok hlo];exact q2
 ·rcases List.mem_cons.1 hp' with hp' | hp'
  ·subst hp';exact JkO h0
  ·obtain⟨j,l,f1,f2,f3⟩:=JcY hp';rw[Jfs h0 hok hlo f1 f2,f3]
def Jk4(n:Nt)(em:List Bool):Prop:=∀ i,i<n.rules.length->Rch (gE n em) (stN n i) (spN n i)->em.getD i false=true
theorem Jfx{n:Nt}(w:Wf n)(ok:JcL n){em:List Bool}(hl:em.length=n.rules.length)(h1:∀ i,em.getD i false=true->Emp n i)(h2:Jk4 n em):em=J4 n:=by
 apply List.ext_getElem?;intro j;unfold J4;rw[List.getElem?_map];rcases Nat.lt_or_ge j n.rules.length with hj | hj
 ·have hje:j<em.length:=by omega
  rw[List.getElem?_range hj,List.getElem?_eq_getElem hje];have hd:em.getD j false=em[j]:=by rw[List.getD_eq_getElem?_getD,List.getElem?_eq_getElem hje];rfl
  simp only[Option.map_some,Option.some.injEq];rw[<- hd,Bool.eq_iff_iff,JeS];exact⟨h1 j,fun q=>h2 j hj (Jo3 w ok h2 q)⟩
 ·rw[List.getElem?_eq_none (by omega),List.getElem?_eq_none (by simpa using hj)];rfl
theorem JjW(n:Nt)(w:Wf n)(ok:JcL n):JR Tryz.prog 62 [.pp (Jh n) 0] (.vec ((J4 n).map Jr) false):=by
 refine Jn Tryz.func62 rfl Tryz.ntmps62 (rs:=[.tmp 2]) rfl (by simp) ?_;have hst:=w.nst;have hru:=w.nru;simp (disch:=omega) only[Wz,seval,Jh];refine Jbv (fun(x:List Bool × Bool × Nat)=>⟨[(4,.lit (.bool x.2.1)),(3,.own 0 n.rules.length),(0,.pp (Jh n) 0)],⟨[],[(0,⟨x.1.map Jr,0,1⟩)],x.2.2⟩,100⟩)
  (fun x=>x.1.length=n.rules.length/\(∀ i,x.1.getD i false=true->Emp n i)/\(x.2.1=false->Jk4 n x.1)/\0<x.2.2) (fun x=>2 * x.1.count false+x.2.1.toNat) (List.replicate n.rules.length false,true,1)
  (JaE (Jb rfl (Jb rfl (Jb rfl Jl))) Jl (Jb (by simp[lk,Jr]) Jl) rfl rfl) ⟨by simp,fun i hi=>?_,fun(q:true=false)=>(nomatch q),Nat.one_pos⟩ ?_
 ·simp only[List.getD_eq_getElem?_getD,List.getElem?_replicate] at hi;split at hi <;> cases hi
 rintro⟨em,ag,nx0⟩ ⟨hel,hes,hec,hn0⟩;simp only at hel hes hec hn0 ⊢;cases ag
 ·
  have e:=Jfx w ok hel hes (hec rfl);rw[<- e];simp (disch:=omega) only[Wz,seval];exact Jbf (k:=⟨em.map Jr,0,1⟩) rfl (by simpa using hel.symm) (Ji Jad _)
 ·simp (disch:=omega) only[Wz,seval,Jh];obtain⟨T0,hT0⟩:∃ T0:List (Nat × Tk),[(0,(⟨em.map Jr,0,1⟩:Tk))]=T0:=⟨_,rfl⟩;have h0:TOk T0 nx0:=by subst hT0;exact Jb ⟨hn0,rfl⟩ Jl
  have T00:lk T0 0=some ⟨em.map Jr,0,1⟩:=by subst hT0;rfl
  have hnN:=Jbq (N:=n.states.length);refine Jbv (fun(x:Nat × List (Nat × List Nat) × Nat)=>⟨[(30,.lit (.int .i64 (x.1:Int))),(29,.lit (.int .i64 (n.states.length:Int))),(28,.vec (n.states.map Jd) false),(5,.own nx0 n.states.length),(4,.lit (.bool false)),(3,.own 0 n.rules.length),(0,.pp (Jh n) 0)],⟨[],nT T0 nx0 x.2.1,x.2.2⟩,100⟩)
   (fun x=>x.1<=n.states.length/\NOk x.2.1 (nx0+1) x.2.2/\x.2.1.map (·.2)=gOf n.states.length (JbB (prE em) n x.1 0)/\nx0+1<=x.2.2) (fun x=>n.states.length - x.1) (0,List.replicate n.states.length (0,[]),nx0+1)
   (JaE (Jb rfl (Jb rfl (Jb rfl (Jb rfl (Jb rfl (Jb rfl (Jb rfl Jl))))))) Jl (by simp only[Jo5];subst hT0;exact Jb rfl (Jb (by simp[lk];omega) Jl)) rfl rfl) ⟨Nat.zero_le _,Jix,by simp[JeR,Jfd],Nat.le_refl _⟩ ?_
  rintro⟨i,A,nx⟩ ⟨hi,hA,hAg,hnx⟩;simp only at hi hA hAg hnx ⊢;rcases Nat.lt_or_ge i n.states.length with hlt | hge
  ·obtain⟨s,hs⟩:∃ s,n.states.getD i default=s:=⟨_,rfl⟩;have hse:=(ok.edges s (by rw[<- hs];exact Ju hlt)).1;simp (disch:=omega) only[Wz,seval,Jh,hs,Jd];refine Jbv (fun(x:Nat × List (Nat × List Nat) × Nat)=>⟨[(38,.lit (.int .i64 (x.1:Int))),(37,.lit (.int .i64 (s.edges.length:Int))),(36,.vec (s.edges.map Jo) false),(6,.lit (.int .i64 (i:Int))),(30,.lit (.int .i64 (i:Int))),(29,.lit (.int .i64 (n.states.length:Int))),(28,.vec (n.states.map Jd) false),(5,.own nx0 n.states.length),(4,.lit (.bool false)),(3,.own 0 n.rules.length),(0,.pp (Jh n) 0)],⟨[],nT T0 nx0 x.2.1,x.2.2⟩,100⟩)
    (fun x=>x.1<=s.edges.length/\NOk x.2.1 (nx0+1) x.2.2/\x.2.1.map (·.2)=gOf n.states.length (JbB (prE em) n i x.1)/\nx0+1<=x.2.2) (fun x=>s.edges.length - x.1) (0,A,nx+1)
    (JaE (Jb rfl (Jb rfl (Jb rfl (Jb rfl (Jb rfl (Jb rfl (Jb rfl (Jb rfl (Jb rfl (Jb rfl (Jb rfl Jl))))))))))) Jl ?_ rfl rfl) ⟨Nat.zero_le _,Jbz hA (Nat.le_succ _),hAg,by simp only;omega⟩ ?_
   ·exact Jb1 h0 hA (Nat.lt_succ_self _)
   rintro⟨k,A,nx⟩ ⟨hk,hA,hAg,hnx⟩;simp only at hk hA hAg hnx ⊢;rcases Nat.lt_or_ge k s.edges.length with hlk | hgk
   ·obtain⟨e,he⟩:∃ e,s.edges.getD k default=e:=⟨_,rfl⟩;have hem:e∈(n.states.getD i default).edges:=by rw[hs,<- he];exact Ju hlk
    have hto:=w.to hlt hem;have h12:=(w.ed i hlt e hem).2.1;have hps:=JeQ (prE em) n (i:=i) (k:=k) (by rw[hs];exact hlk);rw[hs,he] at hps;have hbd:=Jk3 w ok (em:=em) (i:=i) (k:=k) (.inl hlt);by_cases hc:e.op.1≠1/\(e.op.1≠2\/em.getD e.n.toNat false=true)
    ·have hpr:prE em i e=[(i,e.to.toNat)]:=by unfold prE;rw[if_pos hc]
     have hg:gOf n.states.length (JbB (prE em) n i (k+1))=Ji7 (gOf n.states.length (JbB (prE em) n i k)) (i,e.to.toNat):=by rw[hps,hpr,Jca]
     obtain⟨t,hAi⟩:=Jdo hAg (i:=i) (by rw[hnN];exact hlt);obtain⟨l,hl⟩:∃ l,(gOf n.states.length (JbB (prE em) n i k)).getD i []=l:=⟨_,rfl⟩;have hag:∀ t',(A.set i (t',l++[e.to.toNat])).map (·.2)=gOf n.states.length (JbB (prE em) n i (k+1)):=fun t'=>by rw[hg];exact Jdp hAg hl
     rw[hl] at hAi;have hll:l.length<=10000000000000:=by rw[<- hl];exact Nat.le_trans (Jiu (fun p hp=>(hbd.1 p hp).1) i) hbd.2
     have hL0:lk (nT T0 nx0 A) 0=some ⟨em.map Jr,0,1⟩:=by rw[Jmx hn0 hA (Nat.lt_succ_self _)];exact T00
     have hLg:lk (nT T0 nx0 A) nx0=some ⟨A.map JY,0,1⟩:=JkO h0;have hgi:(A.map JY)[i]? = some (JY (t,l)):=by rw[List.getElem?_map,hAi];rfl
     have hNA:A.length=n.states.length:=by rw[<- hnN (JbB (prE em) n i k),<- hAg,List.length_map]
     have hrI:Jak e.to.toNat=[.lit (.int .i64 e.to)]:=by unfold Jak;rw[Int.toNat_of_nonneg hto.1]
     have hcase:(e.op.1=2/\em.getD e.n.toNat default=true/\0<=e.n/\e.n<(n.rules.length:Int))\/e.op.1≠2:=by
      by_cases c2:e.op.1=2
      ·exact .inl ⟨c2,hc.2.resolve_left fun q=>q c2,w.call hlt hem c2⟩
      ·exact .inr c2
     have c1:=hc.1;rcases hcase with ⟨c2,c3,c4,c5⟩ | c2
     all_goals
      first
       | simp (disch:=omega) only[Wz,seval,Jh,he,Jo,c1,c2,hL0,c3,Jr,hel]
       | simp (disch:=omega) only[Wz,seval,Jh,he,Jo,c1,c2]
      refine Ja8 (σ':=⟨[(38,.lit (.int .i64 (k:Int))),(37,.lit (.int .i64 (s.edges.length:Int))),(36,.vec (s.edges.map Jo) false),(9,.ptr nx 0),(6,.lit (.int .i64 (i:Int))),(30,.lit (.int .i64 (i:Int))),(29,.lit (.int .i64 (n.states.length:Int))),(28,.vec (n.states.map Jd) false),(5,.own nx0 n.states.length),(4,.lit (.bool false)),(3,.own 0 n.rules.length),(0,.pp (Jh n) 0)],⟨[(nx,Jo e)],nT T0 nx0 A,nx+1⟩,100⟩) (JaE (Jb rfl (Jb rfl (Jb rfl (Jb rfl (Jb rfl (Jb rfl (Jb rfl (Jb rfl (Jb rfl (Jb rfl (Jb rfl (Jb rfl Jl)))))))))))) (Jb (by first | rfl | simp[lk,Jo,c2]) Jl) (Jb1 h0 hA (Nat.lt_succ_self _)) rfl rfl) ?_;rcases List.eq_nil_or_concat l with hl0 | ⟨l',y,hl0⟩
      ·subst hl0;obtain⟨hA',hw'⟩:=Jii h0 (Jbz hA (Nat.le_succ _)) (Nat.lt_succ_self _) (by omega) hAi (x:=e.to.toNat);rw[hrI] at hw';have hf:Ja7 (0+1) 8:=by decide
       refine JbN (n:=100) (σ':=⟨[(38,.lit (.int .i64 (k:Int))),(37,.lit (.int .i64 (s.edges.length:Int))),(36,.vec (s.edges.map Jo) false),(6,.lit (.int .i64 (i:Int))),(30,.lit (.int .i64 (i:Int))),(29,.lit (.int .i64 (n.states.length:Int))),(28,.vec (n.states.map Jd) false),(5,.own nx0 n.states.length),(4,.lit (.bool false)),(3,.own 0 n.rules.length),(0,.pp (Jh n) 0)],⟨[],nT T0 nx0 (A.set i (nx+1,[e.to.toNat])),nx+1+1⟩,100⟩) (nx+1+1) 9 (.alt 10 (.alt 11 .leaf .nil) .nil) rfl rfl (by decide) (by decide) (by decide) mixed (by kernel_rfl) (by decide) ?_ ?_
       ·have hf1:Ja7 1 8:=by decide
        have hLg2:∀ x,lk (nT T0 nx0 A++x) nx0=some ⟨A.map JY,0,1⟩:=fun x=>by rw[JC,hLg];rfl
        simp (disch:=omega) only[Wz,seval,Jo,hLg,hLg2,hgi,JY,List.mem_singleton,forall_eq,List.not_mem_nil,false_imp_iff,implies_true,hf1];exact St.wk.cp (JaE (Jb rfl (Jb rfl (Jb rfl (Jb rfl (Jb rfl (Jb rfl (Jb rfl (Jb rfl (Jb rfl (Jb rfl (Jb rfl Jl))))))))))) Jl hw' rfl rfl)
       ·simp (disch:=omega) only[Wz,seval,Jo];exact⟨(k+1,A.set i (nx+1,[e.to.toNat]),nx+1+1),⟨hlk,hA',hag (nx+1),by simp only;omega⟩,by simp only;omega,JaE (Jb rfl (Jb rfl (Jb rfl (Jb rfl (Jb rfl (Jb rfl (Jb rfl (Jb rfl (Jb rfl (Jb rfl (Jb rfl Jl))))))))))) Jl (Jb1 h0 hA' (Nat.lt_succ_self _)) rfl rfl⟩
      ·have hlne:l≠[]:=by rw[hl0];simp
       have hnc:JY (t,l)=[.own t l.length]:=Jbo hlne;have hLt:lk (nT T0 nx0 A) t=some ⟨l.map Jak,0,1⟩:=Jfs h0 hA (Nat.lt_succ_self _) hAi hlne;have htg:(t=nx0)=False:=by have:=(hA.rg _ (List.mem_of_getElem? hAi) hlne).1;simp only at this;simp;omega
       obtain⟨hA',hw'⟩:=Jih h0 hA (Nat.lt_succ_self _) hAi hlne (x:=e.to.toNat);rw[hrI] at hw';have hf:Ja7 (l.length+1) 8:=⟨by unfold maxLen;omega,by omega⟩;have hLg2:∀ x,lk (up (nT T0 nx0 A) t x) nx0=some ⟨A.map JY,0,1⟩:=fun x=>by rw[JH,hLg];simp only[htg,if_false]
       refine JbN (n:=100) (σ':=⟨[(38,.lit (.int .i64 (k:Int))),(37,.lit (.int .i64 (s.edges.length:Int))),(36,.vec (s.edges.map Jo) false),(6,.lit (.int .i64 (i:Int))),(30,.lit (.int .i64 (i:Int))),(29,.lit (.int .i64 (n.states.length:Int))),(28,.vec (n.states.map Jd) false),(5,.own nx0 n.states.length),(4,.lit (.bool false)),(3,.own 0 n.rules.length),(0,.pp (Jh n) 0)],⟨[],nT T0 nx0 (A.set i (t,l++[e.to.toNat])),nx+1⟩,100⟩) (nx+1) 9 (.alt 10 (.alt 11 .leaf .nil) .nil) rfl rfl (by decide) (by decide) (by decide) mixed (by kernel_rfl) (by decide) ?_ ?_
       ·simp (disch:=omega) only[Wz,seval,Jo,hLg,hLg2,hLt,hgi,hnc,List.mem_singleton,forall_eq,List.not_mem_nil,false_imp_iff,implies_true,hf,List.length_map];exact St.wk.cp (JaE (Jb rfl (Jb rfl (Jb rfl (Jb rfl (Jb rfl (Jb rfl (Jb rfl (Jb rfl (Jb rfl (Jb rfl (Jb rfl Jl))))))))))) Jl hw' rfl rfl)
       ·simp (disch:=omega) only[Wz,seval,Jo];exact⟨(k+1,A.set i (t,l++[e.to.toNat]),nx+1),⟨hlk,Jbz hA' (Nat.le_succ _),hag t,by simp only;omega⟩,by simp only;omega,JaE (Jb rfl (Jb rfl (Jb rfl (Jb rfl (Jb rfl (Jb rfl (Jb rfl (Jb rfl (Jb rfl (Jb rfl (Jb rfl Jl))))))))))) Jl (Jb1 h0 hA' (Nat.lt_succ_self _)) rfl rfl⟩
    ·have hpr:prE em i e=[]:=by unfold prE;rw[if_neg hc]
     rw[hpr,List.append_nil] at hps;by_cases c1:e.op.1=1
     ·simp (disch:=omega) only[Wz,seval,Jh,he,Jo,c1];exact⟨(k+1,A,nx+1),⟨hlk,Jbz hA (Nat.le_succ _),by rw[hps];exact hAg,by simp only;omega⟩,by simp only;omega,JaE (Jb rfl (Jb rfl (Jb rfl (Jb rfl (Jb rfl (Jb rfl (Jb rfl (Jb rfl (Jb rfl (Jb rfl (Jb rfl Jl))))))))))) Jl (Jb1 h0 hA (Nat.lt_succ_self _)) rfl rfl⟩
     ·have c2:e.op.1=2:=Classical.byContradiction fun q=>hc ⟨c1,.inl q⟩
      have c3:em.getD e.n.toNat default=false:=by
       cases h:em.getD e.n.toNat false with
       | false=>exact h
       | true=>exact absurd ⟨c1,.inr h⟩ hc
      have hcl:=w.call hlt hem c2;simp (disch:=omega) only[Wz,seval,Jh,he,Jo,c1,c2,Jmx,T00,c3,Jr,hel];exact⟨(k+1,A,nx+1),⟨hlk,Jbz hA (Nat.le_succ _),by rw[hps];exact hAg,by simp only;omega⟩,by simp only;omega,JaE (Jb rfl (Jb rfl (Jb rfl (Jb rfl (Jb rfl (Jb rfl (Jb rfl (Jb rfl (Jb rfl (Jb rfl (Jb rfl Jl))))))))))) Jl (Jb1 h0 hA (Nat.lt_succ_self _)) rfl rfl⟩
   ·have hke:k=s.edges.length:=by omega
    have hpe:=JfU (prE em) n (i:=i);rw[hs,<- hke] at hpe;simp (disch:=omega) only[Wz,seval,Jh,hs,Jd];exact⟨(i+1,A,nx),⟨hlt,hA,by rw[<- hpe];exact hAg,hnx⟩,by simp only;omega,JaE (Jb rfl (Jb rfl (Jb rfl (Jb rfl (Jb rfl (Jb rfl (Jb rfl Jl))))))) Jl (Jb1 h0 hA (Nat.lt_succ_self _)) rfl rfl⟩
  ·have hie:i=n.states.length:=by omega
   have hNA:A.length=n.states.length:=by rw[<- hnN (JbB (prE em) n i 0),<- hAg,List.length_map]
   have hGe:A.map (·.2)=gE n em:=by rw[hAg,hie];rfl
   have hG:=JzT w ok em;have hGl:(gE n em).length=n.states.length:=Jbq _;simp (disch:=omega) only[Wz,seval,Jh];refine Ja8 (σ':=⟨[(75,.lit (.int .i64 0)),(74,.lit (.int .i64 (n.rules.length:Int))),(73,.vec (n.rules.map Jc) false),(5,vG (gE n em)),(4,.lit (.bool false)),(3,.own 0 n.rules.length),(0,.pp (Jh n) 0)],⟨[],T0,nx⟩,100⟩)
    (St.wk_nest h0 hA (Nat.lt_succ_self _) Jl (Jb (.inl rfl) (Jb (.inl rfl) (Jb (.inl rfl) (Jb (.inr ⟨by rw[hNA];rfl,by rw[hGe]⟩) (Jb (.inl rfl) (Jb (.inl rfl) (Jb (.inl rfl) Jl)))))))) ?_
   subst hT0;obtain⟨G,hGG⟩:∃ G,gE n em=G:=⟨_,rfl⟩;rw[hGG] at hG hGl ⊢;refine Jbv (fun(x:Nat × List Bool × Bool × Nat)=>⟨[(75,.lit (.int .i64 (x.1:Int))),(74,.lit (.int .i64 (n.rules.length:Int))),(73,.vec (n.rules.map Jc) false),(5,vG G),(4,.lit (.bool x.2.2.1)),(3,.own 0 n.rules.length),(0,.pp (Jh n) 0)],⟨[],[(0,⟨x.2.1.map Jr,0,1⟩)],x.2.2.2⟩,100⟩)
    (fun x=>x.1<=n.rules.length/\x.2.1.length=n.rules.length/\(∀ j,x.2.1.getD j false=true->Emp n j)/\x.2.1.count false<=em.count false/\(x.2.2.1=true->x.2.1.count false+1<=em.count false)/\(x.2.2.1=false->x.2.1=em) /\
     (∀ j,j<x.1->Rch G (stN n j) (spN n j)->x.2.1.getD j false=true)/\0<x.2.2.2) (fun x=>n.rules.length - x.1) (0,em,false,nx)
    (JaE (Jb rfl (Jb rfl (Jb rfl (Jb rfl (Jb rfl (Jb rfl (Jb rfl Jl))))))) Jl (Jb rfl Jl) rfl rfl)
    ⟨Nat.zero_le _,hel,hes,Nat.le_refl _,fun(q:false=true)=>(nomatch q),fun _=>rfl,fun j hj=>absurd hj (Nat.not_lt_zero _),by simp only;omega⟩ ?_
   rintro⟨i',em',ag,nx'⟩ ⟨hi',hl',hs',hc',ha',hb',hd',hn'⟩;simp only at hi' hl' hs' hc' ha' hb' hd' hn' ⊢;rcases Nat.lt_or_ge i' n.rules.length with hlt' | hge'
   ·obtain⟨r,hr⟩:∃ r,n.rules.getD i' default=r:=⟨_,rfl⟩;have hrs:=w.start hlt';have hrp:=w.stop hlt';have hsN:stN n i'=r.start.toNat:=by unfold stN;rw[hr]
    have hpN:spN n i'=r.stop.toNat:=by unfold spN;rw[hr]
    rw[hr] at hrs hrp;obtain⟨a,ha⟩:∃ a:Nat,r.start=(a:Int):=⟨r.start.toNat,by omega⟩;obtain⟨b,hb⟩:∃ b:Nat,r.stop=(b:Int):=⟨r.stop.toNat,by omega⟩;rw[ha] at hrs hsN;rw[hb] at hrp hpN;simp only[Int.toNat_natCast] at hsN hpN;have hfr:=JjT G a hG (by omega);cases hem':em'.getD i' false
    ·have hemd:em'.getD i' default=false:=hem';simp (disch:=omega) only[Wz,seval,Jh,hr,Jc];refine Jx (n:=100) rfl (by decide) mixed ?_;simp (disch:=omega) only[Wz,seval,hemd,Jr,ha,hb];refine Jac Jr2 hfr (Jb (JgL G) (Jb (.lit _) Jl)) (.vec (Ji Jad _)) ?_;have hfl:(JfN G a).length=G.length:=by simp[JfN]
     have hfg:(JfN G a).getD b default=JlU G a b:=JgM (by omega);cases hrb:JlU G a b
     ·rw[hrb] at hfg;simp (disch:=omega) only[Wz,seval,Jr,ha,hb,hfg,hfl];refine⟨(i'+1,em',ag,nx'+1),⟨hlt',hl',hs',hc',ha',hb',fun j hj hR=>?_,by simp only;omega⟩,by simp only;omega,JaE (Jb rfl (Jb rfl (Jb rfl (Jb rfl (Jb rfl (Jb rfl (Jb rfl Jl))))))) Jl (Jb rfl Jl) rfl rfl⟩;rcases Nat.lt_succ_iff_lt_or_eq.1 hj with hj | rfl
      ·exact hd' j hj hR
      ·rw[hsN,hpN] at hR;rw[JbW.2 hR] at hrb;cases hrb
     ·rw[hrb] at hfg;have hR:=JbW.1 hrb;rw[<- hsN,<- hpN,<- hGG] at hR;have hEm:Emp n i':=Jiw w ok hes hR;have hil:i'<em'.length:=by omega
      have hsg:∀ j,(em'.set i' true).getD j false=if i'=j then true else em'.getD j false:=fun j=>Jbl hil
      have hcs:=Jcc hil hem';simp (disch:=omega) only[Wz,seval,Jr,ha,hb,hfg,hfl,hl'];refine⟨(i'+1,em'.set i' true,true,nx'+1),⟨hlt',by simpa using hl',fun j hj=>?_,by simp only;omega,fun _=>by simp only;omega,fun(q:true=false)=>(nomatch q),fun j hj hR=>?_,by simp only;omega⟩,by simp only;omega,JaE (Jb rfl (Jb rfl (Jb rfl (Jb rfl (Jb rfl (Jb rfl (Jb rfl Jl))))))) Jl (Jb (by simp[lk,List.map_set,Jr]) Jl) rfl rfl⟩
      ·simp only[hsg j] at hj;split at hj
       ·rename_i q;rw[<- q];exact hEm
       ·exact hs' j hj
      ·simp only[hsg j];split
       ·rfl
       ·rename_i q;exact hd' j (by omega) hR
    ·have hemd:em'.getD i' default=true:=hem';simp (disch:=omega) only[Wz,seval,Jh,hr,Jc];refine Jx (n:=100) rfl (by decide) mixed ?_;simp (disch:=omega) only[Wz,seval,hemd,Jr,ha,hb];refine⟨(i'+1,em',ag,nx'+1),⟨hlt',hl',hs',hc',ha',hb',fun j hj hR=>?_,by simp only;omega⟩,by simp only;omega,JaE (Jb rfl (Jb rfl (Jb rfl (Jb rfl (Jb rfl (Jb rfl (Jb rfl Jl))))))) Jl (Jb rfl Jl) rfl rfl⟩;rcases Nat.lt_succ_iff_lt_or_eq.1 hj with hj | rfl
     ·exact hd' j hj hR
     ·exact hem'
   ·simp (disch:=omega) only[Wz,seval,Jh];refine⟨(em',ag,nx'),⟨hl',hs',fun hag=>?_,hn'⟩,?_,JaE (Jb rfl (Jb rfl (Jb rfl Jl))) Jl (Jb rfl Jl) rfl rfl⟩
    ·have:=hb' hag;intro j hj hR;refine hd' j (by omega) ?_;simp only[this,hGG] at hR;exact hR
    ·simp only;cases ag
     ·rw[hb' rfl];simp
     ·have:=ha' rfl;simp;omega
end Go.Proofs.Y
end
section
namespace Go.Proofs.Y
open Go Go.Ab
def prB (i:Nat)(e:Ed):List (Nat × Nat):=[(e.to.toNat,i)]
def gB (n:Nt):List (List Nat):=gOf n.states.length (JbB prB n n.states.length 0)
def Jr8(n:Nt)(s:Nat):Prop:=∃ i,i<n.rules.length/\(s=spN n i\/Rch (gB n) (spN n i) s)
noncomputable def JfP(n:Nt):Bool:=@decide (∀ s,s<n.states.length->Jr8 n s) (Classical.propDecidable _)
section
variable {n:Nt} (w:Wf n) (ok:JcL n)
include w ok
theorem Jk5{i k:Nat}(hi:i<n.states.length\/k=0/\i=n.states.length):(∀ p∈JbB prB n i k,p.1<n.states.length/\p.2<n.states.length)/\(JbB prB n i k).length<=10000000000000:=by
 refine⟨fun p hp=>?_,?_⟩
 ·have:∃ j e,j<n.states.length/\e∈(n.states.getD j default).edges/\p∈prB j e:=by
   rcases hi with hi | ⟨rfl,rfl⟩
   ·obtain⟨j,e,h1,h2,h3⟩:=Jiv _ n hp;exact⟨j,e,by omega,h2,h3⟩
   ·unfold JbB at hp;simp only[List.take_zero,List.flatMap_nil,List.append_nil] at hp;obtain⟨j,h1,h2⟩:=List.mem_flatMap.1 hp;obtain⟨e,h3,h4⟩:=List.mem_flatMap.1 h2;exact⟨j,e,List.mem_range.1 h1,h3,h4⟩
  obtain⟨j,e,hj,he,hp⟩:=this;unfold prB at hp;simp only[List.mem_singleton] at hp;subst hp;have:=w.to hj he;exact⟨by simp only;omega,hj⟩
 ·have:=JfV prB n (i:=i) (k:=k) (c:=1) (fun j e=>by simp[prB]) ok.edgesD;have:=w.nst;omega
theorem JzU:GOk (gB n):=by
 have h:=Jk5 w ok (i:=n.states.length) (k:=0) (.inr ⟨rfl,rfl⟩);exact JlW (by have:=w.nst;omega) h.1 h.2
end
theorem Jo6(n:Nt)(w:Wf n)(ok:JcL n):JR Tryz.prog 61 [.pp (Jh n) 0] (.lit (.bool (JfP n))):=by
 refine Jn Tryz.func61 rfl Tryz.ntmps61 (rs:=[.tmp 2]) rfl (by simp) ?_;have hst:=w.nst;have hru:=w.nru;have fin:∀ h b,JcV h (.lit (.bool b)) (.lit (.bool b)):=fun h b=>Ja (.lit _);simp (disch:=omega) only[Wz,seval,Jh];have hnN:=Jbq (N:=n.states.length);have h0:TOk [] 0:=Jl;have l01:0<0+1:=Nat.lt_succ_self 0;refine Jbv (fun(x:Nat × List (Nat × List Nat) × Nat)=>⟨[(24,.lit (.int .i64 (x.1:Int))),(23,.lit (.int .i64 (n.states.length:Int))),(22,.vec (n.states.map Jd) false),(3,.own 0 n.states.length),(0,.pp (Jh n) 0)],⟨[],nT [] 0 x.2.1,x.2.2⟩,94⟩)
  (fun x=>x.1<=n.states.length/\NOk x.2.1 (0+1) x.2.2/\x.2.1.map (·.2)=gOf n.states.length (JbB prB n x.1 0)/\0+1<=x.2.2) (fun x=>n.states.length - x.1) (0,List.replicate n.states.length (0,[]),1)
  (JaE (Jb rfl (Jb rfl (Jb rfl (Jb rfl (Jb rfl Jl))))) Jl (by simp only[Jo5];exact Jb rfl Jl) rfl rfl) ⟨Nat.zero_le _,Jix,by simp[JeR,Jfd],Nat.le_refl _⟩ ?_
 rintro⟨i,A,nx⟩ ⟨hi,hA,hAg,hnx⟩;simp only at hi hA hAg hnx ⊢;rcases Nat.lt_or_ge i n.states.length with hlt | hge
 ·obtain⟨s,hs⟩:∃ s,n.states.getD i default=s:=⟨_,rfl⟩;have hse:=(ok.edges s (by rw[<- hs];exact Ju hlt)).1;simp (disch:=omega) only[Wz,seval,Jh,hs,Jd];refine Jbv (fun(x:Nat × List (Nat × List Nat) × Nat)=>⟨[(32,.lit (.int .i64 (x.1:Int))),(31,.lit (.int .i64 (s.edges.length:Int))),(30,.vec (s.edges.map Jo) false),(4,.lit (.int .i64 (i:Int))),(24,.lit (.int .i64 (i:Int))),(23,.lit (.int .i64 (n.states.length:Int))),(22,.vec (n.states.map Jd) false),(3,.own 0 n.states.length),(0,.pp (Jh n) 0)],⟨[],nT [] 0 x.2.1,x.2.2⟩,94⟩)
   (fun x=>x.1<=s.edges.length/\NOk x.2.1 (0+1) x.2.2/\x.2.1.map (·.2)=gOf n.states.length (JbB prB n i x.1)/\0+1<=x.2.2) (fun x=>s.edges.length - x.1) (0,A,nx+1)
   (JaE (Jb rfl (Jb rfl (Jb rfl (Jb rfl (Jb rfl (Jb rfl (Jb rfl (Jb rfl (Jb rfl Jl))))))))) Jl (Jb1 h0 hA l01) rfl rfl) ⟨Nat.zero_le _,Jbz hA (Nat.le_succ _),hAg,by simp only;omega⟩ ?_
  rintro⟨k,A,nx⟩ ⟨hk,hA,hAg,hnx⟩;simp only at hk hA hAg hnx ⊢;rcases Nat.lt_or_ge k s.edges.length with hlk | hgk
  ·obtain⟨e,he⟩:∃ e,s.edges.getD k default=e:=⟨_,rfl⟩;have hem:e∈(n.states.getD i default).edges:=by rw[hs,<- he];exact Ju hlk
   have hto:=w.to hlt hem;have hps:=JeQ prB n (i:=i) (k:=k) (by rw[hs];exact hlk);rw[hs,he] at hps;have hbd:=Jk5 w ok (i:=i) (k:=k) (.inl hlt);obtain⟨v,hv⟩:∃ v:Nat,e.to=(v:Int):=⟨e.to.toNat,by omega⟩;have hg:gOf n.states.length (JbB prB n i (k+1))=Ji7 (gOf n.states.length (JbB prB n i k)) (v,i):=by rw[hps];unfold prB;rw[Jca,hv];rfl
   rw[hv] at hto;have hvl:v<n.states.length:=by omega
   obtain⟨t,hAi⟩:=Jdo hAg (i:=v) (by rw[hnN];exact hvl);obtain⟨l,hl⟩:∃ l,(gOf n.states.length (JbB prB n i k)).getD v []=l:=⟨_,rfl⟩;have hag:∀ t',(A.set v (t',l++[i])).map (·.2)=gOf n.states.length (JbB prB n i (k+1)):=fun t'=>by rw[hg];exact Jdp hAg hl
   rw[hl] at hAi;have hll:l.length<=10000000000000:=by rw[<- hl];exact Nat.le_trans (Jiu (fun p hp=>(hbd.1 p hp).1) v) hbd.2
   have hLg:lk (nT [] 0 A) 0=some ⟨A.map JY,0,1⟩:=JkO h0;have hgi:(A.map JY)[v]? = some (JY (t,l)):=by rw[List.getElem?_map,hAi];rfl
   have hNA:A.length=n.states.length:=by rw[<- hnN (JbB prB n i k),<- hAg,List.length_map]
   simp (disch:=omega) only[Wz,seval,Jh,he,Jo,hv];refine Ja8 (σ':=⟨[(32,.lit (.int .i64 (k:Int))),(31,.lit (.int .i64 (s.edges.length:Int))),(30,.vec (s.edges.map Jo) false),(7,.ptr nx 0),(4,.lit (.int .i64 (i:Int))),(24,.lit (.int .i64 (i:Int))),(23,.lit (.int .i64 (n.states.length:Int))),(22,.vec (n.states.map Jd) false),(3,.own 0 n.states.length),(0,.pp (Jh n) 0)],⟨[(nx,Jo e)],nT [] 0 A,nx+1⟩,94⟩) (JaE (Jb rfl (Jb rfl (Jb rfl (Jb rfl (Jb rfl (Jb rfl (Jb rfl (Jb rfl (Jb rfl (Jb rfl Jl)))))))))) (Jb (by first | rfl | simp[lk,Jo,hv]) Jl) (Jb1 h0 hA l01) rfl rfl) ?_;rcases List.eq_nil_or_concat l with hl0 | ⟨l',y,hl0⟩
   ·subst hl0;obtain⟨hA',hw'⟩:=Jii h0 (Jbz hA (Nat.le_succ _)) l01 (by omega) hAi (x:=i);refine JeM (nx+1) (n:=94) (σ':=⟨[(32,.lit (.int .i64 (k:Int))),(31,.lit (.int .i64 (s.edges.length:Int))),(30,.vec (s.edges.map Jo) false),(4,.lit (.int .i64 (i:Int))),(24,.lit (.int .i64 (i:Int))),(23,.lit (.int .i64 (n.states.length:Int))),(22,.vec (n.states.map Jd) false),(3,.own 0 n.states.length),(0,.pp (Jh n) 0)],⟨[],nT [] 0 (A.set v (nx+1,[i])),nx+1+1⟩,94⟩) (nx+1+1) 10 (.alt 11 (.alt 12 .leaf .nil) .nil) rfl rfl (by decide) (by decide) (by decide) mixed (by kernel_rfl) (by decide) ?_ ?_
    ·have hf1:Ja7 1 8:=by decide
     have hLg2:∀ x,lk (nT [] 0 A++x) 0=some ⟨A.map JY,0,1⟩:=fun x=>by rw[JC,hLg];rfl
     simp (disch:=omega) only[Wz,seval,Jo,hv,hLg,hLg2,hgi,JY,List.mem_singleton,forall_eq,List.not_mem_nil,false_imp_iff,implies_true,hf1];refine And.intro (Jc1 fun t' k' _ hk=>by rw[JC,hk];rfl) (And.intro ?_ (St.wk.cp (JaE (Jb rfl (Jb rfl (Jb rfl (Jb rfl (Jb rfl (Jb rfl (Jb rfl (Jb rfl (Jb rfl Jl))))))))) Jl (by simpa [Jak] using hw') rfl rfl)));repeat (first | exact Jl | refine Jb (by first | exact Jjw | exact Jjx | exact Jn8 | exact Jjy | exact Jjz | exact JjA | exact JjB | exact Jn9 (by omega)) ?_)
    ·simp (disch:=omega) only[Wz,seval,Jo];exact⟨(k+1,A.set v (nx+1,[i]),nx+1+1),⟨hlk,hA',hag (nx+1),by simp only;omega⟩,by simp only;omega,JaE (Jb rfl (Jb rfl (Jb rfl (Jb rfl (Jb rfl (Jb rfl (Jb rfl (Jb rfl (Jb rfl Jl))))))))) Jl (Jb1 h0 hA' l01) rfl rfl⟩
   ·have hlne:l≠[]:=by rw[hl0];simp
    have hnc:JY (t,l)=[.own t l.length]:=Jbo hlne;have hLt:lk (nT [] 0 A) t=some ⟨l.map Jak,0,1⟩:=Jfs h0 hA l01 hAi hlne;have ht1:=(hA.rg _ (List.mem_of_getElem? hAi) hlne).1;simp only at ht1;have htg:(t=0)=False:=by simp;omega
    obtain⟨hA',hw'⟩:=Jih h0 hA l01 hAi hlne (x:=i);have hf:Ja7 (l.length+1) 8:=⟨by unfold maxLen;omega,by omega⟩;have hLg2:∀ x,lk (up (nT [] 0 A) t x) 0=some ⟨A.map JY,0,1⟩:=fun x=>by rw[JH,hLg];simp only[htg,if_false]
    refine JeM t (n:=94) (σ':=⟨[(32,.lit (.int .i64 (k:Int))),(31,.lit (.int .i64 (s.edges.length:Int))),(30,.vec (s.edges.map Jo) false),(4,.lit (.int .i64 (i:Int))),(24,.lit (.int .i64 (i:Int))),(23,.lit (.int .i64 (n.states.length:Int))),(22,.vec (n.states.map Jd) false),(3,.own 0 n.states.length),(0,.pp (Jh n) 0)],⟨[],nT [] 0 (A.set v (t,l++[i])),nx+1⟩,94⟩) (nx+1) 10 (.alt 11 (.alt 12 .leaf .nil) .nil) rfl rfl (by decide) (by decide) (by decide) mixed (by kernel_rfl) (by decide) ?_ ?_
    ·simp (disch:=omega) only[Wz,seval,Jo,hv,hLg,hLg2,hLt,hgi,hnc,List.mem_singleton,forall_eq,List.not_mem_nil,false_imp_iff,implies_true,hf,List.length_map];refine And.intro (Jc1 fun t' k' ht' hk=>by rw[JH,if_neg (Ne.symm ht')];exact hk) (And.intro ?_ (St.wk.cp (JaE (Jb rfl (Jb rfl (Jb rfl (Jb rfl (Jb rfl (Jb rfl (Jb rfl (Jb rfl (Jb rfl Jl))))))))) Jl (by simpa [Jak] using hw') rfl rfl)));repeat (first | exact Jl | refine Jb (by first | exact Jjw | exact Jjx | exact Jn8 | exact Jjy | exact Jjz | exact JjA | exact JjB | exact Jn9 (by omega)) ?_)
    ·simp (disch:=omega) only[Wz,seval,Jo];exact⟨(k+1,A.set v (t,l++[i]),nx+1),⟨hlk,Jbz hA' (Nat.le_succ _),hag t,by simp only;omega⟩,by simp only;omega,JaE (Jb rfl (Jb rfl (Jb rfl (Jb rfl (Jb rfl (Jb rfl (Jb rfl (Jb rfl (Jb rfl Jl))))))))) Jl (Jb1 h0 hA' l01) rfl rfl⟩
  ·have hke:k=s.edges.length:=by omega
   have hpe:=JfU prB n (i:=i);rw[hs,<- hke] at hpe;simp (disch:=omega) only[Wz,seval,Jh,hs,Jd];exact⟨(i+1,A,nx),⟨hlt,hA,by rw[<- hpe];exact hAg,hnx⟩,by simp only;omega,JaE (Jb rfl (Jb rfl (Jb rfl (Jb rfl (Jb rfl Jl))))) Jl (Jb1 h0 hA l01) rfl rfl⟩
 ·simp (disch:=omega) only[Wz,seval,Jh];have hie:i=n.states.length:=by omega
  have hNA:A.length=n.states.length:=by rw[<- hnN (JbB prB n i 0),<- hAg,List.length_map]
  have hGe:A.map (·.2)=gB n:=by rw[hAg,hie];rfl
  have hG:=JzU w ok;have hGl:(gB n).length=n.states.length:=Jbq _;have hid:∀ (i t:Nat) l,A[i]? = some (t,l)->l≠[]->1<=t/\t<nx:=fun i t l e hl=>hA.rg _ (List.mem_of_getElem? e) hl;have hXg:lk (nT [] 0 A++[(nx,(⟨List.replicate n.states.length [AV.lit (.bool false)],0,1⟩:Tk))]) 0=some ⟨A.map JY,0,1⟩:=by rw[JC,JkO h0];rfl
  have hXn:lk (nT [] 0 A++[(nx,(⟨List.replicate n.states.length [AV.lit (.bool false)],0,1⟩:Tk))]) nx=some ⟨(List.replicate n.states.length false).map Jr,0,1⟩:=by rw[JC,Jue h0 hA l01 (by omega)];simp[lk,Jr]
  refine Ja8 (σ':=⟨[(61,.lit (.int .i64 0)),(60,.lit (.int .i64 (n.rules.length:Int))),(59,.vec (n.rules.map Jc) false),(8,.own nx n.states.length),(3,vG (gB n)),(0,.pp (Jh n) 0)],⟨[],[(nx,⟨(List.replicate n.states.length false).map Jr,0,1⟩)],nx+1⟩,94⟩)
   (St.wk_nestG hXg (fun i t l e hl=>⟨by rw[JC,Jfs h0 hA l01 e hl];rfl,by have:=hid i t l e hl;omega⟩) (Jb ⟨hXn,by simp only;omega,fun i t l e hl=>by have:=hid i t l e hl;simp only;omega⟩ Jl) Jl
    (Jb (.inl rfl) (Jb (.inl rfl) (Jb (.inl rfl) (Jb (.inl rfl) (Jb (.inr ⟨by rw[hNA];rfl,by rw[hGe]⟩) (Jb (.inl rfl) Jl))))))) ?_
  obtain⟨G,hGG⟩:∃ G,gB n=G:=⟨_,rfl⟩;rw[hGG] at hG hGl ⊢;refine Jbv (fun(x:Nat × List Bool × Nat)=>⟨[(61,.lit (.int .i64 (x.1:Int))),(60,.lit (.int .i64 (n.rules.length:Int))),(59,.vec (n.rules.map Jc) false),(8,.own nx n.states.length),(3,vG G),(0,.pp (Jh n) 0)],⟨[],[(nx,⟨x.2.1.map Jr,0,1⟩)],x.2.2⟩,94⟩)
   (fun x=>x.1<=n.rules.length/\x.2.1.length=n.states.length/\(∀ s,s<n.states.length->(x.2.1.getD s false=true↔∃ j,j<x.1/\(s=spN n j\/Rch G (spN n j) s)))/\nx<x.2.2) (fun x=>n.rules.length - x.1) (0,List.replicate n.states.length false,nx+1)
   (JaE (Jb rfl (Jb rfl (Jb rfl (Jb rfl (Jb rfl (Jb rfl Jl)))))) Jl (Jb (by simp[lk]) Jl) rfl rfl) ⟨Nat.zero_le _,by simp,fun s hs=>?_,Nat.lt_succ_self _⟩ ?_
  ·constructor
   ·intro q;simp only[List.getD_eq_getElem?_getD,List.getElem?_replicate] at q;split at q <;> cases q
   ·rintro⟨j,hj,_⟩;exact absurd hj (Nat.not_lt_zero _)
  rintro⟨j,good,nx'⟩ ⟨hj,hgl,hgs,hn'⟩;simp only at hj hgl hgs hn' ⊢;have hnn:(nx=nx)=True:=by simp
  rcases Nat.lt_or_ge j n.rules.length with hlt' | hge'
  ·obtain⟨r,hr⟩:∃ r,n.rules.getD j default=r:=⟨_,rfl⟩;have hrp:=w.stop hlt';have hpN:spN n j=r.stop.toNat:=by unfold spN;rw[hr]
   rw[hr] at hrp;obtain⟨b,hb⟩:∃ b:Nat,r.stop=(b:Int):=⟨r.stop.toNat,by omega⟩;rw[hb] at hrp hpN;simp only[Int.toNat_natCast] at hpN;have hfr:=JjT G b hG (by omega);have hfl:(JfN G b).length=n.states.length:=by simp[JfN,hGl]
   have hbl:b<good.length:=by omega
   simp (disch:=omega) only[Wz,seval,Jh,hr,Jc,Jr,hb,hgl];refine Je Jr2 hfr (Jb (JgL G) (Jb (.lit _) Jl)) (.vec (Ji Jad _)) ?_;simp (disch:=omega) only[Wz,seval,Jh,hr,Jc,Jr,hb,hgl,hfl];refine Jbv (fun(x:Nat × List Bool)=>⟨[(74,.lit (.int .i64 (x.1:Int))),(73,.lit (.int .i64 (n.states.length:Int))),(72,.vec ((JfN G b).map Jr) false),(61,.lit (.int .i64 (j:Int))),(60,.lit (.int .i64 (n.rules.length:Int))),(59,.vec (n.rules.map Jc) false),(8,.own nx n.states.length),(3,vG G),(0,.pp (Jh n) 0)],⟨[],[(nx,⟨x.2.map Jr,0,1⟩)],nx'+1⟩,94⟩)
    (fun x=>x.1<=n.states.length/\x.2.length=n.states.length/\∀ s,s<n.states.length->x.2.getD s false=((good.set b true).getD s false || (decide (s<x.1) && JlU G b s))) (fun x=>n.states.length - x.1) (0,good.set b true)
    (JaE (Jb rfl (Jb rfl (Jb rfl (Jb rfl (Jb rfl (Jb rfl (Jb rfl (Jb rfl (Jb rfl Jl))))))))) Jl (Jb (by simp[lk,List.map_set,Jr]) Jl) rfl rfl) ⟨Nat.zero_le _,by simpa using hgl,fun s hs=>by simp⟩ ?_
   rintro⟨t,gd⟩ ⟨ht,htl,hts⟩;simp only at ht htl hts ⊢;rcases Nat.lt_or_ge t n.states.length with hlt2 | hge2
   ·have htg:gd.getD t default=gd.getD t false:=rfl;have hfg:(JfN G b).getD t default=JlU G b t:=JgM (by omega);have hstep:∀ v:Bool,v=(gd.getD t false || JlU G b t)->∀ s,s<n.states.length->(gd.set t v).getD s false=((good.set b true).getD s false || (decide (s<t+1) && JlU G b s)):=fun v hv s hs=>by
     rw[Jbl (by omega)];by_cases q:t=s
     ·subst q;rw[if_pos rfl,hv,hts t hlt2];simp
     ·rw[if_neg q,hts s hs];have:(s<t+1)↔(s<t):=by omega
      simp only[this]
    cases hg1:gd.getD t false <;> cases hg2:JlU G b t
    all_goals
     rw[hg1] at htg;rw[hg2] at hfg;rw[hg1,hg2] at hstep;simp (disch:=omega) only[Wz,seval,Jh,Jr,htl,hfl,htg,hfg]
    ·exact⟨(t+1,gd.set t false),⟨hlt2,by simpa using htl,hstep _ rfl⟩,by simp only;omega,JaE (Jb rfl (Jb rfl (Jb rfl (Jb rfl (Jb rfl (Jb rfl (Jb rfl (Jb rfl (Jb rfl Jl))))))))) Jl (Jb (by simp[lk,List.map_set,Jr]) Jl) rfl rfl⟩
    ·exact⟨(t+1,gd.set t true),⟨hlt2,by simpa using htl,hstep _ rfl⟩,by simp only;omega,JaE (Jb rfl (Jb rfl (Jb rfl (Jb rfl (Jb rfl (Jb rfl (Jb rfl (Jb rfl (Jb rfl Jl))))))))) Jl (Jb (by simp[lk,List.map_set,Jr]) Jl) rfl rfl⟩
    ·exact⟨(t+1,gd.set t true),⟨hlt2,by simpa using htl,hstep _ rfl⟩,by simp only;omega,JaE (Jb rfl (Jb rfl (Jb rfl (Jb rfl (Jb rfl (Jb rfl (Jb rfl (Jb rfl (Jb rfl Jl))))))))) Jl (Jb (by simp[lk,List.map_set,Jr]) Jl) rfl rfl⟩
    ·exact⟨(t+1,gd.set t true),⟨hlt2,by simpa using htl,hstep _ rfl⟩,by simp only;omega,JaE (Jb rfl (Jb rfl (Jb rfl (Jb rfl (Jb rfl (Jb rfl (Jb rfl (Jb rfl (Jb rfl Jl))))))))) Jl (Jb (by simp[lk,List.map_set,Jr]) Jl) rfl rfl⟩
   ·have hte:t=n.states.length:=by omega
    simp (disch:=omega) only[Wz,seval,Jh];refine⟨(j+1,gd,nx'+1),⟨hlt',htl,fun s hs=>?_,by simp only;omega⟩,by simp only;omega,JaE (Jb rfl (Jb rfl (Jb rfl (Jb rfl (Jb rfl (Jb rfl Jl)))))) Jl (Jb (by simp[lk]) Jl) rfl rfl⟩;simp only;rw[hts s hs,Jbl hbl,hte,decide_eq_true hs,Bool.true_and,Bool.or_eq_true,JbW];constructor
    ·rintro(q | q)
     ·split at q
      ·rename_i e;exact⟨j,Nat.lt_succ_self _,.inl (by rw[hpN,e])⟩
      ·obtain⟨j',h1,h2⟩:=(hgs s hs).1 q;exact⟨j',by omega,h2⟩
     ·exact⟨j,Nat.lt_succ_self _,.inr (by rw[hpN];exact q)⟩
    ·rintro⟨j',h1,h2⟩;rcases Nat.lt_succ_iff_lt_or_eq.1 h1 with h1 | rfl
     ·refine .inl ?_;split
      ·rfl
      ·exact(hgs s hs).2 ⟨j',h1,h2⟩
     ·rw[hpN] at h2;rcases h2 with h2 | h2
      ·refine .inl ?_;rw[if_pos h2.symm]
      ·exact .inr h2
  ·have hje:j=n.rules.length:=by omega
   have e:JfP n = !(good.any fun x:Bool=>false==x):=by
    unfold JfP;by_cases c:∀ s,s<n.states.length->Jr8 n s
    ·rw[@decide_eq_true _ (Classical.propDecidable _) c];have:(good.any fun x:Bool=>false==x)=false:=by
      rw[List.any_eq_false];intro x hx q;obtain⟨s,hs,e⟩:=List.getElem_of_mem hx;have h1:good.getD s false=true:=(hgs s (by omega)).2 (by
       obtain⟨i,h1,h2⟩:=c s (by omega);rw[hGG] at h2;exact⟨i,by omega,h2⟩)
      rw[List.getD_eq_getElem?_getD,List.getElem?_eq_getElem hs] at h1;simp only[Option.getD_some] at h1;rw[e] at h1;subst h1;cases q
     rw[this];rfl
    ·rw[@decide_eq_false _ (Classical.propDecidable _) c];obtain⟨s,hs⟩:=Classical.not_forall.1 c;obtain⟨hs1,hs2⟩:=Classical.not_imp.1 hs;have h1:good.getD s false=false:=by
      cases q:good.getD s false with
      | false=>rfl
      | true =>
       obtain⟨i,h1,h2⟩:=(hgs s hs1).1 q;rw[<- hGG] at h2;exact absurd ⟨i,by omega,h2⟩ hs2
     have:(good.any fun x:Bool=>false==x)=true:=by
      rw[List.any_eq_true];refine⟨good[s]'(by omega),List.getElem_mem _,?_⟩;rw[List.getD_eq_getElem?_getD,List.getElem?_eq_getElem (by omega)] at h1;simp only[Option.getD_some] at h1;rw[h1];rfl
     rw[this];rfl
   have hcn:=JmE good false false (by omega);rw[e];simp (disch:=omega) only[Wz,seval,Jh];refine Jcz.freeze (t:=nx) (k:=⟨good.map Jr,0,1⟩) (args1:=[.vec (good.map Jr) false,.lit (.bool false)]) (by simp[lk]) (fun g g' e c=>Jv (by simpa [hgl] using c) (Jv (JF e _) JaV)) ?_;refine Je Jyp hcn (Jb (.vec (Ji Jad _)) (Jb (.lit _) Jl)) (.lit _) ?_;simp (disch:=omega) only[Wz,seval,Jh];exact fin _ _
end Go.Proofs.Y
end
section
namespace Go.Proofs.Y
open Go Go.Ab
theorem Jk{σ σ':St}(h1:∀ p∈σ'.slots,lk σ.slots p.1=some p.2)(h2:∀ i c,lk σ'.hp.boxes i=some c->lk σ.hp.boxes i=some c)(h3:∀ i c,lk σ'.hp.toks i=some c->lk σ.hp.toks i=some c)(h4:σ'.hp.nx=σ.hp.nx)(h5:σ'.nt=σ.nt):St.wk σ σ' :=
 fun _ _ _ g _ _ r=>⟨g,r.st.less h4 h2 h3,fun s v e=>r.slots s v (h1 _ (JaD e)),r.nt.trans h5.symm,r.defers⟩
structure N2 (X:List (Nat × Tk)) (f c:Nat) (A C:List (Nat × List Nat)) (lo nx:Nat):Prop where
 fc:f≠c
 fl:f<lo
 cl:c<lo
 ln:lo<=nx
 kf:lk X f=some ⟨A.map JY,0,1⟩
 kc:lk X c=some ⟨C.map JY,0,1⟩
 oa:NOk A lo nx
 oc:NOk C lo nx
 ra:∀ (i t:Nat) l,A[i]? = some (t,l)->l≠[]->lk X t=some ⟨l.map Jak,0,1⟩
 rc:∀ (i t:Nat) l,C[i]? = some (t,l)->l≠[]->lk X t=some ⟨l.map Jak,0,1⟩
 dj:∀ (i j t:Nat) l l',A[i]? = some (t,l)->C[j]? = some (t,l')->l≠[]->l'≠[]->False
 fr:∀ j,nx<=j->lk X j=none
section
variable {X:List (Nat × Tk)} {f c:Nat} {A C:List (Nat × List Nat)} {lo nx:Nat}
theorem N2.swap(h:N2 X f c A C lo nx):N2 X c f C A lo nx :=
 ⟨Ne.symm h.fc,h.cl,h.fl,h.ln,h.kc,h.kf,h.oc,h.oa,h.rc,h.ra,fun i j t l l' e1 e2 h1 h2=>h.dj j i t l' l e2 e1 h2 h1,h.fr⟩
theorem N2.mono(h:N2 X f c A C lo nx){nx':Nat}(k:nx<=nx'):N2 X f c A C lo nx' :=
 ⟨h.fc,h.fl,h.cl,Nat.le_trans h.ln k,h.kf,h.kc,Jbz h.oa k,Jbz h.oc k,h.ra,h.rc,h.dj,fun j hj=>h.fr j (Nat.le_trans k hj)⟩
theorem N2.app(h:N2 X f c A C lo nx){i t:Nat}{l:List Nat}(e:A[i]? = some (t,l))(hl:l≠[])(x:Nat) :
  N2 (up (up X t ⟨l.map Jak++[Jak x],0,1⟩) f ⟨(A.map JY).set i [.own t (l.length+1)],0,1⟩) f c (A.set i (t,l++[x])) C lo nx:=by
 have hi':i<A.length:=(List.getElem?_eq_some_iff.1 e).1;have hr:=h.oa.rg _ (List.mem_of_getElem? e) hl;simp only at hr;have hfl:=h.fl;have hcl:=h.cl;have hA':=(Jih (T0:=[]) (gt:=0) Jl (lo:=lo) (hi:=nx) h.oa (by omega) e hl (x:=x)).1;refine⟨h.fc,h.fl,h.cl,h.ln,?_,?_,hA',h.oc,fun j u m ej hm=>?_,fun j u m ej hm=>?_,fun j k u m m' ej ek hm hm'=>?_,fun j hj=>?_⟩
 ·rw[JH,if_pos rfl,JH,if_neg (by omega),h.kf];simp only[Option.map_some,List.map_set,Jho]
 ·rw[JH,if_neg h.fc,JH,if_neg (by omega)];exact h.kc
 ·have hu:=hA'.rg _ (List.mem_of_getElem? ej) hm;simp only at hu;rw[JH,if_neg (by omega),JH];rcases JcH hi' ej with ⟨h1,h2⟩ | ⟨h1,h2⟩
  ·have q1:u=t:=congrArg Prod.fst h2;have q2:m=l++[x]:=congrArg Prod.snd h2;rw[if_pos q1.symm,h.ra i t l e hl,q2];simp[List.map_append]
  ·have:t≠u:=fun q=>h1 (h.oa.ne i j _ _ e h2 hl hm q)
   rw[if_neg this];exact h.ra j u m h2 hm
 ·have hu:=h.oc.rg _ (List.mem_of_getElem? ej) hm;simp only at hu;rw[JH,if_neg (by omega),JH];have:t≠u:=fun q=>by subst q;exact h.dj i j t l m e ej hl hm
  rw[if_neg this];exact h.rc j u m ej hm
 ·rcases JcH hi' ej with ⟨h1,h2⟩ | ⟨h1,h2⟩
  ·have q1:u=t:=congrArg Prod.fst h2;subst q1;exact h.dj i k u l m' e ek hl hm'
  ·exact h.dj j k u m m' h2 ek hm hm'
 ·have hln:=h.ln;rw[JH,if_neg (by omega),JH,if_neg (by omega)];exact h.fr j hj
theorem N2.new(h:N2 X f c A C lo nx){i t:Nat}(e:A[i]? = some (t,[]))(x:Nat) :
  N2 (up (X++[(nx,⟨[Jak x],0,1⟩)]) f ⟨(A.map JY).set i [.own nx 1],0,1⟩) f c (A.set i (nx,[x])) C lo (nx+1):=by
 have hi':i<A.length:=(List.getElem?_eq_some_iff.1 e).1;have hfl:=h.fl;have hcl:=h.cl;have hln:=h.ln;have hA':=(Jii (T0:=[]) (gt:=0) Jl (lo:=lo) (hi:=nx) h.oa (by omega) hln e (x:=x)).1;have old:∀ j,j<nx->lk (X++[(nx,(⟨[Jak x],0,1⟩:Tk))]) j=lk X j:=fun j hj=>by
  rw[JC];simp only[lk];rw[if_neg (by omega)];simp
 refine⟨h.fc,h.fl,h.cl,by omega,?_,?_,hA',Jbz h.oc (Nat.le_succ _),fun j u m ej hm=>?_,fun j u m ej hm=>?_,fun j k u m m' ej ek hm hm'=>?_,fun j hj=>?_⟩
 ·rw[JH,if_pos rfl,old f (by omega),h.kf];simp only[Option.map_some,List.map_set,JY,List.length_nil,Nat.zero_add]
 ·rw[JH,if_neg h.fc,old c (by omega)];exact h.kc
 ·have hu:=hA'.rg _ (List.mem_of_getElem? ej) hm;simp only at hu;rw[JH,if_neg (by omega)];rcases JcH hi' ej with ⟨h1,h2⟩ | ⟨h1,h2⟩
  ·have q1:u=nx:=congrArg Prod.fst h2;have q2:m=[x]:=congrArg Prod.snd h2;rw[q1,q2,JC,h.fr nx (Nat.le_refl _)];simp[lk]
  ·have hv:=h.oa.rg _ (List.mem_of_getElem? h2) hm;simp only at hv;rw[old u (by omega)];exact h.ra j u m h2 hm
 ·have hu:=h.oc.rg _ (List.mem_of_getElem? ej) hm;simp only at hu;rw[JH,if_neg (by omega),old u (by omega)];exact h.rc j u m ej hm
 ·have hu:=h.oc.rg _ (List.mem_of_getElem? ek) hm';simp only at hu;rcases JcH hi' ej with ⟨h1,h2⟩ | ⟨h1,h2⟩
  ·have q1:u=nx:=congrArg Prod.fst h2;omega
  ·exact h.dj j k u m m' h2 ek hm hm'
 ·rw[JH,if_neg (by omega),JC,h.fr j (by omega)];simp only[lk];rw[if_neg (by omega)];rfl
theorem N2.stay(h:N2 X f c A C lo nx){sl sl' sl2:List (Nat × AV)}{nt:Nat}(hs:∀ p∈sl',lk sl p.1=some p.2\/(lk sl p.1=some (.own f A.length)/\p.2=vG (A.map (·.2))))(hs2:∀ p∈sl2,lk sl' p.1=some p.2\/(lk sl' p.1=some (.own c C.length)/\p.2=vG (C.map (·.2)))) :
  St.wk ⟨sl,⟨[],X,nx⟩,nt⟩ ⟨sl2,⟨[],[],nx⟩,nt⟩:=by
 have hfl:=h.fl;have hcl:=h.cl;refine St.wk.trans (St.wk_nestG (T':=nT [] c C) h.kf (fun i t l e hl=>⟨h.ra i t l e hl,by have:=h.oa.rg _ (List.mem_of_getElem? e) hl;simp only at this;omega⟩) (fun p hp=>?_) Jl hs) (St.wk_nest (lo:=lo) Jl h.oc hcl Jl hs2);unfold nT at hp;simp only[List.nil_append] at hp;rcases List.mem_cons.1 hp with hp | hp
 ·subst hp;exact⟨h.kc,Ne.symm h.fc,fun i t l e hl=>by have:=h.oa.rg _ (List.mem_of_getElem? e) hl;simp only at this ⊢;omega⟩
 ·obtain⟨j,l,f1,f2,f3⟩:=JcY hp;have hu:=h.oc.rg _ (List.mem_of_getElem? f1) f2;simp only at hu;exact⟨by rw[f3];exact h.rc j p.1 l f1 f2,by omega,fun i t m e hm q=>by subst q;exact h.dj i j p.1 m l e f1 hm f2⟩
end
theorem Jtc{f c lo N M:Nat}(h1:f≠c)(h2:f<lo)(h3:c<lo):N2 [(f,⟨List.replicate N [.vec [] true],0,1⟩),(c,⟨List.replicate M [.vec [] true],0,1⟩)] f c (List.replicate N (0,[])) (List.replicate M (0,[])) lo lo:=by
 have z:∀ {M i t:Nat} {l:List Nat},(List.replicate M ((0,[]):Nat × List Nat))[i]? = some (t,l)->l≠[]->False:=fun e hl=>by
  have:=(List.mem_replicate.1 (List.mem_of_getElem? e)).2;exact hl (congrArg Prod.snd this)
 refine⟨h1,h2,h3,Nat.le_refl _,by simp[lk,JY],by simp[lk,JY,h1],Jix,Jix,fun i t l e hl=>(z e hl).elim,fun i t l e hl=>(z e hl).elim,fun i j t l l' e _ hl _=>z e hl,fun j hj=>?_⟩;simp only[lk];rw[if_neg (by omega),if_neg (by omega)]
def prF (n:Nt)(em:List Bool)(i:Nat)(e:Ed):List (Nat × Nat) :=
 if e.op.1=1 then [] else if e.op.1=2 then (i,stN n e.n.toNat) :: (if em.getD e.n.toNat false=true then [(i,e.to.toNat)] else []) else [(i,e.to.toNat)]
def prC (n:Nt)(i:Nat)(e:Ed):List (Nat × Nat):=if e.op.1=2/\(n.rules.getD e.n.toNat default).lexer=true then [((n.states.getD i default).rule.toNat,e.n.toNat)] else []
noncomputable def gF(n:Nt):List (List Nat):=gOf n.states.length (JbB (prF n (J4 n)) n n.states.length 0)
def gC (n:Nt):List (List Nat):=gOf n.rules.length (JbB (prC n) n n.states.length 0)
noncomputable def Jku(n:Nt)(i:Nat):Bool := !((n.rules.getD i default).lexer && (!(n.rules.getD i default).frag && Jny n i))
noncomputable def okV(n:Nt):Bool:=Jc4 n && (Jdz n && (JbK n && (JfP n && ((List.range n.rules.length).all (Jku n) && (!JcM (gF n) && !JcM (gC n))))))
section
variable {n:Nt} (w:Wf n) (ok:JcL n)
include w ok
theorem JdT{pr:Nat->Ed->List (Nat × Nat)}{i k:Nat}(hi:i<n.states.length\/k=0/\i=n.states.length){p:Nat × Nat}(hp:p∈JbB pr n i k):∃ j e,j<n.states.length/\e∈(n.states.getD j default).edges/\p∈pr j e:=by
 have _:=w;have _:=ok;rcases hi with hi | ⟨rfl,rfl⟩
 ·obtain⟨j,e,h1,h2,h3⟩:=Jiv _ n hp;exact⟨j,e,by omega,h2,h3⟩
 ·unfold JbB at hp;simp only[List.take_zero,List.flatMap_nil,List.append_nil] at hp;obtain⟨j,h1,h2⟩:=List.mem_flatMap.1 hp;obtain⟨e,h3,h4⟩:=List.mem_flatMap.1 h2;exact⟨j,e,List.mem_range.1 h1,h3,h4⟩
theorem Jfe{em:List Bool}{i k:Nat}(hi:i<n.states.length\/k=0/\i=n.states.length):(∀ p∈JbB (prF n em) n i k,p.1<n.states.length/\p.2<n.states.length)/\(JbB (prF n em) n i k).length<=10000000000000:=by
 refine⟨fun p hp=>?_,?_⟩
 ·obtain⟨j,e,hj,he,hp⟩:=JdT w ok hi hp;have h1:=w.to hj he;unfold prF at hp;split at hp
  ·simp at hp
  ·split at hp
   ·rename_i h2;have h3:=w.call hj he h2;have h4:=w.start (i:=e.n.toNat) (by omega);rcases List.mem_cons.1 hp with hp | hp
    ·subst hp;exact⟨hj,by unfold stN;simp only;omega⟩
    ·split at hp
     ·simp only[List.mem_singleton] at hp;subst hp;exact⟨hj,by simp only;omega⟩
     ·simp at hp
   ·simp only[List.mem_singleton] at hp;subst hp;exact⟨hj,by simp only;omega⟩
 ·have:=JfV (prF n em) n (i:=i) (k:=k) (c:=2) (fun j e=>by unfold prF;(repeat' split) <;> simp) ok.edgesD
  have:=w.nst;omega
theorem Jk6{i k:Nat}(hi:i<n.states.length\/k=0/\i=n.states.length):(∀ p∈JbB (prC n) n i k,p.1<n.rules.length/\p.2<n.rules.length)/\(JbB (prC n) n i k).length<=10000000000000:=by
 refine⟨fun p hp=>?_,?_⟩
 ·obtain⟨j,e,hj,he,hp⟩:=JdT w ok hi hp;unfold prC at hp;split at hp
  ·rename_i h2;have h3:=w.call hj he h2.1;have h4:=w.st j hj;simp only[List.mem_singleton] at hp;subst hp;exact⟨by simp only;omega,by simp only;omega⟩
  ·simp at hp
 ·have:=JfV (prC n) n (i:=i) (k:=k) (c:=1) (fun j e=>by unfold prC;split <;> simp) ok.edgesD
  have:=w.nst;omega
theorem JyH:GOk (gF n):=by
 have h:=Jfe w ok (em:=J4 n) (i:=n.states.length) (k:=0) (.inr ⟨rfl,rfl⟩);exact JlW (by have:=w.nst;omega) h.1 h.2
theorem JyI:GOk (gC n):=by
 have h:=Jk6 w ok (i:=n.states.length) (k:=0) (.inr ⟨rfl,rfl⟩);exact JlW (by have:=w.nru;omega) h.1 h.2
end
end Go.Proofs.Y
end
section
namespace Go.Proofs.Y
open Go Go.Ab
theorem JqN{g g':Gh}{a:AV}{cs:List AV}(h:Cv g g' a (.np cs)):Cv g g' a (.pp cs 0):=fun v hv=>by
 have:=h v hv;cases this with
 | np f h0 h1 h2 =>
  have:=Rep.pp (g:=g') (base:=0) (off:=0) f (fun j a e=>by rw[Nat.zero_add];exact h1 j a e) h2;simpa using this
theorem Jo7{c:Code}{Q:Exit->St->Prop}{σ:St}{T:Type}(S:T->St)(Inv:T->Prop)(h:∃ x,Inv x/\∀ Q':Exit->St->Prop,Q' .normal (S x)->Aw Tryz.prog c Q' σ)(k:∀ x,Inv x->Q .normal (S x)):Aw Tryz.prog c Q σ:=by
 obtain⟨x,hx,hq⟩:=h;exact hq Q (k x hx)
theorem Jb2{A:List (Nat × List Nat)}{N:Nat}{ps:List (Nat × Nat)}(h:A.map (·.2)=gOf N ps):A.length=N:=by
 have:=congrArg List.length h
 rwa [List.length_map,Jbq] at this
theorem JgN{A:List (Nat × List Nat)}{N:Nat}{ps:List (Nat × Nat)}(h:A.map (·.2)=gOf N ps)(h1:∀ p∈ps,p.1<N)(h2:ps.length<=10000000000000)(r:Nat):((A.map (·.2)).getD r []).length<=10000000000000:=by
 rw[h];exact Nat.le_trans (Jiu h1 r) h2
theorem JmX(n:Nt)(ok:JcL n):Ja9 Tryz.prog 40 [.agg (Jh n)] (.lit (.int .i64 (if okV n then 0 else 110))):=by
 refine Jaa (Jq Tryz.func40 rfl Tryz.ntmps40 (rs:=[.tmp 2]) rfl (by simp) ?_);obtain⟨v,hv⟩:∃ v:Int,(if okV n then (0:Int) else 110)=v:=⟨_,rfl⟩;rw[hv];have fin:∀ h,Jec h (.lit (.int .i64 v)) (.lit (.int .i64 v)):=fun h=>Jaw (.lit _);have bad:okV n=false->v=110:=fun h=>by rw[<- hv,h];rfl
 refine Jm ?_;refine Jj ?_;simp (disch:=omega) only[Wz,seval,Jh];refine Ja8 (σ':=⟨[(2,.lit (.int .i64 0)),(1,.pp (Jh n) 0)],⟨[],[],1⟩,141⟩) (St.wk_box (id:=0) (cs:=Jh n) rfl rfl rfl (fun g g' e c=>Jb ⟨_,rfl,JF e _⟩ (Jb ⟨_,rfl,JqN c⟩ Jl)) (fun _ _ _ _=>Jl) (fun _=>Jl)) ?_;refine Jj ?_;have gpn:∀ a∈[AV.pp (Jh n) 0],GP a:=Jb (.of_pure (Jbk n)) Jl;have ppn:∀ a∈[AV.pp (Jh n) 0],Ab.Pure a:=Jb (Jbk n) Jl;simp (disch:=omega) only[Wz,seval];refine JV Jx8 (JmT n ok) gpn (.lit _) ?_;cases h1:Jc4 n
 ·have hb:=bad (by unfold okV;rw[h1];rfl);rw[hb] at fin ⊢;simp (disch:=omega) only[Wz,seval];exact fin _
 simp (disch:=omega) only[Wz,seval];refine JV Jx9 (JmU n ok) gpn (.lit _) ?_;cases h2:Jdz n
 ·have hb:=bad (by unfold okV;rw[h1,h2];rfl);rw[hb] at fin ⊢;simp (disch:=omega) only[Wz,seval];exact fin _
 simp (disch:=omega) only[Wz,seval];refine JV Jya (Jk2 n ok) gpn (.lit _) ?_;cases h3:JbK n
 ·have hb:=bad (by unfold okV;rw[h1,h2,h3];rfl);rw[hb] at fin ⊢;simp (disch:=omega) only[Wz,seval];exact fin _
 have w:=Wf.of h1 h2 h3;have hst:=w.nst;have hru:=w.nru;simp (disch:=omega) only[Wz,seval];refine Je Jyb (Jo6 n w ok) ppn (.lit _) ?_;cases h4:JfP n
 ·have hb:=bad (by unfold okV;rw[h1,h2,h3,h4];rfl);rw[hb] at fin ⊢;simp (disch:=omega) only[Wz,seval];exact fin _
 simp (disch:=omega) only[Wz,seval];refine Je Jyc (JjW n w ok) ppn (.vec (Ji Jad _)) ?_;have hEl:(J4 n).length=n.rules.length:=by simp[J4]
 obtain⟨E,hE⟩:∃ E,J4 n=E:=⟨_,rfl⟩;rw[hE] at hEl ⊢;simp (disch:=omega) only[Wz,seval,Jh];refine Jbv (fun(x:Nat × List (Nat × Tk) × List (Nat × List Nat) × List (Nat × List Nat) × Nat)=>⟨[(38,.lit (.int .i64 (x.1:Int))),(37,.lit (.int .i64 (n.states.length:Int))),(36,.vec (n.states.map Jd) false),(5,.own 2 n.rules.length),(4,.own 1 n.states.length),(3,.vec (E.map Jr) false),(1,.pp (Jh n) 0)],⟨[],x.2.1,x.2.2.2.2⟩,141⟩)
  (fun x=>x.1<=n.states.length/\N2 x.2.1 1 2 x.2.2.1 x.2.2.2.1 3 x.2.2.2.2/\x.2.2.1.map (·.2)=gOf n.states.length (JbB (prF n E) n x.1 0)/\x.2.2.2.1.map (·.2)=gOf n.rules.length (JbB (prC n) n x.1 0)) (fun x=>n.states.length - x.1)
  (0,[(1,⟨List.replicate n.states.length [.vec [] true],0,1⟩),(2,⟨List.replicate n.rules.length [.vec [] true],0,1⟩)],List.replicate n.states.length (0,[]),List.replicate n.rules.length (0,[]),3)
  (Jk (by simp[lk,Jh]) (fun _ _ e=>e) (fun _ _ e=>e) rfl rfl) ⟨Nat.zero_le _,Jtc (by decide) (by decide) (by decide),by simp[JeR,Jfd],by simp[JeR,Jfd]⟩ ?_
 rintro⟨i,X,A,C,nx⟩ ⟨hi,hN,hgF,hgC⟩;simp only at hi hN hgF hgC ⊢;rcases Nat.lt_or_ge i n.states.length with hlt | hge
 ·obtain⟨s,hs⟩:∃ s,n.states.getD i default=s:=⟨_,rfl⟩;have hse:=(ok.edges s (by rw[<- hs];exact Ju hlt)).1;have hsr:=w.st i hlt;rw[hs] at hsr;obtain⟨sr,hsr2⟩:∃ sr:Nat,s.rule=(sr:Int):=⟨s.rule.toNat,by omega⟩;rw[hsr2] at hsr;obtain⟨sb,hsb⟩:∃ sb,nx=sb:=⟨_,rfl⟩;have hsb3:3<=sb:=by rw[<- hsb];exact hN.ln
  simp (disch:=omega) only[Wz,seval,Jh,hs,Jd];refine Jbv (fun(x:Nat × List (Nat × Tk) × List (Nat × List Nat) × List (Nat × List Nat) × Nat)=>⟨[(46,.lit (.int .i64 (x.1:Int))),(45,.lit (.int .i64 (s.edges.length:Int))),(44,.vec (s.edges.map Jo) false),(7,.ptr sb 0),(6,.lit (.int .i64 (i:Int))),(38,.lit (.int .i64 (i:Int))),(37,.lit (.int .i64 (n.states.length:Int))),(36,.vec (n.states.map Jd) false),(5,.own 2 n.rules.length),(4,.own 1 n.states.length),(3,.vec (E.map Jr) false),(1,.pp (Jh n) 0)],⟨[(sb,Jd s)],x.2.1,x.2.2.2.2⟩,141⟩)
   (fun x=>x.1<=s.edges.length/\N2 x.2.1 1 2 x.2.2.1 x.2.2.2.1 3 x.2.2.2.2/\x.2.2.1.map (·.2)=gOf n.states.length (JbB (prF n E) n i x.1)/\x.2.2.2.1.map (·.2)=gOf n.rules.length (JbB (prC n) n i x.1)/\sb<x.2.2.2.2) (fun x=>s.edges.length - x.1) (0,X,A,C,nx+1)
   (Jk (by simp[lk,hsb,Jh]) (by intro i c e;simpa [Jd,hsb] using e) (fun _ _ e=>e) rfl rfl) ⟨Nat.zero_le _,hN.mono (Nat.le_succ _),hgF,hgC,by simp only;omega⟩ ?_
  clear hN hgF hgC;rintro⟨k,X,A,C,nx1⟩ ⟨hk,hN,hgF,hgC,hsn⟩;simp only at hk hN hgF hgC hsn ⊢;rcases Nat.lt_or_ge k s.edges.length with hlk | hgk
  ·obtain⟨e,he⟩:∃ e,s.edges.getD k default=e:=⟨_,rfl⟩;have hem:e∈(n.states.getD i default).edges:=by rw[hs,<- he];exact Ju hlk
   have hto:=w.to hlt hem;have h12:=(w.ed i hlt e hem).2.1;have hpsF:=JeQ (prF n E) n (i:=i) (k:=k) (by rw[hs];exact hlk);have hpsC:=JeQ (prC n) n (i:=i) (k:=k) (by rw[hs];exact hlk);rw[hs,he] at hpsF hpsC;obtain⟨to,hto2⟩:∃ to:Nat,e.to=(to:Int):=⟨e.to.toNat,by omega⟩;have hbF:=Jfe w ok (em:=E) (i:=i) (k:=k) (.inl hlt);have hbC:=Jk6 w ok (i:=i) (k:=k) (.inl hlt);have hbF':=Jfe w ok (em:=E) (i:=i) (k:=k+1) (.inl hlt);obtain⟨eb,heb⟩:∃ eb,nx1=eb:=⟨_,rfl⟩;have hse2:(sb=eb)=False:=by simp;omega
   have hes2:(eb=sb)=False:=by simp;omega
   simp (disch:=omega) only[Wz,seval,Jh,he,Jo,heb];have bxl:∀ {i:Nat} {c:List AV},lk [(sb,Jd s)] i=some c->lk [(sb,Jd s),(eb,Jo e)] i=some c:=fun {i c} e=>by
     simp only[lk] at e ⊢;split at e
     ·rename_i h;rw[if_pos h];exact e
     ·cases e
   have hN:=hN.mono (Nat.le_succ nx1);rw[heb] at hN hsn;obtain⟨nx,hnx⟩:∃ nx,nx=eb+1:=⟨_,rfl⟩;rw[Nat.succ_eq_add_one,<- hnx] at hN;have hsnx:sb<nx:=by omega
   have hpF1:∀ p∈JbB (prF n E) n i k,p.1<n.states.length:=fun p hp=>(hbF.1 p hp).1;have hpF2:=hbF.2;have hpC1:∀ p∈JbB (prC n) n i k,p.1<n.rules.length:=fun p hp=>(hbC.1 p hp).1;have hpC2:=hbC.2;by_cases c1:e.op.1=1
   ·have hpF:prF n E i e=[]:=by unfold prF;rw[if_pos c1]
    have hpC:prC n i e=[]:=by unfold prC;rw[if_neg (by omega)]
    rw[hpF,List.append_nil] at hpsF;rw[hpC,List.append_nil] at hpsC;simp (disch:=omega) only[Wz,seval,Jh,Jd,Jo,c1];exact⟨(k+1,X,A,C,nx),⟨hlk,hN,by rw[hpsF];exact hgF,by rw[hpsC];exact hgC,by simp only;omega⟩,by simp only;omega,Jk (by simp[lk,Jh]) (by intro i c e;have:=bxl e;simpa [Jd,Jo,c1,hsr2,hto2] using this) (fun _ _ e=>e) hnx rfl⟩
   by_cases c2:e.op.1=2;rotate_left
   ·have hpF:prF n E i e=[(i,to)]:=by unfold prF;rw[if_neg c1,if_neg c2,hto2];rfl
    have hpC:prC n i e=[]:=by unfold prC;rw[if_neg (fun q=>c2 q.1)]
    rw[hpF] at hpsF;rw[hpC,List.append_nil] at hpsC;simp (disch:=omega) only[Wz,seval,Jh,Jd,Jo,hse2,c1,c2];refine Ja8 (σ':=⟨[(46,.lit (.int .i64 (k:Int))),(45,.lit (.int .i64 (s.edges.length:Int))),(44,.vec (s.edges.map Jo) false),(9,.ptr eb 0),(7,.ptr sb 0),(6,.lit (.int .i64 (i:Int))),(38,.lit (.int .i64 (i:Int))),(37,.lit (.int .i64 (n.states.length:Int))),(36,.vec (n.states.map Jd) false),(5,.own 2 n.rules.length),(4,.own 1 n.states.length),(3,.vec (E.map Jr) false),(1,.pp (Jh n) 0)],⟨[(sb,Jd s),(eb,Jo e)],X,nx⟩,141⟩) (Jk (by simp[lk,Jh]) (by intro i c e;simpa [Jd,Jo,hse2,hsr2,hto2,c1] using e) (fun _ _ e=>e) hnx rfl) ?_;have hNAF:A.length=n.states.length:=Jb2 hgF;have hNAC:C.length=n.rules.length:=Jb2 hgC;have hllF:=fun r=>JgN hgF hpF1 hpF2 r
    refine Jo7 (fun(x:List (Nat × Tk) × List (Nat × List Nat) × Nat)=>⟨[(46,.lit (.int .i64 (k:Int))),(45,.lit (.int .i64 (s.edges.length:Int))),(44,.vec (s.edges.map Jo) false),(9,.ptr eb 0),(7,.ptr sb 0),(6,.lit (.int .i64 (i:Int))),(38,.lit (.int .i64 (i:Int))),(37,.lit (.int .i64 (n.states.length:Int))),(36,.vec (n.states.map Jd) false),(5,.own 2 n.rules.length),(4,.own 1 n.states.length),(3,.vec (E.map Jr) false),(1,.pp (Jh n) 0)],⟨[(sb,Jd s),(eb,Jo e)],x.1,x.2.2⟩,141⟩) (fun x=>N2 x.1 1 2 x.2.1 C 3 x.2.2/\x.2.1.map (·.2)=Ji7 (A.map (·.2)) (i,to)/\nx<=x.2.2) ?_ ?_
    ·obtain⟨t,hAi⟩:=Jdo (A:=A) rfl (i:=i) (by rw[List.length_map,hNAF];omega);obtain⟨l,hl⟩:∃ l,(A.map (·.2)).getD i []=l:=⟨_,rfl⟩;have hag:∀ t',(A.set i (t',l++[to])).map (·.2)=Ji7 (A.map (·.2)) (i,to):=fun t'=>Jdp rfl hl
     have hll:=hllF i;rw[hl] at hAi hll;have hLg:lk X 1=some ⟨A.map JY,0,1⟩:=hN.kf;have hgi:(A.map JY)[i]? = some (JY (t,l)):=by rw[List.getElem?_map,hAi];rfl
     have hfr:=hN.fr;have hlo:=hN.ln;rcases List.eq_nil_or_concat l with hl0 | ⟨l',y,hl0⟩
     ·subst hl0;have hf1:Ja7 1 8:=by decide
      have hLg2:∀ x,lk (X++x) 1=some ⟨A.map JY,0,1⟩:=fun x=>by rw[JC,hLg];rfl
      refine⟨(_,_,nx+1),⟨(hN.new hAi to),hag nx,Nat.le_succ _⟩,fun Q' hQ'=>?_⟩;refine JbN (n:=141) (nx+1) 9 (.alt 10 (.alt 11 .leaf .nil) .nil) rfl rfl (by decide) (by decide) (by decide) mixed (by kernel_rfl) (by decide) ?_ hQ';simp (disch:=omega) only[Wz,seval,Jh,Jd,Jo,Jc,hse2,hto2,hLg,hLg2,hgi,JY,List.mem_singleton,forall_eq,List.not_mem_nil,false_imp_iff,implies_true,hf1,hNAF];exact St.wk.cp (Jk (by simp[lk,Jh]) (by intro i c e;simpa [Jd,Jo,hse2,hto2] using e) (fun _ _ e=>e) rfl rfl)
     ·have hlne:l≠[]:=by rw[hl0];simp
      have hnc:JY (t,l)=[.own t l.length]:=Jbo hlne;have hLt:lk X t=some ⟨l.map Jak,0,1⟩:=hN.ra i t l hAi hlne;have ht1:=(hN.oa.rg _ (List.mem_of_getElem? hAi) hlne).1;simp only at ht1;have htg:(t=1)=False:=by simp;omega
      have hf:Ja7 (l.length+1) 8:=⟨by unfold maxLen;omega,by omega⟩;have hLg2:∀ x,lk (up X t x) 1=some ⟨A.map JY,0,1⟩:=fun x=>by rw[JH,hLg];simp only[htg,if_false]
      refine⟨(_,_,nx),⟨(hN.app hAi hlne to),hag t,Nat.le_refl _⟩,fun Q' hQ'=>?_⟩;refine JbN (n:=141) nx 9 (.alt 10 (.alt 11 .leaf .nil) .nil) rfl rfl (by decide) (by decide) (by decide) mixed (by kernel_rfl) (by decide) ?_ hQ';simp (disch:=omega) only[Wz,seval,Jh,Jd,Jo,Jc,hse2,hto2,hLg,hLg2,hLt,hgi,hnc,List.mem_singleton,forall_eq,List.not_mem_nil,false_imp_iff,implies_true,hf,List.length_map,hNAF];exact St.wk.cp (Jk (by simp[lk,Jh]) (by intro i c e;simpa [Jd,Jo,hse2,hto2] using e) (fun _ _ e=>e) rfl rfl)
    ·rintro⟨X,A,nx'⟩ ⟨hN,hm,hnx'⟩;simp only at hN hm hnx' ⊢;rw[hgF,<- Jca] at hm;clear hgF;have hgF:=hm;simp (disch:=omega) only[Wz,seval,Jd,Jo];exact⟨(k+1,X,A,C,nx'),⟨hlk,hN,by rw[hpsF];exact hm,by rw[hpsC];exact hgC,by simp only;omega⟩,by simp only;omega,Jk (by simp[lk,Jh]) (by intro i c e;have e':lk [(sb,Jd s)] i=some c:=(by simpa [Jd,Jo,hse2,hsr2,hto2,c1] using e);have:=bxl e';simpa [Jd,Jo,hse2,hsr2,hto2,c1] using this) (fun _ _ e=>e) rfl rfl⟩
   ·have hcl:=w.call hlt hem c2;obtain⟨m,hm2⟩:∃ m:Nat,e.n=(m:Int):=⟨e.n.toNat,by omega⟩;rw[hm2] at hcl;have hml:m<n.rules.length:=by omega
    obtain⟨r,hr⟩:∃ r,n.rules.getD m default=r:=⟨_,rfl⟩;have hrs:=w.start hml;rw[hr] at hrs;obtain⟨a,ha⟩:∃ a:Nat,r.start=(a:Int):=⟨r.start.toNat,by omega⟩;rw[ha] at hrs;have hsN:stN n m=a:=by unfold stN;rw[hr,ha];rfl
    simp (disch:=omega) only[Wz,seval,Jh,Jd,Jo,hse2,c2];refine Ja8 (σ':=⟨[(46,.lit (.int .i64 (k:Int))),(45,.lit (.int .i64 (s.edges.length:Int))),(44,.vec (s.edges.map Jo) false),(9,.ptr eb 0),(7,.ptr sb 0),(6,.lit (.int .i64 (i:Int))),(38,.lit (.int .i64 (i:Int))),(37,.lit (.int .i64 (n.states.length:Int))),(36,.vec (n.states.map Jd) false),(5,.own 2 n.rules.length),(4,.own 1 n.states.length),(3,.vec (E.map Jr) false),(1,.pp (Jh n) 0)],⟨[(sb,Jd s),(eb,Jo e)],X,nx⟩,141⟩) (Jk (by simp[lk,Jh]) (by intro i c e;simpa [Jd,Jo,hse2,hm2,hr,ha,hsr2,hto2,c2] using e) (fun _ _ e=>e) hnx rfl) ?_;have hNAF:A.length=n.states.length:=Jb2 hgF;have hNAC:C.length=n.rules.length:=Jb2 hgC;have hllF:=fun r=>JgN hgF hpF1 hpF2 r
    refine Jo7 (fun(x:List (Nat × Tk) × List (Nat × List Nat) × Nat)=>⟨[(46,.lit (.int .i64 (k:Int))),(45,.lit (.int .i64 (s.edges.length:Int))),(44,.vec (s.edges.map Jo) false),(9,.ptr eb 0),(7,.ptr sb 0),(6,.lit (.int .i64 (i:Int))),(38,.lit (.int .i64 (i:Int))),(37,.lit (.int .i64 (n.states.length:Int))),(36,.vec (n.states.map Jd) false),(5,.own 2 n.rules.length),(4,.own 1 n.states.length),(3,.vec (E.map Jr) false),(1,.pp (Jh n) 0)],⟨[(sb,Jd s),(eb,Jo e)],x.1,x.2.2⟩,141⟩) (fun x=>N2 x.1 1 2 x.2.1 C 3 x.2.2/\x.2.1.map (·.2)=Ji7 (A.map (·.2)) (i,a)/\nx<=x.2.2) ?_ ?_
    ·obtain⟨t,hAi⟩:=Jdo (A:=A) rfl (i:=i) (by rw[List.length_map,hNAF];omega);obtain⟨l,hl⟩:∃ l,(A.map (·.2)).getD i []=l:=⟨_,rfl⟩;have hag:∀ t',(A.set i (t',l++[a])).map (·.2)=Ji7 (A.map (·.2)) (i,a):=fun t'=>Jdp rfl hl
     have hll:=hllF i;rw[hl] at hAi hll;have hLg:lk X 1=some ⟨A.map JY,0,1⟩:=hN.kf;have hgi:(A.map JY)[i]? = some (JY (t,l)):=by rw[List.getElem?_map,hAi];rfl
     have hfr:=hN.fr;have hlo:=hN.ln;rcases List.eq_nil_or_concat l with hl0 | ⟨l',y,hl0⟩
     ·subst hl0;have hf1:Ja7 1 8:=by decide
      have hLg2:∀ x,lk (X++x) 1=some ⟨A.map JY,0,1⟩:=fun x=>by rw[JC,hLg];rfl
      refine⟨(_,_,nx+1),⟨(hN.new hAi a),hag nx,Nat.le_succ _⟩,fun Q' hQ'=>?_⟩;refine JbN (n:=141) (nx+1) 14 (.alt 15 (.alt 16 .leaf .nil) .nil) rfl rfl (by decide) (by decide) (by decide) mixed (by kernel_rfl) (by decide) ?_ hQ';simp (disch:=omega) only[Wz,seval,Jh,Jd,Jo,Jc,hse2,hm2,hr,ha,hLg,hLg2,hgi,JY,List.mem_singleton,forall_eq,List.not_mem_nil,false_imp_iff,implies_true,hf1,hNAF];exact St.wk.cp (Jk (by simp[lk,Jh]) (by intro i c e;simpa [Jd,Jo,hse2,hm2,hr,ha] using e) (fun _ _ e=>e) rfl rfl)
     ·have hlne:l≠[]:=by rw[hl0];simp
      have hnc:JY (t,l)=[.own t l.length]:=Jbo hlne;have hLt:lk X t=some ⟨l.map Jak,0,1⟩:=hN.ra i t l hAi hlne;have ht1:=(hN.oa.rg _ (List.mem_of_getElem? hAi) hlne).1;simp only at ht1;have htg:(t=1)=False:=by simp;omega
      have hf:Ja7 (l.length+1) 8:=⟨by unfold maxLen;omega,by omega⟩;have hLg2:∀ x,lk (up X t x) 1=some ⟨A.map JY,0,1⟩:=fun x=>by rw[JH,hLg];simp only[htg,if_false]
      refine⟨(_,_,nx),⟨(hN.app hAi hlne a),hag t,Nat.le_refl _⟩,fun Q' hQ'=>?_⟩;refine JbN (n:=141) nx 14 (.alt 15 (.alt 16 .leaf .nil) .nil) rfl rfl (by decide) (by decide) (by decide) mixed (by kernel_rfl) (by decide) ?_ hQ';simp (disch:=omega) only[Wz,seval,Jh,Jd,Jo,Jc,hse2,hm2,hr,ha,hLg,hLg2,hLt,hgi,hnc,List.mem_singleton,forall_eq,List.not_mem_nil,false_imp_iff,implies_true,hf,List.length_map,hNAF];exact St.wk.cp (Jk (by simp[lk,Jh]) (by intro i c e;simpa [Jd,Jo,hse2,hm2,hr,ha] using e) (fun _ _ e=>e) rfl rfl)
    rintro⟨X,A,nx2⟩ ⟨hN,hm,hnx2⟩;simp only at hN hm hnx2 ⊢;rw[hgF,<- Jca] at hm;have hgF:=hm;have hsnx2:sb<nx2:=by omega
    clear hm;obtain⟨nx,hnx4⟩:∃ nx,nx2=nx:=⟨_,rfl⟩;rw[hnx4] at hN hnx2 hsnx2 ⊢;cases hlx:r.lexer
    ·have hpC:prC n i e=[]:=by unfold prC;rw[if_neg];rintro⟨_,q⟩;rw[hm2,Int.toNat_natCast,hr,hlx] at q;cases q
     rw[hpC,List.append_nil] at hpsC;simp (disch:=omega) only[Wz,seval,Jh,Jd,Jo,Jc,hse2,hm2,hr,ha,hsr2,hto2,hlx];cases hem':E.getD m false
     ·have hemd:E.getD m default=false:=hem';have hpF:prF n E i e=[(i,a)]:=by unfold prF;rw[if_neg (by omega),if_pos c2,hm2];simp only[Int.toNat_natCast,hem',hsN];rfl
      rw[hpF] at hpsF;simp (disch:=omega) only[Wz,seval,Jh,Jd,Jo,hse2,hm2,hr,ha,hsr2,hto2,hemd,Jr,hEl];exact⟨(k+1,X,A,C,nx),⟨hlk,hN,by rw[hpsF];exact hgF,by rw[hpsC];exact hgC,by simp only;omega⟩,by simp only;omega,Jk (by simp[lk,Jh]) (by intro i c e;have e':lk [(sb,Jd s)] i=some c:=(by simpa [Jd,Jo,hse2,hm2,hr,ha,hsr2,hto2,c2] using e);have:=bxl e';simpa [Jd,Jo,hse2,hm2,hr,ha,hsr2,hto2,c2] using this) (fun _ _ e=>e) rfl rfl⟩
     ·have hemd:E.getD m default=true:=hem';have hpF:prF n E i e=[(i,a),(i,to)]:=by unfold prF;rw[if_neg (by omega),if_pos c2,hm2,hto2];simp only[Int.toNat_natCast,hem',hsN];rfl
      rw[hpF,show [(i,a),(i,to)]=[(i,a)]++[(i,to)] from rfl,<- List.append_assoc] at hpsF;have hpF1:∀ p∈JbB (prF n E) n i k++[(i,a)],p.1<n.states.length:=fun p hp=>(hbF'.1 p (by rw[hpsF];exact List.mem_append.2 (.inl hp))).1;have hpF2:(JbB (prF n E) n i k++[(i,a)]).length<=10000000000000:=by have:=hbF'.2;rw[hpsF,List.length_append] at this;omega
      simp (disch:=omega) only[Wz,seval,Jh,Jd,Jo,hse2,hm2,hr,ha,hsr2,hto2,hemd,Jr,hEl];refine Ja8 (σ':=⟨[(46,.lit (.int .i64 (k:Int))),(45,.lit (.int .i64 (s.edges.length:Int))),(44,.vec (s.edges.map Jo) false),(9,.ptr eb 0),(7,.ptr sb 0),(6,.lit (.int .i64 (i:Int))),(38,.lit (.int .i64 (i:Int))),(37,.lit (.int .i64 (n.states.length:Int))),(36,.vec (n.states.map Jd) false),(5,.own 2 n.rules.length),(4,.own 1 n.states.length),(3,.vec (E.map Jr) false),(1,.pp (Jh n) 0)],⟨[(sb,Jd s),(eb,Jo e)],X,nx⟩,141⟩) (Jk (by simp[lk,Jh]) (by intro i c e;simpa [Jd,Jo,hse2,hm2,hr,ha,hsr2,hto2,c1] using e) (fun _ _ e=>e) rfl rfl) ?_;have hNAF:A.length=n.states.length:=Jb2 hgF;have hNAC:C.length=n.rules.length:=Jb2 hgC;have hllF:=fun r=>JgN hgF hpF1 hpF2 r
      refine Jo7 (fun(x:List (Nat × Tk) × List (Nat × List Nat) × Nat)=>⟨[(46,.lit (.int .i64 (k:Int))),(45,.lit (.int .i64 (s.edges.length:Int))),(44,.vec (s.edges.map Jo) false),(9,.ptr eb 0),(7,.ptr sb 0),(6,.lit (.int .i64 (i:Int))),(38,.lit (.int .i64 (i:Int))),(37,.lit (.int .i64 (n.states.length:Int))),(36,.vec (n.states.map Jd) false),(5,.own 2 n.rules.length),(4,.own 1 n.states.length),(3,.vec (E.map Jr) false),(1,.pp (Jh n) 0)],⟨[(sb,Jd s),(eb,Jo e)],x.1,x.2.2⟩,141⟩) (fun x=>N2 x.1 1 2 x.2.1 C 3 x.2.2/\x.2.1.map (·.2)=Ji7 (A.map (·.2)) (i,to)/\nx<=x.2.2) ?_ ?_
      ·obtain⟨t,hAi⟩:=Jdo (A:=A) rfl (i:=i) (by rw[List.length_map,hNAF];omega);obtain⟨l,hl⟩:∃ l,(A.map (·.2)).getD i []=l:=⟨_,rfl⟩;have hag:∀ t',(A.set i (t',l++[to])).map (·.2)=Ji7 (A.map (·.2)) (i,to):=fun t'=>Jdp rfl hl
       have hll:=hllF i;rw[hl] at hAi hll;have hLg:lk X 1=some ⟨A.map JY,0,1⟩:=hN.kf;have hgi:(A.map JY)[i]? = some (JY (t,l)):=by rw[List.getElem?_map,hAi];rfl
       have hfr:=hN.fr;have hlo:=hN.ln;rcases List.eq_nil_or_concat l with hl0 | ⟨l',y,hl0⟩
       ·subst hl0;have hf1:Ja7 1 8:=by decide
        have hLg2:∀ x,lk (X++x) 1=some ⟨A.map JY,0,1⟩:=fun x=>by rw[JC,hLg];rfl
        refine⟨(_,_,nx+1),⟨(hN.new hAi to),hag nx,Nat.le_succ _⟩,fun Q' hQ'=>?_⟩;refine JbN (n:=141) (nx+1) 9 (.alt 10 (.alt 11 .leaf .nil) .nil) rfl rfl (by decide) (by decide) (by decide) mixed (by kernel_rfl) (by decide) ?_ hQ';simp (disch:=omega) only[Wz,seval,Jh,Jd,Jo,Jc,hse2,hto2,hLg,hLg2,hgi,JY,List.mem_singleton,forall_eq,List.not_mem_nil,false_imp_iff,implies_true,hf1,hNAF];exact St.wk.cp (Jk (by simp[lk,Jh]) (by intro i c e;simpa [Jd,Jo,hse2,hto2] using e) (fun _ _ e=>e) rfl rfl)
       ·have hlne:l≠[]:=by rw[hl0];simp
        have hnc:JY (t,l)=[.own t l.length]:=Jbo hlne;have hLt:lk X t=some ⟨l.map Jak,0,1⟩:=hN.ra i t l hAi hlne;have ht1:=(hN.oa.rg _ (List.mem_of_getElem? hAi) hlne).1;simp only at ht1;have htg:(t=1)=False:=by simp;omega
        have hf:Ja7 (l.length+1) 8:=⟨by unfold maxLen;omega,by omega⟩;have hLg2:∀ x,lk (up X t x) 1=some ⟨A.map JY,0,1⟩:=fun x=>by rw[JH,hLg];simp only[htg,if_false]
        refine⟨(_,_,nx),⟨(hN.app hAi hlne to),hag t,Nat.le_refl _⟩,fun Q' hQ'=>?_⟩;refine JbN (n:=141) nx 9 (.alt 10 (.alt 11 .leaf .nil) .nil) rfl rfl (by decide) (by decide) (by decide) mixed (by kernel_rfl) (by decide) ?_ hQ';simp (disch:=omega) only[Wz,seval,Jh,Jd,Jo,Jc,hse2,hto2,hLg,hLg2,hLt,hgi,hnc,List.mem_singleton,forall_eq,List.not_mem_nil,false_imp_iff,implies_true,hf,List.length_map,hNAF];exact St.wk.cp (Jk (by simp[lk,Jh]) (by intro i c e;simpa [Jd,Jo,hse2,hto2] using e) (fun _ _ e=>e) rfl rfl)
      ·rintro⟨X,A,nx'⟩ ⟨hN,hm,hnx'⟩;simp only at hN hm hnx' ⊢;rw[hgF,<- Jca] at hm;clear hgF;have hgF:=hm;simp (disch:=omega) only[Wz,seval,Jd,Jo];exact⟨(k+1,X,A,C,nx'),⟨hlk,hN,by rw[hpsF];exact hm,by rw[hpsC];exact hgC,by simp only;omega⟩,by simp only;omega,Jk (by simp[lk,Jh]) (by intro i c e;have e':lk [(sb,Jd s)] i=some c:=(by simpa [Jd,Jo,hse2,hm2,hr,ha,hsr2,hto2,c1] using e);have:=bxl e';simpa [Jd,Jo,hse2,hm2,hr,ha,hsr2,hto2,c1] using this) (fun _ _ e=>e) rfl rfl⟩
    ·have hpC:prC n i e=[(sr,m)]:=by unfold prC;rw[if_pos ⟨c2,by rw[hm2,Int.toNat_natCast,hr,hlx]⟩,hs,hsr2,hm2];rfl
     rw[hpC] at hpsC;simp (disch:=omega) only[Wz,seval,Jh,Jd,Jo,Jc,hse2,hm2,hr,ha,hsr2,hto2,hlx];refine Ja8 (σ':=⟨[(46,.lit (.int .i64 (k:Int))),(45,.lit (.int .i64 (s.edges.length:Int))),(44,.vec (s.edges.map Jo) false),(9,.ptr eb 0),(7,.ptr sb 0),(6,.lit (.int .i64 (i:Int))),(38,.lit (.int .i64 (i:Int))),(37,.lit (.int .i64 (n.states.length:Int))),(36,.vec (n.states.map Jd) false),(5,.own 2 n.rules.length),(4,.own 1 n.states.length),(3,.vec (E.map Jr) false),(1,.pp (Jh n) 0)],⟨[(sb,Jd s),(eb,Jo e)],X,nx⟩,141⟩) (Jk (by simp[lk,Jh]) (by intro i c e;simpa [Jd,Jo,hse2,hm2,hr,ha,hsr2,hto2,c2] using e) (fun _ _ e=>e) rfl rfl) ?_;have hNAF:A.length=n.states.length:=Jb2 hgF;have hNAC:C.length=n.rules.length:=Jb2 hgC;have hllC:=fun r=>JgN hgC hpC1 hpC2 r
     have hsrl:sr<n.rules.length:=by omega
     refine Jo7 (fun(x:List (Nat × Tk) × List (Nat × List Nat) × Nat)=>⟨[(46,.lit (.int .i64 (k:Int))),(45,.lit (.int .i64 (s.edges.length:Int))),(44,.vec (s.edges.map Jo) false),(9,.ptr eb 0),(7,.ptr sb 0),(6,.lit (.int .i64 (i:Int))),(38,.lit (.int .i64 (i:Int))),(37,.lit (.int .i64 (n.states.length:Int))),(36,.vec (n.states.map Jd) false),(5,.own 2 n.rules.length),(4,.own 1 n.states.length),(3,.vec (E.map Jr) false),(1,.pp (Jh n) 0)],⟨[(sb,Jd s),(eb,Jo e)],x.1,x.2.2⟩,141⟩) (fun x=>N2 x.1 1 2 A x.2.1 3 x.2.2/\x.2.1.map (·.2)=Ji7 (C.map (·.2)) (sr,m)/\nx<=x.2.2) ?_ ?_
     ·obtain⟨t,hAi⟩:=Jdo (A:=C) rfl (i:=sr) (by rw[List.length_map,hNAC];omega);obtain⟨l,hl⟩:∃ l,(C.map (·.2)).getD sr []=l:=⟨_,rfl⟩;have hag:∀ t',(C.set sr (t',l++[m])).map (·.2)=Ji7 (C.map (·.2)) (sr,m):=fun t'=>Jdp rfl hl
      have hll:=hllC sr;rw[hl] at hAi hll;have hLg:lk X 2=some ⟨C.map JY,0,1⟩:=hN.kc;have hgi:(C.map JY)[sr]? = some (JY (t,l)):=by rw[List.getElem?_map,hAi];rfl
      have hfr:=hN.fr;have hlo:=hN.ln;rcases List.eq_nil_or_concat l with hl0 | ⟨l',y,hl0⟩
      ·subst hl0;have hf1:Ja7 1 8:=by decide
       have hLg2:∀ x,lk (X++x) 2=some ⟨C.map JY,0,1⟩:=fun x=>by rw[JC,hLg];rfl
       refine⟨(_,_,nx+1),⟨(hN.swap.new hAi m).swap,hag nx,Nat.le_succ _⟩,fun Q' hQ'=>?_⟩;refine JeM nx (n:=141) (nx+1) 11 (.alt 12 (.alt 13 .leaf .nil) .nil) rfl rfl (by decide) (by decide) (by decide) mixed (by kernel_rfl) (by decide) ?_ hQ';simp (disch:=omega) only[Wz,seval,Jh,Jd,Jo,Jc,hse2,hm2,hsr2,hLg,hLg2,hgi,JY,List.mem_singleton,forall_eq,List.not_mem_nil,false_imp_iff,implies_true,hf1,hNAC];refine And.intro (Jc1 fun t' k' _ hk=>by rw[JC,hk];rfl) (And.intro ?_ (St.wk.cp (Jk (by simp[lk,Jh]) (by intro i c e;simpa [Jd,Jo,hse2,hm2,hsr2] using e) (fun _ _ e=>e) rfl rfl)));repeat (first | exact Jl | refine Jb (by first | exact Jjw | exact Jjx | exact Jn8 | exact Jjy | exact Jjz | exact JjA | exact JjB | exact Jn9 (by omega)) ?_)
      ·have hlne:l≠[]:=by rw[hl0];simp
       have hnc:JY (t,l)=[.own t l.length]:=Jbo hlne;have hLt:lk X t=some ⟨l.map Jak,0,1⟩:=hN.rc sr t l hAi hlne;have ht1:=(hN.oc.rg _ (List.mem_of_getElem? hAi) hlne).1;simp only at ht1;have htg:(t=2)=False:=by simp;omega
       have hf:Ja7 (l.length+1) 8:=⟨by unfold maxLen;omega,by omega⟩;have hLg2:∀ x,lk (up X t x) 2=some ⟨C.map JY,0,1⟩:=fun x=>by rw[JH,hLg];simp only[htg,if_false]
       refine⟨(_,_,nx),⟨(hN.swap.app hAi hlne m).swap,hag t,Nat.le_refl _⟩,fun Q' hQ'=>?_⟩;refine JeM t (n:=141) nx 11 (.alt 12 (.alt 13 .leaf .nil) .nil) rfl rfl (by decide) (by decide) (by decide) mixed (by kernel_rfl) (by decide) ?_ hQ';simp (disch:=omega) only[Wz,seval,Jh,Jd,Jo,Jc,hse2,hm2,hsr2,hLg,hLg2,hLt,hgi,hnc,List.mem_singleton,forall_eq,List.not_mem_nil,false_imp_iff,implies_true,hf,List.length_map,hNAC];refine And.intro (Jc1 fun t' k' ht' hk=>by rw[JH,if_neg (Ne.symm ht')];exact hk) (And.intro ?_ (St.wk.cp (Jk (by simp[lk,Jh]) (by intro i c e;simpa [Jd,Jo,hse2,hm2,hsr2] using e) (fun _ _ e=>e) rfl rfl)));repeat (first | exact Jl | refine Jb (by first | exact Jjw | exact Jjx | exact Jn8 | exact Jjy | exact Jjz | exact JjA | exact JjB | exact Jn9 (by omega)) ?_)
     rintro⟨X,C,nx3⟩ ⟨hN,hm,hnx3⟩;simp only at hN hm hnx3 ⊢;rw[hgC,<- Jca] at hm;have hgC:=hm;have hsnx3:sb<nx3:=by omega
     clear hm;obtain⟨nx,hnx5⟩:∃ nx,nx3=nx:=⟨_,rfl⟩;rw[hnx5] at hN hnx3 hsnx3 ⊢;simp (disch:=omega) only[Wz,seval,Jh,Jd,Jo,Jc,hse2,hm2,hr,ha,hsr2,hto2,hlx];cases hem':E.getD m false
     ·have hemd:E.getD m default=false:=hem';have hpF:prF n E i e=[(i,a)]:=by unfold prF;rw[if_neg (by omega),if_pos c2,hm2];simp only[Int.toNat_natCast,hem',hsN];rfl
      rw[hpF] at hpsF;simp (disch:=omega) only[Wz,seval,Jh,Jd,Jo,hse2,hm2,hr,ha,hsr2,hto2,hemd,Jr,hEl];exact⟨(k+1,X,A,C,nx),⟨hlk,hN,by rw[hpsF];exact hgF,by rw[hpsC];exact hgC,by simp only;omega⟩,by simp only;omega,Jk (by simp[lk,Jh]) (by intro i c e;have e':lk [(sb,Jd s)] i=some c:=(by simpa [Jd,Jo,hse2,hm2,hr,ha,hsr2,hto2,c2] using e);have:=bxl e';simpa [Jd,Jo,hse2,hm2,hr,ha,hsr2,hto2,c2] using this) (fun _ _ e=>e) rfl rfl⟩
     ·have hemd:E.getD m default=true:=hem';have hpF:prF n E i e=[(i,a),(i,to)]:=by unfold prF;rw[if_neg (by omega),if_pos c2,hm2,hto2];simp only[Int.toNat_natCast,hem',hsN];rfl
      rw[hpF,show [(i,a),(i,to)]=[(i,a)]++[(i,to)] from rfl,<- List.append_assoc] at hpsF;have hpF1:∀ p∈JbB (prF n E) n i k++[(i,a)],p.1<n.states.length:=fun p hp=>(hbF'.1 p (by rw[hpsF];exact List.mem_append.2 (.inl hp))).1;have hpF2:(JbB (prF n E) n i k++[(i,a)]).length<=10000000000000:=by have:=hbF'.2;rw[hpsF,List.length_append] at this;omega
      simp (disch:=omega) only[Wz,seval,Jh,Jd,Jo,hse2,hm2,hr,ha,hsr2,hto2,hemd,Jr,hEl];refine Ja8 (σ':=⟨[(46,.lit (.int .i64 (k:Int))),(45,.lit (.int .i64 (s.edges.length:Int))),(44,.vec (s.edges.map Jo) false),(9,.ptr eb 0),(7,.ptr sb 0),(6,.lit (.int .i64 (i:Int))),(38,.lit (.int .i64 (i:Int))),(37,.lit (.int .i64 (n.states.length:Int))),(36,.vec (n.states.map Jd) false),(5,.own 2 n.rules.length),(4,.own 1 n.states.length),(3,.vec (E.map Jr) false),(1,.pp (Jh n) 0)],⟨[(sb,Jd s),(eb,Jo e)],X,nx⟩,141⟩) (Jk (by simp[lk,Jh]) (by intro i c e;simpa [Jd,Jo,hse2,hm2,hr,ha,hsr2,hto2,c1] using e) (fun _ _ e=>e) rfl rfl) ?_;have hNAF:A.length=n.states.length:=Jb2 hgF;have hNAC:C.length=n.rules.length:=Jb2 hgC;have hllF:=fun r=>JgN hgF hpF1 hpF2 r
      refine Jo7 (fun(x:List (Nat × Tk) × List (Nat × List Nat) × Nat)=>⟨[(46,.lit (.int .i64 (k:Int))),(45,.lit (.int .i64 (s.edges.length:Int))),(44,.vec (s.edges.map Jo) false),(9,.ptr eb 0),(7,.ptr sb 0),(6,.lit (.int .i64 (i:Int))),(38,.lit (.int .i64 (i:Int))),(37,.lit (.int .i64 (n.states.length:Int))),(36,.vec (n.states.map Jd) false),(5,.own 2 n.rules.length),(4,.own 1 n.states.length),(3,.vec (E.map Jr) false),(1,.pp (Jh n) 0)],⟨[(sb,Jd s),(eb,Jo e)],x.1,x.2.2⟩,141⟩) (fun x=>N2 x.1 1 2 x.2.1 C 3 x.2.2/\x.2.1.map (·.2)=Ji7 (A.map (·.2)) (i,to)/\nx<=x.2.2) ?_ ?_
      ·obtain⟨t,hAi⟩:=Jdo (A:=A) rfl (i:=i) (by rw[List.length_map,hNAF];omega);obtain⟨l,hl⟩:∃ l,(A.map (·.2)).getD i []=l:=⟨_,rfl⟩;have hag:∀ t',(A.set i (t',l++[to])).map (·.2)=Ji7 (A.map (·.2)) (i,to):=fun t'=>Jdp rfl hl
       have hll:=hllF i;rw[hl] at hAi hll;have hLg:lk X 1=some ⟨A.map JY,0,1⟩:=hN.kf;have hgi:(A.map JY)[i]? = some (JY (t,l)):=by rw[List.getElem?_map,hAi];rfl
       have hfr:=hN.fr;have hlo:=hN.ln;rcases List.eq_nil_or_concat l with hl0 | ⟨l',y,hl0⟩
       ·subst hl0;have hf1:Ja7 1 8:=by decide
        have hLg2:∀ x,lk (X++x) 1=some ⟨A.map JY,0,1⟩:=fun x=>by rw[JC,hLg];rfl
        refine⟨(_,_,nx+1),⟨(hN.new hAi to),hag nx,Nat.le_succ _⟩,fun Q' hQ'=>?_⟩;refine JbN (n:=141) (nx+1) 9 (.alt 10 (.alt 11 .leaf .nil) .nil) rfl rfl (by decide) (by decide) (by decide) mixed (by kernel_rfl) (by decide) ?_ hQ';simp (disch:=omega) only[Wz,seval,Jh,Jd,Jo,Jc,hse2,hto2,hLg,hLg2,hgi,JY,List.mem_singleton,forall_eq,List.not_mem_nil,false_imp_iff,implies_true,hf1,hNAF];exact St.wk.cp (Jk (by simp[lk,Jh]) (by intro i c e;simpa [Jd,Jo,hse2,hto2] using e) (fun _ _ e=>e) rfl rfl)
       ·have hlne:l≠[]:=by rw[hl0];simp
        have hnc:JY (t,l)=[.own t l.length]:=Jbo hlne;have hLt:lk X t=some ⟨l.map Jak,0,1⟩:=hN.ra i t l hAi hlne;have ht1:=(hN.oa.rg _ (List.mem_of_getElem? hAi) hlne).1;simp only at ht1;have htg:(t=1)=False:=by simp;omega
        have hf:Ja7 (l.length+1) 8:=⟨by unfold maxLen;omega,by omega⟩;have hLg2:∀ x,lk (up X t x) 1=some ⟨A.map JY,0,1⟩:=fun x=>by rw[JH,hLg];simp only[htg,if_false]
        refine⟨(_,_,nx),⟨(hN.app hAi hlne to),hag t,Nat.le_refl _⟩,fun Q' hQ'=>?_⟩;refine JbN (n:=141) nx 9 (.alt 10 (.alt 11 .leaf .nil) .nil) rfl rfl (by decide) (by decide) (by decide) mixed (by kernel_rfl) (by decide) ?_ hQ';simp (disch:=omega) only[Wz,seval,Jh,Jd,Jo,Jc,hse2,hto2,hLg,hLg2,hLt,hgi,hnc,List.mem_singleton,forall_eq,List.not_mem_nil,false_imp_iff,implies_true,hf,List.length_map,hNAF];exact St.wk.cp (Jk (by simp[lk,Jh]) (by intro i c e;simpa [Jd,Jo,hse2,hto2] using e) (fun _ _ e=>e) rfl rfl)
      ·rintro⟨X,A,nx'⟩ ⟨hN,hm,hnx'⟩;simp only at hN hm hnx' ⊢;rw[hgF,<- Jca] at hm;clear hgF;have hgF:=hm;simp (disch:=omega) only[Wz,seval,Jd,Jo];exact⟨(k+1,X,A,C,nx'),⟨hlk,hN,by rw[hpsF];exact hm,by rw[hpsC];exact hgC,by simp only;omega⟩,by simp only;omega,Jk (by simp[lk,Jh]) (by intro i c e;have e':lk [(sb,Jd s)] i=some c:=(by simpa [Jd,Jo,hse2,hm2,hr,ha,hsr2,hto2,c1] using e);have:=bxl e';simpa [Jd,Jo,hse2,hm2,hr,ha,hsr2,hto2,c1] using this) (fun _ _ e=>e) rfl rfl⟩
  ·have hke:k=s.edges.length:=by omega
   have hpe:=JfU (prF n E) n (i:=i);have hpc:=JfU (prC n) n (i:=i);rw[hs,<- hke] at hpe hpc;simp (disch:=omega) only[Wz,seval,Jh,hs,Jd];exact⟨(i+1,X,A,C,nx1),⟨hlt,hN,by rw[<- hpe];exact hgF,by rw[<- hpc];exact hgC⟩,by simp only;omega,Jk (by simp[lk,Jh]) (fun _ _ e=>(nomatch e)) (fun _ _ e=>e) rfl rfl⟩
 ·have hie:i=n.states.length:=by omega
  have hNA:=Jb2 hgF;have hNC:=Jb2 hgC;have hFe:A.map (·.2)=gF n:=by rw[hgF,hie,<- hE];rfl
  have hCe:C.map (·.2)=gC n:=by rw[hgC,hie];rfl
  have hFok:=JyH w ok;have hCok:=JyI w ok;simp (disch:=omega) only[Wz,seval,Jh];refine Ja8 (σ':=⟨[(116,.lit (.int .i64 0)),(115,.lit (.int .i64 (n.rules.length:Int))),(114,.vec (n.rules.map Jc) false),(5,vG (gC n)),(4,vG (gF n)),(3,.vec (E.map Jr) false)],⟨[],[],nx⟩,141⟩)
   (N2.stay (sl':=[(116,.lit (.int .i64 0)),(115,.lit (.int .i64 (n.rules.length:Int))),(114,.vec (n.rules.map Jc) false),(5,.own 2 n.rules.length),(4,vG (gF n)),(3,.vec (E.map Jr) false)]) hN
    (Jb (.inl rfl) (Jb (.inl rfl) (Jb (.inl rfl) (Jb (.inl rfl) (Jb (.inr ⟨by rw[hNA];rfl,by rw[hFe]⟩) (Jb (.inl rfl) Jl))))))
    (Jb (.inl rfl) (Jb (.inl rfl) (Jb (.inl rfl) (Jb (.inr ⟨by rw[hNC];rfl,by rw[hCe]⟩) (Jb (.inl rfl) (Jb (.inl rfl) Jl))))))) ?_
  refine Jbv (fun(x:Nat × Nat)=>⟨[(116,.lit (.int .i64 (x.1:Int))),(115,.lit (.int .i64 (n.rules.length:Int))),(114,.vec (n.rules.map Jc) false),(5,vG (gC n)),(4,vG (gF n)),(3,.vec (E.map Jr) false)],⟨[],[],x.2⟩,141⟩)
   (fun x=>x.1<=n.rules.length/\∀ j,j<x.1->Jku n j=true) (fun x=>n.rules.length - x.1) (0,nx) (JaE (Jb rfl (Jb rfl (Jb rfl (Jb rfl (Jb rfl (Jb rfl Jl)))))) Jl Jl rfl rfl) ⟨Nat.zero_le _,fun j hj=>absurd hj (Nat.not_lt_zero _)⟩ ?_
  rintro⟨j,nx2⟩ ⟨hj,hjd⟩;simp only at hj hjd ⊢;rcases Nat.lt_or_ge j n.rules.length with hlt | hge
  ·obtain⟨r,hr⟩:∃ r,n.rules.getD j default=r:=⟨_,rfl⟩;have hEj:E.getD j default=Jny n j:=by
    rw[<- hE];unfold J4;rw[List.getD_eq_getElem?_getD,List.getElem?_map,List.getElem?_range hlt];rfl
   have hlR:Jku n j = !(r.lexer && (!r.frag && Jny n j)):=by unfold Jku;rw[hr]
   have next:Jku n j=true->∀ j',j'<j+1->Jku n j'=true:=fun h=>Jav hjd h
   have stop:Jku n j=false->v=110:=fun h=>bad (by unfold okV;rw[Jbn hlt h];simp)
   cases hx1:r.lexer
   ·rw[hx1] at hlR;simp (disch:=omega) only[Wz,seval,Jc,hr,hx1];exact⟨(j+1,nx2+1),⟨hlt,next (by rw[hlR];rfl)⟩,by simp only;omega,Jk (by simp[lk]) (fun _ _ e=>(nomatch e)) (fun _ _ e=>e) rfl rfl⟩
   ·cases hx2:r.frag
    ·cases hx3:Jny n j
     ·rw[hx1,hx2,hx3] at hlR;rw[hx3] at hEj;simp (disch:=omega) only[Wz,seval,Jc,hr,hx1,hx2,hEj,Jr,hEl];exact⟨(j+1,nx2+1),⟨hlt,next (by rw[hlR];rfl)⟩,by simp only;omega,Jk (by simp[lk]) (fun _ _ e=>(nomatch e)) (fun _ _ e=>e) rfl rfl⟩
     ·rw[hx1,hx2,hx3] at hlR;rw[hx3] at hEj;have hb:=stop (by rw[hlR];rfl);rw[hb] at fin ⊢;simp (disch:=omega) only[Wz,seval,Jc,hr,hx1,hx2,hEj,Jr,hEl];exact fin _
    ·rw[hx1,hx2] at hlR;simp (disch:=omega) only[Wz,seval,Jc,hr,hx1,hx2];exact⟨(j+1,nx2+1),⟨hlt,next (by rw[hlR];rfl)⟩,by simp only;omega,Jk (by simp[lk]) (fun _ _ e=>(nomatch e)) (fun _ _ e=>e) rfl rfl⟩
  ·have hall:(List.range n.rules.length).all (Jku n)=true:=Jaz (fun j' hj'=>hjd j' (by omega));simp (disch:=omega) only[Wz,seval];refine Je JrZ (JjV (gF n) hFok) (Jb (JgL _) Jl) (.lit _) ?_;cases h5:JcM (gF n)
   ·simp (disch:=omega) only[Wz,seval];refine Je JrZ (JjV (gC n) hCok) (Jb (JgL _) Jl) (.lit _) ?_;cases h6:JcM (gC n)
    ·have hb:v=0:=by rw[<- hv];unfold okV;rw[h1,h2,h3,h4,hall,h5,h6];rfl
     rw[hb] at fin ⊢;simp (disch:=omega) only[Wz,seval];exact fin _
    ·have hb:=bad (by unfold okV;rw[h6];simp);rw[hb] at fin ⊢;simp (disch:=omega) only[Wz,seval];exact fin _
   ·have hb:=bad (by unfold okV;rw[h5];simp);rw[hb] at fin ⊢;simp (disch:=omega) only[Wz,seval];exact fin _
end Go.Proofs.Y
end
section
namespace Go.Proofs.Y
open Go Go.Ab
open Go.Proofs.Tryz renaming prog->Pg
def Jtd (w:Nat):List AV:=[.lit (.int .u64 (w:Int))]
abbrev W64:Nat:=18446744073709551616
theorem JyK{n:Nat}(h:n<W64):IntKind.u64.wrap (n:Int)=(n:Int):=IntWalk.u64_in n (by unfold W64 at h;omega)
theorem Jiy{a:Nat}(h:a<W64):(BitVec.ofInt 64 (a:Int)).toNat=a:=by
 rw[BitVec.toNat_ofInt];have:((a:Int) % ((2 ^ 64:Nat):Int))=(a:Int):=by unfold W64 at h;norm_cast;omega
 rw[this];simp
theorem JyL{a b:Nat}(ha:a<W64)(hb:b<W64):(BitVec.ofInt 64 (a:Int) &&& BitVec.ofInt 64 (b:Int)).toNat=a &&& b:=by rw[BitVec.toNat_and,Jiy ha,Jiy hb]
theorem JB2{a b:Nat}(ha:a<W64)(hb:b<W64):(BitVec.ofInt 64 (a:Int) ||| BitVec.ofInt 64 (b:Int)).toNat=a ||| b:=by rw[BitVec.toNat_or,Jiy ha,Jiy hb]
theorem JlX(a k:Nat):(a:Int).fdiv (2 ^ k)=((a / 2 ^ k:Nat):Int):=by
 rw[Int.fdiv_eq_ediv_of_nonneg _ (Int.le_of_lt (Int.pow_pos (by decide)))];rw[Int.natCast_ediv];norm_cast
theorem Jte{i:Nat}(hi:i<64):IntKind.u64.wrap (1 * 2 ^ min i IntKind.u64.bits)=((2 ^ i:Nat):Int):=by
 have:min i IntKind.u64.bits=i:=by show min i 64=i;omega
 rw[this,Int.one_mul];have h:(2 ^ i:Nat)<W64:=by
  have:=Nat.pow_lt_pow_right (a:=2) (by decide) hi;unfold W64;exact this
 have:=JyK h;rw[<- this];norm_cast
theorem Jo8{i:Nat}(hi:i<64):2 ^ i<W64:=by
 have:=Nat.pow_lt_pow_right (a:=2) (by decide) hi;unfold W64;exact this
theorem JyM{a b:Nat}(ha:a<W64)(hb:b<W64):a ||| b<W64:=Nat.or_lt_two_pow (n:=64) ha hb
theorem Jtf{a b:Nat}(ha:a<W64)(hb:b<W64):IntKind.u64.wrap ((BitVec.ofInt IntKind.u64.bits (a:Int) ||| BitVec.ofInt IntKind.u64.bits (b:Int)).toNat:Int)=((a ||| b:Nat):Int):=by
 have h:=JB2 ha hb;show IntKind.u64.wrap ((BitVec.ofInt 64 (a:Int) ||| BitVec.ofInt 64 (b:Int)).toNat:Int)=_;rw[h];exact JyK (JyM ha hb)
structure Rk (n:Nt) (rk:Nat->Nat):Prop where
 nul:∀ s t,Nul n s t->rk t<rk s
 call:∀ s e,s<n.states.length->e∈(n.states.getD s default).edges->e.op.1=2->rk (stN n e.n.toNat)<rk s
theorem JhC{n:Nt}(h:okV n=true):Wf n/\JcM (gF n)=false:=by
 unfold okV at h;simp only[Bool.and_eq_true,Bool.not_eq_true'] at h;exact⟨Wf.of h.1 h.2.1 h.2.2.1,h.2.2.2.2.2.1⟩
theorem JbX{n:Nt}{i:Nat}(h:i<n.rules.length):(J4 n).getD i false=Jny n i:=by
 unfold J4;rw[List.getD_eq_getElem?_getD,List.getElem?_map,List.getElem?_range h];rfl
theorem JgO{n:Nt}(ok:JcL n)(h:okV n=true):∃ rk,Rk n rk:=by
 obtain⟨w,hr⟩:=JhC h;obtain⟨rk,hrk⟩:=Jtb hr;have hb:=Jfe w ok (em:=J4 n) (i:=n.states.length) (k:=0) (.inr ⟨rfl,rfl⟩);have mem:∀ {s t e},s<n.states.length->e∈(n.states.getD s default).edges->(s,t)∈prF n (J4 n) s e->rk t<rk s:=fun {s t e} hs he hp=>by
  refine hrk s t ?_;unfold gF;rw[Jeu fun p hp=>(hb.1 p hp).1];exact Jd8 _ n hs he hp
 have hcall:∀ s e,s<n.states.length->e∈(n.states.getD s default).edges->e.op.1=2->rk (stN n e.n.toNat)<rk s:=fun s e hs he h2=>by
  refine mem hs he ?_;unfold prF;rw[if_neg (by omega),if_pos h2];simp
 refine⟨rk,fun s t hn=>?_,hcall⟩;induction hn with
 | @edge s e hs he h1 h2 =>
  refine mem hs he ?_;unfold prF;rw[if_neg h1,if_neg h2];simp
 | @call s e hs he h2 hN ih =>
  have hc:=w.call hs he h2;refine mem hs he ?_;unfold prF;rw[if_neg (by omega),if_pos h2,JbX (by omega),JeS.2 hN];simp
 | step _ _ ih1 ih2=>exact Nat.lt_trans ih2 ih1
theorem JdU{α:Type}{B:List (Nat × α)}{k:Nat}{c x:α}(h:lk B k=none):up (B++[(k,c)]) k x=B++[(k,x)]:=by
 induction B with
 | nil=>simp[up]
 | cons b B ih =>
  obtain⟨j,v⟩:=b;simp only[lk] at h;split at h
  ·cases h
  ·rename_i hk;simp only[List.cons_append,up,if_neg hk,ih h]
abbrev Sp:Type:=Nat × Nat
theorem Jiz{M:Nat}:∀ {l:List Nat},l.Nodup->(∀ x∈l,x<M)->l.length<=M:=by
 induction M with
 | zero =>
  intro l _ h;cases l with
  | nil=>simp
  | cons x l=>exact absurd (h x (by simp)) (Nat.not_lt_zero _)
 | succ M ih =>
  intro l nd h;have h1:=ih (nd.erase M) (fun x hx=>by
   have h2:=h x (List.mem_of_mem_erase hx);have h3:x≠M:=fun q=>by subst q;exact(nd.not_mem_erase) hx
   omega)
  have h2:l.length<=(l.erase M).length+1:=by
   by_cases q:M∈l
   ·rw[List.length_erase_of_mem q];omega
   ·rw[List.erase_of_not_mem q];omega
  omega
theorem JiA{S:List Sp}{N K:Nat}(nd:S.Nodup)(h:∀ x∈S,x.1<N/\x.2<K):S.length<=N * K:=by
 have inj:∀ x∈S,∀ y∈S,x.1 * K+x.2=y.1 * K+y.2->x=y:=fun x hx y hy e=>by
  obtain⟨a1,a2⟩:=h x hx;obtain⟨b1,b2⟩:=h y hy;have hK:0<K:=by omega
  have e1:x.1=y.1:=by
   have l1:(x.1 * K+x.2) / K=x.1:=by rw[Nat.mul_comm,Nat.mul_add_div hK,Nat.div_eq_of_lt a2,Nat.add_zero]
   have l2:(y.1 * K+y.2) / K=y.1:=by rw[Nat.mul_comm,Nat.mul_add_div hK,Nat.div_eq_of_lt b2,Nat.add_zero]
   rw[<- l1,<- l2,e]
  have e2:x.2=y.2:=by rw[e1] at e;omega
  exact Prod.ext e1 e2
 have nd2:(S.map fun x=>x.1 * K+x.2).Nodup:=by
  rw[List.nodup_iff_pairwise_ne,List.pairwise_map];rw[List.nodup_iff_pairwise_ne] at nd;refine nd.imp_of_mem ?_;intro a b ha hb hab q;exact hab (inj a ha b hb q)
 have:=Jiz (M:=N * K) nd2 (fun y hy=>by
  obtain⟨x,hx,rfl⟩:=List.mem_map.1 hy;obtain⟨a1,a2⟩:=h x hx
  calc x.1 * K+x.2<x.1 * K+K:=by omega
   _=(x.1+1) * K:=by rw[Nat.add_mul,Nat.one_mul]
   _<=N * K:=Nat.mul_le_mul_right _ a1)
 simpa using this
theorem Jo9{K V:Type}[DecidableEq K](M:List (K × V))(k:K)(v:V)(j:K):Ja1 (Jjo M k v) j=if j=k then some v else Ja1 M j:=by
 induction M with
 | nil =>
  by_cases h:j=k <;> simp[Jjo,Ja1,h]
 | cons p M ih =>
  unfold Jjo;by_cases h:k=p.1
  ·rw[if_pos h];by_cases q:j=k
   ·subst q;simp[Ja1]
   ·rw[if_neg q];have q':j≠p.1:=fun e=>q (by rw[e,h])
    simp[Ja1,q,q']
  ·rw[if_neg h];by_cases q:j=p.1
   ·have:j≠k:=fun e=>h (by rw[<- e,q])
    rw[if_neg this];simp[Ja1,q]
   ·have e1:Ja1 (p :: Jjo M k v) j=Ja1 (Jjo M k v) j:=by simp[Ja1,q]
    have e2:Ja1 (p :: M) j=Ja1 M j:=by simp[Ja1,q]
    rw[e1,e2,ih]
theorem JX{c:Code}{Q:Exit->St->Prop}{σ:St}{id:Nat}(h:Aw Pg c (JeH id Q) σ):Aw Pg (.block id c) Q σ:=fun g0 h0 w0 g w a r=>wpIn_block (wpIn_mono (h g0 h0 w0 g w a r) fun e a' w' hh=>by
 obtain⟨σ',g',k1,k2⟩:=hh;cases e with
 | exit i =>
  simp only[JeH] at k1;simp only[Exit.inBlock];split
  ·rename_i hi;rw[if_pos hi] at k1;exact⟨σ',g',k1,k2⟩
  ·rename_i hi;rw[if_neg hi] at k1;exact⟨σ',g',k1,k2⟩
 | _=>exact⟨σ',g',k1,k2⟩)
theorem JhD{x y:Code}{Q:Exit->St->Prop}{σ:St}(I:St->Prop)(h1:Aw Pg x (JlC (fun σ1=>∃ σ2,St.wk σ1 σ2/\I σ2) Q) σ)(h2:∀ σ2,I σ2->Aw Pg y Q σ2):Aw Pg (.seq x y) Q σ:=by
 refine Jm ?_;intro g0 h0 w0 g w a r;refine wpIn_mono (h1 g0 h0 w0 g w a r) fun e a' w' hh=>?_
 obtain⟨σ',g',k1,k2⟩:=hh;cases e with
 | normal =>
  obtain⟨σ2,q1,q2⟩:=k1;exact⟨σ',g',Ja8 q1 (h2 σ2 q2),k2⟩
 | _=>exact⟨σ',g',k1,k2⟩
theorem Jp{σ:St}{c:Code}{Q:Exit->St->Prop}{A:Type}(S:A->St)(Inv:A->Prop)(μ:A->Nat)(a0:A)(hw:St.wk σ (S a0))(h0:Inv a0)
  (round:∀ x,Inv x->Aw Pg c (JlC (fun σ1=>∃ x',Inv x'/\μ x'<μ x/\St.wk σ1 (S x')) Q) (S x)):Aw Pg (.loop c) Q σ:=by
 intro g0 h0' w0 g w a r;refine wpIn_loop_ghost (fun m a w=>∃ x g,m=μ x/\Inv x/\Jae g0 h0' w0 (S x) g w a) (μ a0) (let ⟨g',r'⟩:=hw g0 h0' w0 g w a r;⟨a0,g',rfl,h0,r'⟩) (fun m a w ⟨x,g,hm,hI,k2⟩=>?_);refine wpIn_mono (round x hI g0 h0' w0 g w a k2) fun e a' w' hh=>?_
 obtain⟨σ1,g1,q1,q2⟩:=hh;cases e with
 | normal =>
  obtain⟨x',l1,l0,l2⟩:=q1;obtain⟨g2,q3⟩:=l2 g0 h0' w0 g1 w' a' q2;exact⟨μ x',by omega,x',g2,rfl,l1,q3⟩
 | _=>exact⟨σ1,g1,q1,q2⟩
theorem JbD{α:Type}{l x:List (Nat × α)}{i:Nat}{c:α}(e:lk l i=some c):lk (l++x) i=some c:=by rw[JC,e];rfl
theorem JgP{α:Type}{l:List (Nat × α)}{N i:Nat}(h:∀ p∈l,p.1<N)(hi:N<=i):lk l i=none:=by
 cases e:lk l i with
 | none=>rfl
 | some v=>have:=h _ (JaD e);simp only at this;omega
theorem Jbc{T:Type}[Inhabited T]{l:List T}{k:Nat}(h:k<l.length):l.drop k=l.getD k default :: l.drop (k+1):=by
 rw[List.drop_eq_getElem_cons h,List.getD_eq_getElem?_getD,List.getElem?_eq_getElem h];rfl
theorem JiB{α:Type}:∀ (l:List (Nat × α)) (i:Nat) (v w:α),up (up l i v) i w=up l i w
 | [],_,_,_=>rfl
 | p :: l,i,v,w=>by
  obtain⟨j,x⟩:=p;by_cases h:j=i
  ·simp[up,h]
  ·simp[up,h,JiB l i v w]
def Jfy {α:Type}:List (Nat × α)->List (Nat × α)
 | []=>[]
 | p :: l=>p :: (Jfy l).filter fun q=>decide (q.1≠p.1)
theorem JgQ{α:Type}(i:Nat):∀ (l:List (Nat × α)) (j:Nat),lk (l.filter fun q=>decide (q.1≠i)) j=if j=i then none else lk l j
 | [],j=>by simp[lk]
 | p :: l,j=>by
  rw[List.filter_cons];by_cases h:p.1=i
  ·simp only[h,ne_eq,not_true_eq_false,decide_false,Bool.false_eq_true,if_false,JgQ i l j,lk];by_cases q:j=i
   ·simp[q]
   ·simp[q,Ne.symm q]
  ·simp only[ne_eq,h,not_false_eq_true,decide_true,if_true,lk,JgQ i l j];by_cases q:j=i
   ·subst q;simp[h]
   ·simp[q]
theorem Jb3{α:Type}:∀ (l:List (Nat × α)) (j:Nat),lk (Jfy l) j=lk l j
 | [],j=>rfl
 | p :: l,j=>by
  simp only[Jfy,lk,JgQ,Jb3 l j];by_cases h:p.1=j
  ·simp[h]
  ·simp[h,Ne.symm h]
theorem JbO{α:Type}:∀ {l:List (Nat × α)} {p:Nat × α},p∈Jfy l->lk l p.1=some p.2
 | [],p,h=>by cases h
 | a :: l,p,h=>by
  simp only[Jfy,List.mem_cons,List.mem_filter,decide_eq_true_eq] at h;rcases h with h | ⟨h,q⟩
  ·subst h;simp[lk]
  ·simp only[lk];rw[if_neg (Ne.symm q)];exact JbO h
theorem Jpa{σ σ':St}{t:Nat}{k:Tk}(hk:lk σ.hp.toks t=some k)(hn:σ'.hp.nx=σ.hp.nx)(ht:σ'.nt=σ.nt)
  (hs:∀ p∈σ'.slots,∃ b,lk σ.slots p.1=some b/\(b=p.2\/b = .own t k.xs.length/\p.2 = .vec k.xs false))
  (hb:∀ i c,lk σ'.hp.boxes i=some c->lk σ.hp.boxes i=some c) (htk:∀ i c,lk σ'.hp.toks i=some c->i≠t/\lk σ.hp.toks i=some c):St.wk σ σ':=by
 have h1:St.wk σ ⟨σ'.slots,⟨Jfy σ'.hp.boxes,Jfy σ'.hp.toks,σ'.hp.nx⟩,σ'.nt⟩:=by
  refine St.wk_freeze hk hn ht (fun g g' e c p hp=>?_) (fun g g' e c p hp=>?_) (fun g p hp=>?_)
  ·obtain⟨b,q1,q2⟩:=hs p hp;refine⟨b,q1,?_⟩;rcases q2 with q2 | ⟨q2,q3⟩
   ·rw[q2];exact JF e _
   ·rw[q2,q3];exact c
  ·exact⟨p.2,hb _ _ (JbO hp),Jbe e _⟩
  ·obtain⟨q1,q2⟩:=htk _ _ (JbO hp);exact⟨p.2,by rw[JH,if_neg (Ne.symm q1)];exact q2,Jks.refl g _⟩
 have h2:St.wk ⟨σ'.slots,⟨Jfy σ'.hp.boxes,Jfy σ'.hp.toks,σ'.hp.nx⟩,σ'.nt⟩ σ':=fun g0 h0 w0 g w a r =>
  ⟨g,r.st.less rfl (fun i c e=>by rw[Jb3];exact e) (fun i c e=>by rw[Jb3];exact e),r.slots,r.nt,r.defers⟩
 exact h1.trans h2
end Go.Proofs.Y
end
