/- Parts of the proof, laid together. -/
import Derived.Test.YtgbbhilflgekhaaGreatDoorVei
import Derived.Shelf.Spec.DecodeRune
import Derived.Ground.Names7Prog
import Derived.Lib.RuneCountTail
set_option linter.unusedVariables false
set_option linter.unusedSimpArgs false
set_option maxRecDepth 20000
set_option maxHeartbeats 16000000
section
namespace Go.Proofs.Y
open Go Go.Ab
def eB (n:Nt)(o:List Orc)(l:List Un)(md:Int)(r:Nat)(s:Nat)(T:List Tr)(x:List AV):List (Nat × List AV):=[(0,Jap n o l md 1),(2,Jc (n.rules.getD r default)),(5,[.own s T.length]),(6,x)]
def eS (r a cnt:Nat)(q:Option Nat)(O:List En)(u:Option Nat)(N:List Tr):List (Nat × AV):=[(0,.ptr 0 0),(1,.lit (.int .i64 (r:Int))),(2,.lit (.int .i64 (a:Int))),(6,JtZ q O),(9,.ptr 2 0),(10,.own 3 cnt),(11,.ptr 5 0),(12,.ptr 6 0),(13,nxV u N)]
theorem Jm1(n:Nt)(o:List Orc)(l:List Un)(md:Int)(k:Nat)(g:JpY n o l md)(mu:Jl0 n)(fk:Jkv n o l md k)(rk:Nat->Nat)(R:Nat)(hrk:Rk n rk)(hR:∀ s,s<n.states.length->rk s<=R)(r a:Nat)(hr:r<n.rules.length)(ha:a<l.length)
  (ih:∀ r' a',r'<n.rules.length->a'<l.length->mT l rk R ⟨stN n r',a',[]⟩<mT l rk R ⟨stN n r,a,[]⟩->JbP n o l md k r' a'):JbP n o l md k r a:=by
 intro W0 hW0;obtain⟨F,hF⟩:∃ F:AV->Hp->Prop,(fun v h'=>v=enV (eF n o l md k r a)/\∃ W',Jdq n o l md k W'/\h'=hL n o l md W')=F:=⟨_,rfl⟩;have hFi:∀ W',Jdq n o l md k W'->F (enV (eF n o l md k r a)) (hL n o l md W'):=fun W' h1=>by rw[<- hF];exact⟨rfl,W',h1,rfl⟩
 rw[hF];clear hF;refine Jjt Tryz.func33 rfl Tryz.ntmps33 (rs:=[.tmp 6]) rfl (by simp) (N:=2) rfl ?_;have w:=g.w;have hst:=mu.nst;have hll:=g.len;have hsr:=w.start hr;have hso:=w.stop hr;obtain⟨rr,hrr⟩:∃ rr,n.rules.getD r default=rr:=⟨_,rfl⟩;have hst2:rr.start=(stN n r:Int):=by unfold stN;rw[hrr] at hsr ⊢;omega
 have hsp2:rr.stop=(spN n r:Int):=by unfold spN;rw[hrr] at hso ⊢;omega
 have fin:∀ (σ':St) W',Jdq n o l md k W'->lk σ'.slots 6=some (enV (eF n o l md k r a))->lk σ'.hp.boxes 0=some (Jap n o l md 1)->lk σ'.hp.toks 1=some (J8 W')->2<=σ'.hp.nx->σ'.nt=147->∃ σ'',St.cp 2 σ' σ''/\Jfp (JaQ Tryz.prog σ'' [.tmp 6]) F σ''.hp:=fun σ' W' f2 s4 b0 t1 hnx hnt=>by
  refine⟨⟨[(6,enV (eF n o l md k r a))],hL n o l md W',147⟩,Jbj (Nat.le_refl _) hnx hnt.symm (Jb ⟨s4,.pure (JiH _)⟩ Jl) (Jb ⟨by show 0<2;decide,b0,JbA n o l md (by show 1<2;decide) rfl⟩ Jl) (Jb ⟨by show 1<2;decide,t1,.pure (JaA W')⟩ Jl),hFi W' f2⟩
 have hm:=Jms (ev:=enV) JyT (r,a) W0 (P:=Tryz.prog) (et:=97) JzP;have hpu:=fun W=>Jjp (P:=Tryz.prog) (ev:=enV) JyT (r,a) (eF n o l md k r a) W
 have kc':kSo (r,a) = .agg [.lit (.int .i64 (r:Int)),.lit (.int .i64 (a:Int))]:=rfl;rw[kc'] at hm hpu;refine Jm ?_;refine Jj ?_;simp -implicitDefEqProofs (disch:=omega) only[Wz,seval,Ly,Lx,hL];obtain⟨cnt,hcnt⟩:∃ cnt,n.states.length * l.length / 64+1=cnt:=⟨_,rfl⟩;obtain⟨J,hJ⟩:∃ J:Nat->St->Prop,(fun m σ=>∃ (ws:List Nat) (S:Jbd) (T:List Tr) (O:List En) (W:Td) (s:Nat) (q u:Option Nat) (N:List Tr) (nx:Nat) (x:List AV),EI n o l md k r a rk R S T O/\Jhf n.states.length l.length ws S/\Jdq n o l md k W/\Dj s q u nx/\(q=none->O=[])/\(u=none->N=[])/\x.length=3/\m=muE n l S T /\
  σ=⟨eS r a cnt q O u N,⟨eB n o l md r s T x,LT W ws s T q O u N,nx⟩,147⟩)=J:=⟨_,rfl⟩
 have hJe:∀ m σ,J m σ->∃ (ws:List Nat) (S:Jbd) (T:List Tr) (O:List En) (W:Td) (s:Nat) (q u:Option Nat) (N:List Tr) (nx:Nat) (x:List AV),EI n o l md k r a rk R S T O/\Jhf n.states.length l.length ws S/\Jdq n o l md k W/\Dj s q u nx/\(q=none->O=[])/\(u=none->N=[])/\x.length=3/\m=muE n l S T /\
  σ=⟨eS r a cnt q O u N,⟨eB n o l md r s T x,LT W ws s T q O u N,nx⟩,147⟩:=fun m σ h=>by rw[<- hJ] at h;exact h
 have hJi:∀ {ws:List Nat} {S:Jbd} {T:List Tr} {O:List En} {W:Td} {s:Nat} {q u:Option Nat} {N:List Tr} {nx:Nat} {x:List AV},EI n o l md k r a rk R S T O->Jhf n.states.length l.length ws S->Jdq n o l md k W->Dj s q u nx->(q=none->O=[])->(u=none->N=[])->x.length=3 ->
  J (muE n l S T) ⟨eS r a cnt q O u N,⟨eB n o l md r s T x,LT W ws s T q O u N,nx⟩,147⟩:=fun h1 h2 h3 h4 h5 h6 h7=>by
  rw[<- hJ];exact⟨_,_,_,_,_,_,_,_,_,_,_,h1,h2,h3,h4,h5,h6,h7,rfl,rfl⟩
 clear hJ;refine Jpp 0 rfl J (muE n l [] [⟨stN n r,a,[]⟩]) (fun pass0=>?_) ?_
 ·refine Jm ?_;refine Jj ?_;cases hl:Ja1 W0 (r,a) with
  | some v =>
   have hv:=hW0 (r,a) v hl;rw[hl] at hm;simp only at hm hv;subst hv;simp -implicitDefEqProofs (disch:=omega) only[Wz,seval,Ly,Lx,Jap,Jh,J8,JhL,hm];exact fin _ W0 hW0 rfl rfl rfl (by show 2<=2;decide) rfl
  | none =>
   rw[hl] at hm;simp only at hm;simp -implicitDefEqProofs (disch:=omega) only[Wz,seval,Ly,Lx,Jap,Jh,J8,JhL,hm];refine Jm ?_;refine Jj ?_;simp -implicitDefEqProofs (disch:=omega) only[Wz,seval,Ly,Lx,hrr];refine Jm ?_;have b1:n.states.length * l.length<=1500 * 1000:=Nat.mul_le_mul hst hll;have hmul:IntKind.i64.wrap ((n.states.length:Int) * (l.length:Int))=((n.states.length * l.length:Nat):Int):=by rw[<- Int.natCast_mul];exact Jdy (by omega) (by omega)
   have hsh:((n.states.length * l.length:Nat):Int).fdiv (2 ^ min (Int.toNat 6) IntKind.i64.bits)=((n.states.length * l.length / 64:Nat):Int):=JBW;have hshb:((n.states.length * l.length:Nat):Int).fdiv (2 ^ min 6 IntKind.i64.bits)=((n.states.length * l.length / 64:Nat):Int):=hsh;have hadd:IntKind.i64.wrap (((n.states.length * l.length / 64:Nat):Int)+1)=(cnt:Int):=by rw[Jdy (by omega) (by omega),<- hcnt];rfl
   have hif:(0<=(cnt:Int)/\(cnt:Int)<=(cnt:Int)/\(cnt:Int)<=9223372036854775807/\((8:Nat):Int) * (cnt:Int)<=281474976710656)=True:=by simp;omega
   have hrep:List.replicate cnt [AV.lit (.int .u64 0)]=(List.replicate cnt 0).map Jtd:=by rw[List.map_replicate];rfl
   refine Jbh (n:=147) 14 (.alt 14 (.alt 15 .leaf .nil) .nil) rfl (by decide) (by decide) mixed (by kernel_rfl) (by decide) ?_;simp -implicitDefEqProofs (disch:=omega) only[Wz,seval,Ly,Lx,Jap,Jh,J8,JhL,hmul,hsh,hshb,hadd,hif,hrep,if_true];refine Jm ?_;refine Jc0 ?_;simp -implicitDefEqProofs (disch:=omega) only[Wz,seval,Ly,Lx,JlE,hst2,Jc];refine JcZ (ps:=[(0,.agg [.lit (.int .i64 (stN n r:Int)),.lit (.int .i64 (a:Int)),.vec [] true])]) (z:=[.lit (.int .i64 0),.lit (.int .i64 0),.vec [] true]) (rows:=[[.lit (.int .i64 (stN n r:Int)),.lit (.int .i64 (a:Int)),.vec [] true]]) Jof rfl Joe rfl ⟨rfl,by decide⟩ (by decide) ?_ rfl ?_
   ·simp -implicitDefEqProofs (disch:=omega) only[Wz,seval,Ly,Lx]
   simp -implicitDefEqProofs (disch:=omega) only[Wz,seval,Ly,Lx,JlE];refine Jm ?_;refine Jj ?_;simp -implicitDefEqProofs (disch:=omega) only[Wz,seval,Ly,Lx];refine Jm ?_;refine Jj ?_;simp -implicitDefEqProofs (disch:=omega) only[Wz,seval,Ly,Lx];refine Jm ?_;refine Jj ?_;simp -implicitDefEqProofs (disch:=omega) only[Wz,seval,Ly,Lx];refine JqZ ?_;refine Ja8 ?_ (pass0 _ (hJi (EI.init w hr ha) (ws:=List.replicate (n.states.length * l.length / 64+1) 0) (.init _ _) hW0 (s:=4) (q:=none) (u:=none) (N:=[]) (nx:=7) (x:=[.lit (.int .i64 0),.lit (.int .i64 0),.vec [] true]) ⟨by decide,by decide,by decide,fun v hv=>(by cases hv),fun v hv=>(by cases hv)⟩ (fun _=>rfl) (fun _=>rfl) rfl));refine St.wk_conv rfl rfl (fun g g' e=>?_) (fun g g' e=>?_) (fun g=>?_)
   ·unfold eS;exact Jb ⟨_,rfl,JF e _⟩ (Jb ⟨_,rfl,JF e _⟩ (Jb ⟨_,rfl,JF e _⟩ (Jb ⟨_,rfl,JF e _⟩ (Jb ⟨_,rfl,JF e _⟩ (Jb ⟨_,rfl,JF e _⟩ (Jb ⟨_,rfl,JF e _⟩ (Jb ⟨_,rfl,JF e _⟩ (Jb ⟨_,rfl,JF e _⟩ Jl))))))))
   ·have er:Jc rr=[.lit (.string rr.name),.lit (.bool rr.lexer),.lit (.bool rr.frag),.lit (.bool rr.lz),.lit (.bool rr.left),.lit (.int .i64 rr.mode),.lit (.int .i64 rr.type),.lit (.int .i64 (stN n r:Int)),.lit (.int .i64 rr.stop)]:=by unfold Jc;rw[hst2]
    unfold eB;rw[hrr,er];exact Jb ⟨_,rfl,Jbe e _⟩ (Jb ⟨_,rfl,Jbe e _⟩ (Jb ⟨_,rfl,Jbe e _⟩ (Jb ⟨_,rfl,Jbe e _⟩ Jl)))
   ·unfold LT;rw[hcnt];exact Jb ⟨_,rfl,Jks.refl g _⟩ (Jb ⟨_,rfl,Jks.refl g _⟩ (Jb ⟨_,rfl,rfl,rfl,.cons (Jv (JF (.refl g) _) (Jv (JF (.refl g) _) (Jv (JbG (.refl g) [] true) JaV))) rfl .nil⟩ Jl))
 ·intro μ0 σ hσ;obtain⟨ws,S,T,O,W,s,q,u,N,nx,x,hG,hB,hW,hD,hq0,hu0,hx3,hμ,rfl⟩:=hJe μ0 σ hσ;clear hJe hσ;have hOl:=hG.out w g.u hr ha;have hTl:T.length<=1+1000 * (1000 * 1048576):=by
   have h1:=hG.len;have h2:=Jtl hG.nd hG.inr;have h3:l.length * JtY n S<=1000 * (1000 * 1048576):=Nat.mul_le_mul hll (Nat.le_trans h2 (Nat.mul_le_mul hll mu.es));omega
  have hls:=Jzz (W:=W) (ws:=ws) (T:=T) (O:=O) (N:=N) hD;have hn7:=hD.n7;have hs4:=hD.s4;have hsn:=hD.sn;rcases Jfc T with rfl | ⟨T',y,rfl⟩
  ·
   have hO:=hG.done;refine Ja8 (σ':=⟨[(0,.ptr 0 0),(1,.lit (.int .i64 (r:Int))),(2,.lit (.int .i64 (a:Int))),(6,enV (eF n o l md k r a)),(11,.ptr 5 0)],⟨[(0,Jap n o l md 1),(5,[.own s 0])],[(1,J8 W),(s,tkN [])],nx⟩,147⟩) ?_ ?_
   ·cases q with
    | none =>
     have:=hq0 rfl;subst this;rw[<- hO];refine St.wk_conv rfl rfl (fun g g' e=>?_) (fun g g' e=>?_) (fun g=>?_)
     ·exact Jb ⟨_,rfl,JF e _⟩ (Jb ⟨_,rfl,JF e _⟩ (Jb ⟨_,rfl,JF e _⟩ (Jb ⟨_,rfl,JbG e [] true⟩ (Jb ⟨_,rfl,JF e _⟩ Jl))))
     ·exact Jb ⟨_,rfl,Jbe e _⟩ (Jb ⟨_,rfl,Jbe e _⟩ Jl)
     ·exact Jb ⟨_,rfl,Jks.refl g _⟩ (Jb ⟨_,hls,Jks.refl g _⟩ Jl)
    | some v =>
     have hv:=hD.hq v rfl;refine Jpa (t:=v) (k:=⟨O.map JO,0,2⟩) (JzW hD rfl) rfl rfl ?_ (fun i c e=>?_) (fun i c e=>?_)
     ·exact Jb ⟨_,rfl,.inl rfl⟩ (Jb ⟨_,rfl,.inl rfl⟩ (Jb ⟨_,rfl,.inl rfl⟩ (Jb ⟨_,rfl,.inr ⟨by simp[JtZ],by rw[<- hO];rfl⟩⟩ (Jb ⟨_,rfl,.inl rfl⟩ Jl))))
     ·have e:lk [(0,Jap n o l md 1),(5,[AV.own s 0])] i=some c:=e;simp only[lk] at e;split at e
      ·rename_i q;subst q;cases e;rfl
      ·split at e
       ·rename_i q;subst q;cases e;rfl
       ·cases e
     ·have e2:lk [(1,J8 W),(s,tkN [])] i=some c:=e;clear e;simp only[lk] at e2;split at e2
      ·rename_i q;subst q;cases e2;exact⟨by omega,rfl⟩
      ·split at e2
       ·rename_i q;subst q;have e3:=Option.some.inj e2;subst e3;exact⟨by omega,hls⟩
       ·cases e2
   refine Jj ?_;have n1s:(1=s)=False:=by simp;omega
   have hpu':JrC Tryz.prog 132 (.agg [.lit (.int .i64 (r:Int)),.lit (.int .i64 (a:Int))]) (.vec ((eF n o l md k r a).map JO) false) (Jdk kSo enV W)=some (Jdk kSo enV (Jjo W (r,a) (eF n o l md k r a))):=hpu W;simp -implicitDefEqProofs (disch:=omega) only[Wz,seval,Ly,Lx,Jap,Jh,tkN,J8,JhL,enV,hpu',n1s,List.map_nil];exact fin _ _ (hW.put r a) rfl rfl rfl (by show 2<=nx;omega) rfl
  ·have hyo:=(hG.ok y (by simp)).1;obtain⟨ys,yp,ya⟩:=y;have hys:=hyo.st;have hyp:=hyo.pos;simp only at hys hyp;simp only[List.length_append,List.length_singleton] at hTl;have hls':lk (LT W ws s (T'++[⟨ys,yp,ya⟩]) q O u N) s=some ⟨T'.map J2++[[AV.lit (.int .i64 (ys:Int)),AV.lit (.int .i64 (yp:Int)),.vec (ya.map JA) false]],0,3⟩:=by rw[hls];unfold tkN;rw[List.map_append];rfl
   have g1:(T'.map J2++[[AV.lit (.int .i64 (ys:Int)),AV.lit (.int .i64 (yp:Int)),AV.vec (ya.map JA) false]])[T'.length]? = some [AV.lit (.int .i64 (ys:Int)),AV.lit (.int .i64 (yp:Int)),.vec (ya.map JA) false]:=by rw[List.getElem?_append_right (by simp)];simp
   have i1:(((T'.length+1:Nat):Int) - 1).toNat=T'.length:=by omega
   have hdx:List.drop 3 x=[]:=List.drop_eq_nil_of_le (by omega);have tk1:(T'.map J2++[[AV.lit (.int .i64 (ys:Int)),AV.lit (.int .i64 (yp:Int)),AV.vec (ya.map JA) false]]).take T'.length=T'.map J2:=by rw[List.take_append_of_le_length (by simp),List.take_of_length_le (by simp)]
   refine Jm ?_;refine Jj ?_;simp -implicitDefEqProofs (disch:=omega) only[Wz,seval,Ly,Lx,eS,eB,hls',List.length_append,List.length_singleton,g1,i1,hx3,hdx];refine Jm ?_;refine Jj ?_;simp -implicitDefEqProofs (disch:=omega) only[Wz,seval,Ly,Lx,eS,eB,hls',List.length_append,List.length_singleton,g1,i1,hx3,hdx];refine Jm ?_;refine Jj ?_;simp -implicitDefEqProofs (disch:=omega) only[Wz,seval,Ly,Lx,eS,eB,hls',List.length_append,List.length_singleton,g1,i1,hx3,hdx];refine JcX (k:=⟨T'.map J2++[[AV.lit (.int .i64 (ys:Int)),AV.lit (.int .i64 (yp:Int)),.vec (ya.map JA) false]],0,3⟩) rfl rfl Jof rfl Joe rfl hls' (by simp) (by omega) (by omega) (by simp) ?_;simp -implicitDefEqProofs (disch:=omega) only[Wz,seval,Ly,Lx,Hp.cut,i1,tk1,hdx];refine Ja8 (σ':=⟨eS r a cnt q O u N,⟨eB n o l md r nx T' (J2 ⟨ys,yp,ya⟩),LT W ws nx T' q O u N,nx+1⟩,147⟩) ?_ ?_
   ·exact Jk (by simp[eS,lk]) (fun _ _ e=>e) (fun i c e=>Jy1 hD e) rfl rfl
   have hD1:=hD.news (Nat.lt_succ_self nx);clear hls hls' g1 i1 tk1 hdx hD hx3;have hN:=hD1.n7;have b1:n.states.length * l.length<=1500 * 1000:=Nat.mul_le_mul hst hll;have hil:=Jpn hys hyp;obtain⟨i,hi⟩:∃ i,ys * l.length+yp=i:=⟨_,rfl⟩;rw[hi] at hil;have hmul:IntKind.i64.wrap ((ys:Int) * (l.length:Int))=((ys * l.length:Nat):Int):=by rw[<- Int.natCast_mul];exact Jdy (by omega) (by omega)
   have hadd:IntKind.i64.wrap (((ys * l.length:Nat):Int)+(yp:Int))=(i:Int):=by rw[<- Int.natCast_add,hi];exact Jdy (by omega) (by omega)
   have hlen:=hB.len;have hcw:cnt=ws.length:=by rw[hlen,hcnt]
   have hix:=hB.idx hys hyp;rw[hi] at hix;have hbit:=hB.bit ys yp hys hyp;rw[hi] at hbit;refine Jm ?_;refine Jj ?_;simp -implicitDefEqProofs (disch:=omega) only[Wz,seval,Ly,Lx];refine Jbh (n:=147) 14 (.alt 14 .leaf .nil) rfl (by decide) (by decide) mixed (by kernel_rfl) (by decide) ?_;simp -implicitDefEqProofs (disch:=omega) only[Wz,seval,Ly,Lx,eS,eB,Jap,Jh,J2,hmul,hadd,hcw];refine JE Jx5 (Jpg ws i 3 _ hB.lt hix (by omega) rfl) ?_;rintro r0 h' ⟨rfl,rfl⟩;cases hb:(ws.getD (i / 64) 0).testBit (i % 64) with
   | true =>
    rw[hb] at hbit;have hin:(ys,yp)∈S:=hbit.1 rfl;simp -implicitDefEqProofs (disch:=omega) only[Wz,seval,Ly,Lx];refine⟨_,?_,muE n l S T',?_,hJi (hG.seen fk hin) (by have:=hB.mark (S':=S) hys hyp (fun z=>⟨.inl,fun q=>q.elim id (fun q=>by rw[q];exact hin)⟩);rw[hi] at this;exact this) hW hD1 hq0 hu0 (x:=J2 ⟨ys,yp,ya⟩) rfl⟩
    ·exact Jk (by simp[eS,lk,hcw]) (fun _ _ e=>e) (fun _ _ e=>e) rfl rfl
    ·rw[hμ];exact JqY n l S T' _
   | false =>
    rw[hb] at hbit;have hnin:(ys,yp)∉S:=fun q=>by have:=hbit.2 q;cases this
    have hB1:=hB.mark (S':=S++[(ys,yp)]) hys hyp (fun z=>by simp);rw[hi] at hB1;clear hb hbit hix hB hlen;simp -implicitDefEqProofs (disch:=omega) only[Wz,seval,Ly,Lx];obtain⟨ws',hws'⟩:∃ ws',Jhe ws i=ws':=⟨_,rfl⟩;refine Ja8 (σ':=⟨eS r a cnt q O u N,⟨eB n o l md r nx T' (J2 ⟨ys,yp,ya⟩),LT W ws' nx T' q O u N,nx+1⟩,147⟩) ?_ ?_
    ·exact Jk (by simp[eS,lk,hcw]) (fun _ _ e=>e) (fun _ _ e=>by rw[<- hws'] at e;exact e) rfl rfl
    rw[hws'] at hB1;clear hws' hcw ws;refine Jm ?_;refine Jj ?_;by_cases hsp:ys=spN n r
    ·have hfit:Ja7 (O.length+1) 32=True:=eq_true (JN (by omega) (by omega));have hfit1:Ja7 1 32=True:=eq_true (JN (by decide) (by decide));have hG1:=hG.stop fk hnin hsp;have hmu:=Jl1 (X:=[]) hG hnin (Nat.zero_le _);rw[List.append_nil] at hmu;cases q with
     | none =>
      have:=hq0 rfl;subst this;simp -implicitDefEqProofs (disch:=omega) only[Wz,seval,Ly,Lx,eS,eB,J2,Jc,hrr,hsp2,hsp,JtZ,Jzy,JtX,hfit1,true_and,if_true];refine⟨_,?_,_,?_,hJi hG1 hB1 hW (hD1.newq (Nat.lt_succ_self _)) (fun q=>by cases q) hu0 (x:=J2 ⟨ys,yp,ya⟩) rfl⟩
      ·refine Jk (by simp[eS,lk,JtZ]) (fun i c e=>?_) (fun i c e=>Jtn hD1 e) rfl rfl;simp only[eB,hrr,Jc,J2,hsp2,hsp] at e ⊢;exact e
      ·rw[hμ];exact hmu
     | some v =>
      have hlq:=JzW (W:=W) (ws:=ws') (T:=T') (O:=O) (N:=N) hD1 rfl;have hupq:=JyZ (W:=W) (ws:=ws') (T:=T') (O:=O) (N:=N) hD1 rfl (O':=O++[⟨yp,ya⟩]);rw[List.map_append] at hupq;simp only[List.map_cons,List.map_nil,JO] at hupq;simp -implicitDefEqProofs (disch:=omega) only[Wz,seval,Ly,Lx,eS,eB,J2,Jc,hrr,hsp2,hsp,JtZ,Jzy,hlq,hupq,hfit,true_and,if_true];refine⟨_,?_,_,?_,hJi hG1 hB1 hW (hD1.up (Nat.le_refl _)) (fun q=>by cases q) hu0 (x:=J2 ⟨ys,yp,ya⟩) rfl⟩
      ·refine Jk (by simp[eS,lk,JtZ]) (fun i c e=>?_) (fun i c e=>e) rfl rfl;simp only[eB,hrr,Jc,J2,hsp2,hsp] at e ⊢;exact e
      ·rw[hμ];exact hmu
    ·have hG1:=hG.push w g.u mu fk hrk hR hnin hsp;have hE:∀ e∈(n.states.getD ys default).edges,e.op.1=2->(eF n o l md k e.n.toNat yp).length<=l.length:=fun e he h2=>JiD w g.u (by have:=w.call hys he h2;omega) hyp;have hNl:=JlY w g.u (o:=o) (md:=md) (E:=eF n o l md k) (t:=⟨ys,yp,ya⟩) hE;have hdeg:=Jsd hys;have hXX:(JbC n o l md (eF n o l md k) ⟨ys,yp,ya⟩).reverse.length<=JpZ n * l.length:=by
      rw[List.length_reverse];exact Nat.le_trans hNl (Nat.mul_le_mul_right _ hdeg)
     have hmu:=Jl1 hG hnin hXX;have hspI:((ys:Int)==(spN n r:Int))=false:=JjN (by omega);simp -implicitDefEqProofs (disch:=omega) only[Wz,seval,Ly,Lx,eS,eB,J2,Jc,hrr,hsp2];refine Jm ?_;refine Jx (n:=147) rfl (by decide) mixed ?_;obtain⟨es,hes⟩:∃ es,(n.states.getD ys default).edges=es:=⟨_,rfl⟩;have hesl:es.length<=1000000000:=by rw[<- hes];exact g.ok.edgesD ys
     obtain⟨ss,hss⟩:∃ ss,n.states.getD ys default=ss:=⟨_,rfl⟩;simp -implicitDefEqProofs (disch:=omega) only[Wz,seval,Ly,Lx,Jap,Jh,Jd,hss];rw[<- hss,hes];obtain⟨t,ht⟩:∃ t:Tr,t=⟨ys,yp,ya⟩:=⟨_,rfl⟩;have t1:t.st=ys:=by rw[ht]
     have t2:t.pos=yp:=by rw[ht]
     have hyt:Jff n l t:=by rw[ht];exact hyo
     have hta:t.acts.length<=2000000000000:=by
      have h1:=hG.acts ⟨ys,yp,ya⟩ (by simp);have h2:=Nat.le_trans (Jk7 g.w g.u hG.nd hG.inr) b1;have h3:=Nat.mul_le_mul_left Jfg h2;rw[ht];unfold Jfg at *;omega
     have hmt:=(hG.ok ⟨ys,yp,ya⟩ (by simp)).2;rw[<- ht] at hG1 hNl hmu hXX hmt;refine Ja8 (σ':=⟨(14,.vec (es.map Jo) false) :: eS r a cnt q O u N,⟨eB n o l md r nx T' (J2 t),LT W ws' nx T' q O u N,nx+1⟩,147⟩) ?_ ?_
     ·refine Jk (by simp[eS,lk]) (fun i c e=>?_) (fun i c e=>e) rfl rfl;rw[ht] at e;simp only[eB,hrr,Jc,J2,hsp2,Jap,Jh,List.cons_append,List.nil_append] at e ⊢;exact e
     refine JhD (fun σ2=>∃ u1 nx1,Dj nx q u1 nx1/\σ2=⟨(14,.vec (es.map Jo) false) :: eS r a cnt q O u1 [],⟨eB n o l md r nx T' (J2 t),LT W ws' nx T' q O u1 [],nx1⟩,147⟩) ?_ ?_
     ·refine Jj ?_;cases u with
      | none =>
       have hsl:Jfk 3 [] true none (some 0) none=some (.vec [] true):=by simp[Jfk,Jdw]
       simp -implicitDefEqProofs (disch:=omega) only[Wz,seval,Ly,Lx,eS,nxV,hsl,Option.map_some];refine⟨_,?_,none,nx+1,hD1,rfl⟩;refine Jk (by simp[lk]) (fun _ _ e=>e) (fun i c e=>?_) rfl rfl;have:=hu0 rfl;subst this;exact e
      | some v =>
       have hlu:=JzA (W:=W) (ws:=ws') (T:=T') (O:=O) (N:=N) hD1 rfl;have hv:=hD1.hu v rfl;simp -implicitDefEqProofs (disch:=omega) only[Wz,seval,Ly,Lx,eS,nxV];refine JcX (k:=tkN N) rfl rfl Jof rfl Joe rfl hlu (by simp[tkN]) (by omega) (by omega) (by simp[tkN]) ?_;simp -implicitDefEqProofs (disch:=omega) only[Wz,seval,Ly,Lx,Hp.cut];refine⟨_,?_,some (nx+1),nx+2,⟨by omega,hD1.s4,by omega,fun p hp=>by have:=hD1.hq p hp;exact⟨this.1,by omega,this.2.2⟩,fun p hp=>by cases hp;exact⟨by omega,by omega,by omega,fun e=>by have:=hD1.hq _ e;omega⟩⟩,rfl⟩;exact Jk (by simp[lk]) (fun _ _ e=>e) (fun i c e=>Jto hD1 rfl e) rfl rfl
     rintro σ2 ⟨u1,nx1,hD2,rfl⟩;refine Jm ?_;refine Jj ?_;simp -implicitDefEqProofs (disch:=omega) only[Wz,seval,Ly,Lx,eS];obtain⟨NN,hNN⟩:∃ NN:Nat->List Tr,(fun i=>(es.take i).flatMap fun e=>Jcq o l md (eF n o l md k) e t)=NN:=⟨_,rfl⟩;have hNe:NN es.length=JbC n o l md (eF n o l md k) t:=by rw[<- hNN];simp only[List.take_length];unfold JbC;rw[t1,hes]
     have hNl1:∀ i,(NN i).length<=1500000000:=fun i=>by
      have h1:(NN i).length<=(JbC n o l md (eF n o l md k) t).length:=by
       rw[<- hNe,<- hNN];simp only[List.take_length];conv=>rhs;rw[<- List.take_append_drop i es]
       rw[List.flatMap_append,List.length_append];omega
      have h2:(JpZ n) * l.length<=1048576 * 1000:=Nat.mul_le_mul mu.es hll;rw[List.length_reverse] at hXX;omega
     refine Jp (fun(z:Nat × Td × Option Nat × Nat)=>⟨(129,.lit (.int .i64 (z.1:Int))) :: (128,.lit (.int .i64 (es.length:Int))) :: (127,.vec (es.map Jo) false) :: eS r a cnt q O z.2.2.1 (NN z.1),⟨eB n o l md r nx T' (J2 t),LT z.2.1 ws' nx T' q O z.2.2.1 (NN z.1),z.2.2.2⟩,147⟩)
      (fun z=>z.1<=es.length/\Jdq n o l md k z.2.1/\Dj nx q z.2.2.1 z.2.2.2/\(z.2.2.1=none->NN z.1=[])) (fun z=>es.length - z.1) (0,W,u1,nx1)
      (by
       have e0:NN 0=[]:=by rw[<- hNN];rfl
       simp only[e0];exact Jk (by simp[eS,lk]) (fun _ _ e=>e) (fun _ _ e=>e) rfl rfl) ⟨Nat.zero_le _,hW,hD2,fun _=>by rw[<- hNN];rfl⟩ ?_
     clear hD2 hW;rintro⟨i,W,u,m⟩ ⟨hi2,hW,hD2,hu0⟩;simp only at hi2 hW hD2 hu0 ⊢;have hm7:=hD2.n7;refine Jj ?_;rcases Nat.lt_or_ge i es.length with hlt | hge
     ·obtain⟨e,hee⟩:∃ e,es.getD i default=e:=⟨_,rfl⟩;have hem:e∈(n.states.getD t.st default).edges:=by rw[t1,hes,<- hee];exact Ju hlt
      have hNs:NN (i+1)=NN i++Jcq o l md (eF n o l md k) e t:=by
       rw[<- hNN];simp only;rw[List.take_succ_eq_append_getElem hlt,List.flatMap_append,<- hee,List.getD_eq_getElem?_getD,List.getElem?_eq_getElem hlt];simp
      have hNi:=hNl1 i;have h1:=JB4 (W:=W) (ws:=ws') (s:=nx) (T:=T') (q:=q) (O:=O) (u:=u) (N:=NN i);have hst8:=fun H hn hb hk hno hu hf=>Jtk n o l md k g t hyt e hem hta (by have:=mu.acts t.st e hem;unfold Jfg at this;omega)
       (fun h2=>by
        have hc:=w.call hyt.st hem h2;refine ih e.n.toNat t.pos (by omega) hyt.pos (Nat.lt_of_lt_of_le ?_ hmt);have:=hrk.call _ _ hyt.st hem h2;unfold mT;simp only;omega)
       (fun h2=>by rw[t1] at hem;have:=hE e hem h2;rw[t2];omega) W hW u (NN i) hNi hu0 H hn hb hk hno hu hf
      simp -implicitDefEqProofs (disch:=omega) only[Wz,seval,Ly,Lx,eS,eB,hee];refine JE Jx6 (hst8 _ (by show 2<=m+1;omega) rfl rfl (Jlf hD2 (.inl rfl)) (fun v hv=>⟨by have:=hD2.hu v hv;omega,by have:=hD2.hu v hv;show v<m+1;omega,JzA hD2 hv⟩) (fun j hj=>Jlf hD2 (.inr (by have:m+1<=j:=hj;omega)))) ?_;rintro r0 h' ⟨u2,W2,m2,rfl,hW2,hm2,hx2,hu2,rfl⟩;have hm2:m+1<=m2:=hm2;have hx2:Nx u u2 (m+1) m2:=hx2;rw[<- hNs] at hu2 ⊢;simp -implicitDefEqProofs (disch:=omega) only[Wz,seval,Ly,Lx];refine⟨(i+1,W2,u2,m2),⟨by show i+1<=_;omega,hW2,hD2.newu (hx2.le (Nat.le_succ _) (Nat.le_refl _)) (show m<=m2 by omega),hu2⟩,by show es.length - (i+1)<_;omega,?_⟩;refine Jk (by simp[eS,lk]) (fun j c q=>JbD (l:=eB n o l md r nx T' (J2 t)) q) (fun j c q=>?_) rfl rfl;have:=JzX (W:=W) (ws:=ws') (T:=T') (O:=O) (N:=NN i) hD2 (W':=W2) (M:=NN (i+1)) (hx2.le (Nat.le_succ _) (Nat.le_refl _));rw[this];exact q
     ·have hie:i=es.length:=by omega
      subst hie;rw[hNe] at hu0 ⊢;obtain⟨NX,hNX⟩:∃ NX,JbC n o l md (eF n o l md k) t=NX:=⟨_,rfl⟩;rw[hNX] at hu0 hG1 hmu hXX ⊢;clear hNe hNl1 hNN hE;have hNXl:NX.length<=1048576000:=by
       have h2:(JpZ n) * l.length<=1048576 * 1000:=Nat.mul_le_mul mu.es hll;rw[List.length_reverse] at hXX;omega
      simp -implicitDefEqProofs (disch:=omega) only[Wz,seval,Ly,Lx];refine Jm ?_;refine Jm ?_;refine Jj ?_;simp -implicitDefEqProofs (disch:=omega) only[Wz,seval,Ly,Lx,eS];refine JE Jx7 (JiF u NX _) ?_;rintro r0 h' ⟨rfl,rfl⟩;simp -implicitDefEqProofs (disch:=omega) only[Wz,seval,Ly,Lx];refine JX ?_;refine Ja8 (σ':=⟨(140,.fn (.func 73) [] [.ptr m 0]) :: eS r a cnt q O u NX,⟨eB n o l md r nx T' (J2 t)++[(m,[nxV u NX])],LT W ws' nx T' q O u NX,m+1⟩,147⟩) (Jk (by simp[eS,lk]) (fun _ _ e=>e) (fun _ _ e=>e) rfl rfl) ?_;refine JbS (gf:=73) (first:=[]) (lb:=[.ptr m 0]) rfl Jyj (fun p hp=>?_);obtain⟨TT,hTT⟩:∃ TT:Nat->List Tr,(fun j=>T'++(NX.drop j).reverse)=TT:=⟨_,rfl⟩;have hT0:TT 0=T'++NX.reverse:=by rw[<- hTT];rfl
      have hTn:TT NX.length=T':=by rw[<- hTT];simp
      have hTs:∀ j,j<NX.length->TT j=TT (j+1)++[NX.getD j default]:=fun j hj=>by rw[<- hTT];simp only;rw[Jbc hj,List.reverse_cons,List.append_assoc]
      have hTl2:∀ j,(TT j).length<=1050000000000+1048576000:=fun j=>by
       rw[<- hTT];simp only[List.length_append,List.length_reverse,List.length_drop];omega
      obtain⟨I,hI⟩:∃ I:Nat->Hp->Prop,(fun j H=>∃ x,m+2<=x/\H=⟨eB n o l md r nx (TT j) (J2 t)++[(m,[nxV u NX])],LT W ws' nx (TT j) q O u NX++[(m+1,JaL 1)],x⟩)=I:=⟨_,rfl⟩;have hIe:∀ j H,I j H->∃ x,m+2<=x/\H=⟨eB n o l md r nx (TT j) (J2 t)++[(m,[nxV u NX])],LT W ws' nx (TT j) q O u NX++[(m+1,JaL 1)],x⟩:=fun j H h=>by rw[<- hI] at h;exact h
      have hIi:∀ j x,m+2<=x->I j ⟨eB n o l md r nx (TT j) (J2 t)++[(m,[nxV u NX])],LT W ws' nx (TT j) q O u NX++[(m+1,JaL 1)],x⟩:=fun j x h=>by rw[<- hI];exact⟨x,h,rfl⟩
      clear hI;have hno:∀ j,lk (LT W ws' nx (TT j) q O u NX) (m+1)=none:=fun j=>Jlf hD2 (.inr (Nat.le_succ m));refine JU.mono (JyS NX (by omega) (nxV u NX) m I (fun j H hj=>?_) ?_ (fun j H hj hIj=>?_) _ ?_) ?_
      ·obtain⟨x,_,rfl⟩:=hIe j H hj;show lk (eB n o l md r nx (TT j) (J2 t)++[(m,[nxV u NX])]) m=_;unfold eB;simp only[lk,List.cons_append,List.nil_append];rw[if_neg (by omega),if_neg (by omega),if_neg (by omega),if_neg (by omega),if_pos trivial]
      ·cases u with
       | none=>exact .inl ⟨hu0 rfl,rfl⟩
       | some v =>
        refine .inr ⟨v,rfl,fun j H hj=>?_⟩;obtain⟨x,_,rfl⟩:=hIe j H hj;exact JbD (JzA hD2 rfl)
      ·obtain⟨x,hx,rfl⟩:=hIe (j+1) H hIj;refine hp _ _ _ ⟨?_,rfl,?_⟩
       ·show lk (LT W ws' nx (TT (j+1)) q O u NX++[(m+1,JaL 1)]) (m+1)=_;rw[JC,hno];simp[lk]
       refine Jj ?_;obtain⟨z,hz⟩:∃ z,NX.getD j default=z:=⟨_,rfl⟩;have hTz:=hTs j hj;rw[hz] at hTz ⊢;have hup2:up (LT W ws' nx (TT (j+1)) q O u NX++[(m+1,JaL 1)]) (m+1) (JaL 2)=LT W ws' nx (TT (j+1)) q O u NX++[(m+1,JaL 2)]:=JdU (hno _);have hlk2:lk (LT W ws' nx (TT (j+1)) q O u NX++[(m+1,JaL 2)]) nx=some ⟨(TT (j+1)).map J2,0,3⟩:=JbD (Jzz hD2);have hups:up (LT W ws' nx (TT (j+1)) q O u NX++[(m+1,JaL 2)]) nx ⟨(TT (j+1)).map J2++[J2 z],0,3⟩=LT W ws' nx (TT j) q O u NX++[(m+1,JaL 2)]:=by
        rw[Jse (Jzz hD2),hTz];have:=JyY (W:=W) (ws:=ws') (T:=TT (j+1)) (O:=O) (N:=NX) hD2 (T':=TT (j+1)++[z]);unfold tkN at this;rw[List.map_append] at this;exact congrArg (· ++ [(m+1,JaL 2)]) this
       have hf3:Ja7 ((TT (j+1)).length+1) 40=True:=eq_true (by have:=hTl2 (j+1);exact⟨by unfold maxLen;omega,by omega⟩);have hz3:(∀ q',q'∈[J2 z]->q'.length=3)=True:=tr3 [z];simp -implicitDefEqProofs (disch:=omega) only[Wz,seval,Ly,Lx,putL,eS,eB,Hp.lp,hup2];refine⟨?_,?_⟩
       ·rw[JC,hno];simp[lk]
       refine JX ?_;refine Jj ?_;simp -implicitDefEqProofs (disch:=omega) only[Wz,seval,Ly,Lx,hlk2,hups,hf3,hz3];refine⟨⟨[],⟨eB n o l md r nx (TT j) (J2 t)++[(m,[nxV u NX])],LT W ws' nx (TT j) q O u NX++[(m+1,JaL 2)],x+1⟩,147⟩,?_,?_,rfl,?_⟩
       ·refine Jk Jl (fun i c e=>?_) (fun _ _ e=>e) rfl rfl;rw[hTz] at e;simp only[eB,List.length_append,List.length_singleton] at e;exact JbD (x:=[(x,J2 z)]) e
       ·show lk (LT W ws' nx (TT j) q O u NX++[(m+1,JaL 2)]) (m+1)=_;rw[JC,hno];simp[lk]
       ·have h5:up (LT W ws' nx (TT j) q O u NX++[(m+1,JaL 2)]) (m+1) (JaL 1)=LT W ws' nx (TT j) q O u NX++[(m+1,JaL 1)]:=JdU (hno _);have h6:=hIi j (x+1) (by omega);unfold Hp.lp;simp only;rw[h5];exact h6
      ·have:=hIi NX.length (m+2) (Nat.le_refl _);rw[hTn] at this;exact this
      ·rintro r0 h' ⟨rfl,h1⟩;obtain⟨x,hx,rfl⟩:=hIe _ _ h1;refine⟨1,Nat.le_refl _,by decide,?_,.inl ⟨rfl,?_⟩⟩
       ·show lk (LT W ws' nx (TT 0) q O u NX++[(m+1,JaL 1)]) (m+1)=_;rw[JC,hno];simp[lk]
       rw[t1,t2] at hG1 hmu;rw[hT0];show Aw _ _ _ _;refine Jj ?_;simp -implicitDefEqProofs (disch:=omega) only[Wz,seval,Ly,Lx];refine⟨_,?_,_,?_,hJi hG1 hB1 hW (hD2.up (show m<=x by omega)) hq0 hu0 (x:=J2 t) rfl⟩
       ·refine Jk (by simp[eS,lk]) (fun i c e=>JbD e) (fun i c e=>?_) rfl rfl;show lk (dl (LT W ws' nx (T'++NX.reverse) q O u NX++[(m+1,JaL 1)]) (m+1)) i=some c;rw[Jeb];have hne:m+1≠i:=fun q=>by
         subst q;have e:lk (LT W ws' nx (T'++NX.reverse) q O u NX) (m+1)=some c:=e;rw[Jlf hD2 (.inr (Nat.le_succ m))] at e;cases e
        rw[if_neg hne];exact JbD e
       ·rw[hμ,<- ht];exact hmu
end Go.Proofs.Y
end
section
namespace Go.Proofs.Y
open Go Go.Ab
theorem JiI{n:Nt}{o:List Orc}{l:List Un}{md:Int}{k:Nat}(g:JpY n o l md)(mu:Jl0 n)(fk:Jkv n o l md k)(h:∃ rk,Rk n rk)(r a:Nat)(hr:r<n.rules.length)(ha:a<l.length):JbP n o l md k r a:=by
 obtain⟨rk,hrk⟩:=h;obtain⟨R,hR⟩:=JiC rk n.states.length;have key:∀ (m r a:Nat),mT l rk R ⟨stN n r,a,[]⟩<m->r<n.rules.length->a<l.length->JbP n o l md k r a:=by
  intro m;induction m with
  | zero=>intro r a h;omega
  | succ m ih =>
   intro r a h hr ha;exact Jm1 n o l md k g mu fk rk R hrk hR r a hr ha fun r' a' h1 h2 h3=>ih r' a' (by omega) h1 h2
 exact key _ r a (Nat.lt_succ_self _) hr ha
def Jpq(n:Nt)(o:List Orc)(l:List Un)(md:Int)(k:Nat)(f:Nat)(args:List AV)(v:AV):Prop :=
 ∀ W,Jdq n o l md k W->JU Tryz.prog f (.ptr 0 0 :: args) (hL n o l md W) fun r h'=>r=v/\∃ W',Jdq n o l md k W'/\h'=hL n o l md W'
section
variable {n:Nt} {o:List Orc} {l:List Un} {md:Int} {k:Nat} {f:Nat} {args:List AV} {v:AV}
theorem Jtp(h:Jpq n o l md k f args v)(hp:∀ x∈args,Ab.Pure x)(hv:Ab.Pure v)(H:Hp)(ai wi:Nat)(W:Td)(hW:Jdq n o l md k W)(h0:lk H.boxes ai=some (Jap n o l md wi))(h1:lk H.toks wi=some (J8 W))
  (d1:ai≠wi) (l0:ai<H.nx) (l1:wi<H.nx) (hno:lk H.toks ai=none) :
  JU Tryz.prog f (.ptr ai 0 :: args) H fun r h'=>r=v/\∃ W',Jdq n o l md k W'/\h'=⟨H.boxes,up H.toks wi (J8 W'),H.nx⟩:=by
 let ρ:Nat->Nat:=fun i=>if i=0 then ai else wi
 have r0:ρ 0=ai:=rfl;have r1:ρ 1=wi:=rfl;have cases2:∀ i,i<2->i=0\/i=1:=fun i hi=>by omega
 have hinj:∀ i j,i<2->j<2->ρ i=ρ j->i=j:=fun i j hi hj e=>by
  rcases cases2 i hi with rfl | rfl <;> rcases cases2 j hj with rfl | rfl <;> simp only[r0,r1] at e <;> first | rfl | exact absurd e (by assumption) | exact absurd e.symm (by assumption)
 refine JU.sub (hs:=hL n o l md W) ρ hinj (fun i hi=>?_) (.cons (.ptr (by show 0<2;decide) rfl) (RnL.pure hp)) (Jb ⟨by show 0<2;decide,_,h0,JbA n o l md (by show 1<2;decide) rfl⟩ Jl)
  (Jb ⟨by show 1<2;decide,_,h1,rfl,rfl,.pure (JaA W)⟩ Jl) (h W hW) ?_
 ·rcases cases2 i hi with rfl | rfl
  ·exact l0
  ·exact l1
 ·rintro v h' ⟨rfl,W',hW',rfl⟩ _;refine⟨_,⟨H.boxes,up H.toks wi (J8 W'),H.nx⟩,0,Nat.le_refl _,rfl,.pure hv,fun i cs' e=>?_,fun i k' e=>?_,rfl,W',hW',rfl⟩
  ·by_cases q:i=ai
   ·subst q;have e:lk H.boxes i=some cs':=e;rw[h0] at e;cases e;exact .inl ⟨0,_,by show 0<2;decide,rfl,rfl,JbA n o l md (by show 1<2;decide) rfl⟩
   ·refine .inr ⟨e,fun j cj ej=>?_⟩;have:j=0:=by
     simp only[hL,lk] at ej;split at ej
     ·omega
     ·cases ej
    subst this;exact fun q'=>q q'.symm
  ·have e:lk (up H.toks wi (J8 W')) i=some k':=e;rw[JH] at e;by_cases q1:wi=i
   ·rw[if_pos q1,h1] at e;simp only[Option.map_some,Option.some.injEq] at e;exact .inl ⟨1,J8 W',by show 1<2;decide,q1,rfl,by rw[<- e],by rw[<- e],by rw[<- e];exact .pure (JaA W')⟩
   ·rw[if_neg q1] at e;refine .inr ⟨e,fun j hj=>?_⟩;rcases cases2 j hj with rfl | rfl
    ·intro q;rw[r0] at q;rw[q,e] at hno;cases hno
    ·exact q1
theorem Jtq(hv:Ab.Pure v)(h:∀ W,Jdq n o l md k W->JU Tryz.prog f (.ptr 0 0 :: args) (hL n o l md W) fun r h'=>r=v/\∃ W',Jdq n o l md k W'/\lk h'.boxes 0=some (Jap n o l md 1)/\lk h'.toks 1=some (J8 W')/\2<=h'.nx):Jpq n o l md k f args v:=fun W hW =>
 JU.told (h W hW) fun r h' ⟨e,W',h1,h2,h3,h4⟩=>by
  subst e;exact⟨r,hL n o l md W',Jbj (Nat.le_refl _) h4 rfl (Jb ⟨rfl,.pure hv⟩ Jl) (Jb ⟨by show 0<2;decide,h2,JbA n o l md (by show 1<2;decide) rfl⟩ Jl) (Jb ⟨by show 1<2;decide,h3,.pure (JaA W')⟩ Jl),rfl,W',h1,rfl⟩
end
def Jm2:Option En->List AV
 | none=>[.lit (.int .i64 0),.vec [] true]
 | some y=>JO y
def JzB (b:Option En):AV:=.tup [.agg (Jm2 b),.lit (.bool b.isSome)]
theorem Jlg(b:Option En):(Jm2 b).length=2:=by cases b <;> rfl
theorem Jpr(b:Option En):(Jm2 b).take 2=Jm2 b:=by cases b <;> rfl
theorem Jps(b:Option En):∀ c∈Jm2 b,Ab.Pure c:=by
 cases b with
 | none=>exact Jb (.lit _) (Jb (.vec (by simp)) Jl)
 | some y=>exact JhH y
theorem Jj4(b:Option En):Ab.Pure (JzB b):=.tup (Jb (.agg (Jps b)) (Jb (.lit _) Jl))
theorem Jm3(lz:Bool)(ys:List En)(z:En):Jct lz (ys++[z])=some (match Jct lz ys with | none=>z | some b=>Jcs lz b z):=by
 cases ys with
 | nil=>rfl
 | cons y ys=>simp[Jct,List.foldl_append]
theorem JiK{n:Nt}{o:List Orc}{l:List Un}{md:Int}{k:Nat}(g:JpY n o l md)(r a:Nat)(hr:r<n.rules.length)(ha:a<l.length)(he:JbP n o l md k r a) :
  Jpq n o l md k 45 [.lit (.int .i64 (r:Int)),.lit (.int .i64 (a:Int))] (JzB (Jct (n.rules.getD r default).lz (eF n o l md k r a))):=by
 refine Jtq (Jj4 _) fun W0 hW0=>?_
 refine Jfr Tryz.func45 rfl Tryz.ntmps45 (rs:=[.cell 6 68,.tmp 7]) rfl (by simp) ?_;have hel:=JiD g.w g.u (o:=o) (md:=md) (k:=k) hr ha;have hll:=g.len;have hru:=g.w.nru;obtain⟨ys,hys⟩:∃ ys,eF n o l md k r a=ys:=⟨_,rfl⟩;obtain⟨rr,hrr⟩:∃ rr,n.rules.getD r default=rr:=⟨_,rfl⟩;simp -implicitDefEqProofs (disch:=omega) only[Wz,seval,Ly,Lx,hL];refine JE Joq (Jld he _ 0 1 W0 hW0 rfl rfl (by decide) (by show 0<3;decide) (by show 1<3;decide) rfl) ?_;rintro r0 h' ⟨rfl,W,hW,rfl⟩;rw[hys] at hel ⊢;rw[hrr];simp -implicitDefEqProofs (disch:=omega) only[Wz,seval,Ly,Lx,enV];refine Jp (fun z:Nat × Nat=>⟨[(0,.ptr 0 0),(1,.lit (.int .i64 (r:Int))),(6,.ptr 2 0),(7,.lit (.bool (Jct rr.lz (ys.take z.1)).isSome)),(13,.vec (ys.map JO) false),(14,.lit (.int .i64 (ys.length:Int))),(15,.lit (.int .i64 (z.1:Int)))],⟨[(0,Jap n o l md 1),(2,Jm2 (Jct rr.lz (ys.take z.1)))],[(1,J8 W)],z.2⟩,44⟩) (fun z=>z.1<=ys.length/\3<=z.2) (fun z=>ys.length - z.1) (0,3) (Jk (by simp[lk,Jct]) (fun _ _ e=>e) (fun _ _ e=>e) rfl rfl) ⟨Nat.zero_le _,by show 3<=3;decide⟩ ?_;rintro⟨j,m⟩ ⟨hj,hm⟩;simp only at hj hm ⊢;refine Jj ?_;rcases Nat.lt_or_ge j ys.length with hlt | hge
 ·obtain⟨z,hz⟩:∃ z,ys.getD j default=z:=⟨_,rfl⟩;have hs:=Jm3 rr.lz (ys.take j) z;rw[<- hz,List.getD_eq_getElem?_getD,List.getElem?_eq_getElem hlt,Option.getD_some,<- List.take_succ_eq_append_getElem hlt] at hs;rw[show ys[j]=z by rw[<- hz,List.getD_eq_getElem?_getD,List.getElem?_eq_getElem hlt];rfl] at hs;obtain⟨b,hb⟩:∃ b,Jct rr.lz (ys.take j)=b:=⟨_,rfl⟩;rw[hb] at hs ⊢;cases b with
  | none =>
   simp only at hs;simp -implicitDefEqProofs (disch:=omega) only[Wz,seval,Ly,Lx,hz,Jm2,Option.isSome,JO,Jap,Jh];refine⟨(j+1,m+1),⟨by show j+1<=_;omega,by show 3<=m+1;omega⟩,by show ys.length - (j+1)<_;omega,?_⟩;simp only[hs];exact Jk (by simp[lk]) (fun _ _ e=>JbD e) (fun _ _ e=>e) rfl rfl
  | some b =>
   by_cases h1:b.pos<z.pos
   ·cases hlz:rr.lz with
    | true =>
     rw[hlz] at hs;have hst:Jcs true b z=b:=by unfold Jcs;rw[if_neg (fun q=>by cases q.2)]
     simp only[hst] at hs;simp -implicitDefEqProofs (disch:=omega) only[Wz,seval,Ly,Lx,hz,Jm2,Option.isSome,JO,Jap,Jh,hrr,Jc,hlz];refine⟨(j+1,m+1),⟨by show j+1<=_;omega,by show 3<=m+1;omega⟩,by show ys.length - (j+1)<_;omega,?_⟩;simp only[hs];exact Jk (by simp[lk]) (fun _ _ e=>JbD e) (fun _ _ e=>e) rfl rfl
    | false =>
     rw[hlz] at hs;have hst:Jcs false b z=z:=by unfold Jcs;rw[if_pos ⟨h1,rfl⟩]
     simp only[hst] at hs;simp -implicitDefEqProofs (disch:=omega) only[Wz,seval,Ly,Lx,hz,Jm2,Option.isSome,JO,Jap,Jh,hrr,Jc,hlz];refine⟨(j+1,m+1),⟨by show j+1<=_;omega,by show 3<=m+1;omega⟩,by show ys.length - (j+1)<_;omega,?_⟩;simp only[hs];exact Jk (by simp[lk]) (fun _ _ e=>JbD e) (fun _ _ e=>e) rfl rfl
   ·have hst:Jcs rr.lz b z=b:=by unfold Jcs;rw[if_neg (fun q=>h1 q.1)]
    simp only[hst] at hs;simp -implicitDefEqProofs (disch:=omega) only[Wz,seval,Ly,Lx,hz,Jm2,Option.isSome,JO,Jap,Jh];refine⟨(j+1,m+1),⟨by show j+1<=_;omega,by show 3<=m+1;omega⟩,by show ys.length - (j+1)<_;omega,?_⟩;simp only[hs];exact Jk (by simp[lk]) (fun _ _ e=>JbD e) (fun _ _ e=>e) rfl rfl
 ·have hje:j=ys.length:=by omega
  subst hje;rw[List.take_length];simp -implicitDefEqProofs (disch:=omega) only[Wz,seval,Ly,Lx,Jlg,Jpr];obtain⟨b,hb⟩:∃ b,Jct rr.lz ys=b:=⟨_,rfl⟩;rw[hb];refine⟨⟨[(6,.ptr 2 0),(7,.lit (.bool b.isSome))],⟨[(0,Jap n o l md 1),(2,Jm2 b)],[(1,J8 W)],m⟩,44⟩,?_,?_⟩
  ·refine Jk (by simp[lk]) (fun _ _ e=>?_) (fun _ _ e=>e) rfl rfl;cases b <;> exact e
  ·cases b <;> exact⟨rfl,W,hW,rfl,rfl,by show 2<=m;omega⟩
end Go.Proofs.Y
end
section
namespace Go.Proofs.Y
open Go Go.Ab
structure Lkr (n:Nt) (o:List Orc) (l:List Un) (md:Int) (li wi:Nat) (W:Td) (H:Hp):Prop where
 at':lk H.boxes li=some (Jap n o l md wi)
 tk:lk H.toks wi=some (J8 W)
 ne:li≠wi
 l1:li<H.nx
 l2:wi<H.nx
 no:lk H.toks li=none
 fb:∀ i,H.nx<=i->lk H.boxes i=none
 ft:∀ i,H.nx<=i->lk H.toks i=none
theorem Jsf{n:Nt}{o:List Orc}{l:List Un}{md:Int}{k:Nat}(g:JpY n o l md)(a:Nat)(ha:a<l.length)(he:∀ r,r<n.rules.length->JbP n o l md k r a){p:Gh->Nat->Prop}(li wi xi ai:Nat)(I:Nat->Hp->Prop)(Z:Hp->Prop)
  (hst:∀ i H,I i H->lk H.boxes xi=some [.ptr li 0]/\lk H.boxes ai=some [.lit (.int .i64 (a:Int))]/\∃ W,Jdq n o l md k W/\Lkr n o l md li wi W H)
  (hup:∀ i H W',I i H->Jdq n o l md k W'->I i ⟨H.boxes,up H.toks wi (J8 W'),H.nx⟩)
  (hbx:∀ i H B m,I i H->H.nx<=m->(∀ q∈B,H.nx<=q.1/\q.1<m)->I i ⟨H.boxes++B,H.toks,m⟩)
  (hsk:∀ i H,i<n.rules.length->I i H->JdC n o l md k a i=none->I (i+1) H)
  (hY:∀ i y H,i<n.rules.length->I i H->JdC n o l md k a i=some (i,y)->YC Tryz.prog p [.lit (.int .i64 (i:Int)),.agg (JO y)] H fun r H'=>(r = .lit (.bool true)/\I (i+1) H')\/(r = .lit (.bool false)/\Z H')) (H0:Hp) (h0:I 0 H0) :
  JU Tryz.prog 44 [.yl p,.ptr xi 0,.ptr ai 0] H0 fun r H'=>r = .tup []/\(I n.rules.length H'\/Z H'):=by
 refine Jq Tryz.func44 rfl Tryz.ntmps44 (rs:=[]) rfl (by simp) ?_;have hru:=g.w.nru;refine Jj ?_;obtain⟨hx0,ha0,W0,hW0,hl0⟩:=hst _ _ h0;have hat0:=hl0.at';simp -implicitDefEqProofs (disch:=omega) only[Wz,seval,Ly,Lx,hx0,hat0,Jap,Jh];refine Jp (fun z:Nat × Hp=>⟨[(0,.yl p),(1,.ptr xi 0),(2,.ptr ai 0),(12,.vec (n.rules.map Jc) false),(13,.lit (.int .i64 (n.rules.length:Int))),(14,.lit (.int .i64 (z.1:Int)))],z.2,51⟩) (fun z=>z.1<=n.rules.length/\I z.1 z.2) (fun z=>n.rules.length - z.1) (0,H0) (Jk (by simp[lk]) (fun _ _ e=>e) (fun _ _ e=>e) rfl rfl) ⟨Nat.zero_le _,h0⟩ ?_;clear h0 hx0 ha0 W0 hW0 hl0 hat0;rintro⟨i,H⟩ ⟨hi,hI⟩;simp only at hi hI ⊢;refine Jj ?_;rcases Nat.lt_or_ge i n.rules.length with hlt | hge
 ·obtain⟨hxi,hai,W,hW,hl⟩:=hst _ _ hI;obtain⟨rr,hrr⟩:∃ rr,n.rules.getD i default=rr:=⟨_,rfl⟩;have hb1:∀ x,lk (H.boxes++x) xi=some [.ptr li 0]:=fun x=>by rw[JC,hxi];rfl
  have hb2:∀ x,lk (H.boxes++x) ai=some [.lit (.int .i64 (a:Int))]:=fun x=>by rw[JC,hai];rfl
  have hb3:∀ x,lk (H.boxes++x) li=some (Jap n o l md wi):=fun x=>by rw[JC,hl.at'];rfl
  have hn1:∀ c x,lk (H.boxes++(H.nx,c) :: x) H.nx=some c:=fun c x=>by rw[JC,hl.fb _ (Nat.le_refl _)];simp[lk]
  have hn2:∀ c d x,lk (H.boxes++(H.nx,c) :: (H.nx+1,d) :: x) (H.nx+1)=some d:=fun c d x=>by rw[JC,hl.fb _ (by omega)];simp[lk]
  have hu1:∀ c d,up (H.boxes++[(H.nx,c)]) H.nx d=H.boxes++[(H.nx,d)]:=fun c d=>JdU (hl.fb _ (Nat.le_refl _));have hu2:∀ c d e,up (H.boxes++[(H.nx,c),(H.nx+1,d)]) (H.nx+1) e=H.boxes++[(H.nx,c),(H.nx+1,e)]:=fun c d e=>by rw[JgY (hl.fb _ (by omega))];simp[up]
  have hmine:JgW n md i=(rr.lexer && (!rr.frag && decide (rr.mode=md))):=by unfold JgW;rw[hrr]
  have hpv:JdC n o l md k a i=if JgW n md i then (Jct rr.lz (eF n o l md k i a)).map fun y=>(i,y) else none:=by unfold JdC;rw[hrr]
  have skip:JgW n md i=false->∀ (sl:List (Nat × AV)) (c:List AV),lk sl 0=some (.yl p)->lk sl 1=some (.ptr xi 0)->lk sl 2=some (.ptr ai 0)->lk sl 12=some (.vec (n.rules.map Jc) false)->lk sl 13=some (.lit (.int .i64 (n.rules.length:Int)))->lk sl 14=some (.lit (.int .i64 ((i:Int)+1))) ->
    ∃ x':Nat × Hp,(x'.1<=n.rules.length/\I x'.1 x'.2)/\n.rules.length - x'.1<n.rules.length - i/\St.wk ⟨sl,⟨H.boxes++[(H.nx,c)],H.toks,H.nx+1⟩,51⟩ ⟨[(0,.yl p),(1,.ptr xi 0),(2,.ptr ai 0),(12,.vec (n.rules.map Jc) false),(13,.lit (.int .i64 (n.rules.length:Int))),(14,.lit (.int .i64 (x'.1:Int)))],x'.2,51⟩:=fun hm sl c e0 e1 e2 e3 e4 e5=>by
   have hI2:=hbx _ _ [(H.nx,c)] (H.nx+1) (hsk i H hlt hI (by rw[hpv,hm];rfl)) (Nat.le_succ _) (by simp);exact⟨(i+1,_),⟨by show i+1<=_;omega,hI2⟩,by show n.rules.length - (i+1)<_;omega,Jk (Jb e0 (Jb e1 (Jb e2 (Jb e3 (Jb e4 (Jb e5 Jl)))))) (fun _ _ e=>e) (fun _ _ e=>e) rfl rfl⟩
  simp -implicitDefEqProofs (disch:=omega) only[Wz,seval,Ly,Lx,hrr,hn1,hu1];refine Jx (n:=51) rfl (by decide) mixed ?_;have hii:(i:Int)+1=((i+1:Nat):Int):=rfl;cases hlx:rr.lexer with
  | false =>
   rw[hlx] at hmine;simp -implicitDefEqProofs (disch:=omega) only[Wz,seval,Ly,Lx,hn1,Jc,hlx,hb1,hb3,Jap,Jh];refine skip hmine _ _ rfl rfl rfl rfl rfl rfl
  | true =>
   cases hfr:rr.frag with
   | true =>
    rw[hlx,hfr] at hmine;simp -implicitDefEqProofs (disch:=omega) only[Wz,seval,Ly,Lx,hn1,Jc,hlx,hfr,hb1,hb3,Jap,Jh];refine skip hmine _ _ rfl rfl rfl rfl rfl rfl
   | false =>
    by_cases hmd:rr.mode=md;rotate_left
    ·rw[hlx,hfr,decide_eq_false hmd] at hmine;have hmb:(rr.mode==md)=false:=JjN hmd;simp -implicitDefEqProofs (disch:=omega) only[Wz,seval,Ly,Lx,hn1,Jc,hlx,hfr,hb1,hb3,Jap,Jh,hmb];refine skip hmine _ _ rfl rfl rfl rfl rfl rfl
    ·rw[hlx,hfr,decide_eq_true hmd] at hmine;have hmb:(rr.mode==md)=true:=Jgv hmd;have hm1:JgW n md i=true:=hmine;rw[hm1,if_pos rfl] at hpv;simp -implicitDefEqProofs (disch:=omega) only[Wz,seval,Ly,Lx,hn1,Jc,hlx,hfr,hb1,hb2,hb3,Jap,Jh,hmb];refine JE Jx0 (Jtp (JiK g i a hlt ha (he i hlt)) (Jb (.lit _) (Jb (.lit _) Jl)) (Jj4 _) _ li wi W hW (hb3 _) hl.tk hl.ne (by have:=hl.l1;show li<H.nx+1;omega) (by have:=hl.l2;show wi<H.nx+1;omega) hl.no) ?_;rintro r0 h' ⟨rfl,W2,hW2,rfl⟩;rw[hrr];obtain⟨b,hb⟩:∃ b,Jct rr.lz (eF n o l md k i a)=b:=⟨_,rfl⟩;rw[hb] at hpv ⊢;have hI2:∀ c d,I i ⟨H.boxes++[(H.nx,c),(H.nx+1,d)],up H.toks wi (J8 W2),H.nx+2⟩:=fun c d=>hbx i ⟨H.boxes,up H.toks wi (J8 W2),H.nx⟩ [(H.nx,c),(H.nx+1,d)] (H.nx+2) (hup _ _ _ hI hW2) (by show H.nx<=H.nx+2;omega) (by simp);cases b with
     | none =>
      have hI3:=fun c d=>hsk i _ hlt (hI2 c d) hpv
      simp -implicitDefEqProofs (disch:=omega) only[Wz,seval,Ly,Lx,JzB,Jm2,Option.isSome,List.append_assoc,hn2,hu2,JO];refine⟨(i+1,_),⟨by show i+1<=_;omega,hI3 _ _⟩,by show n.rules.length - (i+1)<_;omega,Jk (Jb rfl (Jb rfl (Jb rfl (Jb rfl (Jb rfl (Jb rfl Jl)))))) (fun _ _ e=>e) (fun _ _ e=>e) rfl rfl⟩
     | some y =>
      have hy:=fun c d=>hY i y _ hlt (hI2 c d) hpv
      simp -implicitDefEqProofs (disch:=omega) only[Wz,seval,Ly,Lx,JzB,Jm2,Option.isSome,List.append_assoc,hn2,hu2,JO];refine Je8 rfl rfl rfl ?_;refine(hy _ _).mono ?_;rintro r H' (⟨rfl,hI3⟩ | ⟨rfl,hz⟩)
      ·simp -implicitDefEqProofs (disch:=omega) only[Wz,seval,Ly,Lx];refine⟨(i+1,H'),⟨by show i+1<=_;omega,hI3⟩,by show n.rules.length - (i+1)<_;omega,Jk (Jb rfl (Jb rfl (Jb rfl (Jb rfl (Jb rfl (Jb rfl Jl)))))) (fun _ _ e=>e) (fun _ _ e=>e) rfl rfl⟩
      ·simp -implicitDefEqProofs (disch:=omega) only[Wz,seval,Ly,Lx];exact .inr hz
 ·have hie:i=n.rules.length:=by omega
  subst hie;simp -implicitDefEqProofs (disch:=omega) only[Wz,seval,Ly,Lx];exact .inl hI
end Go.Proofs.Y
end
section
namespace Go.Proofs.Y
open Go Go.Ab
def Jy2:Go.Shelf.Ren:=⟨fun | 32=>84 | 49=>106 | n=>n,fun | 30=>27 | 21=>21 | 33=>46 | 66=>211 | 25=>103 | 69=>214 | 68=>213 | n=>n,fun | 2=>0 | 3=>1 | n=>n⟩
theorem Jy3:Go.Proofs.Lays7.n32 Tryz.prog Jy2:={
 mixed:=by kernel_rfl
 f32:=Tryz.func84.trans (congrArg some (by kernel_rfl))
 f49:=Tryz.func106.trans (congrArg some (by kernel_rfl))
 t0:=Tryz.underlying0
 a0:=Tryz.isAgg0
 z0:=Tryz.sizeOf0
 v0:=Tryz.zeroValue0
 i0:=by kernel_rfl
 t3:=Tryz.underlying3
 a3:=Tryz.isAgg3
 z3:=Tryz.sizeOf3
 v3:=Tryz.zeroValue3
 i3:=by kernel_rfl
 t4:=Tryz.underlying4
 a4:=Tryz.isAgg4
 z4:=Tryz.sizeOf4
 v4:=Tryz.zeroValue4
 i4:=by kernel_rfl
 t5:=Tryz.underlying5
 a5:=Tryz.isAgg5
 z5:=Tryz.sizeOf5
 v5:=Tryz.zeroValue5
 i5:=by kernel_rfl
 t21:=Tryz.underlying21
 a21:=Tryz.isAgg21
 z21:=Tryz.sizeOf21
 v21:=Tryz.zeroValue21
 i21:=by kernel_rfl
 t25:=Tryz.underlying103
 a25:=Tryz.isAgg103
 z25:=Tryz.sizeOf103
 v25:=Tryz.zeroValue103
 i25:=by kernel_rfl
 t30:=Tryz.underlying27
 a30:=Tryz.isAgg27
 z30:=Tryz.sizeOf27
 v30:=Tryz.zeroValue27
 i30:=by kernel_rfl
 t33:=Tryz.underlying46
 a33:=Tryz.isAgg46
 z33:=Tryz.sizeOf46
 v33:=Tryz.zeroValue46
 i33:=by kernel_rfl
 t66:=Tryz.underlying211
 a66:=Tryz.isAgg211
 z66:=Tryz.sizeOf211
 t68:=Tryz.underlying213
 a68:=Tryz.isAgg213
 z68:=Tryz.sizeOf213
 v68:=Tryz.zeroValue213
 i68:=by kernel_rfl
 t69:=Tryz.underlying214
 a69:=Tryz.isAgg214
 z69:=Tryz.sizeOf214
 v69:=Tryz.zeroValue214
 i69:=by kernel_rfl
 g2:=by kernel_rfl
 g3:=by kernel_rfl}
def JzC (j:Nat):Nat:=if j % 2=0 then Lib.accLo (j / 2) else Lib.accHi (j / 2)
def JnA:List (Nat × List Value):=[(0,(List.range 256).map fun c=>.int .u8 (Lib.firstT c)),(1,(List.range 32).map fun j=>.int .u8 (JzC j))]
def JaO(x:UInt8):List AV:=[.lit (.int .u8 (x.toNat:Int))]
def ofB (l:List UInt8):ByteArray:=⟨l.toArray⟩
def inV (L:List (Nat × List Value))(l:List UInt8)(f:Bool):AV:=.wit L (.vec (l.map JaO) f)
def JdV(L:List (Nat × List Value))(l:List UInt8):Prop:=L=JnA\/∀ b∈l,b.toNat<128
theorem JdV.drop{L:List (Nat × List Value)}{l:List UInt8}(h:JdV L l)(i:Nat):JdV L (l.drop i):=h.imp id fun q b hb=>q b (List.mem_of_mem_drop hb)
theorem Jm4(x:UInt8):∀ c∈JaO x,Ab.Pure c:=Jau (by simp[JaO])
theorem JfB(x:UInt8):(JaO x).length=1:=rfl
theorem Ja4(l:List UInt8):(ofB l).size=l.length:=by simp[ofB,ByteArray.size]
theorem Jj5(l:List UInt8)(i:Nat):bt (ofB l) i=(l.getD i 0).toNat:=by
 unfold bt ofB;show (l.toArray[i]!).toNat=_;rw[List.getD_eq_getElem?_getD];simp[getElem!_def];cases l[i]? <;> rfl
theorem Jq0(l:List UInt8)(i:Nat)(h:i<=l.length):dcV (ofB (l.drop i)) 0=dcV (ofB l) i:=by
 unfold dcV;simp only[Ja4,Jj5,List.length_drop,List.getD_eq_getElem?_getD,List.getElem?_drop,Nat.sub_zero,Nat.zero_add,Nat.add_zero]
theorem Jtr{m:Nat->Nat->Option Value}{w:World}(hm:Jjm m w)(h:∀ p∈JnA,∀ (j:Nat) (c:Value),p.2[j]? = some c->m p.1 j=some c):Lib.Utf8Tabs 0 1 w:=by
 refine⟨fun c hc=>?_,fun i hi=>⟨?_,?_⟩⟩
 ·exact(hm _ _ _ (h _ (by unfold JnA;exact List.mem_cons_self) c (.int .u8 (Lib.firstT c)) (by simp[hc]))).1
 ·refine(hm _ _ _ (h _ (by unfold JnA;exact List.mem_cons_of_mem _ List.mem_cons_self) (2 * i) (.int .u8 (Lib.accLo i)) ?_)).1;rw[List.getElem?_map,List.getElem?_range (by omega)];simp[JzC]
 ·refine(hm _ _ _ (h _ (by unfold JnA;exact List.mem_cons_of_mem _ List.mem_cons_self) (2 * i+1) (.int .u8 (Lib.accHi i)) ?_)).1;rw[List.getElem?_map,List.getElem?_range (by omega)];have e1:(2 * i+1) % 2=1:=by omega
  have e2:(2 * i+1) / 2=i:=by omega
  simp[JzC,e1,e2]
theorem Jm5(l:List UInt8)(f:Bool)(hl:0<l.length):JR Tryz.prog 84 [inV JnA l f] (.tup [.lit (.int .i32 ((dcV (ofB l) 0).1:Int)),.lit (.int .i64 ((dcV (ofB l) 0).2:Int))]):=by
 intro m w vals hm hv;obtain⟨v0,rfl⟩:∃ v0,vals = #[v0]:=by
  have h:=hv.1;obtain⟨l⟩:=vals;match l,h with
  | [a],_=>exact⟨a,rfl⟩
 have r0:Rep (gm m) v0 (inV JnA l f):=hv.2 0 v0 _ rfl rfl;have tabs:=fun h=>Jtr (m:=m) hm h
 clear hv;unfold inV at r0;generalize JnA=L at r0 tabs;generalize hx:l.map JaO=xs at r0;cases r0 with
 | @wit _ ad nn cap _ h1 h2 =>
  have hT:=tabs h1;clear tabs h1;have hxl:xs.length=l.length:=by rw[<- hx,List.length_map]
  cases h2 with
  | vecN=>simp at hxl;omega
  | vecE _=>simp at hxl;omega
  | @vec b off _ s _ _ F q1 q2 q3 q4 q5 =>
   have hs:s=1:=by
    have:JaO (l.getD 0 0)∈xs:=by
     rw[<- hx,List.mem_map];exact⟨_,Ju (T:=UInt8) (i:=0) hl,rfl⟩
    rw[<- q1 _ this];rfl
   subst hs;have hp:∀ j,j<(ofB l).size->w.cell? ⟨b,off+j,none⟩=some (.int .u8 ((ofB l).get! j).toNat):=fun j hj=>by
    rw[Ja4] at hj;have e0:xs[j]? = some (JaO (l.getD j 0)):=by rw[<- hx];exact Jr7 (T:=UInt8) hj
    have e1:=q4 j _ 0 _ e0 rfl;have e2:=q5 j _ 0 _ e0 rfl;have e3:=(hm _ _ _ e1).1;simp only[Nat.mul_one,Nat.add_zero] at e3;have hbj:=Jj5 l j;unfold bt at hbj;rw[e3,hbj];generalize F j 0=v at e2;cases e2;rfl
   have key:=Any7.utf8_DecodeRune Jy3 (ofB l) b off cap w hT hp;rw[Ja4,<- hxl] at key;refine key.mono fun e w' hh=>?_
   obtain⟨rfl,hb⟩:=hh;have hd:Lib.decodeGo (ofB l)=dcV (ofB l) 0:=by
    unfold Lib.decodeGo;rw[if_neg (by rw[Ja4];omega),Lib.decode_at];rfl
   rw[hd];refine⟨_,m,rfl,.tup rfl (fun i c a e1 e2=>?_),fun b' o v q=>?_,⟨hb.os,hb.tape,hb.output,fun q=>q.elim,hb.size,fun b' hb' _=>hb.block b' hb',fun b' r q=>⟨r,?_⟩⟩,fun _ _ _ q=>q,fun _ _ _ q=>.inl q⟩
   ·match i,e1,e2 with
    | 0,e1,e2=>simp at e1 e2;subst e1;subst e2;exact .lit rfl
    | 1,e1,e2=>simp at e1 e2;subst e1;subst e2;exact .lit rfl
    | i+2,e1,e2=>simp at e1
   ·obtain⟨z1,z2⟩:=hm b' o v q;have hlt:b'<w.heap.size:=World.block_lt_of_cell? w ⟨b',o,none⟩ z1;exact⟨(World.cell?_of_block (hb.block b' hlt)).trans z1,z2⟩
   ·exact(hb.block b' (Jaq q)).trans q
theorem Jm6(L:List (Nat × List Value))(l:List UInt8)(f:Bool)(hl:0<l.length)(ha:∀ b∈l,b.toNat<128)(hn:l.length<=1000000000):JR Tryz.prog 84 [inV L l f] (.tup [.lit (.int .i32 ((dcV (ofB l) 0).1:Int)),.lit (.int .i64 ((dcV (ofB l) 0).2:Int))]):=by
 have h0:bt (ofB l) 0=(l.getD 0 default).toNat:=Jj5 l 0;have h1:(l.getD 0 default).toNat<128:=ha _ (Ju hl);have hd:dcV (ofB l) 0=((l.getD 0 default).toNat,1):=by
  unfold dcV Lib.decodeN;rw[if_pos (by rw[h0];exact h1),h0]
 rw[hd];obtain⟨x,hx⟩:∃ x,(l.getD 0 default).toNat=x:=⟨_,rfl⟩;have hb0:JaO (l.getD 0 default)=[.lit (.int .u8 (x:Int))]:=by unfold JaO;rw[hx]
 rw[hx] at h1 ⊢;refine JG (Jq Tryz.func84 rfl Tryz.ntmps84 (rs:=[.tmp 2,.tmp 3]) rfl (by simp) ?_);refine Jj ?_;have hw:IntKind.i32.wrap (x:Int)=(x:Int):=IntWalk.i32_in _ ⟨by omega,by omega⟩;simp -implicitDefEqProofs (disch:=omega) only[Wz,seval,inV];refine Jp (A:=Unit) (fun _=>⟨[(8,.lit (.int .i64 0)),(7,.lit (.int .i64 (l.length:Int))),(6,.wit L (.vec (l.map JaO) f))],⟨[],[],0⟩,22⟩) (fun _=>True) (fun _=>0) () (Jk (by simp[lk]) (fun _ _ e=>e) (fun _ _ e=>e) rfl rfl) trivial ?_;rintro _ _;refine Jj ?_;simp -implicitDefEqProofs (disch:=omega) only[Wz,seval,hb0,hw];exact JI (Jf (Ja (.lit _)) (Jf (Ja (.lit _)) Jw))
theorem Jlh(L:List (Nat × List Value))(l:List UInt8)(f:Bool)(hL:JdV L l)(hl:0<l.length)(hn:l.length<=1000000000):JR Tryz.prog 84 [inV L l f] (.tup [.lit (.int .i32 ((dcV (ofB l) 0).1:Int)),.lit (.int .i64 ((dcV (ofB l) 0).2:Int))]):=by
 rcases hL with rfl | ha
 ·exact Jm5 l f hl
 ·exact Jm6 L l f hl ha hn
end Go.Proofs.Y
end
section
namespace Go.Proofs.Y
open Go Go.Ab
theorem JaC(L:List (Nat × List Value))(l:List UInt8)(f:Bool):Ab.Pure (inV L l f):=fun g g' u hm hr=>by
 unfold inV at hr ⊢;cases hr with
 | wit h1 h2=>exact .wit (fun p hp j c e=>hm _ _ _ (h1 p hp j c e)) (Ab.Pure.vec (Ji Jm4 l) g g' _ hm h2)
theorem Jm7{T:Type}{f:T->List AV}{s:Nat}(hf:∀ x,(f x).length=s)(l:List T)(b:Bool){i:Nat}(hi:i<=l.length):Jfk s (l.map f) b (some (i:Int)) none none=some (.vec ((l.drop i).map f) b):=by
 unfold Jfk;simp only[Option.getD_none,Option.getD_some,List.length_map,Jdw,decide_true,Bool.and_true,Option.isSome_none];rw[if_pos ⟨by omega,by omega,by omega,by omega,fun q=>q,fun x hx=>(by obtain⟨y,_,rfl⟩:=List.mem_map.1 hx;exact hf y)⟩];rw[List.map_drop,Int.toNat_natCast,Int.toNat_natCast,List.take_of_length_le (by simp)]
theorem Jts(L:List (Nat × List Value))(l:List UInt8)(f:Bool)(hL:JdV L l)(i:Nat)(hi:i<l.length)(hl:l.length<=1000000000):JR Tryz.prog 64 [inV L l f,.lit (.int .i64 (i:Int))] (.tup [.lit (.int .i32 ((uV (ofB l) i).1:Int)),.lit (.int .i64 ((uV (ofB l) i).2:Int))]):=by
 refine Jn Tryz.func64 rfl Tryz.ntmps64 (rs:=[.tmp 4,.tmp 5]) rfl (by simp) ?_;have hd:=Jlh L (l.drop i) f (hL.drop i) (by rw[List.length_drop];omega) (by rw[List.length_drop];omega);rw[Jq0 l i (by omega)] at hd;have hok:=Jsb (s:=ofB l) (i:=i) (by rw[Ja4];exact hi);have hsl:=Jm7 JfB l f (Nat.le_of_lt hi);have hbt:bt (ofB l) i=(l.getD i default).toNat:=Jj5 l i;have hblt:=Jev (ofB l) i;have hmq:(l.map JaO)[i]? = some (JaO (l.getD i default)):=Jr7 (T:=UInt8) hi;obtain⟨x,k,hxk⟩:∃ x k,dcV (ofB l) i=(x,k):=⟨_,_,rfl⟩;have huv:uV (ofB l) i=if x=65533/\k<=1 then (1114112+bt (ofB l) i,1) else (x,k):=by unfold uV;rw[hxk]
 rw[hxk] at hd hok;simp only at hd hok;simp -implicitDefEqProofs (disch:=omega) only[Wz,seval,inV,hsl,JfB,Option.map_some];refine Je Jyq hd (Jb (JaC L _ f) Jl) (.tup (Jb (.lit _) (Jb (.lit _) Jl))) ?_;have w1:IntKind.i32.wrap (bt (ofB l) i:Int)=(bt (ofB l) i:Int):=IntWalk.i32_in _ ⟨by omega,by omega⟩;have w2:IntKind.i32.wrap (1114112+(bt (ofB l) i:Int))=1114112+(bt (ofB l) i:Int):=IntWalk.i32_in _ ⟨by omega,by omega⟩;by_cases h1:x=65533
 ·by_cases h2:k<=1
  ·rw[if_pos ⟨h1,h2⟩] at huv;rw[huv];simp -implicitDefEqProofs (disch:=omega) only[Wz,seval,JaO,hmq,<- hbt,w1,w2];exact JI (Jf (Ja (.lit _)) (Jf (Ja (.lit _)) Jw))
  ·rw[if_neg (fun q=>h2 q.2)] at huv;rw[huv];simp -implicitDefEqProofs (disch:=omega) only[Wz,seval];exact JI (Jf (Ja (.lit _)) (Jf (Ja (.lit _)) Jw))
 ·rw[if_neg (fun q=>h1 q.1)] at huv;rw[huv];simp -implicitDefEqProofs (disch:=omega) only[Wz,seval];exact JI (Jf (Ja (.lit _)) (Jf (Ja (.lit _)) Jw))
def unV (q:Bool)(X:List Un):AV:=if q then .own 0 X.length else .vec [] true
def unT (q:Bool)(X:List Un):List (Nat × Tk):=if q then [(0,⟨X.map JeT,0,3⟩)] else []
theorem Jq1(L:List (Nat × List Value))(l:List UInt8)(f:Bool)(hL:JdV L l)(hl:l.length<=1000):JR Tryz.prog 41 [inV L l f] (.vec ((JaX (ofB l)).map JeT) false):=by
 refine JG (Jq Tryz.func41 rfl Tryz.ntmps41 (rs:=[.tmp 2]) rfl (by simp) ?_);have hsz:=Ja4 l;have hatA:=fun p hp=>Jts L l f hL p hp (by omega)
 have hpure:=JaC L l f;unfold inV at hatA hpure ⊢;obtain⟨s,hs⟩:∃ s,ofB l=s:=⟨_,rfl⟩;rw[hs] at hsz hatA ⊢;obtain⟨SS,hSS⟩:∃ SS:Nat × Nat × Bool × List Un->St,∀ p c q X,SS (p,c,q,X)=⟨[(0,.wit L (.vec (l.map JaO) f)),(2,unV q X),(3,.lit (.int .i64 (c:Int))),(4,.lit (.int .i64 (p:Int)))],⟨[],unT q X,if q then 1 else 0⟩,38⟩:=⟨fun z=>⟨[(0,.wit L (.vec (l.map JaO) f)),(2,unV z.2.2.1 z.2.2.2),(3,.lit (.int .i64 (z.2.1:Int))),(4,.lit (.int .i64 (z.1:Int)))],⟨[],unT z.2.2.1 z.2.2.2,if z.2.2.1 then 1 else 0⟩,38⟩,fun _ _ _ _=>rfl⟩;obtain⟨Iv,hIv⟩:∃ Iv:Nat × Nat × Bool × List Un->Prop,∀ p c q X,Iv (p,c,q,X)↔(p<=l.length/\c<=p/\X.length<=p/\(q=false->X=[])/\∃ k,s.size - p<=k/\X++Jew k s p c=JaX s):=⟨fun z=>z.1<=l.length/\z.2.1<=z.1/\z.2.2.2.length<=z.1/\(z.2.2.1=false->z.2.2.2=[])/\∃ k,s.size - z.1<=k/\z.2.2.2++Jew k s z.1 z.2.1=JaX s,fun _ _ _ _=>Iff.rfl⟩;refine Jj ?_;simp -implicitDefEqProofs (disch:=omega) only[Wz,seval];refine Jp SS Iv (fun z=>l.length - z.1) (0,0,false,[]) (by rw[hSS];exact Jk (by simp[lk,unV]) (fun _ _ e=>e) (fun _ _ e=>e) rfl rfl) ((hIv _ _ _ _).2 ⟨Nat.zero_le _,Nat.le_refl _,Nat.le_refl _,fun _=>rfl,s.size,by omega,rfl⟩) ?_;rintro⟨p,c,q,X⟩ hIx;obtain⟨hp,hc,hX,hq,k,hk,hcut⟩:=(hIv _ _ _ _).1 hIx;rw[hSS];refine Jj ?_;rcases Nat.lt_or_ge p l.length with hlt | hge
 ·have hat:=hatA p hlt;have hu:=JqR (s:=s) (i:=p) (by rw[hsz];exact hlt);obtain⟨k,rfl⟩:∃ k',k=k'+1:=⟨k - 1,by omega⟩;rw[Jew,if_pos (by omega)] at hcut;obtain⟨x,m,hxm⟩:∃ x m,uV s p=(x,m):=⟨_,_,rfl⟩;rw[hxm] at hat hu hcut;simp only at hat hu hcut;have hf0:Ja7 1 24=True:=eq_true (JN (by decide) (by decide));have hf1:Ja7 (X.length+1) 24=True:=eq_true (JN (by omega) (by omega));simp -implicitDefEqProofs (disch:=omega) only[Wz,seval];refine Je Jyd hat (Jb hpure (Jb (.lit _) Jl)) (.tup (Jb (.lit _) (Jb (.lit _) Jl))) ?_;have fin:∀ c':Nat,c'<=p+1->(c'=if x=10 then 0 else c+1)->∀ (sl:List (Nat × AV)) (T:List (Nat × Tk)),lk sl 0=some (.wit L (.vec (l.map JaO) f))->lk sl 2=some (.own 0 (X.length+1))->lk sl 3=some (.lit (.int .i64 (c':Int)))->lk sl 4=some (.lit (.int .i64 ((p+m:Nat):Int)))->T=[(0,⟨X.map JeT++[JeT ⟨x,p,c⟩],0,3⟩)] ->
    ∃ x':Nat × Nat × Bool × List Un,Iv x'/\l.length - x'.1<l.length - p/\St.wk ⟨sl,⟨[],T,1⟩,38⟩ (SS x'):=fun c' h1 h2 sl T e0 e2 e3 e4 hT=>by
   refine⟨(p+m,c',true,X++[⟨x,p,c⟩]),(hIv _ _ _ _).2 ⟨by omega,by omega,by simp;omega,fun q=>(by cases q),k,by omega,?_⟩,by show l.length - (p+m)<_;omega,?_⟩
   ·rw[h2,List.append_assoc];exact hcut
   ·subst hT;rw[hSS];exact Jk (Jb e0 (Jb (by rw[e2];simp[unV]) (Jb e3 (Jb e4 Jl)))) (fun _ _ e=>e) (fun _ _ e=>by simpa [unT] using e) rfl rfl
  have hwc:IntKind.i64.wrap ((c:Int)+1)=((c+1:Nat):Int):=Jdy (by omega) (by omega);have hwp:IntKind.i64.wrap ((p:Int)+(m:Int))=((p+m:Nat):Int):=by rw[<- Int.natCast_add];exact Jdy (by omega) (by omega)
  have go:∀ c':Nat,∀ bx:Bool,((x:Int)==10)=bx->(c'=if bx then 0 else c+1)->c'<=p+1/\(c'=if x=10 then 0 else c+1):=fun c' bx h1 h2=>by
   subst h1;by_cases hx:x=10
   ·rw[if_pos (by rw[Jgv (by omega)])] at h2;exact⟨by omega,by rw[if_pos hx];exact h2⟩
   ·rw[if_neg (by rw[JjN (by omega)];decide)] at h2;exact⟨by omega,by rw[if_neg hx];exact h2⟩
  cases hxb:((x:Int)==10) with
  | false =>
   obtain⟨g1,g2⟩:=go (c+1) false hxb rfl;have fin:=fin (c+1) g1 g2;clear go g2;cases q with
   | false =>
    have:=hq rfl;subst this;simp -implicitDefEqProofs (disch:=omega) only[Wz,seval,unV,unT,Ji8,JqV,hf0,true_and,if_true,hwc,hwp,hxb];exact fin _ _ rfl rfl rfl rfl (by simp[JeT])
   | true =>
    simp -implicitDefEqProofs (disch:=omega) only[Wz,seval,unV,unT,Ji8,hf1,true_and,if_true,hwc,hwp,hxb];exact fin _ _ rfl rfl rfl rfl (by simp[JeT])
  | true =>
   obtain⟨g1,g2⟩:=go 0 true hxb rfl;have fin:=fin 0 g1 g2;clear go g2;cases q with
   | false =>
    have:=hq rfl;subst this;simp -implicitDefEqProofs (disch:=omega) only[Wz,seval,unV,unT,Ji8,JqV,hf0,true_and,if_true,hwc,hwp,hxb];exact fin _ _ rfl rfl rfl rfl (by simp[JeT])
   | true =>
    simp -implicitDefEqProofs (disch:=omega) only[Wz,seval,unV,unT,Ji8,hf1,true_and,if_true,hwc,hwp,hxb];exact fin _ _ rfl rfl rfl rfl (by simp[JeT])
 ·have hcl:JaX s=X++[⟨-1,s.size,c⟩]:=by
   rw[<- hcut];cases k with
   | zero=>rfl
   | succ k=>rw[Jew,if_neg (by omega)]
  rw[hcl,hsz];have hf0:Ja7 1 24=True:=eq_true (JN (by decide) (by decide));have hf1:Ja7 (X.length+1) 24=True:=eq_true (JN (by omega) (by omega));cases q with
  | false =>
   have:=hq rfl;subst this;simp -implicitDefEqProofs (disch:=omega) only[Wz,seval,unV,unT,Ji8,JqV,hf0,true_and,if_true];have hpu:=JbY ⟨-1,l.length,c⟩;unfold JeT at hpu ⊢;exact Jbf (k:=⟨_,0,3⟩) rfl rfl (Jb hpu Jl)
  | true =>
   simp -implicitDefEqProofs (disch:=omega) only[Wz,seval,unV,unT,Ji8,hf1,true_and,if_true];rw[List.map_append];have hpu:=JbY ⟨-1,l.length,c⟩;have hpx:=Ji JbY X;simp only[List.map_cons,List.map_nil];unfold JeT at hpu;show JcV _ _ (.vec (X.map JeT++[[.lit (.int .i32 (-1)),.lit (.int .i64 (l.length:Int)),.lit (.int .i64 (c:Int))]]) false);refine Jbf (n:=X.length+1) (t:=0) (k:=⟨X.map JeT++[[.lit (.int .i32 (-1)),.lit (.int .i64 (l.length:Int)),.lit (.int .i64 (c:Int))]],0,3⟩) ?_ (by simp) (fun x hx=>?_)
   ·rfl
   rcases List.mem_append.1 hx with hx | hx
   ·exact hpx x hx
   ·rw[List.mem_singleton] at hx;subst hx;exact hpu
end Go.Proofs.Y
end
section
namespace Go.Proofs.Y
open Go Go.Ab
def Jq2 (u:Un)(at':Int):Int:=IntKind.i64.wrap ((u.pos:Int) - at')
theorem JhM(u:Un)(at':Int):JR Tryz.prog 43 [.agg (JeT u),.lit (.int .i64 at')] (.lit (.int .i64 (Jq2 u at'))):=by
 refine Jn Tryz.func43 rfl Tryz.ntmps43 (rs:=[.tmp 4]) rfl (by simp) ?_;simp -implicitDefEqProofs (disch:=omega) only[Wz,seval,Ly,Lx,JeT];exact Ja (.lit _)
theorem Jtt{i j:Nat}(h:i<j):i<=(i+j) / 2/\(i+j) / 2<j:=by omega
theorem Jtu(l:List Un)(at':Int)(hr:(l.map (·.pos)).Pairwise (· < ·))(hl:l.length<=1000000)(hp:∀ u∈l,u.pos<=1000000)(ha : -9223372036854775808<=at'/\at'<=9223372036854775807) :
  JU Tryz.prog 42 [.vec (l.map JeT) false,.lit (.int .i64 at'),.fn (.func 43) [] []] .none fun r h'=>h' = .none/\∃ i:Nat,i<=l.length/\∃ ok:Bool,r = .tup [.lit (.int .i64 (i:Int)),.lit (.bool ok)]/\(ok=true->i<l.length/\((l.getD i default).pos:Int)=at')/\(ok=false->∀ u∈l,(u.pos:Int)≠at'):=by
 refine Jq Tryz.func42 rfl Tryz.ntmps42 (rs:=[.tmp 6,.tmp 7]) rfl (by simp) ?_;have hposD:∀ i,i<l.length->(l.getD i default).pos<=1000000:=fun i hi=>hp _ (Ju hi);have hmono:∀ a b,a<b->b<l.length->(l.getD a default).pos<(l.getD b default).pos:=fun a b hab hb=>by
  have:=List.pairwise_iff_getElem.1 hr a b (by simp;omega) (by simpa using hb) hab;rw[List.getElem_map,List.getElem_map] at this;rw[List.getD_eq_getElem?_getD,List.getD_eq_getElem?_getD,List.getElem?_eq_getElem (by omega),List.getElem?_eq_getElem hb];exact this
 have hcmp:∀ i,i<l.length->0<=at'->Jq2 (l.getD i default) at'=((l.getD i default).pos:Int) - at':=fun i hi h0=>by
  have:=hposD i hi;unfold Jq2;exact Jdy (by omega) (by omega)
 have hcmp0:∀ i,i<l.length->at'<0->Jq2 (l.getD i default) at'≠0:=fun i hi h0=>by
  have:=hposD i hi;unfold Jq2;intro e;have h1:IntKind.i64.wrap (((l.getD i default).pos:Int) - at')=0:=e;by_cases h2:((l.getD i default).pos:Int) - at'<=9223372036854775807
  ·rw[Jdy (by omega) h2] at h1;omega
  ·have h3:IntKind.i64.wrap (((l.getD i default).pos:Int) - at')=((l.getD i default).pos:Int) - at' - 18446744073709551616:=by
    rw[IntKind.wrap_i64];omega
   rw[h3] at h1;omega
 refine Jj ?_;simp -implicitDefEqProofs (disch:=omega) only[Wz,seval,Ly,Lx];refine Jp (fun(z:Nat × Nat)=>⟨[(0,.vec (l.map JeT) false),(1,.lit (.int .i64 at')),(2,.fn (.func 43) [] []),(8,.lit (.int .i64 (l.length:Int))),(9,.lit (.int .i64 (z.1:Int))),(10,.lit (.int .i64 (z.2:Int)))],.none,49⟩)
  (fun z=>z.1<=z.2/\z.2<=l.length/\(0<=at'->(∀ q,q<z.1->((l.getD q default).pos:Int)<at')/\∀ q,z.2<=q->q<l.length->at'<=((l.getD q default).pos:Int))) (fun z=>z.2 - z.1) (0,l.length) (Jk (by simp[lk]) (fun _ _ e=>e) (fun _ _ e=>e) rfl rfl) ⟨Nat.zero_le _,Nat.le_refl _,fun _=>⟨fun q hq=>absurd hq (Nat.not_lt_zero _),fun q h1 h2=>by have h1:l.length<=q:=h1;omega⟩⟩ ?_
 rintro⟨i,j⟩ ⟨hij,hj,hinv⟩;simp only at hij hj hinv ⊢;refine Jj ?_;rcases Nat.lt_or_ge i j with hlt | hge
 ·obtain⟨h,hh⟩:∃ h,(i+j) / 2=h:=⟨_,rfl⟩;obtain⟨hb1,hb2⟩:=Jtt hlt;rw[hh] at hb1 hb2;have e1:IntKind.i64.wrap ((i:Int)+(j:Int))=((i+j:Nat):Int):=by rw[<- Int.natCast_add];exact Jdy (by omega) (by omega)
  have e2:IntKind.u64.wrap ((i+j:Nat):Int)=((i+j:Nat):Int):=JyK (by unfold W64;omega);have e3:((i+j:Nat):Int).fdiv (2 ^ min 1 IntKind.u64.bits)=(h:Int):=by
   have:min 1 IntKind.u64.bits=1:=by decide
   rw[this,JlX,<- hh]
  have e4:IntKind.i64.wrap (h:Int)=(h:Int):=Jdy (by omega) (by omega);obtain⟨u,hu⟩:∃ u,l.getD h default=u:=⟨_,rfl⟩;have hmon:=fun q (hq:q<l.length)=>hmono q
  simp -implicitDefEqProofs (disch:=omega) only[Wz,seval,Ly,Lx,e1,e2,e3,e4,hu];refine Je JrX (JhM u at') (Jb (.agg (JbY u)) (Jb (.lit _) Jl)) (.lit _) ?_;by_cases hc:Jq2 u at'<0
  ·have hw:IntKind.i64.wrap ((h:Int)+1)=((h+1:Nat):Int):=Jdy (by omega) (by omega);simp -implicitDefEqProofs (disch:=omega) only[Wz,seval,Ly,Lx,hw];refine⟨(h+1,j),⟨by show h+1<=j;omega,hj,fun h0=>⟨fun q hq=>?_,(hinv h0).2⟩⟩,by show j - (h+1)<_;omega,Jk (by simp[lk]) (fun _ _ e=>e) (fun _ _ e=>e) rfl rfl⟩;have hq:q<h+1:=hq;have h1:=hcmp h (by omega) h0;rw[hu] at h1;rcases Nat.lt_or_ge q h with h2 | h2
   ·have:=hmono q h h2 (by omega);rw[hu] at this;omega
   ·have:q=h:=by omega
    subst this;rw[hu];omega
  ·simp -implicitDefEqProofs (disch:=omega) only[Wz,seval,Ly,Lx];refine⟨(i,h),⟨by show i<=h;omega,by show h<=_;omega,fun h0=>⟨(hinv h0).1,fun q hq hql=>?_⟩⟩,by show h - i<_;omega,Jk (by simp[lk]) (fun _ _ e=>e) (fun _ _ e=>e) rfl rfl⟩;have hq:h<=q:=hq;have h1:=hcmp h (by omega) h0;rw[hu] at h1;rcases Nat.eq_or_lt_of_le hq with h2 | h2
   ·subst h2;rw[hu];omega
   ·have:=hmono h q h2 hql;rw[hu] at this;omega
 ·have hije:i=j:=by omega
  subst hije;have none0:(¬ (i<l.length/\((l.getD i default).pos:Int)=at'))->∀ u∈l,(u.pos:Int)≠at':=fun hn u hul e=>by
   obtain⟨q,hq,rfl⟩:=Jit hul;have h0:0<=at':=by omega
   obtain⟨i1,i2⟩:=hinv h0;rcases Nat.lt_trichotomy q i with h1 | h1 | h1
   ·have:=i1 q h1;omega
   ·subst h1;exact hn ⟨hq,e⟩
   ·have h2:=i2 i (Nat.le_refl _) (by omega);have:=hmono i q h1 hq;omega
  rcases Nat.lt_or_ge i l.length with hil | hil
  ·obtain⟨u,hu⟩:∃ u,l.getD i default=u:=⟨_,rfl⟩;simp -implicitDefEqProofs (disch:=omega) only[Wz,seval,Ly,Lx,hu];refine Je JrX (JhM u at') (Jb (.agg (JbY u)) (Jb (.lit _) Jl)) (.lit _) ?_;have hup:=hposD i hil;rw[hu] at hup none0;cases hcb:(Jq2 u at'==0) with
   | true =>
    have hc0:Jq2 u at'=0:=by simpa using hcb
    have hpu:(u.pos:Int)=at':=by
     rcases(show at'<0\/0<=at' by omega) with h0 | h0
     ·have:=hcmp0 i hil h0;rw[hu] at this;exact absurd hc0 this
     ·have:=hcmp i hil h0;rw[hu] at this;omega
    simp -implicitDefEqProofs (disch:=omega) only[Wz,seval,Ly,Lx,hcb];exact⟨i,hj,true,rfl,fun _=>⟨hil,by rw[hu];exact hpu⟩,fun q=>by cases q⟩
   | false =>
    have hc0:¬ Jq2 u at'=0:=by simpa using hcb
    simp -implicitDefEqProofs (disch:=omega) only[Wz,seval,Ly,Lx,hcb];refine⟨i,hj,false,rfl,fun q=>(by cases q),fun _=>none0 fun⟨_,q⟩=>hc0 ?_⟩;have h0:0<=at':=by omega
    have:=hcmp i hil h0;rw[hu] at this;omega
  ·simp -implicitDefEqProofs (disch:=omega) only[Wz,seval,Ly,Lx];exact⟨i,hj,false,rfl,fun q=>(by cases q),fun _=>none0 fun⟨q,_⟩=>by omega⟩
end Go.Proofs.Y
end
section
namespace Go.Proofs.Y
open Go Go.Ab
theorem JzY(l:List Un)(at':Int)(hr:(l.map (·.pos)).Pairwise (· < ·))(hl:l.length<=1000000)(hp:∀ u∈l,u.pos<=1000000)(ha : -9223372036854775808<=at'/\at'<=9223372036854775807)(H:Hp) :
  JU Tryz.prog 42 [.vec (l.map JeT) false,.lit (.int .i64 at'),.fn (.func 43) [] []] H fun r h'=>h'=H/\∃ i:Nat,i<=l.length/\∃ ok:Bool,r = .tup [.lit (.int .i64 (i:Int)),.lit (.bool ok)]/\(ok=true->i<l.length/\((l.getD i default).pos:Int)=at')/\(ok=false->∀ u∈l,(u.pos:Int)≠at'):=by
 refine JU.sub (hs:=.none) id (fun i j hi=>absurd hi (Nat.not_lt_zero _)) (fun i hi=>absurd hi (Nat.not_lt_zero _)) (.cons (.pure (.vec (Ji JbY l))) (.cons (.pure (.lit _)) (.cons (.fn .nil .nil) .nil))) Jl Jl (Jtu l at' hr hl hp ha) ?_;rintro r h' ⟨rfl,i,hi,ok,rfl,h1,h2⟩ _;exact⟨_,H,0,Nat.le_refl _,rfl,.pure (.tup (Jb (.lit _) (Jb (.lit _) Jl))),fun j c e=>.inr ⟨e,fun q c' e'=>by cases e'⟩,fun j c e=>.inr ⟨e,fun q hq=>absurd hq (Nat.not_lt_zero _)⟩,rfl,i,hi,ok,rfl,h1,h2⟩
structure Jm8 (n:Nt) (o:List Orc) (x:List UInt8) (at' md:Int):Prop where
 ok:JcL n
 len:x.length<=999
 o:o.length<=1000000000
 at' : -9223372036854775808<=at'/\at'<=9223372036854775807
 md : -9223372036854775808<=md/\md<=9223372036854775807
theorem Jcu{x:List UInt8}(hx:x.length<=999):(JaX (ofB x)).length<=1000/\∀ u∈JaX (ofB x),u.pos<=999:=by
 have h1:=JiE (ofB x);have h2:=Jti (ofB x);rw[Ja4] at h1 h2;exact⟨by omega,fun u hu=>by have:=h2 u hu;omega⟩
theorem JgZ(L:List (Nat × List Value))(n:Nt)(o:List Orc)(x:List UInt8)(f:Bool)(hL:JdV L x)(at' md:Int)(g:Jm8 n o x at' md)(H:Hp)(hf:∀ i,H.nx<=i->lk H.boxes i=none) :
  JU Tryz.prog 21 [.agg (Jh n),inV L x f,.vec (o.map Jb9) false,.lit (.int .i64 at'),.lit (.int .i64 md)] H fun r h' =>
   (okV n=true/\(0<=md/\md<(n.modes.length:Int))/\∃ i:Nat,i<(JaX (ofB x)).length/\(((JaX (ofB x)).getD i default).pos:Int)=at'/\r = .tup [.ptr (H.nx+2) 0,.lit (.int .i64 (i:Int)),.lit (.int .i64 0)] /\
    h'=⟨H.boxes++[(H.nx,Jh n),(H.nx+2,Jap n o (JaX (ofB x)) md (H.nx+1))],H.toks++[(H.nx+1,J8 [])],H.nx+3⟩) \/
   ((okV n=true->¬ ((0<=md/\md<(n.modes.length:Int))/\∃ u∈JaX (ofB x),(u.pos:Int)=at'))/\r = .tup [.lit (.pointer none),.lit (.int .i64 0),.lit (.int .i64 (if okV n then 2 else 110))]/\h'=⟨H.boxes++[(H.nx,Jh n)],H.toks,H.nx+1⟩):=by
 refine Jq Tryz.func21 rfl Tryz.ntmps21 (rs:=[.tmp 10,.tmp 11,.tmp 12]) rfl (by simp) ?_;have hn1:∀ c x,lk (H.boxes++(H.nx,c) :: x) H.nx=some c:=fun c x=>by rw[JC,hf _ (Nat.le_refl _)];simp[lk]
 have hcut:=Jq1 L x f hL (by have:=g.len;omega);have hpx:=JaC L x f;have hrise:=Jcr (ofB x);obtain⟨hlen,hpos⟩:=Jcu g.len;obtain⟨l,hl⟩:∃ l,JaX (ofB x)=l:=⟨_,rfl⟩;rw[hl] at hcut hrise hlen hpos ⊢;have hbs:=JzY l at' hrise (by omega) (fun u hu=>by have:=hpos u hu;omega) g.at';have hmd:=g.md;have hmo:=g.ok.modes;unfold inV at hcut hpx ⊢;refine Jj ?_;simp -implicitDefEqProofs (disch:=omega) only[Wz,seval,Ly,Lx,hn1,J6,Jay];refine JV JxX (JmX n g.ok) (Jb (.of_pure (.agg (Jab n))) Jl) (.lit _) ?_;cases hok:okV n with
 | false =>
  simp -implicitDefEqProofs (disch:=omega) only[Wz,seval,Ly,Lx,if_false,Bool.false_eq_true];exact .inr (fun q=>(by cases q))
 | true =>
  simp -implicitDefEqProofs (disch:=omega) only[Wz,seval,Ly,Lx,if_true];refine Je JxY hcut (Jb hpx Jl) (.vec (Ji JbY l)) ?_;simp -implicitDefEqProofs (disch:=omega) only[Wz,seval,Ly,Lx];refine JE JxZ (hbs _) ?_;rintro r0 h' ⟨rfl,i,hi,ok,rfl,h1,h2⟩;cases ok with
  | false =>
   simp -implicitDefEqProofs (disch:=omega) only[Wz,seval,Ly,Lx,hn1];exact .inr (fun _ q=>by obtain⟨_,u,hu,e⟩:=q;exact h2 rfl u hu e)
  | true =>
   obtain⟨h3,h4⟩:=h1 rfl;by_cases hm0:md<0
   ·simp -implicitDefEqProofs (disch:=omega) only[Wz,seval,Ly,Lx,hn1];exact .inr (fun _ q=>by have:=q.1;omega)
   by_cases hm1:md<(n.modes.length:Int)
   ·simp -implicitDefEqProofs (disch:=omega) only[Wz,seval,Ly,Lx,hn1,Jh];refine .inl ⟨⟨by omega,hm1⟩,i,h3,h4,rfl,?_⟩;rw[List.append_assoc];rfl
   ·simp -implicitDefEqProofs (disch:=omega) only[Wz,seval,Ly,Lx,hn1,Jh];exact .inr (fun _ q=>by have:=q.1;omega)
end Go.Proofs.Y
end
section
namespace Go.Proofs.Y
open Go Go.Ab
theorem Jj6:JR Tryz.prog 23 [.vec [] false] (.vec [] false):=by
 refine Jn Tryz.func23 rfl Tryz.ntmps23 (rs:=[.tmp 2]) rfl (by simp) ?_;have hf0:Ja7 0 16:=by decide
 simp -implicitDefEqProofs only[Wa,tyW,seval];refine JeK (xs:=[]) (f:=false) rfl JtW rfl fun b hb=>?_
 cases b
 ·simp -implicitDefEqProofs only[Wa,tyW,seval,List.not_mem_nil,false_imp_iff,implies_true,hf0,eq_self,if_true];exact Jag (by simp)
 ·simp -implicitDefEqProofs only[Wa,tyW,seval];exact Jag (by simp)
theorem JiL(x:(Int × Int))(l:List (Int × Int))(hn:l.length<=4000000000000):JR Tryz.prog 23 [.vec ((x :: l).map JA) false] (.vec ((x :: l).map JA) false):=by
 refine Jn Tryz.func23 rfl Tryz.ntmps23 (rs:=[.tmp 2]) rfl (by simp) ?_;have hf:Ja7 (l.length+1) 16:=⟨by unfold maxLen;omega,by omega⟩;have h0:((l.length+1:Nat)=0)=False:=by simp
 have r3:∀ q∈JA x :: l.map JA,q.length=2:=fun q hq=>by
  obtain⟨v,_,rfl⟩:=List.mem_map.1 (show q∈(x :: l).map JA from hq);rfl
 simp -implicitDefEqProofs only[Wa,tyW,seval,List.map_cons];refine JeK (xs:=JA x :: l.map JA) (f:=false) rfl JtW rfl fun b hb=>?_
 cases b
 ·simp -implicitDefEqProofs only[Wa,tyW,seval,List.not_mem_nil,false_imp_iff,implies_true,hf,eq_true r3,h0,if_true,if_false,List.length_map];exact Jbf (k:=⟨JA x :: l.map JA,0,2⟩) rfl (by simp) (by rw[<- List.map_cons];exact Ji J7 _)
 ·cases hb rfl
theorem Jq3(l:List (Int × Int))(hn:l.length<=4000000000000):JR Tryz.prog 23 [.vec (l.map JA) false] (.vec (l.map JA) false):=by
 cases l with
 | nil=>exact Jj6
 | cons x l=>exact JiL x l (by simp at hn;omega)
theorem Jg0{f:Tr->Jbd->Jbd × List En}(h:∀ t s,s.length<=(f t s).1.length):∀ (ts:List Tr) (s:Jbd),s.length<=(JcN f ts s).1.length
 | [],s=>Nat.le_refl _
 | t :: ts,s=>Nat.le_trans (h t s) (Jg0 h ts _)
theorem Jy4(n:Nt)(o:List Orc)(l:List Un)(md:Int):∀ (k r:Nat) (t:Tr) (s:Jbd),s.length<=(wF n o l md k r t s).1.length:=by
 intro k;induction k with
 | zero=>intro r t s;exact Nat.le_refl _
 | succ k ih =>
  intro r t s;unfold wF;split
  ·exact Nat.le_refl _
  split
  ·simp
  ·exact Nat.le_trans (by simp) (Jg0 (fun t s=>ih r t s) _ _)
theorem Jl2{f:Tr->Jbd->Jbd × List En}{A c:Nat}(hm:∀ t s,s.length<=(f t s).1.length):∀ (ts:List Tr),(∀ t∈ts,∀ s,∀ y∈(f t s).2,y.acts.length+A * s.length<=c+A * (f t s).1.length)->∀ s,∀ y∈(JcN f ts s).2,y.acts.length+A * s.length<=c+A * (JcN f ts s).1.length
 | [],_,s,y,hy=>by cases hy
 | t :: ts,hf,s,y,hy=>by
  simp only[JcN,List.mem_append] at hy ⊢;rcases hy with hy | hy
  ·have h1:=hf t (by simp) s y hy;have h2:=Nat.mul_le_mul_left A (Jg0 hm ts (f t s).1);omega
  ·have h1:=Jl2 hm ts (fun t ht=>hf t (by simp[ht])) _ y hy;have h2:=Nat.mul_le_mul_left A (hm t s);omega
theorem Jy5{n:Nt}{o:List Orc}{l:List Un}{md:Int}(w:Wf n)(u:Jnz l)(mu:Jl0 n):∀ (k r:Nat) (t:Tr) (s:Jbd),∀ y∈(wF n o l md k r t s).2,y.acts.length+Jfg * s.length<=t.acts.length+Jfg * (wF n o l md k r t s).1.length:=by
 intro k;induction k with
 | zero=>intro r t s y hy;simp[wF] at hy
 | succ k ih =>
  intro r t s y hy;unfold wF at hy ⊢;split at hy
  ·cases hy
  rename_i h1;rw[if_neg h1];split at hy
  ·rename_i h2;rw[if_pos h2];rw[List.mem_singleton] at hy;subst hy;simp only[List.length_append,List.length_singleton,Nat.mul_add];omega
  ·rename_i h2;rw[if_neg h2];have h3:=Jl2 (A:=Jfg) (c:=t.acts.length+Jfg) (fun t s=>Jy4 n o l md k r t s) _ (fun t' ht' s' y' hy'=>by
    have h4:=ih r t' s' y' hy';have h5:=JgT w u (mu.acts t.st) ht';omega) _ y hy
   simp only[List.length_append,List.length_singleton,Nat.mul_add] at h3;omega
theorem Jy6{n:Nt}{o:List Orc}{l:List Un}{md:Int}{k r a:Nat}(w:Wf n)(u:Jnz l)(mu:Jl0 n)(hl:l.length<=1000)(hr:r<n.rules.length)(ha:a<l.length):∀ y∈eF n o l md k r a,y.acts.length<=4000000000000:=fun y hy=>by
 have h1:=Jy5 w u mu k r ⟨stN n r,a,[]⟩ [] y hy;have a1:=w.start hr;have h2:=Jpb (k:=k) (o:=o) (md:=md) w u (r:=r) (t:=⟨stN n r,a,[]⟩) (seen:=[]) ⟨by unfold stN;simp only;omega,ha⟩ List.nodup_nil (fun p hp=>by cases hp);have h3:=Jk7 w u h2.nd h2.inr;have h4:n.states.length * l.length<=1500 * 1000:=Nat.mul_le_mul mu.nst hl;have h5:=Nat.mul_le_mul_left Jfg (Nat.le_trans h3 h4);simp only[List.length_nil,Nat.mul_zero,Nat.add_zero,Nat.zero_add] at h1;unfold Jfg at *;omega
theorem JzD{n:Nt}{o:List Orc}{x:List UInt8}{at' md:Int}(g:Jm8 n o x at' md)(hok:okV n=true):JpY n o (JaX (ofB x)) md :=
 ⟨(JhC hok).1,g.ok,JgU _,(Jcu g.len).1,g.o,fun u hu=>by have:=JyP (ofB x).size (ofB x) 0 0 u hu;exact⟨this.1,this.2.1⟩⟩
theorem Jy7{n:Nt}{o:List Orc}{x:List UInt8}{at' md:Int}(g:Jm8 n o x at' md)(hok:okV n=true):∃ k,Jkv n o (JaX (ofB x)) md k:=JyO (JhC hok).1 (JgU _) (JgO g.ok hok)
def Jtv(n:Nt)(o:List Orc)(l:List Un)(md:Int)(k a:Nat)(at':Int):Int × Int × List (Int × Int) × Int :=
 match JcA (J0 n o l md k a n.rules.length) with
 | none=>(0,0,[],4)
 | some p=>((p.1:Int),((l.getD p.2.pos default).pos:Int) - at',p.2.acts,0)
def Jj7(t:Int × Int × List (Int × Int) × Int):AV:=.tup [.lit (.int .i64 t.1),.lit (.int .i64 t.2.1),.vec (t.2.2.1.map JA) false,.lit (.int .i64 t.2.2.2)]
def Jm9 (b:Option (Nat × En)):List AV:=[.lit (.int .i64 (match b with | none => -1 | some p=>(p.2.pos:Int)))]
def Jl3 (b:Option (Nat × En)):List AV:=[.lit (.int .i64 (match b with | none=>0 | some p=>(p.1:Int)))]
def Jl4 (b:Option (Nat × En)):List AV:=[match b with | none=>.vec [] true | some p=>.vec (p.2.acts.map JA) false]
theorem Jj8(li a:Nat)(H:Hp):JU Tryz.prog 22 [.ptr li 0,.lit (.int .i64 (a:Int))] H fun r h'=>r = .fn (.func 44) [] [.ptr H.nx 0,.ptr (H.nx+1) 0]/\h'=⟨H.boxes++[(H.nx,[.ptr li 0]),(H.nx+1,[.lit (.int .i64 (a:Int))])],H.toks,H.nx+2⟩:=by
 refine Jq Tryz.func22 rfl Tryz.ntmps22 (rs:=[.tmp 4]) rfl (by simp) ?_;refine Jj ?_;simp -implicitDefEqProofs (disch:=omega) only[Wz,seval,Ly,Lx,List.append_assoc]
structure NI (n:Nt) (o:List Orc) (l:List Un) (md:Int) (k a:Nat) (b:Option (Nat × En)) (z:Nat) (H:Hp):Prop where
 W:∃ W,Jdq n o l md k W/\lk H.toks 4=some (J8 W)
 lo:lk H.boxes 5=some (Jap n o l md 4)
 b1:lk H.boxes 1=some (Jl3 b)
 b2:lk H.boxes 2=some (Jl4 b)
 b6:lk H.boxes 6=some (Jm9 b)
 b7:lk H.boxes 7=some [.ptr 5 0]
 b8:lk H.boxes 8=some [.lit (.int .i64 (a:Int))]
 lp:lk H.toks 9=some (JaL z)
 no:lk H.toks 5=none
 fb:∀ i,H.nx<=i->lk H.boxes i=none
 ft:∀ i,H.nx<=i->lk H.toks i=none
 nx:10<=H.nx
section
variable {n:Nt} {o:List Orc} {l:List Un} {md:Int} {k a:Nat} {b:Option (Nat × En)} {z:Nat} {H:Hp}
theorem NI.grow(h:NI n o l md k a b z H){B:List (Nat × List AV)}{m:Nat}(hm:H.nx<=m)(hB:∀ q∈B,H.nx<=q.1/\q.1<m):NI n o l md k a b z ⟨H.boxes++B,H.toks,m⟩:=by
 have hp:∀ {i:Nat} {c:List AV},lk H.boxes i=some c->lk (H.boxes++B) i=some c:=fun e=>JbD e
 exact⟨h.W,hp h.lo,hp h.b1,hp h.b2,hp h.b6,hp h.b7,hp h.b8,h.lp,h.no,fun i hi=>by
  have hi:m<=i:=hi;show lk (H.boxes++B) i=none;rw[JC,h.fb i (by omega)];exact JgP (N:=m) (fun q hq=>(hB q hq).2) hi,fun i hi=>by have hi:m<=i:=hi;exact h.ft i (by omega),Nat.le_trans h.nx hm⟩
theorem NI.put(h:NI n o l md k a b z H){W':Td}(hW:Jdq n o l md k W'):NI n o l md k a b z ⟨H.boxes,up H.toks 4 (J8 W'),H.nx⟩:=by
 obtain⟨W,h1,h2⟩:=h.W;refine⟨⟨W',hW,?_⟩,h.lo,h.b1,h.b2,h.b6,h.b7,h.b8,?_,?_,h.fb,fun i hi=>?_,h.nx⟩
 ·show lk (up H.toks 4 (J8 W')) 4=_;rw[JH,if_pos rfl,h2];rfl
 ·show lk (up H.toks 4 (J8 W')) 9=_;rw[JH,if_neg (by decide)];exact h.lp
 ·show lk (up H.toks 4 (J8 W')) 5=_;rw[JH,if_neg (by decide)];exact h.no
 ·have:=h.nx;have hi:H.nx<=i:=hi;show lk (up H.toks 4 (J8 W')) i=_;rw[JH,if_neg (by omega)];exact h.ft i hi
theorem NI.lkr(h:NI n o l md k a b z H):∃ W,Jdq n o l md k W/\Lkr n o l md 5 4 W H:=by
 obtain⟨W,h1,h2⟩:=h.W;have:=h.nx;exact⟨W,h1,h.lo,h2,by decide,by omega,by omega,h.no,h.fb,h.ft⟩
theorem NI.setLp(h:NI n o l md k a b z H){y:Nat}:NI n o l md k a b y ⟨H.boxes,up H.toks 9 (JaL y),H.nx⟩:=by
 obtain⟨W,h1,h2⟩:=h.W;refine⟨⟨W,h1,?_⟩,h.lo,h.b1,h.b2,h.b6,h.b7,h.b8,?_,?_,h.fb,fun i hi=>?_,h.nx⟩
 ·show lk (up H.toks 9 (JaL y)) 4=_;rw[JH,if_neg (by decide)];exact h2
 ·show lk (up H.toks 9 (JaL y)) 9=_;rw[JH,if_pos rfl,h.lp];rfl
 ·show lk (up H.toks 9 (JaL y)) 5=_;rw[JH,if_neg (by decide)];exact h.no
 ·have:=h.nx;have hi:H.nx<=i:=hi;show lk (up H.toks 9 (JaL y)) i=_;rw[JH,if_neg (by omega)];exact h.ft i hi
theorem NI.set3(h:NI n o l md k a b z H){b':Option (Nat × En)}:NI n o l md k a b' z ⟨up (up (up H.boxes 6 (Jm9 b')) 1 (Jl3 b')) 2 (Jl4 b'),H.toks,H.nx⟩:=by
 have e:∀ i,lk (up (up (up H.boxes 6 (Jm9 b')) 1 (Jl3 b')) 2 (Jl4 b')) i=if 2=i then some (Jl4 b') else if 1=i then some (Jl3 b') else if 6=i then some (Jm9 b') else lk H.boxes i:=fun i=>by
  simp only[JH,h.b1,h.b2,h.b6,Option.map_some];simp
 refine⟨h.W,?_,?_,?_,?_,?_,?_,h.lp,h.no,fun i hi=>?_,h.ft,h.nx⟩
 ·exact(e 5).trans h.lo
 ·exact e 1
 ·exact e 2
 ·exact e 6
 ·exact(e 7).trans h.b7
 ·exact(e 8).trans h.b8
 ·have:=h.nx;have hi:H.nx<=i:=hi;refine(e i).trans ?_;rw[if_neg (by omega),if_neg (by omega),if_neg (by omega)];exact h.fb i hi
end
theorem Jj9(L:List (Nat × List Value))(n:Nt)(o:List Orc)(x:List UInt8)(f:Bool)(hL:JdV L x)(at' md:Int)(g:Jm8 n o x at' md)(mu:Jl0 n)(k:Nat)(fk:okV n=true->Jkv n o (JaX (ofB x)) md k) :
  JR Tryz.prog 8 [.agg (Jh n),inV L x f,.vec (o.map Jb9) false,.lit (.int .i64 at'),.lit (.int .i64 md)]
   (if okV n=true/\(0<=md/\md<(n.modes.length:Int))/\∃ u∈JaX (ofB x),(u.pos:Int)=at' then Jj7 (Jtv n o (JaX (ofB x)) md k (ixV (JaX (ofB x)) at') at') else Jj7 (0,0,[],if okV n then 2 else 110)):=by
 refine JG (Jq Tryz.func8 rfl Tryz.ntmps8 (rs:=[.cell 10 3,.tmp 11,.cell 12 31,.tmp 13]) rfl (by simp) ?_);have hlook:=JgZ L n o x f hL at' md g;have hpx:=JaC L x f;have hrise:=Jcr (ofB x);have hlk:=JzD g;obtain⟨hlen,hpos⟩:=Jcu g.len;obtain⟨l,hl⟩:∃ l,JaX (ofB x)=l:=⟨_,rfl⟩;rw[hl] at hlook hrise hlk hlen hpos fk ⊢;unfold inV at hlook hpx ⊢;refine Jm ?_;refine Jj ?_;simp -implicitDefEqProofs (disch:=omega) only[Wz,seval,Ly,Lx];refine Jm ?_;refine Jj ?_;simp -implicitDefEqProofs (disch:=omega) only[Wz,seval,Ly,Lx,J6,Jay];refine JE Jop (hlook _ ?_) ?_
 ·exact fun i hi=>JgP (N:=3) (by simp) hi
 rintro r0 h' (⟨hok,hmd,a,hal,hia,rfl,rfl⟩ | ⟨hno,rfl,rfl⟩)
 ·have hix:ixV l at'=a:=JhE hrise hal hia;have hex:∃ u∈l,(u.pos:Int)=at':=⟨_,Ju hal,hia⟩;rw[if_pos ⟨hok,hmd,hex⟩,hix];have hlk:=hlk hok;have fk:=fk hok;have hends:=fun r hr=>JiI hlk mu fk (JgO g.ok hok) r a hr hal
  simp -implicitDefEqProofs (disch:=omega) only[Wz,seval,Ly,Lx];refine Jm ?_;refine Jj ?_;simp -implicitDefEqProofs (disch:=omega) only[Wz,seval,Ly,Lx];refine Jm ?_;refine Jj ?_;simp -implicitDefEqProofs (disch:=omega) only[Wz,seval,Ly,Lx];refine Jm ?_;refine Jm ?_;refine Jj ?_;simp -implicitDefEqProofs (disch:=omega) only[Wz,seval,Ly,Lx];refine JE JrT (Jj8 5 a _) ?_;rintro r0 h' ⟨rfl,rfl⟩;simp -implicitDefEqProofs (disch:=omega) only[Wz,seval,Ly,Lx];refine JX ?_;refine Ja8 (σ':=⟨[(34,.fn (.func 44) [] [.ptr 7 0,.ptr 8 0]),(14,.ptr 5 0),(16,.ptr 6 0),(10,.ptr 1 0),(12,.ptr 2 0),(3,.lit (.int .i64 at'))],⟨[(0,Jh n),(1,Jl3 none),(2,Jl4 none),(3,Jh n),(5,Jap n o l md 4),(6,Jm9 none),(7,[.ptr 5 0]),(8,[.lit (.int .i64 (a:Int))])],[(4,J8 [])],9⟩,61⟩) (Jk (by simp[lk]) (fun _ _ e=>e) (fun _ _ e=>e) rfl rfl) ?_;refine JbS (gf:=44) (first:=[]) (lb:=[.ptr 7 0,.ptr 8 0]) rfl JrY (fun p hp=>?_);obtain⟨I,hI⟩:∃ I:Nat->Hp->Prop,∀ i H,I i H↔NI n o l md k a (JcA (J0 n o l md k a i)) 1 H:=⟨fun i H=>NI n o l md k a (JcA (J0 n o l md k a i)) 1 H,fun _ _=>Iff.rfl⟩;have h0:I 0 ⟨[(0,Jh n),(1,Jl3 none),(2,Jl4 none),(3,Jh n),(5,Jap n o l md 4),(6,Jm9 none),(7,[.ptr 5 0]),(8,[.lit (.int .i64 (a:Int))])],[(4,J8 []),(9,JaL 1)],10⟩:=by
   rw[hI];exact⟨⟨[],.nil,rfl⟩,rfl,rfl,rfl,rfl,rfl,rfl,rfl,rfl,fun i hi=>JgP (N:=10) (by simp) hi,fun i hi=>JgP (N:=10) (by simp) hi,Nat.le_refl _⟩
  refine JU.mono (Jsf hlk a hal hends 5 4 7 8 I (fun _=>False) (fun i H h=>?_) (fun i H W' h hW=>?_) (fun i H B m h hm hB=>?_) (fun i H hi h hn=>?_) (fun i y H hi h hs=>?_) _ h0) ?_
  ·rw[hI] at h;exact⟨h.b7,h.b8,h.lkr⟩
  ·rw[hI] at h ⊢;exact h.put hW
  ·rw[hI] at h ⊢;exact h.grow hm hB
  ·rw[hI] at h ⊢;rw[JaK,hn];simpa using h
  ·rw[hI] at h;have hnext:JcA (J0 n o l md k a (i+1))=some (match JcA (J0 n o l md k a i) with | none=>(i,y) | some b=>Jb4 b (i,y)):=by
    rw[JaK,hs];exact JmZ _ _
   obtain⟨b,hb⟩:∃ b,JcA (J0 n o l md k a i)=b:=⟨_,rfl⟩;rw[hb] at h hnext;refine hp _ _ _ ⟨h.lp,rfl,?_⟩;refine Jj ?_;have hu1:∀ c d,up (H.boxes++[(H.nx,c)]) H.nx d=H.boxes++[(H.nx,d)]:=fun c d=>JdU (h.fb _ (Nat.le_refl _));have hn1:∀ c,lk (H.boxes++[(H.nx,c)]) H.nx=some c:=fun c=>by rw[JC,h.fb _ (Nat.le_refl _)];simp[lk]
   simp -implicitDefEqProofs (disch:=omega) only[Wz,seval,Ly,Lx,putL,hn1,hu1];refine⟨h.lp,?_⟩;have hN1:=(h.grow (Nat.le_succ H.nx) (B:=[(H.nx,JO y)]) (by simp)).setLp (y:=2);refine Ja8 (σ':=⟨[(17,.lit (.int .i64 (i:Int))),(18,.ptr H.nx 0),(16,.ptr 6 0),(10,.ptr 1 0),(12,.ptr 2 0)],⟨H.boxes++[(H.nx,JO y)],up H.toks 9 (JaL 2),H.nx+1⟩,61⟩) (Jk (by simp[lk]) (fun _ _ e=>e) (fun _ _ e=>e) rfl rfl) ?_;have hy:=hn1 (JO y);have hq:10<=H.nx:=h.nx;generalize hH1:(⟨H.boxes++[(H.nx,JO y)],up H.toks 9 (JaL 2),H.nx+1⟩:Hp)=H1 at hN1 ⊢;have hy:lk H1.boxes H.nx=some (JO y):=by rw[<- hH1];exact hy
   generalize H.nx=yi at hy hq ⊢;clear hH1 h hu1 hn1;have h6:=hN1.b6;have h1:=hN1.b1;have h2:=hN1.b2;refine JX ?_;refine Jj ?_;obtain⟨fv,hfv,hf1,hf2⟩:∃ fv:Int,Jm9 b=[.lit (.int .i64 fv)]/\(fv<(y.pos:Int)->JcA (J0 n o l md k a (i+1))=some (i,y))/\(¬ fv<(y.pos:Int)->JcA (J0 n o l md k a (i+1))=b):=by
    cases b with
    | none=>exact⟨-1,rfl,fun _=>hnext,fun q=>by omega⟩
    | some b =>
     refine⟨(b.2.pos:Int),rfl,fun q=>?_,fun q=>?_⟩
     ·rw[hnext];simp only[Jb4];rw[if_pos (by omega)]
     ·rw[hnext];simp only[Jb4];rw[if_neg (by omega)]
   have h3:=(hN1.set3 (b':=some (i,y)));rw[hfv] at h6;by_cases hlt:fv<(y.pos:Int)
   ·have hi1:=hf1 hlt;clear hnext hf1 hf2 hs hb;simp -implicitDefEqProofs (disch:=omega) only[Wz,seval,Ly,Lx,h6,hy,JO];refine Jic (n:=61) (σ':=⟨[],⟨up (up (up H1.boxes 6 (Jm9 (some (i,y)))) 1 (Jl3 (some (i,y)))) 2 (Jl4 (some (i,y))),H1.toks,H1.nx⟩,61⟩) 0 (.alt 0 (.alt 1 (.alt 2 (.alt 3 (.alt 4 (.alt 5 (.alt 6 (.alt 7 .leaf .nil) .nil) .nil) (.alt 5 (.alt 4 (.alt 6 (.alt 7 .leaf .nil) .nil) (.alt 6 (.alt 4 (.alt 7 .leaf .nil) .nil) .nil)) .nil)) (.alt 5 (.alt 3 (.alt 4 (.alt 6 (.alt 7 .leaf .nil) .nil) (.alt 6 (.alt 4 (.alt 7 .leaf .nil) .nil) .nil)) (.alt 6 (.alt 3 (.alt 4 (.alt 7 .leaf .nil) .nil) .nil) .nil)) .nil)) (.alt 3 (.alt 2 (.alt 4 (.alt 5 (.alt 6 (.alt 7 .leaf .nil) .nil) .nil) (.alt 5 (.alt 4 (.alt 6 (.alt 7 .leaf .nil) .nil) (.alt 6 (.alt 4 (.alt 7 .leaf .nil) .nil) .nil)) .nil)) (.alt 4 (.alt 2 (.alt 5 (.alt 6 (.alt 7 .leaf .nil) .nil) .nil) (.alt 5 (.alt 2 (.alt 6 (.alt 7 .leaf .nil) .nil) .nil) .nil)) (.alt 5 (.alt 2 (.alt 4 (.alt 6 (.alt 7 .leaf .nil) .nil) (.alt 6 (.alt 4 (.alt 7 .leaf .nil) .nil) .nil)) (.alt 4 (.alt 2 (.alt 6 (.alt 7 .leaf .nil) .nil) .nil) .nil)) .nil))) (.alt 5 (.alt 2 (.alt 3 (.alt 4 (.alt 6 (.alt 7 .leaf .nil) .nil) (.alt 6 (.alt 4 (.alt 7 .leaf .nil) .nil) .nil)) (.alt 6 (.alt 3 (.alt 4 (.alt 7 .leaf .nil) .nil) .nil) .nil)) (.alt 3 (.alt 2 (.alt 4 (.alt 6 (.alt 7 .leaf .nil) .nil) (.alt 6 (.alt 4 (.alt 7 .leaf .nil) .nil) .nil)) (.alt 4 (.alt 2 (.alt 6 (.alt 7 .leaf .nil) .nil) .nil) .nil)) .nil)) .nil))) (.alt 2 (.alt 1 (.alt 3 (.alt 4 (.alt 5 (.alt 6 (.alt 7 .leaf .nil) .nil) .nil) (.alt 5 (.alt 4 (.alt 6 (.alt 7 .leaf .nil) .nil) (.alt 6 (.alt 4 (.alt 7 .leaf .nil) .nil) .nil)) .nil)) (.alt 5 (.alt 3 (.alt 4 (.alt 6 (.alt 7 .leaf .nil) .nil) (.alt 6 (.alt 4 (.alt 7 .leaf .nil) .nil) .nil)) (.alt 6 (.alt 3 (.alt 4 (.alt 7 .leaf .nil) .nil) .nil) .nil)) .nil)) (.alt 3 (.alt 1 (.alt 4 (.alt 5 (.alt 6 (.alt 7 .leaf .nil) .nil) .nil) (.alt 5 (.alt 4 (.alt 6 (.alt 7 .leaf .nil) .nil) (.alt 6 (.alt 4 (.alt 7 .leaf .nil) .nil) .nil)) .nil)) (.alt 4 (.alt 1 (.alt 5 (.alt 6 (.alt 7 .leaf .nil) .nil) .nil) .nil) .nil)) .nil)) (.alt 3 (.alt 1 (.alt 2 (.alt 4 (.alt 5 (.alt 6 (.alt 7 .leaf .nil) .nil) .nil) (.alt 5 (.alt 4 (.alt 6 (.alt 7 .leaf .nil) .nil) (.alt 6 (.alt 4 (.alt 7 .leaf .nil) .nil) .nil)) .nil)) (.alt 4 (.alt 2 (.alt 5 (.alt 6 (.alt 7 .leaf .nil) .nil) .nil) (.alt 5 (.alt 2 (.alt 6 (.alt 7 .leaf .nil) .nil) .nil) .nil)) (.alt 5 (.alt 2 (.alt 4 (.alt 6 (.alt 7 .leaf .nil) .nil) (.alt 6 (.alt 4 (.alt 7 .leaf .nil) .nil) .nil)) (.alt 4 (.alt 2 (.alt 6 (.alt 7 .leaf .nil) .nil) .nil) .nil)) .nil))) (.alt 2 (.alt 1 (.alt 4 (.alt 5 (.alt 6 (.alt 7 .leaf .nil) .nil) .nil) (.alt 5 (.alt 4 (.alt 6 (.alt 7 .leaf .nil) .nil) (.alt 6 (.alt 4 (.alt 7 .leaf .nil) .nil) .nil)) .nil)) (.alt 4 (.alt 1 (.alt 5 (.alt 6 (.alt 7 .leaf .nil) .nil) .nil) .nil) .nil)) (.alt 4 (.alt 1 (.alt 2 (.alt 5 (.alt 6 (.alt 7 .leaf .nil) .nil) .nil) (.alt 5 (.alt 2 (.alt 6 (.alt 7 .leaf .nil) .nil) .nil) .nil)) (.alt 2 (.alt 1 (.alt 5 (.alt 6 (.alt 7 .leaf .nil) .nil) .nil) .nil) .nil)) .nil))) .nil))) (.alt 2 (.alt 0 (.alt 1 (.alt 3 (.alt 4 (.alt 5 (.alt 6 (.alt 7 .leaf .nil) .nil) .nil) (.alt 5 (.alt 4 (.alt 6 (.alt 7 .leaf .nil) .nil) (.alt 6 (.alt 4 (.alt 7 .leaf .nil) .nil) .nil)) .nil)) (.alt 5 (.alt 3 (.alt 4 (.alt 6 (.alt 7 .leaf .nil) .nil) (.alt 6 (.alt 4 (.alt 7 .leaf .nil) .nil) .nil)) (.alt 6 (.alt 3 (.alt 4 (.alt 7 .leaf .nil) .nil) .nil) .nil)) .nil)) (.alt 3 (.alt 1 (.alt 4 (.alt 5 (.alt 6 (.alt 7 .leaf .nil) .nil) .nil) (.alt 5 (.alt 4 (.alt 6 (.alt 7 .leaf .nil) .nil) (.alt 6 (.alt 4 (.alt 7 .leaf .nil) .nil) .nil)) .nil)) (.alt 4 (.alt 1 (.alt 5 (.alt 6 (.alt 7 .leaf .nil) .nil) .nil) .nil) .nil)) .nil)) (.alt 3 (.alt 0 (.alt 1 (.alt 4 (.alt 5 (.alt 6 (.alt 7 .leaf .nil) .nil) .nil) (.alt 5 (.alt 4 (.alt 6 (.alt 7 .leaf .nil) .nil) (.alt 6 (.alt 4 (.alt 7 .leaf .nil) .nil) .nil)) .nil)) (.alt 4 (.alt 1 (.alt 5 (.alt 6 (.alt 7 .leaf .nil) .nil) .nil) .nil) .nil)) (.alt 4 (.alt 0 (.alt 1 (.alt 5 (.alt 6 (.alt 7 .leaf .nil) .nil) .nil) .nil) .nil) .nil)) .nil)) (.alt 3 (.alt 0 (.alt 1 (.alt 2 (.alt 4 (.alt 5 (.alt 6 (.alt 7 .leaf .nil) .nil) .nil) (.alt 5 (.alt 4 (.alt 6 (.alt 7 .leaf .nil) .nil) (.alt 6 (.alt 4 (.alt 7 .leaf .nil) .nil) .nil)) .nil)) (.alt 4 (.alt 2 (.alt 5 (.alt 6 (.alt 7 .leaf .nil) .nil) .nil) (.alt 5 (.alt 2 (.alt 6 (.alt 7 .leaf .nil) .nil) .nil) .nil)) (.alt 5 (.alt 2 (.alt 4 (.alt 6 (.alt 7 .leaf .nil) .nil) (.alt 6 (.alt 4 (.alt 7 .leaf .nil) .nil) .nil)) (.alt 4 (.alt 2 (.alt 6 (.alt 7 .leaf .nil) .nil) .nil) .nil)) .nil))) (.alt 2 (.alt 1 (.alt 4 (.alt 5 (.alt 6 (.alt 7 .leaf .nil) .nil) .nil) (.alt 5 (.alt 4 (.alt 6 (.alt 7 .leaf .nil) .nil) (.alt 6 (.alt 4 (.alt 7 .leaf .nil) .nil) .nil)) .nil)) (.alt 4 (.alt 1 (.alt 5 (.alt 6 (.alt 7 .leaf .nil) .nil) .nil) .nil) .nil)) (.alt 4 (.alt 1 (.alt 2 (.alt 5 (.alt 6 (.alt 7 .leaf .nil) .nil) .nil) (.alt 5 (.alt 2 (.alt 6 (.alt 7 .leaf .nil) .nil) .nil) .nil)) (.alt 2 (.alt 1 (.alt 5 (.alt 6 (.alt 7 .leaf .nil) .nil) .nil) .nil) .nil)) .nil))) (.alt 2 (.alt 0 (.alt 1 (.alt 4 (.alt 5 (.alt 6 (.alt 7 .leaf .nil) .nil) .nil) (.alt 5 (.alt 4 (.alt 6 (.alt 7 .leaf .nil) .nil) (.alt 6 (.alt 4 (.alt 7 .leaf .nil) .nil) .nil)) .nil)) (.alt 4 (.alt 1 (.alt 5 (.alt 6 (.alt 7 .leaf .nil) .nil) .nil) .nil) .nil)) (.alt 4 (.alt 0 (.alt 1 (.alt 5 (.alt 6 (.alt 7 .leaf .nil) .nil) .nil) .nil) .nil) .nil)) (.alt 4 (.alt 0 (.alt 1 (.alt 2 (.alt 5 (.alt 6 (.alt 7 .leaf .nil) .nil) .nil) (.alt 5 (.alt 2 (.alt 6 (.alt 7 .leaf .nil) .nil) .nil) .nil)) (.alt 2 (.alt 1 (.alt 5 (.alt 6 (.alt 7 .leaf .nil) .nil) .nil) .nil) .nil)) (.alt 2 (.alt 0 (.alt 1 (.alt 5 (.alt 6 (.alt 7 .leaf .nil) .nil) .nil) .nil) .nil) .nil)) .nil))) .nil))) rfl (by decide) (by decide) mixed (by kernel_rfl) (by decide) ?_ ?_
    ·clear hp hI h0;have key:∀ sl:List (Nat × AV),St.wk ⟨sl,⟨up (up (up H1.boxes 6 [.lit (.int .i64 (y.pos:Int))]) 1 [.lit (.int .i64 (i:Int))]) 2 [.vec (y.acts.map JA) false],H1.toks,H1.nx⟩,61⟩ ⟨[],⟨up (up (up H1.boxes 6 [.lit (.int .i64 (y.pos:Int))]) 1 [.lit (.int .i64 (i:Int))]) 2 [.vec (y.acts.map JA) false],H1.toks,H1.nx⟩,61⟩:=fun sl=>Jk Jl (fun _ _ e=>e) (fun _ _ e=>e) rfl rfl;simp -implicitDefEqProofs (disch:=omega) only[Wz,seval,Ly,Lx,h6,hy,h1,h2,JH,Jm9,Jl3,Jl4,JO,Option.map_some,key,and_self]
    simp -implicitDefEqProofs (disch:=omega) only[Wz,seval,Ly,Lx];refine⟨⟨[],⟨up (up (up H1.boxes 6 (Jm9 (some (i,y)))) 1 (Jl3 (some (i,y)))) 2 (Jl4 (some (i,y))),H1.toks,H1.nx⟩,61⟩,.refl _,h3.lp,.inl ⟨rfl,(hI _ _).2 ?_⟩⟩;rw[hi1];exact h3.setLp
   ·have hi1:=hf2 hlt;simp -implicitDefEqProofs (disch:=omega) only[Wz,seval,Ly,Lx,h6,hy,JO];refine⟨⟨[],H1,61⟩,Jk Jl (fun _ _ e=>e) (fun _ _ e=>e) rfl rfl,hN1.lp,.inl ⟨rfl,(hI _ _).2 ?_⟩⟩;rw[hi1];exact hN1.setLp
  ·rintro r H' ⟨rfl,hH | hH⟩;rotate_left
   ·exact hH.elim
   rw[hI] at hH;refine⟨1,Nat.le_refl _,by decide,hH.lp,.inl ⟨rfl,?_⟩⟩;show Aw _ _ _ _;obtain⟨b,hb⟩:∃ b,JcA (J0 n o l md k a n.rules.length)=b:=⟨_,rfl⟩;have hmem:∀ p,b=some p->p.2∈eF n o l md k p.1 a/\p.1<n.rules.length:=fun p e=>by
    rw[e] at hb;have h1:=(Jpf hb (Jk9 n o l md k a _)).1;have h2:=JhF h1;exact⟨h2.2.2,h2.1⟩
   rw[hb] at hH;unfold Jtv;rw[hb];have hH':NI n o l md k a b 1 H':=hH;have hlo:=hH.lo;have hw:=hH.nx;refine Ja8 (σ':=⟨[(14,.ptr 5 0),(16,.ptr 6 0),(10,.ptr 1 0),(12,.ptr 2 0),(3,.lit (.int .i64 at'))],⟨[(1,Jl3 b),(2,Jl4 b),(5,Jap n o l md 4),(6,Jm9 b)],[],H'.nx⟩,61⟩) ?_ ?_
   ·refine JaE (by simp[lk]) ?_ Jl rfl rfl;exact Jb hH.b1 (Jb hH.b2 (Jb hH.lo (Jb hH.b6 Jl)))
   refine Jm ?_;refine Jj ?_;cases b with
   | none =>
    simp -implicitDefEqProofs (disch:=omega) only[Wz,seval,Ly,Lx,Jm9,Jl3,Jl4];exact JI (Jf (Ja (.lit _)) (Jf (Ja (.lit _)) (Jf (Jag (by simp)) (Jf (Ja (.lit _)) Jw))))
   | some q =>
    obtain⟨hm1,hm2⟩:=hmem q rfl;have hqo:=JjX hlk.w hlk.u (o:=o) (md:=md) (k:=k) hm2 hal q.2 hm1;obtain⟨u,hu⟩:∃ u,l.getD q.2.pos default=u:=⟨_,rfl⟩;have hup:=hpos u (by rw[<- hu];exact Ju hqo.2.1);have hia2:=hpos _ (Ju hal);simp -implicitDefEqProofs (disch:=omega) only[Wz,seval,Ly,Lx,Jm9,Jl3,Jl4];refine Jm ?_;refine Jqm (n:=61) (σ':=⟨[(10,.ptr 1 0),(12,.ptr 2 0),(11,.lit (.int .i64 ((u.pos:Int) - at'))),(13,.lit (.int .i64 0))],⟨[(1,Jl3 (some q)),(2,Jl4 (some q))],[],H'.nx⟩,61⟩) (H'.nx) 13 (.alt 14 (.alt 15 (.alt 16 .leaf .nil) .nil) .nil) rfl rfl (by decide) (by decide) (by decide) mixed (by kernel_rfl) (by decide) ?_ ?_
    ·have hsub:IntKind.i64.wrap ((u.pos:Int) - at')=(u.pos:Int) - at':=Jdy (by omega) (by omega);have hlk5:=hqo.2.1;simp -implicitDefEqProofs (disch:=omega) only[Wz,seval,Ly,Lx,Jap,Jh,hu,JeT,hsub];refine Jac JxP (Jq3 q.2.acts (Jy6 hlk.w hlk.u mu hlen hm2 hal _ hm1)) (Jb (.vec (Ji J7 _)) Jl) (.vec (Ji J7 _)) ?_;simp -implicitDefEqProofs (disch:=omega) only[Wz,seval,Ly,Lx,Jzn];exact⟨⟨fun _ _ e=>e,fun _ _ e=>e⟩,St.wk.cp (Jk (by simp[lk]) (fun _ _ e=>JbD e) (fun _ _ e=>e) rfl rfl)⟩
    ·simp -implicitDefEqProofs (disch:=omega) only[Wz,seval,Ly,Lx,hu];refine Jj ?_;simp -implicitDefEqProofs (disch:=omega) only[Wz,seval,Ly,Lx,Jl3,Jl4];exact JI (Jf (Ja (.lit _)) (Jf (Ja (.lit _)) (Jf (Ja (.vec (Ji J7 _))) (Jf (Ja (.lit _)) Jw))))
 ·rw[if_neg (fun q=>hno q.1 q.2)];cases hok:okV n with
  | true =>
   simp -implicitDefEqProofs (disch:=omega) only[Wz,seval,Ly,Lx,if_true];refine Jm ?_;refine Jj ?_;simp -implicitDefEqProofs (disch:=omega) only[Wz,seval,Ly,Lx];exact JI (Jf (Ja (.lit _)) (Jf (Ja (.lit _)) (Jf (Jag (by simp)) (Jf (Ja (.lit _)) Jw))))
  | false =>
   simp -implicitDefEqProofs (disch:=omega) only[Wz,seval,Ly,Lx,Bool.false_eq_true,if_false];refine Jm ?_;refine Jj ?_;simp -implicitDefEqProofs (disch:=omega) only[Wz,seval,Ly,Lx];exact JI (Jf (Ja (.lit _)) (Jf (Ja (.lit _)) (Jf (Jag (by simp)) (Jf (Ja (.lit _)) Jw))))
end Go.Proofs.Y
end
