/- Parts of the proof, laid together. -/
import Derived.Test.YtgbbhilflgekhaaGreatDoorVyi
import Derived.Shelf.Spec.DecodeRune
import Derived.Ground.Names7Prog
import Derived.Lib.RuneCountTail
set_option linter.unusedVariables false
set_option linter.unusedSimpArgs false
set_option maxRecDepth 20000
set_option maxHeartbeats 16000000
section
namespace Go.Proofs.Y
open Go Go.Ab
def eB (n:Nt)(o:List Orc)(l:List Un)(md:Int)(r:Nat)(s:Nat)(T:List Tr)(x:List AV):List (Nat × List AV):=[(0,Jaq n o l md 1),(2,Jf (n.rules.getD r default)),(5,[.own s T.length]),(6,x)]
def eS (r a cnt:Nat)(q:Option Nat)(O:List En)(u:Option Nat)(N:List Tr):List (Nat × AV):=[(0,.ptr 0 0),(1,.lit (.int .i64 (r:Int))),(2,.lit (.int .i64 (a:Int))),(6,Jtf q O),(9,.ptr 2 0),(10,.own 3 cnt),(11,.ptr 5 0),(12,.ptr 6 0),(13,nxV u N)]
theorem JmG(n:Nt)(o:List Orc)(l:List Un)(md:Int)(k:Nat)(g:Jrx n o l md)(mu:JoR n)(fk:JmB n o l md k)(rk:Nat->Nat)(R:Nat)(hrk:Rk n rk)(hR:∀ s,s<n.states.length->rk s<=R)(r a:Nat)(hr:r<n.rules.length)(ha:a<l.length)
  (ih:∀ r' a',r'<n.rules.length->a'<l.length->mT l rk R ⟨stN n r',a',[]⟩<mT l rk R ⟨stN n r,a,[]⟩->JbR n o l md k r' a'):JbR n o l md k r a:=by
 intro W0 hW0;obtain⟨F,hF⟩:∃ F:AV->Hp->Prop,(fun v h'=>v=enV (eF n o l md k r a)/\∃ W',JdT n o l md k W'/\h'=hL n o l md W')=F:=⟨_,rfl⟩;have hFi:∀ W',JdT n o l md k W'->F (enV (eF n o l md k r a)) (hL n o l md W'):=fun W' h1=>by rw[<- hF];exact⟨rfl,W',h1,rfl⟩
 rw[hF];clear hF;refine Ji1 Tryz.func33 rfl Tryz.ntmps33 (rs:=[.tmp 6]) rfl (by simp) (N:=2) rfl ?_;have w:=g.w;have hst:=mu.nst;have hll:=g.len;have hsr:=w.start hr;have hso:=w.stop hr;obtain⟨rr,hrr⟩:∃ rr,n.rules.getD r default=rr:=⟨_,rfl⟩;have hst2:rr.start=(stN n r:Int):=by unfold stN;rw[hrr] at hsr ⊢;omega
 have hsp2:rr.stop=(spN n r:Int):=by unfold spN;rw[hrr] at hso ⊢;omega
 have fin:∀ (σ':St) W',JdT n o l md k W'->lk σ'.slots 6=some (enV (eF n o l md k r a))->lk σ'.hp.boxes 0=some (Jaq n o l md 1)->lk σ'.hp.toks 1=some (Jaa W')->2<=σ'.hp.nx->σ'.nt=147->∃ σ'',St.cp 2 σ' σ''/\Je9 (JaG Tryz.prog σ'' [.tmp 6]) F σ''.hp:=fun σ' W' f2 s4 b0 t1 hnx hnt=>by
  refine⟨⟨[(6,enV (eF n o l md k r a))],hL n o l md W',147⟩,Ja3 (Nat.le_refl _) hnx hnt.symm (Jc ⟨s4,.pure (Jii _)⟩ Jm) (Jc ⟨by show 0<2;decide,b0,Jbl n o l md (by show 1<2;decide) rfl⟩ Jm) (Jc ⟨by show 1<2;decide,t1,.pure (Jau W')⟩ Jm),hFi W' f2⟩
 have hm:=Jl4 (ev:=enV) Jx5 (r,a) W0 (P:=Tryz.prog) (et:=97) Jy3;have hpu:=fun W=>JiX (P:=Tryz.prog) (ev:=enV) Jx5 (r,a) (eF n o l md k r a) W
 have kc':kSo (r,a) = .agg [.lit (.int .i64 (r:Int)),.lit (.int .i64 (a:Int))]:=rfl;rw[kc'] at hm hpu;refine Jq ?_;refine Jl ?_;simp -implicitDefEqProofs (disch:=omega) only[Wz,seval,Ly,Lx,hL];obtain⟨cnt,hcnt⟩:∃ cnt,n.states.length * l.length / 64+1=cnt:=⟨_,rfl⟩;obtain⟨J,hJ⟩:∃ J:Nat->St->Prop,(fun m σ=>∃ (ws:List Nat) (S:Jbn) (T:List Tr) (O:List En) (W:Td) (s:Nat) (q u:Option Nat) (N:List Tr) (nx:Nat) (x:List AV),EI n o l md k r a rk R S T O/\JgS n.states.length l.length ws S/\JdT n o l md k W/\Dj s q u nx/\(q=none->O=[])/\(u=none->N=[])/\x.length=3/\m=muE n l S T /\
  σ=⟨eS r a cnt q O u N,⟨eB n o l md r s T x,LT W ws s T q O u N,nx⟩,147⟩)=J:=⟨_,rfl⟩
 have hJe:∀ m σ,J m σ->∃ (ws:List Nat) (S:Jbn) (T:List Tr) (O:List En) (W:Td) (s:Nat) (q u:Option Nat) (N:List Tr) (nx:Nat) (x:List AV),EI n o l md k r a rk R S T O/\JgS n.states.length l.length ws S/\JdT n o l md k W/\Dj s q u nx/\(q=none->O=[])/\(u=none->N=[])/\x.length=3/\m=muE n l S T /\
  σ=⟨eS r a cnt q O u N,⟨eB n o l md r s T x,LT W ws s T q O u N,nx⟩,147⟩:=fun m σ h=>by rw[<- hJ] at h;exact h
 have hJi:∀ {ws:List Nat} {S:Jbn} {T:List Tr} {O:List En} {W:Td} {s:Nat} {q u:Option Nat} {N:List Tr} {nx:Nat} {x:List AV},EI n o l md k r a rk R S T O->JgS n.states.length l.length ws S->JdT n o l md k W->Dj s q u nx->(q=none->O=[])->(u=none->N=[])->x.length=3 ->
  J (muE n l S T) ⟨eS r a cnt q O u N,⟨eB n o l md r s T x,LT W ws s T q O u N,nx⟩,147⟩:=fun h1 h2 h3 h4 h5 h6 h7=>by
  rw[<- hJ];exact⟨_,_,_,_,_,_,_,_,_,_,_,h1,h2,h3,h4,h5,h6,h7,rfl,rfl⟩
 clear hJ;refine JoS 0 rfl J (muE n l [] [⟨stN n r,a,[]⟩]) (fun pass0=>?_) ?_
 ·refine Jq ?_;refine Jl ?_;cases hl:JaM W0 (r,a) with
  | some v =>
   have hv:=hW0 (r,a) v hl;rw[hl] at hm;simp only at hm hv;subst hv;simp -implicitDefEqProofs (disch:=omega) only[Wz,seval,Ly,Lx,Jaq,Jh,Jaa,Jhl,hm];exact fin _ W0 hW0 rfl rfl rfl (by show 2<=2;decide) rfl
  | none =>
   rw[hl] at hm;simp only at hm;simp -implicitDefEqProofs (disch:=omega) only[Wz,seval,Ly,Lx,Jaq,Jh,Jaa,Jhl,hm];refine Jq ?_;refine Jl ?_;simp -implicitDefEqProofs (disch:=omega) only[Wz,seval,Ly,Lx,hrr];refine Jq ?_;have b1:n.states.length * l.length<=1500 * 1000:=Nat.mul_le_mul hst hll;have hmul:IntKind.i64.wrap ((n.states.length:Int) * (l.length:Int))=((n.states.length * l.length:Nat):Int):=by rw[<- Int.natCast_mul];exact Jdh (by omega) (by omega)
   have hsh:((n.states.length * l.length:Nat):Int).fdiv (2 ^ min (Int.toNat 6) IntKind.i64.bits)=((n.states.length * l.length / 64:Nat):Int):=JBd;have hshb:((n.states.length * l.length:Nat):Int).fdiv (2 ^ min 6 IntKind.i64.bits)=((n.states.length * l.length / 64:Nat):Int):=hsh;have hadd:IntKind.i64.wrap (((n.states.length * l.length / 64:Nat):Int)+1)=(cnt:Int):=by rw[Jdh (by omega) (by omega),<- hcnt];rfl
   have hif:(0<=(cnt:Int)/\(cnt:Int)<=(cnt:Int)/\(cnt:Int)<=9223372036854775807/\((8:Nat):Int) * (cnt:Int)<=281474976710656)=True:=by simp;omega
   have hrep:List.replicate cnt [AV.lit (.int .u64 0)]=(List.replicate cnt 0).map Jst:=by rw[List.map_replicate];rfl
   refine JdK (n:=147) 14 (.alt 14 (.alt 15 .leaf .nil) .nil) rfl (by decide) (by decide) mixed (by kernel_rfl) (by decide) ?_;simp -implicitDefEqProofs (disch:=omega) only[Wz,seval,Ly,Lx,Jaq,Jh,Jaa,Jhl,hmul,hsh,hshb,hadd,hif,hrep,if_true];refine Jq ?_;refine JcG ?_;simp -implicitDefEqProofs (disch:=omega) only[Wz,seval,Ly,Lx,Jla,hst2,Jf];refine JcF (ps:=[(0,.agg [.lit (.int .i64 (stN n r:Int)),.lit (.int .i64 (a:Int)),.vec [] true])]) (z:=[.lit (.int .i64 0),.lit (.int .i64 0),.vec [] true]) (rows:=[[.lit (.int .i64 (stN n r:Int)),.lit (.int .i64 (a:Int)),.vec [] true]]) JnG rfl JnF rfl ⟨rfl,by decide⟩ (by decide) ?_ rfl ?_
   ·simp -implicitDefEqProofs (disch:=omega) only[Wz,seval,Ly,Lx]
   simp -implicitDefEqProofs (disch:=omega) only[Wz,seval,Ly,Lx,Jla];refine Jq ?_;refine Jl ?_;simp -implicitDefEqProofs (disch:=omega) only[Wz,seval,Ly,Lx];refine Jq ?_;refine Jl ?_;simp -implicitDefEqProofs (disch:=omega) only[Wz,seval,Ly,Lx];refine Jq ?_;refine Jl ?_;simp -implicitDefEqProofs (disch:=omega) only[Wz,seval,Ly,Lx];refine Jqm ?_;refine Jco ?_ (pass0 _ (hJi (EI.init w hr ha) (ws:=List.replicate (n.states.length * l.length / 64+1) 0) (.init _ _) hW0 (s:=4) (q:=none) (u:=none) (N:=[]) (nx:=7) (x:=[.lit (.int .i64 0),.lit (.int .i64 0),.vec [] true]) ⟨by decide,by decide,by decide,fun v hv=>(by cases hv),fun v hv=>(by cases hv)⟩ (fun _=>rfl) (fun _=>rfl) rfl));refine St.wk_conv rfl rfl (fun g g' e=>?_) (fun g g' e=>?_) (fun g=>?_)
   ·unfold eS;exact Jc ⟨_,rfl,JK e _⟩ (Jc ⟨_,rfl,JK e _⟩ (Jc ⟨_,rfl,JK e _⟩ (Jc ⟨_,rfl,JK e _⟩ (Jc ⟨_,rfl,JK e _⟩ (Jc ⟨_,rfl,JK e _⟩ (Jc ⟨_,rfl,JK e _⟩ (Jc ⟨_,rfl,JK e _⟩ (Jc ⟨_,rfl,JK e _⟩ Jm))))))))
   ·have er:Jf rr=[.lit (.string rr.name),.lit (.bool rr.lexer),.lit (.bool rr.frag),.lit (.bool rr.lz),.lit (.bool rr.left),.lit (.int .i64 rr.mode),.lit (.int .i64 rr.type),.lit (.int .i64 (stN n r:Int)),.lit (.int .i64 rr.stop)]:=by unfold Jf;rw[hst2]
    unfold eB;rw[hrr,er];exact Jc ⟨_,rfl,JbO e _⟩ (Jc ⟨_,rfl,JbO e _⟩ (Jc ⟨_,rfl,JbO e _⟩ (Jc ⟨_,rfl,JbO e _⟩ Jm)))
   ·unfold LT;rw[hcnt];exact Jc ⟨_,rfl,Jl2.refl g _⟩ (Jc ⟨_,rfl,Jl2.refl g _⟩ (Jc ⟨_,rfl,rfl,rfl,.cons (JB (JK (.refl g) _) (JB (JK (.refl g) _) (JB (Jb0 (.refl g) [] true) JaW))) rfl .nil⟩ Jm))
 ·intro μ0 σ hσ;obtain⟨ws,S,T,O,W,s,q,u,N,nx,x,hG,hB,hW,hD,hq0,hu0,hx3,hμ,rfl⟩:=hJe μ0 σ hσ;clear hJe hσ;have hOl:=hG.out w g.u hr ha;have hTl:T.length<=1+1000 * (1000 * 1048576):=by
   have h1:=hG.len;have h2:=JsD hG.nd hG.inr;have h3:l.length * Jte n S<=1000 * (1000 * 1048576):=Nat.mul_le_mul hll (Nat.le_trans h2 (Nat.mul_le_mul hll mu.es));omega
  have hls:=JyP (W:=W) (ws:=ws) (T:=T) (O:=O) (N:=N) hD;have hn7:=hD.n7;have hs4:=hD.s4;have hsn:=hD.sn;rcases JeY T with rfl | ⟨T',y,rfl⟩
  ·
   have hO:=hG.done;refine Jco (σ':=⟨[(0,.ptr 0 0),(1,.lit (.int .i64 (r:Int))),(2,.lit (.int .i64 (a:Int))),(6,enV (eF n o l md k r a)),(11,.ptr 5 0)],⟨[(0,Jaq n o l md 1),(5,[.own s 0])],[(1,Jaa W),(s,tkN [])],nx⟩,147⟩) ?_ ?_
   ·cases q with
    | none =>
     have:=hq0 rfl;subst this;rw[<- hO];refine St.wk_conv rfl rfl (fun g g' e=>?_) (fun g g' e=>?_) (fun g=>?_)
     ·exact Jc ⟨_,rfl,JK e _⟩ (Jc ⟨_,rfl,JK e _⟩ (Jc ⟨_,rfl,JK e _⟩ (Jc ⟨_,rfl,Jb0 e [] true⟩ (Jc ⟨_,rfl,JK e _⟩ Jm))))
     ·exact Jc ⟨_,rfl,JbO e _⟩ (Jc ⟨_,rfl,JbO e _⟩ Jm)
     ·exact Jc ⟨_,rfl,Jl2.refl g _⟩ (Jc ⟨_,hls,Jl2.refl g _⟩ Jm)
    | some v =>
     have hv:=hD.hq v rfl;refine Jrs (t:=v) (k:=⟨O.map JaQ,0,2⟩) (Jzc hD rfl) rfl rfl ?_ (fun i c e=>?_) (fun i c e=>?_)
     ·exact Jc ⟨_,rfl,.inl rfl⟩ (Jc ⟨_,rfl,.inl rfl⟩ (Jc ⟨_,rfl,.inl rfl⟩ (Jc ⟨_,rfl,.inr ⟨by simp[Jtf],by rw[<- hO];rfl⟩⟩ (Jc ⟨_,rfl,.inl rfl⟩ Jm))))
     ·have e:lk [(0,Jaq n o l md 1),(5,[AV.own s 0])] i=some c:=e;simp only[lk] at e;split at e
      ·rename_i q;subst q;cases e;rfl
      ·split at e
       ·rename_i q;subst q;cases e;rfl
       ·cases e
     ·have e2:lk [(1,Jaa W),(s,tkN [])] i=some c:=e;clear e;simp only[lk] at e2;split at e2
      ·rename_i q;subst q;cases e2;exact⟨by omega,rfl⟩
      ·split at e2
       ·rename_i q;subst q;have e3:=Option.some.inj e2;subst e3;exact⟨by omega,hls⟩
       ·cases e2
   refine Jl ?_;have n1s:(1=s)=False:=by simp;omega
   have hpu':JqW Tryz.prog 132 (.agg [.lit (.int .i64 (r:Int)),.lit (.int .i64 (a:Int))]) (.vec ((eF n o l md k r a).map JaQ) false) (JcZ kSo enV W)=some (JcZ kSo enV (JiW W (r,a) (eF n o l md k r a))):=hpu W;simp -implicitDefEqProofs (disch:=omega) only[Wz,seval,Ly,Lx,Jaq,Jh,tkN,Jaa,Jhl,enV,hpu',n1s,List.map_nil];exact fin _ _ (hW.put r a) rfl rfl rfl (by show 2<=nx;omega) rfl
  ·have hyo:=(hG.ok y (by simp)).1;obtain⟨ys,yp,ya⟩:=y;have hys:=hyo.st;have hyp:=hyo.pos;simp only at hys hyp;simp only[List.length_append,List.length_singleton] at hTl;have hls':lk (LT W ws s (T'++[⟨ys,yp,ya⟩]) q O u N) s=some ⟨T'.map JY++[[AV.lit (.int .i64 (ys:Int)),AV.lit (.int .i64 (yp:Int)),.vec (ya.map JG) false]],0,3⟩:=by rw[hls];unfold tkN;rw[List.map_append];rfl
   have g1:(T'.map JY++[[AV.lit (.int .i64 (ys:Int)),AV.lit (.int .i64 (yp:Int)),AV.vec (ya.map JG) false]])[T'.length]? = some [AV.lit (.int .i64 (ys:Int)),AV.lit (.int .i64 (yp:Int)),.vec (ya.map JG) false]:=by rw[List.getElem?_append_right (by simp)];simp
   have i1:(((T'.length+1:Nat):Int) - 1).toNat=T'.length:=by omega
   have hdx:List.drop 3 x=[]:=List.drop_eq_nil_of_le (by omega);have tk1:(T'.map JY++[[AV.lit (.int .i64 (ys:Int)),AV.lit (.int .i64 (yp:Int)),AV.vec (ya.map JG) false]]).take T'.length=T'.map JY:=by rw[List.take_append_of_le_length (by simp),List.take_of_length_le (by simp)]
   refine Jq ?_;refine Jl ?_;simp -implicitDefEqProofs (disch:=omega) only[Wz,seval,Ly,Lx,eS,eB,hls',List.length_append,List.length_singleton,g1,i1,hx3,hdx];refine Jq ?_;refine Jl ?_;simp -implicitDefEqProofs (disch:=omega) only[Wz,seval,Ly,Lx,eS,eB,hls',List.length_append,List.length_singleton,g1,i1,hx3,hdx];refine Jq ?_;refine Jl ?_;simp -implicitDefEqProofs (disch:=omega) only[Wz,seval,Ly,Lx,eS,eB,hls',List.length_append,List.length_singleton,g1,i1,hx3,hdx];refine JcD (k:=⟨T'.map JY++[[AV.lit (.int .i64 (ys:Int)),AV.lit (.int .i64 (yp:Int)),.vec (ya.map JG) false]],0,3⟩) rfl rfl JnG rfl JnF rfl hls' (by simp) (by omega) (by omega) (by simp) ?_;simp -implicitDefEqProofs (disch:=omega) only[Wz,seval,Ly,Lx,Hp.cut,i1,tk1,hdx];refine Jco (σ':=⟨eS r a cnt q O u N,⟨eB n o l md r nx T' (JY ⟨ys,yp,ya⟩),LT W ws nx T' q O u N,nx+1⟩,147⟩) ?_ ?_
   ·exact Jn (by simp[eS,lk]) (fun _ _ e=>e) (fun i c e=>Jye hD e) rfl rfl
   have hD1:=hD.news (Nat.lt_succ_self nx);clear hls hls' g1 i1 tk1 hdx hD hx3;have hN:=hD1.n7;have b1:n.states.length * l.length<=1500 * 1000:=Nat.mul_le_mul hst hll;have hil:=JoP hys hyp;obtain⟨i,hi⟩:∃ i,ys * l.length+yp=i:=⟨_,rfl⟩;rw[hi] at hil;have hmul:IntKind.i64.wrap ((ys:Int) * (l.length:Int))=((ys * l.length:Nat):Int):=by rw[<- Int.natCast_mul];exact Jdh (by omega) (by omega)
   have hadd:IntKind.i64.wrap (((ys * l.length:Nat):Int)+(yp:Int))=(i:Int):=by rw[<- Int.natCast_add,hi];exact Jdh (by omega) (by omega)
   have hlen:=hB.len;have hcw:cnt=ws.length:=by rw[hlen,hcnt]
   have hix:=hB.idx hys hyp;rw[hi] at hix;have hbit:=hB.bit ys yp hys hyp;rw[hi] at hbit;refine Jq ?_;refine Jl ?_;simp -implicitDefEqProofs (disch:=omega) only[Wz,seval,Ly,Lx];refine JdK (n:=147) 14 (.alt 14 .leaf .nil) rfl (by decide) (by decide) mixed (by kernel_rfl) (by decide) ?_;simp -implicitDefEqProofs (disch:=omega) only[Wz,seval,Ly,Lx,eS,eB,Jaq,Jh,JY,hmul,hadd,hcw];refine JM Jxk (JoH ws i 3 _ hB.lt hix (by omega) rfl) ?_;rintro r0 h' ⟨rfl,rfl⟩;cases hb:(ws.getD (i / 64) 0).testBit (i % 64) with
   | true =>
    rw[hb] at hbit;have hin:(ys,yp)∈S:=hbit.1 rfl;simp -implicitDefEqProofs (disch:=omega) only[Wz,seval,Ly,Lx];refine⟨_,?_,muE n l S T',?_,hJi (hG.seen fk hin) (by have:=hB.mark (S':=S) hys hyp (fun z=>⟨.inl,fun q=>q.elim id (fun q=>by rw[q];exact hin)⟩);rw[hi] at this;exact this) hW hD1 hq0 hu0 (x:=JY ⟨ys,yp,ya⟩) rfl⟩
    ·exact Jn (by simp[eS,lk,hcw]) (fun _ _ e=>e) (fun _ _ e=>e) rfl rfl
    ·rw[hμ];exact Jql n l S T' _
   | false =>
    rw[hb] at hbit;have hnin:(ys,yp)∉S:=fun q=>by have:=hbit.2 q;cases this
    have hB1:=hB.mark (S':=S++[(ys,yp)]) hys hyp (fun z=>by simp);rw[hi] at hB1;clear hb hbit hix hB hlen;simp -implicitDefEqProofs (disch:=omega) only[Wz,seval,Ly,Lx];obtain⟨ws',hws'⟩:∃ ws',JgR ws i=ws':=⟨_,rfl⟩;refine Jco (σ':=⟨eS r a cnt q O u N,⟨eB n o l md r nx T' (JY ⟨ys,yp,ya⟩),LT W ws' nx T' q O u N,nx+1⟩,147⟩) ?_ ?_
    ·exact Jn (by simp[eS,lk,hcw]) (fun _ _ e=>e) (fun _ _ e=>by rw[<- hws'] at e;exact e) rfl rfl
    rw[hws'] at hB1;clear hws' hcw ws;refine Jq ?_;refine Jl ?_;by_cases hsp:ys=spN n r
    ·have hfit:JbS (O.length+1) 32=True:=eq_true (J2 (by omega) (by omega));have hfit1:JbS 1 32=True:=eq_true (J2 (by decide) (by decide));have hG1:=hG.stop fk hnin hsp;have hmu:=JlC (X:=[]) hG hnin (Nat.zero_le _);rw[List.append_nil] at hmu;cases q with
     | none =>
      have:=hq0 rfl;subst this;simp -implicitDefEqProofs (disch:=omega) only[Wz,seval,Ly,Lx,eS,eB,JY,Jf,hrr,hsp2,hsp,Jtf,JyO,JBf,hfit1,true_and,if_true];refine⟨_,?_,_,?_,hJi hG1 hB1 hW (hD1.newq (Nat.lt_succ_self _)) (fun q=>by cases q) hu0 (x:=JY ⟨ys,yp,ya⟩) rfl⟩
      ·refine Jn (by simp[eS,lk,Jtf]) (fun i c e=>?_) (fun i c e=>JsF hD1 e) rfl rfl;simp only[eB,hrr,Jf,JY,hsp2,hsp] at e ⊢;exact e
      ·rw[hμ];exact hmu
     | some v =>
      have hlq:=Jzc (W:=W) (ws:=ws') (T:=T') (O:=O) (N:=N) hD1 rfl;have hupq:=Jyc (W:=W) (ws:=ws') (T:=T') (O:=O) (N:=N) hD1 rfl (O':=O++[⟨yp,ya⟩]);rw[List.map_append] at hupq;simp only[List.map_cons,List.map_nil,JaQ] at hupq;simp -implicitDefEqProofs (disch:=omega) only[Wz,seval,Ly,Lx,eS,eB,JY,Jf,hrr,hsp2,hsp,Jtf,JyO,hlq,hupq,hfit,true_and,if_true];refine⟨_,?_,_,?_,hJi hG1 hB1 hW (hD1.up (Nat.le_refl _)) (fun q=>by cases q) hu0 (x:=JY ⟨ys,yp,ya⟩) rfl⟩
      ·refine Jn (by simp[eS,lk,Jtf]) (fun i c e=>?_) (fun i c e=>e) rfl rfl;simp only[eB,hrr,Jf,JY,hsp2,hsp] at e ⊢;exact e
      ·rw[hμ];exact hmu
    ·have hG1:=hG.push w g.u mu fk hrk hR hnin hsp;have hE:∀ e∈(n.states.getD ys default).edges,e.op.1=2->(eF n o l md k e.n.toNat yp).length<=l.length:=fun e he h2=>JmC w g.u (by have:=w.call hys he h2;omega) hyp;have hNl:=JlA w g.u (o:=o) (md:=md) (E:=eF n o l md k) (t:=⟨ys,yp,ya⟩) hE;have hdeg:=Jx9 hys;have hXX:(Jcs n o l md (eF n o l md k) ⟨ys,yp,ya⟩).reverse.length<=Jpn n * l.length:=by
      rw[List.length_reverse];exact Nat.le_trans hNl (Nat.mul_le_mul_right _ hdeg)
     have hmu:=JlC hG hnin hXX;have hspI:((ys:Int)==(spN n r:Int))=false:=Jsn (by omega);simp -implicitDefEqProofs (disch:=omega) only[Wz,seval,Ly,Lx,eS,eB,JY,Jf,hrr,hsp2];refine Jq ?_;refine Jw (n:=147) rfl (by decide) mixed ?_;obtain⟨es,hes⟩:∃ es,(n.states.getD ys default).edges=es:=⟨_,rfl⟩;have hesl:es.length<=1000000000:=by rw[<- hes];exact g.ok.edgesD ys
     obtain⟨ss,hss⟩:∃ ss,n.states.getD ys default=ss:=⟨_,rfl⟩;simp -implicitDefEqProofs (disch:=omega) only[Wz,seval,Ly,Lx,Jaq,Jh,Je,hss];rw[<- hss,hes];obtain⟨t,ht⟩:∃ t:Tr,t=⟨ys,yp,ya⟩:=⟨_,rfl⟩;have t1:t.st=ys:=by rw[ht]
     have t2:t.pos=yp:=by rw[ht]
     have hyt:JgP n l t:=by rw[ht];exact hyo
     have hta:t.acts.length<=2000000000000:=by
      have h1:=hG.acts ⟨ys,yp,ya⟩ (by simp);have h2:=Nat.le_trans (JoA g.w g.u hG.nd hG.inr) b1;have h3:=Nat.mul_le_mul_left JiE h2;rw[ht];unfold JiE at *;omega
     have hmt:=(hG.ok ⟨ys,yp,ya⟩ (by simp)).2;rw[<- ht] at hG1 hNl hmu hXX hmt;refine Jco (σ':=⟨(14,.vec (es.map Jr) false) :: eS r a cnt q O u N,⟨eB n o l md r nx T' (JY t),LT W ws' nx T' q O u N,nx+1⟩,147⟩) ?_ ?_
     ·refine Jn (by simp[eS,lk]) (fun i c e=>?_) (fun i c e=>e) rfl rfl;rw[ht] at e;simp only[eB,hrr,Jf,JY,hsp2,Jaq,Jh,List.cons_append,List.nil_append] at e ⊢;exact e
     refine Jmy (fun σ2=>∃ u1 nx1,Dj nx q u1 nx1/\σ2=⟨(14,.vec (es.map Jr) false) :: eS r a cnt q O u1 [],⟨eB n o l md r nx T' (JY t),LT W ws' nx T' q O u1 [],nx1⟩,147⟩) ?_ ?_
     ·refine Jl ?_;cases u with
      | none =>
       have hsl:Je4 3 [] true none (some 0) none=some (.vec [] true):=by simp[Je4,Jdd]
       simp -implicitDefEqProofs (disch:=omega) only[Wz,seval,Ly,Lx,eS,nxV,hsl,Option.map_some];refine⟨_,?_,none,nx+1,hD1,rfl⟩;refine Jn (by simp[lk]) (fun _ _ e=>e) (fun i c e=>?_) rfl rfl;have:=hu0 rfl;subst this;exact e
      | some v =>
       have hlu:=JyQ (W:=W) (ws:=ws') (T:=T') (O:=O) (N:=N) hD1 rfl;have hv:=hD1.hu v rfl;simp -implicitDefEqProofs (disch:=omega) only[Wz,seval,Ly,Lx,eS,nxV];refine JcD (k:=tkN N) rfl rfl JnG rfl JnF rfl hlu (by simp[tkN]) (by omega) (by omega) (by simp[tkN]) ?_;simp -implicitDefEqProofs (disch:=omega) only[Wz,seval,Ly,Lx,Hp.cut];refine⟨_,?_,some (nx+1),nx+2,⟨by omega,hD1.s4,by omega,fun p hp=>by have:=hD1.hq p hp;exact⟨this.1,by omega,this.2.2⟩,fun p hp=>by cases hp;exact⟨by omega,by omega,by omega,fun e=>by have:=hD1.hq _ e;omega⟩⟩,rfl⟩;exact Jn (by simp[lk]) (fun _ _ e=>e) (fun i c e=>JsG hD1 rfl e) rfl rfl
     rintro σ2 ⟨u1,nx1,hD2,rfl⟩;refine Jq ?_;refine Jl ?_;simp -implicitDefEqProofs (disch:=omega) only[Wz,seval,Ly,Lx,eS];obtain⟨NN,hNN⟩:∃ NN:Nat->List Tr,(fun i=>(es.take i).flatMap fun e=>Jd1 o l md (eF n o l md k) e t)=NN:=⟨_,rfl⟩;have hNe:NN es.length=Jcs n o l md (eF n o l md k) t:=by rw[<- hNN];simp only[List.take_length];unfold Jcs;rw[t1,hes]
     have hNl1:∀ i,(NN i).length<=1500000000:=fun i=>by
      have h1:(NN i).length<=(Jcs n o l md (eF n o l md k) t).length:=by
       rw[<- hNe,<- hNN];simp only[List.take_length];conv=>rhs;rw[<- List.take_append_drop i es]
       rw[List.flatMap_append,List.length_append];omega
      have h2:(Jpn n) * l.length<=1048576 * 1000:=Nat.mul_le_mul mu.es hll;rw[List.length_reverse] at hXX;omega
     refine Js (fun(z:Nat × Td × Option Nat × Nat)=>⟨(129,.lit (.int .i64 (z.1:Int))) :: (128,.lit (.int .i64 (es.length:Int))) :: (127,.vec (es.map Jr) false) :: eS r a cnt q O z.2.2.1 (NN z.1),⟨eB n o l md r nx T' (JY t),LT z.2.1 ws' nx T' q O z.2.2.1 (NN z.1),z.2.2.2⟩,147⟩)
      (fun z=>z.1<=es.length/\JdT n o l md k z.2.1/\Dj nx q z.2.2.1 z.2.2.2/\(z.2.2.1=none->NN z.1=[])) (fun z=>es.length - z.1) (0,W,u1,nx1)
      (by
       have e0:NN 0=[]:=by rw[<- hNN];rfl
       simp only[e0];exact Jn (by simp[eS,lk]) (fun _ _ e=>e) (fun _ _ e=>e) rfl rfl) ⟨Nat.zero_le _,hW,hD2,fun _=>by rw[<- hNN];rfl⟩ ?_
     clear hD2 hW;rintro⟨i,W,u,m⟩ ⟨hi2,hW,hD2,hu0⟩;simp only at hi2 hW hD2 hu0 ⊢;have hm7:=hD2.n7;refine Jl ?_;rcases Nat.lt_or_ge i es.length with hlt | hge
     ·obtain⟨e,hee⟩:∃ e,es.getD i default=e:=⟨_,rfl⟩;have hem:e∈(n.states.getD t.st default).edges:=by rw[t1,hes,<- hee];exact Jv hlt
      have hNs:NN (i+1)=NN i++Jd1 o l md (eF n o l md k) e t:=by
       rw[<- hNN];simp only;rw[List.take_succ_eq_append_getElem hlt,List.flatMap_append,<- hee,List.getD_eq_getElem?_getD,List.getElem?_eq_getElem hlt];simp
      have hNi:=hNl1 i;have h1:=JBo (W:=W) (ws:=ws') (s:=nx) (T:=T') (q:=q) (O:=O) (u:=u) (N:=NN i);have hst8:=fun H hn hb hk hno hu hf=>JsB n o l md k g t hyt e hem hta (by have:=mu.acts t.st e hem;unfold JiE at this;omega)
       (fun h2=>by
        have hc:=w.call hyt.st hem h2;refine ih e.n.toNat t.pos (by omega) hyt.pos (Nat.lt_of_lt_of_le ?_ hmt);have:=hrk.call _ _ hyt.st hem h2;unfold mT;simp only;omega)
       (fun h2=>by rw[t1] at hem;have:=hE e hem h2;rw[t2];omega) W hW u (NN i) hNi hu0 H hn hb hk hno hu hf
      simp -implicitDefEqProofs (disch:=omega) only[Wz,seval,Ly,Lx,eS,eB,hee];refine JM Jxl (hst8 _ (by show 2<=m+1;omega) rfl rfl (JkI hD2 (.inl rfl)) (fun v hv=>⟨by have:=hD2.hu v hv;omega,by have:=hD2.hu v hv;show v<m+1;omega,JyQ hD2 hv⟩) (fun j hj=>JkI hD2 (.inr (by have:m+1<=j:=hj;omega)))) ?_;rintro r0 h' ⟨u2,W2,m2,rfl,hW2,hm2,hx2,hu2,rfl⟩;have hm2:m+1<=m2:=hm2;have hx2:Nx u u2 (m+1) m2:=hx2;rw[<- hNs] at hu2 ⊢;simp -implicitDefEqProofs (disch:=omega) only[Wz,seval,Ly,Lx];refine⟨(i+1,W2,u2,m2),⟨by show i+1<=_;omega,hW2,hD2.newu (hx2.le (Nat.le_succ _) (Nat.le_refl _)) (show m<=m2 by omega),hu2⟩,by show es.length - (i+1)<_;omega,?_⟩;refine Jn (by simp[eS,lk]) (fun j c q=>JbD (l:=eB n o l md r nx T' (JY t)) q) (fun j c q=>?_) rfl rfl;have:=Jzd (W:=W) (ws:=ws') (T:=T') (O:=O) (N:=NN i) hD2 (W':=W2) (M:=NN (i+1)) (hx2.le (Nat.le_succ _) (Nat.le_refl _));rw[this];exact q
     ·have hie:i=es.length:=by omega
      subst hie;rw[hNe] at hu0 ⊢;obtain⟨NX,hNX⟩:∃ NX,Jcs n o l md (eF n o l md k) t=NX:=⟨_,rfl⟩;rw[hNX] at hu0 hG1 hmu hXX ⊢;clear hNe hNl1 hNN hE;have hNXl:NX.length<=1048576000:=by
       have h2:(Jpn n) * l.length<=1048576 * 1000:=Nat.mul_le_mul mu.es hll;rw[List.length_reverse] at hXX;omega
      simp -implicitDefEqProofs (disch:=omega) only[Wz,seval,Ly,Lx];refine Jq ?_;refine Jq ?_;refine Jl ?_;simp -implicitDefEqProofs (disch:=omega) only[Wz,seval,Ly,Lx,eS];refine JM Jxm (Jig u NX _) ?_;rintro r0 h' ⟨rfl,rfl⟩;simp -implicitDefEqProofs (disch:=omega) only[Wz,seval,Ly,Lx];refine JQ ?_;refine Jco (σ':=⟨(140,.fn (.func 73) [] [.ptr m 0]) :: eS r a cnt q O u NX,⟨eB n o l md r nx T' (JY t)++[(m,[nxV u NX])],LT W ws' nx T' q O u NX,m+1⟩,147⟩) (Jn (by simp[eS,lk]) (fun _ _ e=>e) (fun _ _ e=>e) rfl rfl) ?_;refine Jfc (gf:=73) (first:=[]) (lb:=[.ptr m 0]) rfl JxA (fun p hp=>?_);obtain⟨TT,hTT⟩:∃ TT:Nat->List Tr,(fun j=>T'++(NX.drop j).reverse)=TT:=⟨_,rfl⟩;have hT0:TT 0=T'++NX.reverse:=by rw[<- hTT];rfl
      have hTn:TT NX.length=T':=by rw[<- hTT];simp
      have hTs:∀ j,j<NX.length->TT j=TT (j+1)++[NX.getD j default]:=fun j hj=>by rw[<- hTT];simp only;rw[JbE hj,List.reverse_cons,List.append_assoc]
      have hTl2:∀ j,(TT j).length<=1050000000000+1048576000:=fun j=>by
       rw[<- hTT];simp only[List.length_append,List.length_reverse,List.length_drop];omega
      obtain⟨I,hI⟩:∃ I:Nat->Hp->Prop,(fun j H=>∃ x,m+2<=x/\H=⟨eB n o l md r nx (TT j) (JY t)++[(m,[nxV u NX])],LT W ws' nx (TT j) q O u NX++[(m+1,Jbc 1)],x⟩)=I:=⟨_,rfl⟩;have hIe:∀ j H,I j H->∃ x,m+2<=x/\H=⟨eB n o l md r nx (TT j) (JY t)++[(m,[nxV u NX])],LT W ws' nx (TT j) q O u NX++[(m+1,Jbc 1)],x⟩:=fun j H h=>by rw[<- hI] at h;exact h
      have hIi:∀ j x,m+2<=x->I j ⟨eB n o l md r nx (TT j) (JY t)++[(m,[nxV u NX])],LT W ws' nx (TT j) q O u NX++[(m+1,Jbc 1)],x⟩:=fun j x h=>by rw[<- hI];exact⟨x,h,rfl⟩
      clear hI;have hno:∀ j,lk (LT W ws' nx (TT j) q O u NX) (m+1)=none:=fun j=>JkI hD2 (.inr (Nat.le_succ m));refine J4.mono (Jx4 NX (by omega) (nxV u NX) m I (fun j H hj=>?_) ?_ (fun j H hj hIj=>?_) _ ?_) ?_
      ·obtain⟨x,_,rfl⟩:=hIe j H hj;show lk (eB n o l md r nx (TT j) (JY t)++[(m,[nxV u NX])]) m=_;unfold eB;simp only[lk,List.cons_append,List.nil_append];rw[if_neg (by omega),if_neg (by omega),if_neg (by omega),if_neg (by omega),if_pos trivial]
      ·cases u with
       | none=>exact .inl ⟨hu0 rfl,rfl⟩
       | some v =>
        refine .inr ⟨v,rfl,fun j H hj=>?_⟩;obtain⟨x,_,rfl⟩:=hIe j H hj;exact JbD (JyQ hD2 rfl)
      ·obtain⟨x,hx,rfl⟩:=hIe (j+1) H hIj;refine hp _ _ _ ⟨?_,rfl,?_⟩
       ·show lk (LT W ws' nx (TT (j+1)) q O u NX++[(m+1,Jbc 1)]) (m+1)=_;rw[JP,hno];simp[lk]
       refine Jl ?_;obtain⟨z,hz⟩:∃ z,NX.getD j default=z:=⟨_,rfl⟩;have hTz:=hTs j hj;rw[hz] at hTz ⊢;have hup2:up (LT W ws' nx (TT (j+1)) q O u NX++[(m+1,Jbc 1)]) (m+1) (Jbc 2)=LT W ws' nx (TT (j+1)) q O u NX++[(m+1,Jbc 2)]:=Jgw (hno _);have hlk2:lk (LT W ws' nx (TT (j+1)) q O u NX++[(m+1,Jbc 2)]) nx=some ⟨(TT (j+1)).map JY,0,3⟩:=JbD (JyP hD2);have hups:up (LT W ws' nx (TT (j+1)) q O u NX++[(m+1,Jbc 2)]) nx ⟨(TT (j+1)).map JY++[JY z],0,3⟩=LT W ws' nx (TT j) q O u NX++[(m+1,Jbc 2)]:=by
        rw[Jrz (JyP hD2),hTz];have:=Jyb (W:=W) (ws:=ws') (T:=TT (j+1)) (O:=O) (N:=NX) hD2 (T':=TT (j+1)++[z]);unfold tkN at this;rw[List.map_append] at this;exact congrArg (· ++ [(m+1,Jbc 2)]) this
       have hf3:JbS ((TT (j+1)).length+1) 40=True:=eq_true (by have:=hTl2 (j+1);exact⟨by unfold maxLen;omega,by omega⟩);have hz3:(∀ q',q'∈[JY z]->q'.length=3)=True:=tr3 [z];simp -implicitDefEqProofs (disch:=omega) only[Wz,seval,Ly,Lx,putL,eS,eB,Hp.lp,hup2];refine⟨?_,?_⟩
       ·rw[JP,hno];simp[lk]
       refine JQ ?_;refine Jl ?_;simp -implicitDefEqProofs (disch:=omega) only[Wz,seval,Ly,Lx,hlk2,hups,hf3,hz3];refine⟨⟨[],⟨eB n o l md r nx (TT j) (JY t)++[(m,[nxV u NX])],LT W ws' nx (TT j) q O u NX++[(m+1,Jbc 2)],x+1⟩,147⟩,?_,?_,rfl,?_⟩
       ·refine Jn Jm (fun i c e=>?_) (fun _ _ e=>e) rfl rfl;rw[hTz] at e;simp only[eB,List.length_append,List.length_singleton] at e;exact JbD (x:=[(x,JY z)]) e
       ·show lk (LT W ws' nx (TT j) q O u NX++[(m+1,Jbc 2)]) (m+1)=_;rw[JP,hno];simp[lk]
       ·have h5:up (LT W ws' nx (TT j) q O u NX++[(m+1,Jbc 2)]) (m+1) (Jbc 1)=LT W ws' nx (TT j) q O u NX++[(m+1,Jbc 1)]:=Jgw (hno _);have h6:=hIi j (x+1) (by omega);unfold Hp.lp;simp only;rw[h5];exact h6
      ·have:=hIi NX.length (m+2) (Nat.le_refl _);rw[hTn] at this;exact this
      ·rintro r0 h' ⟨rfl,h1⟩;obtain⟨x,hx,rfl⟩:=hIe _ _ h1;refine⟨1,Nat.le_refl _,by decide,?_,.inl ⟨rfl,?_⟩⟩
       ·show lk (LT W ws' nx (TT 0) q O u NX++[(m+1,Jbc 1)]) (m+1)=_;rw[JP,hno];simp[lk]
       rw[t1,t2] at hG1 hmu;rw[hT0];show Aw _ _ _ _;refine Jl ?_;simp -implicitDefEqProofs (disch:=omega) only[Wz,seval,Ly,Lx];refine⟨_,?_,_,?_,hJi hG1 hB1 hW (hD2.up (show m<=x by omega)) hq0 hu0 (x:=JY t) rfl⟩
       ·refine Jn (by simp[eS,lk]) (fun i c e=>JbD e) (fun i c e=>?_) rfl rfl;show lk (dl (LT W ws' nx (T'++NX.reverse) q O u NX++[(m+1,Jbc 1)]) (m+1)) i=some c;rw[JgK];have hne:m+1≠i:=fun q=>by
         subst q;have e:lk (LT W ws' nx (T'++NX.reverse) q O u NX) (m+1)=some c:=e;rw[JkI hD2 (.inr (Nat.le_succ m))] at e;cases e
        rw[if_neg hne];exact JbD e
       ·rw[hμ,<- ht];exact hmu
end Go.Proofs.Y
end
section
namespace Go.Proofs.Y
open Go Go.Ab
theorem JlD{n:Nt}{o:List Orc}{l:List Un}{md:Int}{k:Nat}(g:Jrx n o l md)(mu:JoR n)(fk:JmB n o l md k)(h:∃ rk,Rk n rk)(r a:Nat)(hr:r<n.rules.length)(ha:a<l.length):JbR n o l md k r a:=by
 obtain⟨rk,hrk⟩:=h;obtain⟨R,hR⟩:=Jid rk n.states.length;have key:∀ (m r a:Nat),mT l rk R ⟨stN n r,a,[]⟩<m->r<n.rules.length->a<l.length->JbR n o l md k r a:=by
  intro m;induction m with
  | zero=>intro r a h;omega
  | succ m ih =>
   intro r a h hr ha;exact JmG n o l md k g mu fk rk R hrk hR r a hr ha fun r' a' h1 h2 h3=>ih r' a' (by omega) h1 h2
 exact key _ r a (Nat.lt_succ_self _) hr ha
def JoT(n:Nt)(o:List Orc)(l:List Un)(md:Int)(k:Nat)(f:Nat)(args:List AV)(v:AV):Prop :=
 ∀ W,JdT n o l md k W->J4 Tryz.prog f (.ptr 0 0 :: args) (hL n o l md W) fun r h'=>r=v/\∃ W',JdT n o l md k W'/\h'=hL n o l md W'
section
variable {n:Nt} {o:List Orc} {l:List Un} {md:Int} {k:Nat} {f:Nat} {args:List AV} {v:AV}
theorem JsH(h:JoT n o l md k f args v)(hp:∀ x∈args,Ab.Pure x)(hv:Ab.Pure v)(H:Hp)(ai wi:Nat)(W:Td)(hW:JdT n o l md k W)(h0:lk H.boxes ai=some (Jaq n o l md wi))(h1:lk H.toks wi=some (Jaa W))
  (d1:ai≠wi) (l0:ai<H.nx) (l1:wi<H.nx) (hno:lk H.toks ai=none) :
  J4 Tryz.prog f (.ptr ai 0 :: args) H fun r h'=>r=v/\∃ W',JdT n o l md k W'/\h'=⟨H.boxes,up H.toks wi (Jaa W'),H.nx⟩:=by
 let ρ:Nat->Nat:=fun i=>if i=0 then ai else wi
 have r0:ρ 0=ai:=rfl;have r1:ρ 1=wi:=rfl;have cases2:∀ i,i<2->i=0\/i=1:=fun i hi=>by omega
 have hinj:∀ i j,i<2->j<2->ρ i=ρ j->i=j:=fun i j hi hj e=>by
  rcases cases2 i hi with rfl | rfl <;> rcases cases2 j hj with rfl | rfl <;> simp only[r0,r1] at e <;> first | rfl | exact absurd e (by assumption) | exact absurd e.symm (by assumption)
 refine J4.sub (hs:=hL n o l md W) ρ hinj (fun i hi=>?_) (.cons (.ptr (by show 0<2;decide) rfl) (RnL.pure hp)) (Jc ⟨by show 0<2;decide,_,h0,Jbl n o l md (by show 1<2;decide) rfl⟩ Jm)
  (Jc ⟨by show 1<2;decide,_,h1,rfl,rfl,.pure (Jau W)⟩ Jm) (h W hW) ?_
 ·rcases cases2 i hi with rfl | rfl
  ·exact l0
  ·exact l1
 ·rintro v h' ⟨rfl,W',hW',rfl⟩ _;refine⟨_,⟨H.boxes,up H.toks wi (Jaa W'),H.nx⟩,0,Nat.le_refl _,rfl,.pure hv,fun i cs' e=>?_,fun i k' e=>?_,rfl,W',hW',rfl⟩
  ·by_cases q:i=ai
   ·subst q;have e:lk H.boxes i=some cs':=e;rw[h0] at e;cases e;exact .inl ⟨0,_,by show 0<2;decide,rfl,rfl,Jbl n o l md (by show 1<2;decide) rfl⟩
   ·refine .inr ⟨e,fun j cj ej=>?_⟩;have:j=0:=by
     simp only[hL,lk] at ej;split at ej
     ·omega
     ·cases ej
    subst this;exact fun q'=>q q'.symm
  ·have e:lk (up H.toks wi (Jaa W')) i=some k':=e;rw[JV] at e;by_cases q1:wi=i
   ·rw[if_pos q1,h1] at e;simp only[Option.map_some,Option.some.injEq] at e;exact .inl ⟨1,Jaa W',by show 1<2;decide,q1,rfl,by rw[<- e],by rw[<- e],by rw[<- e];exact .pure (Jau W')⟩
   ·rw[if_neg q1] at e;refine .inr ⟨e,fun j hj=>?_⟩;rcases cases2 j hj with rfl | rfl
    ·intro q;rw[r0] at q;rw[q,e] at hno;cases hno
    ·exact q1
theorem JsI(hv:Ab.Pure v)(h:∀ W,JdT n o l md k W->J4 Tryz.prog f (.ptr 0 0 :: args) (hL n o l md W) fun r h'=>r=v/\∃ W',JdT n o l md k W'/\lk h'.boxes 0=some (Jaq n o l md 1)/\lk h'.toks 1=some (Jaa W')/\2<=h'.nx):JoT n o l md k f args v:=fun W hW =>
 J4.told (h W hW) fun r h' ⟨e,W',h1,h2,h3,h4⟩=>by
  subst e;exact⟨r,hL n o l md W',Ja3 (Nat.le_refl _) h4 rfl (Jc ⟨rfl,.pure hv⟩ Jm) (Jc ⟨by show 0<2;decide,h2,Jbl n o l md (by show 1<2;decide) rfl⟩ Jm) (Jc ⟨by show 1<2;decide,h3,.pure (Jau W')⟩ Jm),rfl,W',h1,rfl⟩
end
def JmH:Option En->List AV
 | none=>[.lit (.int .i64 0),.vec [] true]
 | some y=>JaQ y
def JyR (b:Option En):AV:=.tup [.agg (JmH b),.lit (.bool b.isSome)]
theorem JkL(b:Option En):(JmH b).length=2:=by cases b <;> rfl
theorem JoU(b:Option En):(JmH b).take 2=JmH b:=by cases b <;> rfl
theorem JoV(b:Option En):∀ c∈JmH b,Ab.Pure c:=by
 cases b with
 | none=>exact Jc (.lit _) (Jc (.vec (by simp)) Jm)
 | some y=>exact Jhi y
theorem Jjt(b:Option En):Ab.Pure (JyR b):=.tup (Jc (.agg (JoV b)) (Jc (.lit _) Jm))
theorem JmI(lz:Bool)(ys:List En)(z:En):JeG lz (ys++[z])=some (match JeG lz ys with | none=>z | some b=>JeF lz b z):=by
 cases ys with
 | nil=>rfl
 | cons y ys=>simp[JeG,List.foldl_append]
theorem Jij{n:Nt}{o:List Orc}{l:List Un}{md:Int}{k:Nat}(g:Jrx n o l md)(r a:Nat)(hr:r<n.rules.length)(ha:a<l.length)(he:JbR n o l md k r a) :
  JoT n o l md k 45 [.lit (.int .i64 (r:Int)),.lit (.int .i64 (a:Int))] (JyR (JeG (n.rules.getD r default).lz (eF n o l md k r a))):=by
 refine JsI (Jjt _) fun W0 hW0=>?_
 refine JiV Tryz.func45 rfl Tryz.ntmps45 (rs:=[.cell 6 68,.tmp 7]) rfl (by simp) ?_;have hel:=JmC g.w g.u (o:=o) (md:=md) (k:=k) hr ha;have hll:=g.len;have hru:=g.w.nru;obtain⟨ys,hys⟩:∃ ys,eF n o l md k r a=ys:=⟨_,rfl⟩;obtain⟨rr,hrr⟩:∃ rr,n.rules.getD r default=rr:=⟨_,rfl⟩;simp -implicitDefEqProofs (disch:=omega) only[Wz,seval,Ly,Lx,hL];refine JM JnQ (JkG he _ 0 1 W0 hW0 rfl rfl (by decide) (by show 0<3;decide) (by show 1<3;decide) rfl) ?_;rintro r0 h' ⟨rfl,W,hW,rfl⟩;rw[hys] at hel ⊢;rw[hrr];simp -implicitDefEqProofs (disch:=omega) only[Wz,seval,Ly,Lx,enV];refine Js (fun z:Nat × Nat=>⟨[(0,.ptr 0 0),(1,.lit (.int .i64 (r:Int))),(6,.ptr 2 0),(7,.lit (.bool (JeG rr.lz (ys.take z.1)).isSome)),(13,.vec (ys.map JaQ) false),(14,.lit (.int .i64 (ys.length:Int))),(15,.lit (.int .i64 (z.1:Int)))],⟨[(0,Jaq n o l md 1),(2,JmH (JeG rr.lz (ys.take z.1)))],[(1,Jaa W)],z.2⟩,44⟩) (fun z=>z.1<=ys.length/\3<=z.2) (fun z=>ys.length - z.1) (0,3) (Jn (by simp[lk,JeG]) (fun _ _ e=>e) (fun _ _ e=>e) rfl rfl) ⟨Nat.zero_le _,by show 3<=3;decide⟩ ?_;rintro⟨j,m⟩ ⟨hj,hm⟩;simp only at hj hm ⊢;refine Jl ?_;rcases Nat.lt_or_ge j ys.length with hlt | hge
 ·obtain⟨z,hz⟩:∃ z,ys.getD j default=z:=⟨_,rfl⟩;have hs:=JmI rr.lz (ys.take j) z;rw[<- hz,List.getD_eq_getElem?_getD,List.getElem?_eq_getElem hlt,Option.getD_some,<- List.take_succ_eq_append_getElem hlt] at hs;rw[show ys[j]=z by rw[<- hz,List.getD_eq_getElem?_getD,List.getElem?_eq_getElem hlt];rfl] at hs;obtain⟨b,hb⟩:∃ b,JeG rr.lz (ys.take j)=b:=⟨_,rfl⟩;rw[hb] at hs ⊢;cases b with
  | none =>
   simp only at hs;simp -implicitDefEqProofs (disch:=omega) only[Wz,seval,Ly,Lx,hz,JmH,Option.isSome,JaQ,Jaq,Jh];refine⟨(j+1,m+1),⟨by show j+1<=_;omega,by show 3<=m+1;omega⟩,by show ys.length - (j+1)<_;omega,?_⟩;simp only[hs];exact Jn (by simp[lk]) (fun _ _ e=>JbD e) (fun _ _ e=>e) rfl rfl
  | some b =>
   by_cases h1:b.pos<z.pos
   ·cases hlz:rr.lz with
    | true =>
     rw[hlz] at hs;have hst:JeF true b z=b:=by unfold JeF;rw[if_neg (fun q=>by cases q.2)]
     simp only[hst] at hs;simp -implicitDefEqProofs (disch:=omega) only[Wz,seval,Ly,Lx,hz,JmH,Option.isSome,JaQ,Jaq,Jh,hrr,Jf,hlz];refine⟨(j+1,m+1),⟨by show j+1<=_;omega,by show 3<=m+1;omega⟩,by show ys.length - (j+1)<_;omega,?_⟩;simp only[hs];exact Jn (by simp[lk]) (fun _ _ e=>JbD e) (fun _ _ e=>e) rfl rfl
    | false =>
     rw[hlz] at hs;have hst:JeF false b z=z:=by unfold JeF;rw[if_pos ⟨h1,rfl⟩]
     simp only[hst] at hs;simp -implicitDefEqProofs (disch:=omega) only[Wz,seval,Ly,Lx,hz,JmH,Option.isSome,JaQ,Jaq,Jh,hrr,Jf,hlz];refine⟨(j+1,m+1),⟨by show j+1<=_;omega,by show 3<=m+1;omega⟩,by show ys.length - (j+1)<_;omega,?_⟩;simp only[hs];exact Jn (by simp[lk]) (fun _ _ e=>JbD e) (fun _ _ e=>e) rfl rfl
   ·have hst:JeF rr.lz b z=b:=by unfold JeF;rw[if_neg (fun q=>h1 q.1)]
    simp only[hst] at hs;simp -implicitDefEqProofs (disch:=omega) only[Wz,seval,Ly,Lx,hz,JmH,Option.isSome,JaQ,Jaq,Jh];refine⟨(j+1,m+1),⟨by show j+1<=_;omega,by show 3<=m+1;omega⟩,by show ys.length - (j+1)<_;omega,?_⟩;simp only[hs];exact Jn (by simp[lk]) (fun _ _ e=>JbD e) (fun _ _ e=>e) rfl rfl
 ·have hje:j=ys.length:=by omega
  subst hje;rw[List.take_length];simp -implicitDefEqProofs (disch:=omega) only[Wz,seval,Ly,Lx,JkL,JoU];obtain⟨b,hb⟩:∃ b,JeG rr.lz ys=b:=⟨_,rfl⟩;rw[hb];refine⟨⟨[(6,.ptr 2 0),(7,.lit (.bool b.isSome))],⟨[(0,Jaq n o l md 1),(2,JmH b)],[(1,Jaa W)],m⟩,44⟩,?_,?_⟩
  ·refine Jn (by simp[lk]) (fun _ _ e=>?_) (fun _ _ e=>e) rfl rfl;cases b <;> exact e
  ·cases b <;> exact⟨rfl,W,hW,rfl,rfl,by show 2<=m;omega⟩
end Go.Proofs.Y
end
section
namespace Go.Proofs.Y
open Go Go.Ab
structure Lkr (n:Nt) (o:List Orc) (l:List Un) (md:Int) (li wi:Nat) (W:Td) (H:Hp):Prop where
 at':lk H.boxes li=some (Jaq n o l md wi)
 tk:lk H.toks wi=some (Jaa W)
 ne:li≠wi
 l1:li<H.nx
 l2:wi<H.nx
 no:lk H.toks li=none
 fb:∀ i,H.nx<=i->lk H.boxes i=none
 ft:∀ i,H.nx<=i->lk H.toks i=none
theorem Jyf{n:Nt}{o:List Orc}{l:List Un}{md:Int}{k:Nat}(g:Jrx n o l md)(a:Nat)(ha:a<l.length)(he:∀ r,r<n.rules.length->JbR n o l md k r a){p:Gh->Nat->Prop}(li wi xi ai:Nat)(I:Nat->Hp->Prop)(Z:Hp->Prop)
  (hst:∀ i H,I i H->lk H.boxes xi=some [.ptr li 0]/\lk H.boxes ai=some [.lit (.int .i64 (a:Int))]/\∃ W,JdT n o l md k W/\Lkr n o l md li wi W H)
  (hup:∀ i H W',I i H->JdT n o l md k W'->I i ⟨H.boxes,up H.toks wi (Jaa W'),H.nx⟩)
  (hbx:∀ i H B m,I i H->H.nx<=m->(∀ q∈B,H.nx<=q.1/\q.1<m)->I i ⟨H.boxes++B,H.toks,m⟩)
  (hsk:∀ i H,i<n.rules.length->I i H->JgQ n o l md k a i=none->I (i+1) H)
  (hY:∀ i y H,i<n.rules.length->I i H->JgQ n o l md k a i=some (i,y)->YC Tryz.prog p [.lit (.int .i64 (i:Int)),.agg (JaQ y)] H fun r H'=>(r = .lit (.bool true)/\I (i+1) H')\/(r = .lit (.bool false)/\Z H')) (H0:Hp) (h0:I 0 H0) :
  J4 Tryz.prog 44 [.yl p,.ptr xi 0,.ptr ai 0] H0 fun r H'=>r = .tup []/\(I n.rules.length H'\/Z H'):=by
 refine Ju Tryz.func44 rfl Tryz.ntmps44 (rs:=[]) rfl (by simp) ?_;have hru:=g.w.nru;refine Jl ?_;obtain⟨hx0,ha0,W0,hW0,hl0⟩:=hst _ _ h0;have hat0:=hl0.at';simp -implicitDefEqProofs (disch:=omega) only[Wz,seval,Ly,Lx,hx0,hat0,Jaq,Jh];refine Js (fun z:Nat × Hp=>⟨[(0,.yl p),(1,.ptr xi 0),(2,.ptr ai 0),(12,.vec (n.rules.map Jf) false),(13,.lit (.int .i64 (n.rules.length:Int))),(14,.lit (.int .i64 (z.1:Int)))],z.2,51⟩) (fun z=>z.1<=n.rules.length/\I z.1 z.2) (fun z=>n.rules.length - z.1) (0,H0) (Jn (by simp[lk]) (fun _ _ e=>e) (fun _ _ e=>e) rfl rfl) ⟨Nat.zero_le _,h0⟩ ?_;clear h0 hx0 ha0 W0 hW0 hl0 hat0;rintro⟨i,H⟩ ⟨hi,hI⟩;simp only at hi hI ⊢;refine Jl ?_;rcases Nat.lt_or_ge i n.rules.length with hlt | hge
 ·obtain⟨hxi,hai,W,hW,hl⟩:=hst _ _ hI;obtain⟨rr,hrr⟩:∃ rr,n.rules.getD i default=rr:=⟨_,rfl⟩;have hb1:∀ x,lk (H.boxes++x) xi=some [.ptr li 0]:=fun x=>by rw[JP,hxi];rfl
  have hb2:∀ x,lk (H.boxes++x) ai=some [.lit (.int .i64 (a:Int))]:=fun x=>by rw[JP,hai];rfl
  have hb3:∀ x,lk (H.boxes++x) li=some (Jaq n o l md wi):=fun x=>by rw[JP,hl.at'];rfl
  have hn1:∀ c x,lk (H.boxes++(H.nx,c) :: x) H.nx=some c:=fun c x=>by rw[JP,hl.fb _ (Nat.le_refl _)];simp[lk]
  have hn2:∀ c d x,lk (H.boxes++(H.nx,c) :: (H.nx+1,d) :: x) (H.nx+1)=some d:=fun c d x=>by rw[JP,hl.fb _ (by omega)];simp[lk]
  have hu1:∀ c d,up (H.boxes++[(H.nx,c)]) H.nx d=H.boxes++[(H.nx,d)]:=fun c d=>Jgw (hl.fb _ (Nat.le_refl _));have hu2:∀ c d e,up (H.boxes++[(H.nx,c),(H.nx+1,d)]) (H.nx+1) e=H.boxes++[(H.nx,c),(H.nx+1,e)]:=fun c d e=>by rw[JkK (hl.fb _ (by omega))];simp[up]
  have hmine:JkB n md i=(rr.lexer && (!rr.frag && decide (rr.mode=md))):=by unfold JkB;rw[hrr]
  have hpv:JgQ n o l md k a i=if JkB n md i then (JeG rr.lz (eF n o l md k i a)).map fun y=>(i,y) else none:=by unfold JgQ;rw[hrr]
  have skip:JkB n md i=false->∀ (sl:List (Nat × AV)) (c:List AV),lk sl 0=some (.yl p)->lk sl 1=some (.ptr xi 0)->lk sl 2=some (.ptr ai 0)->lk sl 12=some (.vec (n.rules.map Jf) false)->lk sl 13=some (.lit (.int .i64 (n.rules.length:Int)))->lk sl 14=some (.lit (.int .i64 ((i:Int)+1))) ->
    ∃ x':Nat × Hp,(x'.1<=n.rules.length/\I x'.1 x'.2)/\n.rules.length - x'.1<n.rules.length - i/\St.wk ⟨sl,⟨H.boxes++[(H.nx,c)],H.toks,H.nx+1⟩,51⟩ ⟨[(0,.yl p),(1,.ptr xi 0),(2,.ptr ai 0),(12,.vec (n.rules.map Jf) false),(13,.lit (.int .i64 (n.rules.length:Int))),(14,.lit (.int .i64 (x'.1:Int)))],x'.2,51⟩:=fun hm sl c e0 e1 e2 e3 e4 e5=>by
   have hI2:=hbx _ _ [(H.nx,c)] (H.nx+1) (hsk i H hlt hI (by rw[hpv,hm];rfl)) (Nat.le_succ _) (by simp);exact⟨(i+1,_),⟨by show i+1<=_;omega,hI2⟩,by show n.rules.length - (i+1)<_;omega,Jn (Jc e0 (Jc e1 (Jc e2 (Jc e3 (Jc e4 (Jc e5 Jm)))))) (fun _ _ e=>e) (fun _ _ e=>e) rfl rfl⟩
  simp -implicitDefEqProofs (disch:=omega) only[Wz,seval,Ly,Lx,hrr,hn1,hu1];refine Jw (n:=51) rfl (by decide) mixed ?_;have hii:(i:Int)+1=((i+1:Nat):Int):=rfl;cases hlx:rr.lexer with
  | false =>
   rw[hlx] at hmine;simp -implicitDefEqProofs (disch:=omega) only[Wz,seval,Ly,Lx,hn1,Jf,hlx,hb1,hb3,Jaq,Jh];refine skip hmine _ _ rfl rfl rfl rfl rfl rfl
  | true =>
   cases hfr:rr.frag with
   | true =>
    rw[hlx,hfr] at hmine;simp -implicitDefEqProofs (disch:=omega) only[Wz,seval,Ly,Lx,hn1,Jf,hlx,hfr,hb1,hb3,Jaq,Jh];refine skip hmine _ _ rfl rfl rfl rfl rfl rfl
   | false =>
    by_cases hmd:rr.mode=md;rotate_left
    ·rw[hlx,hfr,decide_eq_false hmd] at hmine;have hmb:(rr.mode==md)=false:=Jsn hmd;simp -implicitDefEqProofs (disch:=omega) only[Wz,seval,Ly,Lx,hn1,Jf,hlx,hfr,hb1,hb3,Jaq,Jh,hmb];refine skip hmine _ _ rfl rfl rfl rfl rfl rfl
    ·rw[hlx,hfr,decide_eq_true hmd] at hmine;have hmb:(rr.mode==md)=true:=JpS hmd;have hm1:JkB n md i=true:=hmine;rw[hm1,if_pos rfl] at hpv;simp -implicitDefEqProofs (disch:=omega) only[Wz,seval,Ly,Lx,hn1,Jf,hlx,hfr,hb1,hb2,hb3,Jaq,Jh,hmb];refine JM Jxi (JsH (Jij g i a hlt ha (he i hlt)) (Jc (.lit _) (Jc (.lit _) Jm)) (Jjt _) _ li wi W hW (hb3 _) hl.tk hl.ne (by have:=hl.l1;show li<H.nx+1;omega) (by have:=hl.l2;show wi<H.nx+1;omega) hl.no) ?_;rintro r0 h' ⟨rfl,W2,hW2,rfl⟩;rw[hrr];obtain⟨b,hb⟩:∃ b,JeG rr.lz (eF n o l md k i a)=b:=⟨_,rfl⟩;rw[hb] at hpv ⊢;have hI2:∀ c d,I i ⟨H.boxes++[(H.nx,c),(H.nx+1,d)],up H.toks wi (Jaa W2),H.nx+2⟩:=fun c d=>hbx i ⟨H.boxes,up H.toks wi (Jaa W2),H.nx⟩ [(H.nx,c),(H.nx+1,d)] (H.nx+2) (hup _ _ _ hI hW2) (by show H.nx<=H.nx+2;omega) (by simp);cases b with
     | none =>
      have hI3:=fun c d=>hsk i _ hlt (hI2 c d) hpv
      simp -implicitDefEqProofs (disch:=omega) only[Wz,seval,Ly,Lx,JyR,JmH,Option.isSome,List.append_assoc,hn2,hu2,JaQ];refine⟨(i+1,_),⟨by show i+1<=_;omega,hI3 _ _⟩,by show n.rules.length - (i+1)<_;omega,Jn (Jc rfl (Jc rfl (Jc rfl (Jc rfl (Jc rfl (Jc rfl Jm)))))) (fun _ _ e=>e) (fun _ _ e=>e) rfl rfl⟩
     | some y =>
      have hy:=fun c d=>hY i y _ hlt (hI2 c d) hpv
      simp -implicitDefEqProofs (disch:=omega) only[Wz,seval,Ly,Lx,JyR,JmH,Option.isSome,List.append_assoc,hn2,hu2,JaQ];refine Jg3 rfl rfl rfl ?_;refine(hy _ _).mono ?_;rintro r H' (⟨rfl,hI3⟩ | ⟨rfl,hz⟩)
      ·simp -implicitDefEqProofs (disch:=omega) only[Wz,seval,Ly,Lx];refine⟨(i+1,H'),⟨by show i+1<=_;omega,hI3⟩,by show n.rules.length - (i+1)<_;omega,Jn (Jc rfl (Jc rfl (Jc rfl (Jc rfl (Jc rfl (Jc rfl Jm)))))) (fun _ _ e=>e) (fun _ _ e=>e) rfl rfl⟩
      ·simp -implicitDefEqProofs (disch:=omega) only[Wz,seval,Ly,Lx];exact .inr hz
 ·have hie:i=n.rules.length:=by omega
  subst hie;simp -implicitDefEqProofs (disch:=omega) only[Wz,seval,Ly,Lx];exact .inl hI
end Go.Proofs.Y
end
section
namespace Go.Proofs.Y
open Go Go.Ab
def Jyg:Go.Shelf.Ren:=⟨fun | 32=>84 | 49=>106 | n=>n,fun | 30=>27 | 21=>21 | 33=>46 | 66=>211 | 25=>103 | 69=>214 | 68=>213 | n=>n,fun | 2=>0 | 3=>1 | n=>n⟩
theorem Jyh:Go.Proofs.Lays7.n32 Tryz.prog Jyg:={
 mixed:=by kernel_rfl
 f32:=Tryz.func84.trans (congrArg some (by kernel_rfl))
 f49:=Tryz.func106.trans (congrArg some (by kernel_rfl))
 t0:=Tryz.underlying0
 a0:=Tryz.isAgg0
 z0:=Tryz.sizeOf0
 v0:=Tryz.zeroValue0
 i0:=by kernel_rfl
 t3:=Tryz.underlying3
 a3:=Tryz.isAgg3
 z3:=Tryz.sizeOf3
 v3:=Tryz.zeroValue3
 i3:=by kernel_rfl
 t4:=Tryz.underlying4
 a4:=Tryz.isAgg4
 z4:=Tryz.sizeOf4
 v4:=Tryz.zeroValue4
 i4:=by kernel_rfl
 t5:=Tryz.underlying5
 a5:=Tryz.isAgg5
 z5:=Tryz.sizeOf5
 v5:=Tryz.zeroValue5
 i5:=by kernel_rfl
 t21:=Tryz.underlying21
 a21:=Tryz.isAgg21
 z21:=Tryz.sizeOf21
 v21:=Tryz.zeroValue21
 i21:=by kernel_rfl
 t25:=Tryz.underlying103
 a25:=Tryz.isAgg103
 z25:=Tryz.sizeOf103
 v25:=Tryz.zeroValue103
 i25:=by kernel_rfl
 t30:=Tryz.underlying27
 a30:=Tryz.isAgg27
 z30:=Tryz.sizeOf27
 v30:=Tryz.zeroValue27
 i30:=by kernel_rfl
 t33:=Tryz.underlying46
 a33:=Tryz.isAgg46
 z33:=Tryz.sizeOf46
 v33:=Tryz.zeroValue46
 i33:=by kernel_rfl
 t66:=Tryz.underlying211
 a66:=Tryz.isAgg211
 z66:=Tryz.sizeOf211
 t68:=Tryz.underlying213
 a68:=Tryz.isAgg213
 z68:=Tryz.sizeOf213
 v68:=Tryz.zeroValue213
 i68:=by kernel_rfl
 t69:=Tryz.underlying214
 a69:=Tryz.isAgg214
 z69:=Tryz.sizeOf214
 v69:=Tryz.zeroValue214
 i69:=by kernel_rfl
 g2:=by kernel_rfl
 g3:=by kernel_rfl}
def JyS (j:Nat):Nat:=if j % 2=0 then Lib.accLo (j / 2) else Lib.accHi (j / 2)
def Jm7:List (Nat × List Value):=[(0,(List.range 256).map fun c=>.int .u8 (Lib.firstT c)),(1,(List.range 32).map fun j=>.int .u8 (JyS j))]
def Jbb(x:UInt8):List AV:=[.lit (.int .u8 (x.toNat:Int))]
def ofB (l:List UInt8):ByteArray:=⟨l.toArray⟩
def inV (L:List (Nat × List Value))(l:List UInt8)(f:Bool):AV:=.wit L (.vec (l.map Jbb) f)
def Jd5(L:List (Nat × List Value))(l:List UInt8):Prop:=L=Jm7\/∀ b∈l,b.toNat<128
theorem Jd5.drop{L:List (Nat × List Value)}{l:List UInt8}(h:Jd5 L l)(i:Nat):Jd5 L (l.drop i):=h.imp id fun q b hb=>q b (List.mem_of_mem_drop hb)
theorem JmK(x:UInt8):∀ c∈Jbb x,Ab.Pure c:=JaC (by simp[Jbb])
theorem Jfk(x:UInt8):(Jbb x).length=1:=rfl
theorem JaR(l:List UInt8):(ofB l).size=l.length:=by simp[ofB,ByteArray.size]
theorem Jju(l:List UInt8)(i:Nat):bt (ofB l) i=(l.getD i 0).toNat:=by
 unfold bt ofB;show (l.toArray[i]!).toNat=_;rw[List.getD_eq_getElem?_getD];simp[getElem!_def];cases l[i]? <;> rfl
theorem Jqn(l:List UInt8)(i:Nat)(h:i<=l.length):dcV (ofB (l.drop i)) 0=dcV (ofB l) i:=by
 unfold dcV;simp only[JaR,Jju,List.length_drop,List.getD_eq_getElem?_getD,List.getElem?_drop,Nat.sub_zero,Nat.zero_add,Nat.add_zero]
theorem JsK{m:Nat->Nat->Option Value}{w:World}(hm:JhN m w)(h:∀ p∈Jm7,∀ (j:Nat) (c:Value),p.2[j]? = some c->m p.1 j=some c):Lib.Utf8Tabs 0 1 w:=by
 refine⟨fun c hc=>?_,fun i hi=>⟨?_,?_⟩⟩
 ·exact(hm _ _ _ (h _ (by unfold Jm7;exact List.mem_cons_self) c (.int .u8 (Lib.firstT c)) (by simp[hc]))).1
 ·refine(hm _ _ _ (h _ (by unfold Jm7;exact List.mem_cons_of_mem _ List.mem_cons_self) (2 * i) (.int .u8 (Lib.accLo i)) ?_)).1;rw[List.getElem?_map,List.getElem?_range (by omega)];simp[JyS]
 ·refine(hm _ _ _ (h _ (by unfold Jm7;exact List.mem_cons_of_mem _ List.mem_cons_self) (2 * i+1) (.int .u8 (Lib.accHi i)) ?_)).1;rw[List.getElem?_map,List.getElem?_range (by omega)];have e1:(2 * i+1) % 2=1:=by omega
  have e2:(2 * i+1) / 2=i:=by omega
  simp[JyS,e1,e2]
theorem JmL(l:List UInt8)(f:Bool)(hl:0<l.length):JN Tryz.prog 84 [inV Jm7 l f] (.tup [.lit (.int .i32 ((dcV (ofB l) 0).1:Int)),.lit (.int .i64 ((dcV (ofB l) 0).2:Int))]):=by
 intro m w vals hm hv;obtain⟨v0,rfl⟩:∃ v0,vals = #[v0]:=by
  have h:=hv.1;obtain⟨l⟩:=vals;match l,h with
  | [a],_=>exact⟨a,rfl⟩
 have r0:Rep (gm m) v0 (inV Jm7 l f):=hv.2 0 v0 _ rfl rfl;have tabs:=fun h=>JsK (m:=m) hm h
 clear hv;unfold inV at r0;generalize Jm7=L at r0 tabs;generalize hx:l.map Jbb=xs at r0;cases r0 with
 | @wit _ ad nn cap _ h1 h2 =>
  have hT:=tabs h1;clear tabs h1;have hxl:xs.length=l.length:=by rw[<- hx,List.length_map]
  cases h2 with
  | vecN=>simp at hxl;omega
  | vecE _=>simp at hxl;omega
  | @vec b off _ s _ _ F q1 q2 q3 q4 q5 =>
   have hs:s=1:=by
    have:Jbb (l.getD 0 0)∈xs:=by
     rw[<- hx,List.mem_map];exact⟨_,Jv (T:=UInt8) (i:=0) hl,rfl⟩
    rw[<- q1 _ this];rfl
   subst hs;have hp:∀ j,j<(ofB l).size->w.cell? ⟨b,off+j,none⟩=some (.int .u8 ((ofB l).get! j).toNat):=fun j hj=>by
    rw[JaR] at hj;have e0:xs[j]? = some (Jbb (l.getD j 0)):=by rw[<- hx];exact Jrq (T:=UInt8) hj
    have e1:=q4 j _ 0 _ e0 rfl;have e2:=q5 j _ 0 _ e0 rfl;have e3:=(hm _ _ _ e1).1;simp only[Nat.mul_one,Nat.add_zero] at e3;have hbj:=Jju l j;unfold bt at hbj;rw[e3,hbj];generalize F j 0=v at e2;cases e2;rfl
   have key:=Any7.utf8_DecodeRune Jyh (ofB l) b off cap w hT hp;rw[JaR,<- hxl] at key;refine key.mono fun e w' hh=>?_
   obtain⟨rfl,hb⟩:=hh;have hd:Lib.decodeGo (ofB l)=dcV (ofB l) 0:=by
    unfold Lib.decodeGo;rw[if_neg (by rw[JaR];omega),Lib.decode_at];rfl
   rw[hd];refine⟨_,m,rfl,.tup rfl (fun i c a e1 e2=>?_),fun b' o v q=>?_,⟨hb.os,hb.tape,hb.output,fun q=>q.elim,hb.size,fun b' hb' _=>hb.block b' hb',fun b' r q=>⟨r,?_⟩⟩,fun _ _ _ q=>q,fun _ _ _ q=>.inl q⟩
   ·match i,e1,e2 with
    | 0,e1,e2=>simp at e1 e2;subst e1;subst e2;exact .lit rfl
    | 1,e1,e2=>simp at e1 e2;subst e1;subst e2;exact .lit rfl
    | i+2,e1,e2=>simp at e1
   ·obtain⟨z1,z2⟩:=hm b' o v q;have hlt:b'<w.heap.size:=World.block_lt_of_cell? w ⟨b',o,none⟩ z1;exact⟨(World.cell?_of_block (hb.block b' hlt)).trans z1,z2⟩
   ·exact(hb.block b' (Jam q)).trans q
theorem JmM(L:List (Nat × List Value))(l:List UInt8)(f:Bool)(hl:0<l.length)(ha:∀ b∈l,b.toNat<128)(hn:l.length<=1000000000):JN Tryz.prog 84 [inV L l f] (.tup [.lit (.int .i32 ((dcV (ofB l) 0).1:Int)),.lit (.int .i64 ((dcV (ofB l) 0).2:Int))]):=by
 have h0:bt (ofB l) 0=(l.getD 0 default).toNat:=Jju l 0;have h1:(l.getD 0 default).toNat<128:=ha _ (Jv hl);have hd:dcV (ofB l) 0=((l.getD 0 default).toNat,1):=by
  unfold dcV Lib.decodeN;rw[if_pos (by rw[h0];exact h1),h0]
 rw[hd];obtain⟨x,hx⟩:∃ x,(l.getD 0 default).toNat=x:=⟨_,rfl⟩;have hb0:Jbb (l.getD 0 default)=[.lit (.int .u8 (x:Int))]:=by unfold Jbb;rw[hx]
 rw[hx] at h1 ⊢;refine JD (Ju Tryz.func84 rfl Tryz.ntmps84 (rs:=[.tmp 2,.tmp 3]) rfl (by simp) ?_);refine Jl ?_;have hw:IntKind.i32.wrap (x:Int)=(x:Int):=IntWalk.i32_in _ ⟨by omega,by omega⟩;simp -implicitDefEqProofs (disch:=omega) only[Wz,seval,inV];refine Js (A:=Unit) (fun _=>⟨[(8,.lit (.int .i64 0)),(7,.lit (.int .i64 (l.length:Int))),(6,.wit L (.vec (l.map Jbb) f))],⟨[],[],0⟩,22⟩) (fun _=>True) (fun _=>0) () (Jn (by simp[lk]) (fun _ _ e=>e) (fun _ _ e=>e) rfl rfl) trivial ?_;rintro _ _;refine Jl ?_;simp -implicitDefEqProofs (disch:=omega) only[Wz,seval,hb0,hw];exact JH (Jj (Jb (.lit _)) (Jj (Jb (.lit _)) JA))
theorem JkM(L:List (Nat × List Value))(l:List UInt8)(f:Bool)(hL:Jd5 L l)(hl:0<l.length)(hn:l.length<=1000000000):JN Tryz.prog 84 [inV L l f] (.tup [.lit (.int .i32 ((dcV (ofB l) 0).1:Int)),.lit (.int .i64 ((dcV (ofB l) 0).2:Int))]):=by
 rcases hL with rfl | ha
 ·exact JmL l f hl
 ·exact JmM L l f hl ha hn
end Go.Proofs.Y
end
section
namespace Go.Proofs.Y
open Go Go.Ab
theorem JaS(L:List (Nat × List Value))(l:List UInt8)(f:Bool):Ab.Pure (inV L l f):=fun g g' u hm hr=>by
 unfold inV at hr ⊢;cases hr with
 | wit h1 h2=>exact .wit (fun p hp j c e=>hm _ _ _ (h1 p hp j c e)) (Ab.Pure.vec (Jk JmK l) g g' _ hm h2)
theorem JmN{T:Type}{f:T->List AV}{s:Nat}(hf:∀ x,(f x).length=s)(l:List T)(b:Bool){i:Nat}(hi:i<=l.length):Je4 s (l.map f) b (some (i:Int)) none none=some (.vec ((l.drop i).map f) b):=by
 unfold Je4;simp only[Option.getD_none,Option.getD_some,List.length_map,Jdd,decide_true,Bool.and_true,Option.isSome_none];rw[if_pos ⟨by omega,by omega,by omega,by omega,fun q=>q,fun x hx=>(by obtain⟨y,_,rfl⟩:=List.mem_map.1 hx;exact hf y)⟩];rw[List.map_drop,Int.toNat_natCast,Int.toNat_natCast,List.take_of_length_le (by simp)]
theorem JsL(L:List (Nat × List Value))(l:List UInt8)(f:Bool)(hL:Jd5 L l)(i:Nat)(hi:i<l.length)(hl:l.length<=1000000000):JN Tryz.prog 64 [inV L l f,.lit (.int .i64 (i:Int))] (.tup [.lit (.int .i32 ((uV (ofB l) i).1:Int)),.lit (.int .i64 ((uV (ofB l) i).2:Int))]):=by
 refine Jo Tryz.func64 rfl Tryz.ntmps64 (rs:=[.tmp 4,.tmp 5]) rfl (by simp) ?_;have hd:=JkM L (l.drop i) f (hL.drop i) (by rw[List.length_drop];omega) (by rw[List.length_drop];omega);rw[Jqn l i (by omega)] at hd;have hok:=Jrv (s:=ofB l) (i:=i) (by rw[JaR];exact hi);have hsl:=JmN Jfk l f (Nat.le_of_lt hi);have hbt:bt (ofB l) i=(l.getD i default).toNat:=Jju l i;have hblt:=Jeh (ofB l) i;have hmq:(l.map Jbb)[i]? = some (Jbb (l.getD i default)):=Jrq (T:=UInt8) hi;obtain⟨x,k,hxk⟩:∃ x k,dcV (ofB l) i=(x,k):=⟨_,_,rfl⟩;have huv:uV (ofB l) i=if x=65533/\k<=1 then (1114112+bt (ofB l) i,1) else (x,k):=by unfold uV;rw[hxk]
 rw[hxk] at hd hok;simp only at hd hok;simp -implicitDefEqProofs (disch:=omega) only[Wz,seval,inV,hsl,Jfk,Option.map_some];refine Jg JxF hd (Jc (JaS L _ f) Jm) (.tup (Jc (.lit _) (Jc (.lit _) Jm))) ?_;have w1:IntKind.i32.wrap (bt (ofB l) i:Int)=(bt (ofB l) i:Int):=IntWalk.i32_in _ ⟨by omega,by omega⟩;have w2:IntKind.i32.wrap (1114112+(bt (ofB l) i:Int))=1114112+(bt (ofB l) i:Int):=IntWalk.i32_in _ ⟨by omega,by omega⟩;by_cases h1:x=65533
 ·by_cases h2:k<=1
  ·rw[if_pos ⟨h1,h2⟩] at huv;rw[huv];simp -implicitDefEqProofs (disch:=omega) only[Wz,seval,Jbb,hmq,<- hbt,w1,w2];exact JH (Jj (Jb (.lit _)) (Jj (Jb (.lit _)) JA))
  ·rw[if_neg (fun q=>h2 q.2)] at huv;rw[huv];simp -implicitDefEqProofs (disch:=omega) only[Wz,seval];exact JH (Jj (Jb (.lit _)) (Jj (Jb (.lit _)) JA))
 ·rw[if_neg (fun q=>h1 q.1)] at huv;rw[huv];simp -implicitDefEqProofs (disch:=omega) only[Wz,seval];exact JH (Jj (Jb (.lit _)) (Jj (Jb (.lit _)) JA))
def unV (q:Bool)(X:List Un):AV:=if q then .own 0 X.length else .vec [] true
def unT (q:Bool)(X:List Un):List (Nat × Tk):=if q then [(0,⟨X.map JeI,0,3⟩)] else []
theorem Jqo(L:List (Nat × List Value))(l:List UInt8)(f:Bool)(hL:Jd5 L l)(hl:l.length<=1000):JN Tryz.prog 41 [inV L l f] (.vec ((Jcl (ofB l)).map JeI) false):=by
 refine JD (Ju Tryz.func41 rfl Tryz.ntmps41 (rs:=[.tmp 2]) rfl (by simp) ?_);have hsz:=JaR l;have hatA:=fun p hp=>JsL L l f hL p hp (by omega)
 have hpure:=JaS L l f;unfold inV at hatA hpure ⊢;obtain⟨s,hs⟩:∃ s,ofB l=s:=⟨_,rfl⟩;rw[hs] at hsz hatA ⊢;obtain⟨SS,hSS⟩:∃ SS:Nat × Nat × Bool × List Un->St,∀ p c q X,SS (p,c,q,X)=⟨[(0,.wit L (.vec (l.map Jbb) f)),(2,unV q X),(3,.lit (.int .i64 (c:Int))),(4,.lit (.int .i64 (p:Int)))],⟨[],unT q X,if q then 1 else 0⟩,38⟩:=⟨fun z=>⟨[(0,.wit L (.vec (l.map Jbb) f)),(2,unV z.2.2.1 z.2.2.2),(3,.lit (.int .i64 (z.2.1:Int))),(4,.lit (.int .i64 (z.1:Int)))],⟨[],unT z.2.2.1 z.2.2.2,if z.2.2.1 then 1 else 0⟩,38⟩,fun _ _ _ _=>rfl⟩;obtain⟨Iv,hIv⟩:∃ Iv:Nat × Nat × Bool × List Un->Prop,∀ p c q X,Iv (p,c,q,X)↔(p<=l.length/\c<=p/\X.length<=p/\(q=false->X=[])/\∃ k,s.size - p<=k/\X++Jc7 k s p c=Jcl s):=⟨fun z=>z.1<=l.length/\z.2.1<=z.1/\z.2.2.2.length<=z.1/\(z.2.2.1=false->z.2.2.2=[])/\∃ k,s.size - z.1<=k/\z.2.2.2++Jc7 k s z.1 z.2.1=Jcl s,fun _ _ _ _=>Iff.rfl⟩;refine Jl ?_;simp -implicitDefEqProofs (disch:=omega) only[Wz,seval];refine Js SS Iv (fun z=>l.length - z.1) (0,0,false,[]) (by rw[hSS];exact Jn (by simp[lk,unV]) (fun _ _ e=>e) (fun _ _ e=>e) rfl rfl) ((hIv _ _ _ _).2 ⟨Nat.zero_le _,Nat.le_refl _,Nat.le_refl _,fun _=>rfl,s.size,by omega,rfl⟩) ?_;rintro⟨p,c,q,X⟩ hIx;obtain⟨hp,hc,hX,hq,k,hk,hcut⟩:=(hIv _ _ _ _).1 hIx;rw[hSS];refine Jl ?_;rcases Nat.lt_or_ge p l.length with hlt | hge
 ·have hat:=hatA p hlt;have hu:=JmD (s:=s) (i:=p) (by rw[hsz];exact hlt);obtain⟨k,rfl⟩:∃ k',k=k'+1:=⟨k - 1,by omega⟩;rw[Jc7,if_pos (by omega)] at hcut;obtain⟨x,m,hxm⟩:∃ x m,uV s p=(x,m):=⟨_,_,rfl⟩;rw[hxm] at hat hu hcut;simp only at hat hu hcut;have hf0:JbS 1 24=True:=eq_true (J2 (by decide) (by decide));have hf1:JbS (X.length+1) 24=True:=eq_true (J2 (by omega) (by omega));simp -implicitDefEqProofs (disch:=omega) only[Wz,seval];refine Jg Jxt hat (Jc hpure (Jc (.lit _) Jm)) (.tup (Jc (.lit _) (Jc (.lit _) Jm))) ?_;have fin:∀ c':Nat,c'<=p+1->(c'=if x=10 then 0 else c+1)->∀ (sl:List (Nat × AV)) (T:List (Nat × Tk)),lk sl 0=some (.wit L (.vec (l.map Jbb) f))->lk sl 2=some (.own 0 (X.length+1))->lk sl 3=some (.lit (.int .i64 (c':Int)))->lk sl 4=some (.lit (.int .i64 ((p+m:Nat):Int)))->T=[(0,⟨X.map JeI++[JeI ⟨x,p,c⟩],0,3⟩)] ->
    ∃ x':Nat × Nat × Bool × List Un,Iv x'/\l.length - x'.1<l.length - p/\St.wk ⟨sl,⟨[],T,1⟩,38⟩ (SS x'):=fun c' h1 h2 sl T e0 e2 e3 e4 hT=>by
   refine⟨(p+m,c',true,X++[⟨x,p,c⟩]),(hIv _ _ _ _).2 ⟨by omega,by omega,by simp;omega,fun q=>(by cases q),k,by omega,?_⟩,by show l.length - (p+m)<_;omega,?_⟩
   ·rw[h2,List.append_assoc];exact hcut
   ·subst hT;rw[hSS];exact Jn (Jc e0 (Jc (by rw[e2];simp[unV]) (Jc e3 (Jc e4 Jm)))) (fun _ _ e=>e) (fun _ _ e=>by simpa [unT] using e) rfl rfl
  have hwc:IntKind.i64.wrap ((c:Int)+1)=((c+1:Nat):Int):=Jdh (by omega) (by omega);have hwp:IntKind.i64.wrap ((p:Int)+(m:Int))=((p+m:Nat):Int):=by rw[<- Int.natCast_add];exact Jdh (by omega) (by omega)
  have go:∀ c':Nat,∀ bx:Bool,((x:Int)==10)=bx->(c'=if bx then 0 else c+1)->c'<=p+1/\(c'=if x=10 then 0 else c+1):=fun c' bx h1 h2=>by
   subst h1;by_cases hx:x=10
   ·rw[if_pos (by rw[JpS (by omega)])] at h2;exact⟨by omega,by rw[if_pos hx];exact h2⟩
   ·rw[if_neg (by rw[Jsn (by omega)];decide)] at h2;exact⟨by omega,by rw[if_neg hx];exact h2⟩
  cases hxb:((x:Int)==10) with
  | false =>
   obtain⟨g1,g2⟩:=go (c+1) false hxb rfl;have fin:=fin (c+1) g1 g2;clear go g2;cases q with
   | false =>
    have:=hq rfl;subst this;simp -implicitDefEqProofs (disch:=omega) only[Wz,seval,unV,unT,JjT,Jry,hf0,true_and,if_true,hwc,hwp,hxb];exact fin _ _ rfl rfl rfl rfl (by simp[JeI])
   | true =>
    simp -implicitDefEqProofs (disch:=omega) only[Wz,seval,unV,unT,JjT,hf1,true_and,if_true,hwc,hwp,hxb];exact fin _ _ rfl rfl rfl rfl (by simp[JeI])
  | true =>
   obtain⟨g1,g2⟩:=go 0 true hxb rfl;have fin:=fin 0 g1 g2;clear go g2;cases q with
   | false =>
    have:=hq rfl;subst this;simp -implicitDefEqProofs (disch:=omega) only[Wz,seval,unV,unT,JjT,Jry,hf0,true_and,if_true,hwc,hwp,hxb];exact fin _ _ rfl rfl rfl rfl (by simp[JeI])
   | true =>
    simp -implicitDefEqProofs (disch:=omega) only[Wz,seval,unV,unT,JjT,hf1,true_and,if_true,hwc,hwp,hxb];exact fin _ _ rfl rfl rfl rfl (by simp[JeI])
 ·have hcl:Jcl s=X++[⟨-1,s.size,c⟩]:=by
   rw[<- hcut];cases k with
   | zero=>rfl
   | succ k=>rw[Jc7,if_neg (by omega)]
  rw[hcl,hsz];have hf0:JbS 1 24=True:=eq_true (J2 (by decide) (by decide));have hf1:JbS (X.length+1) 24=True:=eq_true (J2 (by omega) (by omega));cases q with
  | false =>
   have:=hq rfl;subst this;simp -implicitDefEqProofs (disch:=omega) only[Wz,seval,unV,unT,JjT,Jry,hf0,true_and,if_true];have hpu:=JbF ⟨-1,l.length,c⟩;unfold JeI at hpu ⊢;exact Jch (k:=⟨_,0,3⟩) rfl rfl (Jc hpu Jm)
  | true =>
   simp -implicitDefEqProofs (disch:=omega) only[Wz,seval,unV,unT,JjT,hf1,true_and,if_true];rw[List.map_append];have hpu:=JbF ⟨-1,l.length,c⟩;have hpx:=Jk JbF X;simp only[List.map_cons,List.map_nil];unfold JeI at hpu;show Jdg _ _ (.vec (X.map JeI++[[.lit (.int .i32 (-1)),.lit (.int .i64 (l.length:Int)),.lit (.int .i64 (c:Int))]]) false);refine Jch (n:=X.length+1) (t:=0) (k:=⟨X.map JeI++[[.lit (.int .i32 (-1)),.lit (.int .i64 (l.length:Int)),.lit (.int .i64 (c:Int))]],0,3⟩) ?_ (by simp) (fun x hx=>?_)
   ·rfl
   rcases List.mem_append.1 hx with hx | hx
   ·exact hpx x hx
   ·rw[List.mem_singleton] at hx;subst hx;exact hpu
end Go.Proofs.Y
end
section
namespace Go.Proofs.Y
open Go Go.Ab
def Jqp (u:Un)(at':Int):Int:=IntKind.i64.wrap ((u.pos:Int) - at')
theorem Jhm(u:Un)(at':Int):JN Tryz.prog 43 [.agg (JeI u),.lit (.int .i64 at')] (.lit (.int .i64 (Jqp u at'))):=by
 refine Jo Tryz.func43 rfl Tryz.ntmps43 (rs:=[.tmp 4]) rfl (by simp) ?_;simp -implicitDefEqProofs (disch:=omega) only[Wz,seval,Ly,Lx,JeI];exact Jb (.lit _)
theorem JsM{i j:Nat}(h:i<j):i<=(i+j) / 2/\(i+j) / 2<j:=by omega
theorem JsN(l:List Un)(at':Int)(hr:(l.map (·.pos)).Pairwise (· < ·))(hl:l.length<=1000000)(hp:∀ u∈l,u.pos<=1000000)(ha : -9223372036854775808<=at'/\at'<=9223372036854775807) :
  J4 Tryz.prog 42 [.vec (l.map JeI) false,.lit (.int .i64 at'),.fn (.func 43) [] []] .none fun r h'=>h' = .none/\∃ i:Nat,i<=l.length/\∃ ok:Bool,r = .tup [.lit (.int .i64 (i:Int)),.lit (.bool ok)]/\(ok=true->i<l.length/\((l.getD i default).pos:Int)=at')/\(ok=false->∀ u∈l,(u.pos:Int)≠at'):=by
 refine Ju Tryz.func42 rfl Tryz.ntmps42 (rs:=[.tmp 6,.tmp 7]) rfl (by simp) ?_;have hposD:∀ i,i<l.length->(l.getD i default).pos<=1000000:=fun i hi=>hp _ (Jv hi);have hmono:∀ a b,a<b->b<l.length->(l.getD a default).pos<(l.getD b default).pos:=fun a b hab hb=>by
  have:=List.pairwise_iff_getElem.1 hr a b (by simp;omega) (by simpa using hb) hab;rw[List.getElem_map,List.getElem_map] at this;rw[List.getD_eq_getElem?_getD,List.getD_eq_getElem?_getD,List.getElem?_eq_getElem (by omega),List.getElem?_eq_getElem hb];exact this
 have hcmp:∀ i,i<l.length->0<=at'->Jqp (l.getD i default) at'=((l.getD i default).pos:Int) - at':=fun i hi h0=>by
  have:=hposD i hi;unfold Jqp;exact Jdh (by omega) (by omega)
 have hcmp0:∀ i,i<l.length->at'<0->Jqp (l.getD i default) at'≠0:=fun i hi h0=>by
  have:=hposD i hi;unfold Jqp;intro e;have h1:IntKind.i64.wrap (((l.getD i default).pos:Int) - at')=0:=e;by_cases h2:((l.getD i default).pos:Int) - at'<=9223372036854775807
  ·rw[Jdh (by omega) h2] at h1;omega
  ·have h3:IntKind.i64.wrap (((l.getD i default).pos:Int) - at')=((l.getD i default).pos:Int) - at' - 18446744073709551616:=by
    rw[IntKind.wrap_i64];omega
   rw[h3] at h1;omega
 refine Jl ?_;simp -implicitDefEqProofs (disch:=omega) only[Wz,seval,Ly,Lx];refine Js (fun(z:Nat × Nat)=>⟨[(0,.vec (l.map JeI) false),(1,.lit (.int .i64 at')),(2,.fn (.func 43) [] []),(8,.lit (.int .i64 (l.length:Int))),(9,.lit (.int .i64 (z.1:Int))),(10,.lit (.int .i64 (z.2:Int)))],.none,49⟩)
  (fun z=>z.1<=z.2/\z.2<=l.length/\(0<=at'->(∀ q,q<z.1->((l.getD q default).pos:Int)<at')/\∀ q,z.2<=q->q<l.length->at'<=((l.getD q default).pos:Int))) (fun z=>z.2 - z.1) (0,l.length) (Jn (by simp[lk]) (fun _ _ e=>e) (fun _ _ e=>e) rfl rfl) ⟨Nat.zero_le _,Nat.le_refl _,fun _=>⟨fun q hq=>absurd hq (Nat.not_lt_zero _),fun q h1 h2=>by have h1:l.length<=q:=h1;omega⟩⟩ ?_
 rintro⟨i,j⟩ ⟨hij,hj,hinv⟩;simp only at hij hj hinv ⊢;refine Jl ?_;rcases Nat.lt_or_ge i j with hlt | hge
 ·obtain⟨h,hh⟩:∃ h,(i+j) / 2=h:=⟨_,rfl⟩;obtain⟨hb1,hb2⟩:=JsM hlt;rw[hh] at hb1 hb2;have e1:IntKind.i64.wrap ((i:Int)+(j:Int))=((i+j:Nat):Int):=by rw[<- Int.natCast_add];exact Jdh (by omega) (by omega)
  have e2:IntKind.u64.wrap ((i+j:Nat):Int)=((i+j:Nat):Int):=JxX (by unfold W64;omega);have e3:((i+j:Nat):Int).fdiv (2 ^ min 1 IntKind.u64.bits)=(h:Int):=by
   have:min 1 IntKind.u64.bits=1:=by decide
   rw[this,Jlx,<- hh]
  have e4:IntKind.i64.wrap (h:Int)=(h:Int):=Jdh (by omega) (by omega);obtain⟨u,hu⟩:∃ u,l.getD h default=u:=⟨_,rfl⟩;have hmon:=fun q (hq:q<l.length)=>hmono q
  simp -implicitDefEqProofs (disch:=omega) only[Wz,seval,Ly,Lx,e1,e2,e3,e4,hu];refine Jg Jrh (Jhm u at') (Jc (.agg (JbF u)) (Jc (.lit _) Jm)) (.lit _) ?_;by_cases hc:Jqp u at'<0
  ·have hw:IntKind.i64.wrap ((h:Int)+1)=((h+1:Nat):Int):=Jdh (by omega) (by omega);simp -implicitDefEqProofs (disch:=omega) only[Wz,seval,Ly,Lx,hw];refine⟨(h+1,j),⟨by show h+1<=j;omega,hj,fun h0=>⟨fun q hq=>?_,(hinv h0).2⟩⟩,by show j - (h+1)<_;omega,Jn (by simp[lk]) (fun _ _ e=>e) (fun _ _ e=>e) rfl rfl⟩;have hq:q<h+1:=hq;have h1:=hcmp h (by omega) h0;rw[hu] at h1;rcases Nat.lt_or_ge q h with h2 | h2
   ·have:=hmono q h h2 (by omega);rw[hu] at this;omega
   ·have:q=h:=by omega
    subst this;rw[hu];omega
  ·simp -implicitDefEqProofs (disch:=omega) only[Wz,seval,Ly,Lx];refine⟨(i,h),⟨by show i<=h;omega,by show h<=_;omega,fun h0=>⟨(hinv h0).1,fun q hq hql=>?_⟩⟩,by show h - i<_;omega,Jn (by simp[lk]) (fun _ _ e=>e) (fun _ _ e=>e) rfl rfl⟩;have hq:h<=q:=hq;have h1:=hcmp h (by omega) h0;rw[hu] at h1;rcases Nat.eq_or_lt_of_le hq with h2 | h2
   ·subst h2;rw[hu];omega
   ·have:=hmono h q h2 hql;rw[hu] at this;omega
 ·have hije:i=j:=by omega
  subst hije;have none0:(¬ (i<l.length/\((l.getD i default).pos:Int)=at'))->∀ u∈l,(u.pos:Int)≠at':=fun hn u hul e=>by
   obtain⟨q,hq,rfl⟩:=Jh4 hul;have h0:0<=at':=by omega
   obtain⟨i1,i2⟩:=hinv h0;rcases Nat.lt_trichotomy q i with h1 | h1 | h1
   ·have:=i1 q h1;omega
   ·subst h1;exact hn ⟨hq,e⟩
   ·have h2:=i2 i (Nat.le_refl _) (by omega);have:=hmono i q h1 hq;omega
  rcases Nat.lt_or_ge i l.length with hil | hil
  ·obtain⟨u,hu⟩:∃ u,l.getD i default=u:=⟨_,rfl⟩;simp -implicitDefEqProofs (disch:=omega) only[Wz,seval,Ly,Lx,hu];refine Jg Jrh (Jhm u at') (Jc (.agg (JbF u)) (Jc (.lit _) Jm)) (.lit _) ?_;have hup:=hposD i hil;rw[hu] at hup none0;cases hcb:(Jqp u at'==0) with
   | true =>
    have hc0:Jqp u at'=0:=by simpa using hcb
    have hpu:(u.pos:Int)=at':=by
     rcases(show at'<0\/0<=at' by omega) with h0 | h0
     ·have:=hcmp0 i hil h0;rw[hu] at this;exact absurd hc0 this
     ·have:=hcmp i hil h0;rw[hu] at this;omega
    simp -implicitDefEqProofs (disch:=omega) only[Wz,seval,Ly,Lx,hcb];exact⟨i,hj,true,rfl,fun _=>⟨hil,by rw[hu];exact hpu⟩,fun q=>by cases q⟩
   | false =>
    have hc0:¬ Jqp u at'=0:=by simpa using hcb
    simp -implicitDefEqProofs (disch:=omega) only[Wz,seval,Ly,Lx,hcb];refine⟨i,hj,false,rfl,fun q=>(by cases q),fun _=>none0 fun⟨_,q⟩=>hc0 ?_⟩;have h0:0<=at':=by omega
    have:=hcmp i hil h0;rw[hu] at this;omega
  ·simp -implicitDefEqProofs (disch:=omega) only[Wz,seval,Ly,Lx];exact⟨i,hj,false,rfl,fun q=>(by cases q),fun _=>none0 fun⟨q,_⟩=>by omega⟩
end Go.Proofs.Y
end
section
namespace Go.Proofs.Y
open Go Go.Ab
theorem Jze(l:List Un)(at':Int)(hr:(l.map (·.pos)).Pairwise (· < ·))(hl:l.length<=1000000)(hp:∀ u∈l,u.pos<=1000000)(ha : -9223372036854775808<=at'/\at'<=9223372036854775807)(H:Hp) :
  J4 Tryz.prog 42 [.vec (l.map JeI) false,.lit (.int .i64 at'),.fn (.func 43) [] []] H fun r h'=>h'=H/\∃ i:Nat,i<=l.length/\∃ ok:Bool,r = .tup [.lit (.int .i64 (i:Int)),.lit (.bool ok)]/\(ok=true->i<l.length/\((l.getD i default).pos:Int)=at')/\(ok=false->∀ u∈l,(u.pos:Int)≠at'):=by
 refine J4.sub (hs:=.none) id (fun i j hi=>absurd hi (Nat.not_lt_zero _)) (fun i hi=>absurd hi (Nat.not_lt_zero _)) (.cons (.pure (.vec (Jk JbF l))) (.cons (.pure (.lit _)) (.cons (.fn .nil .nil) .nil))) Jm Jm (JsN l at' hr hl hp ha) ?_;rintro r h' ⟨rfl,i,hi,ok,rfl,h1,h2⟩ _;exact⟨_,H,0,Nat.le_refl _,rfl,.pure (.tup (Jc (.lit _) (Jc (.lit _) Jm))),fun j c e=>.inr ⟨e,fun q c' e'=>by cases e'⟩,fun j c e=>.inr ⟨e,fun q hq=>absurd hq (Nat.not_lt_zero _)⟩,rfl,i,hi,ok,rfl,h1,h2⟩
structure JsO (n:Nt) (o:List Orc) (x:List UInt8) (at' md:Int):Prop where
 ok:JbU n
 len:x.length<=999
 o:o.length<=1000000000
 at' : -9223372036854775808<=at'/\at'<=9223372036854775807
 md : -9223372036854775808<=md/\md<=9223372036854775807
theorem Jdz{x:List UInt8}(hx:x.length<=999):(Jcl (ofB x)).length<=1000/\∀ u∈Jcl (ofB x),u.pos<=999:=by
 have h1:=JfD (ofB x);have h2:=Jsz (ofB x);rw[JaR] at h1 h2;exact⟨by omega,fun u hu=>by have:=h2 u hu;omega⟩
theorem Jjv(L:List (Nat × List Value))(n:Nt)(o:List Orc)(x:List UInt8)(f:Bool)(hL:Jd5 L x)(at' md:Int)(g:JsO n o x at' md)(H:Hp)(hf:∀ i,H.nx<=i->lk H.boxes i=none) :
  J4 Tryz.prog 21 [.agg (Jh n),inV L x f,.vec (o.map Jfy) false,.lit (.int .i64 at'),.lit (.int .i64 md)] H fun r h' =>
   (okV n=true/\(0<=md/\md<(n.modes.length:Int))/\∃ i:Nat,i<(Jcl (ofB x)).length/\(((Jcl (ofB x)).getD i default).pos:Int)=at'/\r = .tup [.ptr (H.nx+2) 0,.lit (.int .i64 (i:Int)),.lit (.int .i64 0)] /\
    h'=⟨H.boxes++[(H.nx,Jh n),(H.nx+2,Jaq n o (Jcl (ofB x)) md (H.nx+1))],H.toks++[(H.nx+1,Jaa [])],H.nx+3⟩) \/
   ((okV n=true->¬ ((0<=md/\md<(n.modes.length:Int))/\∃ u∈Jcl (ofB x),(u.pos:Int)=at'))/\r = .tup [.lit (.pointer none),.lit (.int .i64 0),.lit (.int .i64 (if okV n then 2 else 110))]/\h'=⟨H.boxes++[(H.nx,Jh n)],H.toks,H.nx+1⟩):=by
 refine Ju Tryz.func21 rfl Tryz.ntmps21 (rs:=[.tmp 10,.tmp 11,.tmp 12]) rfl (by simp) ?_;have hn1:∀ c x,lk (H.boxes++(H.nx,c) :: x) H.nx=some c:=fun c x=>by rw[JP,hf _ (Nat.le_refl _)];simp[lk]
 have hcut:=Jqo L x f hL (by have:=g.len;omega);have hpx:=JaS L x f;have hrise:=JeE (ofB x);obtain⟨hlen,hpos⟩:=Jdz g.len;obtain⟨l,hl⟩:∃ l,Jcl (ofB x)=l:=⟨_,rfl⟩;rw[hl] at hcut hrise hlen hpos ⊢;have hbs:=Jze l at' hrise (by omega) (fun u hu=>by have:=hpos u hu;omega) g.at';have hmd:=g.md;have hmo:=g.ok.modes;unfold inV at hcut hpx ⊢;refine Jl ?_;simp -implicitDefEqProofs (disch:=omega) only[Wz,seval,Ly,Lx,hn1,J6,Jay];refine JR Jxe (Jmx n g.ok) (Jc (.of_pure (.agg (J8 n))) Jm) (.lit _) ?_;cases hok:okV n with
 | false =>
  simp -implicitDefEqProofs (disch:=omega) only[Wz,seval,Ly,Lx,if_false,Bool.false_eq_true];exact .inr (fun q=>(by cases q))
 | true =>
  simp -implicitDefEqProofs (disch:=omega) only[Wz,seval,Ly,Lx,if_true];refine Jg Jxf hcut (Jc hpx Jm) (.vec (Jk JbF l)) ?_;simp -implicitDefEqProofs (disch:=omega) only[Wz,seval,Ly,Lx];refine JM Jxg (hbs _) ?_;rintro r0 h' ⟨rfl,i,hi,ok,rfl,h1,h2⟩;cases ok with
  | false =>
   simp -implicitDefEqProofs (disch:=omega) only[Wz,seval,Ly,Lx,hn1];exact .inr (fun _ q=>by obtain⟨_,u,hu,e⟩:=q;exact h2 rfl u hu e)
  | true =>
   obtain⟨h3,h4⟩:=h1 rfl;by_cases hm0:md<0
   ·simp -implicitDefEqProofs (disch:=omega) only[Wz,seval,Ly,Lx,hn1];exact .inr (fun _ q=>by have:=q.1;omega)
   by_cases hm1:md<(n.modes.length:Int)
   ·simp -implicitDefEqProofs (disch:=omega) only[Wz,seval,Ly,Lx,hn1,Jh];refine .inl ⟨⟨by omega,hm1⟩,i,h3,h4,rfl,?_⟩;rw[List.append_assoc];rfl
   ·simp -implicitDefEqProofs (disch:=omega) only[Wz,seval,Ly,Lx,hn1,Jh];exact .inr (fun _ q=>by have:=q.1;omega)
end Go.Proofs.Y
end
section
namespace Go.Proofs.Y
open Go Go.Ab
theorem Jjw:JN Tryz.prog 23 [.vec [] false] (.vec [] false):=by
 refine Jo Tryz.func23 rfl Tryz.ntmps23 (rs:=[.tmp 2]) rfl (by simp) ?_;have hf0:JbS 0 16:=by decide
 simp -implicitDefEqProofs only[Wa,tyW,seval];refine Jev (xs:=[]) (f:=false) rfl Jtc rfl fun b hb=>?_
 cases b
 ·simp -implicitDefEqProofs only[Wa,tyW,seval,List.not_mem_nil,false_imp_iff,implies_true,hf0,eq_self,if_true];exact JaH (by simp)
 ·simp -implicitDefEqProofs only[Wa,tyW,seval];exact JaH (by simp)
theorem Jik(x:(Int × Int))(l:List (Int × Int))(hn:l.length<=4000000000000):JN Tryz.prog 23 [.vec ((x :: l).map JG) false] (.vec ((x :: l).map JG) false):=by
 refine Jo Tryz.func23 rfl Tryz.ntmps23 (rs:=[.tmp 2]) rfl (by simp) ?_;have hf:JbS (l.length+1) 16:=⟨by unfold maxLen;omega,by omega⟩;have h0:((l.length+1:Nat)=0)=False:=by simp
 have r3:∀ q∈JG x :: l.map JG,q.length=2:=fun q hq=>by
  obtain⟨v,_,rfl⟩:=List.mem_map.1 (show q∈(x :: l).map JG from hq);rfl
 simp -implicitDefEqProofs only[Wa,tyW,seval,List.map_cons];refine Jev (xs:=JG x :: l.map JG) (f:=false) rfl Jtc rfl fun b hb=>?_
 cases b
 ·simp -implicitDefEqProofs only[Wa,tyW,seval,List.not_mem_nil,false_imp_iff,implies_true,hf,eq_true r3,h0,if_true,if_false,List.length_map];exact Jch (k:=⟨JG x :: l.map JG,0,2⟩) rfl (by simp) (by rw[<- List.map_cons];exact Jk J7 _)
 ·cases hb rfl
theorem Jqq(l:List (Int × Int))(hn:l.length<=4000000000000):JN Tryz.prog 23 [.vec (l.map JG) false] (.vec (l.map JG) false):=by
 cases l with
 | nil=>exact Jjw
 | cons x l=>exact Jik x l (by simp at hn;omega)
theorem JgA{f:Tr->Jbn->Jbn × List En}(h:∀ t s,s.length<=(f t s).1.length):∀ (ts:List Tr) (s:Jbn),s.length<=(Jd2 f ts s).1.length
 | [],s=>Nat.le_refl _
 | t :: ts,s=>Nat.le_trans (h t s) (JgA h ts _)
theorem Jyi(n:Nt)(o:List Orc)(l:List Un)(md:Int):∀ (k r:Nat) (t:Tr) (s:Jbn),s.length<=(wF n o l md k r t s).1.length:=by
 intro k;induction k with
 | zero=>intro r t s;exact Nat.le_refl _
 | succ k ih =>
  intro r t s;unfold wF;split
  ·exact Nat.le_refl _
  split
  ·simp
  ·exact Nat.le_trans (by simp) (JgA (fun t s=>ih r t s) _ _)
theorem JlE{f:Tr->Jbn->Jbn × List En}{A c:Nat}(hm:∀ t s,s.length<=(f t s).1.length):∀ (ts:List Tr),(∀ t∈ts,∀ s,∀ y∈(f t s).2,y.acts.length+A * s.length<=c+A * (f t s).1.length)->∀ s,∀ y∈(Jd2 f ts s).2,y.acts.length+A * s.length<=c+A * (Jd2 f ts s).1.length
 | [],_,s,y,hy=>by cases hy
 | t :: ts,hf,s,y,hy=>by
  simp only[Jd2,List.mem_append] at hy ⊢;rcases hy with hy | hy
  ·have h1:=hf t (by simp) s y hy;have h2:=Nat.mul_le_mul_left A (JgA hm ts (f t s).1);omega
  ·have h1:=JlE hm ts (fun t ht=>hf t (by simp[ht])) _ y hy;have h2:=Nat.mul_le_mul_left A (hm t s);omega
theorem Jyj{n:Nt}{o:List Orc}{l:List Un}{md:Int}(w:Wf n)(u:JkA l)(mu:JoR n):∀ (k r:Nat) (t:Tr) (s:Jbn),∀ y∈(wF n o l md k r t s).2,y.acts.length+JiE * s.length<=t.acts.length+JiE * (wF n o l md k r t s).1.length:=by
 intro k;induction k with
 | zero=>intro r t s y hy;simp[wF] at hy
 | succ k ih =>
  intro r t s y hy;unfold wF at hy ⊢;split at hy
  ·cases hy
  rename_i h1;rw[if_neg h1];split at hy
  ·rename_i h2;rw[if_pos h2];rw[List.mem_singleton] at hy;subst hy;simp only[List.length_append,List.length_singleton,Nat.mul_add];omega
  ·rename_i h2;rw[if_neg h2];have h3:=JlE (A:=JiE) (c:=t.acts.length+JiE) (fun t s=>Jyi n o l md k r t s) _ (fun t' ht' s' y' hy'=>by
    have h4:=ih r t' s' y' hy';have h5:=Jjm w u (mu.acts t.st) ht';omega) _ y hy
   simp only[List.length_append,List.length_singleton,Nat.mul_add] at h3;omega
theorem Jyk{n:Nt}{o:List Orc}{l:List Un}{md:Int}{k r a:Nat}(w:Wf n)(u:JkA l)(mu:JoR n)(hl:l.length<=1000)(hr:r<n.rules.length)(ha:a<l.length):∀ y∈eF n o l md k r a,y.acts.length<=4000000000000:=fun y hy=>by
 have h1:=Jyj w u mu k r ⟨stN n r,a,[]⟩ [] y hy;have a1:=w.start hr;have h2:=Jru (k:=k) (o:=o) (md:=md) w u (r:=r) (t:=⟨stN n r,a,[]⟩) (seen:=[]) ⟨by unfold stN;simp only;omega,ha⟩ List.nodup_nil (fun p hp=>by cases hp);have h3:=JoA w u h2.nd h2.inr;have h4:n.states.length * l.length<=1500 * 1000:=Nat.mul_le_mul mu.nst hl;have h5:=Nat.mul_le_mul_left JiE (Nat.le_trans h3 h4);simp only[List.length_nil,Nat.mul_zero,Nat.add_zero,Nat.zero_add] at h1;unfold JiE at *;omega
theorem Jzf{n:Nt}{o:List Orc}{x:List UInt8}{at' md:Int}(g:JsO n o x at' md)(hok:okV n=true):Jrx n o (Jcl (ofB x)) md :=
 ⟨(Jgv hok).1,g.ok,Jif _,(Jdz g.len).1,g.o,fun u hu=>by have:=Jrw (ofB x).size (ofB x) 0 0 u hu;exact⟨this.1,this.2.1⟩⟩
theorem Jyl{n:Nt}{o:List Orc}{x:List UInt8}{at' md:Int}(g:JsO n o x at' md)(hok:okV n=true):∃ k,JmB n o (Jcl (ofB x)) md k:=Jx1 (Jgv hok).1 (Jif _) (Jia g.ok hok)
def JsP(n:Nt)(o:List Orc)(l:List Un)(md:Int)(k a:Nat)(at':Int):Int × Int × List (Int × Int) × Int :=
 match Jcd (Jcm n o l md k a n.rules.length) with
 | none=>(0,0,[],4)
 | some p=>((p.1:Int),((l.getD p.2.pos default).pos:Int) - at',p.2.acts,0)
def Jjx(t:Int × Int × List (Int × Int) × Int):AV:=.tup [.lit (.int .i64 t.1),.lit (.int .i64 t.2.1),.vec (t.2.2.1.map JG) false,.lit (.int .i64 t.2.2.2)]
def JmO (b:Option (Nat × En)):List AV:=[.lit (.int .i64 (match b with | none => -1 | some p=>(p.2.pos:Int)))]
def JlF (b:Option (Nat × En)):List AV:=[.lit (.int .i64 (match b with | none=>0 | some p=>(p.1:Int)))]
def JlG (b:Option (Nat × En)):List AV:=[match b with | none=>.vec [] true | some p=>.vec (p.2.acts.map JG) false]
theorem JoW(li a:Nat)(H:Hp):J4 Tryz.prog 22 [.ptr li 0,.lit (.int .i64 (a:Int))] H fun r h'=>r = .fn (.func 44) [] [.ptr H.nx 0,.ptr (H.nx+1) 0]/\h'=⟨H.boxes++[(H.nx,[.ptr li 0]),(H.nx+1,[.lit (.int .i64 (a:Int))])],H.toks,H.nx+2⟩:=by
 refine Ju Tryz.func22 rfl Tryz.ntmps22 (rs:=[.tmp 4]) rfl (by simp) ?_;refine Jl ?_;simp -implicitDefEqProofs (disch:=omega) only[Wz,seval,Ly,Lx,List.append_assoc]
structure NI (n:Nt) (o:List Orc) (l:List Un) (md:Int) (k a:Nat) (b:Option (Nat × En)) (z:Nat) (H:Hp):Prop where
 W:∃ W,JdT n o l md k W/\lk H.toks 4=some (Jaa W)
 lo:lk H.boxes 5=some (Jaq n o l md 4)
 b1:lk H.boxes 1=some (JlF b)
 b2:lk H.boxes 2=some (JlG b)
 b6:lk H.boxes 6=some (JmO b)
 b7:lk H.boxes 7=some [.ptr 5 0]
 b8:lk H.boxes 8=some [.lit (.int .i64 (a:Int))]
 lp:lk H.toks 9=some (Jbc z)
 no:lk H.toks 5=none
 fb:∀ i,H.nx<=i->lk H.boxes i=none
 ft:∀ i,H.nx<=i->lk H.toks i=none
 nx:10<=H.nx
section
variable {n:Nt} {o:List Orc} {l:List Un} {md:Int} {k a:Nat} {b:Option (Nat × En)} {z:Nat} {H:Hp}
theorem NI.grow(h:NI n o l md k a b z H){B:List (Nat × List AV)}{m:Nat}(hm:H.nx<=m)(hB:∀ q∈B,H.nx<=q.1/\q.1<m):NI n o l md k a b z ⟨H.boxes++B,H.toks,m⟩:=by
 have hp:∀ {i:Nat} {c:List AV},lk H.boxes i=some c->lk (H.boxes++B) i=some c:=fun e=>JbD e
 exact⟨h.W,hp h.lo,hp h.b1,hp h.b2,hp h.b6,hp h.b7,hp h.b8,h.lp,h.no,fun i hi=>by
  have hi:m<=i:=hi;show lk (H.boxes++B) i=none;rw[JP,h.fb i (by omega)];exact Jmz (N:=m) (fun q hq=>(hB q hq).2) hi,fun i hi=>by have hi:m<=i:=hi;exact h.ft i (by omega),Nat.le_trans h.nx hm⟩
theorem NI.put(h:NI n o l md k a b z H){W':Td}(hW:JdT n o l md k W'):NI n o l md k a b z ⟨H.boxes,up H.toks 4 (Jaa W'),H.nx⟩:=by
 obtain⟨W,h1,h2⟩:=h.W;refine⟨⟨W',hW,?_⟩,h.lo,h.b1,h.b2,h.b6,h.b7,h.b8,?_,?_,h.fb,fun i hi=>?_,h.nx⟩
 ·show lk (up H.toks 4 (Jaa W')) 4=_;rw[JV,if_pos rfl,h2];rfl
 ·show lk (up H.toks 4 (Jaa W')) 9=_;rw[JV,if_neg (by decide)];exact h.lp
 ·show lk (up H.toks 4 (Jaa W')) 5=_;rw[JV,if_neg (by decide)];exact h.no
 ·have:=h.nx;have hi:H.nx<=i:=hi;show lk (up H.toks 4 (Jaa W')) i=_;rw[JV,if_neg (by omega)];exact h.ft i hi
theorem NI.lkr(h:NI n o l md k a b z H):∃ W,JdT n o l md k W/\Lkr n o l md 5 4 W H:=by
 obtain⟨W,h1,h2⟩:=h.W;have:=h.nx;exact⟨W,h1,h.lo,h2,by decide,by omega,by omega,h.no,h.fb,h.ft⟩
theorem NI.setLp(h:NI n o l md k a b z H){y:Nat}:NI n o l md k a b y ⟨H.boxes,up H.toks 9 (Jbc y),H.nx⟩:=by
 obtain⟨W,h1,h2⟩:=h.W;refine⟨⟨W,h1,?_⟩,h.lo,h.b1,h.b2,h.b6,h.b7,h.b8,?_,?_,h.fb,fun i hi=>?_,h.nx⟩
 ·show lk (up H.toks 9 (Jbc y)) 4=_;rw[JV,if_neg (by decide)];exact h2
 ·show lk (up H.toks 9 (Jbc y)) 9=_;rw[JV,if_pos rfl,h.lp];rfl
 ·show lk (up H.toks 9 (Jbc y)) 5=_;rw[JV,if_neg (by decide)];exact h.no
 ·have:=h.nx;have hi:H.nx<=i:=hi;show lk (up H.toks 9 (Jbc y)) i=_;rw[JV,if_neg (by omega)];exact h.ft i hi
theorem NI.set3(h:NI n o l md k a b z H){b':Option (Nat × En)}:NI n o l md k a b' z ⟨up (up (up H.boxes 6 (JmO b')) 1 (JlF b')) 2 (JlG b'),H.toks,H.nx⟩:=by
 have e:∀ i,lk (up (up (up H.boxes 6 (JmO b')) 1 (JlF b')) 2 (JlG b')) i=if 2=i then some (JlG b') else if 1=i then some (JlF b') else if 6=i then some (JmO b') else lk H.boxes i:=fun i=>by
  simp only[JV,h.b1,h.b2,h.b6,Option.map_some];simp
 refine⟨h.W,?_,?_,?_,?_,?_,?_,h.lp,h.no,fun i hi=>?_,h.ft,h.nx⟩
 ·exact(e 5).trans h.lo
 ·exact e 1
 ·exact e 2
 ·exact e 6
 ·exact(e 7).trans h.b7
 ·exact(e 8).trans h.b8
 ·have:=h.nx;have hi:H.nx<=i:=hi;refine(e i).trans ?_;rw[if_neg (by omega),if_neg (by omega),if_neg (by omega)];exact h.fb i hi
end
theorem Jjy(L:List (Nat × List Value))(n:Nt)(o:List Orc)(x:List UInt8)(f:Bool)(hL:Jd5 L x)(at' md:Int)(g:JsO n o x at' md)(mu:JoR n)(k:Nat)(fk:okV n=true->JmB n o (Jcl (ofB x)) md k) :
  JN Tryz.prog 8 [.agg (Jh n),inV L x f,.vec (o.map Jfy) false,.lit (.int .i64 at'),.lit (.int .i64 md)]
   (if okV n=true/\(0<=md/\md<(n.modes.length:Int))/\∃ u∈Jcl (ofB x),(u.pos:Int)=at' then Jjx (JsP n o (Jcl (ofB x)) md k (ixV (Jcl (ofB x)) at') at') else Jjx (0,0,[],if okV n then 2 else 110)):=by
 refine JD (Ju Tryz.func8 rfl Tryz.ntmps8 (rs:=[.cell 10 3,.tmp 11,.cell 12 31,.tmp 13]) rfl (by simp) ?_);have hlook:=Jjv L n o x f hL at' md g;have hpx:=JaS L x f;have hrise:=JeE (ofB x);have hlk:=Jzf g;obtain⟨hlen,hpos⟩:=Jdz g.len;obtain⟨l,hl⟩:∃ l,Jcl (ofB x)=l:=⟨_,rfl⟩;rw[hl] at hlook hrise hlk hlen hpos fk ⊢;unfold inV at hlook hpx ⊢;refine Jq ?_;refine Jl ?_;simp -implicitDefEqProofs (disch:=omega) only[Wz,seval,Ly,Lx];refine Jq ?_;refine Jl ?_;simp -implicitDefEqProofs (disch:=omega) only[Wz,seval,Ly,Lx,J6,Jay];refine JM Jrf (hlook _ ?_) ?_
 ·exact fun i hi=>Jmz (N:=3) (by simp) hi
 rintro r0 h' (⟨hok,hmd,a,hal,hia,rfl,rfl⟩ | ⟨hno,rfl,rfl⟩)
 ·have hix:ixV l at'=a:=JoC hrise hal hia;have hex:∃ u∈l,(u.pos:Int)=at':=⟨_,Jv hal,hia⟩;rw[if_pos ⟨hok,hmd,hex⟩,hix];have hlk:=hlk hok;have fk:=fk hok;have hends:=fun r hr=>JlD hlk mu fk (Jia g.ok hok) r a hr hal
  simp -implicitDefEqProofs (disch:=omega) only[Wz,seval,Ly,Lx];refine Jq ?_;refine Jl ?_;simp -implicitDefEqProofs (disch:=omega) only[Wz,seval,Ly,Lx];refine Jq ?_;refine Jl ?_;simp -implicitDefEqProofs (disch:=omega) only[Wz,seval,Ly,Lx];refine Jq ?_;refine Jq ?_;refine Jl ?_;simp -implicitDefEqProofs (disch:=omega) only[Wz,seval,Ly,Lx];refine JM Jw4 (JoW 5 a _) ?_;rintro r0 h' ⟨rfl,rfl⟩;simp -implicitDefEqProofs (disch:=omega) only[Wz,seval,Ly,Lx];refine JQ ?_;refine Jco (σ':=⟨[(34,.fn (.func 44) [] [.ptr 7 0,.ptr 8 0]),(14,.ptr 5 0),(16,.ptr 6 0),(10,.ptr 1 0),(12,.ptr 2 0),(3,.lit (.int .i64 at'))],⟨[(0,Jh n),(1,JlF none),(2,JlG none),(3,Jh n),(5,Jaq n o l md 4),(6,JmO none),(7,[.ptr 5 0]),(8,[.lit (.int .i64 (a:Int))])],[(4,Jaa [])],9⟩,61⟩) (Jn (by simp[lk]) (fun _ _ e=>e) (fun _ _ e=>e) rfl rfl) ?_;refine Jfc (gf:=44) (first:=[]) (lb:=[.ptr 7 0,.ptr 8 0]) rfl Jxh (fun p hp=>?_);obtain⟨I,hI⟩:∃ I:Nat->Hp->Prop,∀ i H,I i H↔NI n o l md k a (Jcd (Jcm n o l md k a i)) 1 H:=⟨fun i H=>NI n o l md k a (Jcd (Jcm n o l md k a i)) 1 H,fun _ _=>Iff.rfl⟩;have h0:I 0 ⟨[(0,Jh n),(1,JlF none),(2,JlG none),(3,Jh n),(5,Jaq n o l md 4),(6,JmO none),(7,[.ptr 5 0]),(8,[.lit (.int .i64 (a:Int))])],[(4,Jaa []),(9,Jbc 1)],10⟩:=by
   rw[hI];exact⟨⟨[],.nil,rfl⟩,rfl,rfl,rfl,rfl,rfl,rfl,rfl,rfl,fun i hi=>Jmz (N:=10) (by simp) hi,fun i hi=>Jmz (N:=10) (by simp) hi,Nat.le_refl _⟩
  refine J4.mono (Jyf hlk a hal hends 5 4 7 8 I (fun _=>False) (fun i H h=>?_) (fun i H W' h hW=>?_) (fun i H B m h hm hB=>?_) (fun i H hi h hn=>?_) (fun i y H hi h hs=>?_) _ h0) ?_
  ·rw[hI] at h;exact⟨h.b7,h.b8,h.lkr⟩
  ·rw[hI] at h ⊢;exact h.put hW
  ·rw[hI] at h ⊢;exact h.grow hm hB
  ·rw[hI] at h ⊢;rw[Jei,hn];simpa using h
  ·rw[hI] at h;have hnext:Jcd (Jcm n o l md k a (i+1))=some (match Jcd (Jcm n o l md k a i) with | none=>(i,y) | some b=>JbL b (i,y)):=by
    rw[Jei,hs];exact JmE _ _
   obtain⟨b,hb⟩:∃ b,Jcd (Jcm n o l md k a i)=b:=⟨_,rfl⟩;rw[hb] at h hnext;refine hp _ _ _ ⟨h.lp,rfl,?_⟩;refine Jl ?_;have hu1:∀ c d,up (H.boxes++[(H.nx,c)]) H.nx d=H.boxes++[(H.nx,d)]:=fun c d=>Jgw (h.fb _ (Nat.le_refl _));have hn1:∀ c,lk (H.boxes++[(H.nx,c)]) H.nx=some c:=fun c=>by rw[JP,h.fb _ (Nat.le_refl _)];simp[lk]
   simp -implicitDefEqProofs (disch:=omega) only[Wz,seval,Ly,Lx,putL,hn1,hu1];refine⟨h.lp,?_⟩;have hN1:=(h.grow (Nat.le_succ H.nx) (B:=[(H.nx,JaQ y)]) (by simp)).setLp (y:=2);refine Jco (σ':=⟨[(17,.lit (.int .i64 (i:Int))),(18,.ptr H.nx 0),(16,.ptr 6 0),(10,.ptr 1 0),(12,.ptr 2 0)],⟨H.boxes++[(H.nx,JaQ y)],up H.toks 9 (Jbc 2),H.nx+1⟩,61⟩) (Jn (by simp[lk]) (fun _ _ e=>e) (fun _ _ e=>e) rfl rfl) ?_;have hy:=hn1 (JaQ y);have hq:10<=H.nx:=h.nx;generalize hH1:(⟨H.boxes++[(H.nx,JaQ y)],up H.toks 9 (Jbc 2),H.nx+1⟩:Hp)=H1 at hN1 ⊢;have hy:lk H1.boxes H.nx=some (JaQ y):=by rw[<- hH1];exact hy
   generalize H.nx=yi at hy hq ⊢;clear hH1 h hu1 hn1;have h6:=hN1.b6;have h1:=hN1.b1;have h2:=hN1.b2;refine JQ ?_;refine Jl ?_;obtain⟨fv,hfv,hf1,hf2⟩:∃ fv:Int,JmO b=[.lit (.int .i64 fv)]/\(fv<(y.pos:Int)->Jcd (Jcm n o l md k a (i+1))=some (i,y))/\(¬ fv<(y.pos:Int)->Jcd (Jcm n o l md k a (i+1))=b):=by
    cases b with
    | none=>exact⟨-1,rfl,fun _=>hnext,fun q=>by omega⟩
    | some b =>
     refine⟨(b.2.pos:Int),rfl,fun q=>?_,fun q=>?_⟩
     ·rw[hnext];simp only[JbL];rw[if_pos (by omega)]
     ·rw[hnext];simp only[JbL];rw[if_neg (by omega)]
   have h3:=(hN1.set3 (b':=some (i,y)));rw[hfv] at h6;by_cases hlt:fv<(y.pos:Int)
   ·have hi1:=hf1 hlt;clear hnext hf1 hf2 hs hb;simp -implicitDefEqProofs (disch:=omega) only[Wz,seval,Ly,Lx,h6,hy,JaQ];refine JpA (n:=61) (σ':=⟨[],⟨up (up (up H1.boxes 6 (JmO (some (i,y)))) 1 (JlF (some (i,y)))) 2 (JlG (some (i,y))),H1.toks,H1.nx⟩,61⟩) 0 (.alt 0 (.alt 1 (.alt 2 (.alt 3 (.alt 4 (.alt 5 (.alt 6 (.alt 7 .leaf .nil) .nil) .nil) (.alt 5 (.alt 4 (.alt 6 (.alt 7 .leaf .nil) .nil) (.alt 6 (.alt 4 (.alt 7 .leaf .nil) .nil) .nil)) .nil)) (.alt 5 (.alt 3 (.alt 4 (.alt 6 (.alt 7 .leaf .nil) .nil) (.alt 6 (.alt 4 (.alt 7 .leaf .nil) .nil) .nil)) (.alt 6 (.alt 3 (.alt 4 (.alt 7 .leaf .nil) .nil) .nil) .nil)) .nil)) (.alt 3 (.alt 2 (.alt 4 (.alt 5 (.alt 6 (.alt 7 .leaf .nil) .nil) .nil) (.alt 5 (.alt 4 (.alt 6 (.alt 7 .leaf .nil) .nil) (.alt 6 (.alt 4 (.alt 7 .leaf .nil) .nil) .nil)) .nil)) (.alt 4 (.alt 2 (.alt 5 (.alt 6 (.alt 7 .leaf .nil) .nil) .nil) (.alt 5 (.alt 2 (.alt 6 (.alt 7 .leaf .nil) .nil) .nil) .nil)) (.alt 5 (.alt 2 (.alt 4 (.alt 6 (.alt 7 .leaf .nil) .nil) (.alt 6 (.alt 4 (.alt 7 .leaf .nil) .nil) .nil)) (.alt 4 (.alt 2 (.alt 6 (.alt 7 .leaf .nil) .nil) .nil) .nil)) .nil))) (.alt 5 (.alt 2 (.alt 3 (.alt 4 (.alt 6 (.alt 7 .leaf .nil) .nil) (.alt 6 (.alt 4 (.alt 7 .leaf .nil) .nil) .nil)) (.alt 6 (.alt 3 (.alt 4 (.alt 7 .leaf .nil) .nil) .nil) .nil)) (.alt 3 (.alt 2 (.alt 4 (.alt 6 (.alt 7 .leaf .nil) .nil) (.alt 6 (.alt 4 (.alt 7 .leaf .nil) .nil) .nil)) (.alt 4 (.alt 2 (.alt 6 (.alt 7 .leaf .nil) .nil) .nil) .nil)) .nil)) .nil))) (.alt 2 (.alt 1 (.alt 3 (.alt 4 (.alt 5 (.alt 6 (.alt 7 .leaf .nil) .nil) .nil) (.alt 5 (.alt 4 (.alt 6 (.alt 7 .leaf .nil) .nil) (.alt 6 (.alt 4 (.alt 7 .leaf .nil) .nil) .nil)) .nil)) (.alt 5 (.alt 3 (.alt 4 (.alt 6 (.alt 7 .leaf .nil) .nil) (.alt 6 (.alt 4 (.alt 7 .leaf .nil) .nil) .nil)) (.alt 6 (.alt 3 (.alt 4 (.alt 7 .leaf .nil) .nil) .nil) .nil)) .nil)) (.alt 3 (.alt 1 (.alt 4 (.alt 5 (.alt 6 (.alt 7 .leaf .nil) .nil) .nil) (.alt 5 (.alt 4 (.alt 6 (.alt 7 .leaf .nil) .nil) (.alt 6 (.alt 4 (.alt 7 .leaf .nil) .nil) .nil)) .nil)) (.alt 4 (.alt 1 (.alt 5 (.alt 6 (.alt 7 .leaf .nil) .nil) .nil) .nil) .nil)) .nil)) (.alt 3 (.alt 1 (.alt 2 (.alt 4 (.alt 5 (.alt 6 (.alt 7 .leaf .nil) .nil) .nil) (.alt 5 (.alt 4 (.alt 6 (.alt 7 .leaf .nil) .nil) (.alt 6 (.alt 4 (.alt 7 .leaf .nil) .nil) .nil)) .nil)) (.alt 4 (.alt 2 (.alt 5 (.alt 6 (.alt 7 .leaf .nil) .nil) .nil) (.alt 5 (.alt 2 (.alt 6 (.alt 7 .leaf .nil) .nil) .nil) .nil)) (.alt 5 (.alt 2 (.alt 4 (.alt 6 (.alt 7 .leaf .nil) .nil) (.alt 6 (.alt 4 (.alt 7 .leaf .nil) .nil) .nil)) (.alt 4 (.alt 2 (.alt 6 (.alt 7 .leaf .nil) .nil) .nil) .nil)) .nil))) (.alt 2 (.alt 1 (.alt 4 (.alt 5 (.alt 6 (.alt 7 .leaf .nil) .nil) .nil) (.alt 5 (.alt 4 (.alt 6 (.alt 7 .leaf .nil) .nil) (.alt 6 (.alt 4 (.alt 7 .leaf .nil) .nil) .nil)) .nil)) (.alt 4 (.alt 1 (.alt 5 (.alt 6 (.alt 7 .leaf .nil) .nil) .nil) .nil) .nil)) (.alt 4 (.alt 1 (.alt 2 (.alt 5 (.alt 6 (.alt 7 .leaf .nil) .nil) .nil) (.alt 5 (.alt 2 (.alt 6 (.alt 7 .leaf .nil) .nil) .nil) .nil)) (.alt 2 (.alt 1 (.alt 5 (.alt 6 (.alt 7 .leaf .nil) .nil) .nil) .nil) .nil)) .nil))) .nil))) (.alt 2 (.alt 0 (.alt 1 (.alt 3 (.alt 4 (.alt 5 (.alt 6 (.alt 7 .leaf .nil) .nil) .nil) (.alt 5 (.alt 4 (.alt 6 (.alt 7 .leaf .nil) .nil) (.alt 6 (.alt 4 (.alt 7 .leaf .nil) .nil) .nil)) .nil)) (.alt 5 (.alt 3 (.alt 4 (.alt 6 (.alt 7 .leaf .nil) .nil) (.alt 6 (.alt 4 (.alt 7 .leaf .nil) .nil) .nil)) (.alt 6 (.alt 3 (.alt 4 (.alt 7 .leaf .nil) .nil) .nil) .nil)) .nil)) (.alt 3 (.alt 1 (.alt 4 (.alt 5 (.alt 6 (.alt 7 .leaf .nil) .nil) .nil) (.alt 5 (.alt 4 (.alt 6 (.alt 7 .leaf .nil) .nil) (.alt 6 (.alt 4 (.alt 7 .leaf .nil) .nil) .nil)) .nil)) (.alt 4 (.alt 1 (.alt 5 (.alt 6 (.alt 7 .leaf .nil) .nil) .nil) .nil) .nil)) .nil)) (.alt 3 (.alt 0 (.alt 1 (.alt 4 (.alt 5 (.alt 6 (.alt 7 .leaf .nil) .nil) .nil) (.alt 5 (.alt 4 (.alt 6 (.alt 7 .leaf .nil) .nil) (.alt 6 (.alt 4 (.alt 7 .leaf .nil) .nil) .nil)) .nil)) (.alt 4 (.alt 1 (.alt 5 (.alt 6 (.alt 7 .leaf .nil) .nil) .nil) .nil) .nil)) (.alt 4 (.alt 0 (.alt 1 (.alt 5 (.alt 6 (.alt 7 .leaf .nil) .nil) .nil) .nil) .nil) .nil)) .nil)) (.alt 3 (.alt 0 (.alt 1 (.alt 2 (.alt 4 (.alt 5 (.alt 6 (.alt 7 .leaf .nil) .nil) .nil) (.alt 5 (.alt 4 (.alt 6 (.alt 7 .leaf .nil) .nil) (.alt 6 (.alt 4 (.alt 7 .leaf .nil) .nil) .nil)) .nil)) (.alt 4 (.alt 2 (.alt 5 (.alt 6 (.alt 7 .leaf .nil) .nil) .nil) (.alt 5 (.alt 2 (.alt 6 (.alt 7 .leaf .nil) .nil) .nil) .nil)) (.alt 5 (.alt 2 (.alt 4 (.alt 6 (.alt 7 .leaf .nil) .nil) (.alt 6 (.alt 4 (.alt 7 .leaf .nil) .nil) .nil)) (.alt 4 (.alt 2 (.alt 6 (.alt 7 .leaf .nil) .nil) .nil) .nil)) .nil))) (.alt 2 (.alt 1 (.alt 4 (.alt 5 (.alt 6 (.alt 7 .leaf .nil) .nil) .nil) (.alt 5 (.alt 4 (.alt 6 (.alt 7 .leaf .nil) .nil) (.alt 6 (.alt 4 (.alt 7 .leaf .nil) .nil) .nil)) .nil)) (.alt 4 (.alt 1 (.alt 5 (.alt 6 (.alt 7 .leaf .nil) .nil) .nil) .nil) .nil)) (.alt 4 (.alt 1 (.alt 2 (.alt 5 (.alt 6 (.alt 7 .leaf .nil) .nil) .nil) (.alt 5 (.alt 2 (.alt 6 (.alt 7 .leaf .nil) .nil) .nil) .nil)) (.alt 2 (.alt 1 (.alt 5 (.alt 6 (.alt 7 .leaf .nil) .nil) .nil) .nil) .nil)) .nil))) (.alt 2 (.alt 0 (.alt 1 (.alt 4 (.alt 5 (.alt 6 (.alt 7 .leaf .nil) .nil) .nil) (.alt 5 (.alt 4 (.alt 6 (.alt 7 .leaf .nil) .nil) (.alt 6 (.alt 4 (.alt 7 .leaf .nil) .nil) .nil)) .nil)) (.alt 4 (.alt 1 (.alt 5 (.alt 6 (.alt 7 .leaf .nil) .nil) .nil) .nil) .nil)) (.alt 4 (.alt 0 (.alt 1 (.alt 5 (.alt 6 (.alt 7 .leaf .nil) .nil) .nil) .nil) .nil) .nil)) (.alt 4 (.alt 0 (.alt 1 (.alt 2 (.alt 5 (.alt 6 (.alt 7 .leaf .nil) .nil) .nil) (.alt 5 (.alt 2 (.alt 6 (.alt 7 .leaf .nil) .nil) .nil) .nil)) (.alt 2 (.alt 1 (.alt 5 (.alt 6 (.alt 7 .leaf .nil) .nil) .nil) .nil) .nil)) (.alt 2 (.alt 0 (.alt 1 (.alt 5 (.alt 6 (.alt 7 .leaf .nil) .nil) .nil) .nil) .nil) .nil)) .nil))) .nil))) rfl (by decide) (by decide) mixed (by kernel_rfl) (by decide) ?_ ?_
    ·clear hp hI h0;have key:∀ sl:List (Nat × AV),St.wk ⟨sl,⟨up (up (up H1.boxes 6 [.lit (.int .i64 (y.pos:Int))]) 1 [.lit (.int .i64 (i:Int))]) 2 [.vec (y.acts.map JG) false],H1.toks,H1.nx⟩,61⟩ ⟨[],⟨up (up (up H1.boxes 6 [.lit (.int .i64 (y.pos:Int))]) 1 [.lit (.int .i64 (i:Int))]) 2 [.vec (y.acts.map JG) false],H1.toks,H1.nx⟩,61⟩:=fun sl=>Jn Jm (fun _ _ e=>e) (fun _ _ e=>e) rfl rfl;simp -implicitDefEqProofs (disch:=omega) only[Wz,seval,Ly,Lx,h6,hy,h1,h2,JV,JmO,JlF,JlG,JaQ,Option.map_some,key,and_self]
    simp -implicitDefEqProofs (disch:=omega) only[Wz,seval,Ly,Lx];refine⟨⟨[],⟨up (up (up H1.boxes 6 (JmO (some (i,y)))) 1 (JlF (some (i,y)))) 2 (JlG (some (i,y))),H1.toks,H1.nx⟩,61⟩,.refl _,h3.lp,.inl ⟨rfl,(hI _ _).2 ?_⟩⟩;rw[hi1];exact h3.setLp
   ·have hi1:=hf2 hlt;simp -implicitDefEqProofs (disch:=omega) only[Wz,seval,Ly,Lx,h6,hy,JaQ];refine⟨⟨[],H1,61⟩,Jn Jm (fun _ _ e=>e) (fun _ _ e=>e) rfl rfl,hN1.lp,.inl ⟨rfl,(hI _ _).2 ?_⟩⟩;rw[hi1];exact hN1.setLp
  ·rintro r H' ⟨rfl,hH | hH⟩;rotate_left
   ·exact hH.elim
   rw[hI] at hH;refine⟨1,Nat.le_refl _,by decide,hH.lp,.inl ⟨rfl,?_⟩⟩;show Aw _ _ _ _;obtain⟨b,hb⟩:∃ b,Jcd (Jcm n o l md k a n.rules.length)=b:=⟨_,rfl⟩;have hmem:∀ p,b=some p->p.2∈eF n o l md k p.1 a/\p.1<n.rules.length:=fun p e=>by
    rw[e] at hb;have h1:=(JoG hb (JkC n o l md k a _)).1;have h2:=Jhh h1;exact⟨h2.2.2,h2.1⟩
   rw[hb] at hH;unfold JsP;rw[hb];have hH':NI n o l md k a b 1 H':=hH;have hlo:=hH.lo;have hw:=hH.nx;refine Jco (σ':=⟨[(14,.ptr 5 0),(16,.ptr 6 0),(10,.ptr 1 0),(12,.ptr 2 0),(3,.lit (.int .i64 at'))],⟨[(1,JlF b),(2,JlG b),(5,Jaq n o l md 4),(6,JmO b)],[],H'.nx⟩,61⟩) ?_ ?_
   ·refine JaF (by simp[lk]) ?_ Jm rfl rfl;exact Jc hH.b1 (Jc hH.b2 (Jc hH.lo (Jc hH.b6 Jm)))
   refine Jq ?_;refine Jl ?_;cases b with
   | none =>
    simp -implicitDefEqProofs (disch:=omega) only[Wz,seval,Ly,Lx,JmO,JlF,JlG];exact JH (Jj (Jb (.lit _)) (Jj (Jb (.lit _)) (Jj (JaH (by simp)) (Jj (Jb (.lit _)) JA))))
   | some q =>
    obtain⟨hm1,hm2⟩:=hmem q rfl;have hqo:=Joz hlk.w hlk.u (o:=o) (md:=md) (k:=k) hm2 hal q.2 hm1;obtain⟨u,hu⟩:∃ u,l.getD q.2.pos default=u:=⟨_,rfl⟩;have hup:=hpos u (by rw[<- hu];exact Jv hqo.2.1);have hia2:=hpos _ (Jv hal);simp -implicitDefEqProofs (disch:=omega) only[Wz,seval,Ly,Lx,JmO,JlF,JlG];refine Jq ?_;refine JpM (n:=61) (σ':=⟨[(10,.ptr 1 0),(12,.ptr 2 0),(11,.lit (.int .i64 ((u.pos:Int) - at'))),(13,.lit (.int .i64 0))],⟨[(1,JlF (some q)),(2,JlG (some q))],[],H'.nx⟩,61⟩) (H'.nx) 13 (.alt 14 (.alt 15 (.alt 16 .leaf .nil) .nil) .nil) rfl rfl (by decide) (by decide) (by decide) mixed (by kernel_rfl) (by decide) ?_ ?_
    ·have hsub:IntKind.i64.wrap ((u.pos:Int) - at')=(u.pos:Int) - at':=Jdh (by omega) (by omega);have hlk5:=hqo.2.1;simp -implicitDefEqProofs (disch:=omega) only[Wz,seval,Ly,Lx,Jaq,Jh,hu,JeI,hsub];refine Jax Jw5 (Jqq q.2.acts (Jyk hlk.w hlk.u mu hlen hm2 hal _ hm1)) (Jc (.vec (Jk J7 _)) Jm) (.vec (Jk J7 _)) ?_;simp -implicitDefEqProofs (disch:=omega) only[Wz,seval,Ly,Lx,JyD];exact⟨⟨fun _ _ e=>e,fun _ _ e=>e⟩,St.wk.cp (Jn (by simp[lk]) (fun _ _ e=>JbD e) (fun _ _ e=>e) rfl rfl)⟩
    ·simp -implicitDefEqProofs (disch:=omega) only[Wz,seval,Ly,Lx,hu];refine Jl ?_;simp -implicitDefEqProofs (disch:=omega) only[Wz,seval,Ly,Lx,JlF,JlG];exact JH (Jj (Jb (.lit _)) (Jj (Jb (.lit _)) (Jj (Jb (.vec (Jk J7 _))) (Jj (Jb (.lit _)) JA))))
 ·rw[if_neg (fun q=>hno q.1 q.2)];cases hok:okV n with
  | true =>
   simp -implicitDefEqProofs (disch:=omega) only[Wz,seval,Ly,Lx,if_true];refine Jq ?_;refine Jl ?_;simp -implicitDefEqProofs (disch:=omega) only[Wz,seval,Ly,Lx];exact JH (Jj (Jb (.lit _)) (Jj (Jb (.lit _)) (Jj (JaH (by simp)) (Jj (Jb (.lit _)) JA))))
  | false =>
   simp -implicitDefEqProofs (disch:=omega) only[Wz,seval,Ly,Lx,Bool.false_eq_true,if_false];refine Jq ?_;refine Jl ?_;simp -implicitDefEqProofs (disch:=omega) only[Wz,seval,Ly,Lx];exact JH (Jj (Jb (.lit _)) (Jj (Jb (.lit _)) (Jj (JaH (by simp)) (Jj (Jb (.lit _)) JA))))
end Go.Proofs.Y
end
