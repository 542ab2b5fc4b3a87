/- Parts of the proof, laid together. -/
import Derived.Test.YtgbbhilflgekhaaGreatDoorTp
import Derived.Carry
import Derived.ChangeSame
import Derived.JoinedCond
import Derived.OpenShut
import Derived.Test.YtgbbhilflgekhaaGreatDoorRows
import Derived.Lib.LaidU8T
set_option linter.unusedVariables false
set_option linter.unusedSimpArgs false
set_option maxRecDepth 20000
set_option maxHeartbeats 16000000
section
namespace Go.Proofs.Y
open Go Go.Ab
section
variable {n:Nt} {o:List Orc} {l:List Un} {md:Int} {W:AV} {k:Nat} {rk:Nat->Nat} {R:Nat} (z:JtT n o l md W k rk R)
include z
theorem Jrn{t:Tr}(ht:Jfb n l t):Jlm n o l md W k rk R t:=by
 have key:∀ (m:Nat) (t:Tr),mT l rk R t<m->Jfb n l t->Jlm n o l md W k rk R t:=by
  intro m;induction m with
  | zero=>intro t h;omega
  | succ m ih=>intro t h ht;exact JpO z ht fun t' h1 h2=>ih t' (by omega) h1
 exact key _ t (Nat.lt_succ_self _) ht
theorem JpP{r a:Nat}(hr:r<n.rules.length)(ha:a<l.length):Jtz n o l md W k rk R r a:=by
 have a1:=z.g.w.start hr;exact JfF z.g z.hW hr ha (Jrn z ⟨by unfold stN;simp only;omega,ha⟩)
end
theorem Jmb:∀ (l:List En) (y:En),l.foldl (Jcp true) y=y
 | [],y=>rfl
 | z :: l,y=>by
  rw[List.foldl_cons];have:Jcp true y z=y:=by unfold Jcp;rw[if_neg (by simp)]
  rw[this];exact Jmb l y
theorem Jnh(lz:Bool)(y:En):Jcp lz y y=y:=by unfold Jcp;rw[if_neg (by omega)]
theorem Fq.up{H:Hp}{b:Nat}(hb:b<H.nx)(fb:∀ j,H.nx<=j->lk H.boxes j=none)(ft:∀ j,H.nx<=j->lk H.toks j=none)(c:List AV):Fq [b] [] H ⟨up H.boxes b c,H.toks,H.nx⟩ :=
 ⟨Nat.le_refl _,fun j _ hj=>by show lk (Go.Ab.up H.boxes b c) j=_;rw[JL,if_neg (fun q=>hj (by simp[q]))],fun _ _ _=>rfl,fun j hj=>by show lk (Go.Ab.up H.boxes b c) j=none;rw[JL,if_neg (by have hj:H.nx<=j:=hj;omega)];exact fb j hj,ft⟩
def JtU (b:Option En):AV:=match b with
 | none=>.tup [.agg [.lit (.int .i64 0),.vec [] true],.lit (.bool false)]
 | some y=>.tup [.agg (JQ y),.lit (.bool true)]
theorem JiT{n:Nt}{o:List Orc}{l:List Un}{md:Int}{W:AV}{k:Nat}{rk:Nat->Nat}{R:Nat}(z:JtT n o l md W k rk R){r a:Nat}(hr:r<n.rules.length)(ha:a<l.length){li:Nat}{M:Mm}{q:Q3}{H:Hp}(hl:RL n o l md W li M q H)(hm:JhL n o l md k M) :
  JW Tryz.prog 48 [.ptr li 0,.lit (.int .i64 (r:Int)),.lit (.int .i64 (a:Int))] H fun v h'=>v=JtU (Jcq (n.rules.getD r default).lz (eF n o l md k r a)) /\
   ∃ M' q',JhL n o l md k M'/\RL n o l md W li M' q' h'/\Fq [li] (n3 q) H h'/\(∀ j∈n3 q',j∈n3 q\/H.nx<=j):=by
 refine Jr Tryz.func48 rfl Tryz.ntmps48 (rs:=[.cell 6 113,.tmp 7]) rfl (by simp) ?_;have hll:=z.g.len;have hlt:=hl.lt;obtain⟨lz,hlz⟩:∃ lz,(n.rules.getD r default).lz=lz:=⟨_,rfl⟩;obtain⟨rr,hrr⟩:∃ rr,n.rules.getD r default=rr:=⟨_,rfl⟩;rw[hlz];rw[hrr] at hlz;obtain⟨Qk,hQ⟩:∃ Qk:AV->Hp->Prop,(fun v h'=>v=JtU (Jcq lz (eF n o l md k r a))/\∃ M' q',JhL n o l md k M'/\RL n o l md W li M' q' h'/\Fq [li] (n3 q) H h'/\(∀ j∈n3 q',j∈n3 q\/H.nx<=j))=Qk:=⟨_,rfl⟩;rw[hQ];have fk:=Fq.box (B:=[]) (T:=[]) hl.fb hl.ft [AV.lit (.int .i64 0),.vec [] true];have hl1:=hl.keep fk (by simp) (fun j _=>by simp);refine Jo ?_;refine Jk ?_;simp -implicitDefEqProofs (disch:=omega) only[Wz,seval,Ly,Lx];refine Jo ?_;refine Jk ?_;simp -implicitDefEqProofs (disch:=omega) only[Wz,seval,Ly,Lx];refine JF JrQ (JpP z hr ha li M q _ hl1 hm) ?_;rintro v h' ⟨rfl,M',q',m1,m2,m3,m4,m5⟩;have hb6:lk h'.boxes H.nx=some [AV.lit (.int .i64 0),.vec [] true]:=by
  rw[m3.bx H.nx (Nat.lt_succ_self _) (by simp;omega)];exact JcD (hl.fb _ (Nat.le_refl _)) _ _
 have hn6:H.nx<h'.nx:=Nat.lt_of_lt_of_le (Nat.lt_succ_self _) m3.nx;have base:Fq [li] (n3 q) H h':=(fk.mono (fun j hj=>by cases hj) (fun j hj=>by cases hj)).trans m3 (fun j hj=>.inl hj) (fun j hj=>.inl hj);have nm:∀ j∈n3 q',j∈n3 q\/H.nx<=j:=fun j hj=>by
  rcases m4 j hj with p | p
  ·exact .inl p
  ·right;have p:H.nx+1<=j:=p;omega
 have hQ':∀ (h'':Hp),Fq [H.nx] [] h' h''->Qk (JtU (Jcq lz (eF n o l md k r a))) h'':=fun h'' f=>by
  rw[<- hQ];exact⟨rfl,M',q',m1,m2.keep f (by simp;omega) (fun j _=>by simp),base.trans f (fun j hj=>.inr (by simp at hj;omega)) (fun j hj=>by cases hj),nm⟩
 have fb:=m2.fb;have ft:=m2.ft;have bx:=m2.bx;have lenl:=JkX z.g.w z.g.u (o:=o) (md:=md) (k:=k) hr ha;obtain⟨ys,hys⟩:∃ ys,eF n o l md k r a=ys:=⟨_,rfl⟩;rw[hys] at hQ' lenl ⊢;clear hQ hl hl1 m4 m5 fk base nm;have hu6:∀ c,lk (up h'.boxes H.nx c) H.nx=some c:=fun c=>by rw[JL,if_pos rfl,hb6];rfl
 simp -implicitDefEqProofs (disch:=omega) only[Wz,seval,Ly,Lx];refine Jo ?_;refine Jk ?_;rcases Nat.eq_zero_or_pos ys.length with hz0 | hpos
 ·have:=List.eq_nil_of_length_eq_zero hz0;subst this;simp -implicitDefEqProofs (disch:=omega) only[Wz,seval,Ly,Lx,List.map_nil,List.length_nil,hb6,hu6];exact hQ' _ (Fq.up hn6 fb ft _)
 ·simp -implicitDefEqProofs (disch:=omega) only[Wz,seval,Ly,Lx];refine Jo ?_;refine Jk ?_;have hnn:∀ c,lk (h'.boxes++[(h'.nx,c)]) h'.nx=some c:=fun c=>JcD (fb _ (Nat.le_refl _)) c _;have hu1:∀ c d,up (h'.boxes++[(h'.nx,c)]) h'.nx d=h'.boxes++[(h'.nx,d)]:=fun c d=>JdN (fb _ (Nat.le_refl _));have bx':∀ x,lk (h'.boxes++x) li=some _:=fun x=>by rw[JI,bx];rfl
  obtain⟨y0,hy0⟩:∃ y0,ys.getD 0 default=y0:=⟨_,rfl⟩;obtain⟨yr,hys2⟩:∃ yr,y0 :: yr=ys:=by
   cases ys with
   | nil=>cases hpos
   | cons y yr=>exact⟨yr,by rw[<- hy0];rfl⟩
  simp -implicitDefEqProofs (disch:=omega) only[Wz,seval,Ly,Lx,hy0,hnn,hu1];obtain⟨B,hB⟩:∃ B:Nat->En,(fun i=>(ys.take i).foldl (Jcp lz) y0)=B:=⟨_,rfl⟩;have hB0:B 0=y0:=by rw[<- hB];rfl
  have hBs:∀ i,i<ys.length->B (i+1)=Jcp lz (B i) (ys.getD i default):=fun i hi=>by
   rw[<- hB];simp only;rw[List.take_succ_eq_append_getElem hi,List.foldl_append,List.getD_eq_getElem?_getD,List.getElem?_eq_getElem hi];rfl
  have hBe:Jcq lz ys=some (B ys.length):=by
   rw[<- hB,<- hys2];simp only[List.take_length];unfold Jcq;rw[List.foldl_cons,Jnh]
  have hBz:lz=true->Jcq lz ys=some (B 0):=fun h=>by
   rw[hB0,<- hys2];show some (yr.foldl (Jcp lz) y0)=some y0;rw[h,Jmb]
  refine Jo ?_;refine Jo ?_;refine Jk ?_;simp -implicitDefEqProofs (disch:=omega) only[Wz,seval,Ly,Lx];refine Jaq ?_;refine Jp (fun i:Nat=>⟨[(0,.ptr li 0),(1,.lit (.int .i64 (r:Int))),(2,.lit (.int .i64 (a:Int))),(6,.ptr H.nx 0),(7,.lit (.bool false)),(8,.vec (ys.map JQ) false),(9,.ptr h'.nx 0),(10,.lit (.int .i64 (i:Int)))],⟨h'.boxes++[(h'.nx,JQ (B i))],h'.toks,h'.nx+1⟩,53⟩) (fun i=>i<=ys.length/\(lz=true->i=0)) (fun i=>ys.length - i) 0 (Jj (by simp[lk,JQ]) (fun _ _ e=>by simpa [hB0,JQ] using e) (fun _ _ e=>e) rfl rfl) ⟨Nat.zero_le _,fun _=>rfl⟩ ?_;rintro i ⟨hi,hiz⟩;have hb6':∀ x,lk (h'.boxes++x) H.nx=some _:=fun x=>by rw[JI,hb6];rfl
  have hu6':∀ x c,lk (up (h'.boxes++x) H.nx c) H.nx=some c:=fun x c=>by rw[JL,if_pos rfl,hb6'];rfl
  have fin:Jcq lz ys=some (B i)->Qk (JtU (some (B i))) ⟨up (h'.boxes++[(h'.nx,JQ (B i))]) H.nx (JQ (B i)),h'.toks,h'.nx+1⟩:=fun h=>by
   rw[<- h];refine hQ' _ ((Fq.up hn6 fb ft (JQ (B i))).trans (B':=[]) (T':=[]) ⟨Nat.le_succ _,fun j hj _=>?_,fun _ _ _=>rfl,fun j hj=>?_,fun j hj=>ft j (by have hj:h'.nx+1<=j:=hj;omega)⟩ (fun j hj=>by cases hj) (fun j hj=>by cases hj))
   ·have hj:j<h'.nx:=hj;show lk (up (h'.boxes++[(h'.nx,JQ (B i))]) H.nx (JQ (B i))) j=lk (up h'.boxes H.nx (JQ (B i))) j;rw[JL,JL,JdQ _ (by omega),JdQ _ (by omega)]
   ·have hj:h'.nx+1<=j:=hj;show lk (up (h'.boxes++[(h'.nx,JQ (B i))]) H.nx (JQ (B i))) j=none;rw[JL,if_neg (by omega),JdQ _ (by omega)];exact fb j (by omega)
  refine Jo ?_;refine Jk ?_;rcases Nat.lt_or_ge i ys.length with hlt2 | hge
  rotate_left
  ·have hie:i=ys.length:=by omega
   have hlz0:lz=false:=by
    cases lz with
    | false=>rfl
    | true=>have:=hiz rfl;omega
   subst hie;simp -implicitDefEqProofs (disch:=omega) only[Wz,seval,Ly,Lx];refine Jk ?_;simp -implicitDefEqProofs (disch:=omega) only[Wz,seval,Ly,Lx,hnn,hb6',hu6'];exact fin hBe
  cases lz with
  | true =>
   have:=hiz rfl;subst this;simp -implicitDefEqProofs (disch:=omega) only[Wz,seval,Ly,Lx,bx',rlC,Jh,hrr,Jc,hlz];refine Jk ?_;simp -implicitDefEqProofs (disch:=omega) only[Wz,seval,Ly,Lx,hnn,hb6',hu6'];exact fin (hBz rfl)
  | false =>
  obtain⟨yi,hyi⟩:∃ yi,ys.getD i default=yi:=⟨_,rfl⟩;have hBi:=hBs i hlt2;rw[hyi] at hBi;unfold Jcp at hBi;simp -implicitDefEqProofs (disch:=omega) only[Wz,seval,Ly,Lx,bx',rlC,Jh,hrr,Jc,hlz];refine Jo ?_;refine Jaq ?_;refine Jo ?_;refine Jv (n:=53) rfl (by decide) mixed ?_;by_cases hfar:(B i).pos<yi.pos
  ·rw[if_pos ⟨hfar,rfl⟩] at hBi;simp -implicitDefEqProofs (disch:=omega) only[Wz,seval,Ly,Lx,hnn,hyi,JQ];refine Jk ?_;simp -implicitDefEqProofs (disch:=omega) only[Wz,seval,Ly,Lx,hnn,hyi,hu1,JQ];refine Jk ?_;simp -implicitDefEqProofs (disch:=omega) only[Wz,seval,Ly,Lx];exact⟨i+1,⟨hlt2,fun q=>by cases q⟩,by omega,Jj (by simp[lk]) (fun _ _ e=>by simpa [hBi] using e) (fun _ _ e=>e) rfl rfl⟩
  ·rw[if_neg (fun q=>hfar q.1)] at hBi;simp -implicitDefEqProofs (disch:=omega) only[Wz,seval,Ly,Lx,hnn,hyi,JQ];refine Jk ?_;simp -implicitDefEqProofs (disch:=omega) only[Wz,seval,Ly,Lx,hnn,hyi,JQ];refine Jk ?_;simp -implicitDefEqProofs (disch:=omega) only[Wz,seval,Ly,Lx];exact⟨i+1,⟨hlt2,fun q=>by cases q⟩,by omega,Jj (by simp[lk]) (fun _ _ e=>by simpa [hBi] using e) (fun _ _ e=>e) rfl rfl⟩
end Go.Proofs.Y
end
section
namespace Go.Proofs.Y
open Go Go.Ab
theorem Jzb{sl:List (Nat × AV)}{H:Hp}{nt s:Nat}{xs:List (List AV)}{f:Bool}(hs:lk sl s=some (.vec xs f)):St.wk ⟨sl,H,nt⟩ ⟨[(s,.vec xs false)],⟨Jfv H.boxes,Jfv H.toks,H.nx⟩,nt⟩:=by
 refine St.wk_conv rfl rfl (fun g g' x p hp=>?_) (fun g g' x p hp=>⟨p.2,JbN hp,Ja9 x _⟩) (fun g p hp=>⟨p.2,JbN hp,Jkg.refl g _⟩);rw[List.mem_singleton] at hp;subst hp;exact⟨_,hs,JbD x _ _⟩
def prR (l:List Un)(p:Nat × En):List AV:=[.lit (.int .i64 (p.1:Int)),.lit (.int .i64 ((l.getD p.2.pos default).pos:Int)),.vec (p.2.acts.map Jy) false]
theorem JS(l:List Un)(p:Nat × En):(prR l p).length=3:=rfl
theorem Jg7{n:Nt}{o:List Orc}{l:List Un}{md:Int}{W:AV}{k:Nat}{rk:Nat->Nat}{R:Nat}(z:JtT n o l md W k rk R){a:Nat}(ha:a<l.length){li:Nat}{M:Mm}{q:Q3}{H:Hp}(hl:RL n o l md W li M q H)(hm:JhL n o l md k M) :
  JW Tryz.prog 25 [.ptr li 0,.lit (.int .i64 (a:Int))] H fun v h'=>v = .vec ((J7 n o l md k a n.rules.length).map (prR l)) false/\Fq [li] (n3 q) H h':=by
 refine Jfn Tryz.func25 rfl Tryz.ntmps25 (rs:=[.tmp 4]) rfl (by simp) ?_;have hll:=z.g.len;have hru:=z.g.w.nru;obtain⟨Qk,hQ⟩:∃ Qk:AV->Hp->Prop,(fun v h'=>v=AV.vec ((J7 n o l md k a n.rules.length).map (prR l)) false/\Fq [li] (n3 q) H h')=Qk:=⟨_,rfl⟩;rw[hQ];refine Jk ?_;simp -implicitDefEqProofs (disch:=omega) only[Wz,seval,Ly,Lx];refine Jp (A:=Nat × Mm × Q3 × Option Nat × Hp) (fun x=>⟨[(0,.ptr li 0),(1,.lit (.int .i64 (a:Int))),(4,.vec [] true),(5,owV x.2.2.2.1 (J7 n o l md k a x.1).length),(6,.lit (.int .i64 (x.1:Int)))],x.2.2.2.2,69⟩)
  (fun x=>x.1<=n.rules.length/\JhL n o l md k x.2.1/\RL n o l md W li x.2.1 x.2.2.1 x.2.2.2.2/\OwR x.2.2.2.2 x.2.2.2.1 ((J7 n o l md k a x.1).map (prR l)) 3/\Fq [li] (n3 q) H x.2.2.2.2/\(∀ j∈n3 x.2.2.1,j∈n3 q\/H.nx<=j)/\∀ t,x.2.2.2.1=some t->t∉n3 x.2.2.1/\H.nx<=t) (fun x=>n.rules.length - x.1) (0,M,q,none,H) (Jj (by simp[lk,owV]) (fun _ _ e=>e) (fun _ _ e=>e) rfl rfl)
  ⟨Nat.zero_le _,hm,hl,.none',Fq.refl hl.fb hl.ft,fun j hj=>.inl hj,fun t e=>by cases e⟩ ?_
 clear hl hm;rintro⟨i,Mi,qi,xo,Hi⟩ ⟨hi,hm,hl,hx,hf,hnm,hxo⟩;simp only at hi hm hl hx hf hnm hxo ⊢;have bx:=hl.bx;refine Jo ?_;refine Jk ?_;rcases Nat.lt_or_ge i n.rules.length with hlt | hge
 rotate_left
 ·have hie:i=n.rules.length:=by omega
  subst hie;simp -implicitDefEqProofs (disch:=omega) only[Wz,seval,Ly,Lx,bx,rlC,Jh];cases xo with
  | none =>
   have h0:J7 n o l md k a n.rules.length=[]:=by
    have:=hx.nil rfl;exact List.map_eq_nil_iff.1 this
   refine⟨_,Jzb (s:=4) (xs:=[]) (f:=true) rfl,?_⟩;simp -implicitDefEqProofs (disch:=omega) only[Wz,seval,Ly,Lx];rw[<- hQ,h0];refine⟨rfl,hf.trans (B':=[]) (T':=[]) ⟨Nat.le_refl _,fun _ _ _=>Jb2 _ _,fun _ _ _=>Jb2 _ _,fun j hj=>(Jb2 _ _).trans (hl.fb j hj),fun j hj=>(Jb2 _ _).trans (hl.ft j hj)⟩ (fun j hj=>by cases hj) (fun j hj=>by cases hj)⟩
  | some t =>
   obtain⟨ht1,ht2⟩:=hx.tk t rfl;have hln:((J7 n o l md k a n.rules.length).map (prR l)).length=(J7 n o l md k a n.rules.length).length:=List.length_map _;refine⟨⟨[(4,.vec ((J7 n o l md k a n.rules.length).map (prR l)) false)],⟨Hi.boxes,dl Hi.toks t,Hi.nx⟩,69⟩,Jo2 (t:=t) ht1 rfl rfl (Jb ⟨_,rfl,.inr ⟨by rw[hln];rfl,rfl⟩⟩ Jl) (fun _ _ e=>e) (fun i c e=>by have:=JfP e;exact this),?_⟩;simp -implicitDefEqProofs (disch:=omega) only[Wz,seval,Ly,Lx];rw[<- hQ];refine⟨rfl,hf.trans (B':=[]) (T':=[t]) ⟨Nat.le_refl _,fun _ _ _=>rfl,fun j _ hj=>?_,fun j hj=>hl.fb j hj,fun j hj=>?_⟩ (fun j hj=>by cases hj) (fun j hj=>.inr (by rw[List.mem_singleton] at hj;subst hj;exact(hxo _ rfl).2))⟩
   ·show lk (dl Hi.toks t) j=_;rw[Jex,if_neg (fun q=>hj (by simp[q]))]
   ·show lk (dl Hi.toks t) j=_;rw[Jex];split
    ·rfl
    ·exact hl.ft j hj
 obtain⟨rr,hrr⟩:∃ rr,n.rules.getD i default=rr:=⟨_,rfl⟩;simp -implicitDefEqProofs (disch:=omega) only[Wz,seval,Ly,Lx,bx,rlC,Jh];refine Jo ?_;refine Jaq ?_;refine Jo ?_;refine Jk ?_;have hnn:∀ c,lk (Hi.boxes++[(Hi.nx,c)]) Hi.nx=some c:=fun c=>JcD (hl.fb _ (Nat.le_refl _)) c _;have hu1:∀ c d,up (Hi.boxes++[(Hi.nx,c)]) Hi.nx d=Hi.boxes++[(Hi.nx,d)]:=fun c d=>JdN (hl.fb _ (Nat.le_refl _));have bx':∀ x,lk (Hi.boxes++x) li=some _:=fun x=>by rw[JI,bx];rfl
 simp -implicitDefEqProofs (disch:=omega) only[Wz,seval,Ly,Lx,bx,rlC,Jh,hrr,hnn,hu1];have hmv:JgP n md i=(rr.lexer && (!rr.frag && decide (rr.mode=md))):=by unfold JgP;rw[hrr]
 have wkb:=Fq.box (B:=[]) (T:=[]) hl.fb hl.ft (Jc rr);have hlb:=hl.keep wkb (by simp) (fun j _=>by simp);have hxb:OwR ⟨Hi.boxes++[(Hi.nx,Jc rr)],Hi.toks,Hi.nx+1⟩ xo ((J7 n o l md k a i).map (prR l)) 3:=hx.keep (Nat.le_succ _) (fun _ _=>rfl);have hfb:=hf.trans wkb (fun j hj=>by cases hj) (fun j hj=>by cases hj);have hyi:lk (Hi.boxes++[(Hi.nx,Jc rr)]) Hi.nx=some (Jc rr):=hnn _;have stay:JgP n md i=false->J7 n o l md k a (i+1)=J7 n o l md k a i:=fun h=>by
  rw[JbI];unfold JeP;rw[if_neg (by rw[h];decide)];simp
 refine JbY (σ':=⟨[(0,.ptr li 0),(1,.lit (.int .i64 (a:Int))),(4,.vec [] true),(5,owV xo (J7 n o l md k a i).length),(6,.lit (.int .i64 (i:Int))),(7,.ptr Hi.nx 0)],⟨Hi.boxes++[(Hi.nx,Jc rr)],Hi.toks,Hi.nx+1⟩,69⟩) (Jj (by simp[lk]) (fun _ _ e=>e) (fun _ _ e=>e) rfl rfl) ?_;have hyn:Hi.nx<Hi.nx+1:=Nat.lt_succ_self _;have hy1:Hi.nx≠li:=by have:=hl.lt;omega
 clear hnn hu1 bx bx' hl hx hf wkb;revert hyi hyn hy1 hlb hxb hfb;generalize hHj:(⟨Hi.boxes++[(Hi.nx,Jc rr)],Hi.toks,Hi.nx+1⟩:Hp)=Hj;have hb:Hi.boxes++[(Hi.nx,Jc rr)]=Hj.boxes:=by rw[<- hHj]
 have hb2:Hi.nx+1=Hj.nx:=by rw[<- hHj]
 rw[hb,hb2];clear hHj hb hb2;generalize Hi.nx=yi;intro hl hx hf hyi hyn hy1;have bx:=hl.bx;refine Jo ?_;refine Jo ?_;refine Jv (n:=69) rfl (by decide) mixed ?_;have fin:∀ (sl:List (Nat × AV)),JgP n md i=false->(∀ p∈[(0,AV.ptr li 0),(1,.lit (.int .i64 (a:Int))),(4,.vec [] true),(5,owV xo (J7 n o l md k a i).length),(6,.lit (.int .i64 ((i+1:Nat):Int)))],lk sl p.1=some p.2)->∃ x':Nat × Mm × Q3 × Option Nat × Hp,(x'.1<=n.rules.length/\JhL n o l md k x'.2.1/\RL n o l md W li x'.2.1 x'.2.2.1 x'.2.2.2.2/\OwR x'.2.2.2.2 x'.2.2.2.1 ((J7 n o l md k a x'.1).map (prR l)) 3/\Fq [li] (n3 q) H x'.2.2.2.2/\(∀ j∈n3 x'.2.2.1,j∈n3 q\/H.nx<=j)/\∀ t,x'.2.2.2.1=some t->t∉n3 x'.2.2.1/\H.nx<=t)/\n.rules.length - x'.1<n.rules.length - i /\
   St.wk ⟨sl,Hj,69⟩ ⟨[(0,.ptr li 0),(1,.lit (.int .i64 (a:Int))),(4,.vec [] true),(5,owV x'.2.2.2.1 (J7 n o l md k a x'.1).length),(6,.lit (.int .i64 (x'.1:Int)))],x'.2.2.2.2,69⟩:=fun sl hm0 hsl=>by
  refine⟨(i+1,Mi,qi,xo,Hj),⟨hlt,hm,hl,by rw[stay hm0];exact hx,hf,hnm,hxo⟩,by show n.rules.length - (i+1)<n.rules.length - i;omega,?_⟩;simp only[stay hm0];exact Jj hsl (fun _ _ e=>e) (fun _ _ e=>e) rfl rfl
 cases hlx:rr.lexer with
 | false =>
  rw[hlx] at hmv;simp -implicitDefEqProofs (disch:=omega) only[Wz,seval,Ly,Lx,hyi,Jc,hlx];refine Jk ?_;simp -implicitDefEqProofs (disch:=omega) only[Wz,seval,Ly,Lx];refine Jk ?_;simp -implicitDefEqProofs (disch:=omega) only[Wz,seval,Ly,Lx];exact fin _ hmv (by simp[lk])
 | true =>
 cases hfr:rr.frag with
 | true =>
  rw[hlx,hfr] at hmv;simp -implicitDefEqProofs (disch:=omega) only[Wz,seval,Ly,Lx,hyi,Jc,hlx,hfr];refine Jk ?_;simp -implicitDefEqProofs (disch:=omega) only[Wz,seval,Ly,Lx];refine Jk ?_;simp -implicitDefEqProofs (disch:=omega) only[Wz,seval,Ly,Lx];exact fin _ hmv (by simp[lk])
 | false =>
 by_cases hmd:rr.mode=md;rotate_left
 ·rw[hlx,hfr,decide_eq_false hmd] at hmv;have c1:(rr.mode != md)=true:=by simpa using hmd
  simp -implicitDefEqProofs (disch:=omega) only[Wz,seval,Ly,Lx,hyi,Jc,hlx,hfr,bx,rlC,Jh,c1];refine Jk ?_;simp -implicitDefEqProofs (disch:=omega) only[Wz,seval,Ly,Lx];refine Jk ?_;simp -implicitDefEqProofs (disch:=omega) only[Wz,seval,Ly,Lx];exact fin _ hmv (by simp[lk])
 rw[hlx,hfr,decide_eq_true hmd] at hmv;clear fin stay;have c1:(rr.mode != md)=false:=by simpa using hmd
 simp -implicitDefEqProofs (disch:=omega) only[Wz,seval,Ly,Lx,hyi,Jc,hlx,hfr,bx,rlC,Jh,c1];refine Jk ?_;simp -implicitDefEqProofs (disch:=omega) only[Wz,seval,Ly,Lx];refine Jo ?_;refine Jk ?_;simp -implicitDefEqProofs (disch:=omega) only[Wz,seval,Ly,Lx];refine JF JxX (JiT z hlt ha hl hm) ?_;rintro v h2 ⟨rfl,M2,q2,m1,m2,m3,m4⟩;have hlz:(n.rules.getD i default).lz=rr.lz:=by rw[hrr]
 rw[hlz];have hx2:OwR h2 xo ((J7 n o l md k a i).map (prR l)) 3:=hx.keep m3.nx fun t e=>m3.tk t (hx.tk t e).2 (hxo t e).1;have hf2:Fq [li] (n3 q) H h2:=hf.trans m3 (fun j hj=>.inl hj) (fun j hj=>hnm j hj);have hnm2:∀ j∈n3 q2,j∈n3 q\/H.nx<=j:=fun j hj=>by
  rcases m4 j hj with p | p
  ·exact hnm j p
  ·right;have p:Hj.nx<=j:=p;have:=hf.nx;omega
 have hxo2:∀ t,xo=some t->t∉n3 q2/\H.nx<=t:=fun t e=>⟨fun hj=>by
  rcases m4 t hj with p | p
  ·exact(hxo t e).1 p
  ·have p:Hj.nx<=t:=p;have:=(hx.tk t e).2;omega,(hxo t e).2⟩
 have hps:J7 n o l md k a (i+1)=J7 n o l md k a i++((Jcq rr.lz (eF n o l md k i a)).map fun y=>(i,y)).toList:=by
  rw[JbI];unfold JeP;rw[if_pos (by rw[hmv];rfl),hlz]
 obtain⟨P0,hP0⟩:∃ P0,J7 n o l md k a i=P0:=⟨_,rfl⟩;have hP0l:P0.length<=100000:=by have:=Jhw n o l md k a i;rw[hP0] at this;omega
 rw[hP0] at hps hx2 ⊢;have hlt2:=m2.lt;have hnn:∀ c,lk (h2.boxes++[(h2.nx,c)]) h2.nx=some c:=fun c=>JcD (m2.fb _ (Nat.le_refl _)) c _;have hu1:∀ c d,up (h2.boxes++[(h2.nx,c)]) h2.nx d=h2.boxes++[(h2.nx,d)]:=fun c d=>JdN (m2.fb _ (Nat.le_refl _));have bx2:=m2.bx;have bx':∀ x,lk (h2.boxes++x) li=some _:=fun x=>by rw[JI,bx2];rfl
 cases hb:Jcq rr.lz (eF n o l md k i a) with
 | none =>
  rw[hb] at hps;have hps:J7 n o l md k a (i+1)=P0:=by rw[hps];simp
  simp -implicitDefEqProofs (disch:=omega) only[Wz,seval,Ly,Lx,JtU,hnn,hu1];refine Jk ?_;simp -implicitDefEqProofs (disch:=omega) only[Wz,seval,Ly,Lx];refine Jk ?_;simp -implicitDefEqProofs (disch:=omega) only[Wz,seval,Ly,Lx];have f2:=Fq.box (B:=[]) (T:=[]) m2.fb m2.ft [.lit (.int .i64 0),.vec [] true];exact⟨(i+1,M2,q2,xo,⟨h2.boxes++[(h2.nx,[.lit (.int .i64 0),.vec [] true])],h2.toks,h2.nx+1⟩),⟨hlt,m1,m2.keep f2 (by simp) (fun _ _=>by simp),by rw[hps];exact hx2.keep (Nat.le_succ _) (fun _ _=>rfl),hf2.trans f2 (fun j hj=>by cases hj) (fun j hj=>by cases hj),hnm2,hxo2⟩,by show n.rules.length - (i+1)<n.rules.length - i;omega,by simp only[hps];exact Jj (by simp[lk]) (fun _ _ e=>e) (fun _ _ e=>e) rfl rfl⟩
 | some y =>
  rw[hb] at hps;have hps:J7 n o l md k a (i+1)=P0++[(i,y)]:=by rw[hps];rfl
  have hyb:=JjO hb;have hyl:=(JkV z.g.w z.g.u (o:=o) (md:=md) (k:=k) hlt ha y hyb).2.1;obtain⟨u,hu⟩:∃ u,l.getD y.pos default=u:=⟨_,rfl⟩;simp -implicitDefEqProofs (disch:=omega) only[Wz,seval,Ly,Lx,JtU,hnn,hu1];refine Jk ?_;simp -implicitDefEqProofs (disch:=omega) only[Wz,seval,Ly,Lx];refine JbM (n:=69) 15 (.alt 15 (.alt 16 .leaf .nil) .nil) rfl (by decide) (by decide) mixed (by kernel_rfl) (by decide) ?_;have hf0:Ja4 1 40=True:=eq_true (JM (by decide) (by decide));have hf1:Ja4 (P0.length+1) 40=True:=eq_true (JM (by omega) (by omega));cases xo with
  | none =>
   have hP00:P0=[]:=List.map_eq_nil_iff.1 (hx2.nil rfl);subst hP00;simp -implicitDefEqProofs (disch:=omega) only[Wz,seval,Ly,Lx,owV,hnn,bx',rlC,Jh,Jla,JQ,hu,JiY,JqR,hf0,if_true,true_and];refine Jk ?_;simp -implicitDefEqProofs (disch:=omega) only[Wz,seval,Ly,Lx];have f2:Fq [] [] h2 ⟨h2.boxes++[(h2.nx,JQ y)],h2.toks++[(h2.nx+1,⟨[prR l (i,y)],0,3⟩)],h2.nx+2⟩:=by
    refine⟨by show h2.nx<=h2.nx+2;omega,fun j hj _=>JdQ _ (by omega),fun j hj _=>JdQ _ (by omega),fun j hj=>?_,fun j hj=>?_⟩
    ·have hj:h2.nx+2<=j:=hj;exact(JdQ _ (by omega)).trans (m2.fb j (by omega))
    ·have hj:h2.nx+2<=j:=hj;exact(JdQ _ (by omega)).trans (m2.ft j (by omega))
   have hnx:=hf2.nx;have hrow:prR l (i,y)=[.lit (.int .i64 (i:Int)),.lit (.int .i64 (u.pos:Int)),.vec (y.acts.map Jy) false]:=by unfold prR;simp only;rw[hu]
   refine⟨(i+1,M2,q2,some (h2.nx+1),⟨h2.boxes++[(h2.nx,JQ y)],h2.toks++[(h2.nx+1,⟨[prR l (i,y)],0,3⟩)],h2.nx+2⟩),⟨hlt,m1,m2.keep f2 (by simp) (fun _ _=>by simp),⟨fun q=>(by cases q),fun t e=>?_⟩,hf2.trans f2 (fun j hj=>by cases hj) (fun j hj=>by cases hj),hnm2,fun t e=>?_⟩,by show n.rules.length - (i+1)<n.rules.length - i;omega,?_⟩
   ·cases e;rw[hps];exact⟨JcD (m2.ft _ (by omega)) _ _,Nat.lt_succ_self _⟩
   ·cases e;exact⟨fun hj=>by have:=m2.names _ hj;omega,by omega⟩
   ·simp only[hps,hrow];exact Jj (by simp[lk]) (fun _ _ e=>by simpa [JQ] using e) (fun _ _ e=>by simpa using e) rfl rfl
  | some t =>
   have tt:=(hx2.tk t rfl).1;simp -implicitDefEqProofs (disch:=omega) only[Wz,seval,Ly,Lx,owV,hnn,bx',rlC,Jh,Jla,JQ,hu,tt,JiY,hf1,List.length_map,if_true,true_and];refine Jk ?_;simp -implicitDefEqProofs (disch:=omega) only[Wz,seval,Ly,Lx];obtain⟨x1,x2⟩:=hxo2 t rfl;have htn:=(hx2.tk t rfl).2;have hrow:prR l (i,y)=[.lit (.int .i64 (i:Int)),.lit (.int .i64 (u.pos:Int)),.vec (y.acts.map Jy) false]:=by unfold prR;simp only;rw[hu]
   have f2:Fq [] [t] h2 ⟨h2.boxes++[(h2.nx,JQ y)],up h2.toks t ⟨(P0++[(i,y)]).map (prR l),0,3⟩,h2.nx+1⟩:=by
    refine⟨Nat.le_succ _,fun j hj _=>JdQ _ (by omega),fun j hj hjt=>?_,fun j hj=>?_,fun j hj=>?_⟩
    ·show lk (up h2.toks t _) j=_;rw[JeQ tt,if_neg (fun q=>hjt (by simp[q]))]
    ·have hj:h2.nx+1<=j:=hj;exact(JdQ _ (by omega)).trans (m2.fb j (by omega))
    ·have hj:h2.nx+1<=j:=hj;show lk (up h2.toks t _) j=_;rw[JeQ tt,if_neg (by omega)];exact m2.ft j (by omega)
   refine⟨(i+1,M2,q2,some t,⟨h2.boxes++[(h2.nx,JQ y)],up h2.toks t ⟨(P0++[(i,y)]).map (prR l),0,3⟩,h2.nx+1⟩),⟨hlt,m1,m2.keep f2 (by simp) (fun j hj q=>x1 (by rw[List.mem_singleton] at q;exact q ▸ hj)),⟨fun q=>(by cases q),fun t' e=>?_⟩,hf2.trans f2 (fun j hj=>by cases hj) (fun j hj=>.inr (by rw[List.mem_singleton] at hj;omega)),hnm2,hxo2⟩,by show n.rules.length - (i+1)<n.rules.length - i;omega,?_⟩
   ·cases e;rw[hps];refine⟨?_,Nat.lt_of_lt_of_le htn (Nat.le_succ _)⟩;show lk (up h2.toks t _) t=_;rw[JeQ tt,if_pos rfl]
   ·simp only[hps,List.map_append,List.map_cons,List.map_nil,hrow];exact Jj (by simp[lk]) (fun _ _ e=>by simpa [JQ] using e) (fun _ _ e=>e) rfl rfl
end Go.Proofs.Y
end
section
namespace Go.Proofs.Y
open Go Go.Ab
theorem Jsf:∀ (l:List Un) (p:Int) (i j:Nat),ixF l p i=(j:Int)->i<=j/\j - i<l.length/\((l.getD (j - i) default).pos:Int)=p
 | [],p,i,j,h=>by simp only[ixF] at h;omega
 | u :: l,p,i,j,h=>by
  unfold ixF at h;by_cases hp:(u.pos:Int)=p
  ·rw[if_pos hp] at h;have:j=i:=by omega
   subst this;exact⟨Nat.le_refl _,by simp,by simpa using hp⟩
  ·rw[if_neg hp] at h;obtain⟨h1,h2,h3⟩:=Jsf l p (i+1) j h;have e:j - i=(j - (i+1))+1:=by omega
   refine⟨by omega,by rw[e];simp;omega,?_⟩;rw[e];simpa using h3
theorem Jni(L:List (Nat × List Value))(n:Nt)(o:List Orc)(x:List UInt8)(f:Bool)(at' md:Int)(g:Jpk n o x at' md)(H:Hp)(fb:∀ j,H.nx<=j->lk H.boxes j=none)(ft:∀ j,H.nx<=j->lk H.toks j=none) :
  JW Tryz.prog 24 [.agg (Jh n),inV L x f,.vec (o.map Jct) false,.lit (.int .i64 at'),.lit (.int .i64 md)] H fun r h'=>Fq [] [] H h' /\
   ((okV n=true/\(0<=md/\md<(n.modes.length:Int))/\∃ i:Nat,i<(Jbf (ofB x)).length/\(((Jbf (ofB x)).getD i default).pos:Int)=at'/\∃ li,r = .tup [.ptr li 0,.lit (.int .i64 (i:Int)),.lit (.int .i64 0)]/\H.nx<=li/\RL n o (Jbf (ofB x)) md (inV L x f) li [] none h') \/
   ((okV n=true->¬ ((0<=md/\md<(n.modes.length:Int))/\∃ u∈Jbf (ofB x),(u.pos:Int)=at'))/\r = .tup [.lit (.pointer none),.lit (.int .i64 0),.lit (.int .i64 (if okV n then 2 else 110))])):=by
 refine Jr Tryz.func24 rfl Tryz.ntmps24 (rs:=[.tmp 10,.tmp 11,.tmp 12]) rfl (by simp) ?_;have hck:=Jll n g.ok;have hcut:=Jlb L x f (by have:=g.len;omega);have hgx:=fun l p h=>Jm8 L x f l p h
 have pH:=Jrc L x f;have pI:=JaC L x f;have gN:GP (.agg (Jh n)):=.of_pure (.agg (J6 _));obtain⟨hlen,hpos⟩:=Jcr g.len;obtain⟨l,hl⟩:∃ l,Jbf (ofB x)=l:=⟨_,rfl⟩;rw[hl] at hcut hlen hpos ⊢;have hgx:=hgx l at' (by omega);have pH:=pH l;have hat:=g.at';have hmd:=g.md;have hmo:=g.ok.modes;unfold hdV inV at hgx hcut pH;unfold inV at pI;obtain⟨Qk,hQ⟩:∃ Qk:AV->Hp->Prop,(fun r h'=>Fq [] [] H h' /\
   ((okV n=true/\(0<=md/\md<(n.modes.length:Int))/\∃ i:Nat,i<l.length/\((l.getD i default).pos:Int)=at'/\∃ li,r = .tup [.ptr li 0,.lit (.int .i64 (i:Int)),.lit (.int .i64 0)]/\H.nx<=li/\RL n o l md (inV L x f) li [] none h') \/
   ((okV n=true->¬ ((0<=md/\md<(n.modes.length:Int))/\∃ u∈l,(u.pos:Int)=at'))/\r = .tup [.lit (.pointer none),.lit (.int .i64 0),.lit (.int .i64 (if okV n then 2 else 110))])))=Qk:=⟨_,rfl⟩
 rw[hQ];unfold inV;have hnn:∀ c,lk (H.boxes++[(H.nx,c)]) H.nx=some c:=fun c=>JcD (fb _ (Nat.le_refl _)) c _;have f1:=Fq.box (B:=[]) (T:=[]) fb ft (Jh n);refine Jo ?_;refine Jk ?_;simp -implicitDefEqProofs (disch:=omega) only[Wz,seval,Ly,Lx];refine Jo ?_;refine Jk ?_;simp -implicitDefEqProofs (disch:=omega) only[Wz,seval,Ly,Lx,hnn,Jav,JaY];refine JT JxB hck (Jb gN Jl) (.lit _) ?_;cases hok:okV n with
 | false =>
  simp -implicitDefEqProofs (disch:=omega) only[Wz,seval,Ly,Lx];rw[<- hQ];exact⟨f1,.inr ⟨fun h=>(by rw[hok] at h;cases h),by rw[hok];rfl⟩⟩
 | true =>
 simp -implicitDefEqProofs (disch:=omega) only[Wz,seval,Ly,Lx];have hn1:∀ c x,lk (H.boxes++(H.nx,c) :: x) H.nx=some c:=fun c x=>JcD (fb _ (Nat.le_refl _)) c x;have hkj:∀ (B:List (Nat × List AV)) (j:Nat),lk (H.boxes++B) (H.nx+j)=lk B (H.nx+j):=fun B j=>by rw[JI,fb _ (by omega)];simp
 have huj:∀ (B:List (Nat × List AV)) (j:Nat) (d:List AV),up (H.boxes++B) (H.nx+j) d=H.boxes++up B (H.nx+j) d:=fun B j d=>Jiy (fb _ (by omega));have n2:H.nx+1+1=H.nx+2:=rfl;have f2:∀ c d,Fq [] [] H ⟨H.boxes++[(H.nx,c),(H.nx+1,d)],H.toks,H.nx+2⟩:=fun c d=>by
  refine⟨by show H.nx<=H.nx+2;omega,fun j hj _=>?_,fun _ _ _=>rfl,fun j hj=>?_,fun j hj=>ft j (by have hj:H.nx+2<=j:=hj;omega)⟩
  ·show lk (H.boxes++_) j=_;rw[JI];simp only[lk];rw[if_neg (by omega),if_neg (by omega),Option.or_none]
  ·have hj:H.nx+2<=j:=hj;show lk (H.boxes++_) j=_;rw[JI,fb j (by omega)];simp only[lk];rw[if_neg (by omega),if_neg (by omega)];rfl
 refine Jo ?_;refine Jk ?_;simp -implicitDefEqProofs (disch:=omega) only[Wz,seval,Ly,Lx];refine Jf JxV hcut (Jb pI Jl) (.agg pH) ?_;simp -implicitDefEqProofs (disch:=omega) only[Wz,seval,Ly,Lx,List.append_assoc,hkj,huj,n2,lk,up,if_pos,if_neg];refine Jo ?_;refine Jk ?_;simp -implicitDefEqProofs (disch:=omega) only[Wz,seval,Ly,Lx,List.append_assoc,hkj,huj,n2,lk,up,if_pos,if_neg];refine Jf JxW hgx (Jb (.agg pH) (Jb (.lit _) Jl)) (.lit _) ?_;have hixa:=Jpr l at' 0;have hlo:=Jr9 l at' 0;obtain⟨ix,hix⟩:∃ ix,ixF l at' 0=ix:=⟨_,rfl⟩;rw[hix] at hixa hlo ⊢;simp -implicitDefEqProofs (disch:=omega) only[Wz,seval,Ly,Lx];refine Jo ?_;refine Jk ?_;have no:¬ ((0<=md/\md<(n.modes.length:Int))/\0<=ix)->Qk (AV.tup [AV.lit (Value.pointer none),AV.lit (.int .i64 0),AV.lit (.int .i64 2)]) ⟨H.boxes++[(H.nx,Jh n),(H.nx+1,[AV.wit L (.vec (x.map JaN) f),.vec (l.map Jla) false,.vec (l.map Jl4) false,.vec (l.map Jnw) false])],H.toks,H.nx+2⟩:=fun h=>by
  rw[<- hQ];refine⟨f2 _ _,.inr ⟨fun _ q=>h ⟨q.1,?_⟩,by rw[hok];rfl⟩⟩;obtain⟨u,hu1,hu2⟩:=q.2;have:(l.any fun u=>decide ((u.pos:Int)=at'))=true:=List.any_eq_true.2 ⟨u,hu1,by simpa using hu2⟩;rw[this] at hixa;exact of_decide_eq_true hixa
 by_cases hx0:ix<0
 ·simp -implicitDefEqProofs (disch:=omega) only[Wz,seval,Ly,Lx,hn1,Jh];exact no (fun q=>by omega)
 by_cases hm0:md<0
 ·simp -implicitDefEqProofs (disch:=omega) only[Wz,seval,Ly,Lx,hn1,Jh];exact no (fun q=>by omega)
 by_cases hm1:(n.modes.length:Int)<=md
 ·simp -implicitDefEqProofs (disch:=omega) only[Wz,seval,Ly,Lx,hn1,Jh];exact no (fun q=>by omega)
 obtain⟨i,rfl⟩:∃ i:Nat,ix=(i:Int):=⟨ix.toNat,by omega⟩;obtain⟨_,i1,i2⟩:=Jsf l at' 0 i hix;rw[Nat.sub_zero] at i1 i2;simp -implicitDefEqProofs (disch:=omega) only[Wz,seval,Ly,Lx,hn1,Jh];refine Jo ?_;refine Jk ?_;simp -implicitDefEqProofs (disch:=omega) only[Wz,seval,Ly,Lx,List.append_assoc,hn1,hkj,huj,n2,lk,up,if_pos,if_neg];refine Jk ?_;simp -implicitDefEqProofs (disch:=omega) only[Wz,seval,Ly,Lx];rw[<- hQ];have f3:Fq [] [] H ⟨H.boxes++[(H.nx,Jh n),(H.nx+1,[AV.wit L (.vec (x.map JaN) f),.vec (l.map Jla) false,.vec (l.map Jl4) false,.vec (l.map Jnw) false]),(H.nx+2,rlC n o l md (inV L x f) (.vec [] true) (.vec [] true) (.vec [] true))],H.toks,H.nx+3⟩:=by
  refine⟨by show H.nx<=H.nx+3;omega,fun j hj _=>?_,fun _ _ _=>rfl,fun j hj=>?_,fun j hj=>ft j (by have hj:H.nx+3<=j:=hj;omega)⟩
  ·show lk (H.boxes++_) j=_;rw[JI];simp only[lk];rw[if_neg (by omega),if_neg (by omega),if_neg (by omega),Option.or_none]
  ·have hj:H.nx+3<=j:=hj;show lk (H.boxes++_) j=_;rw[JI,fb j (by omega)];simp only[lk];rw[if_neg (by omega),if_neg (by omega),if_neg (by omega)];rfl
 refine⟨f3,.inl ⟨hok,⟨by omega,by omega⟩,i,i1,i2,H.nx+2,rfl,by omega,⟨?_,.none',.none',.none',by simp[n3],by show H.nx+2<H.nx+3;omega,f3.fb,f3.ft⟩⟩⟩;show lk (H.boxes++_) (H.nx+2)=_;rw[hkj];simp only[lk];rw[if_neg (by omega),if_neg (by omega),if_pos trivial];rfl
end Go.Proofs.Y
end
section
namespace Go.Proofs.Y
open Go Go.Ab
theorem JtC{n:Nt}{o:List Orc}{x:List UInt8}{at' md:Int}(g:Jpk n o x at' md)(mu:JlS n)(hok:okV n=true){k:Nat}(fk:JkW n o (Jbf (ofB x)) md k)(L:List (Nat × List Value))(f:Bool):∃ rk R,JtT n o (Jbf (ofB x)) md (inV L x f) k rk R:=by
 obtain⟨rk,hrk⟩:=Jio g.ok hok;obtain⟨R,hR⟩:=Jis rk n.states.length;exact⟨rk,R,JzT g hok,mu,fk,hrk,hR,rfl⟩
theorem JhL.nil{n:Nt}{o:List Orc}{l:List Un}{md:Int}{k:Nat}:JhL n o l md k []:=⟨fun m h=>(by cases h),by simp⟩
theorem Jnj(p:Nat × En):Jbl p p=p:=by unfold Jbl;rw[if_neg (by omega)]
theorem Jmc{l:List Un}(hr:(l.map (·.pos)).Pairwise (· < ·)){a b:Nat}(hab:a<b)(hb:b<l.length):(l.getD a default).pos<(l.getD b default).pos:=by
 have:=List.pairwise_iff_getElem.1 hr a b (by simp;omega) (by simpa using hb) hab;rw[List.getElem_map,List.getElem_map] at this;rw[List.getD_eq_getElem?_getD,List.getD_eq_getElem?_getD,List.getElem?_eq_getElem (by omega),List.getElem?_eq_getElem hb];exact this
theorem Jnk(L:List (Nat × List Value))(n:Nt)(o:List Orc)(x:List UInt8)(f:Bool)(at' md:Int)(g:Jpk n o x at' md)(mu:JlS n)(k:Nat)(fk:okV n=true->JkW n o (Jbf (ofB x)) md k) :
  JO Tryz.prog 9 [.agg (Jh n),inV L x f,.vec (o.map Jct) false,.lit (.int .i64 at'),.lit (.int .i64 md)]
   (if okV n=true/\(0<=md/\md<(n.modes.length:Int))/\∃ u∈Jbf (ofB x),(u.pos:Int)=at' then Jeb (JjZ n o (Jbf (ofB x)) md k (ixV (Jbf (ofB x)) at') at') else Jeb (0,0,[],if okV n then 2 else 110)):=by
 refine JD (Jr Tryz.func9 rfl Tryz.ntmps9 (rs:=[.tmp 10,.tmp 11,.tmp 12,.tmp 13]) rfl (by simp) ?_);have hlook:=Jni L n o x f at' md g;have hpx:=JaC L x f;have hrise:=JdO (ofB x);obtain⟨hlen,hpos⟩:=Jcr g.len;have hwk:=fun hok=>JtC g mu hok (fk hok) L f
 obtain⟨l,hl⟩:∃ l,Jbf (ofB x)=l:=⟨_,rfl⟩;rw[hl] at hlook hrise hlen hpos fk hwk ⊢;unfold inV at hpx;refine Jo ?_;refine Jk ?_;unfold inV at hlook ⊢;simp -implicitDefEqProofs (disch:=omega) only[Wz,seval,Ly,JS,Lx];refine Jo ?_;refine Jk ?_;simp -implicitDefEqProofs (disch:=omega) only[Wz,seval,Ly,JS,Lx,Jav,JaY];refine JF JxH (hlook _ ?_ ?_) ?_
 ·exact fun i hi=>JmR (N:=1) (by simp) hi
 ·exact fun i hi=>rfl
 rintro r0 h' ⟨hfr,⟨hok,hmd,a,hal,hia,li,rfl,hli,hrl⟩ | ⟨hno,rfl⟩⟩;rotate_left
 ·rw[if_neg (fun q=>hno q.1 q.2)];obtain⟨e,he⟩:∃ e:Int,(if okV n=true then 2 else 110)=e:=⟨_,rfl⟩;have hne:(e != 0)=true:=by
   rw[<- he];split <;> decide
  rw[he];simp -implicitDefEqProofs (disch:=omega) only[Wz,seval,Ly,JS,Lx,hne];refine Jo ?_;refine Jk ?_;simp -implicitDefEqProofs (disch:=omega) only[Wz,seval,Ly,JS,Lx,hne];exact JH (Jg (Ja (.lit _)) (Jg (Ja (.lit _)) (Jg (JaA (by simp)) (Jg (Ja (.lit _)) Jz))))
 have hmem:∃ u∈l,(u.pos:Int)=at':=⟨l.getD a default,Jt hal,hia⟩;rw[if_pos ⟨hok,hmd,hmem⟩];have hix:ixV l at'=a:=JlQ hrise hal hia;rw[hix];obtain⟨rk,R,z⟩:=hwk hok;simp -implicitDefEqProofs (disch:=omega) only[Wz,seval,Ly,JS,Lx];refine Jo ?_;refine Jk ?_;simp -implicitDefEqProofs (disch:=omega) only[Wz,seval,Ly,JS,Lx];refine Jo ?_;refine Jk ?_;simp -implicitDefEqProofs (disch:=omega) only[Wz,seval,Ly,JS,Lx];refine JF JxI (Jg7 z hal hrl .nil) ?_;rintro v h2 ⟨rfl,hf2⟩;have fb:=hf2.fb;have hpr:∀ p∈J7 n o l md k a n.rules.length,p.2.pos<l.length/\p.1<n.rules.length:=fun p hp=>by
  obtain⟨m1,m2,m3⟩:=Jd2 hp;exact⟨(JkV z.g.w z.g.u m1 hal _ m3).2.1,m1⟩
 unfold JjZ;obtain⟨ps,hps⟩:∃ ps,J7 n o l md k a n.rules.length=ps:=⟨_,rfl⟩;have hpl:ps.length<=n.rules.length:=by rw[<- hps];exact Jhw _ _ _ _ _ _ _
 have hru:=z.g.w.nru;have hat:=g.at';rw[hps] at hpr ⊢;simp -implicitDefEqProofs (disch:=omega) only[Wz,seval,Ly,JS,Lx];refine Jo ?_;refine Jk ?_;rcases Nat.eq_zero_or_pos ps.length with hz0 | hps0
 ·have:=List.eq_nil_of_length_eq_zero hz0;subst this;simp -implicitDefEqProofs (disch:=omega) only[Wz,seval,Ly,JS,Lx,List.map_nil,List.length_nil];exact JH (Jg (Ja (.lit _)) (Jg (Ja (.lit _)) (Jg (JaA (by simp)) (Jg (Ja (.lit _)) Jz))))
 obtain⟨p0,hp0⟩:∃ p0,ps.getD 0 default=p0:=⟨_,rfl⟩;obtain⟨pr,hpr2⟩:∃ pr,p0 :: pr=ps:=by
  cases ps with
  | nil=>cases hps0
  | cons y yr=>exact⟨yr,by rw[<- hp0];rfl⟩
 have hnn:∀ c,lk (h2.boxes++[(h2.nx,c)]) h2.nx=some c:=fun c=>JcD (fb _ (Nat.le_refl _)) c _;have hu1:∀ c d,up (h2.boxes++[(h2.nx,c)]) h2.nx d=h2.boxes++[(h2.nx,d)]:=fun c d=>JdN (fb _ (Nat.le_refl _));simp -implicitDefEqProofs (disch:=omega) only[Wz,seval,Ly,JS,Lx];refine Jo ?_;refine Jk ?_;simp -implicitDefEqProofs (disch:=omega) only[Wz,seval,Ly,JS,Lx,hp0,hnn,hu1];obtain⟨B,hB⟩:∃ B:Nat->Nat × En,(fun i=>(ps.take i).foldl Jbl p0)=B:=⟨_,rfl⟩;have hB0:B 0=p0:=by rw[<- hB];rfl
 have hBs:∀ i,i<ps.length->B (i+1)=Jbl (B i) (ps.getD i default):=fun i hi=>by
  rw[<- hB];simp only;rw[List.take_succ_eq_append_getElem hi,List.foldl_append,List.getD_eq_getElem?_getD,List.getElem?_eq_getElem hi];rfl
 have hBe:JbX ps=some (B ps.length):=by
  rw[<- hB,<- hpr2];simp only[List.take_length];unfold JbX;rw[List.foldl_cons,Jnj]
 have hBm:∀ i,(B i)∈ps:=fun i=>by
  rw[<- hB];refine JyM (· ∈ ps) _ _ (by rw[<- hpr2];simp) (fun p hp=>List.mem_of_mem_take hp)
 refine Jo ?_;refine Jo ?_;refine Jk ?_;simp -implicitDefEqProofs (disch:=omega) only[Wz,seval,Ly,JS,Lx];refine Jaq ?_;refine Jp (fun i:Nat=>⟨[(3,.lit (.int .i64 at')),(10,.lit (.int .i64 0)),(11,.lit (.int .i64 0)),(12,.vec [] true),(13,.lit (.int .i64 0)),(16,.vec (ps.map (prR l)) false),(17,.ptr h2.nx 0),(18,.lit (.int .i64 (i:Int)))],⟨h2.boxes++[(h2.nx,prR l (B i))],h2.toks,h2.nx+1⟩,67⟩) (fun i=>i<=ps.length) (fun i=>ps.length - i) 0 (Jj (by simp[lk]) (fun _ _ e=>by simpa [hB0,prR] using e) (fun _ _ e=>e) rfl rfl) (Nat.zero_le _) ?_;rintro i hi;refine Jo ?_;refine Jk ?_;rcases Nat.lt_or_ge i ps.length with hlt2 | hge
 rotate_left
 ·have hie:i=ps.length:=by omega
  subst hie;rw[hBe];have hb:=hpr _ (hBm ps.length);obtain⟨b,hbb⟩:∃ b,B ps.length=b:=⟨_,rfl⟩;rw[hbb] at hb ⊢;obtain⟨u,hu⟩:∃ u,l.getD b.2.pos default=u:=⟨_,rfl⟩;have hup:=hpos u (by rw[<- hu];exact Jt hb.1);have hw:IntKind.i64.wrap ((u.pos:Int) - at')=(u.pos:Int) - at':=by
   have:=hpos _ (Jt hal);exact Jdi (by omega) (by omega)
  simp -implicitDefEqProofs (disch:=omega) only[Wz,seval,Ly,JS,Lx];refine Jo ?_;refine Jv (n:=67) rfl (by decide) mixed ?_;simp -implicitDefEqProofs (disch:=omega) only[Wz,seval,Ly,JS,Lx,hnn,prR,hu,hw];refine Jk ?_;simp -implicitDefEqProofs (disch:=omega) only[Wz,seval,Ly,JS,Lx];exact Ja (.tup (Jb (.lit _) (Jb (.lit _) (Jb (.vec (Ji JU _)) (Jb (.lit _) Jl)))))
 obtain⟨pi,hpi⟩:∃ pi,ps.getD i default=pi:=⟨_,rfl⟩;have hBi:=hBs i hlt2;rw[hpi] at hBi;unfold Jbl at hBi;have hpim:=hpr pi (by rw[<- hpi];exact Jt hlt2);have hbim:=hpr _ (hBm i);obtain⟨b,hbb⟩:∃ b,B i=b:=⟨_,rfl⟩;rw[hbb] at hbim hBi ⊢;simp -implicitDefEqProofs (disch:=omega) only[Wz,seval,Ly,JS,Lx];refine Jo ?_;refine Jaq ?_;refine Jo ?_;refine Jv (n:=67) rfl (by decide) mixed ?_;by_cases hfar:b.2.pos<pi.2.pos
 ·rw[if_pos hfar] at hBi;have hlt3:=Jmc hrise hfar hpim.1;obtain⟨u,hu⟩:∃ u,l.getD b.2.pos default=u:=⟨_,rfl⟩;obtain⟨v,hv⟩:∃ u,l.getD pi.2.pos default=u:=⟨_,rfl⟩;rw[hu,hv] at hlt3;simp -implicitDefEqProofs (disch:=omega) only[Wz,seval,Ly,JS,Lx,hnn,hpi,prR,hu,hv];refine Jk ?_;simp -implicitDefEqProofs (disch:=omega) only[Wz,seval,Ly,JS,Lx,hnn,hu1,hpi,prR,hu,hv];refine Jk ?_;simp -implicitDefEqProofs (disch:=omega) only[Wz,seval,Ly,JS,Lx];exact⟨i+1,hlt2,by omega,Jj (by simp[lk]) (fun _ _ e=>by rw[hBi,hv] at e;exact e) (fun _ _ e=>e) rfl rfl⟩
 ·rw[if_neg hfar] at hBi;obtain⟨u,hu⟩:∃ u,l.getD b.2.pos default=u:=⟨_,rfl⟩;obtain⟨v,hv⟩:∃ u,l.getD pi.2.pos default=u:=⟨_,rfl⟩;have hlt3:v.pos<=u.pos:=by
   rcases Nat.eq_or_lt_of_le (Nat.le_of_not_lt hfar) with q | q
   ·rw[<- hu,<- hv,q];exact Nat.le_refl _
   ·have:=Jmc hrise q hbim.1;rw[hu,hv] at this;omega
  simp -implicitDefEqProofs (disch:=omega) only[Wz,seval,Ly,JS,Lx,hnn,hpi,prR,hu,hv];refine Jk ?_;simp -implicitDefEqProofs (disch:=omega) only[Wz,seval,Ly,JS,Lx];refine Jk ?_;simp -implicitDefEqProofs (disch:=omega) only[Wz,seval,Ly,JS,Lx];exact⟨i+1,hlt2,by omega,Jj (by simp[lk]) (fun _ _ e=>by rw[hBi,hu] at e;exact e) (fun _ _ e=>e) rfl rfl⟩
end Go.Proofs.Y
end
section
namespace Go.Proofs.Y
open Go Go.Ab
theorem Jro(n:Nt)(o:List Orc)(x:List UInt8)(at' md:Int)(g:Jpk n o x at' md):∃ k,okV n=true->JkW n o (Jbf (ofB x)) md k:=by
 cases hok:okV n with
 | false=>exact⟨0,fun h=>by cases h⟩
 | true =>
  obtain⟨k,hk⟩:=Jy2 g hok;exact⟨k,fun _=>hk⟩
theorem Jnl{n:Nt}{o:List Orc}{l:List Un}{md:Int}{k a:Nat}{at':Int}(w:Wf n)(u:JmT l)(mu:JlS n)(hl:l.length<=1000)(ha:a<l.length):(JjZ n o l md k a at').2.2.1.length<=4000000000000:=by
 unfold JjZ;cases hp:JbX (J7 n o l md k a n.rules.length) with
 | none=>simp
 | some b =>
  obtain⟨h1,_⟩:=JjP hp (JgQ n o l md k a _);obtain⟨m1,m2,m3⟩:=Jd2 h1;exact Jr8 w u mu hl m1 ha _ m3
theorem Jrp(L:List (Nat × List Value))(n:Nt)(o:List Orc)(x:List UInt8)(hL:Jef L x)(at' md:Int)(ok:JcH n)(hx:x.length<=1000000000)(ho:o.length<=1000000000)(ha:∀ s,∀ e∈(n.states.getD s default).edges,e.acts.length<=Jfc)
  (hat : -9223372036854775808<=at'/\at'<=9223372036854775807) (hmd : -9223372036854775808<=md/\md<=9223372036854775807) :
  JO Tryz.prog 3 [.agg (Jh n),inV L x false,.vec (o.map Jct) false,.lit (.int .i64 at'),.lit (.int .i64 md)] (.lit (.bool true)):=by
 refine JD (Jr Tryz.func3 rfl Tryz.ntmps3 (rs:=[.tmp 10]) rfl (by simp) ?_);have hgr:=Jj0 L n x false false o ok hx ho;have gN:GP (.agg (Jh n)):=.of_pure (.agg (J6 _));have pN:Ab.Pure (.agg (Jh n)):=.agg (J6 _);have pO:Ab.Pure (.vec (o.map Jct) false):=.vec (Ji Jbu _);have pI:=JaC L x false;obtain⟨g16,hg16⟩:∃ v,JtS n x.length o=v:=⟨_,rfl⟩;rw[hg16] at hgr;refine Jo ?_;refine Jk ?_;unfold inV at hgr pI ⊢;simp -implicitDefEqProofs (disch:=omega) only[Wz,seval,Ly,Lx];refine Jo ?_;refine Jk ?_;simp -implicitDefEqProofs (disch:=omega) only[Wz,seval,Ly,Lx,Jav,JaY];refine JT JzK hgr (Jb gN (Jb (.of_pure pI) (Jb (.of_pure pO) Jl))) (.lit _) ?_;cases g16 with
 | true =>
  simp -implicitDefEqProofs (disch:=omega) only[Wz,seval,Ly,Lx];refine Jf Jxz JhF Jl (.lit _) ?_;simp -implicitDefEqProofs (disch:=omega) only[Wz,seval,Ly,Lx];exact Ja (.lit _)
 | false =>
 obtain⟨mu,hx3,ho1⟩:=JzU hg16 ha;have g:Jpk n o x at' md:=⟨ok,by omega,by omega,hat,hmd⟩;obtain⟨k,fk⟩:=Jro n o x at' md g;have hnext:=Jfz L n o x false hL at' md g mu k fk;have hrn:=Jnk L n o x false at' md g mu k fk;obtain⟨v,hv⟩:∃ t,(if okV n=true/\(0<=md/\md<(n.modes.length:Int))/\∃ u∈Jbf (ofB x),(u.pos:Int)=at' then Jeb (JjZ n o (Jbf (ofB x)) md k (ixV (Jbf (ofB x)) at') at') else Jeb (0,0,[],if okV n then 2 else 110))=Jeb t/\t.2.2.1.length<=4000000000000:=by
  by_cases hc:okV n=true/\(0<=md/\md<(n.modes.length:Int))/\∃ u∈Jbf (ofB x),(u.pos:Int)=at'
  ·rw[if_pos hc];obtain⟨u,hu,hup⟩:=hc.2.2;obtain⟨a,hal,hau⟩:=List.getElem_of_mem hu;have hix:ixV (Jbf (ofB x)) at'=a:=JlQ (JdO _) hal (by rw[List.getD_eq_getElem?_getD,List.getElem?_eq_getElem hal];simpa [hau] using hup);refine⟨_,rfl,?_⟩;rw[hix];exact Jnl (Jhu hc.1).1 (Jit _) mu (Jcr g.len).1 hal
  ·rw[if_neg hc];exact⟨_,rfl,by simp⟩
 obtain⟨hv,hvl⟩:=hv;rw[hv] at hnext hrn;obtain⟨r,kk,ac,e⟩:=v;unfold inV at hnext hrn;have hsam:=Jpo ac hvl;have pA:∀ t,Ab.Pure (Jeb t):=fun t=>.tup (Jb (.lit _) (Jb (.lit _) (Jb (.vec (Ji JU _)) (Jb (.lit _) Jl))));simp -implicitDefEqProofs (disch:=omega) only[Wz,seval,Ly,Lx];refine Jo ?_;refine Jk ?_;simp -implicitDefEqProofs (disch:=omega) only[Wz,seval,Ly,Lx,Jav,JaY];refine Jf Jqk hnext (Jb pN (Jb pI (Jb pO (Jb (.lit _) (Jb (.lit _) Jl))))) (pA _) ?_;simp -implicitDefEqProofs (disch:=omega) only[Wz,seval,Ly,Lx,Jeb];refine Jo ?_;refine Jk ?_;simp -implicitDefEqProofs (disch:=omega) only[Wz,seval,Ly,Lx,Jav,JaY];refine Jf JzL hrn (Jb pN (Jb pI (Jb pO (Jb (.lit _) (Jb (.lit _) Jl))))) (pA _) ?_;simp -implicitDefEqProofs (disch:=omega) only[Wz,seval,Ly,Lx,Jeb];refine Jo ?_;refine Jk ?_;have b1:∀ z:Int,(z==z)=true:=fun z=>by simp
 simp -implicitDefEqProofs (disch:=omega) only[Wz,seval,Ly,Lx,b1];refine Jf JxA hsam (Jb (.vec (Ji JU _)) (Jb (.vec (Ji JU _)) Jl)) (.lit _) ?_;simp -implicitDefEqProofs (disch:=omega) only[Wz,seval,Ly,Lx];refine Jf Jxz JhF Jl (.lit _) ?_;simp -implicitDefEqProofs (disch:=omega) only[Wz,seval,Ly,Lx];refine Jk ?_;simp -implicitDefEqProofs (disch:=omega) only[Wz,seval,Ly,Lx];exact Ja (.lit _)
end Go.Proofs.Y
end
section
namespace Go.Proofs.Y
open Go Go.Ab
open Go.Proofs.Tryz renaming prog->Pg
mutual
def gz:Gd->Nat
 | .mk _ _ name kids=>1+name.size+gzs kids
def gzs:List Gd->Nat
 | []=>0
 | g :: l=>gz g+gzs l
end
theorem JpQ(l:List Gd):gzs l=(l.map gz).sum:=by induction l with | nil=>rfl | cons x l ih=>simp[gzs,ih]
theorem JtD(g:Gd):gz g=1+g.name.size+(g.kids.map gz).sum:=by cases g;simp only[gz,JpQ];rfl
theorem Jzc{l:List Gd}{f g:Gd->Nat}(h:∀ x∈l,f x<=g x):(l.map f).sum<=(l.map g).sum:=by
 induction l with
 | nil=>simp
 | cons x l ih =>
  simp only[List.map_cons,List.sum_cons];have:=h x (by simp);have:=ih (fun y hy=>h y (by simp[hy]));omega
theorem Jz2:∀ (m:Nat) (g:Gd),gz g<=m->m<=1000000000->Jnq g/\gsz g<=gz g:=by
 intro m;induction m using Nat.strongRecOn with
 | _ m ih =>
  intro g h hm;have hk:∀ k∈g.kids,Jnq k/\gsz k<=gz k:=fun k hk=>by
   have h1:=JdK (List.mem_map_of_mem (f:=gz) hk);have h2:=JtD g;exact ih (gz k) (by omega) k (Nat.le_refl _) (by omega)
  refine⟨.mk (by have:=JtD g;omega) fun k hk'=>(hk k hk').1,?_⟩;rw[JlE,JtD];have:=Jzc fun x hx=>(hk x hx).2
  omega
abbrev RgS:Type:={p:Int × Int // (-2147483648<=p.1/\p.1<=2147483647)/\(-2147483648<=p.2/\p.2<=2147483647)}
abbrev EdS:Type:={e:Ed // JjH e.set}
abbrev StS:Type:={s:Sta // ∀ e∈s.edges,JjH e.set}
def edz (e:Ed):Nat:=1+e.set.length+gz e.g+e.acts.length
def stz (s:Sta):Nat:=1+(s.edges.map edz).sum
def nrz (r:Nr):Nat:=1+r.name.size
def baz (s:ByteArray):Nat:=1+s.size
def ntz (n:Nt):Nat:=1+(n.types.map baz).sum+(n.channels.map baz).sum+(n.modes.map baz).sum+(n.rules.map nrz).sum+(n.states.map stz).sum
theorem Jsg{z:Int}(h:(Lit.int .i32 z).wf=true) : -2147483648<=z/\z<=2147483647:=by
 simp only[Lit.wf,Bool.and_eq_true,decide_eq_true_eq] at h;have e1:IntKind.i32.min = -2147483648:=by decide
 have e2:IntKind.i32.max=2147483647:=by decide
 omega
theorem Jln{α:Type}{P:α->Prop}(l:List {a // P a}):∀ a∈l.map (fun x=>x.1),P a:=fun a h=>by
 obtain⟨x,_,rfl⟩:=List.mem_map.1 h;exact x.2
section
variable {H:Type} {en:TypeId × Value->H} {W:World}
theorem Jz3(n:Nat):Rd en Pg W n 94 (fun av m=>∃ t:Gd,av=JaU t/\gz t<=m):=by
 induction n using Nat.strongRecOn with
 | _ n ih =>
  refine(Rd.struct' Jua rfl fun k hk=>.cons JrL (.int JrL rfl) (.cons ty2 (.int ty2 rfl) (.cons ty9 (.str ty9 rfl)
   (.cons Jzp (.slice' Jzp rfl Jua (by decide) (f:=JaU) (sz:=gz) fun j hj=>ih j (by omega)) (.nil (by decide)))))).mono ?_
  rintro av m ⟨q,h,rfl⟩;obtain⟨_,_,_,_,rfl,⟨z1,w1,rfl⟩,h,rfl⟩:=h;obtain⟨_,_,_,_,rfl,⟨z2,_,rfl⟩,h,rfl⟩:=h;obtain⟨_,_,_,_,rfl,⟨s,hs,hs2,rfl⟩,h,rfl⟩:=h;obtain⟨_,_,_,_,rfl,⟨l,rfl,hl,_⟩,rfl,rfl⟩:=h;exact⟨.mk ⟨z1,Jyt w1⟩ z2 s l,by simp[JaU,Jgn],by simp only[gz,JpQ];omega⟩
theorem Jrq(n:Nat):Rd en Pg W n 150 (fun av m=>∃ t:RgS,av=Jbb t.1/\1<=m):=by
 refine(Rd.struct' Jqg rfl fun k hk=>.cons JtL (.int JtL rfl) (.cons JtL (.int JtL rfl) (.nil (by decide)))).mono ?_;rintro av m ⟨q,h,rfl⟩;obtain⟨_,_,_,_,rfl,⟨z1,w1,rfl⟩,h,rfl⟩:=h;obtain⟨_,_,_,_,rfl,⟨z2,w2,rfl⟩,rfl,rfl⟩:=h;exact⟨⟨(z1,z2),Jsg w1,Jsg w2⟩,rfl,by omega⟩
theorem Jz4(n:Nat):Rd en Pg W n 96 (fun av m=>∃ t:EdS,av=Jn t.1/\edz t.1<=m):=by
 refine(Rd.struct' Jzq rfl fun k hk=>.cons JrL (.int JrL rfl) (.cons Jzo (.slice' Jzo rfl Jqg (by decide) (f:=fun t:RgS=>Jbb t.1) (sz:=fun _=>1) fun j _=>Jrq j)
  (.cons ty3 (.int ty3 rfl) (.cons ty3 (.int ty3 rfl) (.cons Jua (Jz3 k)
  (.cons JtN (.slice' JtN rfl Jt9 (by decide) (f:=Jy) (sz:=fun _=>1) fun j _=>Jyu j) (.cons ty3 (.int ty3 rfl) (.nil (by decide))))))))).mono ?_
 rintro av m ⟨q,h,rfl⟩;obtain⟨_,_,_,_,rfl,⟨z1,w1,rfl⟩,h,rfl⟩:=h;obtain⟨_,_,_,_,rfl,⟨st,rfl,_,hs⟩,h,rfl⟩:=h;obtain⟨_,_,_,_,rfl,⟨z2,_,rfl⟩,h,rfl⟩:=h;obtain⟨_,_,_,_,rfl,⟨z3,_,rfl⟩,h,rfl⟩:=h;obtain⟨_,_,_,_,rfl,⟨g,rfl,hg⟩,h,rfl⟩:=h;obtain⟨_,_,_,_,rfl,⟨ac,rfl,_,ha⟩,h,rfl⟩:=h;obtain⟨_,_,_,_,rfl,⟨z4,_,rfl⟩,rfl,rfl⟩:=h;have hst:JjH (st.map fun x=>x.1):=Jln st;exact⟨⟨⟨⟨z1,Jyt w1⟩,st.map (fun x=>x.1),z2,z3,g,ac,z4⟩,hst⟩,by simp[Jn,Jw,List.map_map,Function.comp_def],by simp only[edz,List.length_map];omega⟩
theorem Jzd(n:Nat):Rd en Pg W n 87 (fun av m=>∃ t:StS,av=Jd t.1/\stz t.1<=m):=by
 refine(Rd.struct' Jzn rfl fun k hk=>.cons ty3 (.int ty3 rfl) (.cons Jzm (.slice' Jzm rfl Jzq (by decide) (f:=fun t:EdS=>Jn t.1) (sz:=fun t:EdS=>edz t.1) fun j _=>Jz4 j) (.nil (by decide)))).mono ?_;rintro av m ⟨q,h,rfl⟩;obtain⟨_,_,_,_,rfl,⟨z1,_,rfl⟩,h,rfl⟩:=h;obtain⟨_,_,_,_,rfl,⟨l,rfl,hl,_⟩,rfl,rfl⟩:=h;exact⟨⟨⟨z1,l.map (fun x=>x.1)⟩,Jln l⟩,by simp[Jd,List.map_map,Function.comp_def],by simp only[stz,List.map_map,Function.comp_def];omega⟩
theorem Jz5(n:Nat):Rd en Pg W n 39 (fun av m=>∃ t:Nr,av=Jc t/\nrz t<=m):=by
 refine(Rd.struct' Jzl rfl fun k hk=>.cons ty9 (.str ty9 rfl) (.cons ty4 (.bool ty4 rfl) (.cons ty4 (.bool ty4 rfl) (.cons ty4 (.bool ty4 rfl) (.cons ty4 (.bool ty4 rfl)
  (.cons ty3 (.int ty3 rfl) (.cons ty3 (.int ty3 rfl) (.cons ty3 (.int ty3 rfl) (.cons ty3 (.int ty3 rfl) (.nil (by decide))))))))))).mono ?_
 rintro av m ⟨q,h,rfl⟩;obtain⟨_,_,_,_,rfl,⟨s,hs,hs2,rfl⟩,h,rfl⟩:=h;obtain⟨_,_,_,_,rfl,⟨b1,rfl⟩,h,rfl⟩:=h;obtain⟨_,_,_,_,rfl,⟨b2,rfl⟩,h,rfl⟩:=h;obtain⟨_,_,_,_,rfl,⟨b3,rfl⟩,h,rfl⟩:=h;obtain⟨_,_,_,_,rfl,⟨b4,rfl⟩,h,rfl⟩:=h;obtain⟨_,_,_,_,rfl,⟨z1,_,rfl⟩,h,rfl⟩:=h;obtain⟨_,_,_,_,rfl,⟨z2,_,rfl⟩,h,rfl⟩:=h;obtain⟨_,_,_,_,rfl,⟨z3,_,rfl⟩,h,rfl⟩:=h;obtain⟨_,_,_,_,rfl,⟨z4,_,rfl⟩,rfl,rfl⟩:=h;exact⟨⟨s,b1,b2,b3,b4,z1,z2,z3,z4⟩,rfl,by simp only[nrz];omega⟩
theorem Jze(n:Nat):Rd en Pg W n 9 (fun av m=>∃ t:ByteArray,av=JaD t/\baz t<=m):=by
 refine(Rd.str ty9 rfl).mono ?_;rintro av m ⟨s,_,hs,rfl⟩;exact⟨s,rfl,by simp only[baz];omega⟩
theorem Jz6(n:Nat):Rd en Pg W n 26 (fun av m=>∃ t:Nt,av=Jh t/\ntz t<=m/\∀ s∈t.states,∀ e∈s.edges,JjH e.set):=by
 have ws:∀ k,Rd en Pg W k 22 (fun av m=>∃ l:List ByteArray,av=[.vec (l.map JaD) false]/\(l.map baz).sum+1<=m/\l.length+1<=m):=fun k =>
  .slice' JtM rfl ty9 (by decide) (f:=JaD) (sz:=baz) fun j _=>Jze j
 refine(Rd.struct' JzF rfl fun k hk=>.cons JtM (ws k) (.cons JtM (ws k) (.cons JtM (ws k)
  (.cons Jzj (.slice' Jzj rfl Jzl (by decide) (f:=Jc) (sz:=nrz) fun j _=>Jz5 j)
  (.cons Jzk (.slice' Jzk rfl Jzn (by decide) (f:=fun t:StS=>Jd t.1) (sz:=fun t:StS=>stz t.1) fun j _=>Jzd j) (.nil (by decide))))))).mono ?_
 rintro av m ⟨q,h,rfl⟩;obtain⟨_,_,_,_,rfl,⟨l1,rfl,h1,_⟩,h,rfl⟩:=h;obtain⟨_,_,_,_,rfl,⟨l2,rfl,h2,_⟩,h,rfl⟩:=h;obtain⟨_,_,_,_,rfl,⟨l3,rfl,h3,_⟩,h,rfl⟩:=h;obtain⟨_,_,_,_,rfl,⟨l4,rfl,h4,_⟩,h,rfl⟩:=h;obtain⟨_,_,_,_,rfl,⟨l5,rfl,h5,_⟩,rfl,rfl⟩:=h;exact⟨⟨l1,l2,l3,l4,l5.map (fun x=>x.1)⟩,by simp[Jh,List.map_map,Function.comp_def],by simp only[ntz,List.map_map,Function.comp_def];omega,Jln l5⟩
theorem JtE{n:Nt}(h:ntz n<=100000000)(p:∀ s∈n.states,∀ e∈s.edges,JjH e.set):JcH n:=by
 unfold ntz at h;have b1:=Jep baz (fun t=>by unfold baz;omega) n.types;have b2:=Jep baz (fun t=>by unfold baz;omega) n.channels;have b3:=Jep baz (fun t=>by unfold baz;omega) n.modes;have b4:=Jep nrz (fun t=>by unfold nrz;omega) n.rules;have b5:=Jep stz (fun t=>by unfold stz;omega) n.states;have sb:∀ (l:List ByteArray),(l.map baz).sum<=100000000->∀ s∈l,s.size<=9000000000000000000:=fun l hl s hs=>by
  have:=JdK (List.mem_map_of_mem (f:=baz) hs);unfold baz at this hl;omega
 refine⟨by omega,by omega,by omega,by omega,by omega,sb _ (by omega),sb _ (by omega),sb _ (by omega),fun r hr=>?_,fun s hs=>?_⟩
 ·have:=JdK (List.mem_map_of_mem (f:=nrz) hr);have e:nrz r=1+r.name.size:=rfl;omega
 ·have h1:=JdK (List.mem_map_of_mem (f:=stz) hs);have e1:stz s=1+(s.edges.map edz).sum:=rfl;have h2:=Jep edz (fun t=>by unfold edz;omega) s.edges;refine⟨by omega,fun e he=>?_⟩;have h3:=JdK (List.mem_map_of_mem (f:=edz) he);have e2:edz e=1+e.set.length+gz e.g+e.acts.length:=rfl;obtain⟨q1,q2⟩:=Jz2 _ e.g (Nat.le_refl _) (by omega);exact⟨by omega,by omega,by omega,q1,p s hs e he⟩
theorem JtF(n:Nat):Rd en Pg W n 28 (fun av m=>∃ l:List Orc,av=[.vec (l.map Jct) false]/\l.length<=m) :=
 (Rd.slice' JzG rfl Jqj (by decide) (f:=Jct) (sz:=fun _=>1) fun j _=>Jyv j).mono fun av m ⟨l,h1,_,h2⟩=>⟨l,h1,by omega⟩
theorem Jsh(n:Nat):Rd en Pg W n 3 (fun av m=>∃ z:Int,av=[.lit (.int .i64 z)]/\(-9223372036854775808<=z/\z<=9223372036854775807)):=by
 refine(Rd.int ty3 rfl).mono ?_;rintro av m ⟨z,hz,rfl⟩;simp only[Lit.wf,Bool.and_eq_true,decide_eq_true_eq] at hz;have e1:IntKind.i64.min = -9223372036854775808:=by decide
 have e2:IntKind.i64.max=9223372036854775807:=by decide
 exact⟨z,rfl,by omega⟩
theorem Jz7(n:Nat):Rd en Pg W n 5 (fun av m=>∃ t:UInt8,av=JaN t/\0<=m):=by
 refine(Rd.int ty5 rfl).mono ?_;rintro av m ⟨z,hz,rfl⟩;simp only[Lit.wf,Bool.and_eq_true,decide_eq_true_eq] at hz;have e1:IntKind.u8.min=0:=by decide
 have e2:IntKind.u8.max=255:=by decide
 refine⟨UInt8.ofNat z.toNat,?_,Nat.zero_le _⟩;unfold JaN;have:((UInt8.ofNat z.toNat).toNat:Int)=z:=by
  rw[UInt8.toNat_ofNat'];omega
 rw[this]
theorem Jrr(n:Nat):Rd en Pg W n 27 (fun av m=>∃ l:List UInt8,av=[.vec (l.map JaN) false]/\l.length<=m) :=
 (Rd.slice' Jsv rfl ty5 (by decide) (f:=JaN) (sz:=fun _=>0) fun j _=>Jz7 j).mono fun av m ⟨l,h1,_,h2⟩=>⟨l,h1,by omega⟩
end
theorem JtG{n:Nt}{M:Nat}(h:ntz n<=M):∀ s,∀ e∈(n.states.getD s default).edges,e.acts.length<=M:=fun s e he=>by
 rcases Nat.lt_or_ge s n.states.length with hs | hs
 ·unfold ntz at h;have h1:=JdK (List.mem_map_of_mem (f:=stz) (Jt hs));have e1:stz (n.states.getD s default)=1+((n.states.getD s default).edges.map edz).sum:=rfl;have h3:=JdK (List.mem_map_of_mem (f:=edz) he);have e2:edz e=1+e.set.length+gz e.g+e.acts.length:=rfl;omega
 ·have:n.states.getD s default=default:=by rw[List.getD_eq_getElem?_getD,List.getElem?_eq_none hs];rfl
  rw[this] at he;cases he
end Go.Proofs.Y
end
section
namespace Go.Proofs.Y
open Go Go.Ab Go.RowKit Go.ChangeShapes
section
variable {H:Type} {enc:TypeId × Value->H} {P:Program}
theorem Jae.below{W W':World}(h:Jae (fun _=>False) W W'):Below W.heap.size W W':=⟨h.os,h.tape,h.output,h.size,fun b hb=>h.block b hb (fun q=>q)⟩
theorem JeR(hl:laidOutB P=true){W W':World}(hb:Below W.heap.size W W'){sp:Nat->Bool}:∀ {ts:List TypeId} {vs:List Value} {ds:List (DataW H)} {ps:List MemPlace},
  (∀ t∈ts,P.readableRec t=true/\t<P.types.size)->DataW.TrodAll enc P W 0 (fun _=>true) true ts vs ds ps->(∀ p∈ps,p.block<W.heap.size/\sp p.block=true)->DataW.TrodAll enc P W' 0 sp true ts vs ds ps
 | [],vs,ds,ps,_,h,_=>by
  obtain⟨rfl,rfl,rfl⟩:=trodAll_nil h;exact trodAll_mk0
 | t :: ts,_,_,_,ht,h,hp=>by
  obtain⟨v,vs',d,ds',p,q,rfl,rfl,rfl,h1,h2⟩:=trodAll_cons h;obtain⟨hr,hrow⟩:=ht t (by simp);exact⟨p,q,WideElems.Trod_stays hl hr hrow h1 (fun x hx=>hb.same (hp x (by simp[hx])).1) (fun x hx=>(hp x (by simp[hx])).2),
   JeR hl hb (fun t' h'=>ht t' (by simp[h'])) h2 (fun x hx=>hp x (by simp[hx])),rfl⟩
theorem Jrs{f:Func}{s:ChangeSpec}{apart fresh handsOn again:Bool}{W W':World}{args:Array Value}{ds gs:List (DataW H)}{before:List MemPlace}{tb:TypeId}
  (hW:DataW.Whole enc P f.params.toList s.vars apart W args.toList ds gs before) (hv:s.vars=[]) (hs:s.fn H ds={results:=[.lit (.bool true)],args:=ds})
  (hl:laidOutB P=true) (hp:(f.params.toList.all fun t=>P.readableRec t && decide (t<P.types.size))=true) (hres:f.resultTypes = #[tb]) (htb:P.underlying tb=some .bool)
  (hk:Jae (fun _=>False) W W'):s.post enc P f apart fresh handsOn again W args (.bool true) W':=by
 have hb:=Jae.below hk;have hlt:=hW.lt;have hW0:=hW;have hpar:∀ t∈f.params.toList,P.readableRec t=true/\t<P.types.size:=fun t ht=>by
  have:=List.all_eq_true.1 hp t ht;simpa using this
 obtain⟨p,q,h1,h2,rfl,hz,hn⟩:=hW;rw[hv] at h2;obtain⟨rfl,rfl⟩:=trodVars_none h2;have hfn:s.fn H (ds++[])={results:=[.lit (.bool true)],args:=ds}:=by rw[List.append_nil];exact hs
 have hr:∀ (b:Nat) (sp:Nat->Bool) (hd:Bool),DataW.TrodAll enc P W' b sp hd f.resultTypes.toList ((Value.bool true).resultList f.resultTypes.size) [.lit (.bool true)] []:=fun b sp hd=>by
  rw[hres];exact trodAll_cons_mk (shut_bool htb true) trodAll_mk0
 have ha:∀ sp:Nat->Bool,(∀ x∈p,sp x.block=true)->DataW.TrodAll enc P W' 0 sp true f.params.toList args.toList ds p:=fun sp hsp =>
  JeR hl hb hpar h1 (fun x hx=>⟨hlt x (by simp[hx]),hsp x hx⟩)
 refine⟨ds,[],p++[],[],p,[],hW0,?_,?_,?_,hb.frame _,fun _=>⟨?_,.lit (.bool true) :: ds,[],p++[],?_,fun x hx _=>hx⟩⟩
 ·rw[hfn];exact hr _ _ _
 ·rw[hfn];exact ha _ (fun x hx=>by simpa using hlt x (by simp[hx]))
 ·rw[hfn,hv];rfl
 ·exact ok_one hres rfl (okWide_bool_mk htb true)
 ·refine⟨p,[],?_,by rw[hv];rfl,rfl,fun b off hx=>?_,fun hap=>hn hap⟩
  ·exact trodAll_append (p:=[]) (ha (fun _=>true) (fun _ _=>rfl)) (hr 0 (fun _=>true) true)
  ·have hlt':=hlt _ hx;exact(World.frozen?_of_block (w:=W) (hb.block b hlt')).trans (hz b off hx)
end
end Go.Proofs.Y
end
section
namespace Go.Proofs.Y
open Go Go.Ab Go.RowKit Go.ChangeShapes
def Jsi:Go.Shelf.Ren:=⟨id,fun | 5=>5 | 119=>211 | 138=>213 | 139=>214 | n=>n,fun | 3=>0 | 4=>1 | n=>n⟩
theorem Jrt:U8Types Tryz.prog Jsi:=⟨Tryz.underlying5,Tryz.underlying211,Tryz.underlying213,Tryz.underlying214⟩
theorem Jru:U8Extra Tryz.prog Jsi:=⟨by kernel_rfl,by kernel_rfl,by kernel_rfl,by kernel_rfl,by kernel_rfl,by kernel_rfl,by kernel_rfl⟩
theorem JtH{W:World}(h:laidMetH Tryz.prog [("unicode/utf8.acceptRanges",YtgbbhilflgekhaaGreatDoor.Rows.laid_unicode_utf8_acceptRanges),("unicode/utf8.first",YtgbbhilflgekhaaGreatDoor.Rows.laid_unicode_utf8_first)] W):Lib.Utf8Tabs 0 1 W:=by
 have e1:YtgbbhilflgekhaaGreatDoor.Rows.laid_unicode_utf8_acceptRanges=Go.Lib.acceptData:=by kernel_rfl
 have e2:YtgbbhilflgekhaaGreatDoor.Rows.laid_unicode_utf8_first=Go.Lib.firstData:=by kernel_rfl
 rw[e1,e2] at h;exact utf8Tabs_of_readsT Jrt Jru (Lib.laidMet.reads h (.tail _ (.head _))) (Lib.laidMet.reads h (.head _))
theorem Jzf{W:World}(h:Lib.Utf8Tabs 0 1 W):∀ p∈Jnv,∀ (j:Nat) (c:Value),p.2[j]? = some c->JdI W p.1 j=some c:=by
 intro p hp j c hc;unfold Jnv at hp;rcases List.mem_cons.1 hp with rfl | hp
 ·simp only[List.getElem?_map,Option.map_eq_some_iff] at hc;obtain⟨i,hi,rfl⟩:=hc;obtain⟨hj,e⟩:=List.getElem?_eq_some_iff.1 hi;simp only[List.getElem_range] at e;subst e;exact JdX (h.1 _ (by simpa using hj)) rfl
 ·rw[List.mem_singleton] at hp;subst hp;simp only[List.getElem?_map,Option.map_eq_some_iff] at hc;obtain⟨i,hi,rfl⟩:=hc;obtain⟨hj,e⟩:=List.getElem?_eq_some_iff.1 hi;simp only[List.getElem_range] at e;subst e;have hj:j<32:=by simpa using hj
  obtain⟨a,b⟩:=h.2 (j / 2) (by omega);unfold Jzx;by_cases q:j % 2=0
  ·rw[if_pos q];have e:2 * (j / 2)=j:=by omega
   rw[e] at a;exact JdX a rfl
  ·rw[if_neg q];have e:2 * (j / 2)+1=j:=by omega
   rw[e] at b;exact JdX b rfl
end Go.Proofs.Y
end
