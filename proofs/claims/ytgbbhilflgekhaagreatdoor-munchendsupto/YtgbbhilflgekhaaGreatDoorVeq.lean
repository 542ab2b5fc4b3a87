/- Parts of the proof, laid together. -/
import Derived.Test.YtgbbhilflgekhaaGreatDoorVep
set_option linter.unusedVariables false
set_option linter.unusedSimpArgs false
set_option maxRecDepth 20000
set_option maxHeartbeats 16000000
section
namespace Go.Proofs.Y
open Go Go.Ab
section
variable {n:Nt} {o:List Orc} {l:List Un} {md:Int} {W:AV} {k:Nat} {rk:Nat->Nat} {R:Nat} (z:Jt2 n o l md W k rk R)
include z
theorem Jrr{t:Tr}(ht:Jff n l t):Jlv n o l md W k rk R t:=by
 have key:∀ (m:Nat) (t:Tr),mT l rk R t<m->Jff n l t->Jlv n o l md W k rk R t:=by
  intro m;induction m with
  | zero=>intro t h;omega
  | succ m ih=>intro t h ht;exact JpU z ht fun t' h1 h2=>ih t' (by omega) h1
 exact key _ t (Nat.lt_succ_self _) ht
theorem Jkq{r a:Nat}(hr:r<n.rules.length)(ha:a<l.length):JtK n o l md W k rk R r a:=by
 have a1:=z.g.w.start hr;exact JfH z.g z.hW hr ha (Jrr z ⟨by unfold stN;simp only;omega,ha⟩)
end
theorem Jmh:∀ (l:List En) (y:En),l.foldl (Jcs true) y=y
 | [],y=>rfl
 | z :: l,y=>by
  rw[List.foldl_cons];have:Jcs true y z=y:=by unfold Jcs;rw[if_neg (by simp)]
  rw[this];exact Jmh l y
theorem Jnn(lz:Bool)(y:En):Jcs lz y y=y:=by unfold Jcs;rw[if_neg (by omega)]
theorem Fq.up{H:Hp}{b:Nat}(hb:b<H.nx)(fb:∀ j,H.nx<=j->lk H.boxes j=none)(ft:∀ j,H.nx<=j->lk H.toks j=none)(c:List AV):Fq [b] [] H ⟨up H.boxes b c,H.toks,H.nx⟩ :=
 ⟨Nat.le_refl _,fun j _ hj=>by show lk (Go.Ab.up H.boxes b c) j=_;rw[JH,if_neg (fun q=>hj (by simp[q]))],fun _ _ _=>rfl,fun j hj=>by show lk (Go.Ab.up H.boxes b c) j=none;rw[JH,if_neg (by have hj:H.nx<=j:=hj;omega)];exact fb j hj,ft⟩
def Jt3 (b:Option En):AV:=match b with
 | none=>.tup [.agg [.lit (.int .i64 0),.vec [] true],.lit (.bool false)]
 | some y=>.tup [.agg (JO y),.lit (.bool true)]
theorem Ji3{n:Nt}{o:List Orc}{l:List Un}{md:Int}{W:AV}{k:Nat}{rk:Nat->Nat}{R:Nat}(z:Jt2 n o l md W k rk R){r a:Nat}(hr:r<n.rules.length)(ha:a<l.length){li:Nat}{M:Mm}{q:Q3}{H:Hp}(hl:RL n o l md W li M q H)(hm:JhV n o l md k M) :
  JU Tryz.prog 48 [.ptr li 0,.lit (.int .i64 (r:Int)),.lit (.int .i64 (a:Int))] H fun v h'=>v=Jt3 (Jct (n.rules.getD r default).lz (eF n o l md k r a)) /\
   ∃ M' q',JhV n o l md k M'/\RL n o l md W li M' q' h'/\Fq [li] (n3 q) H h'/\(∀ j∈n3 q',j∈n3 q\/H.nx<=j):=by
 refine Jq Tryz.func48 rfl Tryz.ntmps48 (rs:=[.cell 6 113,.tmp 7]) rfl (by simp) ?_;have hll:=z.g.len;have hlt:=hl.lt;obtain⟨lz,hlz⟩:∃ lz,(n.rules.getD r default).lz=lz:=⟨_,rfl⟩;obtain⟨rr,hrr⟩:∃ rr,n.rules.getD r default=rr:=⟨_,rfl⟩;rw[hlz];rw[hrr] at hlz;obtain⟨Qk,hQ⟩:∃ Qk:AV->Hp->Prop,(fun v h'=>v=Jt3 (Jct lz (eF n o l md k r a))/\∃ M' q',JhV n o l md k M'/\RL n o l md W li M' q' h'/\Fq [li] (n3 q) H h'/\(∀ j∈n3 q',j∈n3 q\/H.nx<=j))=Qk:=⟨_,rfl⟩;rw[hQ];have fk:=Fq.box (B:=[]) (T:=[]) hl.fb hl.ft [AV.lit (.int .i64 0),.vec [] true];have hl1:=hl.keep fk (by simp) (fun j _=>by simp);refine Jm ?_;refine Jj ?_;simp (disch:=omega) only[Wz,seval,Ly,Lx];refine Jm ?_;refine Jj ?_;simp (disch:=omega) only[Wz,seval,Ly,Lx];refine JE Jos (Jkq z hr ha li M q _ hl1 hm) ?_;rintro v h' ⟨rfl,M',q',m1,m2,m3,m4,m5⟩;have hb6:lk h'.boxes H.nx=some [AV.lit (.int .i64 0),.vec [] true]:=by
  rw[m3.bx H.nx (Nat.lt_succ_self _) (by simp;omega)];exact JcG (hl.fb _ (Nat.le_refl _)) _ _
 have hn6:H.nx<h'.nx:=Nat.lt_of_lt_of_le (Nat.lt_succ_self _) m3.nx;have base:Fq [li] (n3 q) H h':=(fk.mono (fun j hj=>by cases hj) (fun j hj=>by cases hj)).trans m3 (fun j hj=>.inl hj) (fun j hj=>.inl hj);have nm:∀ j∈n3 q',j∈n3 q\/H.nx<=j:=fun j hj=>by
  rcases m4 j hj with p | p
  ·exact .inl p
  ·right;have p:H.nx+1<=j:=p;omega
 have hQ':∀ (h'':Hp),Fq [H.nx] [] h' h''->Qk (Jt3 (Jct lz (eF n o l md k r a))) h'':=fun h'' f=>by
  rw[<- hQ];exact⟨rfl,M',q',m1,m2.keep f (by simp;omega) (fun j _=>by simp),base.trans f (fun j hj=>.inr (by simp at hj;omega)) (fun j hj=>by cases hj),nm⟩
 have fb:=m2.fb;have ft:=m2.ft;have bx:=m2.bx;have lenl:=JiD z.g.w z.g.u (o:=o) (md:=md) (k:=k) hr ha;obtain⟨ys,hys⟩:∃ ys,eF n o l md k r a=ys:=⟨_,rfl⟩;rw[hys] at hQ' lenl ⊢;clear hQ hl hl1 m4 m5 fk base nm;have hu6:∀ c,lk (up h'.boxes H.nx c) H.nx=some c:=fun c=>by rw[JH,if_pos rfl,hb6];rfl
 simp (disch:=omega) only[Wz,seval,Ly,Lx];refine Jm ?_;refine Jj ?_;rcases Nat.eq_zero_or_pos ys.length with hz0 | hpos
 ·have:=List.eq_nil_of_length_eq_zero hz0;subst this;simp (disch:=omega) only[Wz,seval,Ly,Lx,List.map_nil,List.length_nil,hb6,hu6];exact hQ' _ (Fq.up hn6 fb ft _)
 ·simp (disch:=omega) only[Wz,seval,Ly,Lx];refine Jm ?_;refine Jj ?_;have hnn:∀ c,lk (h'.boxes++[(h'.nx,c)]) h'.nx=some c:=fun c=>JcG (fb _ (Nat.le_refl _)) c _;have hu1:∀ c d,up (h'.boxes++[(h'.nx,c)]) h'.nx d=h'.boxes++[(h'.nx,d)]:=fun c d=>JdU (fb _ (Nat.le_refl _));have bx':∀ x,lk (h'.boxes++x) li=some _:=fun x=>by rw[JC,bx];rfl
  obtain⟨y0,hy0⟩:∃ y0,ys.getD 0 default=y0:=⟨_,rfl⟩;obtain⟨yr,hys2⟩:∃ yr,y0 :: yr=ys:=by
   cases ys with
   | nil=>cases hpos
   | cons y yr=>exact⟨yr,by rw[<- hy0];rfl⟩
  simp (disch:=omega) only[Wz,seval,Ly,Lx,hy0,hnn,hu1];obtain⟨B,hB⟩:∃ B:Nat->En,(fun i=>(ys.take i).foldl (Jcs lz) y0)=B:=⟨_,rfl⟩;have hB0:B 0=y0:=by rw[<- hB];rfl
  have hBs:∀ i,i<ys.length->B (i+1)=Jcs lz (B i) (ys.getD i default):=fun i hi=>by
   rw[<- hB];simp only;rw[List.take_succ_eq_append_getElem hi,List.foldl_append,List.getD_eq_getElem?_getD,List.getElem?_eq_getElem hi];rfl
  have hBe:Jct lz ys=some (B ys.length):=by
   rw[<- hB,<- hys2];simp only[List.take_length];unfold Jct;rw[List.foldl_cons,Jnn]
  have hBz:lz=true->Jct lz ys=some (B 0):=fun h=>by
   rw[hB0,<- hys2];show some (yr.foldl (Jcs lz) y0)=some y0;rw[h,Jmh]
  refine Jm ?_;refine Jm ?_;refine Jj ?_;simp (disch:=omega) only[Wz,seval,Ly,Lx];refine JX ?_;refine Jp (fun i:Nat=>⟨[(0,.ptr li 0),(1,.lit (.int .i64 (r:Int))),(2,.lit (.int .i64 (a:Int))),(6,.ptr H.nx 0),(7,.lit (.bool false)),(8,.vec (ys.map JO) false),(9,.ptr h'.nx 0),(10,.lit (.int .i64 (i:Int)))],⟨h'.boxes++[(h'.nx,JO (B i))],h'.toks,h'.nx+1⟩,53⟩) (fun i=>i<=ys.length/\(lz=true->i=0)) (fun i=>ys.length - i) 0 (Jk (by simp[lk,JO]) (fun _ _ e=>by simpa [hB0,JO] using e) (fun _ _ e=>e) rfl rfl) ⟨Nat.zero_le _,fun _=>rfl⟩ ?_;rintro i ⟨hi,hiz⟩;have hb6':∀ x,lk (h'.boxes++x) H.nx=some _:=fun x=>by rw[JC,hb6];rfl
  have hu6':∀ x c,lk (up (h'.boxes++x) H.nx c) H.nx=some c:=fun x c=>by rw[JH,if_pos rfl,hb6'];rfl
  have fin:Jct lz ys=some (B i)->Qk (Jt3 (some (B i))) ⟨up (h'.boxes++[(h'.nx,JO (B i))]) H.nx (JO (B i)),h'.toks,h'.nx+1⟩:=fun h=>by
   rw[<- h];refine hQ' _ ((Fq.up hn6 fb ft (JO (B i))).trans (B':=[]) (T':=[]) ⟨Nat.le_succ _,fun j hj _=>?_,fun _ _ _=>rfl,fun j hj=>?_,fun j hj=>ft j (by have hj:h'.nx+1<=j:=hj;omega)⟩ (fun j hj=>by cases hj) (fun j hj=>by cases hj))
   ·have hj:j<h'.nx:=hj;show lk (up (h'.boxes++[(h'.nx,JO (B i))]) H.nx (JO (B i))) j=lk (up h'.boxes H.nx (JO (B i))) j;rw[JH,JH,JdA _ (by omega),JdA _ (by omega)]
   ·have hj:h'.nx+1<=j:=hj;show lk (up (h'.boxes++[(h'.nx,JO (B i))]) H.nx (JO (B i))) j=none;rw[JH,if_neg (by omega),JdA _ (by omega)];exact fb j (by omega)
  refine Jm ?_;refine Jj ?_;rcases Nat.lt_or_ge i ys.length with hlt2 | hge
  rotate_left
  ·have hie:i=ys.length:=by omega
   have hlz0:lz=false:=by
    cases lz with
    | false=>rfl
    | true=>have:=hiz rfl;omega
   subst hie;simp (disch:=omega) only[Wz,seval,Ly,Lx];refine Jj ?_;simp (disch:=omega) only[Wz,seval,Ly,Lx,hnn,hb6',hu6'];exact fin hBe
  cases lz with
  | true =>
   have:=hiz rfl;subst this;simp (disch:=omega) only[Wz,seval,Ly,Lx,bx',rlC,Jh,hrr,Jc,hlz];refine Jj ?_;simp (disch:=omega) only[Wz,seval,Ly,Lx,hnn,hb6',hu6'];exact fin (hBz rfl)
  | false =>
  obtain⟨yi,hyi⟩:∃ yi,ys.getD i default=yi:=⟨_,rfl⟩;have hBi:=hBs i hlt2;rw[hyi] at hBi;unfold Jcs at hBi;simp (disch:=omega) only[Wz,seval,Ly,Lx,bx',rlC,Jh,hrr,Jc,hlz];refine Jm ?_;refine JX ?_;refine Jm ?_;refine Jx (n:=53) rfl (by decide) mixed ?_;by_cases hfar:(B i).pos<yi.pos
  ·rw[if_pos ⟨hfar,rfl⟩] at hBi;simp (disch:=omega) only[Wz,seval,Ly,Lx,hnn,hyi,JO];refine Jj ?_;simp (disch:=omega) only[Wz,seval,Ly,Lx,hnn,hyi,hu1,JO];refine Jj ?_;simp (disch:=omega) only[Wz,seval,Ly,Lx];exact⟨i+1,⟨hlt2,fun q=>by cases q⟩,by omega,Jk (by simp[lk]) (fun _ _ e=>by simpa [hBi] using e) (fun _ _ e=>e) rfl rfl⟩
  ·rw[if_neg (fun q=>hfar q.1)] at hBi;simp (disch:=omega) only[Wz,seval,Ly,Lx,hnn,hyi,JO];refine Jj ?_;simp (disch:=omega) only[Wz,seval,Ly,Lx,hnn,hyi,JO];refine Jj ?_;simp (disch:=omega) only[Wz,seval,Ly,Lx];exact⟨i+1,⟨hlt2,fun q=>by cases q⟩,by omega,Jk (by simp[lk]) (fun _ _ e=>by simpa [hBi] using e) (fun _ _ e=>e) rfl rfl⟩
end Go.Proofs.Y
end
section
namespace Go.Proofs.Y
open Go Go.Ab
theorem Jzg{sl:List (Nat × AV)}{H:Hp}{nt s:Nat}{xs:List (List AV)}{f:Bool}(hs:lk sl s=some (.vec xs f)):St.wk ⟨sl,H,nt⟩ ⟨[(s,.vec xs false)],⟨Jfy H.boxes,Jfy H.toks,H.nx⟩,nt⟩:=by
 refine St.wk_conv rfl rfl (fun g g' x p hp=>?_) (fun g g' x p hp=>⟨p.2,JbO hp,Jbe x _⟩) (fun g p hp=>⟨p.2,JbO hp,Jks.refl g _⟩);rw[List.mem_singleton] at hp;subst hp;exact⟨_,hs,JbG x _ _⟩
def prR (l:List Un)(p:Nat × En):List AV:=[.lit (.int .i64 (p.1:Int)),.lit (.int .i64 ((l.getD p.2.pos default).pos:Int)),.vec (p.2.acts.map JA) false]
theorem Js(l:List Un)(p:Nat × En):(prR l p).length=3:=rfl
theorem Jmi(l:List Un)(p:Nat × En):∀ c∈prR l p,Ab.Pure c:=Jb (.lit _) (Jb (.lit _) (Jb (.vec (Ji J7 _)) Jl))
theorem Jhg{n:Nt}{o:List Orc}{l:List Un}{md:Int}{W:AV}{k:Nat}{rk:Nat->Nat}{R:Nat}(z:Jt2 n o l md W k rk R){a:Nat}(ha:a<l.length){li:Nat}{M:Mm}{q:Q3}{H:Hp}(hl:RL n o l md W li M q H)(hm:JhV n o l md k M) :
  JU Tryz.prog 25 [.ptr li 0,.lit (.int .i64 (a:Int))] H fun v h'=>v = .vec ((J0 n o l md k a n.rules.length).map (prR l)) false/\Fq [li] (n3 q) H h':=by
 refine Jfr Tryz.func25 rfl Tryz.ntmps25 (rs:=[.tmp 4]) rfl (by simp) ?_;have hll:=z.g.len;have hru:=z.g.w.nru;obtain⟨Qk,hQ⟩:∃ Qk:AV->Hp->Prop,(fun v h'=>v=AV.vec ((J0 n o l md k a n.rules.length).map (prR l)) false/\Fq [li] (n3 q) H h')=Qk:=⟨_,rfl⟩;rw[hQ];refine Jj ?_;simp (disch:=omega) only[Wz,seval,Ly,Lx];refine Jp (A:=Nat × Mm × Q3 × Option Nat × Hp) (fun x=>⟨[(0,.ptr li 0),(1,.lit (.int .i64 (a:Int))),(4,.vec [] true),(5,owV x.2.2.2.1 (J0 n o l md k a x.1).length),(6,.lit (.int .i64 (x.1:Int)))],x.2.2.2.2,69⟩)
  (fun x=>x.1<=n.rules.length/\JhV n o l md k x.2.1/\RL n o l md W li x.2.1 x.2.2.1 x.2.2.2.2/\OwR x.2.2.2.2 x.2.2.2.1 ((J0 n o l md k a x.1).map (prR l)) 3/\Fq [li] (n3 q) H x.2.2.2.2/\(∀ j∈n3 x.2.2.1,j∈n3 q\/H.nx<=j)/\∀ t,x.2.2.2.1=some t->t∉n3 x.2.2.1/\H.nx<=t) (fun x=>n.rules.length - x.1) (0,M,q,none,H) (Jk (by simp[lk,owV]) (fun _ _ e=>e) (fun _ _ e=>e) rfl rfl)
  ⟨Nat.zero_le _,hm,hl,.none',Fq.refl hl.fb hl.ft,fun j hj=>.inl hj,fun t e=>by cases e⟩ ?_
 clear hl hm;rintro⟨i,Mi,qi,xo,Hi⟩ ⟨hi,hm,hl,hx,hf,hnm,hxo⟩;simp only at hi hm hl hx hf hnm hxo ⊢;have bx:=hl.bx;refine Jm ?_;refine Jj ?_;rcases Nat.lt_or_ge i n.rules.length with hlt | hge
 rotate_left
 ·have hie:i=n.rules.length:=by omega
  subst hie;simp (disch:=omega) only[Wz,seval,Ly,Lx,bx,rlC,Jh];cases xo with
  | none =>
   have h0:J0 n o l md k a n.rules.length=[]:=by
    have:=hx.nil rfl;exact List.map_eq_nil_iff.1 this
   refine⟨_,Jzg (s:=4) (xs:=[]) (f:=true) rfl,?_⟩;simp (disch:=omega) only[Wz,seval,Ly,Lx];rw[<- hQ,h0];refine⟨rfl,hf.trans (B':=[]) (T':=[]) ⟨Nat.le_refl _,fun _ _ _=>Jb3 _ _,fun _ _ _=>Jb3 _ _,fun j hj=>(Jb3 _ _).trans (hl.fb j hj),fun j hj=>(Jb3 _ _).trans (hl.ft j hj)⟩ (fun j hj=>by cases hj) (fun j hj=>by cases hj)⟩
  | some t =>
   obtain⟨ht1,ht2⟩:=hx.tk t rfl;have hln:((J0 n o l md k a n.rules.length).map (prR l)).length=(J0 n o l md k a n.rules.length).length:=List.length_map _;refine⟨⟨[(4,.vec ((J0 n o l md k a n.rules.length).map (prR l)) false)],⟨Hi.boxes,dl Hi.toks t,Hi.nx⟩,69⟩,Jpa (t:=t) ht1 rfl rfl (Jb ⟨_,rfl,.inr ⟨by rw[hln];rfl,rfl⟩⟩ Jl) (fun _ _ e=>e) (fun i c e=>by have:=JfR e;exact this),?_⟩;simp (disch:=omega) only[Wz,seval,Ly,Lx];rw[<- hQ];refine⟨rfl,hf.trans (B':=[]) (T':=[t]) ⟨Nat.le_refl _,fun _ _ _=>rfl,fun j _ hj=>?_,fun j hj=>hl.fb j hj,fun j hj=>?_⟩ (fun j hj=>by cases hj) (fun j hj=>.inr (by rw[List.mem_singleton] at hj;subst hj;exact(hxo _ rfl).2))⟩
   ·show lk (dl Hi.toks t) j=_;rw[Jeb,if_neg (fun q=>hj (by simp[q]))]
   ·show lk (dl Hi.toks t) j=_;rw[Jeb];split
    ·rfl
    ·exact hl.ft j hj
 obtain⟨rr,hrr⟩:∃ rr,n.rules.getD i default=rr:=⟨_,rfl⟩;simp (disch:=omega) only[Wz,seval,Ly,Lx,bx,rlC,Jh];refine Jm ?_;refine JX ?_;refine Jm ?_;refine Jj ?_;have hnn:∀ c,lk (Hi.boxes++[(Hi.nx,c)]) Hi.nx=some c:=fun c=>JcG (hl.fb _ (Nat.le_refl _)) c _;have hu1:∀ c d,up (Hi.boxes++[(Hi.nx,c)]) Hi.nx d=Hi.boxes++[(Hi.nx,d)]:=fun c d=>JdU (hl.fb _ (Nat.le_refl _));have bx':∀ x,lk (Hi.boxes++x) li=some _:=fun x=>by rw[JC,bx];rfl
 simp (disch:=omega) only[Wz,seval,Ly,Lx,bx,rlC,Jh,hrr,hnn,hu1];have hmv:JgW n md i=(rr.lexer && (!rr.frag && decide (rr.mode=md))):=by unfold JgW;rw[hrr]
 have wkb:=Fq.box (B:=[]) (T:=[]) hl.fb hl.ft (Jc rr);have hlb:=hl.keep wkb (by simp) (fun j _=>by simp);have hxb:OwR ⟨Hi.boxes++[(Hi.nx,Jc rr)],Hi.toks,Hi.nx+1⟩ xo ((J0 n o l md k a i).map (prR l)) 3:=hx.keep (Nat.le_succ _) (fun _ _=>rfl);have hfb:=hf.trans wkb (fun j hj=>by cases hj) (fun j hj=>by cases hj);have hyi:lk (Hi.boxes++[(Hi.nx,Jc rr)]) Hi.nx=some (Jc rr):=hnn _;have stay:JgW n md i=false->J0 n o l md k a (i+1)=J0 n o l md k a i:=fun h=>by
  rw[JaK];unfold JdC;rw[if_neg (by rw[h];decide)];simp
 refine Ja8 (σ':=⟨[(0,.ptr li 0),(1,.lit (.int .i64 (a:Int))),(4,.vec [] true),(5,owV xo (J0 n o l md k a i).length),(6,.lit (.int .i64 (i:Int))),(7,.ptr Hi.nx 0)],⟨Hi.boxes++[(Hi.nx,Jc rr)],Hi.toks,Hi.nx+1⟩,69⟩) (Jk (by simp[lk]) (fun _ _ e=>e) (fun _ _ e=>e) rfl rfl) ?_;have hyn:Hi.nx<Hi.nx+1:=Nat.lt_succ_self _;have hy1:Hi.nx≠li:=by have:=hl.lt;omega
 clear hnn hu1 bx bx' hl hx hf wkb;revert hyi hyn hy1 hlb hxb hfb;generalize hHj:(⟨Hi.boxes++[(Hi.nx,Jc rr)],Hi.toks,Hi.nx+1⟩:Hp)=Hj;have hb:Hi.boxes++[(Hi.nx,Jc rr)]=Hj.boxes:=by rw[<- hHj]
 have hb2:Hi.nx+1=Hj.nx:=by rw[<- hHj]
 rw[hb,hb2];clear hHj hb hb2;generalize Hi.nx=yi;intro hl hx hf hyi hyn hy1;have bx:=hl.bx;refine Jm ?_;refine Jm ?_;refine Jx (n:=69) rfl (by decide) mixed ?_;have fin:∀ (sl:List (Nat × AV)),JgW n md i=false->(∀ p∈[(0,AV.ptr li 0),(1,.lit (.int .i64 (a:Int))),(4,.vec [] true),(5,owV xo (J0 n o l md k a i).length),(6,.lit (.int .i64 ((i+1:Nat):Int)))],lk sl p.1=some p.2)->∃ x':Nat × Mm × Q3 × Option Nat × Hp,(x'.1<=n.rules.length/\JhV n o l md k x'.2.1/\RL n o l md W li x'.2.1 x'.2.2.1 x'.2.2.2.2/\OwR x'.2.2.2.2 x'.2.2.2.1 ((J0 n o l md k a x'.1).map (prR l)) 3/\Fq [li] (n3 q) H x'.2.2.2.2/\(∀ j∈n3 x'.2.2.1,j∈n3 q\/H.nx<=j)/\∀ t,x'.2.2.2.1=some t->t∉n3 x'.2.2.1/\H.nx<=t)/\n.rules.length - x'.1<n.rules.length - i /\
   St.wk ⟨sl,Hj,69⟩ ⟨[(0,.ptr li 0),(1,.lit (.int .i64 (a:Int))),(4,.vec [] true),(5,owV x'.2.2.2.1 (J0 n o l md k a x'.1).length),(6,.lit (.int .i64 (x'.1:Int)))],x'.2.2.2.2,69⟩:=fun sl hm0 hsl=>by
  refine⟨(i+1,Mi,qi,xo,Hj),⟨hlt,hm,hl,by rw[stay hm0];exact hx,hf,hnm,hxo⟩,by show n.rules.length - (i+1)<n.rules.length - i;omega,?_⟩;simp only[stay hm0];exact Jk hsl (fun _ _ e=>e) (fun _ _ e=>e) rfl rfl
 cases hlx:rr.lexer with
 | false =>
  rw[hlx] at hmv;simp (disch:=omega) only[Wz,seval,Ly,Lx,hyi,Jc,hlx];refine Jj ?_;simp (disch:=omega) only[Wz,seval,Ly,Lx];refine Jj ?_;simp (disch:=omega) only[Wz,seval,Ly,Lx];exact fin _ hmv (by simp[lk])
 | true =>
 cases hfr:rr.frag with
 | true =>
  rw[hlx,hfr] at hmv;simp (disch:=omega) only[Wz,seval,Ly,Lx,hyi,Jc,hlx,hfr];refine Jj ?_;simp (disch:=omega) only[Wz,seval,Ly,Lx];refine Jj ?_;simp (disch:=omega) only[Wz,seval,Ly,Lx];exact fin _ hmv (by simp[lk])
 | false =>
 by_cases hmd:rr.mode=md;rotate_left
 ·rw[hlx,hfr,decide_eq_false hmd] at hmv;have c1:(rr.mode != md)=true:=by simpa using hmd
  simp (disch:=omega) only[Wz,seval,Ly,Lx,hyi,Jc,hlx,hfr,bx,rlC,Jh,c1];refine Jj ?_;simp (disch:=omega) only[Wz,seval,Ly,Lx];refine Jj ?_;simp (disch:=omega) only[Wz,seval,Ly,Lx];exact fin _ hmv (by simp[lk])
 rw[hlx,hfr,decide_eq_true hmd] at hmv;clear fin stay;have c1:(rr.mode != md)=false:=by simpa using hmd
 simp (disch:=omega) only[Wz,seval,Ly,Lx,hyi,Jc,hlx,hfr,bx,rlC,Jh,c1];refine Jj ?_;simp (disch:=omega) only[Wz,seval,Ly,Lx];refine Jm ?_;refine Jj ?_;simp (disch:=omega) only[Wz,seval,Ly,Lx];refine JE Jx3 (Ji3 z hlt ha hl hm) ?_;rintro v h2 ⟨rfl,M2,q2,m1,m2,m3,m4⟩;have hlz:(n.rules.getD i default).lz=rr.lz:=by rw[hrr]
 rw[hlz];have hx2:OwR h2 xo ((J0 n o l md k a i).map (prR l)) 3:=hx.keep m3.nx fun t e=>m3.tk t (hx.tk t e).2 (hxo t e).1;have hf2:Fq [li] (n3 q) H h2:=hf.trans m3 (fun j hj=>.inl hj) (fun j hj=>hnm j hj);have hnm2:∀ j∈n3 q2,j∈n3 q\/H.nx<=j:=fun j hj=>by
  rcases m4 j hj with p | p
  ·exact hnm j p
  ·right;have p:Hj.nx<=j:=p;have:=hf.nx;omega
 have hxo2:∀ t,xo=some t->t∉n3 q2/\H.nx<=t:=fun t e=>⟨fun hj=>by
  rcases m4 t hj with p | p
  ·exact(hxo t e).1 p
  ·have p:Hj.nx<=t:=p;have:=(hx.tk t e).2;omega,(hxo t e).2⟩
 have hps:J0 n o l md k a (i+1)=J0 n o l md k a i++((Jct rr.lz (eF n o l md k i a)).map fun y=>(i,y)).toList:=by
  rw[JaK];unfold JdC;rw[if_pos (by rw[hmv];rfl),hlz]
 obtain⟨P0,hP0⟩:∃ P0,J0 n o l md k a i=P0:=⟨_,rfl⟩;have hP0l:P0.length<=100000:=by have:=JhG n o l md k a i;rw[hP0] at this;omega
 rw[hP0] at hps hx2 ⊢;have hlt2:=m2.lt;have hnn:∀ c,lk (h2.boxes++[(h2.nx,c)]) h2.nx=some c:=fun c=>JcG (m2.fb _ (Nat.le_refl _)) c _;have hu1:∀ c d,up (h2.boxes++[(h2.nx,c)]) h2.nx d=h2.boxes++[(h2.nx,d)]:=fun c d=>JdU (m2.fb _ (Nat.le_refl _));have bx2:=m2.bx;have bx':∀ x,lk (h2.boxes++x) li=some _:=fun x=>by rw[JC,bx2];rfl
 cases hb:Jct rr.lz (eF n o l md k i a) with
 | none =>
  rw[hb] at hps;have hps:J0 n o l md k a (i+1)=P0:=by rw[hps];simp
  simp (disch:=omega) only[Wz,seval,Ly,Lx,Jt3,hnn,hu1];refine Jj ?_;simp (disch:=omega) only[Wz,seval,Ly,Lx];refine Jj ?_;simp (disch:=omega) only[Wz,seval,Ly,Lx];have f2:=Fq.box (B:=[]) (T:=[]) m2.fb m2.ft [.lit (.int .i64 0),.vec [] true];exact⟨(i+1,M2,q2,xo,⟨h2.boxes++[(h2.nx,[.lit (.int .i64 0),.vec [] true])],h2.toks,h2.nx+1⟩),⟨hlt,m1,m2.keep f2 (by simp) (fun _ _=>by simp),by rw[hps];exact hx2.keep (Nat.le_succ _) (fun _ _=>rfl),hf2.trans f2 (fun j hj=>by cases hj) (fun j hj=>by cases hj),hnm2,hxo2⟩,by show n.rules.length - (i+1)<n.rules.length - i;omega,by simp only[hps];exact Jk (by simp[lk]) (fun _ _ e=>e) (fun _ _ e=>e) rfl rfl⟩
 | some y =>
  rw[hb] at hps;have hps:J0 n o l md k a (i+1)=P0++[(i,y)]:=by rw[hps];rfl
  have hyb:=JgV hb;have hyl:=(JjX z.g.w z.g.u (o:=o) (md:=md) (k:=k) hlt ha y hyb).2.1;obtain⟨u,hu⟩:∃ u,l.getD y.pos default=u:=⟨_,rfl⟩;simp (disch:=omega) only[Wz,seval,Ly,Lx,Jt3,hnn,hu1];refine Jj ?_;simp (disch:=omega) only[Wz,seval,Ly,Lx];refine Jbh (n:=69) 15 (.alt 15 (.alt 16 .leaf .nil) .nil) rfl (by decide) (by decide) mixed (by kernel_rfl) (by decide) ?_;have hf0:Ja7 1 40=True:=eq_true (JN (by decide) (by decide));have hf1:Ja7 (P0.length+1) 40=True:=eq_true (JN (by omega) (by omega));cases xo with
  | none =>
   have hP00:P0=[]:=List.map_eq_nil_iff.1 (hx2.nil rfl);subst hP00;simp (disch:=omega) only[Wz,seval,Ly,Lx,owV,hnn,bx',rlC,Jh,Jkg,JO,hu,Ji8,JqV,hf0,if_true,true_and];refine Jj ?_;simp (disch:=omega) only[Wz,seval,Ly,Lx];have f2:Fq [] [] h2 ⟨h2.boxes++[(h2.nx,JO y)],h2.toks++[(h2.nx+1,⟨[prR l (i,y)],0,3⟩)],h2.nx+2⟩:=by
    refine⟨by show h2.nx<=h2.nx+2;omega,fun j hj _=>JdA _ (by omega),fun j hj _=>JdA _ (by omega),fun j hj=>?_,fun j hj=>?_⟩
    ·have hj:h2.nx+2<=j:=hj;exact(JdA _ (by omega)).trans (m2.fb j (by omega))
    ·have hj:h2.nx+2<=j:=hj;exact(JdA _ (by omega)).trans (m2.ft j (by omega))
   have hnx:=hf2.nx;have hrow:prR l (i,y)=[.lit (.int .i64 (i:Int)),.lit (.int .i64 (u.pos:Int)),.vec (y.acts.map JA) false]:=by unfold prR;simp only;rw[hu]
   refine⟨(i+1,M2,q2,some (h2.nx+1),⟨h2.boxes++[(h2.nx,JO y)],h2.toks++[(h2.nx+1,⟨[prR l (i,y)],0,3⟩)],h2.nx+2⟩),⟨hlt,m1,m2.keep f2 (by simp) (fun _ _=>by simp),⟨fun q=>(by cases q),fun t e=>?_⟩,hf2.trans f2 (fun j hj=>by cases hj) (fun j hj=>by cases hj),hnm2,fun t e=>?_⟩,by show n.rules.length - (i+1)<n.rules.length - i;omega,?_⟩
   ·cases e;rw[hps];exact⟨JcG (m2.ft _ (by omega)) _ _,Nat.lt_succ_self _⟩
   ·cases e;exact⟨fun hj=>by have:=m2.names _ hj;omega,by omega⟩
   ·simp only[hps,hrow];exact Jk (by simp[lk]) (fun _ _ e=>by simpa [JO] using e) (fun _ _ e=>by simpa using e) rfl rfl
  | some t =>
   have tt:=(hx2.tk t rfl).1;simp (disch:=omega) only[Wz,seval,Ly,Lx,owV,hnn,bx',rlC,Jh,Jkg,JO,hu,tt,Ji8,hf1,List.length_map,if_true,true_and];refine Jj ?_;simp (disch:=omega) only[Wz,seval,Ly,Lx];obtain⟨x1,x2⟩:=hxo2 t rfl;have htn:=(hx2.tk t rfl).2;have hrow:prR l (i,y)=[.lit (.int .i64 (i:Int)),.lit (.int .i64 (u.pos:Int)),.vec (y.acts.map JA) false]:=by unfold prR;simp only;rw[hu]
   have f2:Fq [] [t] h2 ⟨h2.boxes++[(h2.nx,JO y)],up h2.toks t ⟨(P0++[(i,y)]).map (prR l),0,3⟩,h2.nx+1⟩:=by
    refine⟨Nat.le_succ _,fun j hj _=>JdA _ (by omega),fun j hj hjt=>?_,fun j hj=>?_,fun j hj=>?_⟩
    ·show lk (up h2.toks t _) j=_;rw[JdX tt,if_neg (fun q=>hjt (by simp[q]))]
    ·have hj:h2.nx+1<=j:=hj;exact(JdA _ (by omega)).trans (m2.fb j (by omega))
    ·have hj:h2.nx+1<=j:=hj;show lk (up h2.toks t _) j=_;rw[JdX tt,if_neg (by omega)];exact m2.ft j (by omega)
   refine⟨(i+1,M2,q2,some t,⟨h2.boxes++[(h2.nx,JO y)],up h2.toks t ⟨(P0++[(i,y)]).map (prR l),0,3⟩,h2.nx+1⟩),⟨hlt,m1,m2.keep f2 (by simp) (fun j hj q=>x1 (by rw[List.mem_singleton] at q;exact q ▸ hj)),⟨fun q=>(by cases q),fun t' e=>?_⟩,hf2.trans f2 (fun j hj=>by cases hj) (fun j hj=>.inr (by rw[List.mem_singleton] at hj;omega)),hnm2,hxo2⟩,by show n.rules.length - (i+1)<n.rules.length - i;omega,?_⟩
   ·cases e;rw[hps];refine⟨?_,Nat.lt_of_lt_of_le htn (Nat.le_succ _)⟩;show lk (up h2.toks t _) t=_;rw[JdX tt,if_pos rfl]
   ·simp only[hps,List.map_append,List.map_cons,List.map_nil,hrow];exact Jk (by simp[lk]) (fun _ _ e=>by simpa [JO] using e) (fun _ _ e=>e) rfl rfl
end Go.Proofs.Y
end
section
namespace Go.Proofs.Y
open Go Go.Ab
theorem Jsm:∀ (l:List Un) (p:Int) (i j:Nat),ixF l p i=(j:Int)->i<=j/\j - i<l.length/\((l.getD (j - i) default).pos:Int)=p
 | [],p,i,j,h=>by simp only[ixF] at h;omega
 | u :: l,p,i,j,h=>by
  unfold ixF at h;by_cases hp:(u.pos:Int)=p
  ·rw[if_pos hp] at h;have:j=i:=by omega
   subst this;exact⟨Nat.le_refl _,by simp,by simpa using hp⟩
  ·rw[if_neg hp] at h;obtain⟨h1,h2,h3⟩:=Jsm l p (i+1) j h;have e:j - i=(j - (i+1))+1:=by omega
   refine⟨by omega,by rw[e];simp;omega,?_⟩;rw[e];simpa using h3
theorem JhW(L:List (Nat × List Value))(n:Nt)(o:List Orc)(x:List UInt8)(f:Bool)(at' md:Int)(g:Jm8 n o x at' md)(H:Hp)(fb:∀ j,H.nx<=j->lk H.boxes j=none)(ft:∀ j,H.nx<=j->lk H.toks j=none) :
  JU Tryz.prog 24 [.agg (Jh n),inV L x f,.vec (o.map Jb9) false,.lit (.int .i64 at'),.lit (.int .i64 md)] H fun r h'=>Fq [] [] H h' /\
   ((okV n=true/\(0<=md/\md<(n.modes.length:Int))/\∃ i:Nat,i<(JaX (ofB x)).length/\(((JaX (ofB x)).getD i default).pos:Int)=at'/\∃ li,r = .tup [.ptr li 0,.lit (.int .i64 (i:Int)),.lit (.int .i64 0)]/\H.nx<=li/\RL n o (JaX (ofB x)) md (inV L x f) li [] none h') \/
   ((okV n=true->¬ ((0<=md/\md<(n.modes.length:Int))/\∃ u∈JaX (ofB x),(u.pos:Int)=at'))/\r = .tup [.lit (.pointer none),.lit (.int .i64 0),.lit (.int .i64 (if okV n then 2 else 110))])):=by
 refine Jq Tryz.func24 rfl Tryz.ntmps24 (rs:=[.tmp 10,.tmp 11,.tmp 12]) rfl (by simp) ?_;have hck:=Jlu n g.ok;have hcut:=Jlk L x f (by have:=g.len;omega);have hgx:=fun l p h=>Jne L x f l p h
 have pH:=Jrg L x f;have pI:=JaC L x f;have gN:GP (.agg (Jh n)):=.of_pure (.agg (Jab _));obtain⟨hlen,hpos⟩:=Jcu g.len;obtain⟨l,hl⟩:∃ l,JaX (ofB x)=l:=⟨_,rfl⟩;rw[hl] at hcut hlen hpos ⊢;have hgx:=hgx l at' (by omega);have pH:=pH l;have hat:=g.at';have hmd:=g.md;have hmo:=g.ok.modes;unfold hdV inV at hgx hcut pH;unfold inV at pI;obtain⟨Qk,hQ⟩:∃ Qk:AV->Hp->Prop,(fun r h'=>Fq [] [] H h' /\
   ((okV n=true/\(0<=md/\md<(n.modes.length:Int))/\∃ i:Nat,i<l.length/\((l.getD i default).pos:Int)=at'/\∃ li,r = .tup [.ptr li 0,.lit (.int .i64 (i:Int)),.lit (.int .i64 0)]/\H.nx<=li/\RL n o l md (inV L x f) li [] none h') \/
   ((okV n=true->¬ ((0<=md/\md<(n.modes.length:Int))/\∃ u∈l,(u.pos:Int)=at'))/\r = .tup [.lit (.pointer none),.lit (.int .i64 0),.lit (.int .i64 (if okV n then 2 else 110))])))=Qk:=⟨_,rfl⟩
 rw[hQ];unfold inV;have hnn:∀ c,lk (H.boxes++[(H.nx,c)]) H.nx=some c:=fun c=>JcG (fb _ (Nat.le_refl _)) c _;have f1:=Fq.box (B:=[]) (T:=[]) fb ft (Jh n);refine Jm ?_;refine Jj ?_;simp (disch:=omega) only[Wz,seval,Ly,Lx];refine Jm ?_;refine Jj ?_;simp (disch:=omega) only[Wz,seval,Ly,Lx,hnn,J6,Jay];refine JV JxI hck (Jb gN Jl) (.lit _) ?_;cases hok:okV n with
 | false =>
  simp (disch:=omega) only[Wz,seval,Ly,Lx];rw[<- hQ];exact⟨f1,.inr ⟨fun h=>(by rw[hok] at h;cases h),by rw[hok];rfl⟩⟩
 | true =>
 simp (disch:=omega) only[Wz,seval,Ly,Lx];have hn1:∀ c x,lk (H.boxes++(H.nx,c) :: x) H.nx=some c:=fun c x=>JcG (fb _ (Nat.le_refl _)) c x;have hkj:∀ (B:List (Nat × List AV)) (j:Nat),lk (H.boxes++B) (H.nx+j)=lk B (H.nx+j):=fun B j=>by rw[JC,fb _ (by omega)];simp
 have huj:∀ (B:List (Nat × List AV)) (j:Nat) (d:List AV),up (H.boxes++B) (H.nx+j) d=H.boxes++up B (H.nx+j) d:=fun B j d=>JgY (fb _ (by omega));have n2:H.nx+1+1=H.nx+2:=rfl;have f2:∀ c d,Fq [] [] H ⟨H.boxes++[(H.nx,c),(H.nx+1,d)],H.toks,H.nx+2⟩:=fun c d=>by
  refine⟨by show H.nx<=H.nx+2;omega,fun j hj _=>?_,fun _ _ _=>rfl,fun j hj=>?_,fun j hj=>ft j (by have hj:H.nx+2<=j:=hj;omega)⟩
  ·show lk (H.boxes++_) j=_;rw[JC];simp only[lk];rw[if_neg (by omega),if_neg (by omega),Option.or_none]
  ·have hj:H.nx+2<=j:=hj;show lk (H.boxes++_) j=_;rw[JC,fb j (by omega)];simp only[lk];rw[if_neg (by omega),if_neg (by omega)];rfl
 refine Jm ?_;refine Jj ?_;simp (disch:=omega) only[Wz,seval,Ly,Lx];refine Je Jx1 hcut (Jb pI Jl) (.agg pH) ?_;simp (disch:=omega) only[Wz,seval,Ly,Lx,List.append_assoc,hkj,huj,n2,lk,up,if_pos,if_neg];refine Jm ?_;refine Jj ?_;simp (disch:=omega) only[Wz,seval,Ly,Lx,List.append_assoc,hkj,huj,n2,lk,up,if_pos,if_neg];refine Je Jx2 hgx (Jb (.agg pH) (Jb (.lit _) Jl)) (.lit _) ?_;have hixa:=Jpx l at' 0;have hlo:=Jsg l at' 0;obtain⟨ix,hix⟩:∃ ix,ixF l at' 0=ix:=⟨_,rfl⟩;rw[hix] at hixa hlo ⊢;simp (disch:=omega) only[Wz,seval,Ly,Lx];refine Jm ?_;refine Jj ?_;have no:¬ ((0<=md/\md<(n.modes.length:Int))/\0<=ix)->Qk (AV.tup [AV.lit (Value.pointer none),AV.lit (.int .i64 0),AV.lit (.int .i64 2)]) ⟨H.boxes++[(H.nx,Jh n),(H.nx+1,[AV.wit L (.vec (x.map JaO) f),.vec (l.map Jkg) false,.vec (l.map Jma) false,.vec (l.map JnB) false])],H.toks,H.nx+2⟩:=fun h=>by
  rw[<- hQ];refine⟨f2 _ _,.inr ⟨fun _ q=>h ⟨q.1,?_⟩,by rw[hok];rfl⟩⟩;obtain⟨u,hu1,hu2⟩:=q.2;have:(l.any fun u=>decide ((u.pos:Int)=at'))=true:=List.any_eq_true.2 ⟨u,hu1,by simpa using hu2⟩;rw[this] at hixa;exact of_decide_eq_true hixa
 by_cases hx0:ix<0
 ·simp (disch:=omega) only[Wz,seval,Ly,Lx,hn1,Jh];exact no (fun q=>by omega)
 by_cases hm0:md<0
 ·simp (disch:=omega) only[Wz,seval,Ly,Lx,hn1,Jh];exact no (fun q=>by omega)
 by_cases hm1:(n.modes.length:Int)<=md
 ·simp (disch:=omega) only[Wz,seval,Ly,Lx,hn1,Jh];exact no (fun q=>by omega)
 obtain⟨i,rfl⟩:∃ i:Nat,ix=(i:Int):=⟨ix.toNat,by omega⟩;obtain⟨_,i1,i2⟩:=Jsm l at' 0 i hix;rw[Nat.sub_zero] at i1 i2;simp (disch:=omega) only[Wz,seval,Ly,Lx,hn1,Jh];refine Jm ?_;refine Jj ?_;simp (disch:=omega) only[Wz,seval,Ly,Lx,List.append_assoc,hn1,hkj,huj,n2,lk,up,if_pos,if_neg];refine Jj ?_;simp (disch:=omega) only[Wz,seval,Ly,Lx];rw[<- hQ];have f3:Fq [] [] H ⟨H.boxes++[(H.nx,Jh n),(H.nx+1,[AV.wit L (.vec (x.map JaO) f),.vec (l.map Jkg) false,.vec (l.map Jma) false,.vec (l.map JnB) false]),(H.nx+2,rlC n o l md (inV L x f) (.vec [] true) (.vec [] true) (.vec [] true))],H.toks,H.nx+3⟩:=by
  refine⟨by show H.nx<=H.nx+3;omega,fun j hj _=>?_,fun _ _ _=>rfl,fun j hj=>?_,fun j hj=>ft j (by have hj:H.nx+3<=j:=hj;omega)⟩
  ·show lk (H.boxes++_) j=_;rw[JC];simp only[lk];rw[if_neg (by omega),if_neg (by omega),if_neg (by omega),Option.or_none]
  ·have hj:H.nx+3<=j:=hj;show lk (H.boxes++_) j=_;rw[JC,fb j (by omega)];simp only[lk];rw[if_neg (by omega),if_neg (by omega),if_neg (by omega)];rfl
 refine⟨f3,.inl ⟨hok,⟨by omega,by omega⟩,i,i1,i2,H.nx+2,rfl,by omega,⟨?_,.none',.none',.none',by simp[n3],by show H.nx+2<H.nx+3;omega,f3.fb,f3.ft⟩⟩⟩;show lk (H.boxes++_) (H.nx+2)=_;rw[hkj];simp only[lk];rw[if_neg (by omega),if_neg (by omega),if_pos trivial];rfl
end Go.Proofs.Y
end
section
namespace Go.Proofs.Y
open Go Go.Ab
theorem JpV{n:Nt}{o:List Orc}{x:List UInt8}{at' md:Int}(g:Jm8 n o x at' md)(mu:Jl0 n)(hok:okV n=true){k:Nat}(fk:Jkv n o (JaX (ofB x)) md k)(L:List (Nat × List Value))(f:Bool):∃ rk R,Jt2 n o (JaX (ofB x)) md (inV L x f) k rk R:=by
 obtain⟨rk,hrk⟩:=JgO g.ok hok;obtain⟨R,hR⟩:=JiC rk n.states.length;exact⟨rk,R,JzD g hok,mu,fk,hrk,hR,rfl⟩
theorem JK(l:List Un)(p:Nat × En):(prR l p).take 3=prR l p:=rfl
theorem JhV.nil{n:Nt}{o:List Orc}{l:List Un}{md:Int}{k:Nat}:JhV n o l md k []:=⟨fun m h=>(by cases h),by simp⟩
end Go.Proofs.Y
end
section
namespace Go.Proofs.Y
open Go Go.Ab
theorem Jno(L:List (Nat × List Value))(n:Nt)(o:List Orc)(x:List UInt8)(f:Bool)(at' md rule:Int)(g:Jm8 n o x at' md)(mu:Jl0 n)(k:Nat)(fk:okV n=true->Jkv n o (JaX (ofB x)) md k) :
  JR Tryz.prog 16 [.agg (Jh n),inV L x f,.vec (o.map Jb9) false,.lit (.int .i64 at'),.lit (.int .i64 md),.lit (.int .i64 rule)]
   (if JeU n x at' md rule=true then .tup [.vec ((plV (JaX (ofB x)) (eF n o (JaX (ofB x)) md k rule.toNat (ixV (JaX (ofB x)) at'))).map Jhd) false,.lit (.int .i64 0)] else .tup [.vec [] false,.lit (.int .i64 (if okV n then 2 else 110))]):=by
 refine JG (Jq Tryz.func16 rfl Tryz.ntmps16 (rs:=[.tmp 12,.tmp 13]) rfl (by simp) ?_);have hlook:=JhW L n o x f at' md g;have hpx:=JaC L x f;have hrise:=Jcr (ofB x);have hwk:=fun hok=>JpV g mu hok (fk hok) L f
 obtain⟨hlen,hpos⟩:=Jcu g.len;unfold JeU;obtain⟨l,hl⟩:∃ l,JaX (ofB x)=l:=⟨_,rfl⟩;rw[hl] at hlook hrise hlen hpos fk hwk ⊢;unfold inV at hlook hpx ⊢;refine Jm ?_;refine Jj ?_;simp (disch:=omega) only[Wz,seval,Ly,Lx];refine Jm ?_;refine Jj ?_;simp (disch:=omega) only[Wz,seval,Ly,Lx,J6,Jay];refine JE JrU (hlook _ ?_ ?_) ?_
 ·exact fun i hi=>JgP (N:=1) (by simp) hi
 ·exact fun i hi=>rfl
 rintro r0 h' ⟨hfr,⟨hok,hmd,a,hal,hia,li,rfl,hli,hrl⟩ | ⟨hno,rfl⟩⟩;rotate_left
 ·rw[if_neg (by
   intro q;simp only[Bool.and_eq_true,decide_eq_true_eq,List.any_eq_true] at q;exact hno q.1 ⟨q.2.1,q.2.2.1⟩)]
  obtain⟨e,he⟩:∃ e:Int,(if okV n=true then 2 else 110)=e:=⟨_,rfl⟩;have hne:(e != 0)=true:=by
   rw[<- he];split <;> decide
  rw[he];simp (disch:=omega) only[Wz,seval,Ly,Lx,hne];refine Jm ?_;refine Jj ?_;simp (disch:=omega) only[Wz,seval,Ly,Lx,hne];exact JI (Jf (Jag (by simp)) (Jf (Ja (.lit _)) Jw))
 obtain⟨rk,R,z⟩:=hwk hok;have hru:=z.g.w.nru;have hb6:lk h'.boxes 0=some (Jh n):=by
  rw[hfr.bx 0 (by show 0<1;decide) (by simp)];rfl
 simp (disch:=omega) only[Wz,seval,Ly,Lx];refine Jm ?_;refine Jj ?_;simp (disch:=omega) only[Wz,seval,Ly,Lx];refine Jm ?_;refine Jj ?_;by_cases hr0:rule<0
 ·rw[if_neg (by simp;intros;omega)];simp (disch:=omega) only[Wz,seval,Ly,Lx,hok,if_true];exact JI (Jf (Jag (by simp)) (Jf (Ja (.lit _)) Jw))
 by_cases hr1:rule<(n.rules.length:Int);rotate_left
 ·rw[if_neg (by simp;intros;omega)];simp (disch:=omega) only[Wz,seval,Ly,Lx,hok,if_true,hb6,Jh];exact JI (Jf (Jag (by simp)) (Jf (Ja (.lit _)) Jw))
 obtain⟨r,rfl⟩:∃ r:Nat,rule=(r:Int):=⟨rule.toNat,by omega⟩;have hrl2:r<n.rules.length:=by omega
 obtain⟨rr,hrr⟩:∃ rr,n.rules.getD r default=rr:=⟨_,rfl⟩;rw[Int.toNat_natCast,hrr];cases hlx:rr.lexer with
 | false =>
  rw[if_neg (by simp)];simp (disch:=omega) only[Wz,seval,Ly,Lx,hok,if_true,hb6,Jh,hrr,Jc,hlx];exact JI (Jf (Jag (by simp)) (Jf (Ja (.lit _)) Jw))
 | true =>
 have hany:(l.any fun u=>decide ((u.pos:Int)=at'))=true:=by
  rw[List.any_eq_true];exact⟨_,Ju hal,by simpa using hia⟩
 have hix:ixV l at'=a:=JhE hrise hal hia;rw[if_pos (by rw[hok,hany];simp;omega),hix];have hends:=Jkq z hrl2 hal;have hel:=JiD z.g.w z.g.u (o:=o) (md:=md) (k:=k) hrl2 hal;have hout:=JjX z.g.w z.g.u (o:=o) (md:=md) (k:=k) hrl2 hal;simp (disch:=omega) only[Wz,seval,Ly,Lx,hok,if_true,hb6,Jh,hrr,Jc,hlx];refine Jm ?_;refine Jj ?_;simp (disch:=omega) only[Wz,seval,Ly,Lx];refine JE Jos (hends li [] none h' hrl .nil) ?_;rintro v h2 ⟨rfl,M2,q2,m1,m2,m3,m4,m5⟩;obtain⟨ys,hys⟩:∃ ys,eF n o l md k r a=ys:=⟨_,rfl⟩;rw[hys] at hel hout ⊢;have bx:=m2.bx;simp (disch:=omega) only[Wz,seval,Ly,Lx];refine Jm ?_;refine Jj ?_;simp (disch:=omega) only[Wz,seval,Ly,Lx];refine Jm ?_;refine Jm ?_;refine Jj ?_;simp (disch:=omega) only[Wz,seval,Ly,Lx];refine JX ?_;refine Jp (A:=Nat × Option Nat × Hp) (fun z=>⟨[(12,.vec [] true),(13,.lit (.int .i64 0)),(14,.ptr li 0),(17,.vec (ys.map JO) false),(18,owV z.2.1 (plV l (ys.take z.1)).length),(19,.lit (.int .i64 (z.1:Int)))],z.2.2,77⟩)
  (fun z=>z.1<=ys.length/\OwR z.2.2 z.2.1 ((plV l (ys.take z.1)).map Jhd) 1/\lk z.2.2.boxes li=lk h2.boxes li/\∀ j,z.2.2.nx<=j->lk z.2.2.toks j=none) (fun z=>ys.length - z.1) (0,none,h2) (Jk (by simp[lk,owV]) (fun _ _ e=>e) (fun _ _ e=>e) rfl rfl) ⟨Nat.zero_le _,.none',rfl,m2.ft⟩ ?_
 rintro⟨j,q,Hj⟩ ⟨hj,hx,hb,ft⟩;simp only at hj hx hb ft ⊢;rw[bx] at hb;have hpll:(plV l (ys.take j)).length=j:=by unfold plV;simp;omega
 refine Jm ?_;refine Jj ?_;rcases Nat.lt_or_ge j ys.length with hlt | hge
 rotate_left
 ·have hje:j=ys.length:=by omega
  subst hje;rw[List.take_length] at hx ⊢;simp (disch:=omega) only[Wz,seval,Ly,Lx];refine Jj ?_;cases q with
  | none =>
   have h0:plV l ys=[]:=List.map_eq_nil_iff.1 (hx.nil rfl);rw[h0];simp (disch:=omega) only[Wz,seval,Ly,Lx,owV];exact JI (Jf (Jag (by simp)) (Jf (Ja (.lit _)) Jw))
  | some q =>
   have tk:=(hx.tk q rfl).1;simp (disch:=omega) only[Wz,seval,Ly,Lx,owV];exact JI (Jf (Jbf (k:=⟨(plV l ys).map Jhd,0,1⟩) tk (by simp) (Ji JeO _)) (Jf (Ja (.lit _)) Jw))
 obtain⟨y,hy⟩:∃ y,ys.getD j default=y:=⟨_,rfl⟩;have hym:=hout y (by rw[<- hy];exact Ju hlt);obtain⟨u,hu⟩:∃ u,l.getD y.pos default=u:=⟨_,rfl⟩;have hyl:=hym.2.1;have hsn:plV l (ys.take (j+1))=plV l (ys.take j)++[(u.pos:Int)]:=by
  unfold plV;rw[List.take_succ_eq_append_getElem hlt,List.map_append,<- hu,<- hy,List.getD_eq_getElem?_getD (l:=ys),List.getElem?_eq_getElem hlt];rfl
 obtain⟨X,hX⟩:∃ X,plV l (ys.take j)=X:=⟨_,rfl⟩;rw[hX] at hsn hpll hx ⊢;have hf0:Ja7 1 8=True:=eq_true (JN (by decide) (by decide));have hf1:Ja7 (X.length+1) 8=True:=eq_true (JN (by omega) (by omega));have one1:∀ v:AV,(∀ q,q∈[[v]]->q.length=1)=True:=fun v=>by simp
 have nil1:(∀ q:List AV,q∈[]->q.length=1)=True:=by simp
 simp (disch:=omega) only[Wz,seval,Ly,Lx];refine Jm ?_;refine JX ?_;refine Jbh (n:=77) 14 (.alt 14 (.alt 15 .leaf .nil) .nil) rfl (by decide) (by decide) mixed (by kernel_rfl) (by decide) ?_;cases q with
 | none =>
  have hX0:X=[]:=List.map_eq_nil_iff.1 (hx.nil rfl);subst hX0;simp (disch:=omega) only[Wz,seval,Ly,Lx,owV,hb,rlC,Jh,Jkg,hy,JO,hu,one1,nil1,hf0,true_and,if_true];refine Jj ?_;simp (disch:=omega) only[Wz,seval,Ly,Lx];refine⟨(j+1,some Hj.nx,⟨Hj.boxes,Hj.toks++[(Hj.nx,⟨[Jhd (u.pos:Int)],0,1⟩)],Hj.nx+1⟩),⟨hlt,⟨fun q=>(by cases q),fun t e=>?_⟩,hb.trans bx.symm,fun i hi=>?_⟩,by show ys.length - (j+1)<ys.length - j;omega,?_⟩
  ·cases e;refine⟨?_,Nat.lt_succ_self _⟩;simp only[hsn];exact JcG (ft _ (Nat.le_refl _)) _ _
  ·have hi:Hj.nx+1<=i:=hi;exact(JdA _ (by omega)).trans (ft i (by omega))
  ·simp only[hsn];exact Jk (by simp[lk]) (fun _ _ e=>e) (fun _ _ e=>e) rfl rfl
 | some q =>
  have tk:=(hx.tk q rfl).1;simp (disch:=omega) only[Wz,seval,Ly,Lx,owV,hb,rlC,Jh,Jkg,hy,JO,hu,tk,one1,hf1,List.length_map,true_and,if_true];refine Jj ?_;simp (disch:=omega) only[Wz,seval,Ly,Lx];have tn:=(hx.tk q rfl).2;refine⟨(j+1,some q,⟨Hj.boxes,up Hj.toks q ⟨(X++[(u.pos:Int)]).map Jhd,0,1⟩,Hj.nx⟩),⟨hlt,⟨fun q=>(by cases q),fun t e=>?_⟩,hb.trans bx.symm,fun i hi=>?_⟩,by show ys.length - (j+1)<ys.length - j;omega,?_⟩
  ·cases e;refine⟨?_,tn⟩;simp only[hsn];show lk (up Hj.toks q _) q=_;rw[JdX tk,if_pos rfl]
  ·have hi:Hj.nx<=i:=hi;show lk (up Hj.toks q _) i=_;rw[JdX tk,if_neg (by omega)];exact ft i hi
  ·simp only[hsn,List.map_append,List.map_cons,List.map_nil];exact Jk (by simp[lk]) (fun _ _ e=>e) (fun _ _ e=>e) rfl rfl
theorem Jg7(L:List (Nat × List Value))(n:Nt)(o:List Orc)(x:List UInt8)(f:Bool)(at' md:Int)(g:Jm8 n o x at' md)(mu:Jl0 n)(k:Nat)(fk:okV n=true->Jkv n o (JaX (ofB x)) md k) :
  JR Tryz.prog 17 [.agg (Jh n),inV L x f,.vec (o.map Jb9) false,.lit (.int .i64 at'),.lit (.int .i64 md)]
   (.vec ((if okV n=true/\(0<=md/\md<(n.modes.length:Int))/\∃ u∈JaX (ofB x),(u.pos:Int)=at' then J0 n o (JaX (ofB x)) md k (ixV (JaX (ofB x)) at') n.rules.length else []).map (prR (JaX (ofB x)))) false):=by
 refine JG (Jq Tryz.func17 rfl Tryz.ntmps17 (rs:=[.tmp 10]) rfl (by simp) ?_);have hlook:=JhW L n o x f at' md g;have hrise:=Jcr (ofB x);have hwk:=fun hok=>JpV g mu hok (fk hok) L f
 obtain⟨l,hl⟩:∃ l,JaX (ofB x)=l:=⟨_,rfl⟩;rw[hl] at hlook hrise fk hwk ⊢;unfold inV at hlook ⊢;refine Jm ?_;refine Jj ?_;simp (disch:=omega) only[Wz,seval,Ly,Lx];refine Jm ?_;refine Jj ?_;simp (disch:=omega) only[Wz,seval,Ly,Lx,J6,Jay];refine JE JrU (hlook _ ?_ ?_) ?_
 ·exact fun i hi=>JgP (N:=1) (by simp) hi
 ·exact fun i hi=>rfl
 rintro r0 h' ⟨hfr,⟨hok,hmd,a,hal,hia,li,rfl,hli,hrl⟩ | ⟨hno,rfl⟩⟩;rotate_left
 ·rw[if_neg (fun q=>hno q.1 q.2)];obtain⟨e,he⟩:∃ e:Int,(if okV n=true then 2 else 110)=e:=⟨_,rfl⟩;have hne:(e != 0)=true:=by
   rw[<- he];split <;> decide
  rw[he];simp (disch:=omega) only[Wz,seval,Ly,Lx,hne];refine Jm ?_;refine Jj ?_;simp (disch:=omega) only[Wz,seval,Ly,Lx,hne];exact Jag (by simp)
 have hmem:∃ u∈l,(u.pos:Int)=at':=⟨l.getD a default,Ju hal,hia⟩;rw[if_pos ⟨hok,hmd,hmem⟩];have hix:ixV l at'=a:=JhE hrise hal hia;rw[hix];obtain⟨rk,R,z⟩:=hwk hok;simp (disch:=omega) only[Wz,seval,Ly,Lx];refine Jm ?_;refine Jj ?_;simp (disch:=omega) only[Wz,seval,Ly,Lx];refine Jm ?_;refine Jj ?_;simp (disch:=omega) only[Wz,seval,Ly,Lx];refine JE JxQ (Jhg z hal hrl .nil) ?_;rintro v h2 ⟨rfl,hf2⟩;simp (disch:=omega) only[Wz,seval,Ly,Lx];refine Jj ?_;simp (disch:=omega) only[Wz,seval,Ly,Lx];exact Ja (.vec (Ji (Jmi l) _))
end Go.Proofs.Y
end
