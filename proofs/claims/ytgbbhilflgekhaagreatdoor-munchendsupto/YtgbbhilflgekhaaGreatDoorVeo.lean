/- Parts of the proof, laid together. -/
import Derived.Test.YtgbbhilflgekhaaGreatDoorVen
set_option linter.unusedVariables false
set_option linter.unusedSimpArgs false
set_option maxRecDepth 20000
set_option maxHeartbeats 16000000
section
namespace Go.Proofs.Y
open Go Go.Ab
abbrev Mm:=List (Nat × Nat × List En)
def mR (m:Nat × Nat × List En):List AV:=[.lit (.int .i64 (m.1:Int))]
def mF (m:Nat × Nat × List En):List AV:=[.lit (.int .i64 (m.2.1:Int))]
def mE (m:Nat × Nat × List En):List AV:=[.vec (m.2.2.map JO) false]
def sS (p:Nat × Nat):List AV:=[.lit (.int .i64 (p.1:Int))]
def sP (p:Nat × Nat):List AV:=[.lit (.int .i64 (p.2:Int))]
instance:Inhabited (Nat × Nat × List En):=⟨(0,0,[])⟩
def owV (q:Option Nat)(n:Nat):AV:=match q with | none=>.vec [] true | some t=>.own t n
structure OwR (H:Hp) (q:Option Nat) (rows:List (List AV)) (s:Nat):Prop where
 nil:q=none->rows=[]
 tk:∀ t,q=some t->lk H.toks t=some ⟨rows,0,s⟩/\t<H.nx
theorem OwR.keep{H H':Hp}{q:Option Nat}{rows:List (List AV)}{s:Nat}(h:OwR H q rows s)(hn:H.nx<=H'.nx)(hk:∀ t,q=some t->lk H'.toks t=lk H.toks t):OwR H' q rows s :=
 ⟨h.nil,fun t e=>⟨(hk t e).trans (h.tk t e).1,Nat.lt_of_lt_of_le (h.tk t e).2 hn⟩⟩
theorem OwR.none'{H:Hp}{s:Nat}:OwR H none [] s:=⟨fun _=>rfl,fun t e=>by cases e⟩
structure Fq (B T:List Nat) (H H':Hp):Prop where
 nx:H.nx<=H'.nx
 bx:∀ j,j<H.nx->j∉B->lk H'.boxes j=lk H.boxes j
 tk:∀ j,j<H.nx->j∉T->lk H'.toks j=lk H.toks j
 fb:∀ j,H'.nx<=j->lk H'.boxes j=none
 ft:∀ j,H'.nx<=j->lk H'.toks j=none
theorem Fq.refl{B T:List Nat}{H:Hp}(fb:∀ j,H.nx<=j->lk H.boxes j=none)(ft:∀ j,H.nx<=j->lk H.toks j=none):Fq B T H H:=⟨Nat.le_refl _,fun _ _ _=>rfl,fun _ _ _=>rfl,fb,ft⟩
theorem Fq.trans{B B' T T':List Nat}{a b c:Hp}(h:Fq B T a b)(k:Fq B' T' b c)(hB:∀ j∈B',j∈B\/a.nx<=j)(hT:∀ j∈T',j∈T\/a.nx<=j):Fq B T a c :=
 ⟨Nat.le_trans h.nx k.nx,fun j hj hn=>(k.bx j (Nat.lt_of_lt_of_le hj h.nx) (fun q=>by rcases hB j q with q | q;exact hn q;omega)).trans (h.bx j hj hn),
  fun j hj hn=>(k.tk j (Nat.lt_of_lt_of_le hj h.nx) (fun q=>by rcases hT j q with q | q;exact hn q;omega)).trans (h.tk j hj hn),k.fb,k.ft⟩
theorem Fq.mono{B B' T T':List Nat}{a b:Hp}(h:Fq B T a b)(hB:∀ j∈B,j∈B')(hT:∀ j∈T,j∈T'):Fq B' T' a b :=
 ⟨h.nx,fun j hj hn=>h.bx j hj (fun q=>hn (hB j q)),fun j hj hn=>h.tk j hj (fun q=>hn (hT j q)),h.fb,h.ft⟩
theorem Fq.box{B T:List Nat}{H:Hp}(fb:∀ j,H.nx<=j->lk H.boxes j=none)(ft:∀ j,H.nx<=j->lk H.toks j=none)(c:List AV):Fq B T H ⟨H.boxes++[(H.nx,c)],H.toks,H.nx+1⟩:=by
 refine⟨Nat.le_succ _,fun j hj _=>?_,fun _ _ _=>rfl,fun j hj=>?_,fun j hj=>ft j (by have hj:H.nx+1<=j:=hj;omega)⟩
 ·show lk (H.boxes++[(H.nx,c)]) j=_;rw[JC];simp only[lk];rw[if_neg (by omega),Option.or_none]
 ·have hj:H.nx+1<=j:=hj;show lk (H.boxes++[(H.nx,c)]) j=none;rw[JC,fb j (by omega)];simp only[lk];rw[if_neg (by omega)];rfl
abbrev Q3:=Option (Nat × Nat × Nat)
def q1 (q:Q3):Option Nat:=q.map fun x=>x.1
def q2 (q:Q3):Option Nat:=q.map fun x=>x.2.1
def q3 (q:Q3):Option Nat:=q.map fun x=>x.2.2
def n3 (q:Q3):List Nat:=match q with | none=>[] | some x=>[x.1,x.2.1,x.2.2]
abbrev Q2:=Option (Nat × Nat)
def p1 (q:Q2):Option Nat:=q.map fun x=>x.1
def p2 (q:Q2):Option Nat:=q.map fun x=>x.2
def n2 (q:Q2):List Nat:=match q with | none=>[] | some x=>[x.1,x.2]
def n1 (q:Option Nat):List Nat:=match q with | none=>[] | some x=>[x]
def rlC (n:Nt)(o:List Orc)(l:List Un)(md:Int)(W:AV)(v4 v5 v6:AV):List AV:=Jh n++[W,.vec (l.map Jkg) false,.vec (l.map Jma) false,.vec (l.map JnB) false,.vec (o.map Jb9) false,.lit (.int .i64 md),v4,v5,v6]
section
variable (n:Nt) (o:List Orc) (l:List Un) (md:Int) (W:AV)
structure RL (li:Nat) (M:Mm) (q:Q3) (H:Hp):Prop where
 bx:lk H.boxes li=some (rlC n o l md W (owV (q1 q) M.length) (owV (q2 q) M.length) (owV (q3 q) M.length))
 r:OwR H (q1 q) (M.map mR) 1
 f:OwR H (q2 q) (M.map mF) 1
 e:OwR H (q3 q) (M.map mE) 1
 nd:(n3 q).Nodup
 lt:li<H.nx
 fb:∀ j,H.nx<=j->lk H.boxes j=none
 ft:∀ j,H.nx<=j->lk H.toks j=none
end
structure RC (ci:Nat) (S:Jbd) (O:List En) (q:Q2) (e:Option Nat) (H:Hp):Prop where
 bx:lk H.boxes ci=some [owV (p1 q) S.length,owV (p2 q) S.length,owV e O.length]
 s:OwR H (p1 q) (S.map sS) 1
 p:OwR H (p2 q) (S.map sP) 1
 en:OwR H e (O.map JO) 2
 nd:(n2 q++n1 e).Nodup
 lt:ci<H.nx
theorem Jz6{q:Q3}{H:Hp}{a b c:List (List AV)}(h1:OwR H (q1 q) a 1)(h2:OwR H (q2 q) b 1)(h3:OwR H (q3 q) c 1):∀ j∈n3 q,j<H.nx:=by
 intro j hj;cases q with
 | none=>cases hj
 | some x =>
  simp only[n3,List.mem_cons,List.not_mem_nil,or_false] at hj;rcases hj with rfl | rfl | rfl
  ·exact(h1.tk _ rfl).2
  ·exact(h2.tk _ rfl).2
  ·exact(h3.tk _ rfl).2
theorem RL.names{n:Nt}{o:List Orc}{l:List Un}{md:Int}{W:AV}{li:Nat}{M:Mm}{q:Q3}{H:Hp}(h:RL n o l md W li M q H):∀ j∈n3 q,j<H.nx:=Jz6 h.r h.f h.e
theorem RC.names{ci:Nat}{S:Jbd}{O:List En}{q:Q2}{e:Option Nat}{H:Hp}(h:RC ci S O q e H):∀ j∈n2 q++n1 e,j<H.nx:=by
 intro j hj;rcases List.mem_append.1 hj with hj | hj
 ·cases q with
  | none=>cases hj
  | some x =>
   simp only[n2,List.mem_cons,List.not_mem_nil,or_false] at hj;rcases hj with rfl | rfl
   ·exact(h.s.tk _ rfl).2
   ·exact(h.p.tk _ rfl).2
 ·cases e with
  | none=>cases hj
  | some x =>
   simp only[n1,List.mem_cons,List.not_mem_nil,or_false] at hj;subst hj;exact(h.en.tk _ rfl).2
theorem RL.keep{n:Nt}{o:List Orc}{l:List Un}{md:Int}{W:AV}{li:Nat}{M:Mm}{q:Q3}{H H':Hp}(h:RL n o l md W li M q H){B T:List Nat}(k:Fq B T H H')(hb:li∉B)(ht:∀ j∈n3 q,j∉T):RL n o l md W li M q H':=by
  have hn:=h.names;have tk:∀ t,t∈n3 q->lk H'.toks t=lk H.toks t:=fun t e=>k.tk t (hn t e) (ht t e)
  refine⟨(k.bx _ h.lt hb).trans h.bx,h.r.keep k.nx fun t e=>tk t ?_,h.f.keep k.nx fun t e=>tk t ?_,h.e.keep k.nx fun t e=>tk t ?_,h.nd,Nat.lt_of_lt_of_le h.lt k.nx,k.fb,k.ft⟩ <;>
  (cases q with
   | none=>cases e
   | some x=>cases e;simp[n3])
theorem RC.keep{ci:Nat}{S:Jbd}{O:List En}{q:Q2}{e:Option Nat}{H H':Hp}(h:RC ci S O q e H){B T:List Nat}(k:Fq B T H H')(hb:ci∉B)(ht:∀ j∈n2 q++n1 e,j∉T):RC ci S O q e H':=by
 have hn:=h.names;have tk:∀ t,t∈n2 q++n1 e->lk H'.toks t=lk H.toks t:=fun t e=>k.tk t (hn t e) (ht t e)
 refine⟨(k.bx _ h.lt hb).trans h.bx,h.s.keep k.nx fun t e'=>tk t ?_,h.p.keep k.nx fun t e'=>tk t ?_,h.en.keep k.nx fun t e'=>tk t ?_,h.nd,Nat.lt_of_lt_of_le h.lt k.nx⟩
 ·cases q with
  | none=>cases e'
  | some x=>cases e';simp[n2]
 ·cases q with
  | none=>cases e'
  | some x=>cases e';simp[n2]
 ·subst e';simp[n1]
end Go.Proofs.Y
end
section
namespace Go.Proofs.Y
open Go Go.Ab
theorem JcG{α:Type}{l:List (Nat × α)}{i:Nat}(h:lk l i=none)(c:α)(x:List (Nat × α)):lk (l++(i,c) :: x) i=some c:=by rw[JC,h];simp[lk]
theorem JdA{α:Type}{l:List (Nat × α)}{i j:Nat}(c:α)(hij:i≠j):lk (l++[(i,c)]) j=lk l j:=by
 rw[JC];simp only[lk];rw[if_neg hij,Option.or_none]
theorem RC.addSeen{ci:Nat}{S:Jbd}{O:List En}{q:Q2}{e:Option Nat}{H:Hp}(h:RC ci S O q e H)(fb:∀ j,H.nx<=j->lk H.boxes j=none)(ft:∀ j,H.nx<=j->lk H.toks j=none)(y:Nat × Nat)(B:List (Nat × List AV))(T:List (Nat × Tk))(m:Nat)(q':Q2)
  (he:(q=none/\q'=some (H.nx,H.nx+1)/\m=H.nx+2/\∀ j,lk T j=if H.nx+1=j then some ⟨[sP y],0,1⟩ else if H.nx=j then some ⟨[sS y],0,1⟩ else lk H.toks j)\/∃ a b,q=some (a,b)/\q'=some (a,b)/\m=H.nx/\∀ j,lk T j=if b=j then some ⟨(S++[y]).map sP,0,1⟩ else if a=j then some ⟨(S++[y]).map sS,0,1⟩ else lk H.toks j)
  (hB:∀ j,lk B j=if ci=j then some [owV (p1 q') (S.length+1),owV (p2 q') (S.length+1),owV e O.length] else lk H.boxes j) :
  RC ci (S++[y]) O q' e ⟨B,T,m⟩/\Fq [ci] (n2 q) H ⟨B,T,m⟩/\∀ j∈n2 q',j∈n2 q\/H.nx<=j:=by
 have hlt:=h.lt;have hnm:=h.names;have fbm:∀ j,H.nx<=j->lk B j=none:=fun j hj=>by rw[hB,if_neg (by omega)];exact fb j hj
 have bx:lk B ci=some [owV (p1 q') (S++[y]).length,owV (p2 q') (S++[y]).length,owV e O.length]:=by rw[hB,if_pos rfl,List.length_append];rfl
 have nd:=h.nd;have en:=h.en;rcases he with ⟨rfl,rfl,rfl,hT⟩ | ⟨a,b,rfl,rfl,rfl,hT⟩
 ·have hS:S=[]:=by have:=h.s.nil rfl;cases S with | nil=>rfl | cons a b=>simp at this
  subst hS;have old:∀ j,j<H.nx->lk T j=lk H.toks j:=fun j hj=>by rw[hT,if_neg (by omega),if_neg (by omega)]
  have he:∀ j∈n1 e,j<H.nx:=fun j hj=>hnm j (List.mem_append_right _ hj)
  refine⟨⟨bx,⟨fun q=>(by cases q),fun t e=>?_⟩,⟨fun q=>(by cases q),fun t e=>?_⟩,en.keep (by show H.nx<=H.nx+2;omega) fun t e=>old t (en.tk t e).2,?_,by show ci<H.nx+2;omega⟩,⟨by show H.nx<=H.nx+2;omega,fun j _ hj=>?_,fun j hj _=>old j hj,fun j hj=>fbm j (by have hj:H.nx+2<=j:=hj;omega),fun j hj=>?_⟩,fun j hj=>?_⟩
  ·cases e;exact⟨by show lk T H.nx=_;rw[hT,if_neg (by omega),if_pos rfl];rfl,by show H.nx<H.nx+2;omega⟩
  ·cases e;exact⟨by show lk T (H.nx+1)=_;rw[hT,if_pos rfl];rfl,by show H.nx+1<H.nx+2;omega⟩
  ·rw[List.nodup_append] at nd ⊢;refine⟨by simp[n2],nd.2.1,fun a ha b hb=>?_⟩;simp only[n2,List.mem_cons,List.not_mem_nil,or_false] at ha;have:=he b hb;omega
  ·show lk B j=_;rw[hB,if_neg (fun q=>hj (by simp[q]))]
  ·have hj:H.nx+2<=j:=hj;show lk T j=_;rw[hT,if_neg (by omega),if_neg (by omega)];exact ft j (by omega)
  ·simp only[n2,List.mem_cons,List.not_mem_nil,or_false] at hj
   right;omega
 ·have h1:=(h.s.tk a rfl).2;have h2:=(h.p.tk b rfl).2;rw[List.nodup_append] at nd;have nab:a≠b:=by have:=nd.1;simp[n2] at this;exact this
  have old:∀ j,j≠a->j≠b->lk T j=lk H.toks j:=fun j hj hj2=>by rw[hT,if_neg (Ne.symm hj2),if_neg (Ne.symm hj)]
  have he:∀ t,e=some t->t≠a/\t≠b:=fun t q=>by
   subst q;exact⟨fun q=>nd.2.2 a (by simp[n2]) t (by simp[n1]) q.symm,fun q=>nd.2.2 b (by simp[n2]) t (by simp[n1]) q.symm⟩
  refine⟨⟨bx,⟨fun q=>(by cases q),fun t e=>?_⟩,⟨fun q=>(by cases q),fun t e=>?_⟩,en.keep (Nat.le_refl _) fun t e=>old t (he t e).1 (he t e).2,h.nd,h.lt⟩,⟨Nat.le_refl _,fun j _ hj=>?_,fun j _ hj=>?_,fbm,fun j hj=>?_⟩,fun j hj=>.inl hj⟩
  ·cases e;exact⟨by show lk T a=_;rw[hT,if_neg (Ne.symm nab),if_pos rfl],h1⟩
  ·cases e;exact⟨by show lk T b=_;rw[hT,if_pos rfl],h2⟩
  ·show lk B j=_;rw[hB,if_neg (fun q=>hj (by simp[q]))]
  ·simp only[n2,List.mem_cons,List.not_mem_nil,or_false,not_or] at hj;exact old j hj.1 hj.2
  ·have hj:H.nx<=j:=hj;rw[show lk (Hp.mk B T H.nx).toks j=lk T j from rfl,old j (by omega) (by omega)];exact ft j hj
theorem Jnl{B:List (Nat × List AV)}{i:Nat}{c d:List AV}(h:lk B i=some d)(j:Nat):lk (up B i c) j=if i=j then some c else lk B j:=by
 rw[JH];split
 ·rw[h];rfl
 ·rfl
theorem JdX{B:List (Nat × Tk)}{i:Nat}{c d:Tk}(h:lk B i=some d)(j:Nat):lk (up B i c) j=if i=j then some c else lk B j:=by
 rw[JH];split
 ·rw[h];rfl
 ·rfl
theorem lk2{T:List (Nat × Tk)}{N:Nat}(ft:∀ j,N<=j->lk T j=none)(a b:Tk)(j:Nat):lk (T++[(N,a),(N+1,b)]) j=if N+1=j then some b else if N=j then some a else lk T j:=by
 rw[JC];simp only[lk];by_cases h1:N+1=j
 ·subst h1;simp[ft (N+1) (by omega)]
 by_cases h0:N=j
 ·subst h0;simp[ft N (Nat.le_refl _)]
 ·simp[h0,h1]
theorem JpS(ci:Nat)(S:Jbd)(O:List En)(q:Q2)(e:Option Nat)(H:Hp)(h:RC ci S O q e H)(fb:∀ j,H.nx<=j->lk H.boxes j=none)(ft:∀ j,H.nx<=j->lk H.toks j=none)(s p:Nat)(hS:S.length<=100000000) :
  JU Tryz.prog 75 [.ptr ci 0,.lit (.int .i64 (s:Int)),.lit (.int .i64 (p:Int))] H fun r h'=>((s,p)∈S/\r = .lit (.bool true)/\h'=H) \/
   ((s,p)∉S/\r = .lit (.bool false)/\∃ q',RC ci (S++[(s,p)]) O q' e h'/\Fq [ci] (n2 q) H h'/\∀ j∈n2 q',j∈n2 q\/H.nx<=j):=by
 refine Jq Tryz.func75 rfl Tryz.ntmps75 (rs:=[.tmp 6]) rfl (by simp) ?_;have bx:=h.bx;have hlt:=h.lt;have hs:=h.s;have hp:=h.p;have hen:=h.en;have hnm:=h.names;have hnd:=h.nd;have lenS:∀ t,owV (p1 q) S.length = .own t S.length->p1 q=some t:=fun t q1=>by
  cases hq:p1 q with
  | none=>rw[hq] at q1;cases q1
  | some t'=>rw[hq] at q1;cases q1;rfl
 obtain⟨Qk,hQ⟩:∃ Qk:AV->Hp->Prop,(fun r h'=>((s,p)∈S/\r=AV.lit (.bool true)/\h'=H)\/((s,p)∉S/\r=AV.lit (.bool false)/\∃ q',RC ci (S++[(s,p)]) O q' e h'/\Fq [ci] (n2 q) H h'/\∀ j∈n2 q',j∈n2 q\/H.nx<=j))=Qk:=⟨_,rfl⟩;rw[hQ];have one1:∀ v:AV,(∀ q,q∈[[v]]->q.length=1)=True:=fun v=>by simp
 have nil1:(∀ q:List AV,q∈[]->q.length=1)=True:=by simp
 have hf0:Ja7 1 8=True:=eq_true (JN (by decide) (by decide));have hf1:Ja7 (S.length+1) 8=True:=eq_true (JN (by omega) (by omega));cases q with
 | none =>
  have hS0:S=[]:=by have:=hs.nil rfl;cases S with | nil=>rfl | cons a b=>simp at this
  subst hS0;have bx:lk H.boxes ci=some [.vec [] true,.vec [] true,owV e O.length]:=bx;refine Jj ?_;simp -implicitDefEqProofs (disch:=omega) only[Wz,seval,Ly,Lx,bx];refine Jp (A:=Unit) (fun _=>⟨[(0,.ptr ci 0),(1,.lit (.int .i64 (s:Int))),(2,.lit (.int .i64 (p:Int))),(7,.lit (.int .i64 (-1)))],H,58⟩) (fun _=>True) (fun _=>0) () (Jk (by simp[lk]) (fun _ _ e=>e) (fun _ _ e=>e) rfl rfl) trivial ?_;rintro _ _;refine Jj ?_;have tn:∀ c x,lk (H.toks++(H.nx,c) :: x) H.nx=some c:=fun c x=>JcG (ft _ (Nat.le_refl _)) c x;have hup:∀ c,lk (up H.boxes ci c) ci=some c:=fun c=>by rw[JH,if_pos rfl,bx];rfl
  simp -implicitDefEqProofs (disch:=omega) only[Wz,seval,Ly,Lx,bx,hup,JiB,one1,nil1,hf0,true_and,if_true,List.append_assoc];rw[<- hQ];refine .inr ⟨by simp,rfl,some (H.nx,H.nx+1),h.addSeen fb ft (s,p) _ _ _ (some (H.nx,H.nx+1)) (.inl ⟨rfl,rfl,rfl,lk2 ft _ _⟩) (Jnl bx)⟩
 | some x =>
  obtain⟨a,b⟩:=x;have bx:lk H.boxes ci=some [.own a S.length,.own b S.length,owV e O.length]:=bx;have ta:=(hs.tk a rfl).1;have tb:=(hp.tk b rfl).1;refine Jj ?_;simp -implicitDefEqProofs (disch:=omega) only[Wz,seval,Ly,Lx,bx];refine Jp (fun j:Nat=>⟨[(0,.ptr ci 0),(1,.lit (.int .i64 (s:Int))),(2,.lit (.int .i64 (p:Int))),(7,.lit (.int .i64 ((j:Int) - 1)))],H,58⟩) (fun j=>j<=S.length/\(s,p)∉S.drop j) (fun j=>j) S.length (Jk (by simp[lk]) (fun _ _ e=>e) (fun _ _ e=>e) rfl rfl) ⟨Nat.le_refl _,by simp⟩ ?_;rintro j ⟨hj,hjn⟩;refine Jj ?_;cases j with
  | zero =>
   rw[List.drop_zero] at hjn;have nab:a≠b:=by
    rw[List.nodup_append] at hnd;have:=hnd.1;simp[n2] at this;exact this
   have hup:∀ c,lk (up H.boxes ci c) ci=some c:=fun c=>by rw[JH,if_pos rfl,bx];rfl
   have tb':∀ c,lk (up H.toks a c) b=some ⟨S.map sP,0,1⟩:=fun c=>by rw[JH,if_neg nab];exact tb
   simp -implicitDefEqProofs (disch:=omega) only[Wz,seval,Ly,Lx,bx,hup,JiB,ta,tb',one1,hf1,true_and,if_true];rw[<- hQ];refine .inr ⟨hjn,rfl,some (a,b),h.addSeen fb ft (s,p) _ _ _ (some (a,b)) (.inr ⟨a,b,rfl,rfl,rfl,fun j=>?_⟩) (Jnl bx)⟩;rw[JdX (tb' _),JdX ta,List.map_append,List.map_append];rfl
  | succ i =>
   have hi:i<S.length:=hj;obtain⟨y,hy⟩:∃ y,S.getD i default=y:=⟨_,rfl⟩;have hcast:((i+1:Nat):Int) - 1=(i:Int):=by omega
   obtain⟨y1,y2⟩:=y;have hdr:S.drop i=(y1,y2) :: S.drop (i+1):=by rw[Jbc hi,hy]
   by_cases h1:y1=s
   ·by_cases h2:y2=p
    ·have c1:((y1:Int)==(s:Int))=true:=Jgv (by omega);have c2:((y2:Int)==(p:Int))=true:=Jgv (by omega);simp -implicitDefEqProofs (disch:=omega) only[Wz,seval,Ly,Lx,bx,ta,tb,hcast,hy,sS,sP,c1,c2];rw[<- hQ];subst h1;subst h2;exact .inl ⟨by rw[<- hy];exact Ju hi,rfl,rfl⟩
    ·have c1:((y1:Int)==(s:Int))=true:=Jgv (by omega);have c2:((y2:Int)==(p:Int))=false:=JjN (by omega);simp -implicitDefEqProofs (disch:=omega) only[Wz,seval,Ly,Lx,bx,ta,tb,hcast,hy,sS,sP,c1,c2];refine⟨i,⟨by omega,?_⟩,by omega,Jk (by simp[lk]) (fun _ _ e=>e) (fun _ _ e=>e) rfl rfl⟩;rw[hdr,List.mem_cons,not_or];exact⟨fun q=>by cases q;exact h2 rfl,hjn⟩
   ·have c1:((y1:Int)==(s:Int))=false:=JjN (by omega);simp -implicitDefEqProofs (disch:=omega) only[Wz,seval,Ly,Lx,bx,ta,tb,hcast,hy,sS,sP,c1];refine⟨i,⟨by omega,?_⟩,by omega,Jk (by simp[lk]) (fun _ _ e=>e) (fun _ _ e=>e) rfl rfl⟩;rw[hdr,List.mem_cons,not_or];exact⟨fun q=>by cases q;exact h1 rfl,hjn⟩
end Go.Proofs.Y
end
section
namespace Go.Proofs.Y
open Go Go.Ab
structure JhV (n:Nt) (o:List Orc) (l:List Un) (md:Int) (k:Nat) (M:Mm):Prop where
 ok:∀ m∈M,m.1<n.rules.length/\m.2.1<l.length/\m.2.2=eF n o l md k m.1 m.2.1
 nd:(M.map fun m=>(m.1,m.2.1)).Nodup
theorem JhV.len{n:Nt}{o:List Orc}{l:List Un}{md:Int}{k:Nat}{M:Mm}(h:JhV n o l md k M):M.length<=n.rules.length * l.length:=by
 have h1:=JiA (S:=M.map fun m=>(m.1,m.2.1)) (N:=n.rules.length) (K:=l.length) h.nd (fun x hx=>by
  obtain⟨m,hm,rfl⟩:=List.mem_map.1 hx;exact⟨(h.ok m hm).1,(h.ok m hm).2.1⟩)
 simpa using h1
def Jnm (n:Nt)(l:List Un)(rk:Nat->Nat)(R μ:Nat)(M M':Mm):Prop:=∀ m∈M',m∈M\/mT l rk R ⟨stN n m.1,m.2.1,[]⟩<μ
theorem Jnm.refl{n:Nt}{l:List Un}{rk:Nat->Nat}{R μ:Nat}{M:Mm}:Jnm n l rk R μ M M:=fun m h=>.inl h
theorem Jnm.trans{n:Nt}{l:List Un}{rk:Nat->Nat}{R μ μ':Nat}{a b c:Mm}(h:Jnm n l rk R μ a b)(k:Jnm n l rk R μ' b c)(hm:μ'<=μ):Jnm n l rk R μ a c:=fun m hmem=>by
 rcases k m hmem with q | q
 ·exact h m q
 ·exact .inr (by omega)
section
variable (n:Nt) (o:List Orc) (l:List Un) (md:Int) (W:AV) (k:Nat) (rk:Nat->Nat) (R:Nat)
def JtK(r a:Nat):Prop:=∀ (li:Nat) (M:Mm) (q:Q3) (H:Hp),RL n o l md W li M q H->JhV n o l md k M ->
 JU Tryz.prog 37 [.ptr li 0,.lit (.int .i64 (r:Int)),.lit (.int .i64 (a:Int))] H fun v h'=>v = .vec ((eF n o l md k r a).map JO) false /\
  ∃ M' q',JhV n o l md k M'/\RL n o l md W li M' q' h'/\Fq [li] (n3 q) H h'/\(∀ j∈n3 q',j∈n3 q\/H.nx<=j)/\Jnm n l rk R (mT l rk R ⟨stN n r,a,[]⟩+1) M M'
def own (q:Q3)(qc:Q2)(e:Option Nat):List Nat:=n3 q++(n2 qc++n1 e)
def Jlv(t:Tr):Prop:=∀ (r li ci:Nat) (M:Mm) (S:Jbd) (O:List En) (q:Q3) (qc:Q2) (e:Option Nat) (H:Hp),RL n o l md W li M q H->RC ci S O qc e H->li≠ci->(own q qc e).Nodup->JhV n o l md k M->r<n.rules.length ->
 S.Nodup->InR n l S->t.acts.length<=Jfg * S.length->O.length<=S.length ->
 JU Tryz.prog 57 [.ptr li 0,.ptr ci 0,.lit (.int .i64 (r:Int)),.lit (.int .i64 (t.st:Int)),.lit (.int .i64 (t.pos:Int)),.vec (t.acts.map JA) false] H fun v h'=>v = .tup [] /\
  ∃ M' q' qc' e',JhV n o l md k M'/\RL n o l md W li M' q' h'/\RC ci (wF n o l md k r t S).1 (O++(wF n o l md k r t S).2) qc' e' h'/\(own q' qc' e').Nodup/\Fq [li,ci] (own q qc e) H h'/\(∀ j∈own q' qc' e',j∈own q qc e\/H.nx<=j)/\Jnm n l rk R (mT l rk R t) M M'
end
theorem JtL{sl:List (Nat × AV)}{nt:Nat}{H:Hp}{ci:Nat}{S:Jbd}{O:List En}{qc:Q2}{e:Option Nat}(h:RC ci S O qc e H):∃ H2 x y,St.wk ⟨sl,H,nt⟩ ⟨sl,H2,nt⟩/\H2.nx=H.nx/\lk H2.boxes ci=some [x,y,.vec (O.map JO) false]/\(∀ j,j≠ci->lk H2.boxes j=lk H.boxes j)/\∀ j,j∉n1 e->lk H2.toks j=lk H.toks j:=by
 have hlen:(O.map JO).length=O.length:=by simp
 have fin:∀ (T:List (Nat × Tk)),lk (Jfy (up H.boxes ci [owV (p1 qc) S.length,owV (p2 qc) S.length,.vec (O.map JO) false])) ci=some [owV (p1 qc) S.length,owV (p2 qc) S.length,.vec (O.map JO) false]/\∀ j,j≠ci->lk (Jfy (up H.boxes ci [owV (p1 qc) S.length,owV (p2 qc) S.length,.vec (O.map JO) false])) j=lk H.boxes j:=fun T=>by
  refine⟨by rw[Jb3,JH,if_pos rfl,h.bx];rfl,fun j hj=>by rw[Jb3,JH,if_neg (Ne.symm hj)]⟩
 have hs:∀ (σ':St),σ'.slots=Jfy sl->St.wk σ' ⟨sl,σ'.hp,σ'.nt⟩:=fun σ' hσ g0 h0 w0 g w a r=>⟨g,r.st,fun s v q=>r.slots s v (by rw[hσ,Jb3];exact q),r.nt,r.defers⟩;have bmem:∀ p∈Jfy (up H.boxes ci [owV (p1 qc) S.length,owV (p2 qc) S.length,.vec (O.map JO) false]),(p.1=ci/\p.2=[owV (p1 qc) S.length,owV (p2 qc) S.length,.vec (O.map JO) false])\/lk H.boxes p.1=some p.2:=fun p hp=>by
  have q:=JbO hp;rw[JH] at q;by_cases hj:ci=p.1
  ·rw[if_pos hj,h.bx] at q;simp only[Option.map_some,Option.some.injEq] at q;exact .inl ⟨hj.symm,q.symm⟩
  ·rw[if_neg hj] at q;exact .inr q
 cases e with
 | none =>
  have hO:O=[]:=by have:=h.en.nil rfl;cases O with | nil=>rfl | cons a b=>simp at this
  subst hO;refine⟨⟨Jfy (up H.boxes ci [owV (p1 qc) S.length,owV (p2 qc) S.length,.vec ([].map JO) false]),Jfy H.toks,H.nx⟩,_,_,?_,rfl,(fin []).1,(fin []).2,fun j _=>Jb3 _ _⟩;refine St.wk.trans (σ':=⟨Jfy sl,⟨Jfy (up H.boxes ci [owV (p1 qc) S.length,owV (p2 qc) S.length,.vec ([].map JO) false]),Jfy H.toks,H.nx⟩,nt⟩) (St.wk_conv rfl rfl (fun g g' x p hp=>⟨p.2,JbO hp,JF x _⟩) (fun g g' x p hp=>?_) (fun g p hp=>⟨p.2,JbO hp,Jks.refl g _⟩)) (hs _ rfl);rcases bmem p hp with ⟨q1,q2⟩ | q1
  ·refine⟨_,by rw[q1];exact h.bx,?_⟩;rw[q2];exact Jv (JF x _) (Jv (JF x _) (Jv (JbG x _ _) JaV))
  ·exact⟨_,q1,Jbe x _⟩
 | some t =>
  have tk:=(h.en.tk t rfl).1;refine⟨⟨Jfy (up H.boxes ci [owV (p1 qc) S.length,owV (p2 qc) S.length,.vec (O.map JO) false]),Jfy (dl H.toks t),H.nx⟩,_,_,?_,rfl,(fin []).1,(fin []).2,fun j hj=>?_⟩
  ·refine St.wk.trans (σ':=⟨Jfy sl,⟨Jfy (up H.boxes ci [owV (p1 qc) S.length,owV (p2 qc) S.length,.vec (O.map JO) false]),Jfy (dl H.toks t),H.nx⟩,nt⟩) (St.wk_freeze (t:=t) (k:=⟨O.map JO,0,2⟩) tk rfl rfl (fun g g' x c p hp=>⟨p.2,JbO hp,JF x _⟩) (fun g g' x c p hp=>?_) (fun g p hp=>?_)) (hs _ rfl)
   ·rcases bmem p hp with ⟨q1,q2⟩ | q1
    ·refine⟨_,by rw[q1];exact h.bx,?_⟩;rw[q2];simp only[hlen] at c;exact Jv (JF x _) (Jv (JF x _) (Jv c JaV))
    ·exact⟨_,q1,Jbe x _⟩
   ·have q:=JbO hp;rw[Jeb] at q;by_cases hj:t=p.1
    ·rw[if_pos hj] at q;cases q
    ·rw[if_neg hj] at q;exact⟨p.2,by rw[JH,if_neg hj];exact q,Jks.refl g _⟩
  ·show lk (Jfy (dl H.toks t)) j=_;rw[Jb3,Jeb,if_neg];intro q;exact hj (by simp[n1,q])
end Go.Proofs.Y
end
section
namespace Go.Proofs.Y
open Go Go.Ab
theorem RL.add_some{n:Nt}{o:List Orc}{l:List Un}{md:Int}{W:AV}{li:Nat}{M:Mm}{x y z:Nat}{H:Hp}(h:RL n o l md W li M (some (x,y,z)) H)(m:Nat × Nat × List En)(B:List (Nat × List AV))(T:List (Nat × Tk))
  (hB:∀ j,lk B j=if li=j then some (rlC n o l md W (.own x (M.length+1)) (.own y (M.length+1)) (.own z (M.length+1))) else lk H.boxes j)
  (hT:∀ j,lk T j=if z=j then some ⟨(M++[m]).map mE,0,1⟩ else if y=j then some ⟨(M++[m]).map mF,0,1⟩ else if x=j then some ⟨(M++[m]).map mR,0,1⟩ else lk H.toks j) :
  RL n o l md W li (M++[m]) (some (x,y,z)) ⟨B,T,H.nx⟩/\Fq [li] [x,y,z] H ⟨B,T,H.nx⟩:=by
 have nd:=h.nd;simp only[n3,List.nodup_cons,List.mem_cons,List.not_mem_nil,or_false,not_or,not_false_eq_true,List.nodup_nil,and_true] at nd;have hx:=(h.r.tk x rfl).2;have hy:=(h.f.tk y rfl).2;have hz:=(h.e.tk z rfl).2;have hlt:=h.lt;have fb:∀ j,H.nx<=j->lk B j=none:=fun j hj=>by rw[hB,if_neg (by omega)];exact h.fb j hj
 have ft:∀ j,H.nx<=j->lk T j=none:=fun j hj=>by rw[hT,if_neg (by omega),if_neg (by omega),if_neg (by omega)];exact h.ft j hj
 refine⟨⟨?_,⟨fun q=>(by cases q),fun t q=>?_⟩,⟨fun q=>(by cases q),fun t q=>?_⟩,⟨fun q=>(by cases q),fun t q=>?_⟩,h.nd,h.lt,fb,ft⟩,⟨Nat.le_refl _,fun j _ hj=>?_,fun j _ hj=>?_,fb,ft⟩⟩
 ·show lk B li=_;rw[hB,if_pos rfl];simp only[List.length_append,List.length_singleton];rfl
 ·cases q;refine⟨?_,hx⟩;show lk T x=_;rw[hT,if_neg (fun q=>nd.1.2 q.symm),if_neg (fun q=>nd.1.1 q.symm),if_pos rfl]
 ·cases q;refine⟨?_,hy⟩;show lk T y=_;rw[hT,if_neg (fun q=>nd.2 q.symm),if_pos rfl]
 ·cases q;refine⟨?_,hz⟩;show lk T z=_;rw[hT,if_pos rfl]
 ·show lk B j=_;rw[hB,if_neg (fun q=>hj (by simp[q]))]
 ·show lk T j=_;simp only[List.mem_cons,List.not_mem_nil,or_false,not_or] at hj;rw[hT,if_neg (fun q=>hj.2.2 q.symm),if_neg (fun q=>hj.2.1 q.symm),if_neg (fun q=>hj.1 q.symm)]
theorem RL.add_none{n:Nt}{o:List Orc}{l:List Un}{md:Int}{W:AV}{li:Nat}{M:Mm}{H:Hp}(h:RL n o l md W li M none H)(m:Nat × Nat × List En)(B:List (Nat × List AV))(T:List (Nat × Tk))
  (hB:∀ j,lk B j=if li=j then some (rlC n o l md W (.own H.nx 1) (.own (H.nx+1) 1) (.own (H.nx+2) 1)) else lk H.boxes j)
  (hT:∀ j,lk T j=if H.nx+2=j then some ⟨[mE m],0,1⟩ else if H.nx+1=j then some ⟨[mF m],0,1⟩ else if H.nx=j then some ⟨[mR m],0,1⟩ else lk H.toks j) :
  RL n o l md W li (M++[m]) (some (H.nx,H.nx+1,H.nx+2)) ⟨B,T,H.nx+3⟩/\Fq [li] [] H ⟨B,T,H.nx+3⟩:=by
 have hM:M=[]:=by have:=h.r.nil rfl;cases M with | nil=>rfl | cons a b=>simp at this
 subst hM;have hlt:=h.lt;have fb:∀ j,H.nx+3<=j->lk B j=none:=fun j hj=>by rw[hB,if_neg (by omega)];exact h.fb j (by omega)
 have ft:∀ j,H.nx+3<=j->lk T j=none:=fun j hj=>by rw[hT,if_neg (by omega),if_neg (by omega),if_neg (by omega)];exact h.ft j (by omega)
 refine⟨⟨?_,⟨fun q=>(by cases q),fun t q=>?_⟩,⟨fun q=>(by cases q),fun t q=>?_⟩,⟨fun q=>(by cases q),fun t q=>?_⟩,by simp[n3],by show li<H.nx+3;omega,fb,ft⟩,⟨by show H.nx<=H.nx+3;omega,fun j _ hj=>?_,fun j hj _=>?_,fb,ft⟩⟩
 ·show lk B li=_;rw[hB,if_pos rfl];rfl
 ·cases q;refine⟨?_,by show H.nx<H.nx+3;omega⟩;show lk T H.nx=_;rw[hT,if_neg (by omega),if_neg (by omega),if_pos rfl];rfl
 ·cases q;refine⟨?_,by show H.nx+1<H.nx+3;omega⟩;show lk T (H.nx+1)=_;rw[hT,if_neg (by omega),if_pos rfl];rfl
 ·cases q;refine⟨?_,by show H.nx+2<H.nx+3;omega⟩;show lk T (H.nx+2)=_;rw[hT,if_pos rfl];rfl
 ·show lk B j=_;rw[hB,if_neg (fun q=>hj (by simp[q]))]
 ·show lk T j=_;rw[hT,if_neg (by omega),if_neg (by omega),if_neg (by omega)]
theorem lk3{T:List (Nat × Tk)}{N:Nat}(ft:∀ j,N<=j->lk T j=none)(a b c:Tk)(j:Nat):lk (T++[(N,a)]++[(N+1,b)]++[(N+2,c)]) j=if N+2=j then some c else if N+1=j then some b else if N=j then some a else lk T j:=by
 rw[JC,JC,JC];simp only[lk];by_cases h2:N+2=j
 ·subst h2;simp[ft (N+2) (by omega)]
 by_cases h1:N+1=j
 ·subst h1;simp[ft (N+1) (by omega)]
 by_cases h0:N=j
 ·subst h0;simp[ft N (Nat.le_refl _)]
 ·simp[h0,h1,h2]
theorem JfH{n:Nt}{o:List Orc}{l:List Un}{md:Int}{W:AV}{k:Nat}{rk:Nat->Nat}{R:Nat}(g:JpY n o l md)(hWu:W.cells=some [W]){r a:Nat}(hr:r<n.rules.length)(ha:a<l.length)(hw:Jlv n o l md W k rk R ⟨stN n r,a,[]⟩):JtK n o l md W k rk R r a:=by
 intro li M q H hl hm;refine Jq Tryz.func37 rfl Tryz.ntmps37 (rs:=[.tmp 6]) rfl (by simp) ?_;have hru:=g.w.nru;have hll:=g.len;have hM:M.length<=100000:=by
  have:=hm.len;have h2:n.rules.length * l.length<=100 * 1000:=Nat.mul_le_mul (by omega) (by omega);omega
 obtain⟨Qk,hQ⟩:∃ Qk:AV->Hp->Prop,(fun v h'=>v=AV.vec ((eF n o l md k r a).map JO) false/\∃ M' q',JhV n o l md k M'/\RL n o l md W li M' q' h'/\Fq [li] (n3 q) H h'/\(∀ j∈n3 q',j∈n3 q\/H.nx<=j)/\Jnm n l rk R (mT l rk R ⟨stN n r,a,[]⟩+1) M M')=Qk:=⟨_,rfl⟩;rw[hQ];refine Jm ?_;refine Jj ?_;simp -implicitDefEqProofs (disch:=omega) only[Wz,seval,Ly,Lx];refine JhD (fun σ=>(r,a)∉(M.map fun m=>(m.1,m.2.1))/\σ=⟨[(0,.ptr li 0),(1,.lit (.int .i64 (r:Int))),(2,.lit (.int .i64 (a:Int)))],H,98⟩) ?_ ?_
 ·refine Jm ?_;refine Jj ?_;simp -implicitDefEqProofs (disch:=omega) only[Wz,seval,Ly,Lx];refine JX ?_;have bx:=hl.bx;refine Jp (fun i:Nat=>⟨[(0,.ptr li 0),(1,.lit (.int .i64 (r:Int))),(2,.lit (.int .i64 (a:Int))),(7,.lit (.int .i64 (i:Int)))],H,98⟩) (fun i=>i<=M.length/\(r,a)∉((M.take i).map fun m=>(m.1,m.2.1))) (fun i=>M.length - i) 0 (Jk (by simp[lk]) (fun _ _ e=>e) (fun _ _ e=>e) rfl rfl) ⟨Nat.zero_le _,by simp⟩ ?_;rintro i ⟨hi,hin⟩;refine Jj ?_;cases q with
  | none =>
   have hM0:M=[]:=by have:=hl.r.nil rfl;cases M with | nil=>rfl | cons a b=>simp at this
   subst hM0;have:i=0:=by simpa using hi
   subst this;have bx:lk H.boxes li=some (rlC n o l md W (.vec [] true) (.vec [] true) (.vec [] true)):=bx;simp -implicitDefEqProofs (disch:=omega) only[Wz,seval,Ly,Lx,bx,rlC,Jh];exact⟨⟨[(0,.ptr li 0),(1,.lit (.int .i64 (r:Int))),(2,.lit (.int .i64 (a:Int)))],H,98⟩,Jk (by simp[lk]) (fun _ _ e=>e) (fun _ _ e=>e) rfl rfl,by simp,rfl⟩
  | some x =>
   obtain⟨x,y,z⟩:=x;have bx:lk H.boxes li=some (rlC n o l md W (.own x M.length) (.own y M.length) (.own z M.length)):=bx;have tx:=(hl.r.tk x rfl).1;have ty:=(hl.f.tk y rfl).1;have tz:=(hl.e.tk z rfl).1;rcases Nat.lt_or_ge i M.length with hlt | hge
   ·obtain⟨m,hmm⟩:∃ m,M.getD i default=m:=⟨_,rfl⟩;have hmem:m∈M:=by rw[<- hmm];exact Ju hlt
    have hok:=hm.ok m hmem;obtain⟨m1,m2,ys⟩:=m;simp only at hok;have htk:M.take (i+1)=M.take i++[(m1,m2,ys)]:=by rw[List.take_succ_eq_append_getElem hlt,<- hmm,List.getD_eq_getElem?_getD,List.getElem?_eq_getElem hlt];rfl
    by_cases h1:m1=r
    ·by_cases h2:m2=a
     ·have c1:((m1:Int)==(r:Int))=true:=Jgv (by omega);have c2:((m2:Int)==(a:Int))=true:=Jgv (by omega);simp -implicitDefEqProofs (disch:=omega) only[Wz,seval,Ly,Lx,bx,rlC,Jh,tx,ty,tz,hmm,mR,mF,mE,c1,c2];rw[<- hQ];subst h1;subst h2;rw[<- hok.2.2];exact⟨rfl,M,some (x,y,z),hm,hl,Fq.refl hl.fb hl.ft,fun j hj=>.inl hj,.refl⟩
     ·have c1:((m1:Int)==(r:Int))=true:=Jgv (by omega);have c2:((m2:Int)==(a:Int))=false:=JjN (by omega);simp -implicitDefEqProofs (disch:=omega) only[Wz,seval,Ly,Lx,bx,rlC,Jh,tx,ty,tz,hmm,mR,mF,mE,c1,c2];refine⟨i+1,⟨by omega,?_⟩,by omega,Jk (by simp[lk]) (fun _ _ e=>e) (fun _ _ e=>e) rfl rfl⟩;rw[htk,List.map_append,List.mem_append,not_or];refine⟨hin,?_⟩;simp only[List.map_cons,List.map_nil,List.mem_singleton,Prod.mk.injEq];omega
    ·have c1:((m1:Int)==(r:Int))=false:=JjN (by omega);simp -implicitDefEqProofs (disch:=omega) only[Wz,seval,Ly,Lx,bx,rlC,Jh,tx,ty,tz,hmm,mR,mF,mE,c1];refine⟨i+1,⟨by omega,?_⟩,by omega,Jk (by simp[lk]) (fun _ _ e=>e) (fun _ _ e=>e) rfl rfl⟩;rw[htk,List.map_append,List.mem_append,not_or];refine⟨hin,?_⟩;simp only[List.map_cons,List.map_nil,List.mem_singleton,Prod.mk.injEq];omega
   ·have hie:i=M.length:=by omega
    subst hie;rw[List.take_length] at hin;simp -implicitDefEqProofs (disch:=omega) only[Wz,seval,Ly,Lx,bx,rlC,Jh,tx,ty,tz];exact⟨⟨[(0,.ptr li 0),(1,.lit (.int .i64 (r:Int))),(2,.lit (.int .i64 (a:Int)))],H,98⟩,Jk (by simp[lk]) (fun _ _ e=>e) (fun _ _ e=>e) rfl rfl,hin,rfl⟩
 rintro _ ⟨hno,rfl⟩;have fk:=Fq.box (B:=[]) (T:=[]) hl.fb hl.ft [.vec [] true,.vec [] true,.vec [] true];have hl1:=hl.keep fk (by simp) (fun j _=>by simp);have hc1:RC H.nx [] [] none none ⟨H.boxes++[(H.nx,[.vec [] true,.vec [] true,.vec [] true])],H.toks,H.nx+1⟩:=⟨by show lk (H.boxes++_) H.nx=_;exact JcG (hl.fb _ (Nat.le_refl _)) _ _,.none',.none',.none',by simp[n2,n1],Nat.lt_succ_self _⟩;have hne:li≠H.nx:=by have:=hl.lt;omega
 have hcall:=hw r li H.nx M [] [] q none none _ hl1 hc1 hne (by have:=hl.nd;simpa [own,n2,n1] using this) hm hr List.nodup_nil (fun p hp=>by cases hp) (by simp) (Nat.le_refl _);have bx1:=hl1.bx;obtain⟨rr,hrr⟩:∃ rr,n.rules.getD r default=rr:=⟨_,rfl⟩;have hst:rr.start=(stN n r:Int):=by
  have:=g.w.start hr;unfold stN;rw[hrr] at this ⊢;omega
 refine Jm ?_;refine Jj ?_;simp -implicitDefEqProofs (disch:=omega) only[Wz,seval,Ly,Lx];refine Jm ?_;refine Jj ?_;simp -implicitDefEqProofs (disch:=omega) only[Wz,seval,Ly,Lx,bx1,rlC,Jh,hrr,Jc,hst];refine Jcz.cv (fun g=>Jv (JF (.refl g) _) (Jv (JF (.refl g) _) (Jv (JF (.refl g) _) (Jv (JF (.refl g) _) (Jv (JF (.refl g) _) (Jv (JbG (.refl g) _ _) JaV)))))) ?_;refine JE Jgm hcall ?_;rintro v h' ⟨rfl,M',q',qc',e',hm',hl',hc',hnd',hfq,hnm,hnew⟩;rw[List.nil_append] at hc';have hc':RC H.nx (wF n o l md k r ⟨stN n r,a,[]⟩ []).1 (eF n o l md k r a) qc' e' h':=hc';obtain⟨ys,hys⟩:∃ ys,eF n o l md k r a=ys:=⟨_,rfl⟩;have hQ':∀ (h'':Hp),(∃ M' q',JhV n o l md k M'/\RL n o l md W li M' q' h''/\Fq [li] (n3 q) H h''/\(∀ j∈n3 q',j∈n3 q\/H.nx<=j)/\Jnm n l rk R (mT l rk R ⟨stN n r,a,[]⟩+1) M M')->Qk (.vec (ys.map JO) false) h'':=fun h'' q=>by rw[<- hQ,<- hys];exact⟨rfl,q⟩
 rw[hys] at hc';clear hcall hw;obtain⟨H2,c1,c2,w2,nx2,bc2,bo2,to2⟩:=JtL (sl:=[(0,.ptr li 0),(1,.lit (.int .i64 (r:Int))),(2,.lit (.int .i64 (a:Int))),(8,.ptr H.nx 0)]) (nt:=98) hc';have hci:H.nx<h'.nx:=by have:H.nx+1<=h'.nx:=hfq.nx;omega
 have fb2:∀ j,H2.nx<=j->lk H2.boxes j=none:=fun j hj=>by rw[bo2 j (by omega)];exact hl'.fb j (by omega)
 have he':∀ j∈n1 e',j<h'.nx:=fun j hj=>hc'.names j (List.mem_append_right _ hj)
 have ft2:∀ j,H2.nx<=j->lk H2.toks j=none:=fun j hj=>by rw[to2 j (fun q=>by have:=he' j q;omega)];exact hl'.ft j (by omega)
 have f2:Fq [H.nx] (n1 e') h' H2:=⟨by omega,fun j _ hj=>bo2 j (by simpa using hj),fun j _ hj=>to2 j hj,fb2,ft2⟩;have hl2:=hl'.keep f2 (by simpa using hne) (fun j hj hj2=>by
  unfold own at hnd';rw[List.nodup_append] at hnd';exact hnd'.2.2 j hj j (List.mem_append_right _ hj2) rfl)
 have hnotin:(r,a)∉(M'.map fun m=>(m.1,m.2.1)):=fun q=>by
  obtain⟨m,hmem,e⟩:=List.mem_map.1 q;simp only[Prod.mk.injEq] at e;rcases hnew m hmem with q2 | q2
  ·exact hno (List.mem_map.2 ⟨m,q2,by rw[e.1,e.2]⟩)
  ·rw[e.1,e.2] at q2;omega
 have hmf:JhV n o l md k (M'++[(r,a,ys)]):=⟨fun m hmem=>by
   rcases List.mem_append.1 hmem with q | q
   ·exact hm'.ok m q
   ·rw[List.mem_singleton] at q;subst q;exact⟨hr,ha,hys.symm⟩,by
   rw[List.map_append,List.map_cons,List.map_nil];exact Jcd hm'.nd hnotin⟩
 have hM':M'.length<=100000:=by
  have:=hm'.len;have h2:n.rules.length * l.length<=100 * 1000:=Nat.mul_le_mul (by omega) (by omega);omega
 have hnewf:Jnm n l rk R (mT l rk R ⟨stN n r,a,[]⟩+1) M (M'++[(r,a,ys)]):=fun m hmem=>by
  rcases List.mem_append.1 hmem with q | q
  ·rcases hnew m q with q2 | q2
   ·exact .inl q2
   ·exact .inr (by omega)
  ·rw[List.mem_singleton] at q;subst q;exact .inr (Nat.lt_succ_self _)
 have nm1:∀ j∈own q' qc' e',j∈n3 q\/H.nx<=j:=fun j hj=>by
  rcases hnm j hj with q2 | q2
  ·left;simpa [own,n2,n1] using q2
  ·right
   have q2:H.nx+1<=j:=q2;omega
 have base:Fq [li] (n3 q) H H2:=by
  refine(fk.mono (fun j hj=>by cases hj) (fun j hj=>by cases hj)).trans (hfq.trans f2 (fun j hj=>.inl (by simp at hj;simp[hj])) (fun j hj=>?_)) (fun j hj=>?_) (fun j hj=>?_)
  ·rcases nm1 j (List.mem_append_right _ (List.mem_append_right _ hj)) with q2 | q2
   ·left;simpa [own,n2,n1] using q2
   ·rcases Nat.eq_or_lt_of_le q2 with q3 | q3
    ·exfalso;rcases hnm j (List.mem_append_right _ (List.mem_append_right _ hj)) with q4 | q4
     ·have:j∈n3 q:=by simpa [own,n2,n1] using q4
      have:=hl.names j this;omega
     ·have q4:H.nx+1<=j:=q4;omega
    ·right
     show H.nx+1<=j;omega
  ·simp only[List.mem_cons,List.not_mem_nil,or_false] at hj;rcases hj with hj | hj
   ·left;simp[hj]
   ·right;omega
  ·left;simpa [own,n2,n1] using hj
 have one1:∀ v:AV,(∀ q,q∈[[v]]->q.length=1)=True:=fun v=>by simp
 have nil1:(∀ q:List AV,q∈[]->q.length=1)=True:=by simp
 have hf0:Ja7 1 8=True:=eq_true (JN (by decide) (by decide));have hf1:Ja7 (M'.length+1) 8=True:=eq_true (JN (by omega) (by omega));have hf2:Ja7 1 24=True:=eq_true (JN (by decide) (by decide));have hf3:Ja7 (M'.length+1) 24=True:=eq_true (JN (by omega) (by omega));have bx2:=hl2.bx;simp -implicitDefEqProofs (disch:=omega) only[Wz,seval,Ly,Lx];refine Ja8 (σ':=⟨[(0,.ptr li 0),(1,.lit (.int .i64 (r:Int))),(2,.lit (.int .i64 (a:Int))),(8,.ptr H.nx 0)],h',98⟩) (Jk (by simp[lk]) (fun _ _ e=>e) (fun _ _ e=>e) rfl rfl) ?_;refine Ja8 w2 ?_;cases q' with
 | none =>
  have hM0:M'=[]:=by have:=hl2.r.nil rfl;cases M' with | nil=>rfl | cons a b=>simp at this
  subst hM0;have bx2:lk H2.boxes li=some (rlC n o l md W (.vec [] true) (.vec [] true) (.vec [] true)):=bx2;have hup:∀ c,lk (up H2.boxes li c) li=some c:=fun c=>by rw[JH,if_pos rfl,bx2];rfl
  have hup2:∀ c,lk (up H2.boxes li c) H.nx=some [c1,c2,.vec (ys.map JO) false]:=fun c=>by rw[JH,if_neg hne];exact bc2
  refine Jm ?_;refine Jj ?_;simp -implicitDefEqProofs (disch:=omega) only[Wz,seval,Ly,Lx,bx2,rlC,Jh,one1,nil1,hf0,true_and,if_true];refine Jm ?_;refine Jj ?_;simp -implicitDefEqProofs (disch:=omega) only[Wz,seval,Ly,Lx,hup,JiB,one1,nil1,hf0,true_and,if_true];refine Jm ?_;refine Jqj (n:=98) (σ':=⟨[(0,.ptr li 0),(1,.lit (.int .i64 (r:Int))),(2,.lit (.int .i64 (a:Int))),(8,.ptr H.nx 0)],⟨up H2.boxes li (rlC n o l md W (.own H2.nx 1) (.own (H2.nx+1) 1) (.own (H2.nx+2) 1)),H2.toks++[(H2.nx,⟨[mR (r,a,ys)],0,1⟩)]++[(H2.nx+1,⟨[mF (r,a,ys)],0,1⟩)]++[(H2.nx+2,⟨[mE (r,a,ys)],0,1⟩)],H2.nx+3⟩,98⟩) (H2.nx+3) 10 (.alt 11 (.alt 12 (.alt 13 .leaf .nil) .nil) .nil) rfl rfl (by decide) (by decide) (by decide) mixed (by kernel_rfl) (by decide) ?_ ?_
  ·simp -implicitDefEqProofs (disch:=omega) only[Wz,seval,Ly,Lx,hup,hup2,JiB,one1,nil1,hf0,hf2,true_and,if_true];exact⟨Jn7 fun t k e=>JbD e,St.wk.cp (Jk (by simp[lk]) (fun _ _ e=>e) (fun _ _ e=>e) rfl rfl)⟩
  have hup3:∀ c,lk (up H2.boxes li c) H.nx=some [c1,c2,.vec (ys.map JO) false]:=fun c=>by rw[JH,if_neg hne];exact bc2
  refine Jj ?_;simp -implicitDefEqProofs (disch:=omega) only[Wz,seval,Ly,Lx,hup3];obtain⟨f1,f2⟩:=hl2.add_none (r,a,ys) _ _ (Jnl bx2) (lk3 hl2.ft _ _ _);refine hQ' _ ⟨_,_,hmf,f1,base.trans f2 (fun j hj=>.inl hj) (fun j hj=>by cases hj),fun j hj=>?_,hnewf⟩;simp only[n3,List.mem_cons,List.not_mem_nil,or_false] at hj;have:=base.nx
  right;omega
 | some x =>
  obtain⟨x,y,z⟩:=x;have bx2:lk H2.boxes li=some (rlC n o l md W (.own x M'.length) (.own y M'.length) (.own z M'.length)):=bx2;have hup:∀ c,lk (up H2.boxes li c) li=some c:=fun c=>by rw[JH,if_pos rfl,bx2];rfl
  have hup2:∀ c,lk (up H2.boxes li c) H.nx=some [c1,c2,.vec (ys.map JO) false]:=fun c=>by rw[JH,if_neg hne];exact bc2
  have nd:=hl2.nd;simp only[n3,List.nodup_cons,List.mem_cons,List.not_mem_nil,or_false,not_or,not_false_eq_true,List.nodup_nil,and_true] at nd;obtain⟨⟨nxy,nxz⟩,nyz⟩:=nd;have tx:=(hl2.r.tk x rfl).1;have ty:=(hl2.f.tk y rfl).1;have tz:=(hl2.e.tk z rfl).1;have ty':∀ c,lk (up H2.toks x c) y=some ⟨M'.map mF,0,1⟩:=fun c=>by rw[JH,if_neg nxy];exact ty
  have tz':∀ c d,lk (up (up H2.toks x c) y d) z=some ⟨M'.map mE,0,1⟩:=fun c d=>by rw[JH,if_neg nyz,JH,if_neg nxz];exact tz
  refine Jm ?_;refine Jj ?_;simp -implicitDefEqProofs (disch:=omega) only[Wz,seval,Ly,Lx,bx2,rlC,Jh,one1,nil1,hf1,tx,true_and,if_true];refine Jm ?_;refine Jj ?_;simp -implicitDefEqProofs (disch:=omega) only[Wz,seval,Ly,Lx,hup,JiB,one1,nil1,hf1,ty',true_and,if_true];refine Jm ?_;refine JeM z (n:=98) (σ':=⟨[(0,.ptr li 0),(1,.lit (.int .i64 (r:Int))),(2,.lit (.int .i64 (a:Int))),(8,.ptr H.nx 0)],⟨up H2.boxes li (rlC n o l md W (.own x (M'.length+1)) (.own y (M'.length+1)) (.own z (M'.length+1))),up (up (up H2.toks x ⟨M'.map mR++[mR (r,a,ys)],0,1⟩) y ⟨M'.map mF++[mF (r,a,ys)],0,1⟩) z ⟨M'.map mE++[mE (r,a,ys)],0,1⟩,H2.nx⟩,98⟩) H2.nx 10 (.alt 11 (.alt 12 (.alt 13 .leaf .nil) .nil) .nil) rfl rfl (by decide) (by decide) (by decide) mixed (by kernel_rfl) (by decide) ?_ ?_
  ·simp -implicitDefEqProofs (disch:=omega) only[Wz,seval,Ly,Lx,hup,hup2,JiB,one1,nil1,hf1,hf3,tz',true_and,if_true];refine And.intro (Jc1 fun t' k' ht' hk=>by rw[JH,if_neg (Ne.symm ht')];exact hk) (And.intro ?_ (St.wk.cp (Jk (by simp[lk]) (fun _ _ e=>e) (fun _ _ e=>e) rfl rfl)));repeat (first | exact Jl | refine Jb (by first | exact Jjw | exact Jjx | exact Jn8 | exact Jjy | exact Jjz | exact JjA | exact JjB | exact Jn9 (by omega)) ?_)
  refine Jj ?_;simp -implicitDefEqProofs (disch:=omega) only[Wz,seval,Ly,Lx,hup2];obtain⟨f1,f2⟩:=hl2.add_some (r,a,ys) _ _ (Jnl bx2) (fun j=>by rw[JdX (tz' _ _),JdX (ty' _),JdX tx,List.map_append,List.map_append,List.map_append]);refine hQ' _ ⟨_,_,hmf,f1,base.trans f2 (fun j hj=>.inl hj) (fun j hj=>?_),fun j hj=>nm1 j (List.mem_append_left _ hj),hnewf⟩;exact nm1 j (List.mem_append_left _ hj)
end Go.Proofs.Y
end
section
namespace Go.Proofs.Y
open Go Go.Ab
section
variable (n:Nt) (o:List Orc) (l:List Un) (md:Int) (W:AV) (k:Nat) (rk:Nat->Nat) (R:Nat)
structure WS (μ li ci:Nat) (T0:List Nat) (H0:Hp) (M0:Mm) (s:Jbd) (out:List En) (M:Mm) (q:Q3) (qc:Q2) (e:Option Nat) (H:Hp):Prop where
 rl:RL n o l md W li M q H
 rc:RC ci s out qc e H
 nd:(own q qc e).Nodup
 mok:JhV n o l md k M
 fq:Fq [li,ci] T0 H0 H
 nm:∀ j∈own q qc e,j∈T0\/H0.nx<=j
 nw:Jnm n l rk R μ M0 M
end
section
variable {n:Nt} {o:List Orc} {l:List Un} {md:Int} {W:AV} {k:Nat} {rk:Nat->Nat} {R:Nat} {μ li ci:Nat} {T0:List Nat} {H0:Hp} {M0:Mm} {s:Jbd} {out:List En} {M:Mm} {q:Q3} {qc:Q2} {e:Option Nat} {H:Hp}
theorem WS.box(h:WS n o l md W k rk R μ li ci T0 H0 M0 s out M q qc e H)(c:List AV):WS n o l md W k rk R μ li ci T0 H0 M0 s out M q qc e ⟨H.boxes++[(H.nx,c)],H.toks,H.nx+1⟩:=by
 have f:=Fq.box (B:=[]) (T:=[]) h.rl.fb h.rl.ft c;exact⟨h.rl.keep f (by simp) (fun j _=>by simp),h.rc.keep f (by simp) (fun j _=>by simp),h.nd,h.mok,h.fq.trans f (fun j hj=>by cases hj) (fun j hj=>by cases hj),h.nm,h.nw⟩
theorem WS.walk(h:WS n o l md W k rk R μ li ci T0 H0 M0 s out M q qc e H)(hne:li≠ci){t:Tr}(hw:Jlv n o l md W k rk R t)(hμ:mT l rk R t<=μ){r:Nat}(hr:r<n.rules.length)(hs:s.Nodup)(hi:InR n l s)(ha:t.acts.length<=Jfg * s.length)(ho:out.length<=s.length) :
  JU Tryz.prog 57 [.ptr li 0,.ptr ci 0,.lit (.int .i64 (r:Int)),.lit (.int .i64 (t.st:Int)),.lit (.int .i64 (t.pos:Int)),.vec (t.acts.map JA) false] H fun v h'=>v = .tup [] /\
   ∃ M' q' qc' e',WS n o l md W k rk R μ li ci T0 H0 M0 (wF n o l md k r t s).1 (out++(wF n o l md k r t s).2) M' q' qc' e' h'/\Fq [li,ci] (own q qc e) H h':=by
 refine JU.mono (hw r li ci M s out q qc e H h.rl h.rc hne h.nd h.mok hr hs hi ha ho) ?_;rintro v h' ⟨rfl,M',q',qc',e',m1,m2,m3,m4,m5,m6,m7⟩;have up:∀ j∈own q' qc' e',j∈T0\/H0.nx<=j:=fun j hj=>by
  rcases m6 j hj with p | p
  ·exact h.nm j p
  ·right;have:=h.fq.nx;omega
 exact⟨rfl,M',q',qc',e',⟨m2,m3,m4,m1,h.fq.trans m5 (fun j hj=>.inl hj) (fun j hj=>h.nm j hj),up,h.nw.trans m7 hμ⟩,m5⟩
theorem WS.keep(h:WS n o l md W k rk R μ li ci T0 H0 M0 s out M q qc e H){H':Hp}{T:List Nat}(f:Fq [] T H H')(hT:∀ j∈own q qc e,j∉T)(hT2:∀ j∈T,H0.nx<=j):WS n o l md W k rk R μ li ci T0 H0 M0 s out M q qc e H' :=
 ⟨h.rl.keep f (by simp) (fun j hj=>hT j (List.mem_append_left _ hj)),h.rc.keep f (by simp) (fun j hj=>hT j (List.mem_append_right _ hj)),h.nd,h.mok,h.fq.trans f (fun j hj=>by cases hj) (fun j hj=>.inr (hT2 j hj)),h.nm,h.nw⟩
theorem WS.ends(h:WS n o l md W k rk R μ li ci T0 H0 M0 s out M q qc e H)(hne:li≠ci){r a:Nat}(hw:JtK n o l md W k rk R r a)(hμ:mT l rk R ⟨stN n r,a,[]⟩<μ) :
  JU Tryz.prog 37 [.ptr li 0,.lit (.int .i64 (r:Int)),.lit (.int .i64 (a:Int))] H fun v h'=>v = .vec ((eF n o l md k r a).map JO) false /\
   ∃ M' q',WS n o l md W k rk R μ li ci T0 H0 M0 s out M' q' qc e h'/\Fq [li] (n3 q) H h':=by
 refine JU.mono (hw li M q H h.rl h.mok) ?_;rintro v h' ⟨rfl,M',q',m1,m2,m3,m4,m5⟩;have hnd:=h.nd;unfold own at hnd;rw[List.nodup_append] at hnd;have hc2:=h.rc.keep m3 (by simpa using Ne.symm hne) (fun j hj hj2=>hnd.2.2 j hj2 j hj rfl);refine⟨rfl,M',q',⟨m2,hc2,?_,m1,h.fq.trans m3 (fun j hj=>.inl (by simp at hj;simp[hj])) (fun j hj=>h.nm j (List.mem_append_left _ hj)),fun j hj=>?_,h.nw.trans m5 hμ⟩,m3⟩
 ·unfold own;rw[List.nodup_append];refine⟨m2.nd,hnd.2.1,fun a ha b hb hab=>?_⟩;subst hab;rcases m4 a ha with p | p
  ·exact hnd.2.2 a p a hb rfl
  ·have:=h.rc.names a hb;omega
 ·rcases List.mem_append.1 hj with hj | hj
  ·rcases m4 j hj with p | p
   ·exact h.nm j (List.mem_append_left _ p)
   ·right;have:=h.fq.nx;omega
  ·exact h.nm j (List.mem_append_right _ hj)
theorem WS.lt(h:WS n o l md W k rk R μ li ci T0 H0 M0 s out M q qc e H):li<H.nx/\ci<H.nx:=⟨h.rl.lt,h.rc.lt⟩
end
theorem RC.addEnd{ci:Nat}{S:Jbd}{O:List En}{q:Q2}{e:Option Nat}{H:Hp}(h:RC ci S O q e H)(fb:∀ j,H.nx<=j->lk H.boxes j=none)(ft:∀ j,H.nx<=j->lk H.toks j=none)(y:En)(B:List (Nat × List AV))(T:List (Nat × Tk))(m:Nat)(e':Option Nat)
  (he:(e=none/\e'=some H.nx/\m=H.nx+1/\∀ j,lk T j=if H.nx=j then some ⟨[JO y],0,2⟩ else lk H.toks j)\/∃ t,e=some t/\e'=some t/\m=H.nx/\∀ j,lk T j=if t=j then some ⟨(O++[y]).map JO,0,2⟩ else lk H.toks j)
  (hB:∀ j,lk B j=if ci=j then some [owV (p1 q) S.length,owV (p2 q) S.length,owV e' (O.length+1)] else lk H.boxes j) :
  RC ci S (O++[y]) q e' ⟨B,T,m⟩/\Fq [ci] (n1 e) H ⟨B,T,m⟩/\∀ j∈n1 e',j∈n1 e\/H.nx<=j:=by
 have hlt:=h.lt;have hnm:=h.names;have fbm:∀ j,H.nx<=j->lk B j=none:=fun j hj=>by rw[hB,if_neg (by omega)];exact fb j hj
 have bx:lk B ci=some [owV (p1 q) S.length,owV (p2 q) S.length,owV e' (O++[y]).length]:=by rw[hB,if_pos rfl,List.length_append];rfl
 have nd:=h.nd;rcases he with ⟨rfl,rfl,rfl,hT⟩ | ⟨t,rfl,rfl,rfl,hT⟩
 ·have hO:O=[]:=by have:=h.en.nil rfl;cases O with | nil=>rfl | cons a b=>simp at this
  subst hO;have old:∀ j,j<H.nx->lk T j=lk H.toks j:=fun j hj=>by rw[hT,if_neg (by omega)]
  have hq:∀ j∈n2 q,j<H.nx:=fun j hj=>hnm j (List.mem_append_left _ hj)
  refine⟨⟨bx,h.s.keep (by show H.nx<=H.nx+1;omega) fun t e=>old t (h.s.tk t e).2,h.p.keep (by show H.nx<=H.nx+1;omega) fun t e=>old t (h.p.tk t e).2,⟨fun q=>(by cases q),fun t e=>?_⟩,?_,by show ci<H.nx+1;omega⟩,⟨by show H.nx<=H.nx+1;omega,fun j _ hj=>?_,fun j hj _=>old j hj,fun j hj=>fbm j (by have hj:H.nx+1<=j:=hj;omega),fun j hj=>?_⟩,fun j hj=>?_⟩
  ·cases e;exact⟨by show lk T H.nx=_;rw[hT,if_pos rfl];rfl,by show H.nx<H.nx+1;omega⟩
  ·rw[List.nodup_append] at nd ⊢;refine⟨nd.1,by simp[n1],fun a ha b hb=>?_⟩;simp only[n1,List.mem_singleton] at hb;have:=hq a ha;omega
  ·show lk B j=_;rw[hB,if_neg (fun q=>hj (by simp[q]))]
  ·have hj:H.nx+1<=j:=hj;show lk T j=_;rw[hT,if_neg (by omega)];exact ft j (by omega)
  ·simp only[n1,List.mem_singleton] at hj
   right;omega
 ·have ht:=(h.en.tk t rfl).2;rw[List.nodup_append] at nd;have old:∀ j,j≠t->lk T j=lk H.toks j:=fun j hj=>by rw[hT,if_neg (Ne.symm hj)]
  have hq:∀ j∈n2 q,j≠t:=fun j hj e=>nd.2.2 j hj t (by simp[n1]) e
  have s1:∀ t',p1 q=some t'->t'∈n2 q:=fun t' e=>by
   cases q with
   | none=>cases e
   | some x=>cases e;simp[n2]
  have s2:∀ t',p2 q=some t'->t'∈n2 q:=fun t' e=>by
   cases q with
   | none=>cases e
   | some x=>cases e;simp[n2]
  refine⟨⟨bx,h.s.keep (Nat.le_refl _) fun t' e=>old t' (hq t' (s1 t' e)),h.p.keep (Nat.le_refl _) fun t' e=>old t' (hq t' (s2 t' e)),⟨fun q=>(by cases q),fun t' e=>?_⟩,h.nd,h.lt⟩,⟨Nat.le_refl _,fun j _ hj=>?_,fun j _ hj=>old j (by simpa [n1] using hj),fbm,fun j hj=>?_⟩,fun j hj=>.inl hj⟩
  ·cases e;exact⟨by show lk T t=_;rw[hT,if_pos rfl],ht⟩
  ·show lk B j=_;rw[hB,if_neg (fun q=>hj (by simp[q]))]
  ·have hj:H.nx<=j:=hj;rw[show lk (Hp.mk B T H.nx).toks j=lk T j from rfl,old j (by omega)];exact ft j hj
end Go.Proofs.Y
end
section
namespace Go.Proofs.Y
open Go Go.Ab
structure Jt2 (n:Nt) (o:List Orc) (l:List Un) (md:Int) (W:AV) (k:Nat) (rk:Nat->Nat) (R:Nat):Prop where
 g:JpY n o l md
 mu:Jl0 n
 fk:Jkv n o l md k
 hrk:Rk n rk
 hR:∀ s,s<n.states.length->rk s<=R
 hW:W.cells=some [W]
section
variable {n:Nt} {o:List Orc} {l:List Un} {md:Int} {W:AV} {k:Nat} {rk:Nat->Nat} {R:Nat} (z:Jt2 n o l md W k rk R) {t:Tr} (ht:Jff n l t)
include z ht
theorem Jmg{t':Tr}(h:t'∈JbC n o l md (eF n o l md k) t):Jff n l t'/\mT l rk R t'<mT l rk R t/\t'.acts.length<=t.acts.length+Jfg:=by
 have hn:=JgS z.g.w z.g.u ht (fun e he h2 y hy=>by
  have hc:=z.g.w.call ht.st he h2;exact JjX z.g.w z.g.u (o:=o) (md:=md) (k:=k) (r:=e.n.toNat) (by omega) ht.pos y hy) h
 exact⟨hn.1,Jth z.hR z.hrk ht hn.1 hn.2.1 hn.2.2,JgT z.g.w z.g.u (fun e he=>z.mu.acts _ e he) h⟩
theorem JtM{e:Ed}(he:e∈(n.states.getD t.st default).edges)(h2:e.op.1=2):e.n.toNat<n.rules.length/\Jff n l ⟨stN n e.n.toNat,t.pos,[]⟩/\mT l rk R ⟨stN n e.n.toNat,t.pos,[]⟩<mT l rk R t:=by
 have hc:=z.g.w.call ht.st he h2;have a1:=z.g.w.start (i:=e.n.toNat) (by omega);have:=z.hrk.call t.st e ht.st he h2;refine⟨by omega,⟨by unfold stN;simp only;omega,ht.pos⟩,?_⟩;unfold mT;simp only;omega
theorem Jzf{r:Nat}{S:Jbd}(hS:S.Nodup)(hi:InR n l S)(hno:(t.st,t.pos)∉S){Ts:List Tr}(hTs:∀ t'∈Ts,Jff n l t'):JqP n l r (S++[(t.st,t.pos)]) (JcN (wF n o l md k r) Ts (S++[(t.st,t.pos)])) :=
 JqP.run (fun t' h' s q1 q2=>Jpb z.g.w z.g.u (hTs t' h') q1 q2) (Jcd hS hno) (hi.snoc ht)
theorem Jrp(ih:∀ t',Jff n l t'->mT l rk R t'<mT l rk R t->Jlv n o l md W k rk R t'){r:Nat}(hr:r<n.rules.length){S:Jbd}(hS:S.Nodup)(hi:InR n l S)(hno:(t.st,t.pos)∉S)(hta:t.acts.length<=Jfg * S.length)
  {O:List En} (hO:O.length<=S.length) {Ts:List Tr} (hTs:∀ t'∈Ts,t'∈JbC n o l md (eF n o l md k) t) {t':Tr} (ht':t'∈JbC n o l md (eF n o l md k) t) {li ci:Nat} (hne:li≠ci) {T0:List Nat} {H0:Hp} {M0 M:Mm} {q:Q3} {qc:Q2} {e:Option Nat} {H:Hp}
  (h:WS n o l md W k rk R (mT l rk R t) li ci T0 H0 M0 (JcN (wF n o l md k r) Ts (S++[(t.st,t.pos)])).1 (O++(JcN (wF n o l md k r) Ts (S++[(t.st,t.pos)])).2) M q qc e H) :
  JU Tryz.prog 57 [.ptr li 0,.ptr ci 0,.lit (.int .i64 (r:Int)),.lit (.int .i64 (t'.st:Int)),.lit (.int .i64 (t'.pos:Int)),.vec (t'.acts.map JA) false] H fun v h'=>v = .tup [] /\
   ∃ M' q' qc' e',WS n o l md W k rk R (mT l rk R t) li ci T0 H0 M0 (JcN (wF n o l md k r) (Ts++[t']) (S++[(t.st,t.pos)])).1 (O++(JcN (wF n o l md k r) (Ts++[t']) (S++[(t.st,t.pos)])).2) M' q' qc' e' h'/\(∀ j,j<H.nx->j≠li->j≠ci->lk h'.boxes j=lk H.boxes j)/\H.nx<=h'.nx:=by
 have ha:=Jzf z ht (o:=o) (md:=md) (k:=k) (r:=r) hS hi hno (Ts:=Ts) fun t' h'=>(Jmg z ht (hTs t' h')).1;obtain⟨more,e1,e2⟩:=ha.ex;have e3:=e2.length_le;rw[List.length_map] at e3;have e4:(JcN (wF n o l md k r) Ts (S++[(t.st,t.pos)])).1.length=S.length+1+more.length:=by rw[e1,List.length_append,List.length_append];rfl
 obtain⟨n1,n2,n3⟩:=Jmg z ht ht';have hap:∀ s,(wF n o l md k r t' s)=JcN (wF n o l md k r) [t'] s:=fun s=>by simp[JcN]
 refine JU.mono (h.walk hne (ih t' n1 n2) (Nat.le_of_lt n2) hr ha.nd ha.inr ?_ ?_) ?_
 ·rw[e4];have:Jfg * (S.length+1+more.length)=Jfg * S.length+Jfg+Jfg * more.length:=by rw[Nat.mul_add,Nat.mul_add,Nat.mul_one]
  omega
 ·rw[List.length_append,e4];omega
 ·rintro v h' ⟨rfl,M',q',qc',e',w1,w2⟩;refine⟨rfl,M',q',qc',e',?_,fun j hj h1 h2=>w2.bx j hj (by simp[h1,h2]),w2.nx⟩;rw[JgR];simp only[<- hap];rw[List.append_assoc] at w1;exact w1
end
theorem JpT{α β:Type}[Inhabited α]{f:α->List β}{E:List α}{i:Nat}(h:i<E.length):(E.take (i+1)).flatMap f=(E.take i).flatMap f++f (E.getD i default):=by
 rw[List.take_succ_eq_append_getElem h,List.flatMap_append,List.getD_eq_getElem?_getD,List.getElem?_eq_getElem h];simp
theorem Jrq{α β:Type}[Inhabited α]{f:α->β}{E:List α}{i:Nat}(h:i<E.length):(E.take (i+1)).map f=(E.take i).map f++[f (E.getD i default)]:=by
 rw[List.take_succ_eq_append_getElem h,List.map_append,List.getD_eq_getElem?_getD,List.getElem?_eq_getElem h];simp
theorem WS.start{n:Nt}{o:List Orc}{l:List Un}{md:Int}{W:AV}{k:Nat}{rk:Nat->Nat}{R:Nat}{μ li ci:Nat}{M:Mm}{q:Q3}{S S':Jbd}{O:List En}{qc qc':Q2}{e:Option Nat}{H h':Hp}(hl:RL n o l md W li M q H)(hc:RC ci S O qc e H)(hne:li≠ci)(hnd:(own q qc e).Nodup)(hm:JhV n o l md k M)
  (hc':RC ci S' O qc' e h') (hf:Fq [ci] (n2 qc) H h') (hn:∀ j∈n2 qc',j∈n2 qc\/H.nx<=j):WS n o l md W k rk R μ li ci (own q qc e) H M S' O M q qc' e h':=by
 have hnd':=hnd;unfold own at hnd';rw[List.nodup_append] at hnd';obtain⟨d1,d2,d3⟩:=hnd';have hl':=hl.keep hf (by simpa using hne) (fun j hj hj2=>d3 j hj j (List.mem_append_left _ hj2) rfl);refine⟨hl',hc',?_,hm,hf.mono (fun j hj=>by simp at hj;simp[hj]) (fun j hj=>by unfold own;simp[hj]),fun j hj=>?_,.refl⟩
 ·unfold own;rw[List.nodup_append];refine⟨d1,hc'.nd,fun a ha b hb hab=>?_⟩;subst hab;rcases List.mem_append.1 hb with hb | hb
  ·rcases hn a hb with p | p
   ·exact d3 a ha a (List.mem_append_left _ p) rfl
   ·have:=hl.names a ha;omega
  ·exact d3 a ha a (List.mem_append_right _ hb) rfl
 ·unfold own at hj ⊢;rcases List.mem_append.1 hj with hj | hj
  ·left;simp[hj]
  ·rcases List.mem_append.1 hj with hj | hj
   ·rcases hn j hj with p | p
    ·left;simp[p]
    ·exact .inr p
   ·left;simp[hj]
end Go.Proofs.Y
end
