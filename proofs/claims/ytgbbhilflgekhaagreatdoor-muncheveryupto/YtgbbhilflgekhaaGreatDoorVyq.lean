/- Parts of the proof, laid together. -/
import Derived.Test.YtgbbhilflgekhaaGreatDoorVyp
set_option linter.unusedVariables false
set_option linter.unusedSimpArgs false
set_option maxRecDepth 20000
set_option maxHeartbeats 16000000
section
namespace Go.Proofs.Y
open Go Go.Ab
def tkV (s:List (Int × Int))(x:Int):Bool:=decide (0<=x/\x<=1114111) && Jlr s x
inductive Pw (n:Nt) (w:List Int) (s0:Nat):Nat->Nat->Prop
 | start:Pw n w s0 s0 0
 | free {s p:Nat} {e:Ed}:Pw n w s0 s p->e∈(n.states.getD s default).edges->e.op.1≠1->e.op.1≠2->Pw n w s0 e.to.toNat p
 | take {s p:Nat} {e:Ed}:Pw n w s0 s p->e∈(n.states.getD s default).edges->e.op.1=1->p<w.length->tkV e.set (w.getD p 0)=true->Pw n w s0 e.to.toNat (p+1)
theorem JjN{w:List Int}{j p:Nat}(h:p<j):(w.take j).getD p 0=w.getD p 0:=by
 rw[List.getD_eq_getElem?_getD,List.getD_eq_getElem?_getD,List.getElem?_take,if_pos h]
theorem Pw.of_take{n:Nt}{w:List Int}{s0 s p j:Nat}(h:Pw n (w.take j) s0 s p):Pw n w s0 s p/\p<=j:=by
 induction h with
 | start=>exact⟨.start,Nat.zero_le _⟩
 | free h he h1 h2 ih=>exact⟨.free ih.1 he h1 h2,ih.2⟩
 | take h he h1 hp ht ih =>
  have hp':=hp;rw[List.length_take] at hp';rw[JjN (by omega)] at ht;exact⟨.take ih.1 he h1 (by omega) ht,by omega⟩
theorem Pw.to_take{n:Nt}{w:List Int}{s0 s p j:Nat}(h:Pw n w s0 s p):p<=j->Pw n (w.take j) s0 s p:=by
 induction h with
 | start=>exact fun _=>.start
 | free h he h1 h2 ih=>exact fun hj=>.free (ih hj) he h1 h2
 | take h he h1 hp ht ih =>
  intro hj;refine .take (ih (by omega)) he h1 (by rw[List.length_take];omega) ?_;rw[JjN (by omega)];exact ht
def NoG (n:Nt)(r:Nat):Prop:=∀ s,s<n.states.length->(n.states.getD s default).rule=(r:Int)->∀ e∈(n.states.getD s default).edges,e.op.1≠3/\e.op.1≠2
def OfR (n:Nt)(r s:Nat):Prop:=s<n.states.length/\(n.states.getD s default).rule=(r:Int)
theorem JjO{n:Nt}{s r:Int}(h:ofN n s r=true):0<=s/\s<(n.states.length:Int)/\(n.states.getD s.toNat default).rule=r:=by
 unfold ofN at h;simp only[Bool.and_eq_true,decide_eq_true_eq,beq_iff_eq] at h;exact h
theorem OfR.edge{n:Nt}(w:Wf n){r s:Nat}(h:OfR n r s){e:Ed}(he:e∈(n.states.getD s default).edges):OfR n r e.to.toNat:=by
 obtain⟨h1,h2,h3⟩:=JjO (w.ed s h.1 e he).1;exact⟨by omega,by rw[h3];exact h.2⟩
theorem OfR.start{n:Nt}(w:Wf n){r:Nat}(hr:r<n.rules.length):OfR n r (stN n r):=by
 obtain⟨h1,h2,h3⟩:=JjO (w.ru r hr).1;exact⟨by unfold stN;omega,by unfold stN;exact h3⟩
theorem JqM{s:List (Int × Int)}(h:Jkr s=true):∀ (d i:Nat),i+d<s.length->(s.getD i default).2<=(s.getD (i+d) default).2:=by
 intro d;induction d with
 | zero=>intro i _;exact Int.le_refl _
 | succ d ih =>
  intro i hi;have h0:=ih i (by omega);have h1:=List.all_eq_true.1 h (i+(d+1)) (List.mem_range.2 hi);unfold Jmq at h1;simp only[decide_eq_true_eq] at h1;obtain⟨h1,h2 | h2⟩:=h1
  ·omega
  ·have e:i+(d+1) - 1=i+d:=by omega
   rw[e] at h2;omega
theorem Jyt{s:List (Int × Int)}(h:Jkr s=true){b:Int}(hb:(s.getD (s.length - 1) default).2<=b){x:Int}(hx:Jlr s x=true):x<=b:=by
 unfold Jlr at hx;obtain⟨q,hq,hx⟩:=List.any_eq_true.1 hx;obtain⟨j,hj,hjq⟩:=List.getElem_of_mem hq;have hm:=JqM h (s.length - 1 - j) j (by omega);have e:j+(s.length - 1 - j)=s.length - 1:=by omega
 have hd:s.getD j default=q:=by rw[List.getD_eq_getElem?_getD,List.getElem?_eq_getElem hj];exact hjq
 rw[e,hd] at hm;unfold Jtd at hx;simp only[decide_eq_true_eq] at hx;omega
theorem Jyu{n:Nt}(w:Wf n){r s:Nat}(h:OfR n r s)(hlx:(n.rules.getD r default).lexer=true){e:Ed}(he:e∈(n.states.getD s default).edges)(h1:e.op.1=1){x:Int}(hx:Jlr e.set x=true):x<=1114111:=by
 obtain⟨_,_,h2,_,h3⟩:=w.ed s h.1 e he;rw[h.2,Int.toNat_natCast] at h2;unfold JE at h2;rw[if_neg (by omega),if_pos h1] at h2;unfold kd1 at h2;rw[hlx] at h2;simp only[Bool.and_eq_true,decide_eq_true_eq,if_true] at h2;exact Jyt h3 h2.2.2 hx
def xsV (l:List Un):List Int:=l.map (·.x)
theorem JkX{l:List Un}{p:Nat}(h:p<l.length):(xsV l).getD p 0=(l.getD p default).x:=by
 unfold xsV;rw[List.getD_eq_getElem?_getD,List.getD_eq_getElem?_getD,List.getElem?_map,List.getElem?_eq_getElem h];rfl
section
variable {n:Nt} {o:List Orc} {l:List Un} {md:Int} {k:Nat} (w:Wf n) (u:JkA l) {r:Nat} (ng:NoG n r) (hlx:(n.rules.getD r default).lexer=true)
include w ng hlx
theorem Js1{E:Nat->Nat->List En}{t t':Tr}{s0:Nat}(ht:OfR n r t.st)(hp:t.pos<l.length)(h:Pw n (xsV l) s0 t.st t.pos)(h':t'∈Jcs n o l md E t):Pw n (xsV l) s0 t'.st t'.pos/\OfR n r t'.st:=by
 obtain⟨e,he,hm⟩:=List.mem_flatMap.1 h';obtain⟨g3,g2⟩:=ng t.st ht.1 ht.2 e he;have hto:=ht.edge w he;unfold Jd1 at hm;rw[if_neg g2] at hm;split at hm
 ·rename_i hg;rw[List.mem_singleton] at hm;subst hm;refine⟨?_,hto⟩;by_cases h1:e.op.1=1
  ·simp only[if_pos h1];unfold goU at hg;rw[if_pos h1,Bool.and_eq_true,decide_eq_true_eq] at hg;have hc:=Jyu w ht hlx he h1 hg.2;refine .take h he h1 (by unfold xsV;rw[List.length_map];exact hp) ?_;rw[JkX hp];unfold tkV;rw[decide_eq_true ⟨hg.1,hc⟩,hg.2];rfl
  ·simp only[if_neg h1];exact .free h he h1 g2
 ·cases hm
theorem JBu{s0:Nat}(u:JkA l):∀ (k:Nat) (t:Tr) (seen:Jbn),OfR n r t.st->t.pos<l.length->Pw n (xsV l) s0 t.st t.pos->∀ y∈(wF n o l md k r t seen).2,Pw n (xsV l) s0 (spN n r) y.pos:=by
 intro k;induction k with
 | zero=>intro t seen h1 h2 h3 y hy;cases hy
 | succ k ih =>
  intro t seen h1 h2 h3 y hy;unfold wF at hy;split at hy
  ·cases hy
  split at hy
  ·rename_i hs;rw[List.mem_singleton] at hy;subst hy;rw[<- hs];exact h3
  ·obtain⟨t',ht',s',hy'⟩:=Jlz hy;obtain⟨q1,q2⟩:=Js1 w ng hlx h1 h2 h3 ht';refine ih t' s' q2 ?_ q1 y hy';obtain⟨e,he,hm⟩:=List.mem_flatMap.1 ht';obtain⟨g3,g2⟩:=ng t.st h1.1 h1.2 e he;exact(Joy w u (E:=fun _ _=>[]) (o:=o) (md:=md) ⟨h1.1,h2⟩ he (fun y hy=>by cases hy) (by unfold Jd1 at hm ⊢;rw[if_neg g2] at hm ⊢;exact hm)).1.pos
end
def Sc (n:Nt)(l:List Un)(q q':Nat × Nat):Prop:=∃ e∈(n.states.getD q.1 default).edges,(e.op.1≠1/\e.op.1≠2/\q'=(e.to.toNat,q.2))\/(e.op.1=1/\tkV e.set ((xsV l).getD q.2 0)=true/\q'=(e.to.toNat,q.2+1))
structure Cm (n:Nt) (l:List Un) (sp:Nat) (S0:Jbn) (q:Jbn × List En):Prop where
 sub:∀ x∈S0,x∈q.1
 cl:∀ x∈q.1,x∉S0->(x.1=sp->∃ y∈q.2,y.pos=x.2)/\(x.1≠sp->∀ x',Sc n l x x'->x'∈q.1)
theorem Cm.trans{n:Nt}{l:List Un}{sp:Nat}{s:Jbn}{a b:Jbn × List En}(h:Cm n l sp s a)(g:Cm n l sp a.1 b):Cm n l sp s (b.1,a.2++b.2):=by
 refine⟨fun x hx=>g.sub x (h.sub x hx),fun x hx hn=>?_⟩;by_cases hxa:x∈a.1
 ·obtain⟨c1,c2⟩:=h.cl x hxa hn;refine⟨fun q=>?_,fun q x' hs=>g.sub x' (c2 q x' hs)⟩;obtain⟨y,hy,e⟩:=c1 q;exact⟨y,List.mem_append_left _ hy,e⟩
 ·obtain⟨c1,c2⟩:=g.cl x hx hxa;refine⟨fun q=>?_,c2⟩;obtain⟨y,hy,e⟩:=c1 q;exact⟨y,List.mem_append_right _ hy,e⟩
theorem Cm.run{n:Nt}{l:List Un}{sp:Nat}{f:Tr->Jbn->Jbn × List En}:∀ {ts:List Tr},(∀ t∈ts,∀ s,Cm n l sp s (f t s)/\(t.st,t.pos)∈(f t s).1)->∀ s,Cm n l sp s (Jd2 f ts s)/\∀ t∈ts,(t.st,t.pos)∈(Jd2 f ts s).1
 | [],_,s=>⟨⟨fun x h=>h,fun x h hn=>absurd h hn⟩,fun t h=>by cases h⟩
 | t :: ts,hf,s=>by
  obtain⟨a1,a2⟩:=hf t (by simp) s;obtain⟨b1,b2⟩:=Cm.run (fun t' h=>hf t' (List.mem_cons_of_mem _ h)) (f t s).1;refine⟨a1.trans b1,fun t' h=>?_⟩;rcases List.mem_cons.1 h with rfl | h
  ·exact b1.sub _ a2
  ·exact b2 t' h
section
variable {n:Nt} {o:List Orc} {l:List Un} {md:Int} {k:Nat} (w:Wf n) (u:JkA l) {r:Nat} (ng:NoG n r) {rk:Nat->Nat} {R:Nat} (hrk:Rk n rk) (hR:∀ s,s<n.states.length->rk s<=R) (fk:JmB n o l md k)
include w u ng hrk hR fk
theorem JBv:∀ (m:Nat) (t:Tr),mT l rk R t<m->JgP n l t->OfR n r t.st->∀ seen,Cm n l (spN n r) seen (wF n o l md k r t seen)/\(t.st,t.pos)∈(wF n o l md k r t seen).1:=by
 intro m;induction m with
 | zero=>intro t h;omega
 | succ m ih =>
  intro t hm ht hof seen;rw[fk.go r t seen ht];by_cases hs:(t.st,t.pos)∈seen
  ·rw[if_pos hs];exact⟨⟨fun x h=>h,fun x h hn=>absurd h hn⟩,hs⟩
  rw[if_neg hs];by_cases hsp:t.st=spN n r
  ·rw[if_pos hsp];refine⟨⟨fun x h=>List.mem_append_left _ h,fun x h hn=>?_⟩,by simp⟩;rcases List.mem_append.1 h with h | h
   ·exact absurd h hn
   ·rw[List.mem_singleton] at h;subst h;exact⟨fun _=>⟨⟨t.pos,t.acts⟩,by simp,rfl⟩,fun q=>absurd hsp q⟩
  rw[if_neg hsp];have hE:∀ e∈(n.states.getD t.st default).edges,e.op.1=2->∀ y∈eF n o l md k e.n.toNat t.pos,t.pos<=y.pos/\y.pos<l.length/\(y.pos=t.pos->stN n e.n.toNat=spN n e.n.toNat\/Nul n (stN n e.n.toNat) (spN n e.n.toNat)):=fun e he h2=>absurd h2 (ng t.st hof.1 hof.2 e he).2;have hof':∀ t'∈Jcs n o l md (eF n o l md k) t,OfR n r t'.st:=fun t' h'=>by
   obtain⟨e,he,hmm⟩:=List.mem_flatMap.1 h';obtain⟨g3,g2⟩:=ng t.st hof.1 hof.2 e he;unfold Jd1 at hmm;rw[if_neg g2] at hmm;split at hmm
   ·rw[List.mem_singleton] at hmm;subst hmm;exact hof.edge w he
   ·cases hmm
  obtain⟨c1,c2⟩:=Cm.run (n:=n) (l:=l) (sp:=spN n r) (f:=wF n o l md k r) (ts:=Jcs n o l md (eF n o l md k) t) (fun t' h' s=>by
   obtain⟨q1,q2,q3⟩:=Jgy w u ht hE h';exact ih t' (by have:=Jsx hR hrk ht q1 q2 q3;omega) q1 (hof' t' h') s) (seen++[(t.st,t.pos)])
  refine⟨⟨fun x h=>c1.sub x (List.mem_append_left _ h),fun x h hn=>?_⟩,c1.sub _ (by simp)⟩;by_cases hx:x=(t.st,t.pos)
  ·subst hx;refine⟨fun q=>absurd q hsp,fun _ x' hsc=>?_⟩;obtain⟨e,he,hc⟩:=hsc;obtain⟨g3,g2⟩:=ng t.st hof.1 hof.2 e he;rcases hc with ⟨h1,h2,rfl⟩ | ⟨h1,h2,rfl⟩
   ·refine c2 ⟨e.to.toNat,t.pos,if e.op.1=7 then t.acts++e.acts else t.acts⟩ (List.mem_flatMap.2 ⟨e,he,?_⟩);unfold Jd1 goU;rw[if_neg g2,if_neg h1,if_neg g3,if_pos rfl,if_neg h1];simp
   ·refine c2 ⟨e.to.toNat,t.pos+1,if e.op.1=7 then t.acts++e.acts else t.acts⟩ (List.mem_flatMap.2 ⟨e,he,?_⟩);rw[JkX ht.pos] at h2;unfold tkV at h2;rw[Bool.and_eq_true,decide_eq_true_eq] at h2;unfold Jd1 goU;rw[if_neg g2,if_pos h1,decide_eq_true h2.1.1,h2.2];simp[h1]
  ·exact c1.cl x h (fun q=>by rcases List.mem_append.1 q with q | q;exact hn q;rw[List.mem_singleton] at q;exact hx q)
theorem Js2(hlx:(n.rules.getD r default).lexer=true)(hr:r<n.rules.length)(hl:0<l.length)(j:Nat):(∃ y∈eF n o l md k r 0,y.pos=j)↔Pw n (xsV l) (stN n r) (spN n r) j:=by
 have hof:=OfR.start w hr;have a1:=w.start hr;have ht:JgP n l ⟨stN n r,0,[]⟩:=⟨hof.1,hl⟩;constructor
 ·rintro⟨y,hy,rfl⟩;exact JBu w ng hlx u k ⟨stN n r,0,[]⟩ [] hof hl .start y hy
 ·obtain⟨c1,c2⟩:=JBv w u ng hrk hR fk _ ⟨stN n r,0,[]⟩ (Nat.lt_succ_self _) ht hof [];have hall:∀ s p,Pw n (xsV l) (stN n r) s p->(s,p)∈(wF n o l md k r ⟨stN n r,0,[]⟩ []).1:=by
   intro s p h;have hstop:∀ {s:Nat} {e:Ed},e∈(n.states.getD s default).edges->s≠spN n r:=fun {s e} he q=>by
    have:=(w.ru r hr).2.2.2;rw[q] at he;unfold spN at he;rw[this] at he;cases he
   induction h with
   | start=>exact c2
   | free h he h1 h2 ih=>exact(c1.cl _ ih (by simp)).2 (hstop he) _ ⟨_,he,.inl ⟨h1,h2,rfl⟩⟩
   | take h he h1 hp ht ih=>exact(c1.cl _ ih (by simp)).2 (hstop he) _ ⟨_,he,.inr ⟨h1,ht,rfl⟩⟩
  intro h;exact(c1.cl _ (hall _ _ h) (by simp)).1 rfl
end
end Go.Proofs.Y
end
section
namespace Go.Proofs.Y
open Go Go.Ab
def Jcf(x:Int):List AV:=[.lit (.int .i64 (-1)),.lit (.int .i64 x)]
theorem Ja(x:Int):(Jcf x).length=2:=rfl
theorem Jhv(x:Int):∀ c∈Jcf x,Ab.Pure c:=Jc (.lit _) (Jc (.lit _) Jm)
theorem JmY(e:Ed)(x:Int)(hs:e.set.length<=2000000000)(hn:e.op.1=2->0<=e.n):JN Tryz.prog 56 [.agg (Jr e),.agg (Jcf x)] (.lit (.bool (decide (e.op.1=1) && tkV e.set x))):=by
 refine JD (Ju Tryz.func56 rfl Tryz.ntmps56 (rs:=[.tmp 4]) rfl (by simp) ?_);obtain⟨v,hv⟩:∃ v,(decide (e.op.1=1) && tkV e.set x)=v:=⟨_,rfl⟩;rw[hv];have fin:∀ h (b:Bool),Jdg h (.lit (.bool b)) (.lit (.bool b)):=fun h b=>Jb (.lit _);refine Jq ?_;refine Jl ?_;simp -implicitDefEqProofs (disch:=omega) only[Wz,seval,Lx];refine Jq ?_;refine Jl ?_;by_cases h1:e.op.1=1
 ·rw[decide_eq_true h1,Bool.true_and] at hv;unfold tkV at hv;have hb:=Jo3 e.set x hs;by_cases x0:x<0
  ·rw[decide_eq_false (by omega),Bool.false_and] at hv;subst hv;simp -implicitDefEqProofs (disch:=omega) only[Wz,seval,Lx,Jr,Jcf,h1];exact fin _ _
  by_cases x1:1114111<x
  ·rw[decide_eq_false (by omega),Bool.false_and] at hv;subst hv;simp -implicitDefEqProofs (disch:=omega) only[Wz,seval,Lx,Jr,Jcf,h1];exact fin _ _
  rw[decide_eq_true (by omega),Bool.true_and] at hv;have hw:IntKind.i32.wrap x=x:=IntWalk.i32_in _ ⟨by omega,by omega⟩;rw[hv] at hb;simp -implicitDefEqProofs (disch:=omega) only[Wz,seval,Lx,Jr,Jcf,h1,hw];refine Jg JxB hb (Jc (.vec (Jk Jb3 _)) (Jc (.lit _) Jm)) (.lit _) ?_;simp -implicitDefEqProofs (disch:=omega) only[Wz,seval,Lx];exact fin _ _
 ·rw[decide_eq_false h1,Bool.false_and] at hv;subst hv;simp -implicitDefEqProofs (disch:=omega) only[Wz,seval,Lx,Jr,Jcf];refine Jl ?_;by_cases h2:e.op.1=2
  ·have:=hn h2;simp -implicitDefEqProofs (disch:=omega) only[Wz,seval,Lx,Jr,Jcf,h2];exact fin _ _
  ·simp -implicitDefEqProofs (disch:=omega) only[Wz,seval,Lx,Jr,Jcf];exact fin _ _
inductive FrC (n:Nt) (Q:Nat->Prop):Nat->Prop
 | base {s:Nat}:Q s->FrC n Q s
 | step {s:Nat} {e:Ed}:FrC n Q s->e∈(n.states.getD s default).edges->e.op.1≠1->e.op.1≠2->FrC n Q e.to.toNat
def onB (b:List Bool)(s:Nat):Prop:=b.getD s false=true
structure FI (n:Nt) (b0 b:List Bool):Prop where
 len:b.length=b0.length
 snd:∀ s,onB b s->FrC n (onB b0) s
 sub:∀ s,onB b0 s->onB b s
theorem FI.refl{n:Nt}{b:List Bool}:FI n b b:=⟨rfl,fun s h=>.base h,fun s h=>h⟩
def Jpj (b:List Bool):Nat:=b.countP (fun x => !x)
theorem JdC{b:List Bool}{i s:Nat}(hi:i<b.length):onB (b.set i true) s↔(s=i\/onB b s):=by
 unfold onB;rw[List.getD_eq_getElem?_getD,List.getD_eq_getElem?_getD,List.getElem?_set];by_cases h:i=s
 ·subst h;simp[hi]
 ·rw[if_neg h];constructor
  ·exact fun q=>.inr q
  ·rintro(q | q)
   ·exact absurd q.symm h
   ·exact q
theorem JlT:∀ {b:List Bool} {i:Nat},i<b.length->b.getD i false=false->Jpj (b.set i true)+1=Jpj b
 | [],i,h,_=>by cases h
 | x :: b,0,h,hx=>by
  have:x=false:=by simpa using hx
  subst this;simp[Jpj]
 | x :: b,i+1,h,hx=>by
  have h1:i<b.length:=by simpa using h
  have ih:=JlT (b:=b) (i:=i) h1 (by simpa using hx);unfold Jpj at ih ⊢;simp only[List.set_cons_succ,List.countP_cons];omega
theorem JkY(b:List Bool)(i:Nat):(b.map Jp).set i [.lit (.bool true)]=(b.set i true).map Jp:=by rw[List.map_set];rfl
theorem JjP(n:Nt)(w:Wf n)(ok:JbU n)(t:Nat)(b0:List Bool)(H:Hp)(hb:b0.length=n.states.length)(ht:lk H.toks t=some ⟨b0.map Jp,0,1⟩)(htn:t<H.nx)(fb:∀ j,H.nx<=j->lk H.boxes j=none)(ft:∀ j,H.nx<=j->lk H.toks j=none) :
  J4 Tryz.prog 55 [.agg (Jh n),.own t b0.length] H fun v h'=>v = .tup []/\Fq [] [t] H h'/\∃ b,b.length=b0.length/\lk h'.toks t=some ⟨b.map Jp,0,1⟩/\∀ s,onB b s↔FrC n (onB b0) s:=by
 refine Ju Tryz.func55 rfl Tryz.ntmps55 (rs:=[]) rfl (by simp) ?_;have hst:=w.nst;obtain⟨Qk,hQ⟩:∃ Qk:AV->Hp->Prop,(fun v h'=>v=AV.tup []/\Fq [] [t] H h'/\∃ b,b.length=b0.length/\lk h'.toks t=some ⟨b.map Jp,0,1⟩/\∀ s,onB b s↔FrC n (onB b0) s)=Qk:=⟨_,rfl⟩;rw[hQ];have f1:=Fq.box (B:=[]) (T:=[t]) fb ft (Jh n);refine Jq ?_;refine Jl ?_;simp -implicitDefEqProofs (disch:=omega) only[Wz,seval,Lx];refine Jq ?_;refine Jl ?_;simp -implicitDefEqProofs (disch:=omega) only[Wz,seval,Lx];refine JQ ?_;obtain⟨IV,hIV⟩:∃ IV:List Bool->Hp->Prop,(fun b H'=>FI n b0 b/\lk H'.toks t=some ⟨b.map Jp,0,1⟩/\lk H'.boxes H.nx=some (Jh n)/\H.nx<H'.nx/\Fq [] [t] H H')=IV:=⟨_,rfl⟩;have hIv:∀ b H',IV b H'↔FI n b0 b/\lk H'.toks t=some ⟨b.map Jp,0,1⟩/\lk H'.boxes H.nx=some (Jh n)/\H.nx<H'.nx/\Fq [] [t] H H':=fun b H'=>by rw[<- hIV]
 have h0:IV b0 ⟨H.boxes++[(H.nx,Jh n)],H.toks,H.nx+1⟩:=(hIv _ _).2 ⟨.refl,ht,Jhu (fb _ (Nat.le_refl _)) _ _,Nat.lt_succ_self _,f1⟩;refine Js (A:=Bool × List Bool × Hp) (fun x=>⟨[(1,.own t b0.length),(2,.ptr H.nx 0),(4,.lit (.bool x.1))],x.2.2,60⟩) (fun x=>IV x.2.1 x.2.2/\(x.1=false->∀ s,onB x.2.1 s->∀ e∈(n.states.getD s default).edges,e.op.1≠1->e.op.1≠2->onB x.2.1 e.to.toNat)) (fun x=>2 * Jpj x.2.1+(if x.1 then 1 else 0)) (true,b0,⟨H.boxes++[(H.nx,Jh n)],H.toks,H.nx+1⟩) (Jn (by simp[lk]) (fun _ _ e=>e) (fun _ _ e=>e) rfl rfl) ⟨h0,fun q=>by cases q⟩ ?_;clear h0;rintro⟨ag,b,H1⟩ ⟨h1,hcl⟩;simp only at h1 hcl ⊢;refine Jq ?_;refine Jl ?_;cases ag with
 | false =>
  simp -implicitDefEqProofs (disch:=omega) only[Wz,seval,Lx];rw[<- hQ];obtain⟨g1,g2,g3,g4,g5⟩:=(hIv _ _).1 h1;refine⟨rfl,g5,b,g1.len,g2,fun s=>⟨g1.snd s,fun h=>?_⟩⟩;induction h with
  | base h=>exact g1.sub _ h
  | step h he e1 e2 ih=>exact hcl rfl _ ih _ he e1 e2
 | true =>
 simp -implicitDefEqProofs (disch:=omega) only[Wz,seval,Lx];refine JQ ?_;refine Jq ?_;refine Jl ?_;simp -implicitDefEqProofs (disch:=omega) only[Wz,seval,Lx];refine Jq ?_;refine Jl ?_;simp -implicitDefEqProofs (disch:=omega) only[Wz,seval,Lx];refine JQ ?_;refine Js (A:=Nat × Bool × List Bool × Hp) (fun x=>⟨[(1,.own t b0.length),(2,.ptr H.nx 0),(4,.lit (.bool x.2.1)),(5,.lit (.int .i64 (x.1:Int)))],x.2.2.2,60⟩) (fun x=>x.1<=b0.length/\IV x.2.2.1 x.2.2.2/\(x.2.1=true->Jpj x.2.2.1<Jpj b)/\(x.2.1=false->x.2.2.1=b/\∀ s,s<x.1->onB b s->∀ e∈(n.states.getD s default).edges,e.op.1≠1->e.op.1≠2->onB b e.to.toNat)) (fun x=>b0.length - x.1) (0,false,b,H1) (Jn (by simp[lk]) (fun _ _ e=>e) (fun _ _ e=>e) rfl rfl) ⟨Nat.zero_le _,h1,fun q=>(by cases q),fun _=>⟨rfl,fun s hs=>(by cases hs)⟩⟩ ?_;clear h1 hcl;rintro⟨i,ag,bi,H2⟩ ⟨hi,h2,ht2,hf2⟩;simp only at hi h2 ht2 hf2 ⊢;refine Jq ?_;refine Jl ?_;rcases Nat.lt_or_ge i b0.length with hlt | hge
 rotate_left
 ·have hie:i=b0.length:=by omega
  subst hie;simp -implicitDefEqProofs (disch:=omega) only[Wz,seval,Lx];refine⟨(ag,bi,H2),⟨h2,fun q s hs e he e1 e2=>?_⟩,?_,Jn (by simp[lk]) (fun _ _ e=>e) (fun _ _ e=>e) rfl rfl⟩
  ·obtain⟨e3,e4⟩:=hf2 q;simp only at e3 hs ⊢;subst e3;refine e4 s ?_ hs e he e1 e2;rw[<- ((hIv _ _).1 h2).1.len];rcases Nat.lt_or_ge s bi.length with q | q
   ·exact q
   ·unfold onB at hs;rw[List.getD_eq_getElem?_getD,List.getElem?_eq_none q] at hs;cases hs
  ·cases ag with
   | true=>have:=ht2 rfl;simp only[if_true];omega
   | false=>have:=(hf2 rfl).1;subst this;simp
 obtain⟨g1,g2,g3,g4,g5⟩:=(hIv _ _).1 h2;have hlen:=g1.len;obtain⟨se,hse⟩:∃ se,n.states.getD i default=se:=⟨_,rfl⟩;obtain⟨E,hE⟩:∃ E,se.edges=E:=⟨_,rfl⟩;have hEl:E.length<=1000000000:=by have:=(ok.edges se (by rw[<- hse];exact Jv (by omega))).1;rw[hE] at this;exact this
 simp -implicitDefEqProofs (disch:=omega) only[Wz,seval,Lx];refine Jq ?_;refine JQ ?_;refine Jq ?_;refine Jl ?_;cases hbi:bi.getD i default with
 | false =>
  simp -implicitDefEqProofs (disch:=omega) only[Wz,seval,Lx,g2,hbi,Jp];refine Jl ?_;simp -implicitDefEqProofs (disch:=omega) only[Wz,seval,Lx];refine⟨(i+1,ag,bi,H2),⟨hlt,h2,ht2,fun q=>⟨(hf2 q).1,fun s hs hon e he e1 e2=>?_⟩⟩,by show b0.length - (i+1)<b0.length - i;omega,Jn (by simp[lk]) (fun _ _ e=>e) (fun _ _ e=>e) rfl rfl⟩;rcases Nat.lt_or_ge s i with q2 | q2
  ·exact(hf2 q).2 s q2 hon e he e1 e2
  ·have:s=i:=by have hs:s<i+1:=hs;omega
   subst this;have hbb:bi=b:=(hf2 q).1;rw[<- hbb] at hon;unfold onB at hon;have hbi:bi.getD s false=false:=hbi;rw[hbi] at hon;cases hon
 | true =>
 simp -implicitDefEqProofs (disch:=omega) only[Wz,seval,Lx,g2,hbi,Jp];have honi:onB bi i:=hbi;clear g1 g2 g3 g4 g5;refine Jq ?_;refine Jl ?_;simp -implicitDefEqProofs (disch:=omega) only[Wz,seval,Lx];refine JQ ?_;refine Js (A:=Nat × Bool × List Bool × Hp) (fun x=>⟨[(1,.own t b0.length),(2,.ptr H.nx 0),(4,.lit (.bool x.2.1)),(5,.lit (.int .i64 (i:Int))),(6,.lit (.int .i64 (x.1:Int)))],x.2.2.2,60⟩)
  (fun x=>x.1<=E.length/\IV x.2.2.1 x.2.2.2/\onB x.2.2.1 i/\(x.2.1=true->Jpj x.2.2.1<Jpj b)/\(x.2.1=false->x.2.2.1=b/\(∀ s,s<i->onB b s->∀ e∈(n.states.getD s default).edges,e.op.1≠1->e.op.1≠2->onB b e.to.toNat)/\∀ k',k'<x.1->(E.getD k' default).op.1≠1->(E.getD k' default).op.1≠2->onB b (E.getD k' default).to.toNat)) (fun x=>E.length - x.1) (0,ag,bi,H2) (Jn (by simp[lk]) (fun _ _ e=>e) (fun _ _ e=>e) rfl rfl) ⟨Nat.zero_le _,h2,honi,ht2,fun q=>⟨(hf2 q).1,(hf2 q).2,fun k hk=>(by cases hk)⟩⟩ ?_
 clear h2 ht2 hf2 honi hbi;rintro⟨k,ag,bk,H3⟩ ⟨hk,h3,hon,ht3,hf3⟩;simp only at hk h3 hon ht3 hf3 ⊢;obtain⟨g1,g2,g3,g4,g5⟩:=(hIv _ _).1 h3;have hlenk:=g1.len;refine Jq ?_;refine Jl ?_;rcases Nat.lt_or_ge k E.length with hkl | hkg
 rotate_left
 ·have hke:k=E.length:=by omega
  subst hke;simp -implicitDefEqProofs (disch:=omega) only[Wz,seval,Lx,g3,Jh,hse,Je,hE];refine Jl ?_;simp -implicitDefEqProofs (disch:=omega) only[Wz,seval,Lx];refine⟨(i+1,ag,bk,H3),⟨hlt,h3,ht3,fun q=>⟨(hf3 q).1,fun s hs hon' e he e1 e2=>?_⟩⟩,by show b0.length - (i+1)<b0.length - i;omega,Jn (by simp[lk]) (fun _ _ e=>e) (fun _ _ e=>e) rfl rfl⟩;rcases Nat.lt_or_ge s i with q2 | q2
  ·exact(hf3 q).2.1 s q2 hon' e he e1 e2
  ·have:s=i:=by have hs:s<i+1:=hs;omega
   subst this;rw[hse,hE] at he;obtain⟨k',hk',hke⟩:=List.getElem_of_mem he;have hd:E.getD k' default=e:=by rw[List.getD_eq_getElem?_getD,List.getElem?_eq_getElem hk'];exact hke
   have:=(hf3 q).2.2 k' hk';rw[hd] at this;exact this e1 e2
 obtain⟨ed,hed⟩:∃ ed,E.getD k default=ed:=⟨_,rfl⟩;have hem:ed∈(n.states.getD i default).edges:=by rw[hse,hE,<- hed];exact Jv hkl
 obtain⟨to0,to1,_⟩:=JjO (w.ed i (by omega) ed hem).1;obtain⟨te,hte⟩:∃ te:Nat,ed.to=(te:Int):=⟨ed.to.toNat,by omega⟩;have hte2:ed.to.toNat=te:=by omega
 simp -implicitDefEqProofs (disch:=omega) only[Wz,seval,Lx,g3,Jh,hse,Je,hE];refine Jq ?_;refine JQ ?_;refine Jq ?_;refine Jl ?_;have hnn:∀ c,lk (H3.boxes++[(H3.nx,c)]) H3.nx=some c:=fun c=>Jhu (g5.fb _ (Nat.le_refl _)) c _;have hu1:∀ c d,up (H3.boxes++[(H3.nx,c)]) H3.nx d=H3.boxes++[(H3.nx,d)]:=fun c d=>Jgw (g5.fb _ (Nat.le_refl _));simp -implicitDefEqProofs (disch:=omega) only[Wz,seval,Lx,g3,Jh,hse,Je,hE,hed,hnn,hu1];refine Jq ?_;refine Jl ?_;have f3:=Fq.box (B:=[]) (T:=[t]) g5.fb g5.ft (Jr ed);have h3':IV bk ⟨H3.boxes++[(H3.nx,Jr ed)],H3.toks,H3.nx+1⟩:=(hIv _ _).2 ⟨g1,g2,(JdB _ (by omega)).trans g3,by show H.nx<H3.nx+1;omega,g5.trans f3 (fun j hj=>by cases hj) (fun j hj=>.inl hj)⟩;have stay:(ed.op.1≠1->ed.op.1≠2->onB bk te)->∀ k',k'<k+1->ag=false->(E.getD k' default).op.1≠1->(E.getD k' default).op.1≠2->onB b (E.getD k' default).to.toNat:=fun hs k' hk' q e1 e2=>by
  rcases Nat.lt_or_ge k' k with q2 | q2
  ·exact(hf3 q).2.2 k' q2 e1 e2
  ·have:k'=k:=by omega
   subst this;rw[hed] at e1 e2 ⊢;rw[hte2,<- (hf3 q).1];exact hs e1 e2
 by_cases e1:ed.op.1=1
 ·have hs:=stay (fun q=>absurd e1 q);simp -implicitDefEqProofs (disch:=omega) only[Wz,seval,Lx,hnn,Jr,e1];refine Jl ?_;simp -implicitDefEqProofs (disch:=omega) only[Wz,seval,Lx];refine Jl ?_;simp -implicitDefEqProofs (disch:=omega) only[Wz,seval,Lx];exact⟨(k+1,ag,bk,⟨H3.boxes++[(H3.nx,Jr ed)],H3.toks,H3.nx+1⟩),⟨hkl,h3',hon,ht3,fun q=>⟨(hf3 q).1,(hf3 q).2.1,fun k' hk'=>hs k' hk' q⟩⟩,by show E.length - (k+1)<E.length - k;omega,Jn (by simp[lk]) (fun _ _ e=>by simpa [Jr,e1] using e) (fun _ _ e=>e) rfl rfl⟩
 by_cases e2:ed.op.1=2
 ·have hs:=stay (fun _ q=>absurd e2 q);simp -implicitDefEqProofs (disch:=omega) only[Wz,seval,Lx,hnn,Jr,e2];refine Jl ?_;simp -implicitDefEqProofs (disch:=omega) only[Wz,seval,Lx];refine Jl ?_;simp -implicitDefEqProofs (disch:=omega) only[Wz,seval,Lx];exact⟨(k+1,ag,bk,⟨H3.boxes++[(H3.nx,Jr ed)],H3.toks,H3.nx+1⟩),⟨hkl,h3',hon,ht3,fun q=>⟨(hf3 q).1,(hf3 q).2.1,fun k' hk'=>hs k' hk' q⟩⟩,by show E.length - (k+1)<E.length - k;omega,Jn (by simp[lk]) (fun _ _ e=>by simpa [Jr,e2] using e) (fun _ _ e=>e) rfl rfl⟩
 have htl:te<bk.length:=by omega
 cases hbt:bk.getD te default with
 | true =>
  have hs:=stay (fun _ _=>hbt);simp -implicitDefEqProofs (disch:=omega) only[Wz,seval,Lx,hnn,Jr,hte,g2,hbt,Jp];refine Jl ?_;simp -implicitDefEqProofs (disch:=omega) only[Wz,seval,Lx];refine Jl ?_;simp -implicitDefEqProofs (disch:=omega) only[Wz,seval,Lx];exact⟨(k+1,ag,bk,⟨H3.boxes++[(H3.nx,Jr ed)],H3.toks,H3.nx+1⟩),⟨hkl,h3',hon,ht3,fun q=>⟨(hf3 q).1,(hf3 q).2.1,fun k' hk'=>hs k' hk' q⟩⟩,by show E.length - (k+1)<E.length - k;omega,Jn (by simp[lk]) (fun _ _ e=>by simpa [Jr,hte] using e) (fun _ _ e=>e) rfl rfl⟩
 | false =>
  have hgi:(bk.map Jp)[te]? = some [.lit (.bool false)]:=by
   rw[List.getElem?_map,List.getElem?_eq_getElem htl];rw[List.getD_eq_getElem?_getD,List.getElem?_eq_getElem htl] at hbt;rw[Option.getD_some] at hbt;rw[hbt];rfl
  simp -implicitDefEqProofs (disch:=omega) only[Wz,seval,Lx,hnn,Jr,hte,g2,hbt,Jp];refine Jl ?_;simp -implicitDefEqProofs (disch:=omega) only[Wz,seval,Lx,hnn,g2,hgi,JkY];refine Jl ?_;simp -implicitDefEqProofs (disch:=omega) only[Wz,seval,Lx];have hoff:=JlT htl hbt;have f4:Fq [] [t] H3 ⟨H3.boxes++[(H3.nx,Jr ed)],up H3.toks t ⟨(bk.set te true).map Jp,0,1⟩,H3.nx+1⟩:=by
   refine⟨Nat.le_succ _,fun j hj _=>JdB _ (by omega),fun j hj hjt=>?_,fun j hj=>?_,fun j hj=>?_⟩
   ·show lk (up H3.toks t _) j=_;rw[Jpi g2,if_neg (fun q=>hjt (by simp[q]))]
   ·have hj:H3.nx+1<=j:=hj;exact(JdB _ (by omega)).trans (g5.fb j (by omega))
   ·have hj:H3.nx+1<=j:=hj;have:=g5.nx;show lk (up H3.toks t _) j=_;rw[Jpi g2,if_neg (by omega)];exact g5.ft j (by omega)
  refine⟨(k+1,true,bk.set te true,⟨H3.boxes++[(H3.nx,Jr ed)],up H3.toks t ⟨(bk.set te true).map Jp,0,1⟩,H3.nx+1⟩),⟨hkl,(hIv _ _).2 ⟨⟨by rw[List.length_set];exact g1.len,fun s hs=>?_,fun s hs=>(JdC htl).2 (.inr (g1.sub s hs))⟩,?_,(JdB _ (by omega)).trans g3,by show H.nx<H3.nx+1;omega,g5.trans f4 (fun j hj=>by cases hj) (fun j hj=>.inl hj)⟩,(JdC htl).2 (.inr hon),fun _=>?_,fun q=>(by cases q)⟩,by show E.length - (k+1)<E.length - k;omega,Jn (by simp[lk]) (fun _ _ e=>by simpa [Jr,hte] using e) (fun _ _ e=>e) rfl rfl⟩
  ·rcases(JdC htl).1 hs with rfl | hs
   ·rw[<- hte2];exact .step (g1.snd i hon) hem e1 e2
   ·exact g1.snd s hs
  ·show lk (up H3.toks t _) t=_;rw[Jpi g2,if_pos rfl]
  ·show Jpj (bk.set te true)<Jpj b;cases ag with
   | true=>have:=ht3 rfl;omega
   | false=>have:=(hf3 rfl).1;subst this;omega
end Go.Proofs.Y
end
section
namespace Go.Proofs.Y
open Go Go.Ab
theorem Jd(x:Int):(Jcf x).take 2=Jcf x:=rfl
theorem FrC.mono{n:Nt}{Q Q':Nat->Prop}(h:∀ s,Q s->Q' s){s:Nat}(f:FrC n Q s):FrC n Q' s:=by
 induction f with
 | base q=>exact .base (h _ q)
 | step _ he h1 h2 ih=>exact .step ih he h1 h2
theorem FrC.congr{n:Nt}{Q Q':Nat->Prop}(h:∀ s,Q s↔Q' s){s:Nat}:FrC n Q s↔FrC n Q' s:=⟨.mono fun s=>(h s).1,.mono fun s=>(h s).2⟩
theorem Js3{n:Nt}{w:List Int}{s0 s:Nat}:Pw n w s0 s 0↔FrC n (fun q=>q=s0) s:=by
 constructor
 ·intro h;generalize hp:0=p at h;induction h with
  | start=>exact .base rfl
  | free h he h1 h2 ih=>exact .step (ih hp) he h1 h2
  | take h he h1 hq ht ih=>omega
 ·intro h;induction h with
  | base q=>subst q;exact .start
  | step h he h1 h2 ih=>exact .free ih he h1 h2
def Tk1 (n:Nt)(x:Int)(Q:Nat->Prop)(q:Nat):Prop:=∃ s e,Q s/\e∈(n.states.getD s default).edges/\e.op.1=1/\tkV e.set x=true/\q=e.to.toNat
theorem Js4{n:Nt}{w:List Int}{s0 s i:Nat}(hi:i<w.length):Pw n w s0 s (i+1)↔FrC n (Tk1 n (w.getD i 0) fun q=>Pw n w s0 q i) s:=by
 constructor
 ·intro h;generalize hp:i+1=p at h;induction h with
  | start=>omega
  | free h he h1 h2 ih=>exact .step (ih hp) he h1 h2
  | take h he h1 hq ht ih =>
   have:i=_:=Nat.succ.inj hp;subst this;exact .base ⟨_,_,h,he,h1,ht,rfl⟩
 ·intro h;induction h with
  | base q =>
   obtain⟨s,e,h1,h2,h3,h4,rfl⟩:=q;exact .take h1 h2 h3 hi h4
  | step h he h1 h2 ih=>exact .free ih he h1 h2
theorem JBi(N:Nat):List.replicate N [AV.lit (.bool false)]=(List.replicate N false).map Jp:=by rw[List.map_replicate];rfl
theorem Jpk(N s:Nat):¬ onB (List.replicate N false) s:=by
 unfold onB;rw[List.getD_eq_getElem?_getD,List.getElem?_replicate];split <;> simp
structure JyV (n:Nt) (t:Nat) (Q:Nat->Prop) (H:Hp):Prop where
 ex:∃ b:List Bool,b.length=n.states.length/\lk H.toks t=some ⟨b.map Jp,0,1⟩/\∀ s,onB b s↔Q s
 lt:t<H.nx
theorem JmZ(n:Nt)(w:Wf n)(ok:JbU n)(r:Nat)(hr:r<n.rules.length)(H:Hp)(fb:∀ j,H.nx<=j->lk H.boxes j=none)(ft:∀ j,H.nx<=j->lk H.toks j=none) :
  J4 Tryz.prog 34 [.agg (Jh n),.lit (.int .i64 (r:Int))] H fun v h'=>∃ t,v = .own t n.states.length/\H.nx<=t/\Fq [] [] H h'/\JyV n t (FrC n fun q=>q=stN n r) h':=by
 refine Ju Tryz.func34 rfl Tryz.ntmps34 (rs:=[.tmp 4]) rfl (by simp) ?_;have hst:=w.nst;have a1:=w.start hr;obtain⟨rr,hrr⟩:∃ rr,n.rules.getD r default=rr:=⟨_,rfl⟩;have hsr:rr.start=(stN n r:Int):=by
  unfold stN;rw[hrr] at a1 ⊢;omega
 have hof:=OfR.start w hr;obtain⟨N,hN⟩:∃ N,n.states.length=N:=⟨_,rfl⟩;obtain⟨s0,hs0⟩:∃ s0,stN n r=s0:=⟨_,rfl⟩;rw[hs0] at hsr hof ⊢;have hs0l:s0<N:=by rw[<- hN];exact hof.1
 have hnn:∀ c,lk (H.boxes++[(H.nx,c)]) H.nx=some c:=fun c=>Jhu (fb _ (Nat.le_refl _)) c _;have hif:(0<=(N:Int)/\(N:Int)<=(N:Int)/\(N:Int)<=9223372036854775807/\((1:Nat):Int) * (N:Int)<=281474976710656)=True:=by simp;omega
 refine Jq ?_;refine Jl ?_;simp -implicitDefEqProofs (disch:=omega) only[Wz,seval,Ja,Jd,Lx];refine Jq ?_;refine Jl ?_;simp -implicitDefEqProofs (disch:=omega) only[Wz,seval,Ja,Jd,Lx,hnn,Jh,hN,hif,JBi,if_true];have tn:∀ c x,lk (H.toks++(H.nx+1,c) :: x) (H.nx+1)=some c:=fun c x=>Jhu (ft _ (by omega)) c x;have ut:∀ c d,up (H.toks++[(H.nx+1,c)]) (H.nx+1) d=H.toks++[(H.nx+1,d)]:=fun c d=>Jgw (ft _ (by omega));have hrl:(List.replicate N false).length=N:=List.length_replicate;have hgi:((List.replicate N false).map Jp)[s0]? = some [.lit (.bool false)]:=by rw[List.getElem?_map,List.getElem?_replicate,if_pos hs0l];rfl
 refine Jq ?_;refine Jl ?_;simp -implicitDefEqProofs (disch:=omega) only[Wz,seval,Ja,Jd,Lx,hnn,Jh,hrr,Jf,hsr,tn,ut,hgi,hrl,JkY];obtain⟨b,hb⟩:∃ b,(List.replicate N false).set s0 true=b:=⟨_,rfl⟩;have hbl:b.length=N:=by rw[<- hb,List.length_set];exact hrl
 rw[hb];have f1:Fq [] [] H ⟨H.boxes++[(H.nx,Jh n)],H.toks++[(H.nx+1,⟨b.map Jp,0,1⟩)],H.nx+2⟩:=by
  refine⟨by show H.nx<=H.nx+2;omega,fun j hj _=>JdB _ (by omega),fun j hj _=>JdB _ (by omega),fun j hj=>?_,fun j hj=>?_⟩
  ·have hj:H.nx+2<=j:=hj;exact(JdB _ (by omega)).trans (fb j (by omega))
  ·have hj:H.nx+2<=j:=hj;exact(JdB _ (by omega)).trans (ft j (by omega))
 have hfr:=JjP n w ok (H.nx+1) b ⟨H.boxes++[(H.nx,Jh n)],H.toks++[(H.nx+1,⟨b.map Jp,0,1⟩)],H.nx+2⟩ (by rw[hN];exact hbl) (tn _ _) (by show H.nx+1<H.nx+2;omega) f1.fb f1.ft;rw[hbl] at hfr;have hon:∀ s,onB b s↔s=s0:=fun s=>by
  rw[<- hb,JdC (by rw[hrl];exact hs0l)];exact⟨fun q=>q.resolve_right (Jpk N s),.inl⟩
 refine Jq ?_;refine Jl ?_;simp -implicitDefEqProofs (disch:=omega) only[Wz,seval,Ja,Jd,Lx,hnn];refine JM Jri hfr ?_;rintro v h2 ⟨rfl,f2,b2,hb2,ht2,hon2⟩;simp -implicitDefEqProofs (disch:=omega) only[Wz,seval,Ja,Jd,Lx];refine Jl ?_;simp -implicitDefEqProofs (disch:=omega) only[Wz,seval,Ja,Jd,Lx];refine⟨H.nx+1,rfl,by omega,f1.trans f2 (fun j hj=>by cases hj) (fun j hj=>.inr (by rw[List.mem_singleton] at hj;omega)),⟨b2,by rw[hb2];exact hN.symm,ht2,fun s=>?_⟩,Nat.lt_of_lt_of_le (by show H.nx+1<H.nx+2;omega) f2.nx⟩;rw[hon2];exact FrC.congr hon
theorem JkZ(n:Nt)(w:Wf n)(ok:JbU n)(t:Nat)(x:Int)(Q:Nat->Prop)(H:Hp)(hb:JyV n t Q H)(fb:∀ j,H.nx<=j->lk H.boxes j=none)(ft:∀ j,H.nx<=j->lk H.toks j=none) :
  J4 Tryz.prog 35 [.agg (Jh n),.own t n.states.length,.agg (Jcf x)] H fun v h'=>∃ t',v = .own t' n.states.length/\H.nx<=t'/\Fq [] [] H h'/\JyV n t' (FrC n (Tk1 n x Q)) h':=by
 refine Ju Tryz.func35 rfl Tryz.ntmps35 (rs:=[.tmp 6]) rfl (by simp) ?_;have hst:=w.nst;obtain⟨⟨b,hbl,tk,hbQ⟩,htl⟩:=hb;obtain⟨N,hN⟩:∃ N,n.states.length=N:=⟨_,rfl⟩;rw[hN] at hbl ⊢;have hn1:∀ c x,lk (H.boxes++(H.nx,c) :: x) H.nx=some c:=fun c x=>Jhu (fb _ (Nat.le_refl _)) c x;have hkj:∀ (B:List (Nat × List AV)) (j:Nat),lk (H.boxes++B) (H.nx+j)=lk B (H.nx+j):=fun B j=>by rw[JP,fb _ (by omega)];simp
 have n2:H.nx+1+1=H.nx+2:=rfl;have hif:(0<=(N:Int)/\(N:Int)<=(N:Int)/\(N:Int)<=9223372036854775807/\((1:Nat):Int) * (N:Int)<=281474976710656)=True:=by simp;omega
 have tn:∀ c x,lk (H.toks++(H.nx+2,c) :: x) (H.nx+2)=some c:=fun c x=>Jhu (ft _ (by omega)) c x;have ut:∀ c d,up (H.toks++[(H.nx+2,c)]) (H.nx+2) d=H.toks++[(H.nx+2,d)]:=fun c d=>Jgw (ft _ (by omega));have to:∀ c,lk (H.toks++[(H.nx+2,c)]) t=some ⟨b.map Jp,0,1⟩:=fun c=>(JdB _ (by omega)).trans tk;refine Jq ?_;refine Jl ?_;simp -implicitDefEqProofs (disch:=omega) only[Wz,seval,Ja,Jd,Lx];refine Jq ?_;refine Jl ?_;simp -implicitDefEqProofs (disch:=omega) only[Wz,seval,Ja,Jd,Lx,List.append_assoc,n2,hif,JBi,if_true];refine Jq ?_;refine Jq ?_;refine Jl ?_;simp -implicitDefEqProofs (disch:=omega) only[Wz,seval,Ja,Jd,Lx];refine JQ ?_;obtain⟨IV,hIv⟩:∃ IV:List Bool->Prop,∀ c,IV c↔c.length=N/\∀ s,onB c s->Tk1 n x Q s:=⟨fun c=>c.length=N/\∀ s,onB c s->Tk1 n x Q s,fun _=>Iff.rfl⟩;have h0:IV (List.replicate N false):=(hIv _).2 ⟨List.length_replicate,fun s h=>absurd h (Jpk N s)⟩;refine Js (A:=Nat × List Bool) (fun z=>⟨[(1,.own t N),(3,.ptr H.nx 0),(5,.ptr (H.nx+1) 0),(7,.own (H.nx+2) N),(8,.lit (.int .i64 (z.1:Int)))],⟨H.boxes++[(H.nx,Jh n),(H.nx+1,Jcf x)],H.toks++[(H.nx+2,⟨z.2.map Jp,0,1⟩)],H.nx+3⟩,62⟩) (fun z=>z.1<=N/\IV z.2/\∀ s,s<z.1->onB b s->∀ e∈(n.states.getD s default).edges,e.op.1=1->tkV e.set x=true->onB z.2 e.to.toNat) (fun z=>N - z.1) (0,List.replicate N false) (Jn (by simp[lk]) (fun _ _ e=>e) (fun _ _ e=>e) rfl rfl) ⟨Nat.zero_le _,h0,fun s hs=>(by cases hs)⟩ ?_;clear h0;rintro⟨i,c⟩ ⟨hi,h1,hc1⟩;simp only at hi h1 hc1 ⊢;refine Jq ?_;refine Jl ?_;rcases Nat.lt_or_ge i N with hlt | hge
 rotate_left
 ·have hie:i=N:=by omega
  obtain⟨i1,i2⟩:=(hIv _).1 h1;have hon:∀ s,onB c s↔Tk1 n x Q s:=fun s=>by
   refine⟨i2 s,?_⟩;rintro⟨s',e,q1,q2,q3,q4,rfl⟩;have q1:=(hbQ s').2 q1;refine hc1 s' ?_ q1 e q2 q3 q4;rw[hie,<- hbl];rcases Nat.lt_or_ge s' b.length with q | q
   ·exact q
   ·unfold onB at q1;rw[List.getD_eq_getElem?_getD,List.getElem?_eq_none q] at q1;cases q1
  have f1:Fq [] [] H ⟨H.boxes++[(H.nx,Jh n),(H.nx+1,Jcf x)],H.toks++[(H.nx+2,⟨c.map Jp,0,1⟩)],H.nx+3⟩:=by
   refine⟨by show H.nx<=H.nx+3;omega,fun j hj _=>?_,fun j hj _=>JdB _ (by omega),fun j hj=>?_,fun j hj=>?_⟩
   ·show lk (H.boxes++_) j=_;rw[JP];simp only[lk];rw[if_neg (by omega),if_neg (by omega),Option.or_none]
   ·have hj:H.nx+3<=j:=hj;show lk (H.boxes++_) j=_;rw[JP,fb j (by omega)];simp only[lk];rw[if_neg (by omega),if_neg (by omega)];rfl
   ·have hj:H.nx+3<=j:=hj;exact(JdB _ (by omega)).trans (ft j (by omega))
  have hfr:=JjP n w ok (H.nx+2) c ⟨H.boxes++[(H.nx,Jh n),(H.nx+1,Jcf x)],H.toks++[(H.nx+2,⟨c.map Jp,0,1⟩)],H.nx+3⟩ (by rw[hN];exact i1) (tn _ _) (by show H.nx+2<H.nx+3;omega) f1.fb f1.ft;rw[i1] at hfr;simp -implicitDefEqProofs (disch:=omega) only[Wz,seval,Ja,Jd,Lx];refine Jq ?_;refine Jl ?_;simp -implicitDefEqProofs (disch:=omega) only[Wz,seval,Ja,Jd,Lx,hn1,J6,Jay];refine JM Jri hfr ?_;rintro v h2 ⟨rfl,f2,b2,hb2,ht2,hon2⟩;simp -implicitDefEqProofs (disch:=omega) only[Wz,seval,Ja,Jd,Lx];refine Jl ?_;simp -implicitDefEqProofs (disch:=omega) only[Wz,seval,Ja,Jd,Lx];refine⟨H.nx+2,rfl,by omega,f1.trans f2 (fun j hj=>by cases hj) (fun j hj=>.inr (by rw[List.mem_singleton] at hj;omega)),⟨b2,by rw[hb2];exact hN.symm,ht2,fun s=>?_⟩,Nat.lt_of_lt_of_le (by show H.nx+2<H.nx+3;omega) f2.nx⟩;rw[hon2];exact FrC.congr hon
 obtain⟨se,hse⟩:∃ se,n.states.getD i default=se:=⟨_,rfl⟩;obtain⟨E,hE⟩:∃ E,se.edges=E:=⟨_,rfl⟩;have hEl:E.length<=1000000000:=by have:=(ok.edges se (by rw[<- hse];exact Jv (by omega))).1;rw[hE] at this;exact this
 simp -implicitDefEqProofs (disch:=omega) only[Wz,seval,Ja,Jd,Lx];refine Jq ?_;refine JQ ?_;refine Jq ?_;refine Jl ?_;cases hbi:b.getD i default with
 | false =>
  simp -implicitDefEqProofs (disch:=omega) only[Wz,seval,Ja,Jd,Lx,to,hbi,Jp];refine Jl ?_;simp -implicitDefEqProofs (disch:=omega) only[Wz,seval,Ja,Jd,Lx];refine⟨(i+1,c),⟨hlt,h1,fun s hs hon e he e1 e2=>?_⟩,by show N - (i+1)<N - i;omega,Jn (by simp[lk]) (fun _ _ e=>e) (fun _ _ e=>e) rfl rfl⟩;rcases Nat.lt_or_ge s i with q2 | q2
  ·exact hc1 s q2 hon e he e1 e2
  ·have:s=i:=by have hs:s<i+1:=hs;omega
   subst this;unfold onB at hon;have hbi:b.getD s false=false:=hbi;rw[hbi] at hon;cases hon
 | true =>
 simp -implicitDefEqProofs (disch:=omega) only[Wz,seval,Ja,Jd,Lx,to,hbi,Jp];have honi:onB b i:=hbi;refine Jq ?_;refine Jl ?_;simp -implicitDefEqProofs (disch:=omega) only[Wz,seval,Ja,Jd,Lx];refine JQ ?_;refine Js (A:=Nat × List Bool) (fun z=>⟨[(1,.own t N),(3,.ptr H.nx 0),(5,.ptr (H.nx+1) 0),(7,.own (H.nx+2) N),(8,.lit (.int .i64 (i:Int))),(9,.lit (.int .i64 (z.1:Int)))],⟨H.boxes++[(H.nx,Jh n),(H.nx+1,Jcf x)],H.toks++[(H.nx+2,⟨z.2.map Jp,0,1⟩)],H.nx+3⟩,62⟩)
  (fun z=>z.1<=E.length/\IV z.2/\(∀ s,s<i->onB b s->∀ e∈(n.states.getD s default).edges,e.op.1=1->tkV e.set x=true->onB z.2 e.to.toNat)/\∀ k,k<z.1->(E.getD k default).op.1=1->tkV (E.getD k default).set x=true->onB z.2 (E.getD k default).to.toNat) (fun z=>E.length - z.1) (0,c) (Jn (by simp[lk]) (fun _ _ e=>e) (fun _ _ e=>e) rfl rfl) ⟨Nat.zero_le _,h1,hc1,fun k hk=>(by cases hk)⟩ ?_
 clear h1 hc1;rintro⟨k,d⟩ ⟨hk,h1,hd1,hd2⟩;simp only at hk h1 hd1 hd2 ⊢;refine Jq ?_;refine Jl ?_;rcases Nat.lt_or_ge k E.length with hkl | hkg
 rotate_left
 ·have hke:k=E.length:=by omega
  subst hke;simp -implicitDefEqProofs (disch:=omega) only[Wz,seval,Ja,Jd,Lx,hn1,Jh,hse,Je,hE];refine Jl ?_;simp -implicitDefEqProofs (disch:=omega) only[Wz,seval,Ja,Jd,Lx];refine⟨(i+1,d),⟨hlt,h1,fun s hs hon' e he e1 e2=>?_⟩,by show N - (i+1)<N - i;omega,Jn (by simp[lk]) (fun _ _ e=>e) (fun _ _ e=>e) rfl rfl⟩;rcases Nat.lt_or_ge s i with q2 | q2
  ·exact hd1 s q2 hon' e he e1 e2
  ·have:s=i:=by have hs:s<i+1:=hs;omega
   subst this;rw[hse,hE] at he;obtain⟨k',hk',hke⟩:=List.getElem_of_mem he;have hdd:E.getD k' default=e:=by rw[List.getD_eq_getElem?_getD,List.getElem?_eq_getElem hk'];exact hke
   have:=hd2 k' hk';rw[hdd] at this;exact this e1 e2
 obtain⟨ed,hed⟩:∃ ed,E.getD k default=ed:=⟨_,rfl⟩;have hem:ed∈(n.states.getD i default).edges:=by rw[hse,hE,<- hed];exact Jv hkl
 obtain⟨to0,to1,_⟩:=JjO (w.ed i (by omega) ed hem).1;obtain⟨te,hte⟩:∃ te:Nat,ed.to=(te:Int):=⟨ed.to.toNat,by omega⟩;have hte2:ed.to.toNat=te:=by omega
 have eok:=(ok.edges _ (Jv (show i<n.states.length by omega))).2 ed hem;have htk:=JmY ed x (by have:=eok.set;omega) (fun q=>(w.call (by omega) hem q).1);obtain⟨v,hv⟩:∃ v,(decide (ed.op.1=1) && tkV ed.set x)=v:=⟨_,rfl⟩;rw[hv] at htk;obtain⟨j1,j2⟩:=(hIv _).1 h1;simp -implicitDefEqProofs (disch:=omega) only[Wz,seval,Ja,Jd,Lx,hn1,Jh,hse,Je,hE];refine Jq ?_;refine JQ ?_;refine Jq ?_;refine Jw (n:=62) rfl (by decide) mixed ?_;simp -implicitDefEqProofs (disch:=omega) only[Wz,seval,Ja,Jd,Lx,hn1,hkj,lk,Jh,hse,Je,hE,hed];refine Jax Jxn htk (Jc (.agg (Jbi _)) (Jc (.agg (Jhv _)) Jm)) (.lit _) ?_;cases v with
 | false =>
  simp -implicitDefEqProofs (disch:=omega) only[Wz,seval,Ja,Jd,Lx];refine Jl ?_;simp -implicitDefEqProofs (disch:=omega) only[Wz,seval,Ja,Jd,Lx];refine Jl ?_;simp -implicitDefEqProofs (disch:=omega) only[Wz,seval,Ja,Jd,Lx];refine⟨(k+1,d),⟨hkl,h1,hd1,fun k' hk' e1 e2=>?_⟩,by show E.length - (k+1)<E.length - k;omega,Jn (by simp[lk]) (fun _ _ e=>e) (fun _ _ e=>e) rfl rfl⟩;rcases Nat.lt_or_ge k' k with q2 | q2
  ·exact hd2 k' q2 e1 e2
  ·have:k'=k:=by have hk':k'<k+1:=hk';omega
   subst this;have hed:E.getD k' default=ed:=hed;rw[hed] at e1 e2;rw[decide_eq_true e1,e2] at hv;cases hv
 | true =>
  rw[Bool.and_eq_true,decide_eq_true_eq] at hv;have htl:te<d.length:=by omega
  obtain⟨bt,hbt⟩:∃ bt,d.getD te default=bt:=⟨_,rfl⟩;have hgi:(d.map Jp)[te]? = some [.lit (.bool bt)]:=by
   rw[List.getElem?_map,List.getElem?_eq_getElem htl];rw[List.getD_eq_getElem?_getD,List.getElem?_eq_getElem htl] at hbt;rw[Option.getD_some] at hbt;rw[hbt];rfl
  simp -implicitDefEqProofs (disch:=omega) only[Wz,seval,Ja,Jd,Lx];refine Jl ?_;simp -implicitDefEqProofs (disch:=omega) only[Wz,seval,Ja,Jd,Lx,hn1,Jh,hse,Je,hE,hed,Jr,hte,tn,ut,hgi,JkY];refine Jl ?_;simp -implicitDefEqProofs (disch:=omega) only[Wz,seval,Ja,Jd,Lx];refine⟨(k+1,d.set te true),⟨hkl,(hIv _).2 ⟨by rw[List.length_set];exact j1,fun s hs=>?_⟩,fun s hs hon e he e1 e2=>(JdC htl).2 (.inr (hd1 s hs hon e he e1 e2)),fun k' hk' e1 e2=>?_⟩,by show E.length - (k+1)<E.length - k;omega,Jn (by simp[lk]) (fun _ _ e=>e) (fun _ _ e=>e) rfl rfl⟩
  ·rcases(JdC htl).1 hs with rfl | hs
   ·exact⟨i,ed,(hbQ i).1 honi,hem,hv.1,hv.2,hte2.symm⟩
   ·exact j2 s hs
  ·rcases Nat.lt_or_ge k' k with q2 | q2
   ·exact(JdC htl).2 (.inr (hd2 k' q2 e1 e2))
   ·have:k'=k:=by have hk':k'<k+1:=hk';omega
    subst this;have hed:E.getD k' default=ed:=hed;exact(JdC htl).2 (.inl (by rw[hed,hte2]))
end Go.Proofs.Y
end
section
namespace Go.Proofs.Y
open Go Go.Ab
theorem Jm0(n:Nt)(hok:okV n=true)(ok:JbU n)(r:Nat)(hr:r<n.rules.length)(ws:List Int)(hw:ws.length<=600) :
  ∃ v:Bool,(v=true↔Pw n ws (stN n r) (spN n r) ws.length)/\JN Tryz.prog 14 [.agg (Jh n),.lit (.int .i64 (r:Int)),.vec (ws.map Jcf) false] (.lit (.bool v)):=by
 have w:=(Jgv hok).1;refine⟨@decide _ (Classical.propDecidable (Pw n ws (stN n r) (spN n r) ws.length)),@decide_eq_true_iff _ (Classical.propDecidable _),?_⟩;obtain⟨v,hv⟩:∃ v:Bool,@decide _ (Classical.propDecidable (Pw n ws (stN n r) (spN n r) ws.length))=v:=⟨_,rfl⟩;have hvp:v=true↔Pw n ws (stN n r) (spN n r) ws.length:=by rw[<- hv];exact @decide_eq_true_iff _ (Classical.propDecidable _)
 rw[hv];clear hv;refine JD (Ju Tryz.func14 rfl Tryz.ntmps14 (rs:=[.tmp 6]) rfl (by simp) ?_);have hck:=JgH n ok;rw[hok] at hck;have gN:GP (.agg (Jh n)):=.of_pure (.agg (J8 _));have hst:=w.nst;have hru:=w.nru;have a2:=w.stop hr;obtain⟨rr,hrr⟩:∃ rr,n.rules.getD r default=rr:=⟨_,rfl⟩;have hsp:rr.stop=(spN n r:Int):=by
  unfold spN;rw[hrr] at a2 ⊢;omega
 obtain⟨so1,so2,_⟩:=JjO (w.ru r hr).2.1;have hspl:spN n r<n.states.length:=by unfold spN;omega
 refine Jq ?_;refine Jl ?_;simp -implicitDefEqProofs (disch:=omega) only[Wz,seval,Ja,Jd,Lx];refine Jq ?_;refine Jl ?_;simp -implicitDefEqProofs (disch:=omega) only[Wz,seval,Ja,Jd,Lx,J6,Jay];refine JR Jrb hck (Jc gN Jm) (.lit _) ?_;simp -implicitDefEqProofs (disch:=omega) only[Wz,seval,Ja,Jd,Lx,Jh,if_true];refine Jq ?_;refine Jl ?_;simp -implicitDefEqProofs (disch:=omega) only[Wz,seval,Ja,Jd,Lx,J6,Jay];refine JM Jxc (JmZ n w ok r hr _ ?_ ?_) ?_
 ·exact fun i hi=>Jmz (N:=1) (by simp) hi
 ·exact fun i hi=>rfl
 rintro v' h2 ⟨t,rfl,hnt,f2,br⟩;have hb0:lk h2.boxes 0=some (Jh n):=by
  rw[f2.bx 0 (by show 0<1;decide) (by simp)];rfl
 simp -implicitDefEqProofs (disch:=omega) only[Wz,seval,Ja,Jd,Lx];refine Jq ?_;refine Jq ?_;refine Jl ?_;simp -implicitDefEqProofs (disch:=omega) only[Wz,seval,Ja,Jd,Lx];refine JQ ?_;refine Js (A:=Nat × Nat × Hp) (fun z=>⟨[(1,.lit (.int .i64 (r:Int))),(2,.vec (ws.map Jcf) false),(3,.ptr 0 0),(7,.own z.2.1 n.states.length),(8,.lit (.int .i64 (z.1:Int)))],z.2.2,53⟩) (fun z=>z.1<=ws.length/\lk z.2.2.boxes 0=some (Jh n)/\JyV n z.2.1 (fun q=>Pw n ws (stN n r) q z.1) z.2.2/\(∀ j,z.2.2.nx<=j->lk z.2.2.boxes j=none)/\(∀ j,z.2.2.nx<=j->lk z.2.2.toks j=none)/\0<z.2.2.nx) (fun z=>ws.length - z.1) (0,t,h2) (Jn (by simp[lk]) (fun _ _ e=>e) (fun _ _ e=>e) rfl rfl) ⟨Nat.zero_le _,hb0,?_,f2.fb,f2.ft,?_⟩ ?_
 ·obtain⟨⟨b,q1,q2,q3⟩,q4⟩:=br;exact⟨⟨b,q1,q2,fun s=>(q3 s).trans Js3.symm⟩,q4⟩
 ·have:=f2.nx;have h1:(1:Nat)<=h2.nx:=this;show 0<h2.nx;omega
 clear hb0 br f2 hnt;rintro⟨i,t,H⟩ ⟨hi,hb,br,fb,ft,hn⟩;simp only at hi hb br fb ft hn ⊢;refine Jq ?_;refine Jl ?_;rcases Nat.lt_or_ge i ws.length with hlt | hge
 rotate_left
 ·have hie:i=ws.length:=by omega
  subst hie;obtain⟨⟨b,q1,q2,q3⟩,q4⟩:=br;have hbv:b.getD (spN n r) default=v:=by
   have:=(q3 (spN n r)).trans hvp.symm;unfold onB at this;rw[Bool.eq_iff_iff];exact this
  simp -implicitDefEqProofs (disch:=omega) only[Wz,seval,Ja,Jd,Lx];refine Jq ?_;refine Jl ?_;simp -implicitDefEqProofs (disch:=omega) only[Wz,seval,Ja,Jd,Lx,hb,Jh,hrr,Jf,hsp,q2,hbv,Jp];refine Jl ?_;simp -implicitDefEqProofs (disch:=omega) only[Wz,seval,Ja,Jd,Lx];exact Jb (.lit _)
 obtain⟨x,hx⟩:∃ x,ws.getD i default=x:=⟨_,rfl⟩;have hx0:ws.getD i 0=x:=hx;simp -implicitDefEqProofs (disch:=omega) only[Wz,seval,Ja,Jd,Lx];refine Jq ?_;refine JQ ?_;refine JdK (n:=53) 6 (.alt 6 (.alt 7 .leaf .nil) .nil) rfl (by decide) (by decide) mixed (by kernel_rfl) (by decide) ?_;simp -implicitDefEqProofs (disch:=omega) only[Wz,seval,Ja,Jd,Lx,hb,J6,Jay,hx];refine JM Jxd (JkZ n w ok t x _ H br fb ft) ?_;rintro v' h3 ⟨t',rfl,hnt,f3,br3⟩;simp -implicitDefEqProofs (disch:=omega) only[Wz,seval,Ja,Jd,Lx];refine Jl ?_;simp -implicitDefEqProofs (disch:=omega) only[Wz,seval,Ja,Jd,Lx];refine⟨(i+1,t',h3),⟨hlt,by rw[f3.bx 0 hn (by simp)];exact hb,?_,f3.fb,f3.ft,Nat.lt_of_lt_of_le hn f3.nx⟩,by show ws.length - (i+1)<ws.length - i;omega,Jn (by simp[lk]) (fun _ _ e=>e) (fun _ _ e=>e) rfl rfl⟩;obtain⟨⟨b,q1,q2,q3⟩,q4⟩:=br3;refine⟨⟨b,q1,q2,fun s=>(q3 s).trans ?_⟩,q4⟩;rw[<- hx0];exact(Js4 hlt).symm
noncomputable def Jhw(n:Nt)(r:Nat):Bool:=n.states.any fun s=>decide (s.rule=(r:Int)) && s.edges.any fun e=>decide (e.op.1=3\/e.op.1=2)
theorem Jyv{n:Nt}{r:Nat}(h:Jhw n r=false):NoG n r:=fun s hs hr e he=>by
 unfold Jhw at h;rw[List.any_eq_false] at h;have h1:=h _ (Jv hs);rw[decide_eq_true hr,Bool.true_and,Bool.not_eq_true,List.any_eq_false] at h1;have h2:=h1 e he;simp only[decide_eq_true_eq,not_or] at h2;exact h2
theorem JjQ(n:Nt)(ok:JbU n)(r:Nat):JN Tryz.prog 12 [.agg (Jh n),.lit (.int .i64 (r:Int))] (.lit (.bool (Jhw n r))):=by
 refine JD (Ju Tryz.func12 rfl Tryz.ntmps12 (rs:=[.tmp 4]) rfl (by simp) ?_);have hst:=ok.states;obtain⟨v,hv⟩:∃ v,Jhw n r=v:=⟨_,rfl⟩;rw[hv];obtain⟨P,hP⟩:∃ P:Sta->Bool,(fun s=>decide (s.rule=(r:Int)) && s.edges.any fun e=>decide (e.op.1=3\/e.op.1=2))=P:=⟨_,rfl⟩;have hPs:∀ s,P s=(decide (s.rule=(r:Int)) && s.edges.any fun e=>decide (e.op.1=3\/e.op.1=2)):=fun s=>by rw[<- hP]
 unfold Jhw at hv;rw[hP] at hv;clear hP;obtain⟨p,hp⟩:∃ p:Ed->Bool,(fun e=>decide (e.op.1=3\/e.op.1=2))=p:=⟨_,rfl⟩;have hps:∀ e,p e=decide (e.op.1=3\/e.op.1=2):=fun s=>by rw[<- hp]
 rw[hp] at hPs;clear hp;refine Jq ?_;refine Jl ?_;simp -implicitDefEqProofs (disch:=omega) only[Wz,seval,Ja,Jd,Lx];refine Jq ?_;refine Jq ?_;refine Jl ?_;simp -implicitDefEqProofs (disch:=omega) only[Wz,seval,Ja,Jd,Lx];refine JQ ?_;refine Js (fun i:Nat=>⟨[(1,.lit (.int .i64 (r:Int))),(2,.ptr 0 0),(5,.lit (.int .i64 (i:Int)))],⟨[(0,Jh n)],[],1⟩,49⟩) (fun i=>i<=n.states.length/\(n.states.drop i).any P=v) (fun i=>n.states.length - i) 0 (Jn (by simp[lk]) (fun _ _ e=>e) (fun _ _ e=>e) rfl rfl) ⟨Nat.zero_le _,by rw[List.drop_zero];exact hv⟩ ?_;clear hv;rintro i ⟨hi,hv⟩;refine Jq ?_;refine Jl ?_;rcases Nat.lt_or_ge i n.states.length with hlt | hge
 rotate_left
 ·have hie:i=n.states.length:=by omega
  subst hie;rw[List.drop_length] at hv;simp -implicitDefEqProofs (disch:=omega) only[Wz,seval,Ja,Jd,Lx,Jh];refine Jl ?_;simp -implicitDefEqProofs (disch:=omega) only[Wz,seval,Ja,Jd,Lx];rw[<- hv];exact Jb (.lit _)
 obtain⟨se,hse⟩:∃ se,n.states.getD i default=se:=⟨_,rfl⟩;obtain⟨E,hE⟩:∃ E,se.edges=E:=⟨_,rfl⟩;have hEl:E.length<=1000000000:=by have:=(ok.edges se (by rw[<- hse];exact Jv hlt)).1;rw[hE] at this;exact this
 rw[JbE hlt,hse,List.any_cons,hPs,hE] at hv;simp -implicitDefEqProofs (disch:=omega) only[Wz,seval,Ja,Jd,Lx,Jh];refine Jq ?_;refine JQ ?_;refine Jq ?_;refine Jl ?_;by_cases hru:se.rule=(r:Int);rotate_left
 ·rw[decide_eq_false hru,Bool.false_and,Bool.false_or] at hv;have c1:(se.rule != (r:Int))=true:=by simpa using hru
  simp -implicitDefEqProofs (disch:=omega) only[Wz,seval,Ja,Jd,Lx,Jh,hse,Je,c1];refine Jl ?_;simp -implicitDefEqProofs (disch:=omega) only[Wz,seval,Ja,Jd,Lx];exact⟨i+1,⟨hlt,hv⟩,by omega,Jn (by simp[lk]) (fun _ _ e=>e) (fun _ _ e=>e) rfl rfl⟩
 rw[decide_eq_true hru,Bool.true_and] at hv;have c1:(se.rule != (r:Int))=false:=by simpa using hru
 simp -implicitDefEqProofs (disch:=omega) only[Wz,seval,Ja,Jd,Lx,Jh,hse,Je,c1];refine Jq ?_;refine Jl ?_;simp -implicitDefEqProofs (disch:=omega) only[Wz,seval,Ja,Jd,Lx,Jh,hse,Je,hE];refine Jq ?_;refine Jl ?_;simp -implicitDefEqProofs (disch:=omega) only[Wz,seval,Ja,Jd,Lx];refine JQ ?_;refine Js (fun k:Nat=>⟨[(1,.lit (.int .i64 (r:Int))),(2,.ptr 0 0),(5,.lit (.int .i64 (i:Int))),(6,.vec (E.map Jr) false),(7,.lit (.int .i64 (k:Int)))],⟨[(0,Jh n)],[],1⟩,49⟩) (fun k=>k<=E.length/\(E.drop k).any p=E.any p) (fun k=>E.length - k) 0 (Jn (by simp[lk]) (fun _ _ e=>by simpa [Jh] using e) (fun _ _ e=>e) rfl rfl) ⟨Nat.zero_le _,by rw[List.drop_zero]⟩ ?_;rintro k ⟨hk,hkv⟩;refine Jq ?_;refine Jl ?_;rcases Nat.lt_or_ge k E.length with hkl | hkg
 rotate_left
 ·have hke:k=E.length:=by omega
  subst hke;rw[List.drop_length] at hkv;rw[<- hkv] at hv;simp -implicitDefEqProofs (disch:=omega) only[Wz,seval,Ja,Jd,Lx];refine Jl ?_;simp -implicitDefEqProofs (disch:=omega) only[Wz,seval,Ja,Jd,Lx];exact⟨i+1,⟨hlt,by simpa using hv⟩,by omega,Jn (by simp[lk]) (fun _ _ e=>e) (fun _ _ e=>e) rfl rfl⟩
 obtain⟨ed,hed⟩:∃ ed,E.getD k default=ed:=⟨_,rfl⟩;rw[JbE hkl,hed,List.any_cons,hps] at hkv;simp -implicitDefEqProofs (disch:=omega) only[Wz,seval,Ja,Jd,Lx];refine Jq ?_;refine JQ ?_;refine Jq ?_;refine Jl ?_;by_cases e3:ed.op.1=3
 ·rw[decide_eq_true (.inl e3),Bool.true_or] at hkv;rw[<- hkv,Bool.true_or] at hv;subst hv;simp -implicitDefEqProofs (disch:=omega) only[Wz,seval,Ja,Jd,Lx,hed,Jr,e3];refine Jl ?_;simp -implicitDefEqProofs (disch:=omega) only[Wz,seval,Ja,Jd,Lx];exact Jb (.lit _)
 by_cases e2:ed.op.1=2
 ·rw[decide_eq_true (.inr e2),Bool.true_or] at hkv;rw[<- hkv,Bool.true_or] at hv;subst hv;simp -implicitDefEqProofs (disch:=omega) only[Wz,seval,Ja,Jd,Lx,hed,Jr,e2];refine Jl ?_;simp -implicitDefEqProofs (disch:=omega) only[Wz,seval,Ja,Jd,Lx];exact Jb (.lit _)
 rw[decide_eq_false (by omega),Bool.false_or] at hkv;simp -implicitDefEqProofs (disch:=omega) only[Wz,seval,Ja,Jd,Lx,hed,Jr];refine Jl ?_;simp -implicitDefEqProofs (disch:=omega) only[Wz,seval,Ja,Jd,Lx];refine Jl ?_;simp -implicitDefEqProofs (disch:=omega) only[Wz,seval,Ja,Jd,Lx];exact⟨k+1,⟨hkl,hkv⟩,by omega,Jn (by simp[lk]) (fun _ _ e=>e) (fun _ _ e=>e) rfl rfl⟩
end Go.Proofs.Y
end
