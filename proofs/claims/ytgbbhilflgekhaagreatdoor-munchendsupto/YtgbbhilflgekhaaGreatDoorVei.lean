/- Parts of the proof, laid together. -/
import Derived.Test.YtgbbhilflgekhaaGreatDoorVeh
import Derived.Lib.DecodeN
import Derived.Shelf.Spec.SlicesGrow
set_option linter.unusedVariables false
set_option linter.unusedSimpArgs false
set_option maxRecDepth 20000
set_option maxHeartbeats 16000000
section
namespace Go.Proofs.Y
open Go Go.Ab
structure Un where
 x:Int
 pos:Nat
 col:Nat
instance:Inhabited Un:=⟨⟨0,0,0⟩⟩
structure En where
 pos:Nat
 acts:List (Int × Int)
instance:Inhabited En:=⟨⟨0,[]⟩⟩
structure Tr where
 st:Nat
 pos:Nat
 acts:List (Int × Int)
instance:Inhabited Tr:=⟨⟨0,0,[]⟩⟩
abbrev Jbd:=List (Nat × Nat)
section
variable (n:Nt) (o:List Orc) (l:List Un) (md:Int)
def goU (e:Ed)(p:Nat):Bool :=
 if e.op.1=1 then decide (0<=(l.getD p default).x) && Jnv e.set (l.getD p default).x
 else if e.op.1=3 then ckG e.g && JaN ⟨(p:Int),((l.getD p default).col:Int),(l.getD p default).x,md⟩ o e.g
 else true
def Jcq (E:Nat->Nat->List En)(e:Ed)(t:Tr):List Tr :=
 if e.op.1=2 then (E e.n.toNat t.pos).map fun y=>⟨e.to.toNat,y.pos,t.acts⟩
 else if goU o l md e t.pos then [⟨e.to.toNat,if e.op.1=1 then t.pos+1 else t.pos,if e.op.1=7 then t.acts++e.acts else t.acts⟩] else []
def JbC(E:Nat->Nat->List En)(t:Tr):List Tr:=(n.states.getD t.st default).edges.flatMap fun e=>Jcq o l md E e t
def JcN (f:Tr->Jbd->Jbd × List En):List Tr->Jbd->Jbd × List En
 | [],s=>(s,[])
 | t :: ts,s=>((JcN f ts (f t s).1).1,(f t s).2++(JcN f ts (f t s).1).2)
def wF:Nat->Nat->Tr->Jbd->Jbd × List En
 | 0,_,_,seen=>(seen,[])
 | k+1,r,t,seen =>
  if (t.st,t.pos)∈seen then (seen,[])
  else if t.st=spN n r then (seen++[(t.st,t.pos)],[⟨t.pos,t.acts⟩])
  else JcN (wF k r) (JbC n o l md (fun r' a=>(wF k r' ⟨stN n r',a,[]⟩ []).2) t) (seen++[(t.st,t.pos)])
def eF (k r a:Nat):List En:=(wF n o l md k r ⟨stN n r,a,[]⟩ []).2
theorem JgR(f:Tr->Jbd->Jbd × List En)(a b:List Tr)(s:Jbd):JcN f (a++b) s=((JcN f b (JcN f a s).1).1,(JcN f a s).2++(JcN f b (JcN f a s).1).2):=by
 induction a generalizing s with
 | nil=>simp[JcN]
 | cons t ts ih=>simp only[List.cons_append,JcN,ih,List.append_assoc]
theorem JmY{f g:Tr->Jbd->Jbd × List En}{a:List Tr}(h:∀ t∈a,∀ s,f t s=g t s)(s:Jbd):JcN f a s=JcN g a s:=by
 induction a generalizing s with
 | nil=>rfl
 | cons t ts ih =>
  have h1:=h t (by simp) s;simp only[JcN,h1];rw[ih fun t ht=>h t (by simp[ht])]
theorem JqO{f:Tr->Jbd->Jbd × List En}{a:List Tr}{s:Jbd}{y:En}(h:y∈(JcN f a s).2):∃ t∈a,∃ s',y∈(f t s').2:=by
 induction a generalizing s with
 | nil=>simp[JcN] at h
 | cons t ts ih =>
  simp only[JcN,List.mem_append] at h;rcases h with h | h
  ·exact⟨t,by simp,s,h⟩
  ·obtain⟨t',h1,h2⟩:=ih h;exact⟨t',by simp[h1],h2⟩
end
structure Jnz (l:List Un):Prop where
 ne:0<l.length
 last:(l.getD (l.length - 1) default).x = -1
structure Jff (n:Nt) (l:List Un) (t:Tr):Prop where
 st:t.st<n.states.length
 pos:t.pos<l.length
theorem Jnz.next{l:List Un}(h:Jnz l){p:Nat}(hp:p<l.length)(h0:0<=(l.getD p default).x):p+1<l.length:=by
 rcases Nat.lt_or_ge (p+1) l.length with q | q
 ·exact q
 ·have:p=l.length - 1:=by omega
  rw[this,h.last] at h0;omega
section
variable {n:Nt} {o:List Orc} {l:List Un} {md:Int} (w:Wf n) (u:Jnz l)
include w u
theorem Jr9{E:Nat->Nat->List En}{t t':Tr}{e:Ed}(ht:Jff n l t)(he:e∈(n.states.getD t.st default).edges)(hE:∀ y∈E e.n.toNat t.pos,t.pos<=y.pos/\y.pos<l.length/\(y.pos=t.pos->stN n e.n.toNat=spN n e.n.toNat\/Nul n (stN n e.n.toNat) (spN n e.n.toNat)))
  (h:t'∈Jcq o l md E e t):Jff n l t'/\t.pos<=t'.pos/\(t'.pos=t.pos->Nul n t.st t'.st):=by
 have hto:=w.to ht.st he;unfold Jcq at h;by_cases h2:e.op.1=2
 ·rw[if_pos h2] at h;obtain⟨y,hy,rfl⟩:=List.mem_map.1 h;obtain⟨y1,y2,y3⟩:=hE y hy;have hc:=w.call ht.st he h2;refine⟨⟨by simp only;omega,y2⟩,y1,fun q=>?_⟩;rcases y3 q with y3 | y3
  ·have hr:e.n.toNat<n.rules.length:=by omega
   have:=(w.ru _ hr).2.2.1;have a1:=w.start hr;have a2:=w.stop hr;unfold stN spN at y3;omega
  ·exact .call ht.st he h2 y3
 ·rw[if_neg h2] at h;split at h
  ·rename_i hg;rw[List.mem_singleton] at h;subst h;by_cases h1:e.op.1=1
   ·have hx:0<=(l.getD t.pos default).x:=by
     unfold goU at hg;rw[if_pos h1] at hg;simp only[Bool.and_eq_true,decide_eq_true_eq] at hg;exact hg.1
    have:=u.next ht.pos hx;simp only[if_pos h1];exact⟨⟨by simp only;omega,this⟩,by omega,fun q=>by omega⟩
   ·simp only[if_neg h1];exact⟨⟨by simp only;omega,ht.pos⟩,Nat.le_refl _,fun _=>.edge ht.st he h1 h2⟩
  ·cases h
theorem JgS{E:Nat->Nat->List En}{t t':Tr}(ht:Jff n l t)(hE:∀ e∈(n.states.getD t.st default).edges,e.op.1=2->∀ y∈E e.n.toNat t.pos,t.pos<=y.pos/\y.pos<l.length/\(y.pos=t.pos->stN n e.n.toNat=spN n e.n.toNat\/Nul n (stN n e.n.toNat) (spN n e.n.toNat)))
  (h:t'∈JbC n o l md E t):Jff n l t'/\t.pos<=t'.pos/\(t'.pos=t.pos->Nul n t.st t'.st):=by
 unfold JbC at h;obtain⟨e,he,h⟩:=List.mem_flatMap.1 h;by_cases h2:e.op.1=2
 ·exact Jr9 w u ht he (hE e he h2) h
 ·refine Jr9 w u (o:=o) (md:=md) (E:=fun _ _=>[]) ht he (fun y hy=>by cases hy) ?_;unfold Jcq at h ⊢;rw[if_neg h2] at h ⊢;exact h
theorem Jtg{k:Nat}:∀ {r:Nat} {t:Tr} {seen:Jbd},Jff n l t->∀ y∈(wF n o l md k r t seen).2,t.pos<=y.pos/\y.pos<l.length/\(y.pos=t.pos->t.st=spN n r\/Nul n t.st (spN n r)):=by
 induction k with
 | zero=>intro r t seen ht y hy;simp[wF] at hy
 | succ k ih =>
  intro r t seen ht y hy;unfold wF at hy;split at hy
  ·cases hy
  split at hy
  ·rename_i hs;simp only[List.mem_singleton] at hy;subst hy;exact⟨Nat.le_refl _,ht.pos,fun _=>.inl hs⟩
  ·obtain⟨t',h1,s',h2⟩:=JqO hy;have hn:=JgS w u ht (fun e he h2 y hy=>by
    have hc:=w.call ht.st he h2;have a1:=w.start (i:=e.n.toNat) (by omega);exact ih (t:=⟨stN n e.n.toNat,t.pos,[]⟩) ⟨by unfold stN;simp only;omega,ht.pos⟩ y hy) h1
   obtain⟨q1,q2,q3⟩:=ih hn.1 y h2;refine⟨Nat.le_trans hn.2.1 q1,q2,fun q=>?_⟩;have e1:t'.pos=t.pos:=by have:=hn.2.1;omega
   have hu:=hn.2.2 e1;rcases q3 (by omega) with q | q
   ·rw[<- q];exact .inr hu
   ·exact .inr (.step hu q)
theorem JjX{k r a:Nat}(hr:r<n.rules.length)(ha:a<l.length):∀ y∈eF n o l md k r a,a<=y.pos/\y.pos<l.length/\(y.pos=a->stN n r=spN n r\/Nul n (stN n r) (spN n r)):=by
 have a1:=w.start hr;exact fun y hy=>Jtg w u (t:=⟨stN n r,a,[]⟩) ⟨by unfold stN;simp only;omega,ha⟩ y hy
def mT (l:List Un)(rk:Nat->Nat)(R:Nat)(t:Tr):Nat:=(l.length - t.pos) * (R+1)+rk t.st
omit w u in
theorem Jth{rk:Nat->Nat}{R:Nat}{t t':Tr}(hR:∀ s,s<n.states.length->rk s<=R)(hrk:Rk n rk)(ht:Jff n l t)(ht':Jff n l t')(h1:t.pos<=t'.pos)(h2:t'.pos=t.pos->Nul n t.st t'.st):mT l rk R t'<mT l rk R t:=by
 unfold mT;have a:=hR _ ht'.st;rcases Nat.eq_or_lt_of_le h1 with q | q
 ·have:=hrk.nul _ _ (h2 q.symm);rw[q];omega
 ·have b:=ht'.pos;have c:l.length - t.pos=(l.length - t'.pos)+(t'.pos - t.pos):=by omega
  rw[c,Nat.add_mul];have d:1 * (R+1)<=(t'.pos - t.pos) * (R+1):=Nat.mul_le_mul_right _ (by omega);omega
theorem JyN{rk:Nat->Nat}{R:Nat}(hR:∀ s,s<n.states.length->rk s<=R)(hrk:Rk n rk):∀ (k k' r:Nat) (t:Tr) (seen:Jbd),Jff n l t->mT l rk R t<k->mT l rk R t<k'->wF n o l md k r t seen=wF n o l md k' r t seen:=by
 intro k;induction k with
 | zero=>intro k' r t seen ht h;omega
 | succ k ih =>
  intro k' r t seen ht h h';obtain⟨k1,rfl⟩:∃ k1,k'=k1+1:=⟨k' - 1,by omega⟩;unfold wF;split
  ·rfl
  split
  ·rfl
  ·have hE:∀ e∈(n.states.getD t.st default).edges,e.op.1=2->wF n o l md k e.n.toNat ⟨stN n e.n.toNat,t.pos,[]⟩ []=wF n o l md k1 e.n.toNat ⟨stN n e.n.toNat,t.pos,[]⟩ []:=fun e he h2=>by
    have hc:=w.call ht.st he h2;have a1:=w.start (i:=e.n.toNat) (by omega);have hok:Jff n l ⟨stN n e.n.toNat,t.pos,[]⟩:=⟨by unfold stN;simp only;omega,ht.pos⟩;have hm:mT l rk R ⟨stN n e.n.toNat,t.pos,[]⟩<mT l rk R t:=by
     unfold mT;have:=hrk.call _ _ ht.st he h2;simp only;omega
    exact ih k1 _ _ _ hok (by omega) (by omega)
   have hnx:JbC n o l md (fun r' a=>(wF n o l md k r' ⟨stN n r',a,[]⟩ []).2) t=JbC n o l md (fun r' a=>(wF n o l md k1 r' ⟨stN n r',a,[]⟩ []).2) t:=by
    unfold JbC;simp only[List.flatMap_def];congr 1
    refine List.map_congr_left fun e he=>?_
    unfold Jcq;split
    ·rename_i h2;simp only;rw[hE e he h2]
    ·rfl
   rw[<- hnx];refine JmY (fun t' ht' s=>?_) _;have hn:=JgS w u ht (fun e he h2 y hy=>by
    have hc:=w.call ht.st he h2;have a1:=w.start (i:=e.n.toNat) (by omega);exact Jtg w u (t:=⟨stN n e.n.toNat,t.pos,[]⟩) ⟨by unfold stN;simp only;omega,ht.pos⟩ y hy) ht'
   have:=Jth hR hrk ht hn.1 hn.2.1 hn.2.2;exact ih k1 _ _ _ hn.1 (by omega) (by omega)
end
structure Jkv (n:Nt) (o:List Orc) (l:List Un) (md:Int) (k:Nat):Prop where
 go:∀ (r:Nat) (t:Tr) (seen:Jbd),Jff n l t->wF n o l md k r t seen =
  if (t.st,t.pos)∈seen then (seen,[])
  else if t.st=spN n r then (seen++[(t.st,t.pos)],[⟨t.pos,t.acts⟩])
  else JcN (wF n o l md k r) (JbC n o l md (eF n o l md k) t) (seen++[(t.st,t.pos)])
theorem JiC(rk:Nat->Nat)(S:Nat):∃ R,∀ s,s<S->rk s<=R:=by
 induction S with
 | zero=>exact⟨0,fun s hs=>by omega⟩
 | succ S ih =>
  obtain⟨R,hR⟩:=ih;refine⟨R+rk S,fun s hs=>?_⟩;rcases Nat.lt_or_ge s S with q | q
  ·have:=hR s q;omega
  ·have:s=S:=by omega
   subst this;omega
theorem Jsa{n:Nt}{o:List Orc}{l:List Un}{md:Int}(w:Wf n)(u:Jnz l){rk:Nat->Nat}(hrk:Rk n rk){R:Nat}(hR:∀ s,s<n.states.length->rk s<=R){k:Nat}(hk:(l.length+1) * (R+1)<=k):Jkv n o l md k:=by
 have hlt:∀ t,Jff n l t->mT l rk R t<k:=fun t ht=>by
  unfold mT;have a:=hR _ ht.st;have b:(l.length - t.pos) * (R+1)<=l.length * (R+1):=Nat.mul_le_mul_right _ (by omega);rw[Nat.add_mul] at hk;omega
 have hst:∀ (r:Nat) (t:Tr) (seen:Jbd),Jff n l t->wF n o l md (k+1) r t seen=wF n o l md k r t seen:=fun r t seen ht=>JyN w u hR hrk (k+1) k r t seen ht (by have:=hlt t ht;omega) (hlt t ht);refine⟨fun r t seen ht=>?_⟩;rw[<- hst r t seen ht];conv=>lhs;unfold wF
 rfl
theorem JyO{n:Nt}{o:List Orc}{l:List Un}{md:Int}(w:Wf n)(u:Jnz l)(h:∃ rk,Rk n rk):∃ k,Jkv n o l md k:=by
 obtain⟨rk,hrk⟩:=h;obtain⟨R,hR⟩:=JiC rk n.states.length;exact⟨_,Jsa w u hrk hR (Nat.le_refl _)⟩
end Go.Proofs.Y
end
section
namespace Go.Proofs.Y
open Go Go.Ab
def InR (n:Nt)(l:List Un)(s:Jbd):Prop:=∀ p∈s,p.1<n.states.length/\p.2<l.length
structure JqP (n:Nt) (l:List Un) (r:Nat) (s:Jbd) (q:Jbd × List En):Prop where
 nd:q.1.Nodup
 inr:InR n l q.1
 ex:∃ more,q.1=s++more/\(q.2.map fun y=>(spN n r,y.pos)).Sublist more
theorem JqP.nil{n:Nt}{l:List Un}{r:Nat}{s:Jbd}(h1:s.Nodup)(h2:InR n l s):JqP n l r s (s,[]):=⟨h1,h2,[],by simp,by simp⟩
theorem JqP.run{n:Nt}{l:List Un}{r:Nat}{f:Tr->Jbd->Jbd × List En}{ts:List Tr}(hf:∀ t∈ts,∀ s:Jbd,s.Nodup->InR n l s->JqP n l r s (f t s)){s:Jbd}(h1:s.Nodup)(h2:InR n l s):JqP n l r s (JcN f ts s):=by
 induction ts generalizing s with
 | nil=>exact .nil h1 h2
 | cons t ts ih =>
  have a:=hf t (by simp) s h1 h2;have b:=ih (fun t ht=>hf t (by simp[ht])) a.nd a.inr;obtain⟨m1,e1,s1⟩:=a.ex;obtain⟨m2,e2,s2⟩:=b.ex;refine⟨b.nd,b.inr,m1++m2,?_,?_⟩
  ·simp only[JcN];rw[e2,e1,List.append_assoc]
  ·simp only[JcN,List.map_append];exact s1.append s2
theorem Jcd{α:Type}{l:List α}{x:α}(h:l.Nodup)(hx:x∉l):(l++[x]).Nodup:=by
 rw[List.nodup_append];exact⟨h,by simp,fun a ha b hb=>by rw[List.mem_singleton] at hb;subst hb;intro e;subst e;exact hx ha⟩
theorem InR.snoc{n:Nt}{l:List Un}{s:Jbd}{t:Tr}(h:InR n l s)(ht:Jff n l t):InR n l (s++[(t.st,t.pos)]):=fun p hp=>by
 rcases List.mem_append.1 hp with q | q
 ·exact h p q
 ·rw[List.mem_singleton] at q;subst q;exact⟨ht.st,ht.pos⟩
section
variable {n:Nt} {o:List Orc} {l:List Un} {md:Int} (w:Wf n) (u:Jnz l)
include w u
theorem Jpb{k:Nat}:∀ {r:Nat} {t:Tr} {seen:Jbd},Jff n l t->seen.Nodup->InR n l seen->JqP n l r seen (wF n o l md k r t seen):=by
 induction k with
 | zero=>intro r t seen ht h1 h2;exact .nil h1 h2
 | succ k ih =>
  intro r t seen ht h1 h2;unfold wF;split
  ·exact .nil h1 h2
  ·rename_i hns;have nd:=Jcd h1 hns;have ir:=h2.snoc ht;split
   ·rename_i hs;exact⟨nd,ir,[(t.st,t.pos)],rfl,by simp[hs]⟩
   ·have a:=JqP.run (r:=r) (ts:=JbC n o l md (fun r' a=>(wF n o l md k r' ⟨stN n r',a,[]⟩ []).2) t) (fun t' ht' s q1 q2=>by
     have hn:=JgS w u ht (fun e he h2 y hy=>by
      have hc:=w.call ht.st he h2;have a1:=w.start (i:=e.n.toNat) (by omega);exact Jtg w u (t:=⟨stN n e.n.toNat,t.pos,[]⟩) ⟨by unfold stN;simp only;omega,ht.pos⟩ y hy) ht'
     exact ih (r:=r) hn.1 q1 q2) nd ir
    obtain⟨m,e1,s1⟩:=a.ex;exact⟨a.nd,a.inr,(t.st,t.pos) :: m,by rw[e1];simp,s1.cons _⟩
theorem JiD{k r a:Nat}(hr:r<n.rules.length)(ha:a<l.length):(eF n o l md k r a).length<=l.length:=by
 have a1:=w.start hr;have h:=Jpb (k:=k) (o:=o) (md:=md) w u (r:=r) (t:=⟨stN n r,a,[]⟩) (seen:=[]) ⟨by unfold stN;simp only;omega,ha⟩ List.nodup_nil (fun p hp=>by cases hp);obtain⟨m,e1,s1⟩:=h.ex;have nd:(((eF n o l md k r a).map fun y=>(spN n r,y.pos)).map Prod.snd).Nodup:=by
  have h1:m.Nodup:=by have:=h.nd;rw[e1] at this;simpa using this
  have h2:=h1.sublist s1;have h3:∀ (L:List En),(L.map fun y=>(spN n r,y.pos)).Nodup->((L.map fun y=>(spN n r,y.pos)).map Prod.snd).Nodup:=by
   intro L;induction L with
   | nil=>intro _;exact List.nodup_nil
   | cons y L ih =>
    intro h;simp only[List.map_cons,List.nodup_cons,List.mem_map,not_exists,not_and] at h ⊢;refine⟨fun p hp e=>?_,ih h.2⟩;obtain⟨z,hz,rfl⟩:=hp;simp only at e;exact h.1 z hz (by rw[e])
  exact h3 _ h2
 have:=Jiz nd (M:=l.length) (fun x hx=>by
  simp only[List.map_map,List.mem_map,Function.comp] at hx;obtain⟨y,hy,rfl⟩:=hx;exact(JjX w u hr ha y hy).2.1)
 simpa using this
theorem JqQ{E:Nat->Nat->List En}{t t':Tr}{e:Ed}{A:Nat}(hA:e.acts.length<=A)(h:t'∈Jcq o l md E e t):t'.acts.length<=t.acts.length+A:=by
 have _:=w;have _:=u;unfold Jcq at h;split at h
 ·obtain⟨y,hy,rfl⟩:=List.mem_map.1 h;simp only;omega
 ·split at h
  ·rw[List.mem_singleton] at h;subst h;simp only;split
   ·rw[List.length_append];omega
   ·omega
  ·cases h
theorem JgT{E:Nat->Nat->List En}{t t':Tr}{A:Nat}(hA:∀ e∈(n.states.getD t.st default).edges,e.acts.length<=A)(h:t'∈JbC n o l md E t):t'.acts.length<=t.acts.length+A:=by
 unfold JbC at h;obtain⟨e,he,h⟩:=List.mem_flatMap.1 h;exact JqQ w u (hA e he) h
theorem Jk7{s:Jbd}(h1:s.Nodup)(h2:InR n l s):s.length<=n.states.length * l.length:=by
 have _:=w;have _:=u;exact JiA h1 h2
theorem JlY{E:Nat->Nat->List En}{t:Tr}(hE:∀ e∈(n.states.getD t.st default).edges,e.op.1=2->(E e.n.toNat t.pos).length<=l.length):(JbC n o l md E t).length<=(n.states.getD t.st default).edges.length * l.length:=by
 have _:=w;unfold JbC;have hl:=u.ne;generalize (n.states.getD t.st default).edges=es at hE;induction es with
 | nil=>simp
 | cons e es ih =>
  rw[List.flatMap_cons,List.length_append,List.length_cons,Nat.add_mul,Nat.one_mul];have h1:=ih fun e he=>hE e (by simp[he])
  have h2:(Jcq o l md E e t).length<=l.length:=by
   unfold Jcq;split
   ·rename_i q;rw[List.length_map];exact hE e (by simp) q
   ·split
    ·simp;omega
    ·simp
  omega
end
end Go.Proofs.Y
end
section
namespace Go.Proofs.Y
open Go Go.Ab
def bt (s:ByteArray)(i:Nat):Nat:=(s.get! i).toNat
theorem Jev(s:ByteArray)(i:Nat):bt s i<256:=UInt8.toNat_lt _
def dcV (s:ByteArray)(i:Nat):Nat × Nat:=Lib.decodeN (s.size - i) (bt s i) (bt s (i+1)) (bt s (i+2)) (bt s (i+3))
def uV (s:ByteArray)(i:Nat):Nat × Nat:=if (dcV s i).1=65533/\(dcV s i).2<=1 then (1114112+bt s i,1) else dcV s i
theorem Jsb{s:ByteArray}{i:Nat}(h:i<s.size):1<=(dcV s i).2/\i+(dcV s i).2<=s.size/\(dcV s i).1<=1114111:=by
 have b0:=Jev s i;have b1:=Jev s (i+1);have b2:=Jev s (i+2);have b3:=Jev s (i+3);unfold dcV Lib.decodeN;repeat' split
 all_goals (simp only;omega)
theorem JqR{s:ByteArray}{i:Nat}(h:i<s.size):1<=(uV s i).2/\i+(uV s i).2<=s.size/\(uV s i).1<=1114367:=by
 have b0:=Jev s i;have h1:=Jsb h;unfold uV;split
 ·simp only;omega
 ·omega
def Jew:Nat->ByteArray->Nat->Nat->List Un
 | 0,s,p,c=>[⟨-1,s.size,c⟩]
 | k+1,s,p,c=>if p<s.size then ⟨(uV s p).1,p,c⟩ :: Jew k s (p+(uV s p).2) (if (uV s p).1=10 then 0 else c+1) else [⟨-1,s.size,c⟩]
def JaX (s:ByteArray):List Un:=Jew s.size s 0 0
theorem Jk8(k:Nat)(s:ByteArray)(p c:Nat):0<(Jew k s p c).length:=by
 cases k with
 | zero=>simp[Jew]
 | succ k=>unfold Jew;split <;> simp
theorem Jpc:∀ (k:Nat) (s:ByteArray) (p c:Nat),((Jew k s p c).getD ((Jew k s p c).length - 1) default).x = -1/\((Jew k s p c).getD ((Jew k s p c).length - 1) default).pos=s.size:=by
 intro k;induction k with
 | zero=>intro s p c;exact⟨rfl,rfl⟩
 | succ k ih =>
  intro s p c;unfold Jew;split
  ·have h1:=Jk8 k s (p+(uV s p).2) (if (uV s p).1=10 then 0 else c+1);have h2:=ih s (p+(uV s p).2) (if (uV s p).1=10 then 0 else c+1);generalize Jew k s (p+(uV s p).2) (if (uV s p).1=10 then 0 else c+1)=L at h1 h2;cases L with
   | nil=>simp at h1
   | cons a L=>simpa using h2
  ·exact⟨rfl,rfl⟩
theorem JjY:∀ (k:Nat) (s:ByteArray) (p c:Nat),s.size - p<=k->p<=s.size->((Jew k s p c).map (·.pos)).Pairwise (· < ·)/\∀ u∈Jew k s p c,p<=u.pos/\u.pos<=s.size:=by
 intro k;induction k with
 | zero =>
  intro s p c h hp;unfold Jew;exact⟨by simp,fun u hu=>by rw[List.mem_singleton] at hu;subst hu;simp only;omega⟩
 | succ k ih =>
  intro s p c h hp;unfold Jew;split
  ·rename_i hlt;have hu:=JqR hlt;obtain⟨h1,h2⟩:=ih s (p+(uV s p).2) (if (uV s p).1=10 then 0 else c+1) (by omega) (by omega);refine⟨?_,fun u hu'=>?_⟩
   ·rw[List.map_cons,List.pairwise_cons];refine⟨fun q hq=>?_,h1⟩;obtain⟨u,hu',rfl⟩:=List.mem_map.1 hq;have:=h2 u hu';simp only;omega
   ·rcases List.mem_cons.1 hu' with rfl | q
    ·exact⟨Nat.le_refl _,hp⟩
    ·have:=h2 u q;omega
  ·exact⟨by simp,fun u hu=>by rw[List.mem_singleton] at hu;subst hu;simp only;omega⟩
theorem JqS:∀ (k:Nat) (s:ByteArray) (p c:Nat),(Jew k s p c).length<=k+1:=by
 intro k;induction k with
 | zero=>intro s p c;simp[Jew]
 | succ k ih =>
  intro s p c;unfold Jew;split
  ·have:=ih s (p+(uV s p).2) (if (uV s p).1=10 then 0 else c+1);simp only[List.length_cons];omega
  ·simp
theorem JyP:∀ (k:Nat) (s:ByteArray) (p c:Nat),∀ u∈Jew k s p c,-1<=u.x/\u.x<=1114367/\u.col<=c+k:=by
 intro k;induction k with
 | zero=>intro s p c u hu;simp only[Jew,List.mem_singleton] at hu;subst hu;simp only;omega
 | succ k ih =>
  intro s p c u hu;unfold Jew at hu;split at hu
  ·rename_i hlt;have h1:=JqR hlt;rcases List.mem_cons.1 hu with rfl | q
   ·simp only;omega
   ·have:=ih _ _ _ u q;refine⟨this.1,this.2.1,?_⟩;have h3:=this.2.2;split at h3 <;> omega
  ·rw[List.mem_singleton] at hu;subst hu;simp only;omega
theorem JgU(s:ByteArray):Jnz (JaX s):=⟨Jk8 _ _ _ _,(Jpc _ _ _ _).1⟩
theorem JiE(s:ByteArray):(JaX s).length<=s.size+1:=JqS _ _ _ _
theorem Jcr(s:ByteArray):((JaX s).map (·.pos)).Pairwise (· < ·):=(JjY _ s 0 0 (by omega) (Nat.zero_le _)).1
theorem Jti(s:ByteArray):∀ u∈JaX s,u.pos<=s.size:=fun u hu=>((JjY _ s 0 0 (by omega) (Nat.zero_le _)).2 u hu).2
def ixV (l:List Un)(p:Int):Nat:=(l.takeWhile fun u=>decide ((u.pos:Int)<p)).length
theorem JyQ{l:List Un}{p:Int}{i:Nat}(h:i<ixV l p):((l.getD i default).pos:Int)<p:=by
 unfold ixV at h;induction l generalizing i with
 | nil=>simp at h
 | cons a l ih =>
  rw[List.takeWhile_cons] at h;split at h
  ·rename_i ha;cases i with
   | zero=>simpa using ha
   | succ i=>simp only[List.length_cons] at h;simpa using ih (by omega)
  ·simp at h
theorem JyR{l:List Un}{p:Int}(h:ixV l p<l.length):p<=((l.getD (ixV l p) default).pos:Int):=by
 unfold ixV at h ⊢;induction l with
 | nil=>simp at h
 | cons a l ih =>
  rw[List.takeWhile_cons] at h ⊢;split
  ·rename_i ha;rw[if_pos ha] at h;simp only[List.length_cons] at h ⊢;simpa using ih (by omega)
  ·rename_i ha;simpa using ha
theorem JhE{l:List Un}{p:Int}{i:Nat}(hr:(l.map (·.pos)).Pairwise (· < ·))(hi:i<l.length)(h:((l.getD i default).pos:Int)=p):ixV l p=i:=by
 have hm:∀ a b,a<b->b<l.length->(l.getD a default).pos<(l.getD b default).pos:=fun a b hab hb=>by
  have:=List.pairwise_iff_getElem.1 hr a b (by simp;omega) (by simpa using hb) hab;rw[List.getElem_map,List.getElem_map] at this;rw[List.getD_eq_getElem?_getD,List.getD_eq_getElem?_getD,List.getElem?_eq_getElem (by omega),List.getElem?_eq_getElem hb];exact this
 rcases Nat.lt_trichotomy (ixV l p) i with q | q | q
 ·have:=JyR (l:=l) (p:=p) (by omega);have:=hm _ _ q hi;omega
 ·exact q
 ·have:=JyQ q;omega
end Go.Proofs.Y
end
section
namespace Go.Proofs.Y
open Go Go.Ab
def Jcs(lz:Bool)(b z:En):En:=if b.pos<z.pos/\lz=false then z else b
def Jct(lz:Bool):List En->Option En
 | []=>none
 | y :: ys=>some (ys.foldl (Jcs lz) y)
theorem Jpd(lz:Bool):∀ (l:List En) (y:En),l.foldl (Jcs lz) y=y\/l.foldl (Jcs lz) y∈l:=by
 intro l;induction l with
 | nil=>intro y;exact .inl rfl
 | cons z l ih =>
  intro y;rw[List.foldl_cons];have h1:Jcs lz y z=y\/Jcs lz y z=z:=by unfold Jcs;split <;> simp
  rcases ih (Jcs lz y z) with h | h
  ·rw[h];rcases h1 with h1 | h1 <;> rw[h1]
   ·exact .inl rfl
   ·exact .inr (by simp)
  ·exact .inr (by simp[h])
theorem JgV{lz:Bool}{l:List En}{y:En}(h:Jct lz l=some y):y∈l:=by
 cases l with
 | nil=>cases h
 | cons z l =>
  simp only[Jct,Option.some.injEq] at h;subst h;rcases Jpd lz l z with h | h
  ·rw[h];simp
  ·simp[h]
def JgW(n:Nt)(md:Int)(i:Nat):Bool:=(n.rules.getD i default).lexer && (!(n.rules.getD i default).frag && decide ((n.rules.getD i default).mode=md))
def JdC(n:Nt)(o:List Orc)(l:List Un)(md:Int)(k a i:Nat):Option (Nat × En):=if JgW n md i then (Jct (n.rules.getD i default).lz (eF n o l md k i a)).map fun y=>(i,y) else none
def J0(n:Nt)(o:List Orc)(l:List Un)(md:Int)(k a R:Nat):List (Nat × En):=(List.range R).filterMap (JdC n o l md k a)
theorem JaK(n:Nt)(o:List Orc)(l:List Un)(md:Int)(k a R:Nat):J0 n o l md k a (R+1)=J0 n o l md k a R++(JdC n o l md k a R).toList:=by
 unfold J0;rw[List.range_succ,List.filterMap_append];cases h:JdC n o l md k a R <;> simp[h]
theorem JhF{n:Nt}{o:List Orc}{l:List Un}{md:Int}{k a R:Nat}{p:Nat × En}(h:p∈J0 n o l md k a R):p.1<R/\JgW n md p.1=true/\p.2∈eF n o l md k p.1 a:=by
 obtain⟨i,hi,h⟩:=List.mem_filterMap.1 h;unfold JdC at h;split at h
 ·rename_i hm;obtain⟨y,h1,h2⟩:=Option.map_eq_some_iff.1 h;subst h2;exact⟨List.mem_range.1 hi,hm,JgV h1⟩
 ·cases h
theorem Jk9(n:Nt)(o:List Orc)(l:List Un)(md:Int)(k a:Nat):∀ R,(J0 n o l md k a R).Pairwise (fun p q=>p.1<q.1):=by
 intro R;induction R with
 | zero=>exact List.Pairwise.nil
 | succ R ih =>
  rw[JaK,List.pairwise_append];refine⟨ih,?_,fun p hp q hq=>?_⟩
  ·cases JdC n o l md k a R <;> simp
  ·have h1:=(JhF hp).1;have h2:q.1=R:=by
    rw[Option.mem_toList] at hq;unfold JdC at hq;split at hq
    ·obtain⟨y,_,e⟩:=Option.map_eq_some_iff.1 hq;rw[<- e]
    ·cases hq
   omega
theorem JhG(n:Nt)(o:List Orc)(l:List Un)(md:Int)(k a:Nat):∀ R,(J0 n o l md k a R).length<=R:=by
 intro R;induction R with
 | zero=>exact Nat.le_refl 0
 | succ R ih =>
  rw[JaK,List.length_append];have:(JdC n o l md k a R).toList.length<=1:=by cases JdC n o l md k a R <;> simp
  omega
def Jb4(b q:Nat × En):Nat × En:=if b.2.pos<q.2.pos then q else b
def JcA:List (Nat × En)->Option (Nat × En)
 | []=>none
 | p :: ps=>some (ps.foldl Jb4 p)
theorem JzV(P:Nat × En->Prop):∀ (l:List (Nat × En)) (b:Nat × En),P b->(∀ p∈l,P p)->P (l.foldl Jb4 b):=by
 intro l;induction l with
 | nil=>intro b h _;exact h
 | cons z l ih =>
  intro b h h2;rw[List.foldl_cons];refine ih _ ?_ fun p hp=>h2 p (by simp[hp])
  unfold Jb4;split
  ·exact h2 z (by simp)
  ·exact h
theorem Jpe:∀ (l:List (Nat × En)) (b:Nat × En),(∀ p∈l,b.1<p.1)->l.Pairwise (fun p q=>p.1<q.1) ->
  (b.2.pos<=(l.foldl Jb4 b).2.pos/\(b.2.pos=(l.foldl Jb4 b).2.pos->(l.foldl Jb4 b).1<=b.1))/\∀ p∈l,p.2.pos<=(l.foldl Jb4 b).2.pos/\(p.2.pos=(l.foldl Jb4 b).2.pos->(l.foldl Jb4 b).1<=p.1):=by
 intro l;induction l with
 | nil=>intro b _ _;exact⟨⟨Nat.le_refl _,fun _=>Nat.le_refl _⟩,fun p hp=>by cases hp⟩
 | cons z l ih =>
  intro b h1 h2;rw[List.foldl_cons];rw[List.pairwise_cons] at h2;have hz:=h1 z (by simp);have hb:∀ p∈l,(Jb4 b z).1<p.1:=fun p hp=>by
   have a1:=h1 p (by simp[hp]);have a2:=h2.1 p hp;unfold Jb4;split <;> omega
  obtain⟨⟨k1,k2⟩,k3⟩:=ih (Jb4 b z) hb h2.2;have s1:b.2.pos<=(Jb4 b z).2.pos/\(b.2.pos=(Jb4 b z).2.pos->(Jb4 b z).1=b.1)/\z.2.pos<=(Jb4 b z).2.pos/\(z.2.pos=(Jb4 b z).2.pos->(Jb4 b z).1<=z.1):=by
   unfold Jb4;split
   ·rename_i q;exact⟨by omega,fun e=>by omega,Nat.le_refl _,fun _=>Nat.le_refl _⟩
   ·rename_i q;exact⟨Nat.le_refl _,fun _=>rfl,by omega,fun e=>by omega⟩
  refine⟨⟨by omega,fun e=>?_⟩,fun p hp=>?_⟩
  ·have e1:b.2.pos=(Jb4 b z).2.pos:=by omega
   have:=s1.2.1 e1;have:=k2 (by omega);omega
  ·rcases List.mem_cons.1 hp with rfl | hp
   ·refine⟨by omega,fun e=>?_⟩;have e1:p.2.pos=(Jb4 b p).2.pos:=by omega
    have:=s1.2.2.2 e1;have:=k2 (by omega);omega
   ·exact k3 p hp
theorem Jpf{l:List (Nat × En)}{b:Nat × En}(h:JcA l=some b)(hr:l.Pairwise (fun p q=>p.1<q.1)):b∈l/\∀ p∈l,p.2.pos<=b.2.pos/\(p.2.pos=b.2.pos->b.1<=p.1):=by
 cases l with
 | nil=>cases h
 | cons z l =>
  simp only[JcA,Option.some.injEq] at h;subst h;rw[List.pairwise_cons] at hr;refine⟨JzV (fun x=>x∈z :: l) l z (by simp) (fun p hp=>by simp[hp]),fun p hp=>?_⟩;obtain⟨k1,k2⟩:=Jpe l z hr.1 hr.2;rcases List.mem_cons.1 hp with rfl | hp
  ·exact⟨k1.1,k1.2⟩
  ·exact k2 p hp
theorem JmZ(l:List (Nat × En))(q:Nat × En):JcA (l++[q])=some (match JcA l with | none=>q | some b=>Jb4 b q):=by
 cases l with
 | nil=>rfl
 | cons z l=>simp[JcA,List.foldl_append]
end Go.Proofs.Y
end
section
namespace Go.Proofs.Y
open Go Go.Ab
theorem JBW{i:Nat}:(i:Int).fdiv (2 ^ min (Int.toNat 6) IntKind.i64.bits)=((i / 64:Nat):Int):=by
 have:min (Int.toNat 6) IntKind.i64.bits=6:=by decide
 rw[this,JlX]
theorem JB3{i:Nat}(hi:i<9223372036854775808):IntKind.i64.wrap ((BitVec.ofInt IntKind.i64.bits (i:Int) &&& BitVec.ofInt IntKind.i64.bits 63).toNat:Int)=((i % 64:Nat):Int):=by
 have h:=JyL (a:=i) (b:=63) (by unfold W64;omega) (by decide);have e:i &&& 63=i % 64:=by
  have:=Nat.and_two_pow_sub_one_eq_mod i 6;have h2:(2 ^ 6 - 1:Nat)=63:=by decide
  rw[h2] at this;exact this
 rw[e] at h;show IntKind.i64.wrap ((BitVec.ofInt 64 (i:Int) &&& BitVec.ofInt 64 ((63:Nat):Int)).toNat:Int)=_;rw[h];exact Jdy (by omega) (by omega)
theorem Jtj{w k:Nat}:(w &&& 2 ^ k≠0)↔w.testBit k=true:=by
 constructor
 ·intro h;cases q:w.testBit k with
  | true=>rfl
  | false =>
   refine absurd (Nat.eq_of_testBit_eq fun j=>?_) h;rw[Nat.testBit_and,Nat.zero_testBit];by_cases hj:k=j
   ·subst hj;rw[q];rfl
   ·rw[Nat.testBit_two_pow_of_ne hj,Bool.and_false]
 ·intro h e;have:=congrArg (fun x=>x.testBit k) e;simp only[Nat.testBit_and,Nat.zero_testBit,h,Nat.testBit_two_pow_self,Bool.and_true,Bool.true_eq_false] at this
def Jhe(ws:List Nat)(i:Nat):List Nat:=ws.set (i / 64) (ws.getD (i / 64) 0 ||| 2 ^ (i % 64))
theorem Jpg(ws:List Nat)(i t:Nat)(H:Hp)(hws:∀ w∈ws,w<W64)(hi:i / 64<ws.length)(hb:i<1000000000000)(hl:lk H.toks t=some ⟨ws.map Jtd,0,1⟩) :
  JU Tryz.prog 52 [.own t ws.length,.lit (.int .i64 (i:Int))] H fun r h'=>r = .lit (.bool ((ws.getD (i / 64) 0).testBit (i % 64)))/\h'={H with toks:=up H.toks t ⟨(Jhe ws i).map Jtd,0,1⟩}:=by
 refine JL Tryz.func52 rfl Tryz.ntmps52 (rs:=[.tmp 4]) rfl (by simp) ?_;obtain⟨w,hw⟩:∃ w,ws.getD (i / 64) 0=w:=⟨_,rfl⟩;have hwl:w<W64:=hws w (by rw[<- hw,List.getD_eq_getElem?_getD,List.getElem?_eq_getElem hi];exact List.getElem_mem hi);obtain⟨k,hk⟩:∃ k,i / 64=k:=⟨_,rfl⟩;obtain⟨b,hbk⟩:∃ b,i % 64=b:=⟨_,rfl⟩;have hb64:b<64:=by omega
 have h1:=JBW (i:=i);have h1b:(i:Int).fdiv (2 ^ min 6 IntKind.i64.bits)=((i / 64:Nat):Int):=h1;have h2:=JB3 (i:=i) (by omega);have h3:IntKind.u64.wrap (b:Int)=(b:Int):=JyK (by unfold W64;omega);have h4:=Jte hb64;have h5:=Jtf hwl (Jo8 hb64);have h6:IntKind.u64.wrap ((BitVec.ofInt IntKind.u64.bits (w:Int) &&& BitVec.ofInt IntKind.u64.bits ((2 ^ b:Nat):Int)).toNat:Int)=((w &&& 2 ^ b:Nat):Int):=by
  have h:=JyL hwl (Jo8 hb64);show IntKind.u64.wrap ((BitVec.ofInt 64 (w:Int) &&& BitVec.ofInt 64 ((2 ^ b:Nat):Int)).toNat:Int)=_;rw[h];exact JyK (Nat.lt_of_le_of_lt Nat.and_le_left hwl)
 have h7:(((w &&& 2 ^ b:Nat):Int) != 0)=w.testBit b:=by
  rw[Bool.eq_iff_iff,bne_iff_ne,<- Jtj];omega
 have hg:(ws.map Jtd)[k]? = some [.lit (.int .u64 (w:Int))]:=by
  rw[hk] at hi hw;rw[List.getElem?_map,List.getElem?_eq_getElem hi];rw[List.getD_eq_getElem?_getD,List.getElem?_eq_getElem hi] at hw;simp only[Option.getD_some] at hw;rw[Option.map_some,hw];rfl
 have hr:(Jhe ws i).map Jtd=(ws.map Jtd).set k [.lit (.int .u64 ((w ||| 2 ^ b:Nat):Int))]:=by
  unfold Jhe;rw[List.map_set,hk,hbk,<- hk,hw];rfl
 rw[hk] at h1 h1b hi ⊢;rw[hbk] at h2 ⊢;rw[hr,<- hk,hw,hk];simp -implicitDefEqProofs (disch:=omega) only[Wz,seval,hl,h1,h1b,h2,h3,h4,h5,h6,hg];rw[<- h7];rfl
end Go.Proofs.Y
end
section
namespace Go.Proofs.Y
open Go Go.Ab
def JeT (u:Un):List AV:=[.lit (.int .i32 u.x),.lit (.int .i64 (u.pos:Int)),.lit (.int .i64 (u.col:Int))]
def JO(y:En):List AV:=[.lit (.int .i64 (y.pos:Int)),.vec (y.acts.map JA) false]
def J2(t:Tr):List AV:=[.lit (.int .i64 (t.st:Int)),.lit (.int .i64 (t.pos:Int)),.vec (t.acts.map JA) false]
theorem JbY(u:Un):∀ c∈JeT u,Ab.Pure c:=Jau (by simp[JeT])
theorem JhH(y:En):∀ c∈JO y,Ab.Pure c:=Jb (.lit _) (Jb (.vec (Ji J7 _)) Jl)
theorem Jd9(y:Tr):∀ c∈J2 y,Ab.Pure c:=Jb (.lit _) (Jb (.lit _) (Jb (.vec (Ji J7 _)) Jl))
theorem JgX(u:Un):(JeT u).length=3:=rfl
theorem Jfz(u:En):(JO u).length=2:=rfl
theorem JfA(u:Tr):(J2 u).length=3:=rfl
theorem JjZ(u:Un):(JeT u).take 3=JeT u:=rfl
theorem JhI(u:En):(JO u).take 2=JO u:=rfl
theorem JhK(u:Tr):(J2 u).take 3=J2 u:=rfl
theorem Ly:(type_of% @JgX)/\(type_of% @JjZ)/\(type_of% @Jfz)/\(type_of% @JhI)/\(type_of% @JfA)/\(type_of% @JhK):=⟨@JgX,@JjZ,@Jfz,@JhI,@JfA,@JhK⟩
def nxV (u:Option Nat)(T:List Tr):AV:=match u with | none=>.vec [] true | some u=>.own u T.length
def nxT (u:Option Nat)(T:List Tr):List (Nat × Tk):=match u with | none=>[] | some u=>[(u,⟨T.map J2,0,3⟩)]
theorem JiF(u:Option Nat)(T:List Tr)(H:Hp):JU Tryz.prog 54 [nxV u T] H fun r h'=>r = .fn (.func 73) [] [.ptr H.nx 0]/\h'={H with boxes:=H.boxes++[(H.nx,[nxV u T])],nx:=H.nx+1}:=by
 refine JL Tryz.func54 rfl Tryz.ntmps54 (rs:=[.tmp 2]) rfl (by simp) ?_;cases u <;> simp -implicitDefEqProofs (disch:=omega) only[Wz,seval,nxV]
theorem JyS{p:Gh->Nat->Prop}(T:List Tr)(hT:T.length<=1000000000000)(sv:AV)(ci:Nat)(I:Nat->Hp->Prop)(hb:∀ k H,I k H->lk H.boxes ci=some [sv])
  (hs:(T=[]/\sv = .vec [] true)\/∃ u,sv = .own u T.length/\∀ k H,I k H->lk H.toks u=some ⟨T.map J2,0,3⟩)
  (hY:∀ k H,k<T.length->I (k+1) H->YC Tryz.prog p [.lit (.int .i64 (k:Int)),.agg (J2 (T.getD k default))] H fun r H'=>r = .lit (.bool true)/\I k H') (H0:Hp) (h0:I T.length H0) :
  JU Tryz.prog 73 [.yl p,.ptr ci 0] H0 fun r H'=>r = .tup []/\I 0 H':=by
 refine Jq Tryz.func73 rfl Tryz.ntmps73 (rs:=[]) rfl (by simp) ?_;have hb0:=hb _ _ h0;rcases hs with ⟨rfl,rfl⟩ | ⟨u,rfl,hu⟩
 ·refine Jj ?_;simp -implicitDefEqProofs (disch:=omega) only[Wz,seval,hb0];refine Jp (fun(x:Unit)=>⟨[(0,.yl p),(1,.ptr ci 0),(3,.lit (.int .i64 (-1)))],H0,19⟩) (fun _=>True) (fun _=>0) () (Jk (by simp[lk]) (fun _ _ e=>e) (fun _ _ e=>e) rfl rfl) trivial ?_;intro x _;refine Jj ?_;simp -implicitDefEqProofs (disch:=omega) only[Wz,seval];exact h0
 ·refine Jj ?_;simp -implicitDefEqProofs (disch:=omega) only[Wz,seval,hb0];refine Jp (fun(x:Nat × Hp)=>⟨[(0,.yl p),(1,.ptr ci 0),(3,.lit (.int .i64 ((x.1:Int) - 1)))],x.2,19⟩) (fun x=>x.1<=T.length/\I x.1 x.2) (fun x=>x.1) (T.length,H0) (Jk (by simp[lk]) (fun _ _ e=>e) (fun _ _ e=>e) rfl rfl) ⟨Nat.le_refl _,h0⟩ ?_;clear hb0 h0;rintro⟨k,H⟩ ⟨hk,hI⟩;simp only at hk hI ⊢;have hb1:=hb _ _ hI;have hu1:=hu _ _ hI;cases k with
  | zero =>
   refine Jj ?_;simp -implicitDefEqProofs (disch:=omega) only[Wz,seval];exact hI
  | succ k =>
   have e1:((k+1:Nat):Int) - 1=(k:Int):=by omega
   have hy:=hY k H (by omega) hI;obtain⟨t,ht⟩:∃ t,T.getD k default=t:=⟨_,rfl⟩;rw[ht] at hy;have hg:(T.map J2)[k]? = some (J2 t):=by rw[Jr7 (by omega),ht]
   refine Jj ?_;simp -implicitDefEqProofs (disch:=omega) only[Wz,seval,e1,hb1,hu1,hg,J2];refine Je8 rfl rfl rfl ?_;refine hy.mono ?_;rintro r H' ⟨rfl,hI'⟩;simp -implicitDefEqProofs (disch:=omega) only[Wz,seval];refine⟨(k,H'),⟨by show k<=_;omega,hI'⟩,by show k<k+1;omega,?_⟩;exact Jk (by simp[lk]) (fun _ _ e=>e) (fun _ _ e=>e) rfl rfl
end Go.Proofs.Y
end
section
namespace Go.Proofs.Y
open Go Go.Ab
def Jla:Go.Shelf.Ren:=⟨fun | 4=>91 | n=>n,fun | 20=>20 | 22=>31 | 25=>78 | n=>n,fun n=>n⟩
theorem Jph:Go.Proofs.Lays8.n4 Tryz.prog Jla:={
 mixed:=by kernel_rfl
 f4:=⟨Tryz.f91.name,by decide,Tryz.func91.trans (congrArg some (by kernel_rfl))⟩
 t0:=Tryz.underlying0
 a0:=Tryz.isAgg0
 z0:=Tryz.sizeOf0
 v0:=Tryz.zeroValue0
 t3:=Tryz.underlying3
 a3:=Tryz.isAgg3
 z3:=Tryz.sizeOf3
 v3:=Tryz.zeroValue3
 t4:=Tryz.underlying4
 a4:=Tryz.isAgg4
 z4:=Tryz.sizeOf4
 v4:=Tryz.zeroValue4
 t9:=Tryz.underlying9
 a9:=Tryz.isAgg9
 z9:=Tryz.sizeOf9
 v9:=Tryz.zeroValue9
 t20:=Tryz.underlying20
 a20:=Tryz.isAgg20
 z20:=Tryz.sizeOf20
 v20:=Tryz.zeroValue20
 t22:=Tryz.underlying31
 a22:=Tryz.isAgg31
 z22:=Tryz.sizeOf31
 v22:=Tryz.zeroValue31}
theorem Jpi(H:Hp):JU Tryz.prog 91 [.vec [] true,.lit (.int .i64 ((0:Nat):Int))] H fun r h'=>r = .vec [] true/\h'=H:=by
 intro g w vals rel hargs;obtain⟨v0,v1,rfl⟩:∃ v0 v1,vals = #[v0,v1]:=by
  have h:=hargs.1;obtain⟨l⟩:=vals;match l,h with
  | [a,b],_=>exact⟨a,b,rfl⟩
 have r0:Rep g v0 (.vec [] true):=hargs.2 0 v0 _ rfl rfl;have r1:Rep g v1 (.lit (.int .i64 ((0:Nat):Int))):=hargs.2 1 v1 _ rfl rfl;cases r1;have main:∀ base c,v0 = .slice base 0 c->Calls Tryz.prog 91 #[v0,.int .i64 ((0:Nat):Int)] w fun e w'=>∃ v r h' g',e=Ending.returned v/\Rep g' v r/\JW g H w g' h' w'/\(r = .vec [] true/\h'=H):=fun base c hv=>by
  have hc:c=0:=by
   cases base with
   | none=>subst hv;cases r0;rfl
   | some ad=>exact r0.full_cap ad 0 c hv
  subst hv hc;refine(Any8.slices_Grow_room Jph base 0 0 0 w (Nat.le_refl _) (by decide) (by decide) (Nat.le_refl _)).mono fun e w' hh=>?_
  obtain⟨rfl,rfl⟩:=hh;exact⟨_,_,_,g,rfl,r0,.refl rel,rfl,rfl⟩
 cases r0 with
 | vecN=>exact main _ _ rfl
 | vecE h=>exact main _ _ rfl
 | vec f h1 h2 h3 h4 h5=>exact main _ _ rfl
theorem Jpj(n:Nat)(H:Hp)(hn:0<n)(hb:n<=4000000000000):JU Tryz.prog 91 [.vec [] true,.lit (.int .i64 (n:Int))] H fun r h'=>r = .own H.nx 0/\h'=⟨H.boxes,H.toks++[(H.nx,⟨[],0,2⟩)],H.nx+1⟩:=by
 intro g w vals rel hargs;obtain⟨v0,v1,rfl⟩:∃ v0 v1,vals = #[v0,v1]:=by
  have h:=hargs.1;obtain⟨l⟩:=vals;match l,h with
  | [a,b],_=>exact⟨a,b,rfl⟩
 have r0:Rep g v0 (.vec [] true):=hargs.2 0 v0 _ rfl rfl;have r1:Rep g v1 (.lit (.int .i64 (n:Int))):=hargs.2 1 v1 _ rfl rfl;cases r1;obtain⟨i0,d0,e1,e2,e3,e4,e5,e6⟩:=JD Jui;obtain⟨z,z1,z2⟩:=e6 _ rfl;obtain⟨z3,z4⟩:=J9.cellsAV (g:=g) z2;have hzs:z.cells.size=2:=by have:=z3.1;simpa using this
 simp only at e4 e5;have main:∀ base c,v0 = .slice base 0 c->Calls Tryz.prog 91 #[v0,.int .i64 (n:Int)] w fun e w'=>∃ v r h' g',e=Ending.returned v/\Rep g' v r/\JW g H w g' h' w'/\(r = .own H.nx 0/\h'=⟨H.boxes,H.toks++[(H.nx,⟨[],0,2⟩)],H.nx+1⟩):=fun base c hv=>by
  have hc:c=0:=by
   cases base with
   | none=>subst hv;cases r0;rfl
   | some ad=>exact r0.full_cap ad 0 c hv
  subst hv hc;refine(Any8.slices_Grow_grow Jph i0 z e1 z1 (by rw[<- e4];decide) base 0 0 n [] w (Nat.le_refl _) (by omega) (by rw[<- e5];omega) (by omega) (by simp) (fun _=>rfl) (fun _ _ j v q=>by simp at q)).mono fun e w' hh=>?_
  obtain⟨rfl,rfl⟩:=hh;have hG:0+n<=grownCap w (0+n) 0 (Jla.t 25):=grownCap_ge w _ _ _;obtain⟨G,eG⟩:∃ G,grownCap w (0+n) 0 (Jla.t 25)=G:=⟨_,rfl⟩;rw[eG] at hG ⊢;have hone:∀ v∈([].toArray++Builtin.zeroCells z.cells (0+n - 0)++Builtin.zeroCells z.cells (G - (0+n))).toList,v.oneCell'=true:=by
   intro v hv;simp only[Array.toList_append,List.mem_append] at hv;rcases hv with (hv | hv) | hv
   ·simp at hv
   ·exact Jb8 (z:=[]) z4 _ v hv
   ·exact Jb8 (z:=[]) z4 _ v hv
  have hsz:([].toArray++Builtin.zeroCells z.cells (0+n - 0)++Builtin.zeroCells z.cells (G - (0+n))).size=G * 2:=by
   simp only[Array.size_append,size_zeroCells,hzs,List.size_toArray,List.length_nil];omega
  refine⟨_,.own H.nx 0,_,g.addTok w.heap.size G 0,rfl,?_,⟨rel.drew.addTok _ _ [] 2 G ⟨fun x hx=>(by cases hx),fun i x j a q=>(by simp at q)⟩ hone hsz (Nat.zero_le _) (by decide),Ext.addTok _ _ _ _,Jai.drewAlloc _ _ _,fun b l=>Ja2.addTok rel.drew l,fun b o v q=>.inl q⟩,rfl,rfl⟩;refine .own (by simp[Gh.addTok,rel.nx]) (fun b c n q=>?_);simp only[Gh.addTok,rel.nx,if_true,Option.some.injEq,Prod.mk.injEq] at q;obtain⟨rfl,rfl,rfl⟩:=q;exact⟨Nat.zero_le _,Nat.le_refl _,fun _=>⟨rfl,rfl⟩⟩
 cases r0 with
 | vecN=>exact main _ _ rfl
 | vecE h=>exact main _ _ rfl
 | vec f h1 h2 h3 h4 h5=>exact main _ _ rfl
end Go.Proofs.Y
end
section
namespace Go.Proofs.Y
open Go Go.Ab
abbrev Jex(a:List (Int × Int)):List AV:=[.vec (a.map JA) false]
def Jlb (R:List (List (Int × Int)))(i:Nat):List (Int × Int):=(R.take i).flatten
theorem Jj0{R:List (List (Int × Int))}{i:Nat}(h:i<R.length):Jlb R (i+1)=Jlb R i++R.getD i default:=by
 unfold Jlb;rw[List.take_succ_eq_append_getElem h,List.flatten_append,List.getD_eq_getElem?_getD,List.getElem?_eq_getElem h];simp
theorem JlZ{R:List (List (Int × Int))}:Jlb R R.length=R.flatten:=by unfold Jlb;rw[List.take_length]
theorem JiG(R:List (List (Int × Int)))(i:Nat):(Jlb R i).length<=R.flatten.length:=by
 unfold Jlb;conv=>rhs;rw[<- List.take_append_drop i R]
 rw[List.flatten_append,List.length_append];omega
theorem JBX(x:List (Int × Int)):(∀ q∈x.map JA,q.length=2)=True:=by
 simp only[eq_iff_iff,iff_true];intro q hq;obtain⟨a,_,rfl⟩:=List.mem_map.1 hq;rfl
theorem Jlc(R:List (List (Int × Int)))(hR:R.length<=1000000000)(hB:R.flatten.length<=4000000000000)(f:Bool):JR Tryz.prog 72 [.vec (R.map Jex) f] (.vec (R.flatten.map JA) false):=by
 refine JG (Jq Tryz.func72 rfl Tryz.ntmps72 (rs:=[.tmp 2]) rfl (by simp) ?_);refine Jj ?_;simp -implicitDefEqProofs (disch:=omega) only[Wz,seval];refine Jp (fun i:Nat=>⟨[(0,.vec (R.map Jex) f),(3,.lit (.int .i64 ((Jlb R i).length:Int))),(9,.vec (R.map Jex) f),(10,.lit (.int .i64 (R.length:Int))),(11,.lit (.int .i64 (i:Int)))],.none,36⟩) (fun i=>i<=R.length) (fun i=>R.length - i) 0 (Jk (by simp[lk,Jlb]) (fun _ _ e=>e) (fun _ _ e=>e) rfl rfl) (Nat.zero_le _) ?_;intro i hi;refine Jj ?_;have hBi:=JiG R i;rcases Nat.lt_or_ge i R.length with hlt | hge
 ·have hB1:=JiG R (i+1);have hs:=Jj0 hlt;rw[hs,List.length_append] at hB1;obtain⟨x,hx⟩:∃ x,R.getD i default=x:=⟨_,rfl⟩;have hg:(R.map Jex)[i]? = some (Jex x):=by rw[List.getElem?_map,List.getElem?_eq_getElem hlt,<- hx,List.getD_eq_getElem?_getD,List.getElem?_eq_getElem hlt];rfl
  rw[hx] at hs hB1;have hwr:IntKind.i64.wrap (((Jlb R i).length:Int)+(x.length:Int))=((Jlb R (i+1)).length:Int):=by rw[hs,List.length_append,Jdy (by omega) (by omega)];omega
  simp -implicitDefEqProofs (disch:=omega) only[Wz,seval,hg,hx,Jex,hwr];refine⟨i+1,by omega,by omega,?_⟩;exact Jk (by simp[lk]) (fun _ _ e=>e) (fun _ _ e=>e) rfl rfl
 ·have hie:i=R.length:=by omega
  subst hie;rw[JlZ];simp -implicitDefEqProofs (disch:=omega) only[Wz,seval];rcases Nat.eq_zero_or_pos R.flatten.length with h0 | hp
  ·have hnil:R.flatten=[]:=List.length_eq_zero_iff.1 h0;rw[h0];refine JE Jr6 (Jpi _) ?_;rintro r h' ⟨rfl,rfl⟩;simp -implicitDefEqProofs (disch:=omega) only[Wz,seval];refine Jp (fun i:Nat=>⟨[(6,.vec [] true),(25,.vec (R.map Jex) f),(26,.lit (.int .i64 (R.length:Int))),(27,.lit (.int .i64 (i:Int)))],.none,36⟩) (fun i=>i<=R.length) (fun i=>R.length - i) 0 (Jk (by simp[lk]) (fun _ _ e=>e) (fun _ _ e=>e) rfl rfl) (Nat.zero_le _) ?_;clear hi hBi hge;intro i hi;refine Jj ?_;rcases Nat.lt_or_ge i R.length with hlt | hge
   ·have hx:R.getD i default=[]:=by
     have h1:=List.flatten_eq_nil_iff.1 hnil _ (List.getElem_mem hlt);rw[List.getD_eq_getElem?_getD,List.getElem?_eq_getElem hlt];exact h1
    have hg:(R.map Jex)[i]? = some (Jex []):=by rw[List.getElem?_map,List.getElem?_eq_getElem hlt,<- hx,List.getD_eq_getElem?_getD,List.getElem?_eq_getElem hlt];rfl
    simp -implicitDefEqProofs (disch:=omega) only[Wz,seval,hg,hx,Jex,JBX,List.map_nil];refine⟨i+1,by omega,by omega,?_⟩;exact Jk (by simp[lk,St.put,Jdy (n:=(i:Int)+1) (by omega) (by omega)]) (fun _ _ e=>e) (fun _ _ e=>e) rfl rfl
   ·simp -implicitDefEqProofs (disch:=omega) only[Wz,seval];rw[hnil];exact Jag (by simp)
  ·refine JE Jr6 (Jpj _ _ hp (by omega)) ?_;rintro r h' ⟨rfl,rfl⟩;simp -implicitDefEqProofs (disch:=omega) only[Wz,seval];refine Jp (fun i:Nat=>⟨[(6,.own 0 (Jlb R i).length),(25,.vec (R.map Jex) f),(26,.lit (.int .i64 (R.length:Int))),(27,.lit (.int .i64 (i:Int)))],⟨[],[(0,⟨(Jlb R i).map JA,0,2⟩)],1⟩,36⟩) (fun i=>i<=R.length) (fun i=>R.length - i) 0 (Jk (by simp[lk,Jlb]) (fun _ _ e=>e) (fun _ _ e=>e) rfl rfl) (Nat.zero_le _) ?_;clear hi hBi hge;intro i hi;refine Jj ?_;have hBi:=JiG R i;rcases Nat.lt_or_ge i R.length with hlt | hge
   ·have hB1:=JiG R (i+1);have hs:=Jj0 hlt;rw[hs,List.length_append] at hB1;obtain⟨x,hx⟩:∃ x,R.getD i default=x:=⟨_,rfl⟩;have hg:(R.map Jex)[i]? = some (Jex x):=by rw[List.getElem?_map,List.getElem?_eq_getElem hlt,<- hx,List.getD_eq_getElem?_getD,List.getElem?_eq_getElem hlt];rfl
    rw[hx] at hs hB1;have hfit:Ja7 ((Jlb R i).length+x.length) 16=True:=eq_true ⟨by unfold maxLen;omega,by omega⟩;simp -implicitDefEqProofs (disch:=omega) only[Wz,seval,hg,hx,Jex,JBX,hfit];refine⟨i+1,by omega,by omega,?_⟩;exact Jk (by simp[lk,hs]) (fun _ _ e=>e) (fun _ _ e=>by rw[hs,List.map_append] at e;exact e) rfl rfl
   ·have hie:i=R.length:=by omega
    subst hie;rw[JlZ];simp -implicitDefEqProofs (disch:=omega) only[Wz,seval];exact Jbf (k:=⟨R.flatten.map JA,0,2⟩) rfl (by rw[List.length_map]) (Ji J7 _)
end Go.Proofs.Y
end
section
namespace Go.Proofs.Y
open Go Go.Ab
def JqT(s:Nat × Nat):List AV:=[.lit (.int .i64 (s.1:Int)),.lit (.int .i64 (s.2:Int))]
def kSo (s:Nat × Nat):AV:=.agg (JqT s)
theorem Jm0(s:Nat × Nat):∀ a∈JqT s,Ab.Pure a:=Jau (by simp[JqT])
theorem JqU(c:Nat × Nat):Ab.Pure (kSo c):=.agg (Jm0 c)
theorem JyT:Jqc Tryz.prog 132 kSo:=fun a b=>by
 unfold Jcf;rw[JsC];simp only[kSo,JqT];rw[if_pos ⟨by unfold JbE;rw[JkT];rfl,rfl,rfl⟩];simp only[eqF,ty3,List.getElem?_cons_zero,List.getElem?_cons_succ,Jda,Jnr,if_true,Bool.and_true,Option.some.injEq];obtain⟨r,p⟩:=a;obtain⟨r',p'⟩:=b;simp only[Prod.mk.injEq];rw[Bool.eq_iff_iff];simp[Int.natCast_inj]
def Jap(n:Nt)(o:List Orc)(l:List Un)(md:Int)(wi:Nat):List AV:=Jh n++[.vec (l.map JeT) false,.vec (o.map Jb9) false,.lit (.int .i64 md),.om wi]
abbrev Td:Type:=List (Sp × List En)
def enV (ys:List En):AV:=.vec (ys.map JO) false
theorem JiH(ys:List En):Ab.Pure (enV ys):=.vec (Ji JhH _)
def JhL(W:Td):List (List AV):=Jdk kSo enV W
theorem JaA(W:Td):∀ x∈JhL W,∀ c∈x,Ab.Pure c:=fun x hx c hc=>by
 obtain⟨p,_,rfl⟩:=List.mem_map.1 hx;simp only[List.mem_cons,List.not_mem_nil,or_false] at hc;rcases hc with rfl | rfl
 ·exact JqU _
 ·exact JiH _
def J8(W:Td):Tk:=⟨JhL W,0,0⟩
theorem JbA(n:Nt)(o:List Orc)(l:List Un)(md:Int){ρ:Nat->Nat}{N wi wi':Nat}(h:wi<N)(e:ρ wi=wi'):RnL ρ N (Jap n o l md wi) (Jap n o l md wi'):=by
 have p:∀ {a},Ab.Pure a->Rn ρ N a a:=fun h=>.pure h
 unfold Jap Jh;simp only[List.cons_append,List.nil_append];exact .cons (p (.vec (Ji Jao _))) (.cons (p (.vec (Ji Jao _))) (.cons (p (.vec (Ji Jao _))) (.cons (p (.vec (Ji Jbp _))) (.cons (p (.vec (Ji Jc2 _))) (.cons (p (.vec (Ji JbY _))) (.cons (p (.vec (Ji Jbx _))) (.cons (p (.lit _)) (.cons (.om h e) .nil))))))))
section
variable (n:Nt) (o:List Orc) (l:List Un) (md:Int) (k:Nat)
def Jdq (W:Td):Prop:=∀ c v,Ja1 W c=some v->v=eF n o l md k c.1 c.2
def hL (W:Td):Hp:=⟨[(0,Jap n o l md 1)],[(1,J8 W)],2⟩
def JbP(r a:Nat):Prop :=
 ∀ W,Jdq n o l md k W->JU Tryz.prog 33 [.ptr 0 0,.lit (.int .i64 (r:Int)),.lit (.int .i64 (a:Int))] (hL n o l md W) fun v h'=>v=enV (eF n o l md k r a)/\∃ W',Jdq n o l md k W'/\h'=hL n o l md W'
end
section
variable {n:Nt} {o:List Orc} {l:List Un} {md:Int} {k:Nat}
theorem Jdq.nil:Jdq n o l md k []:=fun c v h=>by cases h
theorem Jdq.put{W:Td}(h:Jdq n o l md k W)(r a:Nat):Jdq n o l md k (Jjo W (r,a) (eF n o l md k r a)):=fun d v e=>by
 rw[Jo9] at e;split at e
 ·rename_i q;cases e;rw[q]
 ·exact h d v e
theorem Jld{r a:Nat}(h:JbP n o l md k r a)(H:Hp)(ai wi:Nat)(W:Td)(hW:Jdq n o l md k W)(h0:lk H.boxes ai=some (Jap n o l md wi))(h1:lk H.toks wi=some (J8 W))
  (d1:ai≠wi) (l0:ai<H.nx) (l1:wi<H.nx) (hno:lk H.toks ai=none) :
  JU Tryz.prog 33 [.ptr ai 0,.lit (.int .i64 (r:Int)),.lit (.int .i64 (a:Int))] H fun v h'=>v=enV (eF n o l md k r a)/\∃ W',Jdq n o l md k W'/\h'=⟨H.boxes,up H.toks wi (J8 W'),H.nx⟩:=by
 let ρ:Nat->Nat:=fun i=>if i=0 then ai else wi
 have r0:ρ 0=ai:=rfl;have r1:ρ 1=wi:=rfl;have cases2:∀ i,i<2->i=0\/i=1:=fun i hi=>by omega
 have hinj:∀ i j,i<2->j<2->ρ i=ρ j->i=j:=fun i j hi hj e=>by
  rcases cases2 i hi with rfl | rfl <;> rcases cases2 j hj with rfl | rfl <;> simp only[r0,r1] at e <;> first | rfl | exact absurd e (by assumption) | exact absurd e.symm (by assumption)
 refine JU.sub (hs:=hL n o l md W) ρ hinj (fun i hi=>?_) (.cons (.ptr (by show 0<2;decide) rfl) (.cons (.pure (.lit _)) (.cons (.pure (.lit _)) .nil))) (Jb ⟨by show 0<2;decide,_,h0,JbA n o l md (by show 1<2;decide) rfl⟩ Jl)
  (Jb ⟨by show 1<2;decide,_,h1,rfl,rfl,.pure (JaA W)⟩ Jl) (h W hW) ?_
 ·rcases cases2 i hi with rfl | rfl
  ·exact l0
  ·exact l1
 ·rintro v h' ⟨rfl,W',hW',rfl⟩ _;refine⟨_,⟨H.boxes,up H.toks wi (J8 W'),H.nx⟩,0,Nat.le_refl _,rfl,.pure (JiH _),fun i cs' e=>?_,fun i k' e=>?_,rfl,W',hW',rfl⟩
  ·by_cases q:i=ai
   ·subst q;have e:lk H.boxes i=some cs':=e;rw[h0] at e;cases e;exact .inl ⟨0,_,by show 0<2;decide,rfl,rfl,JbA n o l md (by show 1<2;decide) rfl⟩
   ·refine .inr ⟨e,fun j cj ej=>?_⟩;have:j=0:=by
     simp only[hL,lk] at ej;split at ej
     ·omega
     ·cases ej
    subst this;exact fun q'=>q q'.symm
  ·have e:lk (up H.toks wi (J8 W')) i=some k':=e;rw[JH] at e;by_cases q1:wi=i
   ·rw[if_pos q1,h1] at e;simp only[Option.map_some,Option.some.injEq] at e;exact .inl ⟨1,J8 W',by show 1<2;decide,q1,rfl,by rw[<- e],by rw[<- e],by rw[<- e];exact .pure (JaA W')⟩
   ·rw[if_neg q1] at e;refine .inr ⟨e,fun j hj=>?_⟩;rcases cases2 j hj with rfl | rfl
    ·intro q;rw[r0] at q;rw[q,e] at hno;cases hno
    ·exact q1
end
def Nx (u u':Option Nat)(a b:Nat):Prop:=u'=u\/(u=none/\∃ q,u'=some q/\a<=q/\q<b)
theorem Nx.trans{u v x:Option Nat}{a b c:Nat}(h1:Nx u v a b)(h2:Nx v x b c)(hab:a<=b)(hbc:b<=c):Nx u x a c:=by
 rcases h1 with rfl | ⟨rfl,q,rfl,h3,h4⟩
 ·rcases h2 with rfl | ⟨rfl,q,rfl,h5,h6⟩
  ·exact .inl rfl
  ·exact .inr ⟨rfl,q,rfl,by omega,h6⟩
 ·rcases h2 with rfl | ⟨e,_⟩
  ·exact .inr ⟨rfl,q,rfl,h3,by omega⟩
  ·cases e
theorem Nx.le{u v:Option Nat}{a b c d:Nat}(h:Nx u v a b)(h1:c<=a)(h2:b<=d):Nx u v c d:=by
 rcases h with h | ⟨h,q,h3,h4,h5⟩
 ·exact .inl h
 ·exact .inr ⟨h,q,h3,by omega,by omega⟩
theorem Nx.lt{u v:Option Nat}{a b N:Nat}(h:Nx u v a b)(h1:∀ q,u=some q->N<=q/\q<b)(hN:N<=a):∀ q,v=some q->N<=q/\q<b:=fun q hq=>by
 rcases h with rfl | ⟨rfl,q',h3,h4,h5⟩
 ·exact h1 q hq
 ·rw[h3] at hq;cases hq;exact⟨by omega,h5⟩
theorem tr3(x:List Tr):(∀ q∈x.map J2,q.length=3)=True:=by
 simp only[eq_iff_iff,iff_true];intro q hq;obtain⟨a,_,rfl⟩:=List.mem_map.1 hq;rfl
end Go.Proofs.Y
end
section
namespace Go.Proofs.Y
open Go Go.Ab
structure JpY (n:Nt) (o:List Orc) (l:List Un) (md:Int):Prop where
 w:Wf n
 ok:JcL n
 u:Jnz l
 len:l.length<=1000
 o:o.length<=1000000000
 x:∀ x∈l,-1<=x.x/\x.x<=1114367
theorem Ji8(a b c:AV):(∀ q,q∈[[a,b,c]]->q.length=3)=True:=by simp
theorem JqV:(∀ q:List AV,q∈[]->q.length=3)=True:=by simp
theorem Jzy(a b:AV):(∀ q,q∈[[a,b]]->q.length=2)=True:=by simp
theorem JtX:(∀ q:List AV,q∈[]->q.length=2)=True:=by simp
theorem Jj1:Ja7 1 40=True:=eq_true (JN (by decide) (by decide))
def hSt (n:Nt)(o:List Orc)(l:List Un)(md:Int)(W:Td)(u:Option Nat)(N:List Tr)(x:Nat):Hp:=⟨[(0,Jap n o l md 1)],(1,J8 W) :: nxT u N,x⟩
theorem Jj2(n:Nt)(o:List Orc)(l:List Un)(md:Int)(k:Nat)(g:JpY n o l md)(t:Tr)(ht:Jff n l t)(e:Ed)(he:e∈(n.states.getD t.st default).edges)(hta:t.acts.length<=2000000000000)(hea:e.acts.length<=2000000)(hE:e.op.1=2->JbP n o l md k e.n.toNat t.pos)
  (hlen:e.op.1=2->(eF n o l md k e.n.toNat t.pos).length<=1000000) (W:Td) (hW:Jdq n o l md k W) (u:Option Nat) (N:List Tr) (hN:N.length<=1500000000) (x:Nat) (hx:2<=x) (hu:∀ q,u=some q->2<=q/\q<x) (hu0:u=none->N=[]) :
  JU Tryz.prog 53 [.ptr 0 0,.agg (Jo e),.agg (J2 t),nxV u N] (hSt n o l md W u N x) fun r h'=>∃ u' W' m,r=nxV u' (N++Jcq o l md (eF n o l md k) e t)/\Jdq n o l md k W'/\x<=m/\Nx u u' x m/\(u'=none->N++Jcq o l md (eF n o l md k) e t=[])/\h'=hSt n o l md W' u' (N++Jcq o l md (eF n o l md k) e t) m:=by
 obtain⟨R,hR⟩:∃ R:AV->Hp->Prop,(fun r h'=>∃ u' W' m,r=nxV u' (N++Jcq o l md (eF n o l md k) e t)/\Jdq n o l md k W'/\x<=m/\Nx u u' x m/\(u'=none->N++Jcq o l md (eF n o l md k) e t=[])/\h'=hSt n o l md W' u' (N++Jcq o l md (eF n o l md k) e t) m)=R:=⟨_,rfl⟩;have hRi:∀ u' W' m,Jdq n o l md k W'->x<=m->Nx u u' x m->(u'=none->N++Jcq o l md (eF n o l md k) e t=[])->R (nxV u' (N++Jcq o l md (eF n o l md k) e t)) (hSt n o l md W' u' (N++Jcq o l md (eF n o l md k) e t) m):=fun u' W' m h1 h2 h3 h4=>by rw[<- hR];exact⟨u',W',m,rfl,h1,h2,h3,h4,rfl⟩
 rw[hR];clear hR;refine Jan Tryz.func53 rfl Tryz.ntmps53 (rs:=[.tmp 8]) rfl (by simp) (N:=x) rfl ?_;obtain⟨M,hM⟩:∃ M,N++Jcq o l md (eF n o l md k) e t=M:=⟨_,rfl⟩;rw[hM] at hRi;have fin:∀ (σ':St) u' W' m,Jdq n o l md k W'->x<=m->Nx u u' x m->(u'=none->M=[])->lk σ'.slots 8=some (nxV u' M)->lk σ'.hp.boxes 0=some (Jap n o l md 1)->lk σ'.hp.toks 1=some (J8 W')->(∀ q,u'=some q->lk σ'.hp.toks q=some ⟨M.map J2,0,3⟩)->σ'.hp.nx=m->σ'.nt=117->∃ σ'',St.cp x σ' σ''/\Jfp (JaQ Tryz.prog σ'' [.tmp 8]) R σ''.hp:=fun σ' u' W' m f1 f2 f3 f4 s8 b0 t1 tu hnx hnt=>by
  refine⟨⟨[(8,nxV u' M)],hSt n o l md W' u' M m,117⟩,Jbj f2 (by rw[hnx];exact Nat.le_refl _) hnt.symm (Jb ⟨s8,?_⟩ Jl) (Jb ⟨by show 0<m;omega,b0,JbA n o l md (by show 1<m;omega) rfl⟩ Jl) (Jb ⟨by show 1<m;omega,t1,.pure (JaA W')⟩ ?_),hRi u' W' m f1 f2 f3 f4⟩
  ·cases u' with
   | none=>exact .pure (.vec (by simp))
   | some q=>exact .own (f3.lt (fun q hq=>by have:=hu q hq;exact⟨Nat.zero_le _,by omega⟩) (Nat.zero_le _) q rfl).2 rfl
  ·cases u' with
   | none=>exact Jl
   | some q=>exact Jb ⟨(f3.lt (fun q hq=>by have:=hu q hq;exact⟨Nat.zero_le _,by omega⟩) (Nat.zero_le _) q rfl).2,tu q rfl,.pure (Ji Jd9 _)⟩ Jl
 have hto:=g.w.to ht.st he;have eok:=(g.ok.edges _ (Ju ht.st)).2 e he;obtain⟨te,hte⟩:∃ te:Nat,e.to=(te:Int):=⟨e.to.toNat,by omega⟩;obtain⟨y,hy⟩:∃ y,l.getD t.pos default=y:=⟨_,rfl⟩;have hyx:=g.x y (by rw[<- hy];exact Ju ht.pos);have hp:=ht.pos;have hll:=g.len;simp -implicitDefEqProofs (disch:=omega) only[Wz,seval,hSt];refine JrE (n:=117) (σ':=⟨[(0,.ptr 0 0),(3,nxV u N),(5,.ptr x 0),(6,.ptr (x+1) 0),(9,.ptr (x+2) 0)],⟨[(0,Jap n o l md 1),(x,Jo e),(x+1,J2 t),(x+2,JeT y)],(1,J8 W) :: nxT u N,x+3⟩,117⟩) (x+3) 9 10 9 70 JzO rfl rfl rfl rfl (by decide) (by decide) mixed ?_ ?_
 ·simp -implicitDefEqProofs (disch:=omega) only[Wz,seval,Ly,Lx,lop,Jap,Jh,J2,hy];exact St.wk.cp (Jk (Jb rfl (Jb rfl (Jb rfl (Jb rfl (Jb rfl Jl))))) (fun _ _ e=>e) (fun _ _ e=>e) rfl rfl)
 have stay:∀ (σ':St),(¬ e.op.1=2)->goU o l md e t.pos=false->lk σ'.slots 8=some (nxV u N)->lk σ'.hp.boxes 0=some (Jap n o l md 1)->σ'.hp.toks=(1,J8 W) :: nxT u N->x<=σ'.hp.nx->σ'.nt=117->∃ σ'',St.cp x σ' σ''/\Jfp (JaQ Tryz.prog σ'' [.tmp 8]) R σ''.hp:=fun σ' h2 hg s8 b0 t1 hnx hnt=>by
  have hMN:M=N:=by rw[<- hM];unfold Jcq;rw[if_neg h2,hg];simp
  subst hMN;refine fin σ' u W _ hW hnx (.inl rfl) hu0 s8 b0 (by rw[t1];rfl) (fun q hq=>?_) rfl hnt;rw[t1,hq];have:=hu q hq;simp only[lk,nxT];rw[if_neg (by omega),if_pos trivial]
 have go1:∀ (σ':St) (z:Tr) (q:Nat),(¬ e.op.1=2)->goU o l md e t.pos=true->z=⟨te,if e.op.1=1 then t.pos+1 else t.pos,if e.op.1=7 then t.acts++e.acts else t.acts⟩->(u=some q\/u=none/\q=x+4/\x+4<σ'.hp.nx)->lk σ'.slots 8=some (.own q (N.length+1))->lk σ'.hp.boxes 0=some (Jap n o l md 1)->lk σ'.hp.toks 1=some (J8 W)->lk σ'.hp.toks q=some ⟨N.map J2++[J2 z],0,3⟩->x<=σ'.hp.nx->σ'.nt=117->∃ σ'',St.cp x σ' σ''/\Jfp (JaQ Tryz.prog σ'' [.tmp 8]) R σ''.hp:=fun σ' z q h2 hg hz hq s8 b0 t1 tq hnx hnt=>by
  have hMN:M=N++[z]:=by rw[<- hM,hz];unfold Jcq;rw[if_neg h2,if_pos hg,hte];rfl
  refine fin σ' (some q) W σ'.hp.nx hW hnx ?_ (fun q=>by cases q) (by rw[s8,hMN];simp[nxV]) b0 t1 (fun q' hq'=>?_) rfl hnt
  ·rcases hq with hq | ⟨hq,h3,h4⟩
   ·exact .inl hq.symm
   ·exact .inr ⟨hq,q,rfl,by rw[h3];exact Nat.le_add_right x 4,by rw[h3];exact h4⟩
  ·cases hq';rw[tq,hMN,List.map_append];rfl
 have hf1:Ja7 (N.length+1) 40=True:=eq_true (JN (by omega) (by omega));simp -implicitDefEqProofs (disch:=omega) only[Wz,seval,Ly,Lx,Jo,J2,JeT];by_cases o1:e.op.1=1
 ·by_cases hy0:y.x<0
  ·simp -implicitDefEqProofs (disch:=omega) only[Wz,seval,Ly,Lx,o1];refine stay _ (by omega) (by unfold goU;rw[if_pos o1,hy,decide_eq_false (by omega)];rfl) rfl rfl rfl (by show x<=x+4;omega) rfl
  ·have hgo:goU o l md e t.pos=Jnv e.set y.x:=by unfold goU;rw[if_pos o1,hy,decide_eq_true (by omega),Bool.true_and]
   simp -implicitDefEqProofs (disch:=omega) only[Wz,seval,Ly,Lx,o1];refine JV Jyg (JqA e.set y.x (by have:=eok.set;omega)) (Jb (.of_pure (.vec (Ji Jcl _))) (Jb (.lit _) Jl)) (.lit _) ?_;cases hh:Jnv e.set y.x with
   | false =>
    rw[hh] at hgo;simp -implicitDefEqProofs (disch:=omega) only[Wz,seval,Ly,Lx];refine stay _ (by omega) hgo rfl rfl rfl (by show x<=x+4;omega) rfl
   | true =>
    rw[hh] at hgo;cases u with
    | none =>
     have:=hu0 rfl;subst this;simp -implicitDefEqProofs (disch:=omega) only[Wz,seval,Ly,Lx,nxV,nxT,List.map_nil,Ji8,JqV,Jj1,true_and,if_true];exact go1 _ _ (x+4) (by omega) hgo rfl (.inr ⟨rfl,rfl,by show x+4<x+5;omega⟩) rfl rfl rfl (by rw[if_pos o1,if_neg (by omega)];simp[lk,J2,hte]) (by show x<=x+5;omega) rfl
    | some q =>
     have hq:=hu q rfl;simp -implicitDefEqProofs (disch:=omega) only[Wz,seval,Ly,Lx,nxV,nxT,hf1,Ji8,if_true];refine go1 _ _ q (by omega) hgo rfl (.inl rfl) rfl rfl rfl ?_ ?_ rfl;rotate_left
     ·show x<=x+4;omega
     rw[if_pos o1,if_neg (by omega)];simp only[lk,J2,hte];rw[if_neg (by omega),if_pos trivial];rfl
 by_cases o3:e.op.1=3
 ·have hgo:goU o l md e t.pos=(ckG e.g && JaN ⟨(t.pos:Int),(y.col:Int),y.x,md⟩ o e.g):=by unfold goU;rw[if_neg o1,if_pos o3,hy]
  have hw:IntKind.i64.wrap y.x=y.x:=Jdy (by omega) (by omega);simp -implicitDefEqProofs (disch:=omega) only[Wz,seval,Ly,Lx,o3];refine Jx (n:=117) rfl (by decide) mixed ?_;have hh:=JmO e.g ⟨(t.pos:Int),(y.col:Int),y.x,md⟩ o (by have:=eok.g;omega) eok.gd (by have:=g.o;omega);rw[Jy] at hh;simp -implicitDefEqProofs (disch:=omega) only[Wz,seval,Ly,Lx,Jap,Jh,hw];refine Jif Jyh hh (Jb (by have:=gpG e.g;rw[Jy] at this;exact this) (Jb (.of_pure (.agg (JaU ⟨(t.pos:Int),(y.col:Int),y.x,md⟩))) (Jb (.of_pure (.vec (Ji Jbx _))) Jl))) (.lit _) ?_;cases hs:(ckG e.g && JaN ⟨(t.pos:Int),(y.col:Int),y.x,md⟩ o e.g) with
  | false =>
   rw[hs] at hgo;simp -implicitDefEqProofs (disch:=omega) only[Wz,seval,Ly,Lx];refine stay _ (by omega) hgo rfl rfl rfl (by show x<=x+4;omega) rfl
  | true =>
   rw[hs] at hgo;cases u with
   | none =>
    have:=hu0 rfl;subst this;simp -implicitDefEqProofs (disch:=omega) only[Wz,seval,Ly,Lx,nxV,nxT,List.map_nil,Ji8,JqV,Jj1,true_and,if_true];exact go1 _ _ (x+4) (by omega) hgo rfl (.inr ⟨rfl,rfl,by show x+4<x+5;omega⟩) rfl rfl rfl (by rw[if_neg o1,if_neg (by omega)];simp[lk,J2,hte]) (by show x<=x+5;omega) rfl
   | some q =>
    have hq:=hu q rfl;simp -implicitDefEqProofs (disch:=omega) only[Wz,seval,Ly,Lx,nxV,nxT,hf1,Ji8,if_true];refine go1 _ _ q (by omega) hgo rfl (.inl rfl) rfl rfl rfl ?_ ?_ rfl;rotate_left
    ·show x<=x+4;omega
    rw[if_neg o1,if_neg (by omega)];simp only[lk,J2,hte];rw[if_neg (by omega),if_pos trivial]
 by_cases o2:e.op.1=2
 ·have hec:=hE o2;have hen:=g.w.call ht.st he o2;obtain⟨rn,hrn⟩:∃ rn:Nat,e.n=(rn:Int):=⟨e.n.toNat,by omega⟩;have hrn2:e.n.toNat=rn:=by omega
  have hlen:=hlen o2;rw[hrn2] at hec hlen;simp -implicitDefEqProofs (disch:=omega) only[Wz,seval,Ly,Lx,o2,hrn];refine JE Joq (Jld hec _ 0 1 W hW rfl rfl (by decide) (by show 0<x+4;omega) (by show 1<x+4;omega) ?_) ?_
  ·show lk ((1,J8 W) :: nxT u N) 0=none;cases u with
   | none=>rfl
   | some q =>
    have:=hu q rfl;simp only[lk,nxT];rw[if_neg (by decide),if_neg (by omega)]
  rintro r h' ⟨rfl,W1,hW1,rfl⟩;obtain⟨ys,hys⟩:∃ ys,eF n o l md k rn t.pos=ys:=⟨_,rfl⟩;rw[hys] at hlen ⊢;simp -implicitDefEqProofs (disch:=omega) only[Wz,seval,Ly,Lx,enV];obtain⟨f,hf⟩:∃ f:En->Tr,(fun y=>⟨te,y.pos,t.acts⟩)=f:=⟨_,rfl⟩;have hfy:∀ y,J2 (f y)=[.lit (.int .i64 (te:Int)),.lit (.int .i64 (y.pos:Int)),.vec (t.acts.map JA) false]:=fun y=>by rw[<- hf];rfl
  have hMN:M=N++ys.map f:=by rw[<- hM,<- hf,<- hys];unfold Jcq;rw[if_pos o2,hrn2,hte];rfl
  refine Jp (fun(z:Nat × Option Nat × Nat)=>⟨[(0,.ptr 0 0),(3,nxV z.2.1 (N++(ys.take z.1).map f)),(5,.ptr x 0),(6,.ptr (x+1) 0),(85,.vec (ys.map JO) false),(86,.lit (.int .i64 (ys.length:Int))),(87,.lit (.int .i64 (z.1:Int)))],⟨[(0,Jap n o l md 1),(x,[.lit (.int .i8 2),.vec (e.set.map Jbi) false,.lit (.int .i64 (rn:Int)),.lit (.int .i64 e.level),.lit (.int .i8 e.g.op.1),.lit (.int .i64 e.g.n),.lit (.string e.g.name),.vec (e.g.kids.map JaZ) false,.vec (e.acts.map JA) false,.lit (.int .i64 e.to)]),(x+1,J2 t)],(1,J8 W1) :: nxT z.2.1 (N++(ys.take z.1).map f),z.2.2⟩,117⟩)
   (fun z=>z.1<=ys.length/\x+2<=z.2.2/\Nx u z.2.1 x z.2.2/\(z.2.1=none->N++(ys.take z.1).map f=[])) (fun z=>ys.length - z.1) (0,u,x+4)
   (Jk (by simp[lk]) (fun i c q=>JbD q) (fun i c q=>by simp only[List.take_zero,List.map_nil,List.append_nil] at q;simp only[up,if_true];exact q) rfl rfl) ⟨Nat.zero_le _,by show x+2<=x+4;omega,.inl rfl,by simpa using hu0⟩ ?_
  rintro⟨j,v,m⟩ ⟨hj,hm,hv,hv0⟩;simp only at hj hm hv hv0 ⊢;refine Jj ?_;obtain⟨Z,hZ⟩:∃ Z,N++(ys.take j).map f=Z:=⟨_,rfl⟩;have hZl:Z.length=N.length+j:=by rw[<- hZ];simp;omega
  rcases Nat.lt_or_ge j ys.length with hlt | hge
  ·have hZs:N++(ys.take (j+1)).map f=Z++[f (ys.getD j default)]:=by
    rw[<- hZ,List.append_assoc,List.take_succ_eq_append_getElem hlt,List.map_append,List.getD_eq_getElem?_getD,List.getElem?_eq_getElem hlt];rfl
   obtain⟨yj,hyj⟩:∃ yj,ys.getD j default=yj:=⟨_,rfl⟩;rw[hyj] at hZs;rw[hZ] at hv0;rw[hZ];have hf2:Ja7 (Z.length+1) 40=True:=eq_true (JN (by omega) (by omega));cases v with
   | none =>
    have hz:=hv0 rfl;subst hz;simp -implicitDefEqProofs (disch:=omega) only[Wz,seval,Ly,Lx,nxV,nxT,List.map_nil,hyj,JO,Jo,J2,hte,Ji8,JqV,Jj1,true_and,if_true];refine⟨(j+1,some (m+1),m+2),⟨by show j+1<=_;omega,by show x+2<=m+2;omega,?_,fun q=>by cases q⟩,by show ys.length - (j+1)<_;omega,?_⟩
    ·exact hv.trans (c:=m+2) (.inr ⟨rfl,m+1,rfl,by omega,by show m+1<m+2;omega⟩) (by omega) (by omega)
    ·refine Jk ?_ ?_ ?_ rfl rfl
     ·simp only[hZs];simp[lk,nxV]
     ·exact fun i c q=>JbD q
     ·simp only[hZs,nxT,List.nil_append,List.map_cons,List.map_nil,hfy];exact fun i c q=>q
   | some q =>
    have hq:=hv.lt (N:=2) (fun q hq=>by have:=hu q hq;exact⟨this.1,by omega⟩) hx q rfl;simp -implicitDefEqProofs (disch:=omega) only[Wz,seval,Ly,Lx,nxV,nxT,hyj,JO,Jo,J2,hte,hf2,Ji8,if_true];refine⟨(j+1,some q,m+1),⟨by show j+1<=_;omega,by show x+2<=m+1;omega,hv.le (Nat.le_refl _) (Nat.le_succ _),fun q=>by cases q⟩,by show ys.length - (j+1)<_;omega,?_⟩;refine Jk ?_ ?_ ?_ rfl rfl
    ·simp only[hZs];simp[lk,nxV]
    ·exact fun i c q=>JbD q
    ·simp only[hZs,nxT,List.map_append,List.map_cons,List.map_nil,hfy];exact fun i c q=>q
  ·have hje:j=ys.length:=by omega
   subst hje;rw[List.take_length] at hZ;have hZM:Z=M:=by rw[hMN,<- hZ]
   rw[List.take_length,hZ,hZM] at hv0 ⊢;simp -implicitDefEqProofs (disch:=omega) only[Wz,seval,Ly,Lx];refine fin _ v W1 m hW1 (by omega) hv hv0 rfl rfl rfl (fun q hq=>?_) rfl rfl;subst hq;have hq:=hv.lt (N:=2) (fun q hq=>by have:=hu q hq;exact⟨this.1,by omega⟩) hx q rfl;simp only[nxT,lk];rw[if_neg (by omega),if_pos trivial]
 have hgo:goU o l md e t.pos=true:=by unfold goU;rw[if_neg o1,if_neg o3]
 by_cases o7:e.op.1=7
 ·simp -implicitDefEqProofs (disch:=omega) only[Wz,seval,Ly,Lx,o7];have hc:=Jlc [t.acts,e.acts] (by simp) (by simp;omega) true;simp only[List.map_cons,List.map_nil,Jex,List.flatten_cons,List.flatten_nil,List.append_nil] at hc;refine Je Jyi hc (Jb (.vec (by simp;exact⟨.vec (Ji J7 _),.vec (Ji J7 _)⟩)) Jl) (.vec (Ji J7 _)) ?_;cases u with
  | none =>
   have:=hu0 rfl;subst this;simp -implicitDefEqProofs (disch:=omega) only[Wz,seval,Ly,Lx,nxV,nxT,List.map_nil,Ji8,JqV,Jj1,true_and,if_true];exact go1 _ _ (x+4) (by omega) hgo rfl (.inr ⟨rfl,rfl,by show x+4<x+5;omega⟩) rfl rfl rfl (by rw[if_neg o1,if_pos o7];simp[lk,J2,hte]) (by show x<=x+5;omega) rfl
  | some q =>
   have hq:=hu q rfl;simp -implicitDefEqProofs (disch:=omega) only[Wz,seval,Ly,Lx,nxV,nxT,hf1,Ji8,if_true];refine go1 _ _ q (by omega) hgo rfl (.inl rfl) rfl rfl rfl ?_ ?_ rfl;rotate_left
   ·show x<=x+4;omega
   rw[if_neg o1,if_pos o7];simp only[lk,J2,hte];rw[if_neg (by omega),if_pos trivial]
 ·simp -implicitDefEqProofs (disch:=omega) only[Wz,seval,Ly,Lx];cases u with
  | none =>
   have:=hu0 rfl;subst this;simp -implicitDefEqProofs (disch:=omega) only[Wz,seval,Ly,Lx,nxV,nxT,List.map_nil,Ji8,JqV,Jj1,true_and,if_true];exact go1 _ _ (x+4) (by omega) hgo rfl (.inr ⟨rfl,rfl,by show x+4<x+5;omega⟩) rfl rfl rfl (by rw[if_neg o1,if_neg o7];simp[lk,J2,hte]) (by show x<=x+5;omega) rfl
  | some q =>
   have hq:=hu q rfl;simp -implicitDefEqProofs (disch:=omega) only[Wz,seval,Ly,Lx,nxV,nxT,hf1,Ji8,if_true];refine go1 _ _ q (by omega) hgo rfl (.inl rfl) rfl rfl rfl ?_ ?_ rfl;rotate_left
   ·show x<=x+4;omega
   rw[if_neg o1,if_neg o7];simp only[lk,J2,hte];rw[if_neg (by omega),if_pos trivial]
end Go.Proofs.Y
end
section
namespace Go.Proofs.Y
open Go Go.Ab
def tkN (M:List Tr):Tk:=⟨M.map J2,0,3⟩
def JyU (T:List (Nat × Tk))(u u':Option Nat)(M:List Tr):List (Nat × Tk) :=
 match u,u' with
 | some q,_=>up T q (tkN M)
 | none,some q'=>T++[(q',tkN M)]
 | none,none=>T
theorem JyV{ρ:Nat->Nat}{N:Nat}{u u':Option Nat}{M:List Tr}(h:∀ q,u=some q->q<N/\u'=some (ρ q))(h0:u=none->u'=none):Rn ρ N (nxV u M) (nxV u' M):=by
 cases u with
 | none=>rw[h0 rfl];exact .pure (.vec (by simp))
 | some q=>obtain⟨h1,h2⟩:=h q rfl;rw[h2];exact .own h1 rfl
theorem Jtk(n:Nt)(o:List Orc)(l:List Un)(md:Int)(k:Nat)(g:JpY n o l md)(t:Tr)(ht:Jff n l t)(e:Ed)(he:e∈(n.states.getD t.st default).edges)(hta:t.acts.length<=2000000000000)(hea:e.acts.length<=2000000)(hE:e.op.1=2->JbP n o l md k e.n.toNat t.pos)
  (hlen:e.op.1=2->(eF n o l md k e.n.toNat t.pos).length<=1000000) (W:Td) (hW:Jdq n o l md k W) (u:Option Nat) (N:List Tr) (hN:N.length<=1500000000) (hu0:u=none->N=[])
  (H:Hp) (hn:2<=H.nx) (h0:lk H.boxes 0=some (Jap n o l md 1)) (h1:lk H.toks 1=some (J8 W)) (hno:lk H.toks 0=none) (hu:∀ q,u=some q->2<=q/\q<H.nx/\lk H.toks q=some (tkN N)) (hf:∀ i,H.nx<=i->lk H.toks i=none) :
  JU Tryz.prog 53 [.ptr 0 0,.agg (Jo e),.agg (J2 t),nxV u N] H fun r h'=>∃ u' W' m,r=nxV u' (N++Jcq o l md (eF n o l md k) e t)/\Jdq n o l md k W'/\H.nx<=m/\Nx u u' H.nx m/\(u'=none->N++Jcq o l md (eF n o l md k) e t=[])/\h'=⟨H.boxes,JyU (up H.toks 1 (J8 W')) u u' (N++Jcq o l md (eF n o l md k) e t),m⟩:=by
 obtain⟨M,hM⟩:∃ M,N++Jcq o l md (eF n o l md k) e t=M:=⟨_,rfl⟩;have pr:∀ {ρ:Nat->Nat} {N:Nat} (M:List Tr),RnR ρ N (M.map J2) (M.map J2):=fun M=>.pure (Ji Jd9 M);cases u with
 | none =>
  have hs:=Jj2 n o l md k g t ht e he hta hea hE hlen W hW none N hN 2 (Nat.le_refl _) (fun q hq=>by cases hq) hu0;rw[hM] at hs ⊢;have ii:∀ i,i<2->ren (fun i=>i) 2 H.nx i=i:=fun i hi=>by simp[ren,hi]
  refine JU.sub (hs:=hSt n o l md W none N 2) (fun i=>i) (fun i j _ _ q=>q) (fun i hi=>by have hi:i<2:=hi;omega) (.cons (.ptr (by show 0<2;decide) rfl) (.cons (.pure (.agg (JbT e))) (.cons (.pure (.agg (Jd9 t))) (.cons (.pure (.vec (by simp))) .nil)))) (Jb ⟨by show 0<2;decide,_,h0,JbA n o l md (by show 1<2;decide) rfl⟩ Jl)
   (Jb ⟨by show 1<2;decide,_,h1,rfl,rfl,.pure (JaA W)⟩ Jl) hs ?_
  rintro r h' ⟨u',W',m,rfl,hW',hm,hx,hu',rfl⟩ _;have hm2:(2:Nat)<=m:=hm;obtain⟨v,hv⟩:∃ v:Option Nat,v=u'.map (fun q=>H.nx+(q - 2)):=⟨_,rfl⟩;have hxq:∀ q,u'=some q->2<=q/\q<m:=hx.lt (fun q hq=>by cases hq) (Nat.le_refl _);refine⟨nxV v M,⟨H.boxes,JyU (up H.toks 1 (J8 W')) none v M,H.nx+(m - 2)⟩,m - 2,by show 2+(m - 2)<=m;omega,rfl,JyV (fun q hq=>?_) (fun q=>by rw[hv,q];rfl),fun i cs' e=>?_,fun i k' e=>?_,v,W',_,rfl,hW',Nat.le_add_right _ _,?_,fun q=>hu' ?_,rfl⟩
  ·obtain⟨a1,a2⟩:=hxq q hq;exact⟨by show q<2+(m - 2);omega,by rw[hv,hq];simp[ren,hSt,show ¬ q<2 by omega]⟩
  ·by_cases q:i=0
   ·subst q;have e:lk H.boxes 0=some cs':=e;rw[h0] at e;cases e;exact .inl ⟨0,_,by show 0<2+(m - 2);omega,rfl,rfl,JbA n o l md (by show 1<2+(m - 2);omega) rfl⟩
   ·refine .inr ⟨e,fun j cj ej=>?_⟩;have:j=0:=by
     simp only[hSt,lk] at ej;split at ej
     ·omega
     ·cases ej
    subst this;exact fun q'=>q q'.symm
  ·have old:lk (up H.toks 1 (J8 W')) i=some k'->(∃ j k,j<2+(m - 2)/\ren (fun i=>i) 2 H.nx j=i/\lk ((1,J8 W') :: nxT u' M) j=some k/\k'.fz=k.fz/\k'.s=k.s/\RnR (ren (fun i=>i) 2 H.nx) (2+(m - 2)) k.xs k'.xs)\/(lk H.toks i=some k'/\∀ j,j<2->j≠i):=fun e=>by
    rw[JH] at e;by_cases q1:1=i
    ·rw[if_pos q1,h1] at e;simp only[Option.map_some,Option.some.injEq] at e;exact .inl ⟨1,J8 W',by omega,by rw[ii 1 (by decide)];exact q1,rfl,by rw[<- e],by rw[<- e],by rw[<- e];exact .pure (JaA W')⟩
    ·rw[if_neg q1] at e;refine .inr ⟨e,fun j hj q=>?_⟩;have:j=0\/j=1:=by omega
     rcases this with rfl | rfl
     ·rw[<- q,hno] at e;cases e
     ·exact q1 q
   cases hu2:u' with
   | none =>
    rw[hu2] at hv old;subst hv;exact old e
   | some q =>
    obtain⟨a1,a2⟩:=hxq q hu2;rw[hu2] at hv old;subst hv;have e:lk (up H.toks 1 (J8 W')++[(H.nx+(q - 2),tkN M)]) i=some k':=e;rw[JC] at e;cases e1:lk (up H.toks 1 (J8 W')) i with
    | some k2 =>
     rw[e1] at e;simp only[Option.some_or,Option.some.injEq] at e;subst e;exact old e1
    | none =>
     rw[e1] at e;simp only[Option.none_or,lk] at e;split at e
     ·rename_i q2;cases e;refine .inl ⟨q,tkN M,by show q<2+(m - 2);omega,by simp[ren,hSt,show ¬ q<2 by omega];exact q2,?_,rfl,rfl,pr M⟩;show lk ((1,J8 W') :: [(q,tkN M)]) q=_;simp only[lk];rw[if_neg (by omega),if_pos trivial]
     ·cases e
  ·cases hu2:u' with
   | none=>rw[hu2] at hv;subst hv;exact .inl rfl
   | some q =>
    obtain⟨a1,a2⟩:=hxq q hu2;rw[hu2] at hv;subst hv;exact .inr ⟨rfl,H.nx+(q - 2),rfl,Nat.le_add_right _ _,by show H.nx+(q - 2)<H.nx+(m - 2);omega⟩
  ·cases hu2:u' with
   | none=>rfl
   | some q'=>rw[hv,hu2] at q;cases q
 | some p =>
  obtain⟨p1,p2,p3⟩:=hu p rfl;have hs:=Jj2 n o l md k g t ht e he hta hea hE hlen W hW (some 2) N hN 3 (by decide) (fun q hq=>by cases hq;decide) (fun q=>by cases q);rw[hM] at hs ⊢;let ρ:Nat->Nat:=fun i=>if i=2 then p else i
  have r0:ρ 0=0:=rfl;have r1:ρ 1=1:=rfl;have r2:ρ 2=p:=rfl;have cases3:∀ i,i<3->i=0\/i=1\/i=2:=fun i hi=>by omega
  have hinj:∀ i j,i<3->j<3->ρ i=ρ j->i=j:=fun i j hi hj e=>by
   rcases cases3 i hi with rfl | rfl | rfl <;> rcases cases3 j hj with rfl | rfl | rfl <;> simp only[r0,r1,r2] at e <;> omega
  refine JU.sub (hs:=hSt n o l md W (some 2) N 3) ρ hinj (fun i hi=>?_) (.cons (.ptr (by show 0<3;decide) rfl) (.cons (.pure (.agg (JbT e))) (.cons (.pure (.agg (Jd9 t))) (.cons (.own (by show 2<3;decide) rfl) .nil)))) (Jb ⟨by show 0<3;decide,_,h0,JbA n o l md (by show 1<3;decide) rfl⟩ Jl)
   (Jb ⟨by show 1<3;decide,_,h1,rfl,rfl,.pure (JaA W)⟩ (Jb ⟨by show 2<3;decide,_,p3,rfl,rfl,pr N⟩ Jl)) hs ?_
  ·have hi:i<3:=hi;rcases cases3 i hi with rfl | rfl | rfl <;> simp only[r0,r1,r2] <;> omega
  rintro r h' ⟨u',W',m,rfl,hW',hm,hx,hu',rfl⟩ _;have hm2:(3:Nat)<=m:=hm;obtain rfl:u'=some 2:=by
   rcases hx with hx | ⟨hx,_⟩
   ·exact hx
   ·cases hx
  refine⟨nxV (some p) M,⟨H.boxes,JyU (up H.toks 1 (J8 W')) (some p) (some p) M,H.nx+(m - 3)⟩,m - 3,by show 3+(m - 3)<=m;omega,rfl,.own (by show 2<3+(m - 3);omega) rfl,fun i cs' e=>?_,fun i k' e=>?_,some p,W',_,rfl,hW',Nat.le_add_right _ _,.inl rfl,fun q=>(by cases q),rfl⟩
  ·by_cases q:i=0
   ·subst q;have e:lk H.boxes 0=some cs':=e;rw[h0] at e;cases e;exact .inl ⟨0,_,by show 0<3+(m - 3);omega,rfl,rfl,JbA n o l md (by show 1<3+(m - 3);omega) rfl⟩
   ·refine .inr ⟨e,fun j cj ej=>?_⟩;have:j=0:=by
     simp only[hSt,lk] at ej;split at ej
     ·omega
     ·cases ej
    subst this;exact fun q'=>q q'.symm
  ·have e:lk (up (up H.toks 1 (J8 W')) p (tkN M)) i=some k':=e;rw[JH] at e;by_cases q2:p=i
   ·rw[if_pos q2,JH,if_neg (by omega),p3] at e;simp only[Option.map_some,Option.some.injEq] at e;exact .inl ⟨2,tkN M,by show 2<3+(m - 3);omega,q2,rfl,by rw[<- e],by rw[<- e],by rw[<- e];exact pr M⟩
   ·rw[if_neg q2,JH] at e;by_cases q1:1=i
    ·rw[if_pos q1,h1] at e;simp only[Option.map_some,Option.some.injEq] at e;exact .inl ⟨1,J8 W',by show 1<3+(m - 3);omega,q1,rfl,by rw[<- e],by rw[<- e],by rw[<- e];exact .pure (JaA W')⟩
    ·rw[if_neg q1] at e;refine .inr ⟨e,fun j hj=>?_⟩;have hj:j<3:=hj;rcases cases3 j hj with rfl | rfl | rfl
     ·intro q;rw[r0] at q;rw[<- q,hno] at e;cases e
     ·exact q1
     ·exact q2
end Go.Proofs.Y
end
section
namespace Go.Proofs.Y
open Go Go.Ab
theorem Jpk(g:Sp->Nat)(p:Sp->Bool)(S:List Sp):(S.map g).sum=((S.filter p).map g).sum+((S.filter fun x => !p x).map g).sum:=by
 induction S with
 | nil=>rfl
 | cons x S ih =>
  rw[List.filter_cons,List.filter_cons];cases p x <;> simp[ih] <;> omega
theorem Jpl{g:Sp->Nat}{c:Nat}{S:List Sp}(h:∀ x∈S,g x=c):(S.map g).sum=S.length * c:=by
 induction S with
 | nil=>simp
 | cons x S ih =>
  rw[List.map_cons,List.sum_cons,h x (by simp),ih fun x hx=>h x (by simp[hx]),List.length_cons,Nat.add_mul];omega
theorem Jpm(f:Nat->Nat)(K:Nat):∀ (N:Nat) (S:List Sp),S.Nodup->(∀ x∈S,x.1<N/\x.2<K)->(S.map fun x=>f x.1).sum<=K * ((List.range N).map f).sum:=by
 intro N;induction N with
 | zero =>
  intro S _ h;cases S with
  | nil=>simp
  | cons x S=>exact absurd (h x (by simp)).1 (Nat.not_lt_zero _)
 | succ N ih =>
  intro S nd h;rw[Jpk (fun x=>f x.1) (fun x=>decide (x.1=N)) S,List.range_succ,List.map_append,List.sum_append,Nat.mul_add];have h1:((S.filter fun x => !decide (x.1=N)).map fun x=>f x.1).sum<=K * ((List.range N).map f).sum:=ih _ (nd.filter _) fun x hx=>by
   obtain⟨q1,q2⟩:=List.mem_filter.1 hx;have:=h x q1;simp only[Bool.not_eq_true',decide_eq_false_iff_not] at q2;exact⟨by omega,this.2⟩
  have h2:((S.filter fun x=>decide (x.1=N)).map fun x=>f x.1).sum=(S.filter fun x=>decide (x.1=N)).length * f N:=Jpl fun x hx=>by
   have:=(List.mem_filter.1 hx).2;simp only[decide_eq_true_eq] at this;rw[this]
  have h3:(S.filter fun x=>decide (x.1=N)).length<=K:=by
   have nd2:((S.filter fun x=>decide (x.1=N)).map fun x=>x.2).Nodup:=by
    have nd1:=List.Pairwise.filter (fun x:Sp=>decide (x.1=N)) nd;rw[List.nodup_iff_pairwise_ne,List.pairwise_map];refine nd1.imp_of_mem ?_;intro a b ha hb hab q;have e1:=(List.mem_filter.1 ha).2;have e2:=(List.mem_filter.1 hb).2;simp only[decide_eq_true_eq] at e1 e2;exact hab (Prod.ext (by rw[e1,e2]) q)
   have:=Jiz (M:=K) nd2 (fun y hy=>by
    obtain⟨x,hx,rfl⟩:=List.mem_map.1 hy;exact(h x (List.mem_filter.1 hx).1).2)
   simpa using this
  have h4:(S.filter fun x=>decide (x.1=N)).length * f N<=K * f N:=Nat.mul_le_mul_right _ h3;simp only[List.map_cons,List.map_nil,List.sum_cons,List.sum_nil,Nat.add_zero];omega
def Jsc (n:Nt)(s:Nat):Nat:=(n.states.getD s default).edges.length
def JpZ (n:Nt):Nat:=((List.range n.states.length).map (Jsc n)).sum
theorem JyW{f:Nat->Nat}{N s:Nat}(h:s<N):f s<=((List.range N).map f).sum:=by
 induction N with
 | zero=>omega
 | succ N ih =>
  rw[List.range_succ,List.map_append,List.sum_append];simp only[List.map_cons,List.map_nil,List.sum_cons,List.sum_nil,Nat.add_zero];rcases Nat.lt_or_ge s N with q | q
  ·have:=ih q;omega
  ·have:s=N:=by omega
   subst this;omega
theorem Jsd{n:Nt}{s:Nat}(h:s<n.states.length):Jsc n s<=JpZ n:=JyW h
def JtY (n:Nt)(S:Jbd):Nat:=(S.map fun x=>Jsc n x.1).sum
theorem Jtl{n:Nt}{l:List Un}{S:Jbd}(h1:S.Nodup)(h2:InR n l S):JtY n S<=l.length * JpZ n:=Jpm (Jsc n) l.length n.states.length S h1 h2
theorem Jj3(n:Nt)(S:Jbd)(x:Nat × Nat):JtY n (S++[x])=JtY n S+Jsc n x.1:=by simp[JtY,Nat.add_comm]
structure Jhf (N L:Nat) (ws:List Nat) (S:Jbd):Prop where
 len:ws.length=N * L / 64+1
 lt:∀ w∈ws,w<W64
 bit:∀ s p,s<N->p<L->((ws.getD ((s * L+p) / 64) 0).testBit ((s * L+p) % 64)=true↔(s,p)∈S)
theorem Jpn{N L s p:Nat}(hs:s<N)(hp:p<L):s * L+p<N * L:=by
 calc s * L+p<s * L+L:=by omega
  _=(s+1) * L:=by rw[Nat.add_mul,Nat.one_mul]
  _<=N * L:=Nat.mul_le_mul_right _ hs
theorem JqW{L s p s' p':Nat}(hp:p<L)(hp':p'<L)(h:s * L+p=s' * L+p'):s=s'/\p=p':=by
 have hL:0<L:=by omega
 have e1:s=s':=by
  have l1:(s * L+p) / L=s:=by rw[Nat.mul_comm,Nat.mul_add_div hL,Nat.div_eq_of_lt hp,Nat.add_zero]
  have l2:(s' * L+p') / L=s':=by rw[Nat.mul_comm,Nat.mul_add_div hL,Nat.div_eq_of_lt hp',Nat.add_zero]
  rw[<- l1,<- l2,h]
 refine⟨e1,?_⟩;rw[e1] at h;omega
theorem Jpo{ws:List Nat}{i:Nat}(h:i / 64<ws.length)(j:Nat):((Jhe ws i).getD (j / 64) 0).testBit (j % 64)=((ws.getD (j / 64) 0).testBit (j % 64) || decide (i=j)):=by
 unfold Jhe;by_cases q:i / 64=j / 64
 ·rw[<- q,List.getD_eq_getElem?_getD,List.getElem?_set_self h,Option.getD_some,Nat.testBit_or,Nat.testBit_two_pow];congr 1
  rw[Bool.eq_iff_iff,decide_eq_true_eq,decide_eq_true_eq];omega
 ·rw[List.getD_eq_getElem?_getD,List.getElem?_set_ne q,<- List.getD_eq_getElem?_getD];have:decide (i=j)=false:=decide_eq_false (fun e=>q (by rw[e]));rw[this,Bool.or_false]
theorem Jhf.idx{N L:Nat}{ws:List Nat}{S:Jbd}(b:Jhf N L ws S){s p:Nat}(hs:s<N)(hp:p<L):(s * L+p) / 64<ws.length:=by
 rw[b.len];have:=Nat.div_le_div_right (c:=64) (Nat.le_of_lt (Jpn hs hp));omega
theorem JqX{ws:List Nat}(h:∀ w∈ws,w<W64)(i:Nat):∀ w∈Jhe ws i,w<W64:=fun w hw=>by
 unfold Jhe at hw;rcases List.mem_or_eq_of_mem_set hw with q | q
 ·exact h w q
 ·rw[q];refine JyM ?_ (Jo8 (Nat.mod_lt _ (by decide)));rcases Nat.lt_or_ge (i / 64) ws.length with q | q
  ·exact h _ (by rw[List.getD_eq_getElem?_getD,List.getElem?_eq_getElem q];exact List.getElem_mem q)
  ·rw[List.getD_eq_getElem?_getD,List.getElem?_eq_none q];show 0<W64;decide
theorem Jhf.mark{N L:Nat}{ws:List Nat}{S S':Jbd}(b:Jhf N L ws S){s p:Nat}(hs:s<N)(hp:p<L)(hS:∀ x,x∈S'↔x∈S\/x=(s,p)):Jhf N L (Jhe ws (s * L+p)) S':=by
 refine⟨by unfold Jhe;rw[List.length_set];exact b.len,JqX b.lt _,fun s' p' hs' hp'=>?_⟩;rw[Jpo (b.idx hs hp),Bool.or_eq_true,b.bit s' p' hs' hp',decide_eq_true_eq,hS];constructor
 ·rintro(h | h)
  ·exact .inl h
  ·obtain⟨rfl,rfl⟩:=JqW hp hp' h;exact .inr rfl
 ·rintro(h | h)
  ·exact .inl h
  ·cases h;exact .inr rfl
theorem Jhf.init(N L:Nat):Jhf N L (List.replicate (N * L / 64+1) 0) []:=by
 refine⟨by simp,fun w hw=>?_,fun s p hs hp=>?_⟩
 ·rw[(List.mem_replicate.1 hw).2];decide
 ·constructor
  ·intro h;rw[List.getD_eq_getElem?_getD,List.getElem?_replicate] at h;split at h <;> simp at h
  ·intro h;cases h
abbrev Jfg:Nat:=1048576
structure Jl0 (n:Nt):Prop where
 nst:n.states.length<=1500
 es:JpZ n<=1048576
 acts:∀ s,∀ e∈(n.states.getD s default).edges,e.acts.length<=Jfg
structure EI (n:Nt) (o:List Orc) (l:List Un) (md:Int) (k r a:Nat) (rk:Nat->Nat) (R:Nat) (S:Jbd) (T:List Tr) (O:List En):Prop where
 res:O++(JcN (wF n o l md k r) T.reverse S).2=eF n o l md k r a
 ok:∀ y∈T,Jff n l y/\mT l rk R y<=mT l rk R ⟨stN n r,a,[]⟩
 nd:S.Nodup
 inr:InR n l S
 acts:∀ y∈T,y.acts.length<=Jfg * S.length
 len:T.length<=1+l.length * JtY n S
section
variable {n:Nt} {o:List Orc} {l:List Un} {md:Int} {k r a:Nat} {rk:Nat->Nat} {R:Nat} {S:Jbd} {T:List Tr} {O:List En}
theorem EI.init(w:Wf n)(hr:r<n.rules.length)(ha:a<l.length):EI n o l md k r a rk R [] [⟨stN n r,a,[]⟩] []:=by
 have a1:=w.start hr;refine⟨by simp[JcN,eF],fun y hy=>?_,List.nodup_nil,fun p hp=>(by cases hp),fun y hy=>?_,by simp⟩
 ·rw[List.mem_singleton] at hy;subst hy;exact⟨⟨by unfold stN;simp only;omega,ha⟩,Nat.le_refl _⟩
 ·rw[List.mem_singleton] at hy;subst hy;simp
theorem EI.done(h:EI n o l md k r a rk R S [] O):O=eF n o l md k r a:=by simpa [JcN] using h.res
theorem EI.out(h:EI n o l md k r a rk R S T O)(w:Wf n)(u:Jnz l)(hr:r<n.rules.length)(ha:a<l.length):O.length<=l.length:=by
 have h1:=JiD w u (o:=o) (md:=md) (k:=k) hr ha;rw[<- h.res,List.length_append] at h1;omega
theorem EI.seen{y:Tr}(f:Jkv n o l md k)(h:EI n o l md k r a rk R S (T++[y]) O)(hy:(y.st,y.pos)∈S):EI n o l md k r a rk R S T O:=by
 refine⟨?_,fun z hz=>h.ok z (by simp[hz]),h.nd,h.inr,fun z hz=>h.acts z (by simp[hz]),by have:=h.len;simp at this;omega⟩;have h1:=h.res;have h2:=f.go r y S (h.ok y (by simp)).1;rw[if_pos hy] at h2;rw[List.reverse_append,List.reverse_singleton,List.singleton_append] at h1;simp only[JcN,h2,List.nil_append] at h1;exact h1
theorem EI.stop{y:Tr}(f:Jkv n o l md k)(h:EI n o l md k r a rk R S (T++[y]) O)(hy:(y.st,y.pos)∉S)(hs:y.st=spN n r):EI n o l md k r a rk R (S++[(y.st,y.pos)]) T (O++[⟨y.pos,y.acts⟩]):=by
 have hyo:=(h.ok y (by simp)).1;refine⟨?_,fun z hz=>h.ok z (by simp[hz]),Jcd h.nd hy,h.inr.snoc hyo,fun z hz=>?_,?_⟩
 ·have h1:=h.res;have h2:=f.go r y S hyo;rw[if_neg hy,if_pos hs] at h2;rw[List.reverse_append,List.reverse_singleton,List.singleton_append] at h1;simp only[JcN,h2] at h1;rw[List.append_assoc];exact h1
 ·have:=h.acts z (by simp[hz]);rw[List.length_append];have:=Nat.mul_le_mul_left Jfg (Nat.le_add_right S.length [(y.st,y.pos)].length);omega
 ·have:=h.len;rw[Jj3,Nat.mul_add];simp at this;omega
theorem EI.push{y:Tr}(w:Wf n)(u:Jnz l)(m:Jl0 n)(f:Jkv n o l md k)(hrk:Rk n rk)(hR:∀ s,s<n.states.length->rk s<=R)(h:EI n o l md k r a rk R S (T++[y]) O)(hy:(y.st,y.pos)∉S)(hs:y.st≠spN n r) :
  EI n o l md k r a rk R (S++[(y.st,y.pos)]) (T++(JbC n o l md (eF n o l md k) y).reverse) O:=by
 obtain⟨hyo,hym⟩:=h.ok y (by simp);have hE:∀ e∈(n.states.getD y.st default).edges,e.op.1=2->(eF n o l md k e.n.toNat y.pos).length<=l.length:=fun e he h2=>JiD w u (by have:=w.call hyo.st he h2;omega) hyo.pos;refine⟨?_,fun z hz=>?_,Jcd h.nd hy,h.inr.snoc hyo,fun z hz=>?_,?_⟩
 ·have h1:=h.res;have h2:=f.go r y S hyo;rw[if_neg hy,if_neg hs] at h2;rw[List.reverse_append,List.reverse_singleton,List.singleton_append] at h1;rw[List.reverse_append,List.reverse_reverse,JgR];simp only[JcN,h2] at h1;exact h1
 ·rcases List.mem_append.1 hz with hz | hz
  ·exact h.ok z (by simp[hz])
  ·have hz:=List.mem_reverse.1 hz;obtain⟨q1,q2,q3⟩:=JgS w u hyo (fun e he h2=>JjX w u (by have:=w.call hyo.st he h2;omega) hyo.pos) hz;have:=Jth hR hrk hyo q1 q2 q3;exact⟨q1,by omega⟩
 ·have hA:Jfg * (S++[(y.st,y.pos)]).length=Jfg * S.length+Jfg:=by rw[List.length_append,List.length_singleton,Nat.mul_add,Nat.mul_one]
  rw[hA];rcases List.mem_append.1 hz with hz | hz
  ·have:=h.acts z (by simp[hz]);omega
  ·have hz:=List.mem_reverse.1 hz;have h1:=JgT w u (m.acts y.st) hz;have h2:=h.acts y (by simp);omega
 ·have h1:=h.len;have h2:=JlY w u (o:=o) (md:=md) hE;rw[Jj3,Nat.mul_add,Nat.mul_comm l.length (Jsc n y.st)];unfold Jsc;simp only[List.length_append,List.length_singleton,List.length_reverse] at h1 ⊢;omega
def muE (n:Nt)(l:List Un)(S:Jbd)(T:List Tr):Nat:=(n.states.length * l.length - S.length) * (JpZ n * l.length+1)+T.length
theorem JqY(n:Nt)(l:List Un)(S:Jbd)(T:List Tr)(y:Tr):muE n l S T<muE n l S (T++[y]):=by unfold muE;simp
theorem Jl1{y:Tr}{X:List Tr}(h:EI n o l md k r a rk R S (T++[y]) O)(hy:(y.st,y.pos)∉S)(hX:X.length<=JpZ n * l.length):muE n l (S++[(y.st,y.pos)]) (T++X)<muE n l S (T++[y]):=by
 have hyo:=(h.ok y (by simp)).1;have h1:=JiA (Jcd h.nd hy) (h.inr.snoc hyo);unfold muE;simp only[List.length_append,List.length_singleton] at h1 ⊢;have e:n.states.length * l.length - S.length=(n.states.length * l.length - (S.length+1))+1:=by omega
 rw[e,Nat.add_mul,Nat.one_mul];omega
end
end Go.Proofs.Y
end
section
namespace Go.Proofs.Y
open Go Go.Ab
theorem JqZ{P:Program}{id:Nat}{rest:Code}{Q:Exit->St->Prop}{σ:St}(h:Aw P rest Q σ):Aw P (.seq (.label id) rest) Q σ:=fun g0 h0 w0 g w a r=>wpIn_seq (wpIn_label (h g0 h0 w0 g w a r))
theorem Jtm{P:Program}{rest:Code}{Q:Exit->St->Prop}{σ:St}(h:Aw P rest Q σ):Aw P (.seq .skip rest) Q σ:=Jm (Jj (c:=.skip) h)
theorem Jpp{P:Program}{σ:St}{c rest:Code}{Q:Exit->St->Prop}(l:Nat)(hf:findLabel c l=some (.seq .skip rest))(J:Nat->St->Prop)(n0:Nat)
  (first:(∀ σ',J n0 σ'->Aw P rest (Jib l (fun σ=>∃ m,m<n0/\J m σ) Q) σ')->Aw P c (Jib l (fun σ=>∃ m,m<n0/\J m σ) Q) σ) (pass:∀ n σ,J n σ->Aw P rest (Jib l (fun σ=>∃ m,m<n/\J m σ) Q) σ):Aw P (.scope c) Q σ:=by
 intro g0 h0 w0 g w a r;let I:Nat->Act->World->Prop:=fun n a w=>∃ σ g,J n σ/\Jae g0 h0 w0 σ g w a
 refine JfI l (fun a w=>∃ n,I n a w) (fun a w=>leastOf (fun n=>I n a w)) hf ?_ ?_
 ·exact wpIn_mono (first (pass n0) g0 h0 w0 g w a r) (Jjl (fun a w ⟨σ,g,⟨n,_,h1⟩,h2⟩=>⟨n,σ,g,h1,h2⟩))
 ·intro a w hI;obtain⟨σ1,g1,k1,k2⟩:=(leastOf_spec hI).1;refine wpIn_mono (Jtm (pass _ σ1 k1) g0 h0 w0 g1 w a k2) (Jjl (fun a' w' ⟨σ,g,⟨m,h0,h1⟩,h2⟩=>?_));have hI':I m a' w':=⟨σ,g,h1,h2⟩;exact⟨⟨m,hI'⟩,Nat.lt_of_le_of_lt ((leastOf_spec ⟨m,hI'⟩).2 m hI') h0⟩
def JtZ (q:Option Nat)(O:List En):AV:=match q with | none=>.vec [] true | some q=>.own q O.length
def Jle (q:Option Nat)(O:List En):List (Nat × Tk):=match q with | none=>[] | some q=>[(q,⟨O.map JO,0,2⟩)]
def tkB (ws:List Nat):Tk:=⟨ws.map Jtd,0,1⟩
def LT (W:Td)(ws:List Nat)(s:Nat)(T:List Tr)(q:Option Nat)(O:List En)(u:Option Nat)(N:List Tr):List (Nat × Tk):=(1,J8 W) :: (3,tkB ws) :: (s,tkN T) :: (Jle q O++nxT u N)
structure Dj (s:Nat) (q u:Option Nat) (nx:Nat):Prop where
 n7:7<=nx
 s4:4<=s
 sn:s<nx
 hq:∀ v,q=some v->7<=v/\v<nx/\v≠s
 hu:∀ v,u=some v->7<=v/\v<nx/\v≠s/\q≠some v
theorem Dj.up{s:Nat}{q u:Option Nat}{a b:Nat}(d:Dj s q u a)(h:a<=b):Dj s q u b :=
 ⟨by have:=d.n7;omega,d.s4,by have:=d.sn;omega,fun v hv=>by have:=d.hq v hv;exact⟨this.1,by omega,this.2.2⟩,fun v hv=>by have:=d.hu v hv;exact⟨this.1,by omega,this.2.2⟩⟩
theorem Dj.news{s:Nat}{q u:Option Nat}{a b:Nat}(d:Dj s q u a)(h:a<b):Dj a q u b :=
 ⟨by have:=d.n7;omega,by have:=d.n7;omega,h,fun v hv=>by have:=d.hq v hv;exact⟨this.1,by omega,by omega⟩,fun v hv=>by have:=d.hu v hv;exact⟨this.1,by omega,by omega,this.2.2.2⟩⟩
theorem Dj.newq{s:Nat}{u:Option Nat}{a b:Nat}(d:Dj s none u a)(h:a<b):Dj s (some a) u b :=
 ⟨by have:=d.n7;omega,d.s4,by have:=d.sn;omega,fun v hv=>by cases hv;exact⟨d.n7,h,by have:=d.sn;omega⟩,fun v hv=>by have:=d.hu v hv;exact⟨this.1,by omega,this.2.2.1,fun e=>by cases e;omega⟩⟩
theorem Dj.newu{s:Nat}{q u u':Option Nat}{a b:Nat}(d:Dj s q u a)(h:Nx u u' a b)(hab:a<=b):Dj s q u' b:=by
 rcases h with rfl | ⟨rfl,v,rfl,h3,h4⟩
 ·exact d.up hab
 ·exact⟨by have:=d.n7;omega,d.s4,by have:=d.sn;omega,fun v hv=>by have:=d.hq v hv;exact⟨this.1,by omega,this.2.2⟩,fun x hx=>by
   cases hx;exact⟨by have:=d.n7;omega,h4,by have:=d.sn;omega,fun e=>by have:=d.hq _ e;omega⟩⟩
section
variable {W:Td} {ws:List Nat} {s:Nat} {T:List Tr} {q:Option Nat} {O:List En} {u:Option Nat} {N:List Tr} {nx:Nat}
theorem JB4:lk (LT W ws s T q O u N) 1=some (J8 W):=rfl
theorem Jzz(d:Dj s q u nx):lk (LT W ws s T q O u N) s=some (tkN T):=by
 have:=d.s4;unfold LT;simp only[lk];rw[if_neg (by omega),if_neg (by omega),if_pos trivial]
theorem Jey(d:Dj s q u nx){i:Nat}(h1:i≠1)(h3:i≠3)(hs:i≠s):lk (LT W ws s T q O u N) i=lk (Jle q O++nxT u N) i:=by
 unfold LT;simp only[lk];rw[if_neg (Ne.symm h1),if_neg (Ne.symm h3),if_neg (Ne.symm hs)]
theorem JzW(d:Dj s q u nx){v:Nat}(h:q=some v):lk (LT W ws s T q O u N) v=some ⟨O.map JO,0,2⟩:=by
 have:=d.hq v h;rw[Jey d (by omega) (by omega) this.2.2];subst h;simp[Jle,lk]
theorem JzA(d:Dj s q u nx){v:Nat}(h:u=some v):lk (LT W ws s T q O u N) v=some (tkN N):=by
 have:=d.hu v h;rw[Jey d (by omega) (by omega) this.2.2.1,JC];have e:lk (Jle q O) v=none:=by
  cases q with
  | none=>rfl
  | some p =>
   simp only[Jle,lk];rw[if_neg (fun e=>this.2.2.2 (by rw[e]))]
 rw[e];subst h;simp[nxT,lk,tkN]
theorem Jlf(d:Dj s q u nx){i:Nat}(h:i=0\/nx<=i):lk (LT W ws s T q O u N) i=none:=by
 have d1:=d.n7;have d2:=d.s4;have d3:=d.sn;rw[Jey d (by omega) (by omega) (by omega),JC];have e:lk (Jle q O) i=none:=by
  cases q with
  | none=>rfl
  | some p =>
   have:=d.hq p rfl;simp only[Jle,lk];rw[if_neg (by omega)]
 rw[e];cases u with
 | none=>rfl
 | some p =>
  have:=d.hu p rfl;simp only[nxT,lk];rw[if_neg (by omega)];rfl
theorem JyX{W':Td}:up (LT W ws s T q O u N) 1 (J8 W')=LT W' ws s T q O u N:=rfl
theorem JyY(d:Dj s q u nx){T':List Tr}:up (LT W ws s T q O u N) s (tkN T')=LT W ws s T' q O u N:=by
 have:=d.s4;unfold LT;simp only[up];rw[if_neg (by omega),if_neg (by omega),if_pos trivial]
theorem JgY{α:Type}:∀ {l m:List (Nat × α)} {i:Nat} {x:α},lk l i=none->up (l++m) i x=l++up m i x
 | [],_,_,_,_=>rfl
 | p :: l,m,i,x,h=>by
  obtain⟨j,v⟩:=p;simp only[lk] at h;split at h
  ·cases h
  ·rename_i q;simp only[List.cons_append,up,if_neg q,JgY h]
theorem Jse{α:Type}:∀ {l m:List (Nat × α)} {i:Nat} {c x:α},lk l i=some c->up (l++m) i x=up l i x++m
 | [],_,_,_,_,h=>by cases h
 | p :: l,m,i,c,x,h=>by
  obtain⟨j,v⟩:=p;simp only[lk] at h;split at h
  ·rename_i q;simp[up,q]
  ·rename_i q;simp only[List.cons_append,up,if_neg q,Jse h]
theorem JyZ(d:Dj s q u nx){v:Nat}(h:q=some v){O':List En}:up (LT W ws s T q O u N) v ⟨O'.map JO,0,2⟩=LT W ws s T q O' u N:=by
 have:=d.hq v h;subst h;unfold LT;simp only[up,Jle,List.cons_append,List.nil_append];rw[if_neg (by omega),if_neg (by omega),if_neg (by omega),if_pos trivial]
theorem Jy0(d:Dj s q u nx){v:Nat}(h:u=some v){N':List Tr}:up (LT W ws s T q O u N) v (tkN N')=LT W ws s T q O u N':=by
 have:=d.hu v h;have e:lk (Jle q O) v=none:=by
  cases q with
  | none=>rfl
  | some p =>
   simp only[Jle,lk];rw[if_neg (fun e=>this.2.2.2 (by rw[e]))]
 subst h;unfold LT;simp only[up];rw[if_neg (by omega),if_neg (by omega),if_neg (by omega),JgY e];simp[nxT,up,tkN]
theorem JzX(d:Dj s q u nx){u':Option Nat}{W':Td}{M:List Tr}{m:Nat}(h:Nx u u' nx m):JyU (up (LT W ws s T q O u N) 1 (J8 W')) u u' M=LT W' ws s T q O u' M:=by
 rw[JyX];rcases h with rfl | ⟨rfl,v,rfl,h3,h4⟩
 ·cases u' with
  | none=>rfl
  | some v=>exact Jy0 d rfl
 ·simp[JyU,LT,nxT,tkN]
theorem Jtn(d:Dj s none u nx){O0:List En}{i:Nat}{c:Tk}(h:lk (LT W ws s T (some nx) O u N) i=some c):lk (LT W ws s T none O0 u N++[(nx,⟨O.map JO,0,2⟩)]) i=some c:=by
 have d2:=d.newq (Nat.lt_succ_self nx);rw[JC];by_cases e:i=nx
 ·subst e;rw[JzW d2 rfl] at h;rw[Jlf d (.inr (Nat.le_refl _)),<- h];simp[lk]
 ·have:lk (LT W ws s T (some nx) O u N) i=lk (LT W ws s T none O0 u N) i:=by
   unfold LT;simp only[Jle,lk,List.cons_append,List.nil_append];rw[if_neg (Ne.symm e)]
  rw[this] at h;rw[h];rfl
theorem Jy1(d:Dj s q u nx){T':List Tr}{i:Nat}{c:Tk}(h:lk (LT W ws nx T' q O u N) i=some c):lk (dl (LT W ws s T q O u N) s++[(nx,tkN T')]) i=some c:=by
 have d1:=d.n7;have d2:=d.sn;have d3:=d.news (Nat.lt_succ_self nx);rw[JC,Jeb];by_cases e:i=nx
 ·subst e;rw[Jzz d3] at h;rw[if_neg (by omega),Jlf d (.inr (Nat.le_refl _)),<- h];simp[lk]
 ·have ei:lk (LT W ws nx T' q O u N) s=none:=by
   have e4:=d.s4;rw[Jey d3 (by omega) (by omega) (by omega),JC];have e1:lk (Jle q O) s=none:=by
    cases q with
    | none=>rfl
    | some p =>
     have:=d.hq p rfl;simp only[Jle,lk];rw[if_neg (by omega)]
   rw[e1];cases u with
   | none=>rfl
   | some p =>
    have:=d.hu p rfl;simp only[nxT,lk];rw[if_neg (by omega)];rfl
  have hs:s≠i:=fun e=>by subst e;rw[ei] at h;cases h
  rw[if_neg hs];have:lk (LT W ws s T q O u N) i=some c:=by
   rw[<- h];by_cases e1:i=1
   ·subst e1;rfl
   by_cases e3:i=3
   ·subst e3;rfl
   rw[Jey d e1 e3 (Ne.symm hs),Jey d3 e1 e3 e]
  rw[this];rfl
theorem Jto(d:Dj s q u nx){v:Nat}(hv:u=some v){i:Nat}{c:Tk}(h:lk (LT W ws s T q O (some nx) []) i=some c):lk (dl (LT W ws s T q O u N) v++[(nx,tkN [])]) i=some c:=by
 have d1:=d.n7;have d2:=d.sn;have dv:=d.hu v hv;have d3:Dj s q (some nx) (nx+1):=⟨by omega,d.s4,by omega,fun v hv=>by have:=d.hq v hv;exact⟨this.1,by omega,this.2.2⟩,fun x hx=>by cases hx;exact⟨by omega,by omega,by omega,fun e=>by have:=d.hq _ e;omega⟩⟩;rw[JC,Jeb];by_cases e:i=nx
 ·subst e;rw[JzA d3 rfl] at h;rw[if_neg (by omega),Jlf d (.inr (Nat.le_refl _)),<- h];simp[lk]
 ·have e1v:lk (Jle q O) v=none:=by
   cases q with
   | none=>rfl
   | some p =>
    simp only[Jle,lk];rw[if_neg (fun e=>dv.2.2.2 (by rw[e]))]
  have key:∀ j,j≠nx->j≠v->lk (LT W ws s T q O (some nx) []) j=lk (LT W ws s T q O u N) j:=fun j h1 h2=>by
   unfold LT;simp only[lk,JC];subst hv;simp only[nxT,lk];rw[if_neg (Ne.symm h1),if_neg (Ne.symm h2)]
  have hvi:v≠i:=fun e'=>by
   subst e';rw[Jey d3 (by omega) (by omega) dv.2.2.1,JC,e1v] at h;simp only[nxT,lk] at h;rw[if_neg (Ne.symm e)] at h;cases h
  rw[if_neg hvi];have:lk (LT W ws s T q O u N) i=some c:=by rw[<- key i e (Ne.symm hvi)];exact h
  rw[this];rfl
end
end Go.Proofs.Y
end
