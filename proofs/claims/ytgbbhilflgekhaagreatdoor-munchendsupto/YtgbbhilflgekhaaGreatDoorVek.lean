/- Parts of the proof, laid together. -/
import Derived.Test.YtgbbhilflgekhaaGreatDoorVej
set_option linter.unusedVariables false
set_option linter.unusedSimpArgs false
set_option maxRecDepth 20000
set_option maxHeartbeats 16000000
section
namespace Go.Proofs.Y
open Go Go.Ab
def plV (l:List Un)(ys:List En):List Int:=ys.map fun y=>((l.getD y.pos default).pos:Int)
def plQ (q:Option Nat)(X:List Int):AV:=match q with | none=>.vec [] true | some q=>.own q X.length
def plT (q:Option Nat)(X:List Int):List (Nat × Tk):=match q with | none=>[] | some q=>[(q,⟨X.map Jhd,0,1⟩)]
noncomputable def JeU(n:Nt)(x:List UInt8)(at' md rule:Int):Bool:=okV n && (decide (0<=md/\md<(n.modes.length:Int)) && ((JaX (ofB x)).any (fun u=>decide ((u.pos:Int)=at')) && (decide (0<=rule/\rule<(n.rules.length:Int)) && (n.rules.getD rule.toNat default).lexer)))
theorem JhN(L:List (Nat × List Value))(n:Nt)(o:List Orc)(x:List UInt8)(f:Bool)(hL:JdV L x)(at' md rule:Int)(g:Jm8 n o x at' md)(mu:Jl0 n)(k:Nat)(fk:okV n=true->Jkv n o (JaX (ofB x)) md k) :
  JR Tryz.prog 13 [.agg (Jh n),inV L x f,.vec (o.map Jb9) false,.lit (.int .i64 at'),.lit (.int .i64 md),.lit (.int .i64 rule)]
   (if JeU n x at' md rule=true then .tup [.vec ((plV (JaX (ofB x)) (eF n o (JaX (ofB x)) md k rule.toNat (ixV (JaX (ofB x)) at'))).map Jhd) false,.lit (.int .i64 0)] else .tup [.vec [] false,.lit (.int .i64 (if okV n then 2 else 110))]):=by
 refine JG (Jq Tryz.func13 rfl Tryz.ntmps13 (rs:=[.tmp 12,.tmp 13]) rfl (by simp) ?_);have hlook:=JgZ L n o x f hL at' md g;have hpx:=JaC L x f;have hrise:=Jcr (ofB x);have hlk:=JzD g;obtain⟨hlen,hpos⟩:=Jcu g.len;unfold JeU;obtain⟨l,hl⟩:∃ l,JaX (ofB x)=l:=⟨_,rfl⟩;rw[hl] at hlook hrise hlk hlen hpos fk ⊢;unfold inV at hlook hpx ⊢;refine Jm ?_;refine Jj ?_;simp -implicitDefEqProofs (disch:=omega) only[Wz,seval,Ly,Lx];refine Jm ?_;refine Jj ?_;simp -implicitDefEqProofs (disch:=omega) only[Wz,seval,Ly,Lx,J6,Jay];refine JE Jop (hlook _ ?_) ?_
 ·exact fun i hi=>JgP (N:=1) (by simp) hi
 rintro r0 h' (⟨hok,hmd,a,hal,hia,rfl,rfl⟩ | ⟨hno,rfl,rfl⟩)
 ·have hru:=(hlk hok).w.nru;by_cases hr0:rule<0
  ·rw[if_neg (by simp;intros;omega)];simp -implicitDefEqProofs (disch:=omega) only[Wz,seval,Ly,Lx,hok,if_true];refine Jm ?_;refine Jj ?_;simp -implicitDefEqProofs (disch:=omega) only[Wz,seval,Ly,Lx];exact JI (Jf (Jag (by simp)) (Jf (Ja (.lit _)) Jw))
  by_cases hr1:rule<(n.rules.length:Int);rotate_left
  ·rw[if_neg (by simp;intros;omega)];simp -implicitDefEqProofs (disch:=omega) only[Wz,seval,Ly,Lx,hok,if_true];refine Jm ?_;refine Jj ?_;simp -implicitDefEqProofs (disch:=omega) only[Wz,seval,Ly,Lx,Jh];exact JI (Jf (Jag (by simp)) (Jf (Ja (.lit _)) Jw))
  obtain⟨r,rfl⟩:∃ r:Nat,rule=(r:Int):=⟨rule.toNat,by omega⟩;have hrl:r<n.rules.length:=by omega
  obtain⟨rr,hrr⟩:∃ rr,n.rules.getD r default=rr:=⟨_,rfl⟩;rw[Int.toNat_natCast,hrr];cases hlx:rr.lexer with
  | false =>
   rw[if_neg (by simp)];simp -implicitDefEqProofs (disch:=omega) only[Wz,seval,Ly,Lx,hok,if_true];refine Jm ?_;refine Jj ?_;simp -implicitDefEqProofs (disch:=omega) only[Wz,seval,Ly,Lx,Jh,hrr,Jc,hlx];exact JI (Jf (Jag (by simp)) (Jf (Ja (.lit _)) Jw))
  | true =>
   have hany:(l.any fun u=>decide ((u.pos:Int)=at'))=true:=by
    rw[List.any_eq_true];exact⟨_,Ju hal,by simpa using hia⟩
   have hix:ixV l at'=a:=JhE hrise hal hia;rw[if_pos (by rw[hok,hany];simp;omega),hix];have hlk:=hlk hok;have hends:=JiI hlk mu (fk hok) (JgO g.ok hok) r a hrl hal;have hel:=JiD hlk.w hlk.u (o:=o) (md:=md) (k:=k) hrl hal;have hout:=JjX hlk.w hlk.u (o:=o) (md:=md) (k:=k) hrl hal;simp -implicitDefEqProofs (disch:=omega) only[Wz,seval,Ly,Lx,hok,if_true];refine Jm ?_;refine Jj ?_;simp -implicitDefEqProofs (disch:=omega) only[Wz,seval,Ly,Lx,Jh,hrr,Jc,hlx];refine Jm ?_;refine Jj ?_;simp -implicitDefEqProofs (disch:=omega) only[Wz,seval,Ly,Lx];refine JE Joq (Jld hends _ 3 2 [] .nil rfl rfl (by decide) (by show 3<4;decide) (by show 2<4;decide) rfl) ?_;rintro r0 h' ⟨rfl,W,hW,rfl⟩;obtain⟨ys,hys⟩:∃ ys,eF n o l md k r a=ys:=⟨_,rfl⟩;rw[hys] at hel hout ⊢;simp -implicitDefEqProofs (disch:=omega) only[Wz,seval,Ly,Lx,enV];refine Jp (fun(z:Nat × Option Nat × Nat)=>⟨[(12,plQ z.2.1 (plV l (ys.take z.1))),(14,.ptr 3 0),(54,.vec (ys.map JO) false),(55,.lit (.int .i64 (ys.length:Int))),(56,.lit (.int .i64 (z.1:Int)))],⟨[(3,Jap n o l md 2)],plT z.2.1 (plV l (ys.take z.1)),z.2.2⟩,74⟩)
    (fun z=>z.1<=ys.length/\4<=z.2.2/\(z.2.1=none->z.1=0)/\∀ q,z.2.1=some q->q<z.2.2) (fun z=>ys.length - z.1) (0,none,4) (JaE (by simp[lk,plQ]) (Jb rfl Jl) Jl rfl rfl) ⟨Nat.zero_le _,Nat.le_refl _,fun _=>rfl,fun q h=>by cases h⟩ ?_
   rintro⟨j,q,m⟩ ⟨hj,hm,hq0,hq⟩;simp only at hj hm hq0 hq ⊢;refine Jj ?_;rcases Nat.lt_or_ge j ys.length with hlt | hge
   ·obtain⟨y,hy⟩:∃ y,ys.getD j default=y:=⟨_,rfl⟩;have hym:=hout y (by rw[<- hy];exact Ju hlt);obtain⟨u,hu⟩:∃ u,l.getD y.pos default=u:=⟨_,rfl⟩;have hyl:=hym.2.1;have hsn:plV l (ys.take (j+1))=plV l (ys.take j)++[(u.pos:Int)]:=by
     unfold plV;rw[List.take_succ_eq_append_getElem hlt,List.map_append,<- hu,<- hy,List.getD_eq_getElem?_getD (l:=ys),List.getElem?_eq_getElem hlt];rfl
    obtain⟨X,hX⟩:∃ X,plV l (ys.take j)=X:=⟨_,rfl⟩;have hXl:X.length=j:=by rw[<- hX];unfold plV;simp;omega
    rw[hX] at hsn ⊢;have hf0:Ja7 1 8=True:=eq_true (JN (by decide) (by decide));have hf1:Ja7 (X.length+1) 8=True:=eq_true (JN (by omega) (by omega));have one1:∀ v:AV,(∀ q,q∈[[v]]->q.length=1)=True:=fun v=>by simp
    have nil1:(∀ q:List AV,q∈[]->q.length=1)=True:=by simp
    simp -implicitDefEqProofs (disch:=omega) only[Wz,seval,Ly,Lx,hy,JO];refine Jbh (n:=74) 11 (.alt 11 (.alt 12 .leaf .nil) .nil) rfl (by decide) (by decide) mixed (by kernel_rfl) (by decide) ?_;cases q with
    | none =>
     have hj0:=hq0 rfl;have:X=[]:=List.length_eq_zero_iff.1 (by omega);subst this;simp -implicitDefEqProofs (disch:=omega) only[Wz,seval,Ly,Lx,Jap,Jh,hu,JeT,plQ,plT,one1,nil1,hf0,true_and,if_true];refine⟨(j+1,some (m+1),m+2),⟨by show j+1<=_;omega,by show 4<=m+2;omega,fun q=>(by cases q),fun q h=>(by cases h;show m+1<m+2;omega)⟩,by show ys.length - (j+1)<_;omega,?_⟩;simp only[hsn];exact Jk (by simp[lk]) (fun _ _ e=>JbD e) (fun _ _ e=>e) rfl rfl
    | some q =>
     simp -implicitDefEqProofs (disch:=omega) only[Wz,seval,Ly,Lx,Jap,Jh,hu,JeT,plQ,plT,one1,hf1,true_and,if_true];refine⟨(j+1,some q,m+1),⟨by show j+1<=_;omega,by show 4<=m+1;omega,fun q=>(by cases q),fun q' h=>(by cases h;have:=hq q rfl;show q<m+1;omega)⟩,by show ys.length - (j+1)<_;omega,?_⟩;simp only[hsn];exact Jk (by simp[lk]) (fun _ _ e=>JbD e) (fun _ _ e=>by rw[List.map_append] at e;exact e) rfl rfl
   ·have hje:j=ys.length:=by omega
    subst hje;rw[List.take_length];simp -implicitDefEqProofs (disch:=omega) only[Wz,seval,Ly,Lx];refine Jj ?_;cases q with
    | none =>
     have h0:ys=[]:=List.length_eq_zero_iff.1 (hq0 rfl);subst h0;simp -implicitDefEqProofs (disch:=omega) only[Wz,seval,Ly,Lx,plQ];exact JI (Jf (Jag (by simp)) (Jf (Ja (.lit _)) Jw))
    | some q =>
     simp -implicitDefEqProofs (disch:=omega) only[Wz,seval,Ly,Lx,plQ,plT];exact JI (Jf (Jbf (k:=⟨(plV l ys).map Jhd,0,1⟩) (by simp[lk]) (by simp) (Ji JeO _)) (Jf (Ja (.lit _)) Jw))
 ·rw[if_neg (by
   intro q;simp only[Bool.and_eq_true,decide_eq_true_eq,List.any_eq_true] at q;exact hno q.1 ⟨q.2.1,q.2.2.1⟩)]
  cases hok:okV n with
  | true =>
   simp -implicitDefEqProofs (disch:=omega) only[Wz,seval,Ly,Lx,if_true];refine Jm ?_;refine Jj ?_;simp -implicitDefEqProofs (disch:=omega) only[Wz,seval,Ly,Lx];exact JI (Jf (Jag (by simp)) (Jf (Ja (.lit _)) Jw))
  | false =>
   simp -implicitDefEqProofs (disch:=omega) only[Wz,seval,Ly,Lx,Bool.false_eq_true,if_false];refine Jm ?_;refine Jj ?_;simp -implicitDefEqProofs (disch:=omega) only[Wz,seval,Ly,Lx];exact JI (Jf (Jag (by simp)) (Jf (Ja (.lit _)) Jw))
end Go.Proofs.Y
end
section
namespace Go.Proofs.Y
open Go Go.Ab
def Jli:List Sta->Nat->Nat
 | [],k=>k
 | s :: l,k=>if k<=6000 then Jli l (k+s.edges.length) else k
def Jt0 (n:Nt):Bool:=decide (6000<Jli n.states (n.rules.length+n.states.length+n.types.length+n.channels.length+n.modes.length))
theorem Jpt(n:Nt)(ok:JcL n):Ja9 Tryz.prog 19 [.agg (Jh n)] (.lit (.bool (Jt0 n))):=by
 obtain⟨v,hv⟩:∃ v,Jt0 n=v:=⟨_,rfl⟩;rw[hv];obtain⟨k0,hk0⟩:∃ k0,n.rules.length+n.states.length+n.types.length+n.channels.length+n.modes.length=k0:=⟨_,rfl⟩;unfold Jt0 at hv;rw[hk0] at hv;refine Jaa (Jq Tryz.func19 rfl Tryz.ntmps19 (rs:=[.tmp 2]) rfl (by simp) ?_);refine Jj ?_;have b1:=ok.types;have b2:=ok.channels;have b3:=ok.modes;have b4:=ok.rules;have b5:=ok.states;have hc1:(n.rules.length:Int)+n.states.length+n.types.length+n.channels.length+n.modes.length=(k0:Int):=by omega
 simp -implicitDefEqProofs (disch:=omega) only[Wz,seval,Jh,hc1];refine Jp (fun x:Nat × Nat=>⟨[(4,.lit (.int .i64 (x.1:Int))),(3,.lit (.int .i64 (x.2:Int))),(1,.ptr 0 0)],⟨[(0,Jh n)],[],1⟩,46⟩) (fun x=>x.1<=n.states.length/\decide (6000<Jli (n.states.drop x.1) x.2)=v/\x.2<=6000000000) (fun x=>n.states.length - x.1) (0,k0) (Jk (by simp[lk]) (fun _ _ q=>q) (fun _ _ q=>q) rfl rfl) ⟨Nat.zero_le _,by rw[List.drop_zero];exact hv,by show k0<=_;omega⟩ ?_;rintro⟨i,k⟩ ⟨hi,hkv,hkb⟩;simp only at hi hkv hkb ⊢;refine Jj ?_;rcases Nat.lt_or_ge i n.states.length with hl | hg
 ·obtain⟨s,hs⟩:∃ s,n.states.getD i default=s:=⟨_,rfl⟩;have he:=(ok.edges _ (Ju hl)).1;rw[hs] at he;rw[Jbc hl,hs] at hkv;unfold Jli at hkv;by_cases h6:k<=6000
  ·rw[if_pos h6] at hkv;simp -implicitDefEqProofs (disch:=omega) only[Wz,seval,Jh,Jd,hs];refine⟨(i+1,k+s.edges.length),⟨hl,hkv,by show k+_<=_;omega⟩,by show n.states.length - (i+1)<_;omega,Jk (by simp[lk]) (fun _ _ q=>q) (fun _ _ q=>q) rfl rfl⟩
  ·rw[if_neg h6,decide_eq_true (by omega)] at hkv;subst hkv;simp -implicitDefEqProofs (disch:=omega) only[Wz,seval,Jh];exact Jaw (.lit _)
 ·have hi2:i=n.states.length:=by omega
  subst hi2;rw[List.drop_length] at hkv;have hkv:decide (6000<k)=v:=hkv;simp -implicitDefEqProofs (disch:=omega) only[Wz,seval,Jh];have e1:(decide ((k:Int) > 6000))=v:=by rw[<- hkv];rw[Bool.eq_iff_iff];simp only[decide_eq_true_eq];omega
  rw[e1];exact Jaw (.lit _)
def Jt1 (n:Nt)(xl:Nat)(o:List Orc):Bool:=Jt0 n || (decide (1500<n.states.length) || (decide (300<xl) || decide (100<o.length)))
theorem Jka(L:List (Nat × List Value))(n:Nt)(x:List UInt8)(f g:Bool)(o:List Orc)(ok:JcL n)(hx:x.length<=1000000000)(ho:o.length<=1000000000):Ja9 Tryz.prog 6 [.agg (Jh n),inV L x f,.vec (o.map Jb9) g] (.lit (.bool (Jt1 n x.length o))):=by
 obtain⟨v,hv⟩:∃ v,Jt1 n x.length o=v:=⟨_,rfl⟩;rw[hv];have h14:=Jpt n ok;refine Jaa (Jq Tryz.func6 rfl Tryz.ntmps6 (rs:=[.tmp 6]) rfl (by simp) ?_);unfold inV;have hs:=ok.states;refine Jj ?_;simp -implicitDefEqProofs (disch:=omega) only[Wz,seval,J6,Jay];refine JV JxO h14 (Jb (.of_pure (.agg (Jab n))) Jl) (.lit _) ?_;unfold Jt1 at hv;cases hg:Jt0 n with
 | true =>
  rw[hg] at hv;subst hv;simp -implicitDefEqProofs (disch:=omega) only[Wz,seval];exact Jaw (.lit _)
 | false =>
  rw[hg] at hv;by_cases h1:1500<n.states.length
  ·rw[decide_eq_true h1] at hv;subst hv;simp -implicitDefEqProofs (disch:=omega) only[Wz,seval,Jh];exact Jaw (.lit _)
  ·rw[decide_eq_false h1] at hv;by_cases h2:300<x.length
   ·rw[decide_eq_true h2] at hv;subst hv;simp -implicitDefEqProofs (disch:=omega) only[Wz,seval,Jh];exact Jaw (.lit _)
   ·rw[decide_eq_false h2] at hv;by_cases h3:100<o.length
    ·rw[decide_eq_true h3] at hv;subst hv;simp -implicitDefEqProofs (disch:=omega) only[Wz,seval,Jh];exact Jaw (.lit _)
    ·rw[decide_eq_false h3] at hv;subst hv;simp -implicitDefEqProofs (disch:=omega) only[Wz,seval,Jh];exact Jaw (.lit _)
theorem Jkb:∀ (l:List Sta) (k:Nat),Jli l k<=6000->k+(l.map fun s=>s.edges.length).sum<=6000
 | [],k,h=>by simpa [Jli] using h
 | s :: l,k,h=>by
  unfold Jli at h;split at h
  ·have:=Jkb l _ h;simp only[List.map_cons,List.sum_cons];omega
  ·omega
theorem Jpu(l:List Sta):((List.range l.length).map fun s=>(l.getD s default).edges.length).sum=(l.map fun s=>s.edges.length).sum:=by
 congr 1
 apply List.ext_getElem
 ·simp
 ·intro i h1 h2;have hi:i<l.length:=by simpa using h1
  simp[List.getD_eq_getElem?_getD,List.getElem?_eq_getElem hi]
theorem JzZ{n:Nt}{xl:Nat}{o:List Orc}(h:Jt1 n xl o=false)(ha:∀ s,∀ e∈(n.states.getD s default).edges,e.acts.length<=Jfg):Jl0 n/\xl<=300/\o.length<=100:=by
 unfold Jt1 at h;simp only[Bool.or_eq_false_iff,decide_eq_false_iff_not,Nat.not_lt] at h;obtain⟨h1,h2,h3,h4⟩:=h;refine⟨⟨h2,?_,ha⟩,h3,h4⟩;unfold Jt0 at h1;simp only[decide_eq_false_iff_not,Nat.not_lt] at h1;have:=Jkb _ _ h1;have e:JpZ n=(n.states.map fun s=>s.edges.length).sum:=Jpu n.states;rw[e];omega
end Go.Proofs.Y
end
section
namespace Go.Proofs.Y
open Go Go.Ab
end Go.Proofs.Y
end
section
namespace Go.Proofs.Y
open Go Go.Ab
def Jy8 (S:List Nat)(js:List Nat):List Nat:=js.foldl (fun S j=>if S.contains j then S else S++[j]) S
def stepG(G:List (List Nat))(S T:List Nat):List Nat:=S.foldl (fun T i=>Jy8 T (G.getD i [])) T
def Jz0 (G:List (List Nat)):Nat->List Nat->List Nat
 | 0,S=>S
 | k+1,S=>Jz0 G k (stepG G S S)
def Jkc(G:List (List Nat))(i:Nat):List Nat:=Jz0 G G.length (Jy8 [] (G.getD i []))
theorem JiM{x:Nat}:∀ {js S:List Nat},x∈Jy8 S js->x∈S\/x∈js
 | [],S,h=>.inl h
 | j :: js,S,h=>by
  have h:x∈Jy8 (if S.contains j then S else S++[j]) js:=h;rcases JiM h with h | h
  ·split at h
   ·exact .inl h
   ·rcases List.mem_append.1 h with h | h
    ·exact .inl h
    ·rw[List.mem_singleton] at h;subst h;exact .inr (by simp)
  ·exact .inr (by simp[h])
theorem Jkd{G:List (List Nat)}{x:Nat}:∀ {S T:List Nat},x∈stepG G S T->x∈T\/∃ i∈S,x∈G.getD i []
 | [],T,h=>.inl h
 | i :: S,T,h=>by
  have h:x∈stepG G S (Jy8 T (G.getD i [])):=h;rcases Jkd h with h | ⟨k,h1,h2⟩
  ·rcases JiM h with h | h
   ·exact .inl h
   ·exact .inr ⟨i,by simp,h⟩
  ·exact .inr ⟨k,by simp[h1],h2⟩
theorem JhO{G:List (List Nat)}{i:Nat}:∀ {k:Nat} {S:List Nat},(∀ x∈S,Rch G i x)->∀ x∈Jz0 G k S,Rch G i x
 | 0,S,h,x,hx=>h x hx
 | k+1,S,h,x,hx=>JhO (k:=k) (fun y hy=>by
   rcases Jkd hy with hy | ⟨z,h1,h2⟩
   ·exact h y hy
   ·exact .step (h z h1) h2) x hx
theorem Jg1{G:List (List Nat)}{i j:Nat}(h:(Jkc G i).contains j=true):Rch G i j:=by
 rw[List.contains_iff_mem] at h;refine JhO (fun x hx=>?_) j h;rcases JiM hx with hx | hx
 ·cases hx
 ·exact .one hx
def Jtw(G:List (List Nat))(i:Nat):Bool:=(G.getD i []).all (fun j=>(Jkc G i).contains j) && (Jkc G i).all fun k=>(G.getD k []).all fun j=>(Jkc G i).contains j
theorem Jna{G:List (List Nat)}{i j:Nat}(h:Jtw G i=true)(r:Rch G i j):(Jkc G i).contains j=true:=by
 unfold Jtw at h;rw[Bool.and_eq_true] at h;induction r with
 | one e=>exact List.all_eq_true.1 h.1 _ e
 | step _ e ih =>
  rw[List.contains_iff_mem] at ih;exact List.all_eq_true.1 (List.all_eq_true.1 h.2 _ ih) _ e
theorem Jpv{G:List (List Nat)}(rk:List Nat)(h:((List.range G.length).all fun i=>(G.getD i []).all fun j=>decide (rk.getD j 0<rk.getD i 0))=true):Jnx G:=by
 refine⟨fun i=>rk.getD i 0,fun i j hj=>?_⟩;rcases Nat.lt_or_ge i G.length with hi | hi
 ·exact of_decide_eq_true (List.all_eq_true.1 (List.all_eq_true.1 h i (List.mem_range.2 hi)) j hj)
 ·rw[List.getD_eq_getElem?_getD,List.getElem?_eq_none hi] at hj;cases hj
def Jg2 (n:Nt):Nat->List Bool
 | 0=>n.rules.map fun _=>false
 | k+1=>(List.range n.rules.length).map fun i=>(Jkc (gE n (Jg2 n k)) (stN n i)).contains (spN n i)
def Jtx(n:Nt)(em:List Bool):Bool:=(List.range n.rules.length).all fun i=>Jtw (gE n em) (stN n i) && (!(Jkc (gE n em) (stN n i)).contains (spN n i) || em.getD i false)
theorem JhP{l:List Bool}{i:Nat}(h:l.getD i false=true):i<l.length:=by
 rcases Nat.lt_or_ge i l.length with q | q
 ·exact q
 ·rw[List.getD_eq_getElem?_getD,List.getElem?_eq_none q] at h;cases h
theorem JhQ{n:Nt}(w:Wf n)(ok:JcL n):∀ {k i:Nat},(Jg2 n k).getD i false=true->Emp n i
 | 0,i,h=>by
  have hi:=JhP h;simp only[Jg2,List.length_map] at hi;rw[Jg2,List.getD_eq_getElem?_getD,List.getElem?_map,List.getElem?_eq_getElem hi] at h;cases h
 | k+1,i,h=>by
  have hi:=JhP h;simp only[Jg2,List.length_map,List.length_range] at hi;rw[Jg2,List.getD_eq_getElem?_getD,List.getElem?_map,List.getElem?_range hi] at h;exact Jiw w ok (fun j hj=>JhQ w ok hj) (Jg1 h)
theorem Jl5{n:Nt}(w:Wf n)(ok:JcL n){k:Nat}(h:Jtx n (Jg2 n k)=true)(hl:(Jg2 n k).length=n.rules.length):J4 n=Jg2 n k:=by
 have full:∀ i,i<n.rules.length->Rch (gE n (Jg2 n k)) (stN n i) (spN n i)->(Jg2 n k).getD i false=true:=fun i hi r=>by
  have h1:=List.all_eq_true.1 h i (List.mem_range.2 hi);rw[Bool.and_eq_true,Bool.or_eq_true] at h1;rcases h1.2 with h2 | h2
  ·rw[Jna h1.1 r] at h2;cases h2
  ·exact h2
 apply List.ext_getElem
 ·rw[hl];simp[J4]
 ·intro i h1 h2;have hi:i<n.rules.length:=by omega
  have e1:(J4 n)[i]=Jny n i:=by
   have:=JbX hi;rw[List.getD_eq_getElem?_getD,List.getElem?_eq_getElem h1] at this;exact this
  have e2:(Jg2 n k).getD i false=(Jg2 n k)[i]:=by rw[List.getD_eq_getElem?_getD,List.getElem?_eq_getElem h2];rfl
  rw[e1,<- e2,Bool.eq_iff_iff,JeS];exact⟨fun q=>full i hi (Jo3 w ok full q),fun q=>JhQ w ok q⟩
def Jy9(n:Nt):Bool:=(List.range n.states.length).all fun s=>(List.range n.rules.length).any fun i=>decide (s=spN n i) || (Jkc (gB n) (spN n i)).contains s
def gFc (n:Nt)(em:List Bool):List (List Nat):=gOf n.states.length (JbB (prF n em) n n.states.length 0)
def JBY (n:Nt)(em:List Bool):Bool:=(List.range n.rules.length).all fun i => !((n.rules.getD i default).lexer && (!(n.rules.getD i default).frag && em.getD i false))
def Jq4(G:List (List Nat))(rk:List Nat):Bool:=(List.range G.length).all fun i=>(G.getD i []).all fun j=>decide (rk.getD j 0<rk.getD i 0)
theorem Jza{n:Nt}(h:Jy9 n=true):JfP n=true:=by
 unfold JfP;refine @decide_eq_true _ (Classical.propDecidable _) fun s hs=>?_
 have h1:=List.all_eq_true.1 h s (List.mem_range.2 hs);obtain⟨i,hi,h2⟩:=List.any_eq_true.1 h1;rw[Bool.or_eq_true,decide_eq_true_eq] at h2;refine⟨i,List.mem_range.1 hi,?_⟩;rcases h2 with h2 | h2
 ·exact .inl h2
 ·exact .inr (Jg1 h2)
theorem JB5{n:Nt}(ok:JcL n)(k:Nat)(rF rC:List Nat)(h1:Jc4 n=true)(h2:Jdz n=true)(h3:JbK n=true)(h4:Jy9 n=true)(h5:Jtx n (Jg2 n k)=true)(hl:(Jg2 n k).length=n.rules.length)
  (h6:JBY n (Jg2 n k)=true) (h7:Jq4 (gFc n (Jg2 n k)) rF=true) (h8:Jq4 (gC n) rC=true):okV n=true:=by
 have w:=Wf.of h1 h2 h3;have he:=Jl5 w ok h5 hl;unfold okV;have hF:gF n=gFc n (Jg2 n k):=by unfold gF gFc;rw[he]
 rw[h1,h2,h3,Jza h4,hF,Jco (Jpv rF h7),Jco (Jpv rC h8)];have hL:(List.range n.rules.length).all (Jku n)=true:=by
  rw[<- h6];unfold JBY;rw[Bool.eq_iff_iff,List.all_eq_true,List.all_eq_true];have e:∀ i,i∈List.range n.rules.length->Jku n i = !((n.rules.getD i default).lexer && (!(n.rules.getD i default).frag && (Jg2 n k).getD i false)):=fun i hi=>by
   unfold Jku;rw[<- JbX (List.mem_range.1 hi),he]
  exact⟨fun q i hi=>by rw[<- e i hi];exact q i hi,fun q i hi=>by rw[e i hi];exact q i hi⟩
 rw[hL];rfl
def edC (e:Ed):Bool:=decide (e.set.length<=1000) && decide (e.acts.length<=1000) && decide (gsz e.g<=1000) && decide (e.g.name.size<=1000) && e.g.kids.isEmpty && e.set.all fun r=>decide (-2147483648<=r.1/\r.1<=2147483647) && decide (-2147483648<=r.2/\r.2<=2147483647)
def ntC (n:Nt):Bool:=decide (n.types.length<=1000) && decide (n.channels.length<=1000) && decide (n.modes.length<=1000) && decide (n.rules.length<=1000) && decide (n.states.length<=1000) && n.types.all (fun s=>decide (s.size<=1000)) && n.channels.all (fun s=>decide (s.size<=1000)) && n.modes.all (fun s=>decide (s.size<=1000)) && n.rules.all (fun r=>decide (r.name.size<=1000)) && n.states.all fun s=>decide (s.edges.length<=1000) && s.edges.all edC
theorem JB6{n:Nt}(h:ntC n=true):JcL n:=by
 unfold ntC at h;simp only[Bool.and_eq_true,decide_eq_true_eq,List.all_eq_true] at h;obtain⟨⟨⟨⟨⟨⟨⟨⟨⟨a1,a2⟩,a3⟩,a4⟩,a5⟩,a6⟩,a7⟩,a8⟩,a9⟩,a10⟩:=h;refine⟨by omega,by omega,by omega,by omega,by omega,fun s hs=>?_,fun s hs=>?_,fun s hs=>?_,fun r hr=>?_,fun s hs=>?_⟩
 ·have:=a6 s hs;omega
 ·have:=a7 s hs;omega
 ·have:=a8 s hs;omega
 ·have:=a9 r hr;omega
 ·obtain⟨b1,b2⟩:=a10 s hs;refine⟨by omega,fun e he=>?_⟩;have c:=b2 e he;unfold edC at c;simp only[Bool.and_eq_true,decide_eq_true_eq,List.all_eq_true,List.isEmpty_iff] at c;obtain⟨⟨⟨⟨⟨c1,c2⟩,c3⟩,c4⟩,c5⟩,c6⟩:=c;exact⟨by omega,by omega,by omega,.mk (by omega) (fun k hk=>by rw[c5] at hk;cases hk),fun r hr=>c6 r hr⟩
end Go.Proofs.Y
end
section
namespace Go.Proofs.Y
open Go Go.Ab
def i8w (z:Int)(h : -128<=z/\z<=127:=by decide):I8:=⟨z,h⟩
def eW (op:I8)(set:List (Int × Int))(n to:Int):Ed:=⟨op,set,n,0,default,[],to⟩
def JbZ:Nt:=⟨[⟨#[88]⟩,⟨#[89]⟩],[⟨#[]⟩],[⟨#[]⟩],[⟨⟨#[88]⟩,true,false,false,false,0,1,0,1⟩,⟨⟨#[89]⟩,true,false,false,false,0,2,5,6⟩],
 [⟨0,[eW (i8w 4) [] 1 2]⟩,⟨0,[]⟩,⟨0,[eW (i8w 1) [(97,97)] 0 3]⟩,⟨0,[eW (i8w 0) [] 0 2,eW (i8w 0) [] 0 4]⟩,⟨0,[eW (i8w 0) [] 0 1]⟩,
  ⟨1,[eW (i8w 4) [] 1 7]⟩,⟨1,[]⟩,⟨1,[eW (i8w 1) [(97,97)] 0 8]⟩,⟨1,[eW (i8w 1) [(98,98)] 0 9]⟩,⟨1,[eW (i8w 0) [] 0 6]⟩]⟩
theorem Jz1{n:Nt}(w:Wf n)(ok:JcL n){rk:Nat->Nat}(hrk:JyG (gF n) rk):Rk n rk:=by
 have hb:=Jfe w ok (em:=J4 n) (i:=n.states.length) (k:=0) (.inr ⟨rfl,rfl⟩);have mem:∀ {s t e},s<n.states.length->e∈(n.states.getD s default).edges->(s,t)∈prF n (J4 n) s e->rk t<rk s:=fun {s t e} hs he hp=>by
  refine hrk s t ?_;unfold gF;rw[Jeu fun p hp=>(hb.1 p hp).1];exact Jd8 _ n hs he hp
 have hcall:∀ s e,s<n.states.length->e∈(n.states.getD s default).edges->e.op.1=2->rk (stN n e.n.toNat)<rk s:=fun s e hs he h2=>by
  refine mem hs he ?_;unfold prF;rw[if_neg (by omega),if_pos h2];simp
 refine⟨fun s t hn=>?_,hcall⟩;induction hn with
 | @edge s e hs he h1 h2 =>
  refine mem hs he ?_;unfold prF;rw[if_neg h1,if_neg h2];simp
 | @call s e hs he h2 hN ih =>
  have hc:=w.call hs he h2;refine mem hs he ?_;unfold prF;rw[if_neg (by omega),if_pos h2,JbX (by omega),JeS.2 hN];simp
 | step _ _ ih1 ih2=>exact Nat.lt_trans ih2 ih1
theorem Jq5{G:List (List Nat)}{rk:List Nat}(h:Jq4 G rk=true):JyG G fun i=>rk.getD i 0:=fun i j hj=>by
 rcases Nat.lt_or_ge i G.length with hi | hi
 ·exact of_decide_eq_true (List.all_eq_true.1 (List.all_eq_true.1 h i (List.mem_range.2 hi)) j hj)
 ·rw[List.getD_eq_getElem?_getD,List.getElem?_eq_none hi] at hj;cases hj
theorem JB7{n:Nt}(ok:JcL n)(w:Wf n)(k:Nat)(rF:List Nat)(h5:Jtx n (Jg2 n k)=true)(hl:(Jg2 n k).length=n.rules.length)(h7:Jq4 (gFc n (Jg2 n k)) rF=true):Rk n fun i=>rF.getD i 0:=by
 refine Jz1 w ok ?_;have hF:gF n=gFc n (Jg2 n k):=by unfold gF gFc;rw[Jl5 w ok h5 hl]
 rw[hF];exact Jq5 h7
def Jz2(n:Nt):Bool:=n.states.all fun s=>s.edges.all fun e=>decide (e.acts.length<=Jfg)
theorem JB8{n:Nt}(h1:n.states.length<=1500)(h2:JpZ n<=1048576)(h3:Jz2 n=true):Jl0 n:=by
 refine⟨h1,h2,fun s e he=>?_⟩;rcases Nat.lt_or_ge s n.states.length with hs | hs
 ·exact of_decide_eq_true (List.all_eq_true.1 (List.all_eq_true.1 h3 _ (Ju hs)) e he)
 ·have:n.states.getD s default=default:=by rw[List.getD_eq_getElem?_getD,List.getElem?_eq_none hs];rfl
  rw[this] at he;cases he
theorem JiN:JcL JbZ:=JB6 (by kernel_rfl)
theorem JfW:okV JbZ=true:=JB5 JiN 0 [1,0,0,2,1,1,0,0,0,1] [0,0] (by kernel_rfl) (by kernel_rfl) (by kernel_rfl) (by kernel_rfl) (by kernel_rfl) (by kernel_rfl) (by kernel_rfl) (by kernel_rfl) (by kernel_rfl)
theorem Jl6:Jl0 JbZ:=JB8 (by decide) (by decide +kernel) (by kernel_rfl)
theorem Jq6:Rk JbZ fun i=>[1,0,0,2,1,1,0,0,0,1].getD i 0:=JB7 JiN (JhC JfW).1 0 [1,0,0,2,1,1,0,0,0,1] (by kernel_rfl) (by kernel_rfl) (by kernel_rfl)
theorem Jke(x:List UInt8)(hx:(JaX (ofB x)).length<=20):Jkv JbZ [] (JaX (ofB x)) 0 100:=by
 refine Jsa (JhC JfW).1 (JgU _) Jq6 (R:=3) (fun s hs=>?_) (by omega);have key:∀ s:Fin 10,[1,0,0,2,1,1,0,0,0,1].getD s.1 0<=3:=by decide
 exact key ⟨s,hs⟩
def Jq7:Nat->AV->AV
 | 0,a=>a
 | k+1,.agg cs=>.agg (cs.map (Jq7 k))
 | k+1,.vec xs _=>.vec (xs.map fun x=>x.map (Jq7 k)) false
 | _+1,a=>a
theorem JiO{g:Gh}{f:AV->AV}(h:∀ a,Cv g g a (f a)):∀ cs:List AV,CvL g g cs (cs.map f)
 | []=>JaV
 | a :: cs=>Jv (h a) (JiO h cs)
theorem Jl7{g:Gh}{f:AV->AV}(h:∀ a,Cv g g a (f a)):∀ xs:List (List AV),CvR g g xs (xs.map fun x=>x.map f)
 | []=>.nil
 | x :: xs=>.cons (JiO h x) (by simp) (Jl7 h xs)
theorem JiP(g:Gh):∀ (k:Nat) (a:AV),Cv g g a (Jq7 k a)
 | 0,a=>JF (.refl g) a
 | k+1,a=>by
  cases a with
  | agg cs=>exact Jt6 (JiO (JiP g k) cs)
  | vec xs f=>exact fun v hv=>JbG (.refl g) _ f v (JrD (.refl g) (Jl7 (JiP g k) xs) v hv)
  | _=>exact JF (.refl g) _
theorem Jg3(k:Nat){h:Hp}{r r':AV}(e:Jq7 k r=r')(hr:GP r'):Jec h r r':=by
 refine Jec.wk (h':=⟨[],[],h.nx⟩) (r':=r') (St.wk_conv rfl rfl (fun g g' x=>Jb ⟨r,rfl,?_⟩ Jl) (fun g g' x=>Jl) (fun g=>Jl)) (Jaw hr);subst e;exact fun v hv=>JF x _ v (JiP g k r v hv)
theorem Jg4(c to:Int):Ja9 Tryz.prog 39 [.lit (.int .i32 c),.lit (.int .i64 to)] (.agg (Jo (eW (i8w 1) [(c,c)] 0 to))):=by
 refine Jaa (Jq Tryz.func39 rfl Tryz.ntmps39 (rs:=[.cell 4 96]) rfl (by simp) ?_);refine Jj ?_;simp -implicitDefEqProofs (disch:=omega) only[Wz,seval];exact Jg3 8 rfl (.of_pure (.agg (JbT _)))
theorem Jea:Ja9 Tryz.prog 20 [] (.agg (Jh JbZ)):=by
 refine Jaa (Jq Tryz.func20 rfl Tryz.ntmps20 (rs:=[.cell 0 26]) rfl (by simp) ?_);refine Jj ?_;have gs:∀ s:Ed,GP (.agg (Jo s)):=fun s=>.of_pure (.agg (JbT s));simp -implicitDefEqProofs (disch:=omega) only[Wz,seval];refine JV Jot (Jg4 97 3) (Jb (.lit _) (Jb (.lit _) Jl)) (gs _) ?_;simp -implicitDefEqProofs (disch:=omega) only[Wz,seval];refine JV Jot (Jg4 97 8) (Jb (.lit _) (Jb (.lit _) Jl)) (gs _) ?_;simp -implicitDefEqProofs (disch:=omega) only[Wz,seval];refine JV Jot (Jg4 98 9) (Jb (.lit _) (Jb (.lit _) Jl)) (gs _) ?_;simp -implicitDefEqProofs (disch:=omega) only[Wz,seval];exact Jg3 8 rfl (.of_pure (.agg (Jab _)))
end Go.Proofs.Y
end
section
namespace Go.Proofs.Y
open Go Go.Ab
theorem Jl8{g:Gh}{xs:List (List AV)}{f:Bool}:Cv g g (.vec xs f) (.wit [] (.vec xs f)):=fun v hv=>by
 cases hv with
 | vecN=>exact .wit (fun _ h=>by cases h) .vecN
 | vecE q=>exact .wit (fun _ h=>by cases h) (.vecE q)
 | vec F q1 q2 q3 q4 q5=>exact .wit (fun _ h=>by cases h) (.vec F q1 q2 q3 q4 q5)
def JzE (x:List UInt8):Int × Int × List (Int × Int) × Int:=Jtv JbZ [] (JaX (ofB x)) 0 100 (ixV (JaX (ofB x)) 0) 0
theorem Jq8:JzE [97,97,97,98]=(0,3,[],0):=by kernel_rfl
theorem Jq9:JzE [97,98,99]=(1,2,[],0):=by kernel_rfl
theorem Jra:JzE [98]=(0,0,[],4):=by kernel_rfl
theorem Jrb:plV (JaX (ofB [97,97,97,98])) (eF JbZ [] (JaX (ofB [97,97,97,98])) 0 100 (Int.toNat 0) (ixV (JaX (ofB [97,97,97,98])) 0))=[3,2,1]:=by kernel_rfl
theorem Jl9(x:List UInt8)(h:x.length<=10):Jm8 JbZ [] x 0 0:=⟨JiN,by omega,by decide,by decide,by decide⟩
theorem Jkf(x:List UInt8):∃ u∈JaX (ofB x),(u.pos:Int)=0:=by
 have h0:=Jk8 (ofB x).size (ofB x) 0 0;refine⟨(JaX (ofB x)).getD 0 default,Ju h0,?_⟩;have e:(ofB x).size=x.length:=Ja4 x;unfold JaX;cases hx:(ofB x).size with
 | zero=>simp[Jew,hx]
 | succ k=>unfold Jew;rw[if_pos (by omega)];rfl
theorem Jfh(x:List UInt8)(f:Bool)(h:x.length<=10)(ha:∀ b∈x,b.toNat<128):JR Tryz.prog 8 [.agg (Jh JbZ),inV [] x f,.vec [] false,.lit (.int .i64 0),.lit (.int .i64 0)] (Jj7 (JzE x)):=by
 have h1:=Jj9 [] JbZ [] x f (.inr ha) 0 0 (Jl9 x h) Jl6 100 (fun _=>Jke x (by have:=JiE (ofB x);rw[Ja4] at this;omega));rw[if_pos ⟨JfW,⟨by decide,by decide⟩,Jkf x⟩] at h1;exact h1
theorem Jnb(x:List UInt8)(f:Bool)(h:x.length<=10)(ha:∀ b∈x,b.toNat<128):JR Tryz.prog 13 [.agg (Jh JbZ),inV [] x f,.vec [] false,.lit (.int .i64 0),.lit (.int .i64 0),.lit (.int .i64 0)] (.tup [.vec ((plV (JaX (ofB x)) (eF JbZ [] (JaX (ofB x)) 0 100 (Int.toNat 0) (ixV (JaX (ofB x)) 0))).map Jhd) false,.lit (.int .i64 0)]):=by
 have h1:=JhN [] JbZ [] x f (.inr ha) 0 0 0 (Jl9 x h) Jl6 100 (fun _=>Jke x (by have:=JiE (ofB x);rw[Ja4] at this;omega));have hok:JeU JbZ x 0 0 0=true:=by
  unfold JeU;obtain⟨u,hu,e⟩:=Jkf x;have:((JaX (ofB x)).any fun u=>decide ((u.pos:Int)=0))=true:=List.any_eq_true.2 ⟨u,hu,by simpa using e⟩;rw[JfW,this];rfl
 rw[if_pos hok] at h1;exact h1
theorem Jc6:JR Tryz.prog 7 [] (.lit (.bool true)):=by
 have gN:GP (.agg (Jh JbZ)):=.of_pure (.agg (Jab _));have pN:Ab.Pure (.agg (Jh JbZ)):=.agg (Jab _);have n1:=Jfh [97,97,97,98] true (by decide) (by decide);have n2:=Jfh [97,98,99] true (by decide) (by decide);have n3:=Jfh [98] true (by decide) (by decide);have n4:=Jnb [97,97,97,98] true (by decide) (by decide);rw[Jq8] at n1;rw[Jq9] at n2;rw[Jra] at n3;rw[Jrb] at n4;have pA:∀ t,Ab.Pure (Jj7 t):=fun t=>.tup (Jb (.lit _) (Jb (.lit _) (Jb (.vec (Ji J7 _)) (Jb (.lit _) Jl))));have pE:∀ l:List Int,Ab.Pure (.tup [.vec (l.map Jhd) false,.lit (.int .i64 0)]):=fun l=>.tup (Jb (.vec (Ji JeO _)) (Jb (.lit _) Jl));refine JG (Jq Tryz.func7 rfl Tryz.ntmps7 (rs:=[.tmp 0]) rfl (by simp) ?_);refine Jm ?_;refine Jj ?_;simp -implicitDefEqProofs (disch:=omega) only[Wz,seval];refine Jm ?_;refine Jd3 1 rfl rfl rfl rfl ?_;simp -implicitDefEqProofs (disch:=omega) only[Wz,seval];refine JV JlK Jea Jl gN ?_;simp -implicitDefEqProofs (disch:=omega) only[Wz,seval];refine Jdl JsB rfl ty5 rfl rfl (by decide) (by decide) rfl rfl (by decide) ?_;simp -implicitDefEqProofs (disch:=omega) only[Wz,seval];refine Jcz.cv (fun g=>Jv (JF (.refl g) _) (Jv Jl8 (Jv (JbG (.refl g) _ _) (Jv (JF (.refl g) _) (Jv (JF (.refl g) _) JaV))))) ?_;refine Je JsE n1 (Jb pN (Jb (JaC [] [97,97,97,98] true) (Jb (.vec (by simp)) (Jb (.lit _) (Jb (.lit _) Jl))))) (pA _) ?_;simp -implicitDefEqProofs (disch:=omega) only[Wz,seval,Jj7];refine Jm ?_;refine Jd3 1 rfl rfl rfl rfl ?_;simp -implicitDefEqProofs (disch:=omega) only[Wz,seval];refine JV JlK Jea Jl gN ?_;simp -implicitDefEqProofs (disch:=omega) only[Wz,seval];refine Jdl JsB rfl ty5 rfl rfl (by decide) (by decide) rfl rfl (by decide) ?_;simp -implicitDefEqProofs (disch:=omega) only[Wz,seval];refine Jcz.cv (fun g=>Jv (JF (.refl g) _) (Jv Jl8 (Jv (JbG (.refl g) _ _) (Jv (JF (.refl g) _) (Jv (JF (.refl g) _) JaV))))) ?_;refine Je JsE n2 (Jb pN (Jb (JaC [] [97,98,99] true) (Jb (.vec (by simp)) (Jb (.lit _) (Jb (.lit _) Jl))))) (pA _) ?_;simp -implicitDefEqProofs (disch:=omega) only[Wz,seval,Jj7];refine Jm ?_;refine Jd3 1 rfl rfl rfl rfl ?_;simp -implicitDefEqProofs (disch:=omega) only[Wz,seval];refine JV JlK Jea Jl gN ?_;simp -implicitDefEqProofs (disch:=omega) only[Wz,seval];refine Jdl JsB rfl ty5 rfl rfl (by decide) (by decide) rfl rfl (by decide) ?_;simp -implicitDefEqProofs (disch:=omega) only[Wz,seval];refine Jcz.cv (fun g=>Jv (JF (.refl g) _) (Jv Jl8 (Jv (JbG (.refl g) _ _) (Jv (JF (.refl g) _) (Jv (JF (.refl g) _) JaV))))) ?_;refine Je JsE n3 (Jb pN (Jb (JaC [] [98] true) (Jb (.vec (by simp)) (Jb (.lit _) (Jb (.lit _) Jl))))) (pA _) ?_;simp -implicitDefEqProofs (disch:=omega) only[Wz,seval,Jj7];refine Jm ?_;refine Jd3 1 rfl rfl rfl rfl ?_;simp -implicitDefEqProofs (disch:=omega) only[Wz,seval];refine JV JlK Jea Jl gN ?_;simp -implicitDefEqProofs (disch:=omega) only[Wz,seval];refine Jdl JsB rfl ty5 rfl rfl (by decide) (by decide) rfl rfl (by decide) ?_;simp -implicitDefEqProofs (disch:=omega) only[Wz,seval];refine Jcz.cv (fun g=>Jv (JF (.refl g) _) (Jv Jl8 (Jv (JbG (.refl g) _ _) (Jv (JF (.refl g) _) (Jv (JF (.refl g) _) (Jv (JF (.refl g) _) JaV)))))) ?_;refine Je JrS n4 (Jb pN (Jb (JaC [] [97,97,97,98] true) (Jb (.vec (by simp)) (Jb (.lit _) (Jb (.lit _) (Jb (.lit _) Jl)))))) (pE _) ?_;simp -implicitDefEqProofs (disch:=omega) only[Wz,seval,Jj7];refine Jj ?_;have t2:Int.toNat 2=1+1:=rfl;have g2:∀ a b c:List AV,[a,b,c].getD (1+1) []=c:=fun _ _ _=>rfl
 simp -implicitDefEqProofs (disch:=omega) only[Wz,seval,Jhd,t2,g2,List.getD_cons_zero,List.getD_cons_succ,List.length_singleton];exact Ja (.lit _)
end Go.Proofs.Y
end
section
namespace Go.Proofs.Y
open Go Go.Ab
structure Kp (K:Nat->Prop) (H H':Hp):Prop where
 nx:H.nx<=H'.nx
 bx:∀ j,K j->j<H.nx->lk H'.boxes j=lk H.boxes j
 tk:∀ j,K j->j<H.nx->lk H'.toks j=lk H.toks j
 fb:∀ j,H'.nx<=j->lk H'.boxes j=none
 ft:∀ j,H'.nx<=j->lk H'.toks j=none
theorem Kp.grow{K:Nat->Prop}{H:Hp}(fb:∀ j,H.nx<=j->lk H.boxes j=none)(ft:∀ j,H.nx<=j->lk H.toks j=none){B:List (Nat × List AV)}{m:Nat}(hm:H.nx<=m)(hB:∀ q∈B,H.nx<=q.1/\q.1<m):Kp K H ⟨H.boxes++B,H.toks,m⟩:=by
 refine⟨hm,fun j _ hj=>?_,fun _ _ _=>rfl,fun j hj=>?_,fun j hj=>ft j (Nat.le_trans hm hj)⟩
 ·show lk (H.boxes++B) j=_;rw[JC];have:lk B j=none:=by
   have:∀ (B:List (Nat × List AV)),(∀ q∈B,H.nx<=q.1)->lk B j=none:=by
    intro B hB;induction B with
    | nil=>rfl
    | cons q B ih =>
     obtain⟨i,c⟩:=q;have h1:=hB (i,c) (by simp);simp only[lk];rw[if_neg (by simp only at h1;omega)];exact ih fun q hq=>hB q (by simp[hq])
   exact this B fun q hq=>(hB q hq).1
  rw[this,Option.or_none]
 ·have hj:m<=j:=hj;show lk (H.boxes++B) j=none;rw[JC,fb j (by omega)];exact JgP (N:=m) (fun q hq=>(hB q hq).2) hj
theorem Kp.tok{K:Nat->Prop}{H:Hp}(fb:∀ j,H.nx<=j->lk H.boxes j=none)(ft:∀ j,H.nx<=j->lk H.toks j=none){t:Nat}(hk:¬ K t)(hn:t<H.nx)(k:Tk):Kp K H ⟨H.boxes,up H.toks t k,H.nx⟩:=by
 refine⟨Nat.le_refl _,fun _ _ _=>rfl,fun j hj _=>?_,fb,fun j hj=>?_⟩
 ·show lk (up H.toks t k) j=_;rw[JH,if_neg (by intro e;exact hk (e ▸ hj))]
 ·have hj:H.nx<=j:=hj;show lk (up H.toks t k) j=_;rw[JH,if_neg (by omega)];exact ft j hj
theorem Kp.lp{K:Nat->Prop}{H:Hp}(fb:∀ j,H.nx<=j->lk H.boxes j=none)(ft:∀ j,H.nx<=j->lk H.toks j=none):Kp K H H.addLp:=by
 refine⟨Nat.le_succ _,fun _ _ _=>rfl,fun j _ hj=>?_,fun j hj=>fb j (Nat.le_of_succ_le hj),fun j hj=>?_⟩
 ·show lk (H.toks++[(H.nx,JaL 1)]) j=_;rw[JC];simp only[lk];rw[if_neg (by omega),Option.or_none]
 ·have hj:H.nx+1<=j:=hj;show lk (H.toks++[(H.nx,JaL 1)]) j=none;rw[JC,ft j (by omega)];simp only[lk];rw[if_neg (by omega)];rfl
theorem Kp.unlp{K:Nat->Prop}{H:Hp}(fb:∀ j,H.nx<=j->lk H.boxes j=none)(ft:∀ j,H.nx<=j->lk H.toks j=none){t:Nat}(hk:¬ K t):Kp K H (H.unlp t):=by
 refine⟨Nat.le_refl _,fun _ _ _=>rfl,fun j hj _=>?_,fb,fun j hj=>?_⟩
 ·show lk (dl H.toks t) j=_;rw[Jeb,if_neg (by intro e;exact hk (e ▸ hj))]
 ·have hj:H.nx<=j:=hj;show lk (dl H.toks t) j=_;rw[Jeb,ft j hj];split <;> rfl
structure PI (n:Nt) (o:List Orc) (l:List Un) (md:Int) (k a:Nat) (li wi xi y0:Nat) (z:Nat) (C:Hp->Prop) (H:Hp):Prop where
 c:C H
 y:∀ p:Gh->Nat->Prop,True
 bx:lk H.boxes (y0+1)=some [.ptr li 0]
 ba:lk H.boxes (y0+2)=some [.lit (.int .i64 (a:Int))]
 xi:lk H.boxes xi=some [.ptr li 0]
 tk:lk H.toks (y0+3)=some (JaL z)
 lk:∃ W,Jdq n o l md k W/\Lkr n o l md li wi W H
 nx:y0+3<H.nx
theorem Lkr.kp{n:Nt}{o:List Orc}{l:List Un}{md:Int}{li wi:Nat}{W:Td}{H H':Hp}(h:Lkr n o l md li wi W H){K:Nat->Prop}(h1:K li)(h2:K wi)(k:Kp K H H'):Lkr n o l md li wi W H' :=
 ⟨(k.bx _ h1 h.l1).trans h.at',(k.tk _ h2 h.l2).trans h.tk,h.ne,Nat.lt_of_lt_of_le h.l1 k.nx,Nat.lt_of_lt_of_le h.l2 k.nx,(k.tk _ h1 h.l1).trans h.no,k.fb,k.ft⟩
theorem Lkr.put{n:Nt}{o:List Orc}{l:List Un}{md:Int}{li wi:Nat}{W W':Td}{H:Hp}(h:Lkr n o l md li wi W H):Lkr n o l md li wi W' ⟨H.boxes,up H.toks wi (J8 W'),H.nx⟩:=by
 refine⟨h.at',?_,h.ne,h.l1,h.l2,?_,h.fb,fun i hi=>?_⟩
 ·show Go.Ab.lk (up _ _ _) _=_;rw[JH,if_pos rfl,h.tk];rfl
 ·show Go.Ab.lk (up _ _ _) _=_;rw[JH,if_neg (Ne.symm h.ne)];exact h.no
 ·have:=h.l2;have hi:H.nx<=i:=hi;show Go.Ab.lk (up _ _ _) _=_;rw[JH,if_neg (by omega)];exact h.ft i hi
theorem Jty{n:Nt}{o:List Orc}{l:List Un}{md:Int}{k:Nat}(g:JpY n o l md)(a:Nat)(ha:a<l.length)(he:∀ r,r<n.rules.length->JbP n o l md k r a)(hpos:∀ u∈l,u.pos<=999){p:Gh->Nat->Prop}(K:Nat->Prop)(M li wi xi ki ei:Nat)
  (k1:K li) (k2:K wi) (k3:K xi) (k4:K ki) (k5:K ei) (hM:∀ j,M<=j->K j) (C:Nat->Hp->Prop) (Z:Hp->Prop)
  (hC:∀ i H H',C i H->Kp (fun j=>¬ K j) H H'->C i H') (hZ:∀ H H',Z H->Kp (fun j=>¬ K j) H H'->Z H')
  (hsk:∀ i H,i<n.rules.length->JdC n o l md k a i=none->C i H->C (i+1) H)
  (hY:∀ i y H,i<n.rules.length->JdC n o l md k a i=some (i,y)->C i H->M<=H.nx->(∀ j,H.nx<=j->lk H.boxes j=none)->(∀ j,H.nx<=j->lk H.toks j=none) ->
   YC Tryz.prog p [.lit (.int .i64 (i:Int)),.lit (.int .i64 ((l.getD y.pos default).pos:Int))] H fun r H'=>Kp K H H'/\((r = .lit (.bool true)/\C (i+1) H')\/(r = .lit (.bool false)/\Z H')))
  (H0:Hp) (h0:C 0 H0) (hM0:M<=H0.nx) (hx:lk H0.boxes xi=some [.ptr li 0]) (hk:lk H0.boxes ki=some [.lit (.int .i64 (a:Int))]) (hei:lk H0.boxes ei=some [.lit (.int .i64 0)]) (hl:∃ W,Jdq n o l md k W/\Lkr n o l md li wi W H0) (hxi:xi<H0.nx) :
  JU Tryz.prog 38 [.yl p,.ptr ei 0,.ptr xi 0,.ptr ki 0] H0 fun r H'=>r = .tup []/\(C n.rules.length H'\/Z H'):=by
 refine Jq Tryz.func38 rfl Tryz.ntmps38 (rs:=[]) rfl (by simp) ?_;obtain⟨W0,hW0,hl0⟩:=hl;have fb0:=hl0.fb;have ft0:=hl0.ft;have hb1:∀ x,lk (H0.boxes++x) xi=some [.ptr li 0]:=fun x=>by rw[JC,hx];rfl
 have hb2:∀ x,lk (H0.boxes++x) ki=some [.lit (.int .i64 (a:Int))]:=fun x=>by rw[JC,hk];rfl
 have hb3:∀ x,lk (H0.boxes++x) ei=some [.lit (.int .i64 0)]:=fun x=>by rw[JC,hei];rfl
 refine Jm ?_;refine Jj ?_;simp -implicitDefEqProofs (disch:=omega) only[Wz,seval,Ly,Lx];refine Jm ?_;refine Jj ?_;simp -implicitDefEqProofs (disch:=omega) only[Wz,seval,Ly,Lx,hb3];refine Jm ?_;refine Jj ?_;simp -implicitDefEqProofs (disch:=omega) only[Wz,seval,Ly,Lx,hb1,hb2];refine JE JrT (Jj8 li a _) ?_;rintro r0 h' ⟨rfl,rfl⟩;simp -implicitDefEqProofs (disch:=omega) only[Wz,seval,Ly,Lx,List.append_assoc];refine JX ?_;obtain⟨y0,hy0⟩:∃ y0,H0.nx=y0:=⟨_,rfl⟩;have kg:Kp (fun j=>¬ K j) H0 ⟨H0.boxes++[(y0,[.yl p]),(y0+1,[.ptr li 0]),(y0+2,[.lit (.int .i64 (a:Int))])],H0.toks,y0+3⟩:=Kp.grow fb0 ft0 (by omega) (by simp;omega);have kgK:Kp K H0 ⟨H0.boxes++[(y0,[.yl p]),(y0+1,[.ptr li 0]),(y0+2,[.lit (.int .i64 (a:Int))])],H0.toks,y0+3⟩:=Kp.grow fb0 ft0 (by omega) (by simp;omega);have c1:=hC _ _ _ h0 kg;have l1:=hl0.kp k1 k2 kgK;have fy:lk H0.boxes y0=none:=fb0 _ (by omega);have fy1:lk H0.boxes (y0+1)=none:=fb0 _ (by omega);have fy2:lk H0.boxes (y0+2)=none:=fb0 _ (by omega);have e0:lk (H0.boxes++[(y0,[.yl p]),(y0+1,[.ptr li 0]),(y0+2,[.lit (.int .i64 (a:Int))])]) y0=some [.yl p]:=by rw[JC,fy];simp[lk]
 have e1:lk (H0.boxes++[(y0,[.yl p]),(y0+1,[.ptr li 0]),(y0+2,[.lit (.int .i64 (a:Int))])]) (y0+1)=some [.ptr li 0]:=by rw[JC,fy1];simp[lk]
 have e2:lk (H0.boxes++[(y0,[.yl p]),(y0+1,[.ptr li 0]),(y0+2,[.lit (.int .i64 (a:Int))])]) (y0+2)=some [.lit (.int .i64 (a:Int))]:=by rw[JC,fy2];simp[lk]
 have e3:=hb1 [(y0,[.yl p]),(y0+1,[.ptr li 0]),(y0+2,[.lit (.int .i64 (a:Int))])];rw[hy0];generalize hH1:(⟨H0.boxes++[(y0,[.yl p]),(y0+1,[.ptr li 0]),(y0+2,[.lit (.int .i64 (a:Int))])],H0.toks,y0+3⟩:Hp)=H1 at c1 l1;have hn1:H1.nx=y0+3:=by rw[<- hH1]
 have e0:lk H1.boxes y0=some [.yl p]:=by rw[<- hH1];exact e0
 have e1:lk H1.boxes (y0+1)=some [.ptr li 0]:=by rw[<- hH1];exact e1
 have e2:lk H1.boxes (y0+2)=some [.lit (.int .i64 (a:Int))]:=by rw[<- hH1];exact e2
 have e3:lk H1.boxes xi=some [.ptr li 0]:=by rw[<- hH1];exact e3
 refine Ja8 (σ':=⟨[(11,.fn (.func 44) [] [.ptr (y0+1) 0,.ptr (y0+2) 0]),(4,.ptr y0 0),(2,.ptr xi 0)],H1,27⟩) (by rw[<- hH1];exact Jk (by simp[lk]) (fun _ _ e=>e) (fun _ _ e=>e) rfl rfl) ?_;have hwy:wi<y0:=by have:=hl0.l2;omega
 have hxy:xi<y0:=by omega
 clear hH1 fy fy1 fy2 kg kgK hb1 hb2 hb3;refine JbS (gf:=44) (first:=[]) (lb:=[.ptr (y0+1) 0,.ptr (y0+2) 0]) rfl JrY (fun p' hp'=>?_);have ky:∀ j,y0<=j->K j:=fun j hj=>hM j (by omega)
 obtain⟨I,hI⟩:∃ I:Nat->Nat->Hp->Prop,∀ z i H,I z i H↔(C i H/\lk H.boxes y0=some [.yl p])/\PI n o l md k a li wi xi y0 z (fun _=>True) H:=⟨fun z i H=>(C i H/\lk H.boxes y0=some [.yl p])/\PI n o l md k a li wi xi y0 z (fun _=>True) H,fun _ _ _=>Iff.rfl⟩;have up':∀ (z i:Nat) (H H':Hp),(∃ W,Jdq n o l md k W/\Lkr n o l md li wi W H')->lk H'.toks (y0+3)=some (JaL z)->(∀ j,j<H.nx->lk H'.boxes j=lk H.boxes j)->H.nx<=H'.nx->Kp (fun j=>¬ K j) H H'->I 1 i H\/I 2 i H->I z i H':=by
  intro z i H H' hl ht hb hn kk h;have key:(C i H/\lk H.boxes y0=some [.yl p])/\lk H.boxes (y0+1)=some [.ptr li 0]/\lk H.boxes (y0+2)=some [.lit (.int .i64 (a:Int))]/\lk H.boxes xi=some [.ptr li 0]/\y0+3<H.nx:=by
   rcases h with h | h <;> (rw[hI] at h;exact⟨h.1,h.2.bx,h.2.ba,h.2.xi,h.2.nx⟩)
  obtain⟨⟨q1,q2⟩,q3,q4,q5,q6⟩:=key;rw[hI];exact⟨⟨hC _ _ _ q1 kk,(hb _ (by omega)).trans q2⟩,trivial,fun _=>trivial,(hb _ (by omega)).trans q3,(hb _ (by omega)).trans q4,(hb _ (by omega)).trans q5,ht,hl,by omega⟩
 have hA0:I 1 0 H1.addLp:=by
  have kk:Kp (fun j=>¬ K j) H1 H1.addLp:=Kp.lp l1.fb l1.ft;have kk2:Kp K H1 H1.addLp:=Kp.lp l1.fb l1.ft;rw[hI];refine⟨⟨hC _ _ _ c1 kk,e0⟩,trivial,fun _=>trivial,e1,e2,e3,?_,⟨W0,hW0,l1.kp k1 k2 kk2⟩,?_⟩
  ·show lk (H1.toks++[(H1.nx,JaL 1)]) (y0+3)=_;rw[JC,l1.ft _ (by omega),hn1];simp[lk]
  ·show y0+3<H1.nx+1;omega
 have hinf:∀ z i H,I z i H->(∃ W,Jdq n o l md k W/\Lkr n o l md li wi W H)/\y0+3<H.nx/\lk H.toks (y0+3)=some (JaL z):=fun z i H h=>by rw[hI] at h;exact⟨h.2.lk,h.2.nx,h.2.tk⟩
 refine JU.mono (Jsf g a ha he li wi (y0+1) (y0+2) (I 1) (fun H=>Z H/\(∃ W,Jdq n o l md k W/\Lkr n o l md li wi W H)/\lk H.toks (y0+3)=some (JaL 3)) (fun i H h=>?_) (fun i H W' h hW=>?_) (fun i H B m h hm hB=>?_) (fun i H hi h hn=>?_) (fun i y H hi h hs=>?_) _ hA0) ?_
 ·rw[hI] at h;exact⟨h.2.bx,h.2.ba,h.2.lk⟩
 ·obtain⟨⟨W,hW1,hl⟩,hnx,htk⟩:=hinf _ _ _ h;refine up' 1 i H _ ⟨W',hW,hl.put⟩ ?_ (fun _ _=>rfl) (Nat.le_refl _) (Kp.tok hl.fb hl.ft (fun q=>q k2) hl.l2 _) (.inl h);show lk (up H.toks wi (J8 W')) (y0+3)=_;rw[JH,if_neg ?_]
  ·exact htk
  ·omega
 ·obtain⟨⟨W,hW1,hl⟩,hnx,htk⟩:=hinf _ _ _ h;have kk:Kp (fun j=>¬ K j) H ⟨H.boxes++B,H.toks,m⟩:=Kp.grow hl.fb hl.ft hm hB;have kk2:Kp (fun _=>True) H ⟨H.boxes++B,H.toks,m⟩:=Kp.grow hl.fb hl.ft hm hB;exact up' 1 i H _ ⟨W,hW1,hl.kp (K:=fun _=>True) trivial trivial kk2⟩ htk (fun j hj=>kk2.bx j trivial hj) hm kk (.inl h)
 ·rw[hI] at h ⊢;exact⟨⟨hsk _ _ hi hn h.1.1,h.1.2⟩,h.2⟩
 ·
  obtain⟨⟨W,hW1,hl⟩,hnx,htk⟩:=hinf _ _ _ h;have hyo:=JjX g.w g.u (o:=o) (md:=md) (k:=k) hi ha y (by
   unfold JdC at hs;split at hs
   ·obtain⟨y',h1,h2⟩:=Option.map_eq_some_iff.1 hs;cases h2;exact JgV h1
   ·cases hs)
  refine hp' _ _ _ ⟨by rw[hn1];exact htk,rfl,?_⟩;refine Jj ?_;have hu1:∀ c d,up (H.boxes++[(H.nx,c)]) H.nx d=H.boxes++[(H.nx,d)]:=fun c d=>JdU (hl.fb _ (Nat.le_refl _));have hnn:∀ c,lk (H.boxes++[(H.nx,c)]) H.nx=some c:=fun c=>by rw[JC,hl.fb _ (Nat.le_refl _)];simp[lk]
  simp -implicitDefEqProofs (disch:=omega) only[Wz,seval,Ly,Lx,putL,hnn,hu1,hn1];refine⟨htk,?_⟩;have kk2:Kp (fun _=>True) H ⟨H.boxes++[(H.nx,JO y)],H.toks,H.nx+1⟩:=Kp.grow hl.fb hl.ft (by omega) (by simp);have kk:Kp (fun j=>¬ K j) H ⟨H.boxes++[(H.nx,JO y)],H.toks,H.nx+1⟩:=Kp.grow hl.fb hl.ft (by omega) (by simp);have h2:=up' 1 i H _ ⟨W,hW1,hl.kp (K:=fun _=>True) trivial trivial kk2⟩ htk (fun j hj=>kk2.bx j trivial hj) (by show H.nx<=H.nx+1;omega) kk (.inl h);have hyi:lk (H.boxes++[(H.nx,JO y)]) H.nx=some (JO y):=hnn _;obtain⟨⟨W2,hW2,hl2⟩,hnx2,htk2⟩:=hinf _ _ _ h2;have kk3:Kp (fun j=>¬ K j) _ _:=Kp.tok hl2.fb hl2.ft (fun q=>q (ky (y0+3) (by omega))) hnx2 (JaL 2);have kk4:Kp (fun j=>j≠y0+3) _ _:=Kp.tok hl2.fb hl2.ft (fun q=>q rfl) hnx2 (JaL 2);have h3:I 2 i ⟨H.boxes++[(H.nx,JO y)],up H.toks (y0+3) (JaL 2),H.nx+1⟩:=by
   refine up' 2 i ⟨H.boxes++[(H.nx,JO y)],H.toks,H.nx+1⟩ _ ⟨W2,hW2,hl2.kp (by have:=hl2.l1;intro q;subst q;have:=hl2.no;rw[htk2] at this;cases this) (by omega) kk4⟩ ?_ (fun _ _=>rfl) (Nat.le_refl _) kk3 (.inl h2);show lk (up H.toks (y0+3) (JaL 2)) (y0+3)=_;rw[JH,if_pos rfl,htk];rfl
  refine Ja8 (σ':=⟨[(5,.lit (.int .i64 (i:Int))),(6,.ptr H.nx 0),(2,.ptr xi 0),(4,.ptr y0 0)],⟨H.boxes++[(H.nx,JO y)],up H.toks (y0+3) (JaL 2),H.nx+1⟩,27⟩) (Jk (by simp[lk]) (fun _ _ e=>e) (fun _ _ e=>e) rfl rfl) ?_;generalize hH3:(⟨H.boxes++[(H.nx,JO y)],up H.toks (y0+3) (JaL 2),H.nx+1⟩:Hp)=H3 at h3 ⊢;have hyi:lk H3.boxes H.nx=some (JO y):=by rw[<- hH3];exact hyi
  clear hH3 kk kk2 kk3 kk4 h2 hu1 hnn hl hl2 W hW1 W2 hW2 hnx2 htk2;generalize H.nx=yi at hyi ⊢;obtain⟨⟨W3,hW3,hl3⟩,hnx3,htk3⟩:=hinf _ _ _ h3;have h3':=h3;rw[hI] at h3';obtain⟨⟨c3,b3⟩,pi3⟩:=h3';have hb3:=pi3.xi;have hlo:=hl3.at';have hy3:=hY i y H3 hi hs c3 (by omega) hl3.fb hl3.ft;obtain⟨u,hu⟩:∃ u,l.getD y.pos default=u:=⟨_,rfl⟩;rw[hu] at hy3;have hyl:=hyo.2.1;have hll:=g.len;refine JX ?_;refine Jm ?_;refine Jbh (n:=27) 11 (.alt 11 (.alt 12 .leaf .nil) .nil) rfl (by decide) (by decide) mixed (by kernel_rfl) (by decide) ?_;simp -implicitDefEqProofs (disch:=omega) only[Wz,seval,Ly,Lx,b3,hb3,hlo,Jap,Jh,hyi,JO,hu,JeT];refine Je8 rfl rfl rfl ?_;refine hy3.mono ?_;have keep:∀ (z j:Nat) (H':Hp),Kp K H3 H'->C j H'->I z j (H'.lp (y0+3) z):=fun z j H' kp hc=>by
   have q1:Kp (fun j=>¬ K j) H' (H'.lp (y0+3) z):=Kp.tok kp.fb kp.ft (fun q=>q (ky (y0+3) (by omega))) (by have:=kp.nx;omega) _;have q2:Kp (fun j=>j≠y0+3) H' (H'.lp (y0+3) z):=Kp.tok kp.fb kp.ft (fun q=>q rfl) (by have:=kp.nx;omega) _;have t1:lk H'.toks (y0+3)=some (JaL 2):=(kp.tk _ (ky _ (by omega)) hnx3).trans htk3;rw[hI];refine⟨⟨hC _ _ _ hc q1,(kp.bx _ (ky _ (Nat.le_refl _)) (by omega)).trans b3⟩,trivial,fun _=>trivial,(kp.bx _ (ky _ (by omega)) (by omega)).trans pi3.bx,(kp.bx _ (ky _ (by omega)) (by omega)).trans pi3.ba,(kp.bx _ k3 (by omega)).trans hb3,?_,⟨W3,hW3,(hl3.kp k1 k2 kp).kp (K:=fun j=>j≠y0+3) ?_ (by omega) q2⟩,?_⟩
   ·show lk (up H'.toks (y0+3) (JaL z)) (y0+3)=_;rw[JH,if_pos rfl,t1];rfl
   ·intro q;subst q;have:=hl3.no;rw[htk3] at this;cases this
   ·show y0+3<H'.nx;have:=kp.nx;omega
  rintro r H' ⟨kp,⟨rfl,hc⟩ | ⟨rfl,hz⟩⟩
  ·simp -implicitDefEqProofs (disch:=omega) only[Wz,seval,Ly,Lx];refine Jj ?_;simp -implicitDefEqProofs (disch:=omega) only[Wz,seval,Ly,Lx];exact⟨⟨[],H',27⟩,Jk (by simp) (fun _ _ e=>e) (fun _ _ e=>e) rfl rfl,(kp.tk _ (ky _ (by omega)) hnx3).trans htk3,.inl ⟨rfl,keep 1 _ _ kp hc⟩⟩
  ·simp -implicitDefEqProofs (disch:=omega) only[Wz,seval,Ly,Lx];refine Jj ?_;simp -implicitDefEqProofs (disch:=omega) only[Wz,seval,Ly,Lx];have q1:Kp (fun j=>¬ K j) H' (H'.lp (y0+3) 3):=Kp.tok kp.fb kp.ft (fun q=>q (ky (y0+3) (by omega))) (by have:=kp.nx;omega) _;have q2:Kp (fun j=>j≠y0+3) H' (H'.lp (y0+3) 3):=Kp.tok kp.fb kp.ft (fun q=>q rfl) (by have:=kp.nx;omega) _;have t1:lk H'.toks (y0+3)=some (JaL 2):=(kp.tk _ (ky _ (by omega)) hnx3).trans htk3;refine⟨⟨[],H',27⟩,Jk (by simp) (fun _ _ e=>e) (fun _ _ e=>e) rfl rfl,t1,.inr ⟨rfl,?_⟩⟩;refine⟨hZ _ _ hz q1,⟨W3,hW3,(hl3.kp k1 k2 kp).kp (K:=fun j=>j≠y0+3) ?_ (by omega) q2⟩,?_⟩
   ·intro q;subst q;have:=hl3.no;rw[htk3] at this;cases this
   ·show lk (up H'.toks (y0+3) (JaL 3)) (y0+3)=_;rw[JH,if_pos rfl,t1];rfl
 ·rintro r H' ⟨rfl,hH | hH⟩
  ·obtain⟨⟨W,hW1,hl⟩,hnx,htk⟩:=hinf _ _ _ hH;rw[hI] at hH;refine⟨1,Nat.le_refl _,by decide,by rw[hn1];exact htk,.inl ⟨rfl,?_⟩⟩;simp -implicitDefEqProofs (disch:=omega) only[Wz,seval,Ly,Lx];rw[hn1];exact .inl (hC _ _ _ hH.1.1 (Kp.unlp hl.fb hl.ft (fun q=>q (ky (y0+3) (by omega)))))
  ·obtain⟨hz,⟨W,hW1,hl⟩,htk⟩:=hH;refine⟨3,by decide,by decide,by rw[hn1];exact htk,.inr (.inl ⟨rfl,?_⟩)⟩;simp -implicitDefEqProofs (disch:=omega) only[Wz,seval,Ly,Lx];rw[hn1];exact .inr (hZ _ _ hz (Kp.unlp hl.fb hl.ft (fun q=>q (ky (y0+3) (by omega)))))
theorem Jtz{p:Gh->Nat->Prop}{xi ki ei:Nat}{e:Int}(he:e≠0)(H:Hp)(hei:lk H.boxes ei=some [.lit (.int .i64 e)]) :
  JU Tryz.prog 38 [.yl p,.ptr ei 0,.ptr xi 0,.ptr ki 0] H fun r H'=>r = .tup []/\H'=⟨H.boxes++[(H.nx,[.yl p])],H.toks,H.nx+1⟩:=by
 refine Jq Tryz.func38 rfl Tryz.ntmps38 (rs:=[]) rfl (by simp) ?_;have hb3:∀ x,lk (H.boxes++x) ei=some [.lit (.int .i64 e)]:=fun x=>by rw[JC,hei];rfl
 have hne:(e != 0)=true:=by simpa using he
 refine Jm ?_;refine Jj ?_;simp -implicitDefEqProofs (disch:=omega) only[Wz,seval,Ly,Lx];refine Jm ?_;refine Jj ?_;simp -implicitDefEqProofs (disch:=omega) only[Wz,seval,Ly,Lx,hb3,hne]
theorem Jnc(L:List (Nat × List Value))(n:Nt)(o:List Orc)(x:List UInt8)(f:Bool)(hL:JdV L x)(at' md:Int)(g:Jm8 n o x at' md)(H:Hp)(hf:∀ i,H.nx<=i->lk H.boxes i=none) :
  JU Tryz.prog 18 [.agg (Jh n),inV L x f,.vec (o.map Jb9) false,.lit (.int .i64 at'),.lit (.int .i64 md)] H fun r h' =>
   (okV n=true/\(0<=md/\md<(n.modes.length:Int))/\∃ i:Nat,i<(JaX (ofB x)).length/\(((JaX (ofB x)).getD i default).pos:Int)=at'/\r = .fn (.func 38) [] [.ptr (H.nx+6) 0,.ptr (H.nx+4) 0,.ptr (H.nx+5) 0] /\
    h'=⟨H.boxes++[(H.nx,Jh n),(H.nx+1,Jh n),(H.nx+3,Jap n o (JaX (ofB x)) md (H.nx+2)),(H.nx+4,[.ptr (H.nx+3) 0]),(H.nx+5,[.lit (.int .i64 (i:Int))]),(H.nx+6,[.lit (.int .i64 0)])],H.toks++[(H.nx+2,J8 [])],H.nx+7⟩) \/
   ((okV n=true->¬ ((0<=md/\md<(n.modes.length:Int))/\∃ u∈JaX (ofB x),(u.pos:Int)=at'))/\r = .fn (.func 38) [] [.ptr (H.nx+4) 0,.ptr (H.nx+2) 0,.ptr (H.nx+3) 0] /\
    h'=⟨H.boxes++[(H.nx,Jh n),(H.nx+1,Jh n),(H.nx+2,[.lit (.pointer none)]),(H.nx+3,[.lit (.int .i64 0)]),(H.nx+4,[.lit (.int .i64 (if okV n then 2 else 110))])],H.toks,H.nx+5⟩):=by
 refine Jq Tryz.func18 rfl Tryz.ntmps18 (rs:=[.tmp 10]) rfl (by simp) ?_;have hlook:=JgZ L n o x f hL at' md g ⟨H.boxes++[(H.nx,Jh n)],H.toks,H.nx+1⟩ (fun i hi=>by
  have hi:H.nx+1<=i:=hi;show lk (H.boxes++[(H.nx,Jh n)]) i=none;rw[JC,hf i (by omega)];simp only[lk];rw[if_neg (by omega)];rfl)
 have hpx:=JaC L x f;have hn1:∀ c x,lk (H.boxes++(H.nx,c) :: x) H.nx=some c:=fun c x=>by rw[JC,hf _ (Nat.le_refl _)];simp[lk]
 have hkj:∀ (B:List (Nat × List AV)) (j:Nat),lk (H.boxes++B) (H.nx+j)=lk B (H.nx+j):=fun B j=>by rw[JC,hf _ (by omega)];simp
 have huj:∀ (B:List (Nat × List AV)) (j:Nat) (d:List AV),up (H.boxes++B) (H.nx+j) d=H.boxes++up B (H.nx+j) d:=fun B j d=>JgY (hf _ (by omega));have n2:H.nx+2+1=H.nx+3:=rfl;have n3:H.nx+3+1=H.nx+4:=rfl;have n4:H.nx+4+1=H.nx+5:=rfl;have n5:H.nx+5+1=H.nx+6:=rfl;have n6:H.nx+6+1=H.nx+7:=rfl;obtain⟨l,hl⟩:∃ l,JaX (ofB x)=l:=⟨_,rfl⟩;rw[hl] at hlook ⊢;unfold inV at hlook hpx ⊢;simp only[Nat.add_assoc,Nat.reduceAdd,List.append_assoc,List.cons_append,List.nil_append] at hlook;refine Jm ?_;refine Jj ?_;simp -implicitDefEqProofs (disch:=omega) only[Wz,seval,Ly,Lx];refine Jm ?_;refine Jj ?_;simp -implicitDefEqProofs (disch:=omega) only[Wz,seval,Ly,Lx,hn1,J6,Jay];refine JE Jop hlook ?_;rintro r0 h' (⟨hok,hmd,i,hil,hia,rfl,rfl⟩ | ⟨hno,rfl,rfl⟩)
 ·simp -implicitDefEqProofs (disch:=omega) only[Wz,seval,Ly,Lx,List.append_assoc,hkj,huj,n2,n3,n4,n5,n6,lk,up,if_pos,if_neg];refine Jm ?_;refine Jj ?_;simp -implicitDefEqProofs (disch:=omega) only[Wz,seval,Ly,Lx];refine Jj ?_;simp -implicitDefEqProofs (disch:=omega) only[Wz,seval,Ly,Lx];exact .inl ⟨hok,hmd,i,hil,hia,rfl⟩
 ·simp -implicitDefEqProofs (disch:=omega) only[Wz,seval,Ly,Lx,List.append_assoc,hkj,huj,n2,n3,n4,n5,n6,lk,up,if_pos,if_neg];refine Jm ?_;refine Jj ?_;simp -implicitDefEqProofs (disch:=omega) only[Wz,seval,Ly,Lx];refine Jj ?_;simp -implicitDefEqProofs (disch:=omega) only[Wz,seval,Ly,Lx];exact .inr hno
end Go.Proofs.Y
end
