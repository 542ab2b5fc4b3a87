/- Parts of the proof, laid together. -/
import Derived.Test.YtgbbhilflgekhaaGreatDoorVyj
set_option linter.unusedVariables false
set_option linter.unusedSimpArgs false
set_option maxRecDepth 20000
set_option maxHeartbeats 16000000
section
namespace Go.Proofs.Y
open Go Go.Ab
def plV (l:List Un)(ys:List En):List Int:=ys.map fun y=>((l.getD y.pos default).pos:Int)
def plQ (q:Option Nat)(X:List Int):AV:=match q with | none=>.vec [] true | some q=>.own q X.length
def plT (q:Option Nat)(X:List Int):List (Nat × Tk):=match q with | none=>[] | some q=>[(q,⟨X.map Jkk,0,1⟩)]
noncomputable def Jjz(n:Nt)(x:List UInt8)(at' md rule:Int):Bool:=okV n && (decide (0<=md/\md<(n.modes.length:Int)) && ((Jcl (ofB x)).any (fun u=>decide ((u.pos:Int)=at')) && (decide (0<=rule/\rule<(n.rules.length:Int)) && (n.rules.getD rule.toNat default).lexer)))
theorem Jhn(L:List (Nat × List Value))(n:Nt)(o:List Orc)(x:List UInt8)(f:Bool)(hL:Jd5 L x)(at' md rule:Int)(g:JsO n o x at' md)(mu:JoR n)(k:Nat)(fk:okV n=true->JmB n o (Jcl (ofB x)) md k) :
  JN Tryz.prog 13 [.agg (Jh n),inV L x f,.vec (o.map Jfy) false,.lit (.int .i64 at'),.lit (.int .i64 md),.lit (.int .i64 rule)]
   (if Jjz n x at' md rule=true then .tup [.vec ((plV (Jcl (ofB x)) (eF n o (Jcl (ofB x)) md k rule.toNat (ixV (Jcl (ofB x)) at'))).map Jkk) false,.lit (.int .i64 0)] else .tup [.vec [] false,.lit (.int .i64 (if okV n then 2 else 110))]):=by
 refine JD (Ju Tryz.func13 rfl Tryz.ntmps13 (rs:=[.tmp 12,.tmp 13]) rfl (by simp) ?_);have hlook:=Jjv L n o x f hL at' md g;have hpx:=JaS L x f;have hrise:=JeE (ofB x);have hlk:=Jzf g;obtain⟨hlen,hpos⟩:=Jdz g.len;unfold Jjz;obtain⟨l,hl⟩:∃ l,Jcl (ofB x)=l:=⟨_,rfl⟩;rw[hl] at hlook hrise hlk hlen hpos fk ⊢;unfold inV at hlook hpx ⊢;refine Jq ?_;refine Jl ?_;simp -implicitDefEqProofs (disch:=omega) only[Wz,seval,Ly,Lx];refine Jq ?_;refine Jl ?_;simp -implicitDefEqProofs (disch:=omega) only[Wz,seval,Ly,Lx,J6,Jay];refine JM Jrf (hlook _ ?_) ?_
 ·exact fun i hi=>Jmz (N:=1) (by simp) hi
 rintro r0 h' (⟨hok,hmd,a,hal,hia,rfl,rfl⟩ | ⟨hno,rfl,rfl⟩)
 ·have hru:=(hlk hok).w.nru;by_cases hr0:rule<0
  ·rw[if_neg (by simp;intros;omega)];simp -implicitDefEqProofs (disch:=omega) only[Wz,seval,Ly,Lx,hok,if_true];refine Jq ?_;refine Jl ?_;simp -implicitDefEqProofs (disch:=omega) only[Wz,seval,Ly,Lx];exact JH (Jj (JaH (by simp)) (Jj (Jb (.lit _)) JA))
  by_cases hr1:rule<(n.rules.length:Int);rotate_left
  ·rw[if_neg (by simp;intros;omega)];simp -implicitDefEqProofs (disch:=omega) only[Wz,seval,Ly,Lx,hok,if_true];refine Jq ?_;refine Jl ?_;simp -implicitDefEqProofs (disch:=omega) only[Wz,seval,Ly,Lx,Jh];exact JH (Jj (JaH (by simp)) (Jj (Jb (.lit _)) JA))
  obtain⟨r,rfl⟩:∃ r:Nat,rule=(r:Int):=⟨rule.toNat,by omega⟩;have hrl:r<n.rules.length:=by omega
  obtain⟨rr,hrr⟩:∃ rr,n.rules.getD r default=rr:=⟨_,rfl⟩;rw[Int.toNat_natCast,hrr];cases hlx:rr.lexer with
  | false =>
   rw[if_neg (by simp)];simp -implicitDefEqProofs (disch:=omega) only[Wz,seval,Ly,Lx,hok,if_true];refine Jq ?_;refine Jl ?_;simp -implicitDefEqProofs (disch:=omega) only[Wz,seval,Ly,Lx,Jh,hrr,Jf,hlx];exact JH (Jj (JaH (by simp)) (Jj (Jb (.lit _)) JA))
  | true =>
   have hany:(l.any fun u=>decide ((u.pos:Int)=at'))=true:=by
    rw[List.any_eq_true];exact⟨_,Jv hal,by simpa using hia⟩
   have hix:ixV l at'=a:=JoC hrise hal hia;rw[if_pos (by rw[hok,hany];simp;omega),hix];have hlk:=hlk hok;have hends:=JlD hlk mu (fk hok) (Jia g.ok hok) r a hrl hal;have hel:=JmC hlk.w hlk.u (o:=o) (md:=md) (k:=k) hrl hal;have hout:=Joz hlk.w hlk.u (o:=o) (md:=md) (k:=k) hrl hal;simp -implicitDefEqProofs (disch:=omega) only[Wz,seval,Ly,Lx,hok,if_true];refine Jq ?_;refine Jl ?_;simp -implicitDefEqProofs (disch:=omega) only[Wz,seval,Ly,Lx,Jh,hrr,Jf,hlx];refine Jq ?_;refine Jl ?_;simp -implicitDefEqProofs (disch:=omega) only[Wz,seval,Ly,Lx];refine JM JnQ (JkG hends _ 3 2 [] .nil rfl rfl (by decide) (by show 3<4;decide) (by show 2<4;decide) rfl) ?_;rintro r0 h' ⟨rfl,W,hW,rfl⟩;obtain⟨ys,hys⟩:∃ ys,eF n o l md k r a=ys:=⟨_,rfl⟩;rw[hys] at hel hout ⊢;simp -implicitDefEqProofs (disch:=omega) only[Wz,seval,Ly,Lx,enV];refine Js (fun(z:Nat × Option Nat × Nat)=>⟨[(12,plQ z.2.1 (plV l (ys.take z.1))),(14,.ptr 3 0),(54,.vec (ys.map JaQ) false),(55,.lit (.int .i64 (ys.length:Int))),(56,.lit (.int .i64 (z.1:Int)))],⟨[(3,Jaq n o l md 2)],plT z.2.1 (plV l (ys.take z.1)),z.2.2⟩,74⟩)
    (fun z=>z.1<=ys.length/\4<=z.2.2/\(z.2.1=none->z.1=0)/\∀ q,z.2.1=some q->q<z.2.2) (fun z=>ys.length - z.1) (0,none,4) (JaF (by simp[lk,plQ]) (Jc rfl Jm) Jm rfl rfl) ⟨Nat.zero_le _,Nat.le_refl _,fun _=>rfl,fun q h=>by cases h⟩ ?_
   rintro⟨j,q,m⟩ ⟨hj,hm,hq0,hq⟩;simp only at hj hm hq0 hq ⊢;refine Jl ?_;rcases Nat.lt_or_ge j ys.length with hlt | hge
   ·obtain⟨y,hy⟩:∃ y,ys.getD j default=y:=⟨_,rfl⟩;have hym:=hout y (by rw[<- hy];exact Jv hlt);obtain⟨u,hu⟩:∃ u,l.getD y.pos default=u:=⟨_,rfl⟩;have hyl:=hym.2.1;have hsn:plV l (ys.take (j+1))=plV l (ys.take j)++[(u.pos:Int)]:=by
     unfold plV;rw[List.take_succ_eq_append_getElem hlt,List.map_append,<- hu,<- hy,List.getD_eq_getElem?_getD (l:=ys),List.getElem?_eq_getElem hlt];rfl
    obtain⟨X,hX⟩:∃ X,plV l (ys.take j)=X:=⟨_,rfl⟩;have hXl:X.length=j:=by rw[<- hX];unfold plV;simp;omega
    rw[hX] at hsn ⊢;have hf0:JbS 1 8=True:=eq_true (J2 (by decide) (by decide));have hf1:JbS (X.length+1) 8=True:=eq_true (J2 (by omega) (by omega));have one1:∀ v:AV,(∀ q,q∈[[v]]->q.length=1)=True:=fun v=>by simp
    have nil1:(∀ q:List AV,q∈[]->q.length=1)=True:=by simp
    simp -implicitDefEqProofs (disch:=omega) only[Wz,seval,Ly,Lx,hy,JaQ];refine JdK (n:=74) 11 (.alt 11 (.alt 12 .leaf .nil) .nil) rfl (by decide) (by decide) mixed (by kernel_rfl) (by decide) ?_;cases q with
    | none =>
     have hj0:=hq0 rfl;have:X=[]:=List.length_eq_zero_iff.1 (by omega);subst this;simp -implicitDefEqProofs (disch:=omega) only[Wz,seval,Ly,Lx,Jaq,Jh,hu,JeI,plQ,plT,one1,nil1,hf0,true_and,if_true];refine⟨(j+1,some (m+1),m+2),⟨by show j+1<=_;omega,by show 4<=m+2;omega,fun q=>(by cases q),fun q h=>(by cases h;show m+1<m+2;omega)⟩,by show ys.length - (j+1)<_;omega,?_⟩;simp only[hsn];exact Jn (by simp[lk]) (fun _ _ e=>JbD e) (fun _ _ e=>e) rfl rfl
    | some q =>
     simp -implicitDefEqProofs (disch:=omega) only[Wz,seval,Ly,Lx,Jaq,Jh,hu,JeI,plQ,plT,one1,hf1,true_and,if_true];refine⟨(j+1,some q,m+1),⟨by show j+1<=_;omega,by show 4<=m+1;omega,fun q=>(by cases q),fun q' h=>(by cases h;have:=hq q rfl;show q<m+1;omega)⟩,by show ys.length - (j+1)<_;omega,?_⟩;simp only[hsn];exact Jn (by simp[lk]) (fun _ _ e=>JbD e) (fun _ _ e=>by rw[List.map_append] at e;exact e) rfl rfl
   ·have hje:j=ys.length:=by omega
    subst hje;rw[List.take_length];simp -implicitDefEqProofs (disch:=omega) only[Wz,seval,Ly,Lx];refine Jl ?_;cases q with
    | none =>
     have h0:ys=[]:=List.length_eq_zero_iff.1 (hq0 rfl);subst h0;simp -implicitDefEqProofs (disch:=omega) only[Wz,seval,Ly,Lx,plQ];exact JH (Jj (JaH (by simp)) (Jj (Jb (.lit _)) JA))
    | some q =>
     simp -implicitDefEqProofs (disch:=omega) only[Wz,seval,Ly,Lx,plQ,plT];exact JH (Jj (Jch (k:=⟨(plV l ys).map Jkk,0,1⟩) (by simp[lk]) (by simp) (Jk Jge _)) (Jj (Jb (.lit _)) JA))
 ·rw[if_neg (by
   intro q;simp only[Bool.and_eq_true,decide_eq_true_eq,List.any_eq_true] at q;exact hno q.1 ⟨q.2.1,q.2.2.1⟩)]
  cases hok:okV n with
  | true =>
   simp -implicitDefEqProofs (disch:=omega) only[Wz,seval,Ly,Lx,if_true];refine Jq ?_;refine Jl ?_;simp -implicitDefEqProofs (disch:=omega) only[Wz,seval,Ly,Lx];exact JH (Jj (JaH (by simp)) (Jj (Jb (.lit _)) JA))
  | false =>
   simp -implicitDefEqProofs (disch:=omega) only[Wz,seval,Ly,Lx,Bool.false_eq_true,if_false];refine Jq ?_;refine Jl ?_;simp -implicitDefEqProofs (disch:=omega) only[Wz,seval,Ly,Lx];exact JH (Jj (JaH (by simp)) (Jj (Jb (.lit _)) JA))
end Go.Proofs.Y
end
section
namespace Go.Proofs.Y
open Go Go.Ab
def JkN:List Sta->Nat->Nat
 | [],k=>k
 | s :: l,k=>if k<=6000 then JkN l (k+s.edges.length) else k
def Jtg (n:Nt):Bool:=decide (6000<JkN n.states (n.rules.length+n.states.length+n.types.length+n.channels.length+n.modes.length))
theorem JoX(n:Nt)(ok:JbU n):JaY Tryz.prog 19 [.agg (Jh n)] (.lit (.bool (Jtg n))):=by
 obtain⟨v,hv⟩:∃ v,Jtg n=v:=⟨_,rfl⟩;rw[hv];obtain⟨k0,hk0⟩:∃ k0,n.rules.length+n.states.length+n.types.length+n.channels.length+n.modes.length=k0:=⟨_,rfl⟩;unfold Jtg at hv;rw[hk0] at hv;refine J5 (Ju Tryz.func19 rfl Tryz.ntmps19 (rs:=[.tmp 2]) rfl (by simp) ?_);refine Jl ?_;have b1:=ok.types;have b2:=ok.channels;have b3:=ok.modes;have b4:=ok.rules;have b5:=ok.states;have hc1:(n.rules.length:Int)+n.states.length+n.types.length+n.channels.length+n.modes.length=(k0:Int):=by omega
 simp -implicitDefEqProofs (disch:=omega) only[Wz,seval,Jh,hc1];refine Js (fun x:Nat × Nat=>⟨[(4,.lit (.int .i64 (x.1:Int))),(3,.lit (.int .i64 (x.2:Int))),(1,.ptr 0 0)],⟨[(0,Jh n)],[],1⟩,46⟩) (fun x=>x.1<=n.states.length/\decide (6000<JkN (n.states.drop x.1) x.2)=v/\x.2<=6000000000) (fun x=>n.states.length - x.1) (0,k0) (Jn (by simp[lk]) (fun _ _ q=>q) (fun _ _ q=>q) rfl rfl) ⟨Nat.zero_le _,by rw[List.drop_zero];exact hv,by show k0<=_;omega⟩ ?_;rintro⟨i,k⟩ ⟨hi,hkv,hkb⟩;simp only at hi hkv hkb ⊢;refine Jl ?_;rcases Nat.lt_or_ge i n.states.length with hl | hg
 ·obtain⟨s,hs⟩:∃ s,n.states.getD i default=s:=⟨_,rfl⟩;have he:=(ok.edges _ (Jv hl)).1;rw[hs] at he;rw[JbE hl,hs] at hkv;unfold JkN at hkv;by_cases h6:k<=6000
  ·rw[if_pos h6] at hkv;simp -implicitDefEqProofs (disch:=omega) only[Wz,seval,Jh,Je,hs];refine⟨(i+1,k+s.edges.length),⟨hl,hkv,by show k+_<=_;omega⟩,by show n.states.length - (i+1)<_;omega,Jn (by simp[lk]) (fun _ _ q=>q) (fun _ _ q=>q) rfl rfl⟩
  ·rw[if_neg h6,decide_eq_true (by omega)] at hkv;subst hkv;simp -implicitDefEqProofs (disch:=omega) only[Wz,seval,Jh];exact Jar (.lit _)
 ·have hi2:i=n.states.length:=by omega
  subst hi2;rw[List.drop_length] at hkv;have hkv:decide (6000<k)=v:=hkv;simp -implicitDefEqProofs (disch:=omega) only[Wz,seval,Jh];have e1:(decide ((k:Int) > 6000))=v:=by rw[<- hkv];rw[Bool.eq_iff_iff];simp only[decide_eq_true_eq];omega
  rw[e1];exact Jar (.lit _)
def Jth (n:Nt)(xl:Nat)(o:List Orc):Bool:=Jtg n || (decide (1500<n.states.length) || (decide (300<xl) || decide (100<o.length)))
theorem JjA(L:List (Nat × List Value))(n:Nt)(x:List UInt8)(f g:Bool)(o:List Orc)(ok:JbU n)(hx:x.length<=1000000000)(ho:o.length<=1000000000):JaY Tryz.prog 6 [.agg (Jh n),inV L x f,.vec (o.map Jfy) g] (.lit (.bool (Jth n x.length o))):=by
 obtain⟨v,hv⟩:∃ v,Jth n x.length o=v:=⟨_,rfl⟩;rw[hv];have h14:=JoX n ok;refine J5 (Ju Tryz.func6 rfl Tryz.ntmps6 (rs:=[.tmp 6]) rfl (by simp) ?_);unfold inV;have hs:=ok.states;refine Jl ?_;simp -implicitDefEqProofs (disch:=omega) only[Wz,seval,J6,Jay];refine JR Jw3 h14 (Jc (.of_pure (.agg (J8 n))) Jm) (.lit _) ?_;unfold Jth at hv;cases hg:Jtg n with
 | true =>
  rw[hg] at hv;subst hv;simp -implicitDefEqProofs (disch:=omega) only[Wz,seval];exact Jar (.lit _)
 | false =>
  rw[hg] at hv;by_cases h1:1500<n.states.length
  ·rw[decide_eq_true h1] at hv;subst hv;simp -implicitDefEqProofs (disch:=omega) only[Wz,seval,Jh];exact Jar (.lit _)
  ·rw[decide_eq_false h1] at hv;by_cases h2:300<x.length
   ·rw[decide_eq_true h2] at hv;subst hv;simp -implicitDefEqProofs (disch:=omega) only[Wz,seval,Jh];exact Jar (.lit _)
   ·rw[decide_eq_false h2] at hv;by_cases h3:100<o.length
    ·rw[decide_eq_true h3] at hv;subst hv;simp -implicitDefEqProofs (disch:=omega) only[Wz,seval,Jh];exact Jar (.lit _)
    ·rw[decide_eq_false h3] at hv;subst hv;simp -implicitDefEqProofs (disch:=omega) only[Wz,seval,Jh];exact Jar (.lit _)
theorem JjB:∀ (l:List Sta) (k:Nat),JkN l k<=6000->k+(l.map fun s=>s.edges.length).sum<=6000
 | [],k,h=>by simpa [JkN] using h
 | s :: l,k,h=>by
  unfold JkN at h;split at h
  ·have:=JjB l _ h;simp only[List.map_cons,List.sum_cons];omega
  ·omega
theorem JoY(l:List Sta):((List.range l.length).map fun s=>(l.getD s default).edges.length).sum=(l.map fun s=>s.edges.length).sum:=by
 congr 1
 apply List.ext_getElem
 ·simp
 ·intro i h1 h2;have hi:i<l.length:=by simpa using h1
  simp[List.getD_eq_getElem?_getD,List.getElem?_eq_getElem hi]
theorem Jzg{n:Nt}{xl:Nat}{o:List Orc}(h:Jth n xl o=false)(ha:∀ s,∀ e∈(n.states.getD s default).edges,e.acts.length<=JiE):JoR n/\xl<=300/\o.length<=100:=by
 unfold Jth at h;simp only[Bool.or_eq_false_iff,decide_eq_false_iff_not,Nat.not_lt] at h;obtain⟨h1,h2,h3,h4⟩:=h;refine⟨⟨h2,?_,ha⟩,h3,h4⟩;unfold Jtg at h1;simp only[decide_eq_false_iff_not,Nat.not_lt] at h1;have:=JjB _ _ h1;have e:Jpn n=(n.states.map fun s=>s.edges.length).sum:=JoY n.states;rw[e];omega
end Go.Proofs.Y
end
section
namespace Go.Proofs.Y
open Go Go.Ab
end Go.Proofs.Y
end
section
namespace Go.Proofs.Y
open Go Go.Ab
def Jym (S:List Nat)(js:List Nat):List Nat:=js.foldl (fun S j=>if S.contains j then S else S++[j]) S
def stepG(G:List (List Nat))(S T:List Nat):List Nat:=S.foldl (fun T i=>Jym T (G.getD i [])) T
def Jzh (G:List (List Nat)):Nat->List Nat->List Nat
 | 0,S=>S
 | k+1,S=>Jzh G k (stepG G S S)
def JjC(G:List (List Nat))(i:Nat):List Nat:=Jzh G G.length (Jym [] (G.getD i []))
theorem Jil{x:Nat}:∀ {js S:List Nat},x∈Jym S js->x∈S\/x∈js
 | [],S,h=>.inl h
 | j :: js,S,h=>by
  have h:x∈Jym (if S.contains j then S else S++[j]) js:=h;rcases Jil h with h | h
  ·split at h
   ·exact .inl h
   ·rcases List.mem_append.1 h with h | h
    ·exact .inl h
    ·rw[List.mem_singleton] at h;subst h;exact .inr (by simp)
  ·exact .inr (by simp[h])
theorem JjD{G:List (List Nat)}{x:Nat}:∀ {S T:List Nat},x∈stepG G S T->x∈T\/∃ i∈S,x∈G.getD i []
 | [],T,h=>.inl h
 | i :: S,T,h=>by
  have h:x∈stepG G S (Jym T (G.getD i [])):=h;rcases JjD h with h | ⟨k,h1,h2⟩
  ·rcases Jil h with h | h
   ·exact .inl h
   ·exact .inr ⟨i,by simp,h⟩
  ·exact .inr ⟨k,by simp[h1],h2⟩
theorem Jho{G:List (List Nat)}{i:Nat}:∀ {k:Nat} {S:List Nat},(∀ x∈S,Rch G i x)->∀ x∈Jzh G k S,Rch G i x
 | 0,S,h,x,hx=>h x hx
 | k+1,S,h,x,hx=>Jho (k:=k) (fun y hy=>by
   rcases JjD hy with hy | ⟨z,h1,h2⟩
   ·exact h y hy
   ·exact .step (h z h1) h2) x hx
theorem JgB{G:List (List Nat)}{i j:Nat}(h:(JjC G i).contains j=true):Rch G i j:=by
 rw[List.contains_iff_mem] at h;refine Jho (fun x hx=>?_) j h;rcases Jil hx with hx | hx
 ·cases hx
 ·exact .one hx
def JsQ(G:List (List Nat))(i:Nat):Bool:=(G.getD i []).all (fun j=>(JjC G i).contains j) && (JjC G i).all fun k=>(G.getD k []).all fun j=>(JjC G i).contains j
theorem JmP{G:List (List Nat)}{i j:Nat}(h:JsQ G i=true)(r:Rch G i j):(JjC G i).contains j=true:=by
 unfold JsQ at h;rw[Bool.and_eq_true] at h;induction r with
 | one e=>exact List.all_eq_true.1 h.1 _ e
 | step _ e ih =>
  rw[List.contains_iff_mem] at ih;exact List.all_eq_true.1 (List.all_eq_true.1 h.2 _ ih) _ e
theorem JoZ{G:List (List Nat)}(rk:List Nat)(h:((List.range G.length).all fun i=>(G.getD i []).all fun j=>decide (rk.getD j 0<rk.getD i 0))=true):Jm5 G:=by
 refine⟨fun i=>rk.getD i 0,fun i j hj=>?_⟩;rcases Nat.lt_or_ge i G.length with hi | hi
 ·exact of_decide_eq_true (List.all_eq_true.1 (List.all_eq_true.1 h i (List.mem_range.2 hi)) j hj)
 ·rw[List.getD_eq_getElem?_getD,List.getElem?_eq_none hi] at hj;cases hj
def JgC (n:Nt):Nat->List Bool
 | 0=>n.rules.map fun _=>false
 | k+1=>(List.range n.rules.length).map fun i=>(JjC (gE n (JgC n k)) (stN n i)).contains (spN n i)
def JsR(n:Nt)(em:List Bool):Bool:=(List.range n.rules.length).all fun i=>JsQ (gE n em) (stN n i) && (!(JjC (gE n em) (stN n i)).contains (spN n i) || em.getD i false)
theorem Jhp{l:List Bool}{i:Nat}(h:l.getD i false=true):i<l.length:=by
 rcases Nat.lt_or_ge i l.length with q | q
 ·exact q
 ·rw[List.getD_eq_getElem?_getD,List.getElem?_eq_none q] at h;cases h
theorem Jhq{n:Nt}(w:Wf n)(ok:JbU n):∀ {k i:Nat},(JgC n k).getD i false=true->Emp n i
 | 0,i,h=>by
  have hi:=Jhp h;simp only[JgC,List.length_map] at hi;rw[JgC,List.getD_eq_getElem?_getD,List.getElem?_map,List.getElem?_eq_getElem hi] at h;cases h
 | k+1,i,h=>by
  have hi:=Jhp h;simp only[JgC,List.length_map,List.length_range] at hi;rw[JgC,List.getD_eq_getElem?_getD,List.getElem?_map,List.getElem?_range hi] at h;exact Jh7 w ok (fun j hj=>Jhq w ok hj) (JgB h)
theorem JlH{n:Nt}(w:Wf n)(ok:JbU n){k:Nat}(h:JsR n (JgC n k)=true)(hl:(JgC n k).length=n.rules.length):J0 n=JgC n k:=by
 have full:∀ i,i<n.rules.length->Rch (gE n (JgC n k)) (stN n i) (spN n i)->(JgC n k).getD i false=true:=fun i hi r=>by
  have h1:=List.all_eq_true.1 h i (List.mem_range.2 hi);rw[Bool.and_eq_true,Bool.or_eq_true] at h1;rcases h1.2 with h2 | h2
  ·rw[JmP h1.1 r] at h2;cases h2
  ·exact h2
 apply List.ext_getElem
 ·rw[hl];simp[J0]
 ·intro i h1 h2;have hi:i<n.rules.length:=by omega
  have e1:(J0 n)[i]=Jm6 n i:=by
   have:=JbC hi;rw[List.getD_eq_getElem?_getD,List.getElem?_eq_getElem h1] at this;exact this
  have e2:(JgC n k).getD i false=(JgC n k)[i]:=by rw[List.getD_eq_getElem?_getD,List.getElem?_eq_getElem h2];rfl
  rw[e1,<- e2,Bool.eq_iff_iff,JeD];exact⟨fun q=>full i hi (Jor w ok full q),fun q=>Jhq w ok q⟩
def Jyn(n:Nt):Bool:=(List.range n.states.length).all fun s=>(List.range n.rules.length).any fun i=>decide (s=spN n i) || (JjC (gB n) (spN n i)).contains s
def gFc (n:Nt)(em:List Bool):List (List Nat):=gOf n.states.length (Jbm (prF n em) n n.states.length 0)
def JBg (n:Nt)(em:List Bool):Bool:=(List.range n.rules.length).all fun i => !((n.rules.getD i default).lexer && (!(n.rules.getD i default).frag && em.getD i false))
def Jqr(G:List (List Nat))(rk:List Nat):Bool:=(List.range G.length).all fun i=>(G.getD i []).all fun j=>decide (rk.getD j 0<rk.getD i 0)
theorem Jyo{n:Nt}(h:Jyn n=true):Jfv n=true:=by
 unfold Jfv;refine @decide_eq_true _ (Classical.propDecidable _) fun s hs=>?_
 have h1:=List.all_eq_true.1 h s (List.mem_range.2 hs);obtain⟨i,hi,h2⟩:=List.any_eq_true.1 h1;rw[Bool.or_eq_true,decide_eq_true_eq] at h2;refine⟨i,List.mem_range.1 hi,?_⟩;rcases h2 with h2 | h2
 ·exact .inl h2
 ·exact .inr (JgB h2)
theorem JBp{n:Nt}(ok:JbU n)(k:Nat)(rF rC:List Nat)(h1:JcL n=true)(h2:Jdf n=true)(h3:Jbr n=true)(h4:Jyn n=true)(h5:JsR n (JgC n k)=true)(hl:(JgC n k).length=n.rules.length)
  (h6:JBg n (JgC n k)=true) (h7:Jqr (gFc n (JgC n k)) rF=true) (h8:Jqr (gC n) rC=true):okV n=true:=by
 have w:=Wf.of h1 h2 h3;have he:=JlH w ok h5 hl;unfold okV;have hF:gF n=gFc n (JgC n k):=by unfold gF gFc;rw[he]
 rw[h1,h2,h3,Jyo h4,hF,Jb6 (JoZ rF h7),Jb6 (JoZ rC h8)];have hL:(List.range n.rules.length).all (JjS n)=true:=by
  rw[<- h6];unfold JBg;rw[Bool.eq_iff_iff,List.all_eq_true,List.all_eq_true];have e:∀ i,i∈List.range n.rules.length->JjS n i = !((n.rules.getD i default).lexer && (!(n.rules.getD i default).frag && (JgC n k).getD i false)):=fun i hi=>by
   unfold JjS;rw[<- JbC (List.mem_range.1 hi),he]
  exact⟨fun q i hi=>by rw[<- e i hi];exact q i hi,fun q i hi=>by rw[e i hi];exact q i hi⟩
 rw[hL];rfl
def edC (e:Ed):Bool:=decide (e.set.length<=1000) && decide (e.acts.length<=1000) && decide (gsz e.g<=1000) && decide (e.g.name.size<=1000) && e.g.kids.isEmpty && e.set.all fun r=>decide (-2147483648<=r.1/\r.1<=2147483647) && decide (-2147483648<=r.2/\r.2<=2147483647)
def ntC (n:Nt):Bool:=decide (n.types.length<=1000) && decide (n.channels.length<=1000) && decide (n.modes.length<=1000) && decide (n.rules.length<=1000) && decide (n.states.length<=1000) && n.types.all (fun s=>decide (s.size<=1000)) && n.channels.all (fun s=>decide (s.size<=1000)) && n.modes.all (fun s=>decide (s.size<=1000)) && n.rules.all (fun r=>decide (r.name.size<=1000)) && n.states.all fun s=>decide (s.edges.length<=1000) && s.edges.all edC
theorem JBq{n:Nt}(h:ntC n=true):JbU n:=by
 unfold ntC at h;simp only[Bool.and_eq_true,decide_eq_true_eq,List.all_eq_true] at h;obtain⟨⟨⟨⟨⟨⟨⟨⟨⟨a1,a2⟩,a3⟩,a4⟩,a5⟩,a6⟩,a7⟩,a8⟩,a9⟩,a10⟩:=h;refine⟨by omega,by omega,by omega,by omega,by omega,fun s hs=>?_,fun s hs=>?_,fun s hs=>?_,fun r hr=>?_,fun s hs=>?_⟩
 ·have:=a6 s hs;omega
 ·have:=a7 s hs;omega
 ·have:=a8 s hs;omega
 ·have:=a9 r hr;omega
 ·obtain⟨b1,b2⟩:=a10 s hs;refine⟨by omega,fun e he=>?_⟩;have c:=b2 e he;unfold edC at c;simp only[Bool.and_eq_true,decide_eq_true_eq,List.all_eq_true,List.isEmpty_iff] at c;obtain⟨⟨⟨⟨⟨c1,c2⟩,c3⟩,c4⟩,c5⟩,c6⟩:=c;exact⟨by omega,by omega,by omega,.mk (by omega) (fun k hk=>by rw[c5] at hk;cases hk),fun r hr=>c6 r hr⟩
end Go.Proofs.Y
end
section
namespace Go.Proofs.Y
open Go Go.Ab
def i8w (z:Int)(h : -128<=z/\z<=127:=by decide):I8:=⟨z,h⟩
def eW (op:I8)(set:List (Int × Int))(n to:Int):Ed:=⟨op,set,n,0,default,[],to⟩
def JbG:Nt:=⟨[⟨#[88]⟩,⟨#[89]⟩],[⟨#[]⟩],[⟨#[]⟩],[⟨⟨#[88]⟩,true,false,false,false,0,1,0,1⟩,⟨⟨#[89]⟩,true,false,false,false,0,2,5,6⟩],
 [⟨0,[eW (i8w 4) [] 1 2]⟩,⟨0,[]⟩,⟨0,[eW (i8w 1) [(97,97)] 0 3]⟩,⟨0,[eW (i8w 0) [] 0 2,eW (i8w 0) [] 0 4]⟩,⟨0,[eW (i8w 0) [] 0 1]⟩,
  ⟨1,[eW (i8w 4) [] 1 7]⟩,⟨1,[]⟩,⟨1,[eW (i8w 1) [(97,97)] 0 8]⟩,⟨1,[eW (i8w 1) [(98,98)] 0 9]⟩,⟨1,[eW (i8w 0) [] 0 6]⟩]⟩
theorem Jzi{n:Nt}(w:Wf n)(ok:JbU n){rk:Nat->Nat}(hrk:JxU (gF n) rk):Rk n rk:=by
 have hb:=Je0 w ok (em:=J0 n) (i:=n.states.length) (k:=0) (.inr ⟨rfl,rfl⟩);have mem:∀ {s t e},s<n.states.length->e∈(n.states.getD s default).edges->(s,t)∈prF n (J0 n) s e->rk t<rk s:=fun {s t e} hs he hp=>by
  refine hrk s t ?_;unfold gF;rw[Jeg fun p hp=>(hb.1 p hp).1];exact JdQ _ n hs he hp
 have hcall:∀ s e,s<n.states.length->e∈(n.states.getD s default).edges->e.op.1=2->rk (stN n e.n.toNat)<rk s:=fun s e hs he h2=>by
  refine mem hs he ?_;unfold prF;rw[if_neg (by omega),if_pos h2];simp
 refine⟨fun s t hn=>?_,hcall⟩;induction hn with
 | @edge s e hs he h1 h2 =>
  refine mem hs he ?_;unfold prF;rw[if_neg h1,if_neg h2];simp
 | @call s e hs he h2 hN ih =>
  have hc:=w.call hs he h2;refine mem hs he ?_;unfold prF;rw[if_neg (by omega),if_pos h2,JbC (by omega),JeD.2 hN];simp
 | step _ _ ih1 ih2=>exact Nat.lt_trans ih2 ih1
theorem Jqs{G:List (List Nat)}{rk:List Nat}(h:Jqr G rk=true):JxU G fun i=>rk.getD i 0:=fun i j hj=>by
 rcases Nat.lt_or_ge i G.length with hi | hi
 ·exact of_decide_eq_true (List.all_eq_true.1 (List.all_eq_true.1 h i (List.mem_range.2 hi)) j hj)
 ·rw[List.getD_eq_getElem?_getD,List.getElem?_eq_none hi] at hj;cases hj
theorem JBr{n:Nt}(ok:JbU n)(w:Wf n)(k:Nat)(rF:List Nat)(h5:JsR n (JgC n k)=true)(hl:(JgC n k).length=n.rules.length)(h7:Jqr (gFc n (JgC n k)) rF=true):Rk n fun i=>rF.getD i 0:=by
 refine Jzi w ok ?_;have hF:gF n=gFc n (JgC n k):=by unfold gF gFc;rw[JlH w ok h5 hl]
 rw[hF];exact Jqs h7
def Jzj(n:Nt):Bool:=n.states.all fun s=>s.edges.all fun e=>decide (e.acts.length<=JiE)
theorem JBs{n:Nt}(h1:n.states.length<=1500)(h2:Jpn n<=1048576)(h3:Jzj n=true):JoR n:=by
 refine⟨h1,h2,fun s e he=>?_⟩;rcases Nat.lt_or_ge s n.states.length with hs | hs
 ·exact of_decide_eq_true (List.all_eq_true.1 (List.all_eq_true.1 h3 _ (Jv hs)) e he)
 ·have:n.states.getD s default=default:=by rw[List.getD_eq_getElem?_getD,List.getElem?_eq_none hs];rfl
  rw[this] at he;cases he
theorem Jim:JbU JbG:=JBq (by kernel_rfl)
theorem JfE:okV JbG=true:=JBp Jim 0 [1,0,0,2,1,1,0,0,0,1] [0,0] (by kernel_rfl) (by kernel_rfl) (by kernel_rfl) (by kernel_rfl) (by kernel_rfl) (by kernel_rfl) (by kernel_rfl) (by kernel_rfl) (by kernel_rfl)
theorem JlI:JoR JbG:=JBs (by decide) (by decide +kernel) (by kernel_rfl)
theorem Jqt:Rk JbG fun i=>[1,0,0,2,1,1,0,0,0,1].getD i 0:=JBr Jim (Jgv JfE).1 0 [1,0,0,2,1,1,0,0,0,1] (by kernel_rfl) (by kernel_rfl) (by kernel_rfl)
theorem JjE(x:List UInt8)(hx:(Jcl (ofB x)).length<=20):JmB JbG [] (Jcl (ofB x)) 0 100:=by
 refine Jrt (Jgv JfE).1 (Jif _) Jqt (R:=3) (fun s hs=>?_) (by omega);have key:∀ s:Fin 10,[1,0,0,2,1,1,0,0,0,1].getD s.1 0<=3:=by decide
 exact key ⟨s,hs⟩
def Jqu:Nat->AV->AV
 | 0,a=>a
 | k+1,.agg cs=>.agg (cs.map (Jqu k))
 | k+1,.vec xs _=>.vec (xs.map fun x=>x.map (Jqu k)) false
 | _+1,a=>a
theorem Jin{g:Gh}{f:AV->AV}(h:∀ a,Cv g g a (f a)):∀ cs:List AV,CvL g g cs (cs.map f)
 | []=>JaW
 | a :: cs=>JB (h a) (Jin h cs)
theorem JlK{g:Gh}{f:AV->AV}(h:∀ a,Cv g g a (f a)):∀ xs:List (List AV),CvR g g xs (xs.map fun x=>x.map f)
 | []=>.nil
 | x :: xs=>.cons (Jin h x) (by simp) (JlK h xs)
theorem Jio(g:Gh):∀ (k:Nat) (a:AV),Cv g g a (Jqu k a)
 | 0,a=>JK (.refl g) a
 | k+1,a=>by
  cases a with
  | agg cs=>exact Jtk (Jin (Jio g k) cs)
  | vec xs f=>exact fun v hv=>Jb0 (.refl g) _ f v (JqX (.refl g) (JlK (Jio g k) xs) v hv)
  | _=>exact JK (.refl g) _
theorem JgD(k:Nat){h:Hp}{r r':AV}(e:Jqu k r=r')(hr:GP r'):JdV h r r':=by
 refine JdV.wk (h':=⟨[],[],h.nx⟩) (r':=r') (St.wk_conv rfl rfl (fun g g' x=>Jc ⟨r,rfl,?_⟩ Jm) (fun g g' x=>Jm) (fun g=>Jm)) (Jar hr);subst e;exact fun v hv=>JK x _ v (Jio g k r v hv)
theorem JgE(c to:Int):JaY Tryz.prog 39 [.lit (.int .i32 c),.lit (.int .i64 to)] (.agg (Jr (eW (i8w 1) [(c,c)] 0 to))):=by
 refine J5 (Ju Tryz.func39 rfl Tryz.ntmps39 (rs:=[.cell 4 96]) rfl (by simp) ?_);refine Jl ?_;simp -implicitDefEqProofs (disch:=omega) only[Wz,seval];exact JgD 8 rfl (.of_pure (.agg (Jbi _)))
theorem JdU:JaY Tryz.prog 20 [] (.agg (Jh JbG)):=by
 refine J5 (Ju Tryz.func20 rfl Tryz.ntmps20 (rs:=[.cell 0 26]) rfl (by simp) ?_);refine Jl ?_;have gs:∀ s:Ed,GP (.agg (Jr s)):=fun s=>.of_pure (.agg (Jbi s));simp -implicitDefEqProofs (disch:=omega) only[Wz,seval];refine JR JnS (JgE 97 3) (Jc (.lit _) (Jc (.lit _) Jm)) (gs _) ?_;simp -implicitDefEqProofs (disch:=omega) only[Wz,seval];refine JR JnS (JgE 97 8) (Jc (.lit _) (Jc (.lit _) Jm)) (gs _) ?_;simp -implicitDefEqProofs (disch:=omega) only[Wz,seval];refine JR JnS (JgE 98 9) (Jc (.lit _) (Jc (.lit _) Jm)) (gs _) ?_;simp -implicitDefEqProofs (disch:=omega) only[Wz,seval];exact JgD 8 rfl (.of_pure (.agg (J8 _)))
end Go.Proofs.Y
end
section
namespace Go.Proofs.Y
open Go Go.Ab
theorem JlL{g:Gh}{xs:List (List AV)}{f:Bool}:Cv g g (.vec xs f) (.wit [] (.vec xs f)):=fun v hv=>by
 cases hv with
 | vecN=>exact .wit (fun _ h=>by cases h) .vecN
 | vecE q=>exact .wit (fun _ h=>by cases h) (.vecE q)
 | vec F q1 q2 q3 q4 q5=>exact .wit (fun _ h=>by cases h) (.vec F q1 q2 q3 q4 q5)
def JyT (x:List UInt8):Int × Int × List (Int × Int) × Int:=JsP JbG [] (Jcl (ofB x)) 0 100 (ixV (Jcl (ofB x)) 0) 0
theorem Jqv:JyT [97,97,97,98]=(0,3,[],0):=by kernel_rfl
theorem Jqw:JyT [97,98,99]=(1,2,[],0):=by kernel_rfl
theorem Jqx:JyT [98]=(0,0,[],4):=by kernel_rfl
theorem Jqy:plV (Jcl (ofB [97,97,97,98])) (eF JbG [] (Jcl (ofB [97,97,97,98])) 0 100 (Int.toNat 0) (ixV (Jcl (ofB [97,97,97,98])) 0))=[3,2,1]:=by kernel_rfl
theorem JlM(x:List UInt8)(h:x.length<=10):JsO JbG [] x 0 0:=⟨Jim,by omega,by decide,by decide,by decide⟩
theorem JjF(x:List UInt8):∃ u∈Jcl (ofB x),(u.pos:Int)=0:=by
 have h0:=Jie (ofB x).size (ofB x) 0 0;refine⟨(Jcl (ofB x)).getD 0 default,Jv h0,?_⟩;have e:(ofB x).size=x.length:=JaR x;unfold Jcl;cases hx:(ofB x).size with
 | zero=>simp[Jc7,hx]
 | succ k=>unfold Jc7;rw[if_pos (by omega)];rfl
theorem Je1(x:List UInt8)(f:Bool)(h:x.length<=10)(ha:∀ b∈x,b.toNat<128):JN Tryz.prog 8 [.agg (Jh JbG),inV [] x f,.vec [] false,.lit (.int .i64 0),.lit (.int .i64 0)] (Jjx (JyT x)):=by
 have h1:=Jjy [] JbG [] x f (.inr ha) 0 0 (JlM x h) JlI 100 (fun _=>JjE x (by have:=JfD (ofB x);rw[JaR] at this;omega));rw[if_pos ⟨JfE,⟨by decide,by decide⟩,JjF x⟩] at h1;exact h1
theorem JmQ(x:List UInt8)(f:Bool)(h:x.length<=10)(ha:∀ b∈x,b.toNat<128):JN Tryz.prog 13 [.agg (Jh JbG),inV [] x f,.vec [] false,.lit (.int .i64 0),.lit (.int .i64 0),.lit (.int .i64 0)] (.tup [.vec ((plV (Jcl (ofB x)) (eF JbG [] (Jcl (ofB x)) 0 100 (Int.toNat 0) (ixV (Jcl (ofB x)) 0))).map Jkk) false,.lit (.int .i64 0)]):=by
 have h1:=Jhn [] JbG [] x f (.inr ha) 0 0 0 (JlM x h) JlI 100 (fun _=>JjE x (by have:=JfD (ofB x);rw[JaR] at this;omega));have hok:Jjz JbG x 0 0 0=true:=by
  unfold Jjz;obtain⟨u,hu,e⟩:=JjF x;have:((Jcl (ofB x)).any fun u=>decide ((u.pos:Int)=0))=true:=List.any_eq_true.2 ⟨u,hu,by simpa using e⟩;rw[JfE,this];rfl
 rw[if_pos hok] at h1;exact h1
theorem JaD:JN Tryz.prog 7 [] (.lit (.bool true)):=by
 have gN:GP (.agg (Jh JbG)):=.of_pure (.agg (J8 _));have pN:Ab.Pure (.agg (Jh JbG)):=.agg (J8 _);have n1:=Je1 [97,97,97,98] true (by decide) (by decide);have n2:=Je1 [97,98,99] true (by decide) (by decide);have n3:=Je1 [98] true (by decide) (by decide);have n4:=JmQ [97,97,97,98] true (by decide) (by decide);rw[Jqv] at n1;rw[Jqw] at n2;rw[Jqx] at n3;rw[Jqy] at n4;have pA:∀ t,Ab.Pure (Jjx t):=fun t=>.tup (Jc (.lit _) (Jc (.lit _) (Jc (.vec (Jk J7 _)) (Jc (.lit _) Jm))));have pE:∀ l:List Int,Ab.Pure (.tup [.vec (l.map Jkk) false,.lit (.int .i64 0)]):=fun l=>.tup (Jc (.vec (Jk Jge _)) (Jc (.lit _) Jm));refine JD (Ju Tryz.func7 rfl Tryz.ntmps7 (rs:=[.tmp 0]) rfl (by simp) ?_);refine Jq ?_;refine Jl ?_;simp -implicitDefEqProofs (disch:=omega) only[Wz,seval];refine Jq ?_;refine JdL 1 rfl rfl rfl rfl ?_;simp -implicitDefEqProofs (disch:=omega) only[Wz,seval];refine JR Jll JdU Jm gN ?_;simp -implicitDefEqProofs (disch:=omega) only[Wz,seval];refine Jc0 JrT rfl ty5 rfl rfl (by decide) (by decide) rfl rfl (by decide) ?_;simp -implicitDefEqProofs (disch:=omega) only[Wz,seval];refine Jcn.cv (fun g=>JB (JK (.refl g) _) (JB JlL (JB (Jb0 (.refl g) _ _) (JB (JK (.refl g) _) (JB (JK (.refl g) _) JaW))))) ?_;refine Jg JrV n1 (Jc pN (Jc (JaS [] [97,97,97,98] true) (Jc (.vec (by simp)) (Jc (.lit _) (Jc (.lit _) Jm))))) (pA _) ?_;simp -implicitDefEqProofs (disch:=omega) only[Wz,seval,Jjx];refine Jq ?_;refine JdL 1 rfl rfl rfl rfl ?_;simp -implicitDefEqProofs (disch:=omega) only[Wz,seval];refine JR Jll JdU Jm gN ?_;simp -implicitDefEqProofs (disch:=omega) only[Wz,seval];refine Jc0 JrT rfl ty5 rfl rfl (by decide) (by decide) rfl rfl (by decide) ?_;simp -implicitDefEqProofs (disch:=omega) only[Wz,seval];refine Jcn.cv (fun g=>JB (JK (.refl g) _) (JB JlL (JB (Jb0 (.refl g) _ _) (JB (JK (.refl g) _) (JB (JK (.refl g) _) JaW))))) ?_;refine Jg JrV n2 (Jc pN (Jc (JaS [] [97,98,99] true) (Jc (.vec (by simp)) (Jc (.lit _) (Jc (.lit _) Jm))))) (pA _) ?_;simp -implicitDefEqProofs (disch:=omega) only[Wz,seval,Jjx];refine Jq ?_;refine JdL 1 rfl rfl rfl rfl ?_;simp -implicitDefEqProofs (disch:=omega) only[Wz,seval];refine JR Jll JdU Jm gN ?_;simp -implicitDefEqProofs (disch:=omega) only[Wz,seval];refine Jc0 JrT rfl ty5 rfl rfl (by decide) (by decide) rfl rfl (by decide) ?_;simp -implicitDefEqProofs (disch:=omega) only[Wz,seval];refine Jcn.cv (fun g=>JB (JK (.refl g) _) (JB JlL (JB (Jb0 (.refl g) _ _) (JB (JK (.refl g) _) (JB (JK (.refl g) _) JaW))))) ?_;refine Jg JrV n3 (Jc pN (Jc (JaS [] [98] true) (Jc (.vec (by simp)) (Jc (.lit _) (Jc (.lit _) Jm))))) (pA _) ?_;simp -implicitDefEqProofs (disch:=omega) only[Wz,seval,Jjx];refine Jq ?_;refine JdL 1 rfl rfl rfl rfl ?_;simp -implicitDefEqProofs (disch:=omega) only[Wz,seval];refine JR Jll JdU Jm gN ?_;simp -implicitDefEqProofs (disch:=omega) only[Wz,seval];refine Jc0 JrT rfl ty5 rfl rfl (by decide) (by decide) rfl rfl (by decide) ?_;simp -implicitDefEqProofs (disch:=omega) only[Wz,seval];refine Jcn.cv (fun g=>JB (JK (.refl g) _) (JB JlL (JB (Jb0 (.refl g) _ _) (JB (JK (.refl g) _) (JB (JK (.refl g) _) (JB (JK (.refl g) _) JaW)))))) ?_;refine Jg Jrc n4 (Jc pN (Jc (JaS [] [97,97,97,98] true) (Jc (.vec (by simp)) (Jc (.lit _) (Jc (.lit _) (Jc (.lit _) Jm)))))) (pE _) ?_;simp -implicitDefEqProofs (disch:=omega) only[Wz,seval,Jjx];refine Jl ?_;have t2:Int.toNat 2=1+1:=rfl;have g2:∀ a b c:List AV,[a,b,c].getD (1+1) []=c:=fun _ _ _=>rfl
 simp -implicitDefEqProofs (disch:=omega) only[Wz,seval,Jkk,t2,g2,List.getD_cons_zero,List.getD_cons_succ,List.length_singleton];exact Jb (.lit _)
end Go.Proofs.Y
end
section
namespace Go.Proofs.Y
open Go Go.Ab
end Go.Proofs.Y
end
