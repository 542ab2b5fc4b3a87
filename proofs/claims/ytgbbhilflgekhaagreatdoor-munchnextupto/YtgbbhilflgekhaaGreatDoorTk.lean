/- Parts of the proof, laid together. -/
import Derived.Test.YtgbbhilflgekhaaGreatDoorTj
set_option linter.unusedVariables false
set_option linter.unusedSimpArgs false
set_option maxRecDepth 20000
set_option maxHeartbeats 16000000
section
namespace Go.Proofs.Y
open Go Go.Ab
def plV (l:List Un)(ys:List En):List Int:=ys.map fun y=>((l.getD y.pos default).pos:Int)
def plQ (q:Option Nat)(X:List Int):AV:=match q with | none=>.vec [] true | some q=>.own q X.length
def plT (q:Option Nat)(X:List Int):List (Nat × Tk):=match q with | none=>[] | some q=>[(q,⟨X.map Jqn,0,1⟩)]
noncomputable def JlY(n:Nt)(x:List UInt8)(at' md rule:Int):Bool:=okV n && (decide (0<=md/\md<(n.modes.length:Int)) && ((Jbf (ofB x)).any (fun u=>decide ((u.pos:Int)=at')) && (decide (0<=rule/\rule<(n.rules.length:Int)) && (n.rules.getD rule.toNat default).lexer)))
theorem Jm4(L:List (Nat × List Value))(n:Nt)(o:List Orc)(x:List UInt8)(f:Bool)(hL:Jef L x)(at' md rule:Int)(g:Jpk n o x at' md)(mu:JlS n)(k:Nat)(fk:okV n=true->JkW n o (Jbf (ofB x)) md k) :
  JO Tryz.prog 13 [.agg (Jh n),inV L x f,.vec (o.map Jct) false,.lit (.int .i64 at'),.lit (.int .i64 md),.lit (.int .i64 rule)]
   (if JlY n x at' md rule=true then .tup [.vec ((plV (Jbf (ofB x)) (eF n o (Jbf (ofB x)) md k rule.toNat (ixV (Jbf (ofB x)) at'))).map Jqn) false,.lit (.int .i64 0)] else .tup [.vec [] false,.lit (.int .i64 (if okV n then 2 else 110))]):=by
 refine JD (Jr Tryz.func13 rfl Tryz.ntmps13 (rs:=[.tmp 12,.tmp 13]) rfl (by simp) ?_);have hlook:=JjX L n o x f hL at' md g;have hpx:=JaC L x f;have hrise:=JdO (ofB x);have hlk:=JzT g;obtain⟨hlen,hpos⟩:=Jcr g.len;unfold JlY;obtain⟨l,hl⟩:∃ l,Jbf (ofB x)=l:=⟨_,rfl⟩;rw[hl] at hlook hrise hlk hlen hpos fk ⊢;unfold inV at hlook hpx ⊢;refine Jo ?_;refine Jk ?_;simp -implicitDefEqProofs (disch:=omega) only[Wz,seval,Ly,Lx];refine Jo ?_;refine Jk ?_;simp -implicitDefEqProofs (disch:=omega) only[Wz,seval,Ly,Lx,Jav,JaY];refine JF JrO (hlook _ ?_) ?_
 ·exact fun i hi=>JmR (N:=1) (by simp) hi
 rintro r0 h' (⟨hok,hmd,a,hal,hia,rfl,rfl⟩ | ⟨hno,rfl,rfl⟩)
 ·have hru:=(hlk hok).w.nru;by_cases hr0:rule<0
  ·rw[if_neg (by simp;intros;omega)];simp -implicitDefEqProofs (disch:=omega) only[Wz,seval,Ly,Lx,hok,if_true];refine Jo ?_;refine Jk ?_;simp -implicitDefEqProofs (disch:=omega) only[Wz,seval,Ly,Lx];exact JH (Jg (JaA (by simp)) (Jg (Ja (.lit _)) Jz))
  by_cases hr1:rule<(n.rules.length:Int);rotate_left
  ·rw[if_neg (by simp;intros;omega)];simp -implicitDefEqProofs (disch:=omega) only[Wz,seval,Ly,Lx,hok,if_true];refine Jo ?_;refine Jk ?_;simp -implicitDefEqProofs (disch:=omega) only[Wz,seval,Ly,Lx,Jh];exact JH (Jg (JaA (by simp)) (Jg (Ja (.lit _)) Jz))
  obtain⟨r,rfl⟩:∃ r:Nat,rule=(r:Int):=⟨rule.toNat,by omega⟩;have hrl:r<n.rules.length:=by omega
  obtain⟨rr,hrr⟩:∃ rr,n.rules.getD r default=rr:=⟨_,rfl⟩;rw[Int.toNat_natCast,hrr];cases hlx:rr.lexer with
  | false =>
   rw[if_neg (by simp)];simp -implicitDefEqProofs (disch:=omega) only[Wz,seval,Ly,Lx,hok,if_true];refine Jo ?_;refine Jk ?_;simp -implicitDefEqProofs (disch:=omega) only[Wz,seval,Ly,Lx,Jh,hrr,Jc,hlx];exact JH (Jg (JaA (by simp)) (Jg (Ja (.lit _)) Jz))
  | true =>
   have hany:(l.any fun u=>decide ((u.pos:Int)=at'))=true:=by
    rw[List.any_eq_true];exact⟨_,Jt hal,by simpa using hia⟩
   have hix:ixV l at'=a:=JlQ hrise hal hia;rw[if_pos (by rw[hok,hany];simp;omega),hix];have hlk:=hlk hok;have hends:=JlU hlk mu (fk hok) (Jio g.ok hok) r a hrl hal;have hel:=JkX hlk.w hlk.u (o:=o) (md:=md) (k:=k) hrl hal;have hout:=JkV hlk.w hlk.u (o:=o) (md:=md) (k:=k) hrl hal;simp -implicitDefEqProofs (disch:=omega) only[Wz,seval,Ly,Lx,hok,if_true];refine Jo ?_;refine Jk ?_;simp -implicitDefEqProofs (disch:=omega) only[Wz,seval,Ly,Lx,Jh,hrr,Jc,hlx];refine Jo ?_;refine Jk ?_;simp -implicitDefEqProofs (disch:=omega) only[Wz,seval,Ly,Lx];refine JF Joj (Jk3 hends _ 3 2 [] .nil rfl rfl (by decide) (by show 3<4;decide) (by show 2<4;decide) rfl) ?_;rintro r0 h' ⟨rfl,W,hW,rfl⟩;obtain⟨ys,hys⟩:∃ ys,eF n o l md k r a=ys:=⟨_,rfl⟩;rw[hys] at hel hout ⊢;simp -implicitDefEqProofs (disch:=omega) only[Wz,seval,Ly,Lx,enV];refine Jp (fun(z:Nat × Option Nat × Nat)=>⟨[(12,plQ z.2.1 (plV l (ys.take z.1))),(14,.ptr 3 0),(54,.vec (ys.map JQ) false),(55,.lit (.int .i64 (ys.length:Int))),(56,.lit (.int .i64 (z.1:Int)))],⟨[(3,Jas n o l md 2)],plT z.2.1 (plV l (ys.take z.1)),z.2.2⟩,74⟩)
    (fun z=>z.1<=ys.length/\4<=z.2.2/\(z.2.1=none->z.1=0)/\∀ q,z.2.1=some q->q<z.2.2) (fun z=>ys.length - z.1) (0,none,4) (JaH (by simp[lk,plQ]) (Jb rfl Jl) Jl rfl rfl) ⟨Nat.zero_le _,Nat.le_refl _,fun _=>rfl,fun q h=>by cases h⟩ ?_
   rintro⟨j,q,m⟩ ⟨hj,hm,hq0,hq⟩;simp only at hj hm hq0 hq ⊢;refine Jk ?_;rcases Nat.lt_or_ge j ys.length with hlt | hge
   ·obtain⟨y,hy⟩:∃ y,ys.getD j default=y:=⟨_,rfl⟩;have hym:=hout y (by rw[<- hy];exact Jt hlt);obtain⟨u,hu⟩:∃ u,l.getD y.pos default=u:=⟨_,rfl⟩;have hyl:=hym.2.1;have hsn:plV l (ys.take (j+1))=plV l (ys.take j)++[(u.pos:Int)]:=by
     unfold plV;rw[List.take_succ_eq_append_getElem hlt,List.map_append,<- hu,<- hy,List.getD_eq_getElem?_getD (l:=ys),List.getElem?_eq_getElem hlt];rfl
    obtain⟨X,hX⟩:∃ X,plV l (ys.take j)=X:=⟨_,rfl⟩;have hXl:X.length=j:=by rw[<- hX];unfold plV;simp;omega
    rw[hX] at hsn ⊢;have hf0:Ja4 1 8=True:=eq_true (JM (by decide) (by decide));have hf1:Ja4 (X.length+1) 8=True:=eq_true (JM (by omega) (by omega));have one1:∀ v:AV,(∀ q,q∈[[v]]->q.length=1)=True:=fun v=>by simp
    have nil1:(∀ q:List AV,q∈[]->q.length=1)=True:=by simp
    simp -implicitDefEqProofs (disch:=omega) only[Wz,seval,Ly,Lx,hy,JQ];refine JbM (n:=74) 11 (.alt 11 (.alt 12 .leaf .nil) .nil) rfl (by decide) (by decide) mixed (by kernel_rfl) (by decide) ?_;cases q with
    | none =>
     have hj0:=hq0 rfl;have:X=[]:=List.length_eq_zero_iff.1 (by omega);subst this;simp -implicitDefEqProofs (disch:=omega) only[Wz,seval,Ly,Lx,Jas,Jh,hu,JeS,plQ,plT,one1,nil1,hf0,true_and,if_true];refine⟨(j+1,some (m+1),m+2),⟨by show j+1<=_;omega,by show 4<=m+2;omega,fun q=>(by cases q),fun q h=>(by cases h;show m+1<m+2;omega)⟩,by show ys.length - (j+1)<_;omega,?_⟩;simp only[hsn];exact Jj (by simp[lk]) (fun _ _ e=>JbA e) (fun _ _ e=>e) rfl rfl
    | some q =>
     simp -implicitDefEqProofs (disch:=omega) only[Wz,seval,Ly,Lx,Jas,Jh,hu,JeS,plQ,plT,one1,hf1,true_and,if_true];refine⟨(j+1,some q,m+1),⟨by show j+1<=_;omega,by show 4<=m+1;omega,fun q=>(by cases q),fun q' h=>(by cases h;have:=hq q rfl;show q<m+1;omega)⟩,by show ys.length - (j+1)<_;omega,?_⟩;simp only[hsn];exact Jj (by simp[lk]) (fun _ _ e=>JbA e) (fun _ _ e=>by rw[List.map_append] at e;exact e) rfl rfl
   ·have hje:j=ys.length:=by omega
    subst hje;rw[List.take_length];simp -implicitDefEqProofs (disch:=omega) only[Wz,seval,Ly,Lx];refine Jk ?_;cases q with
    | none =>
     have h0:ys=[]:=List.length_eq_zero_iff.1 (hq0 rfl);subst h0;simp -implicitDefEqProofs (disch:=omega) only[Wz,seval,Ly,Lx,plQ];exact JH (Jg (JaA (by simp)) (Jg (Ja (.lit _)) Jz))
    | some q =>
     simp -implicitDefEqProofs (disch:=omega) only[Wz,seval,Ly,Lx,plQ,plT];exact JH (Jg (Jbr (k:=⟨(plV l ys).map Jqn,0,1⟩) (by simp[lk]) (by simp) (Ji JjC _)) (Jg (Ja (.lit _)) Jz))
 ·rw[if_neg (by
   intro q;simp only[Bool.and_eq_true,decide_eq_true_eq,List.any_eq_true] at q;exact hno q.1 ⟨q.2.1,q.2.2.1⟩)]
  cases hok:okV n with
  | true =>
   simp -implicitDefEqProofs (disch:=omega) only[Wz,seval,Ly,Lx,if_true];refine Jo ?_;refine Jk ?_;simp -implicitDefEqProofs (disch:=omega) only[Wz,seval,Ly,Lx];exact JH (Jg (JaA (by simp)) (Jg (Ja (.lit _)) Jz))
  | false =>
   simp -implicitDefEqProofs (disch:=omega) only[Wz,seval,Ly,Lx,Bool.false_eq_true,if_false];refine Jo ?_;refine Jk ?_;simp -implicitDefEqProofs (disch:=omega) only[Wz,seval,Ly,Lx];exact JH (Jg (JaA (by simp)) (Jg (Ja (.lit _)) Jz))
end Go.Proofs.Y
end
section
namespace Go.Proofs.Y
open Go Go.Ab
def Jk8:List Sta->Nat->Nat
 | [],k=>k
 | s :: l,k=>if k<=6000 then Jk8 l (k+s.edges.length) else k
def JtR (n:Nt):Bool:=decide (6000<Jk8 n.states (n.rules.length+n.states.length+n.types.length+n.channels.length+n.modes.length))
theorem Jpm(n:Nt)(ok:JcH n):Ja3 Tryz.prog 19 [.agg (Jh n)] (.lit (.bool (JtR n))):=by
 obtain⟨v,hv⟩:∃ v,JtR n=v:=⟨_,rfl⟩;rw[hv];obtain⟨k0,hk0⟩:∃ k0,n.rules.length+n.states.length+n.types.length+n.channels.length+n.modes.length=k0:=⟨_,rfl⟩;unfold JtR at hv;rw[hk0] at hv;refine J5 (Jr Tryz.func19 rfl Tryz.ntmps19 (rs:=[.tmp 2]) rfl (by simp) ?_);refine Jk ?_;have b1:=ok.types;have b2:=ok.channels;have b3:=ok.modes;have b4:=ok.rules;have b5:=ok.states;have hc1:(n.rules.length:Int)+n.states.length+n.types.length+n.channels.length+n.modes.length=(k0:Int):=by omega
 simp -implicitDefEqProofs (disch:=omega) only[Wz,seval,Jh,hc1];refine Jp (fun x:Nat × Nat=>⟨[(4,.lit (.int .i64 (x.1:Int))),(3,.lit (.int .i64 (x.2:Int))),(1,.ptr 0 0)],⟨[(0,Jh n)],[],1⟩,46⟩) (fun x=>x.1<=n.states.length/\decide (6000<Jk8 (n.states.drop x.1) x.2)=v/\x.2<=6000000000) (fun x=>n.states.length - x.1) (0,k0) (Jj (by simp[lk]) (fun _ _ q=>q) (fun _ _ q=>q) rfl rfl) ⟨Nat.zero_le _,by rw[List.drop_zero];exact hv,by show k0<=_;omega⟩ ?_;rintro⟨i,k⟩ ⟨hi,hkv,hkb⟩;simp only at hi hkv hkb ⊢;refine Jk ?_;rcases Nat.lt_or_ge i n.states.length with hl | hg
 ·obtain⟨s,hs⟩:∃ s,n.states.getD i default=s:=⟨_,rfl⟩;have he:=(ok.edges _ (Jt hl)).1;rw[hs] at he;rw[Ja7 hl,hs] at hkv;unfold Jk8 at hkv;by_cases h6:k<=6000
  ·rw[if_pos h6] at hkv;simp -implicitDefEqProofs (disch:=omega) only[Wz,seval,Jh,Jd,hs];refine⟨(i+1,k+s.edges.length),⟨hl,hkv,by show k+_<=_;omega⟩,by show n.states.length - (i+1)<_;omega,Jj (by simp[lk]) (fun _ _ q=>q) (fun _ _ q=>q) rfl rfl⟩
  ·rw[if_neg h6,decide_eq_true (by omega)] at hkv;subst hkv;simp -implicitDefEqProofs (disch:=omega) only[Wz,seval,Jh];exact Jat (.lit _)
 ·have hi2:i=n.states.length:=by omega
  subst hi2;rw[List.drop_length] at hkv;have hkv:decide (6000<k)=v:=hkv;simp -implicitDefEqProofs (disch:=omega) only[Wz,seval,Jh];have e1:(decide ((k:Int) > 6000))=v:=by rw[<- hkv];rw[Bool.eq_iff_iff];simp only[decide_eq_true_eq];omega
  rw[e1];exact Jat (.lit _)
def JtS (n:Nt)(xl:Nat)(o:List Orc):Bool:=JtR n || (decide (1500<n.states.length) || (decide (300<xl) || decide (100<o.length)))
theorem Jj0(L:List (Nat × List Value))(n:Nt)(x:List UInt8)(f g:Bool)(o:List Orc)(ok:JcH n)(hx:x.length<=1000000000)(ho:o.length<=1000000000):Ja3 Tryz.prog 6 [.agg (Jh n),inV L x f,.vec (o.map Jct) g] (.lit (.bool (JtS n x.length o))):=by
 obtain⟨v,hv⟩:∃ v,JtS n x.length o=v:=⟨_,rfl⟩;rw[hv];have h14:=Jpm n ok;refine J5 (Jr Tryz.func6 rfl Tryz.ntmps6 (rs:=[.tmp 6]) rfl (by simp) ?_);unfold inV;have hs:=ok.states;refine Jk ?_;simp -implicitDefEqProofs (disch:=omega) only[Wz,seval,Jav,JaY];refine JT JxE h14 (Jb (.of_pure (.agg (J6 n))) Jl) (.lit _) ?_;unfold JtS at hv;cases hg:JtR n with
 | true =>
  rw[hg] at hv;subst hv;simp -implicitDefEqProofs (disch:=omega) only[Wz,seval];exact Jat (.lit _)
 | false =>
  rw[hg] at hv;by_cases h1:1500<n.states.length
  ·rw[decide_eq_true h1] at hv;subst hv;simp -implicitDefEqProofs (disch:=omega) only[Wz,seval,Jh];exact Jat (.lit _)
  ·rw[decide_eq_false h1] at hv;by_cases h2:300<x.length
   ·rw[decide_eq_true h2] at hv;subst hv;simp -implicitDefEqProofs (disch:=omega) only[Wz,seval,Jh];exact Jat (.lit _)
   ·rw[decide_eq_false h2] at hv;by_cases h3:100<o.length
    ·rw[decide_eq_true h3] at hv;subst hv;simp -implicitDefEqProofs (disch:=omega) only[Wz,seval,Jh];exact Jat (.lit _)
    ·rw[decide_eq_false h3] at hv;subst hv;simp -implicitDefEqProofs (disch:=omega) only[Wz,seval,Jh];exact Jat (.lit _)
theorem Jj1:∀ (l:List Sta) (k:Nat),Jk8 l k<=6000->k+(l.map fun s=>s.edges.length).sum<=6000
 | [],k,h=>by simpa [Jk8] using h
 | s :: l,k,h=>by
  unfold Jk8 at h;split at h
  ·have:=Jj1 l _ h;simp only[List.map_cons,List.sum_cons];omega
  ·omega
theorem Jpn(l:List Sta):((List.range l.length).map fun s=>(l.getD s default).edges.length).sum=(l.map fun s=>s.edges.length).sum:=by
 congr 1
 apply List.ext_getElem
 ·simp
 ·intro i h1 h2;have hi:i<l.length:=by simpa using h1
  simp[List.getD_eq_getElem?_getD,List.getElem?_eq_getElem hi]
theorem JzU{n:Nt}{xl:Nat}{o:List Orc}(h:JtS n xl o=false)(ha:∀ s,∀ e∈(n.states.getD s default).edges,e.acts.length<=Jfc):JlS n/\xl<=300/\o.length<=100:=by
 unfold JtS at h;simp only[Bool.or_eq_false_iff,decide_eq_false_iff_not,Nat.not_lt] at h;obtain⟨h1,h2,h3,h4⟩:=h;refine⟨⟨h2,?_,ha⟩,h3,h4⟩;unfold JtR at h1;simp only[decide_eq_false_iff_not,Nat.not_lt] at h1;have:=Jj1 _ _ h1;have e:JpS n=(n.states.map fun s=>s.edges.length).sum:=Jpn n.states;rw[e];omega
end Go.Proofs.Y
end
section
namespace Go.Proofs.Y
open Go Go.Ab
theorem Jpo(a:List (Int × Int))(ha:a.length<=4000000000000):JO Tryz.prog 10 [.vec (a.map Jy) false,.vec (a.map Jy) false] (.lit (.bool true)):=by
 refine JD (Jr Tryz.func10 rfl Tryz.ntmps10 (rs:=[.tmp 4]) rfl (by simp) ?_);have hne:(((a.length:Int) != (a.length:Int)):Bool)=false:=by simp
 refine Jk ?_;simp -implicitDefEqProofs (disch:=omega) only[Wz,seval,hne];refine Jp (fun i:Nat=>⟨[(0,.vec (a.map Jy) false),(1,.vec (a.map Jy) false),(5,.lit (.int .i64 (i:Int)))],.none,26⟩) (fun i=>i<=a.length) (fun i=>a.length - i) 0 (Jj (by simp[lk]) (fun _ _ e=>e) (fun _ _ e=>e) rfl rfl) (Nat.zero_le _) ?_;intro i hi;refine Jk ?_;rcases Nat.lt_or_ge i a.length with hlt | hge
 ·obtain⟨x,hx⟩:∃ x,a.getD i default=x:=⟨_,rfl⟩;simp -implicitDefEqProofs (disch:=omega) only[Wz,seval,hx];refine Jv (n:=26) rfl (by decide) mixed ?_;simp -implicitDefEqProofs (disch:=omega) only[Wz,seval,hx,Jy,Bool.and_true,Bool.not_true];exact⟨i+1,by omega,by omega,Jj (by simp[lk]) (fun _ _ e=>e) (fun _ _ e=>e) rfl rfl⟩
 ·simp -implicitDefEqProofs (disch:=omega) only[Wz,seval];exact Ja (.lit _)
end Go.Proofs.Y
end
section
namespace Go.Proofs.Y
open Go Go.Ab
def Jy3 (S:List Nat)(js:List Nat):List Nat:=js.foldl (fun S j=>if S.contains j then S else S++[j]) S
def stepG(G:List (List Nat))(S T:List Nat):List Nat:=S.foldl (fun T i=>Jy3 T (G.getD i [])) T
def JzV (G:List (List Nat)):Nat->List Nat->List Nat
 | 0,S=>S
 | k+1,S=>JzV G k (stepG G S S)
def Jj2(G:List (List Nat))(i:Nat):List Nat:=JzV G G.length (Jy3 [] (G.getD i []))
theorem JiB{x:Nat}:∀ {js S:List Nat},x∈Jy3 S js->x∈S\/x∈js
 | [],S,h=>.inl h
 | j :: js,S,h=>by
  have h:x∈Jy3 (if S.contains j then S else S++[j]) js:=h;rcases JiB h with h | h
  ·split at h
   ·exact .inl h
   ·rcases List.mem_append.1 h with h | h
    ·exact .inl h
    ·rw[List.mem_singleton] at h;subst h;exact .inr (by simp)
  ·exact .inr (by simp[h])
theorem Jj3{G:List (List Nat)}{x:Nat}:∀ {S T:List Nat},x∈stepG G S T->x∈T\/∃ i∈S,x∈G.getD i []
 | [],T,h=>.inl h
 | i :: S,T,h=>by
  have h:x∈stepG G S (Jy3 T (G.getD i [])):=h;rcases Jj3 h with h | ⟨k,h1,h2⟩
  ·rcases JiB h with h | h
   ·exact .inl h
   ·exact .inr ⟨i,by simp,h⟩
  ·exact .inr ⟨k,by simp[h1],h2⟩
theorem JhC{G:List (List Nat)}{i:Nat}:∀ {k:Nat} {S:List Nat},(∀ x∈S,Rch G i x)->∀ x∈JzV G k S,Rch G i x
 | 0,S,h,x,hx=>h x hx
 | k+1,S,h,x,hx=>JhC (k:=k) (fun y hy=>by
   rcases Jj3 hy with hy | ⟨z,h1,h2⟩
   ·exact h y hy
   ·exact .step (h z h1) h2) x hx
theorem JgT{G:List (List Nat)}{i j:Nat}(h:(Jj2 G i).contains j=true):Rch G i j:=by
 rw[List.contains_iff_mem] at h;refine JhC (fun x hx=>?_) j h;rcases JiB hx with hx | hx
 ·cases hx
 ·exact .one hx
def Jto(G:List (List Nat))(i:Nat):Bool:=(G.getD i []).all (fun j=>(Jj2 G i).contains j) && (Jj2 G i).all fun k=>(G.getD k []).all fun j=>(Jj2 G i).contains j
theorem Jm5{G:List (List Nat)}{i j:Nat}(h:Jto G i=true)(r:Rch G i j):(Jj2 G i).contains j=true:=by
 unfold Jto at h;rw[Bool.and_eq_true] at h;induction r with
 | one e=>exact List.all_eq_true.1 h.1 _ e
 | step _ e ih =>
  rw[List.contains_iff_mem] at ih;exact List.all_eq_true.1 (List.all_eq_true.1 h.2 _ ih) _ e
theorem Jpp{G:List (List Nat)}(rk:List Nat)(h:((List.range G.length).all fun i=>(G.getD i []).all fun j=>decide (rk.getD j 0<rk.getD i 0))=true):Jnt G:=by
 refine⟨fun i=>rk.getD i 0,fun i j hj=>?_⟩;rcases Nat.lt_or_ge i G.length with hi | hi
 ·exact of_decide_eq_true (List.all_eq_true.1 (List.all_eq_true.1 h i (List.mem_range.2 hi)) j hj)
 ·rw[List.getD_eq_getElem?_getD,List.getElem?_eq_none hi] at hj;cases hj
def JgU (n:Nt):Nat->List Bool
 | 0=>n.rules.map fun _=>false
 | k+1=>(List.range n.rules.length).map fun i=>(Jj2 (gE n (JgU n k)) (stN n i)).contains (spN n i)
def Jtp(n:Nt)(em:List Bool):Bool:=(List.range n.rules.length).all fun i=>Jto (gE n em) (stN n i) && (!(Jj2 (gE n em) (stN n i)).contains (spN n i) || em.getD i false)
theorem JhD{l:List Bool}{i:Nat}(h:l.getD i false=true):i<l.length:=by
 rcases Nat.lt_or_ge i l.length with q | q
 ·exact q
 ·rw[List.getD_eq_getElem?_getD,List.getElem?_eq_none q] at h;cases h
theorem JhE{n:Nt}(w:Wf n)(ok:JcH n):∀ {k i:Nat},(JgU n k).getD i false=true->Emp n i
 | 0,i,h=>by
  have hi:=JhD h;simp only[JgU,List.length_map] at hi;rw[JgU,List.getD_eq_getElem?_getD,List.getElem?_map,List.getElem?_eq_getElem hi] at h;cases h
 | k+1,i,h=>by
  have hi:=JhD h;simp only[JgU,List.length_map,List.length_range] at hi;rw[JgU,List.getD_eq_getElem?_getD,List.getElem?_map,List.getElem?_range hi] at h;exact Jil w ok (fun j hj=>JhE w ok hj) (JgT h)
theorem JlZ{n:Nt}(w:Wf n)(ok:JcH n){k:Nat}(h:Jtp n (JgU n k)=true)(hl:(JgU n k).length=n.rules.length):J2 n=JgU n k:=by
 have full:∀ i,i<n.rules.length->Rch (gE n (JgU n k)) (stN n i) (spN n i)->(JgU n k).getD i false=true:=fun i hi r=>by
  have h1:=List.all_eq_true.1 h i (List.mem_range.2 hi);rw[Bool.and_eq_true,Bool.or_eq_true] at h1;rcases h1.2 with h2 | h2
  ·rw[Jm5 h1.1 r] at h2;cases h2
  ·exact h2
 apply List.ext_getElem
 ·rw[hl];simp[J2]
 ·intro i h1 h2;have hi:i<n.rules.length:=by omega
  have e1:(J2 n)[i]=Jnu n i:=by
   have:=JbU hi;rw[List.getD_eq_getElem?_getD,List.getElem?_eq_getElem h1] at this;exact this
  have e2:(JgU n k).getD i false=(JgU n k)[i]:=by rw[List.getD_eq_getElem?_getD,List.getElem?_eq_getElem h2];rfl
  rw[e1,<- e2,Bool.eq_iff_iff,JeO];exact⟨fun q=>full i hi (JoV w ok full q),fun q=>JhE w ok q⟩
def Jy4(n:Nt):Bool:=(List.range n.states.length).all fun s=>(List.range n.rules.length).any fun i=>decide (s=spN n i) || (Jj2 (gB n) (spN n i)).contains s
def gFc (n:Nt)(em:List Bool):List (List Nat):=gOf n.states.length (Jby (prF n em) n n.states.length 0)
def JBT (n:Nt)(em:List Bool):Bool:=(List.range n.rules.length).all fun i => !((n.rules.getD i default).lexer && (!(n.rules.getD i default).frag && em.getD i false))
def Jq0(G:List (List Nat))(rk:List Nat):Bool:=(List.range G.length).all fun i=>(G.getD i []).all fun j=>decide (rk.getD j 0<rk.getD i 0)
theorem Jy5{n:Nt}(h:Jy4 n=true):JfN n=true:=by
 unfold JfN;refine @decide_eq_true _ (Classical.propDecidable _) fun s hs=>?_
 have h1:=List.all_eq_true.1 h s (List.mem_range.2 hs);obtain⟨i,hi,h2⟩:=List.any_eq_true.1 h1;rw[Bool.or_eq_true,decide_eq_true_eq] at h2;refine⟨i,List.mem_range.1 hi,?_⟩;rcases h2 with h2 | h2
 ·exact .inl h2
 ·exact .inr (JgT h2)
theorem JB0{n:Nt}(ok:JcH n)(k:Nat)(rF rC:List Nat)(h1:Jc1 n=true)(h2:Jdt n=true)(h3:JbG n=true)(h4:Jy4 n=true)(h5:Jtp n (JgU n k)=true)(hl:(JgU n k).length=n.rules.length)
  (h6:JBT n (JgU n k)=true) (h7:Jq0 (gFc n (JgU n k)) rF=true) (h8:Jq0 (gC n) rC=true):okV n=true:=by
 have w:=Wf.of h1 h2 h3;have he:=JlZ w ok h5 hl;unfold okV;have hF:gF n=gFc n (JgU n k):=by unfold gF gFc;rw[he]
 rw[h1,h2,h3,Jy5 h4,hF,Jcm (Jpp rF h7),Jcm (Jpp rC h8)];have hL:(List.range n.rules.length).all (Jkj n)=true:=by
  rw[<- h6];unfold JBT;rw[Bool.eq_iff_iff,List.all_eq_true,List.all_eq_true];have e:∀ i,i∈List.range n.rules.length->Jkj n i = !((n.rules.getD i default).lexer && (!(n.rules.getD i default).frag && (JgU n k).getD i false)):=fun i hi=>by
   unfold Jkj;rw[<- JbU (List.mem_range.1 hi),he]
  exact⟨fun q i hi=>by rw[<- e i hi];exact q i hi,fun q i hi=>by rw[e i hi];exact q i hi⟩
 rw[hL];rfl
def edC (e:Ed):Bool:=decide (e.set.length<=1000) && decide (e.acts.length<=1000) && decide (gsz e.g<=1000) && decide (e.g.name.size<=1000) && e.g.kids.isEmpty && e.set.all fun r=>decide (-2147483648<=r.1/\r.1<=2147483647) && decide (-2147483648<=r.2/\r.2<=2147483647)
def ntC (n:Nt):Bool:=decide (n.types.length<=1000) && decide (n.channels.length<=1000) && decide (n.modes.length<=1000) && decide (n.rules.length<=1000) && decide (n.states.length<=1000) && n.types.all (fun s=>decide (s.size<=1000)) && n.channels.all (fun s=>decide (s.size<=1000)) && n.modes.all (fun s=>decide (s.size<=1000)) && n.rules.all (fun r=>decide (r.name.size<=1000)) && n.states.all fun s=>decide (s.edges.length<=1000) && s.edges.all edC
theorem JB1{n:Nt}(h:ntC n=true):JcH n:=by
 unfold ntC at h;simp only[Bool.and_eq_true,decide_eq_true_eq,List.all_eq_true] at h;obtain⟨⟨⟨⟨⟨⟨⟨⟨⟨a1,a2⟩,a3⟩,a4⟩,a5⟩,a6⟩,a7⟩,a8⟩,a9⟩,a10⟩:=h;refine⟨by omega,by omega,by omega,by omega,by omega,fun s hs=>?_,fun s hs=>?_,fun s hs=>?_,fun r hr=>?_,fun s hs=>?_⟩
 ·have:=a6 s hs;omega
 ·have:=a7 s hs;omega
 ·have:=a8 s hs;omega
 ·have:=a9 r hr;omega
 ·obtain⟨b1,b2⟩:=a10 s hs;refine⟨by omega,fun e he=>?_⟩;have c:=b2 e he;unfold edC at c;simp only[Bool.and_eq_true,decide_eq_true_eq,List.all_eq_true,List.isEmpty_iff] at c;obtain⟨⟨⟨⟨⟨c1,c2⟩,c3⟩,c4⟩,c5⟩,c6⟩:=c;exact⟨by omega,by omega,by omega,.mk (by omega) (fun k hk=>by rw[c5] at hk;cases hk),fun r hr=>c6 r hr⟩
end Go.Proofs.Y
end
section
namespace Go.Proofs.Y
open Go Go.Ab
def i8w (z:Int)(h : -128<=z/\z<=127:=by decide):I8:=⟨z,h⟩
def eW (op:I8)(set:List (Int × Int))(n to:Int):Ed:=⟨op,set,n,0,default,[],to⟩
def JbW:Nt:=⟨[⟨#[88]⟩,⟨#[89]⟩],[⟨#[]⟩],[⟨#[]⟩],[⟨⟨#[88]⟩,true,false,false,false,0,1,0,1⟩,⟨⟨#[89]⟩,true,false,false,false,0,2,5,6⟩],
 [⟨0,[eW (i8w 4) [] 1 2]⟩,⟨0,[]⟩,⟨0,[eW (i8w 1) [(97,97)] 0 3]⟩,⟨0,[eW (i8w 0) [] 0 2,eW (i8w 0) [] 0 4]⟩,⟨0,[eW (i8w 0) [] 0 1]⟩,
  ⟨1,[eW (i8w 4) [] 1 7]⟩,⟨1,[]⟩,⟨1,[eW (i8w 1) [(97,97)] 0 8]⟩,⟨1,[eW (i8w 1) [(98,98)] 0 9]⟩,⟨1,[eW (i8w 0) [] 0 6]⟩]⟩
theorem JzW{n:Nt}(w:Wf n)(ok:JcH n){rk:Nat->Nat}(hrk:JyA (gF n) rk):Rk n rk:=by
 have hb:=Jfa w ok (em:=J2 n) (i:=n.states.length) (k:=0) (.inr ⟨rfl,rfl⟩);have mem:∀ {s t e},s<n.states.length->e∈(n.states.getD s default).edges->(s,t)∈prF n (J2 n) s e->rk t<rk s:=fun {s t e} hs he hp=>by
  refine hrk s t ?_;unfold gF;rw[Jeq fun p hp=>(hb.1 p hp).1];exact Jd1 _ n hs he hp
 have hcall:∀ s e,s<n.states.length->e∈(n.states.getD s default).edges->e.op.1=2->rk (stN n e.n.toNat)<rk s:=fun s e hs he h2=>by
  refine mem hs he ?_;unfold prF;rw[if_neg (by omega),if_pos h2];simp
 refine⟨fun s t hn=>?_,hcall⟩;induction hn with
 | @edge s e hs he h1 h2 =>
  refine mem hs he ?_;unfold prF;rw[if_neg h1,if_neg h2];simp
 | @call s e hs he h2 hN ih =>
  have hc:=w.call hs he h2;refine mem hs he ?_;unfold prF;rw[if_neg (by omega),if_pos h2,JbU (by omega),JeO.2 hN];simp
 | step _ _ ih1 ih2=>exact Nat.lt_trans ih2 ih1
theorem Jq1{G:List (List Nat)}{rk:List Nat}(h:Jq0 G rk=true):JyA G fun i=>rk.getD i 0:=fun i j hj=>by
 rcases Nat.lt_or_ge i G.length with hi | hi
 ·exact of_decide_eq_true (List.all_eq_true.1 (List.all_eq_true.1 h i (List.mem_range.2 hi)) j hj)
 ·rw[List.getD_eq_getElem?_getD,List.getElem?_eq_none hi] at hj;cases hj
theorem JB2{n:Nt}(ok:JcH n)(w:Wf n)(k:Nat)(rF:List Nat)(h5:Jtp n (JgU n k)=true)(hl:(JgU n k).length=n.rules.length)(h7:Jq0 (gFc n (JgU n k)) rF=true):Rk n fun i=>rF.getD i 0:=by
 refine JzW w ok ?_;have hF:gF n=gFc n (JgU n k):=by unfold gF gFc;rw[JlZ w ok h5 hl]
 rw[hF];exact Jq1 h7
def JzX(n:Nt):Bool:=n.states.all fun s=>s.edges.all fun e=>decide (e.acts.length<=Jfc)
theorem JB3{n:Nt}(h1:n.states.length<=1500)(h2:JpS n<=1048576)(h3:JzX n=true):JlS n:=by
 refine⟨h1,h2,fun s e he=>?_⟩;rcases Nat.lt_or_ge s n.states.length with hs | hs
 ·exact of_decide_eq_true (List.all_eq_true.1 (List.all_eq_true.1 h3 _ (Jt hs)) e he)
 ·have:n.states.getD s default=default:=by rw[List.getD_eq_getElem?_getD,List.getElem?_eq_none hs];rfl
  rw[this] at he;cases he
theorem JiC:JcH JbW:=JB1 (by kernel_rfl)
theorem JfU:okV JbW=true:=JB0 JiC 0 [1,0,0,2,1,1,0,0,0,1] [0,0] (by kernel_rfl) (by kernel_rfl) (by kernel_rfl) (by kernel_rfl) (by kernel_rfl) (by kernel_rfl) (by kernel_rfl) (by kernel_rfl) (by kernel_rfl)
theorem Jl0:JlS JbW:=JB3 (by decide) (by decide +kernel) (by kernel_rfl)
theorem Jq2:Rk JbW fun i=>[1,0,0,2,1,1,0,0,0,1].getD i 0:=JB2 JiC (Jhu JfU).1 0 [1,0,0,2,1,1,0,0,0,1] (by kernel_rfl) (by kernel_rfl) (by kernel_rfl)
theorem Jj4(x:List UInt8)(hx:(Jbf (ofB x)).length<=20):JkW JbW [] (Jbf (ofB x)) 0 100:=by
 refine Jr3 (Jhu JfU).1 (Jit _) Jq2 (R:=3) (fun s hs=>?_) (by omega);have key:∀ s:Fin 10,[1,0,0,2,1,1,0,0,0,1].getD s.1 0<=3:=by decide
 exact key ⟨s,hs⟩
def Jq3:Nat->AV->AV
 | 0,a=>a
 | k+1,.agg cs=>.agg (cs.map (Jq3 k))
 | k+1,.vec xs _=>.vec (xs.map fun x=>x.map (Jq3 k)) false
 | _+1,a=>a
theorem JiD{g:Gh}{f:AV->AV}(h:∀ a,Cv g g a (f a)):∀ cs:List AV,CvL g g cs (cs.map f)
 | []=>JaR
 | a :: cs=>Ju (h a) (JiD h cs)
theorem Jl1{g:Gh}{f:AV->AV}(h:∀ a,Cv g g a (f a)):∀ xs:List (List AV),CvR g g xs (xs.map fun x=>x.map f)
 | []=>.nil
 | x :: xs=>.cons (JiD h x) (by simp) (Jl1 h xs)
theorem JiE(g:Gh):∀ (k:Nat) (a:AV),Cv g g a (Jq3 k a)
 | 0,a=>JC (.refl g) a
 | k+1,a=>by
  cases a with
  | agg cs=>exact JtX (JiD (JiE g k) cs)
  | vec xs f=>exact fun v hv=>JbD (.refl g) _ f v (Jrz (.refl g) (Jl1 (JiE g k) xs) v hv)
  | _=>exact JC (.refl g) _
theorem JgV(k:Nat){h:Hp}{r r':AV}(e:Jq3 k r=r')(hr:GP r'):Jd6 h r r':=by
 refine Jd6.wk (h':=⟨[],[],h.nx⟩) (r':=r') (St.wk_conv rfl rfl (fun g g' x=>Jb ⟨r,rfl,?_⟩ Jl) (fun g g' x=>Jl) (fun g=>Jl)) (Jat hr);subst e;exact fun v hv=>JC x _ v (JiE g k r v hv)
theorem JgW(c to:Int):Ja3 Tryz.prog 39 [.lit (.int .i32 c),.lit (.int .i64 to)] (.agg (Jn (eW (i8w 1) [(c,c)] 0 to))):=by
 refine J5 (Jr Tryz.func39 rfl Tryz.ntmps39 (rs:=[.cell 4 96]) rfl (by simp) ?_);refine Jk ?_;simp -implicitDefEqProofs (disch:=omega) only[Wz,seval];exact JgV 8 rfl (.of_pure (.agg (JbQ _)))
theorem Jd5:Ja3 Tryz.prog 20 [] (.agg (Jh JbW)):=by
 refine J5 (Jr Tryz.func20 rfl Tryz.ntmps20 (rs:=[.cell 0 26]) rfl (by simp) ?_);refine Jk ?_;have gs:∀ s:Ed,GP (.agg (Jn s)):=fun s=>.of_pure (.agg (JbQ s));simp -implicitDefEqProofs (disch:=omega) only[Wz,seval];refine JT Jol (JgW 97 3) (Jb (.lit _) (Jb (.lit _) Jl)) (gs _) ?_;simp -implicitDefEqProofs (disch:=omega) only[Wz,seval];refine JT Jol (JgW 97 8) (Jb (.lit _) (Jb (.lit _) Jl)) (gs _) ?_;simp -implicitDefEqProofs (disch:=omega) only[Wz,seval];refine JT Jol (JgW 98 9) (Jb (.lit _) (Jb (.lit _) Jl)) (gs _) ?_;simp -implicitDefEqProofs (disch:=omega) only[Wz,seval];exact JgV 8 rfl (.of_pure (.agg (J6 _)))
end Go.Proofs.Y
end
section
namespace Go.Proofs.Y
open Go Go.Ab
theorem Jl2{g:Gh}{xs:List (List AV)}{f:Bool}:Cv g g (.vec xs f) (.wit [] (.vec xs f)):=fun v hv=>by
 cases hv with
 | vecN=>exact .wit (fun _ h=>by cases h) .vecN
 | vecE q=>exact .wit (fun _ h=>by cases h) (.vecE q)
 | vec F q1 q2 q3 q4 q5=>exact .wit (fun _ h=>by cases h) (.vec F q1 q2 q3 q4 q5)
def Jzy (x:List UInt8):Int × Int × List (Int × Int) × Int:=JjZ JbW [] (Jbf (ofB x)) 0 100 (ixV (Jbf (ofB x)) 0) 0
theorem Jq4:Jzy [97,97,97,98]=(0,3,[],0):=by kernel_rfl
theorem Jq5:Jzy [97,98,99]=(1,2,[],0):=by kernel_rfl
theorem Jq6:Jzy [98]=(0,0,[],4):=by kernel_rfl
theorem Jq7:plV (Jbf (ofB [97,97,97,98])) (eF JbW [] (Jbf (ofB [97,97,97,98])) 0 100 (Int.toNat 0) (ixV (Jbf (ofB [97,97,97,98])) 0))=[3,2,1]:=by kernel_rfl
theorem Jl3(x:List UInt8)(h:x.length<=10):Jpk JbW [] x 0 0:=⟨JiC,by omega,by decide,by decide,by decide⟩
theorem Jj5(x:List UInt8):∃ u∈Jbf (ofB x),(u.pos:Int)=0:=by
 have h0:=JkZ (ofB x).size (ofB x) 0 0;refine⟨(Jbf (ofB x)).getD 0 default,Jt h0,?_⟩;have e:(ofB x).size=x.length:=Ja0 x;unfold Jbf;cases hx:(ofB x).size with
 | zero=>simp[Jes,hx]
 | succ k=>unfold Jes;rw[if_pos (by omega)];rfl
theorem Jfd(x:List UInt8)(f:Bool)(h:x.length<=10)(ha:∀ b∈x,b.toNat<128):JO Tryz.prog 8 [.agg (Jh JbW),inV [] x f,.vec [] false,.lit (.int .i64 0),.lit (.int .i64 0)] (Jeb (Jzy x)):=by
 have h1:=Jfz [] JbW [] x f (.inr ha) 0 0 (Jl3 x h) Jl0 100 (fun _=>Jj4 x (by have:=Jiu (ofB x);rw[Ja0] at this;omega));rw[if_pos ⟨JfU,⟨by decide,by decide⟩,Jj5 x⟩] at h1;exact h1
theorem Jm6(x:List UInt8)(f:Bool)(h:x.length<=10)(ha:∀ b∈x,b.toNat<128):JO Tryz.prog 13 [.agg (Jh JbW),inV [] x f,.vec [] false,.lit (.int .i64 0),.lit (.int .i64 0),.lit (.int .i64 0)] (.tup [.vec ((plV (Jbf (ofB x)) (eF JbW [] (Jbf (ofB x)) 0 100 (Int.toNat 0) (ixV (Jbf (ofB x)) 0))).map Jqn) false,.lit (.int .i64 0)]):=by
 have h1:=Jm4 [] JbW [] x f (.inr ha) 0 0 0 (Jl3 x h) Jl0 100 (fun _=>Jj4 x (by have:=Jiu (ofB x);rw[Ja0] at this;omega));have hok:JlY JbW x 0 0 0=true:=by
  unfold JlY;obtain⟨u,hu,e⟩:=Jj5 x;have:((Jbf (ofB x)).any fun u=>decide ((u.pos:Int)=0))=true:=List.any_eq_true.2 ⟨u,hu,by simpa using e⟩;rw[JfU,this];rfl
 rw[if_pos hok] at h1;exact h1
theorem JhF:JO Tryz.prog 7 [] (.lit (.bool true)):=by
 have gN:GP (.agg (Jh JbW)):=.of_pure (.agg (J6 _));have pN:Ab.Pure (.agg (Jh JbW)):=.agg (J6 _);have n1:=Jfd [97,97,97,98] true (by decide) (by decide);have n2:=Jfd [97,98,99] true (by decide) (by decide);have n3:=Jfd [98] true (by decide) (by decide);have n4:=Jm6 [97,97,97,98] true (by decide) (by decide);rw[Jq4] at n1;rw[Jq5] at n2;rw[Jq6] at n3;rw[Jq7] at n4;have pA:∀ t,Ab.Pure (Jeb t):=fun t=>.tup (Jb (.lit _) (Jb (.lit _) (Jb (.vec (Ji JU _)) (Jb (.lit _) Jl))));have pE:∀ l:List Int,Ab.Pure (.tup [.vec (l.map Jqn) false,.lit (.int .i64 0)]):=fun l=>.tup (Jb (.vec (Ji JjC _)) (Jb (.lit _) Jl));refine JD (Jr Tryz.func7 rfl Tryz.ntmps7 (rs:=[.tmp 0]) rfl (by simp) ?_);refine Jo ?_;refine Jk ?_;simp -implicitDefEqProofs (disch:=omega) only[Wz,seval];refine Jo ?_;refine JdW 1 rfl rfl rfl rfl ?_;simp -implicitDefEqProofs (disch:=omega) only[Wz,seval];refine JT JlA Jd5 Jl gN ?_;simp -implicitDefEqProofs (disch:=omega) only[Wz,seval];refine Jdh Jsv rfl ty5 rfl rfl (by decide) (by decide) rfl rfl (by decide) ?_;simp -implicitDefEqProofs (disch:=omega) only[Wz,seval];refine Jcx.cv (fun g=>Ju (JC (.refl g) _) (Ju Jl2 (Ju (JbD (.refl g) _ _) (Ju (JC (.refl g) _) (Ju (JC (.refl g) _) JaR))))) ?_;refine Jf Jqk n1 (Jb pN (Jb (JaC [] [97,97,97,98] true) (Jb (.vec (by simp)) (Jb (.lit _) (Jb (.lit _) Jl))))) (pA _) ?_;simp -implicitDefEqProofs (disch:=omega) only[Wz,seval,Jeb];refine Jo ?_;refine JdW 1 rfl rfl rfl rfl ?_;simp -implicitDefEqProofs (disch:=omega) only[Wz,seval];refine JT JlA Jd5 Jl gN ?_;simp -implicitDefEqProofs (disch:=omega) only[Wz,seval];refine Jdh Jsv rfl ty5 rfl rfl (by decide) (by decide) rfl rfl (by decide) ?_;simp -implicitDefEqProofs (disch:=omega) only[Wz,seval];refine Jcx.cv (fun g=>Ju (JC (.refl g) _) (Ju Jl2 (Ju (JbD (.refl g) _ _) (Ju (JC (.refl g) _) (Ju (JC (.refl g) _) JaR))))) ?_;refine Jf Jqk n2 (Jb pN (Jb (JaC [] [97,98,99] true) (Jb (.vec (by simp)) (Jb (.lit _) (Jb (.lit _) Jl))))) (pA _) ?_;simp -implicitDefEqProofs (disch:=omega) only[Wz,seval,Jeb];refine Jo ?_;refine JdW 1 rfl rfl rfl rfl ?_;simp -implicitDefEqProofs (disch:=omega) only[Wz,seval];refine JT JlA Jd5 Jl gN ?_;simp -implicitDefEqProofs (disch:=omega) only[Wz,seval];refine Jdh Jsv rfl ty5 rfl rfl (by decide) (by decide) rfl rfl (by decide) ?_;simp -implicitDefEqProofs (disch:=omega) only[Wz,seval];refine Jcx.cv (fun g=>Ju (JC (.refl g) _) (Ju Jl2 (Ju (JbD (.refl g) _ _) (Ju (JC (.refl g) _) (Ju (JC (.refl g) _) JaR))))) ?_;refine Jf Jqk n3 (Jb pN (Jb (JaC [] [98] true) (Jb (.vec (by simp)) (Jb (.lit _) (Jb (.lit _) Jl))))) (pA _) ?_;simp -implicitDefEqProofs (disch:=omega) only[Wz,seval,Jeb];refine Jo ?_;refine JdW 1 rfl rfl rfl rfl ?_;simp -implicitDefEqProofs (disch:=omega) only[Wz,seval];refine JT JlA Jd5 Jl gN ?_;simp -implicitDefEqProofs (disch:=omega) only[Wz,seval];refine Jdh Jsv rfl ty5 rfl rfl (by decide) (by decide) rfl rfl (by decide) ?_;simp -implicitDefEqProofs (disch:=omega) only[Wz,seval];refine Jcx.cv (fun g=>Ju (JC (.refl g) _) (Ju Jl2 (Ju (JbD (.refl g) _ _) (Ju (JC (.refl g) _) (Ju (JC (.refl g) _) (Ju (JC (.refl g) _) JaR)))))) ?_;refine Jf JxC n4 (Jb pN (Jb (JaC [] [97,97,97,98] true) (Jb (.vec (by simp)) (Jb (.lit _) (Jb (.lit _) (Jb (.lit _) Jl)))))) (pE _) ?_;simp -implicitDefEqProofs (disch:=omega) only[Wz,seval,Jeb];refine Jk ?_;have t2:Int.toNat 2=1+1:=rfl;have g2:∀ a b c:List AV,[a,b,c].getD (1+1) []=c:=fun _ _ _=>rfl
 simp -implicitDefEqProofs (disch:=omega) only[Wz,seval,Jqn,t2,g2,List.getD_cons_zero,List.getD_cons_succ,List.length_singleton];exact Ja (.lit _)
end Go.Proofs.Y
end
section
namespace Go.Proofs.Y
open Go Go.Ab
end Go.Proofs.Y
end
