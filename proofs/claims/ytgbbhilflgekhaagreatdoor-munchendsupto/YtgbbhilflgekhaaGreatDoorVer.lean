/- Parts of the proof, laid together. -/
import Derived.Test.YtgbbhilflgekhaaGreatDoorVeq
import Derived.Carry
import Derived.ChangeSame
import Derived.JoinedCond
import Derived.OpenShut
import Derived.Test.YtgbbhilflgekhaaGreatDoorRows
import Derived.Lib.LaidU8T
set_option linter.unusedVariables false
set_option linter.unusedSimpArgs false
set_option maxRecDepth 20000
set_option maxHeartbeats 16000000
section
namespace Go.Proofs.Y
open Go Go.Ab
theorem Jrs(n:Nt)(o:List Orc)(x:List UInt8)(at' md:Int)(g:Jm8 n o x at' md):∃ k,okV n=true->Jkv n o (JaX (ofB x)) md k:=by
 cases hok:okV n with
 | false=>exact⟨0,fun h=>by cases h⟩
 | true =>
  obtain⟨k,hk⟩:=Jy7 g hok;exact⟨k,fun _=>hk⟩
theorem Jnp(n:Nt)(o:List Orc)(l:List Un)(md:Int)(k a i:Nat):∀ R,i<=R->∃ rest,J0 n o l md k a R=J0 n o l md k a i++rest:=by
 intro R;induction R with
 | zero =>
  intro h;have:i=0:=by omega
  subst this;exact⟨[],by simp⟩
 | succ R ih =>
  intro h;rcases Nat.lt_or_ge i (R+1) with q | q
  ·obtain⟨rest,hr⟩:=ih (by omega);exact⟨rest++(JdC n o l md k a R).toList,by rw[JaK,hr,List.append_assoc]⟩
  ·have:i=R+1:=by omega
   subst this;exact⟨[],by simp⟩
structure LD (n:Nt) (lv:Int) (W:AV) (k:Nat) (z:Nat) (H:Hp):Prop where
 b1:lk H.boxes 1=some [.lit (.int .i64 lv)]
 b2:lk H.boxes 2=some [.lit (.bool false)]
 b3:lk H.boxes 3=some [W]
 b4:lk H.boxes 4=some [.lit (.int .i64 (k:Int))]
 t:lk H.toks 12=some (JaL z)
 nx:13<=H.nx
def LK5 (j:Nat):Prop:=5<=j/\j≠12
theorem LD.kp{n:Nt}{lv:Int}{W:AV}{k z:Nat}{H H':Hp}(h:LD n lv W k z H)(kp:Kp (fun j=>¬ LK5 j) H H'):LD n lv W k z H':=by
 have q:∀ j,j<5->¬ LK5 j:=fun j hj h=>by have:=h.1;omega
 have hn:=h.nx;exact⟨(kp.bx _ (q _ (by omega)) (by omega)).trans h.b1,(kp.bx _ (q _ (by omega)) (by omega)).trans h.b2,(kp.bx _ (q _ (by omega)) (by omega)).trans h.b3,(kp.bx _ (q _ (by omega)) (by omega)).trans h.b4,(kp.tk _ (fun h=>h.2 rfl) (by omega)).trans h.t,Nat.le_trans hn kp.nx⟩
theorem Jrt(L:List (Nat × List Value))(n:Nt)(o:List Orc)(x:List UInt8)(hL:JdV L x)(at' md rule lv:Int)(ok:JcL n)(hx:x.length<=1000000000)(ho:o.length<=1000000000)(ha:∀ s,∀ e∈(n.states.getD s default).edges,e.acts.length<=Jfg)
  (hat : -9223372036854775808<=at'/\at'<=9223372036854775807) (hmd : -9223372036854775808<=md/\md<=9223372036854775807) :
  JR Tryz.prog 5 [.agg (Jh n),inV L x false,.vec (o.map Jb9) false,.lit (.int .i64 at'),.lit (.int .i64 md),.lit (.int .i64 rule),.lit (.int .i64 lv)] (.lit (.bool true)):=by
 refine JG (Jq Tryz.func5 rfl Tryz.ntmps5 (rs:=[.cell 14 4]) rfl (by simp) ?_);have hgr:=Jka L n x false false o ok hx ho;have gN:GP (.agg (Jh n)):=.of_pure (.agg (Jab _));have pN:Ab.Pure (.agg (Jh n)):=.agg (Jab _);have pO:Ab.Pure (.vec (o.map Jb9) false):=.vec (Ji Jbx _);have pI:=JaC L x false;obtain⟨g16,hg16⟩:∃ v,Jt1 n x.length o=v:=⟨_,rfl⟩;rw[hg16] at hgr;refine Jm ?_;refine Jj ?_;unfold inV at hgr pI ⊢;simp (disch:=omega) only[Wz,seval,Ly,Js,JK,Lx];refine Jm ?_;refine Jj ?_;simp (disch:=omega) only[Wz,seval,Ly,Js,JK,Lx,J6,Jay];refine JV JzQ hgr (Jb gN (Jb (.of_pure pI) (Jb (.of_pure pO) Jl))) (.lit _) ?_;cases g16 with
 | true =>
  simp (disch:=omega) only[Wz,seval,Ly,Js,JK,Lx];refine Je Joo Jc6 Jl (.lit _) ?_;simp (disch:=omega) only[Wz,seval,Ly,Js,JK,Lx];exact Ja (.lit _)
 | false =>
 obtain⟨mu,hx3,ho1⟩:=JzZ hg16 ha;have g:Jm8 n o x at' md:=⟨ok,by omega,by omega,hat,hmd⟩;obtain⟨k,fk⟩:=Jrs n o x at' md g;have hme:=JhN L n o x false hL at' md rule g mu k fk;have hre:=Jno L n o x false at' md rule g mu k fk;have hprops:=Jnc L n o x false hL at' md g;have hrp:=Jg7 L n o x false at' md g mu k fk;have hrise:=Jcr (ofB x);have hlk:=JzD g;have hun:=JgU (ofB x);obtain⟨hlen,hpos⟩:=Jcu g.len;obtain⟨X,e,hXe,hXl⟩:∃ (X:List Int) (e:Int),(if JeU n x at' md rule=true then AV.tup [.vec ((plV (JaX (ofB x)) (eF n o (JaX (ofB x)) md k rule.toNat (ixV (JaX (ofB x)) at'))).map Jhd) false,.lit (.int .i64 0)] else .tup [.vec [] false,.lit (.int .i64 (if okV n then 2 else 110))]) = .tup [.vec (X.map Jhd) false,.lit (.int .i64 e)]/\X.length<=1000000:=by
  cases hoe:JeU n x at' md rule with
  | false=>exact⟨[],if okV n then 2 else 110,by simp,by simp⟩
  | true =>
   refine⟨_,0,by rw[if_pos rfl],?_⟩;unfold JeU at hoe;simp only[Bool.and_eq_true,decide_eq_true_eq,List.any_eq_true] at hoe;obtain⟨h1,h2,⟨u,hu,hup⟩,h4,h5⟩:=hoe;obtain⟨a,hal,hau⟩:=List.getElem_of_mem hu;have hix:ixV (JaX (ofB x)) at'=a:=JhE (Jcr _) hal (by rw[List.getD_eq_getElem?_getD,List.getElem?_eq_getElem hal];simpa [hau] using hup);have:=JiD (JhC h1).1 (JgU (ofB x)) (o:=o) (md:=md) (k:=k) (r:=rule.toNat) (a:=a) (by omega) hal;rw[hix];unfold plV;rw[List.length_map];omega
 rw[hXe] at hme hre;obtain⟨l,hl⟩:∃ l,JaX (ofB x)=l:=⟨_,rfl⟩;rw[hl] at hprops hrp hrise hlk hun hlen hpos fk;unfold inV at hme hre hprops hrp;have pA:Ab.Pure (AV.tup [.vec (X.map Jhd) false,.lit (.int .i64 e)]):=.tup (Jb (.vec (Ji JeO _)) (Jb (.lit _) Jl));simp (disch:=omega) only[Wz,seval,Ly,Js,JK,Lx];refine Jm ?_;refine Jj ?_;simp (disch:=omega) only[Wz,seval,Ly,Js,JK,Lx,J6,Jay];refine Je JrS hme (Jb pN (Jb pI (Jb pO (Jb (.lit _) (Jb (.lit _) (Jb (.lit _) Jl)))))) pA ?_;simp (disch:=omega) only[Wz,seval,Ly,Js,JK,Lx];refine Jm ?_;refine Jj ?_;simp (disch:=omega) only[Wz,seval,Ly,Js,JK,Lx,J6,Jay];refine Je JxL hre (Jb pN (Jb pI (Jb pO (Jb (.lit _) (Jb (.lit _) (Jb (.lit _) Jl)))))) pA ?_;have b0:∀ z:Int,(z != z)=false:=fun z=>by simp
 simp (disch:=omega) only[Wz,seval,Ly,Js,JK,Lx];refine Jm ?_;refine Jj ?_;simp (disch:=omega) only[Wz,seval,Ly,Js,JK,Lx,b0];refine Jm ?_;refine Jm ?_;refine Jj ?_;simp (disch:=omega) only[Wz,seval,Ly,Js,JK,Lx];refine JX ?_;refine Jp (fun i:Nat=>⟨[(1,.wit L (.vec (x.map JaO) false)),(2,.vec (o.map Jb9) false),(3,.lit (.int .i64 at')),(4,.lit (.int .i64 md)),(7,.ptr 0 0),(13,.ptr 1 0),(14,.ptr 2 0),(15,.vec (X.map Jhd) false),(17,.vec (X.map Jhd) false),(19,.lit (.int .i64 (i:Int)))],⟨[(0,Jh n),(1,[.lit (.int .i64 lv)]),(2,[.lit (.bool false)])],[],3⟩,131⟩) (fun i=>i<=X.length) (fun i=>X.length - i) 0 (Jk (by simp[lk]) (fun _ _ e=>e) (fun _ _ e=>e) rfl rfl) (Nat.zero_le _) ?_;rintro i hi;refine Jm ?_;refine Jj ?_;rcases Nat.lt_or_ge i X.length with hlt | hge
 ·obtain⟨v,hv⟩:∃ v,X.getD i default=v:=⟨_,rfl⟩;simp (disch:=omega) only[Wz,seval,Ly,Js,JK,Lx];refine Jm ?_;refine JX ?_;refine Jm ?_;refine Jx (n:=131) rfl (by decide) mixed ?_;simp (disch:=omega) only[Wz,seval,Ly,Js,JK,Lx,hv,Jhd,b0];refine Jj ?_;simp (disch:=omega) only[Wz,seval,Ly,Js,JK,Lx];refine Jj ?_;simp (disch:=omega) only[Wz,seval,Ly,Js,JK,Lx];exact⟨i+1,hlt,by omega,Jk (by simp[lk,Jhd]) (fun _ _ e=>e) (fun _ _ e=>e) rfl rfl⟩
 have hie:i=X.length:=by omega
 subst hie;simp (disch:=omega) only[Wz,seval,Ly,Js,JK,Lx];obtain⟨ps,hps⟩:∃ ps,(if okV n=true/\(0<=md/\md<(n.modes.length:Int))/\∃ u∈l,(u.pos:Int)=at' then J0 n o l md k (ixV l at') n.rules.length else [])=ps:=⟨_,rfl⟩;rw[hps] at hrp;refine Jm ?_;refine Jj ?_;simp (disch:=omega) only[Wz,seval,Ly,Js,JK,Lx,J6,Jay];refine Je JxM hrp (Jb pN (Jb pI (Jb pO (Jb (.lit _) (Jb (.lit _) Jl))))) (.vec (Ji (Jmi l) _)) ?_;simp (disch:=omega) only[Wz,seval,Ly,Js,JK,Lx];refine Jm ?_;refine Jj ?_;simp (disch:=omega) only[Wz,seval,Ly,Js,JK,Lx];refine Jm ?_;refine Jj ?_;simp (disch:=omega) only[Wz,seval,Ly,Js,JK,Lx,J6,Jay];refine JE JxN (hprops _ ?_) ?_
 ·exact fun i hi=>JgP (N:=5) (by simp) hi
 by_cases hc:okV n=true/\(0<=md/\md<(n.modes.length:Int))/\∃ u∈l,(u.pos:Int)=at'
 ·rintro r0 h' (⟨hok,hmd',a,hal,hia,rfl,rfl⟩ | ⟨hno,rfl,rfl⟩);rotate_left
  ·exact absurd ⟨hc.2.1,hc.2.2⟩ (hno hc.1)
  rw[if_pos hc,JhE hrise hal hia] at hps;have hlk:=hlk hok;have fk:=fk hok;have hends:=fun r hr=>JiI hlk mu fk (JgO g.ok hok) r a hr hal
  have hru:=hlk.w.nru;have hpl:ps.length<=100:=by rw[<- hps];have:=JhG n o l md k a n.rules.length;omega
  simp (disch:=omega) only[Wz,seval,Ly,Js,JK,Lx];refine Jm ?_;refine Jj ?_;simp (disch:=omega) only[Wz,seval,Ly,Js,JK,Lx];refine Jm ?_;refine Jm ?_;refine Jj ?_;simp (disch:=omega) only[Wz,seval,Ly,Js,JK,Lx];refine JX ?_;refine Ja8 (σ':=⟨[(89,.fn (.func 38) [] [.ptr 11 0,.ptr 9 0,.ptr 10 0]),(13,.ptr 1 0),(14,.ptr 2 0),(20,.ptr 3 0),(21,.ptr 4 0)],⟨[(1,[.lit (.int .i64 lv)]),(2,[.lit (.bool false)]),(3,[.vec (ps.map (prR l)) false]),(4,[.lit (.int .i64 0)]),(8,Jap n o l md 7),(9,[.ptr 8 0]),(10,[.lit (.int .i64 (a:Int))]),(11,[.lit (.int .i64 0)])],[(7,J8 [])],12⟩,131⟩) (JaE (by simp[lk]) (by simp[lk]) (by simp[lk]) rfl rfl) ?_;refine JbS (gf:=38) (first:=[]) (lb:=[.ptr 11 0,.ptr 9 0,.ptr 10 0]) rfl JrW (fun p hp=>?_);obtain⟨C,hC⟩:∃ C:Nat->Hp->Prop,∀ i H,C i H↔LD n lv (.vec (ps.map (prR l)) false) (J0 n o l md k a i).length 1 H:=⟨fun i H=>LD n lv (.vec (ps.map (prR l)) false) (J0 n o l md k a i).length 1 H,fun _ _=>Iff.rfl⟩;obtain⟨Z,hZ⟩:∃ Z:Hp->Prop,∀ H,Z H↔∃ kk:Nat,(kk:Int)=lv/\LD n lv (.vec (ps.map (prR l)) false) kk 8 H:=⟨fun H=>∃ kk:Nat,(kk:Int)=lv/\LD n lv (.vec (ps.map (prR l)) false) kk 8 H,fun _=>Iff.rfl⟩;refine JU.mono (Jty hlk a hal hends hpos LK5 13 8 7 9 10 11 (by unfold LK5;decide) (by unfold LK5;decide) (by unfold LK5;decide) (by unfold LK5;decide) (by unfold LK5;decide) (fun j hj=>⟨by omega,by omega⟩) C Z (fun i H H' h kp=>?_) (fun H H' h kp=>?_) (fun i H hi hn h=>?_) (fun i y H hi hs h hMH fb ft=>?_) _ ?_ (Nat.le_refl _) rfl rfl rfl ⟨[],.nil,rfl,rfl,by decide,by show 8<13;decide,by show 7<13;decide,rfl,fun i hi=>JgP (N:=13) (by simp[Hp.addLp]) hi,fun i hi=>JgP (N:=13) (by simp[Hp.addLp]) hi⟩ (by show 9<13;decide)) ?_
  ·rw[hC] at h ⊢;exact h.kp kp
  ·rw[hZ] at h ⊢;obtain⟨kk,h1,h2⟩:=h;exact⟨kk,h1,h2.kp kp⟩
  ·rw[hC] at h ⊢;rw[JaK,hn];simpa using h
  ·
   rw[hC] at h;obtain⟨rest,hrest⟩:=Jnp n o l md k a (i+1) n.rules.length hi;rw[hps,JaK,hs] at hrest;have hln:(J0 n o l md k a (i+1)).length=(J0 n o l md k a i).length+1:=by rw[JaK,hs];simp
   obtain⟨P0,hP0⟩:∃ P0,J0 n o l md k a i=P0:=⟨_,rfl⟩;rw[hP0] at h hrest hln;have hlt:P0.length<ps.length:=by rw[hrest];simp
   have hget:ps.getD P0.length default=(i,y):=by rw[hrest];simp
   obtain⟨u,hu⟩:∃ u,l.getD y.pos default=u:=⟨_,rfl⟩;rw[hu];obtain⟨b1,b2,b3,b4,bt,bn⟩:=h;refine hp _ _ _ ⟨bt,rfl,?_⟩;refine Jj ?_;simp (disch:=omega) only[Wz,seval,Ly,Js,JK,Lx,putL];refine⟨bt,?_⟩;refine Ja8 (σ':=⟨[(23,.lit (.int .i64 (i:Int))),(24,.lit (.int .i64 (u.pos:Int))),(13,.ptr 1 0),(14,.ptr 2 0),(20,.ptr 3 0),(21,.ptr 4 0)],⟨H.boxes,up H.toks 12 (JaL 2),H.nx⟩,131⟩) (Jk (by simp[lk]) (fun _ _ e=>e) (fun _ _ e=>e) rfl rfl) ?_;have hrow:prR l (i,y)=[.lit (.int .i64 (i:Int)),.lit (.int .i64 (u.pos:Int)),.vec (y.acts.map JA) false]:=by unfold prR;simp only;rw[hu]
   have bi:((i:Int) != (i:Int))=false:=by simp
   have bu:((u.pos:Int) != (u.pos:Int))=false:=by simp
   have ub:∀ c,lk (up H.boxes 4 c) 4=some c:=fun c=>by rw[JH,if_pos rfl,b4];rfl
   have ub1:∀ c,lk (up H.boxes 4 c) 1=some [.lit (.int .i64 lv)]:=fun c=>by rw[JH,if_neg (by decide)];exact b1
   have hq:∀ c,lk (up H.toks 12 c) 12=some c:=fun c=>by rw[JH,if_pos rfl,bt];rfl
   refine JX ?_;refine Jm ?_;refine Jj ?_;simp (disch:=omega) only[Wz,seval,Ly,Js,JK,Lx,b1,b2,b3,b4,hget,hrow,bi,bu];refine Jm ?_;refine Jj ?_;simp (disch:=omega) only[Wz,seval,Ly,Js,JK,Lx,b4];refine Jm ?_;refine Jj ?_;have hcast:((P0.length:Int)+1)=((P0.length+1:Nat):Int):=by omega
   have kp:∀ c z,Kp LK5 H ⟨up H.boxes 4 c,up (up H.toks 12 (JaL 2)) 12 (JaL z),H.nx⟩:=fun c z=>by
    refine⟨Nat.le_refl _,fun j hj _=>?_,fun j hj _=>?_,fun j hj=>?_,fun j hj=>?_⟩
    ·show lk (up H.boxes 4 _) j=_;rw[JH,if_neg (by have:=hj.1;omega)]
    ·show lk (up (up H.toks 12 _) 12 _) j=_;rw[JH,if_neg (fun q=>hj.2 q.symm),JH,if_neg (fun q=>hj.2 q.symm)]
    ·have hj:H.nx<=j:=hj;show lk (up H.boxes 4 _) j=_;rw[JH,if_neg (by omega)];exact fb j hj
    ·have hj:H.nx<=j:=hj;show lk (up (up H.toks 12 _) 12 _) j=_;rw[JH,if_neg (by omega),JH,if_neg (by omega)];exact ft j hj
   have ld:∀ z,LD n lv (.vec (ps.map (prR l)) false) (P0.length+1) z ⟨up H.boxes 4 [.lit (.int .i64 ((P0.length+1:Nat):Int))],up (up H.toks 12 (JaL 2)) 12 (JaL z),H.nx⟩:=fun z=>by
    have ub':∀ j c,j≠4->lk H.boxes j=some c->lk (up H.boxes 4 [AV.lit (.int .i64 ((P0.length+1:Nat):Int))]) j=some c:=fun j c hj hc=>by rw[JH,if_neg (Ne.symm hj)];exact hc
    exact⟨ub' _ _ (by decide) b1,ub' _ _ (by decide) b2,ub' _ _ (by decide) b3,ub _,by show lk (up (up H.toks 12 _) 12 _) 12=_;rw[JH,if_pos rfl,hq];rfl,bn⟩
   by_cases hbr:((P0.length:Int)+1)=lv
   ·have c1:(((P0.length:Int)+1)==lv)=true:=Jgv hbr;simp (disch:=omega) only[Wz,seval,Ly,Js,JK,Lx,ub,ub1,c1];refine Jj ?_;simp (disch:=omega) only[Wz,seval,Ly,Js,JK,Lx];rw[hcast];refine⟨⟨[],⟨up H.boxes 4 [.lit (.int .i64 ((P0.length+1:Nat):Int))],up H.toks 12 (JaL 2),H.nx⟩,131⟩,Jk (by simp) (fun _ _ e=>e) (fun _ _ e=>e) rfl rfl,hq _,kp _ 8,.inr ⟨rfl,(hZ _).2 ⟨P0.length+1,by omega,ld 8⟩⟩⟩
   ·have c1:(((P0.length:Int)+1)==lv)=false:=JjN hbr;simp (disch:=omega) only[Wz,seval,Ly,Js,JK,Lx,ub,ub1,c1];refine Jj ?_;simp (disch:=omega) only[Wz,seval,Ly,Js,JK,Lx];rw[hcast];refine⟨⟨[],⟨up H.boxes 4 [.lit (.int .i64 ((P0.length+1:Nat):Int))],up H.toks 12 (JaL 2),H.nx⟩,131⟩,Jk (by simp) (fun _ _ e=>e) (fun _ _ e=>e) rfl rfl,hq _,kp _ 1,.inl ⟨rfl,(hC _ _).2 (by rw[hln];exact ld 1)⟩⟩
  ·rw[hC];exact⟨rfl,rfl,rfl,rfl,rfl,Nat.le_refl _⟩
  ·rintro r0 H' ⟨rfl,hH | hH⟩
   ·rw[hC,hps] at hH;refine⟨1,Nat.le_refl _,by decide,hH.t,.inl ⟨rfl,?_⟩⟩;show Aw _ _ _ _;refine Ja8 (σ':=⟨[(13,.ptr 1 0),(14,.ptr 2 0),(20,.ptr 3 0),(21,.ptr 4 0)],⟨[(1,[.lit (.int .i64 lv)]),(2,[.lit (.bool false)]),(3,[.vec (ps.map (prR l)) false]),(4,[.lit (.int .i64 (ps.length:Int))])],[],H'.nx⟩,131⟩) (JaE (by simp[lk]) (Jb hH.b1 (Jb hH.b2 (Jb hH.b3 (Jb hH.b4 Jl)))) Jl rfl rfl) ?_;have c1:((ps.length:Int)==(ps.length:Int))=true:=by simp
    refine Jm ?_;refine Jj ?_;simp (disch:=omega) only[Wz,seval,Ly,Js,JK,Lx,c1];refine Je Joo Jc6 Jl (.lit _) ?_;simp (disch:=omega) only[Wz,seval,Ly,Js,JK,Lx];refine Jj ?_;simp (disch:=omega) only[Wz,seval,Ly,Js,JK,Lx];exact Ja (.lit _)
   ·rw[hZ] at hH;obtain⟨kk,hkl,hH⟩:=hH;refine⟨8,by decide,by decide,hH.t,.inr (.inr (.inl ⟨2,rfl,?_⟩))⟩;show Aw _ _ _ _;refine Ja8 (σ':=⟨[(13,.ptr 1 0),(14,.ptr 2 0),(20,.ptr 3 0),(21,.ptr 4 0)],⟨[(1,[.lit (.int .i64 lv)]),(2,[.lit (.bool false)]),(3,[.vec (ps.map (prR l)) false]),(4,[.lit (.int .i64 (kk:Int))])],[],H'.nx⟩,131⟩) (JaE (by simp[lk]) (Jb hH.b1 (Jb hH.b2 (Jb hH.b3 (Jb hH.b4 Jl)))) Jl rfl rfl) ?_;have c2:((kk:Int)==lv)=true:=Jgv hkl;refine Jm ?_;refine Jj ?_;cases c1:((kk:Int)==(ps.length:Int)) with
    | true =>
     simp (disch:=omega) only[Wz,seval,Ly,Js,JK,Lx,c1];refine Je Joo Jc6 Jl (.lit _) ?_;simp (disch:=omega) only[Wz,seval,Ly,Js,JK,Lx];refine Jj ?_;simp (disch:=omega) only[Wz,seval,Ly,Js,JK,Lx];exact Ja (.lit _)
    | false =>
     simp (disch:=omega) only[Wz,seval,Ly,Js,JK,Lx,c1,c2];refine Je Joo Jc6 Jl (.lit _) ?_;simp (disch:=omega) only[Wz,seval,Ly,Js,JK,Lx];refine Jj ?_;simp (disch:=omega) only[Wz,seval,Ly,Js,JK,Lx];exact Ja (.lit _)
 ·rintro r0 h' (⟨hok,hmd',a,hal,hia,rfl,rfl⟩ | ⟨hno,rfl,rfl⟩)
  ·exact absurd ⟨hok,hmd',_,Ju hal,hia⟩ hc
  rw[if_neg hc] at hps;subst hps;obtain⟨e2,he⟩:∃ e2:Int,(if okV n=true then 2 else 110)=e2:=⟨_,rfl⟩;have hne0:e2≠0:=by
   rw[<- he];split <;> decide
  rw[he];simp (disch:=omega) only[Wz,seval,Ly,Js,JK,Lx];refine Jm ?_;refine Jj ?_;simp (disch:=omega) only[Wz,seval,Ly,Js,JK,Lx];refine Jm ?_;refine Jm ?_;refine Jj ?_;simp (disch:=omega) only[Wz,seval,Ly,Js,JK,Lx];refine JX ?_;refine Ja8 (σ':=⟨[(89,.fn (.func 38) [] [.ptr 9 0,.ptr 7 0,.ptr 8 0]),(13,.ptr 1 0),(14,.ptr 2 0),(20,.ptr 3 0),(21,.ptr 4 0)],⟨[(1,[.lit (.int .i64 lv)]),(2,[.lit (.bool false)]),(3,[.vec [] false]),(4,[.lit (.int .i64 0)]),(9,[.lit (.int .i64 e2)])],[],10⟩,131⟩) (JaE (by simp[lk]) (by simp[lk]) (by simp) rfl rfl) ?_;refine JbS (gf:=38) (first:=[]) (lb:=[.ptr 9 0,.ptr 7 0,.ptr 8 0]) rfl JrW (fun p hp=>?_);refine JU.mono (Jtz hne0 _ rfl) ?_;rintro r0 H' ⟨rfl,rfl⟩;refine⟨1,Nat.le_refl _,by decide,rfl,.inl ⟨rfl,?_⟩⟩;show Aw _ _ _ _;refine Ja8 (σ':=⟨[(13,.ptr 1 0),(14,.ptr 2 0),(20,.ptr 3 0),(21,.ptr 4 0)],⟨[(1,[.lit (.int .i64 lv)]),(2,[.lit (.bool false)]),(3,[.vec [] false]),(4,[.lit (.int .i64 0)])],[],12⟩,131⟩) (JaE (by simp[lk]) (by simp[lk,Hp.addLp,Hp.unlp]) (by simp) rfl rfl) ?_;have c1:((0:Int)==0)=true:=by decide
  refine Jm ?_;refine Jj ?_;simp (disch:=omega) only[Wz,seval,Ly,Js,JK,Lx,c1];refine Je Joo Jc6 Jl (.lit _) ?_;simp (disch:=omega) only[Wz,seval,Ly,Js,JK,Lx];refine Jj ?_;simp (disch:=omega) only[Wz,seval,Ly,Js,JK,Lx];exact Ja (.lit _)
end Go.Proofs.Y
end
section
namespace Go.Proofs.Y
open Go Go.Ab
open Go.Proofs.Tryz renaming prog->Pg
mutual
def gz:Gd->Nat
 | .mk _ _ name kids=>1+name.size+gzs kids
def gzs:List Gd->Nat
 | []=>0
 | g :: l=>gz g+gzs l
end
theorem JpW(l:List Gd):gzs l=(l.map gz).sum:=by induction l with | nil=>rfl | cons x l ih=>simp[gzs,ih]
theorem JtN(g:Gd):gz g=1+g.name.size+(g.kids.map gz).sum:=by cases g;simp only[gz,JpW];rfl
theorem Jzh{l:List Gd}{f g:Gd->Nat}(h:∀ x∈l,f x<=g x):(l.map f).sum<=(l.map g).sum:=by
 induction l with
 | nil=>simp
 | cons x l ih =>
  simp only[List.map_cons,List.sum_cons];have:=h x (by simp);have:=ih (fun y hy=>h y (by simp[hy]));omega
theorem Jz7:∀ (m:Nat) (g:Gd),gz g<=m->m<=1000000000->Jnu g/\gsz g<=gz g:=by
 intro m;induction m using Nat.strongRecOn with
 | _ m ih =>
  intro g h hm;have hk:∀ k∈g.kids,Jnu k/\gsz k<=gz k:=fun k hk=>by
   have h1:=JdR (List.mem_map_of_mem (f:=gz) hk);have h2:=JtN g;exact ih (gz k) (by omega) k (Nat.le_refl _) (by omega)
  refine⟨.mk (by have:=JtN g;omega) fun k hk'=>(hk k hk').1,?_⟩;rw[JlO,JtN];have:=Jzh fun x hx=>(hk x hx).2
  omega
abbrev RgS:Type:={p:Int × Int // (-2147483648<=p.1/\p.1<=2147483647)/\(-2147483648<=p.2/\p.2<=2147483647)}
abbrev EdS:Type:={e:Ed // JjS e.set}
abbrev StS:Type:={s:Sta // ∀ e∈s.edges,JjS e.set}
def edz (e:Ed):Nat:=1+e.set.length+gz e.g+e.acts.length
def stz (s:Sta):Nat:=1+(s.edges.map edz).sum
def nrz (r:Nr):Nat:=1+r.name.size
def baz (s:ByteArray):Nat:=1+s.size
def ntz (n:Nt):Nat:=1+(n.types.map baz).sum+(n.channels.map baz).sum+(n.modes.map baz).sum+(n.rules.map nrz).sum+(n.states.map stz).sum
theorem Jsn{z:Int}(h:(Lit.int .i32 z).wf=true) : -2147483648<=z/\z<=2147483647:=by
 simp only[Lit.wf,Bool.and_eq_true,decide_eq_true_eq] at h;have e1:IntKind.i32.min = -2147483648:=by decide
 have e2:IntKind.i32.max=2147483647:=by decide
 omega
theorem Jlw{α:Type}{P:α->Prop}(l:List {a // P a}):∀ a∈l.map (fun x=>x.1),P a:=fun a h=>by
 obtain⟨x,_,rfl⟩:=List.mem_map.1 h;exact x.2
section
variable {H:Type} {en:TypeId × Value->H} {W:World}
theorem Jz8(n:Nat):Rd en Pg W n 94 (fun av m=>∃ t:Gd,av=JaZ t/\gz t<=m):=by
 induction n using Nat.strongRecOn with
 | _ n ih =>
  refine(Rd.struct' Juj rfl fun k hk=>.cons JrP (.int JrP rfl) (.cons ty2 (.int ty2 rfl) (.cons ty9 (.str ty9 rfl)
   (.cons Jzu (.slice' Jzu rfl Juj (by decide) (f:=JaZ) (sz:=gz) fun j hj=>ih j (by omega)) (.nil (by decide)))))).mono ?_
  rintro av m ⟨q,h,rfl⟩;obtain⟨_,_,_,_,rfl,⟨z1,w1,rfl⟩,h,rfl⟩:=h;obtain⟨_,_,_,_,rfl,⟨z2,_,rfl⟩,h,rfl⟩:=h;obtain⟨_,_,_,_,rfl,⟨s,hs,hs2,rfl⟩,h,rfl⟩:=h;obtain⟨_,_,_,_,rfl,⟨l,rfl,hl,_⟩,rfl,rfl⟩:=h;exact⟨.mk ⟨z1,Jyz w1⟩ z2 s l,by simp[JaZ,Jgp],by simp only[gz,JpW];omega⟩
theorem Jru(n:Nat):Rd en Pg W n 150 (fun av m=>∃ t:RgS,av=Jbi t.1/\1<=m):=by
 refine(Rd.struct' Jqn rfl fun k hk=>.cons JtU (.int JtU rfl) (.cons JtU (.int JtU rfl) (.nil (by decide)))).mono ?_;rintro av m ⟨q,h,rfl⟩;obtain⟨_,_,_,_,rfl,⟨z1,w1,rfl⟩,h,rfl⟩:=h;obtain⟨_,_,_,_,rfl,⟨z2,w2,rfl⟩,rfl,rfl⟩:=h;exact⟨⟨(z1,z2),Jsn w1,Jsn w2⟩,rfl,by omega⟩
theorem Jz9(n:Nat):Rd en Pg W n 96 (fun av m=>∃ t:EdS,av=Jo t.1/\edz t.1<=m):=by
 refine(Rd.struct' Jzv rfl fun k hk=>.cons JrP (.int JrP rfl) (.cons Jzt (.slice' Jzt rfl Jqn (by decide) (f:=fun t:RgS=>Jbi t.1) (sz:=fun _=>1) fun j _=>Jru j)
  (.cons ty3 (.int ty3 rfl) (.cons ty3 (.int ty3 rfl) (.cons Juj (Jz8 k)
  (.cons JtW (.slice' JtW rfl Jui (by decide) (f:=JA) (sz:=fun _=>1) fun j _=>JyA j) (.cons ty3 (.int ty3 rfl) (.nil (by decide))))))))).mono ?_
 rintro av m ⟨q,h,rfl⟩;obtain⟨_,_,_,_,rfl,⟨z1,w1,rfl⟩,h,rfl⟩:=h;obtain⟨_,_,_,_,rfl,⟨st,rfl,_,hs⟩,h,rfl⟩:=h;obtain⟨_,_,_,_,rfl,⟨z2,_,rfl⟩,h,rfl⟩:=h;obtain⟨_,_,_,_,rfl,⟨z3,_,rfl⟩,h,rfl⟩:=h;obtain⟨_,_,_,_,rfl,⟨g,rfl,hg⟩,h,rfl⟩:=h;obtain⟨_,_,_,_,rfl,⟨ac,rfl,_,ha⟩,h,rfl⟩:=h;obtain⟨_,_,_,_,rfl,⟨z4,_,rfl⟩,rfl,rfl⟩:=h;have hst:JjS (st.map fun x=>x.1):=Jlw st;exact⟨⟨⟨⟨z1,Jyz w1⟩,st.map (fun x=>x.1),z2,z3,g,ac,z4⟩,hst⟩,by simp[Jo,Jy,List.map_map,Function.comp_def],by simp only[edz,List.length_map];omega⟩
theorem Jzi(n:Nat):Rd en Pg W n 87 (fun av m=>∃ t:StS,av=Jd t.1/\stz t.1<=m):=by
 refine(Rd.struct' Jzs rfl fun k hk=>.cons ty3 (.int ty3 rfl) (.cons Jzr (.slice' Jzr rfl Jzv (by decide) (f:=fun t:EdS=>Jo t.1) (sz:=fun t:EdS=>edz t.1) fun j _=>Jz9 j) (.nil (by decide)))).mono ?_;rintro av m ⟨q,h,rfl⟩;obtain⟨_,_,_,_,rfl,⟨z1,_,rfl⟩,h,rfl⟩:=h;obtain⟨_,_,_,_,rfl,⟨l,rfl,hl,_⟩,rfl,rfl⟩:=h;exact⟨⟨⟨z1,l.map (fun x=>x.1)⟩,Jlw l⟩,by simp[Jd,List.map_map,Function.comp_def],by simp only[stz,List.map_map,Function.comp_def];omega⟩
theorem JAa(n:Nat):Rd en Pg W n 39 (fun av m=>∃ t:Nr,av=Jc t/\nrz t<=m):=by
 refine(Rd.struct' Jzq rfl fun k hk=>.cons ty9 (.str ty9 rfl) (.cons ty4 (.bool ty4 rfl) (.cons ty4 (.bool ty4 rfl) (.cons ty4 (.bool ty4 rfl) (.cons ty4 (.bool ty4 rfl)
  (.cons ty3 (.int ty3 rfl) (.cons ty3 (.int ty3 rfl) (.cons ty3 (.int ty3 rfl) (.cons ty3 (.int ty3 rfl) (.nil (by decide))))))))))).mono ?_
 rintro av m ⟨q,h,rfl⟩;obtain⟨_,_,_,_,rfl,⟨s,hs,hs2,rfl⟩,h,rfl⟩:=h;obtain⟨_,_,_,_,rfl,⟨b1,rfl⟩,h,rfl⟩:=h;obtain⟨_,_,_,_,rfl,⟨b2,rfl⟩,h,rfl⟩:=h;obtain⟨_,_,_,_,rfl,⟨b3,rfl⟩,h,rfl⟩:=h;obtain⟨_,_,_,_,rfl,⟨b4,rfl⟩,h,rfl⟩:=h;obtain⟨_,_,_,_,rfl,⟨z1,_,rfl⟩,h,rfl⟩:=h;obtain⟨_,_,_,_,rfl,⟨z2,_,rfl⟩,h,rfl⟩:=h;obtain⟨_,_,_,_,rfl,⟨z3,_,rfl⟩,h,rfl⟩:=h;obtain⟨_,_,_,_,rfl,⟨z4,_,rfl⟩,rfl,rfl⟩:=h;exact⟨⟨s,b1,b2,b3,b4,z1,z2,z3,z4⟩,rfl,by simp only[nrz];omega⟩
theorem Jzj(n:Nat):Rd en Pg W n 9 (fun av m=>∃ t:ByteArray,av=JaG t/\baz t<=m):=by
 refine(Rd.str ty9 rfl).mono ?_;rintro av m ⟨s,_,hs,rfl⟩;exact⟨s,rfl,by simp only[baz];omega⟩
theorem JAb(n:Nat):Rd en Pg W n 26 (fun av m=>∃ t:Nt,av=Jh t/\ntz t<=m/\∀ s∈t.states,∀ e∈s.edges,JjS e.set):=by
 have ws:∀ k,Rd en Pg W k 22 (fun av m=>∃ l:List ByteArray,av=[.vec (l.map JaG) false]/\(l.map baz).sum+1<=m/\l.length+1<=m):=fun k =>
  .slice' JtV rfl ty9 (by decide) (f:=JaG) (sz:=baz) fun j _=>Jzj j
 refine(Rd.struct' JzM rfl fun k hk=>.cons JtV (ws k) (.cons JtV (ws k) (.cons JtV (ws k)
  (.cons Jzo (.slice' Jzo rfl Jzq (by decide) (f:=Jc) (sz:=nrz) fun j _=>JAa j)
  (.cons Jzp (.slice' Jzp rfl Jzs (by decide) (f:=fun t:StS=>Jd t.1) (sz:=fun t:StS=>stz t.1) fun j _=>Jzi j) (.nil (by decide))))))).mono ?_
 rintro av m ⟨q,h,rfl⟩;obtain⟨_,_,_,_,rfl,⟨l1,rfl,h1,_⟩,h,rfl⟩:=h;obtain⟨_,_,_,_,rfl,⟨l2,rfl,h2,_⟩,h,rfl⟩:=h;obtain⟨_,_,_,_,rfl,⟨l3,rfl,h3,_⟩,h,rfl⟩:=h;obtain⟨_,_,_,_,rfl,⟨l4,rfl,h4,_⟩,h,rfl⟩:=h;obtain⟨_,_,_,_,rfl,⟨l5,rfl,h5,_⟩,rfl,rfl⟩:=h;exact⟨⟨l1,l2,l3,l4,l5.map (fun x=>x.1)⟩,by simp[Jh,List.map_map,Function.comp_def],by simp only[ntz,List.map_map,Function.comp_def];omega,Jlw l5⟩
theorem JtO{n:Nt}(h:ntz n<=100000000)(p:∀ s∈n.states,∀ e∈s.edges,JjS e.set):JcL n:=by
 unfold ntz at h;have b1:=Jet baz (fun t=>by unfold baz;omega) n.types;have b2:=Jet baz (fun t=>by unfold baz;omega) n.channels;have b3:=Jet baz (fun t=>by unfold baz;omega) n.modes;have b4:=Jet nrz (fun t=>by unfold nrz;omega) n.rules;have b5:=Jet stz (fun t=>by unfold stz;omega) n.states;have sb:∀ (l:List ByteArray),(l.map baz).sum<=100000000->∀ s∈l,s.size<=9000000000000000000:=fun l hl s hs=>by
  have:=JdR (List.mem_map_of_mem (f:=baz) hs);unfold baz at this hl;omega
 refine⟨by omega,by omega,by omega,by omega,by omega,sb _ (by omega),sb _ (by omega),sb _ (by omega),fun r hr=>?_,fun s hs=>?_⟩
 ·have:=JdR (List.mem_map_of_mem (f:=nrz) hr);have e:nrz r=1+r.name.size:=rfl;omega
 ·have h1:=JdR (List.mem_map_of_mem (f:=stz) hs);have e1:stz s=1+(s.edges.map edz).sum:=rfl;have h2:=Jet edz (fun t=>by unfold edz;omega) s.edges;refine⟨by omega,fun e he=>?_⟩;have h3:=JdR (List.mem_map_of_mem (f:=edz) he);have e2:edz e=1+e.set.length+gz e.g+e.acts.length:=rfl;obtain⟨q1,q2⟩:=Jz7 _ e.g (Nat.le_refl _) (by omega);exact⟨by omega,by omega,by omega,q1,p s hs e he⟩
theorem JtP(n:Nat):Rd en Pg W n 28 (fun av m=>∃ l:List Orc,av=[.vec (l.map Jb9) false]/\l.length<=m) :=
 (Rd.slice' JzN rfl Jqq (by decide) (f:=Jb9) (sz:=fun _=>1) fun j _=>JyB j).mono fun av m ⟨l,h1,_,h2⟩=>⟨l,h1,by omega⟩
theorem Jmj(n:Nat):Rd en Pg W n 3 (fun av m=>∃ z:Int,av=[.lit (.int .i64 z)]/\(-9223372036854775808<=z/\z<=9223372036854775807)):=by
 refine(Rd.int ty3 rfl).mono ?_;rintro av m ⟨z,hz,rfl⟩;simp only[Lit.wf,Bool.and_eq_true,decide_eq_true_eq] at hz;have e1:IntKind.i64.min = -9223372036854775808:=by decide
 have e2:IntKind.i64.max=9223372036854775807:=by decide
 exact⟨z,rfl,by omega⟩
theorem JAc(n:Nat):Rd en Pg W n 5 (fun av m=>∃ t:UInt8,av=JaO t/\0<=m):=by
 refine(Rd.int ty5 rfl).mono ?_;rintro av m ⟨z,hz,rfl⟩;simp only[Lit.wf,Bool.and_eq_true,decide_eq_true_eq] at hz;have e1:IntKind.u8.min=0:=by decide
 have e2:IntKind.u8.max=255:=by decide
 refine⟨UInt8.ofNat z.toNat,?_,Nat.zero_le _⟩;unfold JaO;have:((UInt8.ofNat z.toNat).toNat:Int)=z:=by
  rw[UInt8.toNat_ofNat'];omega
 rw[this]
theorem Jrv(n:Nat):Rd en Pg W n 27 (fun av m=>∃ l:List UInt8,av=[.vec (l.map JaO) false]/\l.length<=m) :=
 (Rd.slice' JsB rfl ty5 (by decide) (f:=JaO) (sz:=fun _=>0) fun j _=>JAc j).mono fun av m ⟨l,h1,_,h2⟩=>⟨l,h1,by omega⟩
end
theorem JtQ{n:Nt}{M:Nat}(h:ntz n<=M):∀ s,∀ e∈(n.states.getD s default).edges,e.acts.length<=M:=fun s e he=>by
 rcases Nat.lt_or_ge s n.states.length with hs | hs
 ·unfold ntz at h;have h1:=JdR (List.mem_map_of_mem (f:=stz) (Ju hs));have e1:stz (n.states.getD s default)=1+((n.states.getD s default).edges.map edz).sum:=rfl;have h3:=JdR (List.mem_map_of_mem (f:=edz) he);have e2:edz e=1+e.set.length+gz e.g+e.acts.length:=rfl;omega
 ·have:n.states.getD s default=default:=by rw[List.getD_eq_getElem?_getD,List.getElem?_eq_none hs];rfl
  rw[this] at he;cases he
end Go.Proofs.Y
end
section
namespace Go.Proofs.Y
open Go Go.Ab Go.RowKit Go.ChangeShapes
section
variable {H:Type} {enc:TypeId × Value->H} {P:Program}
theorem Jai.below{W W':World}(h:Jai (fun _=>False) W W'):Below W.heap.size W W':=⟨h.os,h.tape,h.output,h.size,fun b hb=>h.block b hb (fun q=>q)⟩
theorem JeV(hl:laidOutB P=true){W W':World}(hb:Below W.heap.size W W'){sp:Nat->Bool}:∀ {ts:List TypeId} {vs:List Value} {ds:List (DataW H)} {ps:List MemPlace},
  (∀ t∈ts,P.readableRec t=true/\t<P.types.size)->DataW.TrodAll enc P W 0 (fun _=>true) true ts vs ds ps->(∀ p∈ps,p.block<W.heap.size/\sp p.block=true)->DataW.TrodAll enc P W' 0 sp true ts vs ds ps
 | [],vs,ds,ps,_,h,_=>by
  obtain⟨rfl,rfl,rfl⟩:=trodAll_nil h;exact trodAll_mk0
 | t :: ts,_,_,_,ht,h,hp=>by
  obtain⟨v,vs',d,ds',p,q,rfl,rfl,rfl,h1,h2⟩:=trodAll_cons h;obtain⟨hr,hrow⟩:=ht t (by simp);exact⟨p,q,WideElems.Trod_stays hl hr hrow h1 (fun x hx=>hb.same (hp x (by simp[hx])).1) (fun x hx=>(hp x (by simp[hx])).2),
   JeV hl hb (fun t' h'=>ht t' (by simp[h'])) h2 (fun x hx=>hp x (by simp[hx])),rfl⟩
theorem Jrw{f:Func}{s:ChangeSpec}{apart fresh handsOn again:Bool}{W W':World}{args:Array Value}{ds gs:List (DataW H)}{before:List MemPlace}{tb:TypeId}
  (hW:DataW.Whole enc P f.params.toList s.vars apart W args.toList ds gs before) (hv:s.vars=[]) (hs:s.fn H ds={results:=[.lit (.bool true)],args:=ds})
  (hl:laidOutB P=true) (hp:(f.params.toList.all fun t=>P.readableRec t && decide (t<P.types.size))=true) (hres:f.resultTypes = #[tb]) (htb:P.underlying tb=some .bool)
  (hk:Jai (fun _=>False) W W'):s.post enc P f apart fresh handsOn again W args (.bool true) W':=by
 have hb:=Jai.below hk;have hlt:=hW.lt;have hW0:=hW;have hpar:∀ t∈f.params.toList,P.readableRec t=true/\t<P.types.size:=fun t ht=>by
  have:=List.all_eq_true.1 hp t ht;simpa using this
 obtain⟨p,q,h1,h2,rfl,hz,hn⟩:=hW;rw[hv] at h2;obtain⟨rfl,rfl⟩:=trodVars_none h2;have hfn:s.fn H (ds++[])={results:=[.lit (.bool true)],args:=ds}:=by rw[List.append_nil];exact hs
 have hr:∀ (b:Nat) (sp:Nat->Bool) (hd:Bool),DataW.TrodAll enc P W' b sp hd f.resultTypes.toList ((Value.bool true).resultList f.resultTypes.size) [.lit (.bool true)] []:=fun b sp hd=>by
  rw[hres];exact trodAll_cons_mk (shut_bool htb true) trodAll_mk0
 have ha:∀ sp:Nat->Bool,(∀ x∈p,sp x.block=true)->DataW.TrodAll enc P W' 0 sp true f.params.toList args.toList ds p:=fun sp hsp =>
  JeV hl hb hpar h1 (fun x hx=>⟨hlt x (by simp[hx]),hsp x hx⟩)
 refine⟨ds,[],p++[],[],p,[],hW0,?_,?_,?_,hb.frame _,fun _=>⟨?_,.lit (.bool true) :: ds,[],p++[],?_,fun x hx _=>hx⟩⟩
 ·rw[hfn];exact hr _ _ _
 ·rw[hfn];exact ha _ (fun x hx=>by simpa using hlt x (by simp[hx]))
 ·rw[hfn,hv];rfl
 ·exact ok_one hres rfl (okWide_bool_mk htb true)
 ·refine⟨p,[],?_,by rw[hv];rfl,rfl,fun b off hx=>?_,fun hap=>hn hap⟩
  ·exact trodAll_append (p:=[]) (ha (fun _=>true) (fun _ _=>rfl)) (hr 0 (fun _=>true) true)
  ·have hlt':=hlt _ hx;exact(World.frozen?_of_block (w:=W) (hb.block b hlt')).trans (hz b off hx)
end
end Go.Proofs.Y
end
section
namespace Go.Proofs.Y
open Go Go.Ab Go.RowKit Go.ChangeShapes
def Jso:Go.Shelf.Ren:=⟨id,fun | 5=>5 | 119=>211 | 138=>213 | 139=>214 | n=>n,fun | 3=>0 | 4=>1 | n=>n⟩
theorem Jrx:U8Types Tryz.prog Jso:=⟨Tryz.underlying5,Tryz.underlying211,Tryz.underlying213,Tryz.underlying214⟩
theorem Jry:U8Extra Tryz.prog Jso:=⟨by kernel_rfl,by kernel_rfl,by kernel_rfl,by kernel_rfl,by kernel_rfl,by kernel_rfl,by kernel_rfl⟩
theorem JtR{W:World}(h:laidMetH Tryz.prog [("unicode/utf8.acceptRanges",YtgbbhilflgekhaaGreatDoor.Rows.laid_unicode_utf8_acceptRanges),("unicode/utf8.first",YtgbbhilflgekhaaGreatDoor.Rows.laid_unicode_utf8_first)] W):Lib.Utf8Tabs 0 1 W:=by
 have e1:YtgbbhilflgekhaaGreatDoor.Rows.laid_unicode_utf8_acceptRanges=Go.Lib.acceptData:=by kernel_rfl
 have e2:YtgbbhilflgekhaaGreatDoor.Rows.laid_unicode_utf8_first=Go.Lib.firstData:=by kernel_rfl
 rw[e1,e2] at h;exact utf8Tabs_of_readsT Jrx Jry (Lib.laidMet.reads h (.tail _ (.head _))) (Lib.laidMet.reads h (.head _))
theorem Jzk{W:World}(h:Lib.Utf8Tabs 0 1 W):∀ p∈JnA,∀ (j:Nat) (c:Value),p.2[j]? = some c->Jdm W p.1 j=some c:=by
 intro p hp j c hc;unfold JnA at hp;rcases List.mem_cons.1 hp with rfl | hp
 ·simp only[List.getElem?_map,Option.map_eq_some_iff] at hc;obtain⟨i,hi,rfl⟩:=hc;obtain⟨hj,e⟩:=List.getElem?_eq_some_iff.1 hi;simp only[List.getElem_range] at e;subst e;exact Jd4 (h.1 _ (by simpa using hj)) rfl
 ·rw[List.mem_singleton] at hp;subst hp;simp only[List.getElem?_map,Option.map_eq_some_iff] at hc;obtain⟨i,hi,rfl⟩:=hc;obtain⟨hj,e⟩:=List.getElem?_eq_some_iff.1 hi;simp only[List.getElem_range] at e;subst e;have hj:j<32:=by simpa using hj
  obtain⟨a,b⟩:=h.2 (j / 2) (by omega);unfold JzC;by_cases q:j % 2=0
  ·rw[if_pos q];have e:2 * (j / 2)=j:=by omega
   rw[e] at a;exact Jd4 a rfl
  ·rw[if_neg q];have e:2 * (j / 2)+1=j:=by omega
   rw[e] at b;exact Jd4 b rfl
end Go.Proofs.Y
end
