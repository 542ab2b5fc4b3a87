/- What the claim wants of the machine, the contracts and the law, laid together. -/
import Derived.Test.YtgbbhilflgekhaaDoorXj
set_option linter.unusedVariables false
set_option linter.unusedSimpArgs false
section
namespace Go.Proofs.YtgbbhilflgekhaaDoor
open Go Go.Ab
set_option maxRecDepth 20000
set_option maxHeartbeats 2000000
def plV (l:List Un)(ys:List En):List Int:=ys.map fun y=>((l.getD y.pos default).pos:Int)
def plQ (q:Option Nat)(X:List Int):AV:=match q with | none=>.vec [] true | some q=>.own q X.length
def plT (q:Option Nat)(X:List Int):List (Nat × Tk):=match q with | none=>[] | some q=>[(q,⟨X.map enc1,0,1⟩)]
noncomputable def okEnds(n:Nt)(x:List UInt8)(at' md rule:Int):Bool:=okV n && (decide (0≤md∧md<(n.modes.length:Int)) && ((cutV (ofB x)).any (fun u=>decide ((u.pos:Int)=at')) && (decide (0≤rule∧rule<(n.rules.length:Int)) && (n.rules.getD rule.toNat default).lexer)))
theorem mEnds_spec(L:List (Nat × List Value))(n:Nt)(o:List Orc)(x:List UInt8)(f:Bool)(hL:TabFor L x)(at' md rule:Int)(g:InOk n o x at' md)(mu:MuOk n)(k:Nat)(fk:okV n=true→FixK n o (cutV (ofB x)) md k) :
  PCall Tryd.prog 15 [.agg (encN n),inV L x f,.vec (o.map encO) false,.lit (.int .i64 at'),.lit (.int .i64 md),.lit (.int .i64 rule)]
   (if okEnds n x at' md rule=true then .tup [.vec ((plV (cutV (ofB x)) (eF n o (cutV (ofB x)) md k rule.toNat (ixV (cutV (ofB x)) at'))).map enc1) false,.lit (.int .i64 0)] else .tup [.vec [] false,.lit (.int .i64 (if okV n then 2 else 110))]):=by
 refine PCall_of_SCall (SCall_introK Tryd.func15 rfl Tryd.ntmps15 (rs:=[.tmp 12,.tmp 13]) rfl (by simp) ?_)
 have hlook:=look_spec L n o x f hL at' md g
 have hpx:=pure_inV L x f
 have hrise:=cutV_rise (ofB x)
 have hlk:=lkOk g
 obtain⟨hlen,hpos⟩:=cut_range g.len
 unfold okEnds
 obtain⟨l,hl⟩:∃ l,cutV (ofB x)=l:=⟨_,rfl⟩
 rw[hl] at hlook hrise hlk hlen hpos fk ⊢
 unfold inV at hlook hpx ⊢
 refine aw_seq ?_
 refine aw_of ?_
 simp -implicitDefEqProofs (disch:=omega) only[Wz,seval,encU_length,encU_take,encEn_length,encEn_take,encTr_length,encTr_take,List.append_eq,List.cons_append,List.nil_append]
 refine aw_seq ?_
 refine aw_of ?_
 simp -implicitDefEqProofs (disch:=omega) only[Wz,seval,encU_length,encU_take,encEn_length,encEn_take,encTr_length,encTr_take,List.append_eq,List.cons_append,List.nil_append,encN_length,encN_take]
 refine CallK_of call17 (hlook _ ?_) ?_
 ·exact fun i hi=>lk_lt (N:=1) (by simp) hi
 rintro r0 h' (⟨hok,hmd,a,hal,hia,rfl,rfl⟩ | ⟨hno,rfl,rfl⟩)
 ·have hru:=(hlk hok).w.nru
  by_cases hr0:rule<0
  ·rw[if_neg (by simp;intros;omega)]
   simp -implicitDefEqProofs (disch:=omega) only[Wz,seval,encU_length,encU_take,encEn_length,encEn_take,encTr_length,encTr_take,List.append_eq,List.cons_append,List.nil_append,hok,if_true]
   refine aw_seq ?_
   refine aw_of ?_
   simp -implicitDefEqProofs (disch:=omega) only[Wz,seval,encU_length,encU_take,encEn_length,encEn_take,encTr_length,encTr_take,List.append_eq,List.cons_append,List.nil_append]
   exact expo_tup (expoL_cons (expo_full (by simp)) (expoL_cons (expo_pure (.lit _)) expoL_nil))
  by_cases hr1:rule<(n.rules.length:Int)
  rotate_left
  ·rw[if_neg (by simp;intros;omega)]
   simp -implicitDefEqProofs (disch:=omega) only[Wz,seval,encU_length,encU_take,encEn_length,encEn_take,encTr_length,encTr_take,List.append_eq,List.cons_append,List.nil_append,hok,if_true]
   refine aw_seq ?_
   refine aw_of ?_
   simp -implicitDefEqProofs (disch:=omega) only[Wz,seval,encU_length,encU_take,encEn_length,encEn_take,encTr_length,encTr_take,List.append_eq,List.cons_append,List.nil_append,encN]
   exact expo_tup (expoL_cons (expo_full (by simp)) (expoL_cons (expo_pure (.lit _)) expoL_nil))
  obtain⟨r,rfl⟩:∃ r:Nat,rule=(r:Int):=⟨rule.toNat,by omega⟩
  have hrl:r<n.rules.length:=by omega
  obtain⟨rr,hrr⟩:∃ rr,n.rules.getD r default=rr:=⟨_,rfl⟩
  rw[Int.toNat_natCast,hrr]
  cases hlx:rr.lexer with
  | false =>
   rw[if_neg (by simp)]
   simp -implicitDefEqProofs (disch:=omega) only[Wz,seval,encU_length,encU_take,encEn_length,encEn_take,encTr_length,encTr_take,List.append_eq,List.cons_append,List.nil_append,hok,if_true]
   refine aw_seq ?_
   refine aw_of ?_
   simp -implicitDefEqProofs (disch:=omega) only[Wz,seval,encU_length,encU_take,encEn_length,encEn_take,encTr_length,encTr_take,List.append_eq,List.cons_append,List.nil_append,encN,hrr,encNr,hlx]
   exact expo_tup (expoL_cons (expo_full (by simp)) (expoL_cons (expo_pure (.lit _)) expoL_nil))
  | true =>
   have hany:(l.any fun u=>decide ((u.pos:Int)=at'))=true:=by
    rw[List.any_eq_true]
    exact⟨_,getD_mem hal,by simpa using hia⟩
   have hix:ixV l at'=a:=ixV_of hrise hal hia
   rw[if_pos (by rw[hok,hany];simp;omega),hix]
   have hlk:=hlk hok
   have hends:=ends_all hlk mu (fk hok) (rank_ex g.ok hok) r a hrl hal
   have hel:=e_len hlk.w hlk.u (o:=o) (md:=md) (k:=k) hrl hal
   have hout:=e_out hlk.w hlk.u (o:=o) (md:=md) (k:=k) hrl hal
   simp -implicitDefEqProofs (disch:=omega) only[Wz,seval,encU_length,encU_take,encEn_length,encEn_take,encTr_length,encTr_take,List.append_eq,List.cons_append,List.nil_append,hok,if_true]
   refine aw_seq ?_
   refine aw_of ?_
   simp -implicitDefEqProofs (disch:=omega) only[Wz,seval,encU_length,encU_take,encEn_length,encEn_take,encTr_length,encTr_take,List.append_eq,List.cons_append,List.nil_append,encN,hrr,encNr,hlx]
   refine aw_seq ?_
   refine aw_of ?_
   simp -implicitDefEqProofs (disch:=omega) only[Wz,seval,encU_length,encU_take,encEn_length,encEn_take,encTr_length,encTr_take,List.append_eq,List.cons_append,List.nil_append]
   refine CallK_of call22 (ends_at hends _ 3 2 [] .nil rfl rfl (by decide) (by show 3<4;decide) (by show 2<4;decide) rfl) ?_
   rintro r0 h' ⟨rfl,W,hW,rfl⟩
   obtain⟨ys,hys⟩:∃ ys,eF n o l md k r a=ys:=⟨_,rfl⟩
   rw[hys] at hel hout ⊢
   simp -implicitDefEqProofs (disch:=omega) only[Wz,seval,encU_length,encU_take,encEn_length,encEn_take,encTr_length,encTr_take,List.append_eq,List.cons_append,List.nil_append,enV]
   refine aw_measA (fun(z:Nat × Option Nat × Nat)=>⟨[(12,plQ z.2.1 (plV l (ys.take z.1))),(14,.ptr 3 0),(54,.vec (ys.map encEn) false),(55,.lit (.int .i64 (ys.length:Int))),(56,.lit (.int .i64 (z.1:Int)))],⟨[(3,lookC n o l md 2)],plT z.2.1 (plV l (ys.take z.1)),z.2.2⟩,74⟩)
    (fun z=>z.1≤ys.length∧4≤z.2.2∧(z.2.1=none→z.1=0)∧∀ q,z.2.1=some q→q<z.2.2) (fun z=>ys.length - z.1) (0,none,4) (wk_le (by simp[lk,plQ]) (allc rfl alln) alln rfl rfl) ⟨Nat.zero_le _,Nat.le_refl _,fun _=>rfl,fun q h=>by cases h⟩ ?_
   rintro⟨j,q,m⟩ ⟨hj,hm,hq0,hq⟩
   simp only at hj hm hq0 hq ⊢
   refine aw_of ?_
   rcases Nat.lt_or_ge j ys.length with hlt | hge
   ·obtain⟨y,hy⟩:∃ y,ys.getD j default=y:=⟨_,rfl⟩
    have hym:=hout y (by rw[← hy];exact getD_mem hlt)
    obtain⟨u,hu⟩:∃ u,l.getD y.pos default=u:=⟨_,rfl⟩
    have hyl:=hym.2.1
    have hsn:plV l (ys.take (j+1))=plV l (ys.take j)++[(u.pos:Int)]:=by
     unfold plV
     rw[List.take_succ_eq_append_getElem hlt,List.map_append,← hu,← hy,List.getD_eq_getElem?_getD (l:=ys),List.getElem?_eq_getElem hlt];rfl
    obtain⟨X,hX⟩:∃ X,plV l (ys.take j)=X:=⟨_,rfl⟩
    have hXl:X.length=j:=by rw[← hX];unfold plV;simp;omega
    rw[hX] at hsn ⊢
    have hf0:fits 1 8=True:=eq_true (fits_of' (by decide) (by decide))
    have hf1:fits (X.length+1) 8=True:=eq_true (fits_of' (by omega) (by omega))
    have one1:∀ v:AV,(∀ q,q∈[[v]]→q.length=1)=True:=fun v=>by simp
    have nil1:(∀ q:List AV,q∈[]→q.length=1)=True:=by simp
    simp -implicitDefEqProofs (disch:=omega) only[Wz,seval,encU_length,encU_take,encEn_length,encEn_take,encTr_length,encTr_take,List.append_eq,List.cons_append,List.nil_append,hy,encEn]
    refine aw_drawQ (n:=74) 11 (.alt 11 (.alt 12 .leaf .nil) .nil) rfl (by decide) (by decide) mixed (by kernel_rfl) (by decide) ?_
    cases q with
    | none =>
     have hj0:=hq0 rfl
     have:X=[]:=List.length_eq_zero_iff.1 (by omega)
     subst this
     simp -implicitDefEqProofs (disch:=omega) only[Wz,seval,encU_length,encU_take,encEn_length,encEn_take,encTr_length,encTr_take,List.append_eq,List.cons_append,List.nil_append,lookC,encN,hu,encU,plQ,plT,one1,nil1,hf0,true_and,if_true]
     refine⟨(j+1,some (m+1),m+2),⟨by show j+1≤_;omega,by show 4≤m+2;omega,fun q=>(by cases q),fun q h=>(by cases h;show m+1<m+2;omega)⟩,by show ys.length - (j+1)<_;omega,?_⟩
     simp only[hsn]
     exact wk_lk (by simp[lk]) (fun _ _ e=>lk_pre e) (fun _ _ e=>e) rfl rfl
    | some q =>
     simp -implicitDefEqProofs (disch:=omega) only[Wz,seval,encU_length,encU_take,encEn_length,encEn_take,encTr_length,encTr_take,List.append_eq,List.cons_append,List.nil_append,lookC,encN,hu,encU,plQ,plT,one1,hf1,true_and,if_true]
     refine⟨(j+1,some q,m+1),⟨by show j+1≤_;omega,by show 4≤m+1;omega,fun q=>(by cases q),fun q' h=>(by cases h;have:=hq q rfl;show q<m+1;omega)⟩,by show ys.length - (j+1)<_;omega,?_⟩
     simp only[hsn]
     exact wk_lk (by simp[lk]) (fun _ _ e=>lk_pre e) (fun _ _ e=>by rw[List.map_append] at e;exact e) rfl rfl
   ·have hje:j=ys.length:=by omega
    subst hje
    rw[List.take_length]
    simp -implicitDefEqProofs (disch:=omega) only[Wz,seval,encU_length,encU_take,encEn_length,encEn_take,encTr_length,encTr_take,List.append_eq,List.cons_append,List.nil_append]
    refine aw_of ?_
    cases q with
    | none =>
     have h0:ys=[]:=List.length_eq_zero_iff.1 (hq0 rfl)
     subst h0
     simp -implicitDefEqProofs (disch:=omega) only[Wz,seval,encU_length,encU_take,encEn_length,encEn_take,encTr_length,encTr_take,List.append_eq,List.cons_append,List.nil_append,plQ]
     exact expo_tup (expoL_cons (expo_full (by simp)) (expoL_cons (expo_pure (.lit _)) expoL_nil))
    | some q =>
     simp -implicitDefEqProofs (disch:=omega) only[Wz,seval,encU_length,encU_take,encEn_length,encEn_take,encTr_length,encTr_take,List.append_eq,List.cons_append,List.nil_append,plQ,plT]
     exact expo_tup (expoL_cons (expo_own (k:=⟨(plV l ys).map enc1,0,1⟩) (by simp[lk]) (by simp) (pure_rows pure_enc1 _)) (expoL_cons (expo_pure (.lit _)) expoL_nil))
 ·rw[if_neg (by
   intro q
   simp only[Bool.and_eq_true,decide_eq_true_eq,List.any_eq_true] at q
   exact hno q.1 ⟨q.2.1,q.2.2.1⟩)]
  cases hok:okV n with
  | true =>
   simp -implicitDefEqProofs (disch:=omega) only[Wz,seval,encU_length,encU_take,encEn_length,encEn_take,encTr_length,encTr_take,List.append_eq,List.cons_append,List.nil_append,if_true]
   refine aw_seq ?_
   refine aw_of ?_
   simp -implicitDefEqProofs (disch:=omega) only[Wz,seval,encU_length,encU_take,encEn_length,encEn_take,encTr_length,encTr_take,List.append_eq,List.cons_append,List.nil_append]
   exact expo_tup (expoL_cons (expo_full (by simp)) (expoL_cons (expo_pure (.lit _)) expoL_nil))
  | false =>
   simp -implicitDefEqProofs (disch:=omega) only[Wz,seval,encU_length,encU_take,encEn_length,encEn_take,encTr_length,encTr_take,List.append_eq,List.cons_append,List.nil_append,Bool.false_eq_true,if_false]
   refine aw_seq ?_
   refine aw_of ?_
   simp -implicitDefEqProofs (disch:=omega) only[Wz,seval,encU_length,encU_take,encEn_length,encEn_take,encTr_length,encTr_take,List.append_eq,List.cons_append,List.nil_append]
   exact expo_tup (expoL_cons (expo_full (by simp)) (expoL_cons (expo_pure (.lit _)) expoL_nil))
end Go.Proofs.YtgbbhilflgekhaaDoor
end
section
namespace Go.Proofs.YtgbbhilflgekhaaDoor
open Go Go.Ab
set_option maxRecDepth 20000
set_option maxHeartbeats 2000000
def gr14K:List Sta→Nat→Nat
 | [],k=>k
 | s :: l,k=>if k≤6000 then gr14K l (k+s.edges.length) else k
def gr14 (n:Nt):Bool:=decide (6000<gr14K n.states (n.rules.length+n.states.length+n.types.length+n.channels.length+n.modes.length))
theorem gr14_spec(n:Nt)(ok:NtOk n):KCall Tryd.prog 13 [.agg (encN n)] (.lit (.bool (gr14 n))):=by
 obtain⟨v,hv⟩:∃ v,gr14 n=v:=⟨_,rfl⟩
 rw[hv]
 obtain⟨k0,hk0⟩:∃ k0,n.rules.length+n.states.length+n.types.length+n.channels.length+n.modes.length=k0:=⟨_,rfl⟩
 unfold gr14 at hv
 rw[hk0] at hv
 refine KCall_of (SCall_introK Tryd.func13 rfl Tryd.ntmps13 (rs:=[.tmp 2]) rfl (by simp) ?_)
 refine aw_of ?_
 have b1:=ok.types
 have b2:=ok.channels
 have b3:=ok.modes
 have b4:=ok.rules
 have b5:=ok.states
 have hc1:(n.rules.length:Int)+n.states.length+n.types.length+n.channels.length+n.modes.length=(k0:Int):=by omega
 simp -implicitDefEqProofs (disch:=omega) only[Wz,seval,encN,hc1]
 refine aw_measA (fun x:Nat × Nat=>⟨[(4,.lit (.int .i64 (x.1:Int))),(3,.lit (.int .i64 (x.2:Int))),(1,.ptr 0 0)],⟨[(0,encN n)],[],1⟩,46⟩) (fun x=>x.1≤n.states.length∧decide (6000<gr14K (n.states.drop x.1) x.2)=v∧x.2≤6000000000) (fun x=>n.states.length - x.1) (0,k0) (wk_lk (by simp[lk]) (fun _ _ q=>q) (fun _ _ q=>q) rfl rfl) ⟨Nat.zero_le _,by rw[List.drop_zero];exact hv,by show k0≤_;omega⟩ ?_
 rintro⟨i,k⟩ ⟨hi,hkv,hkb⟩
 simp only at hi hkv hkb ⊢
 refine aw_of ?_
 rcases Nat.lt_or_ge i n.states.length with hl | hg
 ·obtain⟨s,hs⟩:∃ s,n.states.getD i default=s:=⟨_,rfl⟩
  have he:=(ok.edges _ (getD_mem hl)).1
  rw[hs] at he
  rw[drop_getD hl,hs] at hkv
  unfold gr14K at hkv
  by_cases h6:k≤6000
  ·rw[if_pos h6] at hkv
   simp -implicitDefEqProofs (disch:=omega) only[Wz,seval,encN,encSt,hs]
   refine⟨(i+1,k+s.edges.length),⟨hl,hkv,by show k+_≤_;omega⟩,by show n.states.length - (i+1)<_;omega,wk_lk (by simp[lk]) (fun _ _ q=>q) (fun _ _ q=>q) rfl rfl⟩
  ·rw[if_neg h6,decide_eq_true (by omega)] at hkv
   subst hkv
   simp -implicitDefEqProofs (disch:=omega) only[Wz,seval,encN]
   exact kexpo (.lit _)
 ·have hi2:i=n.states.length:=by omega
  subst hi2
  rw[List.drop_length] at hkv
  have hkv:decide (6000<k)=v:=hkv
  simp -implicitDefEqProofs (disch:=omega) only[Wz,seval,encN]
  have e1:(decide ((k:Int) > 6000))=v:=by rw[← hkv];rw[Bool.eq_iff_iff];simp only[decide_eq_true_eq];omega
  rw[e1]
  exact kexpo (.lit _)
def gr16 (n:Nt)(xl:Nat)(o:List Orc):Bool:=gr14 n || (decide (1500<n.states.length) || (decide (300<xl) || decide (100<o.length)))
theorem great16_spec(L:List (Nat × List Value))(n:Nt)(x:List UInt8)(f g:Bool)(o:List Orc)(ok:NtOk n)(hx:x.length≤1000000000)(ho:o.length≤1000000000):KCall Tryd.prog 5 [.agg (encN n),inV L x f,.vec (o.map encO) g] (.lit (.bool (gr16 n x.length o))):=by
 obtain⟨v,hv⟩:∃ v,gr16 n x.length o=v:=⟨_,rfl⟩
 rw[hv]
 have h14:=gr14_spec n ok
 refine KCall_of (SCall_introK Tryd.func5 rfl Tryd.ntmps5 (rs:=[.tmp 6]) rfl (by simp) ?_)
 unfold inV
 have hs:=ok.states
 refine aw_of ?_
 simp -implicitDefEqProofs (disch:=omega) only[Wz,seval,encN_length,encN_take]
 refine CallK_k call13 h14 (allc (.of_pure (.agg (pure_encN n))) alln) (.lit _) ?_
 unfold gr16 at hv
 cases hg:gr14 n with
 | true =>
  rw[hg] at hv
  subst hv
  simp -implicitDefEqProofs (disch:=omega) only[Wz,seval]
  exact kexpo (.lit _)
 | false =>
  rw[hg] at hv
  by_cases h1:1500<n.states.length
  ·rw[decide_eq_true h1] at hv
   subst hv
   simp -implicitDefEqProofs (disch:=omega) only[Wz,seval,encN]
   exact kexpo (.lit _)
  ·rw[decide_eq_false h1] at hv
   by_cases h2:300<x.length
   ·rw[decide_eq_true h2] at hv
    subst hv
    simp -implicitDefEqProofs (disch:=omega) only[Wz,seval,encN]
    exact kexpo (.lit _)
   ·rw[decide_eq_false h2] at hv
    by_cases h3:100<o.length
    ·rw[decide_eq_true h3] at hv
     subst hv
     simp -implicitDefEqProofs (disch:=omega) only[Wz,seval,encN]
     exact kexpo (.lit _)
    ·rw[decide_eq_false h3] at hv
     subst hv
     simp -implicitDefEqProofs (disch:=omega) only[Wz,seval,encN]
     exact kexpo (.lit _)
theorem gr14K_sum:∀ (l:List Sta) (k:Nat),gr14K l k≤6000→k+(l.map fun s=>s.edges.length).sum≤6000
 | [],k,h=>by simpa [gr14K] using h
 | s :: l,k,h=>by
  unfold gr14K at h
  split at h
  ·have:=gr14K_sum l _ h
   simp only[List.map_cons,List.sum_cons]
   omega
  ·omega
theorem range_sum(l:List Sta):((List.range l.length).map fun s=>(l.getD s default).edges.length).sum=(l.map fun s=>s.edges.length).sum:=by
 congr 1
 apply List.ext_getElem
 ·simp
 ·intro i h1 h2
  have hi:i<l.length:=by simpa using h1
  simp[List.getD_eq_getElem?_getD,List.getElem?_eq_getElem hi]
theorem mu_of{n:Nt}{xl:Nat}{o:List Orc}(h:gr16 n xl o=false)(ha:∀ s,∀ e∈(n.states.getD s default).edges,e.acts.length≤actA):MuOk n∧xl≤300∧o.length≤100:=by
 unfold gr16 at h
 simp only[Bool.or_eq_false_iff,decide_eq_false_iff_not,Nat.not_lt] at h
 obtain⟨h1,h2,h3,h4⟩:=h
 refine⟨⟨h2,?_,ha⟩,h3,h4⟩
 unfold gr14 at h1
 simp only[decide_eq_false_iff_not,Nat.not_lt] at h1
 have:=gr14K_sum _ _ h1
 have e:esum n=(n.states.map fun s=>s.edges.length).sum:=range_sum n.states
 rw[e];omega
end Go.Proofs.YtgbbhilflgekhaaDoor
end
section
namespace Go.Proofs.YtgbbhilflgekhaaDoor
open Go Go.Ab
set_option maxRecDepth 20000
set_option maxHeartbeats 2000000
theorem acts_same(a:List (Int × Int))(ha:a.length≤4000000000000):PCall Tryd.prog 11 [.vec (a.map encAct) false,.vec (a.map encAct) false] (.lit (.bool true)):=by
 refine PCall_of_SCall (SCall_introK Tryd.func11 rfl Tryd.ntmps11 (rs:=[.tmp 4]) rfl (by simp) ?_)
 have hne:(((a.length:Int) != (a.length:Int)):Bool)=false:=by simp
 refine aw_of ?_
 simp -implicitDefEqProofs (disch:=omega) only[Wz,seval,hne]
 refine aw_measA (fun i:Nat=>⟨[(0,.vec (a.map encAct) false),(1,.vec (a.map encAct) false),(5,.lit (.int .i64 (i:Int)))],.none,26⟩) (fun i=>i≤a.length) (fun i=>a.length - i) 0 (wk_lk (by simp[lk]) (fun _ _ e=>e) (fun _ _ e=>e) rfl rfl) (Nat.zero_le _) ?_
 intro i hi
 refine aw_of ?_
 rcases Nat.lt_or_ge i a.length with hlt | hge
 ·obtain⟨x,hx⟩:∃ x,a.getD i default=x:=⟨_,rfl⟩
  simp -implicitDefEqProofs (disch:=omega) only[Wz,seval,hx]
  refine aw_quietN (n:=26) rfl (by decide) mixed ?_
  simp -implicitDefEqProofs (disch:=omega) only[Wz,seval,hx,encAct,Bool.and_true,Bool.not_true]
  exact⟨i+1,by omega,by omega,wk_lk (by simp[lk]) (fun _ _ e=>e) (fun _ _ e=>e) rfl rfl⟩
 ·simp -implicitDefEqProofs (disch:=omega) only[Wz,seval]
  exact expo_pure (.lit _)
end Go.Proofs.YtgbbhilflgekhaaDoor
end
section
namespace Go.Proofs.YtgbbhilflgekhaaDoor
open Go Go.Ab
set_option maxRecDepth 20000
set_option maxHeartbeats 2000000
def gdE (e:Ed):Bool:=decide (e.op.1=3)
def asks16(n:Nt):Bool:=n.states.any fun s=>s.edges.any gdE
theorem any_drop{T:Type}[Inhabited T]{l:List T}{p:T→Bool}{i:Nat}(h:i<l.length):(l.drop i).any p=(p (l.getD i default) || (l.drop (i+1)).any p):=by rw[drop_getD h,List.any_cons]
theorem asks16_spec(n:Nt)(ok:NtOk n):PCall Tryd.prog 6 [.agg (encN n)] (.lit (.bool (asks16 n))):=by
 refine PCall_of_SCall (SCall_introK Tryd.func6 rfl Tryd.ntmps6 (rs:=[.tmp 2]) rfl (by simp) ?_)
 obtain⟨v,hv⟩:∃ v,asks16 n=v:=⟨_,rfl⟩
 rw[hv]
 have hs:=ok.states
 refine aw_of ?_
 simp -implicitDefEqProofs (disch:=omega) only[Wz,seval]
 refine aw_measA (fun i:Nat=>⟨[(1,.ptr 0 0),(3,.lit (.int .i64 (i:Int)))],⟨[(0,encN n)],[],1⟩,34⟩) (fun i=>i≤n.states.length∧((n.states.drop i).any fun s=>s.edges.any gdE)=v) (fun i=>n.states.length - i) 0 (wk_lk (by simp[lk]) (fun _ _ e=>e) (fun _ _ e=>e) rfl rfl) ⟨Nat.zero_le _,by rw[List.drop_zero];exact hv⟩ ?_
 rintro i ⟨hi,hiv⟩
 refine aw_of ?_
 rcases Nat.lt_or_ge i n.states.length with hlt | hge
 ·obtain⟨s,hss⟩:∃ s,n.states.getD i default=s:=⟨_,rfl⟩
  have hel:=(ok.edges _ (getD_mem hlt)).1
  rw[any_drop hlt,hss] at hiv
  rw[hss] at hel
  simp -implicitDefEqProofs (disch:=omega) only[Wz,seval,encN]
  refine aw_measA (fun k:Nat=>⟨[(1,.ptr 0 0),(3,.lit (.int .i64 (i:Int))),(4,.lit (.int .i64 (k:Int)))],⟨[(0,encN n)],[],1⟩,34⟩) (fun k=>k≤s.edges.length∧((s.edges.drop k).any gdE || (n.states.drop (i+1)).any fun s=>s.edges.any gdE)=v) (fun k=>s.edges.length - k) 0 (wk_lk (by simp[lk]) (fun _ _ e=>e) (fun _ _ e=>e) rfl rfl) ⟨Nat.zero_le _,by rw[List.drop_zero];exact hiv⟩ ?_
  rintro k ⟨hk,hkv⟩
  refine aw_of ?_
  rcases Nat.lt_or_ge k s.edges.length with hlk | hgk
  ·obtain⟨e,he⟩:∃ e,s.edges.getD k default=e:=⟨_,rfl⟩
   rw[any_drop hlk,he] at hkv
   by_cases h3:e.op.1=3
   ·have:v=true:=by rw[← hkv];unfold gdE;rw[decide_eq_true h3];simp
    subst this
    simp -implicitDefEqProofs (disch:=omega) only[Wz,seval,encN,encSt,encE,hss,he]
    exact expo_pure (.lit _)
   ·have hkv2:((s.edges.drop (k+1)).any gdE || (n.states.drop (i+1)).any fun s=>s.edges.any gdE)=v:=by rw[← hkv];unfold gdE;rw[decide_eq_false h3];simp
    simp -implicitDefEqProofs (disch:=omega) only[Wz,seval,encN,encSt,encE,hss,he]
    exact⟨k+1,⟨by omega,hkv2⟩,by omega,wk_lk (by simp[lk]) (fun _ _ e=>e) (fun _ _ e=>e) rfl rfl⟩
  ·have hke:k=s.edges.length:=by omega
   subst hke
   rw[List.drop_length] at hkv
   simp -implicitDefEqProofs (disch:=omega) only[Wz,seval,encN,encSt,hss]
   exact⟨i+1,⟨by omega,by simpa using hkv⟩,by omega,wk_lk (by simp[lk]) (fun _ _ e=>e) (fun _ _ e=>e) rfl rfl⟩
 ·have hie:i=n.states.length:=by omega
  subst hie
  rw[List.drop_length] at hiv
  have:v=false:=by rw[← hiv];rfl
  subst this
  simp -implicitDefEqProofs (disch:=omega) only[Wz,seval,encN]
  exact expo_pure (.lit _)
end Go.Proofs.YtgbbhilflgekhaaDoor
end
section
namespace Go.Proofs.YtgbbhilflgekhaaDoor
open Go Go.Ab
set_option maxRecDepth 20000
set_option maxHeartbeats 4000000
def addN (S:List Nat)(js:List Nat):List Nat:=js.foldl (fun S j=>if S.contains j then S else S++[j]) S
def stepG(G:List (List Nat))(S T:List Nat):List Nat:=S.foldl (fun T i=>addN T (G.getD i [])) T
def bfsG (G:List (List Nat)):Nat→List Nat→List Nat
 | 0,S=>S
 | k+1,S=>bfsG G k (stepG G S S)
def comeG(G:List (List Nat))(i:Nat):List Nat:=bfsG G G.length (addN [] (G.getD i []))
theorem addN_mem{x:Nat}:∀ {js S:List Nat},x∈addN S js→x∈S∨x∈js
 | [],S,h=>.inl h
 | j :: js,S,h=>by
  have h:x∈addN (if S.contains j then S else S++[j]) js:=h
  rcases addN_mem h with h | h
  ·split at h
   ·exact .inl h
   ·rcases List.mem_append.1 h with h | h
    ·exact .inl h
    ·rw[List.mem_singleton] at h;subst h;exact .inr (by simp)
  ·exact .inr (by simp[h])
theorem stepG_mem{G:List (List Nat)}{x:Nat}:∀ {S T:List Nat},x∈stepG G S T→x∈T∨∃ i∈S,x∈G.getD i []
 | [],T,h=>.inl h
 | i :: S,T,h=>by
  have h:x∈stepG G S (addN T (G.getD i [])):=h
  rcases stepG_mem h with h | ⟨k,h1,h2⟩
  ·rcases addN_mem h with h | h
   ·exact .inl h
   ·exact .inr ⟨i,by simp,h⟩
  ·exact .inr ⟨k,by simp[h1],h2⟩
theorem bfsG_sound{G:List (List Nat)}{i:Nat}:∀ {k:Nat} {S:List Nat},(∀ x∈S,Rch G i x)→∀ x∈bfsG G k S,Rch G i x
 | 0,S,h,x,hx=>h x hx
 | k+1,S,h,x,hx=>bfsG_sound (k:=k) (fun y hy=>by
   rcases stepG_mem hy with hy | ⟨z,h1,h2⟩
   ·exact h y hy
   ·exact .step (h z h1) h2) x hx
theorem comeG_sound{G:List (List Nat)}{i j:Nat}(h:(comeG G i).contains j=true):Rch G i j:=by
 rw[List.contains_iff_mem] at h
 refine bfsG_sound (fun x hx=>?_) j h
 rcases addN_mem hx with hx | hx
 ·cases hx
 ·exact .one hx
def shutG(G:List (List Nat))(i:Nat):Bool:=(G.getD i []).all (fun j=>(comeG G i).contains j) && (comeG G i).all fun k=>(G.getD k []).all fun j=>(comeG G i).contains j
theorem comeG_full{G:List (List Nat)}{i j:Nat}(h:shutG G i=true)(r:Rch G i j):(comeG G i).contains j=true:=by
 unfold shutG at h
 rw[Bool.and_eq_true] at h
 induction r with
 | one e=>exact List.all_eq_true.1 h.1 _ e
 | step _ e ih =>
  rw[List.contains_iff_mem] at ih
  exact List.all_eq_true.1 (List.all_eq_true.1 h.2 _ ih) _ e
theorem rank_of{G:List (List Nat)}(rk:List Nat)(h:((List.range G.length).all fun i=>(G.getD i []).all fun j=>decide (rk.getD j 0<rk.getD i 0))=true):Acyc G:=by
 refine⟨fun i=>rk.getD i 0,fun i j hj=>?_⟩
 rcases Nat.lt_or_ge i G.length with hi | hi
 ·exact of_decide_eq_true (List.all_eq_true.1 (List.all_eq_true.1 h i (List.mem_range.2 hi)) j hj)
 ·rw[List.getD_eq_getElem?_getD,List.getElem?_eq_none hi] at hj;cases hj
def empR (n:Nt):Nat→List Bool
 | 0=>n.rules.map fun _=>false
 | k+1=>(List.range n.rules.length).map fun i=>(comeG (gE n (empR n k)) (stN n i)).contains (spN n i)
def empOk(n:Nt)(em:List Bool):Bool:=(List.range n.rules.length).all fun i=>shutG (gE n em) (stN n i) && (!(comeG (gE n em) (stN n i)).contains (spN n i) || em.getD i false)
theorem getD_false{l:List Bool}{i:Nat}(h:l.getD i false=true):i<l.length:=by
 rcases Nat.lt_or_ge i l.length with q | q
 ·exact q
 ·rw[List.getD_eq_getElem?_getD,List.getElem?_eq_none q] at h;cases h
theorem empR_sound{n:Nt}(w:Wf n)(ok:NtOk n):∀ {k i:Nat},(empR n k).getD i false=true→Emp n i
 | 0,i,h=>by
  have hi:=getD_false h
  simp only[empR,List.length_map] at hi
  rw[empR,List.getD_eq_getElem?_getD,List.getElem?_map,List.getElem?_eq_getElem hi] at h
  cases h
 | k+1,i,h=>by
  have hi:=getD_false h
  simp only[empR,List.length_map,List.length_range] at hi
  rw[empR,List.getD_eq_getElem?_getD,List.getElem?_map,List.getElem?_range hi] at h
  exact gE_sound w ok (fun j hj=>empR_sound w ok hj) (comeG_sound h)
theorem empR_all{n:Nt}(w:Wf n)(ok:NtOk n){k:Nat}(h:empOk n (empR n k)=true)(hl:(empR n k).length=n.rules.length):emptiesV n=empR n k:=by
 have full:∀ i,i<n.rules.length→Rch (gE n (empR n k)) (stN n i) (spN n i)→(empR n k).getD i false=true:=fun i hi r=>by
  have h1:=List.all_eq_true.1 h i (List.mem_range.2 hi)
  rw[Bool.and_eq_true,Bool.or_eq_true] at h1
  rcases h1.2 with h2 | h2
  ·rw[comeG_full h1.1 r] at h2;cases h2
  ·exact h2
 apply List.ext_getElem
 ·rw[hl];simp[emptiesV]
 ·intro i h1 h2
  have hi:i<n.rules.length:=by omega
  have e1:(emptiesV n)[i]=empB n i:=by
   have:=emptiesV_get hi
   rw[List.getD_eq_getElem?_getD,List.getElem?_eq_getElem h1] at this
   exact this
  have e2:(empR n k).getD i false=(empR n k)[i]:=by rw[List.getD_eq_getElem?_getD,List.getElem?_eq_getElem h2];rfl
  rw[e1,← e2,Bool.eq_iff_iff,empB_true]
  exact⟨fun q=>full i hi (gE_full w ok full q),fun q=>empR_sound w ok q⟩
def endsC(n:Nt):Bool:=(List.range n.states.length).all fun s=>(List.range n.rules.length).any fun i=>decide (s=spN n i) || (comeG (gB n) (spN n i)).contains s
def gFc (n:Nt)(em:List Bool):List (List Nat):=gOf n.states.length (psAt (prF n em) n n.states.length 0)
def lexC (n:Nt)(em:List Bool):Bool:=(List.range n.rules.length).all fun i => !((n.rules.getD i default).lexer && (!(n.rules.getD i default).frag && em.getD i false))
def rankC(G:List (List Nat))(rk:List Nat):Bool:=(List.range G.length).all fun i=>(G.getD i []).all fun j=>decide (rk.getD j 0<rk.getD i 0)
theorem ends_C{n:Nt}(h:endsC n=true):endsV n=true:=by
 unfold endsV
 refine @decide_eq_true _ (Classical.propDecidable _) fun s hs=>?_
 have h1:=List.all_eq_true.1 h s (List.mem_range.2 hs)
 obtain⟨i,hi,h2⟩:=List.any_eq_true.1 h1
 rw[Bool.or_eq_true,decide_eq_true_eq] at h2
 refine⟨i,List.mem_range.1 hi,?_⟩
 rcases h2 with h2 | h2
 ·exact .inl h2
 ·exact .inr (comeG_sound h2)
theorem ok_C{n:Nt}(ok:NtOk n)(k:Nat)(rF rC:List Nat)(h1:headsV n=true)(h2:rulesV n=true)(h3:statesV n=true)(h4:endsC n=true)(h5:empOk n (empR n k)=true)(hl:(empR n k).length=n.rules.length)
  (h6:lexC n (empR n k)=true) (h7:rankC (gFc n (empR n k)) rF=true) (h8:rankC (gC n) rC=true):okV n=true:=by
 have w:=Wf.of h1 h2 h3
 have he:=empR_all w ok h5 hl
 unfold okV
 have hF:gF n=gFc n (empR n k):=by unfold gF gFc;rw[he]
 rw[h1,h2,h3,ends_C h4,hF,ringV_false (rank_of rF h7),ringV_false (rank_of rC h8)]
 have hL:(List.range n.rules.length).all (lexR n)=true:=by
  rw[← h6]
  unfold lexC
  rw[Bool.eq_iff_iff,List.all_eq_true,List.all_eq_true]
  have e:∀ i,i∈List.range n.rules.length→lexR n i = !((n.rules.getD i default).lexer && (!(n.rules.getD i default).frag && (empR n k).getD i false)):=fun i hi=>by
   unfold lexR
   rw[← emptiesV_get (List.mem_range.1 hi),he]
  exact⟨fun q i hi=>by rw[← e i hi];exact q i hi,fun q i hi=>by rw[e i hi];exact q i hi⟩
 rw[hL];rfl
def edC (e:Ed):Bool:=decide (e.set.length≤1000) && decide (e.acts.length≤1000) && decide (gsz e.g≤1000) && decide (e.g.name.size≤1000) && e.g.kids.isEmpty && e.set.all fun r=>decide (-2147483648≤r.1∧r.1≤2147483647) && decide (-2147483648≤r.2∧r.2≤2147483647)
def ntC (n:Nt):Bool:=decide (n.types.length≤1000) && decide (n.channels.length≤1000) && decide (n.modes.length≤1000) && decide (n.rules.length≤1000) && decide (n.states.length≤1000) && n.types.all (fun s=>decide (s.size≤1000)) && n.channels.all (fun s=>decide (s.size≤1000)) && n.modes.all (fun s=>decide (s.size≤1000)) && n.rules.all (fun r=>decide (r.name.size≤1000)) && n.states.all fun s=>decide (s.edges.length≤1000) && s.edges.all edC
theorem nt_C{n:Nt}(h:ntC n=true):NtOk n:=by
 unfold ntC at h
 simp only[Bool.and_eq_true,decide_eq_true_eq,List.all_eq_true] at h
 obtain⟨⟨⟨⟨⟨⟨⟨⟨⟨a1,a2⟩,a3⟩,a4⟩,a5⟩,a6⟩,a7⟩,a8⟩,a9⟩,a10⟩:=h
 refine⟨by omega,by omega,by omega,by omega,by omega,fun s hs=>?_,fun s hs=>?_,fun s hs=>?_,fun r hr=>?_,fun s hs=>?_⟩
 ·have:=a6 s hs;omega
 ·have:=a7 s hs;omega
 ·have:=a8 s hs;omega
 ·have:=a9 r hr;omega
 ·obtain⟨b1,b2⟩:=a10 s hs
  refine⟨by omega,fun e he=>?_⟩
  have c:=b2 e he
  unfold edC at c
  simp only[Bool.and_eq_true,decide_eq_true_eq,List.all_eq_true,List.isEmpty_iff] at c
  obtain⟨⟨⟨⟨⟨c1,c2⟩,c3⟩,c4⟩,c5⟩,c6⟩:=c
  exact⟨by omega,by omega,by omega,.mk (by omega) (fun k hk=>by rw[c5] at hk;cases hk),fun r hr=>c6 r hr⟩
end Go.Proofs.YtgbbhilflgekhaaDoor
end
section
namespace Go.Proofs.YtgbbhilflgekhaaDoor
open Go Go.Ab
set_option maxRecDepth 20000
set_option maxHeartbeats 4000000
def i8w (z:Int)(h : -128≤z∧z≤127:=by decide):I8:=⟨z,h⟩
def eW (op:I8)(set:List (Int × Int))(n to:Int):Ed:=⟨op,set,n,0,default,[],to⟩
def wordsN:Nt:=⟨[⟨#[88]⟩,⟨#[89]⟩],[⟨#[]⟩],[⟨#[]⟩],[⟨⟨#[88]⟩,true,false,false,false,0,1,0,1⟩,⟨⟨#[89]⟩,true,false,false,false,0,2,5,6⟩],
 [⟨0,[eW (i8w 4) [] 1 2]⟩,⟨0,[]⟩,⟨0,[eW (i8w 1) [(97,97)] 0 3]⟩,⟨0,[eW (i8w 0) [] 0 2,eW (i8w 0) [] 0 4]⟩,⟨0,[eW (i8w 0) [] 0 1]⟩,
  ⟨1,[eW (i8w 4) [] 1 7]⟩,⟨1,[]⟩,⟨1,[eW (i8w 1) [(97,97)] 0 8]⟩,⟨1,[eW (i8w 1) [(98,98)] 0 9]⟩,⟨1,[eW (i8w 0) [] 0 6]⟩]⟩
theorem rk_of{n:Nt}(w:Wf n)(ok:NtOk n){rk:Nat→Nat}(hrk:Rank (gF n) rk):Rk n rk:=by
 have hb:=psF_bnd w ok (em:=emptiesV n) (i:=n.states.length) (k:=0) (.inr ⟨rfl,rfl⟩)
 have mem:∀ {s t e},s<n.states.length→e∈(n.states.getD s default).edges→(s,t)∈prF n (emptiesV n) s e→rk t<rk s:=fun {s t e} hs he hp=>by
  refine hrk s t ?_
  unfold gF
  rw[gOf_mem fun p hp=>(hb.1 p hp).1]
  exact psAt_all _ n hs he hp
 have hcall:∀ s e,s<n.states.length→e∈(n.states.getD s default).edges→e.op.1=2→rk (stN n e.n.toNat)<rk s:=fun s e hs he h2=>by
  refine mem hs he ?_
  unfold prF
  rw[if_neg (by omega),if_pos h2];simp
 refine⟨fun s t hn=>?_,hcall⟩
 induction hn with
 | @edge s e hs he h1 h2 =>
  refine mem hs he ?_
  unfold prF
  rw[if_neg h1,if_neg h2];simp
 | @call s e hs he h2 hN ih =>
  have hc:=w.call hs he h2
  refine mem hs he ?_
  unfold prF
  rw[if_neg (by omega),if_pos h2,emptiesV_get (by omega),empB_true.2 hN];simp
 | step _ _ ih1 ih2=>exact Nat.lt_trans ih2 ih1
theorem rank_get{G:List (List Nat)}{rk:List Nat}(h:rankC G rk=true):Rank G fun i=>rk.getD i 0:=fun i j hj=>by
 rcases Nat.lt_or_ge i G.length with hi | hi
 ·exact of_decide_eq_true (List.all_eq_true.1 (List.all_eq_true.1 h i (List.mem_range.2 hi)) j hj)
 ·rw[List.getD_eq_getElem?_getD,List.getElem?_eq_none hi] at hj;cases hj
theorem rk_C{n:Nt}(ok:NtOk n)(w:Wf n)(k:Nat)(rF:List Nat)(h5:empOk n (empR n k)=true)(hl:(empR n k).length=n.rules.length)(h7:rankC (gFc n (empR n k)) rF=true):Rk n fun i=>rF.getD i 0:=by
 refine rk_of w ok ?_
 have hF:gF n=gFc n (empR n k):=by unfold gF gFc;rw[empR_all w ok h5 hl]
 rw[hF]
 exact rank_get h7
def actsC(n:Nt):Bool:=n.states.all fun s=>s.edges.all fun e=>decide (e.acts.length≤actA)
theorem mu_C{n:Nt}(h1:n.states.length≤1500)(h2:esum n≤1048576)(h3:actsC n=true):MuOk n:=by
 refine⟨h1,h2,fun s e he=>?_⟩
 rcases Nat.lt_or_ge s n.states.length with hs | hs
 ·exact of_decide_eq_true (List.all_eq_true.1 (List.all_eq_true.1 h3 _ (getD_mem hs)) e he)
 ·have:n.states.getD s default=default:=by rw[List.getD_eq_getElem?_getD,List.getElem?_eq_none hs];rfl
  rw[this] at he;cases he
theorem words_nt:NtOk wordsN:=nt_C (by kernel_rfl)
theorem words_ok:okV wordsN=true:=ok_C words_nt 0 [1,0,0,2,1,1,0,0,0,1] [0,0] (by kernel_rfl) (by kernel_rfl) (by kernel_rfl) (by kernel_rfl) (by kernel_rfl) (by kernel_rfl) (by kernel_rfl) (by kernel_rfl) (by kernel_rfl)
theorem words_mu:MuOk wordsN:=mu_C (by decide) (by decide +kernel) (by kernel_rfl)
theorem words_rk:Rk wordsN fun i=>[1,0,0,2,1,1,0,0,0,1].getD i 0:=rk_C words_nt (okV_wf words_ok).1 0 [1,0,0,2,1,1,0,0,0,1] (by kernel_rfl) (by kernel_rfl) (by kernel_rfl)
theorem words_fix(x:List UInt8)(hx:(cutV (ofB x)).length≤20):FixK wordsN [] (cutV (ofB x)) 0 100:=by
 refine fix_of (okV_wf words_ok).1 (cutV_ok _) words_rk (R:=3) (fun s hs=>?_) (by omega)
 have key:∀ s:Fin 10,[1,0,0,2,1,1,0,0,0,1].getD s.1 0≤3:=by decide
 exact key ⟨s,hs⟩
def wideW:Nat→AV→AV
 | 0,a=>a
 | k+1,.agg cs=>.agg (cs.map (wideW k))
 | k+1,.vec xs _=>.vec (xs.map fun x=>x.map (wideW k)) false
 | _+1,a=>a
theorem cvL_mapW{g:Gh}{f:AV→AV}(h:∀ a,Cv g g a (f a)):∀ cs:List AV,CvL g g cs (cs.map f)
 | []=>cvL_nil
 | a :: cs=>cvL_cons (h a) (cvL_mapW h cs)
theorem cvR_mapW{g:Gh}{f:AV→AV}(h:∀ a,Cv g g a (f a)):∀ xs:List (List AV),CvR g g xs (xs.map fun x=>x.map f)
 | []=>.nil
 | x :: xs=>.cons (cvL_mapW h x) (by simp) (cvR_mapW h xs)
theorem cv_wideW(g:Gh):∀ (k:Nat) (a:AV),Cv g g a (wideW k a)
 | 0,a=>cv_refl (.refl g) a
 | k+1,a=>by
  cases a with
  | agg cs=>exact cv_agg (cvL_mapW (cv_wideW g k) cs)
  | vec xs f=>exact fun v hv=>cv_full (.refl g) _ f v (cv_vec (.refl g) (cvR_mapW (cv_wideW g k) xs) v hv)
  | _=>exact cv_refl (.refl g) _
theorem kexpo_wideW(k:Nat){h:Hp}{r r':AV}(e:wideW k r=r')(hr:GP r'):KExpo h r r':=by
 refine KExpo.wk (h':=⟨[],[],h.nx⟩) (r':=r') (St.wk_conv rfl rfl (fun g g' x=>allc ⟨r,rfl,?_⟩ alln) (fun g g' x=>alln) (fun g=>alln)) (kexpo hr)
 subst e
 exact fun v hv=>cv_refl x _ v (cv_wideW g k r v hv)
theorem unit_spec(c to:Int):KCall Tryd.prog 21 [.lit (.int .i32 c),.lit (.int .i64 to)] (.agg (encE (eW (i8w 1) [(c,c)] 0 to))):=by
 refine KCall_of (SCall_introK Tryd.func21 rfl Tryd.ntmps21 (rs:=[.cell 4 60]) rfl (by simp) ?_)
 refine aw_of ?_
 simp -implicitDefEqProofs (disch:=omega) only[Wz,seval]
 exact kexpo_wideW 8 rfl (.of_pure (.agg (pure_encE _)))
theorem Words_spec:KCall Tryd.prog 14 [] (.agg (encN wordsN)):=by
 refine KCall_of (SCall_introK Tryd.func14 rfl Tryd.ntmps14 (rs:=[.cell 0 26]) rfl (by simp) ?_)
 refine aw_of ?_
 have gs:∀ s:Ed,GP (.agg (encE s)):=fun s=>.of_pure (.agg (pure_encE s))
 simp -implicitDefEqProofs (disch:=omega) only[Wz,seval]
 refine CallK_k call21 (unit_spec 97 3) (allc (.lit _) (allc (.lit _) alln)) (gs _) ?_
 simp -implicitDefEqProofs (disch:=omega) only[Wz,seval]
 refine CallK_k call21 (unit_spec 97 8) (allc (.lit _) (allc (.lit _) alln)) (gs _) ?_
 simp -implicitDefEqProofs (disch:=omega) only[Wz,seval]
 refine CallK_k call21 (unit_spec 98 9) (allc (.lit _) (allc (.lit _) alln)) (gs _) ?_
 simp -implicitDefEqProofs (disch:=omega) only[Wz,seval]
 exact kexpo_wideW 8 rfl (.of_pure (.agg (pure_encN _)))
end Go.Proofs.YtgbbhilflgekhaaDoor
end
section
namespace Go.Proofs.YtgbbhilflgekhaaDoor
open Go Go.Ab
set_option maxRecDepth 20000
set_option maxHeartbeats 4000000
theorem cv_wit{g:Gh}{xs:List (List AV)}{f:Bool}:Cv g g (.vec xs f) (.wit [] (.vec xs f)):=fun v hv=>by
 cases hv with
 | vecN=>exact .wit (fun _ h=>by cases h) .vecN
 | vecE q=>exact .wit (fun _ h=>by cases h) (.vecE q)
 | vec F q1 q2 q3 q4 q5=>exact .wit (fun _ h=>by cases h) (.vec F q1 q2 q3 q4 q5)
def askN (x:List UInt8):Int × Int × List (Int × Int) × Int:=nextT wordsN [] (cutV (ofB x)) 0 100 (ixV (cutV (ofB x)) 0) 0
theorem words_f1:askN [97,97,97,98]=(0,3,[],0):=by kernel_rfl
theorem words_f2:askN [97,98,99]=(1,2,[],0):=by kernel_rfl
theorem words_f3:askN [98]=(0,0,[],4):=by kernel_rfl
theorem words_f4:plV (cutV (ofB [97,97,97,98])) (eF wordsN [] (cutV (ofB [97,97,97,98])) 0 100 (Int.toNat 0) (ixV (cutV (ofB [97,97,97,98])) 0))=[3,2,1]:=by kernel_rfl
theorem words_in(x:List UInt8)(h:x.length≤10):InOk wordsN [] x 0 0:=⟨words_nt,by omega,by decide,by decide,by decide⟩
theorem cut_start(x:List UInt8):∃ u∈cutV (ofB x),(u.pos:Int)=0:=by
 have h0:=cutF_ne (ofB x).size (ofB x) 0 0
 refine⟨(cutV (ofB x)).getD 0 default,getD_mem h0,?_⟩
 have e:(ofB x).size=x.length:=ofB_size x
 unfold cutV
 cases hx:(ofB x).size with
 | zero=>simp[cutF,hx]
 | succ k=>unfold cutF;rw[if_pos (by omega)];rfl
theorem words_next(x:List UInt8)(f:Bool)(h:x.length≤10)(ha:∀ b∈x,b.toNat<128):PCall Tryd.prog 10 [.agg (encN wordsN),inV [] x f,.vec [] false,.lit (.int .i64 0),.lit (.int .i64 0)] (nextA (askN x)):=by
 have h1:=next_spec_ok [] wordsN [] x f (.inr ha) 0 0 (words_in x h) words_mu 100 (fun _=>words_fix x (by have:=cutV_len (ofB x);rw[ofB_size] at this;omega))
 rw[if_pos ⟨words_ok,⟨by decide,by decide⟩,cut_start x⟩] at h1
 exact h1
theorem words_ends(x:List UInt8)(f:Bool)(h:x.length≤10)(ha:∀ b∈x,b.toNat<128):PCall Tryd.prog 15 [.agg (encN wordsN),inV [] x f,.vec [] false,.lit (.int .i64 0),.lit (.int .i64 0),.lit (.int .i64 0)] (.tup [.vec ((plV (cutV (ofB x)) (eF wordsN [] (cutV (ofB x)) 0 100 (Int.toNat 0) (ixV (cutV (ofB x)) 0))).map enc1) false,.lit (.int .i64 0)]):=by
 have h1:=mEnds_spec [] wordsN [] x f (.inr ha) 0 0 0 (words_in x h) words_mu 100 (fun _=>words_fix x (by have:=cutV_len (ofB x);rw[ofB_size] at this;omega))
 have hok:okEnds wordsN x 0 0 0=true:=by
  unfold okEnds
  obtain⟨u,hu,e⟩:=cut_start x
  have:((cutV (ofB x)).any fun u=>decide ((u.pos:Int)=0))=true:=List.any_eq_true.2 ⟨u,hu,by simpa using e⟩
  rw[words_ok,this]
  rfl
 rw[if_pos hok] at h1
 exact h1
theorem wakes_spec:PCall Tryd.prog 7 [] (.lit (.bool true)):=by
 have gN:GP (.agg (encN wordsN)):=.of_pure (.agg (pure_encN _))
 have pN:Ab.Pure (.agg (encN wordsN)):=.agg (pure_encN _)
 have n1:=words_next [97,97,97,98] true (by decide) (by decide)
 have n2:=words_next [97,98,99] true (by decide) (by decide)
 have n3:=words_next [98] true (by decide) (by decide)
 have n4:=words_ends [97,97,97,98] true (by decide) (by decide)
 rw[words_f1] at n1
 rw[words_f2] at n2
 rw[words_f3] at n3
 rw[words_f4] at n4
 have pA:∀ t,Ab.Pure (nextA t):=fun t=>.tup (allc (.lit _) (allc (.lit _) (allc (.vec (pure_rows pure_encAct _)) (allc (.lit _) alln))))
 have pE:∀ l:List Int,Ab.Pure (.tup [.vec (l.map enc1) false,.lit (.int .i64 0)]):=fun l=>.tup (allc (.vec (pure_rows pure_enc1 _)) (allc (.lit _) alln))
 refine PCall_of_SCall (SCall_introK Tryd.func7 rfl Tryd.ntmps7 (rs:=[.tmp 0]) rfl (by simp) ?_)
 refine aw_seq ?_
 refine aw_of ?_
 simp -implicitDefEqProofs (disch:=omega) only[Wz,seval]
 refine aw_seq ?_
 refine aw_regionM 1 rfl rfl rfl rfl ?_
 simp -implicitDefEqProofs (disch:=omega) only[Wz,seval]
 refine CallK_k call14 Words_spec alln gN ?_
 simp -implicitDefEqProofs (disch:=omega) only[Wz,seval]
 refine awop2_bytes ty27 rfl ty5 rfl rfl (by decide) (by decide) rfl rfl (by decide) ?_
 simp -implicitDefEqProofs (disch:=omega) only[Wz,seval]
 refine CallK.cv (fun g=>cvL_cons (cv_refl (.refl g) _) (cvL_cons cv_wit (cvL_cons (cv_full (.refl g) _ _) (cvL_cons (cv_refl (.refl g) _) (cvL_cons (cv_refl (.refl g) _) cvL_nil))))) ?_
 refine CallK_pure call10 n1 (allc pN (allc (pure_inV [] [97,97,97,98] true) (allc (.vec (by simp)) (allc (.lit _) (allc (.lit _) alln))))) (pA _) ?_
 simp -implicitDefEqProofs (disch:=omega) only[Wz,seval,nextA]
 refine aw_seq ?_
 refine aw_regionM 1 rfl rfl rfl rfl ?_
 simp -implicitDefEqProofs (disch:=omega) only[Wz,seval]
 refine CallK_k call14 Words_spec alln gN ?_
 simp -implicitDefEqProofs (disch:=omega) only[Wz,seval]
 refine awop2_bytes ty27 rfl ty5 rfl rfl (by decide) (by decide) rfl rfl (by decide) ?_
 simp -implicitDefEqProofs (disch:=omega) only[Wz,seval]
 refine CallK.cv (fun g=>cvL_cons (cv_refl (.refl g) _) (cvL_cons cv_wit (cvL_cons (cv_full (.refl g) _ _) (cvL_cons (cv_refl (.refl g) _) (cvL_cons (cv_refl (.refl g) _) cvL_nil))))) ?_
 refine CallK_pure call10 n2 (allc pN (allc (pure_inV [] [97,98,99] true) (allc (.vec (by simp)) (allc (.lit _) (allc (.lit _) alln))))) (pA _) ?_
 simp -implicitDefEqProofs (disch:=omega) only[Wz,seval,nextA]
 refine aw_seq ?_
 refine aw_regionM 1 rfl rfl rfl rfl ?_
 simp -implicitDefEqProofs (disch:=omega) only[Wz,seval]
 refine CallK_k call14 Words_spec alln gN ?_
 simp -implicitDefEqProofs (disch:=omega) only[Wz,seval]
 refine awop2_bytes ty27 rfl ty5 rfl rfl (by decide) (by decide) rfl rfl (by decide) ?_
 simp -implicitDefEqProofs (disch:=omega) only[Wz,seval]
 refine CallK.cv (fun g=>cvL_cons (cv_refl (.refl g) _) (cvL_cons cv_wit (cvL_cons (cv_full (.refl g) _ _) (cvL_cons (cv_refl (.refl g) _) (cvL_cons (cv_refl (.refl g) _) cvL_nil))))) ?_
 refine CallK_pure call10 n3 (allc pN (allc (pure_inV [] [98] true) (allc (.vec (by simp)) (allc (.lit _) (allc (.lit _) alln))))) (pA _) ?_
 simp -implicitDefEqProofs (disch:=omega) only[Wz,seval,nextA]
 refine aw_seq ?_
 refine aw_regionM 1 rfl rfl rfl rfl ?_
 simp -implicitDefEqProofs (disch:=omega) only[Wz,seval]
 refine CallK_k call14 Words_spec alln gN ?_
 simp -implicitDefEqProofs (disch:=omega) only[Wz,seval]
 refine awop2_bytes ty27 rfl ty5 rfl rfl (by decide) (by decide) rfl rfl (by decide) ?_
 simp -implicitDefEqProofs (disch:=omega) only[Wz,seval]
 refine CallK.cv (fun g=>cvL_cons (cv_refl (.refl g) _) (cvL_cons cv_wit (cvL_cons (cv_full (.refl g) _ _) (cvL_cons (cv_refl (.refl g) _) (cvL_cons (cv_refl (.refl g) _) (cvL_cons (cv_refl (.refl g) _) cvL_nil)))))) ?_
 refine CallK_pure call15 n4 (allc pN (allc (pure_inV [] [97,97,97,98] true) (allc (.vec (by simp)) (allc (.lit _) (allc (.lit _) (allc (.lit _) alln)))))) (pE _) ?_
 simp -implicitDefEqProofs (disch:=omega) only[Wz,seval,nextA]
 refine aw_of ?_
 have t2:Int.toNat 2=1+1:=rfl
 have g2:∀ a b c:List AV,[a,b,c].getD (1+1) []=c:=fun _ _ _=>rfl
 simp -implicitDefEqProofs (disch:=omega) only[Wz,seval,enc1,t2,g2,List.getD_cons_zero,List.getD_cons_succ,List.length_singleton]
 exact expo_pure (.lit _)
end Go.Proofs.YtgbbhilflgekhaaDoor
end
section
namespace Go.Proofs.YtgbbhilflgekhaaDoor
open Go Go.Ab
set_option maxRecDepth 20000
set_option maxHeartbeats 2000000
structure Kp (K:Nat→Prop) (H H':Hp):Prop where
 nx:H.nx≤H'.nx
 bx:∀ j,K j→j<H.nx→lk H'.boxes j=lk H.boxes j
 tk:∀ j,K j→j<H.nx→lk H'.toks j=lk H.toks j
 fb:∀ j,H'.nx≤j→lk H'.boxes j=none
 ft:∀ j,H'.nx≤j→lk H'.toks j=none
theorem Kp.trans{K:Nat→Prop}{a b c:Hp}(h:Kp K a b)(k:Kp K b c):Kp K a c :=
 ⟨Nat.le_trans h.nx k.nx,fun j q r=>(k.bx j q (Nat.lt_of_lt_of_le r h.nx)).trans (h.bx j q r),fun j q r=>(k.tk j q (Nat.lt_of_lt_of_le r h.nx)).trans (h.tk j q r),k.fb,k.ft⟩
theorem Kp.refl{K:Nat→Prop}{H:Hp}(fb:∀ j,H.nx≤j→lk H.boxes j=none)(ft:∀ j,H.nx≤j→lk H.toks j=none):Kp K H H:=⟨Nat.le_refl _,fun _ _ _=>rfl,fun _ _ _=>rfl,fb,ft⟩
theorem Kp.grow{K:Nat→Prop}{H:Hp}(fb:∀ j,H.nx≤j→lk H.boxes j=none)(ft:∀ j,H.nx≤j→lk H.toks j=none){B:List (Nat × List AV)}{m:Nat}(hm:H.nx≤m)(hB:∀ q∈B,H.nx≤q.1∧q.1<m):Kp K H ⟨H.boxes++B,H.toks,m⟩:=by
 refine⟨hm,fun j _ hj=>?_,fun _ _ _=>rfl,fun j hj=>?_,fun j hj=>ft j (Nat.le_trans hm hj)⟩
 ·show lk (H.boxes++B) j=_
  rw[lk_app]
  have:lk B j=none:=by
   have:∀ (B:List (Nat × List AV)),(∀ q∈B,H.nx≤q.1)→lk B j=none:=by
    intro B hB
    induction B with
    | nil=>rfl
    | cons q B ih =>
     obtain⟨i,c⟩:=q
     have h1:=hB (i,c) (by simp)
     simp only[lk]
     rw[if_neg (by simp only at h1;omega)]
     exact ih fun q hq=>hB q (by simp[hq])
   exact this B fun q hq=>(hB q hq).1
  rw[this,Option.or_none]
 ·have hj:m≤j:=hj
  show lk (H.boxes++B) j=none
  rw[lk_app,fb j (by omega)]
  exact lk_lt (N:=m) (fun q hq=>(hB q hq).2) hj
theorem Kp.tok{K:Nat→Prop}{H:Hp}(fb:∀ j,H.nx≤j→lk H.boxes j=none)(ft:∀ j,H.nx≤j→lk H.toks j=none){t:Nat}(hk:¬ K t)(hn:t<H.nx)(k:Tk):Kp K H ⟨H.boxes,up H.toks t k,H.nx⟩:=by
 refine⟨Nat.le_refl _,fun _ _ _=>rfl,fun j hj _=>?_,fb,fun j hj=>?_⟩
 ·show lk (up H.toks t k) j=_
  rw[lk_up,if_neg (by intro e;exact hk (e ▸ hj))]
 ·have hj:H.nx≤j:=hj
  show lk (up H.toks t k) j=_
  rw[lk_up,if_neg (by omega)];exact ft j hj
theorem Kp.lp{K:Nat→Prop}{H:Hp}(fb:∀ j,H.nx≤j→lk H.boxes j=none)(ft:∀ j,H.nx≤j→lk H.toks j=none):Kp K H H.addLp:=by
 refine⟨Nat.le_succ _,fun _ _ _=>rfl,fun j _ hj=>?_,fun j hj=>fb j (Nat.le_of_succ_le hj),fun j hj=>?_⟩
 ·show lk (H.toks++[(H.nx,lpTk 1)]) j=_
  rw[lk_app]
  simp only[lk]
  rw[if_neg (by omega),Option.or_none]
 ·have hj:H.nx+1≤j:=hj
  show lk (H.toks++[(H.nx,lpTk 1)]) j=none
  rw[lk_app,ft j (by omega)]
  simp only[lk]
  rw[if_neg (by omega)];rfl
theorem Kp.unlp{K:Nat→Prop}{H:Hp}(fb:∀ j,H.nx≤j→lk H.boxes j=none)(ft:∀ j,H.nx≤j→lk H.toks j=none){t:Nat}(hk:¬ K t):Kp K H (H.unlp t):=by
 refine⟨Nat.le_refl _,fun _ _ _=>rfl,fun j hj _=>?_,fb,fun j hj=>?_⟩
 ·show lk (dl H.toks t) j=_
  rw[lk_dl,if_neg (by intro e;exact hk (e ▸ hj))]
 ·have hj:H.nx≤j:=hj
  show lk (dl H.toks t) j=_
  rw[lk_dl,ft j hj];split <;> rfl
structure PI (n:Nt) (o:List Orc) (l:List Un) (md:Int) (k a:Nat) (li wi xi y0:Nat) (z:Nat) (C:Hp→Prop) (H:Hp):Prop where
 c:C H
 y:∀ p:Gh→Nat→Prop,True
 bx:lk H.boxes (y0+1)=some [.ptr li 0]
 ba:lk H.boxes (y0+2)=some [.lit (.int .i64 (a:Int))]
 xi:lk H.boxes xi=some [.ptr li 0]
 tk:lk H.toks (y0+3)=some (lpTk z)
 lk:∃ W,TdOk n o l md k W∧Lkr n o l md li wi W H
 nx:y0+3<H.nx
theorem Lkr.kp{n:Nt}{o:List Orc}{l:List Un}{md:Int}{li wi:Nat}{W:Td}{H H':Hp}(h:Lkr n o l md li wi W H){K:Nat→Prop}(h1:K li)(h2:K wi)(k:Kp K H H'):Lkr n o l md li wi W H' :=
 ⟨(k.bx _ h1 h.l1).trans h.at',(k.tk _ h2 h.l2).trans h.tk,h.ne,Nat.lt_of_lt_of_le h.l1 k.nx,Nat.lt_of_lt_of_le h.l2 k.nx,(k.tk _ h1 h.l1).trans h.no,k.fb,k.ft⟩
theorem Lkr.put{n:Nt}{o:List Orc}{l:List Un}{md:Int}{li wi:Nat}{W W':Td}{H:Hp}(h:Lkr n o l md li wi W H):Lkr n o l md li wi W' ⟨H.boxes,up H.toks wi (tokTd W'),H.nx⟩:=by
 refine⟨h.at',?_,h.ne,h.l1,h.l2,?_,h.fb,fun i hi=>?_⟩
 ·show Go.Ab.lk (up _ _ _) _=_
  rw[lk_up,if_pos rfl,h.tk];rfl
 ·show Go.Ab.lk (up _ _ _) _=_
  rw[lk_up,if_neg (Ne.symm h.ne)];exact h.no
 ·have:=h.l2
  have hi:H.nx≤i:=hi
  show Go.Ab.lk (up _ _ _) _=_
  rw[lk_up,if_neg (by omega)];exact h.ft i hi
theorem propsIt{n:Nt}{o:List Orc}{l:List Un}{md:Int}{k:Nat}(g:LkOk n o l md)(a:Nat)(ha:a<l.length)(he:∀ r,r<n.rules.length→EndsCall n o l md k r a)(hpos:∀ u∈l,u.pos≤999){p:Gh→Nat→Prop}(K:Nat→Prop)(M li wi xi ki ei:Nat)
  (k1:K li) (k2:K wi) (k3:K xi) (k4:K ki) (k5:K ei) (hM:∀ j,M≤j→K j) (C:Nat→Hp→Prop) (Z:Hp→Prop)
  (hC:∀ i H H',C i H→Kp (fun j=>¬ K j) H H'→C i H') (hZ:∀ H H',Z H→Kp (fun j=>¬ K j) H H'→Z H')
  (hsk:∀ i H,i<n.rules.length→propV n o l md k a i=none→C i H→C (i+1) H)
  (hY:∀ i y H,i<n.rules.length→propV n o l md k a i=some (i,y)→C i H→M≤H.nx→(∀ j,H.nx≤j→lk H.boxes j=none)→(∀ j,H.nx≤j→lk H.toks j=none) →
   YC Tryd.prog p [.lit (.int .i64 (i:Int)),.lit (.int .i64 ((l.getD y.pos default).pos:Int))] H fun r H'=>Kp K H H'∧((r = .lit (.bool true)∧C (i+1) H')∨(r = .lit (.bool false)∧Z H')))
  (H0:Hp) (h0:C 0 H0) (hM0:M≤H0.nx) (hx:lk H0.boxes xi=some [.ptr li 0]) (hk:lk H0.boxes ki=some [.lit (.int .i64 (a:Int))]) (hei:lk H0.boxes ei=some [.lit (.int .i64 0)]) (hl:∃ W,TdOk n o l md k W∧Lkr n o l md li wi W H0) (hxi:xi<H0.nx) :
  SCall Tryd.prog 20 [.yl p,.ptr ei 0,.ptr xi 0,.ptr ki 0] H0 fun r H'=>r = .tup []∧(C n.rules.length H'∨Z H'):=by
 refine SCall_introK Tryd.func20 rfl Tryd.ntmps20 (rs:=[]) rfl (by simp) ?_
 obtain⟨W0,hW0,hl0⟩:=hl
 have fb0:=hl0.fb
 have ft0:=hl0.ft
 have hb1:∀ x,lk (H0.boxes++x) xi=some [.ptr li 0]:=fun x=>by rw[lk_app,hx];rfl
 have hb2:∀ x,lk (H0.boxes++x) ki=some [.lit (.int .i64 (a:Int))]:=fun x=>by rw[lk_app,hk];rfl
 have hb3:∀ x,lk (H0.boxes++x) ei=some [.lit (.int .i64 0)]:=fun x=>by rw[lk_app,hei];rfl
 refine aw_seq ?_
 refine aw_of ?_
 simp -implicitDefEqProofs (disch:=omega) only[Wz,seval,encU_length,encU_take,encEn_length,encEn_take,encTr_length,encTr_take,List.append_eq,List.cons_append,List.nil_append]
 refine aw_seq ?_
 refine aw_of ?_
 simp -implicitDefEqProofs (disch:=omega) only[Wz,seval,encU_length,encU_take,encEn_length,encEn_take,encTr_length,encTr_take,List.append_eq,List.cons_append,List.nil_append,hb3]
 refine aw_seq ?_
 refine aw_of ?_
 simp -implicitDefEqProofs (disch:=omega) only[Wz,seval,encU_length,encU_take,encEn_length,encEn_take,encTr_length,encTr_take,List.append_eq,List.cons_append,List.nil_append,hb1,hb2]
 refine CallK_of call18 (each_spec li a _) ?_
 rintro r0 h' ⟨rfl,rfl⟩
 simp -implicitDefEqProofs (disch:=omega) only[Wz,seval,encU_length,encU_take,encEn_length,encEn_take,encTr_length,encTr_take,List.append_eq,List.cons_append,List.nil_append,List.append_assoc]
 refine aw_block' ?_
 obtain⟨y0,hy0⟩:∃ y0,H0.nx=y0:=⟨_,rfl⟩
 have kg:Kp (fun j=>¬ K j) H0 ⟨H0.boxes++[(y0,[.yl p]),(y0+1,[.ptr li 0]),(y0+2,[.lit (.int .i64 (a:Int))])],H0.toks,y0+3⟩:=Kp.grow fb0 ft0 (by omega) (by simp;omega)
 have kgK:Kp K H0 ⟨H0.boxes++[(y0,[.yl p]),(y0+1,[.ptr li 0]),(y0+2,[.lit (.int .i64 (a:Int))])],H0.toks,y0+3⟩:=Kp.grow fb0 ft0 (by omega) (by simp;omega)
 have c1:=hC _ _ _ h0 kg
 have l1:=hl0.kp k1 k2 kgK
 have fy:lk H0.boxes y0=none:=fb0 _ (by omega)
 have fy1:lk H0.boxes (y0+1)=none:=fb0 _ (by omega)
 have fy2:lk H0.boxes (y0+2)=none:=fb0 _ (by omega)
 have e0:lk (H0.boxes++[(y0,[.yl p]),(y0+1,[.ptr li 0]),(y0+2,[.lit (.int .i64 (a:Int))])]) y0=some [.yl p]:=by rw[lk_app,fy];simp[lk]
 have e1:lk (H0.boxes++[(y0,[.yl p]),(y0+1,[.ptr li 0]),(y0+2,[.lit (.int .i64 (a:Int))])]) (y0+1)=some [.ptr li 0]:=by rw[lk_app,fy1];simp[lk]
 have e2:lk (H0.boxes++[(y0,[.yl p]),(y0+1,[.ptr li 0]),(y0+2,[.lit (.int .i64 (a:Int))])]) (y0+2)=some [.lit (.int .i64 (a:Int))]:=by rw[lk_app,fy2];simp[lk]
 have e3:=hb1 [(y0,[.yl p]),(y0+1,[.ptr li 0]),(y0+2,[.lit (.int .i64 (a:Int))])]
 rw[hy0]
 generalize hH1:(⟨H0.boxes++[(y0,[.yl p]),(y0+1,[.ptr li 0]),(y0+2,[.lit (.int .i64 (a:Int))])],H0.toks,y0+3⟩:Hp)=H1 at c1 l1
 have hn1:H1.nx=y0+3:=by rw[← hH1]
 have e0:lk H1.boxes y0=some [.yl p]:=by rw[← hH1];exact e0
 have e1:lk H1.boxes (y0+1)=some [.ptr li 0]:=by rw[← hH1];exact e1
 have e2:lk H1.boxes (y0+2)=some [.lit (.int .i64 (a:Int))]:=by rw[← hH1];exact e2
 have e3:lk H1.boxes xi=some [.ptr li 0]:=by rw[← hH1];exact e3
 refine aw_wk (σ':=⟨[(11,.fn (.func 28) [] [.ptr (y0+1) 0,.ptr (y0+2) 0]),(4,.ptr y0 0),(2,.ptr xi 0)],H1,27⟩) (by rw[← hH1];exact wk_lk (by simp[lk]) (fun _ _ e=>e) (fun _ _ e=>e) rfl rfl) ?_
 have hwy:wi<y0:=by have:=hl0.l2;omega
 have hxy:xi<y0:=by omega
 clear hH1 fy fy1 fy2 kg kgK hb1 hb2 hb3
 refine aw_rangeFunc (gf:=28) (first:=[]) (lb:=[.ptr (y0+1) 0,.ptr (y0+2) 0]) rfl call28 (fun p' hp'=>?_)
 have ky:∀ j,y0≤j→K j:=fun j hj=>hM j (by omega)
 obtain⟨I,hI⟩:∃ I:Nat→Nat→Hp→Prop,∀ z i H,I z i H↔(C i H∧lk H.boxes y0=some [.yl p])∧PI n o l md k a li wi xi y0 z (fun _=>True) H:=⟨fun z i H=>(C i H∧lk H.boxes y0=some [.yl p])∧PI n o l md k a li wi xi y0 z (fun _=>True) H,fun _ _ _=>Iff.rfl⟩
 have up':∀ (z i:Nat) (H H':Hp),(∃ W,TdOk n o l md k W∧Lkr n o l md li wi W H')→lk H'.toks (y0+3)=some (lpTk z)→(∀ j,j<H.nx→lk H'.boxes j=lk H.boxes j)→H.nx≤H'.nx→Kp (fun j=>¬ K j) H H'→I 1 i H∨I 2 i H→I z i H':=by
  intro z i H H' hl ht hb hn kk h
  have key:(C i H∧lk H.boxes y0=some [.yl p])∧lk H.boxes (y0+1)=some [.ptr li 0]∧lk H.boxes (y0+2)=some [.lit (.int .i64 (a:Int))]∧lk H.boxes xi=some [.ptr li 0]∧y0+3<H.nx:=by
   rcases h with h | h <;> (rw[hI] at h;exact⟨h.1,h.2.bx,h.2.ba,h.2.xi,h.2.nx⟩)
  obtain⟨⟨q1,q2⟩,q3,q4,q5,q6⟩:=key
  rw[hI]
  exact⟨⟨hC _ _ _ q1 kk,(hb _ (by omega)).trans q2⟩,trivial,fun _=>trivial,(hb _ (by omega)).trans q3,(hb _ (by omega)).trans q4,(hb _ (by omega)).trans q5,ht,hl,by omega⟩
 have hA0:I 1 0 H1.addLp:=by
  have kk:Kp (fun j=>¬ K j) H1 H1.addLp:=Kp.lp l1.fb l1.ft
  have kk2:Kp K H1 H1.addLp:=Kp.lp l1.fb l1.ft
  rw[hI]
  refine⟨⟨hC _ _ _ c1 kk,e0⟩,trivial,fun _=>trivial,e1,e2,e3,?_,⟨W0,hW0,l1.kp k1 k2 kk2⟩,?_⟩
  ·show lk (H1.toks++[(H1.nx,lpTk 1)]) (y0+3)=_
   rw[lk_app,l1.ft _ (by omega),hn1];simp[lk]
  ·show y0+3<H1.nx+1
   omega
 have hinf:∀ z i H,I z i H→(∃ W,TdOk n o l md k W∧Lkr n o l md li wi W H)∧y0+3<H.nx∧lk H.toks (y0+3)=some (lpTk z):=fun z i H h=>by rw[hI] at h;exact⟨h.2.lk,h.2.nx,h.2.tk⟩
 refine SCall.mono (eachIt g a ha he li wi (y0+1) (y0+2) (I 1) (fun H=>Z H∧(∃ W,TdOk n o l md k W∧Lkr n o l md li wi W H)∧lk H.toks (y0+3)=some (lpTk 3)) (fun i H h=>?_) (fun i H W' h hW=>?_) (fun i H B m h hm hB=>?_) (fun i H hi h hn=>?_) (fun i y H hi h hs=>?_) _ hA0) ?_
 ·rw[hI] at h
  exact⟨h.2.bx,h.2.ba,h.2.lk⟩
 ·obtain⟨⟨W,hW1,hl⟩,hnx,htk⟩:=hinf _ _ _ h
  refine up' 1 i H _ ⟨W',hW,hl.put⟩ ?_ (fun _ _=>rfl) (Nat.le_refl _) (Kp.tok hl.fb hl.ft (fun q=>q k2) hl.l2 _) (.inl h)
  show lk (up H.toks wi (tokTd W')) (y0+3)=_
  rw[lk_up,if_neg ?_]
  ·exact htk
  ·omega
 ·obtain⟨⟨W,hW1,hl⟩,hnx,htk⟩:=hinf _ _ _ h
  have kk:Kp (fun j=>¬ K j) H ⟨H.boxes++B,H.toks,m⟩:=Kp.grow hl.fb hl.ft hm hB
  have kk2:Kp (fun _=>True) H ⟨H.boxes++B,H.toks,m⟩:=Kp.grow hl.fb hl.ft hm hB
  exact up' 1 i H _ ⟨W,hW1,hl.kp (K:=fun _=>True) trivial trivial kk2⟩ htk (fun j hj=>kk2.bx j trivial hj) hm kk (.inl h)
 ·rw[hI] at h ⊢
  exact⟨⟨hsk _ _ hi hn h.1.1,h.1.2⟩,h.2⟩
 ·
  obtain⟨⟨W,hW1,hl⟩,hnx,htk⟩:=hinf _ _ _ h
  have hyo:=e_out g.w g.u (o:=o) (md:=md) (k:=k) hi ha y (by
   unfold propV at hs
   split at hs
   ·obtain⟨y',h1,h2⟩:=Option.map_eq_some_iff.1 hs
    cases h2
    exact bestV_mem h1
   ·cases hs)
  refine hp' _ _ _ ⟨by rw[hn1];exact htk,rfl,?_⟩
  refine aw_of ?_
  have hu1:∀ c d,up (H.boxes++[(H.nx,c)]) H.nx d=H.boxes++[(H.nx,d)]:=fun c d=>up_app (hl.fb _ (Nat.le_refl _))
  have hnn:∀ c,lk (H.boxes++[(H.nx,c)]) H.nx=some c:=fun c=>by rw[lk_app,hl.fb _ (Nat.le_refl _)];simp[lk]
  simp -implicitDefEqProofs (disch:=omega) only[Wz,seval,encU_length,encU_take,encEn_length,encEn_take,encTr_length,encTr_take,List.append_eq,List.cons_append,List.nil_append,putL,hnn,hu1,hn1]
  refine⟨htk,?_⟩
  have kk2:Kp (fun _=>True) H ⟨H.boxes++[(H.nx,encEn y)],H.toks,H.nx+1⟩:=Kp.grow hl.fb hl.ft (by omega) (by simp)
  have kk:Kp (fun j=>¬ K j) H ⟨H.boxes++[(H.nx,encEn y)],H.toks,H.nx+1⟩:=Kp.grow hl.fb hl.ft (by omega) (by simp)
  have h2:=up' 1 i H _ ⟨W,hW1,hl.kp (K:=fun _=>True) trivial trivial kk2⟩ htk (fun j hj=>kk2.bx j trivial hj) (by show H.nx≤H.nx+1;omega) kk (.inl h)
  have hyi:lk (H.boxes++[(H.nx,encEn y)]) H.nx=some (encEn y):=hnn _
  obtain⟨⟨W2,hW2,hl2⟩,hnx2,htk2⟩:=hinf _ _ _ h2
  have kk3:Kp (fun j=>¬ K j) _ _:=Kp.tok hl2.fb hl2.ft (fun q=>q (ky (y0+3) (by omega))) hnx2 (lpTk 2)
  have kk4:Kp (fun j=>j≠y0+3) _ _:=Kp.tok hl2.fb hl2.ft (fun q=>q rfl) hnx2 (lpTk 2)
  have h3:I 2 i ⟨H.boxes++[(H.nx,encEn y)],up H.toks (y0+3) (lpTk 2),H.nx+1⟩:=by
   refine up' 2 i ⟨H.boxes++[(H.nx,encEn y)],H.toks,H.nx+1⟩ _ ⟨W2,hW2,hl2.kp (by have:=hl2.l1;intro q;subst q;have:=hl2.no;rw[htk2] at this;cases this) (by omega) kk4⟩ ?_ (fun _ _=>rfl) (Nat.le_refl _) kk3 (.inl h2)
   show lk (up H.toks (y0+3) (lpTk 2)) (y0+3)=_
   rw[lk_up,if_pos rfl,htk];rfl
  refine aw_wk (σ':=⟨[(5,.lit (.int .i64 (i:Int))),(6,.ptr H.nx 0),(2,.ptr xi 0),(4,.ptr y0 0)],⟨H.boxes++[(H.nx,encEn y)],up H.toks (y0+3) (lpTk 2),H.nx+1⟩,27⟩) (wk_lk (by simp[lk]) (fun _ _ e=>e) (fun _ _ e=>e) rfl rfl) ?_
  generalize hH3:(⟨H.boxes++[(H.nx,encEn y)],up H.toks (y0+3) (lpTk 2),H.nx+1⟩:Hp)=H3 at h3 ⊢
  have hyi:lk H3.boxes H.nx=some (encEn y):=by rw[← hH3];exact hyi
  clear hH3 kk kk2 kk3 kk4 h2 hu1 hnn hl hl2 W hW1 W2 hW2 hnx2 htk2
  generalize H.nx=yi at hyi ⊢
  obtain⟨⟨W3,hW3,hl3⟩,hnx3,htk3⟩:=hinf _ _ _ h3
  have h3':=h3
  rw[hI] at h3'
  obtain⟨⟨c3,b3⟩,pi3⟩:=h3'
  have hb3:=pi3.xi
  have hlo:=hl3.at'
  have hy3:=hY i y H3 hi hs c3 (by omega) hl3.fb hl3.ft
  obtain⟨u,hu⟩:∃ u,l.getD y.pos default=u:=⟨_,rfl⟩
  rw[hu] at hy3
  have hyl:=hyo.2.1
  have hll:=g.len
  refine aw_block' ?_
  refine aw_seq ?_
  refine aw_drawQ (n:=27) 11 (.alt 11 (.alt 12 .leaf .nil) .nil) rfl (by decide) (by decide) mixed (by kernel_rfl) (by decide) ?_
  simp -implicitDefEqProofs (disch:=omega) only[Wz,seval,encU_length,encU_take,encEn_length,encEn_take,encTr_length,encTr_take,List.append_eq,List.cons_append,List.nil_append,b3,hb3,hlo,lookC,encN,hyi,encEn,hu,encU]
  refine awop_yield rfl rfl rfl ?_
  refine hy3.mono ?_
  have keep:∀ (z j:Nat) (H':Hp),Kp K H3 H'→C j H'→I z j (H'.lp (y0+3) z):=fun z j H' kp hc=>by
   have q1:Kp (fun j=>¬ K j) H' (H'.lp (y0+3) z):=Kp.tok kp.fb kp.ft (fun q=>q (ky (y0+3) (by omega))) (by have:=kp.nx;omega) _
   have q2:Kp (fun j=>j≠y0+3) H' (H'.lp (y0+3) z):=Kp.tok kp.fb kp.ft (fun q=>q rfl) (by have:=kp.nx;omega) _
   have t1:lk H'.toks (y0+3)=some (lpTk 2):=(kp.tk _ (ky _ (by omega)) hnx3).trans htk3
   rw[hI]
   refine⟨⟨hC _ _ _ hc q1,(kp.bx _ (ky _ (Nat.le_refl _)) (by omega)).trans b3⟩,trivial,fun _=>trivial,(kp.bx _ (ky _ (by omega)) (by omega)).trans pi3.bx,(kp.bx _ (ky _ (by omega)) (by omega)).trans pi3.ba,(kp.bx _ k3 (by omega)).trans hb3,?_,⟨W3,hW3,(hl3.kp k1 k2 kp).kp (K:=fun j=>j≠y0+3) ?_ (by omega) q2⟩,?_⟩
   ·show lk (up H'.toks (y0+3) (lpTk z)) (y0+3)=_
    rw[lk_up,if_pos rfl,t1];rfl
   ·intro q;subst q;have:=hl3.no;rw[htk3] at this;cases this
   ·show y0+3<H'.nx
    have:=kp.nx;omega
  rintro r H' ⟨kp,⟨rfl,hc⟩ | ⟨rfl,hz⟩⟩
  ·simp -implicitDefEqProofs (disch:=omega) only[Wz,seval,encU_length,encU_take,encEn_length,encEn_take,encTr_length,encTr_take,List.append_eq,List.cons_append,List.nil_append]
   refine aw_of ?_
   simp -implicitDefEqProofs (disch:=omega) only[Wz,seval,encU_length,encU_take,encEn_length,encEn_take,encTr_length,encTr_take,List.append_eq,List.cons_append,List.nil_append]
   exact⟨⟨[],H',27⟩,wk_lk (by simp) (fun _ _ e=>e) (fun _ _ e=>e) rfl rfl,(kp.tk _ (ky _ (by omega)) hnx3).trans htk3,.inl ⟨rfl,keep 1 _ _ kp hc⟩⟩
  ·simp -implicitDefEqProofs (disch:=omega) only[Wz,seval,encU_length,encU_take,encEn_length,encEn_take,encTr_length,encTr_take,List.append_eq,List.cons_append,List.nil_append]
   refine aw_of ?_
   simp -implicitDefEqProofs (disch:=omega) only[Wz,seval,encU_length,encU_take,encEn_length,encEn_take,encTr_length,encTr_take,List.append_eq,List.cons_append,List.nil_append]
   have q1:Kp (fun j=>¬ K j) H' (H'.lp (y0+3) 3):=Kp.tok kp.fb kp.ft (fun q=>q (ky (y0+3) (by omega))) (by have:=kp.nx;omega) _
   have q2:Kp (fun j=>j≠y0+3) H' (H'.lp (y0+3) 3):=Kp.tok kp.fb kp.ft (fun q=>q rfl) (by have:=kp.nx;omega) _
   have t1:lk H'.toks (y0+3)=some (lpTk 2):=(kp.tk _ (ky _ (by omega)) hnx3).trans htk3
   refine⟨⟨[],H',27⟩,wk_lk (by simp) (fun _ _ e=>e) (fun _ _ e=>e) rfl rfl,t1,.inr ⟨rfl,?_⟩⟩
   refine⟨hZ _ _ hz q1,⟨W3,hW3,(hl3.kp k1 k2 kp).kp (K:=fun j=>j≠y0+3) ?_ (by omega) q2⟩,?_⟩
   ·intro q;subst q;have:=hl3.no;rw[htk3] at this;cases this
   ·show lk (up H'.toks (y0+3) (lpTk 3)) (y0+3)=_
    rw[lk_up,if_pos rfl,t1];rfl
 ·rintro r H' ⟨rfl,hH | hH⟩
  ·obtain⟨⟨W,hW1,hl⟩,hnx,htk⟩:=hinf _ _ _ hH
   rw[hI] at hH
   refine⟨1,Nat.le_refl _,by decide,by rw[hn1];exact htk,.inl ⟨rfl,?_⟩⟩
   simp -implicitDefEqProofs (disch:=omega) only[Wz,seval,encU_length,encU_take,encEn_length,encEn_take,encTr_length,encTr_take,List.append_eq,List.cons_append,List.nil_append]
   rw[hn1]
   exact .inl (hC _ _ _ hH.1.1 (Kp.unlp hl.fb hl.ft (fun q=>q (ky (y0+3) (by omega)))))
  ·obtain⟨hz,⟨W,hW1,hl⟩,htk⟩:=hH
   refine⟨3,by decide,by decide,by rw[hn1];exact htk,.inr (.inl ⟨rfl,?_⟩)⟩
   simp -implicitDefEqProofs (disch:=omega) only[Wz,seval,encU_length,encU_take,encEn_length,encEn_take,encTr_length,encTr_take,List.append_eq,List.cons_append,List.nil_append]
   rw[hn1]
   exact .inr (hZ _ _ hz (Kp.unlp hl.fb hl.ft (fun q=>q (ky (y0+3) (by omega)))))
theorem propsNo{p:Gh→Nat→Prop}{xi ki ei:Nat}{e:Int}(he:e≠0)(H:Hp)(hei:lk H.boxes ei=some [.lit (.int .i64 e)]) :
  SCall Tryd.prog 20 [.yl p,.ptr ei 0,.ptr xi 0,.ptr ki 0] H fun r H'=>r = .tup []∧H'=⟨H.boxes++[(H.nx,[.yl p])],H.toks,H.nx+1⟩:=by
 refine SCall_introK Tryd.func20 rfl Tryd.ntmps20 (rs:=[]) rfl (by simp) ?_
 have hb3:∀ x,lk (H.boxes++x) ei=some [.lit (.int .i64 e)]:=fun x=>by rw[lk_app,hei];rfl
 have hne:(e != 0)=true:=by simpa using he
 refine aw_seq ?_
 refine aw_of ?_
 simp -implicitDefEqProofs (disch:=omega) only[Wz,seval,encU_length,encU_take,encEn_length,encEn_take,encTr_length,encTr_take,List.append_eq,List.cons_append,List.nil_append]
 refine aw_seq ?_
 refine aw_of ?_
 simp -implicitDefEqProofs (disch:=omega) only[Wz,seval,encU_length,encU_take,encEn_length,encEn_take,encTr_length,encTr_take,List.append_eq,List.cons_append,List.nil_append,hb3,hne]
theorem props_spec(L:List (Nat × List Value))(n:Nt)(o:List Orc)(x:List UInt8)(f:Bool)(hL:TabFor L x)(at' md:Int)(g:InOk n o x at' md)(H:Hp)(hf:∀ i,H.nx≤i→lk H.boxes i=none) :
  SCall Tryd.prog 12 [.agg (encN n),inV L x f,.vec (o.map encO) false,.lit (.int .i64 at'),.lit (.int .i64 md)] H fun r h' =>
   (okV n=true∧(0≤md∧md<(n.modes.length:Int))∧∃ i:Nat,i<(cutV (ofB x)).length∧(((cutV (ofB x)).getD i default).pos:Int)=at'∧r = .fn (.func 20) [] [.ptr (H.nx+6) 0,.ptr (H.nx+4) 0,.ptr (H.nx+5) 0] ∧
    h'=⟨H.boxes++[(H.nx,encN n),(H.nx+1,encN n),(H.nx+3,lookC n o (cutV (ofB x)) md (H.nx+2)),(H.nx+4,[.ptr (H.nx+3) 0]),(H.nx+5,[.lit (.int .i64 (i:Int))]),(H.nx+6,[.lit (.int .i64 0)])],H.toks++[(H.nx+2,tokTd [])],H.nx+7⟩) ∨
   ((okV n=true→¬ ((0≤md∧md<(n.modes.length:Int))∧∃ u∈cutV (ofB x),(u.pos:Int)=at'))∧r = .fn (.func 20) [] [.ptr (H.nx+4) 0,.ptr (H.nx+2) 0,.ptr (H.nx+3) 0] ∧
    h'=⟨H.boxes++[(H.nx,encN n),(H.nx+1,encN n),(H.nx+2,[.lit (.pointer none)]),(H.nx+3,[.lit (.int .i64 0)]),(H.nx+4,[.lit (.int .i64 (if okV n then 2 else 110))])],H.toks,H.nx+5⟩):=by
 refine SCall_introK Tryd.func12 rfl Tryd.ntmps12 (rs:=[.tmp 10]) rfl (by simp) ?_
 have hlook:=look_spec L n o x f hL at' md g ⟨H.boxes++[(H.nx,encN n)],H.toks,H.nx+1⟩ (fun i hi=>by
  have hi:H.nx+1≤i:=hi
  show lk (H.boxes++[(H.nx,encN n)]) i=none
  rw[lk_app,hf i (by omega)]
  simp only[lk]
  rw[if_neg (by omega)];rfl)
 have hpx:=pure_inV L x f
 have hn1:∀ c x,lk (H.boxes++(H.nx,c) :: x) H.nx=some c:=fun c x=>by rw[lk_app,hf _ (Nat.le_refl _)];simp[lk]
 have hkj:∀ (B:List (Nat × List AV)) (j:Nat),lk (H.boxes++B) (H.nx+j)=lk B (H.nx+j):=fun B j=>by rw[lk_app,hf _ (by omega)];simp
 have huj:∀ (B:List (Nat × List AV)) (j:Nat) (d:List AV),up (H.boxes++B) (H.nx+j) d=H.boxes++up B (H.nx+j) d:=fun B j d=>up_app2 (hf _ (by omega))
 have n2:H.nx+2+1=H.nx+3:=rfl
 have n3:H.nx+3+1=H.nx+4:=rfl
 have n4:H.nx+4+1=H.nx+5:=rfl
 have n5:H.nx+5+1=H.nx+6:=rfl
 have n6:H.nx+6+1=H.nx+7:=rfl
 obtain⟨l,hl⟩:∃ l,cutV (ofB x)=l:=⟨_,rfl⟩
 rw[hl] at hlook ⊢
 unfold inV at hlook hpx ⊢
 simp only[Nat.add_assoc,Nat.reduceAdd,List.append_assoc,List.cons_append,List.nil_append] at hlook
 refine aw_seq ?_
 refine aw_of ?_
 simp -implicitDefEqProofs (disch:=omega) only[Wz,seval,encU_length,encU_take,encEn_length,encEn_take,encTr_length,encTr_take,List.append_eq,List.cons_append,List.nil_append]
 refine aw_seq ?_
 refine aw_of ?_
 simp -implicitDefEqProofs (disch:=omega) only[Wz,seval,encU_length,encU_take,encEn_length,encEn_take,encTr_length,encTr_take,List.append_eq,List.cons_append,List.nil_append,hn1,encN_length,encN_take]
 refine CallK_of call17 hlook ?_
 rintro r0 h' (⟨hok,hmd,i,hil,hia,rfl,rfl⟩ | ⟨hno,rfl,rfl⟩)
 ·simp -implicitDefEqProofs (disch:=omega) only[Wz,seval,encU_length,encU_take,encEn_length,encEn_take,encTr_length,encTr_take,List.append_eq,List.cons_append,List.nil_append,List.append_assoc,hkj,huj,n2,n3,n4,n5,n6,lk,up,if_pos,if_neg]
  refine aw_seq ?_
  refine aw_of ?_
  simp -implicitDefEqProofs (disch:=omega) only[Wz,seval,encU_length,encU_take,encEn_length,encEn_take,encTr_length,encTr_take,List.append_eq,List.cons_append,List.nil_append]
  refine aw_of ?_
  simp -implicitDefEqProofs (disch:=omega) only[Wz,seval,encU_length,encU_take,encEn_length,encEn_take,encTr_length,encTr_take,List.append_eq,List.cons_append,List.nil_append]
  exact .inl ⟨hok,hmd,i,hil,hia,rfl⟩
 ·simp -implicitDefEqProofs (disch:=omega) only[Wz,seval,encU_length,encU_take,encEn_length,encEn_take,encTr_length,encTr_take,List.append_eq,List.cons_append,List.nil_append,List.append_assoc,hkj,huj,n2,n3,n4,n5,n6,lk,up,if_pos,if_neg]
  refine aw_seq ?_
  refine aw_of ?_
  simp -implicitDefEqProofs (disch:=omega) only[Wz,seval,encU_length,encU_take,encEn_length,encEn_take,encTr_length,encTr_take,List.append_eq,List.cons_append,List.nil_append]
  refine aw_of ?_
  simp -implicitDefEqProofs (disch:=omega) only[Wz,seval,encU_length,encU_take,encEn_length,encEn_take,encTr_length,encTr_take,List.append_eq,List.cons_append,List.nil_append]
  exact .inr hno
end Go.Proofs.YtgbbhilflgekhaaDoor
end
