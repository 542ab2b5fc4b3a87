/- What the claim wants of the machine, the contracts and the law, laid together. -/
import Derived.Test.YtgbbhilflgekhaaDoorXe
set_option linter.unusedVariables false
set_option linter.unusedSimpArgs false
section
namespace Go.Proofs.YtgbbhilflgekhaaDoor
open Go Go.Ab
set_option maxRecDepth 20000
set_option maxHeartbeats 16000000
def kd1 (n:Nt)(r:Nr)(e:Ed):Bool:=decide (e.n=0∧e.level=0) && (decide ((if r.lexer then 0 else 1)≤(e.set.getD 0 default).1) && decide ((e.set.getD (e.set.length - 1) default).2≤(if r.lexer then 1114111 else (n.types.length:Int))))
theorem kd1_spec(n:Nt)(r:Nr)(no:Int)(e:Ed)(h:n.types.length≤2000000000)(hs:0<e.set.length)(hl:e.set.length≤2000000000):PCall Tryd.prog 58 [.agg (encK n r no e)] (.lit (.bool (kd1 n r e))):=by
 refine PCall_intro Tryd.func58 rfl Tryd.ntmps58 (rs:=[.tmp 2]) rfl (by simp) ?_
 simp -implicitDefEqProofs (disch:=omega) only[Wz,seval,encK,encE,encNr,encN,List.append_eq,List.cons_append,List.nil_append]
 refine aw_quietN (n:=56) rfl (by decide) mixed ?_
 have hw:IntKind.i32.wrap (n.types.length:Int)=(n.types.length:Int):=IntWalk.i32_in _ ⟨by omega,by omega⟩
 have i1:((e.set.length:Int) - 1).toNat=e.set.length - 1:=by omega
 have i2:IntKind.i64.wrap ((e.set.length:Int) - 1)=(e.set.length:Int) - 1:=i64w (by omega) (by omega)
 unfold kd1
 cases hx:r.lexer
 ·by_cases k1:e.n=0
  ·by_cases k2:e.level=0
   ·by_cases k3:1≤(e.set.getD 0 default).1
    ·by_cases k4:(e.set.getD (e.set.length - 1) default).2≤(n.types.length:Int)
     all_goals
      simp -implicitDefEqProofs (disch:=omega) only[Wz,seval,encNr,hx,hw,i1,i2,encR,Bool.true_and,Bool.false_eq_true,if_true,if_false]
      exact expo_pure (.lit _)
    ·simp -implicitDefEqProofs (disch:=omega) only[Wz,seval,encNr,hx,hw,i1,i2,encR,Bool.true_and,Bool.false_and,Bool.false_eq_true,if_true,if_false]
     exact expo_pure (.lit _)
   ·simp -implicitDefEqProofs (disch:=omega) only[Wz,seval,encNr,hx,hw,i1,i2,encR,Bool.true_and,Bool.false_and,Bool.false_eq_true,if_true,if_false]
    exact expo_pure (.lit _)
  ·simp -implicitDefEqProofs (disch:=omega) only[Wz,seval,encNr,hx,hw,i1,i2,encR,Bool.true_and,Bool.false_and,Bool.false_eq_true,if_true,if_false]
   exact expo_pure (.lit _)
 ·by_cases k1:e.n=0
  ·by_cases k2:e.level=0
   ·by_cases k3:0≤(e.set.getD 0 default).1
    ·by_cases k4:(e.set.getD (e.set.length - 1) default).2≤1114111
     all_goals
      simp -implicitDefEqProofs (disch:=omega) only[Wz,seval,encNr,hx,hw,i1,i2,encR,Bool.true_and,Bool.false_eq_true,if_true,if_false]
      exact expo_pure (.lit _)
    ·simp -implicitDefEqProofs (disch:=omega) only[Wz,seval,encNr,hx,hw,i1,i2,encR,Bool.true_and,Bool.false_and,Bool.false_eq_true,if_true,if_false]
     exact expo_pure (.lit _)
   ·simp -implicitDefEqProofs (disch:=omega) only[Wz,seval,encNr,hx,hw,i1,i2,encR,Bool.true_and,Bool.false_and,Bool.false_eq_true,if_true,if_false]
    exact expo_pure (.lit _)
  ·simp -implicitDefEqProofs (disch:=omega) only[Wz,seval,encNr,hx,hw,i1,i2,encR,Bool.true_and,Bool.false_and,Bool.false_eq_true,if_true,if_false]
   exact expo_pure (.lit _)
theorem kinds_spec:KCall Tryd.prog 47 [] (.agg [.fn (.func 57) [] [],.fn (.func 58) [] [],.fn (.func 59) [] [],.fn (.func 60) [] [],.fn (.func 62) [] [],.fn (.func 63) [] [],.fn (.func 64) [] [],.fn (.func 65) [] []]):=by
 refine KCall_of (SCall_intro Tryd.func47 rfl Tryd.ntmps47 (rs:=[.cell 0 130]) rfl (by simp) ?_)
 simp -implicitDefEqProofs (disch:=omega) only[Wz,seval]
 exact kexpo (.of_pure (.agg (allc (.fn alln alln) (allc (.fn alln alln) (allc (.fn alln alln) (allc (.fn alln alln) (allc (.fn alln alln) (allc (.fn alln alln) (allc (.fn alln alln) (allc (.fn alln alln) alln))))))))))
theorem of_pp(n:Nt)(st ru:Int)(h:n.states.length≤2000000000):PCall Tryd.prog 46 [.pp (encN n) 0,.lit (.int .i64 st),.lit (.int .i64 ru)] (.lit (.bool (ofN n st ru))):=by
 refine PCall_intro Tryd.func46 rfl Tryd.ntmps46 (rs:=[.tmp 6]) rfl (by simp) ?_
 unfold ofN
 by_cases k1:0≤st
 ·by_cases k2:st<(n.states.length:Int)
  ·by_cases k3:(n.states.getD st.toNat default).rule=ru
   all_goals
    simp -implicitDefEqProofs (disch:=omega) only[Wz,seval,encN,encSt,Bool.true_and]
    exact expo_pure (.lit _)
  ·simp -implicitDefEqProofs (disch:=omega) only[Wz,seval,encN,Bool.false_and]
   exact expo_pure (.lit _)
 ·simp -implicitDefEqProofs (disch:=omega) only[Wz,seval,encN,Bool.false_and]
  exact expo_pure (.lit _)
theorem bytes_list{a b:ByteArray}(h:a.toList=b.toList):a=b:=by
 rw[ByteArray.toList_eq,ByteArray.toList_eq] at h
 cases a;cases b
 simp only[Array.toList_inj] at h
 rw[h]
instance:DecidableEq ByteArray:=fun a b=>decidable_of_iff (a.toList=b.toList) ⟨bytes_list,fun h=>by rw[h]⟩
theorem bytes_eq(a b:ByteArray):(a.toList==b.toList)=decide (a=b):=by
 by_cases h:a=b
 ·subst h;simp
 ·rw[decide_eq_false h]
  cases hb:a.toList==b.toList with
  | false=>rfl
  | true=>exact absurd (bytes_list (by simpa using hb)) h
def encS (b:ByteArray):AV:=.lit (.string b)
theorem keyS:KeyT Tryd.prog 9 encS:=fun a b=>by
 show keyEq Tryd.prog 9 (.lit (.string a)) (.lit (.string b))=_
 unfold keyEq
 rw[ty9]
 show litEq .str _ _=_
 simp only[litEq,bytes_eq]
abbrev memDec{K:Type}[DecidableEq K](x:K)(l:List K):Decidable (x∈l):=inferInstance
instance memB (x:ByteArray) (l:List ByteArray):Decidable (x∈l):=memDec x l
theorem addS_new{l:List ByteArray}{i:Nat}(hi:i<l.length)(h:l.getD i default∉l.take i):addS (l.take i) (l.getD i default)=l.take (i+1):=by
 unfold addS
 rw[if_neg h,List.take_add_one,List.getD_eq_getElem?_getD,List.getElem?_eq_getElem hi]
 rfl
def unOk (l:List ByteArray)(j:Nat):Bool:=decide (l.getD j default≠⟨#[]⟩) && (decide ((l.getD j default).size≤40) && !decide (l.getD j default∈l.take j))
def unlikeV(l:List ByteArray):Bool:=(List.range l.length).all (unOk l)
theorem unlike_spec(l:List ByteArray)(fl:Bool)(h:l.length≤2000000000)(hs:∀ s∈l,s.size≤9000000000000000000):KCall Tryd.prog 44 [.vec (l.map encB) fl] (.lit (.bool (unlikeV l))):=by
 refine KCall_of (SCall_intro Tryd.func44 rfl Tryd.ntmps44 (rs:=[.tmp 2]) rfl (by simp) ?_)
 simp -implicitDefEqProofs (disch:=omega) only[Wz,seval]
 refine aw_for l.length 1 (fun i (_:Unit)=>⟨[(9,.lit (.int .i64 (i:Int))),(8,.lit (.int .i64 (l.length:Int))),(7,.vec (l.map encB) fl),(3,.om 0)],⟨[],[(0,⟨rowsS encS (l.take i),0,0⟩)],1⟩,28⟩) (fun i _=>∀ j,j<i→unOk l j=true) (fun _ _=>rfl) () (St.wk_slots (by simp[lk])) (by simp) (fun i _ hlt hno=>?_) (fun _ hno=>?_)
 ·have key:unOk l i=(decide (l.getD i default≠⟨#[]⟩) && (decide ((l.getD i default).size≤40) && !decide (l.getD i default∈l.take i))):=rfl
  have hsz:=hs _ (getD_mem hlt)
  have hm:mask Tryd.prog 9 4 false (.lit (.string (l.getD i default))) (rowsS encS (l.take i))=some (.lit (.bool (decide (l.getD i default∈l.take i)))):=mask_set keyS (l.getD i default) (l.take i) zr4
  have hp:mput Tryd.prog 9 (.lit (.string (l.getD i default))) (.lit (.bool true)) (rowsS encS (l.take i))=some (rowsS encS (addS (l.take i) (l.getD i default))):=mput_set keyS (l.getD i default) (l.take i)
  have adds:=addS_new hlt
  have no:unOk l i=false→unlikeV l=false:=all_not hlt
  have yes:unOk l i=true→∀ j,j<i+1→unOk l j=true:=lt_step hno
  rw[key] at no yes
  obtain⟨s,hs0⟩:∃ s,l.getD i default=s:=⟨_,rfl⟩
  rw[hs0] at no yes hm hp adds hsz
  by_cases k1:s=⟨#[]⟩
  ·rw[no (by rw[k1];simp)]
   have k1':decide (s=⟨#[]⟩)=true:=decide_eq_true k1
   simp -implicitDefEqProofs (disch:=omega) only[Wz,seval,encB,bytes_eq,hs0,k1']
   exact kexpo (.lit _)
  have k1':decide (s=⟨#[]⟩)=false:=decide_eq_false k1
  have k1'':decide (s≠⟨#[]⟩)=true:=decide_eq_true k1
  rw[k1'',Bool.true_and] at no yes
  by_cases k2:s.size≤40
  ·rw[decide_eq_true k2,Bool.true_and] at no yes
   by_cases k3:s∈l.take i
   ·rw[decide_eq_true k3] at no hm
    rw[no rfl]
    simp -implicitDefEqProofs (disch:=omega) only[Wz,seval,encB,bytes_eq,hs0,k1',hm]
    exact kexpo (.lit _)
   ·rw[decide_eq_false k3] at hm yes
    rw[adds k3] at hp
    simp -implicitDefEqProofs (disch:=omega) only[Wz,seval,encB,bytes_eq,hs0,k1',hm,hp]
    exact⟨(),yes rfl,St.wk.cp (St.wk_slots (by simp[lk]))⟩
  ·rw[decide_eq_false k2,Bool.false_and] at no
   rw[no rfl]
   simp -implicitDefEqProofs (disch:=omega) only[Wz,seval,encB,bytes_eq,hs0,k1']
   exact kexpo (.lit _)
 ·have e:unlikeV l=true:=all_range hno
  rw[e]
  simp -implicitDefEqProofs (disch:=omega) only[Wz,seval]
  exact kexpo (.lit _)
structure EdOk (e:Ed):Prop where
 set:e.set.length≤1000000000
 acts:e.acts.length≤1000000000
 g:gsz e.g≤1000000000
 gd:GdOk e.g
 rng:SetOk e.set
structure NtOk (n:Nt):Prop where
 types:n.types.length≤1000000000
 channels:n.channels.length≤1000000000
 modes:n.modes.length≤1000000000
 rules:n.rules.length≤1000000000
 states:n.states.length≤1000000000
 typ:∀ s∈n.types,s.size≤9000000000000000000
 chan:∀ s∈n.channels,s.size≤9000000000000000000
 mode:∀ s∈n.modes,s.size≤9000000000000000000
 name:∀ r∈n.rules,r.name.size≤9000000000000000000
 edges:∀ s∈n.states,s.edges.length≤1000000000∧∀ e∈s.edges,EdOk e
theorem slice1{l:List ByteArray}(h:1≤l.length):sliceV 1 (l.map encB) false (some 1) none none=some (.vec ((l.drop 1).map encB) false):=by
 have hl:∀ x∈l.map encB,x.length=1:=fun x hx=>by obtain⟨b,_,rfl⟩:=List.mem_map.1 hx;rfl
 have c:(0:Int)≤1∧(1:Int)≤((l.map encB).length:Int)∧((l.map encB).length:Int)≤((l.map encB).length:Int)∧((l.map encB).length:Int)≤((l.map encB).length:Int)∧((none:Option Int).isSome→(none:Option Int).isSome)∧∀ x∈l.map encB,x.length=1:=⟨by decide,by simp;omega,Int.le_refl _,Int.le_refl _,id,hl⟩
 unfold sliceV
 simp only[Option.getD_none,Option.getD_some]
 rw[if_pos c]
 have e:((l.map encB).drop (1:Int).toNat).take (((l.map encB).length:Int).toNat - (1:Int).toNat)=(l.drop 1).map encB:=by
  rw[List.take_of_length_le (by simp)]
  simp
 rw[e]
 rfl
def namedV(l:List ByteArray):Bool:=decide (0<l.length∧l.length≤20) && (decide (l.getD 0 default=⟨#[]⟩) && unlikeV (l.drop 1))
theorem named_V(l:List ByteArray)(h:l.length≤2000000000)(hs:∀ s∈l,s.size≤9000000000000000000):KCall Tryd.prog 45 [.vec (l.map encB) false] (.lit (.bool (namedV l))):=by
 refine KCall_of (SCall_intro Tryd.func45 rfl Tryd.ntmps45 (rs:=[.tmp 2]) rfl (by simp) ?_)
 unfold namedV
 by_cases h1:0<l.length
 ·by_cases h2:l.length≤20
  ·obtain⟨s,hs0⟩:∃ s,l.getD 0 default=s:=⟨_,rfl⟩
   by_cases h3:s=⟨#[]⟩
   ·have h3':decide (s=⟨#[]⟩)=true:=decide_eq_true h3
    have sl:=slice1 (l:=l) (by omega)
    simp -implicitDefEqProofs (disch:=omega) only[Wz,seval,hs0,bytes_eq,h3',Bool.true_and,sl,encB]
    refine CallK_k call44 (unlike_spec (l.drop 1) false (by simp;omega) (fun s hs'=>hs s (List.mem_of_mem_drop hs'))) (allc (.of_pure (.vec (pure_rows pure_encB _))) alln) (.lit _) ?_
    simp -implicitDefEqProofs (disch:=omega) only[Wz,seval]
    exact kexpo (.lit _)
   ·have h3':decide (s=⟨#[]⟩)=false:=decide_eq_false h3
    simp -implicitDefEqProofs (disch:=omega) only[Wz,seval,encB,hs0,bytes_eq,h3',Bool.true_and,Bool.false_and]
    exact kexpo (.lit _)
  ·simp -implicitDefEqProofs (disch:=omega) only[Wz,seval,Bool.false_and]
   exact kexpo (.lit _)
 ·simp -implicitDefEqProofs (disch:=omega) only[Wz,seval,Bool.false_and]
  exact kexpo (.lit _)
def headR(n:Nt)(i:Nat):Bool := !(decide (0<i) && ((n.rules.getD i default).lexer && !(n.rules.getD (i - 1) default).lexer))
def headsV(n:Nt):Bool:=(List.range n.rules.length).all (headR n) && (decide (n.types.length≤200∧n.rules.length≤100∧n.states.length≤4000) && (unlikeV n.types && (namedV n.channels && (namedV n.modes && unlikeV (n.rules.map Nr.name)))))
theorem heads_spec(n:Nt)(ok:NtOk n):KCall Tryd.prog 33 [.pp (encN n) 0] (.lit (.bool (headsV n))):=by
 have h:=ok.rules
 have ht:=ok.types
 have hc:=ok.channels
 have hm:=ok.modes
 have hst:=ok.states
 refine KCall_of (SCall_intro Tryd.func33 rfl Tryd.ntmps33 (rs:=[.tmp 2]) rfl (by simp) ?_)
 simp -implicitDefEqProofs (disch:=omega) only[Wz,seval,encN]
 refine aw_forE n.rules.length 0 (fun i (xs:List (List AV))=>⟨[(11,.lit (.int .i64 (i:Int))),(10,.lit (.int .i64 (n.rules.length:Int))),(9,.vec (n.rules.map encNr) false),(0,.pp (encN n) 0),(3,grA 0 xs)],⟨[],grT 0 1 xs,grN 0 xs⟩,87⟩)
  (fun i xs=>xs=((n.rules.map Nr.name).take i).map encB∧∀ j,j<i→headR n j=true) (Nat.le_refl _) [] (St.wk.cp (St.wk_slots (by simp[lk,encN,grA]))) ⟨rfl,by simp⟩ ?_ ?_
 ·rintro i xs hi ⟨hxs,hno⟩
  have hxl:xs.length=i:=by rw[hxs];simp;omega
  have key:headR n i = !(decide (0<i) && ((n.rules.getD i default).lexer && !(n.rules.getD (i - 1) default).lexer)):=rfl
  have hnext:xs++[encB (n.rules.getD i default).name]=((n.rules.map Nr.name).take (i+1)).map encB:=by
   rw[hxs,List.take_add_one,List.getElem?_map,List.getElem?_eq_getElem hi];simp[List.getD_eq_getElem?_getD,List.getElem?_eq_getElem hi]
  cases xs with
  | nil =>
   have h0:i=0:=by simp at hxl;omega
   have hfit:fits 1 16:=fits_of' (by decide) (by decide)
   simp -implicitDefEqProofs (disch:=omega) only[Wz,seval,encN,encNr,grA,grT,grN,hfit,List.mem_singleton,forall_eq,List.not_mem_nil,false_imp_iff,implies_true]
   refine⟨[encB (n.rules.getD i default).name],⟨by simpa using hnext,lt_step hno (by rw[key,h0];rfl)⟩,?_⟩
   exact St.cp_of 0 [1] (by show 0≤2;decide) rfl rfl (by decide) (by show ∀ x∈[1],0≤x∧x<2;decide) (allc ⟨_,rfl,.pure (.lit _)⟩ (allc ⟨_,rfl,.pure (.lit _)⟩ (allc ⟨_,rfl,.pure (.vec (pure_rows pure_encNr _))⟩ (allc ⟨_,rfl,.pure (pure_ppN n)⟩ (allc ⟨_,rfl,.own (by show 0<1;decide) rfl⟩ alln))))) alln
    (allc ⟨by show 0<1;decide,_,rfl,rfl,rfl,.pure (pure_rows pure_encB [(n.rules.getD i default).name])⟩ alln)
  | cons x l =>
   simp only[List.length_cons] at hxl
   have hfit:fits (l.length+1+1) 16:=fits_of' (by omega) (by omega)
   have i1:((i:Int) - 1).toNat=i - 1:=by omega
   have i2:IntKind.i64.wrap ((i:Int) - 1)=(i:Int) - 1:=i64w (by omega) (by omega)
   have hlen2:(l++[encB (n.rules.getD i default).name]).length+1=l.length+1+1:=by simp
   have rp:∀ y∈x :: l++[encB (n.rules.getD i default).name],∀ c∈y,Ab.Pure c:=by rw[hnext];exact pure_rows pure_encB _
   have key1:headR n i = !((n.rules.getD i default).lexer && !(n.rules.getD (i - 1) default).lexer):=by rw[key,decide_eq_true (by omega),Bool.true_and]
   have back:headR n i=true→∀ sl:List (Nat × AV),∀ bx:List AV,lk sl 11=some (.lit (.int .i64 ((i+1:Nat):Int)))→lk sl 10=some (.lit (.int .i64 (n.rules.length:Int)))→lk sl 9=some (.vec (n.rules.map encNr) false)→lk sl 0=some (.pp (encN n) 0)→lk sl 3=some (.own 0 (l.length+1+1)) →
     ∃ a',(a'=((n.rules.map Nr.name).take (i+1)).map encB∧∀ j,j<i+1→headR n j=true)∧St.cp 0 ⟨sl,⟨[(1,bx)],[(0,⟨x :: l++[encB (n.rules.getD i default).name],0,1⟩)],2⟩,87⟩ ⟨[(11,.lit (.int .i64 ((i+1:Nat):Int))),(10,.lit (.int .i64 (n.rules.length:Int))),(9,.vec (n.rules.map encNr) false),(0,.pp (encN n) 0),(3,grA 0 a')],⟨[],grT 0 1 a',grN 0 a'⟩,87⟩:=fun hk sl bx e1 e2 e3 e4 e5=>by
    refine⟨x :: l++[encB (n.rules.getD i default).name],⟨hnext,lt_step hno hk⟩,?_⟩
    simp only[List.cons_append,grA,grT,grN,hlen2]
    exact cp_drop' (Nat.zero_le _) (by show 1≤2;decide) rfl (allc ⟨e1,.pure (.lit _)⟩ (allc ⟨e2,.pure (.lit _)⟩ (allc ⟨e3,.pure (.vec (pure_rows pure_encNr _))⟩ (allc ⟨e4,.pure (pure_ppN n)⟩ (allc ⟨e5,.own (by show 0<1;decide) rfl⟩ alln))))) alln (allc ⟨by show 0<1;decide,rfl,.pure rp⟩ alln)
   cases hx:(n.rules.getD i default).lexer
   ·simp -implicitDefEqProofs (disch:=omega) only[Wz,seval,encN,encNr,grA,grT,grN,hx,hfit,List.mem_singleton,forall_eq,List.not_mem_nil,false_imp_iff,implies_true]
    exact back (by rw[key1,hx];rfl) _ _ rfl rfl rfl rfl rfl
   ·cases hy:(n.rules.getD (i - 1) default).lexer
    ·simp -implicitDefEqProofs (disch:=omega) only[Wz,seval,encN,encNr,grA,grT,grN,hx,hy,i1,i2,hfit,List.mem_singleton,forall_eq,List.not_mem_nil,false_imp_iff,implies_true]
     have e:(List.range n.rules.length).all (headR n)=false:=all_not hi (by rw[key1,hx,hy];rfl)
     unfold headsV
     rw[e]
     exact kexpo (.lit _)
    ·simp -implicitDefEqProofs (disch:=omega) only[Wz,seval,encN,encNr,grA,grT,grN,hx,hy,i1,i2,hfit,List.mem_singleton,forall_eq,List.not_mem_nil,false_imp_iff,implies_true]
     exact back (by rw[key1,hx,hy];rfl) _ _ rfl rfl rfl rfl rfl
 ·rintro xs ⟨hxs,hno⟩
  have e:(List.range n.rules.length).all (headR n)=true:=all_range hno
  unfold headsV
  rw[e,Bool.true_and]
  have hxs:xs=(n.rules.map Nr.name).map encB:=by rw[hxs];rw[List.take_of_length_le (by simp)]
  have fin:∀ h (b:Bool),KExpo h (.lit (.bool b)) (.lit (.bool b)):=fun h b=>kexpo (.lit _)
  have gps:∀ l:List ByteArray,GP (.vec (l.map encB) false):=fun l=>.of_pure (.vec (pure_rows pure_encB _))
  by_cases k1:n.types.length≤200
  ·by_cases k2:n.rules.length≤100
   ·by_cases k3:n.states.length≤4000
    ·simp -implicitDefEqProofs (disch:=omega) only[Wz,seval,encN,Bool.true_and]
     refine CallK_k call44 (unlike_spec n.types false (by omega) ok.typ) (allc (gps _) alln) (.lit _) ?_
     cases unlikeV n.types
     ·simp -implicitDefEqProofs (disch:=omega) only[Wz,seval,Bool.false_and]
      exact fin _ _
     simp -implicitDefEqProofs (disch:=omega) only[Wz,seval,encN,Bool.true_and]
     refine CallK_k call45 (named_V n.channels (by omega) ok.chan) (allc (gps _) alln) (.lit _) ?_
     cases namedV n.channels
     ·simp -implicitDefEqProofs (disch:=omega) only[Wz,seval,Bool.false_and]
      exact fin _ _
     simp -implicitDefEqProofs (disch:=omega) only[Wz,seval,encN,Bool.true_and]
     refine CallK_k call45 (named_V n.modes (by omega) ok.mode) (allc (gps _) alln) (.lit _) ?_
     cases namedV n.modes
     ·simp -implicitDefEqProofs (disch:=omega) only[Wz,seval,Bool.false_and]
      exact fin _ _
     have un:=unlike_spec (n.rules.map Nr.name) false (by simp;omega) (fun s hs=>by obtain⟨r,hr,rfl⟩:=List.mem_map.1 hs;exact ok.name r hr)
     have un':=unlike_spec (n.rules.map Nr.name) true (by simp;omega) (fun s hs=>by obtain⟨r,hr,rfl⟩:=List.mem_map.1 hs;exact ok.name r hr)
     rw[← hxs] at un un'
     cases xs with
     | nil =>
      simp -implicitDefEqProofs (disch:=omega) only[Wz,seval,encN,Bool.true_and,grA,grT,grN]
      refine CallK_k call44 un' (allc (.of_pure (.vec alln)) alln) (.lit _) ?_
      simp -implicitDefEqProofs (disch:=omega) only[Wz,seval]
      exact fin _ _
     | cons x l =>
      simp -implicitDefEqProofs (disch:=omega) only[Wz,seval,encN,Bool.true_and,grA,grT,grN]
      refine CallK.freeze (t:=0) (k:=⟨x :: l,0,1⟩) (args1:=[.vec (x :: l) false]) rfl (fun g g' e c=>cvL_cons c cvL_nil) ?_
      refine CallK_k call44 un (allc (.of_pure (.vec (by rw[hxs];exact pure_rows pure_encB _))) alln) (.lit _) ?_
      simp -implicitDefEqProofs (disch:=omega) only[Wz,seval]
      exact fin _ _
    ·simp -implicitDefEqProofs (disch:=omega) only[Wz,seval,encN,Bool.false_and]
     exact fin _ _
   ·simp -implicitDefEqProofs (disch:=omega) only[Wz,seval,encN,Bool.false_and]
    exact fin _ _
  ·simp -implicitDefEqProofs (disch:=omega) only[Wz,seval,encN,Bool.false_and]
   exact fin _ _
def encZ (z:Int):AV:=.lit (.int .i64 z)
theorem keyZ:KeyT Tryd.prog 3 encZ:=fun a b=>by
 show keyEq Tryd.prog 3 (.lit (.int .i64 a)) (.lit (.int .i64 b))=_
 unfold keyEq
 rw[ty3]
 show litEq (.int _) _ _=_
 simp only[litEq,if_true]
 by_cases h:a=b
 ·subst h;simp
 ·simp[h]
def typd (r:Nr):Bool:=r.lexer && !r.frag
def tysN (n:Nt)(i:Nat):List Int:=((n.rules.take i).filter typd).map Nr.type
theorem tysN_step(n:Nt){i:Nat}(h:i<n.rules.length):tysN n (i+1)=if typd (n.rules.getD i default) then tysN n i++[(n.rules.getD i default).type] else tysN n i:=by
 unfold tysN
 rw[List.take_add_one,List.getElem?_eq_getElem h,List.getD_eq_getElem?_getD,List.getElem?_eq_getElem h]
 simp only[Option.toList_some,List.filter_append,Option.getD_some,List.map_append]
 cases ht:typd n.rules[i] <;> simp[ht]
theorem ofN_bnd{n:Nt}{s r:Int}(h:ofN n s r=true):0≤s∧s<(n.states.length:Int):=by
 unfold ofN at h
 simp only[Bool.and_eq_true,decide_eq_true_eq] at h
 exact⟨h.1,h.2.1⟩
theorem pure_rowsZ(S:List Int):∀ y∈rowsS encZ S,∀ c∈y,Ab.Pure c:=fun y hy c hc=>by
 obtain⟨k,_,rfl⟩:=List.mem_map.1 hy
 simp only[List.mem_cons,List.not_mem_nil,or_false] at hc
 rcases hc with rfl | rfl
 ·exact .lit _
 ·exact .lit _
def ruleR(n:Nt)(i:Nat):Bool :=
 ofN n (n.rules.getD i default).start i && (ofN n (n.rules.getD i default).stop i && (decide ((n.rules.getD i default).start≠(n.rules.getD i default).stop) &&
  (decide ((n.states.getD (n.rules.getD i default).stop.toNat default).edges.length=0) &&
  (!(!(n.rules.getD i default).lexer && ((n.rules.getD i default).frag || ((n.rules.getD i default).lz || decide ((n.rules.getD i default).mode≠0)))) &&
  (!((n.rules.getD i default).lexer && (n.rules.getD i default).left) && (decide (0≤(n.rules.getD i default).mode∧(n.rules.getD i default).mode<(n.modes.length:Int)) &&
  (if typd (n.rules.getD i default) then decide (1≤(n.rules.getD i default).type∧(n.rules.getD i default).type≤(n.types.length:Int)) && !decide ((n.rules.getD i default).type∈tysN n i) else decide ((n.rules.getD i default).type=0))))))))
def rulesV(n:Nt):Bool:=(List.range n.rules.length).all (ruleR n)
theorem rules_spec(n:Nt)(ok:NtOk n):KCall Tryd.prog 34 [.pp (encN n) 0] (.lit (.bool (rulesV n))):=by
 have h:=ok.rules
 have ht:=ok.types
 have hm:=ok.modes
 have hst:=ok.states
 refine KCall_of (SCall_intro Tryd.func34 rfl Tryd.ntmps34 (rs:=[.tmp 2]) rfl (by simp) ?_)
 simp -implicitDefEqProofs (disch:=omega) only[Wz,seval,encN]
 refine aw_for n.rules.length 1 (fun i (_:Unit)=>⟨[(13,.lit (.int .i64 (i:Int))),(12,.lit (.int .i64 (n.rules.length:Int))),(11,.vec (n.rules.map encNr) false),(0,.pp (encN n) 0),(3,.om 0)],⟨[],[(0,⟨rowsS encZ (tysN n i),0,0⟩)],1⟩,123⟩) (fun i _=>∀ j,j<i→ruleR n j=true) (fun _ _=>rfl) () (St.wk_slots (by simp[lk,encN])) (by simp) (fun i _ hlt hno=>?_) (fun _ hno=>?_)
 ·have s1:=of_pp n (n.rules.getD i default).start i (by omega)
  have s2:=of_pp n (n.rules.getD i default).stop i (by omega)
  have key:ruleR n i=_:=rfl
  have no:ruleR n i=false→rulesV n=false:=all_not hlt
  have yes:ruleR n i=true→∀ j,j<i+1→ruleR n j=true:=lt_step hno
  have fin:∀ h (b:Bool),KExpo h (.lit (.bool b)) (.lit (.bool b)):=fun h b=>kexpo (.lit _)
  have pa:∀ z:Int,∀ a∈[AV.pp (encN n) 0,.lit (.int .i64 z),.lit (.int .i64 (i:Int))],Ab.Pure a:=fun z=>allc (pure_ppN n) (allc (.lit _) (allc (.lit _) alln))
  obtain⟨r,hr⟩:∃ r,n.rules.getD i default=r:=⟨_,rfl⟩
  rw[hr] at s1 s2
  unfold ruleR at no yes key
  rw[hr] at no yes key
  cases hl:r.lexer <;> cases hf:r.frag
  ·have ht:typd r=false:=by unfold typd;rw[hl,hf];rfl
   rw[ht,hl,hf] at no yes
   simp only[Bool.not_true,Bool.not_false,Bool.true_and,Bool.false_and,Bool.and_true,Bool.and_false,Bool.true_or,Bool.false_or,Bool.false_eq_true,if_true,if_false] at no yes
   simp -implicitDefEqProofs (disch:=omega) only[Wz,seval,encNr,encN,encSt,hr,hl,hf,Bool.not_true,Bool.not_false,Bool.true_and,Bool.false_and,Bool.and_true,Bool.and_false]
   refine CallK_pure call46 s1 (pa _) (.lit _) ?_
   cases h1:ofN n r.start i
   ·rw[no (by rw[h1,Bool.false_and])]
    simp -implicitDefEqProofs (disch:=omega) only[Wz,seval,encNr,encN,encSt,hr,hl,hf,Bool.not_true,Bool.not_false,Bool.true_and,Bool.false_and,Bool.and_true,Bool.and_false]
    exact fin _ _
   rw[h1,Bool.true_and] at no yes
   simp -implicitDefEqProofs (disch:=omega) only[Wz,seval,encNr,encN,encSt,hr,hl,hf,Bool.not_true,Bool.not_false,Bool.true_and,Bool.false_and,Bool.and_true,Bool.and_false]
   refine CallK_pure call46 s2 (pa _) (.lit _) ?_
   cases h2:ofN n r.stop i
   ·rw[no (by rw[h2,Bool.false_and])]
    simp -implicitDefEqProofs (disch:=omega) only[Wz,seval,encNr,encN,encSt,hr,hl,hf,Bool.not_true,Bool.not_false,Bool.true_and,Bool.false_and,Bool.and_true,Bool.and_false]
    exact fin _ _
   rw[h2,Bool.true_and] at no yes
   obtain⟨b1,b2⟩:=ofN_bnd h2
   by_cases h3:r.start≠r.stop
   rotate_left
   ·rw[no (by rw[decide_eq_false h3,Bool.false_and])]
    simp -implicitDefEqProofs (disch:=omega) only[Wz,seval,encNr,encN,encSt,hr,hl,hf,Bool.not_true,Bool.not_false,Bool.true_and,Bool.false_and,Bool.and_true,Bool.and_false]
    exact fin _ _
   rw[decide_eq_true h3,Bool.true_and] at no yes
   simp -implicitDefEqProofs (disch:=omega) only[Wz,seval,encNr,encN,encSt,hr,hl,hf,Bool.not_true,Bool.not_false,Bool.true_and,Bool.false_and,Bool.and_true,Bool.and_false]
   refine aw_quietN (n:=123) rfl (by decide) mixed ?_
   by_cases h4:(n.states.getD r.stop.toNat default).edges.length=0
   rotate_left
   ·rw[no (by rw[decide_eq_false h4,Bool.false_and])]
    simp -implicitDefEqProofs (disch:=omega) only[Wz,seval,encNr,encN,encSt,hr,hl,hf,Bool.not_true,Bool.not_false,Bool.true_and,Bool.false_and,Bool.and_true,Bool.and_false]
    exact fin _ _
   rw[decide_eq_true h4,Bool.true_and] at no yes
   cases h5:r.lz
   rotate_left
   ·rw[no (by rw[h5];rfl)]
    simp -implicitDefEqProofs (disch:=omega) only[Wz,seval,encNr,encN,encSt,hr,hl,hf,Bool.not_true,Bool.not_false,Bool.true_and,Bool.false_and,Bool.and_true,Bool.and_false,h5]
    exact fin _ _
   rw[h5,Bool.false_or] at no yes
   by_cases h6:r.mode≠0
   ·rw[no (by rw[decide_eq_true h6];rfl)]
    simp -implicitDefEqProofs (disch:=omega) only[Wz,seval,encNr,encN,encSt,hr,hl,hf,Bool.not_true,Bool.not_false,Bool.true_and,Bool.false_and,Bool.and_true,Bool.and_false,h5]
    exact fin _ _
   rw[decide_eq_false h6,Bool.not_false,Bool.true_and] at no yes
   simp -implicitDefEqProofs (disch:=omega) only[Wz,seval,encNr,encN,encSt,hr,hl,hf,Bool.not_true,Bool.not_false,Bool.true_and,Bool.false_and,Bool.and_true,Bool.and_false,h5]
   refine aw_quietN (n:=123) rfl (by decide) mixed ?_
   by_cases h7:0≤r.mode∧r.mode<(n.modes.length:Int)
   rotate_left
   ·rw[no (by rw[decide_eq_false h7,Bool.false_and])]
    by_cases h7':r.mode<0
    all_goals
     simp -implicitDefEqProofs (disch:=omega) only[Wz,seval,encNr,encN,encSt,hr,hl,hf,Bool.not_true,Bool.not_false,Bool.true_and,Bool.false_and,Bool.and_true,Bool.and_false,h5]
     exact fin _ _
   rw[decide_eq_true h7,Bool.true_and] at no yes
   by_cases h8:r.type=0
   rotate_left
   ·rw[no (by rw[decide_eq_false h8])]
    simp -implicitDefEqProofs (disch:=omega) only[Wz,seval,encNr,encN,encSt,hr,hl,hf,Bool.not_true,Bool.not_false,Bool.true_and,Bool.false_and,Bool.and_true,Bool.and_false,h5]
    exact fin _ _
   rw[decide_eq_true h8] at yes
   have ty:tysN n (i+1)=tysN n i:=by rw[tysN_step n hlt,hr,ht];rfl
   rw[ty]
   simp -implicitDefEqProofs (disch:=omega) only[Wz,seval,encNr,encN,encSt,hr,hl,hf,Bool.not_true,Bool.not_false,Bool.true_and,Bool.false_and,Bool.and_true,Bool.and_false,h5]
   refine aw_quietN (n:=123) rfl (by decide) mixed ?_
   simp -implicitDefEqProofs (disch:=omega) only[Wz,seval,encNr,encN,encSt,hr,hl,hf,Bool.not_true,Bool.not_false,Bool.true_and,Bool.false_and,Bool.and_true,Bool.and_false,h5]
   exact⟨(),yes rfl,cp_drop' (Nat.le_refl _) (by show 1≤2;decide) rfl (allc ⟨rfl,.pure (.lit _)⟩ (allc ⟨rfl,.pure (.lit _)⟩ (allc ⟨rfl,.pure (.vec (pure_rows pure_encNr _))⟩ (allc ⟨rfl,.pure (pure_ppN n)⟩ (allc ⟨rfl,.om (by show 0<1;decide) rfl⟩ alln))))) alln (allc ⟨by show 0<1;decide,rfl,.pure (pure_rowsZ _)⟩ alln)⟩
  ·have nof:rulesV n=false:=no (by rw[hl,hf];simp)
   rw[nof]
   simp -implicitDefEqProofs (disch:=omega) only[Wz,seval,encNr,encN,encSt,hr,hl,hf,Bool.not_true,Bool.not_false,Bool.true_and,Bool.false_and,Bool.and_true,Bool.and_false]
   refine CallK_pure call46 s1 (pa _) (.lit _) ?_
   cases h1:ofN n r.start i
   ·simp -implicitDefEqProofs (disch:=omega) only[Wz,seval,encNr,encN,encSt,hr,hl,hf,Bool.not_true,Bool.not_false,Bool.true_and,Bool.false_and,Bool.and_true,Bool.and_false]
    exact fin _ _
   simp -implicitDefEqProofs (disch:=omega) only[Wz,seval,encNr,encN,encSt,hr,hl,hf,Bool.not_true,Bool.not_false,Bool.true_and,Bool.false_and,Bool.and_true,Bool.and_false]
   refine CallK_pure call46 s2 (pa _) (.lit _) ?_
   cases h2:ofN n r.stop i
   ·simp -implicitDefEqProofs (disch:=omega) only[Wz,seval,encNr,encN,encSt,hr,hl,hf,Bool.not_true,Bool.not_false,Bool.true_and,Bool.false_and,Bool.and_true,Bool.and_false]
    exact fin _ _
   obtain⟨b1,b2⟩:=ofN_bnd h2
   by_cases h3:r.start≠r.stop
   rotate_left
   ·simp -implicitDefEqProofs (disch:=omega) only[Wz,seval,encNr,encN,encSt,hr,hl,hf,Bool.not_true,Bool.not_false,Bool.true_and,Bool.false_and,Bool.and_true,Bool.and_false]
    exact fin _ _
   simp -implicitDefEqProofs (disch:=omega) only[Wz,seval,encNr,encN,encSt,hr,hl,hf,Bool.not_true,Bool.not_false,Bool.true_and,Bool.false_and,Bool.and_true,Bool.and_false]
   refine aw_quietN (n:=123) rfl (by decide) mixed ?_
   by_cases h4:(n.states.getD r.stop.toNat default).edges.length=0
   all_goals
    simp -implicitDefEqProofs (disch:=omega) only[Wz,seval,encNr,encN,encSt,hr,hl,hf,Bool.not_true,Bool.not_false,Bool.true_and,Bool.false_and,Bool.and_true,Bool.and_false]
    exact fin _ _
  ·have ht:typd r=true:=by unfold typd;rw[hl,hf];rfl
   rw[ht,hl,hf] at no yes
   simp only[Bool.not_true,Bool.not_false,Bool.true_and,Bool.false_and,Bool.and_true,Bool.and_false,Bool.true_or,Bool.false_or,Bool.false_eq_true,if_true,if_false] at no yes
   simp -implicitDefEqProofs (disch:=omega) only[Wz,seval,encNr,encN,encSt,hr,hl,hf,Bool.not_true,Bool.not_false,Bool.true_and,Bool.false_and,Bool.and_true,Bool.and_false]
   refine CallK_pure call46 s1 (pa _) (.lit _) ?_
   cases h1:ofN n r.start i
   ·rw[no (by rw[h1,Bool.false_and])]
    simp -implicitDefEqProofs (disch:=omega) only[Wz,seval,encNr,encN,encSt,hr,hl,hf,Bool.not_true,Bool.not_false,Bool.true_and,Bool.false_and,Bool.and_true,Bool.and_false]
    exact fin _ _
   rw[h1,Bool.true_and] at no yes
   simp -implicitDefEqProofs (disch:=omega) only[Wz,seval,encNr,encN,encSt,hr,hl,hf,Bool.not_true,Bool.not_false,Bool.true_and,Bool.false_and,Bool.and_true,Bool.and_false]
   refine CallK_pure call46 s2 (pa _) (.lit _) ?_
   cases h2:ofN n r.stop i
   ·rw[no (by rw[h2,Bool.false_and])]
    simp -implicitDefEqProofs (disch:=omega) only[Wz,seval,encNr,encN,encSt,hr,hl,hf,Bool.not_true,Bool.not_false,Bool.true_and,Bool.false_and,Bool.and_true,Bool.and_false]
    exact fin _ _
   rw[h2,Bool.true_and] at no yes
   obtain⟨b1,b2⟩:=ofN_bnd h2
   by_cases h3:r.start≠r.stop
   rotate_left
   ·rw[no (by rw[decide_eq_false h3,Bool.false_and])]
    simp -implicitDefEqProofs (disch:=omega) only[Wz,seval,encNr,encN,encSt,hr,hl,hf,Bool.not_true,Bool.not_false,Bool.true_and,Bool.false_and,Bool.and_true,Bool.and_false]
    exact fin _ _
   rw[decide_eq_true h3,Bool.true_and] at no yes
   simp -implicitDefEqProofs (disch:=omega) only[Wz,seval,encNr,encN,encSt,hr,hl,hf,Bool.not_true,Bool.not_false,Bool.true_and,Bool.false_and,Bool.and_true,Bool.and_false]
   refine aw_quietN (n:=123) rfl (by decide) mixed ?_
   by_cases h4:(n.states.getD r.stop.toNat default).edges.length=0
   rotate_left
   ·rw[no (by rw[decide_eq_false h4,Bool.false_and])]
    simp -implicitDefEqProofs (disch:=omega) only[Wz,seval,encNr,encN,encSt,hr,hl,hf,Bool.not_true,Bool.not_false,Bool.true_and,Bool.false_and,Bool.and_true,Bool.and_false]
    exact fin _ _
   rw[decide_eq_true h4,Bool.true_and] at no yes
   cases h5:r.left
   rotate_left
   ·rw[no (by rw[h5];rfl)]
    simp -implicitDefEqProofs (disch:=omega) only[Wz,seval,encNr,encN,encSt,hr,hl,hf,Bool.not_true,Bool.not_false,Bool.true_and,Bool.false_and,Bool.and_true,Bool.and_false,h5]
    exact fin _ _
   rw[h5,Bool.not_false,Bool.true_and] at no yes
   simp -implicitDefEqProofs (disch:=omega) only[Wz,seval,encNr,encN,encSt,hr,hl,hf,Bool.not_true,Bool.not_false,Bool.true_and,Bool.false_and,Bool.and_true,Bool.and_false,h5]
   refine aw_quietN (n:=123) rfl (by decide) mixed ?_
   by_cases h7:0≤r.mode∧r.mode<(n.modes.length:Int)
   rotate_left
   ·rw[no (by rw[decide_eq_false h7,Bool.false_and])]
    by_cases h7':r.mode<0
    all_goals
     simp -implicitDefEqProofs (disch:=omega) only[Wz,seval,encNr,encN,encSt,hr,hl,hf,Bool.not_true,Bool.not_false,Bool.true_and,Bool.false_and,Bool.and_true,Bool.and_false,h5]
     exact fin _ _
   rw[decide_eq_true h7,Bool.true_and] at no yes
   simp -implicitDefEqProofs (disch:=omega) only[Wz,seval,encNr,encN,encSt,hr,hl,hf,Bool.not_true,Bool.not_false,Bool.true_and,Bool.false_and,Bool.and_true,Bool.and_false,h5]
   refine aw_quietN (n:=123) rfl (by decide) mixed ?_
   by_cases h8:1≤r.type∧r.type≤(n.types.length:Int)
   rotate_left
   ·rw[no (by rw[decide_eq_false h8,Bool.false_and])]
    by_cases h8':r.type<1
    all_goals
     simp -implicitDefEqProofs (disch:=omega) only[Wz,seval,encNr,encN,encSt,hr,hl,hf,Bool.not_true,Bool.not_false,Bool.true_and,Bool.false_and,Bool.and_true,Bool.and_false,h5]
     exact fin _ _
   rw[decide_eq_true h8,Bool.true_and] at no yes
   have hm:=mask_set (et:=4) keyZ r.type (tysN n i) zr4
   have hp:=mput_set keyZ r.type (tysN n i)
   simp only[encZ] at hm hp
   by_cases h9:r.type∈tysN n i
   ·rw[decide_eq_true h9] at no hm
    rw[no rfl]
    simp -implicitDefEqProofs (disch:=omega) only[Wz,seval,encNr,encN,encSt,hr,hl,hf,Bool.not_true,Bool.not_false,Bool.true_and,Bool.false_and,Bool.and_true,Bool.and_false,h5,hm,encZ]
    exact fin _ _
   rw[decide_eq_false h9] at yes hm
   have ty:addS (tysN n i) r.type=tysN n (i+1):=by rw[tysN_step n hlt,hr,ht];exact if_neg h9
   rw[ty] at hp
   simp -implicitDefEqProofs (disch:=omega) only[Wz,seval,encNr,encN,encSt,hr,hl,hf,Bool.not_true,Bool.not_false,Bool.true_and,Bool.false_and,Bool.and_true,Bool.and_false,h5,hm,hp,encZ]
   exact⟨(),yes rfl,cp_drop' (Nat.le_refl _) (by show 1≤2;decide) rfl (allc ⟨rfl,.pure (.lit _)⟩ (allc ⟨rfl,.pure (.lit _)⟩ (allc ⟨rfl,.pure (.vec (pure_rows pure_encNr _))⟩ (allc ⟨rfl,.pure (pure_ppN n)⟩ (allc ⟨rfl,.om (by show 0<1;decide) rfl⟩ alln))))) alln (allc ⟨by show 0<1;decide,rfl,.pure (pure_rowsZ _)⟩ alln)⟩
  ·have ht:typd r=false:=by unfold typd;rw[hl,hf];rfl
   rw[ht,hl,hf] at no yes
   simp only[Bool.not_true,Bool.not_false,Bool.true_and,Bool.false_and,Bool.and_true,Bool.and_false,Bool.true_or,Bool.false_or,Bool.false_eq_true,if_true,if_false] at no yes
   simp -implicitDefEqProofs (disch:=omega) only[Wz,seval,encNr,encN,encSt,hr,hl,hf,Bool.not_true,Bool.not_false,Bool.true_and,Bool.false_and,Bool.and_true,Bool.and_false]
   refine CallK_pure call46 s1 (pa _) (.lit _) ?_
   cases h1:ofN n r.start i
   ·rw[no (by rw[h1,Bool.false_and])]
    simp -implicitDefEqProofs (disch:=omega) only[Wz,seval,encNr,encN,encSt,hr,hl,hf,Bool.not_true,Bool.not_false,Bool.true_and,Bool.false_and,Bool.and_true,Bool.and_false]
    exact fin _ _
   rw[h1,Bool.true_and] at no yes
   simp -implicitDefEqProofs (disch:=omega) only[Wz,seval,encNr,encN,encSt,hr,hl,hf,Bool.not_true,Bool.not_false,Bool.true_and,Bool.false_and,Bool.and_true,Bool.and_false]
   refine CallK_pure call46 s2 (pa _) (.lit _) ?_
   cases h2:ofN n r.stop i
   ·rw[no (by rw[h2,Bool.false_and])]
    simp -implicitDefEqProofs (disch:=omega) only[Wz,seval,encNr,encN,encSt,hr,hl,hf,Bool.not_true,Bool.not_false,Bool.true_and,Bool.false_and,Bool.and_true,Bool.and_false]
    exact fin _ _
   rw[h2,Bool.true_and] at no yes
   obtain⟨b1,b2⟩:=ofN_bnd h2
   by_cases h3:r.start≠r.stop
   rotate_left
   ·rw[no (by rw[decide_eq_false h3,Bool.false_and])]
    simp -implicitDefEqProofs (disch:=omega) only[Wz,seval,encNr,encN,encSt,hr,hl,hf,Bool.not_true,Bool.not_false,Bool.true_and,Bool.false_and,Bool.and_true,Bool.and_false]
    exact fin _ _
   rw[decide_eq_true h3,Bool.true_and] at no yes
   simp -implicitDefEqProofs (disch:=omega) only[Wz,seval,encNr,encN,encSt,hr,hl,hf,Bool.not_true,Bool.not_false,Bool.true_and,Bool.false_and,Bool.and_true,Bool.and_false]
   refine aw_quietN (n:=123) rfl (by decide) mixed ?_
   by_cases h4:(n.states.getD r.stop.toNat default).edges.length=0
   rotate_left
   ·rw[no (by rw[decide_eq_false h4,Bool.false_and])]
    simp -implicitDefEqProofs (disch:=omega) only[Wz,seval,encNr,encN,encSt,hr,hl,hf,Bool.not_true,Bool.not_false,Bool.true_and,Bool.false_and,Bool.and_true,Bool.and_false]
    exact fin _ _
   rw[decide_eq_true h4,Bool.true_and] at no yes
   cases h5:r.left
   rotate_left
   ·rw[no (by rw[h5];rfl)]
    simp -implicitDefEqProofs (disch:=omega) only[Wz,seval,encNr,encN,encSt,hr,hl,hf,Bool.not_true,Bool.not_false,Bool.true_and,Bool.false_and,Bool.and_true,Bool.and_false,h5]
    exact fin _ _
   rw[h5,Bool.not_false,Bool.true_and] at no yes
   simp -implicitDefEqProofs (disch:=omega) only[Wz,seval,encNr,encN,encSt,hr,hl,hf,Bool.not_true,Bool.not_false,Bool.true_and,Bool.false_and,Bool.and_true,Bool.and_false,h5]
   refine aw_quietN (n:=123) rfl (by decide) mixed ?_
   by_cases h7:0≤r.mode∧r.mode<(n.modes.length:Int)
   rotate_left
   ·rw[no (by rw[decide_eq_false h7,Bool.false_and])]
    by_cases h7':r.mode<0
    all_goals
     simp -implicitDefEqProofs (disch:=omega) only[Wz,seval,encNr,encN,encSt,hr,hl,hf,Bool.not_true,Bool.not_false,Bool.true_and,Bool.false_and,Bool.and_true,Bool.and_false,h5]
     exact fin _ _
   rw[decide_eq_true h7,Bool.true_and] at no yes
   by_cases h8:r.type=0
   rotate_left
   ·rw[no (by rw[decide_eq_false h8])]
    simp -implicitDefEqProofs (disch:=omega) only[Wz,seval,encNr,encN,encSt,hr,hl,hf,Bool.not_true,Bool.not_false,Bool.true_and,Bool.false_and,Bool.and_true,Bool.and_false,h5]
    exact fin _ _
   rw[decide_eq_true h8] at yes
   have ty:tysN n (i+1)=tysN n i:=by rw[tysN_step n hlt,hr,ht];rfl
   rw[ty]
   simp -implicitDefEqProofs (disch:=omega) only[Wz,seval,encNr,encN,encSt,hr,hl,hf,Bool.not_true,Bool.not_false,Bool.true_and,Bool.false_and,Bool.and_true,Bool.and_false,h5]
   refine aw_quietN (n:=123) rfl (by decide) mixed ?_
   simp -implicitDefEqProofs (disch:=omega) only[Wz,seval,encNr,encN,encSt,hr,hl,hf,Bool.not_true,Bool.not_false,Bool.true_and,Bool.false_and,Bool.and_true,Bool.and_false,h5]
   exact⟨(),yes rfl,cp_drop' (Nat.le_refl _) (by show 1≤2;decide) rfl (allc ⟨rfl,.pure (.lit _)⟩ (allc ⟨rfl,.pure (.lit _)⟩ (allc ⟨rfl,.pure (.vec (pure_rows pure_encNr _))⟩ (allc ⟨rfl,.pure (pure_ppN n)⟩ (allc ⟨rfl,.om (by show 0<1;decide) rfl⟩ alln))))) alln (allc ⟨by show 0<1;decide,rfl,.pure (pure_rowsZ _)⟩ alln)⟩
 ·have e:rulesV n=true:=all_range hno
  rw[e]
  simp -implicitDefEqProofs (disch:=omega) only[Wz,seval]
  exact kexpo (.lit _)
end Go.Proofs.YtgbbhilflgekhaaDoor
end
