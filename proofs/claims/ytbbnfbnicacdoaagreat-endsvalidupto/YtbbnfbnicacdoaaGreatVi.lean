/- What the claim wants of the machine, the contracts and the law, laid together. -/
import Derived.Test.YtbbnfbnicacdoaaGreatVh
set_option linter.unusedVariables false
set_option linter.unusedSimpArgs false
section
namespace Go.Proofs.YtbbnfbnicacdoaaGreat
open Go Go.Ab
set_option maxRecDepth 20000
set_option maxHeartbeats 16000000
abbrev W64:Nat:=18446744073709551616
def encW (w:Nat):List AV:=[.lit (.int .u64 (w:Int))]
def maskV(w:Nat):AV:=.vec [encW w] false
theorem pure_encW(w:Nat):∀ c∈encW w,Ab.Pure c:=pure_lits (by simp[encW])
theorem pure_maskV(w:Nat):Ab.Pure (maskV w):=.vec (allc (pure_encW w) alln)
theorem u64w{n:Nat}(h:n<W64):IntKind.u64.wrap (n:Int)=(n:Int):=IntWalk.u64_in n (by unfold W64 at h;omega)
theorem ofInt64{a:Nat}(h:a<W64):(BitVec.ofInt 64 (a:Int)).toNat=a:=by
 rw[BitVec.toNat_ofInt]
 have:((a:Int) % ((2 ^ 64:Nat):Int))=(a:Int):=by unfold W64 at h;norm_cast;omega
 rw[this];simp
theorem and64{a b:Nat}(ha:a<W64)(hb:b<W64):(BitVec.ofInt 64 (a:Int) &&& BitVec.ofInt 64 (b:Int)).toNat=a &&& b:=by rw[BitVec.toNat_and,ofInt64 ha,ofInt64 hb]
theorem or64{a b:Nat}(ha:a<W64)(hb:b<W64):(BitVec.ofInt 64 (a:Int) ||| BitVec.ofInt 64 (b:Int)).toNat=a ||| b:=by rw[BitVec.toNat_or,ofInt64 ha,ofInt64 hb]
theorem fdiv_pow(a k:Nat):(a:Int).fdiv (2 ^ k)=((a / 2 ^ k:Nat):Int):=by
 rw[Int.fdiv_eq_ediv_of_nonneg _ (Int.le_of_lt (Int.pow_pos (by decide)))]
 rw[Int.natCast_ediv];norm_cast
theorem idx0{i:Nat}(hi:i<64):(i:Int).fdiv (2 ^ min (Int.toNat 6) IntKind.i64.bits)=0:=by
 have:min (Int.toNat 6) IntKind.i64.bits=6:=by decide
 rw[this,fdiv_pow,Nat.div_eq_of_lt (by omega)];rfl
theorem low6{i:Nat}(hi:i<64):IntKind.i64.wrap ((BitVec.ofInt IntKind.i64.bits (i:Int) &&& BitVec.ofInt IntKind.i64.bits 63).toNat:Int)=(i:Int):=by
 have h:=and64 (a:=i) (b:=63) (by unfold W64;omega) (by decide)
 have e:i &&& 63=i:=by
  have:=Nat.and_two_pow_sub_one_eq_mod i 6
  have h2:(2 ^ 6 - 1:Nat)=63:=by decide
  rw[h2] at this
  rw[this];omega
 rw[e] at h
 show IntKind.i64.wrap ((BitVec.ofInt 64 (i:Int) &&& BitVec.ofInt 64 ((63:Nat):Int)).toNat:Int)=_
 rw[h];exact i64w (by omega) (by omega)
theorem get_spec(w i:Nat)(f:Bool)(hw:w<W64)(hi:i<64):PCall Tryz.prog 53 [.vec [encW w] f,.lit (.int .i64 (i:Int))] (.lit (.bool (w.testBit i))):=by
 refine PCall_intro Tryz.func53 rfl Tryz.ntmps53 (rs:=[.tmp 4]) rfl (by simp) ?_
 have h1:=idx0 hi
 have h2:=low6 hi
 have h3:IntKind.u64.wrap (i:Int)=(i:Int):=u64w (by unfold W64;omega)
 have h4:(w:Int).fdiv (2 ^ min i IntKind.u64.bits)=((w / 2 ^ i:Nat):Int):=by
  have:min i IntKind.u64.bits=i:=by show min i 64=i;omega
  rw[this,fdiv_pow]
 have hlt:w / 2 ^ i<W64:=Nat.lt_of_le_of_lt (Nat.div_le_self _ _) hw
 have h5:IntKind.u64.wrap ((BitVec.ofInt IntKind.u64.bits ((w / 2 ^ i:Nat):Int) &&& BitVec.ofInt IntKind.u64.bits 1).toNat:Int)=((w / 2 ^ i % 2:Nat):Int):=by
  have h:=and64 (a:=w / 2 ^ i) (b:=1) hlt (by decide)
  rw[Nat.and_one_is_mod] at h
  show IntKind.u64.wrap ((BitVec.ofInt 64 ((w / 2 ^ i:Nat):Int) &&& BitVec.ofInt 64 ((1:Nat):Int)).toNat:Int)=_
  rw[h];exact u64w (by unfold W64;omega)
 have h6:(((w / 2 ^ i % 2:Nat):Int)==1)=w.testBit i:=by
  rw[Nat.testBit_eq_decide_div_mod_eq,Bool.eq_iff_iff,beq_iff_eq,decide_eq_true_eq];omega
 simp -implicitDefEqProofs (disch:=omega) only[Wz,↓reduceIte,reduceCtorEq,Nat.reduceLT,Nat.reduceEqDiff,Nat.reduceAdd,Nat.reduceLeDiff,Nat.reducePow,Nat.reduceMul,encW,h1,List.getD_cons_zero,Int.natCast_one,Int.reduceLT,show ((0:Int)<((1:Nat):Int))=True from by simp,Int.le_refl,h2,h3,h4,h5,h6]
 exact expo_pure (.lit _)
theorem shl_one{i:Nat}(hi:i<64):IntKind.u64.wrap (1 * 2 ^ min i IntKind.u64.bits)=((2 ^ i:Nat):Int):=by
 have:min i IntKind.u64.bits=i:=by show min i 64=i;omega
 rw[this,Int.one_mul]
 have h:(2 ^ i:Nat)<W64:=by
  have:=Nat.pow_lt_pow_right (a:=2) (by decide) hi
  unfold W64;exact this
 have:=u64w h
 rw[← this];norm_cast
theorem pow_lt{i:Nat}(hi:i<64):2 ^ i<W64:=by
 have:=Nat.pow_lt_pow_right (a:=2) (by decide) hi
 unfold W64;exact this
theorem or_lt{a b:Nat}(ha:a<W64)(hb:b<W64):a ||| b<W64:=Nat.or_lt_two_pow (n:=64) ha hb
theorem or_wrap{a b:Nat}(ha:a<W64)(hb:b<W64):IntKind.u64.wrap ((BitVec.ofInt IntKind.u64.bits (a:Int) ||| BitVec.ofInt IntKind.u64.bits (b:Int)).toNat:Int)=((a ||| b:Nat):Int):=by
 have h:=or64 ha hb
 show IntKind.u64.wrap ((BitVec.ofInt 64 (a:Int) ||| BitVec.ofInt 64 (b:Int)).toNat:Int)=_
 rw[h];exact u64w (or_lt ha hb)
theorem set_spec(w i t:Nat)(H:Hp)(hw:w<W64)(hi:i<64)(hl:lk H.toks t=some ⟨[encW w],0,1⟩):SCall Tryz.prog 51 [.own t 1,.lit (.int .i64 (i:Int))] H fun r h'=>r = .tup []∧h'={H with toks:=up H.toks t ⟨[encW (w ||| 2 ^ i)],0,1⟩}:=by
 refine SCall_intro Tryz.func51 rfl Tryz.ntmps51 (rs:=[]) rfl (by simp) ?_
 have h1:=idx0 hi
 have h2:=low6 hi
 have h3:IntKind.u64.wrap (i:Int)=(i:Int):=u64w (by unfold W64;omega)
 have h4:=shl_one hi
 have h5:=or_wrap hw (pow_lt hi)
 simp -implicitDefEqProofs (disch:=omega) only[Wz,↓reduceIte,reduceCtorEq,Nat.reduceLT,Nat.reduceEqDiff,Nat.reduceAdd,Nat.reduceLeDiff,Nat.reducePow,Nat.reduceMul,encW,hl,h1,List.getD_cons_zero,show ((0:Int)<((1:Nat):Int))=True from by simp,Int.le_refl,h2,h3,h4,h5]
theorem cloneBits(w:Nat):SCall Tryz.prog 72 [maskV w] .none fun r h'=>r = .own 0 1∧h'=⟨[],[(0,⟨[encW w],0,1⟩)],1⟩:=by
 refine SCall_intro Tryz.func72 rfl Tryz.ntmps72 (rs:=[.tmp 2]) rfl (by simp) ?_
 have hf:fits 1 8:=by decide
 simp -implicitDefEqProofs only[Wa,tyW,seval,maskV]
 refine stepK_eql_nil (xs:=[encW w]) (f:=false) rfl ty72 rfl fun b hb=>?_
 cases b
 ·simp -implicitDefEqProofs only[Wa,tyW,seval,List.not_mem_nil,false_imp_iff,implies_true,hf,encW,List.mem_singleton,forall_eq]
 ·cases hb rfl
theorem join_spec(a b:Nat)(ha:a<W64)(hb:b<W64):PCall Tryz.prog 52 [maskV a,maskV b] (maskV (a ||| b)):=by
 refine PCall_intro Tryz.func52 rfl Tryz.ntmps52 (rs:=[.tmp 4]) rfl (by simp) ?_
 have h5:=or_wrap ha hb
 simp -implicitDefEqProofs (disch:=omega) only[Wz,seval,maskV]
 refine CallK_of call72 (SCall.own_sub (k:=⟨[encW a],0,1⟩) (allc (pure_encW a) alln) (allc (pure_maskV a) alln) (cloneBits a) _) ?_
 rintro r h' ⟨rfl,rfl⟩
 simp -implicitDefEqProofs (disch:=omega) only[Wz,seval,maskV]
 refine aw_meas (fun(x:Bool)=>⟨[(12,.lit (.int .i64 (if x then 1 else 0))),(11,.lit (.int .i64 1)),(10,.vec [encW b] false),(5,.own 0 1)],⟨[],[(0,⟨[encW (if x then a ||| b else a)],0,1⟩)],1⟩,26⟩) (fun _=>True) (fun x=>if x then 0 else 1) false (St.wk_slots (by simp[lk])) trivial ?_
 intro x _
 cases x
 ·simp -implicitDefEqProofs (disch:=omega) only[Wz,seval,encW,Bool.false_eq_true,if_false,List.getD_cons_zero,show ((0:Int)<((1:Nat):Int))=True from by simp,Int.le_refl,h5]
  exact⟨true,by decide,wk_lk (by simp[lk]) (fun _ _ e=>e) (fun _ _ e=>e) rfl rfl⟩
 ·simp -implicitDefEqProofs (disch:=omega) only[Wz,seval,encW,if_true]
  exact expo_own (k:=⟨[encW (a ||| b)],0,1⟩) rfl rfl (allc (pure_encW _) alln)
def plcs (w n:Nat):List Nat:=(List.range n).filter fun i=>w.testBit i
def gV (t:Nat):List Nat→AV
 | []=>.vec [] true
 | _ :: l=>.own t (l.length+1)
theorem gV_cons{t:Nat}{l:List Nat}(h:l≠[]):gV t l = .own t l.length:=by
 cases l with
 | nil=>exact absurd rfl h
 | cons x l=>rfl
theorem gV_snoc{t x:Nat}{l:List Nat}:gV t (l++[x]) = .own t (l.length+1):=by
 rw[gV_cons (by simp)];simp
theorem plcs_succ(w n:Nat):plcs w (n+1)=if w.testBit n then plcs w n++[n] else plcs w n:=by
 unfold plcs
 rw[List.range_succ,List.filter_append]
 cases h:w.testBit n <;> simp[h]
theorem plcs_len(w n:Nat):(plcs w n).length≤n:=by
 have:=List.length_filter_le (fun i=>w.testBit i) (List.range n)
 unfold plcs;simpa using this
theorem places_spec(w n:Nat)(hw:w<W64)(hn:n≤64):PCall Tryz.prog 28 [maskV w,.lit (.int .i64 (n:Int))] (.vec ((plcs w n).map rowI) false):=by
 refine PCall_intro Tryz.func28 rfl Tryz.ntmps28 (rs:=[.tmp 4]) rfl (by simp) ?_
 simp -implicitDefEqProofs (disch:=omega) only[Wz,seval,maskV]
 refine aw_meas (fun(x:Nat × Nat × Nat)=>⟨[(7,.lit (.int .i64 (x.1:Int))),(6,.lit (.int .i64 (n:Int))),(0,.vec [encW w] false),(4,gV x.2.1 (plcs w x.1))],⟨[],nTok (x.2.1,plcs w x.1),x.2.2⟩,19⟩) (fun x=>x.1≤n∧(plcs w x.1≠[]→x.2.1<x.2.2)) (fun x=>n - x.1) (0,0,0) (wk_lk (allc rfl (allc rfl (allc rfl (allc rfl alln)))) (fun _ _ e=>e) (fun _ _ e=>e) rfl rfl) ⟨Nat.zero_le _,fun h=>absurd rfl h⟩ ?_
 rintro⟨i,t,nx⟩ ⟨hi,ht⟩
 simp only at hi ht ⊢
 have hpl:=plcs_len w i
 rcases Nat.lt_or_ge i n with hlt | hge
 ·have hg:=get_spec w i false hw (by omega)
  simp -implicitDefEqProofs (disch:=omega) only[Wz,seval]
  refine CallK_pure call53 hg (allc (pure_maskV w) (allc (.lit _) alln)) (.lit _) ?_
  have hs:=plcs_succ w i
  cases hb:w.testBit i
  ·rw[hb] at hs
   simp only[Bool.false_eq_true,if_false] at hs
   simp -implicitDefEqProofs (disch:=omega) only[Wz,seval]
   exact⟨(i+1,t,nx),⟨hlt,by simp only[hs];exact ht⟩,by simp only;omega,by simp only[hs];exact wk_lk (allc rfl (allc rfl (allc rfl (allc rfl alln)))) (fun _ _ e=>e) (fun _ _ e=>e) rfl rfl⟩
  ·rw[hb] at hs
   simp only[if_true] at hs
   obtain⟨l,hl⟩:∃ l,plcs w i=l:=⟨_,rfl⟩
   rw[hl] at hs ht hpl ⊢
   rcases List.eq_nil_or_concat l with hl0 | ⟨l',y,hl0⟩
   ·subst hl0
    have hf:fits 1 8:=by decide
    simp -implicitDefEqProofs (disch:=omega) only[Wz,seval,gV,nTok,List.mem_singleton,forall_eq,List.not_mem_nil,false_imp_iff,implies_true,hf]
    refine⟨(i+1,nx,nx+1),⟨hlt,fun _=>Nat.lt_succ_self _⟩,by simp only;omega,?_⟩
    simp only[hs,List.nil_append]
    exact wk_lk (allc rfl (allc rfl (allc rfl (allc rfl alln)))) (fun _ _ e=>e) (fun _ _ e=>e) rfl rfl
   ·have hlne:l≠[]:=by rw[hl0];simp
    have hf:fits (l.length+1) 8:=fits_of' (by omega) (by omega)
    rw[gV_cons hlne,nTok_cons hlne]
    simp -implicitDefEqProofs (disch:=omega) only[Wz,seval,List.mem_singleton,forall_eq,List.not_mem_nil,false_imp_iff,implies_true,hf]
    refine⟨(i+1,t,nx),⟨hlt,fun _=>ht hlne⟩,by simp only;omega,?_⟩
    simp only[hs]
    rw[gV_snoc,nTok_cons (by simp),List.map_append]
    exact wk_lk (allc rfl (allc rfl (allc rfl (allc rfl alln)))) (fun _ _ e=>e) (fun _ _ e=>e) rfl rfl
 ·have hie:i=n:=by omega
  subst hie
  obtain⟨l,hl⟩:∃ l,plcs w i=l:=⟨_,rfl⟩
  rw[hl] at ht ⊢
  rcases List.eq_nil_or_concat l with hl0 | ⟨l',y,hl0⟩
  ·subst hl0
   simp -implicitDefEqProofs (disch:=omega) only[Wz,seval,gV,nTok]
   exact expo_full (by simp)
  ·have hlne:l≠[]:=by rw[hl0];simp
   rw[gV_cons hlne,nTok_cons hlne]
   simp -implicitDefEqProofs (disch:=omega) only[Wz,seval]
   exact expo_own (k:=⟨l.map rowI,0,1⟩) (by simp[lk]) (by simp) (pure_rows pure_rowI _)
end Go.Proofs.YtbbnfbnicacdoaaGreat
end
section
namespace Go.Proofs.YtbbnfbnicacdoaaGreat
open Go Go.Ab
set_option maxRecDepth 20000
set_option maxHeartbeats 4000000
structure Cl where
 rule:Nat
 level:Int
 pos:Nat
deriving DecidableEq
def goV (o:List Orc)(L:List It)(e:Ed)(level:Int)(p:Nat):Nat × Bool :=
 if e.op.1=1 then (if L.length≤p then (0,false) else (1,decide (0<(L.getD p default).type∧(L.getD p default).type<2147483648) && hasV e.set (L.getD p default).type))
 else if e.op.1=3 then (0,if L.length≤p then true else ckG e.g && saysG ⟨(L.getD p default).index,(L.getD p default).column,(L.getD p default).type,0⟩ o e.g)
 else if e.op.1=5 then (0,decide (level≤e.level)) else (0,decide (e.op.1≠2))
inductive Rs (n:Nt) (o:List Orc) (L:List It):Cl→Nat→Nat→Prop
 | start {c:Cl}:Rs n o L c (stN n c.rule) c.pos
 | edge {c:Cl} {s p:Nat} {e:Ed}:Rs n o L c s p→e∈(n.states.getD s default).edges→(goV o L e c.level p).2=true→Rs n o L c e.to.toNat (p+(goV o L e c.level p).1)
 | call {c:Cl} {s p k:Nat} {e:Ed}:Rs n o L c s p→e∈(n.states.getD s default).edges→e.op.1=2→Rs n o L ⟨e.n.toNat,e.level,p⟩ (spN n e.n.toNat) k→Rs n o L c e.to.toNat k
inductive Op1 (n:Nt) (o:List Orc) (L:List It):Cl→Prop
 | here {c:Cl} {s:Nat}:Rs n o L c s L.length→Op1 n o L c
 | call {c:Cl} {s p:Nat} {e:Ed}:Rs n o L c s p→e∈(n.states.getD s default).edges→e.op.1=2→Op1 n o L ⟨e.n.toNat,e.level,p⟩→Op1 n o L c
theorem goV_le{o:List Orc}{L:List It}{e:Ed}{lv:Int}{p:Nat}:(goV o L e lv p).1=0∨((goV o L e lv p).1=1∧p<L.length∧e.op.1=1):=by
 unfold goV
 split
 ·rename_i h
  split
  ·exact .inl rfl
  ·exact .inr ⟨rfl,by omega,h⟩
 ·split
  ·exact .inl rfl
  ·split <;> exact .inl rfl
theorem goV_no{o:List Orc}{L:List It}{e:Ed}{lv:Int}{p:Nat}(h:(goV o L e lv p).2=true):e.op.1≠2:=fun q=>by
 unfold goV at h
 rw[if_neg (by omega),if_neg (by omega),if_neg (by omega)] at h
 simp[q] at h
theorem goV_nul{o:List Orc}{L:List It}{e:Ed}{lv:Int}{p:Nat}(h:(goV o L e lv p).2=true)(h0:(goV o L e lv p).1=0):e.op.1≠1:=fun q=>by
 unfold goV at h h0
 rw[if_pos q] at h h0
 split at h
 ·cases h
 ·rename_i hb;rw[if_neg hb] at h0;cases h0
section
variable {n:Nt} {o:List Orc} {L:List It} (w:Wf n)
include w
theorem Rs.le{c:Cl}{s p:Nat}(h:Rs n o L c s p):c.rule<n.rules.length→c.pos≤L.length→c.pos≤p∧p≤L.length∧s<n.states.length:=by
 induction h with
 | start=>intro hr hp;have:=w.start hr;exact⟨Nat.le_refl _,hp,by unfold stN;omega⟩
 | edge h1 h2 h3 ih =>
  intro hr hp
  obtain⟨i1,i2,i3⟩:=ih hr hp
  have:=w.to i3 h2
  rcases goV_le (o:=o) (L:=L) (e:=_) (lv:=_) (p:=_) with q | ⟨q,q2,_⟩
  ·rw[q];exact⟨i1,i2,by omega⟩
  ·rw[q];exact⟨by omega,by omega,by omega⟩
 | call h1 h2 h3 h4 ih1 ih2 =>
  intro hr hp
  obtain⟨i1,i2,i3⟩:=ih1 hr hp
  have hc:=w.call i3 h2 h3
  have:=w.to i3 h2
  obtain⟨j1,j2,j3⟩:=ih2 (by simp only;omega) i2
  simp only at j1
  exact⟨by omega,j2,by omega⟩
theorem Rs.nul{c:Cl}{s p:Nat}(h:Rs n o L c s p):c.rule<n.rules.length→c.pos≤L.length→p=c.pos→s=stN n c.rule∨Nul n (stN n c.rule) s:=by
 induction h with
 | start=>intro _ _ _;exact .inl rfl
 | @edge c s p e h1 h2 h3 ih =>
  intro hr hp hq
  obtain⟨i1,i2,i3⟩:=Rs.le w h1 hr hp
  have h0:(goV o L e c.level p).1=0:=by omega
  have hone:Nul n s e.to.toNat:=.edge i3 h2 (goV_nul h3 h0) (goV_no h3)
  rcases ih hr hp (by omega) with q | q
  ·subst q;exact .inr hone
  ·exact .inr (.step q hone)
 | @call c s p k e h1 h2 h3 h4 ih1 ih2 =>
  intro hr hp hq
  obtain⟨i1,i2,i3⟩:=Rs.le w h1 hr hp
  have hc:=w.call i3 h2 h3
  have hcr:e.n.toNat<n.rules.length:=by omega
  obtain⟨j1,j2,j3⟩:=Rs.le w h4 hcr i2
  simp only at j1
  have hpk:p=k:=by omega
  have hone:Nul n s e.to.toNat:=by
   rcases ih2 hcr i2 (by simp only;omega) with q | q
   ·have:=(w.ru _ hcr).2.2.1
    have a1:=w.start hcr
    have a2:=w.stop hcr
    unfold spN stN at q
    simp only at q
    omega
   ·exact .call i3 h2 h3 q
  rcases ih1 hr hp (by omega) with q | q
  ·subst q;exact .inr hone
  ·exact .inr (.step q hone)
end
structure Rk (n:Nt) (rk:Nat→Nat):Prop where
 nul:∀ s t,Nul n s t→rk t<rk s
 call:∀ s e,s<n.states.length→e∈(n.states.getD s default).edges→e.op.1=2→rk (stN n e.n.toNat)<rk s
theorem okV_wf{n:Nt}(h:okV n=true):Wf n∧ringV (gF n)=false:=by
 unfold okV at h
 simp only[Bool.and_eq_true,Bool.not_eq_true'] at h
 exact⟨Wf.of h.1 h.2.1 h.2.2.1,h.2.2.2.2.2.1⟩
theorem emptiesV_get{n:Nt}{i:Nat}(h:i<n.rules.length):(emptiesV n).getD i false=empB n i:=by
 unfold emptiesV
 rw[List.getD_eq_getElem?_getD,List.getElem?_map,List.getElem?_range h];rfl
theorem rank_ex{n:Nt}(ok:NtOk n)(h:okV n=true):∃ rk,Rk n rk:=by
 obtain⟨w,hr⟩:=okV_wf h
 obtain⟨rk,hrk⟩:=acyc_of hr
 have hb:=psF_bnd w ok (em:=emptiesV n) (i:=n.states.length) (k:=0) (.inr ⟨rfl,rfl⟩)
 have mem:∀ {s t e},s<n.states.length→e∈(n.states.getD s default).edges→(s,t)∈prF n (emptiesV n) s e→rk t<rk s:=fun {s t e} hs he hp=>by
  refine hrk s t ?_
  unfold gF
  rw[gOf_mem fun p hp=>(hb.1 p hp).1]
  exact psAt_all _ n hs he hp
 have hcall:∀ s e,s<n.states.length→e∈(n.states.getD s default).edges→e.op.1=2→rk (stN n e.n.toNat)<rk s:=fun s e hs he h2=>by
  refine mem hs he ?_
  unfold prF
  rw[if_neg (by omega),if_pos h2];simp
 refine⟨rk,fun s t hn=>?_,hcall⟩
 induction hn with
 | @edge s e hs he h1 h2 =>
  refine mem hs he ?_
  unfold prF
  rw[if_neg h1,if_neg h2];simp
 | @call s e hs he h2 hN ih =>
  have hc:=w.call hs he h2
  refine mem hs he ?_
  unfold prF
  rw[if_neg (by omega),if_pos h2,emptiesV_get (by omega),empB_true.2 hN];simp
 | step _ _ ih1 ih2=>exact Nat.lt_trans ih2 ih1
def Cl.lt(n:Nt)(rk:Nat→Nat)(d c:Cl):Prop:=c.pos<d.pos∨(d.pos=c.pos∧rk (stN n d.rule)<rk (stN n c.rule))
theorem cl_lt{n:Nt}{o:List Orc}{L:List It}(w:Wf n){rk:Nat→Nat}(hrk:Rk n rk){c:Cl}{s p:Nat}{e:Ed}(h:Rs n o L c s p)(hr:c.rule<n.rules.length)(hp:c.pos≤L.length)(he:e∈(n.states.getD s default).edges)(h2:e.op.1=2) :
  e.n.toNat<n.rules.length∧p≤L.length∧Cl.lt n rk ⟨e.n.toNat,e.level,p⟩ c:=by
 obtain⟨i1,i2,i3⟩:=Rs.le w h hr hp
 have hc:=w.call i3 he h2
 refine⟨by omega,i2,?_⟩
 rcases Nat.lt_or_ge c.pos p with q | q
 ·exact .inl q
 ·refine .inr ⟨by simp only;omega,?_⟩
  have h1:=hrk.call s e i3 he h2
  rcases Rs.nul w h hr hp (by omega) with a | a
  ·subst a;exact h1
  ·exact Nat.lt_trans h1 (hrk.nul _ _ a)
theorem cl_ind{n:Nt}{L:List It}(rk:Nat→Nat){P:Cl→Prop}(h:∀ c:Cl,c.rule<n.rules.length→c.pos≤L.length→(∀ d:Cl,d.rule<n.rules.length→d.pos≤L.length→Cl.lt n rk d c→P d)→P c) :
  ∀ c:Cl,c.rule<n.rules.length→c.pos≤L.length→P c:=by
 have key:∀ (m k:Nat) (c:Cl),c.rule<n.rules.length→c.pos≤L.length→L.length - c.pos=m→rk (stN n c.rule)=k→P c:=by
  intro m
  induction m using Nat.strongRecOn with
  | _ m ihm =>
   intro k
   induction k using Nat.strongRecOn with
   | _ k ihk =>
    intro c hr hp hm hk
    refine h c hr hp fun d dr dp hlt=>?_
    rcases hlt with q | ⟨q1,q2⟩
    ·exact ihm (L.length - d.pos) (by omega) _ d dr dp rfl rfl
    ·exact ihk (rk (stN n d.rule)) (by omega) d dr dp (by omega) rfl
 exact fun c hr hp=>key _ _ c hr hp rfl rfl
def maskOf(p:Nat→Bool):Nat→Nat
 | 0=>0
 | k+1=>if p k then maskOf p k ||| 2 ^ k else maskOf p k
theorem maskOf_bit(p:Nat→Bool)(k i:Nat):(maskOf p k).testBit i=(decide (i<k) && p i):=by
 induction k with
 | zero=>simp[maskOf]
 | succ k ih =>
  unfold maskOf
  by_cases h:p k=true
  ·rw[if_pos h,Nat.testBit_or,ih,Nat.testBit_two_pow]
   by_cases q:k=i
   ·subst q;simp[h]
   ·have e:decide (i<k+1)=decide (i<k):=by
     have:(i<k+1)↔(i<k):=by omega
     simp only[this]
    rw[e];simp[q]
  ·rw[if_neg h,ih]
   by_cases q:k=i
   ·subst q;simp at h;simp[h]
   ·have e:decide (i<k+1)=decide (i<k):=by
     have:(i<k+1)↔(i<k):=by omega
     simp only[this]
    rw[e]
theorem maskOf_lt(p:Nat→Bool){k:Nat}(h:k≤64):maskOf p k<W64:=by
 induction k with
 | zero=>show 0<W64;decide
 | succ k ih =>
  unfold maskOf
  split
  ·exact or_lt (ih (by omega)) (pow_lt (by omega))
  ·exact ih (by omega)
noncomputable def decP(p:Prop):Bool:=@decide p (Classical.propDecidable p)
theorem decP_true{p:Prop}:decP p=true↔p:=by unfold decP;exact @decide_eq_true_iff _ (Classical.propDecidable _)
noncomputable def whW(n:Nt)(o:List Orc)(L:List It)(c:Cl):Nat:=maskOf (fun k=>decP (Rs n o L c (spN n c.rule) k)) (L.length+1)
noncomputable def opB(n:Nt)(o:List Orc)(L:List It)(c:Cl):Bool:=decP (Op1 n o L c)
theorem whW_bit{n:Nt}{o:List Orc}{L:List It}{c:Cl}{k:Nat}:(whW n o L c).testBit k=true↔k≤L.length∧Rs n o L c (spN n c.rule) k:=by
 unfold whW
 rw[maskOf_bit,Bool.and_eq_true,decide_eq_true_eq,decP_true,Nat.lt_succ_iff]
theorem whW_lt{n:Nt}{o:List Orc}{L:List It}{c:Cl}(h:L.length≤25):whW n o L c<W64:=maskOf_lt _ (by omega)
theorem opB_true{n:Nt}{o:List Orc}{L:List It}{c:Cl}:opB n o L c=true↔Op1 n o L c:=decP_true
end Go.Proofs.YtbbnfbnicacdoaaGreat
end
section
namespace Go.Proofs.YtbbnfbnicacdoaaGreat
open Go Go.Ab
open Go.Proofs.Tryz renaming prog→Pg
set_option maxRecDepth 20000
set_option maxHeartbeats 16000000
def encCl(c:Cl):List AV:=[.lit (.int .i64 (c.rule:Int)),.lit (.int .i64 c.level),.lit (.int .i64 (c.pos:Int))]
def encSp(s:Nat × Nat):List AV:=[.lit (.int .i64 (s.1:Int)),.lit (.int .i64 (s.2:Int))]
def kCl (c:Cl):AV:=.agg (encCl c)
def kSp (s:Nat × Nat):AV:=.agg (encSp s)
theorem pure_encCl(c:Cl):∀ a∈encCl c,Ab.Pure a:=pure_lits (by simp[encCl])
theorem pure_kCl(c:Cl):Ab.Pure (kCl c):=.agg (pure_encCl c)
theorem keyCl:KeyT Pg 75 kCl:=fun a b=>by
 unfold keyEq
 rw[ty75]
 simp only[kCl,encCl]
 rw[if_pos ⟨by unfold keyTyOk;rw[nmOk75];rfl,rfl,rfl⟩]
 simp only[eqF,ty3,List.getElem?_cons_zero,List.getElem?_cons_succ,litEq,andO,if_true,Bool.and_true,Option.some.injEq]
 obtain⟨r,l,p⟩:=a
 obtain⟨r',l',p'⟩:=b
 simp only[Cl.mk.injEq]
 rw[Bool.eq_iff_iff]
 simp[Int.natCast_inj]
theorem keySp:KeyT Pg 107 kSp:=fun a b=>by
 unfold keyEq
 rw[ty107]
 simp only[kSp,encSp]
 rw[if_pos ⟨by unfold keyTyOk;rw[nmOk107];rfl,rfl,rfl⟩]
 simp only[eqF,ty3,List.getElem?_cons_zero,List.getElem?_cons_succ,litEq,andO,if_true,Bool.and_true,Option.some.injEq]
 obtain⟨r,p⟩:=a
 obtain⟨r',p'⟩:=b
 simp only[Prod.mk.injEq]
 rw[Bool.eq_iff_iff]
 simp[Int.natCast_inj]
def askC (n:Nt)(o:List Orc)(L:List It)(wi oi:Nat):List AV:=encN n++[.vec (o.map encO) false,.vec (L.map encI) false,.om wi,.om oi]
abbrev Wm:Type:=List (Cl × Nat)
abbrev Om:Type:=List (Cl × Bool)
def rowsW(W:Wm):List (List AV):=rowsM kCl maskV W
def rowsO(O:Om):List (List AV):=rowsM kCl (fun b:Bool=>.lit (.bool b)) O
theorem pure_rowsW(W:Wm):∀ x∈rowsW W,∀ c∈x,Ab.Pure c:=fun x hx c hc=>by
 obtain⟨p,_,rfl⟩:=List.mem_map.1 hx
 simp only[List.mem_cons,List.not_mem_nil,or_false] at hc
 rcases hc with rfl | rfl
 ·exact pure_kCl _
 ·exact pure_maskV _
theorem pure_rowsO(O:Om):∀ x∈rowsO O,∀ c∈x,Ab.Pure c:=fun x hx c hc=>by
 obtain⟨p,_,rfl⟩:=List.mem_map.1 hx
 simp only[List.mem_cons,List.not_mem_nil,or_false] at hc
 rcases hc with rfl | rfl
 ·exact pure_kCl _
 ·exact .lit _
def tokW (W:Wm):Tk:=⟨rowsW W,0,0⟩
def tokO (O:Om):Tk:=⟨rowsO O,0,0⟩
def hA (n:Nt)(o:List Orc)(L:List It)(W:Wm)(O:Om):Hp:=⟨[(0,askC n o L 1 2)],[(1,tokW W),(2,tokO O)],3⟩
theorem rn_askC(n:Nt)(o:List Orc)(L:List It){N:Nat}(h:2<N):RnL id N (askC n o L 1 2) (askC n o L 1 2):=by
 have p:∀ {a},Ab.Pure a→Rn id N a a:=fun h=>.pure h
 unfold askC encN
 simp only[List.cons_append,List.nil_append]
 exact .cons (p (.vec (pure_rows pure_encB _))) (.cons (p (.vec (pure_rows pure_encB _))) (.cons (p (.vec (pure_rows pure_encB _))) (.cons (p (.vec (pure_rows pure_encNr _))) (.cons (p (.vec (pure_rows pure_encSt _))) (.cons (p (.vec (pure_rows pure_encO _))) (.cons (p (.vec (pure_rows pure_encI _))) (.cons (.om (by omega) rfl) (.cons (.om (by omega) rfl) .nil))))))))
theorem goes_spec(n:Nt)(o:List Orc)(L:List It)(wi oi ai:Nat)(e:Ed)(lv:Int)(p:Nat)(H:Hp)(he:EdOk e)(ho:o.length≤1000000000)(hL:L.length≤1000000000)(hp:p≤L.length)(hb:lk H.boxes ai=some (askC n o L wi oi))(hf:∀ i,H.nx≤i→lk H.boxes i=none) :
  SCall Pg 71 [.ptr ai 0,.agg (encE e),.lit (.int .i64 lv),.lit (.int .i64 (p:Int))] H fun r h'=>r = .tup [.lit (.int .i64 ((goV o L e lv p).1:Int)),.lit (.bool (goV o L e lv p).2)]∧∃ m,H.nx≤m∧h'={H with nx:=m}:=by
 refine SCall_introW Tryz.func71 rfl Tryz.ntmps71 (rs:=[.tmp 8,.tmp 9]) rfl (by simp) ?_
 have hbx:∀ x,lk (H.boxes++x) ai=some (askC n o L wi oi):=fun x=>by rw[lk_app,hb];rfl
 have hnx:∀ c x,lk (H.boxes++(H.nx,c) :: x) H.nx=some c:=fun c x=>by rw[lk_app,hf _ (Nat.le_refl _)];simp[lk]
 have hnx0:∀ c,lk (H.boxes++[(H.nx,c)]) H.nx=some c:=fun c=>hnx c []
 have hnx1:∀ c d,lk (H.boxes++[(H.nx,c),(H.nx+1,d)]) H.nx=some c:=fun c d=>hnx c _
 have hnx2:∀ c d,lk (H.boxes++[(H.nx,c),(H.nx+1,d)]) (H.nx+1)=some d:=fun c d=>by rw[lk_app,hf _ (by omega)];simp[lk]
 have hup2:∀ c d x,up (H.boxes++[(H.nx,c),(H.nx+1,d)]) (H.nx+1) x=H.boxes++[(H.nx,c),(H.nx+1,x)]:=fun c d x=>by
  have key:∀ B:List (Nat × List AV),lk B (H.nx+1)=none→up (B++[(H.nx,c),(H.nx+1,d)]) (H.nx+1) x=B++[(H.nx,c),(H.nx+1,x)]:=by
   intro B
   induction B with
   | nil=>intro _;simp[up]
   | cons b B ih =>
    intro h
    obtain⟨k,v⟩:=b
    simp only[lk] at h
    split at h
    ·cases h
    ·rename_i hk;simp only[List.cons_append,up,if_neg hk,ih h]
  exact key _ (hf _ (by omega))
 obtain⟨tk,okk,hg⟩:∃ tk okk,goV o L e lv p=(tk,okk):=⟨_,_,rfl⟩
 rw[hg]
 have fin:∀ (sl:List (Nat × AV)) (B:List (Nat × List AV)) (m:Nat) (t ok:AV),lk sl 8=some t→lk sl 9=some ok→H.nx≤m→t = .lit (.int .i64 (tk:Int))→ok = .lit (.bool okk) →
   ∃ σ',St.wk ⟨sl,⟨H.boxes++B,H.toks,m⟩,79⟩ σ'∧resK (resOf Pg σ' [.tmp 8,.tmp 9]) (fun r h'=>r = .tup [.lit (.int .i64 (tk:Int)),.lit (.bool okk)]∧∃ m,H.nx≤m∧h'={H with nx:=m}) σ'.hp:=fun sl B m t ok e1 e2 hm h1 h2=>by
  refine⟨⟨[(8,t),(9,ok)],⟨H.boxes,H.toks,m⟩,79⟩,wk_lk (allc e1 (allc e2 alln)) (fun i c e=>by show lk (H.boxes++B) i=some c;rw[lk_app,e];rfl) (fun _ _ e=>e) rfl rfl,?_⟩
  subst h1;subst h2
  exact⟨rfl,m,hm,rfl⟩
 obtain⟨R,hR⟩:∃ R:AV→Hp→Prop,(fun r h'=>r=AV.tup [.lit (.int .i64 (tk:Int)),.lit (.bool okk)]∧∃ m,H.nx≤m∧h'={H with nx:=m})=R:=⟨_,rfl⟩
 rw[hR] at fin ⊢
 unfold goV at hg
 by_cases c1:e.op.1=1
 ·rw[if_pos c1] at hg
  by_cases hlp:L.length≤p
  ·rw[if_pos hlp] at hg
   cases hg
   simp -implicitDefEqProofs (disch:=omega) only[Wz,seval,encE,askC,encN,hbx,hnx0,List.cons_append,List.nil_append,c1]
   exact fin _ _ _ _ _ rfl rfl (Nat.le_succ _) rfl rfl
  ·rw[if_neg hlp] at hg
   obtain⟨x,hx⟩:∃ x,L.getD p default=x:=⟨_,rfl⟩
   rw[hx] at hg
   by_cases t1:0<x.type
   ·by_cases t2:x.type<2147483648
    ·rw[decide_eq_true ⟨t1,t2⟩,Bool.true_and] at hg
     cases hg
     have hw:IntKind.i32.wrap x.type=x.type:=IntWalk.i32_in _ ⟨by omega,by omega⟩
     simp -implicitDefEqProofs (disch:=omega) only[Wz,seval,encE,askC,encN,hbx,hnx0,List.cons_append,List.nil_append,c1,encI,hx,hw]
     refine CallK_k call98 (Has_spec e.set x.type (by have:=he.set;omega)) (allc (.of_pure (.vec (pure_rows pure_encR _))) (allc (.lit _) alln)) (.lit _) ?_
     simp -implicitDefEqProofs (disch:=omega) only[Wz,seval,encE,askC,encN,hbx,hnx0,List.cons_append,List.nil_append,c1]
     exact fin _ _ _ _ _ rfl rfl (Nat.le_succ _) rfl rfl
    ·rw[decide_eq_false (fun q=>t2 q.2),Bool.false_and] at hg
     cases hg
     simp -implicitDefEqProofs (disch:=omega) only[Wz,seval,encE,askC,encN,hbx,hnx0,List.cons_append,List.nil_append,c1,encI,hx]
     exact fin _ _ _ _ _ rfl rfl (Nat.le_succ _) rfl rfl
   ·rw[decide_eq_false (fun q=>t1 q.1),Bool.false_and] at hg
    cases hg
    simp -implicitDefEqProofs (disch:=omega) only[Wz,seval,encE,askC,encN,hbx,hnx0,List.cons_append,List.nil_append,c1,encI,hx]
    exact fin _ _ _ _ _ rfl rfl (Nat.le_succ _) rfl rfl
 rw[if_neg c1] at hg
 by_cases c3:e.op.1=3
 ·rw[if_pos c3] at hg
  by_cases hlp:L.length≤p
  ·rw[if_pos hlp] at hg
   cases hg
   simp -implicitDefEqProofs (disch:=omega) only[Wz,seval,encE,askC,encN,hbx,hnx0,List.cons_append,List.nil_append,c3]
   exact fin _ _ _ _ _ rfl rfl (Nat.le_succ _) rfl rfl
  ·rw[if_neg hlp] at hg
   obtain⟨x,hx⟩:∃ x,L.getD p default=x:=⟨_,rfl⟩
   rw[hx] at hg
   cases hg
   have hh:=Holds_spec e.g ⟨x.index,x.column,x.type,0⟩ o (by have:=he.g;omega) he.gd (by omega)
   rw[encG_eq] at hh
   simp only[encPl] at hh
   simp -implicitDefEqProofs (disch:=omega) only[Wz,seval,encE,askC,encN,hbx,hnx0,hnx1,hnx2,hup2,List.append_assoc,List.cons_append,List.nil_append,c3,encI,hx]
   refine aw_quietN (n:=79) rfl (by decide) mixed ?_
   simp -implicitDefEqProofs (disch:=omega) only[Wz,seval,encE,askC,encN,hbx,hnx0,hnx1,hnx2,List.append_assoc,List.cons_append,List.nil_append,c3,encI,hx]
   refine CallQ_k call99 hh (allc (.of_pure (.agg (by have:=pure_encG e.g;rw[encG_eq] at this;exact this))) (allc (.of_pure (.agg (pure_lits (by simp)))) (allc (.of_pure (.vec (pure_rows pure_encO _))) alln))) (.lit _) ?_
   simp -implicitDefEqProofs (disch:=omega) only[Wz,seval,encE,askC,encN,hbx,hnx0,hnx1,hnx2,List.append_assoc,List.cons_append,List.nil_append,c3,encI,hx]
   exact fin _ _ _ _ _ rfl rfl (by omega) rfl rfl
 rw[if_neg c3] at hg
 by_cases c5:e.op.1=5
 ·rw[if_pos c5] at hg
  cases hg
  simp -implicitDefEqProofs (disch:=omega) only[Wz,seval,encE,askC,encN,hbx,hnx0,List.cons_append,List.nil_append,c5]
  refine aw_quietN (n:=79) rfl (by decide) mixed ?_
  simp -implicitDefEqProofs (disch:=omega) only[Wz,seval,encE,askC,encN,hbx,hnx0,List.cons_append,List.nil_append,c5]
  exact fin _ _ _ _ _ rfl rfl (Nat.le_succ _) rfl rfl
 ·rw[if_neg c5] at hg
  cases hg
  simp -implicitDefEqProofs (disch:=omega) only[Wz,seval,encE,askC,encN,hbx,hnx0,List.cons_append,List.nil_append,c1,c3,c5]
  refine aw_quietN (n:=79) rfl (by decide) mixed ?_
  simp -implicitDefEqProofs (disch:=omega) only[Wz,seval,encE,askC,encN,hbx,hnx0,List.cons_append,List.nil_append,c1,c3,c5]
  exact fin _ _ _ _ _ rfl rfl (Nat.le_succ _) rfl (by by_cases q:e.op.1=2 <;> simp[q])
instance memSp (x:Nat × Nat) (l:List (Nat × Nat)):Decidable (x∈l):=memDec x l
def todoV(t:Option Nat)(T:List (Nat × Nat)):AV:=match t with | none=>.vec [] true | some t=>.own t T.length
def todoT(t:Option Nat)(T:List (Nat × Nat)):List (Nat × Tk):=match t with | none=>[] | some t=>[(t,⟨T.map encSp,0,2⟩)]
def tokS (S:List (Nat × Nat)):Tk:=⟨rowsS kSp S,0,0⟩
theorem put_spec(x:Nat × Nat)(S T:List (Nat × Nat))(t:Option Nat)(H:Hp)(TK:List (Nat × Tk))(sb tb sm:Nat)(hT:H.toks=TK++todoT t T)(hsb:lk H.boxes sb=some [.om sm])(htb:lk H.boxes tb=some [todoV t T])(hst:sb≠tb)
  (hsm:lk TK sm=some (tokS S)) (hft:∀ i,H.nx≤i→lk TK i=none) (htk:∀ u,t=some u→lk TK u=none∧u<H.nx) (hno:t=none→T=[]) (hfb:∀ i,H.nx≤i→lk H.boxes i=none) (hlen:T.length≤1000000000) :
  SCall Pg 70 [.lit (.int .i64 (x.1:Int)),.lit (.int .i64 (x.2:Int)),.ptr sb 0,.ptr tb 0] H fun r h'=>r = .tup [] ∧
   ((x∈S∧h'={H with nx:=H.nx+1})∨(x∉S∧∃ u m,u<m∧H.nx≤m∧(t=some u∨t=none∧H.nx≤u)∧h'=⟨up H.boxes tb [todoV (some u) (T++[x])],up TK sm (tokS (S++[x]))++todoT (some u) (T++[x]),m⟩)):=by
 obtain⟨R,hR⟩:∃ R:Hp→Prop,(fun h'=>(x∈S∧h'={H with nx:=H.nx+1})∨(x∉S∧∃ u m,u<m∧H.nx≤m∧(t=some u∨t=none∧H.nx≤u)∧h'=⟨up H.boxes tb [todoV (some u) (T++[x])],up TK sm (tokS (S++[x]))++todoT (some u) (T++[x]),m⟩))=R:=⟨_,rfl⟩
 have hRi:∀ h',R h'↔_:=fun h'=>by rw[← hR]
 refine SCall.mono (Q:=fun r h'=>r = .tup []∧R h') ?_ (fun r h' q=>⟨q.1,(hRi h').1 q.2⟩)
 have hRi':=fun h' q=>(hRi h').2 q
 clear hRi hR
 have fin:∀ (h':Hp),R h'→resK (resOf Pg ⟨[],h',20⟩ []) (fun r h'=>r=AV.tup []∧R h') h':=fun h' h=>(show AV.tup []=AV.tup []∧R h' from ⟨rfl,h⟩)
 refine SCall_introW Tryz.func70 rfl Tryz.ntmps70 (rs:=[]) rfl (by simp) ?_
 have hnx0:∀ c,lk (H.boxes++[(H.nx,c)]) H.nx=some c:=fun c=>by rw[lk_app,hfb _ (Nat.le_refl _)];simp[lk]
 have hsb2:∀ c,lk (H.boxes++c) sb=some [.om sm]:=fun c=>by rw[lk_app,hsb];rfl
 have htb2:∀ c,lk (H.boxes++c) tb=some [todoV t T]:=fun c=>by rw[lk_app,htb];rfl
 have hup0:∀ c x,up (H.boxes++[(H.nx,c)]) H.nx x=H.boxes++[(H.nx,x)]:=fun c x=>by
  have key:∀ B:List (Nat × List AV),lk B H.nx=none→up (B++[(H.nx,c)]) H.nx x=B++[(H.nx,x)]:=by
   intro B
   induction B with
   | nil=>intro _;simp[up]
   | cons b B ih =>
    intro h
    obtain⟨k,v⟩:=b
    simp only[lk] at h
    split at h
    ·cases h
    ·rename_i hk;simp only[List.cons_append,up,if_neg hk,ih h]
  exact key _ (hfb _ (Nat.le_refl _))
 have hsm2:lk H.toks sm=some (tokS S):=by rw[hT,lk_app,hsm];rfl
 have hm:mask Pg 107 4 false (kSp x) (rowsS kSp S)=some (.lit (.bool (decide (x∈S)))):=mask_set keySp x S zr4
 have hp:mput Pg 107 (kSp x) (.lit (.bool true)) (rowsS kSp S)=some (rowsS kSp (addS S x)):=mput_set keySp x S
 have kx:kSp x = .agg [.lit (.int .i64 (x.1:Int)),.lit (.int .i64 (x.2:Int))]:=rfl
 rw[kx] at hm hp
 by_cases hx:x∈S
 ·rw[decide_eq_true hx] at hm
  simp -implicitDefEqProofs (disch:=omega) only[Wz,seval,hnx0,hup0,hsb2,hsm2,tokS,hm]
  exact⟨⟨[],⟨H.boxes,H.toks,H.nx+1⟩,20⟩,wk_lk alln (fun i c e=>by show lk (H.boxes++_) i=some c;rw[lk_app,e];rfl) (fun _ _ e=>e) rfl rfl,hRi' _ ((.inl ⟨hx,rfl⟩))⟩
 ·rw[decide_eq_false hx] at hm
  have hadd:addS S x=S++[x]:=by unfold addS;rw[if_neg hx]
  rw[hadd] at hp
  simp -implicitDefEqProofs (disch:=omega) only[Wz,seval,hnx0,hup0,hsb2,hsm2,tokS,hm,hp,htb2]
  have bxs:∀ (c v:List AV) i d,lk (up H.boxes tb v) i=some d→lk (up (H.boxes++[(H.nx,c)]) tb v) i=some d:=fun c v i d e=>by
   rw[lk_up] at e ⊢
   by_cases q:tb=i
   ·rw[if_pos q] at e ⊢
    rw[lk_app,htb]
    rw[htb] at e;exact e
   ·rw[if_neg q] at e ⊢
    rw[lk_app,e];rfl
  cases t with
  | none =>
   have hT0:=hno rfl
   subst hT0
   have hf1:fits 1 16:=by decide
   simp -implicitDefEqProofs (disch:=omega) only[Wz,seval,todoV,List.mem_singleton,forall_eq,List.not_mem_nil,false_imp_iff,implies_true,hf1,htb2]
   refine⟨⟨[],⟨up H.boxes tb [todoV (some (H.nx+1)) ([]++[x])],up TK sm (tokS (S++[x]))++todoT (some (H.nx+1)) ([]++[x]),H.nx+1+1⟩,20⟩,wk_lk alln (bxs _ _) (fun i c e=>?_) rfl rfl,hRi' _ ((.inr ⟨hx,H.nx+1,H.nx+1+1,Nat.lt_succ_self _,by omega,.inr ⟨rfl,Nat.le_succ _⟩,rfl⟩))⟩
   have hHT:H.toks=TK:=by rw[hT];simp[todoT]
   rw[← hHT] at e
   exact e
  | some u =>
   obtain⟨hu1,hu2⟩:=htk u rfl
   have hus:sm≠u:=fun q=>by rw[q,hu1] at hsm;cases hsm
   have hlu:lk (up H.toks sm ⟨rowsS kSp (S++[x]),0,0⟩) u=some ⟨T.map encSp,0,2⟩:=by
    rw[lk_up,if_neg hus,hT,lk_app,hu1];simp[todoT,lk]
   have hf:fits (T.length+1) 16:=fits_of' (by omega) (by omega)
   simp -implicitDefEqProofs (disch:=omega) only[Wz,seval,todoV,List.mem_singleton,forall_eq,List.not_mem_nil,false_imp_iff,implies_true,hf,hlu,List.length_map,htb2]
   refine⟨⟨[],⟨up H.boxes tb [todoV (some u) (T++[x])],up TK sm (tokS (S++[x]))++todoT (some u) (T++[x]),H.nx+1⟩,20⟩,wk_lk alln (fun i c e=>bxs _ _ i c (by simpa [todoV] using e)) (fun i c e=>?_) rfl rfl,hRi' _ ((.inr ⟨hx,u,H.nx+1,by omega,Nat.le_succ _,.inl rfl,rfl⟩))⟩
   show lk (up (up H.toks sm _) u _) i=some c
   have e:lk (up TK sm (tokS (S++[x]))++todoT (some u) (T++[x])) i=some c:=e
   rw[lk_app] at e
   rw[lk_up]
   by_cases q:u=i
   ·subst q
    rw[lk_up,if_neg hus,hu1] at e
    rw[if_pos rfl,hlu]
    simp only[todoT,lk,if_true,Option.none_or] at e
    rw[← e]
    simp[encSp,List.map_append]
   ·rw[if_neg q,lk_up]
    simp only[todoT,lk,if_neg q,Option.or_none] at e
    rw[lk_up] at e
    by_cases q2:sm=i
    ·rw[if_pos q2] at e ⊢
     rw[hsm] at e
     rw[hsm2];exact e
    ·rw[if_neg q2] at e ⊢
     rw[hT,lk_app,e];rfl
theorem up_app{α:Type}{B:List (Nat × α)}{k:Nat}{c x:α}(h:lk B k=none):up (B++[(k,c)]) k x=B++[(k,x)]:=by
 induction B with
 | nil=>simp[up]
 | cons b B ih =>
  obtain⟨j,v⟩:=b
  simp only[lk] at h
  split at h
  ·cases h
  ·rename_i hk;simp only[List.cons_append,up,if_neg hk,ih h]
theorem whole1_spec(s:Nat × Nat)(stop w kb ab:Nat)(H:Hp)(hk:lk H.boxes kb=some [.lit (.int .i64 (stop:Int))])(ha:lk H.boxes ab=some [maskV w])(hw:w<W64)(hs:s.2<64)(hfb:∀ i,H.nx≤i→lk H.boxes i=none)(hft:∀ i,H.nx≤i→lk H.toks i=none) :
  SCall Pg 50 [.agg (encSp s),.ptr kb 0,.ptr ab 0] H fun r h'=>r = .lit (.bool false)∧∃ m,H.nx≤m∧h'=⟨up H.boxes ab [maskV (if s.1=stop then w ||| 2 ^ s.2 else w)],H.toks,m⟩:=by
 refine SCall_introW Tryz.func50 rfl Tryz.ntmps50 (rs:=[.tmp 4]) rfl (by simp) ?_
 obtain⟨w',hw'⟩:∃ w',(if s.1=stop then w ||| 2 ^ s.2 else w)=w':=⟨_,rfl⟩
 rw[hw']
 have hnx0:∀ c,lk (H.boxes++[(H.nx,c)]) H.nx=some c:=fun c=>by rw[lk_app,hfb _ (Nat.le_refl _)];simp[lk]
 have hk2:∀ c,lk (H.boxes++c) kb=some [.lit (.int .i64 (stop:Int))]:=fun c=>by rw[lk_app,hk];rfl
 have ha2:∀ c,lk (H.boxes++c) ab=some [maskV w]:=fun c=>by rw[lk_app,ha];rfl
 have bxs:∀ (c v:List AV) i d,lk (up H.boxes ab v) i=some d→lk (up (H.boxes++[(H.nx,c)]) ab v) i=some d:=fun c v i d e=>by
  rw[lk_up] at e ⊢
  by_cases q:ab=i
  ·rw[if_pos q] at e ⊢
   rw[lk_app,ha]
   rw[ha] at e;exact e
  ·rw[if_neg q] at e ⊢
   rw[lk_app,e];rfl
 by_cases hc:s.1=stop
 ·rw[if_pos hc] at hw'
  have hnt:∀ c,lk (H.toks++[(H.nx+1,c)]) (H.nx+1)=some c:=fun c=>by rw[lk_app,hft _ (by omega)];simp[lk]
  have hset:=set_spec 0 s.2 (H.nx+1) ⟨H.boxes++[(H.nx,encSp s)],H.toks++[(H.nx+1,⟨[encW 0],0,1⟩)],H.nx+1+1⟩ (by decide) hs (hnt _)
  have hj:=join_spec w (2 ^ s.2) hw (pow_lt hs)
  have hut:∀ (c x:Tk),up (H.toks++[(H.nx+1,c)]) (H.nx+1) x=H.toks++[(H.nx+1,x)]:=fun c x=>up_app (hft _ (by omega))
  have hc2:((s.1:Int)==(stop:Int))=true:=by rw[hc];simp
  have z1:(0 ||| 2 ^ s.2)=2 ^ s.2:=Nat.zero_or _
  rw[z1] at hset
  simp -implicitDefEqProofs (disch:=omega) only[Wz,seval,encSp,hnx0,hk2,ha2,hc2,maskV,encW]
  refine CallK_of call51 hset ?_
  rintro r h' ⟨rfl,rfl⟩
  simp -implicitDefEqProofs (disch:=omega) only[Wz,seval,hut,ha2,maskV]
  refine CallK.freeze (t:=H.nx+1) (k:=⟨[encW (2 ^ s.2)],0,1⟩) (args1:=[maskV w,maskV (2 ^ s.2)]) (hnt _) (fun g g' e c=>cvL_cons (cv_refl e _) (cvL_cons c cvL_nil)) ?_
  refine CallK_pure call52 hj (allc (pure_maskV _) (allc (pure_maskV _) alln)) (pure_maskV _) ?_
  simp -implicitDefEqProofs (disch:=omega) only[Wz,seval,hut,ha2,maskV]
  refine⟨⟨[(4,.lit (.bool false))],⟨up H.boxes ab [maskV w'],H.toks,H.nx+1+1⟩,20⟩,wk_lk (allc rfl alln) (fun i c e=>bxs _ _ i c (by rw[hw'];exact e)) (fun i c e=>by show lk (H.toks++_) i=some c;rw[lk_app,e];rfl) rfl rfl,?_⟩
  exact(show _∧_ from ⟨rfl,H.nx+1+1,by omega,rfl⟩)
 ·rw[if_neg hc] at hw'
  have hc2:((s.1:Int)==(stop:Int))=false:=by simp;omega
  simp -implicitDefEqProofs (disch:=omega) only[Wz,seval,encSp,hnx0,hk2,ha2,hc2,maskV,encW]
  refine⟨⟨[(4,.lit (.bool false))],⟨up H.boxes ab [maskV w'],H.toks,H.nx+1⟩,20⟩,wk_lk (allc rfl alln) (fun i c e=>?_) (fun _ _ e=>e) rfl rfl,?_⟩
  ·have e:lk (up H.boxes ab [maskV w']) i=some c:=e
   show lk (H.boxes++_) i=some c
   rw[lk_up] at e
   rw[lk_app]
   by_cases q:ab=i
   ·rw[if_pos q,ha] at e
    rw[← q,ha,← hw'] at *
    exact e
   ·rw[if_neg q] at e;rw[e];rfl
  ·exact(show _∧_ from ⟨rfl,H.nx+1,by omega,rfl⟩)
theorem open1_spec(n:Nt)(o:List Orc)(L:List It)(wi oi ai:Nat)(s:Nat × Nat)(y:Bool)(kb ab:Nat)(H:Hp)(hL:L.length≤1000000000)(hA:lk H.boxes ai=some (askC n o L wi oi))(hk:lk H.boxes kb=some [.ptr ai 0])(ha:lk H.boxes ab=some [.lit (.bool y)])(hfb:∀ i,H.nx≤i→lk H.boxes i=none) :
  SCall Pg 77 [.agg (encSp s),.ptr ab 0,.ptr kb 0] H fun r h'=>r = .lit (.bool (y || decide (s.2=L.length)))∧∃ m,H.nx≤m∧h'=⟨up H.boxes ab [.lit (.bool (y || decide (s.2=L.length)))],H.toks,m⟩:=by
 refine SCall_introW Tryz.func77 rfl Tryz.ntmps77 (rs:=[.tmp 4]) rfl (by simp) ?_
 have hab:ab<H.nx:=by
  rcases Nat.lt_or_ge ab H.nx with h | h
  ·exact h
  ·rw[hfb ab h] at ha;cases ha
 obtain⟨y',hy'⟩:∃ y',(y || decide (s.2=L.length))=y':=⟨_,rfl⟩
 rw[hy']
 have hnx0:∀ c,lk (H.boxes++[(H.nx,c)]) H.nx=some c:=fun c=>by rw[lk_app,hfb _ (Nat.le_refl _)];simp[lk]
 have hk2:∀ c,lk (H.boxes++c) kb=some [.ptr ai 0]:=fun c=>by rw[lk_app,hk];rfl
 have ha2:∀ c,lk (H.boxes++c) ab=some [.lit (.bool y)]:=fun c=>by rw[lk_app,ha];rfl
 have hA2:∀ c,lk (H.boxes++c) ai=some (askC n o L wi oi):=fun c=>by rw[lk_app,hA];rfl
 have bxs:∀ (c v:List AV) i d,lk (up H.boxes ab v) i=some d→lk (up (H.boxes++[(H.nx,c)]) ab v) i=some d:=fun c v i d e=>by
  rw[lk_up] at e ⊢
  by_cases q:ab=i
  ·rw[if_pos q] at e ⊢
   rw[lk_app,ha]
   rw[ha] at e;exact e
  ·rw[if_neg q] at e ⊢
   rw[lk_app,e];rfl
 have hau:∀ v,lk (up H.boxes ab v) ab=some v:=fun v=>by rw[lk_up,if_pos rfl,ha];rfl
 simp -implicitDefEqProofs (disch:=omega) only[Wz,seval,encSp,hnx0]
 refine aw_drawC (n:=17) (σ':=⟨[(3,.ptr H.nx 0),(1,.ptr ab 0)],⟨up H.boxes ab [.lit (.bool y')],H.toks,H.nx+1⟩,17⟩) (H.nx+1) 11 (.alt 11 .leaf .nil) rfl (by decide) (by decide) mixed (by kernel_rfl) (by decide) ?_ ?_
 ·cases y
  ·have he:((s.2:Int)==(L.length:Int))=y':=by
    rw[← hy',Bool.false_or,Bool.eq_iff_iff,beq_iff_eq,decide_eq_true_eq];omega
   simp -implicitDefEqProofs (disch:=omega) only[Wz,seval,encSp,hnx0,hk2,ha2,hA2,askC,encN,List.cons_append,List.nil_append,List.append_eq,he]
   exact St.wk.cp (wk_lk (allc rfl (allc rfl alln)) (fun i c e=>bxs _ _ i c e) (fun _ _ e=>e) rfl rfl)
  ·rw[Bool.true_or] at hy'
   subst hy'
   simp -implicitDefEqProofs (disch:=omega) only[Wz,seval,encSp,hnx0,hk2,ha2,hA2,askC,encN,List.cons_append,List.nil_append,List.append_eq]
   exact St.wk.cp (wk_lk (allc rfl (allc rfl alln)) (fun i c e=>bxs _ _ i c e) (fun _ _ e=>e) rfl rfl)
 ·simp -implicitDefEqProofs (disch:=omega) only[Wz,seval,hau]
  refine⟨⟨[(4,.lit (.bool y'))],⟨up H.boxes ab [.lit (.bool y')],H.toks,H.nx+1⟩,17⟩,wk_lk (allc rfl alln) (fun _ _ e=>e) (fun _ _ e=>e) rfl rfl,?_⟩
  exact(show _∧_ from ⟨rfl,H.nx+1,by omega,rfl⟩)
end Go.Proofs.YtbbnfbnicacdoaaGreat
end
section
namespace Go.Proofs.YtbbnfbnicacdoaaGreat
open Go Go.Ab
set_option maxRecDepth 20000
set_option maxHeartbeats 4000000
abbrev Sp:Type:=Nat × Nat
def ClosE(n:Nt)(o:List Orc)(L:List It)(c:Cl)(S:List Sp)(x:Sp)(e:Ed):Prop :=
 ((goV o L e c.level x.2).2=true→(e.to.toNat,x.2+(goV o L e c.level x.2).1)∈S)∧(e.op.1=2→∀ k,Rs n o L ⟨e.n.toNat,e.level,x.2⟩ (spN n e.n.toNat) k→(e.to.toNat,k)∈S)
structure GI (n:Nt) (o:List Orc) (L:List It) (c:Cl) (opn:Bool) (Pr:List Sp) (P:Sp→Ed→Prop) (S T:List Sp):Prop where
 reach:∀ x∈S,Rs n o L c x.1 x.2
 part:∀ x,x∈S↔x∈Pr∨x∈T
 nd:S.Nodup
 st:(stN n c.rule,c.pos)∈S
 len:T.length≤S.length
 cl:∀ x∈Pr,∀ e∈(n.states.getD x.1 default).edges,P x e→ClosE n o L c S x e
 no:opn=true→∀ x∈Pr,∀ e∈(n.states.getD x.1 default).edges,P x e→e.op.1=2→¬ Op1 n o L ⟨e.n.toNat,e.level,x.2⟩
section
variable {n:Nt} {o:List Orc} {L:List It} {c:Cl} {opn:Bool} {Pr:List Sp} {P:Sp→Ed→Prop} {S T:List Sp}
theorem ClosE.mono{S':List Sp}(h:∀ x∈S,x∈S'){x:Sp}{e:Ed}(k:ClosE n o L c S x e):ClosE n o L c S' x e:=⟨fun q=>h _ (k.1 q),fun q k' r=>h _ (k.2 q k' r)⟩
theorem GI.init:GI n o L c opn [] (fun _ _=>True) [(stN n c.rule,c.pos)] [(stN n c.rule,c.pos)] :=
 ⟨fun x hx=>by simp only[List.mem_singleton] at hx;subst hx;exact .start,fun x=>by simp,by simp,by simp,Nat.le_refl _,fun x hx=>by simp at hx,fun _ x hx=>by simp at hx⟩
theorem GI.put(h:GI n o L c opn Pr P S T){y:Sp}(hy:Rs n o L c y.1 y.2)(hn:y∉S):GI n o L c opn Pr P (S++[y]) (T++[y]):=by
 refine⟨fun x hx=>?_,fun x=>?_,?_,?_,?_,fun x hx e he hp=>(h.cl x hx e he hp).mono fun z hz=>by simp[hz],h.no⟩
 ·rcases List.mem_append.1 hx with hx | hx
  ·exact h.reach x hx
  ·simp only[List.mem_singleton] at hx;subst hx;exact hy
 ·simp only[List.mem_append,List.mem_singleton,h.part x,or_assoc]
 ·rw[List.nodup_append]
  refine⟨h.nd,by simp,fun a ha b hb q=>?_⟩
  simp only[List.mem_singleton] at hb
  subst q;subst hb;exact hn ha
 ·simp[h.st]
 ·have:=h.len
  simp only[List.length_append,List.length_singleton];omega
theorem GI.pop{T':List Sp}{x:Sp}(h:GI n o L c opn Pr (fun _ _=>True) S (T'++[x])):GI n o L c opn (Pr++[x]) (fun y e=>y≠x∨e∈(n.states.getD x.1 default).edges.take 0) S T':=by
 refine⟨h.reach,fun y=>?_,h.nd,h.st,?_,fun y hy e he hp=>?_,fun q y hy e he hp=>?_⟩
 ·rw[h.part y]
  simp only[List.mem_append,List.mem_singleton,or_assoc]
  constructor
  ·rintro(a | a | a)
   ·exact .inl a
   ·exact .inr (.inr a)
   ·exact .inr (.inl a)
  ·rintro(a | a | a)
   ·exact .inl a
   ·exact .inr (.inr a)
   ·exact .inr (.inl a)
 ·have:=h.len
  simp only[List.length_append,List.length_singleton] at this;omega
 ·simp only[List.take_zero,List.not_mem_nil,or_false] at hp
  rcases List.mem_append.1 hy with hy | hy
  ·exact h.cl y hy e he trivial
  ·exact absurd (by simpa using hy) hp
 ·simp only[List.take_zero,List.not_mem_nil,or_false] at hp
  rcases List.mem_append.1 hy with hy | hy
  ·exact h.no q y hy e he trivial
  ·exact absurd (by simpa using hy) hp
theorem GI.edge{x:Sp}{k:Nat}(hk:k<(n.states.getD x.1 default).edges.length)(h:GI n o L c opn Pr (fun y e=>y≠x∨e∈(n.states.getD x.1 default).edges.take k) S T)
  (h1:ClosE n o L c S x ((n.states.getD x.1 default).edges.getD k default)) (h2:opn=true→((n.states.getD x.1 default).edges.getD k default).op.1=2→¬ Op1 n o L ⟨((n.states.getD x.1 default).edges.getD k default).n.toNat,((n.states.getD x.1 default).edges.getD k default).level,x.2⟩) :
  GI n o L c opn Pr (fun y e=>y≠x∨e∈(n.states.getD x.1 default).edges.take (k+1)) S T:=by
 have hd:(n.states.getD x.1 default).edges.getD k default=(n.states.getD x.1 default).edges[k]:=by rw[List.getD_eq_getElem?_getD,List.getElem?_eq_getElem hk];rfl
 have ht:∀ e,e∈(n.states.getD x.1 default).edges.take (k+1)→e∈(n.states.getD x.1 default).edges.take k∨e=(n.states.getD x.1 default).edges.getD k default:=fun e he=>by
  rw[List.take_add_one,List.getElem?_eq_getElem hk] at he
  rcases List.mem_append.1 he with q | q
  ·exact .inl q
  ·simp at q;rw[hd];exact .inr q
 refine⟨h.reach,h.part,h.nd,h.st,h.len,fun y hy e he hp=>?_,fun q y hy e he hp hq=>?_⟩
 ·rcases hp with hp | hp
  ·exact h.cl y hy e he (.inl hp)
  ·by_cases hyx:y=x
   ·subst hyx
    rcases ht e hp with a | a
    ·exact h.cl y hy e he (.inr a)
    ·subst a;exact h1
   ·exact h.cl y hy e he (.inl hyx)
 ·rcases hp with hp | hp
  ·exact h.no q y hy e he (.inl hp) hq
  ·by_cases hyx:y=x
   ·subst hyx
    rcases ht e hp with a | a
    ·exact h.no q y hy e he (.inr a) hq
    ·subst a;exact h2 q hq
   ·exact h.no q y hy e he (.inl hyx) hq
theorem GI.last{x:Sp}(h:GI n o L c opn Pr (fun y e=>y≠x∨e∈(n.states.getD x.1 default).edges.take (n.states.getD x.1 default).edges.length) S T):GI n o L c opn Pr (fun _ _=>True) S T:=by
 have key:∀ (y:Sp) (e:Ed),e∈(n.states.getD y.1 default).edges→y≠x∨e∈(n.states.getD x.1 default).edges.take (n.states.getD x.1 default).edges.length:=fun y e he=>by
  by_cases q:y=x
  ·subst q;rw[List.take_length];exact .inr he
  ·exact .inl q
 exact⟨h.reach,h.part,h.nd,h.st,h.len,fun y hy e he _=>h.cl y hy e he (key y e he),fun q y hy e he _ hq=>h.no q y hy e he (key y e he) hq⟩
theorem GI.all(h:GI n o L c opn Pr (fun _ _=>True) S []){s p:Nat}(r:Rs n o L c s p):(s,p)∈Pr:=by
 have sp:∀ x,x∈S↔x∈Pr:=fun x=>by rw[h.part x];simp
 have key:∀ (c':Cl) (s p:Nat),Rs n o L c' s p→c'=c→(s,p)∈S:=by
  intro c' s p r
  induction r with
  | start=>intro e;subst e;exact h.st
  | @edge c' s p e _ h2 h3 ih =>
   intro q;subst q
   exact(h.cl _ ((sp _).1 (ih rfl)) e h2 trivial).1 h3
  | @call c' s p k e _ h2 h3 h4 ih _ =>
   intro q;subst q
   exact(h.cl _ ((sp _).1 (ih rfl)) e h2 trivial).2 h3 k h4
 exact(sp _).1 (key c s p r rfl)
end
theorem nodup_lt{M:Nat}:∀ {l:List Nat},l.Nodup→(∀ x∈l,x<M)→l.length≤M:=by
 induction M with
 | zero =>
  intro l _ h
  cases l with
  | nil=>simp
  | cons x l=>exact absurd (h x (by simp)) (Nat.not_lt_zero _)
 | succ M ih =>
  intro l nd h
  have h1:=ih (nd.erase M) (fun x hx=>by
   have h2:=h x (List.mem_of_mem_erase hx)
   have h3:x≠M:=fun q=>by subst q;exact(nd.not_mem_erase) hx
   omega)
  have h2:l.length≤(l.erase M).length+1:=by
   by_cases q:M∈l
   ·rw[List.length_erase_of_mem q];omega
   ·rw[List.erase_of_not_mem q];omega
  omega
theorem spots_le{S:List Sp}{N K:Nat}(nd:S.Nodup)(h:∀ x∈S,x.1<N∧x.2<K):S.length≤N * K:=by
 have inj:∀ x∈S,∀ y∈S,x.1 * K+x.2=y.1 * K+y.2→x=y:=fun x hx y hy e=>by
  obtain⟨a1,a2⟩:=h x hx
  obtain⟨b1,b2⟩:=h y hy
  have hK:0<K:=by omega
  have e1:x.1=y.1:=by
   have l1:(x.1 * K+x.2) / K=x.1:=by rw[Nat.mul_comm,Nat.mul_add_div hK,Nat.div_eq_of_lt a2,Nat.add_zero]
   have l2:(y.1 * K+y.2) / K=y.1:=by rw[Nat.mul_comm,Nat.mul_add_div hK,Nat.div_eq_of_lt b2,Nat.add_zero]
   rw[← l1,← l2,e]
  have e2:x.2=y.2:=by rw[e1] at e;omega
  exact Prod.ext e1 e2
 have nd2:(S.map fun x=>x.1 * K+x.2).Nodup:=by
  rw[List.nodup_iff_pairwise_ne,List.pairwise_map]
  rw[List.nodup_iff_pairwise_ne] at nd
  refine nd.imp_of_mem ?_
  intro a b ha hb hab q
  exact hab (inj a ha b hb q)
 have:=nodup_lt (M:=N * K) nd2 (fun y hy=>by
  obtain⟨x,hx,rfl⟩:=List.mem_map.1 hy
  obtain⟨a1,a2⟩:=h x hx
  calc x.1 * K+x.2<x.1 * K+K:=by omega
   _=(x.1+1) * K:=by rw[Nat.add_mul,Nat.one_mul]
   _≤N * K:=Nat.mul_le_mul_right _ a1)
 simpa using this
def WOk (n:Nt)(o:List Orc)(L:List It)(W:Wm):Prop:=∀ c v,lookM W c=some v→v=whW n o L c
def OOk (n:Nt)(o:List Orc)(L:List It)(O:Om):Prop:=∀ c v,lookM O c=some v→v=opB n o L c
theorem lookM_put{K V:Type}[DecidableEq K](M:List (K × V))(k:K)(v:V)(j:K):lookM (putM M k v) j=if j=k then some v else lookM M j:=by
 induction M with
 | nil =>
  by_cases h:j=k <;> simp[putM,lookM,h]
 | cons p M ih =>
  unfold putM
  by_cases h:k=p.1
  ·rw[if_pos h]
   by_cases q:j=k
   ·subst q;simp[lookM]
   ·rw[if_neg q]
    have q':j≠p.1:=fun e=>q (by rw[e,h])
    simp[lookM,q,q']
  ·rw[if_neg h]
   by_cases q:j=p.1
   ·have:j≠k:=fun e=>h (by rw[← e,q])
    rw[if_neg this]
    simp[lookM,q]
   ·have e1:lookM (p :: putM M k v) j=lookM (putM M k v) j:=by simp[lookM,q]
    have e2:lookM (p :: M) j=lookM M j:=by simp[lookM,q]
    rw[e1,e2,ih]
theorem WOk.nil{n:Nt}{o:List Orc}{L:List It}:WOk n o L []:=fun c v h=>by cases h
theorem OOk.nil{n:Nt}{o:List Orc}{L:List It}:OOk n o L []:=fun c v h=>by cases h
theorem WOk.put{n:Nt}{o:List Orc}{L:List It}{W:Wm}(h:WOk n o L W)(c:Cl):WOk n o L (putM W c (whW n o L c)):=fun d v e=>by
 rw[lookM_put] at e
 split at e
 ·rename_i q;cases e;rw[q]
 ·exact h d v e
theorem OOk.put{n:Nt}{o:List Orc}{L:List It}{O:Om}(h:OOk n o L O)(c:Cl):OOk n o L (putM O c (opB n o L c)):=fun d v e=>by
 rw[lookM_put] at e
 split at e
 ·rename_i q;cases e;rw[q]
 ·exact h d v e
def AskCall(n:Nt)(o:List Orc)(L:List It)(f:Nat)(c:Cl)(v:AV):Prop :=
 ∀ W O,WOk n o L W→OOk n o L O→SCall Tryz.prog f [.ptr 0 0,kCl c] (hA n o L W O) fun r h'=>r=v∧∃ W' O',WOk n o L W'∧OOk n o L O'∧h'=hA n o L W' O'
theorem ask_at{n:Nt}{o:List Orc}{L:List It}{f:Nat}{c:Cl}{v:AV}(h:AskCall n o L f c v)(hv:Ab.Pure v)(H:Hp)(ai wi oi:Nat)(W:Wm)(O:Om)(hW:WOk n o L W)(hO:OOk n o L O)(h0:lk H.boxes ai=some (askC n o L wi oi))(h1:lk H.toks wi=some (tokW W))(h2:lk H.toks oi=some (tokO O))
  (d1:ai≠wi) (d2:ai≠oi) (d3:wi≠oi) (l0:ai<H.nx) (l1:wi<H.nx) (l2:oi<H.nx) (hno:lk H.toks ai=none) :
  SCall Tryz.prog f [.ptr ai 0,kCl c] H fun r h'=>r=v∧∃ W' O',WOk n o L W'∧OOk n o L O'∧h'=⟨H.boxes,up (up H.toks wi (tokW W')) oi (tokO O'),H.nx⟩:=by
 let ρ:Nat→Nat:=fun i=>if i=0 then ai else if i=1 then wi else oi
 have r0:ρ 0=ai:=rfl
 have r1:ρ 1=wi:=rfl
 have r2:ρ 2=oi:=rfl
 have cases3:∀ i,i<3→i=0∨i=1∨i=2:=fun i hi=>by omega
 have hinj:∀ i j,i<3→j<3→ρ i=ρ j→i=j:=fun i j hi hj e=>by
  rcases cases3 i hi with rfl | rfl | rfl <;> rcases cases3 j hj with rfl | rfl | rfl <;> simp only[r0,r1,r2] at e <;> first | rfl | exact absurd e (by assumption) | exact absurd e.symm (by assumption)
 have rnA:∀ {N:Nat} {σ:Nat→Nat},2<N→σ 1=wi→σ 2=oi→RnL σ N (askC n o L 1 2) (askC n o L wi oi):=fun {N σ} hN s1 s2=>by
  have p:∀ {a},Ab.Pure a→Rn σ N a a:=fun h=>.pure h
  unfold askC encN
  simp only[List.cons_append,List.nil_append]
  exact .cons (p (.vec (pure_rows pure_encB _))) (.cons (p (.vec (pure_rows pure_encB _))) (.cons (p (.vec (pure_rows pure_encB _))) (.cons (p (.vec (pure_rows pure_encNr _))) (.cons (p (.vec (pure_rows pure_encSt _))) (.cons (p (.vec (pure_rows pure_encO _))) (.cons (p (.vec (pure_rows pure_encI _))) (.cons (.om (by omega) s1) (.cons (.om (by omega) s2) .nil))))))))
 have ii:∀ i,i<3→ren ρ 3 H.nx i=ρ i:=fun i h=>by simp[ren,h]
 refine SCall.sub (hs:=hA n o L W O) ρ hinj (fun i hi=>?_) (.cons (.ptr (by show 0<3;decide) rfl) (.cons (.pure (pure_kCl c)) .nil)) (allc ⟨by show 0<3;decide,_,h0,rnA (by show 2<3;decide) rfl rfl⟩ alln)
  (allc ⟨by show 1<3;decide,_,h1,rfl,rfl,.pure (pure_rowsW W)⟩ (allc ⟨by show 2<3;decide,_,h2,rfl,rfl,.pure (pure_rowsO O)⟩ alln)) (h W O hW hO) ?_
 ·rcases cases3 i hi with rfl | rfl | rfl
  ·exact l0
  ·exact l1
  ·exact l2
 ·rintro r h' ⟨rfl,W',O',hW',hO',rfl⟩ _
  refine⟨r,⟨H.boxes,up (up H.toks wi (tokW W')) oi (tokO O'),H.nx⟩,0,Nat.le_refl _,rfl,.pure hv,fun i cs' e=>?_,fun i k' e=>?_,rfl,W',O',hW',hO',rfl⟩
  ·by_cases q:i=ai
   ·subst q
    have e:lk H.boxes i=some cs':=e
    rw[h0] at e;cases e
    exact .inl ⟨0,_,by show 0<3;decide,rfl,rfl,rnA (by show 2<3;decide) rfl rfl⟩
   ·refine .inr ⟨e,fun j cj ej=>?_⟩
    have:j=0:=by
     simp only[hA,lk] at ej
     split at ej
     ·omega
     ·cases ej
    subst this
    exact fun q'=>q q'.symm
  ·have e:lk (up (up H.toks wi (tokW W')) oi (tokO O')) i=some k':=e
   rw[lk_up] at e
   by_cases q2:oi=i
   ·rw[if_pos q2,lk_up,if_neg d3,h2] at e
    simp only[Option.map_some,Option.some.injEq] at e
    exact .inl ⟨2,tokO O',by show 2<3;decide,q2,rfl,by rw[← e],by rw[← e],by rw[← e];exact .pure (pure_rowsO O')⟩
   ·rw[if_neg q2,lk_up] at e
    by_cases q1:wi=i
    ·rw[if_pos q1,h1] at e
     simp only[Option.map_some,Option.some.injEq] at e
     exact .inl ⟨1,tokW W',by show 1<3;decide,q1,rfl,by rw[← e],by rw[← e],by rw[← e];exact .pure (pure_rowsW W')⟩
    ·rw[if_neg q1] at e
     refine .inr ⟨e,fun j hj=>?_⟩
     rcases cases3 j hj with rfl | rfl | rfl
     ·intro q;rw[r0] at q;rw[q,e] at hno;cases hno
     ·exact q1
     ·exact q2
end Go.Proofs.YtbbnfbnicacdoaaGreat
end
section
namespace Go.Proofs.YtbbnfbnicacdoaaGreat
open Go Go.Ab
open Go.Proofs.Tryz renaming prog→Pg
set_option maxRecDepth 20000
set_option maxHeartbeats 16000000
theorem aw_block'{c:Code}{Q:Exit→St→Prop}{σ:St}{id:Nat}(h:Aw Pg c (blockK id Q) σ):Aw Pg (.block id c) Q σ:=fun g0 h0 w0 g w a r=>wp_block (wp_mono (h g0 h0 w0 g w a r) fun e a' w' hh=>by
 obtain⟨σ',g',k1,k2⟩:=hh
 cases e with
 | exit i =>
  simp only[blockK] at k1
  simp only[Exit.inBlock]
  split
  ·rename_i hi;rw[if_pos hi] at k1;exact⟨σ',g',k1,k2⟩
  ·rename_i hi;rw[if_neg hi] at k1;exact⟨σ',g',k1,k2⟩
 | _=>exact⟨σ',g',k1,k2⟩)
theorem aw_seq_cut{x y:Code}{Q:Exit→St→Prop}{σ:St}(I:St→Prop)(h1:Aw Pg x (seqK (fun σ1=>∃ σ2,St.wk σ1 σ2∧I σ2) Q) σ)(h2:∀ σ2,I σ2→Aw Pg y Q σ2):Aw Pg (.seq x y) Q σ:=by
 refine aw_seq ?_
 intro g0 h0 w0 g w a r
 refine wp_mono (h1 g0 h0 w0 g w a r) fun e a' w' hh=>?_
 obtain⟨σ',g',k1,k2⟩:=hh
 cases e with
 | normal =>
  obtain⟨σ2,q1,q2⟩:=k1
  exact⟨σ',g',aw_wk q1 (h2 σ2 q2),k2⟩
 | _=>exact⟨σ',g',k1,k2⟩
theorem aw_measA{σ:St}{c:Code}{Q:Exit→St→Prop}{A:Type}(S:A→St)(Inv:A→Prop)(μ:A→Nat)(a0:A)(hw:St.wk σ (S a0))(h0:Inv a0)
  (round:∀ x,Inv x→Aw Pg c (seqK (fun σ1=>∃ x',Inv x'∧μ x'<μ x∧St.wk σ1 (S x')) Q) (S x)):Aw Pg (.loop c) Q σ:=by
 intro g0 h0' w0 g w a r
 refine wp_loop_ghost (fun m a w=>∃ x g,m=μ x∧Inv x∧FRel g0 h0' w0 (S x) g w a) (μ a0) (let ⟨g',r'⟩:=hw g0 h0' w0 g w a r;⟨a0,g',rfl,h0,r'⟩) (fun m a w ⟨x,g,hm,hI,k2⟩=>?_)
 refine wp_mono (round x hI g0 h0' w0 g w a k2) fun e a' w' hh=>?_
 obtain⟨σ1,g1,q1,q2⟩:=hh
 cases e with
 | normal =>
  obtain⟨x',l1,l0,l2⟩:=q1
  obtain⟨g2,q3⟩:=l2 g0 h0' w0 g1 w' a' q2
  exact⟨μ x',by omega,x',g2,rfl,l1,q3⟩
 | _=>exact⟨σ1,g1,q1,q2⟩
theorem trW_val{Ψ Φ:Hp→Prop}{f i d:Nat}{o:Oper}{rest:List Oper}{K:St→Prop}{σ:St}(v:AV)(hd:o.dst=some d)(hdn:d<σ.nt)(hne:i≠f)(hv:∀ c,Ψ c→qwo Pg o (fun σ'=>lk σ'.slots d=some v) {σ with hp:=c})(hk:trW Pg Ψ Φ f (i+1) rest K (σ.put (some d) v)):trW Pg Ψ Φ f i (o :: rest) K σ:=by
 refine⟨v,?_,by rw[hd];exact hk⟩
 rw[if_neg hne]
 intro c hc
 obtain⟨v',k1,k2⟩:=qwo_val (hv c hc)
 rw[hd] at k2
 simp only[St.put,if_pos hdn,lk,if_true,Option.some.injEq] at k2
 have k2:v'=v:=k2
 subst k2;exact k1
theorem trW_call{Ψ Φ:Hp→Prop}{f d:Nat}{o:Oper}{rest:List Oper}{K:St→Prop}{σ:St}(v:AV)(hd:o.dst=some d)(hv:effW Pg σ o v Φ)(hk:trW Pg Ψ Φ f (f+1) rest K (σ.put (some d) v)):trW Pg Ψ Φ f f (o :: rest) K σ :=
 ⟨v,by rw[if_pos rfl];exact hv,by rw[hd];exact hk⟩
theorem lk_pre{α:Type}{l x:List (Nat × α)}{i:Nat}{c:α}(e:lk l i=some c):lk (l++x) i=some c:=by rw[lk_app,e];rfl
theorem mem_plcs{w n k:Nat}:k∈plcs w n↔k<n∧w.testBit k=true:=by unfold plcs;simp
def HWk (n:Nt)(o:List Orc)(L:List It)(kc ac:List AV)(W:Wm)(O:Om):Hp:=⟨[(0,askC n o L 1 2),(3,kc),(4,ac)],[(1,tokW W),(2,tokO O)],5⟩
def wkB (n:Nt)(o:List Orc)(L:List It)(kc ac:List AV)(c:Cl)(t:Option Nat)(T:List Sp)(x:List AV):List (Nat × List AV):=[(0,askC n o L 1 2),(3,kc),(4,ac),(5,encCl c),(7,[.om 6]),(8,[todoV t T]),(9,x)]
def wkT (W:Wm)(O:Om)(S:List Sp)(t:Option Nat)(T:List Sp):List (Nat × Tk):=(1,tokW W) :: (2,tokO O) :: (6,tokS S) :: todoT t T
def wkS (opn:Bool)(fE:Nat)(cap:List AV):List (Nat × AV):=[(0,.ptr 0 0),(2,.lit (.bool opn)),(3,.fn (.func fE) [] cap),(5,.ptr 5 0),(8,.ptr 7 0),(9,.ptr 8 0),(10,.ptr 9 0),(11,.fn (.func 70) [] [.ptr 7 0,.ptr 8 0])]
theorem lk_lt{α:Type}{l:List (Nat × α)}{N i:Nat}(h:∀ p∈l,p.1<N)(hi:N≤i):lk l i=none:=by
 cases e:lk l i with
 | none=>rfl
 | some v=>have:=h _ (lk_mem e);simp only at this;omega
theorem wkT_no{W:Wm}{O:Om}{S T:List Sp}{t:Option Nat}{N:Nat}(h10:10≤N)(h:∀ u,t=some u→u<N){i:Nat}(hi:N≤i):lk (wkT W O S t T) i=none:=by
 unfold wkT
 simp only[lk]
 rw[if_neg (by omega),if_neg (by omega),if_neg (by omega)]
 cases t with
 | none=>rfl
 | some u=>have:=h u rfl;simp only[todoT,lk];rw[if_neg (by omega)]
theorem wkT_0{W:Wm}{O:Om}{S T:List Sp}{t:Option Nat}(h:∀ u,t=some u→10≤u):lk (wkT W O S t T) 0=none:=by
 unfold wkT
 simp only[lk]
 rw[if_neg (by omega),if_neg (by omega),if_neg (by omega)]
 cases t with
 | none=>rfl
 | some u=>have:=h u rfl;simp only[todoT,lk];rw[if_neg (by omega)]
theorem walk_spec{α:Type}(n:Nt)(o:List Orc)(L:List It)(w:Wf n)(okn:NtOk n)(ho:o.length≤1000000000)(hL:L.length≤25)(c:Cl)(hr:c.rule<n.rules.length)(hp:c.pos≤L.length)
  (opn:Bool) (fE:Nat) (cE:Callable Pg fE) (cap kc:List AV) (encA:α→List AV) (step:α→Sp→α) (ret:α→Bool) (AccI:α→List Sp→Prop) (Fin:α→Prop)
  (hkc:RnL id 5 kc kc) (hpa:∀ a,∀ v∈encA a,Ab.Pure v)
  (hend:∀ (H:Hp) a x Pr,AccI a Pr→x.2≤L.length→lk H.boxes 0=some (askC n o L 1 2)→lk H.boxes 3=some kc→lk H.boxes 4=some (encA a)→(∀ i,H.nx≤i→lk H.boxes i=none)→(∀ i,H.nx≤i→lk H.toks i=none) →
   SCall Pg fE (.agg (encSp x) :: cap) H fun r h'=>r = .lit (.bool (ret (step a x)))∧∃ m,H.nx≤m∧h'=⟨up H.boxes 4 (encA (step a x)),H.toks,m⟩)
  (a1:∀ a Pr x,AccI a Pr→Rs n o L c x.1 x.2→ret (step a x)=false→AccI (step a x) (Pr++[x]))
  (a2:∀ a Pr x,AccI a Pr→Rs n o L c x.1 x.2→ret (step a x)=true→Fin (step a x))
  (a3:opn=true→∀ a Pr s p e,AccI a Pr→Rs n o L c s p→e∈(n.states.getD s default).edges→e.op.1=2→Op1 n o L ⟨e.n.toNat,e.level,p⟩→Fin (step a (s,L.length)))
  (a4:∀ a Pr,AccI a Pr→(∀ s p,Rs n o L c s p→(s,p)∈Pr)→(opn=true→∀ s p e,Rs n o L c s p→e∈(n.states.getD s default).edges→e.op.1=2→¬ Op1 n o L ⟨e.n.toNat,e.level,p⟩)→Fin a)
  (hW:∀ s p e,Rs n o L c s p→e∈(n.states.getD s default).edges→e.op.1=2→AskCall n o L 27 ⟨e.n.toNat,e.level,p⟩ (maskV (whW n o L ⟨e.n.toNat,e.level,p⟩)))
  (hO:opn=true→∀ s p e,Rs n o L c s p→e∈(n.states.getD s default).edges→e.op.1=2→AskCall n o L 57 ⟨e.n.toNat,e.level,p⟩ (.lit (.bool (opB n o L ⟨e.n.toNat,e.level,p⟩))))
  (x0:α) (hx0:AccI x0 []) (W0:Wm) (O0:Om) (hW0:WOk n o L W0) (hO0:OOk n o L O0) :
  SCall Pg 49 [.ptr 0 0,kCl c,.lit (.bool opn),.fn (.func fE) [] cap] (HWk n o L kc (encA x0) W0 O0) fun r h'=>r = .tup []∧∃ a W O,WOk n o L W∧OOk n o L O∧Fin a∧h'=HWk n o L kc (encA a) W O:=by
 obtain⟨R,hR⟩:∃ R:Hp→Prop,(fun h'=>∃ a W O,WOk n o L W∧OOk n o L O∧Fin a∧h'=HWk n o L kc (encA a) W O)=R:=⟨_,rfl⟩
 have hRi:∀ a W O,WOk n o L W→OOk n o L O→Fin a→R (HWk n o L kc (encA a) W O):=fun a W O h1 h2 h3=>by rw[← hR];exact⟨a,W,O,h1,h2,h3,rfl⟩
 refine SCall.mono (Q:=fun r h'=>r = .tup []∧R h') ?_ (fun r h' q=>⟨q.1,by have:=q.2;rw[← hR] at this;exact this⟩)
 refine SCall_introC Tryz.func49 rfl Tryz.ntmps49 (rs:=[]) rfl (by simp) (N:=5) rfl ?_
 have hst:=w.nst
 have hru:=w.nru
 have hsr:=w.start hr
 obtain⟨r,hrr⟩:∃ r,n.rules.getD c.rule default=r:=⟨_,rfl⟩
 rw[hrr] at hsr
 obtain⟨st,hst2⟩:∃ st:Nat,r.start=(st:Int):=⟨r.start.toNat,by omega⟩
 rw[hst2] at hsr
 have hsN:stN n c.rule=st:=by unfold stN;rw[hrr,hst2];rfl
 simp -implicitDefEqProofs (disch:=omega) only[Wz,seval,HWk,kCl,encCl]
 obtain⟨M,hM⟩:∃ M,n.states.length * (L.length+1)=M:=⟨_,rfl⟩
 have hMb:M≤4000 * 26:=by rw[← hM];exact Nat.mul_le_mul hst (by omega)
 have hrx:∀ {x:Sp},Rs n o L c x.1 x.2→x.1<n.states.length∧x.2≤L.length:=fun h=>by
  obtain⟨_,h2,h3⟩:=Rs.le w h hr hp
  exact⟨h3,h2⟩
 have hSM:∀ {Pr P S T},GI n o L c opn Pr P S T→S.length≤M:=fun h=>by
  rw[← hM]
  exact spots_le h.nd (fun x hx=>by obtain⟨h1,h2⟩:=hrx (h.reach x hx);exact⟨h1,by omega⟩)
 obtain⟨J,hJ⟩:∃ J:Nat→St→Prop,(fun m σ=>∃ (S T Pr:List Sp) (t:Option Nat) (nx:Nat) (a:α) (W:Wm) (O:Om) (x:List AV),GI n o L c opn Pr (fun _ _=>True) S T∧AccI a Pr∧WOk n o L W∧OOk n o L O∧(t=none→T=[])∧(∀ u,t=some u→10≤u∧u<nx)∧10≤nx∧x.length=2∧m=2 * (M - S.length)+T.length ∧
  σ=⟨wkS opn fE cap,⟨wkB n o L kc (encA a) c t T x,wkT W O S t T,nx⟩,134⟩)=J:=⟨_,rfl⟩
 have hJe:∀ m σ,J m σ→∃ (S T Pr:List Sp) (t:Option Nat) (nx:Nat) (a:α) (W:Wm) (O:Om) (x:List AV),GI n o L c opn Pr (fun _ _=>True) S T∧AccI a Pr∧WOk n o L W∧OOk n o L O∧(t=none→T=[])∧(∀ u,t=some u→10≤u∧u<nx)∧10≤nx∧x.length=2∧m=2 * (M - S.length)+T.length ∧
  σ=⟨wkS opn fE cap,⟨wkB n o L kc (encA a) c t T x,wkT W O S t T,nx⟩,134⟩:=fun m σ h=>by rw[← hJ] at h;exact h
 have hJi:∀ {S T Pr:List Sp} {t:Option Nat} {nx:Nat} {a:α} {W:Wm} {O:Om} {x:List AV},GI n o L c opn Pr (fun _ _=>True) S T→AccI a Pr→WOk n o L W→OOk n o L O→(t=none→T=[])→(∀ u,t=some u→10≤u∧u<nx)→10≤nx→x.length=2→J (2 * (M - S.length)+T.length) ⟨wkS opn fE cap,⟨wkB n o L kc (encA a) c t T x,wkT W O S t T,nx⟩,134⟩:=fun h1 h2 h3 h4 h5 h6 h7 h8=>by
  rw[← hJ];exact⟨_,_,_,_,_,_,_,_,_,h1,h2,h3,h4,h5,h6,h7,h8,rfl,rfl⟩
 clear hJ
 have finR:∀ (σ':St) a' W' O',Fin a'→WOk n o L W'→OOk n o L O'→lk σ'.hp.boxes 0=some (askC n o L 1 2)→lk σ'.hp.boxes 3=some kc→lk σ'.hp.boxes 4=some (encA a')→lk σ'.hp.toks 1=some (tokW W')→lk σ'.hp.toks 2=some (tokO O')→5≤σ'.hp.nx→σ'.nt=134→∃ σ'',St.cp 5 σ' σ''∧R σ''.hp:=fun σ' a' W' O' f1 f2 f3 b0 b3 b4 t1 t2 hnx hnt=>by
  refine⟨⟨[],HWk n o L kc (encA a') W' O',134⟩,cp_drop' (Nat.le_refl _) hnx hnt.symm alln (allc ⟨by show 0<5;decide,b0,rn_askC n o L (show 2<5 by decide)⟩ (allc ⟨by show 3<5;decide,b3,hkc⟩ (allc ⟨by show 4<5;decide,b4,RnL.pure (hpa a')⟩ alln))) (allc ⟨by show 1<5;decide,t1,.pure (pure_rowsW W')⟩ (allc ⟨by show 2<5;decide,t2,.pure (pure_rowsO O')⟩ alln)),hRi a' W' O' f2 f3 f1⟩
 refine aw_scope_cut 0 rfl rfl J (2 * (M - 1)+1) ?_ ?_
 ·simp -implicitDefEqProofs (disch:=omega) only[Wz,seval]
  refine aw_drawQ (n:=134) 13 (.alt 13 .leaf .nil) rfl (by decide) (by decide) mixed (by kernel_rfl) (by decide) ?_
  simp -implicitDefEqProofs (disch:=omega) only[Wz,seval,askC,encN,encNr,List.append_eq,List.cons_append,List.nil_append,hrr,hst2]
  refine CallK_of call70 (put_spec (st,c.pos) [] [] none _ [(1,tokW W0),(2,tokO O0),(6,tokS [])] 7 8 6 rfl rfl rfl (by decide) rfl (fun i hi=>lk_lt (N:=10) (by simp) hi) (fun u h=>(nomatch h)) (fun _=>rfl) (fun i hi=>lk_lt (N:=10) (by simp) hi) (Nat.zero_le _)) ?_
  rintro r0 h' ⟨rfl,(⟨hx,rfl⟩ | ⟨hx,u,m,hu1,hu2,hu3,rfl⟩)⟩
  ·cases hx
  have hu4:10≤u:=by
   rcases hu3 with q | ⟨_,q⟩
   ·cases q
   ·exact q
  have hu2:10≤m:=hu2
  have hg:=GI.init (n:=n) (o:=o) (L:=L) (c:=c) (opn:=opn)
  rw[hsN] at hg
  have:=hJi (t:=some u) (nx:=m) (a:=x0) (x:=[.lit (.int .i64 0),.lit (.int .i64 0)]) hg hx0 hW0 hO0 (fun q=>by cases q) (fun v q=>by cases q;omega) hu2 rfl
  simp -implicitDefEqProofs (disch:=omega) only[Wz,seval,List.nil_append]
  refine⟨_,?_,this⟩
  exact wk_lk (by simp[wkS,lk]) (fun _ _ e=>e) (fun _ _ e=>e) rfl rfl
 ·intro μ σ hσ
  obtain⟨S,T,Pr,t,nx,a,W,O,x,hG,hA,hWo,hOo,ht0,ht1,hnx,hx2,hμ,rfl⟩:=hJe μ σ hσ
  clear hJe hσ
  have hSl:=hSM hG
  have hTl:=hG.len
  have hN10:∀ i,nx≤i→lk (wkT W O S t T) i=none:=fun i hi=>by
   unfold wkT
   simp only[lk]
   rw[if_neg (by omega),if_neg (by omega),if_neg (by omega)]
   cases t with
   | none=>rfl
   | some u=>have:=ht1 u rfl;simp only[todoT,lk];rw[if_neg (by omega)]
  rcases snoc_cases T with rfl | ⟨T',y,rfl⟩
  ·
   have hFin:Fin a:=a4 a Pr hA (fun s p hs=>hG.all hs) (fun q s p e hs he h2=>hG.no q _ (hG.all hs) e he trivial h2)
   cases t with
   | none =>
    simp -implicitDefEqProofs (disch:=omega) only[Wz,seval,wkS,wkB,todoV]
    exact finR _ a W O hFin hWo hOo rfl rfl rfl rfl rfl (by show 5≤nx;omega) rfl
   | some u =>
    simp -implicitDefEqProofs (disch:=omega) only[Wz,seval,wkS,wkB,todoV]
    exact finR _ a W O hFin hWo hOo rfl rfl rfl rfl rfl (by show 5≤nx;omega) rfl
  ·obtain⟨u,rfl⟩:∃ u,t=some u:=by
    cases t with
    | none=>have:=ht0 rfl;simp at this
    | some u=>exact⟨u,rfl⟩
   obtain⟨hu1,hu2⟩:=ht1 u rfl
   have hyr:=hG.reach y ((hG.part y).2 (.inr (by simp)))
   obtain⟨hy1,hy2⟩:=hrx hyr
   obtain⟨ys,yp⟩:=y
   simp only at hyr hy1 hy2
   have n1u:(1=u)=False:=by simp;omega
   have n2u:(2=u)=False:=by simp;omega
   have n6u:(6=u)=False:=by simp;omega
   simp only[List.length_append,List.length_singleton] at hTl hμ
   have g1:(T'.map encSp++[[AV.lit (.int .i64 (ys:Int)),AV.lit (.int .i64 (yp:Int))]])[T'.length]? = some [AV.lit (.int .i64 (ys:Int)),AV.lit (.int .i64 (yp:Int))]:=by rw[List.getElem?_append_right (by simp)];simp
   have i1:(((T'.length+1:Nat):Int) - 1).toNat=T'.length:=by omega
   have hdx:List.drop 2 x=[]:=List.drop_eq_nil_of_le (by omega)
   have tk1:(T'.map encSp++[[AV.lit (.int .i64 (ys:Int)),AV.lit (.int .i64 (yp:Int))]]).take T'.length=T'.map encSp:=by rw[List.take_append_of_le_length (by simp),List.take_of_length_le (by simp)]
   simp -implicitDefEqProofs (disch:=omega) only[Wz,seval,wkS,wkB,wkT,todoV,todoT,n1u,n2u,n6u,List.length_append,List.length_singleton,List.map_append,encSp,g1,i1,hx2,hdx]
   refine stepK_cut (k:=⟨T'.map encSp++[[AV.lit (.int .i64 (ys:Int)),AV.lit (.int .i64 (yp:Int))]],0,2⟩) rfl rfl ty141 rfl ty107 rfl (by simp[lk,n1u,n2u,n6u]) (by simp) (by omega) (by omega) (by simp) ?_
   simp -implicitDefEqProofs (disch:=omega) only[Wz,seval,Hp.cut,dl,n1u,n2u,n6u,i1,tk1,hdx,List.cons_append,List.nil_append]
   have fB:∀ i,nx+1≤i→lk [(0,askC n o L 1 2),(3,kc),(4,encA a),(5,encCl c),(7,[.om 6]),(8,[.own nx T'.length]),(9,[.lit (.int .i64 (ys:Int)),.lit (.int .i64 (yp:Int))])] i=none:=fun i hi=>lk_lt (N:=10) (by simp) (by omega)
   have fT:∀ i,nx+1≤i→lk [(1,tokW W),(2,tokO O),(6,tokS S),(nx,(⟨T'.map encSp,0,2⟩:Tk))] i=none:=fun i hi=>lk_lt (N:=nx+1) (by simp;omega) hi
   refine CallK_of cE (hend _ a (ys,yp) Pr hA hy2 rfl rfl rfl fB fT) ?_
   rintro r0 h' ⟨rfl,m,hm,rfl⟩
   have hm:nx+1≤m:=hm
   obtain⟨a',ha'⟩:∃ a',step a (ys,yp)=a':=⟨_,rfl⟩
   have q1:=a1 a Pr (ys,yp) hA hyr
   have q2:=a2 a Pr (ys,yp) hA hyr
   rw[ha'] at q1 q2 ⊢
   cases hret:ret a'
   rotate_left
   ·simp -implicitDefEqProofs (disch:=omega) only[Wz,seval]
    exact finR _ a' W O (q2 hret) hWo hOo rfl rfl rfl rfl rfl (by show 5≤m;omega) rfl
   ·have hA':=q1 hret
    clear q1 q2
    have hG0:=GI.pop hG
    obtain⟨es,hes⟩:∃ es,(n.states.getD ys default).edges=es:=⟨_,rfl⟩
    have hesl:es.length≤1000000000:=by rw[← hes];exact okn.edgesD ys
    obtain⟨s,hs⟩:∃ s,n.states.getD ys default=s:=⟨_,rfl⟩
    rw[hs] at hes
    simp only[hs,hes] at hG0
    simp -implicitDefEqProofs (disch:=omega) only[Wz,seval]
    refine aw_quietN (n:=134) rfl (by decide) mixed ?_
    simp -implicitDefEqProofs (disch:=omega) only[Wz,seval,askC,encN,encSt,List.append_eq,List.cons_append,List.nil_append,hs,hes]
    refine aw_measA (fun(x:Nat × List Sp × List Sp × Option Nat × Nat × Wm × Om)=>⟨(63,.lit (.int .i64 (x.1:Int))) :: (62,.lit (.int .i64 (es.length:Int))) :: (61,.vec (es.map encE) false) :: wkS opn fE cap,⟨wkB n o L kc (encA a') c x.2.2.2.1 x.2.2.1 (encSp (ys,yp)),wkT x.2.2.2.2.2.1 x.2.2.2.2.2.2 x.2.1 x.2.2.2.1 x.2.2.1,x.2.2.2.2.1⟩,134⟩)
     (fun x=>x.1≤es.length∧GI n o L c opn (Pr++[(ys,yp)]) (fun z e=>z≠(ys,yp)∨e∈es.take x.1) x.2.1 x.2.2.1∧WOk n o L x.2.2.2.2.2.1∧OOk n o L x.2.2.2.2.2.2∧(x.2.2.2.1=none→x.2.2.1=[])∧(∀ u,x.2.2.2.1=some u→10≤u∧u<x.2.2.2.2.1)∧10≤x.2.2.2.2.1∧2 * (M - x.2.1.length)+x.2.2.1.length≤2 * (M - S.length)+T'.length) (fun x=>es.length - x.1)
     (0,S,T',some nx,m,W,O) (wk_lk (by simp[wkS,lk]) (fun _ _ e=>e) (fun _ _ e=>e) rfl rfl) ⟨Nat.zero_le _,hG0,hWo,hOo,fun q=>(by cases q),fun v q=>(by cases q;exact⟨by omega,by show nx<m;omega⟩),by show 10≤m;omega,Nat.le_refl _⟩ ?_
    obtain⟨S0,hS0⟩:∃ S0,2 * (M - S.length)+T'.length=S0:=⟨_,rfl⟩
    have hS0μ:S0<μ:=by omega
    rw[hS0]
    clear hG hG0 hWo hOo ht0 ht1 hN10 fB fT hSl hTl hμ hS0 g1 tk1 i1 n1u n2u n6u hu1 hu2 hm hnx hx2 hdx
    rintro⟨k,S,T,t,nx,W,O⟩ ⟨hk,hG,hWo,hOo,ht0,ht1,hnx,hμ⟩
    simp only at hk hG hWo hOo ht0 ht1 hnx hμ ⊢
    have hSl:=hSM hG
    have hTl:=hG.len
    rcases Nat.lt_or_ge k es.length with hlk | hgk
    ·obtain⟨e,he⟩:∃ e,es.getD k default=e:=⟨_,rfl⟩
     have heM:e∈es:=by rw[← he];exact getD_mem hlk
     have hem:e∈(n.states.getD ys default).edges:=by rw[hs,hes];exact heM
     have heok:=(okn.edges _ (getD_mem hy1)).2 e hem
     have hto:=w.to hy1 hem
     obtain⟨to,hto2⟩:∃ to:Nat,e.to=(to:Int):=⟨e.to.toNat,by omega⟩
     have eE0:(encE e)[0]? = some (.lit (.int .i8 e.op.1)):=rfl
     have eE3:(encE e)[3]? = some (.lit (.int .i64 e.level)):=rfl
     have eE9:(encE e)[9]? = some (.lit (.int .i64 (to:Int))):=by rw[← hto2];rfl
     refine aw_seq ?_
     refine aw_of ?_
     simp -implicitDefEqProofs (disch:=omega) only[Wz,seval,wkS,wkB,encSp,encCl]
     refine aw_seq ?_
     refine aw_of ?_
     simp -implicitDefEqProofs (disch:=omega) only[Wz,seval]
     refine aw_seq ?_
     refine aw_block' ?_
     refine aw_seq ?_
     refine aw_of ?_
     simp -implicitDefEqProofs (disch:=omega) only[Wz,seval,he]
     refine aw_seq_cut (fun σ2=>∃ (S1 T1:List Sp) (t1:Option Nat) (n1:Nat),GI n o L c opn (Pr++[(ys,yp)]) (fun z e=>z≠(ys,yp)∨e∈es.take k) S1 T1∧((goV o L e c.level yp).2=true→(to,yp+(goV o L e c.level yp).1)∈S1)∧(t1=none→T1=[])∧(∀ u,t1=some u→10≤u∧u<n1)∧nx+1≤n1∧2 * (M - S1.length)+T1.length≤S0 ∧
      σ2=⟨(13,.ptr nx 0) :: (63,.lit (.int .i64 (k:Int))) :: (62,.lit (.int .i64 (es.length:Int))) :: (61,.vec (es.map encE) false) :: wkS opn fE cap,⟨wkB n o L kc (encA a') c t1 T1 (encSp (ys,yp))++[(nx,encE e)],wkT W O S1 t1 T1,n1⟩,134⟩) ?_ ?_
     ·refine aw_of ?_
      obtain⟨tk,okk,hgo⟩:∃ tk okk,goV o L e c.level yp=(tk,okk):=⟨_,_,rfl⟩
      have hgl:=goV_le (o:=o) (L:=L) (e:=e) (lv:=c.level) (p:=yp)
      have hyn:=hG.reach
      have hgs:=goes_spec n o L 1 2 0 e c.level yp ⟨[(0,askC n o L 1 2),(3,kc),(4,encA a'),(5,encCl c),(7,[.om 6]),(8,[todoV t T]),(9,[.lit (.int .i64 (ys:Int)),.lit (.int .i64 (yp:Int))]),(nx,encE e)],wkT W O S t T,nx+1⟩ heok ho (by omega) hy2 rfl (fun i hi=>lk_lt (N:=nx+1) (by simp;omega) hi)
      have hrt:okk=true→Rs n o L c to (yp+tk):=fun q=>by
       have:=Rs.edge hyr hem (by rw[hgo];exact q)
       rw[hgo,hto2] at this
       exact this
      rw[hgo] at hgl hgs ⊢
      simp only at hgl hgs ⊢
      have hcast:(yp:Int)+(tk:Int)=((yp+tk:Nat):Int):=by omega
      have htk:yp+tk≤L.length:=by omega
      simp -implicitDefEqProofs (disch:=omega) only[Wz,seval]
      refine CallK_of call71 hgs ?_
      rintro r h' ⟨rfl,m,hm,rfl⟩
      have hm:nx+1≤m:=hm
      cases okk with
      | false =>
       simp -implicitDefEqProofs (disch:=omega) only[Wz,seval]
       refine⟨_,?_,S,T,t,m,hG,fun q=>(by cases q),ht0,fun u q=>(by have:=ht1 u q;omega),hm,hμ,rfl⟩
       exact wk_lk (by simp[wkS,lk]) (fun _ _ e=>e) (fun _ _ e=>e) rfl rfl
      | true =>
       have hps:=put_spec (to,yp+tk) S T t ⟨[(0,askC n o L 1 2),(3,kc),(4,encA a'),(5,encCl c),(7,[.om 6]),(8,[todoV t T]),(9,[.lit (.int .i64 (ys:Int)),.lit (.int .i64 (yp:Int))]),(nx,encE e)],wkT W O S t T,m⟩ [(1,tokW W),(2,tokO O),(6,tokS S)] 7 8 6 rfl rfl rfl (by decide) rfl (fun i hi=>lk_lt (N:=10) (by simp) (by show 10≤i;have:m≤i:=hi;omega)) (fun u q=>⟨lk_lt (N:=10) (by simp) (ht1 u q).1,by show u<m;have:=ht1 u q;omega⟩) ht0 (fun i hi=>lk_lt (N:=m) (by simp;omega) hi) (by omega)
       simp -implicitDefEqProofs (disch:=omega) only[Wz,seval,eE9,hcast]
       refine CallK_of call70 hps ?_
       rintro r h' ⟨rfl,(⟨hx,rfl⟩ | ⟨hx,u,m',hu1,hu2,hu3,rfl⟩)⟩
       ·simp -implicitDefEqProofs (disch:=omega) only[Wz,seval]
        refine⟨_,?_,S,T,t,m+1,hG,fun _=>hx,ht0,fun u q=>(by have:=ht1 u q;omega),by omega,hμ,rfl⟩
        exact wk_lk (by simp[wkS,lk]) (fun _ _ e=>e) (fun _ _ e=>e) rfl rfl
       ·have hu2:m≤m':=hu2
        have hu4:10≤u:=by
         rcases hu3 with q | ⟨_,q⟩
         ·exact(ht1 u q).1
         ·have q:m≤u:=q
          omega
        have hG2:=hG.put (hrt rfl) hx
        have hS2:=hSM hG2
        have hl2:2 * (M - (S++[(to,yp+tk)]).length)+(T++[(to,yp+tk)]).length≤S0:=by
         simp only[List.length_append,List.length_singleton] at hS2 ⊢
         omega
        simp -implicitDefEqProofs (disch:=omega) only[Wz,seval]
        refine⟨_,?_,S++[(to,yp+tk)],T++[(to,yp+tk)],some u,m',hG2,fun _=>by simp,fun q=>(by cases q),fun v q=>(by cases q;omega),by omega,hl2,rfl⟩
        exact wk_lk (by simp[wkS,lk]) (fun _ _ e=>e) (fun _ _ e=>e) rfl rfl
     ·rintro σ2 ⟨S1,T1,t1,n1,hG1,hgo1,ht01,ht11,hn1,hμ1,rfl⟩
      clear hG ht0 ht1 hμ hSl hTl
      have hSl:=hSM hG1
      have hTl:=hG1.len
      by_cases h2:e.op.1=2
      rotate_left
      ·have hG2:GI n o L c opn (Pr++[(ys,yp)]) (fun z e=>z≠(ys,yp)∨e∈es.take (k+1)) S1 T1:=by
        have:=GI.edge (x:=(ys,yp)) (Pr:=Pr++[(ys,yp)]) (n:=n) (o:=o) (L:=L) (c:=c) (opn:=opn) (S:=S1) (T:=T1) (k:=k)
        simp only[hs,hes,he] at this
        refine this hlk hG1 ⟨fun q=>?_,fun q=>absurd q h2⟩ fun _ q=>absurd q h2
        rw[hto2];exact hgo1 q
       refine aw_of ?_
       have h2':(e.op.1==2)=false:=by simpa using h2
       simp -implicitDefEqProofs (disch:=omega) only[Wz,seval,wkS,wkB,encSp,encCl,eE0,h2',List.cons_append,List.nil_append]
       refine aw_of ?_
       simp -implicitDefEqProofs (disch:=omega) only[Wz,seval,List.cons_append,List.nil_append]
       refine⟨(k+1,S1,T1,t1,n1,W,O),⟨by show k+1≤_;omega,hG2,hWo,hOo,ht01,fun u q=>ht11 u q,by show 10≤n1;omega,hμ1⟩,by show es.length - (k+1)<_;omega,?_⟩
       exact wk_lk (by simp[wkS,lk]) (fun _ _ q=>lk_pre (x:=[(nx,encE e)]) q) (fun _ _ e=>e) rfl rfl
      ·have h2':(e.op.1==2)=true:=by simpa using h2
       have hd1:=w.call hy1 hem h2
       obtain⟨rn,hrn⟩:∃ rn:Nat,e.n=(rn:Int):=⟨e.n.toNat,by omega⟩
       have hWd:=hW ys yp e hyr hem h2
       have hOd:=fun q=>hO q ys yp e hyr hem h2
       have hA3:=fun q hA o1=>a3 q a' (Pr++[(ys,yp)]) ys yp e hA hyr hem h2 o1
       have hcd:=fun kk (hk:Rs n o L ⟨e.n.toNat,e.level,yp⟩ (spN n e.n.toNat) kk)=>Rs.call hyr hem h2 hk
       have eE2:(encE e)[2]? = some (.lit (.int .i64 (rn:Int))):=by rw[← hrn];rfl
       have hto3:e.to.toNat=to:=by omega
       rw[hto3] at hcd
       have hdt:e.n.toNat=rn:=by omega
       obtain⟨d,hd⟩:∃ d:Cl,d=⟨rn,e.level,yp⟩:=⟨_,rfl⟩
       rw[hdt] at hWd hOd hA3 hcd
       rw[← hd] at hWd hOd hA3 hcd
       have kd:kCl d = .agg [.lit (.int .i64 (rn:Int)),.lit (.int .i64 e.level),.lit (.int .i64 (yp:Int))]:=by rw[hd];rfl
       refine aw_seq ?_
       refine aw_of ?_
       simp -implicitDefEqProofs (disch:=omega) only[Wz,seval,wkS,wkB,encSp,encCl,eE0,h2',List.cons_append,List.nil_append]
       refine aw_seq ?_
       refine aw_of ?_
       simp -implicitDefEqProofs (disch:=omega) only[Wz,seval,eE2,eE3,List.cons_append,List.nil_append]
       refine aw_seq_cut (fun σ2=>∃ (W2:Wm) (O2:Om),WOk n o L W2∧OOk n o L O2∧(opn=true→¬ Op1 n o L d) ∧
        σ2=⟨(16,.ptr n1 0) :: (13,.ptr nx 0) :: (63,.lit (.int .i64 (k:Int))) :: (62,.lit (.int .i64 (es.length:Int))) :: (61,.vec (es.map encE) false) :: wkS opn fE cap,⟨wkB n o L kc (encA a') c t1 T1 (encSp (ys,yp))++[(nx,encE e),(n1,[.lit (.int .i64 (rn:Int)),.lit (.int .i64 e.level),.lit (.int .i64 (yp:Int))])],wkT W2 O2 S1 t1 T1,n1+1⟩,134⟩) ?_ ?_
       ·refine aw_of ?_
        cases opn with
        | false =>
         simp -implicitDefEqProofs (disch:=omega) only[Wz,seval,wkS,List.cons_append,List.nil_append]
         refine⟨_,?_,W,O,hWo,hOo,fun q=>(by cases q),rfl⟩
         exact wk_lk (by simp[wkS,lk]) (fun _ _ e=>e) (fun _ _ e=>e) rfl rfl
        | true =>
         have ha:=ask_at (hOd rfl) (.lit _) ⟨[(0,askC n o L 1 2),(3,kc),(4,encA a'),(5,encCl c),(7,[.om 6]),(8,[todoV t1 T1]),(9,encSp (ys,yp)),(nx,encE e),(n1,[.lit (.int .i64 (rn:Int)),.lit (.int .i64 e.level),.lit (.int .i64 (yp:Int))])],wkT W O S1 t1 T1,n1+1⟩ 0 1 2 W O hWo hOo rfl rfl rfl (by decide) (by decide) (by decide) (by show 0<n1+1;omega) (by show 1<n1+1;omega) (by show 2<n1+1;omega) (wkT_0 fun u q=>(ht11 u q).1)
         rw[kd] at ha
         simp -implicitDefEqProofs (disch:=omega) only[Wz,seval,wkS,List.cons_append,List.nil_append]
         refine CallK_of call57 ha ?_
         rintro r h' ⟨rfl,W2,O2,hW2,hO2,rfl⟩
         cases hob:opB n o L d with
         | false =>
          simp -implicitDefEqProofs (disch:=omega) only[Wz,seval,wkS,List.cons_append,List.nil_append]
          refine⟨_,?_,W2,O2,hW2,hO2,fun _ q=>(by rw[opB_true.2 q] at hob;cases hob),rfl⟩
          exact wk_lk (by simp[wkS,lk]) (fun _ _ e=>e) (fun _ _ e=>e) rfl rfl
         | true =>
          simp -implicitDefEqProofs (disch:=omega) only[Wz,seval,wkS,List.cons_append,List.nil_append]
          refine aw_drawQ (n:=134) 9 (.alt 9 .leaf .nil) rfl (by decide) (by decide) mixed (by kernel_rfl) (by decide) ?_
          simp -implicitDefEqProofs (disch:=omega) only[Wz,seval,askC,encN,encSp,List.append_eq,List.cons_append,List.nil_append]
          have fT:∀ i,n1+1≤i→lk (wkT W2 O2 S1 t1 T1) i=none:=fun i hi=>wkT_no (N:=n1+1) (by omega) (fun u q=>by have:=ht11 u q;omega) hi
          refine CallK_of cE (hend _ a' (ys,L.length) (Pr++[(ys,yp)]) hA' (Nat.le_refl _) rfl rfl rfl (fun i hi=>lk_lt (N:=n1+1) (by simp;omega) hi) fT) ?_
          rintro r0 h' ⟨rfl,m,hm,rfl⟩
          have hm:n1+1≤m:=hm
          simp -implicitDefEqProofs (disch:=omega) only[Wz,seval]
          exact finR _ (step a' (ys,L.length)) W2 O2 (hA3 rfl hA' (opB_true.1 hob)) hW2 hO2 rfl rfl rfl rfl rfl (by show 5≤m;omega) rfl
       ·rintro σ2 ⟨W2,O2,hW2,hO2,hno,rfl⟩
        refine aw_seq ?_
        obtain⟨v,hv⟩:∃ v,plcs (whW n o L d) (L.length+1)=v:=⟨_,rfl⟩
        have hvl:=plcs_len (whW n o L d) (L.length+1)
        rw[hv] at hvl
        have hlw:=whW_lt (n:=n) (o:=o) (c:=d) hL
        have hpl:=places_spec (whW n o L d) (L.length+1) hlw (by omega)
        rw[hv,show ((L.length+1:Nat):Int)=(L.length:Int)+1 by omega] at hpl
        have hvm:∀ kk,kk∈v↔kk≤L.length∧Rs n o L d (spN n d.rule) kk:=fun kk=>by
         rw[← hv,mem_plcs,whW_bit]
         exact⟨fun q=>q.2,fun q=>⟨by omega,q⟩⟩
        have ha:=ask_at hWd (pure_maskV _) ⟨[(0,askC n o L 1 2),(3,kc),(4,encA a'),(5,encCl c),(7,[.om 6]),(8,[todoV t1 T1]),(9,encSp (ys,yp)),(nx,encE e),(n1,[.lit (.int .i64 (rn:Int)),.lit (.int .i64 e.level),.lit (.int .i64 (yp:Int))])],wkT W2 O2 S1 t1 T1,n1+1⟩ 0 1 2 W2 O2 hW2 hO2 rfl rfl rfl (by decide) (by decide) (by decide) (by show 0<n1+1;omega) (by show 1<n1+1;omega) (by show 2<n1+1;omega) (wkT_0 fun u q=>(ht11 u q).1)
        rw[kd] at ha
        have n1b:lk [(0,askC n o L 1 2),(3,kc),(4,encA a'),(5,encCl c),(7,[.om 6]),(8,[todoV t1 T1]),(9,encSp (ys,yp)),(nx,encE e),(n1,[.lit (.int .i64 (rn:Int)),.lit (.int .i64 e.level),.lit (.int .i64 (yp:Int))])] n1=some [.lit (.int .i64 (rn:Int)),.lit (.int .i64 e.level),.lit (.int .i64 (yp:Int))]:=by
         simp only[lk]
         rw[if_neg (by omega),if_neg (by omega),if_neg (by omega),if_neg (by omega),if_neg (by omega),if_neg (by omega),if_neg (by omega),if_neg (by omega),if_pos trivial]
        refine aw_drawW (n:=134) 2 (fun c'=>lk c'.boxes 0=some (askC n o L 1 2)∧lk c'.boxes n1=some [.lit (.int .i64 (rn:Int)),.lit (.int .i64 e.level),.lit (.int .i64 (yp:Int))]) (fun c'=>∃ W3 O3,WOk n o L W3∧OOk n o L O3∧c'=⟨[(0,askC n o L 1 2),(3,kc),(4,encA a'),(5,encCl c),(7,[.om 6]),(8,[todoV t1 T1]),(9,encSp (ys,yp)),(nx,encE e),(n1,[.lit (.int .i64 (rn:Int)),.lit (.int .i64 e.level),.lit (.int .i64 (yp:Int))])],wkT W3 O3 S1 t1 T1,n1+1⟩) (by decide) rfl rfl (by decide) mixed ⟨rfl,n1b⟩ (fun c' ⟨W3,O3,_,_,q⟩=>by rw[q];exact⟨rfl,n1b⟩) ?_
        simp -implicitDefEqProofs (disch:=omega) only[wkS,wkB,encSp,encCl,List.cons_append,List.nil_append]
        refine trW_val (d:=112) (.ptr 0 0) rfl (by show 112<134;decide) (by decide) (fun c' hc'=>?_) ?_
        ·simp -implicitDefEqProofs (disch:=omega) only[Wz,seval,hc'.1,hc'.2]
        simp -implicitDefEqProofs (disch:=omega) only[Wz,seval]
        refine trW_val (d:=113) (.agg [.lit (.int .i64 (rn:Int)),.lit (.int .i64 e.level),.lit (.int .i64 (yp:Int))]) rfl (by show 113<134;decide) (by decide) (fun c' hc'=>?_) ?_
        ·simp -implicitDefEqProofs (disch:=omega) only[Wz,seval,hc'.1,hc'.2]
        simp -implicitDefEqProofs (disch:=omega) only[Wz,seval]
        refine trW_call (d:=114) (maskV (whW n o L d)) rfl ?_ ?_
        ·exact⟨(27,[],[]),[.ptr 0 0,.agg [.lit (.int .i64 (rn:Int)),.lit (.int .i64 e.level),.lit (.int .i64 (yp:Int))]],rfl,call27,SCall.mono ha fun r h' ⟨q,W3,O3,hW3,hO3,q'⟩=>⟨q,W3,O3,hW3,hO3,q'⟩⟩
        simp -implicitDefEqProofs (disch:=omega) only[Wz,seval]
        refine trW_val (d:=115) (.ptr 0 0) rfl (by show 115<134;decide) (by decide) (fun c' hc'=>?_) ?_
        ·simp -implicitDefEqProofs (disch:=omega) only[Wz,seval,hc'.1,hc'.2]
        simp -implicitDefEqProofs (disch:=omega) only[Wz,seval]
        refine trW_val (d:=116) (.ptr 0 0) rfl (by show 116<134;decide) (by decide) (fun c' hc'=>?_) ?_
        ·simp -implicitDefEqProofs (disch:=omega) only[Wz,seval,hc'.1,hc'.2]
        simp -implicitDefEqProofs (disch:=omega) only[Wz,seval]
        refine trW_val (d:=117) (.ptr 0 6) rfl (by show 117<134;decide) (by decide) (fun c' hc'=>?_) ?_
        ·simp -implicitDefEqProofs (disch:=omega) only[Wz,seval,hc'.1,hc'.2]
        simp -implicitDefEqProofs (disch:=omega) only[Wz,seval]
        refine trW_val (d:=118) (.vec (L.map encI) false) rfl (by show 118<134;decide) (by decide) (fun c' hc'=>?_) ?_
        ·simp -implicitDefEqProofs (disch:=omega) only[Wz,seval,hc'.1,hc'.2,askC,encN,List.append_eq,List.cons_append,List.nil_append]
        simp -implicitDefEqProofs (disch:=omega) only[Wz,seval]
        refine trW_val (d:=119) (.lit (.int .i64 (L.length:Int))) rfl (by show 119<134;decide) (by decide) (fun c' hc'=>?_) ?_
        ·simp -implicitDefEqProofs (disch:=omega) only[Wz,seval,hc'.1,hc'.2]
        simp -implicitDefEqProofs (disch:=omega) only[Wz,seval]
        refine trW_val (d:=120) (.lit (.int .i64 ((L.length:Int)+1))) rfl (by show 120<134;decide) (by decide) (fun c' hc'=>?_) ?_
        ·simp -implicitDefEqProofs (disch:=omega) only[Wz,seval,hc'.1,hc'.2]
        simp -implicitDefEqProofs (disch:=omega) only[Wz,seval]
        refine trW_val (d:=121) (.vec (v.map rowI) false) rfl (by show 121<134;decide) (by decide) (fun c' hc'=>?_) ?_
        ·simp -implicitDefEqProofs (disch:=omega) only[Wz,seval]
         exact CallQ_pure call28 hpl (allc (pure_maskV _) (allc (.lit _) alln)) (.vec (pure_rows (fun x=>pure_lits (by simp[rowI])) _)) (by simp[St.put,lk])
        simp -implicitDefEqProofs (disch:=omega) only[Wz,seval]
        refine trW_val (d:=122) (.lit (.int .i64 (v.length:Int))) rfl (by show 122<134;decide) (by decide) (fun c' hc'=>?_) ?_
        ·simp -implicitDefEqProofs (disch:=omega) only[Wz,seval,hc'.1,hc'.2]
        simp -implicitDefEqProofs (disch:=omega) only[Wz,seval]
        refine trW_val (d:=123) (.lit (.int .i64 0)) rfl (by show 123<134;decide) (by decide) (fun c' hc'=>?_) ?_
        ·simp -implicitDefEqProofs (disch:=omega) only[Wz,seval,hc'.1,hc'.2]
        simp -implicitDefEqProofs (disch:=omega) only[Wz,seval]
        rintro c' ⟨W3,O3,hW3,hO3,rfl⟩
        refine aw_block' ?_
        refine aw_measA (fun(x:Nat × List Sp × List Sp × Option Nat × Nat)=>⟨(123,.lit (.int .i64 (x.1:Int))) :: (122,.lit (.int .i64 (v.length:Int))) :: (121,.vec (v.map rowI) false) :: (13,.ptr nx 0) :: (63,.lit (.int .i64 (k:Int))) :: (62,.lit (.int .i64 (es.length:Int))) :: (61,.vec (es.map encE) false) :: wkS opn fE cap,⟨wkB n o L kc (encA a') c x.2.2.2.1 x.2.2.1 (encSp (ys,yp))++[(nx,encE e)],wkT W3 O3 x.2.1 x.2.2.2.1 x.2.2.1,x.2.2.2.2⟩,134⟩)
         (fun x=>x.1≤v.length∧GI n o L c opn (Pr++[(ys,yp)]) (fun z e=>z≠(ys,yp)∨e∈es.take k) x.2.1 x.2.2.1∧((goV o L e c.level yp).2=true→(to,yp+(goV o L e c.level yp).1)∈x.2.1)∧(∀ i,i<x.1→(to,v.getD i default)∈x.2.1)∧(x.2.2.2.1=none→x.2.2.1=[])∧(∀ u,x.2.2.2.1=some u→10≤u∧u<x.2.2.2.2)∧nx+1≤x.2.2.2.2∧2 * (M - x.2.1.length)+x.2.2.1.length≤S0) (fun x=>v.length - x.1)
         (0,S1,T1,t1,n1+1) (wk_lk (by simp[wkS,lk]) (fun _ _ q=>lk_pre (x:=[(n1,_)]) q) (fun _ _ q=>q) rfl rfl) ⟨Nat.zero_le _,hG1,hgo1,fun i hi=>absurd hi (Nat.not_lt_zero _),ht01,fun u q=>by have:=ht11 u q;exact⟨by omega,by show u<n1+1;omega⟩,by show nx+1≤n1+1;omega,hμ1⟩ ?_
        clear hG1 hgo1 ht01 ht11 hn1 hμ1 ha hWd hOd hSl hTl n1b
        rintro⟨j,S1,T1,t1,n1⟩ ⟨hj,hG1,hgo1,hvj,ht01,ht11,hn1,hμ1⟩
        simp only at hj hG1 hgo1 hvj ht01 ht11 hn1 hμ1 ⊢
        have hSl:=hSM hG1
        have hTl:=hG1.len
        refine aw_of ?_
        rcases Nat.lt_or_ge j v.length with hlj | hgj
        ·obtain⟨pj,hpj⟩:∃ pj,v.getD j default=pj:=⟨_,rfl⟩
         have hpm:pj∈v:=by rw[← hpj];exact getD_mem hlj
         obtain⟨hp1,hp2⟩:=(hvm pj).1 hpm
         have hrp:Rs n o L c to pj:=hcd pj (by have:=hp2;rw[hd] at this ⊢;exact this)
         have hps:=put_spec (to,pj) S1 T1 t1 ⟨[(0,askC n o L 1 2),(3,kc),(4,encA a'),(5,encCl c),(7,[.om 6]),(8,[todoV t1 T1]),(9,[.lit (.int .i64 (ys:Int)),.lit (.int .i64 (yp:Int))]),(nx,encE e)],wkT W3 O3 S1 t1 T1,n1⟩ [(1,tokW W3),(2,tokO O3),(6,tokS S1)] 7 8 6 rfl rfl rfl (by decide) rfl (fun i hi=>lk_lt (N:=10) (by simp) (by show 10≤i;have:n1≤i:=hi;omega)) (fun u q=>⟨lk_lt (N:=10) (by simp) (ht11 u q).1,(ht11 u q).2⟩) ht01 (fun i hi=>lk_lt (N:=n1) (by simp;omega) hi) (by omega)
         simp -implicitDefEqProofs (disch:=omega) only[Wz,seval,wkS,wkB,encSp,encCl,eE9,hpj,rowI,List.cons_append,List.nil_append]
         refine CallK_of call70 hps ?_
         rintro r h' ⟨rfl,(⟨hx,rfl⟩ | ⟨hx,u,m',hu1,hu2,hu3,rfl⟩)⟩
         ·simp -implicitDefEqProofs (disch:=omega) only[Wz,seval]
          refine⟨(j+1,S1,T1,t1,n1+1),⟨by show j+1≤_;omega,hG1,hgo1,fun i hi=>?_,ht01,fun u q=>by have:=ht11 u q;exact⟨by omega,by show u<n1+1;omega⟩,by show nx+1≤n1+1;omega,hμ1⟩,by show v.length - (j+1)<_;omega,?_⟩
          ·have hi:i<j+1:=hi
           rcases Nat.lt_or_ge i j with q | q
           ·exact hvj i q
           ·have:i=j:=by omega
            subst this;rw[hpj];exact hx
          ·exact wk_lk (by simp[wkS,lk]) (fun _ _ e=>e) (fun _ _ e=>e) rfl rfl
         ·have hu2:n1≤m':=hu2
          have hu4:10≤u:=by
           rcases hu3 with q | ⟨_,q⟩
           ·exact(ht11 u q).1
           ·have q:n1≤u:=q
            omega
          have hG2:=hG1.put hrp hx
          have hS2:=hSM hG2
          have hl2:2 * (M - (S1++[(to,pj)]).length)+(T1++[(to,pj)]).length≤S0:=by
           simp only[List.length_append,List.length_singleton] at hS2 ⊢
           omega
          simp -implicitDefEqProofs (disch:=omega) only[Wz,seval]
          refine⟨(j+1,S1++[(to,pj)],T1++[(to,pj)],some u,m'),⟨by show j+1≤_;omega,hG2,fun q=>List.mem_append_left _ (hgo1 q),fun i hi=>?_,fun q=>(by cases q),fun v q=>(by cases q;exact⟨hu4,hu1⟩),by show nx+1≤m';omega,hl2⟩,by show v.length - (j+1)<_;omega,?_⟩
          ·have hi:i<j+1:=hi
           rcases Nat.lt_or_ge i j with q | q
           ·exact List.mem_append_left _ (hvj i q)
           ·have:i=j:=by omega
            subst this;rw[hpj];exact List.mem_append_right _ (by simp)
          ·exact wk_lk (by simp[wkS,lk]) (fun _ _ e=>e) (fun _ _ e=>e) rfl rfl
        ·have hje:j=v.length:=by omega
         have hG2:GI n o L c opn (Pr++[(ys,yp)]) (fun z e=>z≠(ys,yp)∨e∈es.take (k+1)) S1 T1:=by
          have:=GI.edge (x:=(ys,yp)) (Pr:=Pr++[(ys,yp)]) (n:=n) (o:=o) (L:=L) (c:=c) (opn:=opn) (S:=S1) (T:=T1) (k:=k)
          simp only[hs,hes,he] at this
          refine this hlk hG1 ⟨fun q=>?_,fun _ kk hk=>?_⟩ fun q _=>?_
          ·rw[hto3];exact hgo1 q
          ·rw[hto3]
           have hkv:kk∈v:=by
            refine(hvm kk).2 ⟨(Rs.le w hk (by show e.n.toNat<_;omega) hy2).2.1,?_⟩
            rw[hdt] at hk
            rw[hd];exact hk
           obtain⟨i,hi,e1⟩:=mem_getD hkv
           rw[← e1];exact hvj i (by omega)
          ·have:=hno q
           rw[hd] at this
           rw[hdt];exact this
         simp -implicitDefEqProofs (disch:=omega) only[Wz,seval,wkS,wkB,encSp,encCl,List.cons_append,List.nil_append]
         refine aw_of ?_
         simp -implicitDefEqProofs (disch:=omega) only[Wz,seval,List.cons_append,List.nil_append]
         refine⟨(k+1,S1,T1,t1,n1,W3,O3),⟨by show k+1≤_;omega,hG2,hW3,hO3,ht01,fun u q=>ht11 u q,by show 10≤n1;omega,hμ1⟩,by show es.length - (k+1)<_;omega,?_⟩
         exact wk_lk (by simp[wkS,lk]) (fun _ _ q=>lk_pre (x:=[(nx,encE e)]) q) (fun _ _ e=>e) rfl rfl
    ·have hke:k=es.length:=by omega
     have hG1:GI n o L c opn (Pr++[(ys,yp)]) (fun _ _=>True) S T:=by
      rw[hke] at hG
      have:=GI.last (x:=(ys,yp)) (Pr:=Pr++[(ys,yp)]) (n:=n) (o:=o) (L:=L) (c:=c) (opn:=opn) (S:=S) (T:=T)
      simp only[hs,hes] at this
      exact this hG
     refine aw_of ?_
     simp -implicitDefEqProofs (disch:=omega) only[Wz,seval,wkS,wkB]
     refine⟨_,?_,_,Nat.lt_of_le_of_lt hμ hS0μ,hJi hG1 hA' hWo hOo ht0 ht1 hnx (x:=encSp (ys,yp)) rfl⟩
     exact wk_lk (by simp[wkS,lk]) (fun _ _ e=>e) (fun _ _ e=>e) rfl rfl
end Go.Proofs.YtbbnfbnicacdoaaGreat
end
