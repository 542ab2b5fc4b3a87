/- What the claim wants of the machine, the contracts and the law, laid together. -/
import Derived.Test.YtbbnfbnicacdoaaGreatVm
set_option linter.unusedVariables false
set_option linter.unusedSimpArgs false
section
namespace Go.Proofs.YtbbnfbnicacdoaaGreat
open Go Go.Ab
set_option maxRecDepth 20000
set_option maxHeartbeats 8000000
structure Mem where
 K:List Cl
 E:List (List Nat)
 P:List Cl
 B:List Bool
 tk:Nat
 te:Nat
 tp:Nat
 tb:Nat
def rowE (l:List Nat):List AV:=[vO l]
def Mem.toks(M:Mem):List (Nat × Tk):=grT M.tk 3 (M.K.map encCl)++(grT M.te 1 (M.E.map rowE)++(grT M.tp 3 (M.P.map encCl)++grT M.tb 1 (M.B.map encBo)))
def Mem.names(M:Mem):List Nat:=M.toks.map Prod.fst
def rkC (n:Nt)(o:List Orc)(L:List It)(M:Mem):List AV:=rkX n o (itA L) (grA M.tk (M.K.map encCl)) (grA M.te (M.E.map rowE)) (grA M.tp (M.P.map encCl)) (grA M.tb (M.B.map encBo))
structure AtR (n:Nt) (o:List Orc) (L:List It) (H:Hp) (ai:Nat) (M:Mem):Prop where
 bx:lk H.boxes ai=some (rkC n o L M)
 fb:∀ i,H.nx≤i→lk H.boxes i=none
 ft:∀ i,H.nx≤i→lk H.toks i=none
 tk:∀ q∈M.toks,lk H.toks q.1=some q.2
 nd:M.names.Nodup
structure FrmR (H:Hp) (ai:Nat) (M:Mem) (h':Hp) (M':Mem):Prop where
 nx:H.nx≤h'.nx
 bx:∀ i,i<H.nx→i≠ai→lk h'.boxes i=lk H.boxes i
 tk:∀ i,i<H.nx→i∉M.names→lk h'.toks i=lk H.toks i
 nm:∀ i∈M'.names,i∈M.names∨H.nx≤i
noncomputable def whL(n:Nt)(o:List Orc)(L:List It)(c:Cl):List Nat:=plcs (whW n o L c) (L.length+1)
structure MOk (n:Nt) (o:List Orc) (L:List It) (M:Mem):Prop where
 lE:M.E.length=M.K.length
 lB:M.B.length=M.P.length
 okE:∀ i,i<M.K.length→M.E.getD i []=whL n o L (M.K.getD i ⟨0,0,0⟩)
 okB:∀ i,i<M.P.length→M.B.getD i false=opB n o L (M.P.getD i ⟨0,0,0⟩)
 ndK:M.K.Nodup
 ndP:M.P.Nodup
 bdK:∀ c∈M.K,c.rule<100∧0≤c.level∧c.level≤65∧c.pos≤25
 bdP:∀ c∈M.P,c.rule<100∧0≤c.level∧c.level≤65∧c.pos≤25
theorem lk_none_ne{α:Type}{l:List (Nat × α)}{i:Nat}{v:α}(h:lk l i=some v){m:Nat}(hf:∀ j,m≤j→lk l j=none):i<m:=by
 rcases Nat.lt_or_ge i m with q | q
 ·exact q
 ·rw[hf i q] at h;cases h
section
variable {n:Nt} {o:List Orc} {L:List It} {H:Hp} {ai:Nat} {M:Mem}
theorem AtR.lt(h:AtR n o L H ai M):ai<H.nx:=lk_none_ne h.bx h.fb
theorem AtR.nlt(h:AtR n o L H ai M):∀ i∈M.names,i<H.nx:=fun i hi=>by
 obtain⟨q,hq,rfl⟩:=List.mem_map.1 hi
 exact lk_none_ne (h.tk q hq) h.ft
theorem AtR.nxm(h:AtR n o L H ai M){m:Nat}(hm:H.nx≤m):AtR n o L {H with nx:=m} ai M :=
 ⟨h.bx,fun i hi=>h.fb i (Nat.le_trans hm hi),fun i hi=>h.ft i (Nat.le_trans hm hi),h.tk,h.nd⟩
theorem AtR.addT(h:AtR n o L H ai M)(k:Tk):AtR n o L ⟨H.boxes,H.toks++[(H.nx,k)],H.nx+1⟩ ai M:=by
 refine⟨h.bx,fun i hi=>h.fb i ?_,fun i hi=>?_,fun q hq=>?_,h.nd⟩
 ·have hi:H.nx+1≤i:=hi;omega
 ·have hi:H.nx+1≤i:=hi
  show lk (H.toks++_) i=none
  rw[lk_app,h.ft i (by omega)];simp only[lk];rw[if_neg (by omega)];rfl
 ·show lk (H.toks++_) q.1=some q.2
  rw[lk_app,h.tk q hq];rfl
theorem AtR.addB(h:AtR n o L H ai M)(c:List AV):AtR n o L ⟨H.boxes++[(H.nx,c)],H.toks,H.nx+1⟩ ai M:=by
 refine⟨?_,fun i hi=>?_,fun i hi=>h.ft i ?_,h.tk,h.nd⟩
 ·show lk (H.boxes++_) ai=_
  rw[lk_app,h.bx];rfl
 ·have hi:H.nx+1≤i:=hi
  show lk (H.boxes++_) i=none
  rw[lk_app,h.fb i (by omega)];simp only[lk];rw[if_neg (by omega)];rfl
 ·have hi:H.nx+1≤i:=hi;omega
theorem AtR.upT(h:AtR n o L H ai M){t:Nat}(ht:t∉M.names)(k:Tk):AtR n o L ⟨H.boxes,up H.toks t k,H.nx⟩ ai M:=by
 refine⟨h.bx,h.fb,fun i hi=>?_,fun q hq=>?_,h.nd⟩
 ·show lk (up H.toks t k) i=none
  rw[lk_up]
  split
  ·rename_i e;subst e
   rw[h.ft t hi];rfl
  ·exact h.ft i hi
 ·show lk (up H.toks t k) q.1=some q.2
  rw[lk_up,if_neg fun e=>ht (by rw[e];exact List.mem_map.2 ⟨q,hq,rfl⟩)]
  exact h.tk q hq
theorem FrmR.refl(h:AtR n o L H ai M):FrmR H ai M H M:=⟨Nat.le_refl _,fun _ _ _=>rfl,fun _ _ _=>rfl,fun i hi=>.inl hi⟩
theorem FrmR.trans{H1 H2:Hp}{M1 M2:Mem}(h:FrmR H ai M H1 M1)(k:FrmR H1 ai M1 H2 M2):FrmR H ai M H2 M2:=by
 refine⟨Nat.le_trans h.nx k.nx,fun i hi hn=>?_,fun i hi hn=>?_,fun i hi=>?_⟩
 ·rw[k.bx i (Nat.lt_of_lt_of_le hi h.nx) hn,h.bx i hi hn]
 ·rw[k.tk i (Nat.lt_of_lt_of_le hi h.nx) (fun q=>?_),h.tk i hi hn]
  rcases h.nm i q with r | r
  ·exact hn r
  ·omega
 ·rcases k.nm i hi with q | q
  ·exact h.nm i q
  ·exact .inr (Nat.le_trans h.nx q)
theorem FrmR.nxm(h:FrmR H ai M H M){m:Nat}(hm:H.nx≤m):FrmR H ai M {H with nx:=m} M:=⟨hm,fun _ _ _=>rfl,fun _ _ _=>rfl,fun i hi=>.inl hi⟩
theorem FrmR.addT(k:Tk):FrmR H ai M ⟨H.boxes,H.toks++[(H.nx,k)],H.nx+1⟩ M:=by
 refine⟨Nat.le_succ _,fun _ _ _=>rfl,fun i hi _=>?_,fun i hi=>.inl hi⟩
 show lk (H.toks++_) i=_
 rw[lk_app];simp only[lk];rw[if_neg (by omega),Option.or_none]
theorem FrmR.addB(c:List AV):FrmR H ai M ⟨H.boxes++[(H.nx,c)],H.toks,H.nx+1⟩ M:=by
 refine⟨Nat.le_succ _,fun i hi _=>?_,fun _ _ _=>rfl,fun i hi=>.inl hi⟩
 show lk (H.boxes++_) i=_
 rw[lk_app];simp only[lk];rw[if_neg (by omega),Option.or_none]
theorem FrmR.upT{H1:Hp}{M1:Mem}(h:FrmR H ai M H1 M1){t:Nat}(ht:H.nx≤t)(k:Tk):FrmR H ai M ⟨H1.boxes,up H1.toks t k,H1.nx⟩ M1:=by
 refine⟨h.nx,h.bx,fun i hi hn=>?_,h.nm⟩
 show lk (up H1.toks t k) i=_
 rw[lk_up,if_neg (by omega)]
 exact h.tk i hi hn
end
theorem mem_whL{n:Nt}{o:List Orc}{L:List It}{c:Cl}{k:Nat}:k∈whL n o L c↔k≤L.length∧Rs n o L c (spN n c.rule) k:=by
 unfold whL
 rw[mem_plcs,whW_bit]
 constructor
 ·rintro⟨_,h⟩;exact h
 ·intro h;exact⟨Nat.lt_succ_of_le h.1,h⟩
theorem sorted_range{m:Nat}{p:Nat→Bool}:((List.range m).filter p).Pairwise (· < ·):=List.Pairwise.filter _ List.pairwise_lt_range
theorem whL_sorted{n:Nt}{o:List Orc}{L:List It}{c:Cl}:(whL n o L c).Pairwise (· < ·):=sorted_range
theorem sorted_eq{a b:List Nat}(ha:a.Pairwise (· < ·))(hb:b.Pairwise (· < ·))(h:∀ x,x∈a↔x∈b):a=b:=by
 induction a generalizing b with
 | nil =>
  cases b with
  | nil=>rfl
  | cons y b=>exact absurd ((h y).2 (by simp)) (by simp)
 | cons x a ih =>
  rw[List.pairwise_cons] at ha
  cases b with
  | nil=>exact absurd ((h x).1 (by simp)) (by simp)
  | cons y b =>
   rw[List.pairwise_cons] at hb
   have e:x=y:=by
    rcases List.mem_cons.1 ((h x).1 (by simp)) with q | q
    ·exact q
    ·rcases List.mem_cons.1 ((h y).2 (by simp)) with r | r
     ·exact r.symm
     ·have:=hb.1 x q;have:=ha.1 y r;omega
   subst e
   congr 1
   refine ih ha.2 hb.2 fun z=>?_
   constructor
   ·intro q
    rcases List.mem_cons.1 ((h z).1 (by simp[q])) with r | r
    ·subst r;exact absurd (ha.1 _ q) (Nat.lt_irrefl _)
    ·exact r
   ·intro q
    rcases List.mem_cons.1 ((h z).2 (by simp[q])) with r | r
    ·subst r;exact absurd (hb.1 _ q) (Nat.lt_irrefl _)
    ·exact r
theorem whL_len{n:Nt}{o:List Orc}{L:List It}{c:Cl}:(whL n o L c).length≤L.length+1:=by
 unfold whL plcs
 exact Nat.le_trans (List.length_filter_le _ _) (by simp)
theorem GI.turn{n:Nt}{o:List Orc}{L:List It}{c:Cl}{opn:Bool}{Pr:List Sp}{P:Sp→Ed→Prop}{S T:List Sp}{x:Sp}(h:GI n o L c opn Pr P S (x :: T)):GI n o L c opn Pr P S (T++[x]):=by
 refine⟨h.reach,fun y=>?_,h.nd,h.st,by have:=h.len;simpa using this,h.cl,h.no⟩
 rw[h.part y]
 simp only[List.mem_cons,List.mem_append,List.mem_singleton,List.not_mem_nil,or_false]
 constructor
 ·rintro(a | a | a)
  ·exact .inl a
  ·exact .inr (.inr a)
  ·exact .inr (.inl a)
 ·rintro(a | a | a)
  ·exact .inl a
  ·exact .inr (.inr a)
  ·exact .inr (.inl a)
end Go.Proofs.YtbbnfbnicacdoaaGreat
end
section
namespace Go.Proofs.YtbbnfbnicacdoaaGreat
open Go Go.Ab
set_option maxRecDepth 20000
set_option maxHeartbeats 16000000
structure LftR (n:Nt) (o:List Orc) (L:List It) (rk:Nat→Nat) (c:Cl) (own:Bool) (H:Hp) (ai:Nat) (M:Mem) (h':Hp) (M':Mem):Prop where
 at':AtR n o L h' ai M'
 ok:MOk n o L M'
 fr:FrmR H ai M h' M'
 ks:∀ k∈M'.K,k∈M.K∨Cl.lt n rk k c∨(own=true∧k=c)
 ps:M'.P=M.P
def EndC (n:Nt)(o:List Orc)(L:List It)(rk:Nat→Nat)(c:Cl):Prop:=∀ (H:Hp) (ai:Nat) (M:Mem),AtR n o L H ai M→MOk n o L M →
 SCall Tryz.prog 31 [.ptr ai 0,.lit (.int .i64 (c.rule:Int)),.lit (.int .i64 c.level),.lit (.int .i64 (c.pos:Int))] H fun r h'=>r=vO (whL n o L c)∧∃ M',LftR n o L rk c true H ai M h' M'
def sts (S:List Sp):List (List AV):=S.map fun x=>rowI x.1
def pls (S:List Sp):List (List AV):=S.map fun x=>rowI x.2
structure SrH (n:Nt) (o:List Orc) (L:List It) (rk:Nat→Nat) (c:Cl) (H0:Hp) (ai:Nat) (M0:Mem) (ts tp:Nat) (S:List Sp) (H1:Hp) (M1:Mem):Prop where
 lf:LftR n o L rk c false H0 ai M0 H1 M1
 t0:H0.nx≤ts
 p0:H0.nx≤tp
 ne:ts≠tp
 t1:ts∉M1.names
 p1:tp∉M1.names
 lt1:ts<H1.nx
 lp1:tp<H1.nx
 ks:lk H1.toks ts=some ⟨sts S,0,1⟩
 kp:lk H1.toks tp=some ⟨pls S,0,1⟩
section
variable {n:Nt} {o:List Orc} {L:List It} {rk:Nat→Nat} {c:Cl} {H0:Hp} {ai:Nat} {M0:Mem} {ts tp:Nat} {S:List Sp} {H1:Hp} {M1:Mem}
theorem SrH.nxm(h:SrH n o L rk c H0 ai M0 ts tp S H1 M1){m:Nat}(hm:H1.nx≤m):SrH n o L rk c H0 ai M0 ts tp S {H1 with nx:=m} M1 :=
 ⟨⟨h.lf.at'.nxm hm,h.lf.ok,h.lf.fr.trans ((FrmR.refl h.lf.at').nxm hm),h.lf.ks,h.lf.ps⟩,h.t0,h.p0,h.ne,h.t1,h.p1,Nat.lt_of_lt_of_le h.lt1 hm,Nat.lt_of_lt_of_le h.lp1 hm,h.ks,h.kp⟩
theorem SrH.put(h:SrH n o L rk c H0 ai M0 ts tp S H1 M1)(y:Sp):SrH n o L rk c H0 ai M0 ts tp (S++[y]) ⟨H1.boxes,up (up H1.toks ts ⟨sts (S++[y]),0,1⟩) tp ⟨pls (S++[y]),0,1⟩,H1.nx⟩ M1:=by
 have a1:=(h.lf.at'.upT h.t1 ⟨sts (S++[y]),0,1⟩).upT (t:=tp) h.p1 ⟨pls (S++[y]),0,1⟩
 refine⟨⟨a1,h.lf.ok,(h.lf.fr.upT h.t0 _).upT h.p0 _,h.lf.ks,h.lf.ps⟩,h.t0,h.p0,h.ne,h.t1,h.p1,h.lt1,h.lp1,?_,?_⟩
 ·show lk (up (up _ _ _) _ _) ts=_
  rw[lk_up,if_neg (fun e=>h.ne e.symm),lk_up,if_pos rfl,h.ks];rfl
 ·show lk (up (up _ _ _) _ _) tp=_
  rw[lk_up,if_pos rfl,lk_up,if_neg h.ne,h.kp];rfl
theorem SrH.call(h:SrH n o L rk c H0 ai M0 ts tp S H1 M1){d:Cl}(hd:Cl.lt n rk d c)(tr:∀ k,Cl.lt n rk k d→Cl.lt n rk k c){H2:Hp}{M2:Mem}(k:LftR n o L rk d true H1 ai M1 H2 M2):SrH n o L rk c H0 ai M0 ts tp S H2 M2:=by
 have nm:∀ {t},t∉M1.names→t<H1.nx→t∉M2.names:=fun h1 h2 q=>by
  rcases k.fr.nm _ q with r | r
  ·exact h1 r
  ·omega
 refine⟨⟨k.at',k.ok,h.lf.fr.trans k.fr,fun x hx=>?_,by rw[k.ps,h.lf.ps]⟩,h.t0,h.p0,h.ne,nm h.t1 h.lt1,nm h.p1 h.lp1,Nat.lt_of_lt_of_le h.lt1 k.fr.nx,Nat.lt_of_lt_of_le h.lp1 k.fr.nx,?_,?_⟩
 ·rcases k.ks x hx with q | q | q
  ·rcases h.lf.ks x q with r | r | r
   ·exact .inl r
   ·exact .inr (.inl r)
   ·cases r.1
  ·exact .inr (.inl (tr x q))
  ·rw[q.2];exact .inr (.inl hd)
 ·rw[k.fr.tk _ h.lt1 h.t1];exact h.ks
 ·rw[k.fr.tk _ h.lp1 h.p1];exact h.kp
end
theorem Cl.lt_tr{n:Nt}{rk:Nat→Nat}{a b c:Cl}(h:Cl.lt n rk a b)(k:Cl.lt n rk b c):Cl.lt n rk a c:=by
 unfold Cl.lt at *
 rcases h with h | ⟨h1,h2⟩ <;> rcases k with k | ⟨k1,k2⟩
 ·exact .inl (by omega)
 ·exact .inl (by omega)
 ·exact .inl (by omega)
 ·exact .inr ⟨by omega,by omega⟩
theorem Cl.lt_ir{n:Nt}{rk:Nat→Nat}{a:Cl}(h:Cl.lt n rk a a):False:=by
 unfold Cl.lt at h
 rcases h with h | ⟨_,h⟩ <;> omega
theorem goV_1{o:List Orc}{L:List It}{e:Ed}{lv:Int}{p:Nat}(h:e.op.1=1):goV o L e lv p=(if L.length≤p then 0 else 1,takesV L e p):=by
 unfold goV takesV
 rw[if_pos h,decide_eq_true h,Bool.true_and]
 by_cases q:L.length≤p
 ·rw[if_pos q,if_pos q,decide_eq_false (by omega:¬ p<L.length)];rfl
 ·rw[if_neg q,if_neg q,decide_eq_true (by omega:p<L.length),Bool.true_and]
theorem goV_n{o:List Orc}{L:List It}{e:Ed}{lv:Int}{p:Nat}(h:e.op.1≠1):goV o L e lv p=(0,if e.op.1=2 then false else goesV o L e lv p):=by
 unfold goV goesV holdsAt
 rw[if_neg h,if_neg h]
 by_cases h3:e.op.1=3
 ·rw[if_pos h3,if_neg (by omega:¬ e.op.1=2),if_neg (by omega:¬ e.op.1=2),if_pos h3]
 ·rw[if_neg h3]
  by_cases h5:e.op.1=5
  ·rw[if_pos h5,if_neg (by omega:¬ e.op.1=2),if_neg (by omega:¬ e.op.1=2),if_neg h3,if_pos h5]
  ·rw[if_neg h5]
   by_cases h2:e.op.1=2
   ·rw[if_pos h2,decide_eq_false (fun q=>q h2)]
   ·rw[if_neg h2,if_neg h2,if_neg h3,if_neg h5,decide_eq_true h2]
def nxV (n:Nt)(o:List Orc)(L:List It)(e:Ed)(lv:Int)(p:Nat)(l:List Nat):Prop :=
 ∀ v,v∈l↔((goV o L e lv p).2=true∧v=p+(goV o L e lv p).1)∨(e.op.1=2∧Rs n o L ⟨e.n.toNat,e.level,p⟩ (spN n e.n.toNat) v)
theorem rFrom_spec(n:Nt)(o:List Orc)(L:List It)(w:Wf n)(okn:NtOk n)(rk:Nat→Nat)(hrk:Rk n rk)(ho:o.length≤1000000000)(hL:L.length≤25)(c:Cl)(hr:c.rule<n.rules.length)(hp:c.pos≤L.length)
  (hE:∀ d:Cl,d.rule<n.rules.length→d.pos≤L.length→0≤d.level→d.level≤65→Cl.lt n rk d c→EndC n o L rk d) (H:Hp) (ai:Nat) (M:Mem) (hA:AtR n o L H ai M) (hM:MOk n o L M) :
  SCall Tryz.prog 54 [.ptr ai 0,.lit (.int .i64 (c.rule:Int)),.lit (.int .i64 c.level),.lit (.int .i64 (stN n c.rule:Int)),.lit (.int .i64 (c.pos:Int))] H fun r h'=>r=vO (whL n o L c)∧∃ M',LftR n o L rk c false H ai M h' M':=by
 obtain⟨R,hR⟩:∃ R:AV→Hp→Prop,(fun r h'=>r=vO (whL n o L c)∧∃ M',LftR n o L rk c false H ai M h' M')=R:=⟨_,rfl⟩
 rw[hR]
 refine SCall_introK Tryz.func54 rfl Tryz.ntmps54 (rs:=[.tmp 10]) rfl (by simp) ?_
 have hst:=w.nst
 have hru:=w.nru
 have hsr:=w.start hr
 have hso:=w.stop hr
 obtain⟨r,hrr⟩:∃ r,n.rules.getD c.rule default=r:=⟨_,rfl⟩
 rw[hrr] at hsr hso
 obtain⟨st,hst2⟩:∃ st:Nat,stN n c.rule=st:=⟨_,rfl⟩
 obtain⟨sp,hsp⟩:∃ sp:Nat,r.stop=(sp:Int):=⟨r.stop.toNat,by omega⟩
 have hspN:spN n c.rule=sp:=by unfold spN;rw[hrr,hsp];rfl
 have hstL:st<n.states.length:=by rw[← hst2];unfold stN;rw[hrr];omega
 rw[hst2]
 refine aw_seq ?_
 refine aw_of ?_
 simp -implicitDefEqProofs (disch:=omega) only[Wz,seval]
 refine aw_seq ?_
 refine aw_regionB ?_
 simp -implicitDefEqProofs (disch:=omega) only[Wz,seval,awoB]
 refine awop_build (ps:=[(0,.lit (.int .i64 (st:Int)))]) (z:=[.lit (.int .i64 0)]) (rows:=[rowI st]) ty41 rfl ty3 rfl ⟨rfl,by decide⟩ (by decide) rfl rfl ?_
 simp -implicitDefEqProofs (disch:=omega) only[Wz,seval,awoB]
 refine aw_seq ?_
 refine aw_regionB ?_
 simp -implicitDefEqProofs (disch:=omega) only[Wz,seval,awoB]
 refine awop_build (ps:=[(0,.lit (.int .i64 (c.pos:Int)))]) (z:=[.lit (.int .i64 0)]) (rows:=[rowI c.pos]) ty41 rfl ty3 rfl ⟨rfl,by decide⟩ (by decide) rfl rfl ?_
 simp -implicitDefEqProofs (disch:=omega) only[Wz,seval,awoB]
 refine aw_of ?_
 simp -implicitDefEqProofs (disch:=omega) only[Wz,seval]
 obtain⟨B,hB⟩:∃ B,n.states.length * (L.length+1)=B:=⟨_,rfl⟩
 have hBb:B≤4000 * 26:=by rw[← hB];exact Nat.mul_le_mul hst (by omega)
 have hrx:∀ {x:Sp},Rs n o L c x.1 x.2→x.1<n.states.length∧x.2≤L.length:=fun h=>by
  obtain⟨_,h2,h3⟩:=Rs.le w h hr hp
  exact⟨h3,h2⟩
 have hSB:∀ {Pr P S T},GI n o L c false Pr P S T→S.length≤B:=fun h=>by
  rw[← hB]
  exact spots_le h.nd (fun x hx=>by obtain⟨h1,h2⟩:=hrx (h.reach x hx);exact⟨h1,by omega⟩)
 obtain⟨ts,hts⟩:∃ ts,H.nx=ts:=⟨_,rfl⟩
 obtain⟨tp,htp⟩:∃ tp,H.nx+1=tp:=⟨_,rfl⟩
 obtain⟨S1,hS1⟩:∃ S1:Nat × List Nat × List Sp × Hp × Mem→St,∀ i out S H1 M1,S1 (i,out,S,H1,M1)=⟨[(14,.lit (.int .i64 (i:Int))),(13,vO out),(11,.own ts S.length),(12,.own tp S.length),(0,.ptr ai 0),(1,.lit (.int .i64 (c.rule:Int))),(2,.lit (.int .i64 c.level))],H1,166⟩:=⟨fun x=>⟨[(14,.lit (.int .i64 (x.1:Int))),(13,vO x.2.1),(11,.own ts x.2.2.1.length),(12,.own tp x.2.2.1.length),(0,.ptr ai 0),(1,.lit (.int .i64 (c.rule:Int))),(2,.lit (.int .i64 c.level))],x.2.2.2.1,166⟩,fun _ _ _ _ _=>rfl⟩
 have hAlt:=hA.nlt
 obtain⟨H1,hH1⟩:∃ H1:Hp,(⟨H.boxes,H.toks++[(H.nx,⟨[rowI st],0,1⟩)]++[(H.nx+1,⟨[rowI c.pos],0,1⟩)],H.nx+1+1⟩:Hp)=H1:=⟨_,rfl⟩
 have sr0:SrH n o L rk c H ai M ts tp [(st,c.pos)] H1 M:=by
  have a2:=(hA.addT ⟨[rowI st],0,1⟩).addT ⟨[rowI c.pos],0,1⟩
  have f2:=(FrmR.addT (H:=H) (ai:=ai) (M:=M) ⟨[rowI st],0,1⟩).trans (FrmR.addT ⟨[rowI c.pos],0,1⟩)
  rw[← hH1]
  refine⟨⟨a2,hM,f2,fun k hk=>.inl hk,rfl⟩,by omega,by omega,by omega,fun q=>?_,fun q=>?_,?_,?_,?_,?_⟩
  ·have:=hAlt _ q;omega
  ·have:=hAlt _ q;omega
  ·show ts<H.nx+1+1;omega
  ·show tp<H.nx+1+1;omega
  ·show lk (H.toks++_++_) ts=_
   rw[lk_app,lk_app,hA.ft ts (by omega),hts];simp[lk,sts]
  ·show lk (H.toks++_++_) tp=_
   rw[lk_app,lk_app,hA.ft tp (by omega)]
   simp only[lk]
   rw[if_neg (by omega),if_pos htp];rfl
 refine aw_measA S1 (fun x=>x.1≤x.2.2.1.length∧GI n o L c false (x.2.2.1.take x.1) (fun _ _=>True) x.2.2.1 (x.2.2.1.drop x.1)∧x.2.1.Pairwise (· < ·)∧(∀ k,k∈x.2.1↔(sp,k)∈x.2.2.1.take x.1)∧SrH n o L rk c H ai M ts tp x.2.2.1 x.2.2.2.1 x.2.2.2.2) (fun x=>B - x.1) (0,[],[(st,c.pos)],H1,M) ?_ ⟨Nat.zero_le _,by have:=GI.init (n:=n) (o:=o) (L:=L) (c:=c) (opn:=false);rwa [hst2] at this,List.Pairwise.nil,fun k=>by simp,sr0⟩ ?_
 ·rw[hS1,← hH1]
  subst hts;subst htp
  exact wk_lk (by simp[lk,vO]) (fun _ _ q=>q) (fun _ _ q=>q) rfl rfl
 clear sr0 hH1 H1
 rintro⟨i,out,S,H1,M1⟩ ⟨hi,hG,hos,hom,hs⟩
 simp only at hi hG hos hom hs
 have hSl:=hSB hG
 have hks:=hs.ks
 have hkp:=hs.kp
 have hbx:=hs.lf.at'.bx
 unfold rkC rkX encN at hbx
 simp only[List.cons_append,List.nil_append] at hbx
 have hlts:=hs.lt1
 rw[hS1]
 rcases Nat.lt_or_ge i S.length with hil | hge
 rotate_left
 ·have e:i=S.length:=by omega
  subst e
  rw[List.drop_length] at hG
  have ho2:out=whL n o L c:=by
   refine sorted_eq hos whL_sorted fun k=>?_
   rw[hom,mem_whL,hspN]
   constructor
   ·intro q
    rw[List.take_length] at q
    have:=hG.reach _ q
    exact⟨(hrx this).2,this⟩
   ·intro q;exact hG.all q.2
  refine aw_of ?_
  simp -implicitDefEqProofs (disch:=omega) only[Wz,seval,hks,sts,List.length_map]
  rw[← hR]
  exact⟨by rw[← ho2],M1,hs.lf⟩
 obtain⟨x,hx⟩:∃ x,S.getD i default=x:=⟨_,rfl⟩
 have hxm:x∈S:=by rw[← hx];exact getD_mem hil
 obtain⟨xs,xp⟩:=x
 obtain⟨hxs,hxp⟩:=hrx (hG.reach _ hxm)
 simp only at hxs hxp
 have g1:(sts S)[i]? = some [.lit (.int .i64 (xs:Int))]:=by unfold sts;rw[List.getElem?_map,getD_get hil,hx];rfl
 have g2:(pls S)[i]? = some [.lit (.int .i64 (xp:Int))]:=by unfold pls;rw[List.getElem?_map,getD_get hil,hx];rfl
 have l1:(sts S).length=S.length:=by simp[sts]
 have l2:(pls S).length=S.length:=by simp[pls]
 rw[drop_getD hil,hx] at hG
 have hG2:=hG.turn.pop
 have htk:S.take i++[(xs,xp)]=S.take (i+1):=by rw[List.take_add_one,getD_get hil,hx];rfl
 rw[htk] at hG2
 obtain⟨ss,hss⟩:∃ ss,n.states.getD xs default=ss:=⟨_,rfl⟩
 obtain⟨out',hout'⟩:∃ out',(if xs=sp then putN out xp else out)=out':=⟨_,rfl⟩
 have hos':out'.Pairwise (· < ·):=by
  rw[← hout'];split
  ·exact putN_sorted hos
  ·exact hos
 have hom':∀ k,k∈out'↔(sp,k)∈S.take (i+1):=fun k=>by
  rw[← hout',← htk,List.mem_append,← hom,List.mem_singleton,Prod.mk.injEq]
  split
  ·rename_i e;rw[mem_putN]
   exact⟨fun q=>by rcases q with q | q;exact .inl q;exact .inr ⟨e.symm,q⟩,fun q=>by rcases q with q | q;exact .inl q;exact .inr q.2⟩
  ·rename_i e
   exact⟨.inl,fun q=>by rcases q with q | q;exact q;exact absurd q.1.symm e⟩
 have holen:out.length≤30:=by
  have h1:out.Nodup:=hos.imp (fun h=>Nat.ne_of_lt h)
  have:=nodup_lt (M:=L.length+1) h1 (fun k hk=>by
   have:=(hrx (hG.reach _ (List.mem_of_mem_take ((hom k).1 hk)))).2
   omega)
  omega
 refine aw_seq ?_
 refine aw_of ?_
 simp -implicitDefEqProofs (disch:=omega) only[Wz,seval,hks,hkp,l1,l2]
 refine aw_seq ?_
 refine aw_block' ?_
 refine aw_seq ?_
 refine aw_quietN (n:=166) rfl (by decide) mixed ?_
 simp -implicitDefEqProofs (disch:=omega) only[Wz,seval,hks,hkp,l1,l2,g1,g2]
 refine aw_seq_cut (fun σ2=>σ2=⟨[(16,.lit (.int .i64 (xp:Int))),(15,.lit (.int .i64 (xs:Int))),(14,.lit (.int .i64 (i:Int))),(13,vO out'),(11,.own ts S.length),(12,.own tp S.length),(0,.ptr ai 0),(1,.lit (.int .i64 (c.rule:Int))),(2,.lit (.int .i64 c.level))],H1,166⟩) ?_ ?_
 ·refine aw_of ?_
  by_cases hxsp:xs=sp
  ·rw[if_pos hxsp] at hout'
   have e1:((xs:Int)==(sp:Int))=true:=beqT (by omega)
   have hpu:=rput_spec out xp (by omega)
   simp -implicitDefEqProofs (disch:=omega) only[Wz,seval,hbx,hrr,encNr,hsp,e1]
   refine CallK_pure call73 hpu (allc (pure_vO _) (allc (.lit _) alln)) (pure_vO _) ?_
   rw[hout']
   simp -implicitDefEqProofs (disch:=omega) only[Wz,seval]
   refine⟨_,?_,rfl⟩
   exact wk_lk (by simp[lk]) (fun _ _ q=>q) (fun _ _ q=>q) rfl rfl
  ·rw[if_neg hxsp] at hout'
   subst hout'
   have e1:((xs:Int)==(sp:Int))=false:=beqF (by omega)
   simp -implicitDefEqProofs (disch:=omega) only[Wz,seval,hbx,hrr,encNr,hsp,e1]
   refine⟨_,?_,rfl⟩
   exact wk_lk (by simp[lk]) (fun _ _ q=>q) (fun _ _ q=>q) rfl rfl
 rintro σ2 rfl
 refine aw_of ?_
 simp -implicitDefEqProofs (disch:=omega) only[Wz,seval,hbx,hss,encSt]
 have hmax:i+1≤S.length:=hil
 obtain⟨Pr,hPr⟩:∃ Pr,S.take (i+1)=Pr:=⟨_,rfl⟩
 have hxPr:(xs,xp)∈Pr:=by rw[← hPr,← htk];simp
 rw[hPr] at hG2 hom'
 have hsse:=(okn.edges ss (by rw[← hss];exact getD_mem hxs)).1
 obtain⟨S2,hS2⟩:∃ S2:Nat × List Sp × Hp→St,∀ k S H1,S2 (k,S,H1)=⟨[(18,.lit (.int .i64 (k:Int))),(17,.vec (ss.edges.map encE) false),(16,.lit (.int .i64 (xp:Int))),(15,.lit (.int .i64 (xs:Int))),(14,.lit (.int .i64 (i:Int))),(13,vO out'),(11,.own ts S.length),(12,.own tp S.length),(0,.ptr ai 0),(1,.lit (.int .i64 (c.rule:Int))),(2,.lit (.int .i64 c.level))],H1,166⟩:=⟨fun x=>⟨[(18,.lit (.int .i64 (x.1:Int))),(17,.vec (ss.edges.map encE) false),(16,.lit (.int .i64 (xp:Int))),(15,.lit (.int .i64 (xs:Int))),(14,.lit (.int .i64 (i:Int))),(13,vO out'),(11,.own ts x.2.1.length),(12,.own tp x.2.1.length),(0,.ptr ai 0),(1,.lit (.int .i64 (c.rule:Int))),(2,.lit (.int .i64 c.level))],x.2.2,166⟩,fun _ _ _=>rfl⟩
 refine aw_measA (A:=Nat × List Sp × Hp × Mem) (fun x=>S2 (x.1,x.2.1,x.2.2.1)) (fun x=>x.1≤ss.edges.length∧i+1≤x.2.1.length∧x.2.1.take (i+1)=Pr∧GI n o L c false Pr (fun y e=>y≠(xs,xp)∨e∈ss.edges.take x.1) x.2.1 (x.2.1.drop (i+1))∧SrH n o L rk c H ai M ts tp x.2.1 x.2.2.1 x.2.2.2) (fun x=>ss.edges.length - x.1) (0,S,H1,M1) ?_ ⟨Nat.zero_le _,hmax,hPr,by have:=hG2;simp only[hss] at this;exact this,hs⟩ ?_
 ·simp only
  rw[hS2]
  exact wk_lk (by simp[lk]) (fun _ _ q=>q) (fun _ _ q=>q) rfl rfl
 clear hG hG2 hs hks hkp hbx hlts g1 g2 l1 l2 hSl htk hom hi hil hmax hx hxm hPr hout' holen hos
 clear S H1 M1
 rintro⟨k,S,H1,M1⟩ ⟨hk,hmax,hPr,hG,hs⟩
 simp only at hk hmax hPr hG hs ⊢
 have hSl:=hSB hG
 have hks:=hs.ks
 have hkp:=hs.kp
 have hbx:=hs.lf.at'.bx
 have hbx0:=hbx
 unfold rkC at hbx0
 unfold rkC rkX encN at hbx
 simp only[List.cons_append,List.nil_append] at hbx
 rw[hS2]
 rcases Nat.lt_or_ge k ss.edges.length with hkl | hge
 rotate_left
 ·have e:k=ss.edges.length:=by omega
  subst e
  refine aw_of ?_
  simp -implicitDefEqProofs (disch:=omega) only[Wz,seval]
  have hG3:=GI.last (n:=n) (o:=o) (L:=L) (c:=c) (opn:=false) (Pr:=Pr) (S:=S) (T:=S.drop (i+1)) (x:=(xs,xp)) (by simpa only[hss] using hG)
  refine aw_of ?_
  simp -implicitDefEqProofs (disch:=omega) only[Wz,seval]
  refine⟨(i+1,out',S,H1,M1),⟨hmax,by simp only;rw[hPr];exact hG3,hos',fun k=>by simp only;rw[hPr];exact hom' k,hs⟩,by simp only;omega,?_⟩
  rw[hS1]
  exact wk_lk (by simp[lk]) (fun _ _ q=>q) (fun _ _ q=>q) rfl rfl
 obtain⟨e,he⟩:∃ e,ss.edges.getD k default=e:=⟨_,rfl⟩
 have hem:e∈(n.states.getD xs default).edges:=by rw[hss,← he];exact getD_mem hkl
 have eok:=(okn.edges ss (by rw[← hss];exact getD_mem hxs)).2 e (by rw[← he];exact getD_mem hkl)
 have hto:=w.to hxs hem
 obtain⟨tn,htn⟩:∃ tn:Nat,e.to=(tn:Int):=⟨e.to.toNat,by omega⟩
 have hRx:Rs n o L c xs xp:=hG.reach (xs,xp) (by rw[hG.part];exact .inl hxPr)
 refine aw_seq ?_
 refine aw_of ?_
 simp -implicitDefEqProofs (disch:=omega) only[Wz,seval]
 refine aw_seq ?_
 refine aw_block' ?_
 refine aw_seq ?_
 refine aw_of ?_
 simp -implicitDefEqProofs (disch:=omega) only[Wz,seval]
 refine aw_seq_cut (fun σ2=>∃ (l:List Nat) (f:Bool) (H2:Hp) (M2:Mem),(nxV n o L e c.level xp l∧l.length≤30)∧SrH n o L rk c H ai M ts tp S H2 M2∧σ2=⟨[(19,.vec (l.map rowI) f),(18,.lit (.int .i64 (k:Int))),(17,.vec (ss.edges.map encE) false),(16,.lit (.int .i64 (xp:Int))),(15,.lit (.int .i64 (xs:Int))),(14,.lit (.int .i64 (i:Int))),(13,vO out'),(11,.own ts S.length),(12,.own tp S.length),(0,.ptr ai 0),(1,.lit (.int .i64 (c.rule:Int))),(2,.lit (.int .i64 c.level))],H2,166⟩) ?_ ?_
 ·refine aw_of ?_
  have hT:=rTakes_spec n o L _ _ _ _ H1 ai (by omega) e eok xp (by omega) hbx0 hs.lf.at'.fb
  simp -implicitDefEqProofs (disch:=omega) only[Wz,seval,he]
  refine CallK_of call74 hT ?_
  rintro r' h' ⟨rfl,m,hm,rfl⟩
  have hs1:=hs.nxm hm
  cases ht:takesV L e xp with
  | true =>
   have h1:e.op.1=1:=by unfold takesV at ht;simp only[Bool.and_eq_true,decide_eq_true_eq] at ht;exact ht.1
   have hlt:¬ L.length≤xp:=by unfold takesV at ht;simp only[Bool.and_eq_true,decide_eq_true_eq] at ht;omega
   have hgv:=goV_1 (o:=o) (L:=L) (lv:=c.level) (p:=xp) h1
   rw[if_neg hlt,ht] at hgv
   have hnx:nxV n o L e c.level xp [xp+1]:=fun v=>by
    rw[hgv,List.mem_singleton]
    exact⟨fun q=>.inl ⟨rfl,q⟩,fun q=>by rcases q with q | q;exact q.2;omega⟩
   simp -implicitDefEqProofs (disch:=omega) only[Wz,seval]
   refine⟨_,?_,[xp+1],true,_,M1,⟨hnx,by simp⟩,hs1,rfl⟩
   exact wk_lk (by simp[lk,rowI]) (fun _ _ q=>q) (fun _ _ q=>q) rfl rfl
  | false =>
   by_cases h2:e.op.1=2
   ·obtain⟨d1,d2,d3⟩:=cl_lt w hrk hRx hr hp hem h2
    have hcl:=w.call hxs hem h2
    obtain⟨en,hen⟩:∃ en:Nat,e.n=(en:Int):=⟨e.n.toNat,by omega⟩
    have hlv:0≤e.level∧e.level≤65:=by
     have hk:=(w.ed xs hxs e hem).2.2.1
     unfold kindV at hk
     rw[if_neg (by omega),if_neg (by omega),if_pos h2] at hk
     unfold kd2 at hk
     simp only[Bool.and_eq_true,decide_eq_true_eq] at hk
     exact hk.2.2.1
    rw[hen,Int.toNat_natCast] at d1 d3
    have hc:=hE ⟨en,e.level,xp⟩ d1 d2 hlv.1 hlv.2 d3 _ ai M1 hs1.lf.at' hs1.lf.ok
    have hgv:=goV_n (o:=o) (L:=L) (e:=e) (lv:=c.level) (p:=xp) (by omega)
    rw[if_pos h2] at hgv
    have hnx:nxV n o L e c.level xp (whL n o L ⟨en,e.level,xp⟩):=fun v=>by
     rw[hgv,mem_whL,hen,Int.toNat_natCast]
     constructor
     ·intro q;exact .inr ⟨h2,q.2⟩
     ·intro q
      rcases q with q | q
      ·cases q.1
      ·exact⟨(Rs.le w q.2 d1 d2).2.1,q.2⟩
    simp -implicitDefEqProofs (disch:=omega) only[Wz,seval,he,encE,h2]
    refine aw_drawQ (n:=166) 12 (.alt 12 (.alt 13 .leaf .nil) .nil) rfl (by decide) (by decide) mixed (by kernel_rfl) (by decide) ?_
    simp -implicitDefEqProofs (disch:=omega) only[Wz,seval,he,encE,hen]
    refine CallK_of call31 hc ?_
    rintro r' h' ⟨rfl,M2,hl⟩
    simp -implicitDefEqProofs (disch:=omega) only[Wz,seval]
    refine⟨_,?_,whL n o L ⟨en,e.level,xp⟩,(whL n o L ⟨en,e.level,xp⟩).isEmpty,h',M2,⟨hnx,Nat.le_trans whL_len (by omega)⟩,hs1.call d3 (fun k hk=>Cl.lt_tr hk d3) hl,rfl⟩
    exact wk_lk (by simp[lk,vO]) (fun _ _ q=>q) (fun _ _ q=>q) rfl rfl
   ·have hbx1:lk ({H1 with nx:=m}:Hp).boxes ai=some (rkX n o (itA L) (grA M1.tk (M1.K.map encCl)) (grA M1.te (M1.E.map rowE)) (grA M1.tp (M1.P.map encCl)) (grA M1.tb (M1.B.map encBo))):=hbx0
    have hGo:=rGoes_spec n o L _ _ _ _ {H1 with nx:=m} ai (by omega) ho e eok c.level xp (by omega) hbx1 hs1.lf.at'.fb
    simp -implicitDefEqProofs (disch:=omega) only[Wz,seval,he,encE,h2]
    refine CallK_of call75 hGo ?_
    rintro r' h' ⟨rfl,m2,hm2,rfl⟩
    have hs3:=hs1.nxm hm2
    have hgv:(goV o L e c.level xp).2=goesV o L e c.level xp∧(goesV o L e c.level xp=true→(goV o L e c.level xp).1=0):=by
     by_cases h1:e.op.1=1
     ·have e1:goesV o L e c.level xp=false:=by unfold goesV;rw[if_pos h1]
      rw[goV_1 h1,ht,e1]
      exact⟨rfl,fun q=>by cases q⟩
     ·rw[goV_n h1,if_neg h2];exact⟨rfl,fun _=>rfl⟩
    cases hg:goesV o L e c.level xp with
    | true =>
     rw[hg] at hgv
     have hnx:nxV n o L e c.level xp [xp]:=fun v=>by
      rw[hgv.1,hgv.2 rfl,List.mem_singleton]
      exact⟨fun q=>.inl ⟨rfl,q⟩,fun q=>by rcases q with q | q;exact q.2;exact absurd q.1 h2⟩
     simp -implicitDefEqProofs (disch:=omega) only[Wz,seval]
     refine⟨_,?_,[xp],true,_,M1,⟨hnx,by simp⟩,hs3,rfl⟩
     exact wk_lk (by simp[lk,rowI]) (fun _ _ q=>q) (fun _ _ q=>q) rfl rfl
    | false =>
     rw[hg] at hgv
     have hnx:nxV n o L e c.level xp []:=fun v=>by
      rw[hgv.1]
      exact⟨fun q=>(by cases q),fun q=>by rcases q with q | q;cases q.1;exact absurd q.1 h2⟩
     simp -implicitDefEqProofs (disch:=omega) only[Wz,seval]
     refine⟨_,?_,[],true,_,M1,⟨hnx,by simp⟩,hs3,rfl⟩
     exact wk_lk (by simp[lk]) (fun _ _ q=>q) (fun _ _ q=>q) rfl rfl
 rintro σ2 ⟨l,f,H2,M2,⟨hnx,hll⟩,hs2,rfl⟩
 refine aw_of ?_
 simp -implicitDefEqProofs (disch:=omega) only[Wz,seval]
 clear hks hkp hbx hbx0 hSl hs
 obtain⟨S4,hS4⟩:∃ S4:Nat × List Sp × Hp→St,∀ j S H1,S4 (j,S,H1)=⟨[(20,.lit (.int .i64 (j:Int))),(19,.vec (l.map rowI) f),(18,.lit (.int .i64 (k:Int))),(17,.vec (ss.edges.map encE) false),(16,.lit (.int .i64 (xp:Int))),(15,.lit (.int .i64 (xs:Int))),(14,.lit (.int .i64 (i:Int))),(13,vO out'),(11,.own ts S.length),(12,.own tp S.length),(0,.ptr ai 0),(1,.lit (.int .i64 (c.rule:Int))),(2,.lit (.int .i64 c.level))],H1,166⟩:=⟨fun x=>⟨[(20,.lit (.int .i64 (x.1:Int))),(19,.vec (l.map rowI) f),(18,.lit (.int .i64 (k:Int))),(17,.vec (ss.edges.map encE) false),(16,.lit (.int .i64 (xp:Int))),(15,.lit (.int .i64 (xs:Int))),(14,.lit (.int .i64 (i:Int))),(13,vO out'),(11,.own ts x.2.1.length),(12,.own tp x.2.1.length),(0,.ptr ai 0),(1,.lit (.int .i64 (c.rule:Int))),(2,.lit (.int .i64 c.level))],x.2.2,166⟩,fun _ _ _=>rfl⟩
 refine aw_measA (A:=Nat × List Sp × Hp × Mem) (fun x=>S4 (x.1,x.2.1,x.2.2.1)) (fun x=>x.1≤l.length∧i+1≤x.2.1.length∧x.2.1.take (i+1)=Pr∧GI n o L c false Pr (fun y e=>y≠(xs,xp)∨e∈ss.edges.take k) x.2.1 (x.2.1.drop (i+1))∧SrH n o L rk c H ai M ts tp x.2.1 x.2.2.1 x.2.2.2∧∀ v∈l.take x.1,(tn,v)∈x.2.1) (fun x=>l.length - x.1) (0,S,H2,M2) ?_ ⟨Nat.zero_le _,hmax,hPr,hG,hs2,fun v hv=>by cases hv⟩ ?_
 ·simp only
  rw[hS4]
  exact wk_lk (by simp[lk]) (fun _ _ q=>q) (fun _ _ q=>q) rfl rfl
 clear hmax hPr hG hs2
 clear S H2 M2 H1 M1
 rintro⟨j,S,H1,M1⟩ ⟨hj,hmax,hPr,hG,hs,hin⟩
 simp only at hj hmax hPr hG hs hin ⊢
 have hSl:=hSB hG
 have hks:=hs.ks
 have hkp:=hs.kp
 have l1:(sts S).length=S.length:=by simp[sts]
 have l2:(pls S).length=S.length:=by simp[pls]
 rw[hS4]
 rcases Nat.lt_or_ge j l.length with hjl | hge
 rotate_left
 ·have e1:j=l.length:=by omega
  subst e1
  rw[List.take_length] at hin
  have hcl:ClosE n o L c S (xs,xp) e:=⟨fun q=>by
   have:=hin _ ((hnx _).2 (.inl ⟨q,rfl⟩))
   rw[htn,Int.toNat_natCast];exact this,fun q v hv=>by
   have:=hin _ ((hnx _).2 (.inr ⟨q,hv⟩))
   rw[htn,Int.toNat_natCast];exact this⟩
  have hG3:=GI.edge (n:=n) (o:=o) (L:=L) (c:=c) (opn:=false) (Pr:=Pr) (S:=S) (T:=S.drop (i+1)) (x:=(xs,xp)) (k:=k) (by simp only[hss];exact hkl) (by simp only[hss];exact hG) (by simp only[hss];rw[he];exact hcl) (fun q=>by cases q)
  refine aw_of ?_
  simp -implicitDefEqProofs (disch:=omega) only[Wz,seval]
  refine aw_of ?_
  simp -implicitDefEqProofs (disch:=omega) only[Wz,seval]
  refine⟨(k+1,S,H1,M1),⟨by simp only;omega,hmax,hPr,by simpa only[hss] using hG3,hs⟩,by simp only;omega,?_⟩
  simp only
  rw[hS2]
  exact wk_lk (by simp[lk]) (fun _ _ q=>q) (fun _ _ q=>q) rfl rfl
 obtain⟨v,hv⟩:∃ v,l.getD j default=v:=⟨_,rfl⟩
 have hvl:v∈l:=by rw[← hv];exact getD_mem hjl
 have hRy:Rs n o L c tn v:=by
  have e1:e.to.toNat=tn:=by rw[htn];rfl
  rcases(hnx v).1 hvl with q | q
  ·have:=Rs.edge hRx hem q.1;rw[e1] at this;rw[q.2];exact this
  ·have:=Rs.call hRx hem q.1 q.2;rw[e1] at this;exact this
 have g3:∀ z:Sp,rowI z.1=[.lit (.int .i64 (z.1:Int))]:=fun _=>rfl
 refine aw_seq ?_
 refine aw_of ?_
 simp -implicitDefEqProofs (disch:=omega) only[Wz,seval]
 refine aw_seq ?_
 refine aw_block' ?_
 refine aw_seq ?_
 refine aw_of ?_
 simp -implicitDefEqProofs (disch:=omega) only[Wz,seval]
 refine aw_seq_cut (fun σ2=>σ2=⟨[(21,.lit (.bool (decide ((tn,v)∈S)))),(20,.lit (.int .i64 (j:Int))),(19,.vec (l.map rowI) f),(18,.lit (.int .i64 (k:Int))),(17,.vec (ss.edges.map encE) false),(16,.lit (.int .i64 (xp:Int))),(15,.lit (.int .i64 (xs:Int))),(14,.lit (.int .i64 (i:Int))),(13,vO out'),(11,.own ts S.length),(12,.own tp S.length),(0,.ptr ai 0),(1,.lit (.int .i64 (c.rule:Int))),(2,.lit (.int .i64 c.level))],H1,166⟩) ?_ ?_
 ·refine aw_of ?_
  simp -implicitDefEqProofs (disch:=omega) only[Wz,seval]
  refine aw_measA (fun m:Nat=>⟨[(22,.lit (.int .i64 (m:Int))),(21,.lit (.bool (decide ((tn,v)∈S.take m)))),(20,.lit (.int .i64 (j:Int))),(19,.vec (l.map rowI) f),(18,.lit (.int .i64 (k:Int))),(17,.vec (ss.edges.map encE) false),(16,.lit (.int .i64 (xp:Int))),(15,.lit (.int .i64 (xs:Int))),(14,.lit (.int .i64 (i:Int))),(13,vO out'),(11,.own ts S.length),(12,.own tp S.length),(0,.ptr ai 0),(1,.lit (.int .i64 (c.rule:Int))),(2,.lit (.int .i64 c.level))],H1,166⟩) (fun m=>m≤S.length) (fun m=>S.length - m) 0 (wk_lk (by simp[lk]) (fun _ _ q=>q) (fun _ _ q=>q) rfl rfl) (Nat.zero_le _) ?_
  intro m hm
  refine aw_of ?_
  rcases Nat.lt_or_ge m S.length with hml | hge
  rotate_left
  ·have e1:m=S.length:=by omega
   subst e1
   simp -implicitDefEqProofs (disch:=omega) only[Wz,seval,hks,l1]
   refine⟨_,?_,rfl⟩
   exact wk_lk (by simp[lk]) (fun _ _ q=>q) (fun _ _ q=>q) rfl rfl
  obtain⟨z,hz⟩:∃ z,S.getD m default=z:=⟨_,rfl⟩
  have g1:(sts S)[m]? = some [.lit (.int .i64 (z.1:Int))]:=by unfold sts;rw[List.getElem?_map,getD_get hml,hz];rfl
  have g2:(pls S)[m]? = some [.lit (.int .i64 (z.2:Int))]:=by unfold pls;rw[List.getElem?_map,getD_get hml,hz];rfl
  have hts2:S.take (m+1)=S.take m++[z]:=by rw[List.take_add_one,getD_get hml,hz];rfl
  simp -implicitDefEqProofs (disch:=omega) only[Wz,seval,hks,l1]
  refine aw_quietN (n:=166) rfl (by decide) mixed ?_
  cases hb:decide ((tn,v)∈S.take m) with
  | true =>
   have hb2:decide ((tn,v)∈S.take (m+1))=true:=decide_eq_true (by rw[hts2,List.mem_append];exact .inl (of_decide_eq_true hb))
   simp -implicitDefEqProofs (disch:=omega) only[Wz,seval,List.append_eq,List.cons_append,List.nil_append]
   exact⟨m+1,by omega,by omega,wk_lk (by simp[lk,hb2]) (fun _ _ q=>q) (fun _ _ q=>q) rfl rfl⟩
  | false =>
   have hbn:=of_decide_eq_false hb
   by_cases z1:z.1=tn
   ·by_cases z2:z.2=v
    ·have hb2:decide ((tn,v)∈S.take (m+1))=true:=decide_eq_true (by rw[hts2,List.mem_append];right;rw[← z1,← z2];simp)
     have e1:((z.1:Int)==(tn:Int))=true:=beqT (by omega)
     have e2:((z.2:Int)==(v:Int))=true:=beqT (by omega)
     simp -implicitDefEqProofs (disch:=omega) only[Wz,seval,hks,hkp,l1,l2,g1,g2,he,encE,htn,hv,rowI,e1,e2,List.append_eq,List.cons_append,List.nil_append]
     exact⟨m+1,by omega,by omega,wk_lk (by simp[lk,hb2]) (fun _ _ q=>q) (fun _ _ q=>q) rfl rfl⟩
    ·have hb2:decide ((tn,v)∈S.take (m+1))=false:=decide_eq_false (by rw[hts2,List.mem_append];rintro(q | q);exact hbn q;exact z2 (by simp only[List.mem_singleton] at q;rw[← q]))
     have e1:((z.1:Int)==(tn:Int))=true:=beqT (by omega)
     have e2:((z.2:Int)==(v:Int))=false:=beqF (by omega)
     simp -implicitDefEqProofs (disch:=omega) only[Wz,seval,hks,hkp,l1,l2,g1,g2,he,encE,htn,hv,rowI,e1,e2,List.append_eq,List.cons_append,List.nil_append]
     exact⟨m+1,by omega,by omega,wk_lk (by simp[lk,hb2]) (fun _ _ q=>q) (fun _ _ q=>q) rfl rfl⟩
   ·have hb2:decide ((tn,v)∈S.take (m+1))=false:=decide_eq_false (by rw[hts2,List.mem_append];rintro(q | q);exact hbn q;exact z1 (by simp only[List.mem_singleton] at q;rw[← q]))
    have e1:((z.1:Int)==(tn:Int))=false:=beqF (by omega)
    simp -implicitDefEqProofs (disch:=omega) only[Wz,seval,hks,hkp,l1,l2,g1,g2,he,encE,htn,hv,rowI,e1,List.append_eq,List.cons_append,List.nil_append]
    exact⟨m+1,by omega,by omega,wk_lk (by simp[lk,hb2]) (fun _ _ q=>q) (fun _ _ q=>q) rfl rfl⟩
 rintro σ2 rfl
 refine aw_of ?_
 have tkj:∀ u∈l.take (j+1),u∈l.take j∨u=v:=fun u hu=>by
  rw[List.take_add_one,getD_get hjl,hv] at hu
  simpa using hu
 cases hb:decide ((tn,v)∈S) with
 | true =>
  have hbm:=of_decide_eq_true hb
  simp -implicitDefEqProofs (disch:=omega) only[Wz,seval]
  refine aw_of ?_
  simp -implicitDefEqProofs (disch:=omega) only[Wz,seval]
  refine⟨(j+1,S,H1,M1),⟨by simp only;omega,hmax,hPr,hG,hs,fun u hu=>?_⟩,by simp only;omega,?_⟩
  ·rcases tkj u hu with q | q
   ·exact hin u q
   ·rw[q];exact hbm
  ·simp only
   rw[hS4]
   exact wk_lk (by simp[lk]) (fun _ _ q=>q) (fun _ _ q=>q) rfl rfl
 | false =>
  have hbn:=of_decide_eq_false hb
  have hG2:=hG.put hRy hbn
  have hs2:=hs.put (tn,v)
  have hfit:fits (S.length+1) 8:=fits_of' (by omega) (by omega)
  have hne1:(ts=tp)=False:=eq_false hs.ne
  have hne2:(tp=ts)=False:=eq_false fun q=>hs.ne q.symm
  have hku:∀ k',lk (up H1.toks ts k') tp=some ⟨pls S,0,1⟩:=fun k'=>by rw[lk_up,if_neg hs.ne,hkp]
  have r1:sts S++[[.lit (.int .i64 (tn:Int))]]=sts (S++[(tn,v)]):=by simp[sts,rowI]
  have r2:pls S++[[.lit (.int .i64 (v:Int))]]=pls (S++[(tn,v)]):=by simp[pls,rowI]
  simp -implicitDefEqProofs (disch:=omega) only[Wz,seval,hks,hku,l1,l2,he,encE,htn,hv,rowI,hfit,r1,r2,List.mem_singleton,forall_eq,if_true,List.length_cons,List.length_nil]
  refine aw_of ?_
  simp -implicitDefEqProofs (disch:=omega) only[Wz,seval]
  have hm1:(S++[(tn,v)]).length=S.length+1:=by simp
  refine⟨(j+1,S++[(tn,v)],⟨H1.boxes,up (up H1.toks ts ⟨sts (S++[(tn,v)]),0,1⟩) tp ⟨pls (S++[(tn,v)]),0,1⟩,H1.nx⟩,M1),⟨by simp only;omega,by simp only;omega,by simp only;rw[List.take_append_of_le_length hmax];exact hPr,by simp only;rw[List.drop_append_of_le_length hmax];exact hG2,hs2,fun u hu=>?_⟩,by simp only;omega,?_⟩
  ·simp only
   rw[List.mem_append]
   rcases tkj u hu with q | q
   ·exact .inl (hin u q)
   ·right;rw[q];simp
  ·simp only
   rw[hS4,hm1]
   exact wk_lk (by simp[lk]) (fun _ _ q=>q) (fun _ _ q=>q) rfl rfl
end Go.Proofs.YtbbnfbnicacdoaaGreat
end
section
namespace Go.Proofs.YtbbnfbnicacdoaaGreat
open Go Go.Ab
set_option maxRecDepth 20000
set_option maxHeartbeats 16000000
theorem grT_ne{t s:Nat}{rows:List (List AV)}(h:rows≠[]):grT t s rows=[(t,⟨rows,0,s⟩)]:=by
 cases rows with
 | nil=>exact absurd rfl h
 | cons x l=>rfl
theorem grA_ne{t:Nat}{rows:List (List AV)}(h:rows≠[]):grA t rows = .own t rows.length:=by
 cases rows with
 | nil=>exact absurd rfl h
 | cons x l=>rfl
def Mem.putE(M:Mem)(c:Cl)(l:List Nat)(tk te:Nat):Mem:={M with K:=M.K++[c],E:=M.E++[l],tk:=tk,te:=te}
section
variable {n:Nt} {o:List Orc} {L:List It} {H:Hp} {ai:Nat} {M:Mem}
theorem toksE_ne{c:Cl}{l:List Nat}{tk te:Nat}:(M.putE c l tk te).toks=(tk,(⟨(M.K++[c]).map encCl,0,3⟩:Tk)) :: (te,⟨(M.E++[l]).map rowE,0,1⟩) :: (grT M.tp 3 (M.P.map encCl)++grT M.tb 1 (M.B.map encBo)):=by
 unfold Mem.toks Mem.putE
 simp only
 rw[grT_ne (by simp),grT_ne (by simp)]
 rfl
theorem AtR.newE(h:AtR n o L H ai M)(hK:M.K=[])(hE:M.E=[])(c:Cl)(l:List Nat) :
  AtR n o L ⟨up H.boxes ai (rkC n o L (M.putE c l H.nx (H.nx+1))),H.toks++[(H.nx,⟨[encCl c],0,3⟩)]++[(H.nx+1,⟨[rowE l],0,1⟩)],H.nx+1+1⟩ ai (M.putE c l H.nx (H.nx+1)) ∧
  FrmR H ai M ⟨up H.boxes ai (rkC n o L (M.putE c l H.nx (H.nx+1))),H.toks++[(H.nx,⟨[encCl c],0,3⟩)]++[(H.nx+1,⟨[rowE l],0,1⟩)],H.nx+1+1⟩ (M.putE c l H.nx (H.nx+1)):=by
 have hlt:=h.lt
 have hM:M.toks=grT M.tp 3 (M.P.map encCl)++grT M.tb 1 (M.B.map encBo):=by unfold Mem.toks;rw[hK,hE];rfl
 have hN:(M.putE c l H.nx (H.nx+1)).toks=(H.nx,(⟨[encCl c],0,3⟩:Tk)) :: (H.nx+1,⟨[rowE l],0,1⟩) :: M.toks:=by rw[toksE_ne,hM,hK,hE];rfl
 have hNn:(M.putE c l H.nx (H.nx+1)).names=H.nx :: (H.nx+1) :: M.names:=by unfold Mem.names;rw[hN];rfl
 have old:∀ i,i<H.nx→lk (H.toks++[(H.nx,(⟨[encCl c],0,3⟩:Tk))]++[(H.nx+1,⟨[rowE l],0,1⟩)]) i=lk H.toks i:=fun i hi=>by
  rw[lk_app,lk_app];simp only[lk];rw[if_neg (by omega),if_neg (by omega),Option.or_none,Option.or_none]
 refine⟨⟨?_,fun i hi=>?_,fun i hi=>?_,fun q hq=>?_,?_⟩,⟨by show H.nx≤H.nx+1+1;omega,fun i hi hne=>?_,fun i hi _=>old i hi,fun i hi=>?_⟩⟩
 ·show lk (up _ _ _) ai=_
  rw[lk_up,if_pos rfl,h.bx];rfl
 ·have hi:H.nx+1+1≤i:=hi
  show lk (up _ _ _) i=_
  rw[lk_up,if_neg (by omega)];exact h.fb i (by omega)
 ·have hi:H.nx+1+1≤i:=hi
  show lk (_++_++_) i=_
  rw[lk_app,lk_app,h.ft i (by omega)];simp only[lk];rw[if_neg (by omega),if_neg (by omega)];rfl
 ·rw[hN] at hq
  show lk (_++_++_) q.1=_
  rcases List.mem_cons.1 hq with r | r
  ·subst r;rw[lk_app,lk_app,h.ft _ (Nat.le_refl _)];simp[lk]
  ·rcases List.mem_cons.1 r with r | r
   ·subst r;rw[lk_app,lk_app,h.ft _ (Nat.le_succ _)];simp[lk]
   ·rw[old _ (h.nlt _ (List.mem_map.2 ⟨q,r,rfl⟩))];exact h.tk q r
 ·rw[hNn,List.nodup_cons,List.nodup_cons]
  refine⟨fun q=>?_,fun q=>?_,h.nd⟩
  ·rcases List.mem_cons.1 q with r | r
   ·omega
   ·have:=h.nlt _ r;omega
  ·have:=h.nlt _ q;omega
 ·show lk (up _ _ _) i=_
  rw[lk_up,if_neg (fun q=>hne q.symm)]
 ·rw[hNn] at hi
  rcases List.mem_cons.1 hi with r | r
  ·right;omega
  ·rcases List.mem_cons.1 r with r | r
   ·right;omega
   ·exact .inl r
theorem AtR.oldE(h:AtR n o L H ai M)(hK:M.K≠[])(hE:M.E≠[])(c:Cl)(l:List Nat) :
  M.tk≠M.te∧lk H.toks M.tk=some ⟨M.K.map encCl,0,3⟩∧lk H.toks M.te=some ⟨M.E.map rowE,0,1⟩ ∧
  AtR n o L ⟨up H.boxes ai (rkC n o L (M.putE c l M.tk M.te)),up (up H.toks M.tk ⟨(M.K++[c]).map encCl,0,3⟩) M.te ⟨(M.E++[l]).map rowE,0,1⟩,H.nx⟩ ai (M.putE c l M.tk M.te) ∧
  FrmR H ai M ⟨up H.boxes ai (rkC n o L (M.putE c l M.tk M.te)),up (up H.toks M.tk ⟨(M.K++[c]).map encCl,0,3⟩) M.te ⟨(M.E++[l]).map rowE,0,1⟩,H.nx⟩ (M.putE c l M.tk M.te):=by
 have hlt:=h.lt
 obtain⟨Rst,hRst⟩:∃ Rst,grT M.tp 3 (M.P.map encCl)++grT M.tb 1 (M.B.map encBo)=Rst:=⟨_,rfl⟩
 have hM:M.toks=(M.tk,(⟨M.K.map encCl,0,3⟩:Tk)) :: (M.te,⟨M.E.map rowE,0,1⟩) :: Rst:=by
  unfold Mem.toks
  rw[grT_ne (rows:=M.K.map encCl) (by simpa using hK),grT_ne (rows:=M.E.map rowE) (by simpa using hE),← hRst];rfl
 have hN:(M.putE c l M.tk M.te).toks=(M.tk,(⟨(M.K++[c]).map encCl,0,3⟩:Tk)) :: (M.te,⟨(M.E++[l]).map rowE,0,1⟩) :: Rst:=by rw[toksE_ne,hRst]
 have hnd:=h.nd
 have hnn:M.names=M.tk :: M.te :: Rst.map Prod.fst:=by unfold Mem.names;rw[hM];rfl
 have hNn:(M.putE c l M.tk M.te).names=M.names:=by unfold Mem.names;rw[hN,hM];rfl
 have hl:=h.nlt
 rw[hnn,List.nodup_cons,List.nodup_cons] at hnd
 have hne:M.tk≠M.te:=fun q=>hnd.1 (by rw[q];simp)
 have k1:=h.tk (M.tk,⟨M.K.map encCl,0,3⟩) (by rw[hM];simp)
 have k2:=h.tk (M.te,⟨M.E.map rowE,0,1⟩) (by rw[hM];simp)
 simp only at k1 k2
 have l1:=hl M.tk (by rw[hnn];simp)
 have l2:=hl M.te (by rw[hnn];simp)
 have oth:∀ i,i≠M.tk→i≠M.te→∀ a b,lk (up (up H.toks M.tk a) M.te b) i=lk H.toks i:=fun i e1 e2 a b=>by
  rw[lk_up,if_neg (fun q=>e2 q.symm),lk_up,if_neg (fun q=>e1 q.symm)]
 refine⟨hne,k1,k2,⟨?_,fun i hi=>?_,fun i hi=>?_,fun q hq=>?_,by rw[hNn];exact h.nd⟩,⟨Nat.le_refl _,fun i hi hne=>?_,fun i hi hm=>?_,fun i hi=>by rw[hNn] at hi;exact .inl hi⟩⟩
 ·show lk (up _ _ _) ai=_
  rw[lk_up,if_pos rfl,h.bx];rfl
 ·have hi:H.nx≤i:=hi
  show lk (up _ _ _) i=_
  rw[lk_up,if_neg (by omega)];exact h.fb i hi
 ·have hi:H.nx≤i:=hi
  show lk (up (up _ _ _) _ _) i=_
  rw[oth i (by omega) (by omega)];exact h.ft i hi
 ·rw[hN] at hq
  show lk (up (up _ _ _) _ _) q.1=_
  rcases List.mem_cons.1 hq with r | r
  ·subst r;rw[lk_up,if_neg (fun q=>hne q.symm),lk_up,if_pos rfl,k1];rfl
  ·rcases List.mem_cons.1 r with r | r
   ·subst r;rw[lk_up,if_pos rfl,lk_up,if_neg hne,k2];rfl
   ·have m:q.1∈Rst.map Prod.fst:=List.mem_map.2 ⟨q,r,rfl⟩
    rw[oth q.1 (fun e=>hnd.1 (by rw[← e];simp[m])) (fun e=>hnd.2.1 (by rw[← e];exact m))]
    exact h.tk q (by rw[hM];simp[r])
 ·show lk (up _ _ _) i=_
  rw[lk_up,if_neg (fun q=>hne q.symm)]
 ·show lk (up (up _ _ _) _ _) i=_
  rw[hnn] at hm
  exact oth i (fun e=>hm (by rw[e];simp)) (fun e=>hm (by rw[e];simp)) _ _
theorem getD_app{α:Type}{l:List α}{x d:α}{i:Nat}(h:i<l.length+1):(l++[x]).getD i d=if i<l.length then l.getD i d else x:=by
 simp only[List.getD_eq_getElem?_getD]
 split
 ·rename_i q;rw[List.getElem?_append_left q]
 ·rename_i q
  have:i=l.length:=by omega
  subst this
  rw[List.getElem?_append_right (Nat.le_refl _)];simp
theorem MOk.putE(h:MOk n o L M){c:Cl}(hc:c∉M.K)(hb:c.rule<100∧0≤c.level∧c.level≤65∧c.pos≤25)(tk te:Nat):MOk n o L (M.putE c (whL n o L c) tk te):=by
 refine⟨by simp[Mem.putE,h.lE],h.lB,fun i hi=>?_,h.okB,?_,h.ndP,fun k hk=>?_,h.bdP⟩
 ·have hi:i<M.K.length+1:=by simpa [Mem.putE] using hi
  show (M.E++[whL n o L c]).getD i []=whL n o L ((M.K++[c]).getD i ⟨0,0,0⟩)
  rw[getD_app (by rw[h.lE];exact hi),getD_app hi,h.lE]
  split
  ·rename_i q;exact h.okE i q
  ·rfl
 ·show (M.K++[c]).Nodup
  rw[List.nodup_append]
  exact⟨h.ndK,by simp,fun a ha b hb' e=>hc (by simp only[List.mem_singleton] at hb';rw[← hb',← e];exact ha)⟩
 ·rcases List.mem_append.1 hk with q | q
  ·exact h.bdK k q
  ·simp only[List.mem_singleton] at q;rw[q];exact hb
end
theorem keys_le{K:List Cl}(nd:K.Nodup)(hb:∀ c∈K,c.rule<100∧0≤c.level∧c.level≤65∧c.pos≤25):K.length≤200000:=by
 have nd2:(K.map fun c=>(c.rule * 66+c.level.toNat) * 26+c.pos).Nodup:=by
  rw[List.nodup_iff_pairwise_ne,List.pairwise_map]
  rw[List.nodup_iff_pairwise_ne] at nd
  refine nd.imp_of_mem ?_
  intro a b ha hb2 hab q
  obtain⟨a1,a2,a3,a4⟩:=hb a ha
  obtain⟨b1,b2,b3,b4⟩:=hb b hb2
  apply hab
  obtain⟨r,l,p⟩:=a
  obtain⟨r',l',p'⟩:=b
  simp only at q a1 a2 a3 a4 b1 b2 b3 b4
  have e1:p=p':=by omega
  have e2:r=r'∧l=l':=by omega
  rw[e1,e2.1,e2.2]
 have:=nodup_lt (M:=200000) nd2 (fun y hy=>by
  obtain⟨c,hc,rfl⟩:=List.mem_map.1 hy
  obtain⟨a1,a2,a3,a4⟩:=hb c hc
  omega)
 simpa using this
end Go.Proofs.YtbbnfbnicacdoaaGreat
end
section
namespace Go.Proofs.YtbbnfbnicacdoaaGreat
open Go Go.Ab
set_option maxRecDepth 20000
set_option maxHeartbeats 16000000
theorem cl_ne{a b:Cl}(h:¬ a=b):(((a.rule:Int)==(b.rule:Int)) && ((a.level==b.level) && ((a.pos:Int)==(b.pos:Int))))=false:=by
 cases q:(((a.rule:Int)==(b.rule:Int)) && ((a.level==b.level) && ((a.pos:Int)==(b.pos:Int)))) with
 | false=>rfl
 | true =>
  simp only[Bool.and_eq_true,beq_iff_eq] at q
  obtain⟨r,l,p⟩:=a
  obtain⟨r',l',p'⟩:=b
  simp only at q
  exact absurd (by rw[Int.natCast_inj.1 q.1,q.2.1,Int.natCast_inj.1 q.2.2]) h
theorem guard111:Tryz.prog.eqGuardType Tryz.prog.depth 111=false:=by kernel_rfl
theorem rEnd_spec(n:Nt)(o:List Orc)(L:List It)(w:Wf n)(okn:NtOk n)(rk:Nat→Nat)(hrk:Rk n rk)(ho:o.length≤1000000000)(hL:L.length≤25):∀ c:Cl,c.rule<n.rules.length→c.pos≤L.length→(0≤c.level→c.level≤65→EndC n o L rk c):=by
 refine cl_ind (n:=n) (L:=L) rk (P:=fun c=>0≤c.level→c.level≤65→EndC n o L rk c) ?_
 intro c hr hp ih hl0 hl1 H ai M hA hM
 have hF:=rFrom_spec n o L w okn rk hrk ho hL c hr hp (fun d a b l1 l2 hlt=>ih d a b hlt l1 l2)
 obtain⟨R,hR⟩:∃ R:AV→Hp→Prop,(fun r h'=>r=vO (whL n o L c)∧∃ M',LftR n o L rk c true H ai M h' M')=R:=⟨_,rfl⟩
 rw[hR]
 refine SCall_introK Tryz.func31 rfl Tryz.ntmps31 (rs:=[.tmp 8]) rfl (by simp) ?_
 have hst:=w.nst
 have hru:=w.nru
 have hsr:=w.start hr
 obtain⟨r,hrr⟩:∃ r,n.rules.getD c.rule default=r:=⟨_,rfl⟩
 rw[hrr] at hsr
 obtain⟨st,hst2⟩:∃ st:Nat,r.start=(st:Int):=⟨r.start.toNat,by omega⟩
 have hstN:stN n c.rule=st:=by unfold stN;rw[hrr,hst2];rfl
 rw[hstN] at hF
 have hnb:∀ x,lk (H.boxes++[(H.nx,x)]) H.nx=some x:=fun x=>by rw[lk_app,hA.fb _ (Nat.le_refl _)];simp[lk]
 have hub:∀ a b,up (H.boxes++[(H.nx,a)]) H.nx b=H.boxes++[(H.nx,b)]:=fun a b=>up_app (hA.fb _ (Nat.le_refl _))
 refine aw_seq ?_
 refine aw_of ?_
 simp -implicitDefEqProofs (disch:=omega) only[Wz,seval]
 refine aw_seq ?_
 refine aw_of ?_
 simp -implicitDefEqProofs (disch:=omega) only[Wz,seval,hnb,hub]
 obtain⟨hk9,hhk⟩:∃ hk9,H.nx=hk9:=⟨_,rfl⟩
 obtain⟨H1,hH1⟩:∃ H1:Hp,(⟨H.boxes++[(H.nx,encCl c)],H.toks,H.nx+1⟩:Hp)=H1:=⟨_,rfl⟩
 have a1:AtR n o L H1 ai M:=by rw[← hH1];exact hA.addB _
 have f1:FrmR H ai M H1 M:=by rw[← hH1];exact FrmR.addB _
 have b1:lk H1.boxes hk9=some [.lit (.int .i64 (c.rule:Int)),.lit (.int .i64 c.level),.lit (.int .i64 (c.pos:Int))]:=by rw[← hH1,← hhk];exact hnb _
 have hkl:hk9<H1.nx:=by rw[← hH1,← hhk];exact Nat.lt_succ_self _
 have hkne:hk9≠ai:=by have:=hA.lt;omega
 have hKl:=keys_le hM.ndK hM.bdK
 refine aw_seq_cut (fun σ2=>c∉M.K∧σ2=⟨[(9,.ptr hk9 0),(0,.ptr ai 0),(1,.lit (.int .i64 (c.rule:Int))),(2,.lit (.int .i64 c.level)),(3,.lit (.int .i64 (c.pos:Int)))],H1,76⟩) ?_ ?_
 ·have hbx:=a1.bx
  unfold rkC rkX encN at hbx
  simp only[List.cons_append,List.nil_append] at hbx
  refine aw_of ?_
  simp -implicitDefEqProofs (disch:=omega) only[Wz,seval]
  obtain⟨S1,hS1⟩:∃ S1:Nat→St,∀ i,S1 i=⟨[(10,.lit (.int .i64 (i:Int))),(9,.ptr hk9 0),(0,.ptr ai 0),(1,.lit (.int .i64 (c.rule:Int))),(2,.lit (.int .i64 c.level)),(3,.lit (.int .i64 (c.pos:Int)))],H1,76⟩:=⟨_,fun _=>rfl⟩
  refine aw_measA S1 (fun i=>i≤M.K.length∧c∉M.K.take i) (fun i=>M.K.length - i) 0 ?_ ⟨Nat.zero_le _,by simp⟩ ?_
  ·rw[hS1,← hH1,← hhk]
   exact wk_lk (by simp[lk]) (fun _ _ q=>q) (fun _ _ q=>q) rfl rfl
  rintro i ⟨hi,hin⟩
  rw[hS1]
  refine aw_of ?_
  rcases Nat.lt_or_ge i M.K.length with hil | hge
  rotate_left
  ·have e:i=M.K.length:=by omega
   subst e
   rw[List.take_length] at hin
   by_cases hKe:M.K=[]
   ·rw[hKe] at hbx
    simp only[List.map_nil,grA] at hbx
    have h0:M.K.length=0:=by rw[hKe];rfl
    simp -implicitDefEqProofs (disch:=omega) only[Wz,seval,hbx,h0,List.length_nil]
    refine⟨_,?_,hin,rfl⟩
    exact wk_lk (by simp[lk]) (fun _ _ q=>q) (fun _ _ q=>q) rfl rfl
   ·rw[grA_ne (t:=M.tk) (rows:=M.K.map encCl) (by simpa using hKe)] at hbx
    simp -implicitDefEqProofs (disch:=omega) only[Wz,seval,hbx]
    refine⟨_,?_,hin,rfl⟩
    exact wk_lk (by simp[lk]) (fun _ _ q=>q) (fun _ _ q=>q) rfl rfl
  have hKne:M.K≠[]:=fun q=>by rw[q] at hil;exact absurd hil (Nat.not_lt_zero _)
  have hEne:M.E≠[]:=fun q=>by have:=hM.lE;rw[q] at this;have h0:M.K.length=0:=this.symm;omega
  obtain⟨_,t1,t2,_,_⟩:=a1.oldE hKne hEne c []
  rw[grA_ne (t:=M.tk) (rows:=M.K.map encCl) (by simpa using hKne),grA_ne (t:=M.te) (rows:=M.E.map rowE) (by simpa using hEne)] at hbx
  have hEl:=hM.lE
  obtain⟨kk,hkk⟩:∃ kk,M.K.getD i ⟨0,0,0⟩=kk:=⟨_,rfl⟩
  have hgi:M.K[i]? = some kk:=by rw[← hkk,List.getD_eq_getElem?_getD,List.getElem?_eq_getElem hil];rfl
  have g1:(M.K.map encCl)[i]? = some [.lit (.int .i64 (kk.rule:Int)),.lit (.int .i64 kk.level),.lit (.int .i64 (kk.pos:Int))]:=by rw[List.getElem?_map,hgi];rfl
  have g2:(M.E.map rowE)[i]? = some [vO (whL n o L kk)]:=by
   have:=hM.okE i hil
   rw[hkk] at this
   rw[List.getElem?_map,← this,List.getD_eq_getElem?_getD,List.getElem?_eq_getElem (by omega)];rfl
  have htk:M.K.take (i+1)=M.K.take i++[kk]:=by rw[List.take_add_one,hgi];rfl
  simp -implicitDefEqProofs (disch:=omega) only[Wz,seval,hbx]
  refine aw_drawQ (n:=76) 8 (.alt 8 .leaf .nil) rfl (by decide) (by decide) mixed (by kernel_rfl) (by decide) ?_
  simp -implicitDefEqProofs (disch:=omega) only[Wz,seval,hbx,t1,g1,b1]
  refine stepK_eql_arr3 (k:=.i64) (a0:=(kk.rule:Int)) (a1:=kk.level) (a2:=(kk.pos:Int)) (b0:=(c.rule:Int)) (b1:=c.level) (b2:=(c.pos:Int)) rfl rfl ty111 rfl ty3 rfl rfl guard111 ?_
  by_cases hkc:kk=c
  ·subst hkc
   simp -implicitDefEqProofs (disch:=omega) only[Wz,seval,beq_self_eq_true,Bool.and_self,hbx,t2,g2,hEl]
   rw[← hR]
   exact⟨rfl,M,⟨a1,hM,f1,fun k hk=>.inl hk,rfl⟩⟩
  ·have hf:=cl_ne hkc
   simp -implicitDefEqProofs (disch:=omega) only[Wz,seval,hf]
   refine⟨i+1,⟨by omega,by rw[htk,List.mem_append];rintro(q | q);exact hin q;exact hkc (by simp only[List.mem_singleton] at q;exact q.symm)⟩,by omega,?_⟩
   rw[hS1]
   exact wk_lk (by simp[lk]) (fun _ _ q=>q) (fun _ _ q=>q) rfl rfl
 rintro σ2 ⟨hcK,rfl⟩
 have hbx:=a1.bx
 unfold rkC rkX encN at hbx
 simp only[List.cons_append,List.nil_append] at hbx
 have hFF:=hF H1 ai M a1 hM
 refine aw_seq ?_
 refine aw_of ?_
 simp -implicitDefEqProofs (disch:=omega) only[Wz,seval,hbx,hrr,encNr,hst2]
 refine CallK_of call54 hFF ?_
 rintro r' H2 ⟨rfl,M2,hl⟩
 simp -implicitDefEqProofs (disch:=omega) only[Wz,seval]
 obtain⟨l,hl2⟩:∃ l,whL n o L c=l:=⟨_,rfl⟩
 rw[hl2] at hR ⊢
 have a2:=hl.at'
 have b2:lk H2.boxes hk9=some [.lit (.int .i64 (c.rule:Int)),.lit (.int .i64 c.level),.lit (.int .i64 (c.pos:Int))]:=by rw[hl.fr.bx hk9 hkl hkne];exact b1
 have hc2:c∉M2.K:=fun q=>by
  rcases hl.ks c q with q | q | q
  ·exact hcK q
  ·exact Cl.lt_ir q
  ·cases q.1
 have hK2:=keys_le hl.ok.ndK hl.ok.bdK
 have hE2:=hl.ok.lE
 have hok:∀ tk te,MOk n o L (M2.putE c l tk te):=fun tk te=>by
  rw[← hl2]
  exact hl.ok.putE hc2 ⟨by omega,hl0,hl1,by omega⟩ tk te
 have hu:∀ x,lk (up H2.boxes ai x) ai=some x:=fun x=>by rw[lk_up,if_pos rfl,a2.bx];rfl
 have fin:∀ h' tk te,AtR n o L h' ai (M2.putE c l tk te)→FrmR H2 ai M2 h' (M2.putE c l tk te)→R (vO l) h':=fun h' tk te q1 q2=>by
  rw[← hR]
  refine⟨rfl,M2.putE c l tk te,⟨q1,hok tk te,(f1.trans hl.fr).trans q2,fun k hk=>?_,hl.ps⟩⟩
  rcases List.mem_append.1 hk with q | q
  ·rcases hl.ks k q with r | r | r
   ·exact .inl r
   ·exact .inr (.inl r)
   ·cases r.1
  ·exact .inr (.inr ⟨rfl,by simpa using q⟩)
 have hbx2:=a2.bx
 unfold rkC rkX encN at hbx2
 simp only[List.cons_append,List.nil_append] at hbx2
 have q3:(∀ q:List AV,q∈[encCl c]→q.length=3)=True:=eq_true (by simp[encCl])
 have q1:(∀ q:List AV,q∈[rowE l]→q.length=1)=True:=eq_true (by simp[rowE])
 by_cases hKe:M2.K=[]
 ·have hEe:M2.E=[]:=by have:=hl.ok.lE;rw[hKe] at this;exact List.length_eq_zero_iff.1 this
  obtain⟨w1,w2⟩:=a2.newE hKe hEe c l
  rw[hKe,hEe] at hbx2
  simp only[List.map_nil,grA] at hbx2
  have hf1:fits 1 24:=by decide
  refine aw_seq ?_
  refine aw_drawG (n:=76) (σ':=⟨[(11,vO l),(9,.ptr hk9 0),(0,.ptr ai 0),(1,.lit (.int .i64 (c.rule:Int))),(2,.lit (.int .i64 c.level)),(3,.lit (.int .i64 (c.pos:Int)))],⟨up H2.boxes ai (encN n++[.vec (o.map encO) false,itA L,.own H2.nx 1,.vec [] true,grA M2.tp (M2.P.map encCl),grA M2.tb (M2.B.map encBo)]),H2.toks++[(H2.nx,⟨[encCl c],0,3⟩)],H2.nx+1⟩,76⟩) (H2.nx+1) 7 (.alt 8 (.alt 9 (.alt 10 .leaf .nil) .nil) .nil) rfl rfl (by decide) (by decide) (by decide) mixed (by kernel_rfl) (by decide) ?_ ?_
  ·simp -implicitDefEqProofs (disch:=omega) only[Wz,seval,encN,hbx2,b2,hf1,List.mem_singleton,forall_eq,List.not_mem_nil,false_imp_iff,implies_true,if_true,List.length_cons,List.length_nil]
   exact St.wk.cp (wk_lk (by simp[lk]) (fun _ _ q=>q) (fun _ _ q=>q) rfl rfl)
  refine aw_of ?_
  simp -implicitDefEqProofs (disch:=omega) only[Wz,seval,encN,vO,hu,up_up,hf1,List.mem_singleton,forall_eq,List.not_mem_nil,false_imp_iff,implies_true,if_true,List.length_cons,List.length_nil]
  have:=fin _ _ _ w1 w2
  unfold rkC Mem.putE at this
  rw[hKe,hEe] at this
  exact this
 ·have hEe:M2.E≠[]:=fun q=>by rw[q] at hE2;exact hKe (List.length_eq_zero_iff.1 hE2.symm)
  obtain⟨hne,t1,t2,w1,w2⟩:=a2.oldE hKe hEe c l
  rw[grA_ne (t:=M2.tk) (rows:=M2.K.map encCl) (by simpa using hKe),grA_ne (t:=M2.te) (rows:=M2.E.map rowE) (by simpa using hEe),List.length_map,List.length_map] at hbx2
  have hf1:fits (M2.K.length+1) 24:=fits_of' (by omega) (by omega)
  have hf2:fits (M2.E.length+1) 24:=fits_of' (by omega) (by omega)
  have t3:∀ x,lk (up H2.toks M2.tk x) M2.te=some ⟨M2.E.map rowE,0,1⟩:=fun x=>by rw[lk_up,if_neg hne];exact t2
  refine aw_seq ?_
  refine aw_drawG (n:=76) (σ':=⟨[(11,vO l),(9,.ptr hk9 0),(0,.ptr ai 0),(1,.lit (.int .i64 (c.rule:Int))),(2,.lit (.int .i64 c.level)),(3,.lit (.int .i64 (c.pos:Int)))],⟨up H2.boxes ai (encN n++[.vec (o.map encO) false,itA L,.own M2.tk (M2.K.length+1),.own M2.te M2.E.length,grA M2.tp (M2.P.map encCl),grA M2.tb (M2.B.map encBo)]),up H2.toks M2.tk ⟨(M2.K++[c]).map encCl,0,3⟩,H2.nx⟩,76⟩) H2.nx 7 (.alt 8 (.alt 9 (.alt 10 .leaf .nil) .nil) .nil) rfl rfl (by decide) (by decide) (by decide) mixed (by kernel_rfl) (by decide) ?_ ?_
  ·simp -implicitDefEqProofs (disch:=omega) only[Wz,seval,encN,hbx2,b2,t1,hf1,List.mem_singleton,forall_eq,List.not_mem_nil,false_imp_iff,implies_true,if_true,List.length_cons,List.length_nil]
   exact St.wk.cp (wk_lk (by simp[lk]) (fun _ _ q=>q) (fun p k q=>by rw[← q];simp[encCl]) rfl rfl)
  refine aw_of ?_
  simp -implicitDefEqProofs (disch:=omega) only[Wz,seval,encN,vO,hu,up_up,t3,hf2,List.mem_singleton,forall_eq,List.not_mem_nil,false_imp_iff,implies_true,if_true,List.length_cons,List.length_nil]
  have:=fin _ _ _ w1 w2
  unfold rkC Mem.putE at this
  rw[grA_ne (t:=M2.tk) (rows:=(M2.K++[c]).map encCl) (by simp),grA_ne (t:=M2.te) (rows:=(M2.E++[l]).map rowE) (by simp)] at this
  simp only[List.length_map,List.length_append,List.length_singleton,List.map_append,List.map_cons,List.map_nil] at this ⊢
  exact this
end Go.Proofs.YtbbnfbnicacdoaaGreat
end
section
namespace Go.Proofs.YtbbnfbnicacdoaaGreat
open Go Go.Ab
set_option maxRecDepth 20000
set_option maxHeartbeats 16000000
structure LftO (n:Nt) (o:List Orc) (L:List It) (rk:Nat→Nat) (c:Cl) (own:Bool) (H:Hp) (ai:Nat) (M:Mem) (h':Hp) (M':Mem):Prop where
 at':AtR n o L h' ai M'
 ok:MOk n o L M'
 fr:FrmR H ai M h' M'
 ks:∀ k∈M'.P,k∈M.P∨Cl.lt n rk k c∨(own=true∧k=c)
def OpenC(n:Nt)(o:List Orc)(L:List It)(rk:Nat→Nat)(c:Cl):Prop:=∀ (H:Hp) (ai:Nat) (M:Mem),AtR n o L H ai M→MOk n o L M →
 SCall Tryz.prog 59 [.ptr ai 0,.lit (.int .i64 (c.rule:Int)),.lit (.int .i64 c.level),.lit (.int .i64 (c.pos:Int))] H fun r h'=>r = .lit (.bool (opB n o L c))∧∃ M',LftO n o L rk c true H ai M h' M'
structure SrO (n:Nt) (o:List Orc) (L:List It) (rk:Nat→Nat) (c:Cl) (H0:Hp) (ai:Nat) (M0:Mem) (ts tp:Nat) (S:List Sp) (H1:Hp) (M1:Mem):Prop where
 lf:LftO n o L rk c false H0 ai M0 H1 M1
 t0:H0.nx≤ts
 p0:H0.nx≤tp
 ne:ts≠tp
 t1:ts∉M1.names
 p1:tp∉M1.names
 lt1:ts<H1.nx
 lp1:tp<H1.nx
 ks:lk H1.toks ts=some ⟨sts S,0,1⟩
 kp:lk H1.toks tp=some ⟨pls S,0,1⟩
section
variable {n:Nt} {o:List Orc} {L:List It} {rk:Nat→Nat} {c:Cl} {H0:Hp} {ai:Nat} {M0:Mem} {ts tp:Nat} {S:List Sp} {H1:Hp} {M1:Mem}
theorem SrO.nxm(h:SrO n o L rk c H0 ai M0 ts tp S H1 M1){m:Nat}(hm:H1.nx≤m):SrO n o L rk c H0 ai M0 ts tp S {H1 with nx:=m} M1 :=
 ⟨⟨h.lf.at'.nxm hm,h.lf.ok,h.lf.fr.trans ((FrmR.refl h.lf.at').nxm hm),h.lf.ks⟩,h.t0,h.p0,h.ne,h.t1,h.p1,Nat.lt_of_lt_of_le h.lt1 hm,Nat.lt_of_lt_of_le h.lp1 hm,h.ks,h.kp⟩
theorem SrO.put(h:SrO n o L rk c H0 ai M0 ts tp S H1 M1)(y:Sp):SrO n o L rk c H0 ai M0 ts tp (S++[y]) ⟨H1.boxes,up (up H1.toks ts ⟨sts (S++[y]),0,1⟩) tp ⟨pls (S++[y]),0,1⟩,H1.nx⟩ M1:=by
 have a1:=(h.lf.at'.upT h.t1 ⟨sts (S++[y]),0,1⟩).upT (t:=tp) h.p1 ⟨pls (S++[y]),0,1⟩
 refine⟨⟨a1,h.lf.ok,(h.lf.fr.upT h.t0 _).upT h.p0 _,h.lf.ks⟩,h.t0,h.p0,h.ne,h.t1,h.p1,h.lt1,h.lp1,?_,?_⟩
 ·show lk (up (up _ _ _) _ _) ts=_
  rw[lk_up,if_neg (fun e=>h.ne e.symm),lk_up,if_pos rfl,h.ks];rfl
 ·show lk (up (up _ _ _) _ _) tp=_
  rw[lk_up,if_pos rfl,lk_up,if_neg h.ne,h.kp];rfl
theorem SrO.step(h:SrO n o L rk c H0 ai M0 ts tp S H1 M1){H2:Hp}{M2:Mem}(a:AtR n o L H2 ai M2)(b:MOk n o L M2)(f:FrmR H1 ai M1 H2 M2)(k:∀ k∈M2.P,k∈M1.P∨Cl.lt n rk k c):SrO n o L rk c H0 ai M0 ts tp S H2 M2:=by
 have nm:∀ {t},t∉M1.names→t<H1.nx→t∉M2.names:=fun h1 h2 q=>by
  rcases f.nm _ q with r | r
  ·exact h1 r
  ·omega
 refine⟨⟨a,b,h.lf.fr.trans f,fun x hx=>?_⟩,h.t0,h.p0,h.ne,nm h.t1 h.lt1,nm h.p1 h.lp1,Nat.lt_of_lt_of_le h.lt1 f.nx,Nat.lt_of_lt_of_le h.lp1 f.nx,?_,?_⟩
 ·rcases k x hx with q | q
  ·exact h.lf.ks x q
  ·exact .inr (.inl q)
 ·rw[f.tk _ h.lt1 h.t1];exact h.ks
 ·rw[f.tk _ h.lp1 h.p1];exact h.kp
theorem SrO.call(h:SrO n o L rk c H0 ai M0 ts tp S H1 M1){d:Cl}{H2:Hp}{M2:Mem}(k:LftR n o L rk d true H1 ai M1 H2 M2):SrO n o L rk c H0 ai M0 ts tp S H2 M2 :=
 h.step k.at' k.ok k.fr fun x hx=>by rw[k.ps] at hx;exact .inl hx
theorem SrO.callO(h:SrO n o L rk c H0 ai M0 ts tp S H1 M1){d:Cl}(hd:Cl.lt n rk d c){H2:Hp}{M2:Mem}(k:LftO n o L rk d true H1 ai M1 H2 M2):SrO n o L rk c H0 ai M0 ts tp S H2 M2 :=
 h.step k.at' k.ok k.fr fun x hx=>by
  rcases k.ks x hx with q | q | q
  ·exact .inl q
  ·exact .inr (Cl.lt_tr q hd)
  ·rw[q.2];exact .inr hd
end
theorem rOpenFrom_spec(n:Nt)(o:List Orc)(L:List It)(w:Wf n)(okn:NtOk n)(rk:Nat→Nat)(hrk:Rk n rk)(ho:o.length≤1000000000)(hL:L.length≤25)(c:Cl)(hr:c.rule<n.rules.length)(hp:c.pos≤L.length)
  (hE:∀ d:Cl,d.rule<n.rules.length→d.pos≤L.length→0≤d.level→d.level≤65→Cl.lt n rk d c→EndC n o L rk d)
  (hO:∀ d:Cl,d.rule<n.rules.length→d.pos≤L.length→0≤d.level→d.level≤65→Cl.lt n rk d c→OpenC n o L rk d) (H:Hp) (ai:Nat) (M:Mem) (hA:AtR n o L H ai M) (hM:MOk n o L M) :
  SCall Tryz.prog 78 [.ptr ai 0,.lit (.int .i64 c.level),.lit (.int .i64 (stN n c.rule:Int)),.lit (.int .i64 (c.pos:Int))] H fun r h'=>r = .lit (.bool (opB n o L c))∧∃ M',LftO n o L rk c false H ai M h' M':=by
 obtain⟨R,hR⟩:∃ R:AV→Hp→Prop,(fun r h'=>r=AV.lit (.bool (opB n o L c))∧∃ M',LftO n o L rk c false H ai M h' M')=R:=⟨_,rfl⟩
 rw[hR]
 refine SCall_introK Tryz.func78 rfl Tryz.ntmps78 (rs:=[.tmp 8]) rfl (by simp) ?_
 have hst:=w.nst
 have hru:=w.nru
 have hsr:=w.start hr
 have hso:=w.stop hr
 obtain⟨r,hrr⟩:∃ r,n.rules.getD c.rule default=r:=⟨_,rfl⟩
 rw[hrr] at hsr hso
 obtain⟨st,hst2⟩:∃ st:Nat,stN n c.rule=st:=⟨_,rfl⟩
 obtain⟨sp,hsp⟩:∃ sp:Nat,r.stop=(sp:Int):=⟨r.stop.toNat,by omega⟩
 have hspN:spN n c.rule=sp:=by unfold spN;rw[hrr,hsp];rfl
 have hstL:st<n.states.length:=by rw[← hst2];unfold stN;rw[hrr];omega
 rw[hst2]
 refine aw_seq ?_
 refine aw_of ?_
 simp -implicitDefEqProofs (disch:=omega) only[Wz,seval]
 refine aw_seq ?_
 refine aw_regionB ?_
 simp -implicitDefEqProofs (disch:=omega) only[Wz,seval,awoB]
 refine awop_build (ps:=[(0,.lit (.int .i64 (st:Int)))]) (z:=[.lit (.int .i64 0)]) (rows:=[rowI st]) ty41 rfl ty3 rfl ⟨rfl,by decide⟩ (by decide) rfl rfl ?_
 simp -implicitDefEqProofs (disch:=omega) only[Wz,seval,awoB]
 refine aw_seq ?_
 refine aw_regionB ?_
 simp -implicitDefEqProofs (disch:=omega) only[Wz,seval,awoB]
 refine awop_build (ps:=[(0,.lit (.int .i64 (c.pos:Int)))]) (z:=[.lit (.int .i64 0)]) (rows:=[rowI c.pos]) ty41 rfl ty3 rfl ⟨rfl,by decide⟩ (by decide) rfl rfl ?_
 simp -implicitDefEqProofs (disch:=omega) only[Wz,seval,awoB]
 refine aw_of ?_
 simp -implicitDefEqProofs (disch:=omega) only[Wz,seval]
 obtain⟨B,hB⟩:∃ B,n.states.length * (L.length+1)=B:=⟨_,rfl⟩
 have hBb:B≤4000 * 26:=by rw[← hB];exact Nat.mul_le_mul hst (by omega)
 have hrx:∀ {x:Sp},Rs n o L c x.1 x.2→x.1<n.states.length∧x.2≤L.length:=fun h=>by
  obtain⟨_,h2,h3⟩:=Rs.le w h hr hp
  exact⟨h3,h2⟩
 have hSB:∀ {Pr P S T},GI n o L c true Pr P S T→S.length≤B:=fun h=>by
  rw[← hB]
  exact spots_le h.nd (fun x hx=>by obtain⟨h1,h2⟩:=hrx (h.reach x hx);exact⟨h1,by omega⟩)
 obtain⟨ts,hts⟩:∃ ts,H.nx=ts:=⟨_,rfl⟩
 obtain⟨tp,htp⟩:∃ tp,H.nx+1=tp:=⟨_,rfl⟩
 obtain⟨S1,hS1⟩:∃ S1:Nat × List Sp × Hp × Mem→St,∀ i S H1 M1,S1 (i,S,H1,M1)=⟨[(11,.lit (.int .i64 (i:Int))),(9,.own ts S.length),(10,.own tp S.length),(0,.ptr ai 0),(1,.lit (.int .i64 c.level))],H1,168⟩:=⟨fun x=>⟨[(11,.lit (.int .i64 (x.1:Int))),(9,.own ts x.2.1.length),(10,.own tp x.2.1.length),(0,.ptr ai 0),(1,.lit (.int .i64 c.level))],x.2.2.1,168⟩,fun _ _ _ _=>rfl⟩
 have hAlt:=hA.nlt
 obtain⟨H1,hH1⟩:∃ H1:Hp,(⟨H.boxes,H.toks++[(H.nx,⟨[rowI st],0,1⟩)]++[(H.nx+1,⟨[rowI c.pos],0,1⟩)],H.nx+1+1⟩:Hp)=H1:=⟨_,rfl⟩
 have sr0:SrO n o L rk c H ai M ts tp [(st,c.pos)] H1 M:=by
  have a2:=(hA.addT ⟨[rowI st],0,1⟩).addT ⟨[rowI c.pos],0,1⟩
  have f2:=(FrmR.addT (H:=H) (ai:=ai) (M:=M) ⟨[rowI st],0,1⟩).trans (FrmR.addT ⟨[rowI c.pos],0,1⟩)
  rw[← hH1]
  refine⟨⟨a2,hM,f2,fun k hk=>.inl hk⟩,by omega,by omega,by omega,fun q=>?_,fun q=>?_,?_,?_,?_,?_⟩
  ·have:=hAlt _ q;omega
  ·have:=hAlt _ q;omega
  ·show ts<H.nx+1+1;omega
  ·show tp<H.nx+1+1;omega
  ·show lk (H.toks++_++_) ts=_
   rw[lk_app,lk_app,hA.ft ts (by omega),hts];simp[lk,sts]
  ·show lk (H.toks++_++_) tp=_
   rw[lk_app,lk_app,hA.ft tp (by omega)]
   simp only[lk]
   rw[if_neg (by omega),if_pos htp];rfl
 refine aw_measA S1 (fun x=>x.1≤x.2.1.length∧GI n o L c true (x.2.1.take x.1) (fun _ _=>True) x.2.1 (x.2.1.drop x.1)∧(∀ y∈x.2.1.take x.1,y.2≠L.length)∧SrO n o L rk c H ai M ts tp x.2.1 x.2.2.1 x.2.2.2) (fun x=>B - x.1) (0,[(st,c.pos)],H1,M) ?_ ⟨Nat.zero_le _,by have:=GI.init (n:=n) (o:=o) (L:=L) (c:=c) (opn:=true);rwa [hst2] at this,(fun y hy=>by simp at hy),sr0⟩ ?_
 ·rw[hS1,← hH1]
  subst hts;subst htp
  exact wk_lk (by simp[lk]) (fun _ _ q=>q) (fun _ _ q=>q) rfl rfl
 clear sr0 hH1 H1
 rintro⟨i,S,H1,M1⟩ ⟨hi,hG,hno,hs⟩
 simp only at hi hG hno hs
 have hSl:=hSB hG
 have hks:=hs.ks
 have hkp:=hs.kp
 have hbx:=hs.lf.at'.bx
 unfold rkC rkX encN at hbx
 simp only[List.cons_append,List.nil_append] at hbx
 have hlts:=hs.lt1
 rw[hS1]
 rcases Nat.lt_or_ge i S.length with hil | hge
 rotate_left
 ·have e:i=S.length:=by omega
  subst e
  rw[List.drop_length] at hG
  rw[List.take_length] at hG hno
  have ho2:opB n o L c=false:=by
   cases q:opB n o L c with
   | false=>rfl
   | true =>
    have hop:=opB_true.1 q
    cases hop with
    | here h1=>exact absurd rfl (hno _ (hG.all h1))
    | call h1 h2 h3 h4=>exact absurd h4 (hG.no rfl _ (hG.all h1) _ h2 trivial h3)
  refine aw_of ?_
  simp -implicitDefEqProofs (disch:=omega) only[Wz,seval,hks,sts,List.length_map]
  rw[← hR]
  exact⟨by rw[ho2],M1,hs.lf⟩
 obtain⟨x,hx⟩:∃ x,S.getD i default=x:=⟨_,rfl⟩
 have hxm:x∈S:=by rw[← hx];exact getD_mem hil
 obtain⟨xs,xp⟩:=x
 obtain⟨hxs,hxp⟩:=hrx (hG.reach _ hxm)
 simp only at hxs hxp
 have g1:(sts S)[i]? = some [.lit (.int .i64 (xs:Int))]:=by unfold sts;rw[List.getElem?_map,getD_get hil,hx];rfl
 have g2:(pls S)[i]? = some [.lit (.int .i64 (xp:Int))]:=by unfold pls;rw[List.getElem?_map,getD_get hil,hx];rfl
 have l1:(sts S).length=S.length:=by simp[sts]
 have l2:(pls S).length=S.length:=by simp[pls]
 rw[drop_getD hil,hx] at hG
 have hG2:=hG.turn.pop
 have htk:S.take i++[(xs,xp)]=S.take (i+1):=by rw[List.take_add_one,getD_get hil,hx];rfl
 rw[htk] at hG2
 obtain⟨ss,hss⟩:∃ ss,n.states.getD xs default=ss:=⟨_,rfl⟩
 refine aw_seq ?_
 refine aw_of ?_
 simp -implicitDefEqProofs (disch:=omega) only[Wz,seval,hks,hkp,l1,l2]
 refine aw_seq ?_
 refine aw_block' ?_
 refine aw_seq ?_
 refine aw_quietN (n:=168) rfl (by decide) mixed ?_
 simp -implicitDefEqProofs (disch:=omega) only[Wz,seval,hks,hkp,l1,l2,g1,g2]
 by_cases hxl:xp=L.length
 ·have hv:opB n o L c=true:=opB_true.2 (.here (by have:=hG.reach _ hxm;rw[hxl] at this;exact this))
  have e1:((xp:Int)==(L.length:Int))=true:=beqT (by omega)
  refine aw_of ?_
  simp -implicitDefEqProofs (disch:=omega) only[Wz,seval,hbx,itA,e1]
  rw[← hR]
  exact⟨by rw[hv],M1,hs.lf⟩
 have e1:((xp:Int)==(L.length:Int))=false:=beqF (by omega)
 have hno':∀ y∈S.take (i+1),y.2≠L.length:=fun y hy=>by
  rw[← htk,List.mem_append] at hy
  rcases hy with q | q
  ·exact hno y q
  ·simp only[List.mem_singleton] at q;rw[q];exact hxl
 refine aw_of ?_
 simp -implicitDefEqProofs (disch:=omega) only[Wz,seval,hbx,itA,e1,hss,encSt]
 have hmax:i+1≤S.length:=hil
 obtain⟨Pr,hPr⟩:∃ Pr,S.take (i+1)=Pr:=⟨_,rfl⟩
 have hxPr:(xs,xp)∈Pr:=by rw[← hPr,← htk];simp
 rw[hPr] at hG2 hno'
 have hsse:=(okn.edges ss (by rw[← hss];exact getD_mem hxs)).1
 obtain⟨S2,hS2⟩:∃ S2:Nat × List Sp × Hp→St,∀ k S H1,S2 (k,S,H1)=⟨[(15,.lit (.int .i64 (k:Int))),(14,.vec (ss.edges.map encE) false),(13,.lit (.int .i64 (xp:Int))),(12,.lit (.int .i64 (xs:Int))),(11,.lit (.int .i64 (i:Int))),(9,.own ts S.length),(10,.own tp S.length),(0,.ptr ai 0),(1,.lit (.int .i64 c.level))],H1,168⟩:=⟨fun x=>⟨[(15,.lit (.int .i64 (x.1:Int))),(14,.vec (ss.edges.map encE) false),(13,.lit (.int .i64 (xp:Int))),(12,.lit (.int .i64 (xs:Int))),(11,.lit (.int .i64 (i:Int))),(9,.own ts x.2.1.length),(10,.own tp x.2.1.length),(0,.ptr ai 0),(1,.lit (.int .i64 c.level))],x.2.2,168⟩,fun _ _ _=>rfl⟩
 refine aw_measA (A:=Nat × List Sp × Hp × Mem) (fun x=>S2 (x.1,x.2.1,x.2.2.1)) (fun x=>x.1≤ss.edges.length∧i+1≤x.2.1.length∧x.2.1.take (i+1)=Pr∧GI n o L c true Pr (fun y e=>y≠(xs,xp)∨e∈ss.edges.take x.1) x.2.1 (x.2.1.drop (i+1))∧SrO n o L rk c H ai M ts tp x.2.1 x.2.2.1 x.2.2.2) (fun x=>ss.edges.length - x.1) (0,S,H1,M1) ?_ ⟨Nat.zero_le _,hmax,hPr,by have:=hG2;simp only[hss] at this;exact this,hs⟩ ?_
 ·simp only
  rw[hS2]
  exact wk_lk (by simp[lk]) (fun _ _ q=>q) (fun _ _ q=>q) rfl rfl
 clear hG hG2 hs hks hkp hbx hlts g1 g2 l1 l2 hSl htk hi hil hmax hx hxm hPr hno
 clear S H1 M1
 rintro⟨k,S,H1,M1⟩ ⟨hk,hmax,hPr,hG,hs⟩
 simp only at hk hmax hPr hG hs ⊢
 have hSl:=hSB hG
 have hks:=hs.ks
 have hkp:=hs.kp
 have hbx:=hs.lf.at'.bx
 have hbx0:=hbx
 unfold rkC at hbx0
 unfold rkC rkX encN at hbx
 simp only[List.cons_append,List.nil_append] at hbx
 rw[hS2]
 rcases Nat.lt_or_ge k ss.edges.length with hkl | hge
 rotate_left
 ·have e:k=ss.edges.length:=by omega
  subst e
  refine aw_of ?_
  simp -implicitDefEqProofs (disch:=omega) only[Wz,seval]
  have hG3:=GI.last (n:=n) (o:=o) (L:=L) (c:=c) (opn:=true) (Pr:=Pr) (S:=S) (T:=S.drop (i+1)) (x:=(xs,xp)) (by simpa only[hss] using hG)
  refine aw_of ?_
  simp -implicitDefEqProofs (disch:=omega) only[Wz,seval]
  refine⟨(i+1,S,H1,M1),⟨hmax,by simp only;rw[hPr];exact hG3,by simp only;rw[hPr];exact hno',hs⟩,by simp only;omega,?_⟩
  rw[hS1]
  exact wk_lk (by simp[lk]) (fun _ _ q=>q) (fun _ _ q=>q) rfl rfl
 obtain⟨e,he⟩:∃ e,ss.edges.getD k default=e:=⟨_,rfl⟩
 have hem:e∈(n.states.getD xs default).edges:=by rw[hss,← he];exact getD_mem hkl
 have eok:=(okn.edges ss (by rw[← hss];exact getD_mem hxs)).2 e (by rw[← he];exact getD_mem hkl)
 have hto:=w.to hxs hem
 obtain⟨tn,htn⟩:∃ tn:Nat,e.to=(tn:Int):=⟨e.to.toNat,by omega⟩
 have hRx:Rs n o L c xs xp:=hG.reach (xs,xp) (by rw[hG.part];exact .inl hxPr)
 refine aw_seq ?_
 refine aw_of ?_
 simp -implicitDefEqProofs (disch:=omega) only[Wz,seval]
 refine aw_seq ?_
 refine aw_block' ?_
 refine aw_seq ?_
 refine aw_of ?_
 simp -implicitDefEqProofs (disch:=omega) only[Wz,seval]
 refine aw_seq_cut (fun σ2=>∃ (l:List Nat) (f:Bool) (H2:Hp) (M2:Mem),(nxV n o L e c.level xp l∧l.length≤30∧(e.op.1=2→¬ Op1 n o L ⟨e.n.toNat,e.level,xp⟩))∧SrO n o L rk c H ai M ts tp S H2 M2∧σ2=⟨[(16,.vec (l.map rowI) f),(15,.lit (.int .i64 (k:Int))),(14,.vec (ss.edges.map encE) false),(13,.lit (.int .i64 (xp:Int))),(12,.lit (.int .i64 (xs:Int))),(11,.lit (.int .i64 (i:Int))),(9,.own ts S.length),(10,.own tp S.length),(0,.ptr ai 0),(1,.lit (.int .i64 c.level))],H2,168⟩) ?_ ?_
 ·refine aw_of ?_
  have hT:=rTakes_spec n o L _ _ _ _ H1 ai (by omega) e eok xp (by omega) hbx0 hs.lf.at'.fb
  simp -implicitDefEqProofs (disch:=omega) only[Wz,seval,he]
  refine CallK_of call74 hT ?_
  rintro r' h' ⟨rfl,m,hm,rfl⟩
  have hs1:=hs.nxm hm
  cases ht:takesV L e xp with
  | true =>
   have h1:e.op.1=1:=by unfold takesV at ht;simp only[Bool.and_eq_true,decide_eq_true_eq] at ht;exact ht.1
   have hlt:¬ L.length≤xp:=by unfold takesV at ht;simp only[Bool.and_eq_true,decide_eq_true_eq] at ht;omega
   have hgv:=goV_1 (o:=o) (L:=L) (lv:=c.level) (p:=xp) h1
   rw[if_neg hlt,ht] at hgv
   have hnx:nxV n o L e c.level xp [xp+1]:=fun v=>by
    rw[hgv,List.mem_singleton]
    exact⟨fun q=>.inl ⟨rfl,q⟩,fun q=>by rcases q with q | q;exact q.2;omega⟩
   simp -implicitDefEqProofs (disch:=omega) only[Wz,seval]
   refine⟨_,?_,[xp+1],true,_,M1,⟨hnx,by simp,fun q=>by omega⟩,hs1,rfl⟩
   exact wk_lk (by simp[lk,rowI]) (fun _ _ q=>q) (fun _ _ q=>q) rfl rfl
  | false =>
   by_cases h2:e.op.1=2
   ·obtain⟨d1,d2,d3⟩:=cl_lt w hrk hRx hr hp hem h2
    have hcl:=w.call hxs hem h2
    obtain⟨en,hen⟩:∃ en:Nat,e.n=(en:Int):=⟨e.n.toNat,by omega⟩
    have hlv:0≤e.level∧e.level≤65:=by
     have hk:=(w.ed xs hxs e hem).2.2.1
     unfold kindV at hk
     rw[if_neg (by omega),if_neg (by omega),if_pos h2] at hk
     unfold kd2 at hk
     simp only[Bool.and_eq_true,decide_eq_true_eq] at hk
     exact hk.2.2.1
    rw[hen,Int.toNat_natCast] at d1 d3
    have hcO:=hO ⟨en,e.level,xp⟩ d1 d2 hlv.1 hlv.2 d3 _ ai M1 hs1.lf.at' hs1.lf.ok
    have hgv:=goV_n (o:=o) (L:=L) (e:=e) (lv:=c.level) (p:=xp) (by omega)
    rw[if_pos h2] at hgv
    have hnx:nxV n o L e c.level xp (whL n o L ⟨en,e.level,xp⟩):=fun v=>by
     rw[hgv,mem_whL,hen,Int.toNat_natCast]
     constructor
     ·intro q;exact .inr ⟨h2,q.2⟩
     ·intro q
      rcases q with q | q
      ·cases q.1
      ·exact⟨(Rs.le w q.2 d1 d2).2.1,q.2⟩
    simp -implicitDefEqProofs (disch:=omega) only[Wz,seval,he,encE,h2]
    refine aw_drawQ (n:=168) 12 (.alt 12 .leaf .nil) rfl (by decide) (by decide) mixed (by kernel_rfl) (by decide) ?_
    simp -implicitDefEqProofs (disch:=omega) only[Wz,seval,he,encE,hen]
    refine CallK_of call59 hcO ?_
    rintro r' H3 ⟨rfl,M3,hlO⟩
    have hs3:=hs1.callO d3 hlO
    cases hop:opB n o L ⟨en,e.level,xp⟩ with
    | true =>
     have hv:opB n o L c=true:=opB_true.2 (.call hRx hem h2 (by rw[hen,Int.toNat_natCast];exact opB_true.1 hop))
     simp -implicitDefEqProofs (disch:=omega) only[Wz,seval]
     rw[← hR]
     exact⟨by rw[hv],M3,hs3.lf⟩
    | false =>
     have hnop:¬ Op1 n o L ⟨e.n.toNat,e.level,xp⟩:=by
      rw[hen,Int.toNat_natCast]
      intro q
      have:=opB_true.2 q
      rw[hop] at this;cases this
     have hc:=hE ⟨en,e.level,xp⟩ d1 d2 hlv.1 hlv.2 d3 _ ai M3 hs3.lf.at' hs3.lf.ok
     simp -implicitDefEqProofs (disch:=omega) only[Wz,seval]
     refine aw_drawQ (n:=168) 12 (.alt 12 (.alt 13 .leaf .nil) .nil) rfl (by decide) (by decide) mixed (by kernel_rfl) (by decide) ?_
     simp -implicitDefEqProofs (disch:=omega) only[Wz,seval,he,encE,hen]
     refine CallK_of call31 hc ?_
     rintro r' h' ⟨rfl,M2,hl⟩
     simp -implicitDefEqProofs (disch:=omega) only[Wz,seval]
     refine⟨_,?_,whL n o L ⟨en,e.level,xp⟩,(whL n o L ⟨en,e.level,xp⟩).isEmpty,h',M2,⟨hnx,Nat.le_trans whL_len (by omega),fun _=>by first | exact hnop | (rw[hen,Int.toNat_natCast] at hnop;exact hnop)⟩,hs3.call hl,rfl⟩
     exact wk_lk (by simp[lk,vO]) (fun _ _ q=>q) (fun _ _ q=>q) rfl rfl
   ·have hbx1:lk ({H1 with nx:=m}:Hp).boxes ai=some (rkX n o (itA L) (grA M1.tk (M1.K.map encCl)) (grA M1.te (M1.E.map rowE)) (grA M1.tp (M1.P.map encCl)) (grA M1.tb (M1.B.map encBo))):=hbx0
    have hGo:=rGoes_spec n o L _ _ _ _ {H1 with nx:=m} ai (by omega) ho e eok c.level xp (by omega) hbx1 hs1.lf.at'.fb
    simp -implicitDefEqProofs (disch:=omega) only[Wz,seval,he,encE,h2]
    refine CallK_of call75 hGo ?_
    rintro r' h' ⟨rfl,m2,hm2,rfl⟩
    have hs3:=hs1.nxm hm2
    have hgv:(goV o L e c.level xp).2=goesV o L e c.level xp∧(goesV o L e c.level xp=true→(goV o L e c.level xp).1=0):=by
     by_cases h1:e.op.1=1
     ·have e1:goesV o L e c.level xp=false:=by unfold goesV;rw[if_pos h1]
      rw[goV_1 h1,ht,e1]
      exact⟨rfl,fun q=>by cases q⟩
     ·rw[goV_n h1,if_neg h2];exact⟨rfl,fun _=>rfl⟩
    cases hg:goesV o L e c.level xp with
    | true =>
     rw[hg] at hgv
     have hnx:nxV n o L e c.level xp [xp]:=fun v=>by
      rw[hgv.1,hgv.2 rfl,List.mem_singleton]
      exact⟨fun q=>.inl ⟨rfl,q⟩,fun q=>by rcases q with q | q;exact q.2;exact absurd q.1 h2⟩
     simp -implicitDefEqProofs (disch:=omega) only[Wz,seval]
     refine⟨_,?_,[xp],true,_,M1,⟨hnx,by simp,fun q=>by first | exact q.elim | exact absurd q h2⟩,hs3,rfl⟩
     exact wk_lk (by simp[lk,rowI]) (fun _ _ q=>q) (fun _ _ q=>q) rfl rfl
    | false =>
     rw[hg] at hgv
     have hnx:nxV n o L e c.level xp []:=fun v=>by
      rw[hgv.1]
      exact⟨fun q=>(by cases q),fun q=>by rcases q with q | q;cases q.1;exact absurd q.1 h2⟩
     simp -implicitDefEqProofs (disch:=omega) only[Wz,seval]
     refine⟨_,?_,[],true,_,M1,⟨hnx,by simp,fun q=>by first | exact q.elim | exact absurd q h2⟩,hs3,rfl⟩
     exact wk_lk (by simp[lk]) (fun _ _ q=>q) (fun _ _ q=>q) rfl rfl
 rintro σ2 ⟨l,f,H2,M2,⟨hnx,hll,hnop⟩,hs2,rfl⟩
 refine aw_of ?_
 simp -implicitDefEqProofs (disch:=omega) only[Wz,seval]
 clear hks hkp hbx hbx0 hSl hs
 obtain⟨S4,hS4⟩:∃ S4:Nat × List Sp × Hp→St,∀ j S H1,S4 (j,S,H1)=⟨[(17,.lit (.int .i64 (j:Int))),(16,.vec (l.map rowI) f),(15,.lit (.int .i64 (k:Int))),(14,.vec (ss.edges.map encE) false),(13,.lit (.int .i64 (xp:Int))),(12,.lit (.int .i64 (xs:Int))),(11,.lit (.int .i64 (i:Int))),(9,.own ts S.length),(10,.own tp S.length),(0,.ptr ai 0),(1,.lit (.int .i64 c.level))],H1,168⟩:=⟨fun x=>⟨[(17,.lit (.int .i64 (x.1:Int))),(16,.vec (l.map rowI) f),(15,.lit (.int .i64 (k:Int))),(14,.vec (ss.edges.map encE) false),(13,.lit (.int .i64 (xp:Int))),(12,.lit (.int .i64 (xs:Int))),(11,.lit (.int .i64 (i:Int))),(9,.own ts x.2.1.length),(10,.own tp x.2.1.length),(0,.ptr ai 0),(1,.lit (.int .i64 c.level))],x.2.2,168⟩,fun _ _ _=>rfl⟩
 refine aw_measA (A:=Nat × List Sp × Hp × Mem) (fun x=>S4 (x.1,x.2.1,x.2.2.1)) (fun x=>x.1≤l.length∧i+1≤x.2.1.length∧x.2.1.take (i+1)=Pr∧GI n o L c true Pr (fun y e=>y≠(xs,xp)∨e∈ss.edges.take k) x.2.1 (x.2.1.drop (i+1))∧SrO n o L rk c H ai M ts tp x.2.1 x.2.2.1 x.2.2.2∧∀ v∈l.take x.1,(tn,v)∈x.2.1) (fun x=>l.length - x.1) (0,S,H2,M2) ?_ ⟨Nat.zero_le _,hmax,hPr,hG,hs2,fun v hv=>by cases hv⟩ ?_
 ·simp only
  rw[hS4]
  exact wk_lk (by simp[lk]) (fun _ _ q=>q) (fun _ _ q=>q) rfl rfl
 clear hmax hPr hG hs2
 clear S H2 M2 H1 M1
 rintro⟨j,S,H1,M1⟩ ⟨hj,hmax,hPr,hG,hs,hin⟩
 simp only at hj hmax hPr hG hs hin ⊢
 have hSl:=hSB hG
 have hks:=hs.ks
 have hkp:=hs.kp
 have l1:(sts S).length=S.length:=by simp[sts]
 have l2:(pls S).length=S.length:=by simp[pls]
 rw[hS4]
 rcases Nat.lt_or_ge j l.length with hjl | hge
 rotate_left
 ·have e1:j=l.length:=by omega
  subst e1
  rw[List.take_length] at hin
  have hcl:ClosE n o L c S (xs,xp) e:=⟨fun q=>by
   have:=hin _ ((hnx _).2 (.inl ⟨q,rfl⟩))
   rw[htn,Int.toNat_natCast];exact this,fun q v hv=>by
   have:=hin _ ((hnx _).2 (.inr ⟨q,hv⟩))
   rw[htn,Int.toNat_natCast];exact this⟩
  have hG3:=GI.edge (n:=n) (o:=o) (L:=L) (c:=c) (opn:=true) (Pr:=Pr) (S:=S) (T:=S.drop (i+1)) (x:=(xs,xp)) (k:=k) (by simp only[hss];exact hkl) (by simp only[hss];exact hG) (by simp only[hss];rw[he];exact hcl) (fun _=>by simp only[hss];rw[he];exact hnop)
  refine aw_of ?_
  simp -implicitDefEqProofs (disch:=omega) only[Wz,seval]
  refine aw_of ?_
  simp -implicitDefEqProofs (disch:=omega) only[Wz,seval]
  refine⟨(k+1,S,H1,M1),⟨by simp only;omega,hmax,hPr,by simpa only[hss] using hG3,hs⟩,by simp only;omega,?_⟩
  simp only
  rw[hS2]
  exact wk_lk (by simp[lk]) (fun _ _ q=>q) (fun _ _ q=>q) rfl rfl
 obtain⟨v,hv⟩:∃ v,l.getD j default=v:=⟨_,rfl⟩
 have hvl:v∈l:=by rw[← hv];exact getD_mem hjl
 have hRy:Rs n o L c tn v:=by
  have e1:e.to.toNat=tn:=by rw[htn];rfl
  rcases(hnx v).1 hvl with q | q
  ·have:=Rs.edge hRx hem q.1;rw[e1] at this;rw[q.2];exact this
  ·have:=Rs.call hRx hem q.1 q.2;rw[e1] at this;exact this
 have g3:∀ z:Sp,rowI z.1=[.lit (.int .i64 (z.1:Int))]:=fun _=>rfl
 refine aw_seq ?_
 refine aw_of ?_
 simp -implicitDefEqProofs (disch:=omega) only[Wz,seval]
 refine aw_seq ?_
 refine aw_block' ?_
 refine aw_seq ?_
 refine aw_of ?_
 simp -implicitDefEqProofs (disch:=omega) only[Wz,seval]
 refine aw_seq_cut (fun σ2=>σ2=⟨[(18,.lit (.bool (decide ((tn,v)∈S)))),(17,.lit (.int .i64 (j:Int))),(16,.vec (l.map rowI) f),(15,.lit (.int .i64 (k:Int))),(14,.vec (ss.edges.map encE) false),(13,.lit (.int .i64 (xp:Int))),(12,.lit (.int .i64 (xs:Int))),(11,.lit (.int .i64 (i:Int))),(9,.own ts S.length),(10,.own tp S.length),(0,.ptr ai 0),(1,.lit (.int .i64 c.level))],H1,168⟩) ?_ ?_
 ·refine aw_of ?_
  simp -implicitDefEqProofs (disch:=omega) only[Wz,seval]
  refine aw_measA (fun m:Nat=>⟨[(19,.lit (.int .i64 (m:Int))),(18,.lit (.bool (decide ((tn,v)∈S.take m)))),(17,.lit (.int .i64 (j:Int))),(16,.vec (l.map rowI) f),(15,.lit (.int .i64 (k:Int))),(14,.vec (ss.edges.map encE) false),(13,.lit (.int .i64 (xp:Int))),(12,.lit (.int .i64 (xs:Int))),(11,.lit (.int .i64 (i:Int))),(9,.own ts S.length),(10,.own tp S.length),(0,.ptr ai 0),(1,.lit (.int .i64 c.level))],H1,168⟩) (fun m=>m≤S.length) (fun m=>S.length - m) 0 (wk_lk (by simp[lk]) (fun _ _ q=>q) (fun _ _ q=>q) rfl rfl) (Nat.zero_le _) ?_
  intro m hm
  refine aw_of ?_
  rcases Nat.lt_or_ge m S.length with hml | hge
  rotate_left
  ·have e1:m=S.length:=by omega
   subst e1
   simp -implicitDefEqProofs (disch:=omega) only[Wz,seval,hks,l1]
   refine⟨_,?_,rfl⟩
   exact wk_lk (by simp[lk]) (fun _ _ q=>q) (fun _ _ q=>q) rfl rfl
  obtain⟨z,hz⟩:∃ z,S.getD m default=z:=⟨_,rfl⟩
  have g1:(sts S)[m]? = some [.lit (.int .i64 (z.1:Int))]:=by unfold sts;rw[List.getElem?_map,getD_get hml,hz];rfl
  have g2:(pls S)[m]? = some [.lit (.int .i64 (z.2:Int))]:=by unfold pls;rw[List.getElem?_map,getD_get hml,hz];rfl
  have hts2:S.take (m+1)=S.take m++[z]:=by rw[List.take_add_one,getD_get hml,hz];rfl
  simp -implicitDefEqProofs (disch:=omega) only[Wz,seval,hks,l1]
  refine aw_quietN (n:=168) rfl (by decide) mixed ?_
  cases hb:decide ((tn,v)∈S.take m) with
  | true =>
   have hb2:decide ((tn,v)∈S.take (m+1))=true:=decide_eq_true (by rw[hts2,List.mem_append];exact .inl (of_decide_eq_true hb))
   simp -implicitDefEqProofs (disch:=omega) only[Wz,seval,List.append_eq,List.cons_append,List.nil_append]
   exact⟨m+1,by omega,by omega,wk_lk (by simp[lk,hb2]) (fun _ _ q=>q) (fun _ _ q=>q) rfl rfl⟩
  | false =>
   have hbn:=of_decide_eq_false hb
   by_cases z1:z.1=tn
   ·by_cases z2:z.2=v
    ·have hb2:decide ((tn,v)∈S.take (m+1))=true:=decide_eq_true (by rw[hts2,List.mem_append];right;rw[← z1,← z2];simp)
     have e1:((z.1:Int)==(tn:Int))=true:=beqT (by omega)
     have e2:((z.2:Int)==(v:Int))=true:=beqT (by omega)
     simp -implicitDefEqProofs (disch:=omega) only[Wz,seval,hks,hkp,l1,l2,g1,g2,he,encE,htn,hv,rowI,e1,e2,List.append_eq,List.cons_append,List.nil_append]
     exact⟨m+1,by omega,by omega,wk_lk (by simp[lk,hb2]) (fun _ _ q=>q) (fun _ _ q=>q) rfl rfl⟩
    ·have hb2:decide ((tn,v)∈S.take (m+1))=false:=decide_eq_false (by rw[hts2,List.mem_append];rintro(q | q);exact hbn q;exact z2 (by simp only[List.mem_singleton] at q;rw[← q]))
     have e1:((z.1:Int)==(tn:Int))=true:=beqT (by omega)
     have e2:((z.2:Int)==(v:Int))=false:=beqF (by omega)
     simp -implicitDefEqProofs (disch:=omega) only[Wz,seval,hks,hkp,l1,l2,g1,g2,he,encE,htn,hv,rowI,e1,e2,List.append_eq,List.cons_append,List.nil_append]
     exact⟨m+1,by omega,by omega,wk_lk (by simp[lk,hb2]) (fun _ _ q=>q) (fun _ _ q=>q) rfl rfl⟩
   ·have hb2:decide ((tn,v)∈S.take (m+1))=false:=decide_eq_false (by rw[hts2,List.mem_append];rintro(q | q);exact hbn q;exact z1 (by simp only[List.mem_singleton] at q;rw[← q]))
    have e1:((z.1:Int)==(tn:Int))=false:=beqF (by omega)
    simp -implicitDefEqProofs (disch:=omega) only[Wz,seval,hks,hkp,l1,l2,g1,g2,he,encE,htn,hv,rowI,e1,List.append_eq,List.cons_append,List.nil_append]
    exact⟨m+1,by omega,by omega,wk_lk (by simp[lk,hb2]) (fun _ _ q=>q) (fun _ _ q=>q) rfl rfl⟩
 rintro σ2 rfl
 refine aw_of ?_
 have tkj:∀ u∈l.take (j+1),u∈l.take j∨u=v:=fun u hu=>by
  rw[List.take_add_one,getD_get hjl,hv] at hu
  simpa using hu
 cases hb:decide ((tn,v)∈S) with
 | true =>
  have hbm:=of_decide_eq_true hb
  simp -implicitDefEqProofs (disch:=omega) only[Wz,seval]
  refine aw_of ?_
  simp -implicitDefEqProofs (disch:=omega) only[Wz,seval]
  refine⟨(j+1,S,H1,M1),⟨by simp only;omega,hmax,hPr,hG,hs,fun u hu=>?_⟩,by simp only;omega,?_⟩
  ·rcases tkj u hu with q | q
   ·exact hin u q
   ·rw[q];exact hbm
  ·simp only
   rw[hS4]
   exact wk_lk (by simp[lk]) (fun _ _ q=>q) (fun _ _ q=>q) rfl rfl
 | false =>
  have hbn:=of_decide_eq_false hb
  have hG2:=hG.put hRy hbn
  have hs2:=hs.put (tn,v)
  have hfit:fits (S.length+1) 8:=fits_of' (by omega) (by omega)
  have hne1:(ts=tp)=False:=eq_false hs.ne
  have hne2:(tp=ts)=False:=eq_false fun q=>hs.ne q.symm
  have hku:∀ k',lk (up H1.toks ts k') tp=some ⟨pls S,0,1⟩:=fun k'=>by rw[lk_up,if_neg hs.ne,hkp]
  have r1:sts S++[[.lit (.int .i64 (tn:Int))]]=sts (S++[(tn,v)]):=by simp[sts,rowI]
  have r2:pls S++[[.lit (.int .i64 (v:Int))]]=pls (S++[(tn,v)]):=by simp[pls,rowI]
  simp -implicitDefEqProofs (disch:=omega) only[Wz,seval,hks,hku,l1,l2,he,encE,htn,hv,rowI,hfit,r1,r2,List.mem_singleton,forall_eq,if_true,List.length_cons,List.length_nil]
  refine aw_of ?_
  simp -implicitDefEqProofs (disch:=omega) only[Wz,seval]
  have hm1:(S++[(tn,v)]).length=S.length+1:=by simp
  refine⟨(j+1,S++[(tn,v)],⟨H1.boxes,up (up H1.toks ts ⟨sts (S++[(tn,v)]),0,1⟩) tp ⟨pls (S++[(tn,v)]),0,1⟩,H1.nx⟩,M1),⟨by simp only;omega,by simp only;omega,by simp only;rw[List.take_append_of_le_length hmax];exact hPr,by simp only;rw[List.drop_append_of_le_length hmax];exact hG2,hs2,fun u hu=>?_⟩,by simp only;omega,?_⟩
  ·simp only
   rw[List.mem_append]
   rcases tkj u hu with q | q
   ·exact .inl (hin u q)
   ·right;rw[q];simp
  ·simp only
   rw[hS4,hm1]
   exact wk_lk (by simp[lk]) (fun _ _ q=>q) (fun _ _ q=>q) rfl rfl
end Go.Proofs.YtbbnfbnicacdoaaGreat
end
