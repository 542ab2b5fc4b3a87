/- What is told of ends, of what is viable, of what may come next, is the document's answer. Conditions: none beyond the statement's own bound on the arguments' bulk. -/
import Derived.Test.YtbbnfbnicacdoaaGreatTn
set_option linter.unusedVariables false
set_option linter.unusedSimpArgs false
section
namespace Go.Proofs.YtbbnfbnicacdoaaGreat
open Go Go.Ab
set_option maxRecDepth 20000
set_option maxHeartbeats 16000000
def Mem.putP(M:Mem)(c:Cl)(v:Bool)(tp tb:Nat):Mem:={M with P:=M.P++[c],B:=M.B++[v],tp:=tp,tb:=tb}
section
variable {n:Nt} {o:List Orc} {L:List It} {H:Hp} {ai:Nat} {M:Mem}
theorem toksP_ne{c:Cl}{v:Bool}{tp tb:Nat}:(M.putP c v tp tb).toks=(grT M.tk 3 (M.K.map encCl)++grT M.te 1 (M.E.map rowE))++[(tp,(⟨(M.P++[c]).map encCl,0,3⟩:Tk)),(tb,⟨(M.B++[v]).map encBo,0,1⟩)]:=by
 unfold Mem.toks Mem.putP
 simp only
 rw[grT_ne (rows:=(M.P++[c]).map encCl) (by simp),grT_ne (rows:=(M.B++[v]).map encBo) (by simp),List.append_assoc]
 rfl
theorem AtR.newP(h:AtR n o L H ai M)(hP:M.P=[])(hB:M.B=[])(c:Cl)(v:Bool) :
  AtR n o L ⟨up H.boxes ai (rkC n o L (M.putP c v H.nx (H.nx+1))),H.toks++[(H.nx,⟨[encCl c],0,3⟩)]++[(H.nx+1,⟨[encBo v],0,1⟩)],H.nx+1+1⟩ ai (M.putP c v H.nx (H.nx+1)) ∧
  FrmR H ai M ⟨up H.boxes ai (rkC n o L (M.putP c v H.nx (H.nx+1))),H.toks++[(H.nx,⟨[encCl c],0,3⟩)]++[(H.nx+1,⟨[encBo v],0,1⟩)],H.nx+1+1⟩ (M.putP c v H.nx (H.nx+1)):=by
 have hlt:=h.lt
 have hM:M.toks=grT M.tk 3 (M.K.map encCl)++grT M.te 1 (M.E.map rowE):=by unfold Mem.toks;rw[hP,hB];simp[grT]
 have hN:(M.putP c v H.nx (H.nx+1)).toks=M.toks++[(H.nx,(⟨[encCl c],0,3⟩:Tk)),(H.nx+1,⟨[encBo v],0,1⟩)]:=by rw[toksP_ne,hM,hP,hB];rfl
 have hNn:(M.putP c v H.nx (H.nx+1)).names=M.names++[H.nx,H.nx+1]:=by unfold Mem.names;rw[hN,List.map_append];rfl
 have old:∀ i,i<H.nx→lk (H.toks++[(H.nx,(⟨[encCl c],0,3⟩:Tk))]++[(H.nx+1,⟨[encBo v],0,1⟩)]) i=lk H.toks i:=fun i hi=>by
  rw[lk_app,lk_app];simp only[lk];rw[if_neg (by omega),if_neg (by omega),Option.or_none,Option.or_none]
 refine⟨⟨?_,fun i hi=>?_,fun i hi=>?_,fun q hq=>?_,?_⟩,⟨by show H.nx≤H.nx+1+1;omega,fun i hi hne=>?_,fun i hi _=>old i hi,fun i hi=>?_⟩⟩
 ·show lk (up _ _ _) ai=_
  rw[lk_up,if_pos rfl,h.bx];rfl
 ·have hi:H.nx+1+1≤i:=hi
  show lk (up _ _ _) i=_
  rw[lk_up,if_neg (by omega)];exact h.fb i (by omega)
 ·have hi:H.nx+1+1≤i:=hi
  show lk (_++_++_) i=_
  rw[lk_app,lk_app,h.ft i (by omega)];simp only[lk];rw[if_neg (by omega),if_neg (by omega)];rfl
 ·rw[hN] at hq
  show lk (_++_++_) q.1=_
  rcases List.mem_append.1 hq with r | r
  ·rw[old _ (h.nlt _ (List.mem_map.2 ⟨q,r,rfl⟩))];exact h.tk q r
  ·simp only[List.mem_cons,List.not_mem_nil,or_false] at r
   rcases r with r | r
   ·subst r;rw[lk_app,lk_app,h.ft _ (Nat.le_refl _)];simp[lk]
   ·subst r;rw[lk_app,lk_app,h.ft _ (Nat.le_succ _)];simp[lk]
 ·rw[hNn,List.nodup_append]
  refine⟨h.nd,by simp,fun a ha b hb e=>?_⟩
  have:=h.nlt _ ha
  simp only[List.mem_cons,List.not_mem_nil,or_false] at hb
  rcases hb with r | r <;> omega
 ·show lk (up _ _ _) i=_
  rw[lk_up,if_neg (fun q=>hne q.symm)]
 ·rw[hNn,List.mem_append] at hi
  rcases hi with r | r
  ·exact .inl r
  ·simp only[List.mem_cons,List.not_mem_nil,or_false] at r
   right;rcases r with r | r <;> omega
theorem AtR.oldP(h:AtR n o L H ai M)(hP:M.P≠[])(hB:M.B≠[])(c:Cl)(v:Bool) :
  M.tp≠M.tb∧lk H.toks M.tp=some ⟨M.P.map encCl,0,3⟩∧lk H.toks M.tb=some ⟨M.B.map encBo,0,1⟩ ∧
  AtR n o L ⟨up H.boxes ai (rkC n o L (M.putP c v M.tp M.tb)),up (up H.toks M.tp ⟨(M.P++[c]).map encCl,0,3⟩) M.tb ⟨(M.B++[v]).map encBo,0,1⟩,H.nx⟩ ai (M.putP c v M.tp M.tb) ∧
  FrmR H ai M ⟨up H.boxes ai (rkC n o L (M.putP c v M.tp M.tb)),up (up H.toks M.tp ⟨(M.P++[c]).map encCl,0,3⟩) M.tb ⟨(M.B++[v]).map encBo,0,1⟩,H.nx⟩ (M.putP c v M.tp M.tb):=by
 have hlt:=h.lt
 obtain⟨Rst,hRst⟩:∃ Rst,grT M.tk 3 (M.K.map encCl)++grT M.te 1 (M.E.map rowE)=Rst:=⟨_,rfl⟩
 have hM:M.toks=Rst++[(M.tp,(⟨M.P.map encCl,0,3⟩:Tk)),(M.tb,⟨M.B.map encBo,0,1⟩)]:=by
  unfold Mem.toks
  rw[grT_ne (rows:=M.P.map encCl) (by simpa using hP),grT_ne (rows:=M.B.map encBo) (by simpa using hB),← hRst,List.append_assoc];rfl
 have hN:(M.putP c v M.tp M.tb).toks=Rst++[(M.tp,(⟨(M.P++[c]).map encCl,0,3⟩:Tk)),(M.tb,⟨(M.B++[v]).map encBo,0,1⟩)]:=by rw[toksP_ne,hRst]
 have hnd:=h.nd
 have hnn:M.names=Rst.map Prod.fst++[M.tp,M.tb]:=by unfold Mem.names;rw[hM,List.map_append];rfl
 have hNn:(M.putP c v M.tp M.tb).names=M.names:=by unfold Mem.names;rw[hN,hM,List.map_append (l₁:=Rst),List.map_append (l₁:=Rst)];rfl
 have hl:=h.nlt
 rw[hnn,List.nodup_append] at hnd
 have hne:M.tp≠M.tb:=fun q=>by have:=hnd.2.1;rw[q] at this;simp at this
 have k1:=h.tk (M.tp,⟨M.P.map encCl,0,3⟩) (by rw[hM];simp)
 have k2:=h.tk (M.tb,⟨M.B.map encBo,0,1⟩) (by rw[hM];simp)
 simp only at k1 k2
 have l1:=hl M.tp (by rw[hnn];simp)
 have l2:=hl M.tb (by rw[hnn];simp)
 have oth:∀ i,i≠M.tp→i≠M.tb→∀ a b,lk (up (up H.toks M.tp a) M.tb b) i=lk H.toks i:=fun i e1 e2 a b=>by
  rw[lk_up,if_neg (fun q=>e2 q.symm),lk_up,if_neg (fun q=>e1 q.symm)]
 refine⟨hne,k1,k2,⟨?_,fun i hi=>?_,fun i hi=>?_,fun q hq=>?_,by rw[hNn];exact h.nd⟩,⟨Nat.le_refl _,fun i hi hne=>?_,fun i hi hm=>?_,fun i hi=>by rw[hNn] at hi;exact .inl hi⟩⟩
 ·show lk (up _ _ _) ai=_
  rw[lk_up,if_pos rfl,h.bx];rfl
 ·have hi:H.nx≤i:=hi
  show lk (up _ _ _) i=_
  rw[lk_up,if_neg (by omega)];exact h.fb i hi
 ·have hi:H.nx≤i:=hi
  show lk (up (up _ _ _) _ _) i=_
  rw[oth i (by omega) (by omega)];exact h.ft i hi
 ·rw[hN] at hq
  show lk (up (up _ _ _) _ _) q.1=_
  rcases List.mem_append.1 hq with r | r
  ·have m:q.1∈Rst.map Prod.fst:=List.mem_map.2 ⟨q,r,rfl⟩
   rw[oth q.1 (fun e=>hnd.2.2 _ m M.tp (by simp) e) (fun e=>hnd.2.2 _ m M.tb (by simp) e)]
   exact h.tk q (by rw[hM];simp[r])
  ·simp only[List.mem_cons,List.not_mem_nil,or_false] at r
   rcases r with r | r
   ·subst r;rw[lk_up,if_neg (fun q=>hne q.symm),lk_up,if_pos rfl,k1];rfl
   ·subst r;rw[lk_up,if_pos rfl,lk_up,if_neg hne,k2];rfl
 ·show lk (up _ _ _) i=_
  rw[lk_up,if_neg (fun q=>hne q.symm)]
 ·show lk (up (up _ _ _) _ _) i=_
  rw[hnn] at hm
  exact oth i (fun e=>hm (by rw[e];simp)) (fun e=>hm (by rw[e];simp)) _ _
theorem MOk.putP(h:MOk n o L M){c:Cl}(hc:c∉M.P)(hb:c.rule<100∧0≤c.level∧c.level≤65∧c.pos≤25)(tp tb:Nat):MOk n o L (M.putP c (opB n o L c) tp tb):=by
 refine⟨h.lE,by simp[Mem.putP,h.lB],h.okE,fun i hi=>?_,h.ndK,?_,h.bdK,fun k hk=>?_⟩
 ·have hi:i<M.P.length+1:=by simpa [Mem.putP] using hi
  show (M.B++[opB n o L c]).getD i false=opB n o L ((M.P++[c]).getD i ⟨0,0,0⟩)
  rw[getD_app (by rw[h.lB];exact hi),getD_app hi,h.lB]
  split
  ·rename_i q;exact h.okB i q
  ·rfl
 ·show (M.P++[c]).Nodup
  rw[List.nodup_append]
  exact⟨h.ndP,by simp,fun a ha b hb' e=>hc (by simp only[List.mem_singleton] at hb';rw[← hb',← e];exact ha)⟩
 ·rcases List.mem_append.1 hk with q | q
  ·exact h.bdP k q
  ·simp only[List.mem_singleton] at q;rw[q];exact hb
end
theorem rOpen_spec(n:Nt)(o:List Orc)(L:List It)(w:Wf n)(okn:NtOk n)(rk:Nat→Nat)(hrk:Rk n rk)(ho:o.length≤1000000000)(hL:L.length≤25):∀ c:Cl,c.rule<n.rules.length→c.pos≤L.length→(0≤c.level→c.level≤65→OpenC n o L rk c):=by
 refine cl_ind (n:=n) (L:=L) rk (P:=fun c=>0≤c.level→c.level≤65→OpenC n o L rk c) ?_
 intro c hr hp ih hl0 hl1 H ai M hA hM
 have hF:=rOpenFrom_spec n o L w okn rk hrk ho hL c hr hp (fun d a b l1 l2 _=>rEnd_spec n o L w okn rk hrk ho hL d a b l1 l2) (fun d a b l1 l2 hlt=>ih d a b hlt l1 l2)
 obtain⟨R,hR⟩:∃ R:AV→Hp→Prop,(fun r h'=>r=AV.lit (.bool (opB n o L c))∧∃ M',LftO n o L rk c true H ai M h' M')=R:=⟨_,rfl⟩
 rw[hR]
 refine SCall_introK Tryz.func59 rfl Tryz.ntmps59 (rs:=[.tmp 8]) rfl (by simp) ?_
 have hst:=w.nst
 have hru:=w.nru
 have hsr:=w.start hr
 obtain⟨r,hrr⟩:∃ r,n.rules.getD c.rule default=r:=⟨_,rfl⟩
 rw[hrr] at hsr
 obtain⟨st,hst2⟩:∃ st:Nat,r.start=(st:Int):=⟨r.start.toNat,by omega⟩
 have hstN:stN n c.rule=st:=by unfold stN;rw[hrr,hst2];rfl
 rw[hstN] at hF
 have hnb:∀ x,lk (H.boxes++[(H.nx,x)]) H.nx=some x:=fun x=>by rw[lk_app,hA.fb _ (Nat.le_refl _)];simp[lk]
 have hub:∀ a b,up (H.boxes++[(H.nx,a)]) H.nx b=H.boxes++[(H.nx,b)]:=fun a b=>up_app (hA.fb _ (Nat.le_refl _))
 refine aw_seq ?_
 refine aw_of ?_
 simp -implicitDefEqProofs (disch:=omega) only[Wz,seval]
 refine aw_seq ?_
 refine aw_of ?_
 simp -implicitDefEqProofs (disch:=omega) only[Wz,seval,hnb,hub]
 obtain⟨hk9,hhk⟩:∃ hk9,H.nx=hk9:=⟨_,rfl⟩
 obtain⟨H1,hH1⟩:∃ H1:Hp,(⟨H.boxes++[(H.nx,encCl c)],H.toks,H.nx+1⟩:Hp)=H1:=⟨_,rfl⟩
 have a1:AtR n o L H1 ai M:=by rw[← hH1];exact hA.addB _
 have f1:FrmR H ai M H1 M:=by rw[← hH1];exact FrmR.addB _
 have b1:lk H1.boxes hk9=some [.lit (.int .i64 (c.rule:Int)),.lit (.int .i64 c.level),.lit (.int .i64 (c.pos:Int))]:=by rw[← hH1,← hhk];exact hnb _
 have hkl:hk9<H1.nx:=by rw[← hH1,← hhk];exact Nat.lt_succ_self _
 have hkne:hk9≠ai:=by have:=hA.lt;omega
 have hKl:=keys_le hM.ndP hM.bdP
 refine aw_seq_cut (fun σ2=>c∉M.P∧σ2=⟨[(9,.ptr hk9 0),(0,.ptr ai 0),(1,.lit (.int .i64 (c.rule:Int))),(2,.lit (.int .i64 c.level)),(3,.lit (.int .i64 (c.pos:Int)))],H1,75⟩) ?_ ?_
 ·have hbx:=a1.bx
  unfold rkC rkX encN at hbx
  simp only[List.cons_append,List.nil_append] at hbx
  refine aw_of ?_
  simp -implicitDefEqProofs (disch:=omega) only[Wz,seval]
  obtain⟨S1,hS1⟩:∃ S1:Nat→St,∀ i,S1 i=⟨[(10,.lit (.int .i64 (i:Int))),(9,.ptr hk9 0),(0,.ptr ai 0),(1,.lit (.int .i64 (c.rule:Int))),(2,.lit (.int .i64 c.level)),(3,.lit (.int .i64 (c.pos:Int)))],H1,75⟩:=⟨_,fun _=>rfl⟩
  refine aw_measA S1 (fun i=>i≤M.P.length∧c∉M.P.take i) (fun i=>M.P.length - i) 0 ?_ ⟨Nat.zero_le _,by simp⟩ ?_
  ·rw[hS1,← hH1,← hhk]
   exact wk_lk (by simp[lk]) (fun _ _ q=>q) (fun _ _ q=>q) rfl rfl
  rintro i ⟨hi,hin⟩
  rw[hS1]
  refine aw_of ?_
  rcases Nat.lt_or_ge i M.P.length with hil | hge
  rotate_left
  ·have e:i=M.P.length:=by omega
   subst e
   rw[List.take_length] at hin
   by_cases hKe:M.P=[]
   ·rw[hKe] at hbx
    simp only[List.map_nil,grA] at hbx
    have h0:M.P.length=0:=by rw[hKe];rfl
    simp -implicitDefEqProofs (disch:=omega) only[Wz,seval,hbx,h0,List.length_nil]
    refine⟨_,?_,hin,rfl⟩
    exact wk_lk (by simp[lk]) (fun _ _ q=>q) (fun _ _ q=>q) rfl rfl
   ·rw[grA_ne (t:=M.tp) (rows:=M.P.map encCl) (by simpa using hKe)] at hbx
    simp -implicitDefEqProofs (disch:=omega) only[Wz,seval,hbx]
    refine⟨_,?_,hin,rfl⟩
    exact wk_lk (by simp[lk]) (fun _ _ q=>q) (fun _ _ q=>q) rfl rfl
  have hKne:M.P≠[]:=fun q=>by rw[q] at hil;exact absurd hil (Nat.not_lt_zero _)
  have hEne:M.B≠[]:=fun q=>by have:=hM.lB;rw[q] at this;have h0:M.P.length=0:=this.symm;omega
  obtain⟨_,t1,t2,_,_⟩:=a1.oldP hKne hEne c false
  rw[grA_ne (t:=M.tp) (rows:=M.P.map encCl) (by simpa using hKne),grA_ne (t:=M.tb) (rows:=M.B.map encBo) (by simpa using hEne)] at hbx
  have hEl:=hM.lB
  obtain⟨kk,hkk⟩:∃ kk,M.P.getD i ⟨0,0,0⟩=kk:=⟨_,rfl⟩
  have hgi:M.P[i]? = some kk:=by rw[← hkk,List.getD_eq_getElem?_getD,List.getElem?_eq_getElem hil];rfl
  have g1:(M.P.map encCl)[i]? = some [.lit (.int .i64 (kk.rule:Int)),.lit (.int .i64 kk.level),.lit (.int .i64 (kk.pos:Int))]:=by rw[List.getElem?_map,hgi];rfl
  have g2:(M.B.map encBo)[i]? = some [.lit (.bool (opB n o L kk))]:=by
   have:=hM.okB i hil
   rw[hkk] at this
   rw[List.getElem?_map,← this,List.getD_eq_getElem?_getD,List.getElem?_eq_getElem (by omega)];rfl
  have htk:M.P.take (i+1)=M.P.take i++[kk]:=by rw[List.take_add_one,hgi];rfl
  simp -implicitDefEqProofs (disch:=omega) only[Wz,seval,hbx]
  refine aw_drawQ (n:=75) 8 (.alt 8 .leaf .nil) rfl (by decide) (by decide) mixed (by kernel_rfl) (by decide) ?_
  simp -implicitDefEqProofs (disch:=omega) only[Wz,seval,hbx,t1,g1,b1]
  refine stepK_eql_arr3 (k:=.i64) (a0:=(kk.rule:Int)) (a1:=kk.level) (a2:=(kk.pos:Int)) (b0:=(c.rule:Int)) (b1:=c.level) (b2:=(c.pos:Int)) rfl rfl ty111 rfl ty3 rfl rfl guard111 ?_
  by_cases hkc:kk=c
  ·subst hkc
   simp -implicitDefEqProofs (disch:=omega) only[Wz,seval,beq_self_eq_true,Bool.and_self,hbx,t2,g2,hEl]
   rw[← hR]
   exact⟨rfl,M,⟨a1,hM,f1,fun k hk=>.inl hk⟩⟩
  ·have hf:=cl_ne hkc
   simp -implicitDefEqProofs (disch:=omega) only[Wz,seval,hf]
   refine⟨i+1,⟨by omega,by rw[htk,List.mem_append];rintro(q | q);exact hin q;exact hkc (by simp only[List.mem_singleton] at q;exact q.symm)⟩,by omega,?_⟩
   rw[hS1]
   exact wk_lk (by simp[lk]) (fun _ _ q=>q) (fun _ _ q=>q) rfl rfl
 rintro σ2 ⟨hcK,rfl⟩
 have hbx:=a1.bx
 unfold rkC rkX encN at hbx
 simp only[List.cons_append,List.nil_append] at hbx
 have hFF:=hF H1 ai M a1 hM
 refine aw_seq ?_
 refine aw_of ?_
 simp -implicitDefEqProofs (disch:=omega) only[Wz,seval,hbx,hrr,encNr,hst2]
 refine CallK_of call78 hFF ?_
 rintro r' H2 ⟨rfl,M2,hl⟩
 simp -implicitDefEqProofs (disch:=omega) only[Wz,seval]
 obtain⟨l,hl2⟩:∃ l,opB n o L c=l:=⟨_,rfl⟩
 rw[hl2] at hR ⊢
 have a2:=hl.at'
 have b2:lk H2.boxes hk9=some [.lit (.int .i64 (c.rule:Int)),.lit (.int .i64 c.level),.lit (.int .i64 (c.pos:Int))]:=by rw[hl.fr.bx hk9 hkl hkne];exact b1
 have hc2:c∉M2.P:=fun q=>by
  rcases hl.ks c q with q | q | q
  ·exact hcK q
  ·exact Cl.lt_ir q
  ·cases q.1
 have hK2:=keys_le hl.ok.ndP hl.ok.bdP
 have hE2:=hl.ok.lB
 have hok:∀ tk te,MOk n o L (M2.putP c l tk te):=fun tk te=>by
  rw[← hl2]
  exact hl.ok.putP hc2 ⟨by omega,hl0,hl1,by omega⟩ tk te
 have hu:∀ x,lk (up H2.boxes ai x) ai=some x:=fun x=>by rw[lk_up,if_pos rfl,a2.bx];rfl
 have fin:∀ h' tk te,AtR n o L h' ai (M2.putP c l tk te)→FrmR H2 ai M2 h' (M2.putP c l tk te)→R (.lit (.bool l)) h':=fun h' tk te q1 q2=>by
  rw[← hR]
  refine⟨rfl,M2.putP c l tk te,⟨q1,hok tk te,(f1.trans hl.fr).trans q2,fun k hk=>?_⟩⟩
  rcases List.mem_append.1 hk with q | q
  ·rcases hl.ks k q with r | r | r
   ·exact .inl r
   ·exact .inr (.inl r)
   ·cases r.1
  ·exact .inr (.inr ⟨rfl,by simpa using q⟩)
 have hbx2:=a2.bx
 unfold rkC rkX encN at hbx2
 simp only[List.cons_append,List.nil_append] at hbx2
 have q3:(∀ q:List AV,q∈[encCl c]→q.length=3)=True:=eq_true (by simp[encCl])
 have q1:(∀ q:List AV,q∈[encBo l]→q.length=1)=True:=eq_true (by simp[encBo])
 by_cases hKe:M2.P=[]
 ·have hEe:M2.B=[]:=by have:=hl.ok.lB;rw[hKe] at this;exact List.length_eq_zero_iff.1 this
  obtain⟨w1,w2⟩:=a2.newP hKe hEe c l
  rw[hKe,hEe] at hbx2
  simp only[List.map_nil,grA] at hbx2
  have hf1:fits 1 24:=by decide
  have hf3:fits 1 1:=by decide
  refine aw_seq ?_
  refine aw_drawG (n:=75) (σ':=⟨[(11,.lit (.bool l)),(9,.ptr hk9 0),(0,.ptr ai 0),(1,.lit (.int .i64 (c.rule:Int))),(2,.lit (.int .i64 c.level)),(3,.lit (.int .i64 (c.pos:Int)))],⟨up H2.boxes ai (encN n++[.vec (o.map encO) false,itA L,grA M2.tk (M2.K.map encCl),grA M2.te (M2.E.map rowE),.own H2.nx 1,.vec [] true]),H2.toks++[(H2.nx,⟨[encCl c],0,3⟩)],H2.nx+1⟩,75⟩) (H2.nx+1) 7 (.alt 8 (.alt 9 (.alt 10 .leaf .nil) .nil) .nil) rfl rfl (by decide) (by decide) (by decide) mixed (by kernel_rfl) (by decide) ?_ ?_
  ·simp -implicitDefEqProofs (disch:=omega) only[Wz,seval,encN,hbx2,b2,hf1,List.mem_singleton,forall_eq,List.not_mem_nil,false_imp_iff,implies_true,if_true,List.length_cons,List.length_nil]
   exact St.wk.cp (wk_lk (by simp[lk]) (fun _ _ q=>q) (fun _ _ q=>q) rfl rfl)
  refine aw_of ?_
  simp -implicitDefEqProofs (disch:=omega) only[Wz,seval,encN,encBo,hu,up_up,hf1,hf3,List.mem_singleton,forall_eq,List.not_mem_nil,false_imp_iff,implies_true,if_true,List.length_cons,List.length_nil]
  have:=fin _ _ _ w1 w2
  unfold rkC Mem.putP at this
  rw[hKe,hEe] at this
  exact this
 ·have hEe:M2.B≠[]:=fun q=>by rw[q] at hE2;exact hKe (List.length_eq_zero_iff.1 hE2.symm)
  obtain⟨hne,t1,t2,w1,w2⟩:=a2.oldP hKe hEe c l
  rw[grA_ne (t:=M2.tp) (rows:=M2.P.map encCl) (by simpa using hKe),grA_ne (t:=M2.tb) (rows:=M2.B.map encBo) (by simpa using hEe),List.length_map,List.length_map] at hbx2
  have hf1:fits (M2.P.length+1) 24:=fits_of' (by omega) (by omega)
  have hf2:fits (M2.B.length+1) 1:=fits_of' (by omega) (by omega)
  have t3:∀ x,lk (up H2.toks M2.tp x) M2.tb=some ⟨M2.B.map encBo,0,1⟩:=fun x=>by rw[lk_up,if_neg hne];exact t2
  refine aw_seq ?_
  refine aw_drawG (n:=75) (σ':=⟨[(11,.lit (.bool l)),(9,.ptr hk9 0),(0,.ptr ai 0),(1,.lit (.int .i64 (c.rule:Int))),(2,.lit (.int .i64 c.level)),(3,.lit (.int .i64 (c.pos:Int)))],⟨up H2.boxes ai (encN n++[.vec (o.map encO) false,itA L,grA M2.tk (M2.K.map encCl),grA M2.te (M2.E.map rowE),.own M2.tp (M2.P.length+1),.own M2.tb M2.B.length]),up H2.toks M2.tp ⟨(M2.P++[c]).map encCl,0,3⟩,H2.nx⟩,75⟩) H2.nx 7 (.alt 8 (.alt 9 (.alt 10 .leaf .nil) .nil) .nil) rfl rfl (by decide) (by decide) (by decide) mixed (by kernel_rfl) (by decide) ?_ ?_
  ·simp -implicitDefEqProofs (disch:=omega) only[Wz,seval,encN,hbx2,b2,t1,hf1,List.mem_singleton,forall_eq,List.not_mem_nil,false_imp_iff,implies_true,if_true,List.length_cons,List.length_nil]
   exact St.wk.cp (wk_lk (by simp[lk]) (fun _ _ q=>q) (fun p k q=>by rw[← q];simp[encCl]) rfl rfl)
  refine aw_of ?_
  simp -implicitDefEqProofs (disch:=omega) only[Wz,seval,encN,encBo,hu,up_up,t3,hf2,List.mem_singleton,forall_eq,List.not_mem_nil,false_imp_iff,implies_true,if_true,List.length_cons,List.length_nil]
  have:=fin _ _ _ w1 w2
  unfold rkC Mem.putP at this
  rw[grA_ne (t:=M2.tp) (rows:=(M2.P++[c]).map encCl) (by simp),grA_ne (t:=M2.tb) (rows:=(M2.B++[l]).map encBo) (by simp)] at this
  simp only[List.length_map,List.length_append,List.length_singleton,List.map_append,List.map_cons,List.map_nil] at this ⊢
  exact this
end Go.Proofs.YtbbnfbnicacdoaaGreat
end
section
namespace Go.Proofs.YtbbnfbnicacdoaaGreat
open Go Go.Ab
set_option maxRecDepth 20000
set_option maxHeartbeats 16000000
def Mem.nil:Mem:=⟨[],[],[],[],0,0,0,0⟩
structure AtQ (n:Nt) (o:List Orc) (H:Hp) (ai:Nat):Prop where
 bx:∃ it k e p b,lk H.boxes ai=some (rkX n o it k e p b)
 fb:∀ i,H.nx≤i→lk H.boxes i=none
 ft:∀ i,H.nx≤i→lk H.toks i=none
theorem AtQ.lt{n:Nt}{o:List Orc}{H:Hp}{ai:Nat}(h:AtQ n o H ai):ai<H.nx:=by
 obtain⟨it,k,e,p,b,q⟩:=h.bx
 exact lk_none_ne q h.fb
structure LeftQ (n:Nt) (o:List Orc) (H:Hp) (ai:Nat) (h':Hp):Prop where
 at':AtQ n o h' ai
 nx:H.nx≤h'.nx
 bx:∀ i,i<H.nx→i≠ai→lk h'.boxes i=lk H.boxes i
 tk:∀ i,i<H.nx→lk h'.toks i=lk H.toks i
theorem LeftQ.refl{n:Nt}{o:List Orc}{H:Hp}{ai:Nat}(h:AtQ n o H ai):LeftQ n o H ai H:=⟨h,Nat.le_refl _,fun _ _ _=>rfl,fun _ _=>rfl⟩
theorem LeftQ.trans{n:Nt}{o:List Orc}{H H1 H2:Hp}{ai:Nat}(h:LeftQ n o H ai H1)(k:LeftQ n o H1 ai H2):LeftQ n o H ai H2 :=
 ⟨k.at',Nat.le_trans h.nx k.nx,fun i hi hn=>by rw[k.bx i (Nat.lt_of_lt_of_le hi h.nx) hn,h.bx i hi hn],fun i hi=>by rw[k.tk i (Nat.lt_of_lt_of_le hi h.nx),h.tk i hi]⟩
theorem MOk.nil{n:Nt}{o:List Orc}{L:List It}:MOk n o L Mem.nil :=
 ⟨rfl,rfl,fun i hi=>absurd hi (Nat.not_lt_zero _),fun i hi=>absurd hi (Nat.not_lt_zero _),List.nodup_nil,List.nodup_nil,(fun c hc=>by cases hc),(fun c hc=>by cases hc)⟩
theorem use_atR{n:Nt}{o:List Orc}{H:Hp}{ai:Nat}(h:AtQ n o H ai)(l:List It):AtR n o l ⟨up H.boxes ai (rkX n o (itA l) (.vec [] true) (.vec [] true) (.vec [] true) (.vec [] true)),H.toks,H.nx⟩ ai Mem.nil:=by
 obtain⟨it,k,e,p,b,q⟩:=h.bx
 refine⟨?_,fun i hi=>?_,h.ft,(fun q hq=>by cases hq),List.nodup_nil⟩
 ·show lk (up _ _ _) ai=_
  rw[lk_up,if_pos rfl,q];rfl
 ·have:=h.lt
  have hi:H.nx≤i:=hi
  show lk (up _ _ _) i=_
  rw[lk_up,if_neg (by omega)];exact h.fb i hi
theorem use_left{n:Nt}{o:List Orc}{L:List It}{H:Hp}{ai:Nat}(h:AtQ n o H ai){c:List AV}{h':Hp}{M':Mem}(a:AtR n o L h' ai M')(f:FrmR ⟨up H.boxes ai c,H.toks,H.nx⟩ ai Mem.nil h' M'):LeftQ n o H ai h' :=
 ⟨⟨⟨_,_,_,_,_,a.bx⟩,a.fb,a.ft⟩,f.nx,fun i hi hn=>by rw[f.bx i hi hn];show lk (up _ _ _) i=_;rw[lk_up,if_neg fun q=>hn q.symm],fun i hi=>f.tk i hi (by intro q;cases q)⟩
theorem anyLe0_at{L:List It}{k:Nat}(h:k<L.length)(h0:(L.getD k default).type≤0):anyLe0 L=true:=by
 unfold anyLe0
 rw[List.any_eq_true]
 exact⟨_,getD_mem h,decide_eq_true h0⟩
theorem anyLe0_no{L:List It}(h:∀ k,k<L.length→¬ (L.getD k default).type≤0):anyLe0 L=false:=by
 cases q:anyLe0 L with
 | false=>rfl
 | true =>
  unfold anyLe0 at q
  rw[List.any_eq_true] at q
  obtain⟨x,hx,h2⟩:=q
  obtain⟨k,hk,e⟩:=mem_getD hx
  exact absurd (by rw[e];exact of_decide_eq_true h2) (h k hk)
theorem rAll_spec(n:Nt)(o:List Orc)(N:NetOk n o)(rule:Nat)(hr:rule<n.rules.length)(l:List It)(hL:l.length≤25)(H:Hp)(ai:Nat)(hA:AtQ n o H ai) :
  SCall Tryz.prog 34 [.ptr ai 0,.lit (.int .i64 (rule:Int)),.vec (l.map encI) false] H fun r h'=>r = .lit (.bool (viaV n o rule l))∧LeftQ n o H ai h':=by
 obtain⟨rk,hrk⟩:=N.rk
 obtain⟨v,hv⟩:∃ v,viaV n o rule l=v:=⟨_,rfl⟩
 rw[hv]
 obtain⟨R,hR⟩:∃ R:AV→Hp→Prop,(fun r h'=>r=AV.lit (.bool v)∧LeftQ n o H ai h')=R:=⟨_,rfl⟩
 rw[hR]
 refine SCall_introK Tryz.func34 rfl Tryz.ntmps34 (rs:=[.tmp 6]) rfl (by simp) ?_
 unfold viaV at hv
 obtain⟨it,k,ee,pp,b,hbx⟩:=hA.bx
 have hU:=rUse_spec n o k ee pp b H ai it l hbx
 have aR:=use_atR hA l
 have c0:(⟨rule,0,0⟩:Cl).rule<n.rules.length:=hr
 have hE:=rEnd_spec n o l N.w N.ok rk hrk N.ho hL ⟨rule,0,0⟩ hr (Nat.zero_le _) (Int.le_refl _) (show (0:Int)≤65 by decide)
 have hO:=rOpen_spec n o l N.w N.ok rk hrk N.ho hL ⟨rule,0,0⟩ hr (Nat.zero_le _) (Int.le_refl _) (show (0:Int)≤65 by decide)
 refine aw_of ?_
 simp -implicitDefEqProofs (disch:=omega) only[Wz,seval]
 refine aw_measA (fun i:Nat=>⟨[(8,.lit (.int .i64 (i:Int))),(7,.lit (.int .i64 (l.length:Int))),(0,.ptr ai 0),(1,.lit (.int .i64 (rule:Int))),(2,.vec (l.map encI) false)],H,46⟩) (fun i=>(i=0∨i+1≤l.length)∧∀ j,j<i→¬ (l.getD j default).type≤0) (fun i=>l.length - i) 0 (wk_lk (by simp[lk]) (fun _ _ q=>q) (fun _ _ q=>q) rfl rfl) ⟨.inl rfl,fun j q=>absurd q (Nat.not_lt_zero _)⟩ ?_
 rintro i ⟨hi,hno⟩
 refine aw_of ?_
 by_cases hil:i+1<l.length
 ·obtain⟨x,hx⟩:∃ x,l.getD i default=x:=⟨_,rfl⟩
  by_cases h0:x.type≤0
  ·have hv2:false=v:=by
    rw[if_pos (by omega)] at hv
    rw[← hv,if_pos]
    refine anyLe0_at (k:=i) (by rw[List.length_take];omega) ?_
    have e:(l.take (l.length - 1)).getD i default=x:=by rw[← hx,List.getD_eq_getElem?_getD,List.getElem?_take,if_pos (by omega),← List.getD_eq_getElem?_getD]
    rw[e];exact h0
   subst hv2
   simp -implicitDefEqProofs (disch:=omega) only[Wz,seval,hx,encI]
   rw[← hR]
   exact⟨rfl,LeftQ.refl hA⟩
  ·simp -implicitDefEqProofs (disch:=omega) only[Wz,seval,hx,encI]
   exact⟨i+1,⟨.inr (by omega),fun j hj=>by rcases Nat.lt_succ_iff_lt_or_eq.1 hj with q | q;exact hno j q;subst q;rw[hx];exact h0⟩,by omega,wk_lk (by simp[lk]) (fun _ _ q=>q) (fun _ _ q=>q) rfl rfl⟩
 have hal:anyLe0 (l.take (l.length - 1))=false:=anyLe0_no fun j hj=>by
  rw[List.length_take] at hj
  have e:(l.take (l.length - 1)).getD j default=l.getD j default:=by rw[List.getD_eq_getElem?_getD,List.getElem?_take,if_pos (by omega),← List.getD_eq_getElem?_getD]
  rw[e]
  exact hno j (by omega)
 have hEE:=hE _ ai Mem.nil aR MOk.nil
 have hOO:=hO _ ai Mem.nil aR MOk.nil
 simp -implicitDefEqProofs (disch:=omega) only[Wz,seval]
 refine CallK_of call30 hU ?_
 rintro r' h' rfl
 by_cases hl0:0<l.length
 ·rw[if_pos hl0,if_neg (by rw[hal];decide)] at hv
  obtain⟨x,hx⟩:∃ x,l.getD (l.length - 1) default=x:=⟨_,rfl⟩
  rw[hx] at hv
  have i1:((l.length:Int) - 1).toNat=l.length - 1:=by omega
  have i2:IntKind.i64.wrap ((l.length:Int) - 1)=(l.length:Int) - 1:=i64w (by omega) (by omega)
  by_cases hx0:x.type=0
  ·rw[if_pos hx0] at hv
   have hv2:decide (l.length - 1∈whL n o l ⟨rule,0,0⟩)=v:=by
    rw[← hv,Bool.eq_iff_iff,decide_eq_true_iff,mem_whL,whW_bit]
   have hH:=rHasN_spec (whL n o l ⟨rule,0,0⟩) (whL n o l ⟨rule,0,0⟩).isEmpty (l.length - 1) (Nat.le_trans whL_len (by omega))
   rw[hv2] at hH
   have ec:(((l.length - 1:Nat)):Int)=(l.length:Int) - 1:=by omega
   rw[ec] at hH
   simp -implicitDefEqProofs (disch:=omega) only[Wz,seval,hx,encI,i1,i2]
   refine CallK_of call31 hEE ?_
   rintro r' h' ⟨rfl,M',hl⟩
   simp -implicitDefEqProofs (disch:=omega) only[Wz,seval,i1,i2,vO]
   refine CallK_pure call58 hH (allc (.vec (pure_rows pure_rowI _)) (allc (.lit _) alln)) (.lit _) ?_
   simp -implicitDefEqProofs (disch:=omega) only[Wz,seval]
   rw[← hR]
   exact⟨rfl,use_left hA hl.at' hl.fr⟩
  ·rw[if_neg hx0] at hv
   rw[hv] at hOO
   simp -implicitDefEqProofs (disch:=omega) only[Wz,seval,hx,encI,i1,i2]
   refine CallK_of call59 hOO ?_
   rintro r' h' ⟨rfl,M',hl⟩
   simp -implicitDefEqProofs (disch:=omega) only[Wz,seval]
   rw[← hR]
   exact⟨rfl,use_left hA hl.at' hl.fr⟩
 ·rw[if_neg hl0] at hv
  rw[hv] at hOO
  simp -implicitDefEqProofs (disch:=omega) only[Wz,seval]
  refine CallK_of call59 hOO ?_
  rintro r' h' ⟨rfl,M',hl⟩
  simp -implicitDefEqProofs (disch:=omega) only[Wz,seval]
  rw[← hR]
  exact⟨rfl,use_left hA hl.at' hl.fr⟩
theorem rEnds_spec(n:Nt)(o:List Orc)(N:NetOk n o)(rule level at':Int)(L:List It)(hL:L.length≤25∨601<L.length)(hL2:L.length≤1000000000)(H:Hp)(ai:Nat)(hA:AtQ n o H ai) :
  SCall Tryz.prog 10 [.ptr ai 0,.vec (L.map encI) false,.lit (.int .i64 rule),.lit (.int .i64 level),.lit (.int .i64 at')] H fun r h' =>
   (∃ f,r = .tup [.vec ((if endsE n rule level at' L.length=0 then endsL n o rule.toNat level at'.toNat L else []).map rowI) f,.lit (.int .i64 (endsE n rule level at' L.length))])∧LeftQ n o H ai h':=by
 obtain⟨rk,hrk⟩:=N.rk
 obtain⟨e,he⟩:∃ e,endsE n rule level at' L.length=e:=⟨_,rfl⟩
 obtain⟨l,hl⟩:∃ l,(if e=0 then endsL n o rule.toNat level at'.toNat L else [])=l:=⟨_,rfl⟩
 rw[he,hl]
 obtain⟨R,hR⟩:∃ R:AV→Hp→Prop,(fun r h'=>(∃ f,r=AV.tup [.vec (l.map rowI) f,.lit (.int .i64 e)])∧LeftQ n o H ai h')=R:=⟨_,rfl⟩
 rw[hR]
 refine SCall_introK Tryz.func10 rfl Tryz.ntmps10 (rs:=[.tmp 10,.tmp 11]) rfl (by simp) ?_
 obtain⟨it,k,ee,pp,b,hbx⟩:=hA.bx
 have hP:=rParser_spec n o k ee pp b H ai it rule (by have:=N.ok.rules;omega) hbx
 have hU:=rUse_spec n o k ee pp b H ai it L hbx
 have aR:=use_atR hA L
 unfold endsE at he
 rw[← rasksV_eq] at he
 unfold rasksV lateV at he
 refine aw_of ?_
 simp -implicitDefEqProofs (disch:=omega) only[Wz,seval]
 refine CallK_of call29 hP ?_
 rintro r' h' ⟨rfl,hh⟩
 rw[hh]
 clear hh
 cases hp:parserV n rule with
 | false =>
  have he2:(2:Int)=e:=by rw[← he,hp];split <;> rfl
  subst he2
  rw[if_neg (by decide)] at hl
  subst hl
  simp -implicitDefEqProofs (disch:=omega) only[Wz,seval]
  rw[← hR]
  exact⟨⟨true,rfl⟩,LeftQ.refl hA⟩
 | true =>
 rw[hp] at he
 by_cases q0:level<0
 ·have he2:(2:Int)=e:=by rw[← he];simp[q0]
  subst he2
  rw[if_neg (by decide)] at hl
  subst hl
  simp -implicitDefEqProofs (disch:=omega) only[Wz,seval]
  rw[← hR]
  exact⟨⟨true,rfl⟩,LeftQ.refl hA⟩
 by_cases q1:65<level
 ·have he2:(2:Int)=e:=by rw[← he];simp[q1]
  subst he2
  rw[if_neg (by decide)] at hl
  subst hl
  simp -implicitDefEqProofs (disch:=omega) only[Wz,seval]
  rw[← hR]
  exact⟨⟨true,rfl⟩,LeftQ.refl hA⟩
 by_cases q2:at'<0
 ·have he2:(2:Int)=e:=by rw[← he];simp[q2]
  subst he2
  rw[if_neg (by decide)] at hl
  subst hl
  simp -implicitDefEqProofs (disch:=omega) only[Wz,seval]
  rw[← hR]
  exact⟨⟨true,rfl⟩,LeftQ.refl hA⟩
 by_cases q3:(L.length:Int)<at'
 ·have he2:(2:Int)=e:=by rw[← he];simp[q3]
  subst he2
  rw[if_neg (by decide)] at hl
  subst hl
  simp -implicitDefEqProofs (disch:=omega) only[Wz,seval]
  rw[← hR]
  exact⟨⟨true,rfl⟩,LeftQ.refl hA⟩
 rw[decide_eq_false q0,decide_eq_false q1,decide_eq_false q2,decide_eq_false q3] at he
 by_cases q4:601<L.length
 ·have he2:(3:Int)=e:=by rw[← he];simp[q4]
  subst he2
  rw[if_neg (by decide)] at hl
  subst hl
  simp -implicitDefEqProofs (disch:=omega) only[Wz,seval]
  rw[← hR]
  exact⟨⟨true,rfl⟩,LeftQ.refl hA⟩
 have he2:(0:Int)=e:=by rw[← he];simp[q4]
 subst he2
 rw[if_pos rfl] at hl
 unfold parserV at hp
 simp only[Bool.and_eq_true,decide_eq_true_eq] at hp
 obtain⟨rn,hrn⟩:∃ rn:Nat,rule=(rn:Int):=⟨rule.toNat,by omega⟩
 obtain⟨an,han⟩:∃ an:Nat,at'=(an:Int):=⟨at'.toNat,by omega⟩
 subst hrn han
 rw[Int.toNat_natCast,Int.toNat_natCast] at hl
 have hll:whL n o L ⟨rn,level,an⟩=l:=hl
 have hE:=rEnd_spec n o L N.w N.ok rk hrk N.ho (by omega) ⟨rn,level,an⟩ (by simp only;omega) (by simp only;omega) (by simp only;omega) (by simp only;omega) _ ai Mem.nil aR MOk.nil
 rw[hll] at hE
 simp -implicitDefEqProofs (disch:=omega) only[Wz,seval]
 refine CallK_of call30 hU ?_
 rintro r' h' rfl
 simp -implicitDefEqProofs (disch:=omega) only[Wz,seval]
 refine CallK_of call31 hE ?_
 rintro r' h' ⟨rfl,M',hlf⟩
 simp -implicitDefEqProofs (disch:=omega) only[Wz,seval,vO]
 rw[← hR]
 exact⟨⟨_,rfl⟩,use_left hA hlf.at' hlf.fr⟩
theorem asksV_in{n:Nt}{rule:Int}{k:Nat}(h:asksV n rule k=0):0≤rule∧rule.toNat<n.rules.length∧k≤601:=by
 rw[← rasksV_eq] at h
 unfold rasksV parserV at h
 split at h
 ·rename_i q
  simp only[Bool.and_eq_true,decide_eq_true_eq] at q
  split at h
  ·cases h
  ·exact⟨q.1,by omega,by omega⟩
 ·cases h
theorem rViable_spec(n:Nt)(o:List Orc)(N:NetOk n o)(rule:Int)(L:List It)(hL:L.length≤25∨601<L.length)(hL2:L.length≤1000000000)(H:Hp)(ai:Nat)(hA:AtQ n o H ai) :
  SCall Tryz.prog 13 [.ptr ai 0,.lit (.int .i64 rule),.vec (L.map encI) false] H fun r h' =>
   r = .tup [.lit (.int .i64 ((if asksV n rule L.length=0 then viaN n o rule.toNat L L.length else 0:Nat):Int)),.lit (.int .i64 (asksV n rule L.length))]∧LeftQ n o H ai h':=by
 obtain⟨it,k,ee,pp,b,hbx⟩:=hA.bx
 have hask:=rAsks_spec n o k ee pp b H ai it rule L (by have:=N.ok.rules;omega) hL2 hbx
 have hz:=fun q=>asksV_in (n:=n) (rule:=rule) (k:=L.length) q
 obtain⟨v,hv⟩:∃ v,(if asksV n rule L.length=0 then viaN n o rule.toNat L L.length else 0:Nat)=v:=⟨_,rfl⟩
 rw[hv]
 obtain⟨e,he⟩:∃ e,asksV n rule L.length=e:=⟨_,rfl⟩
 rw[he] at hask hz hv ⊢
 obtain⟨R,hR⟩:∃ R:AV→Hp→Prop,(fun r h'=>r=AV.tup [.lit (.int .i64 (v:Int)),.lit (.int .i64 e)]∧LeftQ n o H ai h')=R:=⟨_,rfl⟩
 rw[hR]
 refine SCall_introK Tryz.func13 rfl Tryz.ntmps13 (rs:=[.tmp 6,.tmp 7]) rfl (by simp) ?_
 refine aw_of ?_
 simp -implicitDefEqProofs (disch:=omega) only[Wz,seval]
 refine CallK_of call33 hask ?_
 rintro r' h' ⟨rfl,hh⟩
 rw[hh]
 clear hh
 by_cases h0:¬ e=0
 ·rw[if_neg h0] at hv
  subst hv
  simp -implicitDefEqProofs (disch:=omega) only[Wz,seval]
  rw[← hR]
  exact⟨rfl,LeftQ.refl hA⟩
 have h0:e=0:=by omega
 obtain⟨z1,z2,z3⟩:=hz h0
 rw[if_pos h0] at hv
 subst h0
 obtain⟨rn,hrn⟩:∃ rn:Nat,rule=(rn:Int):=⟨rule.toNat,by omega⟩
 subst hrn
 rw[Int.toNat_natCast] at z2 hv
 have hL3:L.length≤25:=by omega
 simp -implicitDefEqProofs (disch:=omega) only[Wz,seval]
 obtain⟨S1,hS1⟩:∃ S1:Nat→Hp→St,∀ k H1,S1 k H1=⟨[(9,.lit (.int .i64 (k:Int))),(0,.ptr ai 0),(1,.lit (.int .i64 (rn:Int))),(2,.vec (L.map encI) false)],H1,30⟩:=⟨_,fun _ _=>rfl⟩
 refine aw_measA (A:=Nat × Hp) (fun x=>S1 x.1 x.2) (fun x=>x.1≤L.length∧viaN n o rn L x.1=v∧LeftQ n o H ai x.2) (fun x=>x.1) (L.length,H) (by simp only;rw[hS1];exact wk_lk (by simp[lk]) (fun _ _ q=>q) (fun _ _ q=>q) rfl rfl) ⟨Nat.le_refl _,hv,LeftQ.refl hA⟩ ?_
 rintro⟨k1,H1⟩ ⟨hk,hkv,hlq⟩
 simp only at hk hkv hlq ⊢
 rw[hS1]
 refine aw_of ?_
 cases k1 with
 | zero =>
  have hv0:0=v:=hkv
  subst hv0
  simp -implicitDefEqProofs (disch:=omega) only[Wz,seval]
  rw[← hR]
  exact⟨rfl,hlq⟩
 | succ j =>
  have hkv:(if viaV n o rn (L.take (j+1)) then j+1 else viaN n o rn L j)=v:=hkv
  have hAll:=rAll_spec n o N rn z2 (L.take (j+1)) (by rw[List.length_take];omega) H1 ai hlq.at'
  have hs:=sliceIt L (k:=j+1) hk
  simp -implicitDefEqProofs (disch:=omega) only[Wz,seval,hs]
  refine CallK_of call34 hAll ?_
  rintro r' h' ⟨rfl,hlq2⟩
  cases hvv:viaV n o rn (L.take (j+1)) with
  | true =>
   rw[hvv] at hkv
   have hv2:j+1=v:=hkv
   subst hv2
   simp -implicitDefEqProofs (disch:=omega) only[Wz,seval]
   rw[← hR]
   exact⟨rfl,hlq.trans hlq2⟩
  | false =>
   rw[hvv] at hkv
   have hv2:viaN n o rn L j=v:=hkv
   simp -implicitDefEqProofs (disch:=omega) only[Wz,seval]
   refine⟨(j,h'),⟨by simp only;omega,hv2,hlq.trans hlq2⟩,by simp only;omega,?_⟩
   simp only
   rw[hS1]
   exact wk_lk (by simp[lk]) (fun _ _ q=>q) (fun _ _ q=>q) rfl rfl
theorem LeftQ.tok{n:Nt}{o:List Orc}{H H1:Hp}{ai:Nat}(h:LeftQ n o H ai H1){T:List (Nat × Tk)}{m:Nat}(hm:H1.nx≤m)(h1:∀ i,i<H.nx→lk T i=lk H1.toks i)(h2:∀ i,m≤i→lk T i=none):LeftQ n o H ai ⟨H1.boxes,T,m⟩ :=
 ⟨⟨h.at'.bx,fun i hi=>h.at'.fb i (Nat.le_trans hm hi),h2⟩,Nat.le_trans h.nx hm,h.bx,fun i hi=>by rw[← h.tk i hi];exact h1 i hi⟩
theorem rNext_spec(n:Nt)(o:List Orc)(N:NetOk n o)(rule ix col:Int)(L:List It)(hL:L.length≤24∨601<L.length)(hL2:L.length≤1000000000)(H:Hp)(ai:Nat)(hA:AtQ n o H ai) :
  SCall Tryz.prog 15 [.ptr ai 0,.lit (.int .i64 rule),.vec (L.map encI) false,.lit (.int .i64 ix),.lit (.int .i64 col)] H fun r h' =>
   (∃ f,r = .tup [.vec ((if asksV n rule L.length=0 then nextL n o rule.toNat L ix col (n.types.length+1) else []).map rowI) f,.lit (.int .i64 (asksV n rule L.length))])∧LeftQ n o H ai h':=by
 obtain⟨it,k,ee,pp,b,hbx⟩:=hA.bx
 have hask:=rAsks_spec n o k ee pp b H ai it rule L (by have:=N.ok.rules;omega) hL2 hbx
 have hz:=fun q=>asksV_in (n:=n) (rule:=rule) (k:=L.length) q
 have hty:=N.w.ntp
 obtain⟨e,he⟩:∃ e,asksV n rule L.length=e:=⟨_,rfl⟩
 rw[he] at hask hz ⊢
 obtain⟨l,hl⟩:∃ l,(if e=0 then nextL n o rule.toNat L ix col (n.types.length+1) else [])=l:=⟨_,rfl⟩
 rw[hl]
 obtain⟨R,hR⟩:∃ R:AV→Hp→Prop,(fun r h'=>(∃ f,r=AV.tup [.vec (l.map rowI) f,.lit (.int .i64 e)])∧LeftQ n o H ai h')=R:=⟨_,rfl⟩
 rw[hR]
 refine SCall_introW Tryz.func15 rfl Tryz.ntmps15 (rs:=[.tmp 10,.tmp 11]) rfl (by simp) ?_
 simp -implicitDefEqProofs (disch:=omega) only[Wz,seval]
 refine CallK_of call33 hask ?_
 rintro r' h' ⟨rfl,hh⟩
 rw[hh]
 clear hh
 by_cases h0:¬ e=0
 ·rw[if_neg h0] at hl
  subst hl
  simp -implicitDefEqProofs (disch:=omega) only[Wz,seval]
  refine⟨⟨[(10,.vec [] true),(11,.lit (.int .i64 e))],H,51⟩,wk_lk (by simp[lk]) (fun _ _ q=>q) (fun _ _ q=>q) rfl rfl,?_⟩
  rw[← hR]
  exact⟨⟨true,rfl⟩,LeftQ.refl hA⟩
 have h0:e=0:=by omega
 obtain⟨z1,z2,z3⟩:=hz h0
 rw[if_pos h0] at hl
 subst h0
 obtain⟨rn,hrn⟩:∃ rn:Nat,rule=(rn:Int):=⟨rule.toNat,by omega⟩
 subst hrn
 rw[Int.toNat_natCast] at z2 hl
 have hL3:L.length≤24:=by omega
 simp -implicitDefEqProofs (disch:=omega) only[Wz,seval]
 obtain⟨S1,hS1⟩:∃ S1:Nat→Nat→Hp→St,∀ t tk H1,S1 t tk H1=⟨[(14,.lit (.int .i64 (t:Int))),(13,grA tk ((nextL n o rn L ix col t).map rowI)),(0,.ptr ai 0),(1,.lit (.int .i64 (rn:Int))),(2,.vec (L.map encI) false),(3,.lit (.int .i64 ix)),(4,.lit (.int .i64 col))],H1,51⟩:=⟨_,fun _ _ _=>rfl⟩
 refine aw_measA (A:=Nat × Nat × Hp) (fun x=>S1 x.1 x.2.1 x.2.2) (fun x=>x.1≤n.types.length+1∧LeftQ n o H ai x.2.2∧(nextL n o rn L ix col x.1≠[]→H.nx≤x.2.1∧x.2.1<x.2.2.nx∧lk x.2.2.toks x.2.1=some ⟨(nextL n o rn L ix col x.1).map rowI,0,1⟩)) (fun x=>n.types.length+1 - x.1) (0,0,H) (by simp only;rw[hS1];exact wk_lk (by simp[lk,nextL,grA]) (fun _ _ q=>q) (fun _ _ q=>q) rfl rfl) ⟨Nat.zero_le _,LeftQ.refl hA,fun q=>absurd rfl q⟩ ?_
 rintro⟨t,tk,H1⟩ ⟨ht,hlq,hk⟩
 simp only at ht hlq hk ⊢
 have hsu:=nextL_succ n o rn L ix col t
 have hnl:=nextL_len n o rn L ix col t
 obtain⟨l1,hl1⟩:∃ l1,nextL n o rn L ix col t=l1:=⟨_,rfl⟩
 rw[hS1,hl1]
 rw[hl1] at hk hnl hsu
 obtain⟨it1,k1,e1,p1,b1,hbx1⟩:=hlq.at'.bx
 unfold rkX encN at hbx1
 simp only[List.cons_append,List.nil_append] at hbx1
 refine aw_of ?_
 rcases Nat.lt_or_ge t (n.types.length+1) with hlt | hge
 rotate_left
 ·have et:t=n.types.length+1:=by omega
  subst et
  have hll:l1=l:=by rw[← hl1];exact hl
  subst hll
  have hlf:LeftQ n o H ai ⟨H1.boxes,H.toks,H1.nx⟩:=hlq.tok (Nat.le_refl _) (fun i hi=>(hlq.tk i hi).symm) (fun i hi=>hA.ft i (Nat.le_trans hlq.nx hi))
  simp -implicitDefEqProofs (disch:=omega) only[Wz,seval,hbx1]
  cases hl1n:l1 with
  | nil =>
   rw[hl1n] at hR
   simp only[List.map_nil,grA]
   refine⟨⟨[(10,.vec [] true),(11,.lit (.int .i64 0))],H1,51⟩,wk_lk (by simp[lk]) (fun _ _ q=>q) (fun _ _ q=>q) rfl rfl,?_⟩
   rw[← hR]
   exact⟨⟨true,rfl⟩,hlq⟩
  | cons y ys =>
   obtain⟨k2,k3,k4⟩:=hk (by rw[hl1n];simp)
   refine⟨⟨[(10,.vec (l1.map rowI) false),(11,.lit (.int .i64 0))],⟨H1.boxes,H.toks,H1.nx⟩,51⟩,?_,?_⟩
   ·refine wk_frz (t:=tk) (k:=⟨l1.map rowI,0,1⟩) k4 rfl rfl (allc ⟨_,rfl,.inr ⟨?_,rfl⟩⟩ (allc ⟨_,rfl,.inl rfl⟩ alln)) (fun i c q=>q) (fun i c q=>?_)
    ·rw[← hl1n];exact grA_ne (by rw[hl1n];simp)
    ·have hi:i<H.nx:=lk_none_ne q hA.ft
     exact⟨by omega,by show lk H1.toks i=_;rw[hlq.tk i hi];exact q⟩
   ·rw[← hR]
    exact⟨⟨false,rfl⟩,hlf⟩
 have hTt:∀ i,H1.nx≤i→lk H1.toks i=none:=hlq.at'.ft
 have hut:∀ k k':Tk,up (H1.toks++[(H1.nx,k)]) H1.nx k'=H1.toks++[(H1.nx,k')]:=fun k k'=>up_app (hTt H1.nx (Nat.le_refl _))
 have hTn:∀ k:Tk,lk (H1.toks++[(H1.nx,k)]) H1.nx=some k:=fun k=>by rw[lk_app,hTt H1.nx (Nat.le_refl _)];simp[lk]
 have hfL:fits L.length 40:=fits_of' (by omega) (by omega)
 have hfit:fits (L.length+1) 40:=fits_of' (by omega) (by omega)
 have hq2:(∀ q:List AV,q∈L.map encI→q.length=5)=True:=eq_true (encI_len L)
 have hrow:L.map encI++[[.lit (.int .i64 (t:Int)),.lit (.int .i64 ix),.lit (.int .i64 col),.lit (.bool false),.lit (.int .i64 0)]]=(L++[itN t ix col]).map encI:=by simp[itN,encI]
 have hrl:((L++[itN t ix col]).map encI).length=L.length+1:=by simp
 have hAt:∀ k:Tk,AtQ n o ⟨H1.boxes,H1.toks++[(H1.nx,k)],H1.nx+1⟩ ai:=fun k =>
  ⟨hlq.at'.bx,fun i hi=>hlq.at'.fb i (by have hi:H1.nx+1≤i:=hi;omega),fun i hi=>by
   have hi:H1.nx+1≤i:=hi
   show lk (H1.toks++[(H1.nx,k)]) i=none
   rw[lk_app,hTt i (by omega)];simp only[lk];rw[if_neg (by omega)];rfl⟩
 have hlk:∀ k:Tk,LeftQ n o H ai ⟨H1.boxes,H1.toks++[(H1.nx,k)],H1.nx+1⟩:=fun k=>hlq.tok (Nat.le_succ _) (fun i hi=>by
   have:=hlq.nx
   rw[lk_app];simp only[lk];rw[if_neg (by omega),Option.or_none]) (fun i hi=>(hAt k).ft i hi)
 obtain⟨v,hv⟩:∃ v,viaV n o rn (L++[itN t ix col])=v:=⟨_,rfl⟩
 rw[hv] at hsu
 have hAll:=fun k=>rAll_spec n o N rn z2 (L++[itN t ix col]) (by simp;omega) ⟨H1.boxes,H1.toks++[(H1.nx,k)],H1.nx+1⟩ ai (hAt k)
 rw[hv] at hAll
 have hlq2:=fun k=>(hlk ⟨(L++[itN t ix col]).map encI,k,5⟩)
 have hT1:l1≠[]→∀ k:Tk,lk (H1.toks++[(H1.nx,k)]) tk=some ⟨l1.map rowI,0,1⟩:=fun q k=>by rw[lk_app,(hk q).2.2];rfl
 simp -implicitDefEqProofs (disch:=omega) only[Wz,seval,hbx1]
 rcases Nat.eq_zero_or_pos L.length with hz0 | hz0
 ·have hrow0:[[.lit (.int .i64 (t:Int)),.lit (.int .i64 ix),.lit (.int .i64 col),.lit (.bool false),.lit (.int .i64 0)]]=(L++[itN t ix col]).map encI:=by rw[List.length_eq_zero_iff.1 hz0];rfl
  have hf40:fits 1 40:=by decide
  simp -implicitDefEqProofs (disch:=omega) only[Wz,seval,hfL,hfit,hf40,hTn,hq2,hut,List.mem_singleton,forall_eq,if_true,List.length_cons,List.length_nil,List.not_mem_nil,false_imp_iff,implies_true]
  simp only[hrow0]
  refine CallK.freeze (t:=H1.nx) (k:=⟨(L++[itN t ix col]).map encI,0,5⟩) (args1:=[.ptr ai 0,.lit (.int .i64 (rn:Int)),.vec ((L++[itN t ix col]).map encI) false]) (hTn _) (fun g g' e c=>cvL_cons (cv_refl e _) (cvL_cons (cv_refl e _) (cvL_cons (by rw[hrl,hz0] at c;exact c) cvL_nil))) ?_
  simp -implicitDefEqProofs (disch:=omega) only[hut]
  refine CallK_of call34 (hAll _) ?_
  rintro r' h' ⟨rfl,hla⟩
  have hlb:=(hlk _).trans hla
  have hnx:H1.nx+1≤h'.nx:=hla.nx
  have htk':l1≠[]→lk h'.toks tk=some ⟨l1.map rowI,0,1⟩:=fun q=>by
   have h2:=hla.tk tk (by have:=(hk q).2.1;show tk<H1.nx+1;omega)
   rw[h2];exact hT1 q _
  have hn2:lk h'.toks h'.nx=none:=hlb.at'.ft _ (Nat.le_refl _)
  cases v with
  | false =>
   rw[if_neg (by decide)] at hsu
   simp -implicitDefEqProofs (disch:=omega) only[Wz,seval]
   refine⟨(t+1,tk,h'),⟨by show t+1≤_;omega,hlb,fun q=>?_⟩,by show n.types.length+1 - (t+1)<_;omega,?_⟩
   ·have q:nextL n o rn L ix col (t+1)≠[]:=q
    show _∧tk<h'.nx∧lk h'.toks tk=some ⟨(nextL n o rn L ix col (t+1)).map rowI,0,1⟩
    rw[hsu] at q ⊢
    exact⟨(hk q).1,by have:=(hk q).2.1;omega,htk' q⟩
   ·show St.wk _ (S1 (t+1) tk h')
    rw[hS1,hsu]
    exact wk_lk (by simp[lk]) (fun _ _ q=>q) (fun _ _ q=>q) rfl rfl
  | true =>
   rw[if_pos rfl] at hsu
   cases hl1n:l1 with
   | nil =>
    rw[hl1n] at hsu
    have hf1:fits 1 8:=by decide
    simp -implicitDefEqProofs (disch:=omega) only[Wz,seval,grA,List.map_nil,List.mem_singleton,forall_eq,List.not_mem_nil,false_imp_iff,implies_true,hf1,if_true,List.length_cons,List.length_nil]
    refine⟨(t+1,h'.nx,⟨h'.boxes,h'.toks++[(h'.nx,⟨[rowI t],0,1⟩)],h'.nx+1⟩),⟨by show t+1≤_;omega,?_,fun q=>?_⟩,by show n.types.length+1 - (t+1)<_;omega,?_⟩
    ·refine hlb.tok (Nat.le_succ _) (fun i hi=>?_) (fun i hi=>?_)
     ·rw[lk_app];simp only[lk];rw[if_neg (by have:=hlq.nx;omega),Option.or_none]
     ·rw[lk_app,hlb.at'.ft i (by omega)];simp only[lk];rw[if_neg (by omega)];rfl
    ·refine⟨by show H.nx≤h'.nx;have:=hlq.nx;omega,Nat.lt_succ_self _,?_⟩
     show lk (h'.toks++[(h'.nx,_)]) h'.nx=some ⟨(nextL n o rn L ix col (t+1)).map rowI,0,1⟩
     rw[hsu,lk_app,hn2];simp[lk]
    ·show St.wk _ (S1 (t+1) h'.nx _)
     rw[hS1,hsu]
     exact wk_lk (by simp[lk,grA]) (fun _ _ q=>q) (fun _ _ q=>q) rfl rfl
   | cons a l' =>
    have hla1:l1≠[]:=by rw[hl1n];simp
    obtain⟨k1,k2,k3⟩:=hk hla1
    have hgl:=htk' hla1
    rw[hl1n] at hgl hsu hnl
    simp only[List.length_cons] at hnl
    have hf1:fits (l'.length+1+1) 8:=fits_of' (by omega) (by omega)
    simp -implicitDefEqProofs (disch:=omega) only[Wz,seval,grA,List.map_cons,List.mem_singleton,forall_eq,List.not_mem_nil,false_imp_iff,implies_true,hf1,if_true,List.length_cons,List.length_nil,List.length_map]
    simp -implicitDefEqProofs (disch:=omega) only[Wz,seval,hgl,List.mem_singleton,forall_eq,List.not_mem_nil,false_imp_iff,implies_true,hf1,if_true,List.length_cons,List.length_nil,List.length_map]
    refine⟨(t+1,tk,⟨h'.boxes,up h'.toks tk ⟨(a :: l'++[t]).map rowI,0,1⟩,h'.nx⟩),⟨by show t+1≤_;omega,?_,fun q=>?_⟩,by show n.types.length+1 - (t+1)<_;omega,?_⟩
    ·refine hlb.tok (Nat.le_refl _) (fun i hi=>?_) (fun i hi=>?_)
     ·rw[lk_up,if_neg (by omega)]
     ·rw[lk_up,if_neg (by omega)];exact hlb.at'.ft i hi
    ·refine⟨k1,by show tk<h'.nx;omega,?_⟩
     show lk (up h'.toks tk _) tk=some ⟨(nextL n o rn L ix col (t+1)).map rowI,0,1⟩
     rw[hsu,lk_up,if_pos rfl,hgl];rfl
    ·show St.wk _ (S1 (t+1) tk _)
     rw[hS1,hsu]
     refine wk_lk (by simp[lk,grA]) (fun _ _ q=>q) (fun _ _ q=>?_) rfl rfl
     simpa [rowI] using q
 ·simp -implicitDefEqProofs (disch:=omega) only[Wz,seval,hfL,hfit,hTn,hq2,hrow,hut,List.mem_singleton,forall_eq,if_true,List.length_cons,List.length_nil,List.not_mem_nil,false_imp_iff,implies_true]
  refine CallK.freeze (t:=H1.nx) (k:=⟨(L++[itN t ix col]).map encI,0,5⟩) (args1:=[.ptr ai 0,.lit (.int .i64 (rn:Int)),.vec ((L++[itN t ix col]).map encI) false]) (hTn _) (fun g g' e c=>cvL_cons (cv_refl e _) (cvL_cons (cv_refl e _) (cvL_cons (by rw[hrl] at c;exact c) cvL_nil))) ?_
  simp -implicitDefEqProofs (disch:=omega) only[hut]
  refine CallK_of call34 (hAll _) ?_
  rintro r' h' ⟨rfl,hla⟩
  have hlb:=(hlk _).trans hla
  have hnx:H1.nx+1≤h'.nx:=hla.nx
  have htk':l1≠[]→lk h'.toks tk=some ⟨l1.map rowI,0,1⟩:=fun q=>by
   have h2:=hla.tk tk (by have:=(hk q).2.1;show tk<H1.nx+1;omega)
   rw[h2];exact hT1 q _
  have hn2:lk h'.toks h'.nx=none:=hlb.at'.ft _ (Nat.le_refl _)
  cases v with
  | false =>
   rw[if_neg (by decide)] at hsu
   simp -implicitDefEqProofs (disch:=omega) only[Wz,seval]
   refine⟨(t+1,tk,h'),⟨by show t+1≤_;omega,hlb,fun q=>?_⟩,by show n.types.length+1 - (t+1)<_;omega,?_⟩
   ·have q:nextL n o rn L ix col (t+1)≠[]:=q
    show _∧tk<h'.nx∧lk h'.toks tk=some ⟨(nextL n o rn L ix col (t+1)).map rowI,0,1⟩
    rw[hsu] at q ⊢
    exact⟨(hk q).1,by have:=(hk q).2.1;omega,htk' q⟩
   ·show St.wk _ (S1 (t+1) tk h')
    rw[hS1,hsu]
    exact wk_lk (by simp[lk]) (fun _ _ q=>q) (fun _ _ q=>q) rfl rfl
  | true =>
   rw[if_pos rfl] at hsu
   cases hl1n:l1 with
   | nil =>
    rw[hl1n] at hsu
    have hf1:fits 1 8:=by decide
    simp -implicitDefEqProofs (disch:=omega) only[Wz,seval,grA,List.map_nil,List.mem_singleton,forall_eq,List.not_mem_nil,false_imp_iff,implies_true,hf1,if_true,List.length_cons,List.length_nil]
    refine⟨(t+1,h'.nx,⟨h'.boxes,h'.toks++[(h'.nx,⟨[rowI t],0,1⟩)],h'.nx+1⟩),⟨by show t+1≤_;omega,?_,fun q=>?_⟩,by show n.types.length+1 - (t+1)<_;omega,?_⟩
    ·refine hlb.tok (Nat.le_succ _) (fun i hi=>?_) (fun i hi=>?_)
     ·rw[lk_app];simp only[lk];rw[if_neg (by have:=hlq.nx;omega),Option.or_none]
     ·rw[lk_app,hlb.at'.ft i (by omega)];simp only[lk];rw[if_neg (by omega)];rfl
    ·refine⟨by show H.nx≤h'.nx;have:=hlq.nx;omega,Nat.lt_succ_self _,?_⟩
     show lk (h'.toks++[(h'.nx,_)]) h'.nx=some ⟨(nextL n o rn L ix col (t+1)).map rowI,0,1⟩
     rw[hsu,lk_app,hn2];simp[lk]
    ·show St.wk _ (S1 (t+1) h'.nx _)
     rw[hS1,hsu]
     exact wk_lk (by simp[lk,grA]) (fun _ _ q=>q) (fun _ _ q=>q) rfl rfl
   | cons a l' =>
    have hla1:l1≠[]:=by rw[hl1n];simp
    obtain⟨k1,k2,k3⟩:=hk hla1
    have hgl:=htk' hla1
    rw[hl1n] at hgl hsu hnl
    simp only[List.length_cons] at hnl
    have hf1:fits (l'.length+1+1) 8:=fits_of' (by omega) (by omega)
    simp -implicitDefEqProofs (disch:=omega) only[Wz,seval,grA,List.map_cons,List.mem_singleton,forall_eq,List.not_mem_nil,false_imp_iff,implies_true,hf1,if_true,List.length_cons,List.length_nil,List.length_map]
    simp -implicitDefEqProofs (disch:=omega) only[Wz,seval,hgl,List.mem_singleton,forall_eq,List.not_mem_nil,false_imp_iff,implies_true,hf1,if_true,List.length_cons,List.length_nil,List.length_map]
    refine⟨(t+1,tk,⟨h'.boxes,up h'.toks tk ⟨(a :: l'++[t]).map rowI,0,1⟩,h'.nx⟩),⟨by show t+1≤_;omega,?_,fun q=>?_⟩,by show n.types.length+1 - (t+1)<_;omega,?_⟩
    ·refine hlb.tok (Nat.le_refl _) (fun i hi=>?_) (fun i hi=>?_)
     ·rw[lk_up,if_neg (by omega)]
     ·rw[lk_up,if_neg (by omega)];exact hlb.at'.ft i hi
    ·refine⟨k1,by show tk<h'.nx;omega,?_⟩
     show lk (up h'.toks tk _) tk=some ⟨(nextL n o rn L ix col (t+1)).map rowI,0,1⟩
     rw[hsu,lk_up,if_pos rfl,hgl];rfl
    ·show St.wk _ (S1 (t+1) tk _)
     rw[hS1,hsu]
     refine wk_lk (by simp[lk,grA]) (fun _ _ q=>q) (fun _ _ q=>?_) rfl rfl
     simpa [rowI] using q
theorem rNew_spec(n:Nt)(o:List Orc)(ok:NtOk n)(H:Hp)(hf:∀ i,H.nx≤i→lk H.boxes i=none) :
  SCall Tryz.prog 8 [.agg (encN n),.vec (o.map encO) false] H fun r h' =>
   (okV n=true→r = .tup [.ptr (H.nx+1) 0,.lit (.int .i64 0)]∧h'=⟨H.boxes++[(H.nx+1,rkX n o (.vec [] true) (.vec [] true) (.vec [] true) (.vec [] true) (.vec [] true))],H.toks,H.nx+2⟩)∧(okV n=false→r = .tup [.lit (.pointer none),.lit (.int .i64 110)]∧h'=⟨H.boxes,H.toks,H.nx+1⟩):=by
 have hck:=rCheck_spec n ok
 refine SCall_introW Tryz.func8 rfl Tryz.ntmps8 (rs:=[.tmp 4,.tmp 5]) rfl (by simp) ?_
 have hnx0:∀ c,lk (H.boxes++[(H.nx,c)]) H.nx=some c:=fun c=>by rw[lk_app,hf _ (Nat.le_refl _)];simp[lk]
 unfold encN at hck
 simp -implicitDefEqProofs (disch:=omega) only[Wz,seval,encN,hnx0]
 refine CallK_k call23 hck (allc (.of_pure (.agg (pure_encN n))) alln) (.lit _) ?_
 cases hok:okV n with
 | false =>
  simp -implicitDefEqProofs (disch:=omega) only[Wz,seval]
  refine⟨⟨[(4,.lit (.pointer none)),(5,.lit (.int .i64 110))],⟨H.boxes,H.toks,H.nx+1⟩,13⟩,wk_lk (allc rfl (allc rfl alln)) (fun _ _ q=>lk_pre q) (fun _ _ q=>q) rfl rfl,?_⟩
  exact⟨fun q=>(by cases q),fun _=>⟨rfl,rfl⟩⟩
 | true =>
  simp -implicitDefEqProofs (disch:=omega) only[Wz,seval,hnx0]
  refine⟨⟨[(4,.ptr (H.nx+1) 0),(5,.lit (.int .i64 0))],⟨H.boxes++[(H.nx+1,rkX n o (.vec [] true) (.vec [] true) (.vec [] true) (.vec [] true) (.vec [] true))],H.toks,H.nx+2⟩,13⟩,wk_lk (allc rfl (allc rfl alln)) (fun i c q=>?_) (fun _ _ q=>q) rfl rfl,?_⟩
  ·have q1:lk (H.boxes++[(H.nx+1,rkX n o (.vec [] true) (.vec [] true) (.vec [] true) (.vec [] true) (.vec [] true))]) i=some c:=q
   clear q
   rw[lk_app] at q1
   show lk (H.boxes++[(H.nx,_)]++[(H.nx+1,_)]) i=some c
   rw[lk_app,lk_app]
   cases hc:lk H.boxes i with
   | some c'=>rw[hc] at q1;simpa using q1
   | none =>
    rw[hc] at q1
    simp only[lk,Option.none_or] at q1 ⊢
    by_cases hi:H.nx+1=i
    ·rw[if_neg (by omega)]
     rw[if_pos hi] at q1 ⊢
     exact q1
    ·rw[if_neg hi] at q1;cases q1
  ·exact⟨fun _=>⟨rfl,rfl⟩,fun q=>(by cases q)⟩
theorem AtQ.new{n:Nt}{o:List Orc}{H:Hp}{it k e p b:AV}(hf:∀ i,H.nx≤i→lk H.boxes i=none)(ht:∀ i,H.nx≤i→lk H.toks i=none):AtQ n o ⟨H.boxes++[(H.nx+1,rkX n o it k e p b)],H.toks,H.nx+2⟩ (H.nx+1):=by
 refine⟨⟨it,k,e,p,b,?_⟩,fun i hi=>?_,fun i hi=>ht i ?_⟩
 ·show lk (H.boxes++_) _=_
  rw[lk_app,hf _ (by omega)];simp[lk]
 ·have hi:H.nx+2≤i:=hi
  show lk (H.boxes++_) _=_
  rw[lk_app,hf _ (by omega)];simp only[lk];rw[if_neg (by omega)];rfl
 ·have hi:H.nx+2≤i:=hi
  omega
theorem gp_items(L:List It)(f:Bool):GP (.vec (L.map encI) f):=.of_pure (.vec (pure_rows pure_encI L))
instance:Inhabited Ask:=⟨⟨0,0,0,0,[],0,0⟩⟩
structure TellH (n:Nt) (o:List Orc) (H:Hp):Prop where
 a:∃ x y z,AtA n o H 2 x y z
 b:AtQ n o H 4
 z:lk H.boxes 0=some (encN n)
theorem TellH.nx{n:Nt}{o:List Orc}{H:Hp}(h:TellH n o H):4<H.nx:=h.b.lt
theorem TellH.fb{n:Nt}{o:List Orc}{H:Hp}(h:TellH n o H):∀ i,H.nx≤i→lk H.boxes i=none:=h.b.fb
theorem TellH.alloc{n:Nt}{o:List Orc}{H:Hp}(h:TellH n o H)(c:List AV):TellH n o ⟨H.boxes++[(H.nx,c)],H.toks,H.nx+1⟩:=by
 obtain⟨x,y,z,q⟩:=h.a
 have hn:=h.nx
 have e:∀ i,i≠H.nx→lk (H.boxes++[(H.nx,c)]) i=lk H.boxes i:=fun i hi=>by rw[lk_app];simp only[lk];rw[if_neg (fun q=>hi q.symm),Option.or_none]
 have f1:∀ i,H.nx+1≤i→lk (H.boxes++[(H.nx,c)]) i=none:=fun i hi=>by rw[e i (by omega)];exact h.fb i (by omega)
 refine⟨⟨x,y,z,⟨?_,f1,fun i hi=>h.b.ft i ?_,q.nt⟩⟩,⟨?_,f1,fun i hi=>h.b.ft i ?_⟩,?_⟩
 ·show lk (H.boxes++[(H.nx,c)]) 2=_
  rw[e 2 (by omega)];exact q.bx
 ·have hi:H.nx+1≤i:=hi
  omega
 ·obtain⟨it,k,ee,p,b,q⟩:=h.b.bx
  exact⟨it,k,ee,p,b,by show lk (H.boxes++[(H.nx,c)]) 4=_;rw[e 4 (by omega)];exact q⟩
 ·have hi:H.nx+1≤i:=hi
  omega
 ·show lk (H.boxes++[(H.nx,c)]) 0=_
  rw[e 0 (by omega)];exact h.z
theorem TellH.left{n:Nt}{o:List Orc}{H h':Hp}(h:TellH n o H)(l:LeftA n o H 2 h'):TellH n o h'∧∀ j,j≠2→lk h'.boxes j=lk H.boxes j:=by
 obtain⟨x,y,z,q⟩:=h.a
 have hn:=h.nx
 obtain⟨x',y',z',m,hm,rfl⟩:=l
 have e:∀ j,j≠2→lk (up H.boxes 2 (askX n o x' y' z')) j=lk H.boxes j:=fun j hj=>by rw[lk_up,if_neg (fun q=>hj q.symm)]
 have f1:∀ i,m≤i→lk (up H.boxes 2 (askX n o x' y' z')) i=none:=fun i hi=>by rw[e i (by omega)];exact h.fb i (by omega)
 refine⟨⟨⟨x',y',z',⟨?_,f1,fun i hi=>h.b.ft i (Nat.le_trans hm hi),q.nt⟩⟩,⟨?_,f1,fun i hi=>h.b.ft i (Nat.le_trans hm hi)⟩,?_⟩,e⟩
 ·show lk (up _ _ _) _=_
  rw[lk_up,if_pos rfl,q.bx];rfl
 ·obtain⟨it,k,ee,p,b,q⟩:=h.b.bx
  exact⟨it,k,ee,p,b,by show lk (up _ _ _) _=_;rw[e 4 (by decide)];exact q⟩
 ·show lk (up _ _ _) _=_
  rw[e 0 (by decide)];exact h.z
theorem TellH.leftQ{n:Nt}{o:List Orc}{H h':Hp}(h:TellH n o H)(l:LeftQ n o H 4 h'):TellH n o h'∧H.nx≤h'.nx∧∀ j,j<H.nx→j≠4→lk h'.boxes j=lk H.boxes j:=by
 obtain⟨x,y,z,q⟩:=h.a
 have hn:=h.nx
 have e:=l.bx
 refine⟨⟨⟨x,y,z,⟨?_,l.at'.fb,l.at'.ft,?_⟩⟩,l.at',?_⟩,l.nx,e⟩
 ·rw[e 2 (by omega) (by decide)];exact q.bx
 ·rw[l.tk 2 (by omega)];exact q.nt
 ·rw[e 0 (by omega) (by decide)];exact h.z
theorem tell_law(n:Nt)(o:List Orc)(A:List Ask)(ok:NtOk n)(ho:o.length≤1000000000)(hA:A.length≤1000000000)(hi':∀ a∈A,a.items.length≤1000000000) :
  KCall Tryz.prog 3 [.agg (encN n),.vec (o.map encO) false,.vec (A.map encAsk) false] (.lit (.bool true)):=by
 have gN:GP (.agg (encN n)):=.of_pure (.agg (pure_encN _))
 have gI:=gp_items
 have gO:∀ (l:List Orc) f,GP (.vec (l.map encO) f):=fun l f=>.of_pure (.vec (pure_rows pure_encO l))
 have gR:∀ (l:List Nat) f,GP (.vec (l.map rowI) f):=fun l f=>.of_pure (.vec (pure_rows pure_rowI l))
 have hg1:=great_spec n o [] false true ok ho (Nat.zero_le _)
 obtain⟨g1,hge1⟩:∃ g,greatV n o []=g:=⟨_,rfl⟩
 rw[hge1] at hg1
 have hn1:=New_any n o false ok ho ⟨[(0,encN n)],[],1⟩ (fun i hi=>lk_lt (N:=1) (by simp) hi)
 have hn2:=rNew_spec n o ok ⟨[(0,encN n)]++[(1+1,askX n o (.vec [] true) (.lit (.map none)) (.lit (.map none)))],[],1+2⟩ (fun i hi=>lk_lt (N:=3) (by simp) hi)
 have hn3:=rNew_spec n o ok ⟨[(0,encN n)],[],1+1⟩ (fun i hi=>lk_lt (N:=2) (by simp) hi)
 refine KCall_of (SCall_introK Tryz.func3 rfl Tryz.ntmps3 (rs:=[.tmp 6]) rfl (by simp) ?_)
 refine aw_of ?_
 unfold encN at hg1 hn1 hn2 hn3
 have ret:∀ (h:Hp),KExpo h (.lit (.bool true)) (.lit (.bool true)):=fun h=>kexpo (.lit _)
 by_cases h8:8<A.length
 ·simp -implicitDefEqProofs (disch:=omega) only[Wz,seval,encN]
  refine CallK_k call6 wakes_spec alln (.lit _) ?_
  simp -implicitDefEqProofs (disch:=omega) only[Wz,seval]
  exact ret _
 simp -implicitDefEqProofs (disch:=omega) only[Wz,seval,encN]
 refine CallK_k call5 hg1 (allc gN (allc (gO _ _) (allc (gI [] true) alln))) (.lit _) ?_
 cases g1 with
 | true =>
  simp -implicitDefEqProofs (disch:=omega) only[Wz,seval]
  refine CallK_k call6 wakes_spec alln (.lit _) ?_
  simp -implicitDefEqProofs (disch:=omega) only[Wz,seval]
  exact ret _
 | false =>
 simp -implicitDefEqProofs (disch:=omega) only[Wz,seval]
 refine CallK_of call7 hn1 ?_
 rintro r h' ⟨q1,q2⟩
 cases hok:okV n with
 | false =>
  obtain⟨rfl,rfl⟩:=q2 hok
  clear q1 q2
  simp -implicitDefEqProofs (disch:=omega) only[Wz,seval]
  refine CallK_of call8 hn3 ?_
  rintro r h' ⟨q1,q2⟩
  obtain⟨rfl,rfl⟩:=q2 hok
  clear q1 q2
  have eT:(!true==true)=false:=rfl
  have h110:((110:Int)==0)=false:=rfl
  simp -implicitDefEqProofs (disch:=omega) only[Wz,seval,eT]
  refine aw_measA (A:=Unit) (fun _=>⟨[(11,.lit (.int .i64 0)),(8,.lit (.int .i64 110)),(2,.vec (A.map encAsk) false)],⟨[],[],2+1⟩,181⟩) (fun _=>True) (fun _=>0) () (wk_lk (by simp[lk]) (fun _ _ q=>by cases q) (fun _ _ q=>by cases q) rfl rfl) trivial ?_
  rintro _ _
  refine aw_of ?_
  rcases Nat.eq_zero_or_pos A.length with z0 | z0
  ·simp -implicitDefEqProofs (disch:=omega) only[Wz,seval,h110]
   refine CallK_k call6 wakes_spec alln (.lit _) ?_
   simp -implicitDefEqProofs (disch:=omega) only[Wz,seval]
   exact ret _
  ·simp -implicitDefEqProofs (disch:=omega) only[Wz,seval,h110]
   refine CallK_k call6 wakes_spec alln (.lit _) ?_
   simp -implicitDefEqProofs (disch:=omega) only[Wz,seval]
   exact ret _
 | true =>
  obtain⟨rfl,rfl⟩:=q1 hok
  clear q1 q2
  have N:=netOk_of ok ho hok
  simp -implicitDefEqProofs (disch:=omega) only[Wz,seval]
  refine CallK_of call8 hn2 ?_
  rintro r h' ⟨q1,q2⟩
  obtain⟨rfl,rfl⟩:=q1 hok
  clear q1 q2
  have eF:(!false==false)=false:=rfl
  obtain⟨S,hS⟩:∃ S:Nat→Hp→St,∀ i H1,S i H1=⟨[(11,.lit (.int .i64 (i:Int))),(10,.lit (.int .i64 0)),(9,.ptr 4 0),(8,.lit (.int .i64 0)),(7,.ptr 2 0),(3,.ptr 0 0),(1,.vec (o.map encO) false),(2,.vec (A.map encAsk) false)],H1,181⟩:=⟨_,fun _ _=>rfl⟩
  simp -implicitDefEqProofs (disch:=omega) only[Wz,seval,eF]
  refine aw_measA (A:=Nat × Hp) (fun x=>S x.1 x.2) (fun x=>x.1≤A.length∧TellH n o x.2) (fun x=>A.length - x.1) (0,_) (by simp only;rw[hS];exact wk_lk (by simp[lk]) (fun _ _ q=>q) (fun _ _ q=>q) rfl rfl) ⟨Nat.zero_le _,?_⟩ ?_
  ·exact⟨⟨_,_,_,rfl,fun i hi=>lk_lt (N:=5) (by simp) hi,fun _ _=>rfl,rfl⟩,⟨⟨_,_,_,_,_,rfl⟩,fun i hi=>lk_lt (N:=5) (by simp) hi,fun _ _=>rfl⟩,rfl⟩
  rintro⟨i,H1⟩ ⟨hi,hT⟩
  simp only at hi hT ⊢
  rw[hS]
  refine aw_of ?_
  rcases Nat.lt_or_ge i A.length with hlt | hge
  rotate_left
  ·have ei:i=A.length:=by omega
   subst ei
   simp -implicitDefEqProofs (disch:=omega) only[Wz,seval]
   refine CallK_k call6 wakes_spec alln (.lit _) ?_
   simp -implicitDefEqProofs (disch:=omega) only[Wz,seval]
   exact ret _
  obtain⟨x,hx⟩:∃ x,A.getD i default=x:=⟨_,rfl⟩
  have hxi:=hi' x (by rw[← hx];exact getD_mem hlt)
  obtain⟨xa,xr,xl,xp,xi,xx,xc⟩:=x
  simp only at hxi
  have hT2:=hT.alloc (encAsk ⟨xa,xr,xl,xp,xi,xx,xc⟩)
  have hz:=fun c=>(hT.alloc c).z
  unfold encN at hz
  simp only at hz
  have hup:∀ z c,up (H1.boxes++[(H1.nx,z)]) H1.nx c=H1.boxes++[(H1.nx,c)]:=fun z c=>up_app (hT.fb _ (Nat.le_refl _))
  have hlk:∀ c,lk (H1.boxes++[(H1.nx,c)]) H1.nx=some c:=fun c=>by rw[lk_app,hT.fb _ (Nat.le_refl _)];simp[lk]
  have hgd:(A.map encAsk).getD i []=[.lit (.int .i64 xa),.lit (.int .i64 xr),.lit (.int .i64 xl),.lit (.int .i64 xp),.vec (xi.map encI) false,.lit (.int .i64 xx),.lit (.int .i64 xc)]:=by
   have e:(A.map encAsk).getD i []=encAsk (A.getD i default):=by
    rw[List.getD_eq_getElem?_getD,List.getD_eq_getElem?_getD,List.getElem?_map,List.getElem?_eq_getElem hlt];rfl
   rw[e,hx];rfl
  have hg2:=great_spec n o xi false false ok ho hxi
  have hi2:=greatV_items (n:=n) (o:=o) (L:=xi)
  obtain⟨g2,hge2⟩:∃ g,greatV n o xi=g:=⟨_,rfl⟩
  rw[hge2] at hg2 hi2
  unfold encN at hg2
  simp -implicitDefEqProofs (disch:=omega) only[Wz,seval,hgd,hup,hlk,hz,List.length_cons,List.length_nil]
  refine CallK_k call5 hg2 (allc gN (allc (gO _ _) (allc (gI _ _) alln))) (.lit _) ?_
  cases g2 with
  | true =>
   simp -implicitDefEqProofs (disch:=omega) only[Wz,seval]
   refine CallK_k call6 wakes_spec alln (.lit _) ?_
   simp -implicitDefEqProofs (disch:=omega) only[Wz,seval]
   exact ret _
  | false =>
  have i2:=hi2 rfl
  have hp:=hlk (encAsk ⟨xa,xr,xl,xp,xi,xx,xc⟩)
  have hpn:H1.nx<H1.nx+1:=Nat.lt_succ_self _
  unfold encAsk at hT2 hp
  simp only at hT2 hp
  have hp4:=hT.nx
  simp -implicitDefEqProofs (disch:=omega) only[Wz,seval,hlk]
  obtain⟨p,hpp⟩:∃ p,H1.nx=p:=⟨_,rfl⟩
  rw[hpp] at hT2 hp hpn hp4 ⊢
  obtain⟨H2,hH2⟩:∃ H2:Hp,(⟨H1.boxes++[(p,[.lit (.int .i64 xa),.lit (.int .i64 xr),.lit (.int .i64 xl),.lit (.int .i64 xp),.vec (xi.map encI) false,.lit (.int .i64 xx),.lit (.int .i64 xc)])],H1.toks,p+1⟩:Hp)=H2:=⟨_,rfl⟩
  have hp2:lk H2.boxes p=some [.lit (.int .i64 xa),.lit (.int .i64 xr),.lit (.int .i64 xl),.lit (.int .i64 xp),.vec (xi.map encI) false,.lit (.int .i64 xx),.lit (.int .i64 xc)]:=by rw[← hH2];exact hp
  rw[hH2] at hT2 ⊢
  clear hH2 hpp hp hup hlk hgd hz
  obtain⟨x,y,z,hAt⟩:=hT2.a
  have bE:(if endsE n xr xl xp xi.length=0 then endsL n o xr.toNat xl xp.toNat xi else []).length≤1000000000:=by
   split
   ·rename_i q
    have:=plcs_len (whW n o xi ⟨xr.toNat,xl,xp.toNat⟩) (xi.length+1)
    have q2:asksV n xr xi.length=0:=by
     unfold endsE at q
     split at q
     ·cases q
     ·exact q
    have:=(asksV_0 q2).2.2.2
    unfold endsL;omega
   ·simp
  have bX:(if asksV n xr xi.length=0 then nextL n o xr.toNat xi xx xc (n.types.length+1) else []).length≤1000000000:=by
   split
   ·have:=nextL_len n o xr.toNat xi xx xc (n.types.length+1)
    have:=N.w.ntp
    omega
   ·simp
  have nxt:∀ h4,TellH n o h4→∀ σ:St,σ.nt=181→σ.hp=h4→(∀ c∈[(11,AV.lit (.int .i64 ((i+1:Nat):Int))),(10,.lit (.int .i64 0)),(9,.ptr 4 0),(8,.lit (.int .i64 0)),(7,.ptr 2 0),(3,.ptr 0 0),(1,.vec (o.map encO) false),(2,.vec (A.map encAsk) false)],lk σ.slots c.1=some c.2)→∃ x':Nat × Hp,(x'.1≤A.length∧TellH n o x'.2)∧A.length - x'.1<A.length - i∧St.wk σ (S x'.1 x'.2):=fun h4 hT4 σ e1 e2 e3 =>
   ⟨(i+1,h4),⟨hlt,hT4⟩,by simp only;omega,by simp only;rw[hS];exact wk_lk e3 (fun _ _ q=>by rw[e2];exact q) (fun _ _ q=>by rw[e2];exact q) (by rw[e2]) e1.symm⟩
  by_cases c0:xa=0
  ·have k0:(xa==0)=true:=by simpa using c0
   have hE1:=Ends_spec n o N xr xl xp xi (by omega) hxi H2 2 x y z hAt
   have hE2:=fun h3 hb=>rEnds_spec n o N xr xl xp xi (by omega) hxi h3 4 hb
   obtain⟨l,hl⟩:∃ l,(if endsE n xr xl xp xi.length=0 then endsL n o xr.toNat xl xp.toNat xi else [])=l:=⟨_,rfl⟩
   obtain⟨e,he⟩:∃ e,endsE n xr xl xp xi.length=e:=⟨_,rfl⟩
   rw[hl] at hE1 bE
   rw[he] at hE1
   simp only[hl] at hE2
   simp only[he] at hE2
   have hee:(e==e)=true:=by simp
   have hr:=fun f g=>rows_spec l l f g bE bE
   rw[decide_eq_true (rfl:l=l)] at hr
   simp -implicitDefEqProofs (disch:=omega) only[Wz,seval,hp2,k0]
   refine CallK_of call9 hE1 ?_
   rintro r h3 ⟨⟨f1,rfl⟩,hla⟩
   obtain⟨hT3,hb3⟩:=hT2.left hla
   have hp3:=hp2
   rw[← hb3 p (by omega)] at hp3
   simp -implicitDefEqProofs (disch:=omega) only[Wz,seval,hp3]
   refine CallK_of call10 (hE2 h3 hT3.b) ?_
   rintro r h4 ⟨⟨f2,rfl⟩,hlq⟩
   obtain⟨hT4,hn4,hb4⟩:=hT3.leftQ hlq
   simp -implicitDefEqProofs (disch:=omega) only[Wz,seval,hee]
   refine CallK_k call11 (hr f1 f2) (allc (gR l f1) (allc (gR l f2) alln)) (.lit _) ?_
   simp -implicitDefEqProofs (disch:=omega) only[Wz,seval]
   refine nxt h4 hT4 _ ?_ ?_ ?_
   ·rfl
   ·rfl
   ·simp[lk]
  by_cases c1:xa=1
  ·have k0:(xa==0)=false:=by simpa using c0
   have k1:(xa==1)=true:=by simpa using c1
   have hE1:=Viable_spec n o N xr xi (by omega) hxi H2 2 x y z hAt
   have hE2:=fun h3 hb=>rViable_spec n o N xr xi (by omega) hxi h3 4 hb
   obtain⟨l,hl⟩:∃ l,(if asksV n xr xi.length=0 then viaN n o xr.toNat xi xi.length else 0:Nat)=l:=⟨_,rfl⟩
   obtain⟨e,he⟩:∃ e,asksV n xr xi.length=e:=⟨_,rfl⟩
   rw[hl,he] at hE1
   simp only[hl] at hE2
   simp only[he] at hE2
   have hee:(e==e)=true:=by simp
   have hll:(((l:Nat):Int)==(l:Int))=true:=by simp
   simp -implicitDefEqProofs (disch:=omega) only[Wz,seval,hp2,k0,k1]
   refine CallK_of call12 hE1 ?_
   rintro r h3 ⟨rfl,hla⟩
   obtain⟨hT3,hb3⟩:=hT2.left hla
   have hp3:=hp2
   rw[← hb3 p (by omega)] at hp3
   simp -implicitDefEqProofs (disch:=omega) only[Wz,seval,hp3]
   refine CallK_of call13 (hE2 h3 hT3.b) ?_
   rintro r h4 ⟨rfl,hlq⟩
   obtain⟨hT4,hn4,hb4⟩:=hT3.leftQ hlq
   simp -implicitDefEqProofs (disch:=omega) only[Wz,seval,hee,hll]
   refine nxt h4 hT4 _ ?_ ?_ ?_
   ·rfl
   ·rfl
   ·simp[lk]
  by_cases c2:xa=2
  ·have k0:(xa==0)=false:=by simpa using c0
   have k1:(xa==1)=false:=by simpa using c1
   have k2:(xa==2)=true:=by simpa using c2
   have hE1:=Next_spec n o N xr xx xc xi i2 hxi H2 2 x y z hAt
   have hE2:=fun h3 hb=>rNext_spec n o N xr xx xc xi i2 hxi h3 4 hb
   obtain⟨l,hl⟩:∃ l,(if asksV n xr xi.length=0 then nextL n o xr.toNat xi xx xc (n.types.length+1) else [])=l:=⟨_,rfl⟩
   obtain⟨e,he⟩:∃ e,asksV n xr xi.length=e:=⟨_,rfl⟩
   rw[hl] at hE1 bX
   rw[he] at hE1
   simp only[hl] at hE2
   simp only[he] at hE2
   have hee:(e==e)=true:=by simp
   have hr:=fun f g=>rows_spec l l f g bX bX
   rw[decide_eq_true (rfl:l=l)] at hr
   simp -implicitDefEqProofs (disch:=omega) only[Wz,seval,hp2,k0,k1,k2]
   refine CallK_of call14 hE1 ?_
   rintro r h3 ⟨⟨f1,rfl⟩,hla⟩
   obtain⟨hT3,hb3⟩:=hT2.left hla
   have hp3:=hp2
   rw[← hb3 p (by omega)] at hp3
   simp -implicitDefEqProofs (disch:=omega) only[Wz,seval,hp3]
   refine CallK_of call15 (hE2 h3 hT3.b) ?_
   rintro r h4 ⟨⟨f2,rfl⟩,hlq⟩
   obtain⟨hT4,hn4,hb4⟩:=hT3.leftQ hlq
   simp -implicitDefEqProofs (disch:=omega) only[Wz,seval,hee]
   refine CallK_k call11 (hr f1 f2) (allc (gR l f1) (allc (gR l f2) alln)) (.lit _) ?_
   simp -implicitDefEqProofs (disch:=omega) only[Wz,seval]
   refine nxt h4 hT4 _ ?_ ?_ ?_
   ·rfl
   ·rfl
   ·simp[lk]
  have k0:(xa==0)=false:=by simpa using c0
  have k1:(xa==1)=false:=by simpa using c1
  have k2:(xa==2)=false:=by simpa using c2
  simp -implicitDefEqProofs (disch:=omega) only[Wz,seval,hp2,k0,k1,k2]
  refine nxt H2 hT2 _ ?_ ?_ ?_
  ·rfl
  ·rfl
  ·simp[lk]
end Go.Proofs.YtbbnfbnicacdoaaGreat
end
section
namespace Go.Proofs.YtbbnfbnicacdoaaGreat
open Go Go.Ab Go.RowKit Go.ChangeShapes
open Go.Proofs.Tryz renaming prog→Pg
set_option maxRecDepth 20000
theorem rd_asks{H:Type}{en:TypeId × Value→H}{W:World}(n:Nat):Rd en Pg W n 28 (fun av m=>∃ l:List Ask,av=[.vec (l.map encAsk) false]∧(l.map fun a=>a.items.length).sum≤m∧l.length≤m) :=
 (Rd.slice' ty28 rfl ty40 (by decide) (f:=encAsk) (sz:=fun a:Ask=>a.items.length) fun j _=>rd_ask j).mono fun av m ⟨l,h1,h2,h3⟩=>⟨l,h1,by omega,by omega⟩
theorem contractTll(H:Type)(en:TypeId × Value→H)(W:World)(base:Nat)(args:Array Value)(ds gs:List (DataW H))(before:List MemPlace)
  (hval:∀ (j:Nat) t v,Tryz.f3.params[j]? = some t→args[j]? = some v→Value.okWide Pg W .any base t v)
  (hW:DataW.Whole en Pg Tryz.f3.params.toList Rows.endsTellSpec.vars false W args.toList ds gs before) (hk:Rows.uptoSmall H (ds++gs)=true) :
  Calls Pg 3 args W fun e W'=>∃ v,e = .returned v∧Rows.endsTellSpec.post en Pg Tryz.f3 false true false false W args v W':=by
 have hW':=hW
 obtain⟨p,q,hA,hV,rfl,hfz,hnd⟩:=hW
 have hA:DataW.TrodAll en Pg W 0 (fun _=>true) true Tryz.f3.params.toList args.toList ds p:=hA
 rw[Tryz.params3] at hA
 obtain⟨v0,vs0,d0,ds0,p0,q0,hargs,rfl,rfl,⟨n0,h0⟩,r0⟩:=trodAll_cons hA
 obtain⟨v1,vs1,d1,ds1,p1,q1,rfl,rfl,rfl,⟨n1,h1⟩,r1⟩:=trodAll_cons r0
 obtain⟨v2,vs2,d2,ds2,p2,q2,rfl,rfl,rfl,⟨n2,h2⟩,r2⟩:=trodAll_cons r1
 obtain⟨rfl,rfl,rfl⟩:=trodAll_nil r2
 obtain rfl:args = #[v0,v1,v2]:=Array.toList_inj.1 hargs
 obtain⟨rfl,rfl⟩:=trodVars_none hV
 obtain⟨k0,av0,l0,t,rfl,b0,c0'⟩:=rs_nt n0 _ _ _ h0
 obtain⟨k1,av1,l1,o,rfl,b1⟩:=rd_orcs n1 _ _ _ h1
 obtain⟨k2,av2,l2,y,rfl,b2,b3⟩:=rd_asks n2 _ _ _ h2
 obtain⟨sa3,sl3,sc3,rfl⟩:=Go.WideShapes.okWide_slice (e:=40) (by kernel_rfl) (hval 2 28 v2 (by kernel_rfl) rfl)
 have hrep3:Rep (gm (memOf W)) (.slice sa3 sl3 sc3) (.vec (y.map encAsk) false):=l2.2 0 _ _ rfl rfl
 obtain⟨sa,sl,sc,rfl⟩:=Go.WideShapes.okWide_slice (e:=56) (by kernel_rfl) (hval 1 27 v1 (by kernel_rfl) rfl)
 have hrep1:Rep (gm (memOf W)) (.slice sa sl sc) (.vec (o.map encO) false):=l1.2 0 _ _ rfl rfl
 have h:Rows.uptoBulkAll [d0,d1,d2]≤1048576:=of_decide_eq_true hk
 simp only[Rows.uptoBulkAll] at h
 have ok:NtOk t:=ntOk_of (by omega) c0'
 have e0:(encN t).length=5:=rfl
 have g0:=l0.1
 rw[e0] at g0
 obtain⟨cs0,rfl⟩:∃ cs,v0 = .agg cs:=by
  cases v0 <;> simp[Value.cells] at g0
  exact⟨_,rfl⟩
 have hrep0:Rep (gm (memOf W)) (.agg cs0) (.agg (encN t)):=.agg k0 l0.1 l0.2
 have hc:PCall Pg 3 [.agg (encN t),.vec (o.map encO) false,.vec (y.map encAsk) false] (.lit (.bool true)) :=
  PCall_of_SCall (SCall.mono (tell_law t o y ok (by omega) (by omega) (fun a ha=>by have:=sum_mem (List.mem_map_of_mem (f:=fun a:Ask=>a.items.length) ha);omega)) fun r' h' e=>by obtain⟨e1,e2⟩:=e;subst e1;subst e2;exact expo_pure (.lit _))
 refine(hc (memOf W) W #[.agg cs0,.slice sa sl sc,.slice sa3 sl3 sc3] (memOk_of W) (.cons hrep0 (.cons hrep1 (.cons hrep3 .nil)))).mono fun e W' hh=>?_
 obtain⟨v,m',rfl,hv,_,hkeep,_,_⟩:=hh
 cases hv
 exact⟨_,rfl,law_post hW' rfl rfl (by kernel_rfl) (by kernel_rfl) (by kernel_rfl) (tb:=4) (by kernel_rfl) hkeep⟩
theorem ownTll:ownKnob Tryz.prog.godebug=none:=by kernel_rfl
set_option maxRecDepth 100000 in
theorem liftedTll(os:Os)(started:os.Started)(H:Type)(en:TypeId × Value→H)(F:Stop.Interp) :
  ReturnsInHanded {} Tryz.checked os 3 .any ((Rows.OpenSpec.upto Rows.endsTellSpec).pre6 en Pg Tryz.f3 Rows.endsTellUptoRow.domain false) (((Rows.OpenSpec.upto Rows.endsTellSpec).at F).post en Pg Tryz.f3 false true false false):=by
 refine returnsInHanded_of_cond (C:=Tryz.checked) (s:=Rows.OpenSpec.upto Rows.endsTellSpec) (k:=Rows.uptoSmall) rfl ownTll started (by kernel_rfl) Tryz.func3
  (OpenSpec.witness (enc:=en) (C:=Tryz.checked) (s:=Rows.OpenSpec.upto Rows.endsTellSpec) (k:=Rows.uptoSmall) rfl false ⟨#[],#[.agg #[.slice none 0 0,.slice none 0 0,.slice none 0 0,.slice none 0 0,.slice none 0 0],.slice none 0 0,.slice none 0 0],[]⟩ 8 (by kernel_rfl) (by kernel_rfl) (by kernel_rfl)
   (x:=([.agg [.nil,.nil,.nil,.nil,.nil],.nil,.nil],[],[])) (by kernel_rfl) rfl (by kernel_rfl)) ?_
 intro W base args ds gs before hval hW _ hk _
 exact contractTll H en W base args ds gs before hval hW hk
theorem endsTell_proved:Rows.EndsTellUptoSaid :=
 OpenClaim.holds_of_cond 3 Tryz.f3 rfl rfl rfl rfl rfl rfl rfl ⟨rfl,rfl,rfl,rfl,rfl⟩ rfl rfl rfl rfl rfl (by kernel_rfl) Tryz.func3 (by kernel_rfl)
  (of_decide_eq_true (by kernel_rfl)) (by unfold Func.isWrapper;first | (rw[if_pos (by decide +kernel)];kernel_rfl) | (rw[if_neg (by decide +kernel)];exact⟨rfl,rfl⟩))
  (fun os started H en _ F=>liftedTll os started H en F)
#print axioms endsTell_proved
end Go.Proofs.YtbbnfbnicacdoaaGreat
end
