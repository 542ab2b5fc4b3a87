/- Which items are valid is the document's answer. Conditions: none beyond the statement's own bound on the arguments' bulk. -/
import Derived.Test.YtbbnfbnicacdoaaGreatVn
set_option linter.unusedVariables false
set_option linter.unusedSimpArgs false
section
namespace Go.Proofs.YtbbnfbnicacdoaaGreat
open Go Go.Ab
set_option maxRecDepth 20000
set_option maxHeartbeats 16000000
def Mem.putP(M:Mem)(c:Cl)(v:Bool)(tp tb:Nat):Mem:={M with P:=M.P++[c],B:=M.B++[v],tp:=tp,tb:=tb}
section
variable {n:Nt} {o:List Orc} {L:List It} {H:Hp} {ai:Nat} {M:Mem}
theorem toksP_ne{c:Cl}{v:Bool}{tp tb:Nat}:(M.putP c v tp tb).toks=(grT M.tk 3 (M.K.map encCl)++grT M.te 1 (M.E.map rowE))++[(tp,(⟨(M.P++[c]).map encCl,0,3⟩:Tk)),(tb,⟨(M.B++[v]).map encBo,0,1⟩)]:=by
 unfold Mem.toks Mem.putP
 simp only
 rw[grT_ne (rows:=(M.P++[c]).map encCl) (by simp),grT_ne (rows:=(M.B++[v]).map encBo) (by simp),List.append_assoc]
 rfl
theorem AtR.newP(h:AtR n o L H ai M)(hP:M.P=[])(hB:M.B=[])(c:Cl)(v:Bool) :
  AtR n o L ⟨up H.boxes ai (rkC n o L (M.putP c v H.nx (H.nx+1))),H.toks++[(H.nx,⟨[encCl c],0,3⟩)]++[(H.nx+1,⟨[encBo v],0,1⟩)],H.nx+1+1⟩ ai (M.putP c v H.nx (H.nx+1)) ∧
  FrmR H ai M ⟨up H.boxes ai (rkC n o L (M.putP c v H.nx (H.nx+1))),H.toks++[(H.nx,⟨[encCl c],0,3⟩)]++[(H.nx+1,⟨[encBo v],0,1⟩)],H.nx+1+1⟩ (M.putP c v H.nx (H.nx+1)):=by
 have hlt:=h.lt
 have hM:M.toks=grT M.tk 3 (M.K.map encCl)++grT M.te 1 (M.E.map rowE):=by unfold Mem.toks;rw[hP,hB];simp[grT]
 have hN:(M.putP c v H.nx (H.nx+1)).toks=M.toks++[(H.nx,(⟨[encCl c],0,3⟩:Tk)),(H.nx+1,⟨[encBo v],0,1⟩)]:=by rw[toksP_ne,hM,hP,hB];rfl
 have hNn:(M.putP c v H.nx (H.nx+1)).names=M.names++[H.nx,H.nx+1]:=by unfold Mem.names;rw[hN,List.map_append];rfl
 have old:∀ i,i<H.nx→lk (H.toks++[(H.nx,(⟨[encCl c],0,3⟩:Tk))]++[(H.nx+1,⟨[encBo v],0,1⟩)]) i=lk H.toks i:=fun i hi=>by
  rw[lk_app,lk_app];simp only[lk];rw[if_neg (by omega),if_neg (by omega),Option.or_none,Option.or_none]
 refine⟨⟨?_,fun i hi=>?_,fun i hi=>?_,fun q hq=>?_,?_⟩,⟨by show H.nx≤H.nx+1+1;omega,fun i hi hne=>?_,fun i hi _=>old i hi,fun i hi=>?_⟩⟩
 ·show lk (up _ _ _) ai=_
  rw[lk_up,if_pos rfl,h.bx];rfl
 ·have hi:H.nx+1+1≤i:=hi
  show lk (up _ _ _) i=_
  rw[lk_up,if_neg (by omega)];exact h.fb i (by omega)
 ·have hi:H.nx+1+1≤i:=hi
  show lk (_++_++_) i=_
  rw[lk_app,lk_app,h.ft i (by omega)];simp only[lk];rw[if_neg (by omega),if_neg (by omega)];rfl
 ·rw[hN] at hq
  show lk (_++_++_) q.1=_
  rcases List.mem_append.1 hq with r | r
  ·rw[old _ (h.nlt _ (List.mem_map.2 ⟨q,r,rfl⟩))];exact h.tk q r
  ·simp only[List.mem_cons,List.not_mem_nil,or_false] at r
   rcases r with r | r
   ·subst r;rw[lk_app,lk_app,h.ft _ (Nat.le_refl _)];simp[lk]
   ·subst r;rw[lk_app,lk_app,h.ft _ (Nat.le_succ _)];simp[lk]
 ·rw[hNn,List.nodup_append]
  refine⟨h.nd,by simp,fun a ha b hb e=>?_⟩
  have:=h.nlt _ ha
  simp only[List.mem_cons,List.not_mem_nil,or_false] at hb
  rcases hb with r | r <;> omega
 ·show lk (up _ _ _) i=_
  rw[lk_up,if_neg (fun q=>hne q.symm)]
 ·rw[hNn,List.mem_append] at hi
  rcases hi with r | r
  ·exact .inl r
  ·simp only[List.mem_cons,List.not_mem_nil,or_false] at r
   right;rcases r with r | r <;> omega
theorem AtR.oldP(h:AtR n o L H ai M)(hP:M.P≠[])(hB:M.B≠[])(c:Cl)(v:Bool) :
  M.tp≠M.tb∧lk H.toks M.tp=some ⟨M.P.map encCl,0,3⟩∧lk H.toks M.tb=some ⟨M.B.map encBo,0,1⟩ ∧
  AtR n o L ⟨up H.boxes ai (rkC n o L (M.putP c v M.tp M.tb)),up (up H.toks M.tp ⟨(M.P++[c]).map encCl,0,3⟩) M.tb ⟨(M.B++[v]).map encBo,0,1⟩,H.nx⟩ ai (M.putP c v M.tp M.tb) ∧
  FrmR H ai M ⟨up H.boxes ai (rkC n o L (M.putP c v M.tp M.tb)),up (up H.toks M.tp ⟨(M.P++[c]).map encCl,0,3⟩) M.tb ⟨(M.B++[v]).map encBo,0,1⟩,H.nx⟩ (M.putP c v M.tp M.tb):=by
 have hlt:=h.lt
 obtain⟨Rst,hRst⟩:∃ Rst,grT M.tk 3 (M.K.map encCl)++grT M.te 1 (M.E.map rowE)=Rst:=⟨_,rfl⟩
 have hM:M.toks=Rst++[(M.tp,(⟨M.P.map encCl,0,3⟩:Tk)),(M.tb,⟨M.B.map encBo,0,1⟩)]:=by
  unfold Mem.toks
  rw[grT_ne (rows:=M.P.map encCl) (by simpa using hP),grT_ne (rows:=M.B.map encBo) (by simpa using hB),← hRst,List.append_assoc];rfl
 have hN:(M.putP c v M.tp M.tb).toks=Rst++[(M.tp,(⟨(M.P++[c]).map encCl,0,3⟩:Tk)),(M.tb,⟨(M.B++[v]).map encBo,0,1⟩)]:=by rw[toksP_ne,hRst]
 have hnd:=h.nd
 have hnn:M.names=Rst.map Prod.fst++[M.tp,M.tb]:=by unfold Mem.names;rw[hM,List.map_append];rfl
 have hNn:(M.putP c v M.tp M.tb).names=M.names:=by unfold Mem.names;rw[hN,hM,List.map_append (l₁:=Rst),List.map_append (l₁:=Rst)];rfl
 have hl:=h.nlt
 rw[hnn,List.nodup_append] at hnd
 have hne:M.tp≠M.tb:=fun q=>by have:=hnd.2.1;rw[q] at this;simp at this
 have k1:=h.tk (M.tp,⟨M.P.map encCl,0,3⟩) (by rw[hM];simp)
 have k2:=h.tk (M.tb,⟨M.B.map encBo,0,1⟩) (by rw[hM];simp)
 simp only at k1 k2
 have l1:=hl M.tp (by rw[hnn];simp)
 have l2:=hl M.tb (by rw[hnn];simp)
 have oth:∀ i,i≠M.tp→i≠M.tb→∀ a b,lk (up (up H.toks M.tp a) M.tb b) i=lk H.toks i:=fun i e1 e2 a b=>by
  rw[lk_up,if_neg (fun q=>e2 q.symm),lk_up,if_neg (fun q=>e1 q.symm)]
 refine⟨hne,k1,k2,⟨?_,fun i hi=>?_,fun i hi=>?_,fun q hq=>?_,by rw[hNn];exact h.nd⟩,⟨Nat.le_refl _,fun i hi hne=>?_,fun i hi hm=>?_,fun i hi=>by rw[hNn] at hi;exact .inl hi⟩⟩
 ·show lk (up _ _ _) ai=_
  rw[lk_up,if_pos rfl,h.bx];rfl
 ·have hi:H.nx≤i:=hi
  show lk (up _ _ _) i=_
  rw[lk_up,if_neg (by omega)];exact h.fb i hi
 ·have hi:H.nx≤i:=hi
  show lk (up (up _ _ _) _ _) i=_
  rw[oth i (by omega) (by omega)];exact h.ft i hi
 ·rw[hN] at hq
  show lk (up (up _ _ _) _ _) q.1=_
  rcases List.mem_append.1 hq with r | r
  ·have m:q.1∈Rst.map Prod.fst:=List.mem_map.2 ⟨q,r,rfl⟩
   rw[oth q.1 (fun e=>hnd.2.2 _ m M.tp (by simp) e) (fun e=>hnd.2.2 _ m M.tb (by simp) e)]
   exact h.tk q (by rw[hM];simp[r])
  ·simp only[List.mem_cons,List.not_mem_nil,or_false] at r
   rcases r with r | r
   ·subst r;rw[lk_up,if_neg (fun q=>hne q.symm),lk_up,if_pos rfl,k1];rfl
   ·subst r;rw[lk_up,if_pos rfl,lk_up,if_neg hne,k2];rfl
 ·show lk (up _ _ _) i=_
  rw[lk_up,if_neg (fun q=>hne q.symm)]
 ·show lk (up (up _ _ _) _ _) i=_
  rw[hnn] at hm
  exact oth i (fun e=>hm (by rw[e];simp)) (fun e=>hm (by rw[e];simp)) _ _
theorem MOk.putP(h:MOk n o L M){c:Cl}(hc:c∉M.P)(hb:c.rule<100∧0≤c.level∧c.level≤65∧c.pos≤25)(tp tb:Nat):MOk n o L (M.putP c (opB n o L c) tp tb):=by
 refine⟨h.lE,by simp[Mem.putP,h.lB],h.okE,fun i hi=>?_,h.ndK,?_,h.bdK,fun k hk=>?_⟩
 ·have hi:i<M.P.length+1:=by simpa [Mem.putP] using hi
  show (M.B++[opB n o L c]).getD i false=opB n o L ((M.P++[c]).getD i ⟨0,0,0⟩)
  rw[getD_app (by rw[h.lB];exact hi),getD_app hi,h.lB]
  split
  ·rename_i q;exact h.okB i q
  ·rfl
 ·show (M.P++[c]).Nodup
  rw[List.nodup_append]
  exact⟨h.ndP,by simp,fun a ha b hb' e=>hc (by simp only[List.mem_singleton] at hb';rw[← hb',← e];exact ha)⟩
 ·rcases List.mem_append.1 hk with q | q
  ·exact h.bdP k q
  ·simp only[List.mem_singleton] at q;rw[q];exact hb
end
theorem rOpen_spec(n:Nt)(o:List Orc)(L:List It)(w:Wf n)(okn:NtOk n)(rk:Nat→Nat)(hrk:Rk n rk)(ho:o.length≤1000000000)(hL:L.length≤25):∀ c:Cl,c.rule<n.rules.length→c.pos≤L.length→(0≤c.level→c.level≤65→OpenC n o L rk c):=by
 refine cl_ind (n:=n) (L:=L) rk (P:=fun c=>0≤c.level→c.level≤65→OpenC n o L rk c) ?_
 intro c hr hp ih hl0 hl1 H ai M hA hM
 have hF:=rOpenFrom_spec n o L w okn rk hrk ho hL c hr hp (fun d a b l1 l2 _=>rEnd_spec n o L w okn rk hrk ho hL d a b l1 l2) (fun d a b l1 l2 hlt=>ih d a b hlt l1 l2)
 obtain⟨R,hR⟩:∃ R:AV→Hp→Prop,(fun r h'=>r=AV.lit (.bool (opB n o L c))∧∃ M',LftO n o L rk c true H ai M h' M')=R:=⟨_,rfl⟩
 rw[hR]
 refine SCall_introK Tryz.func59 rfl Tryz.ntmps59 (rs:=[.tmp 8]) rfl (by simp) ?_
 have hst:=w.nst
 have hru:=w.nru
 have hsr:=w.start hr
 obtain⟨r,hrr⟩:∃ r,n.rules.getD c.rule default=r:=⟨_,rfl⟩
 rw[hrr] at hsr
 obtain⟨st,hst2⟩:∃ st:Nat,r.start=(st:Int):=⟨r.start.toNat,by omega⟩
 have hstN:stN n c.rule=st:=by unfold stN;rw[hrr,hst2];rfl
 rw[hstN] at hF
 have hnb:∀ x,lk (H.boxes++[(H.nx,x)]) H.nx=some x:=fun x=>by rw[lk_app,hA.fb _ (Nat.le_refl _)];simp[lk]
 have hub:∀ a b,up (H.boxes++[(H.nx,a)]) H.nx b=H.boxes++[(H.nx,b)]:=fun a b=>up_app (hA.fb _ (Nat.le_refl _))
 refine aw_seq ?_
 refine aw_of ?_
 simp -implicitDefEqProofs (disch:=omega) only[Wz,seval]
 refine aw_seq ?_
 refine aw_of ?_
 simp -implicitDefEqProofs (disch:=omega) only[Wz,seval,hnb,hub]
 obtain⟨hk9,hhk⟩:∃ hk9,H.nx=hk9:=⟨_,rfl⟩
 obtain⟨H1,hH1⟩:∃ H1:Hp,(⟨H.boxes++[(H.nx,encCl c)],H.toks,H.nx+1⟩:Hp)=H1:=⟨_,rfl⟩
 have a1:AtR n o L H1 ai M:=by rw[← hH1];exact hA.addB _
 have f1:FrmR H ai M H1 M:=by rw[← hH1];exact FrmR.addB _
 have b1:lk H1.boxes hk9=some [.lit (.int .i64 (c.rule:Int)),.lit (.int .i64 c.level),.lit (.int .i64 (c.pos:Int))]:=by rw[← hH1,← hhk];exact hnb _
 have hkl:hk9<H1.nx:=by rw[← hH1,← hhk];exact Nat.lt_succ_self _
 have hkne:hk9≠ai:=by have:=hA.lt;omega
 have hKl:=keys_le hM.ndP hM.bdP
 refine aw_seq_cut (fun σ2=>c∉M.P∧σ2=⟨[(9,.ptr hk9 0),(0,.ptr ai 0),(1,.lit (.int .i64 (c.rule:Int))),(2,.lit (.int .i64 c.level)),(3,.lit (.int .i64 (c.pos:Int)))],H1,75⟩) ?_ ?_
 ·have hbx:=a1.bx
  unfold rkC rkX encN at hbx
  simp only[List.cons_append,List.nil_append] at hbx
  refine aw_of ?_
  simp -implicitDefEqProofs (disch:=omega) only[Wz,seval]
  obtain⟨S1,hS1⟩:∃ S1:Nat→St,∀ i,S1 i=⟨[(10,.lit (.int .i64 (i:Int))),(9,.ptr hk9 0),(0,.ptr ai 0),(1,.lit (.int .i64 (c.rule:Int))),(2,.lit (.int .i64 c.level)),(3,.lit (.int .i64 (c.pos:Int)))],H1,75⟩:=⟨_,fun _=>rfl⟩
  refine aw_measA S1 (fun i=>i≤M.P.length∧c∉M.P.take i) (fun i=>M.P.length - i) 0 ?_ ⟨Nat.zero_le _,by simp⟩ ?_
  ·rw[hS1,← hH1,← hhk]
   exact wk_lk (by simp[lk]) (fun _ _ q=>q) (fun _ _ q=>q) rfl rfl
  rintro i ⟨hi,hin⟩
  rw[hS1]
  refine aw_of ?_
  rcases Nat.lt_or_ge i M.P.length with hil | hge
  rotate_left
  ·have e:i=M.P.length:=by omega
   subst e
   rw[List.take_length] at hin
   by_cases hKe:M.P=[]
   ·rw[hKe] at hbx
    simp only[List.map_nil,grA] at hbx
    have h0:M.P.length=0:=by rw[hKe];rfl
    simp -implicitDefEqProofs (disch:=omega) only[Wz,seval,hbx,h0,List.length_nil]
    refine⟨_,?_,hin,rfl⟩
    exact wk_lk (by simp[lk]) (fun _ _ q=>q) (fun _ _ q=>q) rfl rfl
   ·rw[grA_ne (t:=M.tp) (rows:=M.P.map encCl) (by simpa using hKe)] at hbx
    simp -implicitDefEqProofs (disch:=omega) only[Wz,seval,hbx]
    refine⟨_,?_,hin,rfl⟩
    exact wk_lk (by simp[lk]) (fun _ _ q=>q) (fun _ _ q=>q) rfl rfl
  have hKne:M.P≠[]:=fun q=>by rw[q] at hil;exact absurd hil (Nat.not_lt_zero _)
  have hEne:M.B≠[]:=fun q=>by have:=hM.lB;rw[q] at this;have h0:M.P.length=0:=this.symm;omega
  obtain⟨_,t1,t2,_,_⟩:=a1.oldP hKne hEne c false
  rw[grA_ne (t:=M.tp) (rows:=M.P.map encCl) (by simpa using hKne),grA_ne (t:=M.tb) (rows:=M.B.map encBo) (by simpa using hEne)] at hbx
  have hEl:=hM.lB
  obtain⟨kk,hkk⟩:∃ kk,M.P.getD i ⟨0,0,0⟩=kk:=⟨_,rfl⟩
  have hgi:M.P[i]? = some kk:=by rw[← hkk,List.getD_eq_getElem?_getD,List.getElem?_eq_getElem hil];rfl
  have g1:(M.P.map encCl)[i]? = some [.lit (.int .i64 (kk.rule:Int)),.lit (.int .i64 kk.level),.lit (.int .i64 (kk.pos:Int))]:=by rw[List.getElem?_map,hgi];rfl
  have g2:(M.B.map encBo)[i]? = some [.lit (.bool (opB n o L kk))]:=by
   have:=hM.okB i hil
   rw[hkk] at this
   rw[List.getElem?_map,← this,List.getD_eq_getElem?_getD,List.getElem?_eq_getElem (by omega)];rfl
  have htk:M.P.take (i+1)=M.P.take i++[kk]:=by rw[List.take_add_one,hgi];rfl
  simp -implicitDefEqProofs (disch:=omega) only[Wz,seval,hbx]
  refine aw_drawQ (n:=75) 8 (.alt 8 .leaf .nil) rfl (by decide) (by decide) mixed (by kernel_rfl) (by decide) ?_
  simp -implicitDefEqProofs (disch:=omega) only[Wz,seval,hbx,t1,g1,b1]
  refine stepK_eql_arr3 (k:=.i64) (a0:=(kk.rule:Int)) (a1:=kk.level) (a2:=(kk.pos:Int)) (b0:=(c.rule:Int)) (b1:=c.level) (b2:=(c.pos:Int)) rfl rfl ty111 rfl ty3 rfl rfl guard111 ?_
  by_cases hkc:kk=c
  ·subst hkc
   simp -implicitDefEqProofs (disch:=omega) only[Wz,seval,beq_self_eq_true,Bool.and_self,hbx,t2,g2,hEl]
   rw[← hR]
   exact⟨rfl,M,⟨a1,hM,f1,fun k hk=>.inl hk⟩⟩
  ·have hf:=cl_ne hkc
   simp -implicitDefEqProofs (disch:=omega) only[Wz,seval,hf]
   refine⟨i+1,⟨by omega,by rw[htk,List.mem_append];rintro(q | q);exact hin q;exact hkc (by simp only[List.mem_singleton] at q;exact q.symm)⟩,by omega,?_⟩
   rw[hS1]
   exact wk_lk (by simp[lk]) (fun _ _ q=>q) (fun _ _ q=>q) rfl rfl
 rintro σ2 ⟨hcK,rfl⟩
 have hbx:=a1.bx
 unfold rkC rkX encN at hbx
 simp only[List.cons_append,List.nil_append] at hbx
 have hFF:=hF H1 ai M a1 hM
 refine aw_seq ?_
 refine aw_of ?_
 simp -implicitDefEqProofs (disch:=omega) only[Wz,seval,hbx,hrr,encNr,hst2]
 refine CallK_of call78 hFF ?_
 rintro r' H2 ⟨rfl,M2,hl⟩
 simp -implicitDefEqProofs (disch:=omega) only[Wz,seval]
 obtain⟨l,hl2⟩:∃ l,opB n o L c=l:=⟨_,rfl⟩
 rw[hl2] at hR ⊢
 have a2:=hl.at'
 have b2:lk H2.boxes hk9=some [.lit (.int .i64 (c.rule:Int)),.lit (.int .i64 c.level),.lit (.int .i64 (c.pos:Int))]:=by rw[hl.fr.bx hk9 hkl hkne];exact b1
 have hc2:c∉M2.P:=fun q=>by
  rcases hl.ks c q with q | q | q
  ·exact hcK q
  ·exact Cl.lt_ir q
  ·cases q.1
 have hK2:=keys_le hl.ok.ndP hl.ok.bdP
 have hE2:=hl.ok.lB
 have hok:∀ tk te,MOk n o L (M2.putP c l tk te):=fun tk te=>by
  rw[← hl2]
  exact hl.ok.putP hc2 ⟨by omega,hl0,hl1,by omega⟩ tk te
 have hu:∀ x,lk (up H2.boxes ai x) ai=some x:=fun x=>by rw[lk_up,if_pos rfl,a2.bx];rfl
 have fin:∀ h' tk te,AtR n o L h' ai (M2.putP c l tk te)→FrmR H2 ai M2 h' (M2.putP c l tk te)→R (.lit (.bool l)) h':=fun h' tk te q1 q2=>by
  rw[← hR]
  refine⟨rfl,M2.putP c l tk te,⟨q1,hok tk te,(f1.trans hl.fr).trans q2,fun k hk=>?_⟩⟩
  rcases List.mem_append.1 hk with q | q
  ·rcases hl.ks k q with r | r | r
   ·exact .inl r
   ·exact .inr (.inl r)
   ·cases r.1
  ·exact .inr (.inr ⟨rfl,by simpa using q⟩)
 have hbx2:=a2.bx
 unfold rkC rkX encN at hbx2
 simp only[List.cons_append,List.nil_append] at hbx2
 have q3:(∀ q:List AV,q∈[encCl c]→q.length=3)=True:=eq_true (by simp[encCl])
 have q1:(∀ q:List AV,q∈[encBo l]→q.length=1)=True:=eq_true (by simp[encBo])
 by_cases hKe:M2.P=[]
 ·have hEe:M2.B=[]:=by have:=hl.ok.lB;rw[hKe] at this;exact List.length_eq_zero_iff.1 this
  obtain⟨w1,w2⟩:=a2.newP hKe hEe c l
  rw[hKe,hEe] at hbx2
  simp only[List.map_nil,grA] at hbx2
  have hf1:fits 1 24:=by decide
  have hf3:fits 1 1:=by decide
  refine aw_seq ?_
  refine aw_drawG (n:=75) (σ':=⟨[(11,.lit (.bool l)),(9,.ptr hk9 0),(0,.ptr ai 0),(1,.lit (.int .i64 (c.rule:Int))),(2,.lit (.int .i64 c.level)),(3,.lit (.int .i64 (c.pos:Int)))],⟨up H2.boxes ai (encN n++[.vec (o.map encO) false,itA L,grA M2.tk (M2.K.map encCl),grA M2.te (M2.E.map rowE),.own H2.nx 1,.vec [] true]),H2.toks++[(H2.nx,⟨[encCl c],0,3⟩)],H2.nx+1⟩,75⟩) (H2.nx+1) 7 (.alt 8 (.alt 9 (.alt 10 .leaf .nil) .nil) .nil) rfl rfl (by decide) (by decide) (by decide) mixed (by kernel_rfl) (by decide) ?_ ?_
  ·simp -implicitDefEqProofs (disch:=omega) only[Wz,seval,encN,hbx2,b2,hf1,List.mem_singleton,forall_eq,List.not_mem_nil,false_imp_iff,implies_true,if_true,List.length_cons,List.length_nil]
   exact St.wk.cp (wk_lk (by simp[lk]) (fun _ _ q=>q) (fun _ _ q=>q) rfl rfl)
  refine aw_of ?_
  simp -implicitDefEqProofs (disch:=omega) only[Wz,seval,encN,encBo,hu,up_up,hf1,hf3,List.mem_singleton,forall_eq,List.not_mem_nil,false_imp_iff,implies_true,if_true,List.length_cons,List.length_nil]
  have:=fin _ _ _ w1 w2
  unfold rkC Mem.putP at this
  rw[hKe,hEe] at this
  exact this
 ·have hEe:M2.B≠[]:=fun q=>by rw[q] at hE2;exact hKe (List.length_eq_zero_iff.1 hE2.symm)
  obtain⟨hne,t1,t2,w1,w2⟩:=a2.oldP hKe hEe c l
  rw[grA_ne (t:=M2.tp) (rows:=M2.P.map encCl) (by simpa using hKe),grA_ne (t:=M2.tb) (rows:=M2.B.map encBo) (by simpa using hEe),List.length_map,List.length_map] at hbx2
  have hf1:fits (M2.P.length+1) 24:=fits_of' (by omega) (by omega)
  have hf2:fits (M2.B.length+1) 1:=fits_of' (by omega) (by omega)
  have t3:∀ x,lk (up H2.toks M2.tp x) M2.tb=some ⟨M2.B.map encBo,0,1⟩:=fun x=>by rw[lk_up,if_neg hne];exact t2
  refine aw_seq ?_
  refine aw_drawG (n:=75) (σ':=⟨[(11,.lit (.bool l)),(9,.ptr hk9 0),(0,.ptr ai 0),(1,.lit (.int .i64 (c.rule:Int))),(2,.lit (.int .i64 c.level)),(3,.lit (.int .i64 (c.pos:Int)))],⟨up H2.boxes ai (encN n++[.vec (o.map encO) false,itA L,grA M2.tk (M2.K.map encCl),grA M2.te (M2.E.map rowE),.own M2.tp (M2.P.length+1),.own M2.tb M2.B.length]),up H2.toks M2.tp ⟨(M2.P++[c]).map encCl,0,3⟩,H2.nx⟩,75⟩) H2.nx 7 (.alt 8 (.alt 9 (.alt 10 .leaf .nil) .nil) .nil) rfl rfl (by decide) (by decide) (by decide) mixed (by kernel_rfl) (by decide) ?_ ?_
  ·simp -implicitDefEqProofs (disch:=omega) only[Wz,seval,encN,hbx2,b2,t1,hf1,List.mem_singleton,forall_eq,List.not_mem_nil,false_imp_iff,implies_true,if_true,List.length_cons,List.length_nil]
   exact St.wk.cp (wk_lk (by simp[lk]) (fun _ _ q=>q) (fun p k q=>by rw[← q];simp[encCl]) rfl rfl)
  refine aw_of ?_
  simp -implicitDefEqProofs (disch:=omega) only[Wz,seval,encN,encBo,hu,up_up,t3,hf2,List.mem_singleton,forall_eq,List.not_mem_nil,false_imp_iff,implies_true,if_true,List.length_cons,List.length_nil]
  have:=fin _ _ _ w1 w2
  unfold rkC Mem.putP at this
  rw[grA_ne (t:=M2.tp) (rows:=(M2.P++[c]).map encCl) (by simp),grA_ne (t:=M2.tb) (rows:=(M2.B++[l]).map encBo) (by simp)] at this
  simp only[List.length_map,List.length_append,List.length_singleton,List.map_append,List.map_cons,List.map_nil] at this ⊢
  exact this
end Go.Proofs.YtbbnfbnicacdoaaGreat
end
section
namespace Go.Proofs.YtbbnfbnicacdoaaGreat
open Go Go.Ab
open Go.Proofs.Tryz renaming prog→Pg
set_option maxRecDepth 20000
set_option maxHeartbeats 16000000
def Mem.nil:Mem:=⟨[],[],[],[],0,0,0,0⟩
structure AtQ (n:Nt) (o:List Orc) (H:Hp) (ai:Nat):Prop where
 bx:∃ it k e p b,lk H.boxes ai=some (rkX n o it k e p b)
 fb:∀ i,H.nx≤i→lk H.boxes i=none
 ft:∀ i,H.nx≤i→lk H.toks i=none
theorem AtQ.lt{n:Nt}{o:List Orc}{H:Hp}{ai:Nat}(h:AtQ n o H ai):ai<H.nx:=by
 obtain⟨it,k,e,p,b,q⟩:=h.bx
 exact lk_none_ne q h.fb
structure LeftQ (n:Nt) (o:List Orc) (H:Hp) (ai:Nat) (h':Hp):Prop where
 at':AtQ n o h' ai
 nx:H.nx≤h'.nx
 bx:∀ i,i<H.nx→i≠ai→lk h'.boxes i=lk H.boxes i
 tk:∀ i,i<H.nx→lk h'.toks i=lk H.toks i
theorem LeftQ.refl{n:Nt}{o:List Orc}{H:Hp}{ai:Nat}(h:AtQ n o H ai):LeftQ n o H ai H:=⟨h,Nat.le_refl _,fun _ _ _=>rfl,fun _ _=>rfl⟩
theorem LeftQ.trans{n:Nt}{o:List Orc}{H H1 H2:Hp}{ai:Nat}(h:LeftQ n o H ai H1)(k:LeftQ n o H1 ai H2):LeftQ n o H ai H2 :=
 ⟨k.at',Nat.le_trans h.nx k.nx,fun i hi hn=>by rw[k.bx i (Nat.lt_of_lt_of_le hi h.nx) hn,h.bx i hi hn],fun i hi=>by rw[k.tk i (Nat.lt_of_lt_of_le hi h.nx),h.tk i hi]⟩
theorem MOk.nil{n:Nt}{o:List Orc}{L:List It}:MOk n o L Mem.nil :=
 ⟨rfl,rfl,fun i hi=>absurd hi (Nat.not_lt_zero _),fun i hi=>absurd hi (Nat.not_lt_zero _),List.nodup_nil,List.nodup_nil,(fun c hc=>by cases hc),(fun c hc=>by cases hc)⟩
theorem use_atR{n:Nt}{o:List Orc}{H:Hp}{ai:Nat}(h:AtQ n o H ai)(l:List It):AtR n o l ⟨up H.boxes ai (rkX n o (itA l) (.vec [] true) (.vec [] true) (.vec [] true) (.vec [] true)),H.toks,H.nx⟩ ai Mem.nil:=by
 obtain⟨it,k,e,p,b,q⟩:=h.bx
 refine⟨?_,fun i hi=>?_,h.ft,(fun q hq=>by cases hq),List.nodup_nil⟩
 ·show lk (up _ _ _) ai=_
  rw[lk_up,if_pos rfl,q];rfl
 ·have:=h.lt
  have hi:H.nx≤i:=hi
  show lk (up _ _ _) i=_
  rw[lk_up,if_neg (by omega)];exact h.fb i hi
theorem use_left{n:Nt}{o:List Orc}{L:List It}{H:Hp}{ai:Nat}(h:AtQ n o H ai){c:List AV}{h':Hp}{M':Mem}(a:AtR n o L h' ai M')(f:FrmR ⟨up H.boxes ai c,H.toks,H.nx⟩ ai Mem.nil h' M'):LeftQ n o H ai h' :=
 ⟨⟨⟨_,_,_,_,_,a.bx⟩,a.fb,a.ft⟩,f.nx,fun i hi hn=>by rw[f.bx i hi hn];show lk (up _ _ _) i=_;rw[lk_up,if_neg fun q=>hn q.symm],fun i hi=>f.tk i hi (by intro q;cases q)⟩
theorem anyLe0_at{L:List It}{k:Nat}(h:k<L.length)(h0:(L.getD k default).type≤0):anyLe0 L=true:=by
 unfold anyLe0
 rw[List.any_eq_true]
 exact⟨_,getD_mem h,decide_eq_true h0⟩
theorem anyLe0_no{L:List It}(h:∀ k,k<L.length→¬ (L.getD k default).type≤0):anyLe0 L=false:=by
 cases q:anyLe0 L with
 | false=>rfl
 | true =>
  unfold anyLe0 at q
  rw[List.any_eq_true] at q
  obtain⟨x,hx,h2⟩:=q
  obtain⟨k,hk,e⟩:=mem_getD hx
  exact absurd (by rw[e];exact of_decide_eq_true h2) (h k hk)
theorem rAll_spec(n:Nt)(o:List Orc)(N:NetOk n o)(rule:Nat)(hr:rule<n.rules.length)(l:List It)(hL:l.length≤25)(H:Hp)(ai:Nat)(hA:AtQ n o H ai) :
  SCall Pg 34 [.ptr ai 0,.lit (.int .i64 (rule:Int)),.vec (l.map encI) false] H fun r h'=>r = .lit (.bool (viaV n o rule l))∧LeftQ n o H ai h':=by
 obtain⟨rk,hrk⟩:=N.rk
 obtain⟨v,hv⟩:∃ v,viaV n o rule l=v:=⟨_,rfl⟩
 rw[hv]
 obtain⟨R,hR⟩:∃ R:AV→Hp→Prop,(fun r h'=>r=AV.lit (.bool v)∧LeftQ n o H ai h')=R:=⟨_,rfl⟩
 rw[hR]
 refine SCall_introK Tryz.func34 rfl Tryz.ntmps34 (rs:=[.tmp 6]) rfl (by simp) ?_
 unfold viaV at hv
 obtain⟨it,k,ee,pp,b,hbx⟩:=hA.bx
 have hU:=rUse_spec n o k ee pp b H ai it l hbx
 have aR:=use_atR hA l
 have c0:(⟨rule,0,0⟩:Cl).rule<n.rules.length:=hr
 have hE:=rEnd_spec n o l N.w N.ok rk hrk N.ho hL ⟨rule,0,0⟩ hr (Nat.zero_le _) (Int.le_refl _) (show (0:Int)≤65 by decide)
 have hO:=rOpen_spec n o l N.w N.ok rk hrk N.ho hL ⟨rule,0,0⟩ hr (Nat.zero_le _) (Int.le_refl _) (show (0:Int)≤65 by decide)
 refine aw_of ?_
 simp -implicitDefEqProofs (disch:=omega) only[Wz,seval]
 refine aw_measA (fun i:Nat=>⟨[(8,.lit (.int .i64 (i:Int))),(7,.lit (.int .i64 (l.length:Int))),(0,.ptr ai 0),(1,.lit (.int .i64 (rule:Int))),(2,.vec (l.map encI) false)],H,46⟩) (fun i=>(i=0∨i+1≤l.length)∧∀ j,j<i→¬ (l.getD j default).type≤0) (fun i=>l.length - i) 0 (wk_lk (by simp[lk]) (fun _ _ q=>q) (fun _ _ q=>q) rfl rfl) ⟨.inl rfl,fun j q=>absurd q (Nat.not_lt_zero _)⟩ ?_
 rintro i ⟨hi,hno⟩
 refine aw_of ?_
 by_cases hil:i+1<l.length
 ·obtain⟨x,hx⟩:∃ x,l.getD i default=x:=⟨_,rfl⟩
  by_cases h0:x.type≤0
  ·have hv2:false=v:=by
    rw[if_pos (by omega)] at hv
    rw[← hv,if_pos]
    refine anyLe0_at (k:=i) (by rw[List.length_take];omega) ?_
    have e:(l.take (l.length - 1)).getD i default=x:=by rw[← hx,List.getD_eq_getElem?_getD,List.getElem?_take,if_pos (by omega),← List.getD_eq_getElem?_getD]
    rw[e];exact h0
   subst hv2
   simp -implicitDefEqProofs (disch:=omega) only[Wz,seval,hx,encI]
   rw[← hR]
   exact⟨rfl,LeftQ.refl hA⟩
  ·simp -implicitDefEqProofs (disch:=omega) only[Wz,seval,hx,encI]
   exact⟨i+1,⟨.inr (by omega),fun j hj=>by rcases Nat.lt_succ_iff_lt_or_eq.1 hj with q | q;exact hno j q;subst q;rw[hx];exact h0⟩,by omega,wk_lk (by simp[lk]) (fun _ _ q=>q) (fun _ _ q=>q) rfl rfl⟩
 have hal:anyLe0 (l.take (l.length - 1))=false:=anyLe0_no fun j hj=>by
  rw[List.length_take] at hj
  have e:(l.take (l.length - 1)).getD j default=l.getD j default:=by rw[List.getD_eq_getElem?_getD,List.getElem?_take,if_pos (by omega),← List.getD_eq_getElem?_getD]
  rw[e]
  exact hno j (by omega)
 have hEE:=hE _ ai Mem.nil aR MOk.nil
 have hOO:=hO _ ai Mem.nil aR MOk.nil
 simp -implicitDefEqProofs (disch:=omega) only[Wz,seval]
 refine CallK_of call30 hU ?_
 rintro r' h' rfl
 by_cases hl0:0<l.length
 ·rw[if_pos hl0,if_neg (by rw[hal];decide)] at hv
  obtain⟨x,hx⟩:∃ x,l.getD (l.length - 1) default=x:=⟨_,rfl⟩
  rw[hx] at hv
  have i1:((l.length:Int) - 1).toNat=l.length - 1:=by omega
  have i2:IntKind.i64.wrap ((l.length:Int) - 1)=(l.length:Int) - 1:=i64w (by omega) (by omega)
  by_cases hx0:x.type=0
  ·rw[if_pos hx0] at hv
   have hv2:decide (l.length - 1∈whL n o l ⟨rule,0,0⟩)=v:=by
    rw[← hv,Bool.eq_iff_iff,decide_eq_true_iff,mem_whL,whW_bit]
   have hH:=rHasN_spec (whL n o l ⟨rule,0,0⟩) (whL n o l ⟨rule,0,0⟩).isEmpty (l.length - 1) (Nat.le_trans whL_len (by omega))
   rw[hv2] at hH
   have ec:(((l.length - 1:Nat)):Int)=(l.length:Int) - 1:=by omega
   rw[ec] at hH
   simp -implicitDefEqProofs (disch:=omega) only[Wz,seval,hx,encI,i1,i2]
   refine CallK_of call31 hEE ?_
   rintro r' h' ⟨rfl,M',hl⟩
   simp -implicitDefEqProofs (disch:=omega) only[Wz,seval,i1,i2,vO]
   refine CallK_pure call58 hH (allc (.vec (pure_rows pure_rowI _)) (allc (.lit _) alln)) (.lit _) ?_
   simp -implicitDefEqProofs (disch:=omega) only[Wz,seval]
   rw[← hR]
   exact⟨rfl,use_left hA hl.at' hl.fr⟩
  ·rw[if_neg hx0] at hv
   rw[hv] at hOO
   simp -implicitDefEqProofs (disch:=omega) only[Wz,seval,hx,encI,i1,i2]
   refine CallK_of call59 hOO ?_
   rintro r' h' ⟨rfl,M',hl⟩
   simp -implicitDefEqProofs (disch:=omega) only[Wz,seval]
   rw[← hR]
   exact⟨rfl,use_left hA hl.at' hl.fr⟩
 ·rw[if_neg hl0] at hv
  rw[hv] at hOO
  simp -implicitDefEqProofs (disch:=omega) only[Wz,seval]
  refine CallK_of call59 hOO ?_
  rintro r' h' ⟨rfl,M',hl⟩
  simp -implicitDefEqProofs (disch:=omega) only[Wz,seval]
  rw[← hR]
  exact⟨rfl,use_left hA hl.at' hl.fr⟩
theorem asksV_in{n:Nt}{rule:Int}{k:Nat}(h:asksV n rule k=0):0≤rule∧rule.toNat<n.rules.length∧k≤601:=by
 rw[← rasksV_eq] at h
 unfold rasksV parserV at h
 split at h
 ·rename_i q
  simp only[Bool.and_eq_true,decide_eq_true_eq] at q
  split at h
  ·cases h
  ·exact⟨q.1,by omega,by omega⟩
 ·cases h
theorem LeftQ.tok{n:Nt}{o:List Orc}{H H1:Hp}{ai:Nat}(h:LeftQ n o H ai H1){T:List (Nat × Tk)}{m:Nat}(hm:H1.nx≤m)(h1:∀ i,i<H.nx→lk T i=lk H1.toks i)(h2:∀ i,m≤i→lk T i=none):LeftQ n o H ai ⟨H1.boxes,T,m⟩ :=
 ⟨⟨h.at'.bx,fun i hi=>h.at'.fb i (Nat.le_trans hm hi),h2⟩,Nat.le_trans h.nx hm,h.bx,fun i hi=>by rw[← h.tk i hi];exact h1 i hi⟩
theorem rNew_spec(n:Nt)(o:List Orc)(ok:NtOk n)(H:Hp)(hf:∀ i,H.nx≤i→lk H.boxes i=none) :
  SCall Pg 8 [.agg (encN n),.vec (o.map encO) false] H fun r h' =>
   (okV n=true→r = .tup [.ptr (H.nx+1) 0,.lit (.int .i64 0)]∧h'=⟨H.boxes++[(H.nx+1,rkX n o (.vec [] true) (.vec [] true) (.vec [] true) (.vec [] true) (.vec [] true))],H.toks,H.nx+2⟩)∧(okV n=false→r = .tup [.lit (.pointer none),.lit (.int .i64 110)]∧h'=⟨H.boxes,H.toks,H.nx+1⟩):=by
 have hck:=rCheck_spec n ok
 refine SCall_introW Tryz.func8 rfl Tryz.ntmps8 (rs:=[.tmp 4,.tmp 5]) rfl (by simp) ?_
 have hnx0:∀ c,lk (H.boxes++[(H.nx,c)]) H.nx=some c:=fun c=>by rw[lk_app,hf _ (Nat.le_refl _)];simp[lk]
 unfold encN at hck
 simp -implicitDefEqProofs (disch:=omega) only[Wz,seval,encN,hnx0]
 refine CallK_k call23 hck (allc (.of_pure (.agg (pure_encN n))) alln) (.lit _) ?_
 cases hok:okV n with
 | false =>
  simp -implicitDefEqProofs (disch:=omega) only[Wz,seval]
  refine⟨⟨[(4,.lit (.pointer none)),(5,.lit (.int .i64 110))],⟨H.boxes,H.toks,H.nx+1⟩,13⟩,wk_lk (allc rfl (allc rfl alln)) (fun _ _ q=>lk_pre q) (fun _ _ q=>q) rfl rfl,?_⟩
  exact⟨fun q=>(by cases q),fun _=>⟨rfl,rfl⟩⟩
 | true =>
  simp -implicitDefEqProofs (disch:=omega) only[Wz,seval,hnx0]
  refine⟨⟨[(4,.ptr (H.nx+1) 0),(5,.lit (.int .i64 0))],⟨H.boxes++[(H.nx+1,rkX n o (.vec [] true) (.vec [] true) (.vec [] true) (.vec [] true) (.vec [] true))],H.toks,H.nx+2⟩,13⟩,wk_lk (allc rfl (allc rfl alln)) (fun i c q=>?_) (fun _ _ q=>q) rfl rfl,?_⟩
  ·have q1:lk (H.boxes++[(H.nx+1,rkX n o (.vec [] true) (.vec [] true) (.vec [] true) (.vec [] true) (.vec [] true))]) i=some c:=q
   clear q
   rw[lk_app] at q1
   show lk (H.boxes++[(H.nx,_)]++[(H.nx+1,_)]) i=some c
   rw[lk_app,lk_app]
   cases hc:lk H.boxes i with
   | some c'=>rw[hc] at q1;simpa using q1
   | none =>
    rw[hc] at q1
    simp only[lk,Option.none_or] at q1 ⊢
    by_cases hi:H.nx+1=i
    ·rw[if_neg (by omega)]
     rw[if_pos hi] at q1 ⊢
     exact q1
    ·rw[if_neg hi] at q1;cases q1
  ·exact⟨fun _=>⟨rfl,rfl⟩,fun q=>(by cases q)⟩
theorem AtQ.new{n:Nt}{o:List Orc}{H:Hp}{it k e p b:AV}(hf:∀ i,H.nx≤i→lk H.boxes i=none)(ht:∀ i,H.nx≤i→lk H.toks i=none):AtQ n o ⟨H.boxes++[(H.nx+1,rkX n o it k e p b)],H.toks,H.nx+2⟩ (H.nx+1):=by
 refine⟨⟨it,k,e,p,b,?_⟩,fun i hi=>?_,fun i hi=>ht i ?_⟩
 ·show lk (H.boxes++_) _=_
  rw[lk_app,hf _ (by omega)];simp[lk]
 ·have hi:H.nx+2≤i:=hi
  show lk (H.boxes++_) _=_
  rw[lk_app,hf _ (by omega)];simp only[lk];rw[if_neg (by omega)];rfl
 ·have hi:H.nx+2≤i:=hi
  omega
theorem rValid_spec(n:Nt)(o:List Orc)(rule:Int)(L:List It)(ok:NtOk n)(ho:o.length≤1000000000)(hL:L.length≤25∨601<L.length)(hL2:L.length≤1000000000) :
  KCall Pg 17 [.agg (encN n),.vec (o.map encO) false,.lit (.int .i64 rule),.vec (L.map encI) false] (.lit (.bool (validV n o rule L))):=by
 obtain⟨v,hv⟩:∃ v,validV n o rule L=v:=⟨_,rfl⟩
 rw[hv]
 unfold validV at hv
 have hz:=fun q=>asksV_in (n:=n) (rule:=rule) (k:=L.length) q
 obtain⟨e,he⟩:∃ e,asksV n rule L.length=e:=⟨_,rfl⟩
 obtain⟨it,hit⟩:∃ it,L.getD (L.length - 1) default=it:=⟨_,rfl⟩
 rw[he] at hz hv
 rw[hit] at hv
 refine KCall_of (SCall_introK Tryz.func17 rfl Tryz.ntmps17 (rs:=[.tmp 8]) rfl (by simp) ?_)
 refine aw_of ?_
 have hnew:=rNew_spec n o ok ⟨[(0,encN n)],[],1⟩ (fun i hi=>lk_lt (N:=1) (by simp) hi)
 have hnew':=hnew
 unfold encN at hnew'
 simp -implicitDefEqProofs (disch:=omega) only[Wz,seval,encN]
 refine CallK_of call8 hnew' ?_
 rintro r h' ⟨q1,q2⟩
 cases hok:okV n with
 | false =>
  obtain⟨rfl,rfl⟩:=q2 hok
  have hv0:false=v:=by rw[← hv,hok];rfl
  subst hv0
  simp -implicitDefEqProofs (disch:=omega) only[Wz,seval]
  exact kexpo (.lit _)
 | true =>
  obtain⟨rfl,rfl⟩:=q1 hok
  have N:=netOk_of ok ho hok
  rw[hok,Bool.true_and] at hv
  have hA:AtQ n o ⟨[(0,encN n)]++[(1+1,rkX n o (.vec [] true) (.vec [] true) (.vec [] true) (.vec [] true) (.vec [] true))],[],1+2⟩ (1+1):=⟨⟨_,_,_,_,_,rfl⟩,fun i hi=>lk_lt (N:=3) (by simp) hi,fun i _=>rfl⟩
  have hask:=rAsks_spec n o (.vec [] true) (.vec [] true) (.vec [] true) (.vec [] true) ⟨[(0,encN n)]++[(1+1,rkX n o (.vec [] true) (.vec [] true) (.vec [] true) (.vec [] true) (.vec [] true))],[],1+2⟩ (1+1) (.vec [] true) rule L (by have:=ok.rules;omega) hL2 rfl
  rw[he] at hask
  simp -implicitDefEqProofs (disch:=omega) only[Wz,seval]
  refine CallK_of call33 hask ?_
  rintro r h' ⟨rfl,hh⟩
  rw[hh]
  clear hh
  by_cases h0:e=0
  ·obtain⟨z1,z2,z3⟩:=hz h0
   rw[decide_eq_true h0,Bool.true_and] at hv
   subst h0
   obtain⟨rn,hrn⟩:∃ rn:Nat,rule=(rn:Int):=⟨rule.toNat,by omega⟩
   subst hrn
   rw[Int.toNat_natCast] at z2 hv
   by_cases hl0:0<L.length
   ·rw[decide_eq_true hl0,Bool.true_and] at hv
    have hcast:(L.length:Int) - 1=((L.length - 1:Nat):Int):=by omega
    by_cases ht:it.type=0
    ·rw[decide_eq_true ht,Bool.true_and] at hv
     have h1':(it.type==0)=true:=by simpa using ht
     have hAll:=rAll_spec n o N rn z2 L (by omega) _ _ hA
     rw[hv] at hAll
     simp -implicitDefEqProofs (disch:=omega) only[Wz,seval,hcast,encI,hit,h1']
     refine CallK_of call34 hAll ?_
     rintro r h' ⟨rfl,hlq⟩
     simp -implicitDefEqProofs (disch:=omega) only[Wz,seval]
     exact kexpo (.lit _)
    ·rw[decide_eq_false ht,Bool.false_and] at hv
     subst hv
     have h1':(it.type==0)=false:=by simpa using ht
     simp -implicitDefEqProofs (disch:=omega) only[Wz,seval,hcast,encI,hit,h1']
     exact kexpo (.lit _)
   ·rw[decide_eq_false hl0,Bool.false_and] at hv
    subst hv
    simp -implicitDefEqProofs (disch:=omega) only[Wz,seval]
    exact kexpo (.lit _)
  ·rw[decide_eq_false h0,Bool.false_and] at hv
   subst hv
   have hne0:(e==0)=false:=by simpa using h0
   simp -implicitDefEqProofs (disch:=omega) only[Wz,seval,hne0]
   exact kexpo (.lit _)
theorem gp_items(L:List It)(f:Bool):GP (.vec (L.map encI) f):=.of_pure (.vec (pure_rows pure_encI L))
theorem nilAsks_spec(rule:Int)(k:Nat):KCall Pg 24 [.lit (.pointer none),.lit (.int .i64 rule),.lit (.int .i64 (k:Int))] (.lit (.int .i64 1)):=by
 refine KCall_of (SCall_introK Tryz.func24 rfl Tryz.ntmps24 (rs:=[.tmp 6]) rfl (by simp) ?_)
 refine aw_of ?_
 simp -implicitDefEqProofs (disch:=omega) only[Wz,seval]
 exact kexpo (.lit _)
theorem nilEnds_spec(rule level at':Int)(L:List It)(hL2:L.length≤1000000000) :
  KCall Pg 9 [.lit (.pointer none),.vec (L.map encI) false,.lit (.int .i64 rule),.lit (.int .i64 level),.lit (.int .i64 at')] (.tup [.vec [] true,.lit (.int .i64 1)]):=by
 refine KCall_of (SCall_introK Tryz.func9 rfl Tryz.ntmps9 (rs:=[.tmp 10,.tmp 11]) rfl (by simp) ?_)
 refine aw_of ?_
 simp -implicitDefEqProofs (disch:=omega) only[Wz,seval]
 refine CallK_k call24 (nilAsks_spec rule L.length) (allc (.lit _) (allc (.lit _) (allc (.lit _) alln))) (.lit _) ?_
 simp -implicitDefEqProofs (disch:=omega) only[Wz,seval]
 exact kexpo (.tup (allc gp_nil (allc (.lit _) alln)))
theorem nilViable_spec(rule:Int)(L:List It)(hL2:L.length≤1000000000) :
  KCall Pg 12 [.lit (.pointer none),.lit (.int .i64 rule),.vec (L.map encI) false] (.tup [.lit (.int .i64 0),.lit (.int .i64 1)]):=by
 refine KCall_of (SCall_introK Tryz.func12 rfl Tryz.ntmps12 (rs:=[.tmp 6,.tmp 7]) rfl (by simp) ?_)
 refine aw_of ?_
 simp -implicitDefEqProofs (disch:=omega) only[Wz,seval]
 refine CallK_k call24 (nilAsks_spec rule L.length) (allc (.lit _) (allc (.lit _) (allc (.lit _) alln))) (.lit _) ?_
 simp -implicitDefEqProofs (disch:=omega) only[Wz,seval]
 exact kexpo (.tup (allc (.lit _) (allc (.lit _) alln)))
theorem nilNext_spec(rule ix col:Int)(L:List It)(hL2:L.length≤1000000000) :
  KCall Pg 14 [.lit (.pointer none),.lit (.int .i64 rule),.vec (L.map encI) false,.lit (.int .i64 ix),.lit (.int .i64 col)] (.tup [.vec [] true,.lit (.int .i64 1)]):=by
 refine KCall_of (SCall_introK Tryz.func14 rfl Tryz.ntmps14 (rs:=[.tmp 10,.tmp 11]) rfl (by simp) ?_)
 refine aw_of ?_
 simp -implicitDefEqProofs (disch:=omega) only[Wz,seval]
 refine CallK_k call24 (nilAsks_spec rule L.length) (allc (.lit _) (allc (.lit _) (allc (.lit _) alln))) (.lit _) ?_
 simp -implicitDefEqProofs (disch:=omega) only[Wz,seval]
 exact kexpo (.tup (allc gp_nil (allc (.lit _) alln)))
theorem valid_law(n:Nt)(o:List Orc)(rule:Int)(L:List It)(ok:NtOk n)(ho:o.length≤1000000000)(hL:L.length≤1000000000) :
  KCall Pg 4 [.agg (encN n),.vec (o.map encO) false,.lit (.int .i64 rule),.vec (L.map encI) false] (.lit (.bool true)):=by
 have gN:GP (.agg (encN n)):=.of_pure (.agg (pure_encN _))
 have gI:=gp_items
 have gO:∀ (l:List Orc) f,GP (.vec (l.map encO) f):=fun l f=>.of_pure (.vec (pure_rows pure_encO l))
 have hg1:=great_spec n o L false false ok ho hL
 have hi1:=greatV_items (n:=n) (o:=o) (L:=L)
 obtain⟨g1,hge1⟩:∃ g,greatV n o L=g:=⟨_,rfl⟩
 rw[hge1] at hg1 hi1
 refine KCall_of (SCall_introK Tryz.func4 rfl Tryz.ntmps4 (rs:=[.tmp 8]) rfl (by simp) ?_)
 refine aw_of ?_
 unfold encN at hg1
 have ret:∀ (h:Hp),KExpo h (.lit (.bool true)) (.lit (.bool true)):=fun h=>kexpo (.lit _)
 simp -implicitDefEqProofs (disch:=omega) only[Wz,seval,encN]
 refine CallK_k call5 hg1 (allc gN (allc (gO _ _) (allc (gI _ _) alln))) (.lit _) ?_
 cases g1 with
 | true =>
  simp -implicitDefEqProofs (disch:=omega) only[Wz,seval]
  refine CallK_k call6 wakes_spec alln (.lit _) ?_
  simp -implicitDefEqProofs (disch:=omega) only[Wz,seval]
  exact ret _
 | false =>
  have i1:=hi1 rfl
  have hv1:=Valid_spec n o false rule L ok ho (by omega) hL
  have hv2:=rValid_spec n o rule L ok ho (by omega) hL
  obtain⟨v,hv⟩:∃ v,validV n o rule L=v:=⟨_,rfl⟩
  rw[hv] at hv1 hv2
  have gT:∀ a b:Value,GP (.tup [.lit a,.lit b]):=fun a b=>.tup (allc (.lit _) (allc (.lit _) alln))
  have gL:∀ b:Value,GP (.tup [.vec [] true,.lit b]):=fun b=>.tup (allc gp_nil (allc (.lit _) alln))
  unfold encN at hv1 hv2
  simp -implicitDefEqProofs (disch:=omega) only[Wz,seval]
  refine CallK_k call9 (nilEnds_spec rule 0 0 L hL) (allc (.lit _) (allc (gI _ _) (allc (.lit _) (allc (.lit _) (allc (.lit _) alln))))) (gL _) ?_
  simp -implicitDefEqProofs (disch:=omega) only[Wz,seval]
  refine CallK_k call12 (nilViable_spec rule L hL) (allc (.lit _) (allc (.lit _) (allc (gI _ _) alln))) (gT _ _) ?_
  simp -implicitDefEqProofs (disch:=omega) only[Wz,seval]
  refine CallK_k call14 (nilNext_spec rule 0 0 L hL) (allc (.lit _) (allc (.lit _) (allc (gI _ _) (allc (.lit _) (allc (.lit _) alln))))) (gL _) ?_
  simp -implicitDefEqProofs (disch:=omega) only[Wz,seval]
  refine aw_quietN (n:=68) rfl (by decide) mixed ?_
  simp -implicitDefEqProofs (disch:=omega) only[Wz,seval]
  refine CallQ_k call16 hv1 (allc gN (allc (gO _ _) (allc (.lit _) (allc (gI _ _) alln)))) (.lit _) ?_
  simp -implicitDefEqProofs (disch:=omega) only[Wz,seval]
  refine CallQ_k call17 hv2 (allc gN (allc (gO _ _) (allc (.lit _) (allc (gI _ _) alln)))) (.lit _) ?_
  have e1:(v==v)=true:=by simp
  simp -implicitDefEqProofs (disch:=omega) only[Wz,seval,e1]
  refine CallQ_k call6 wakes_spec alln (.lit _) ?_
  simp -implicitDefEqProofs (disch:=omega) only[Wz,seval]
  exact ret _
end Go.Proofs.YtbbnfbnicacdoaaGreat
end
section
namespace Go.Proofs.YtbbnfbnicacdoaaGreat
open Go Go.Ab Go.RowKit Go.ChangeShapes
open Go.Proofs.Tryz renaming prog→Pg
set_option maxRecDepth 20000
theorem contractVal(H:Type)(en:TypeId × Value→H)(W:World)(base:Nat)(args:Array Value)(ds gs:List (DataW H))(before:List MemPlace)
  (hval:∀ (j:Nat) t v,Tryz.f4.params[j]? = some t→args[j]? = some v→Value.okWide Pg W .any base t v)
  (hW:DataW.Whole en Pg Tryz.f4.params.toList Rows.endsValidSpec.vars false W args.toList ds gs before) (hk:Rows.uptoSmall H (ds++gs)=true) :
  Calls Pg 4 args W fun e W'=>∃ v,e = .returned v∧Rows.endsValidSpec.post en Pg Tryz.f4 false true false false W args v W':=by
 have hW':=hW
 obtain⟨p,q,hA,hV,rfl,hfz,hnd⟩:=hW
 have hA:DataW.TrodAll en Pg W 0 (fun _=>true) true Tryz.f4.params.toList args.toList ds p:=hA
 rw[Tryz.params4] at hA
 obtain⟨v0,vs0,d0,ds0,p0,q0,hargs,rfl,rfl,⟨n0,h0⟩,r0⟩:=trodAll_cons hA
 obtain⟨v1,vs1,d1,ds1,p1,q1,rfl,rfl,rfl,⟨n1,h1⟩,r1⟩:=trodAll_cons r0
 obtain⟨v2,vs2,d2,ds2,p2,q2,rfl,rfl,rfl,_,r2⟩:=trodAll_cons r1
 obtain⟨v3,vs3,d3,ds3,p3,q3,rfl,rfl,rfl,⟨n3,h3⟩,r3⟩:=trodAll_cons r2
 obtain⟨rfl,rfl,rfl⟩:=trodAll_nil r3
 obtain rfl:args = #[v0,v1,v2,v3]:=Array.toList_inj.1 hargs
 obtain⟨rfl,rfl⟩:=trodVars_none hV
 obtain⟨k0,av0,l0,t,rfl,b0,c0'⟩:=rs_nt n0 _ _ _ h0
 obtain⟨k1,av1,l1,o,rfl,b1⟩:=rd_orcs n1 _ _ _ h1
 obtain⟨z,rfl⟩:=Go.WideShapes.okWide_int (k:=.i64) (by kernel_rfl) (hval 2 3 v2 (by kernel_rfl) rfl)
 obtain⟨k3,av3,l3,y,rfl,b3⟩:=rd_items n3 _ _ _ h3
 obtain⟨sa3,sl3,sc3,rfl⟩:=Go.WideShapes.okWide_slice (e:=70) (by kernel_rfl) (hval 3 38 v3 (by kernel_rfl) rfl)
 have hrep3:Rep (gm (memOf W)) (.slice sa3 sl3 sc3) (.vec (y.map encI) false):=l3.2 0 _ _ rfl rfl
 obtain⟨sa,sl,sc,rfl⟩:=Go.WideShapes.okWide_slice (e:=56) (by kernel_rfl) (hval 1 27 v1 (by kernel_rfl) rfl)
 have hrep1:Rep (gm (memOf W)) (.slice sa sl sc) (.vec (o.map encO) false):=l1.2 0 _ _ rfl rfl
 have h:Rows.uptoBulkAll [d0,d1,d2,d3]≤1048576:=of_decide_eq_true hk
 simp only[Rows.uptoBulkAll] at h
 have ok:NtOk t:=ntOk_of (by omega) c0'
 have e0:(encN t).length=5:=rfl
 have g0:=l0.1
 rw[e0] at g0
 obtain⟨cs0,rfl⟩:∃ cs,v0 = .agg cs:=by
  cases v0 <;> simp[Value.cells] at g0
  exact⟨_,rfl⟩
 have hrep0:Rep (gm (memOf W)) (.agg cs0) (.agg (encN t)):=.agg k0 l0.1 l0.2
 have hc:PCall Pg 4 [.agg (encN t),.vec (o.map encO) false,.lit (.int .i64 z),.vec (y.map encI) false] (.lit (.bool true)) :=
  PCall_of_SCall (SCall.mono (valid_law t o z y ok (by omega) (by omega)) fun r' h' e=>by obtain⟨e1,e2⟩:=e;subst e1;subst e2;exact expo_pure (.lit _))
 refine(hc (memOf W) W #[.agg cs0,.slice sa sl sc,.int .i64 z,.slice sa3 sl3 sc3] (memOk_of W) (.cons hrep0 (.cons hrep1 (.cons (.lit rfl) (.cons hrep3 .nil))))).mono fun e W' hh=>?_
 obtain⟨v,m',rfl,hv,_,hkeep,_,_⟩:=hh
 cases hv
 exact⟨_,rfl,law_post hW' rfl rfl (by kernel_rfl) (by kernel_rfl) (by kernel_rfl) (tb:=4) (by kernel_rfl) hkeep⟩
theorem ownVal:ownKnob Tryz.prog.godebug=none:=by kernel_rfl
set_option maxRecDepth 100000 in
theorem liftedVal(os:Os)(started:os.Started)(H:Type)(en:TypeId × Value→H)(F:Stop.Interp) :
  ReturnsInHanded {} Tryz.checked os 4 .any ((Rows.OpenSpec.upto Rows.endsValidSpec).pre6 en Pg Tryz.f4 Rows.endsValidUptoRow.domain false) (((Rows.OpenSpec.upto Rows.endsValidSpec).at F).post en Pg Tryz.f4 false true false false):=by
 refine returnsInHanded_of_cond (C:=Tryz.checked) (s:=Rows.OpenSpec.upto Rows.endsValidSpec) (k:=Rows.uptoSmall) rfl ownVal started (by kernel_rfl) Tryz.func4
  (OpenSpec.witness (enc:=en) (C:=Tryz.checked) (s:=Rows.OpenSpec.upto Rows.endsValidSpec) (k:=Rows.uptoSmall) rfl false ⟨#[],#[.agg #[.slice none 0 0,.slice none 0 0,.slice none 0 0,.slice none 0 0,.slice none 0 0],.slice none 0 0,.int .i64 0,.slice none 0 0],[]⟩ 8 (by kernel_rfl) (by kernel_rfl) (by kernel_rfl)
   (x:=([.agg [.nil,.nil,.nil,.nil,.nil],.nil,.lit (.int .i64 0),.nil],[],[])) (by kernel_rfl) rfl (by kernel_rfl)) ?_
 intro W base args ds gs before hval hW _ hk _
 exact contractVal H en W base args ds gs before hval hW hk
theorem endsValid_proved:Rows.EndsValidUptoSaid :=
 OpenClaim.holds_of_cond 4 Tryz.f4 rfl rfl rfl rfl rfl rfl rfl ⟨rfl,rfl,rfl,rfl,rfl⟩ rfl rfl rfl rfl rfl (by kernel_rfl) Tryz.func4 (by kernel_rfl)
  (of_decide_eq_true (by kernel_rfl)) (by unfold Func.isWrapper;first | (rw[if_pos (by decide +kernel)];kernel_rfl) | (rw[if_neg (by decide +kernel)];exact⟨rfl,rfl⟩))
  (fun os started H en _ F=>liftedVal os started H en F)
#print axioms endsValid_proved
end Go.Proofs.YtbbnfbnicacdoaaGreat
end
