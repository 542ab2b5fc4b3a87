/- What the claim wants of the machine, the contracts and the law, laid together. -/
import Derived.Test.YtbbnfbnicacdoaaGreatVi
set_option linter.unusedVariables false
set_option linter.unusedSimpArgs false
section
namespace Go.Proofs.YtbbnfbnicacdoaaGreat
open Go Go.Ab
open Go.Proofs.Tryz renaming prog→Pg
set_option maxRecDepth 20000
set_option maxHeartbeats 16000000
theorem walk_at{α:Type}{n:Nt}{o:List Orc}{L:List It}{c:Cl}{opn:Bool}{fE:Nat}{cap cap' kc ac:List AV}{encA:α→List AV}{Fin:α→Prop}(W:Wm)(O:Om)(kb ab:Nat)
  (h:SCall Pg 49 [.ptr 0 0,kCl c,.lit (.bool opn),.fn (.func fE) [] cap] (HWk n o L kc ac W O) fun r h'=>r = .tup []∧∃ a W O,WOk n o L W∧OOk n o L O∧Fin a∧h'=HWk n o L kc (encA a) W O)
  (hpa:∀ a,∀ v∈encA a,Ab.Pure v) (hpac:∀ v∈ac,Ab.Pure v)
  (hkc:∀ (σ:Nat→Nat),σ 0=0→RnL σ 5 kc kc) (hcap:∀ (σ:Nat→Nat),σ 3=kb→σ 4=ab→RnL σ 5 cap cap')
  (H:Hp) (d1:3≤kb) (d2:3≤ab) (d3:kb≠ab) (l1:kb<H.nx) (l2:ab<H.nx) (h0:lk H.boxes 0=some (askC n o L 1 2)) (hk:lk H.boxes kb=some kc) (ha:lk H.boxes ab=some ac) (h1:lk H.toks 1=some (tokW W)) (h2:lk H.toks 2=some (tokO O))
  (n0:lk H.toks 0=none) (nk:lk H.toks kb=none) (na:lk H.toks ab=none) :
  SCall Pg 49 [.ptr 0 0,kCl c,.lit (.bool opn),.fn (.func fE) [] cap'] H fun r h'=>r = .tup []∧∃ a W' O',WOk n o L W'∧OOk n o L O'∧Fin a∧h'=⟨up H.boxes ab (encA a),up (up H.toks 1 (tokW W')) 2 (tokO O'),H.nx⟩:=by
 let ρ:Nat→Nat:=fun i=>if i=3 then kb else if i=4 then ab else i
 have r0:ρ 0=0:=rfl
 have r1:ρ 1=1:=rfl
 have r2:ρ 2=2:=rfl
 have r3:ρ 3=kb:=rfl
 have r4:ρ 4=ab:=rfl
 have cases5:∀ i,i<5→i=0∨i=1∨i=2∨i=3∨i=4:=fun i hi=>by omega
 have hinj:∀ i j,i<5→j<5→ρ i=ρ j→i=j:=fun i j hi hj e=>by
  rcases cases5 i hi with rfl | rfl | rfl | rfl | rfl <;> rcases cases5 j hj with rfl | rfl | rfl | rfl | rfl <;> simp only[r0,r1,r2,r3,r4] at e <;> omega
 have rnA:∀ {σ:Nat→Nat},σ 1=1→σ 2=2→RnL σ 5 (askC n o L 1 2) (askC n o L 1 2):=fun {σ} s1 s2=>by
  have p:∀ {a},Ab.Pure a→Rn σ 5 a a:=fun h=>.pure h
  unfold askC encN
  simp only[List.cons_append,List.nil_append]
  exact .cons (p (.vec (pure_rows pure_encB _))) (.cons (p (.vec (pure_rows pure_encB _))) (.cons (p (.vec (pure_rows pure_encB _))) (.cons (p (.vec (pure_rows pure_encNr _))) (.cons (p (.vec (pure_rows pure_encSt _))) (.cons (p (.vec (pure_rows pure_encO _))) (.cons (p (.vec (pure_rows pure_encI _))) (.cons (.om (by omega) s1) (.cons (.om (by omega) s2) .nil))))))))
 have hkt:kb≠1∧kb≠2∧ab≠1∧ab≠2:=by omega
 refine SCall.sub (hs:=HWk n o L kc ac W O) ρ hinj (fun i hi=>?_) (.cons (.ptr (by show 0<5;decide) rfl) (.cons (.pure (pure_kCl c)) (.cons (.pure (.lit _)) (.cons (.fn .nil (hcap ρ r3 r4)) .nil))))
  (allc ⟨by show 0<5;decide,_,h0,rnA rfl rfl⟩ (allc ⟨by show 3<5;decide,_,hk,hkc ρ rfl⟩ (allc ⟨by show 4<5;decide,_,ha,RnL.pure hpac⟩ alln)))
  (allc ⟨by show 1<5;decide,_,h1,rfl,rfl,.pure (pure_rowsW W)⟩ (allc ⟨by show 2<5;decide,_,h2,rfl,rfl,.pure (pure_rowsO O)⟩ alln)) h ?_
 ·have hi:i<5:=hi
  rcases cases5 i hi with rfl | rfl | rfl | rfl | rfl <;> simp only[r0,r1,r2,r3,r4] <;> omega
 ·rintro r h' ⟨rfl,a,W',O',hW',hO',hF,rfl⟩ _
  have ii:∀ i,i<5→ren ρ 5 H.nx i=ρ i:=fun i h=>by simp[ren,h]
  refine⟨.tup [],⟨up H.boxes ab (encA a),up (up H.toks 1 (tokW W')) 2 (tokO O'),H.nx⟩,0,Nat.le_refl _,rfl,.pure (.tup alln),fun i cs' e=>?_,fun i k' e=>?_,rfl,a,W',O',hW',hO',hF,rfl⟩
  ·have e:lk (up H.boxes ab (encA a)) i=some cs':=e
   rw[lk_up] at e
   by_cases qa:ab=i
   ·rw[if_pos qa,ha] at e
    simp only[Option.map_some,Option.some.injEq] at e
    exact .inl ⟨4,encA a,by show 4<5;decide,qa,rfl,by rw[← e];exact RnL.pure (hpa a)⟩
   ·rw[if_neg qa] at e
    by_cases qk:kb=i
    ·subst qk
     rw[hk] at e;cases e
     exact .inl ⟨3,_,by show 3<5;decide,rfl,rfl,hkc _ (by rfl)⟩
    ·by_cases q0:0=i
     ·subst q0
      rw[h0] at e;cases e
      exact .inl ⟨0,_,by show 0<5;decide,rfl,rfl,rnA rfl rfl⟩
     ·refine .inr ⟨e,fun j cj ej=>?_⟩
      have ej:lk [(0,askC n o L 1 2),(3,kc),(4,ac)] j=some cj:=ej
      simp only[lk] at ej
      split at ej
      ·rename_i q;subst q;exact q0
      ·split at ej
       ·rename_i q;subst q;exact qk
       ·split at ej
        ·rename_i q;subst q;exact qa
        ·cases ej
  ·have e:lk (up (up H.toks 1 (tokW W')) 2 (tokO O')) i=some k':=e
   rw[lk_up] at e
   by_cases q2:2=i
   ·rw[if_pos q2,lk_up,if_neg (by decide),h2] at e
    simp only[Option.map_some,Option.some.injEq] at e
    exact .inl ⟨2,tokO O',by show 2<5;decide,q2,rfl,by rw[← e],by rw[← e],by rw[← e];exact .pure (pure_rowsO O')⟩
   ·rw[if_neg q2,lk_up] at e
    by_cases q1:1=i
    ·rw[if_pos q1,h1] at e
     simp only[Option.map_some,Option.some.injEq] at e
     exact .inl ⟨1,tokW W',by show 1<5;decide,q1,rfl,by rw[← e],by rw[← e],by rw[← e];exact .pure (pure_rowsW W')⟩
    ·rw[if_neg q1] at e
     refine .inr ⟨e,fun j hj=>?_⟩
     have hj:j<5:=hj
     rcases cases5 j hj with rfl | rfl | rfl | rfl | rfl
     ·intro q;rw[r0] at q;rw[← q,n0] at e;cases e
     ·exact q1
     ·exact q2
     ·intro q;rw[r3] at q;rw[← q,nk] at e;cases e
     ·intro q;rw[r4] at q;rw[← q,na] at e;cases e
theorem whole_spec(n:Nt)(o:List Orc)(L:List It)(w:Wf n)(okn:NtOk n)(rk:Nat→Nat)(hrk:Rk n rk)(ho:o.length≤1000000000)(hL:L.length≤25):∀ c:Cl,c.rule<n.rules.length→c.pos≤L.length→AskCall n o L 27 c (maskV (whW n o L c)):=by
 refine cl_ind rk fun c hr hp ih=>?_
 have hW:∀ s p e,Rs n o L c s p→e∈(n.states.getD s default).edges→e.op.1=2→AskCall n o L 27 ⟨e.n.toNat,e.level,p⟩ (maskV (whW n o L ⟨e.n.toNat,e.level,p⟩)):=fun s p e hs he h2=>by
  obtain⟨q1,q2,q3⟩:=cl_lt w hrk hs hr hp he h2
  exact ih _ q1 q2 q3
 have hwk:=fun W0 O0 h1 h2=>walk_spec (α:=Nat) n o L w okn ho hL c hr hp false 50 call50 [.ptr 3 0,.ptr 4 0] [.lit (.int .i64 (spN n c.rule:Int))] (fun w=>[maskV w]) (fun w x=>if x.1=spN n c.rule then w ||| 2 ^ x.2 else w) (fun _=>false)
  (fun w Pr=>w<W64∧(∀ x∈Pr,Rs n o L c x.1 x.2)∧∀ k,w.testBit k=true↔(spN n c.rule,k)∈Pr) (fun w=>w=whW n o L c) (RnL.pure (allc (.lit _) alln)) (fun a=>allc (pure_maskV _) alln)
  (fun H a x Pr hA hx b0 b3 b4 fb ft=>whole1_spec x (spN n c.rule) a 3 4 H b3 b4 hA.1 (by omega) fb ft)
  (fun a Pr x ⟨i1,i2,i3⟩ hx _=>by
   obtain⟨_,hx2,_⟩:=Rs.le w hx hr hp
   refine⟨?_,?_,fun k=>?_⟩
   ·show (if x.1=spN n c.rule then a ||| 2 ^ x.2 else a)<W64
    split
    ·exact or_lt i1 (pow_lt (by omega))
    ·exact i1
   ·intro y hy
    rcases List.mem_append.1 hy with q | q
    ·exact i2 y q
    ·simp only[List.mem_singleton] at q;subst q;exact hx
   ·simp only[List.mem_append,List.mem_singleton]
    split
    ·rename_i q
     rw[Nat.testBit_or,Bool.or_eq_true,i3 k,Nat.testBit_two_pow,decide_eq_true_eq]
     constructor
     ·rintro(h | h)
      ·exact .inl h
      ·exact .inr (by rw[← h,← q])
     ·rintro(h | h)
      ·exact .inl h
      ·exact .inr (by rw[← h])
    ·rename_i q
     rw[i3 k]
     constructor
     ·exact .inl
     ·rintro(h | h)
      ·exact h
      ·exact absurd (by rw[← h]) q)
  (fun _ _ _ _ _ q=>by cases q) (fun q=>by cases q)
  (fun a Pr ⟨i1,i2,i3⟩ hall _=>by
   refine Nat.eq_of_testBit_eq fun k=>?_
   rw[Bool.eq_iff_iff,i3 k,whW_bit]
   constructor
   ·intro h
    have:=i2 _ h
    exact⟨(Rs.le w this hr hp).2.1,this⟩
   ·intro h;exact hall _ _ h.2)
  hW (fun q=>by cases q) 0 ⟨by show 0<W64;decide,fun x hx=>(by cases hx),fun k=>by simp⟩ W0 O0 h1 h2
 intro W O hW0 hO0
 obtain⟨R,hR⟩:∃ R:AV→Hp→Prop,(fun r h'=>r=maskV (whW n o L c)∧∃ W' O',WOk n o L W'∧OOk n o L O'∧h'=hA n o L W' O')=R:=⟨_,rfl⟩
 have hRi:∀ W' O',WOk n o L W'→OOk n o L O'→R (maskV (whW n o L c)) (hA n o L W' O'):=fun W' O' q1 q2=>by rw[← hR];exact⟨rfl,W',O',q1,q2,rfl⟩
 rw[hR]
 refine SCall_introC Tryz.func27 rfl Tryz.ntmps27 (rs:=[.tmp 4]) rfl (by simp) (N:=3) rfl ?_
 have hsp:=w.stop hr
 obtain⟨sp,hsp2⟩:∃ sp,spN n c.rule=sp:=⟨_,rfl⟩
 obtain⟨r,hrr⟩:∃ r,n.rules.getD c.rule default=r:=⟨_,rfl⟩
 have hst2:r.stop=(sp:Int):=by
  rw[← hsp2];unfold spN;rw[hrr] at hsp ⊢;omega
 have hm:=mask_rows' (ev:=maskV) keyCl c W (P:=Pg) (et:=72) zr72
 have hpu:=fun W=>mput_rows (P:=Pg) (ev:=maskV) keyCl c (whW n o L c) W
 have fin:∀ (σ':St) W' O',WOk n o L W'→OOk n o L O'→lk σ'.slots 4=some (maskV (whW n o L c))→lk σ'.hp.boxes 0=some (askC n o L 1 2)→lk σ'.hp.toks 1=some (tokW W')→lk σ'.hp.toks 2=some (tokO O')→3≤σ'.hp.nx→σ'.nt=50→∃ σ'',St.cp 3 σ' σ''∧resK (resOf Pg σ'' [.tmp 4]) R σ''.hp:=fun σ' W' O' f2 f3 s4 b0 t1 t2 hnx hnt=>by
  refine⟨⟨[(4,maskV (whW n o L c))],hA n o L W' O',50⟩,cp_drop' (Nat.le_refl _) hnx hnt.symm (allc ⟨s4,.pure (pure_maskV _)⟩ alln) (allc ⟨by show 0<3;decide,b0,rn_askC n o L (show 2<3 by decide)⟩ alln) (allc ⟨by show 1<3;decide,t1,.pure (pure_rowsW W')⟩ (allc ⟨by show 2<3;decide,t2,.pure (pure_rowsO O')⟩ alln)),hRi W' O' f2 f3⟩
 simp -implicitDefEqProofs (disch:=omega) only[Wz,↓reduceIte,reduceCtorEq,Nat.reduceLT,Nat.reduceEqDiff,Nat.reduceAdd,Nat.reduceLeDiff,Nat.reducePow,Nat.reduceMul,hA,kCl,encCl]
 refine aw_quietN (n:=50) rfl (by decide) mixed ?_
 have kc':kCl c = .agg [.lit (.int .i64 (c.rule:Int)),.lit (.int .i64 c.level),.lit (.int .i64 (c.pos:Int))]:=rfl
 rw[kc'] at hm hpu
 cases hl:lookM W c with
 | some v =>
  have hv:=hW0 c v hl
  rw[hl] at hm
  simp only at hm
  subst hv
  simp -implicitDefEqProofs (disch:=omega) only[Wz,↓reduceIte,reduceCtorEq,Nat.reduceLT,Nat.reduceEqDiff,Nat.reduceAdd,Nat.reduceLeDiff,Nat.reducePow,Nat.reduceMul,askC,encN,tokW,rowsW,hm,List.append_eq,List.cons_append,List.nil_append]
  exact fin _ W O hW0 hO0 rfl rfl rfl rfl (by show 3≤4;decide) rfl
 | none =>
  rw[hl] at hm
  simp only at hm
  simp -implicitDefEqProofs (disch:=omega) only[Wz,↓reduceIte,reduceCtorEq,Nat.reduceLT,Nat.reduceEqDiff,Nat.reduceAdd,Nat.reduceLeDiff,Nat.reducePow,Nat.reduceMul,askC,encN,tokW,rowsW,hm,List.append_eq,List.cons_append,List.nil_append]
  have hsh:((L.length:Int)+1).fdiv (2 ^ min (Int.toNat 6) IntKind.i64.bits)=0:=by
   have e1:((2:Int) ^ min (Int.toNat 6) IntKind.i64.bits)=64:=by decide
   rw[e1,Int.fdiv_eq_ediv_of_nonneg _ (by decide)]
   exact Int.ediv_eq_zero_of_lt (by omega) (by omega)
  have hw1:IntKind.i64.wrap ((0:Int)+1)=1:=by decide
  have hif:(0≤(1:Int)∧(1:Int)≤1∧(1:Int)≤9223372036854775807∧((8:Nat):Int) * 1≤281474976710656)=True:=by simp
  have hrep:List.replicate (Int.toNat 1) [AV.lit (.int .u64 0)]=[encW 0]:=rfl
  have hrr2:=hrr
  simp -implicitDefEqProofs (disch:=omega) only[Wz,↓reduceIte,reduceCtorEq,Nat.reduceLT,Nat.reduceEqDiff,Nat.reduceAdd,Nat.reduceLeDiff,Nat.reducePow,Nat.reduceMul,hsh,hw1,hif,hrep,if_true]
  refine aw_let (n:=50) (σ':=⟨[(0,.ptr 0 0),(3,.ptr 3 0),(7,.ptr 5 0),(8,.ptr 6 0)],⟨[(0,askC n o L 1 2),(3,encCl c),(5,[.own 4 1]),(6,[.lit (.int .i64 (sp:Int))])],[(1,tokW W),(2,tokO O),(4,⟨[encW 0],0,1⟩)],7⟩,50⟩) 7 10 11 8 3 rfl rfl rfl rfl rfl (by decide) (by decide) mixed ?_ ?_
  ·simp -implicitDefEqProofs (disch:=omega) only[Wz,↓reduceIte,reduceCtorEq,Nat.reduceLT,Nat.reduceEqDiff,Nat.reduceAdd,Nat.reduceLeDiff,Nat.reducePow,Nat.reduceMul,lop,encNr,hrr,hst2]
   refine⟨rfl,St.wk.cp (wk_lk (allc rfl (allc rfl (allc rfl (allc rfl alln)))) (fun _ _ e=>e) (fun _ _ e=>e) rfl rfl)⟩
  simp -implicitDefEqProofs (disch:=omega) only[Wz,↓reduceIte,reduceCtorEq,Nat.reduceLT,Nat.reduceEqDiff,Nat.reduceAdd,Nat.reduceLeDiff,Nat.reducePow,Nat.reduceMul,encCl]
  refine CallK.freezeC (t:=4) (k:=⟨[encW 0],0,1⟩) rfl ⟨[(0,askC n o L 1 2),(3,encCl c),(5,[maskV 0]),(6,[.lit (.int .i64 (sp:Int))])],[(1,tokW W),(2,tokO O)],7⟩ rfl
   (fun g cv=>allc ⟨_,rfl,cvL_refl (.refl g) _⟩ (allc ⟨_,rfl,cvL_refl (.refl g) _⟩ (allc ⟨_,rfl,cvL_cons cv cvL_nil⟩ (allc ⟨_,rfl,cvL_refl (.refl g) _⟩ alln)))) (fun g=>allc ⟨_,rfl,TkCv.refl g _⟩ (allc ⟨_,rfl,TkCv.refl g _⟩ alln)) ?_
  have hat:=walk_at W O 6 5 (cap':=[.ptr 6 0,.ptr 5 0]) (hwk W O hW0 hO0) (fun a=>allc (pure_maskV _) alln) (allc (pure_maskV _) alln) (fun σ _=>RnL.pure (allc (.lit _) alln)) (fun σ h3 h4=>.cons (.ptr (by decide) h3) (.cons (.ptr (by decide) h4) .nil))
   ⟨[(0,askC n o L 1 2),(3,encCl c),(5,[maskV 0]),(6,[.lit (.int .i64 (sp:Int))])],[(1,tokW W),(2,tokO O)],7⟩ (by decide) (by decide) (by decide) (by show 6<7;decide) (by show 5<7;decide) rfl (by rw[hsp2];rfl) rfl rfl rfl rfl rfl rfl
  rw[kc'] at hat
  refine CallK_of call49 hat ?_
  rintro r0 h' ⟨rfl,a,W',O',hW',hO',rfl,rfl⟩
  simp -implicitDefEqProofs (disch:=omega) only[Wz,↓reduceIte,reduceCtorEq,Nat.reduceLT,Nat.reduceEqDiff,Nat.reduceAdd,Nat.reduceLeDiff,Nat.reducePow,Nat.reduceMul,encCl]
  refine aw_drawQ (n:=50) 6 (.alt 6 .leaf .nil) rfl (by decide) (by decide) mixed (by kernel_rfl) (by decide) ?_
  have hpu':=hpu W'
  simp -implicitDefEqProofs (disch:=omega) only[Wz,↓reduceIte,reduceCtorEq,Nat.reduceLT,Nat.reduceEqDiff,Nat.reduceAdd,Nat.reduceLeDiff,Nat.reducePow,Nat.reduceMul,encCl,askC,encN,List.append_eq,List.cons_append,List.nil_append,tokW,rowsW,hpu']
  exact fin _ (putM W' c (whW n o L c)) O' (hW'.put c) hO' rfl rfl rfl rfl (by show 3≤7;decide) rfl
theorem SCall_shut{n:Nt}{o:List Orc}{L:List It}{f:Nat}{args:List AV}{W:Wm}{O:Om}{v:AV}(hv:Ab.Pure v)(ha:∀ {σ:Nat→Nat},(∀ i,i<3→σ i=i)→RnL σ 3 args args)
  (h:SCall Pg f args (hA n o L W O) fun r h'=>r=v∧∃ W' O',WOk n o L W'∧OOk n o L O'∧lk h'.boxes 0=some (askC n o L 1 2)∧lk h'.toks 1=some (tokW W')∧lk h'.toks 2=some (tokO O')) :
  SCall Pg f args (hA n o L W O) fun r h'=>r=v∧∃ W' O',WOk n o L W'∧OOk n o L O'∧h'=hA n o L W' O':=by
 have ii:∀ i,i<3→ren id 3 3 i=i:=fun i h=>by simp[ren,h]
 have rnA:∀ {σ:Nat→Nat},(∀ i,i<3→σ i=i)→RnL σ 3 (askC n o L 1 2) (askC n o L 1 2):=fun {σ} s=>by
  have p:∀ {a},Ab.Pure a→Rn σ 3 a a:=fun h=>.pure h
  unfold askC encN
  simp only[List.cons_append,List.nil_append]
  exact .cons (p (.vec (pure_rows pure_encB _))) (.cons (p (.vec (pure_rows pure_encB _))) (.cons (p (.vec (pure_rows pure_encB _))) (.cons (p (.vec (pure_rows pure_encNr _))) (.cons (p (.vec (pure_rows pure_encSt _))) (.cons (p (.vec (pure_rows pure_encO _))) (.cons (p (.vec (pure_rows pure_encI _))) (.cons (.om (by omega) (s 1 (by omega))) (.cons (.om (by omega) (s 2 (by omega))) .nil))))))))
 refine SCall.sub (hs:=hA n o L W O) id (fun i j _ _ q=>q) (fun i hi=>hi) (ha fun i _=>rfl) (allc ⟨by show 0<3;decide,_,rfl,rnA fun i _=>rfl⟩ alln) (allc ⟨by show 1<3;decide,_,rfl,rfl,rfl,.pure (pure_rowsW W)⟩ (allc ⟨by show 2<3;decide,_,rfl,rfl,rfl,.pure (pure_rowsO O)⟩ alln)) h ?_
 rintro r h' ⟨rfl,W',O',hW',hO',b0,t1,t2⟩ hn
 refine⟨r,hA n o L W' O',0,hn,rfl,.pure hv,fun i cs' e=>?_,fun i k' e=>?_,rfl,W',O',hW',hO',rfl⟩
 ·have e:lk [(0,askC n o L 1 2)] i=some cs':=e
  simp only[lk] at e
  split at e
  ·rename_i q;subst q;cases e
   exact .inl ⟨0,_,by show 0<3;decide,rfl,b0,rnA ii⟩
  ·cases e
 ·have e:lk [(1,tokW W'),(2,tokO O')] i=some k':=e
  simp only[lk] at e
  split at e
  ·rename_i q;subst q;cases e
   exact .inl ⟨1,_,by show 1<3;decide,rfl,t1,rfl,rfl,.pure (pure_rowsW W')⟩
  ·split at e
   ·rename_i q;subst q;cases e
    exact .inl ⟨2,_,by show 2<3;decide,rfl,t2,rfl,rfl,.pure (pure_rowsO O')⟩
   ·cases e
theorem open_spec(n:Nt)(o:List Orc)(L:List It)(w:Wf n)(okn:NtOk n)(rk:Nat→Nat)(hrk:Rk n rk)(ho:o.length≤1000000000)(hL:L.length≤25):∀ c:Cl,c.rule<n.rules.length→c.pos≤L.length→AskCall n o L 57 c (.lit (.bool (opB n o L c))):=by
 refine cl_ind rk fun c hr hp ih=>?_
 have hW:∀ s p e,Rs n o L c s p→e∈(n.states.getD s default).edges→e.op.1=2→AskCall n o L 27 ⟨e.n.toNat,e.level,p⟩ (maskV (whW n o L ⟨e.n.toNat,e.level,p⟩)):=fun s p e hs he h2=>by
  obtain⟨q1,q2,q3⟩:=cl_lt w hrk hs hr hp he h2
  exact whole_spec n o L w okn rk hrk ho hL _ q1 q2
 have hO:∀ s p e,Rs n o L c s p→e∈(n.states.getD s default).edges→e.op.1=2→AskCall n o L 57 ⟨e.n.toNat,e.level,p⟩ (.lit (.bool (opB n o L ⟨e.n.toNat,e.level,p⟩))):=fun s p e hs he h2=>by
  obtain⟨q1,q2,q3⟩:=cl_lt w hrk hs hr hp he h2
  exact ih _ q1 q2 q3
 have hwk:=fun W0 O0 h1 h2=>walk_spec (α:=Bool) n o L w okn ho hL c hr hp true 77 call77 [.ptr 4 0,.ptr 3 0] [.ptr 0 0] (fun y=>[.lit (.bool y)]) (fun y x=>y || decide (x.2=L.length)) (fun y=>y)
  (fun y Pr=>y=false∧(∀ x∈Pr,Rs n o L c x.1 x.2)∧∀ x∈Pr,x.2≠L.length) (fun y=>y=opB n o L c) (.cons (.ptr (by decide) rfl) .nil) (fun a=>allc (.lit _) alln)
  (fun H a x Pr hA hx b0 b3 b4 fb ft=>open1_spec n o L 1 2 0 x a 3 4 H (by omega) b0 b3 b4 fb)
  (fun a Pr x ⟨i1,i2,i3⟩ hx q=>by
   refine⟨q,fun y hy=>?_,fun y hy=>?_⟩
   ·rcases List.mem_append.1 hy with q | q
    ·exact i2 y q
    ·simp only[List.mem_singleton] at q;subst q;exact hx
   ·rcases List.mem_append.1 hy with h | h
    ·exact i3 y h
    ·simp only[List.mem_singleton] at h;subst h
     intro h2
     simp[h2] at q)
  (fun a Pr x ⟨i1,i2,i3⟩ hx q=>by
   simp only[i1,Bool.false_or,decide_eq_true_eq] at q ⊢
   have:opB n o L c=true:=opB_true.2 (.here (s:=x.1) (by rw[← q];exact hx))
   rw[this];simp[q])
  (fun _ a Pr s p e ⟨i1,i2,i3⟩ hs he h2 hop=>by
   have:opB n o L c=true:=opB_true.2 (.call hs he h2 hop)
   rw[this];simp)
  (fun a Pr ⟨i1,i2,i3⟩ hall hno=>by
   rw[i1]
   cases q:opB n o L c with
   | false=>rfl
   | true =>
    exfalso
    cases opB_true.1 q with
    | here h=>exact i3 _ (hall _ _ h) rfl
    | call h1 h2 h3 h4=>exact hno rfl _ _ _ h1 h2 h3 h4)
  hW (fun _=>hO) false ⟨rfl,fun x hx=>(by cases hx),fun x hx=>(by cases hx)⟩ W0 O0 h1 h2
 intro W O hW0 hO0
 refine SCall_shut (.lit _) (fun {σ} s=>.cons (.ptr (by decide) (s 0 (by decide))) (.cons (.pure (pure_kCl c)) .nil)) ?_
 obtain⟨R,hR⟩:∃ R:AV→Hp→Prop,(fun r h'=>r = .lit (.bool (opB n o L c))∧∃ W' O',WOk n o L W'∧OOk n o L O'∧lk h'.boxes 0=some (askC n o L 1 2)∧lk h'.toks 1=some (tokW W')∧lk h'.toks 2=some (tokO O'))=R:=⟨_,rfl⟩
 have hRi:∀ W' O' (h':Hp),WOk n o L W'→OOk n o L O'→lk h'.boxes 0=some (askC n o L 1 2)→lk h'.toks 1=some (tokW W')→lk h'.toks 2=some (tokO O')→R (.lit (.bool (opB n o L c))) h':=fun W' O' h' q1 q2 q3 q4 q5=>by rw[← hR];exact⟨rfl,W',O',q1,q2,q3,q4,q5⟩
 rw[hR]
 refine SCall_introW Tryz.func57 rfl Tryz.ntmps57 (rs:=[.cell 4 4]) rfl (by simp) ?_
 have hm:=mask_rows' (ev:=fun b:Bool=>AV.lit (.bool b)) keyCl c O (P:=Pg) (et:=4) zr4
 have hpu:=fun O=>mput_rows (P:=Pg) (ev:=fun b:Bool=>AV.lit (.bool b)) keyCl c (opB n o L c) O
 have kc':kCl c = .agg [.lit (.int .i64 (c.rule:Int)),.lit (.int .i64 c.level),.lit (.int .i64 (c.pos:Int))]:=rfl
 rw[kc'] at hm hpu
 simp -implicitDefEqProofs (disch:=omega) only[Wz,seval,hA,kCl,encCl]
 refine aw_quietN (n:=29) rfl (by decide) mixed ?_
 cases hl:lookM O c with
 | some v =>
  have hv:=hO0 c v hl
  rw[hl] at hm
  simp only at hm
  subst hv
  simp -implicitDefEqProofs (disch:=omega) only[Wz,seval,askC,encN,tokO,rowsO,hm,List.append_eq,List.cons_append,List.nil_append]
  exact⟨_,St.wk.refl _,hRi W O _ hW0 hO0 rfl rfl rfl⟩
 | none =>
  rw[hl] at hm
  simp only at hm
  simp -implicitDefEqProofs (disch:=omega) only[Wz,seval,askC,encN,tokO,rowsO,hm,List.append_eq,List.cons_append,List.nil_append]
  have hat:=walk_at W O 3 5 (cap':=[.ptr 5 0,.ptr 3 0]) (hwk W O hW0 hO0) (fun a=>allc (.lit _) alln) (allc (.lit _) alln) (fun σ h0=>.cons (.ptr (by decide) h0) .nil) (fun σ h3 h4=>.cons (.ptr (by decide) h4) (.cons (.ptr (by decide) h3) .nil))
   ⟨[(0,askC n o L 1 2),(3,[.ptr 0 0]),(4,encCl c),(5,[.lit (.bool false)])],[(1,tokW W),(2,tokO O)],6⟩ (by decide) (by decide) (by decide) (by show 3<6;decide) (by show 5<6;decide) rfl rfl rfl rfl rfl rfl rfl rfl
  rw[kc'] at hat
  refine CallK_of call49 hat ?_
  rintro r0 h' ⟨rfl,a,W',O',hW',hO',rfl,rfl⟩
  simp -implicitDefEqProofs (disch:=omega) only[Wz,seval,encCl]
  refine aw_drawQ (n:=29) 6 (.alt 6 .leaf .nil) rfl (by decide) (by decide) mixed (by kernel_rfl) (by decide) ?_
  have hpu':=hpu O'
  simp -implicitDefEqProofs (disch:=omega) only[Wz,seval,encCl,askC,encN,List.append_eq,List.cons_append,List.nil_append,tokO,rowsO,hpu']
  exact⟨_,St.wk.refl _,hRi W' (putM O' c (opB n o L c)) _ hW' (hO'.put c) rfl rfl rfl⟩
def askX (n:Nt)(o:List Orc)(x y z:AV):List AV:=encN n++[.vec (o.map encO) false,x,y,z]
def asksV(n:Nt)(rule:Int)(k:Nat):Int :=
 if rule<0 then 2 else if (n.rules.length:Int)≤rule then 2 else if (n.rules.getD rule.toNat default).lexer then 2 else if 601<k then 3 else 0
theorem asks_spec(n:Nt)(o:List Orc)(x y z:AV)(rule:Int)(k:Nat)(H:Hp)(ai:Nat)(hn:n.rules.length≤1000000000)(h:lk H.boxes ai=some (askX n o x y z)) :
  SCall Pg 24 [.ptr ai 0,.lit (.int .i64 rule),.lit (.int .i64 (k:Int))] H fun r h'=>r = .lit (.int .i64 (asksV n rule k))∧h'=H:=by
 obtain⟨v,hv⟩:∃ v,asksV n rule k=v:=⟨_,rfl⟩
 rw[hv]
 refine SCall_introW Tryz.func24 rfl Tryz.ntmps24 (rs:=[.tmp 6]) rfl (by simp) ?_
 unfold asksV at hv
 unfold askX encN at h
 simp only[List.cons_append,List.nil_append] at h
 have fin:∀ (σ':St),σ'.hp=H→σ'.nt=37→lk σ'.slots 6=some (.lit (.int .i64 v))→∃ σ'',St.wk σ' σ''∧resK (resOf Pg σ'' [.tmp 6]) (fun r h'=>r = .lit (.int .i64 v)∧h'=H) σ''.hp:=fun σ' e1 e2 e3 =>
  ⟨⟨[(6,.lit (.int .i64 v))],H,37⟩,wk_lk (allc e3 alln) (fun i c e=>by rw[e1];exact e) (fun i c e=>by rw[e1];exact e) (by rw[e1]) (by rw[e2]),(show _∧_ from ⟨rfl,rfl⟩)⟩
 by_cases h1:rule<0
 ·rw[if_pos h1] at hv
  subst hv
  simp -implicitDefEqProofs (disch:=omega) only[Wz,seval,h]
  exact fin _ rfl rfl rfl
 ·rw[if_neg h1] at hv
  by_cases h2:(n.rules.length:Int)≤rule
  ·rw[if_pos h2] at hv
   subst hv
   simp -implicitDefEqProofs (disch:=omega) only[Wz,seval,h]
   exact fin _ rfl rfl rfl
  ·rw[if_neg h2] at hv
   obtain⟨rn,rfl⟩:∃ rn:Nat,rule=(rn:Int):=⟨rule.toNat,by omega⟩
   obtain⟨r,hr⟩:∃ r,n.rules.getD rn default=r:=⟨_,rfl⟩
   simp only[Int.toNat_natCast,hr] at hv
   obtain⟨lx,hlx⟩:∃ lx,r.lexer=lx:=⟨_,rfl⟩
   rw[hlx] at hv
   cases lx with
   | true =>
    simp only[if_true] at hv
    subst hv
    simp -implicitDefEqProofs (disch:=omega) only[Wz,seval,h,encNr,hr,hlx]
    exact fin _ rfl rfl rfl
   | false =>
    simp only[Bool.false_eq_true,if_false] at hv
    by_cases h3:601<k
    ·rw[if_pos h3] at hv
     subst hv
     simp -implicitDefEqProofs (disch:=omega) only[Wz,seval,h,encNr,hr,hlx]
     exact fin _ rfl rfl rfl
    ·rw[if_neg h3] at hv
     subst hv
     simp -implicitDefEqProofs (disch:=omega) only[Wz,seval,h,encNr,hr,hlx]
     exact fin _ rfl rfl rfl
theorem le0_spec(i:It):KCall Pg 56 [.agg (encI i)] (.lit (.bool (decide (i.type≤0)))):=by
 refine KCall_of (SCall_intro Tryz.func56 rfl Tryz.ntmps56 (rs:=[.tmp 2]) rfl (by simp) ?_)
 by_cases h:i.type≤0
 ·rw[decide_eq_true h]
  simp -implicitDefEqProofs (disch:=omega) only[Wz,seval,encI]
  exact kexpo (.lit _)
 ·rw[decide_eq_false h]
  simp -implicitDefEqProofs (disch:=omega) only[Wz,seval,encI]
  exact kexpo (.lit _)
def anyLe0(L:List It):Bool:=L.any fun i=>decide (i.type≤0)
theorem gpI(i:It):GP (.agg (encI i)):=.of_pure (.agg (pure_encI i))
def idxLe0:List It→Nat→Int
 | [],_ => -1
 | i :: l,k=>if i.type≤0 then (k:Int) else idxLe0 l (k+1)
theorem idxLe0_any:∀ (l:List It) (k:Nat),(decide (0≤idxLe0 l k))=anyLe0 l
 | [],k=>rfl
 | i :: l,k=>by
  unfold idxLe0 anyLe0
  rw[List.any_cons]
  by_cases h:i.type≤0
  ·rw[if_pos h,decide_eq_true h,Bool.true_or];exact decide_eq_true (by omega)
  ·rw[if_neg h,decide_eq_false h,Bool.false_or];exact idxLe0_any l (k+1)
theorem drop_getD{T:Type}[Inhabited T]{l:List T}{k:Nat}(h:k<l.length):l.drop k=l.getD k default :: l.drop (k+1):=by
 rw[List.drop_eq_getElem_cons h,List.getD_eq_getElem?_getD,List.getElem?_eq_getElem h];rfl
theorem indexLe0(L:List It)(f:Bool)(h:L.length≤1000000000):KCall Pg 76 [.vec (L.map encI) f,.fn (.func 56) [] []] (.lit (.int .i64 (idxLe0 L 0))):=by
 obtain⟨v,hv⟩:∃ v,idxLe0 L 0=v:=⟨_,rfl⟩
 rw[hv]
 refine KCall_of (SCall_introK Tryz.func76 rfl Tryz.ntmps76 (rs:=[.tmp 4]) rfl (by simp) ?_)
 refine aw_of ?_
 simp -implicitDefEqProofs (disch:=omega) only[Wz,seval]
 refine aw_measA (fun k:Nat=>⟨[(8,.lit (.int .i64 (k:Int))),(7,.lit (.int .i64 (L.length:Int))),(0,.vec (L.map encI) f),(1,.fn (.func 56) [] [])],⟨[],[],0⟩,19⟩) (fun k=>k≤L.length∧idxLe0 (L.drop k) k=v) (fun k=>L.length - k) 0 (wk_lk (by simp[lk]) (fun _ _ q=>q) (fun _ _ q=>q) rfl rfl) ⟨Nat.zero_le _,by rw[List.drop_zero];exact hv⟩ ?_
 rintro k ⟨hk,hkv⟩
 refine aw_of ?_
 rcases Nat.lt_or_ge k L.length with hl | hg
 ·obtain⟨x,hx⟩:∃ x,L.getD k default=x:=⟨_,rfl⟩
  rw[drop_getD hl,hx] at hkv
  unfold idxLe0 at hkv
  have hs:=le0_spec x
  simp -implicitDefEqProofs (disch:=omega) only[Wz,seval,hx]
  refine CallK_k call56 hs (allc (gpI x) alln) (.lit _) ?_
  by_cases ht:x.type≤0
  ·rw[if_pos ht] at hkv
   rw[decide_eq_true ht]
   simp -implicitDefEqProofs (disch:=omega) only[Wz,seval]
   rw[hkv]
   exact kexpo (.lit _)
  ·rw[if_neg ht] at hkv
   rw[decide_eq_false ht]
   simp -implicitDefEqProofs (disch:=omega) only[Wz,seval]
   exact⟨k+1,⟨hl,hkv⟩,by omega,wk_lk (by simp[lk]) (fun _ _ q=>q) (fun _ _ q=>q) rfl rfl⟩
 ·have hk2:k=L.length:=by omega
  subst hk2
  rw[List.drop_length] at hkv
  have hkv:(-1:Int)=v:=hkv
  simp -implicitDefEqProofs (disch:=omega) only[Wz,seval]
  rw[hkv]
  exact kexpo (.lit _)
theorem containsLe0(L:List It)(f:Bool)(h:L.length≤1000000000):KCall Pg 55 [.vec (L.map encI) f,.fn (.func 56) [] []] (.lit (.bool (anyLe0 L))):=by
 refine KCall_of (SCall_introK Tryz.func55 rfl Tryz.ntmps55 (rs:=[.tmp 4]) rfl (by simp) ?_)
 rw[← idxLe0_any L 0]
 refine aw_of ?_
 simp -implicitDefEqProofs (disch:=omega) only[Wz,seval]
 refine CallK_k call76 (indexLe0 L f h) (allc (.of_pure (.vec (pure_rows pure_encI _))) (allc (.of_pure (.fn alln alln)) alln)) (.lit _) ?_
 simp -implicitDefEqProofs (disch:=omega) only[Wz,seval]
 exact kexpo (.lit _)
theorem up_up{α:Type}:∀ (l:List (Nat × α)) (i:Nat) (v w:α),up (up l i v) i w=up l i w
 | [],_,_,_=>rfl
 | p :: l,i,v,w=>by
  obtain⟨j,x⟩:=p
  by_cases h:j=i
  ·simp[up,h]
  ·simp[up,h,up_up l i v w]
theorem use_spec(n:Nt)(o:List Orc)(x y z:AV)(L:List It)(H:Hp)(ai:Nat)(h:lk H.boxes ai=some (askX n o x y z))(hf:∀ i,H.nx≤i→lk H.boxes i=none)(hft:∀ i,H.nx≤i→lk H.toks i=none) :
  SCall Pg 25 [.ptr ai 0,.vec (L.map encI) false] H fun r h'=>r = .tup []∧h'=⟨up H.boxes ai (askC n o L H.nx (H.nx+1)),H.toks++[(H.nx,tokW []),(H.nx+1,tokO [])],H.nx+2⟩:=by
 refine SCall_introW Tryz.func25 rfl Tryz.ntmps25 (rs:=[]) rfl (by simp) ?_
 obtain⟨R,hR⟩:∃ R:AV→Hp→Prop,(fun r h'=>r=AV.tup []∧h'=(⟨up H.boxes ai (askC n o L H.nx (H.nx+1)),H.toks++[(H.nx,tokW []),(H.nx+1,tokO [])],H.nx+2⟩:Hp))=R:=⟨_,rfl⟩
 rw[hR]
 have h':=h
 unfold askX encN at h'
 simp only[List.cons_append,List.nil_append] at h'
 have hu:∀ v,lk (up H.boxes ai v) ai=some v:=fun v=>by rw[lk_up,if_pos rfl,h];rfl
 have huu:∀ v w,up (up H.boxes ai v) ai w=up H.boxes ai w:=fun v w=>up_up _ _ _ _
 simp -implicitDefEqProofs (disch:=omega) only[Wz,seval,h',hu,huu]
 refine⟨⟨[],⟨up H.boxes ai (askC n o L H.nx (H.nx+1)),H.toks++[(H.nx,tokW []),(H.nx+1,tokO [])],H.nx+2⟩,16⟩,wk_lk alln (fun _ _ q=>q) (fun i k q=>?_) rfl rfl,by rw[← hR];exact⟨rfl,rfl⟩⟩
 rw[List.append_assoc];exact q
theorem up_same{α:Type}:∀ {l:List (Nat × α)} {i:Nat} {c:α},lk l i=some c→up l i c=l
 | [],_,_,h=>rfl
 | p :: l,i,c,h=>by
  obtain⟨j,x⟩:=p
  simp only[lk] at h
  split at h
  ·rename_i q;cases h;simp[up,q]
  ·rename_i q;simp only[up,if_neg q,up_same h]
theorem encI_len(L:List It):∀ x∈L.map encI,x.length=5:=fun x hx=>by obtain⟨b,_,rfl⟩:=List.mem_map.1 hx;rfl
theorem sliceIt(L:List It){k:Nat}(hk:k≤L.length):sliceV 5 (L.map encI) false none (some (k:Int)) none=some (.vec ((L.take k).map encI) false):=by
 unfold sliceV
 simp only[Option.getD_none,Option.getD_some]
 rw[if_pos ⟨by decide,by omega,by simp;omega,Int.le_refl _,fun q=>(by cases q),encI_len L⟩]
 have e:((L.map encI).drop (0:Int).toNat).take ((k:Int).toNat - (0:Int).toNat)=(L.take k).map encI:=by
  simp[List.map_take]
 rw[e]
 rfl
structure AtA (n:Nt) (o:List Orc) (H:Hp) (ai:Nat) (x y z:AV):Prop where
 bx:lk H.boxes ai=some (askX n o x y z)
 fb:∀ i,H.nx≤i→lk H.boxes i=none
 ft:∀ i,H.nx≤i→lk H.toks i=none
 nt:lk H.toks ai=none
theorem AtA.lt{n:Nt}{o:List Orc}{H:Hp}{ai:Nat}{x y z:AV}(h:AtA n o H ai x y z):ai<H.nx:=by
 rcases Nat.lt_or_ge ai H.nx with q | q
 ·exact q
 ·have:=h.fb ai q;rw[h.bx] at this;cases this
structure NetOk (n:Nt) (o:List Orc):Prop where
 w:Wf n
 ok:NtOk n
 rk:∃ rk,Rk n rk
 ho:o.length≤1000000000
noncomputable def viaV(n:Nt)(o:List Orc)(rule:Nat)(L:List It):Bool :=
 if 0<L.length then
  if anyLe0 (L.take (L.length - 1)) then false
  else if (L.getD (L.length - 1) default).type=0 then (whW n o L ⟨rule,0,0⟩).testBit (L.length - 1) else opB n o L ⟨rule,0,0⟩
 else opB n o L ⟨rule,0,0⟩
def LeftA(n:Nt)(o:List Orc)(H:Hp)(ai:Nat)(h':Hp):Prop:=∃ x y z m,H.nx≤m∧h'=⟨up H.boxes ai (askX n o x y z),H.toks,m⟩
theorem viable_spec(n:Nt)(o:List Orc)(N:NetOk n o)(rule:Nat)(hr:rule<n.rules.length)(L:List It)(hL:L.length≤25)(H:Hp)(ai:Nat)(x y z:AV)(hA:AtA n o H ai x y z) :
  SCall Pg 32 [.ptr ai 0,.lit (.int .i64 (rule:Int)),.vec (L.map encI) false] H fun r h'=>r = .lit (.bool (viaV n o rule L))∧LeftA n o H ai h':=by
 obtain⟨rk,hrk⟩:=N.rk
 obtain⟨v,hv⟩:∃ v,viaV n o rule L=v:=⟨_,rfl⟩
 have hlt:=hA.lt
 obtain⟨R,hR⟩:∃ R:AV→Hp→Prop,(fun r h'=>r=AV.lit (.bool v)∧LeftA n o H ai h')=R:=⟨_,rfl⟩
 have hRi:∀ x y z m,H.nx≤m→R (.lit (.bool v)) ⟨up H.boxes ai (askX n o x y z),H.toks,m⟩:=fun x y z m h=>by rw[← hR];exact⟨rfl,x,y,z,m,h,rfl⟩
 rw[hv,hR]
 refine SCall_introW Tryz.func32 rfl Tryz.ntmps32 (rs:=[.tmp 6]) rfl (by simp) ?_
 have fin0:∀ (σ':St),σ'.hp=H→σ'.nt=44→lk σ'.slots 6=some (.lit (.bool v))→∃ σ'',St.wk σ' σ''∧resK (resOf Pg σ'' [.tmp 6]) R σ''.hp:=fun σ' e1 e2 e3 =>
  ⟨⟨[(6,.lit (.bool v))],H,44⟩,wk_lk (allc e3 alln) (fun i c e=>by rw[e1];exact e) (fun i c e=>by rw[e1];exact e) (by rw[e1]) (by rw[e2]),by
   have:=hRi x y z H.nx (Nat.le_refl _)
   rw[up_same hA.bx] at this
   exact this⟩
 unfold viaV at hv
 have huse:=use_spec n o x y z L H ai hA.bx hA.fb hA.ft
 obtain⟨H2,hH2⟩:∃ H2:Hp,(⟨up H.boxes ai (askC n o L H.nx (H.nx+1)),H.toks++[(H.nx,tokW []),(H.nx+1,tokO [])],H.nx+2⟩:Hp)=H2:=⟨_,rfl⟩
 rw[hH2] at huse
 have b0:lk H2.boxes ai=some (askC n o L H.nx (H.nx+1)):=by rw[← hH2];show lk (up _ _ _) ai=_;rw[lk_up,if_pos rfl,hA.bx];rfl
 have t1:lk H2.toks H.nx=some (tokW []):=by rw[← hH2];show lk (_++_) _=_;rw[lk_app,hA.ft _ (Nat.le_refl _)];simp[lk]
 have t2:lk H2.toks (H.nx+1)=some (tokO []):=by rw[← hH2];show lk (_++_) _=_;rw[lk_app,hA.ft _ (by omega)];simp[lk]
 have t0:lk H2.toks ai=none:=by rw[← hH2];show lk (_++_) _=_;rw[lk_app,hA.nt];simp only[lk];rw[if_neg (by omega),if_neg (by omega)];rfl
 have n2:H2.nx=H.nx+2:=by rw[← hH2]
 have bb:H2.boxes=up H.boxes ai (askC n o L H.nx (H.nx+1)):=by rw[← hH2]
 have tt:∀ i k,lk H.toks i=some k→lk H2.toks i=some k:=fun i k e=>by rw[← hH2];show lk (_++_) _=_;rw[lk_app,e];rfl
 have fin:∀ (sl:List (Nat × AV)) W' O',lk sl 6=some (.lit (.bool v))→∃ σ'',St.wk ⟨sl,⟨H2.boxes,up (up H2.toks H.nx (tokW W')) (H.nx+1) (tokO O'),H2.nx⟩,44⟩ σ''∧resK (resOf Pg σ'' [.tmp 6]) R σ''.hp:=fun sl W' O' e3 =>
  ⟨⟨[(6,.lit (.bool v))],⟨up H.boxes ai (askC n o L H.nx (H.nx+1)),H.toks,H.nx+2⟩,44⟩,wk_lk (allc e3 alln) (fun i c e=>by rw[bb];exact e) (fun i k e=>by
   have e:lk H.toks i=some k:=e
   have h1:i≠H.nx:=fun q=>by rw[q,hA.ft _ (Nat.le_refl _)] at e;cases e
   have h2:i≠H.nx+1:=fun q=>by rw[q,hA.ft _ (by omega)] at e;cases e
   show lk (up (up H2.toks H.nx (tokW W')) (H.nx+1) (tokO O')) i=some k
   rw[lk_up,if_neg (Ne.symm h2),lk_up,if_neg (Ne.symm h1)];exact tt i k e) n2.symm rfl,hRi _ _ _ _ (by omega)⟩
 clear hH2
 have kc':kCl ⟨rule,0,0⟩ = .agg [.lit (.int .i64 (rule:Int)),.lit (.int .i64 0),.lit (.int .i64 0)]:=rfl
 have hwa:=ask_at (whole_spec n o L N.w N.ok rk hrk N.ho hL ⟨rule,0,0⟩ hr (Nat.zero_le _)) (pure_maskV _) H2 ai H.nx (H.nx+1) [] [] WOk.nil OOk.nil b0 t1 t2 (by omega) (by omega) (by omega) (by omega) (by omega) (by omega) t0
 have hop:=ask_at (open_spec n o L N.w N.ok rk hrk N.ho hL ⟨rule,0,0⟩ hr (Nat.zero_le _)) (.lit _) H2 ai H.nx (H.nx+1) [] [] WOk.nil OOk.nil b0 t1 t2 (by omega) (by omega) (by omega) (by omega) (by omega) (by omega) t0
 rw[kc'] at hwa hop
 by_cases h0:0<L.length
 ·rw[if_pos h0] at hv
  have hcast:(L.length:Int) - 1=((L.length - 1:Nat):Int):=by omega
  have hsl:=sliceIt L (k:=L.length - 1) (by omega)
  have hcn:=containsLe0 (L.take (L.length - 1)) false (by simp;omega)
  simp -implicitDefEqProofs (disch:=omega) only[Wz,seval,hcast,hsl]
  refine CallK_k call55 hcn (allc (.of_pure (.vec (pure_rows pure_encI _))) (allc (.of_pure (.fn alln alln)) alln)) (.lit _) ?_
  cases hany:anyLe0 (L.take (L.length - 1)) with
  | true =>
   rw[hany] at hv
   simp only[if_true] at hv
   subst hv
   simp -implicitDefEqProofs (disch:=omega) only[Wz,seval]
   exact fin0 _ rfl rfl rfl
  | false =>
   rw[hany] at hv
   simp only[Bool.false_eq_true,if_false] at hv
   obtain⟨it,hit⟩:∃ it,L.getD (L.length - 1) default=it:=⟨_,rfl⟩
   rw[hit] at hv
   simp -implicitDefEqProofs (disch:=omega) only[Wz,seval]
   refine CallK_of call25 huse ?_
   rintro r h' ⟨rfl,rfl⟩
   by_cases h1:it.type=0
   ·rw[if_pos h1] at hv
    have h1':(it.type==0)=true:=by simpa using h1
    simp -implicitDefEqProofs (disch:=omega) only[Wz,seval,hcast,encI,hit,h1']
    refine CallK_of call27 hwa ?_
    rintro r h' ⟨rfl,W',O',hW',hO',rfl⟩
    have hg:=get_spec (whW n o L ⟨rule,0,0⟩) (L.length - 1) false (whW_lt hL) (by omega)
    simp -implicitDefEqProofs (disch:=omega) only[Wz,seval,hcast]
    refine CallK_pure call53 hg (allc (pure_maskV _) (allc (.lit _) alln)) (.lit _) ?_
    simp -implicitDefEqProofs (disch:=omega) only[Wz,seval]
    exact fin _ W' O' (by rw[← hv];rfl)
   ·rw[if_neg h1] at hv
    have h1':(it.type==0)=false:=by simpa using h1
    simp -implicitDefEqProofs (disch:=omega) only[Wz,seval,hcast,encI,hit,h1']
    refine CallK_of call57 hop ?_
    rintro r h' ⟨rfl,W',O',hW',hO',rfl⟩
    simp -implicitDefEqProofs (disch:=omega) only[Wz,seval]
    exact fin _ W' O' (by rw[← hv];rfl)
 ·rw[if_neg h0] at hv
  simp -implicitDefEqProofs (disch:=omega) only[Wz,seval]
  refine CallK_of call25 huse ?_
  rintro r h' ⟨rfl,rfl⟩
  simp -implicitDefEqProofs (disch:=omega) only[Wz,seval]
  refine CallK_of call57 hop ?_
  rintro r h' ⟨rfl,W',O',hW',hO',rfl⟩
  simp -implicitDefEqProofs (disch:=omega) only[Wz,seval]
  exact fin _ W' O' (by rw[← hv];rfl)
def once {α:Type}:List (Nat × α)→List (Nat × α)
 | []=>[]
 | p :: l=>p :: (once l).filter fun q=>decide (q.1≠p.1)
theorem lk_filter{α:Type}(i:Nat):∀ (l:List (Nat × α)) (j:Nat),lk (l.filter fun q=>decide (q.1≠i)) j=if j=i then none else lk l j
 | [],j=>by simp[lk]
 | p :: l,j=>by
  rw[List.filter_cons]
  by_cases h:p.1=i
  ·simp only[h,ne_eq,not_true_eq_false,decide_false,Bool.false_eq_true,if_false,lk_filter i l j,lk]
   by_cases q:j=i
   ·simp[q]
   ·simp[q,Ne.symm q]
  ·simp only[ne_eq,h,not_false_eq_true,decide_true,if_true,lk,lk_filter i l j]
   by_cases q:j=i
   ·subst q;simp[h]
   ·simp[q]
theorem lk_once{α:Type}:∀ (l:List (Nat × α)) (j:Nat),lk (once l) j=lk l j
 | [],j=>rfl
 | p :: l,j=>by
  simp only[once,lk,lk_filter,lk_once l j]
  by_cases h:p.1=j
  ·simp[h]
  ·simp[h,Ne.symm h]
theorem mem_once{α:Type}:∀ {l:List (Nat × α)} {p:Nat × α},p∈once l→lk l p.1=some p.2
 | [],p,h=>by cases h
 | a :: l,p,h=>by
  simp only[once,List.mem_cons,List.mem_filter,decide_eq_true_eq] at h
  rcases h with h | ⟨h,q⟩
  ·subst h;simp[lk]
  ·simp only[lk];rw[if_neg (Ne.symm q)];exact mem_once h
theorem wk_frz{σ σ':St}{t:Nat}{k:Tk}(hk:lk σ.hp.toks t=some k)(hn:σ'.hp.nx=σ.hp.nx)(ht:σ'.nt=σ.nt)
  (hs:∀ p∈σ'.slots,∃ b,lk σ.slots p.1=some b∧(b=p.2∨b = .own t k.xs.length∧p.2 = .vec k.xs false))
  (hb:∀ i c,lk σ'.hp.boxes i=some c→lk σ.hp.boxes i=some c) (htk:∀ i c,lk σ'.hp.toks i=some c→i≠t∧lk σ.hp.toks i=some c):St.wk σ σ':=by
 have h1:St.wk σ ⟨σ'.slots,⟨once σ'.hp.boxes,once σ'.hp.toks,σ'.hp.nx⟩,σ'.nt⟩:=by
  refine St.wk_freeze hk hn ht (fun g g' e c p hp=>?_) (fun g g' e c p hp=>?_) (fun g p hp=>?_)
  ·obtain⟨b,q1,q2⟩:=hs p hp
   refine⟨b,q1,?_⟩
   rcases q2 with q2 | ⟨q2,q3⟩
   ·rw[q2];exact cv_refl e _
   ·rw[q2,q3];exact c
  ·exact⟨p.2,hb _ _ (mem_once hp),cvL_refl e _⟩
  ·obtain⟨q1,q2⟩:=htk _ _ (mem_once hp)
   exact⟨p.2,by rw[lk_up,if_neg (Ne.symm q1)];exact q2,TkCv.refl g _⟩
 have h2:St.wk ⟨σ'.slots,⟨once σ'.hp.boxes,once σ'.hp.toks,σ'.hp.nx⟩,σ'.nt⟩ σ':=fun g0 h0 w0 g w a r =>
  ⟨g,r.st.less rfl (fun i c e=>by rw[lk_once];exact e) (fun i c e=>by rw[lk_once];exact e),r.slots,r.nt,r.defers⟩
 exact h1.trans h2
structure UseH (n:Nt) (o:List Orc) (L:List It) (H:Hp) (ai:Nat) (H2:Hp):Prop where
 nx:H2.nx=H.nx+2
 bb:H2.boxes=up H.boxes ai (askC n o L H.nx (H.nx+1))
 b0:lk H2.boxes ai=some (askC n o L H.nx (H.nx+1))
 t1:lk H2.toks H.nx=some (tokW [])
 t2:lk H2.toks (H.nx+1)=some (tokO [])
 t0:lk H2.toks ai=none
 tt:∀ i k W O,lk H.toks i=some k→lk (up (up H2.toks H.nx (tokW W)) (H.nx+1) (tokO O)) i=some k
theorem use_at(n:Nt)(o:List Orc)(x y z:AV)(L:List It)(H:Hp)(ai:Nat)(hA:AtA n o H ai x y z):SCall Pg 25 [.ptr ai 0,.vec (L.map encI) false] H fun r h'=>r = .tup []∧UseH n o L H ai h':=by
 refine SCall.mono (use_spec n o x y z L H ai hA.bx hA.fb hA.ft) ?_
 rintro r h' ⟨rfl,rfl⟩
 have hlt:=hA.lt
 refine⟨rfl,rfl,rfl,?_,?_,?_,?_,fun i k W O e=>?_⟩
 ·show lk (up _ _ _) ai=_;rw[lk_up,if_pos rfl,hA.bx];rfl
 ·show lk (_++_) _=_;rw[lk_app,hA.ft _ (Nat.le_refl _)];simp[lk]
 ·show lk (_++_) _=_;rw[lk_app,hA.ft _ (by omega)];simp[lk]
 ·show lk (_++_) _=_;rw[lk_app,hA.nt];simp only[lk];rw[if_neg (by omega),if_neg (by omega)];rfl
 ·have h1:i≠H.nx:=fun q=>by rw[q,hA.ft _ (Nat.le_refl _)] at e;cases e
  have h2:i≠H.nx+1:=fun q=>by rw[q,hA.ft _ (by omega)] at e;cases e
  rw[lk_up,if_neg (Ne.symm h2),lk_up,if_neg (Ne.symm h1)]
  show lk (_++_) _=_
  rw[lk_app,e];rfl
def lateV(len:Nat)(level at':Int):Bool:=decide (level<0) || decide (65<level) || decide (at'<0) || decide ((len:Int)<at')
noncomputable def endsL(n:Nt)(o:List Orc)(rule:Nat)(level:Int)(at':Nat)(L:List It):List Nat:=plcs (whW n o L ⟨rule,level,at'⟩) (L.length+1)
def endsE(n:Nt)(rule level at':Int)(len:Nat):Int:=if lateV len level at' then 2 else asksV n rule len
theorem asksV_ne1(n:Nt)(rule:Int)(k:Nat):asksV n rule k≠1:=by
 unfold asksV
 repeat' split
 all_goals decide
theorem asksV_0{n:Nt}{rule:Int}{k:Nat}(h:asksV n rule k=0):0≤rule∧rule.toNat<n.rules.length∧rule=(rule.toNat:Int)∧k≤601:=by
 unfold asksV at h
 split at h
 ·cases h
 ·split at h
  ·cases h
  ·split at h
   ·cases h
   ·split at h
    ·cases h
    ·refine⟨by omega,by omega,by omega,by omega⟩
theorem Ends_spec(n:Nt)(o:List Orc)(N:NetOk n o)(rule level at':Int)(L:List It)(hL:L.length≤25∨601<L.length)(hL2:L.length≤1000000000)(H:Hp)(ai:Nat)(x y z:AV)(hA:AtA n o H ai x y z) :
  SCall Pg 9 [.ptr ai 0,.vec (L.map encI) false,.lit (.int .i64 rule),.lit (.int .i64 level),.lit (.int .i64 at')] H fun r h' =>
   (∃ f,r = .tup [.vec ((if endsE n rule level at' L.length=0 then endsL n o rule.toNat level at'.toNat L else []).map rowI) f,.lit (.int .i64 (endsE n rule level at' L.length))])∧LeftA n o H ai h':=by
 obtain⟨rk,hrk⟩:=N.rk
 have hlt:=hA.lt
 obtain⟨e0,he0⟩:∃ e0,asksV n rule L.length=e0:=⟨_,rfl⟩
 have hne:=asksV_ne1 n rule L.length
 have hz:=fun q=>asksV_0 (n:=n) (rule:=rule) (k:=L.length) q
 obtain⟨e,he⟩:∃ e,endsE n rule level at' L.length=e:=⟨_,rfl⟩
 obtain⟨l,hl⟩:∃ l,(if endsE n rule level at' L.length=0 then endsL n o rule.toNat level at'.toNat L else [])=l:=⟨_,rfl⟩
 rw[hl,he]
 rw[he] at hl
 unfold endsE at he
 rw[he0] at hne hz he
 have hask:=asks_spec n o x y z rule L.length H ai (by have:=N.ok.rules;omega) hA.bx
 rw[he0] at hask
 obtain⟨R,hR⟩:∃ R:AV→Hp→Prop,(fun r h'=>(∃ f,r=AV.tup [.vec (l.map rowI) f,.lit (.int .i64 e)])∧LeftA n o H ai h')=R:=⟨_,rfl⟩
 have hRi:∀ f x y z m,H.nx≤m→R (.tup [.vec (l.map rowI) f,.lit (.int .i64 e)]) ⟨up H.boxes ai (askX n o x y z),H.toks,m⟩:=fun f x y z m h=>by rw[← hR];exact⟨⟨f,rfl⟩,x,y,z,m,h,rfl⟩
 rw[hR]
 refine SCall_introW Tryz.func9 rfl Tryz.ntmps9 (rs:=[.tmp 10,.tmp 11]) rfl (by simp) ?_
 have fin0:∀ (σ':St),σ'.hp=H→σ'.nt=55→e≠0→lk σ'.slots 10=some (.vec [] true)→lk σ'.slots 11=some (.lit (.int .i64 e))→∃ σ'',St.wk σ' σ''∧resK (resOf Pg σ'' [.tmp 10,.tmp 11]) R σ''.hp:=fun σ' e1 e2 e0 e3 e4 =>
  ⟨⟨[(10,.vec [] true),(11,.lit (.int .i64 e))],H,55⟩,wk_lk (allc e3 (allc e4 alln)) (fun i c e=>by rw[e1];exact e) (fun i c e=>by rw[e1];exact e) (by rw[e1]) (by rw[e2]),by
   have:=hRi true x y z H.nx (Nat.le_refl _)
   rw[up_same hA.bx,← hl,if_neg e0] at this
   exact this⟩
 have hne2:(e0==1)=false:=by simpa using hne
 cases hlv:lateV L.length level at' with
 | true =>
  rw[hlv] at he
  simp only[if_true] at he
  subst he
  unfold lateV at hlv
  simp -implicitDefEqProofs (disch:=omega) only[Wz,seval]
  refine CallK_of call24 hask ?_
  rintro r h' ⟨rfl,hh⟩
  rw[hh]
  clear hh
  by_cases c1:level<0
  ·simp -implicitDefEqProofs (disch:=omega) only[Wz,seval,hne2]
   exact fin0 _ rfl rfl (by decide) rfl rfl
  ·by_cases c2:65<level
   ·simp -implicitDefEqProofs (disch:=omega) only[Wz,seval,hne2]
    exact fin0 _ rfl rfl (by decide) rfl rfl
   ·by_cases c3:at'<0
    ·simp -implicitDefEqProofs (disch:=omega) only[Wz,seval,hne2]
     exact fin0 _ rfl rfl (by decide) rfl rfl
    ·have c4:(L.length:Int)<at':=by simpa [c1,c2,c3] using hlv
     simp -implicitDefEqProofs (disch:=omega) only[Wz,seval,hne2]
     exact fin0 _ rfl rfl (by decide) rfl rfl
 | false =>
  rw[hlv] at he
  simp only[Bool.false_eq_true,if_false] at he
  subst he
  unfold lateV at hlv
  simp only[Bool.or_eq_false_iff,decide_eq_false_iff_not] at hlv
  obtain⟨⟨⟨c1,c2⟩,c3⟩,c4⟩:=hlv
  simp -implicitDefEqProofs (disch:=omega) only[Wz,seval]
  refine CallK_of call24 hask ?_
  rintro r h' ⟨rfl,hh⟩
  rw[hh]
  clear hh
  by_cases h0:e0=0
  ·obtain⟨z1,z2,z3,z4⟩:=hz h0
   rw[if_pos h0] at hl
   subst h0
   simp -implicitDefEqProofs (disch:=omega) only[Wz,seval,hne2]
   obtain⟨rn,hrn⟩:∃ rn,rule.toNat=rn:=⟨_,rfl⟩
   rw[hrn] at z2 z3 hl
   subst z3
   obtain⟨an,rfl⟩:∃ an:Nat,at'=(an:Int):=⟨at'.toNat,by omega⟩
   have hL3:L.length≤25:=by omega
   rw[Int.toNat_natCast] at hl
   have hlt2:=hA.lt
   have kc':kCl ⟨rn,level,an⟩ = .agg [.lit (.int .i64 (rn:Int)),.lit (.int .i64 level),.lit (.int .i64 (an:Int))]:=rfl
   refine CallK_pure call26 (cloneIt L hL2) (allc (.vec (pure_rows pure_encI _)) alln) (.vec (pure_rows pure_encI _)) ?_
   simp -implicitDefEqProofs (disch:=omega) only[Wz,seval]
   refine CallK_of call25 (use_at n o x y z L H ai hA) ?_
   rintro r H2 ⟨rfl,u⟩
   have n2:=u.nx
   have hwa:=ask_at (whole_spec n o L N.w N.ok rk hrk N.ho hL3 ⟨rn,level,an⟩ z2 (by show an≤_;omega)) (pure_maskV _) H2 ai _ _ [] [] WOk.nil OOk.nil u.b0 u.t1 u.t2 (Nat.ne_of_lt hlt2) (Nat.ne_of_lt (Nat.lt_succ_of_lt hlt2)) (Nat.ne_of_lt (Nat.lt_succ_self _)) (by rw[n2];exact Nat.lt_succ_of_lt (Nat.lt_succ_of_lt hlt2)) (by rw[n2];exact Nat.lt_succ_of_lt (Nat.lt_succ_self _)) (by rw[n2];exact Nat.lt_succ_self _) u.t0
   rw[kc'] at hwa
   simp -implicitDefEqProofs (disch:=omega) only[Wz,seval]
   refine CallK_of call27 hwa ?_
   rintro r h' ⟨rfl,W',O',hW',hO',rfl⟩
   have hpl:=places_spec (whW n o L ⟨rn,level,an⟩) (L.length+1) (whW_lt hL3) (by omega)
   rw[show ((L.length+1:Nat):Int)=(L.length:Int)+1 by omega] at hpl
   simp -implicitDefEqProofs (disch:=omega) only[Wz,seval]
   refine CallK_pure call28 hpl (allc (pure_maskV _) (allc (.lit _) alln)) (.vec (pure_rows (fun x=>pure_lits (by simp[rowI])) _)) ?_
   simp -implicitDefEqProofs (disch:=omega) only[Wz,seval]
   have hl':plcs (whW n o L ⟨rn,level,an⟩) (L.length+1)=l:=hl
   rw[hl']
   exact⟨⟨[(10,.vec (l.map rowI) false),(11,.lit (.int .i64 0))],⟨up H.boxes ai (askC n o L H.nx (H.nx+1)),H.toks,H.nx+2⟩,55⟩,wk_lk (allc rfl (allc rfl alln)) (fun i c e=>by rw[u.bb];exact e) (fun i k e=>u.tt i k W' O' e) n2.symm rfl,hRi _ _ _ _ _ (Nat.le_succ_of_le (Nat.le_succ _))⟩
  ·have hne0:(e0==0)=false:=by simpa using h0
   simp -implicitDefEqProofs (disch:=omega) only[Wz,seval,hne2,hne0]
   exact fin0 _ rfl rfl h0 rfl rfl
theorem AtA.left{n:Nt}{o:List Orc}{H:Hp}{ai m:Nat}{x y z x' y' z':AV}(h:AtA n o H ai x y z)(hm:H.nx≤m):AtA n o ⟨up H.boxes ai (askX n o x' y' z'),H.toks,m⟩ ai x' y' z':=by
 have hlt:=h.lt
 refine⟨?_,fun i hi=>?_,fun i hi=>?_,h.nt⟩
 ·show lk (up _ _ _) ai=_
  rw[lk_up,if_pos rfl,h.bx];rfl
 ·have hi:m≤i:=hi
  show lk (up _ _ _) i=none
  rw[lk_up,if_neg (by omega)];exact h.fb i (by omega)
 ·have hi:m≤i:=hi
  exact h.ft i (by omega)
noncomputable def viaN(n:Nt)(o:List Orc)(rule:Nat)(L:List It):Nat→Nat
 | 0=>0
 | k+1=>if viaV n o rule (L.take (k+1)) then k+1 else viaN n o rule L k
theorem Viable_spec(n:Nt)(o:List Orc)(N:NetOk n o)(rule:Int)(L:List It)(hL:L.length≤25∨601<L.length)(hL2:L.length≤1000000000)(H:Hp)(ai:Nat)(x y z:AV)(hA:AtA n o H ai x y z) :
  SCall Pg 12 [.ptr ai 0,.lit (.int .i64 rule),.vec (L.map encI) false] H fun r h' =>
   r = .tup [.lit (.int .i64 ((if asksV n rule L.length=0 then viaN n o rule.toNat L L.length else 0:Nat):Int)),.lit (.int .i64 (asksV n rule L.length))]∧LeftA n o H ai h':=by
 have hlt:=hA.lt
 have hask:=asks_spec n o x y z rule L.length H ai (by have:=N.ok.rules;omega) hA.bx
 have hz:=fun q=>asksV_0 (n:=n) (rule:=rule) (k:=L.length) q
 obtain⟨v,hv⟩:∃ v,(if asksV n rule L.length=0 then viaN n o rule.toNat L L.length else 0:Nat)=v:=⟨_,rfl⟩
 rw[hv]
 obtain⟨e,he⟩:∃ e,asksV n rule L.length=e:=⟨_,rfl⟩
 rw[he] at hask hz hv ⊢
 obtain⟨R,hR⟩:∃ R:AV→Hp→Prop,(fun r h'=>r=AV.tup [.lit (.int .i64 (v:Int)),.lit (.int .i64 e)]∧LeftA n o H ai h')=R:=⟨_,rfl⟩
 have hRi:∀ x y z m,H.nx≤m→R (.tup [.lit (.int .i64 (v:Int)),.lit (.int .i64 e)]) ⟨up H.boxes ai (askX n o x y z),H.toks,m⟩:=fun x y z m h=>by rw[← hR];exact⟨rfl,x,y,z,m,h,rfl⟩
 rw[hR]
 refine SCall_introW Tryz.func12 rfl Tryz.ntmps12 (rs:=[.tmp 6,.tmp 7]) rfl (by simp) ?_
 have fin:∀ (σ':St) x' y' z' m,H.nx≤m→σ'.hp=⟨up H.boxes ai (askX n o x' y' z'),H.toks,m⟩→σ'.nt=31→lk σ'.slots 6=some (.lit (.int .i64 (v:Int)))→lk σ'.slots 7=some (.lit (.int .i64 e))→∃ σ'',St.wk σ' σ''∧resK (resOf Pg σ'' [.tmp 6,.tmp 7]) R σ''.hp:=fun σ' x' y' z' m hm e1 e2 e3 e4 =>
  ⟨⟨[(6,.lit (.int .i64 (v:Int))),(7,.lit (.int .i64 e))],_,31⟩,wk_lk (allc e3 (allc e4 alln)) (fun i c e=>by rw[e1];exact e) (fun i c e=>by rw[e1];exact e) (by rw[e1]) (by rw[e2]),hRi x' y' z' m hm⟩
 have hH:H=⟨up H.boxes ai (askX n o x y z),H.toks,H.nx⟩:=by rw[up_same hA.bx]
 simp -implicitDefEqProofs (disch:=omega) only[Wz,seval]
 refine CallK_of call24 hask ?_
 rintro r h' ⟨rfl,hh⟩
 rw[hh]
 clear hh
 by_cases h0:e=0
 ·obtain⟨z1,z2,z3,z4⟩:=hz h0
  rw[if_pos h0] at hv
  subst h0
  obtain⟨rn,hrn⟩:∃ rn,rule.toNat=rn:=⟨_,rfl⟩
  rw[hrn] at z2 z3 hv
  subst z3
  have hL3:L.length≤25:=by omega
  simp -implicitDefEqProofs (disch:=omega) only[Wz,seval]
  refine aw_measA (fun x:Nat × AV × AV × AV × Nat=>⟨[(9,.lit (.int .i64 (x.1:Int))),(0,.ptr ai 0),(1,.lit (.int .i64 (rn:Int))),(2,.vec (L.map encI) false)],⟨up H.boxes ai (askX n o x.2.1 x.2.2.1 x.2.2.2.1),H.toks,x.2.2.2.2⟩,31⟩) (fun x=>x.1≤L.length∧viaN n o rn L x.1=v∧H.nx≤x.2.2.2.2) (fun x=>x.1)
   (L.length,x,y,z,H.nx) (wk_lk (by simp[lk]) (fun i c q=>by rw[up_same hA.bx] at q;exact q) (fun _ _ q=>q) rfl rfl) ⟨Nat.le_refl _,hv,Nat.le_refl _⟩ ?_
  rintro⟨k,x1,y1,z1,m1⟩ ⟨hk,hkv,hm⟩
  simp only at hk hkv hm ⊢
  refine aw_of ?_
  cases k with
  | zero =>
   have hkv:0=v:=hkv
   subst hkv
   simp -implicitDefEqProofs (disch:=omega) only[Wz,seval,Int.natCast_zero]
   exact fin _ x1 y1 z1 m1 hm rfl rfl rfl rfl
  | succ k =>
   have hsl:=sliceIt L hk
   have hvi:=viable_spec n o N rn z2 (L.take (k+1)) (by simp;omega) ⟨up H.boxes ai (askX n o x1 y1 z1),H.toks,m1⟩ ai x1 y1 z1 (hA.left hm)
   unfold viaN at hkv
   simp -implicitDefEqProofs (disch:=omega) only[Wz,seval,hsl]
   refine CallK_of call32 hvi ?_
   rintro r h' ⟨rfl,x2,y2,z2,m2,hm2,rfl⟩
   have hm2:m1≤m2:=hm2
   cases hvv:viaV n o rn (L.take (k+1)) with
   | true =>
    rw[hvv] at hkv
    simp only[if_true] at hkv
    subst hkv
    simp -implicitDefEqProofs (disch:=omega) only[Wz,seval,up_up]
    exact fin _ x2 y2 z2 m2 (by omega) rfl rfl rfl rfl
   | false =>
    rw[hvv] at hkv
    simp only[Bool.false_eq_true,if_false] at hkv
    have hc:((k+1:Nat):Int) - 1=(k:Int):=by omega
    simp -implicitDefEqProofs (disch:=omega) only[Wz,seval,up_up,hc]
    exact⟨(k,x2,y2,z2,m2),⟨by show k≤_;omega,hkv,by show H.nx≤m2;omega⟩,by show k<k+1;omega,wk_lk (by simp[lk]) (fun _ _ q=>q) (fun _ _ q=>q) rfl rfl⟩
 ·have hne0:(e==0)=false:=by simpa using h0
  rw[if_neg h0] at hv
  subst hv
  simp -implicitDefEqProofs (disch:=omega) only[Wz,seval,hne0,Int.natCast_zero]
  exact fin _ x y z H.nx (Nat.le_refl _) hH rfl rfl rfl
theorem sliceIt3(L:List It):sliceV 5 (L.map encI) false none (some (L.length:Int)) (some (L.length:Int))=some (.vec (L.map encI) true):=by
 unfold sliceV
 simp only[Option.getD_none,Option.getD_some]
 rw[if_pos ⟨by decide,by omega,Int.le_refl _,by simp,fun q=>rfl,encI_len L⟩]
 have e:((L.map encI).drop (0:Int).toNat).take ((L.length:Int).toNat - (0:Int).toNat)=L.map encI:=by
  simp[List.take_of_length_le]
 rw[e]
 simp[fullOf]
def itN (t:Nat)(ix col:Int):It:=⟨(t:Int),ix,col,false,0⟩
noncomputable def nextL(n:Nt)(o:List Orc)(rule:Nat)(L:List It)(ix col:Int)(K:Nat):List Nat:=(List.range K).filter fun t=>viaV n o rule (L++[itN t ix col])
theorem nextL_succ(n:Nt)(o:List Orc)(rule:Nat)(L:List It)(ix col:Int)(K:Nat):nextL n o rule L ix col (K+1)=if viaV n o rule (L++[itN K ix col]) then nextL n o rule L ix col K++[K] else nextL n o rule L ix col K:=by
 unfold nextL
 rw[List.range_succ,List.filter_append]
 cases h:viaV n o rule (L++[itN K ix col]) <;> simp[h]
theorem nextL_len(n:Nt)(o:List Orc)(rule:Nat)(L:List It)(ix col:Int)(K:Nat):(nextL n o rule L ix col K).length≤K:=by
 have:=List.length_filter_le (fun t=>viaV n o rule (L++[itN t ix col])) (List.range K)
 unfold nextL;simpa using this
theorem Next_spec(n:Nt)(o:List Orc)(N:NetOk n o)(rule ix col:Int)(L:List It)(hL:L.length≤24∨601<L.length)(hL2:L.length≤1000000000)(H:Hp)(ai:Nat)(x y z:AV)(hA:AtA n o H ai x y z) :
  SCall Pg 14 [.ptr ai 0,.lit (.int .i64 rule),.vec (L.map encI) false,.lit (.int .i64 ix),.lit (.int .i64 col)] H fun r h' =>
   (∃ f,r = .tup [.vec ((if asksV n rule L.length=0 then nextL n o rule.toNat L ix col (n.types.length+1) else []).map rowI) f,.lit (.int .i64 (asksV n rule L.length))])∧LeftA n o H ai h':=by
 have hlt:=hA.lt
 have hask:=asks_spec n o x y z rule L.length H ai (by have:=N.ok.rules;omega) hA.bx
 have hz:=fun q=>asksV_0 (n:=n) (rule:=rule) (k:=L.length) q
 have hty:=N.w.ntp
 obtain⟨l,hl⟩:∃ l,(if asksV n rule L.length=0 then nextL n o rule.toNat L ix col (n.types.length+1) else [])=l:=⟨_,rfl⟩
 rw[hl]
 obtain⟨e,he⟩:∃ e,asksV n rule L.length=e:=⟨_,rfl⟩
 rw[he] at hask hz hl ⊢
 obtain⟨R,hR⟩:∃ R:AV→Hp→Prop,(fun r h'=>(∃ f,r=AV.tup [.vec (l.map rowI) f,.lit (.int .i64 e)])∧LeftA n o H ai h')=R:=⟨_,rfl⟩
 have hRi:∀ f x y z m,H.nx≤m→R (.tup [.vec (l.map rowI) f,.lit (.int .i64 e)]) ⟨up H.boxes ai (askX n o x y z),H.toks,m⟩:=fun f x y z m h=>by rw[← hR];exact⟨⟨f,rfl⟩,x,y,z,m,h,rfl⟩
 rw[hR]
 refine SCall_introW Tryz.func14 rfl Tryz.ntmps14 (rs:=[.tmp 10,.tmp 11]) rfl (by simp) ?_
 have hH:H=⟨up H.boxes ai (askX n o x y z),H.toks,H.nx⟩:=by rw[up_same hA.bx]
 simp -implicitDefEqProofs (disch:=omega) only[Wz,seval]
 refine CallK_of call24 hask ?_
 rintro r h' ⟨rfl,hh⟩
 rw[hh]
 clear hh
 by_cases h0:e=0
 ·obtain⟨z1,z2,z3,z4⟩:=hz h0
  rw[if_pos h0] at hl
  subst h0
  obtain⟨rn,hrn⟩:∃ rn,rule.toNat=rn:=⟨_,rfl⟩
  rw[hrn] at z2 z3 hl
  subst z3
  have hL3:L.length≤24:=by omega
  have hb:=hA.bx
  unfold askX encN at hb
  simp only[List.cons_append,List.nil_append] at hb
  simp -implicitDefEqProofs (disch:=omega) only[Wz,seval,hb]
  refine aw_measA (fun x:Nat × Nat × AV × AV × AV × Nat=>⟨[(29,.lit (.int .i64 (x.1:Int))),(28,.lit (.int .i64 ((n.types.length:Int)+1))),(10,gV x.2.1 (nextL n o rn L ix col x.1)),(0,.ptr ai 0),(1,.lit (.int .i64 (rn:Int))),(2,.vec (L.map encI) false),(3,.lit (.int .i64 ix)),(4,.lit (.int .i64 col))],⟨up H.boxes ai (askX n o x.2.2.1 x.2.2.2.1 x.2.2.2.2.1),H.toks++nTok (x.2.1,nextL n o rn L ix col x.1),x.2.2.2.2.2⟩,53⟩) (fun x=>x.1≤n.types.length+1∧H.nx≤x.2.2.2.2.2∧(nextL n o rn L ix col x.1≠[]→H.nx≤x.2.1∧x.2.1<x.2.2.2.2.2)) (fun x=>n.types.length+1 - x.1)
   (0,0,x,y,z,H.nx) (wk_lk (by simp[lk];rfl) (fun i c q=>by rw[up_same hA.bx] at q;exact q) (fun i k q=>by rw[show H.toks++nTok (0,nextL n o rn L ix col 0)=H.toks from List.append_nil _] at q;exact q) rfl rfl) ⟨Nat.zero_le _,Nat.le_refl _,fun q=>absurd rfl q⟩ ?_
  rintro⟨t,tk,x1,y1,z1,m1⟩ ⟨ht,hm,hk⟩
  simp only at ht hm hk ⊢
  refine aw_of ?_
  have hnl:=nextL_len n o rn L ix col t
  rcases Nat.lt_or_ge t (n.types.length+1) with hlt' | hge
  ·have hsu:=nextL_succ n o rn L ix col t
   obtain⟨l1,hl1⟩:∃ l1,nextL n o rn L ix col t=l1:=⟨_,rfl⟩
   rw[hl1] at hk hnl hsu ⊢
   obtain⟨T,hT⟩:∃ T,H.toks++nTok (tk,l1)=T:=⟨_,rfl⟩
   have hTt:∀ i,m1≤i→lk T i=none:=fun i hi=>by
    rw[← hT,lk_app,hA.ft i (by omega)]
    cases l1 with
    | nil=>rfl
    | cons a l1=>have:=hk (by simp);simp only[nTok,lk];rw[if_neg (by omega)];rfl
   have hTa:lk T ai=none:=by
    rw[← hT,lk_app,hA.nt]
    cases l1 with
    | nil=>rfl
    | cons a l1=>have:=hk (by simp);simp only[nTok,lk];rw[if_neg (by omega)];rfl
   have hTl:l1≠[]→lk T tk=some ⟨l1.map rowI,0,1⟩:=fun q=>by
    have:=hk q
    rw[← hT,lk_app,hA.ft tk this.1]
    cases l1 with
    | nil=>exact absurd rfl q
    | cons a l1=>simp[nTok,lk]
   have hTH:∀ i k,lk H.toks i=some k→lk T i=some k:=fun i k q=>by rw[← hT,lk_app,q];rfl
   rw[hT]
   have hfit:fits (L.length+1) 40:=fits_of' (by omega) (by omega)
   have hs3:=sliceIt3 L
   have hTn:∀ k,lk (T++[(m1,k)]) m1=some k:=fun k=>by rw[lk_app,hTt m1 (Nat.le_refl _)];simp[lk]
   have hq2:(∀ q:List AV,q∈L.map encI→q.length=5)=True:=eq_true (encI_len L)
   have hrow:L.map encI++[[.lit (.int .i64 (t:Int)),.lit (.int .i64 ix),.lit (.int .i64 col),.lit (.bool false),.lit (.int .i64 0)]]=(L++[itN t ix col]).map encI:=by simp[itN,encI]
   have hrl:((L++[itN t ix col]).map encI).length=L.length+1:=by simp
   simp -implicitDefEqProofs (disch:=omega) only[Wz,seval,hs3,hfit,hTn,hq2,hrow,List.mem_singleton,forall_eq,if_true,List.length_cons,List.length_nil]
   have hut:∀ k k':Tk,up (T++[(m1,k)]) m1 k'=T++[(m1,k')]:=fun k k'=>up_app (hTt m1 (Nat.le_refl _))
   have hAt:∀ k:Tk,AtA n o ⟨up H.boxes ai (askX n o x1 y1 z1),T++[(m1,k)],m1+1⟩ ai x1 y1 z1:=fun k=>by
    have h1:=hA.left (x':=x1) (y':=y1) (z':=z1) hm
    refine⟨h1.bx,fun i hi=>?_,fun i hi=>?_,?_⟩
    ·have hi:m1+1≤i:=hi
     exact h1.fb i (by show m1≤i;omega)
    ·have hi:m1+1≤i:=hi
     show lk (T++[(m1,k)]) i=none
     rw[lk_app,hTt i (by omega)];simp only[lk];rw[if_neg (by omega)];rfl
    ·show lk (T++[(m1,k)]) ai=none
     rw[lk_app,hTa];simp only[lk];rw[if_neg (by omega)];rfl
   refine CallK.freeze (t:=m1) (k:=⟨(L++[itN t ix col]).map encI,0,5⟩) (args1:=[.ptr ai 0,.lit (.int .i64 (rn:Int)),.vec ((L++[itN t ix col]).map encI) false]) (hTn _) (fun g g' e c=>cvL_cons (cv_refl e _) (cvL_cons (cv_refl e _) (cvL_cons (by rw[hrl] at c;exact c) cvL_nil))) ?_
   simp -implicitDefEqProofs (disch:=omega) only[hut]
   refine CallK_of call32 (viable_spec n o N rn z2 (L++[itN t ix col]) (by simp;omega) _ ai x1 y1 z1 (hAt _)) ?_
   rintro r h' ⟨rfl,x2,y2,z2,m2,hm2,rfl⟩
   have hm2:m1+1≤m2:=hm2
   cases hvv:viaV n o rn (L++[itN t ix col]) with
   | false =>
    rw[hvv] at hsu
    simp only[Bool.false_eq_true,if_false] at hsu
    simp -implicitDefEqProofs (disch:=omega) only[Wz,seval,up_up]
    refine⟨(t+1,tk,x2,y2,z2,m2),⟨by show t+1≤_;omega,by show H.nx≤m2;omega,fun q=>?_⟩,by show n.types.length+1 - (t+1)<_;omega,?_⟩
    ·have q:nextL n o rn L ix col (t+1)≠[]:=q
     rw[hsu] at q
     have:=hk q
     exact⟨this.1,by show tk<m2;omega⟩
    ·simp only
     rw[hsu,hT]
     exact wk_lk (by simp[lk]) (fun _ _ q=>q) (fun _ _ q=>lk_pre q) rfl rfl
   | true =>
    rw[hvv] at hsu
    simp only[if_true] at hsu
    have hTm:∀ k:Tk,tk<m1→lk (T++[(m1,k)]) tk=lk T tk:=fun k q=>by
     rw[lk_app];simp only[lk];rw[if_neg (by omega),Option.or_none]
    cases l1 with
    | nil =>
     have hf1:fits 1 8:=by decide
     have hg0:gV tk [] = .vec [] true:=rfl
     simp -implicitDefEqProofs (disch:=omega) only[Wz,seval,up_up,hg0,List.mem_singleton,forall_eq,List.not_mem_nil,false_imp_iff,implies_true,hf1,if_true,List.length_cons,List.length_nil]
     refine⟨(t+1,m2,x2,y2,z2,m2+1),⟨by show t+1≤_;omega,by show H.nx≤m2+1;omega,fun q=>⟨by show H.nx≤m2;omega,by show m2<m2+1;omega⟩⟩,by show n.types.length+1 - (t+1)<_;omega,?_⟩
     simp only
     rw[hsu,show gV m2 ([]++[t]) = .own m2 1 from rfl,show nTok (m2,[]++[t])=[(m2,(⟨[rowI t],0,1⟩:Tk))] from rfl]
     refine wk_lk (by simp[lk]) (fun _ _ q=>q) (fun i k q=>?_) rfl rfl
     have q1:lk (H.toks++[(m2,(⟨[rowI t],0,1⟩:Tk))]) i=some k:=q
     clear q
     show lk (T++[(m1,_)]++[(m2,(⟨[rowI t],0,1⟩:Tk))]) i=some k
     rw[lk_app] at q1 ⊢
     cases hc:lk H.toks i with
     | some k' =>
      rw[hc] at q1
      rw[lk_app,hTH i k' hc];exact q1
     | none =>
      rw[hc] at q1
      simp only[lk,Option.none_or] at q1
      by_cases hi:m2=i
      ·subst hi
       simp only[if_true] at q1
       rw[lk_app,hTt m2 (by omega)]
       simp only[lk,if_true]
       rw[if_neg (by omega)];exact q1
      ·rw[if_neg hi] at q1;cases q1
    | cons a l' =>
     obtain⟨k1,k2⟩:=hk (by simp)
     have hlT:=hTl (by simp)
     have hgl:∀ k:Tk,lk (T++[(m1,k)]) tk=some ⟨(a :: l').map rowI,0,1⟩:=fun k=>by rw[hTm k k2];exact hlT
     simp only[List.length_cons] at hnl
     have hf1:fits (l'.length+1+1) 8:=fits_of' (by omega) (by omega)
     have hgc:gV tk (a :: l') = .own tk (l'.length+1):=rfl
     simp -implicitDefEqProofs (disch:=omega) only[Wz,seval,up_up,hgc,List.mem_singleton,forall_eq,List.not_mem_nil,false_imp_iff,implies_true,hf1,hgl,if_true,List.length_cons,List.length_nil,List.length_map]
     refine⟨(t+1,tk,x2,y2,z2,m2),⟨by show t+1≤_;omega,by show H.nx≤m2;omega,fun q=>⟨k1,by show tk<m2;omega⟩⟩,by show n.types.length+1 - (t+1)<_;omega,?_⟩
     simp only
     rw[hsu,show gV tk (a :: l'++[t]) = .own tk (l'.length+1+1) from by rw[gV_snoc];simp,show nTok (tk,a :: l'++[t])=[(tk,(⟨(a :: l'++[t]).map rowI,0,1⟩:Tk))] from rfl]
     refine wk_lk (by simp[lk]) (fun _ _ q=>q) (fun i k q=>?_) rfl rfl
     have q:lk (H.toks++[(tk,(⟨(a :: l'++[t]).map rowI,0,1⟩:Tk))]) i=some k:=q
     show lk (up (T++[(m1,_)]) tk _) i=some k
     rw[lk_app] at q
     rw[lk_up]
     by_cases hi:tk=i
     ·subst hi
      rw[hA.ft tk k1] at q
      simp only[lk,if_true,Option.none_or] at q
      rw[if_pos rfl,hgl,← q]
      simp[rowI]
     ·rw[if_neg hi]
      simp only[lk,if_neg hi,Option.or_none] at q
      rw[lk_app,hTH i k q];rfl
  ·have hte:t=n.types.length+1:=by omega
   rw[hte,hl]
   rw[hte,hl] at hk
   simp -implicitDefEqProofs (disch:=omega) only[Wz,seval]
   cases hcl:l with
   | nil =>
    have:=hRi true x1 y1 z1 m1 hm
    rw[hcl] at this
    exact⟨⟨[(10,.vec [] true),(11,.lit (.int .i64 0))],⟨up H.boxes ai (askX n o x1 y1 z1),H.toks,m1⟩,53⟩,wk_lk (allc rfl (allc rfl alln)) (fun _ _ q=>q) (fun _ _ q=>lk_pre q) rfl rfl,this⟩
   | cons a l' =>
    obtain⟨k1,k2⟩:=hk (by rw[hcl];simp)
    have:=hRi false x1 y1 z1 m1 hm
    rw[hcl] at this
    refine⟨⟨[(10,.vec ((a :: l').map rowI) false),(11,.lit (.int .i64 0))],⟨up H.boxes ai (askX n o x1 y1 z1),H.toks,m1⟩,53⟩,wk_frz (t:=tk) (k:=⟨(a :: l').map rowI,0,1⟩) ?_ rfl rfl (allc ⟨_,rfl,.inr ⟨by rw[gV_cons (by simp)];simp,rfl⟩⟩ (allc ⟨_,rfl,.inl rfl⟩ alln)) (fun _ _ q=>q) (fun i c q=>?_),this⟩
    ·show lk (H.toks++nTok (tk,a :: l')) tk=_
     rw[lk_app,hA.ft tk k1];simp[nTok,lk]
    ·have q:lk H.toks i=some c:=q
     refine⟨fun qq=>?_,lk_pre q⟩
     rw[qq,hA.ft tk k1] at q;cases q
 ·have hne0:(e==0)=false:=by simpa using h0
  rw[if_neg h0] at hl
  subst hl
  simp -implicitDefEqProofs (disch:=omega) only[Wz,seval,hne0]
  exact⟨⟨[(10,.vec [] true),(11,.lit (.int .i64 e))],H,53⟩,wk_lk (allc rfl (allc rfl alln)) (fun _ _ q=>q) (fun _ _ q=>q) rfl rfl,by
   have:=hRi true x y z H.nx (Nat.le_refl _)
   rw[up_same hA.bx] at this
   exact this⟩
theorem New_spec(n:Nt)(o:List Orc)(ok:NtOk n)(ho:o.length≤1000000000)(H:Hp)(hf:∀ i,H.nx≤i→lk H.boxes i=none) :
  SCall Pg 7 [.agg (encN n),.vec (o.map encO) false] H fun r h' =>
   (okV n=true→r = .tup [.ptr (H.nx+1) 0,.lit (.int .i64 0)]∧h'=⟨H.boxes++[(H.nx+1,askX n o (.vec [] true) (.lit (.map none)) (.lit (.map none)))],H.toks,H.nx+2⟩)∧(okV n=false→r = .tup [.lit (.pointer none),.lit (.int .i64 110)]∧h'=⟨H.boxes,H.toks,H.nx+1⟩):=by
 have hck:=check_spec n ok
 refine SCall_introW Tryz.func7 rfl Tryz.ntmps7 (rs:=[.tmp 4,.tmp 5]) rfl (by simp) ?_
 have hnx0:∀ c,lk (H.boxes++[(H.nx,c)]) H.nx=some c:=fun c=>by rw[lk_app,hf _ (Nat.le_refl _)];simp[lk]
 unfold encN at hck
 simp -implicitDefEqProofs (disch:=omega) only[Wz,seval,encN,hnx0]
 refine CallK_k call21 hck (allc (.of_pure (.agg (pure_encN n))) alln) (.lit _) ?_
 cases hok:okV n with
 | false =>
  simp -implicitDefEqProofs (disch:=omega) only[Wz,seval]
  refine⟨⟨[(4,.lit (.pointer none)),(5,.lit (.int .i64 110))],⟨H.boxes,H.toks,H.nx+1⟩,14⟩,wk_lk (allc rfl (allc rfl alln)) (fun _ _ q=>lk_pre q) (fun _ _ q=>q) rfl rfl,?_⟩
  exact⟨fun q=>(by cases q),fun _=>⟨rfl,rfl⟩⟩
 | true =>
  simp -implicitDefEqProofs (disch:=omega) only[Wz,seval]
  refine aw_drawQ (n:=14) 3 (.alt 3 (.alt 4 (.alt 5 (.alt 6 .leaf .nil) .nil) .nil) .nil) rfl (by decide) (by decide) mixed (by kernel_rfl) (by decide) ?_
  simp -implicitDefEqProofs (disch:=omega) only[Wz,seval,hnx0]
  refine CallQ_pure call22 (cloneOrc o ho) (allc (.vec (pure_rows pure_encO _)) alln) (.vec (pure_rows pure_encO _)) ?_
  simp -implicitDefEqProofs (disch:=omega) only[Wz,seval,hnx0]
  refine⟨⟨[(4,.ptr (H.nx+1) 0),(5,.lit (.int .i64 0))],⟨H.boxes++[(H.nx+1,askX n o (.vec [] true) (.lit (.map none)) (.lit (.map none)))],H.toks,H.nx+2⟩,14⟩,wk_lk (allc rfl (allc rfl alln)) (fun i c q=>?_) (fun _ _ q=>q) rfl rfl,?_⟩
  ·have q1:lk (H.boxes++[(H.nx+1,askX n o (.vec [] true) (.lit (.map none)) (.lit (.map none)))]) i=some c:=q
   clear q
   rw[lk_app] at q1
   show lk (H.boxes++[(H.nx,_)]++[(H.nx+1,_)]) i=some c
   rw[lk_app,lk_app]
   cases hc:lk H.boxes i with
   | some c'=>rw[hc] at q1;simpa using q1
   | none =>
    rw[hc] at q1
    simp only[lk,Option.none_or] at q1 ⊢
    by_cases hi:H.nx+1=i
    ·rw[if_neg (by omega)]
     rw[if_pos hi] at q1 ⊢
     exact q1
    ·rw[if_neg hi] at q1;cases q1
  ·exact⟨fun _=>⟨rfl,rfl⟩,fun q=>(by cases q)⟩
theorem rows_spec(a b:List Nat)(f g:Bool)(ha:a.length≤1000000000)(hb:b.length≤1000000000):KCall Pg 11 [.vec (a.map rowI) f,.vec (b.map rowI) g] (.lit (.bool (decide (a=b)))):=by
 obtain⟨v,hv⟩:∃ v,(decide (a=b))=v:=⟨_,rfl⟩
 rw[hv]
 refine KCall_of (SCall_introK Tryz.func11 rfl Tryz.ntmps11 (rs:=[.tmp 4]) rfl (by simp) ?_)
 refine aw_of ?_
 by_cases hlen:a.length=b.length
 ·simp -implicitDefEqProofs (disch:=omega) only[Wz,seval]
  refine aw_measA (fun k:Nat=>⟨[(5,.lit (.int .i64 (k:Int))),(0,.vec (a.map rowI) f),(1,.vec (b.map rowI) g)],⟨[],[],0⟩,26⟩) (fun k=>k≤a.length∧decide (a.drop k=b.drop k)=v) (fun k=>a.length - k) 0 (wk_lk (by simp[lk]) (fun _ _ q=>q) (fun _ _ q=>q) rfl rfl) ⟨Nat.zero_le _,by rw[List.drop_zero,List.drop_zero];exact hv⟩ ?_
  rintro k ⟨hk,hkv⟩
  refine aw_of ?_
  rcases Nat.lt_or_ge k a.length with hl | hg
  ·obtain⟨x,hx⟩:∃ x,a.getD k default=x:=⟨_,rfl⟩
   obtain⟨y,hy⟩:∃ y,b.getD k default=y:=⟨_,rfl⟩
   rw[drop_getD hl,drop_getD (l:=b) (by omega),hx,hy] at hkv
   simp -implicitDefEqProofs (disch:=omega) only[Wz,seval]
   refine aw_quietN (n:=26) rfl (by decide) mixed ?_
   by_cases hxy:x=y
   ·subst hxy
    have e1:(((x:Nat):Int)==(x:Int))=true:=by simp
    simp -implicitDefEqProofs (disch:=omega) only[Wz,seval,rowI,hx,hy,e1]
    refine⟨k+1,⟨hl,by rw[← hkv];simp⟩,by omega,wk_lk (by simp[lk]) (fun _ _ q=>q) (fun _ _ q=>q) rfl rfl⟩
   ·have e1:(((x:Nat):Int)==(y:Int))=false:=by simp;omega
    have hv0:false=v:=by rw[← hkv];simp[hxy]
    subst hv0
    simp -implicitDefEqProofs (disch:=omega) only[Wz,seval,rowI,hx,hy,e1]
    exact kexpo (.lit _)
  ·have hk2:k=a.length:=by omega
   subst hk2
   rw[List.drop_length,hlen,List.drop_length] at hkv
   have hkv:true=v:=by rw[← hkv];simp
   subst hkv
   simp -implicitDefEqProofs (disch:=omega) only[Wz,seval]
   exact kexpo (.lit _)
 ·have hv0:false=v:=by
   rw[← hv];symm;apply decide_eq_false;intro q;exact hlen (by rw[q])
  subst hv0
  simp -implicitDefEqProofs (disch:=omega) only[Wz,seval]
  exact kexpo (.lit _)
end Go.Proofs.YtbbnfbnicacdoaaGreat
end
