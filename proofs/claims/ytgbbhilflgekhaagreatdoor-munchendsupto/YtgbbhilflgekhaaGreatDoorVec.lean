/- Parts of the proof, laid together. -/
import Derived.Test.YtgbbhilflgekhaaGreatDoorVeb
import Derived.LaidEqlPtr
import Derived.MapKept
import Derived.Lib.SlBytesConst
set_option linter.unusedVariables false
set_option linter.unusedSimpArgs false
set_option maxRecDepth 20000
set_option maxHeartbeats 16000000
section
namespace Go.Ab
section
variable {P:Program}
theorem Jsx{σ:St}{c:Code}{Q:Exit->St->Prop}{A:Type}(n N:Nat)(S:Nat->A->St)(Inv:Nat->A->Prop)(hN:σ.hp.nx<=N)(a0:A)(hw:St.cp N σ (S 0 a0))(h0:Inv 0 a0)
  (round:∀ i a,i<n->Inv i a->awp P c (JlC (fun σ1=>∃ a',Inv (i+1) a'/\St.cp N σ1 (S (i+1) a')) Q) (S i a))
  (last:∀ a,Inv n a->awp P c (JlC (fun _=>False) Q) (S n a)):Aw P (.loop c) Q σ:=by
 intro g0 h0' w0 g w a r;have hg:g0.nx<=N:=by
  have h1:g0.nx<=g.nx:=r.st.ext.nx;rw[r.st.hp.nx] at h1;omega
 refine wpIn_loop_ghost (fun m a w=>∃ i x g,i<=n/\m=n - i/\Inv i x/\Jae g0 h0' w0 (S i x) g w a) n (let ⟨g',r'⟩:=hw g0 h0' w0 g w a hg r;⟨0,a0,g',Nat.zero_le _,rfl,h0,r'⟩) (fun m a w ⟨i,x,g,hi,hm,hI,k2⟩=>?_);rcases Nat.lt_or_ge i n with hlt | hge
 ·refine wpIn_mono (Jax c (round i x hlt hI) g0 h0' w0 g w a k2) fun e a' w' hh=>?_
  obtain⟨σ1,g1,q1,q2⟩:=hh;cases e with
  | normal =>
   obtain⟨x',l1,l2⟩:=q1;obtain⟨g2,q3⟩:=l2 g0 h0' w0 g1 w' a' hg q2;exact⟨n - (i+1),by omega,i+1,x',g2,hlt,rfl,l1,q3⟩
  | _=>exact⟨σ1,g1,q1,q2⟩
 ·have:i=n:=by omega
  subst this;refine wpIn_mono (Jax c (last x hI) g0 h0' w0 g w a k2) fun e a' w' hh=>?_
  obtain⟨σ1,g1,q1,q2⟩:=hh;cases e with
  | normal=>exact q1.elim
  | _=>exact⟨σ1,g1,q1,q2⟩
theorem St.cp.trans{N:Nat}{σ σ' σ'':St}(h:St.cp N σ σ')(k:St.cp N σ' σ''):St.cp N σ σ'':=fun g0 h0 w0 g w a q r=>let ⟨g',r'⟩:=h g0 h0 w0 g w a q r;k g0 h0 w0 g' w a q r'
theorem JU.told{f:FuncId}{av:List AV}{h:Hp}{Q Q':AV->Hp->Prop}(hc:JU P f av h Q)(hq:∀ r h',Q r h'->∃ r1 h1,St.cp h.nx ⟨[(0,r)],h',1⟩ ⟨[(0,r1)],h1,1⟩/\Q' r1 h1):JU P f av h Q':=by
 intro g w vals rel hv;refine(hc g w vals rel hv).mono fun e w' ⟨v,r,h',g',e1,e2,e3,e4⟩=>?_
 obtain⟨r1,h1,hcp,hQ⟩:=hq r h' e4;have hsl:∀ s u,lk [(0,r)] s=some u->∃ x,(#[v]:Array Value)[s]? = some x/\Rep g' x u:=fun s u hu=>by
  simp only[lk] at hu;split at hu
  ·rename_i hs;cases hu;subst hs;exact⟨v,by simp,e2⟩
  ·cases hu
 have fr:Jae g h (.top w) ⟨[(0,r)],h',1⟩ g' w' {tmps := #[v],defers:=[]}:=⟨e3,hsl,rfl,.nil⟩;obtain⟨g2,k⟩:=hcp g h (.top w) g' w' _ (by rw[rel.nx];exact Nat.le_refl _) fr;obtain⟨u,k1,k2⟩:=k.slots 0 r1 (by simp[lk]);simp at k1;subst k1;exact⟨v,r1,h1,g2,e1,k2,k.st,hQ⟩
end
end Go.Ab
end
section
namespace Go.Ab
def GP (a:AV):Prop:=∀ g g' v,Jmr g.mem g'.mem->(∀ r t,g.cch r=some t->g'.cch r=some t)->Rep g v a->Rep g' v a
theorem GP.of_pure{a:AV}(h:Pure a):GP a:=fun g g' v m _ hv=>h g g' v m hv
theorem GP.lit(v:Value):GP (.lit v):=.of_pure (.lit v)
theorem GP.rn{a:AV}(h:GP a){ρ:Nat->Nat}{n:Nat}:Rn ρ n a a :=
 ⟨fun g gs s v hv=>h g gs v (by rw[s.mem];exact fun _ _ _ e=>e) (by rw[s.cch];exact fun _ _ e=>e) hv,fun g gs s v hv=>h gs g v (by rw[s.mem];exact fun _ _ _ e=>e) (by rw[s.cch];exact fun _ _ e=>e) hv⟩
theorem GP.rnL{as:List AV}(h:∀ a∈as,GP a){ρ:Nat->Nat}{n:Nat}:RnL ρ n as as:=by
 induction as with
 | nil=>exact .nil
 | cons a as ih=>exact .cons (h a (by simp)).rn (ih fun b hb=>h b (by simp[hb]))
theorem JZ.freezeB{g:Gh}{h:Hp}{w:World}(r:JZ g h w){id:Nat}{cs:List AV}(e:lk h.boxes id=some cs) :
  ∃ g',JW g h w g' {h with boxes:=dl h.boxes id} w/\(∀ v,Rep g v (.ptr id 0)->Rep g' v (.np cs))/\(∀ v,Rep g' v (.ptr id 0)->Rep g' v (.np cs)):=by
 obtain⟨b,vs,ty,q1,q2,q3,q4,q5⟩:=r.box id cs e;let g':Gh:={g with mem:=fun b' o=>if b'=b then vs[o]? else g.mem b' o,cch:=fun b'=>if b'=b then some 0 else g.cch b'}
 have nom:∀ t,g.cch b≠some (t+1):=fun t q=>by
  obtain⟨es,k,f1,_⟩:=r.cch b t q;rw[q2] at f1;cases f1
 have hx:Ext g g':=⟨Nat.le_refl _,fun b' o v e'=>by
  have hne:b'≠b:=fun q=>by subst q;rw[q5] at e';cases e'
  simp only[g',if_neg hne];exact e',fun _ _=>rfl,fun _ _=>Jas.refl _,fun b' t e'=>by
  by_cases hb:b'=b
  ·subst hb;cases t with
   | zero=>simp[g']
   | succ t=>exact absurd e' (nom t)
  ·simp only[g',if_neg hb];exact e',fun _ _=>rfl⟩
 have sub:∀ i c,lk (dl h.boxes id) i=some c->i≠id/\lk h.boxes i=some c:=fun i c e'=>by
  rw[Jeb] at e';split at e'
  ·cases e'
  ·rename_i hn;exact⟨fun q=>hn q.symm,e'⟩
 have subS:∀ i,(lk (dl h.boxes id) i).isSome=true->i≠id/\(lk h.boxes i).isSome=true:=fun i e'=>by
  obtain⟨c,hc⟩:=Option.isSome_iff_exists.1 e';obtain⟨h1,h2⟩:=sub i c hc;exact⟨h1,by rw[h2];rfl⟩
 have hp:JZ g' {h with boxes:=dl h.boxes id} w:=by
  refine⟨r.nx,fun b' o v e'=>?_,fun i c e'=>?_,fun t k e'=>?_,fun i j b' e1 e2 e3 e4=>r.bxbx i j b' e1 e2 (subS i e3).2 (subS j e4).2,r.tktk,fun i j b' c n e1 e2 e3 e4=>r.bxtk i j b' c n e1 e2 (subS i e3).2 e4,r.fresh,fun b' t e'=>?_,fun b' e'=>?_,r.lprUp rfl (fun t k e _=>⟨e,rfl⟩) (fun _ _ q=>q)⟩
  ·by_cases hb:b'=b
   ·subst hb;simp only[g',if_true] at e';exact⟨by rw[Jaj q2];exact e',q4 v (by simpa using Array.mem_of_getElem? e')⟩
   ·simp only[g',if_neg hb] at e';exact r.mem b' o v e'
  ·obtain⟨hi,hc⟩:=sub i c e';obtain⟨b',vs',ty',f1,f2,f3,f4,f5⟩:=r.box i c hc;have hne:b'≠b:=fun q=>by subst q;exact hi (r.bxbx i id b' f1 q1 (by rw[hc];rfl) (by rw[e];rfl))
   exact⟨b',vs',ty',f1,f2,f3.mono hx,f4,fun o=>by simp only[g',if_neg hne];exact f5 o⟩
  ·obtain⟨b',c,vs',ty',f1,f2,f3,f5,f6,f7,f9,f10⟩:=r.tok t k e';have hne:b'≠b:=fun q=>by subst q;exact r.bxtk id t b' c _ q1 f1 (by rw[e];rfl) (by rw[e'];rfl)
   exact⟨b',c,vs',ty',f1,f2,f3,f5,f6,(JeW.mono hx ⟨f6,f7⟩).2,fun o ho=>by simp only[g',if_neg hne];exact f9 o ho,fun s=>by simp only[g',if_neg hne];exact f10 s⟩
  ·have e'':g.cch b'=some (t+1):=by
    by_cases hb:b'=b
    ·simp[g',hb] at e'
    ·simpa [g',hb] using e'
   obtain⟨es,k,f1,f2⟩:=r.cch b' t e'';exact⟨es,k,f1,f2.mono hx.mem hx.cch⟩
  ·by_cases hb:b'=b
   ·exact⟨vs,ty,by rw[hb];exact q2⟩
   ·exact r.cel b' (by simpa [g',hb] using e')
 have conv:∀ gg:Gh,Ext gg g'->(∀ bb,gg.box id=some bb->bb=b)->gg.box id=some b->∀ v,Rep gg v (.ptr id 0)->Rep g' v (.np cs):=fun gg x _ hb v hv=>by
  cases hv with
  | ptr h1 h2 =>
   have:=h2 b hb;subst this;refine .np (fun j=>vs.getD j undef) (by simp[g']) (fun j a e'=>?_) (fun j a e'=>?_)
   ·have hj:j<vs.size:=by have:=(List.getElem?_eq_some_iff.1 e').1;have h3:=q3.1;simp at h3;omega
    simp[g',Array.getD,hj]
   ·have hj:j<vs.size:=by have:=(List.getElem?_eq_some_iff.1 e').1;have h3:=q3.1;simp at h3;omega
    have:=q3.2 j (vs.getD j undef) a (by simp[Array.getD,hj]) e';exact this.mono hx
 refine⟨g',⟨hp,hx,.refl _ _,fun b' l=>.inl ?_,fun b' o v e'=>?_⟩,conv g hx (fun bb q=>by rw[q1] at q;cases q;rfl) q1,conv g' (.refl _) (fun bb q=>by have q:g.box id=some bb:=q;rw[q1] at q;cases q;rfl) q1⟩
 ·rcases l with ⟨i,c,e1,e2⟩ | ⟨t,k,c,n,e1,e2⟩ | ⟨t,e1⟩
  ·exact .inl ⟨i,c,(sub i c e1).2,e2⟩
  ·exact .inr (.inl ⟨t,k,c,n,e1,e2⟩)
  ·refine .inr (.inr ⟨t,?_⟩);by_cases hb:b'=b
   ·simp[g',hb] at e1
   ·simpa [g',hb] using e1
 ·by_cases hb:b'=b
  ·exact .inr (.inl (.inl ⟨id,cs,e,by rw[hb];exact q1⟩))
  ·exact .inl (by simpa [g',hb] using e')
theorem St.wk_box{σ σ':St}{id:Nat}{cs:List AV}(hk:lk σ.hp.boxes id=some cs)(hn:σ'.hp.nx=σ.hp.nx)(ht:σ'.nt=σ.nt)
  (h1:∀ g g',Ext g g'->Cv g g' (.ptr id 0) (.np cs)->∀ p∈σ'.slots,∃ b,lk σ.slots p.1=some b/\Cv g g' b p.2)
  (h2:∀ g g',Ext g g'->Cv g g' (.ptr id 0) (.np cs)->∀ p∈σ'.hp.boxes,p.1≠id/\∃ cs,lk σ.hp.boxes p.1=some cs/\CvL g g' cs p.2)
  (h3:∀ g,∀ p∈σ'.hp.toks,∃ k',lk σ.hp.toks p.1=some k'/\Jks g k' p.2):St.wk σ σ':=by
 intro g0 h0 w0 g w a r;obtain⟨g',s,c,c'⟩:=r.st.hp.freezeB hk;refine⟨g',r.conv s hn ht (h1 g g' s.ext c) (fun p hp=>?_) (h3 g')⟩;obtain⟨hne,cs',k1,k2⟩:=h2 g' g' (.refl g') c' p hp;exact⟨cs',by rw[Jeb,if_neg (fun q=>hne q.symm)];exact k1,k2⟩
end Go.Ab
end
section
namespace Go.Ab
open Go.MapKept (heap_set)
section
variable {P:Program} {g:Gh} {h:Hp} {w:World}
variable {σ:St}
end
end Go.Ab
end
section
namespace Go.Ab
section
variable {P:Program}
def Ja9(P:Program)(f:FuncId)(args:List AV)(r:AV):Prop:=JaM P f args .none r
theorem Ja9.at{f:FuncId}{args:List AV}{r:AV}(h:Ja9 P f args r)(ha:∀ a∈args,GP a)(hr:GP r)(H:Hp):JaM P f args H r :=
 JaM.sub (hs:=.none) (r0:=r) (av:=args) [] rfl List.nodup_nil (fun x hx=>by cases hx) (GP.rnL ha) (fun p hp=>by cases hp) (fun p hp=>by cases hp) (fun i hi=>absurd hi (Nat.not_lt_zero _)) h hr.rn
theorem JV{σ:St}{f:FuncId}{args:List AV}{r:AV}{d:Option Tmp}{K:St->Prop}(hc:Jg P f)(h:Ja9 P f args r)(ha:∀ a∈args,GP a)(hr:GP r)(hk:K (σ.put d r)):Jcz P f args σ d K :=
 JE hc (h.at ha hr σ.hp) fun r' h' e=>by obtain⟨rfl,rfl⟩:=e;exact hk
theorem Jif{σ:St}{f:FuncId}{args:List AV}{r:AV}{d:Option Tmp}{K:St->Prop}(hc:Jg P f)(h:Ja9 P f args r)(ha:∀ a∈args,GP a)(hr:GP r)(hk:K (σ.put d r)):JnV P f args σ d K :=
 Jch hc (h.at ha hr σ.hp) hk
theorem Ja9.of_pure{f:FuncId}{args:List AV}{r:AV}(h:JR P f args r)(ha:∀ a∈args,Pure a)(hr:Pure r):Ja9 P f args r:=Je4 h ha hr _
def Jec(h:Hp)(r' r:AV):Prop:=St.cp 0 ⟨[(0,r')],h,1⟩ ⟨[(0,r)],.none,1⟩
theorem Jaa{f:FuncId}{args:List AV}{r:AV}(h:JU P f args .none fun r' h'=>Jec h' r' r):Ja9 P f args r :=
 JU.told h fun r' h' e=>⟨r,.none,e,rfl,rfl⟩
theorem Jaw{h:Hp}{r:AV}(hr:GP r):Jec h r r :=
 St.cp_drop (σ':=⟨[(0,r)],.none,1⟩) (Nat.zero_le _) rfl (fun p hp=>by rcases List.mem_singleton.1 hp with rfl;exact⟨rfl,hr.rn⟩) (fun p hp=>by cases hp) (fun p hp=>by cases hp)
theorem Jec.wk{h h':Hp}{r r' r'':AV}(hw:St.wk ⟨[(0,r)],h,1⟩ ⟨[(0,r')],h',1⟩)(k:Jec h' r' r''):Jec h r r'':=St.cp.trans hw.cp k
end
end Go.Ab
end
section
namespace Go.Ab
structure Jnt (g:Gh) (h:Hp) (w:World) (b:Nat) (vs:Array Value) (ty:TypeId):Prop where
 row:w.heap[b]? = some (.cells vs ty (0,0))
 dead:¬ Ja2 g h b
 mem:∀ o,g.mem b o=none
theorem Jnt.step{g g':Gh}{h h':Hp}{w w':World}{b:Nat}{vs:Array Value}{ty:TypeId}(pd:Jnt g h w b vs ty)(s:JW g h w g' h' w'):Jnt g' h' w' b vs ty:=by
 have hlt:=Jaq pd.row;refine⟨by rw[s.keeps.block b hlt pd.dead];exact pd.row,fun l=>(s.live b l).elim pd.dead (by omega),fun o=>?_⟩;cases e:g'.mem b o with
 | none=>rfl
 | some v =>
  rcases s.memo b o v e with q | q | q
  ·rw[pd.mem o] at q;cases q
  ·exact(pd.dead q).elim
  ·omega
theorem Ja2.lt{g:Gh}{h:Hp}{w:World}(r:JZ g h w){b:Nat}(l:Ja2 g h b):b<w.heap.size:=by
 rcases l with ⟨id,c,e1,e2⟩ | ⟨t,k,c,n,e1,e2⟩ | ⟨t,e1⟩
 ·obtain⟨b',vs',ty',f1,f2,_⟩:=r.box id c e1;rw[f1] at e2;cases e2;exact Jaq f2
 ·obtain⟨b',c',vs',ty',f1,f2,_⟩:=r.tok t k e1;rw[f1] at e2;cases e2;exact Jaq f2
 ·obtain⟨es,k,f1,_⟩:=r.cch b t e1;exact Jaq f1
theorem JZ.still{g:Gh}{h:Hp}{w:World}(r:JZ g h w)(o:Obj):JZ g h (w.alloc o) :=
 r.push o g (.refl _) rfl (fun _ _ _=>rfl) (fun o' v e=>by rw[r.mem_none o' (Nat.le_refl _)] at e;cases e) (fun b o' hb=>r.mem_none o' (Nat.le_of_lt hb)) rfl rfl rfl rfl
theorem Jnt.new{g:Gh}{h:Hp}{w:World}(r:JZ g h w)(vs:Array Value)(ty:TypeId):JW g h w g h (w.alloc (.cells vs ty))/\Jnt g h (w.alloc (.cells vs ty)) w.heap.size vs ty :=
 ⟨⟨r.still _,.refl _,Jai.alloc _ _ _,fun b l=>.inl l,fun b o v e=>.inl e⟩,heap_alloc_new w _,fun l=>Nat.lt_irrefl _ (l.lt r),fun o=>r.mem_none o (Nat.le_refl _)⟩
theorem Jnt.adopt{g:Gh}{h:Hp}{w:World}{b0:Nat}{vs:Array Value}{ty:TypeId}{g0:Gh}{h0:Hp}{w0:World}(s:JW g0 h0 w0 g h w)(hb0:w0.heap.size<=b0)(pd:Jnt g h w b0 vs ty)(cs:List AV)(hc:J9 g vs.toList cs)(h1:∀ v∈vs.toList,v.oneCell'=true) :
  JW g0 h0 w0 (g.addBox b0) {h with boxes:=h.boxes++[(h.nx,cs)],nx:=h.nx+1} w/\Rep (g.addBox b0) (.pointer (some ⟨b0,0,none⟩)) (.ptr h.nx 0):=by
 have r:=s.hp;have hx:=Ext.addBox g b0;have hg:g.nx=h.nx:=r.nx;have hbox:∀ i,(g.addBox b0).box i=if i=h.nx then some b0 else g.box i:=fun i=>by simp[Gh.addBox,hg]
 have old:∀ i c,lk (h.boxes++[(h.nx,cs)]) i=some c->i≠h.nx->lk h.boxes i=some c:=fun i c e hi=>by rwa [J5 hi] at e
 have oldS:∀ i,(lk (h.boxes++[(h.nx,cs)]) i).isSome=true->i≠h.nx->(lk h.boxes i).isSome=true:=fun i e hi=>by rwa [J5 hi] at e
 have bl:∀ i,(lk h.boxes i).isSome=true->g.box i≠some b0:=fun i e eb=>by
  obtain⟨c,hc⟩:=Option.isSome_iff_exists.1 e;exact pd.dead (.inl ⟨i,c,hc,eb⟩)
 have tl:∀ i,(lk h.toks i).isSome=true->∀ c n,g.tok i≠some (b0,c,n):=fun i e c n eb=>by
  obtain⟨k,hc⟩:=Option.isSome_iff_exists.1 e;exact pd.dead (.inr (.inl ⟨i,k,c,n,hc,eb⟩))
 refine⟨⟨⟨by simp[Gh.addBox,hg],fun b o v e=>r.mem b o v e,fun id c e=>?_,fun t k e=>?_,fun i j b e1 e2 e3 e4=>?_,fun i j b c n c' n' e1 e2 e3 e4=>r.tktk i j b c n c' n' e1 e2 e3 e4,fun i j b c n e1 e2 e3 e4=>?_,fun i e=>?_,r.cchUp hx rfl (fun _ _ _ e=>e),r.celUp rfl (fun _ _ _ q=>⟨_,_,q⟩),r.lprUp rfl (fun t k e _=>⟨e,rfl⟩) (fun _ _ q=>q)⟩,
  s.ext.trans hx,s.keeps,fun b l=>?_,s.memo⟩,.ptr (by simp[Gh.addBox,r.nx]) (fun b hb=>by simp[Gh.addBox,r.nx] at hb;rw[hb])⟩
 ·by_cases hi:id=h.nx
  ·subst hi;rw[JaH r.lk_fresh_box] at e;cases e;exact⟨b0,vs,ty,by rw[hbox,if_pos rfl],pd.row,hc.mono hx,h1,pd.mem⟩
  ·obtain⟨b,vs',ty',f1,f2,f3,f4,f5⟩:=r.box id c (old id c e hi);exact⟨b,vs',ty',by rw[hbox,if_neg hi];exact f1,f2,f3.mono hx,f4,f5⟩
 ·obtain⟨b,c,vs',ty',f1,f2,f3,f5,f6,f7,f9⟩:=r.tok t k e;refine⟨b,c,vs',ty',f1,f2,f3,f5,f6,fun i y j a g1 g2=>?_,f9⟩;obtain⟨v,g3,g4⟩:=f7 i y j a g1 g2;exact⟨v,g3,g4.mono hx⟩
 ·rw[hbox] at e1 e2;by_cases hi:i=h.nx <;> by_cases hj:j=h.nx
  ·rw[hi,hj]
  ·rw[if_pos hi] at e1;rw[if_neg hj] at e2;cases e1;exact(bl j (oldS j e4 hj) e2).elim
  ·rw[if_neg hi] at e1;rw[if_pos hj] at e2;cases e2;exact(bl i (oldS i e3 hi) e1).elim
  ·rw[if_neg hi] at e1;rw[if_neg hj] at e2;exact r.bxbx i j b e1 e2 (oldS i e3 hi) (oldS j e4 hj)
 ·rw[hbox] at e1;by_cases hi:i=h.nx
  ·rw[if_pos hi] at e1;cases e1;exact(tl j e4 _ _ e2).elim
  ·rw[if_neg hi] at e1;exact r.bxtk i j b c n e1 e2 (oldS i e3 hi) e4
 ·have hi:h.nx<=i:=Nat.le_of_succ_le e;have hne:i≠h.nx:=fun q=>by subst q;exact absurd e (Nat.not_succ_le_self _)
  exact⟨by rw[hbox,if_neg hne];exact(r.fresh i hi).1,(r.fresh i hi).2⟩
 ·rcases l with ⟨id,c,e1,e2⟩ | ⟨t,k,c,n,e1,e2⟩ | e1
  ·by_cases hi:id=h.nx
   ·rw[hbox,if_pos hi] at e2;cases e2;exact .inr hb0
   ·rw[hbox,if_neg hi] at e2;exact s.live b (.inl ⟨id,c,old id c e1 hi,e2⟩)
  ·exact s.live b (.inr (.inl ⟨t,k,c,n,e1,e2⟩))
  ·exact s.live b (.inr (.inr e1))
section
variable {P:Program} {ops:Array Oper} {p:Nat} {σ:St}
variable {g0:Gh} {h0:Hp} {w0:Wr}
def Jub(P:Program)(ops:Array Oper)(t:OT)(N:Nat)(σ':St)(d:Nat)(z:List AV)(σ1:St):Prop :=
 σ1.hp.nx+1<=N/\JbI P ops t (fun σ2=>St.cp N σ2 σ') ({σ1 with hp:={σ1.hp with boxes:=σ1.hp.boxes++[(σ1.hp.nx,z)],nx:=σ1.hp.nx+1}}.put (some d) (.ptr σ1.hp.nx 0))
theorem Xbt{t:OT}{N:Nat}{σ':St}{d:Nat}{z:List AV}{sl:List (Nat × AV)}{bx:List (Nat × List AV)}{tk:List (Nat × Tk)}{nx nt:Nat} :
  Jub P ops t N σ' d z ⟨sl,⟨bx,tk,nx⟩,nt⟩=(nx+1<=N/\JbI P ops t (fun σ2=>St.cp N σ2 σ') ((⟨sl,⟨bx++[(nx,z)],tk,nx+1⟩,nt⟩:St).put (some d) (.ptr nx 0))):=rfl
end
end Go.Ab
end
section
namespace Go.Ab
theorem Jnt.set{g:Gh}{h:Hp}{w:World}{b:Nat}{vs:Array Value}{ty:TypeId}{g0:Gh}{h0:Hp}{w0:World}(s:JW g0 h0 w0 g h w)(hb0:w0.heap.size<=b)(pd:Jnt g h w b vs ty)(vs':Array Value) :
  JW g0 h0 w0 g h (w.setRow b vs')/\Jnt g h (w.setRow b vs') b vs' ty:=by
 have r:=s.hp;have other:∀ k x,w.heap[k]? = some x->k≠b->(w.setRow b vs').heap[k]? = some x:=fun k x hk hne=>(setRow_other w b k vs' hne).trans hk;refine⟨⟨⟨r.nx,fun b' o v e'=>?_,fun i c e'=>?_,fun t k e'=>?_,r.bxbx,r.tktk,r.bxtk,r.fresh,r.cchUp (.refl g) rfl (fun b' es k e'=>other b' _ e' (fun q=>by subst q;rw[pd.row] at e';cases e')),r.celUp rfl (fun b' vs0 e0 q=>(Classical.em (b'=b)).elim (fun q'=>⟨vs',ty,by rw[q'];exact setRow_heap w b vs vs' ty _ pd.row⟩) (fun q'=>⟨vs0,e0,other b' _ q q'⟩)),r.lprUp rfl (fun t k e _=>⟨e,rfl⟩) (fun _ _ q=>Jc9 w b vs' q)⟩,s.ext,s.keeps.trans (Jai.setRow (F:=fun x=>x=b) w _ rfl) (fun x q=>.inr (by rw[q];exact hb0)),s.live,s.memo⟩,setRow_heap w b vs vs' ty _ pd.row,pd.dead,pd.mem⟩
 ·obtain⟨f1,f2⟩:=r.mem b' o v e';have hne:b'≠b:=fun q=>by subst q;rw[pd.mem o] at e';cases e'
  exact⟨by rw[World.cell?_of_block (w:=w) (setRow_other w b b' vs' hne)];exact f1,f2⟩
 ·obtain⟨b',vs0,ty0,f1,f2,f3⟩:=r.box i c e';exact⟨b',vs0,ty0,f1,other b' _ f2 (fun q=>pd.dead (.inl ⟨i,c,e',q ▸ f1⟩)),f3⟩
 ·obtain⟨b',c,vs0,ty0,f1,f2,f3⟩:=r.tok t k e';exact⟨b',c,vs0,ty0,f1,other b' _ f2 (fun q=>pd.dead (.inr (.inl ⟨t,k,c,_,e',q ▸ f1⟩))),f3⟩
def lop (o:Oper):Oper :=
 match o.op with
 | .alloc _=>{o with dst:=none,op:=.move (.const (.bool false))}
 | .store _ (.tmp d) y=>{o with dst:=some d,op:=.move y}
 | _=>o
theorem Jjq(o:Oper):(lop o).after=o.after:=by unfold lop;split <;> rfl
theorem Jjr(o:Oper):(lop o).guard=o.guard:=by unfold lop;split <;> rfl
def Jn1(d n N:Nat)(Q:St->Prop)(σ:St):Prop :=
 σ.hp.nx+1<=N/\match (lk σ.slots d).bind AV.cells with
 | some cs=>cs.length=n/\Q ({σ with hp:={σ.hp with boxes:=σ.hp.boxes++[(σ.hp.nx,cs)],nx:=σ.hp.nx+1}}.put (some d) (.ptr σ.hp.nx 0))
 | none=>False
theorem Xbs{d n N:Nat}{Q:St->Prop}{sl:List (Nat × AV)}{bx:List (Nat × List AV)}{tk:List (Nat × Tk)}{nx nt:Nat} :
  Jn1 d n N Q ⟨sl,⟨bx,tk,nx⟩,nt⟩=(nx+1<=N/\match (lk sl d).bind AV.cells with
 | some cs=>cs.length=n/\Q ((⟨sl,⟨bx++[(nx,cs)],tk,nx+1⟩,nt⟩:St).put (some d) (.ptr nx 0))
 | none=>False):=rfl
def Jqe(ops:Array Oper)(nt f s d:Nat)(t:TypeId):Bool :=
 (match ops[f]? with
 | some ⟨some d',.alloc t',_,_,after,none⟩=>t==t' && d==d' && decide (d<nt)
 | _=>false) &&
 (match ops[s]? with
 | some ⟨none,.store t' (.tmp d') _,_,_,after,none⟩=>t==t' && d==d' && after.toList.any fun e=>Region.binds .any e && e.on==f
 | _=>false) && (f != s) &&
 (List.range ops.size).all fun i=>let o:=ops.getD i default;(i==f || i==s || (match o.op with | .alloc _=>false | .store _ _ _=>false | _=>true) && !(o.dst==some d)) && !(looks (ops.map lop) (lop o)).contains d
section
variable {P:Program} {ops:Array Oper} {σ:St}
structure Jqf (ops:Array Oper) (nt f s d:Nat) (t:TypeId):Prop where
 al:∃ o,ops[f]? = some o/\o.dst=some d/\o.op = .alloc t/\o.guard=none
 st:∃ o y,ops[s]? = some o/\o.dst=none/\o.op = .store t (.tmp d) y/\o.guard=none/\∃ e∈o.after.toList,Region.binds .any e=true/\e.on=f
 ne:f≠s
 lt:d<nt
 other:∀ (i:Nat) (o:Oper),i≠f->i≠s->ops[i]? = some o->lop o=o/\o.dst≠some d
 look:∀ (i:Nat) (o:Oper),ops[i]? = some o->d∉looks (ops.map lop) (lop o)
theorem Jqf.of{nt f s d:Nat}{t:TypeId}(h:Jqe ops nt f s d t=true):Jqf ops nt f s d t:=by
 unfold Jqe at h;simp only[Bool.and_eq_true,bne_iff_ne,ne_eq] at h;obtain⟨⟨⟨h1,h2⟩,h3⟩,h4⟩:=h;have getD:∀ j o,ops[j]? = some o->ops.getD j default=o:=fun j o e=>by rw[Array.getD_eq_getD_getElem?,e];rfl
 simp only[List.all_eq_true,List.mem_range,Bool.and_eq_true,Bool.or_eq_true,beq_iff_eq,Bool.not_eq_true'] at h4;split at h1
 ·rename_i d' t' ty ps after ho;simp only[Bool.and_eq_true,beq_iff_eq,decide_eq_true_eq] at h1;obtain⟨⟨rfl,rfl⟩,hlt⟩:=h1;split at h2
  ·rename_i t'' d'' y ty' ps' after' ho';simp only[Bool.and_eq_true,beq_iff_eq,List.any_eq_true] at h2;obtain⟨⟨rfl,rfl⟩,e,he,hb,hon⟩:=h2;refine⟨⟨_,ho,rfl,rfl,rfl⟩,⟨_,y,ho',rfl,rfl,rfl,e,he,hb,hon⟩,h3,hlt,fun i o hf hs hi=>?_,fun i o hi=>?_⟩
   ·have hsz:=(Array.getElem?_eq_some_iff.1 hi).1;have:=(h4 i hsz).1;rw[getD i o hi] at this;rcases this with (q | q) | q
    ·exact absurd q hf
    ·exact absurd q hs
    ·obtain⟨q1,q2⟩:=q;refine⟨?_,fun e=>by rw[e] at q2;simp at q2⟩;unfold lop;split at q1
     ·cases q1
     ·cases q1
     ·rename_i n1 n2;split
      ·rename_i t ho;exact(n1 _ ho).elim
      ·rename_i t d y ho;exact(n2 _ _ _ ho).elim
      ·rfl
   ·have hsz:=(Array.getElem?_eq_some_iff.1 hi).1;have:=(h4 i hsz).2;rw[getD i o hi] at this;intro q;simp[q] at this
  ·cases h2
 ·cases h1
theorem JkN{i:Nat}{o1:Oper}(h:(ops.map lop)[i]? = some o1):∃ o,ops[i]? = some o/\lop o=o1:=by
 rw[Array.getElem?_map,Option.map_eq_some_iff] at h;exact h
theorem Jn2{i:Nat}{o:Oper}(h:ops[i]? = some o):(ops.map lop)[i]? = some (lop o):=by
 rw[Array.getElem?_map,h];rfl
variable {g0:Gh} {h0:Hp} {w0:Wr}
structure JB1 (σ:St) (g0:Gh) (w0:Wr) (f s d:Nat) (t0:TypeId) (n:Nat) (ws:List AV) (L:Nat->Bool) (g:Gh) (w:World) (a:Act):Prop where
 made:L f=true->∃ b row,Jnt g σ.hp w b row t0/\w0.w.heap.size<=b/\a.tmps[d]? = some (.pointer (some ⟨b,0,none⟩))/\row.size=n /\
  (L s=true->∃ v cs,ws[s]? = some v/\v.cells=some cs/\J9 g row.toList cs/\∀ x∈row.toList,x.oneCell'=true)
 late:L s=true->L f=true
theorem Jn3{ws:List AV}{Q:Exit->Act->World->Prop}{rest f s d N:Nat}{t0:TypeId}{ti:TI}{z:List AV}(hti:Jt P t0=some ti)(hz:ti.zero=some z)(hzl:z.length=ti.size)
  (hs:Ji5 (ops.map lop) σ.nt ops.size) (hA:Jqf ops σ.nt f s d t0) (hd:lk σ.slots d=none) (t:Jjn P (ops.map lop) (ops.map lop).toList σ ws)
  (hcs:∀ v,ws[s]? = some v->∃ cs,v.cells=some cs/\cs.length=ti.size)
  (fin:∀ g w a v cs,ws[s]? = some v->v.cells=some cs ->
   Jae g0 h0 w0 ({JaP σ ((((ops.map lop).toList).map fun o:Oper=>o.dst).zip ws) with hp:={σ.hp with boxes:=σ.hp.boxes++[(σ.hp.nx,cs)],nx:=σ.hp.nx+1}}.put (some d) (.ptr σ.hp.nx 0)) g w a->Q .normal a w) :
  ∀ (m:Nat) (listed:Array Bool) (fuel:Nat) (g:Gh) (w:World) (a a1:Act),listed.size=ops.size->JdP (ops.map lop) (Jah listed) ->
   ((List.range ops.size).filter fun j => !Jah listed j).length<=m->m<=fuel->Ji6 (ops.map lop) ops.size σ ws g0 h0 w0 (Jah listed) g w a1 ->
   JB1 σ g0 w0 f s d t0 ti.size ws (Jah listed) g w a->a.tmps.size=a1.tmps.size->Jcw w0.w w a.defers->(∀ i,i≠d->a.tmps[i]? = a1.tmps[i]?)->Ja5 P .any ops Q fuel listed a w:=by
 have hsz1:(ops.map lop).size=ops.size:=by simp
 have htk:(ops.map lop).toList.take ops.size=(ops.map lop).toList:=List.take_of_length_le (by simp);have tk:Jjn P (ops.map lop) ((ops.map lop).toList.take ops.size) σ ws:=by rw[htk];exact t
 have hdst:∀ j oj,(ops.map lop)[j]? = some oj->j≠s->oj.dst≠some d:=fun j oj hj hjs=>by
  obtain⟨o,ho,rfl⟩:=JkN hj;by_cases hjf:j=f
  ·subst hjf;obtain⟨o',ho',h1,h2,h3⟩:=hA.al;rw[ho] at ho';cases ho';simp[lop,h2]
  ·obtain⟨h1,h2⟩:=hA.other j o hjf hjs ho;rw[h1];exact h2
 intro m;induction m with
 | zero =>
  intro listed fuel g w a a1 hsz hc hm hf hh hl hts hdf hag;have hall:∀ j,j<ops.size->Jah listed j=true:=fun j hj=>by
   cases q:Jah listed j with
   | true=>rfl
   | false =>
    have:j∈(List.range ops.size).filter fun j => !Jah listed j:=by simp[hj,q]
    rw[List.eq_nil_of_length_eq_zero (Nat.le_zero.1 hm)] at this;cases this
  have hnil:Region.ready .any ops listed=[]:=by
   cases q:Region.ready .any ops listed with
   | nil=>rfl
   | cons i r =>
    have hi:i∈Region.ready .any ops listed:=by rw[q];simp
    obtain⟨o,ho,hoff,_⟩:=(Jba hsz).1 hi;have:=(Array.getElem?_eq_some_iff.1 ho).1;rw[hall i this] at hoff;cases hoff
  obtain⟨oS,y,hS,hSd,hSop,hSg,_⟩:=hA.st;have hsS:s<ops.size:=(Array.getElem?_eq_some_iff.1 hS).1;obtain⟨b,row,pd,hb0,htm,hrs,hrow⟩:=hl.made (hl.late (hall s hsS));obtain⟨v,cs,k1,k2,k3,k4⟩:=hrow (hall s hsS);obtain⟨st,hrep⟩:=pd.adopt hh.st hb0 cs k3 k4;have main:Q .normal a w:=by
   refine fin (g.addBox b) w a v cs k1 k2 ⟨?_,fun i u e=>?_,?_,hdf⟩
   ·rw[(Jfq _ _ _).1];exact st
   ·have hnt:(JaP σ (((ops.map lop).toList.map fun o:Oper=>o.dst).zip ws)).nt=σ.nt:=(JaW _ σ).2;simp only[St.put,hnt,hA.lt,if_true,lk] at e;split at e
    ·rename_i hid;cases e;subst hid;exact⟨_,htm,hrep⟩
    ·rename_i hid;have main:∃ x,a1.tmps[i]? = some x/\Rep g x u:=by
      rcases Jdi (nt:=σ.nt) _ σ i u rfl (fun k d w' q=>by
       have q':=Jat (i:=k) (m:=k+1) (by rw[List.getElem?_take,if_pos (by omega)];exact q);obtain⟨_,o1,q2,q3,_⟩:=q';have q2':(ops.map lop)[k]? = some o1:=by simpa using q2
       have:=(Array.getElem?_eq_some_iff.1 q2').1;exact hs.bound k o1 d (by omega) q2' q3) e with ⟨j,h1,h2⟩ | ⟨h1,h2⟩
      ·have q':=Jat (i:=j) (m:=j+1) (by rw[List.getElem?_take,if_pos (by omega)];exact h1);obtain⟨_,oj,q1,q2,q3⟩:=q';have q1':(ops.map lop)[j]? = some oj:=by simpa using q1
       have hjp:=(Array.getElem?_eq_some_iff.1 q1').1;refine hh.wrt j oj u i (hall j (by omega)) q1' q3 q2 (fun k q hjk hLk hk hd'=>?_);have hk':(ops.map lop).toList[k]? = some q:=by simpa using hk
       obtain⟨wk,hwk⟩:=t.at hk';have:=JaY (m:=k+1) (Nat.lt_succ_self k) hk' hwk;rw[List.getElem?_take,if_pos (by omega)] at this;exact h2 k q.dst wk hjk this hd'
      ·refine hh.old i u (fun k q hLk hk hd'=>?_) h2;have hk':(ops.map lop).toList[k]? = some q:=by simpa using hk
       obtain⟨wk,hwk⟩:=t.at hk';have:=JaY (m:=k+1) (Nat.lt_succ_self k) hk' hwk;rw[List.getElem?_take,if_pos (by omega)] at this;exact h1 k q.dst wk this hd'
     obtain⟨x,e1,e2⟩:=main;exact⟨x,by rw[hag i (fun q=>hid q.symm)];exact e1,e2.mono (Ext.addBox g b)⟩
   ·rw[(Jfq _ _ _).2];simp only[(JaW _ σ).2];rw[hts];exact hh.nt
  cases fuel with
  | zero=>exact⟨hnil,main⟩
  | succ fuel=>exact⟨fun _=>main,fun i hi=>by rw[hnil] at hi;cases hi⟩
 | succ m ih =>
  intro listed fuel g w a a1 hsz hc hm hf hh hl hts hdf hag;by_cases hz':((List.range ops.size).filter fun j => !Jah listed j).length<=m
  ·exact ih listed fuel g w a a1 hsz hc hz' (by omega) hh hl hts hdf hag
  ·obtain⟨fuel,rfl⟩:∃ f,fuel=f+1:=⟨fuel - 1,by omega⟩;have hex:∃ j,j<ops.size/\Jah listed j=false:=by
    cases q:(List.range ops.size).filter fun j => !Jah listed j with
    | nil=>rw[q] at hz';simp at hz'
    | cons x l =>
     have:x∈(List.range ops.size).filter fun j => !Jah listed j:=by rw[q];simp
     simp only[List.mem_filter,List.mem_range,Bool.not_eq_true'] at this;exact⟨x,this⟩
   refine⟨fun hnil=>?_,fun i hi=>?_⟩
   ·exfalso;have least:∀ n,∀ j,j<=n->j<ops.size->Jah listed j=false->False:=by
     intro n;induction n using Nat.strongRecOn with
     | _ n ihn =>
      intro j hjn hj hoff;have hready:j∈Region.ready .any ops listed:=(Jba hsz).2 ⟨ops[j],Array.getElem?_eq_getElem hj,hoff,fun e he hb=>by
       have hb':=hs.back j _ e hj (Jn2 (Array.getElem?_eq_getElem hj)) (by rw[Jjq];exact he) hb;cases q:Jah listed e.on with
       | true=>rfl
       | false=>exact(ihn (e.on) (by omega) e.on (Nat.le_refl _) (by omega) q).elim⟩
      rw[hnil] at hready;cases hready
    obtain⟨j,hj,hoff⟩:=hex;exact least j j (Nat.le_refl _) hj hoff
   ·obtain⟨o,ho,hoff,hedges⟩:=(Jba hsz).1 hi;have his:i<ops.size:=(Array.getElem?_eq_some_iff.1 ho).1;have ho1:=Jn2 ho;have hr:=JlD hc ho1 (fun e he hb=>hedges e (by rw[Jjq] at he;exact he) hb);have hon:Jah (listed.setIfInBounds i true)=fun j=>if j=i then true else Jah listed j:=funext (JfQ (by omega))
    have hc':JdP (ops.map lop) (Jah (listed.setIfInBounds i true)):=by
     rw[hon];intro k j hb hj;by_cases hki:k=i
     ·simp[hki]
     ·simp only[if_neg hki];by_cases hji:j=i
      ·subst hji;exact hr k hb
      ·simp only[if_neg hji] at hj;exact hc k j hb hj
    have hm':((List.range ops.size).filter fun j => !Jah (listed.setIfInBounds i true) j).length<=m:=by
     have:=Jck (f:=fun j => !Jah listed j) (f':=fun j => !Jah (listed.setIfInBounds i true) j) (l:=List.range ops.size) (fun x _ hx=>by
      rw[hon] at hx;by_cases hxi:x=i
      ·simp[hxi] at hx
      ·simpa [hxi] using hx) ⟨i,by simp[his],by simp[hoff],by rw[hon];simp⟩
     omega
    have hltL:∀ j,Jah listed j=true->j<ops.size:=fun j hj=>by
     rcases Nat.lt_or_ge j ops.size with q | q
     ·exact q
     ·unfold Jah at hj;rw[Array.getD_eq_getD_getElem?,Array.getElem?_eq_none (by omega)] at hj;cases hj
    have look:∀ r∈Ab.looks (ops.map lop) (lop o),∀ v,lk (JaP σ ((((((ops.map lop).toList.take ops.size)).map (·.dst)).zip ws).take i)).slots r=some v->∃ u,a.tmps[r]? = some u/\Rep g u v:=fun r hr' v e=>by
     obtain⟨u,e1,e2⟩:=hh.looks hs tk hc hltL his ho1 hoff hr hr' e;exact⟨u,by rw[hag r (fun q=>hA.look i o ho (q ▸ hr'))];exact e1,e2⟩
    obtain⟨v,hv⟩:=tk.at (JT his ho1);obtain⟨b,hguard,hval,hskip⟩:=tk.step i (lop o) v (JT his ho1) hv;let ρ:St:=⟨((Ab.looks (ops.map lop) (lop o)).filterMap fun r=>(lk (JaP σ ((((((ops.map lop).toList.take ops.size)).map (·.dst)).zip ws).take i)).slots r).map fun v=>(r,v)),σ.hp,σ.nt⟩
    have lkρ:∀ (l:List Nat) (f:Nat->Option AV) (s:Nat) (v:AV),lk (l.filterMap fun s=>(f s).map fun v=>(s,v)) s=some v->s∈l/\f s=some v:=by
     intro l f;induction l with
     | nil=>intro s v e;cases e
     | cons x l ih =>
      intro s v e;rw[List.filterMap_cons] at e;cases q:f x with
      | none=>simp only[q,Option.map_none] at e;obtain⟨h1,h2⟩:=ih s v e;exact⟨by simp[h1],h2⟩
      | some y =>
       simp only[q,Option.map_some,lk] at e;split at e
       ·rename_i hx;cases e;subst hx;exact⟨by simp,q⟩
       ·obtain⟨h1,h2⟩:=ih s v e;exact⟨by simp[h1],h2⟩
    have lkρ2:∀ (l:List Nat) (f:Nat->Option AV) (s:Nat),s∈l->lk (l.filterMap fun s=>(f s).map fun v=>(s,v)) s=f s:=by
     intro l f;induction l with
     | nil=>intro s h;cases h
     | cons x l ih =>
      intro s hmem;rw[List.filterMap_cons];by_cases hx:x=s
      ·subst hx;cases q:f x with
       | none =>
        simp only[Option.map_none];by_cases hm:x∈l
        ·rw[ih x hm,q]
        ·cases q2:lk (l.filterMap fun s=>(f s).map fun v=>(s,v)) x with
         | none=>rfl
         | some y=>exact absurd (lkρ l f x y q2).1 hm
       | some y=>simp[lk]
      ·have hm:s∈l:=by simp only[List.mem_cons] at hmem;rcases hmem with h1 | h1;exact absurd h1.symm hx;exact h1
       cases q:f x with
       | none=>simp only[Option.map_none];exact ih s hm
       | some y=>simp only[Option.map_some,lk,if_neg hx];exact ih s hm
    have fr:Jae g0 h0 w0 ρ g w a:=⟨hh.st,fun r v e=>by
     obtain⟨h1,h2⟩:=lkρ _ _ r v e;exact look r h1 v h2,by rw[hts];exact hh.nt,hdf⟩
    have hvρ:b=true->Ja0 P ρ (lop o) v:=fun hb=>Jdf (σ:=JaP σ ((((((ops.map lop).toList.take ops.size)).map (·.dst)).zip ws).take i)) (JaW _ σ).1 (fun x hx=>by
     cases x with
     | tmp r =>
      have hmem:r∈Ab.looks (ops.map lop) (lop o):=by
       simp only[Ab.looks,List.mem_append,List.mem_filterMap];exact .inl ⟨.tmp r,by simpa using hx,rfl⟩
      exact(lkρ2 _ (fun r=>lk (JaP σ ((((((ops.map lop).toList.take ops.size)).map (·.dst)).zip ws).take i)).slots r) r hmem).symm
     | const c=>rfl
     | «global» q=>rfl
     | func f=>rfl) (hval hb)
    by_cases hif:i=f
    ·
     subst hif;obtain⟨oA,hoA,hAd,hAop,hAg⟩:=hA.al;rw[hoA] at ho;cases ho;obtain⟨i',d',e1,e2,e3,e4,e5,e6⟩:=JD hti;obtain⟨zv,z1,z2⟩:=e6 z hz;have z3:=J9.cellsAV (g:=g) z2;obtain⟨k1,k2⟩:=Jnt.new hh.st.hp zv.cells t0;have hl1:lop o={o with dst:=none,op:=.move (.const (.bool false))}:=by unfold lop;rw[hAop]
     have hvb:b=true:=by
      rcases hguard with ⟨_,hb⟩ | ⟨j,want,c,hg,_⟩
      ·exact hb
      ·rw[Jjr,hAg] at hg;cases hg
     have hput:=hh.put hs hc hltL his ho1 hoff hv (u:=.bool false) (by
      have hq:=hvρ hvb;rw[hl1] at hq;have:v = .lit (.bool false):=by
       simp only[Ja0,qOp,Jz,ev,constAV] at hq;exact(Option.some.inj hq).symm
      subst this;exact .lit rfl) k1
     rw[hl1] at hput;unfold Jkx;simp only[hoA,Region.wanted,hAg,if_true];refine .inl ?_;unfold Oper.wp;rw[show (execOp a.eval o).run P w = .ok (.value (.pointer (some ⟨w.heap.size,0,none⟩))) (w.alloc (.cells zv.cells t0)) by simp[execOp,hAop,Instr.alloc,zeroValue,typeInfo,e1,z1,newVar,newRow]];show Ja5 P .any ops Q fuel (listed.setIfInBounds i true) (a.put o.dst _) _;rw[hAd];refine ih _ fuel g _ _ a1 (by simpa using hsz) hc' hm' (by omega) (by rw[hon];exact hput) ⟨fun _=>?_,fun q=>?_⟩ (by simp[Act.put,hts]) (by rw[JdY];exact hdf.alloc _) (fun k hk=>?_)
     ·refine⟨w.heap.size,zv.cells,k2,hh.st.keeps.size,?_,?_,fun q=>?_⟩
      ·have hlt2:d<a.tmps.size:=by rw[hts,hh.nt];exact hA.lt
       simp[Act.put,hlt2]
      ·have:=z3.1.1;simp at this;omega
      ·rw[hon] at q;simp only[if_neg (Ne.symm hA.ne)] at q;have:=hl.late q;rw[hoff] at this;cases this
     ·rw[hon];simp
     ·simp only[Act.put,Array.getElem?_setIfInBounds_ne (Ne.symm hk)];exact hag k hk
    ·by_cases hiS:i=s
     ·
      subst hiS;obtain⟨oS,y,hS,hSd,hSop,hSg,e,he,heb,heo⟩:=hA.st;rw[hS] at ho;cases ho;have hfon:Jah listed f=true:=by rw[<- heo];exact hedges e he heb
      obtain⟨bk,row,pd,hb0,htm,hrs,_⟩:=hl.made hfon;have hl1:lop o={o with dst:=some d,op:=.move y}:=by unfold lop;rw[hSop]
      have hvb:b=true:=by
       rcases hguard with ⟨_,hb⟩ | ⟨j,want,c,hg,_⟩
       ·exact hb
       ·rw[Jjr,hSg] at hg;cases hg
      have hev:ev ρ y=some v:=by
       have hq:=hvρ hvb;rw[hl1] at hq;simp only[Ja0,qOp,Jz] at hq;cases q:ev ρ y with
       | none=>rw[q] at hq;simp at hq
       | some v'=>rw[q] at hq;simpa using hq
      obtain⟨cs,hcs1,hcs2⟩:=hcs v hv;obtain⟨c1,c2⟩:=(fr.ev hev).cells hcs1;have hcl:(a.eval y).cells.size=cs.length:=by have:=c1.1;simpa using this
      have hrow':(row.toList.take 0++(a.eval y).cells.toList++row.toList.drop (0+(a.eval y).cells.toList.length)).toArray=(a.eval y).cells:=by
       have:row.toList.drop (0+(a.eval y).cells.toList.length)=[]:=List.drop_eq_nil_of_le (by simp;omega);rw[this];simp
      have hrun:=JdK (P:=P) (w:=w) hti pd.row (off:=0) c2 (by omega) (by omega);rw[hrow'] at hrun;obtain⟨k1,k2⟩:=pd.set hh.st hb0 (a.eval y).cells;have hd1:a.eval (.tmp d) = .pointer (some ⟨bk,0,none⟩):=by
       simp only[Act.eval,Array.getD_eq_getD_getElem?,htm,Option.getD_some]
      have hput:=Ji6.put (g':=g) (w':=w) hs hh hc hltL his ho1 hoff hv (fr.ev hev) (.refl hh.st.hp);rw[hl1] at hput;unfold Jkx;simp only[hS,Region.wanted,hSg,if_true];refine .inl ?_;unfold Oper.wp;rw[show (execOp a.eval o).run P w = .ok .skip (w.setRow bk (a.eval y).cells) by
       simp only[execOp,hSop,hd1,Sem.run_bind,hrun,Result.andThen_ok,Sem.run_pure]]
      show Ja5 P .any ops Q fuel (listed.setIfInBounds i true) (a.put o.dst undef) _;rw[hSd];show Ja5 P .any ops Q fuel (listed.setIfInBounds i true) a _;have hput':Ji6 (ops.map lop) ops.size σ ws g0 h0 w0 (fun j=>if j=i then true else Jah listed j) g (w.setRow bk (a.eval y).cells) (a1.put (some d) (a.eval y)) :=
       ⟨k1,hput.nt,hput.defers.setRow pd.row _,hput.wrt,hput.old⟩
      refine ih _ fuel g _ a _ (by simpa using hsz) hc' hm' (by omega) (by rw[hon];exact hput') ⟨fun _=>⟨bk,_,k2,hb0,htm,by omega,fun _=>⟨v,cs,hv,hcs1,c1,c2⟩⟩,fun q=>?_⟩ (by simp[Act.put,hts]) (hdf.setRow pd.row _) (fun k hk=>?_)
      ·rw[hon];simp only[if_neg (show f≠i from hA.ne)];exact hfon
      ·simp only[Act.put,Array.getElem?_setIfInBounds_ne (Ne.symm hk)];exact hag k hk
     ·obtain⟨hlo,hne⟩:=hA.other i o hif hiS ho;rw[hlo] at look hguard hval ho1 hvρ;have hwant:Region.wanted o (yielded ops a.tmps)=b:=by
       rcases hguard with ⟨hg,rfl⟩ | ⟨j,want,c,hg,hbit,rfl⟩
       ·simp[Region.wanted,hg]
       ·have:(yielded ops a.tmps j==some want)=(c==want):=by
         unfold Jar at hbit;split at hbit
         ·rename_i dj hdj;have hmem:dj∈Ab.looks (ops.map lop) o:=by simp only[Ab.looks,hg,List.mem_append];exact .inr (by rw[hdj];simp)
          have hdj':(ops[j]?).bind (·.dst)=some dj:=by
           obtain⟨oj,hoj,hoj2⟩:=Option.bind_eq_some_iff.1 hdj;obtain⟨oj',h1,rfl⟩:=JkN hoj;by_cases hjf:j=f
           ·subst hjf;obtain⟨oA,hoA,hAd,hAop,hAg⟩:=hA.al;rw[hoA] at h1;cases h1;simp[lop,hAop] at hoj2
           ·by_cases hjs:j=s
            ·subst hjs;obtain⟨oS,y,hS,hSd,hSop,hSg,_⟩:=hA.st;rw[hS] at h1;cases h1;simp[lop,hSop] at hoj2;subst hoj2;exact(hA.look i o ho (by rw[hlo];exact hmem)).elim
            ·obtain⟨q1,_⟩:=hA.other j oj' hjf hjs h1;rw[q1] at hoj2;rw[h1];exact hoj2
          split at hbit
          ·rename_i b' hl';cases hbit;obtain⟨u,e1,e2⟩:=look dj hmem _ hl';have:=(Rep.of_lit e2).1;subst this;simp[yielded,hdj',e1]
          ·rename_i hl';cases hbit;obtain⟨u,e1,e2⟩:=look dj hmem _ hl';cases e2;simp[yielded,hdj',e1]
          ·cases hbit
         ·cases hbit
        simp[Region.wanted,hg,this]
      have next:∀ u g' w',Rep g' u v->JW g σ.hp w g' σ.hp w'->Ja5 P .any ops Q fuel (listed.setIfInBounds i true) (a.put o.dst u) w':=by
       intro u g' w' hu st;have hput:=hh.put hs hc hltL his ho1 hoff hv hu st;refine ih _ fuel g' w' _ (a1.put o.dst u) (by simpa using hsz) hc' hm' (by omega) (by rw[hon];exact hput) ⟨fun q=>?_,fun q=>?_⟩ (by cases o.dst <;> simp[Act.put,hts]) (by rw[JdY];exact hdf.step hh.st.hp st) (fun k hk=>?_)
       ·rw[hon] at q;simp only[if_neg (Ne.symm hif)] at q;obtain⟨bk,row,pd,q1,q2,q3,q4⟩:=hl.made q;refine⟨bk,row,pd.step st,q1,?_,q3,fun q5=>?_⟩
        ·cases hod:o.dst with
         | none=>exact q2
         | some d2 =>
          have:d2≠d:=fun q=>hne (by rw[hod,q])
          simp only[Act.put,Array.getElem?_setIfInBounds_ne this];exact q2
        ·rw[hon] at q5;simp only[if_neg (Ne.symm hiS)] at q5;obtain⟨v',cs',r1,r2,r3,r4⟩:=q4 q5;exact⟨v',cs',r1,r2,r3.mono st.ext,r4⟩
       ·rw[hon] at q ⊢;simp only[if_neg (Ne.symm hiS),if_neg (Ne.symm hif)] at q ⊢;exact hl.late q
       ·cases hod:o.dst with
        | none=>exact hag k hk
        | some d2 =>
         by_cases hkd:d2=k
         ·subst hkd;have h1:a.tmps.size=a1.tmps.size:=hts;simp only[Act.put];rw[Array.getElem?_setIfInBounds_self,Array.getElem?_setIfInBounds_self,h1]
         ·simp only[Act.put,Array.getElem?_setIfInBounds_ne hkd];exact hag k hk
      unfold Jkx;simp only[ho];cases b with
      | true =>
       rw[if_pos hwant];refine .inl ?_;exact Jdg fr (hvρ rfl) next
      | false =>
       rw[if_neg (by rw[hwant];simp)];have:=hskip rfl;subst this;exact next undef g w (Rep.tup (cs := #[]) (as:=[]) rfl (by simp)) (.refl hh.st.hp)
theorem JrE{Q:Exit->St->Prop}{σ':St}{n:Nat}(N:Nat){id:Nat}{l:List Oper}(f s d:Nat)(t0:TypeId){ti:TI}{z:List AV}(hti:Jt P t0=some ti)(hz:ti.zero=some z)(hzl:z.length=ti.size)(hsd:lk σ.slots d=none)(hn:σ.nt=n)
  (hB:Jdh (l.map lop).toArray n l.length=true) (hA:Jqe l.toArray n f s d t0=true) (hm:P.follows .mixedOrders=true)
  (h:qwl P (l.map lop).toArray (l.map lop) (Jn1 d ti.size N fun σ2=>St.cp N σ2 σ') σ) (k:Q .normal σ'):Aw P (.region id l.toArray true) Q σ:=by
 intro g0 h0 w0 g w a r;obtain⟨ws,tr,hK⟩:=Jcj _ σ h;have hmap:l.toArray.map lop=(l.map lop).toArray:=by simp
 have hB':Jdh (l.map lop).toArray σ.nt l.length=true:=by rw[hn];exact hB
 have hA':=Jqf.of (show Jqe l.toArray σ.nt f s d t0=true by rw[hn];exact hA);have hs:Ji5 (l.toArray.map lop) σ.nt l.toArray.size:=by rw[hmap];exact Ji5.of_B hB'
 refine JaT hm ?_;have off:∀ j,Jah (Array.replicate l.toArray.size false) j=false:=fun j=>by
  unfold Jah;simp only[Array.getD_eq_getD_getElem?,Array.getElem?_replicate];split <;> rfl
 have hl1:(l.toArray.map lop).toList=l.map lop:=by simp
 have hdst:∀ j oj,(l.toArray.map lop)[j]? = some oj->j≠s->oj.dst≠some d:=fun j oj hj hjs=>by
  obtain⟨o,ho,rfl⟩:=JkN hj;by_cases hjf:j=f
  ·subst hjf;obtain⟨o',ho',h1,h2,h3⟩:=hA'.al;rw[ho] at ho';cases ho';simp[lop,h2]
  ·obtain⟨h1,h2⟩:=hA'.other j o hjf hjs ho;rw[h1];exact h2
 unfold Jn1 at hK;obtain⟨hNN,hK⟩:=hK;rw[(JaW _ σ).1] at hNN;have hval:∃ v cs,ws[s]? = some v/\v.cells=some cs/\cs.length=ti.size/\St.cp N ({JaP σ ((((l.toArray.map lop).toList).map fun o:Oper=>o.dst).zip ws) with hp:={σ.hp with boxes:=σ.hp.boxes++[(σ.hp.nx,cs)],nx:=σ.hp.nx+1}}.put (some d) (.ptr σ.hp.nx 0)) σ':=by
  cases hv:(lk (JaP σ (((l.map lop).map (·.dst)).zip ws)).slots d).bind AV.cells with
  | none=>rw[hv] at hK;exact hK.elim
  | some cs =>
   rw[hv] at hK;obtain⟨h1,h2⟩:=hK;obtain⟨v,e1,e2⟩:=Option.bind_eq_some_iff.1 hv;refine⟨v,cs,?_,e2,h1,?_⟩
   ·rcases Jdi (nt:=σ.nt) _ σ d v rfl (fun k d w' q=>by
     have q':=Jat (i:=k) (m:=k+1) (by rw[List.getElem?_take,if_pos (by omega)];exact q);obtain⟨_,o1,q2,q3,_⟩:=q';have q2':(l.toArray.map lop)[k]? = some o1:=by rw[<- hl1] at q2;simpa using q2
     have:=(Array.getElem?_eq_some_iff.1 q2').1;exact hs.bound k o1 d (by simpa using this) q2' q3) e1 with ⟨j,h1,h2⟩ | ⟨h1,h2⟩
    ·have q':=Jat (i:=j) (m:=j+1) (by rw[List.getElem?_take,if_pos (by omega)];exact h1);obtain⟨_,oj,q1,q2,q3⟩:=q';have q1':(l.toArray.map lop)[j]? = some oj:=by rw[<- hl1] at q1;simpa using q1
     by_cases hjs:j=s
     ·rw[<- hjs];exact q3
     ·exact(hdst j oj q1' hjs q2).elim
    ·rw[hsd] at h2;cases h2
   ·rw[hl1];rw[(JaW _ σ).1] at h2;exact h2
 obtain⟨v,cs,hv1,hv2,hv3,hcp⟩:=hval;have hg:g0.nx<=N:=by
  have h1:g0.nx<=g.nx:=r.st.ext.nx;have h2:=r.st.hp.nx;rw[h2] at h1;omega
 have out:∀ g w a v' cs',ws[s]? = some v'->v'.cells=some cs' ->
   Jae g0 h0 w0 ({JaP σ ((((l.toArray.map lop).toList).map fun o:Oper=>o.dst).zip ws) with hp:={σ.hp with boxes:=σ.hp.boxes++[(σ.hp.nx,cs')],nx:=σ.hp.nx+1}}.put (some d) (.ptr σ.hp.nx 0)) g w a->Jb5 g0 h0 w0 Q .normal a w:=by
  intro g w a v' cs' e1 e2 fr;rw[hv1] at e1;cases e1;rw[hv2] at e2;cases e2;obtain⟨g2,fr2⟩:=hcp g0 h0 w0 g w a hg fr;exact⟨σ',g2,k,fr2⟩
 refine Jn3 (Q:=Jb5 g0 h0 w0 Q) (rest:=0) (N:=N) hti hz hzl hs hA' hsd (by rw[hl1,hmap];exact tr) (fun v' e=>by rw[hv1] at e;cases e;exact⟨cs,hv2,hv3⟩) out _ _ _ g _ a a (by simp) (fun i j _ hj=>by rw[off] at hj;cases hj) (Nat.le_refl _) (by
   refine Nat.le_trans (List.length_filter_le _ _) ?_;simp) ⟨⟨r.st.hp.drew,r.st.ext,r.st.keeps.trans (Jai.drew (Ja2 g σ.hp) w) r.st.live,r.st.live,r.st.memo⟩,r.nt,r.defers,fun j o v s hL=>(by rw[off] at hL;cases hL),fun s v _ e=>r.slots s v e⟩ ⟨fun q=>(by rw[off] at q;cases q),fun q=>(by rw[off] at q;cases q)⟩ rfl r.defers (fun _ _=>rfl)
end
end Go.Ab
end
section
namespace Go.Ab
def Jsy (o:Oper):Bool :=
 match o.op with
 | .move _=>true
 | .assign _=>true
 | .load _ _=>true
 | .fieldAddr _ _ _=>true
 | .binOp _ _ _ _ _=>true
 | _=>false
theorem JdB{σ:St}{h:Hp}(x:Operand):ev {σ with hp:=h} x=ev σ x:=by cases x <;> rfl
section
variable {P:Program} {ops:Array Oper} {p:Nat} {σ:St} {g0:Gh} {h0:Hp} {w0:Wr}
theorem Ji6.putF{ws:List AV}{L:Nat->Bool}{g g':Gh}{w w':World}{a:Act}{c c':Hp}(hs:Ji5 ops σ.nt p)(hh:Ji6 ops p {σ with hp:=c} ws g0 h0 w0 L g w a)(hc:JdP ops L)(hlt:∀ j,L j=true->j<p)
  {i:Nat} {o:Oper} (hi:i<p) (ho:ops[i]? = some o) (hu:L i=false) {v:AV} (hw:ws[i]? = some v) {u:Value} (hv:Rep g' u v) (st:JW g c w g' c' w') :
  Ji6 ops p {σ with hp:=c'} ws g0 h0 w0 (fun j=>if j=i then true else L j) g' w' (a.put o.dst u):=by
 have keep:∀ s,o.dst≠some s->(a.put o.dst u).tmps[s]? = a.tmps[s]? := fun s hs'=>by
  cases hd:o.dst with
  | none=>rfl
  | some d =>
   have:d≠s:=fun q=>hs' (by rw[hd,q])
   simp only[Act.put,Array.getElem?_setIfInBounds_ne this]
 have hnt:a.tmps.size=σ.nt:=hh.nt;refine⟨hh.st.trans st,by cases hd:o.dst <;> simp[Act.put,hnt],by rw[JdY];exact hh.defers.step hh.st.hp st,fun j oj vj s hL hj hwj hd hlast=>?_,fun s v' hno e=>?_⟩
 ·by_cases hji:j=i
  ·subst hji;rw[ho] at hj;cases hj;rw[hw] at hwj;cases hwj;refine⟨u,?_,hv⟩;rw[hd];have hlt':s<a.tmps.size:=by rw[hnt];exact hs.bound j o s hi ho hd
   simp[Act.put,hlt']
  ·simp only[if_neg hji] at hL;have hne:o.dst≠some s:=fun hod=>by
    rcases Nat.lt_or_gt_of_ne hji with hlt' | hgt
    ·exact hlast i o hlt' (by simp) ho hod
    ·have:=hc i j (hs.sep i j o oj hgt (hlt j hL) ho hj (.inl ⟨s,hod,.inr hd⟩)) hL;rw[hu] at this;cases this
   obtain⟨u',e1,e2⟩:=hh.wrt j oj vj s hL hj hwj hd (fun k q hk hLk hq hqd=>hlast k q hk (by by_cases hki:k=i <;> simp[hki,hLk]) hq hqd)
   exact⟨u',(keep s hne).trans e1,e2.mono st.ext⟩
 ·have hne:o.dst≠some s:=hno i o (by simp) ho;obtain⟨u',e1,e2⟩:=hh.old s v' (fun j oj hL hj=>hno j oj (by by_cases hji:j=i <;> simp[hji,hL]) hj) e
  exact⟨u',(keep s hne).trans e1,e2.mono st.ext⟩
def hpF (listed:Array Bool)(f:Nat)(h hF:Hp):Hp:=if Jah listed f=true then hF else h
theorem Jig(σ:St)(h:Hp)(d:Option Tmp)(w:AV):({σ with hp:=h}:St).put d w={σ.put d w with hp:=h}:=by
 cases d with
 | none=>rfl
 | some d=>simp only[St.put];split <;> rfl
theorem Jd2:∀ (l m:List (Option Tmp × AV)) (σ:St),JaP σ (l++m)=JaP (JaP σ l) m
 | [],_,_=>rfl
 | (d,w) :: l,m,σ=>Jd2 l m (σ.put d w)
end
end Go.Ab
end
section
namespace Go.Ab
section
variable {P:Program} {ops:Array Oper} {σ:St}
variable {g0:Gh} {h0:Hp} {w0:Wr}
def Jsz(d n d2 n2 N:Nat)(Q:St->Prop)(σ:St):Prop :=
 σ.hp.nx+2<=N/\match (lk σ.slots d).bind AV.cells,(lk σ.slots d2).bind AV.cells with
 | some cs,some cs2=>cs.length=n/\cs2.length=n2/\Q (({σ with hp:={σ.hp with boxes:=σ.hp.boxes++[(σ.hp.nx,cs)]++[(σ.hp.nx+1,cs2)],nx:=σ.hp.nx+2}}.put (some d) (.ptr σ.hp.nx 0)).put (some d2) (.ptr (σ.hp.nx+1) 0))
 | _,_=>False
theorem Xcm{d n d2 n2 N:Nat}{Q:St->Prop}{sl:List (Nat × AV)}{bx:List (Nat × List AV)}{tk:List (Nat × Tk)}{nx nt:Nat} :
  Jsz d n d2 n2 N Q ⟨sl,⟨bx,tk,nx⟩,nt⟩=(nx+2<=N/\match (lk sl d).bind AV.cells,(lk sl d2).bind AV.cells with
 | some cs,some cs2=>cs.length=n/\cs2.length=n2/\Q (((⟨sl,⟨bx++[(nx,cs)]++[(nx+1,cs2)],tk,nx+2⟩,nt⟩:St).put (some d) (.ptr nx 0)).put (some d2) (.ptr (nx+1) 0))
 | _,_=>False):=rfl
end
end Go.Ab
end
section
namespace Go.Ab
section
variable {P:Program} {ops:Array Oper} {p:Nat} {σ:St} {g0:Gh} {h0:Hp} {w0:Wr}
def Jqg (P:Program)(σ:St)(o:Oper)(v:AV)(hF:Hp):Prop :=
 match o.op with
 | .call ⟨.builtin b,args,tys⟩=>Jb6 P σ (.call ⟨.builtin b,args,tys⟩)=some (some v,hF)
 | _=>False
theorem Jmu{σ':St}{o:Oper}{v:AV}{hF:Hp}(hp:σ.hp=σ'.hp)(h:∀ x∈o.op.operands,ev σ x=ev σ' x)(k:Jqg P σ o v hF):Jqg P σ' o v hF:=by
 unfold Jqg at *;split at k
 ·rename_i b args tys ho;rw[ho] at h;have h1:evL σ args.toList=evL σ' args.toList:=JcW fun y hy=>h y (by simp only[Op.operands,Call.operands,Array.mem_append];exact .inr (by simpa using hy))
  have e1:Jz P σ (.call ⟨.builtin b,args,tys⟩)=Jz P σ' (.call ⟨.builtin b,args,tys⟩):=JdO hp h;have e2:Jaf P σ (.call ⟨.builtin b,args,tys⟩)=Jaf P σ' (.call ⟨.builtin b,args,tys⟩):=by
   unfold Jaf;simp only[h1,hp]
  unfold Jb6 at *;rw[<- e1,<- e2,<- hp];exact k
 ·exact k.elim
theorem Jmv{g:Gh}{w:World}{a:Act}{o:Oper}(r:Jae g0 h0 w0 σ g w a){v:AV}{hF:Hp}(h:Jqg P σ o v hF){next:Act->World->Prop}{Q:Exit->Act->World->Prop}
  (hn:∀ u g' w',Rep g' u v->JW g σ.hp w g' hF w'->next (a.put o.dst u) w'):Oper.wp P o a w next Q:=by
 unfold Jqg at h;split at h
 ·rename_i b args tys ho;rw[<- ho] at h;unfold Jb6 at h;split at h
  ·rename_i v' hv;simp only[Option.some.injEq,Prod.mk.injEq] at h;obtain⟨rfl,rfl⟩:=h;obtain⟨u,e1,e2⟩:=Je3 r hv;unfold Oper.wp;rw[e1];exact hn u g w e2 (.refl r.st.hp)
  ·obtain⟨g',w',s,u,e1,e2⟩:=JcR r h;unfold Oper.wp;rw[e1];exact hn u g' w' e2 s
 ·exact h.elim
structure Jei (P:Program) (ops:Array Oper) (f:Nat) (hF:Hp) (l:List Oper) (σ:St) (ws:List AV):Prop where
 len:ws.length=l.length
 step:∀ i o w,l[i]? = some o->ws[i]? = some w->∃ b,(o.guard=none/\b=true\/∃ j want c,o.guard=some (j,want)/\Jar ops (JaP σ ((l.map (·.dst)).zip ws |>.take i)) j want=some c/\b=(c==want)) /\
  (b=true->(i<f->Ja0 P (JaP σ ((l.map (·.dst)).zip ws |>.take i)) o w/\(Bef ops i f\/Ja0 P {JaP σ ((l.map (·.dst)).zip ws |>.take i) with hp:=hF} o w)) /\
   (i=f->Jqg P (JaP σ ((l.map (·.dst)).zip ws |>.take i)) o w hF)/\(f<i->Ja0 P {JaP σ ((l.map (·.dst)).zip ws |>.take i) with hp:=hF} o w))/\(b=false->w = .tup []/\i≠f)
theorem Jei.at{f:Nat}{hF:Hp}{l:List Oper}{ws:List AV}(t:Jei P ops f hF l σ ws){i:Nat}{o:Oper}(h:l[i]? = some o):∃ w,ws[i]? = some w:=by
 have hi:i<ws.length:=by rw[t.len];exact(List.getElem?_eq_some_iff.1 h).1
 exact⟨ws[i],List.getElem?_eq_getElem hi⟩
theorem Ji6.looksG{f:Nat}{hF c:Hp}{ws:List AV}{L:Nat->Bool}{g:Gh}{w:World}{a:Act}(hs:Ji5 ops σ.nt p)(t:Jei P ops f hF (ops.toList.take p) σ ws)(hh:Ji6 ops p {σ with hp:=c} ws g0 h0 w0 L g w a)(hc:JdP ops L)(hlt:∀ j,L j=true->j<p)
  {i:Nat} {o:Oper} (hi:i<p) (ho:ops[i]? = some o) (hu:L i=false) (hr:∀ k,Bef ops k i->L k=true) {s:Nat} (hl:s∈Ab.looks ops o) {v:AV}
  (e:lk (JaP σ ((((ops.toList.take p).map (·.dst)).zip ws).take i)).slots s=some v):∃ u,a.tmps[s]? = some u/\Rep g u v:=by
 rcases Jdi (nt:=σ.nt) _ σ s v rfl (fun k d w' q=>by
  obtain⟨_,q1,q2,q3,_⟩:=Jat q;exact hs.bound k q1 d (JaB q2).1 (JaB q2).2 q3) e with ⟨j,h1,h2⟩ | ⟨h1,h2⟩
 ·obtain⟨hji,oj,q1,q2,q3⟩:=Jat h1;obtain⟨hjp,q1'⟩:=JaB q1;refine hh.wrt j oj v s (hr j (hs.sep j i oj o hji hi q1' ho (.inl ⟨s,q2,.inl hl⟩))) q1' q3 q2 (fun k q hjk hLk hk hd=>?_);rcases Nat.lt_trichotomy k i with hki | hki | hki
  ·obtain⟨wk,hwk⟩:=t.at (JT (by omega) hk);exact h2 k q.dst wk hjk (JaY hki (JT (by omega) hk) hwk) hd
  ·subst hki;rw[hu] at hLk;cases hLk
  ·have:=hc i k (hs.sep i k o q hki (hlt k hLk) ho hk (.inr ⟨s,hd,hl⟩)) hLk;rw[hu] at this;cases this
 ·refine hh.old s v (fun k q hLk hk hd=>?_) h2;rcases Nat.lt_trichotomy k i with hki | hki | hki
  ·obtain⟨wk,hwk⟩:=t.at (JT (by omega) hk);exact h1 k q.dst wk (JaY hki (JT (by omega) hk) hwk) hd
  ·subst hki;rw[hu] at hLk;cases hLk
  ·have:=hc i k (hs.sep i k o q hki (hlt k hLk) ho hk (.inr ⟨s,hd,hl⟩)) hLk;rw[hu] at this;cases this
theorem Je6{ws:List AV}{Q:Exit->Act->World->Prop}{rest f:Nat}{hF:Hp}(hs:Ji5 ops σ.nt p)(hf:f<p)(hfb:∀ i,f<i->i<p->Bef ops f i)(ht:∀ i j,i<p->p<=j->j<ops.size->Bef ops i j)(t:Jei P ops f hF (ops.toList.take p) σ ws)
  (fin:∀ g w a listed fuel,listed.size=ops.size->(∀ j,Jah listed j=decide (j<p))->rest<=fuel->Jae g0 h0 w0 {JaP σ (((ops.toList.take p).map (·.dst)).zip ws) with hp:=hF} g w a->Ja5 P .any ops Q fuel listed a w) :
  ∀ (m:Nat) (listed:Array Bool) (fuel:Nat) (g:Gh) (w:World) (a:Act),listed.size=ops.size->(∀ j,Jah listed j=true->j<p)->JdP ops (Jah listed) ->
   ((List.range p).filter fun j => !Jah listed j).length<=m->m+rest<=fuel->Ji6 ops p {σ with hp:=hpF listed f σ.hp hF} ws g0 h0 w0 (Jah listed) g w a->Ja5 P .any ops Q fuel listed a w:=by
 intro m;induction m with
 | zero =>
  intro listed fuel g w a hsz hlt hc hm hfu hh;have hall:∀ j,j<p->Jah listed j=true:=fun j hj=>by
   cases q:Jah listed j with
   | true=>rfl
   | false =>
    have:j∈(List.range p).filter fun j => !Jah listed j:=by simp[hj,q]
    rw[List.eq_nil_of_length_eq_zero (Nat.le_zero.1 hm)] at this;cases this
  have hon:∀ j,Jah listed j=decide (j<p):=fun j=>by
   by_cases hj:j<p
   ·simp[hj,hall j hj]
   ·cases q:Jah listed j with
    | true=>exact absurd (hlt j q) hj
    | false=>simp[hj]
  have hcur:hpF listed f σ.hp hF=hF:=by simp[hpF,hall f hf]
  rw[hcur] at hh;refine fin g w a listed fuel hsz hon (by omega) ⟨hh.st,fun s v e=>?_,?_,hh.defers⟩
  ·rcases Jdi (nt:=σ.nt) _ σ s v rfl (fun k d w' q=>by
    have q':=Jat (i:=k) (m:=k+1) (by rw[List.getElem?_take,if_pos (by omega)];exact q);obtain⟨_,o1,q2,q3,_⟩:=q';exact hs.bound k o1 d (JaB q2).1 (JaB q2).2 q3) e with ⟨j,h1,h2⟩ | ⟨h1,h2⟩
   ·have q':=Jat (i:=j) (m:=j+1) (by rw[List.getElem?_take,if_pos (by omega)];exact h1);obtain⟨_,oj,q1,q2,q3⟩:=q';obtain⟨hjp,q1'⟩:=JaB q1;refine hh.wrt j oj v s (hall j hjp) q1' q3 q2 (fun k q hjk hLk hk hd=>?_);have hkp:=hlt k hLk;obtain⟨wk,hwk⟩:=t.at (JT hkp hk);have:=JaY (m:=k+1) (Nat.lt_succ_self k) (JT hkp hk) hwk;rw[List.getElem?_take,if_pos (by omega)] at this;exact h2 k q.dst wk hjk this hd
   ·refine hh.old s v (fun k q hLk hk hd=>?_) h2;have hkp:=hlt k hLk;obtain⟨wk,hwk⟩:=t.at (JT hkp hk);have:=JaY (m:=k+1) (Nat.lt_succ_self k) (JT hkp hk) hwk;rw[List.getElem?_take,if_pos (by omega)] at this;exact h1 k q.dst wk this hd
  ·show a.tmps.size=(JaP σ _).nt;rw[(JaW _ σ).2];exact hh.nt
 | succ m ih =>
  intro listed fuel g w a hsz hlt hc hm hfu hh;by_cases hz:((List.range p).filter fun j => !Jah listed j).length<=m
  ·exact ih listed fuel g w a hsz hlt hc hz (by omega) hh
  ·obtain⟨fuel,rfl⟩:∃ f,fuel=f+1:=⟨fuel - 1,by omega⟩;have hex:∃ j,j<p/\Jah listed j=false:=by
    cases q:(List.range p).filter fun j => !Jah listed j with
    | nil=>rw[q] at hz;simp at hz
    | cons x l =>
     have:x∈(List.range p).filter fun j => !Jah listed j:=by rw[q];simp
     simp only[List.mem_filter,List.mem_range,Bool.not_eq_true'] at this;exact⟨x,this⟩
   refine⟨fun hnil=>?_,fun i hi=>?_⟩
   ·exfalso;have least:∀ n,∀ j,j<=n->j<p->Jah listed j=false->False:=by
     intro n;induction n using Nat.strongRecOn with
     | _ n ihn =>
      intro j hjn hj hoff;have hjs:j<ops.size:=Nat.lt_of_lt_of_le hj hs.le;have hready:j∈Region.ready .any ops listed:=(Jba hsz).2 ⟨ops[j],Array.getElem?_eq_getElem hjs,hoff,fun e he hb=>by
       have hb':=hs.back j _ e hj (Array.getElem?_eq_getElem hjs) he hb;cases q:Jah listed e.on with
       | true=>rfl
       | false=>exact(ihn (e.on) (by omega) e.on (Nat.le_refl _) (by omega) q).elim⟩
      rw[hnil] at hready;cases hready
    obtain⟨j,hj,hoff⟩:=hex;exact least j j (Nat.le_refl _) hj hoff
   ·obtain⟨o,ho,hoff,hedges⟩:=(Jba hsz).1 hi;have his:i<ops.size:=(Array.getElem?_eq_some_iff.1 ho).1;have hr:=JlD hc ho hedges;have hip:i<p:=by
     rcases Nat.lt_or_ge i p with h1 | h1
     ·exact h1
     ·obtain⟨j,hj,hjoff⟩:=hex;have:=hr j (ht j i hj h1 his);rw[hjoff] at this;cases this
    obtain⟨v,hv⟩:=t.at (JT hip ho);obtain⟨b,hguard,hval,hskip⟩:=t.step i o v (JT hip ho) hv;have look:∀ s∈Ab.looks ops o,∀ v,lk (JaP σ ((((ops.toList.take p).map (·.dst)).zip ws).take i)).slots s=some v->∃ u,a.tmps[s]? = some u/\Rep g u v :=
     fun s hs' v e=>hh.looksG hs t hc hlt hip ho hoff hr hs' e
    have hwant:Region.wanted o (yielded ops a.tmps)=b:=by
     rcases hguard with ⟨hg,rfl⟩ | ⟨j,want,c,hg,hbit,rfl⟩
     ·simp[Region.wanted,hg]
     ·have:(yielded ops a.tmps j==some want)=(c==want):=by
       unfold Jar at hbit;split at hbit
       ·rename_i d hd;split at hbit
        ·rename_i b' hl;cases hbit;have hmem:d∈Ab.looks ops o:=by simp only[Ab.looks,hg,List.mem_append];exact .inr (by rw[hd];simp)
         obtain⟨u,e1,e2⟩:=look d hmem _ hl;have:=(Rep.of_lit e2).1;subst this;simp[yielded,hd,e1]
        ·rename_i hl;cases hbit;have hmem:d∈Ab.looks ops o:=by simp only[Ab.looks,hg,List.mem_append];exact .inr (by rw[hd];simp)
         obtain⟨u,e1,e2⟩:=look d hmem _ hl;cases e2;simp[yielded,hd,e1]
        ·cases hbit
       ·cases hbit
      simp[Region.wanted,hg,this]
    have hon:Jah (listed.setIfInBounds i true)=fun j=>if j=i then true else Jah listed j:=funext (JfQ (by omega))
    have nextc:∀ c' u g' w',hpF (listed.setIfInBounds i true) f σ.hp hF=c'->Rep g' u v->JW g (hpF listed f σ.hp hF) w g' c' w'->Ja5 P .any ops Q fuel (listed.setIfInBounds i true) (a.put o.dst u) w':=by
     intro c' u g' w' hcur hu st;refine ih _ fuel g' w' _ (by simpa using hsz) (fun j hj=>?_) ?_ ?_ (by omega) ?_
     ·rw[hon] at hj;by_cases hji:j=i
      ·omega
      ·simp only[if_neg hji] at hj;exact hlt j hj
     ·rw[hon];intro k j hb hj;by_cases hki:k=i
      ·simp[hki]
      ·simp only[if_neg hki];by_cases hji:j=i
       ·subst hji;exact hr k hb
       ·simp only[if_neg hji] at hj;exact hc k j hb hj
     ·have:=Jck (f:=fun j => !Jah listed j) (f':=fun j => !Jah (listed.setIfInBounds i true) j) (l:=List.range p) (fun x _ hx=>by
       rw[hon] at hx;by_cases hxi:x=i
       ·simp[hxi] at hx
       ·simpa [hxi] using hx) ⟨i,by simp[hip],by simp[hoff],by rw[hon];simp⟩
      omega
     ·rw[hcur,hon];exact hh.putF hs hc hlt hip ho hoff hv hu st
    let ρ:Hp->St:=fun c=>⟨((Ab.looks ops o).filterMap fun s=>(lk (JaP σ ((((ops.toList.take p).map (·.dst)).zip ws).take i)).slots s).map fun v=>(s,v)),c,σ.nt⟩
    have lkρ:∀ (l:List Nat) (f:Nat->Option AV) (s:Nat) (v:AV),lk (l.filterMap fun s=>(f s).map fun v=>(s,v)) s=some v->s∈l/\f s=some v:=by
     intro l f;induction l with
     | nil=>intro s v e;cases e
     | cons x l ih =>
      intro s v e;rw[List.filterMap_cons] at e;cases q:f x with
      | none=>simp only[q,Option.map_none] at e;obtain⟨h1,h2⟩:=ih s v e;exact⟨by simp[h1],h2⟩
      | some y =>
       simp only[q,Option.map_some,lk] at e;split at e
       ·rename_i hx;cases e;subst hx;exact⟨by simp,q⟩
       ·obtain⟨h1,h2⟩:=ih s v e;exact⟨by simp[h1],h2⟩
    have lkρ2:∀ (l:List Nat) (f:Nat->Option AV) (s:Nat),s∈l->lk (l.filterMap fun s=>(f s).map fun v=>(s,v)) s=f s:=by
     intro l f;induction l with
     | nil=>intro s h;cases h
     | cons x l ih =>
      intro s hmem;rw[List.filterMap_cons];by_cases hx:x=s
      ·subst hx;cases q:f x with
       | none =>
        simp only[Option.map_none];by_cases hm:x∈l
        ·rw[ih x hm,q]
        ·cases q2:lk (l.filterMap fun s=>(f s).map fun v=>(s,v)) x with
         | none=>rfl
         | some y=>exact absurd (lkρ l f x y q2).1 hm
       | some y=>simp[lk]
      ·have hm:s∈l:=by simp only[List.mem_cons] at hmem;rcases hmem with h1 | h1;exact absurd h1.symm hx;exact h1
       cases q:f x with
       | none=>simp only[Option.map_none];exact ih s hm
       | some y=>simp only[Option.map_some,lk,if_neg hx];exact ih s hm
    have fr:Jae g0 h0 w0 (ρ (hpF listed f σ.hp hF)) g w a:=⟨hh.st,fun s v e=>by
     obtain⟨h1,h2⟩:=lkρ _ _ s v e;exact look s h1 v h2,hh.nt,hh.defers⟩
    have evs:∀ c:Hp,∀ x∈o.op.operands,ev ({JaP σ ((((ops.toList.take p).map (·.dst)).zip ws).take i) with hp:=c}:St) x=ev (ρ c) x:=fun c x hx=>by
     cases x with
     | tmp s =>
      have hmem:s∈Ab.looks ops o:=by
       simp only[Ab.looks,List.mem_append,List.mem_filterMap];exact .inl ⟨.tmp s,by simpa using hx,rfl⟩
      exact(lkρ2 _ (fun s=>lk (JaP σ ((((ops.toList.take p).map (·.dst)).zip ws).take i)).slots s) s hmem).symm
     | const c=>rfl
     | «global» q=>rfl
     | func f=>rfl
    have same:({JaP σ ((((ops.toList.take p).map (·.dst)).zip ws).take i) with hp:=σ.hp}:St)=JaP σ ((((ops.toList.take p).map (·.dst)).zip ws).take i):=by
     conv=>rhs;rw[show JaP σ ((((ops.toList.take p).map (·.dst)).zip ws).take i)={JaP σ ((((ops.toList.take p).map (·.dst)).zip ws).take i) with hp:=(JaP σ ((((ops.toList.take p).map (·.dst)).zip ws).take i)).hp} from rfl]
     rw[(JaW _ σ).1]
    unfold Jkx;simp only[ho];by_cases hif:i=f
    ·subst hif;have hcur:hpF listed i σ.hp hF=σ.hp:=by simp[hpF,hoff]
     have hcur':hpF (listed.setIfInBounds i true) i σ.hp hF=hF:=by simp[hpF,hon]
     cases b with
     | false=>exact absurd rfl (hskip rfl).2
     | true =>
      rw[if_pos hwant];refine .inl ?_;have e1:=(hval rfl).2.1 rfl;rw[<- same] at e1;rw[hcur] at fr nextc;exact Jmv fr (Jmu (σ':=ρ σ.hp) (by exact rfl) (evs σ.hp) e1) fun u g' w' hu st=>nextc hF u g' w' hcur' hu st
    ·have hcur':hpF (listed.setIfInBounds i true) f σ.hp hF=hpF listed f σ.hp hF:=by simp[hpF,hon,Ne.symm hif]
     cases b with
     | true =>
      rw[if_pos hwant];refine .inl ?_;have e1:Ja0 P {JaP σ ((((ops.toList.take p).map (·.dst)).zip ws).take i) with hp:=hpF listed f σ.hp hF} o v:=by
       have hv:=hval rfl;cases q:Jah listed f with
       | true =>
        have:hpF listed f σ.hp hF=hF:=by simp[hpF,q]
        rw[this];rcases Nat.lt_trichotomy i f with h1 | h1 | h1
        ·rcases(hv.1 h1).2 with q1 | q1
         ·have:=hc i f q1 q;rw[hoff] at this;cases this
         ·exact q1
        ·exact absurd h1 hif
        ·exact hv.2.2 h1
       | false =>
        have:hpF listed f σ.hp hF=σ.hp:=by simp[hpF,q]
        rw[this,same];rcases Nat.lt_trichotomy i f with h1 | h1 | h1
        ·exact(hv.1 h1).1
        ·exact absurd h1 hif
        ·have:=hr f (hfb i h1 hip);rw[q] at this;cases this
      exact Jdg fr (Jdf (σ':=ρ (hpF listed f σ.hp hF)) (by exact rfl) (evs _) e1) fun u g' w' hu st=>nextc _ u g' w' hcur' hu st
     | false =>
      rw[if_neg (by rw[hwant];simp)];have:=(hskip rfl).1;subst this;exact nextc _ undef g w hcur' (Rep.tup (cs := #[]) (as:=[]) rfl (by simp)) (.refl hh.st.hp)
def still(o:Oper):Bool :=
 match o.op with
 | .move _=>true
 | _=>false
theorem Jmw{P:Program}{σ:St}{o:Oper}{v:AV}{h:Hp}(hs:still o=true)(k:Ja0 P σ o v):Ja0 P {σ with hp:=h} o v:=by
 unfold still at hs;split at hs
 ·rename_i x ho;unfold Ja0 at k ⊢;rw[ho] at k ⊢;simp only[qOp,Jz,JdB] at k ⊢;exact k
 ·cases hs
def JsA (P:Program)(o:Oper)(x:Option (Option AV × Hp))(K:St->Prop)(σ:St):Prop :=
 match x with
 | some (some v,h)=>K (St.put {σ with hp:=h} o.dst v)
 | _=>False
theorem Xcl{P:Program}{o:Oper}{v:AV}{h:Hp}{K:St->Prop}{σ:St}:JsA P o (some (some v,h)) K σ=K (St.put {σ with hp:=h} o.dst v):=rfl
def JdQ(o:Oper):Bool :=
 match o.op with
 | .call ⟨.builtin _,_,_⟩=>true
 | _=>false
def Juc(ops:Array Oper)(f:Nat):Bool :=
 let B:=(Jqa ops.toList []).getD f []
 (ops.getD f default).guard.isNone && JdQ (ops.getD f default) && (List.range f).all fun i=>still (ops.getD i default) || B.contains i
theorem JbN{Q:Exit->St->Prop}{σ':St}{n:Nat}(N:Nat){id:Nat}{l:List Oper}(f:Nat)(t:OT){o:Oper}(hof:l[f]? = some o)(hn:σ.nt=n)(hB:Jdh l.toArray n (f+1)=true)(hT:Je5 l.toArray (f+1)=true)(hSG:Juc l.toArray f=true)(hm:P.follows .mixedOrders=true)
  (hok:okT l.toArray t (Array.ofFn fun j:Fin l.length=>decide (j.val<f+1)) none=true) (hd:decide (f+1+t.depth<=l.length)=true)
  (h:qwl P l.toArray (l.take f) (fun σ1=>JsA P o (Jb6 P σ1 o.op) (fun σ2=>σ2.hp.nx<=N/\JbI P l.toArray t (fun σ3=>St.cp N σ3 σ') σ2) σ1) σ) (k:Q .normal σ'):Aw P (.region id l.toArray true) Q σ:=by
 intro g0 h0 w0 g w a r;have hB':Jdh l.toArray σ.nt (f+1)=true:=by rw[hn];exact hB
 have hs:=Ji5.of_B hB';have getD:∀ j o,l[j]? = some o->l.toArray.getD j default=o:=fun j o e=>by simp[Array.getD_eq_getD_getElem?,e]
 unfold Juc at hSG;simp only[Bool.and_eq_true,List.all_eq_true,List.mem_range,Bool.or_eq_true,List.contains_eq_mem,decide_eq_true_eq] at hSG;obtain⟨⟨hgf,hbt⟩,hstill⟩:=hSG;rw[getD f o hof] at hgf hbt;have hgf:o.guard=none:=by simpa using hgf
 have hlp:f+1<=l.length:=by have:=hs.le;simpa using this
 have hfl:f<l.length:=by omega
 have hfp:f<f+1:=Nat.lt_succ_self f;have hfb:∀ i,f<i->i<f+1->Bef l.toArray f i:=fun i h1 h2=>by omega
 obtain⟨ws1,t1,h1⟩:=Jcj _ _ h;have hlen1:(l.take f).length=f:=by rw[List.length_take];omega
 have hL:l.take (f+1)=l.take f++[o]:=by
  obtain⟨hfl',e3⟩:=List.getElem?_eq_some_iff.1 hof;rw[List.take_add_one,hof];rfl
 generalize hl1:l.take f=l1 at hL t1 h1 hlen1;have hw1:ws1.length=f:=by rw[t1.len,hlen1]
 generalize hi1:(l1.map (·.dst)).zip ws1=it1 at h1 t1;have hit1:it1.length=f:=by rw[<- hi1];simp[hlen1,hw1]
 unfold JsA at h1;split at h1;rotate_left
 ·exact h1.elim
 rename_i x rv hF hx;have hitems:((l.take (f+1)).map (·.dst)).zip (ws1++[rv])=it1++[(o.dst,rv)]:=by
  rw[hL,List.map_append,List.zip_append (by simp[hlen1,hw1]),hi1];rfl
 have tF:Jei P l.toArray f hF (l.toArray.toList.take (f+1)) σ (ws1++[rv]):=by
  show Jei P l.toArray f hF (l.take (f+1)) σ _;refine⟨by rw[hL];simp[hlen1,hw1],fun i o' v e1 e2=>?_⟩;rw[hitems];rw[hL] at e1;rcases Nat.lt_trichotomy i f with hi | hi | hi
  ·rw[List.getElem?_append_left (by omega)] at e1 e2;rw[List.take_append_of_le_length (by omega)];obtain⟨b,hg,hv,hk⟩:=t1.step i o' v e1 e2;rw[hi1] at hv hg;have hol:l[i]? = some o':=by rw[<- hl1,List.getElem?_take,if_pos hi] at e1;exact e1
   refine⟨b,hg,fun hb=>⟨fun _=>⟨hv hb,?_⟩,fun h=>by omega,fun h=>by omega⟩,fun hb=>⟨hk hb,by omega⟩⟩;have hst:=hstill i hi;rw[getD i o' hol] at hst;rcases hst with hst | hst
   ·exact .inr (Jmw hst (hv hb))
   ·exact .inl (JbH (ops:=l.toArray) l.toArray.toList [] (by simp) (by simp) (by simp) f i (by simpa using hst))
  ·subst hi;rw[List.getElem?_append_right (by omega),hlen1,Nat.sub_self] at e1;rw[List.getElem?_append_right (by omega),hw1,Nat.sub_self] at e2;simp only[List.getElem?_cons_zero,Option.some.injEq] at e1 e2;subst e1;subst e2;rw[List.take_append_of_le_length (by omega),List.take_of_length_le (by omega)];refine⟨true,.inl ⟨hgf,rfl⟩,fun _=>⟨fun h=>by omega,fun _=>?_,fun h=>by omega⟩,fun h=>by cases h⟩;unfold JdQ at hbt;split at hbt
   ·rename_i b args tys ho;unfold Jqg;rw[ho] at hx;rw[ho];exact hx
   ·cases hbt
  ·rw[List.getElem?_append_right (by omega),hlen1] at e1;have:1<=i - f:=by omega
   rw[List.getElem?_eq_none (by simpa using this)] at e1;cases e1
 have hKs:({JaP σ it1 with hp:=hF}:St).put o.dst rv={JaP σ (((l.toArray.toList.take (f+1)).map (·.dst)).zip (ws1++[rv])) with hp:=hF}:=by
  show _={JaP σ (((l.take (f+1)).map (·.dst)).zip (ws1++[rv])) with hp:=hF};rw[hitems,Jd2,Jig];rfl
 rw[hKs] at h1;obtain⟨hNN,hW⟩:=h1;refine JaT hm ?_;have off:∀ j,Jah (Array.replicate l.toArray.size false) j=false:=fun j=>by
  unfold Jah;simp only[Array.getD_eq_getD_getElem?,Array.getElem?_replicate];split <;> rfl
 have hd':f+1+t.depth<=l.length:=by simpa using hd
 have hcur:hpF (Array.replicate l.toArray.size false) f σ.hp hF=σ.hp:=by unfold hpF;rw[if_neg (by rw[off];exact Bool.false_ne_true)]
 refine Je6 (rest:=t.depth) hs hfp hfb (fun i j hi hj hn=>Jci hT hi hj hn) tF ?_ (f+1) _ _ g _ a (by simp) (fun j hj=>by rw[off] at hj;cases hj) (fun i j _ hj=>by rw[off] at hj;cases hj) (by
   refine Nat.le_trans (List.length_filter_le _ _) ?_;simp) (by simpa using hd') (by rw[hcur];exact⟨⟨r.st.hp.drew,r.st.ext,r.st.keeps.trans (Jai.drew (Ja2 g σ.hp) w) r.st.live,r.st.live,r.st.memo⟩,r.nt,r.defers,fun j o v s hL=>(by rw[off] at hL;cases hL),fun s v _ e=>r.slots s v e⟩)
 intro g w a listed fuel hsz hon hf fr;have hg:g0.nx<=N:=by
  have h1:g0.nx<=g.nx:=fr.st.ext.nx;rw[fr.st.hp.nx] at h1;exact Nat.le_trans h1 hNN
 have hl:listed=Array.ofFn fun j:Fin l.length=>decide (j.val<f+1):=by
  apply Array.ext
  ·simpa using hsz
  ·intro j h1 h2;have:=hon j;unfold Jah at this;simp only[Array.getD_eq_getD_getElem?,Array.getElem?_eq_getElem h1,Option.getD_some] at this;simp[this]
 subst hl;have base:=Jdj (Q:=fun e σ1=>match e with | .normal=>St.cp N σ1 σ' | _=>False) (g0:=g0) (h0:=h0) (w0:=w0) t.depth t _ _ g w a fuel (Nat.le_refl _) hok hW fr hf;have mono:∀ (n:Nat) (listed:Array Bool) (a:Act) (w:World),Ja5 P .any l.toArray (Jb5 g0 h0 w0 fun e σ1=>match e with | .normal=>St.cp N σ1 σ' | _=>False) n listed a w->Ja5 P .any l.toArray (Jb5 g0 h0 w0 Q) n listed a w:=by
  have post:∀ e a w,Jb5 g0 h0 w0 (fun e σ1=>match e with | .normal=>St.cp N σ1 σ' | _=>False) e a w->Jb5 g0 h0 w0 Q e a w:=fun e a w ⟨σ2,g2,k1,k2⟩=>by
   cases e with
   | normal=>obtain⟨g3,k3⟩:=k1 g0 h0 w0 g2 w a hg k2;exact⟨σ',g3,k,k3⟩
   | _=>exact k1.elim
  intro n;induction n with
  | zero=>intro listed a w h;exact⟨h.1,post _ _ _ h.2⟩
  | succ n ih =>
   intro listed a w h;refine⟨fun q=>post _ _ _ (h.1 q),fun i hi=>?_⟩;have:=h.2 i hi;unfold Jkx at this ⊢;split
   ·rename_i ho;rw[ho] at this;exact ih _ _ _ this
   ·rename_i o ho;rw[ho] at this;simp only at this;split
    ·rename_i hw;rw[if_pos hw] at this;rcases this with h1 | h1
     ·exact .inl (Jcb (fun a w=>ih _ a w) post h1)
     ·exact h1.elim
    ·rename_i hw;rw[if_neg hw] at this;exact ih _ _ _ this
 exact mono _ _ _ _ base
end
end Go.Ab
end
section
namespace Go.Ab
end Go.Ab
end
section
namespace Go.Ab
section
variable {P:Program} {σ:St}
def Hp.cut(h:Hp)(t:Nat)(k:Tk)(m:Nat):Hp:={h with toks:=dl h.toks t++[(h.nx,⟨k.xs.take m,k.fz,k.s⟩)],nx:=h.nx+1}
theorem JcX{K:St->Prop}{d:Option Tmp}{t t2:TypeId}{x y:Operand}{pos:String}{af:Array Edge}{gu:Option (Nat × Bool)}{tk n:Nat}{m:Int}{ki:IntKind}{k:Tk}{ti te:TI}{e:TypeId}
  (hx:ev σ x=some (.own tk n)) (hy:ev σ y=some (.lit (.int ki m))) (ht:Jt P t=some ti) (hkd:ti.kd = .sl e) (hte:Jt P e=some te) (hs:k.s=te.size)
  (hl:lk σ.hp.toks tk=some k) (hn:n=k.xs.length) (h0:0<=m) (hm:m<=n) (hf:k.fz<=m.toNat)
  (h:K (St.put {σ with hp:=σ.hp.cut tk k m.toNat} d (.own σ.hp.nx m.toNat))):JnO P ⟨d,.slice t x none (some y) none,t2,pos,af,gu⟩ none K σ:=by
 intro g0 h0' w0 g w a Q r;have hv:=r.ev hx;have hs0:=r.st.hp.tokO hl hv;obtain⟨b,c,vs,ty,q1,q2,q3,q4,q5,q6,q7,q8,q9⟩:=r.st.hp.tokS hl hs0;obtain⟨d',u1,u2⟩:=J1 (w:=w) ht;rw[u2] at hkd;have:=JbF hkd;subst this;have hyv:=(Rep.of_lit (r.ev hy)).1;have hst:=JW.cutTok r.st.hp hl hs0 (n:=m.toNat) (by omega) hf q1;have hnx:g.nx=σ.hp.nx:=r.st.hp.nx;generalize hu:a.eval x=u at hv;cases hv with
 | @own ad n' cap t' p1 p2 =>
  obtain⟨_,_,p3⟩:=p2 b c _ q1;obtain⟨rfl,rfl⟩:=p3 hn;have hb:(Instr.sliceBounds true n cap none (some (a.eval y)) none).run P w = .ok (0,m.toNat,cap) w:=by
   simp only[Instr.sliceBounds,Sem.run_bind,Sem.run_pure,Result.andThen_ok,hyv];rw[JdI h0 (by omega)];rfl
  have hrun:(execOp a.eval ⟨d,.slice t x none (some y) none,t2,pos,af,gu⟩).run P w = .ok (.value (.slice (some ⟨b,0,none⟩) m.toNat cap)) w:=by
   simp only[execOp,Sem.run_bind,Instr.sliceAt,u1,hu,Result.andThen_ok,Instr.slice,Option.map_none,Option.map_some,hb,J3 hte,Sem.run_pure,Nat.zero_mul,Nat.sub_zero];by_cases hc:cap=0
   ·rw[if_pos hc]
   ·rw[if_neg hc];rfl
  unfold Oper.wp;rw[hrun];refine⟨_,_,h,(r.heap hst).put d ?_⟩;refine .own (by simp only[Gh.cutTok];omega) (fun b' c' m' q=>?_);simp only[Gh.cutTok] at q;have h1:tk<g.nx:=p1;rw[if_neg (by omega),if_pos hnx.symm] at q;cases q;exact⟨by omega,Nat.le_refl _,fun _=>⟨rfl,rfl⟩⟩
end
theorem Jbv{P:Program}{σ:St}{c:Code}{Q:Exit->St->Prop}{A:Type}(S:A->St)(Inv:A->Prop)(μ:A->Nat)(a0:A)(hw:St.wk σ (S a0))(h0:Inv a0)
  (round:∀ x,Inv x->awp P c (JlC (fun σ1=>∃ x',Inv x'/\μ x'<μ x/\St.wk σ1 (S x')) Q) (S x)):Aw P (.loop c) Q σ:=by
 intro g0 h0' w0 g w a r;refine wpIn_loop_ghost (fun m a w=>∃ x g,m=μ x/\Inv x/\Jae g0 h0' w0 (S x) g w a) (μ a0) (let ⟨g',r'⟩:=hw g0 h0' w0 g w a r;⟨a0,g',rfl,h0,r'⟩) (fun m a w ⟨x,g,hm,hI,k2⟩=>?_);refine wpIn_mono (Jax c (round x hI) g0 h0' w0 g w a k2) fun e a' w' hh=>?_
 obtain⟨σ1,g1,q1,q2⟩:=hh;cases e with
 | normal =>
  obtain⟨x',l1,l0,l2⟩:=q1;obtain⟨g2,q3⟩:=l2 g0 h0' w0 g1 w' a' q2;exact⟨μ x',by omega,x',g2,rfl,l1,q3⟩
 | _=>exact⟨σ1,g1,q1,q2⟩
end Go.Ab
end
section
namespace Go.Ab
def Jak (j:Nat):List AV:=[.lit (.int .i64 j)]
def JY:Nat × List Nat->List AV
 | (_,[])=>[.vec [] true]
 | (t,_ :: l)=>[.own t (l.length+1)]
def Jud:Nat × List Nat->List (Nat × Tk)
 | (_,[])=>[]
 | (t,x :: l)=>[(t,⟨(x :: l).map Jak,0,1⟩)]
def Jjs(A:List (Nat × List Nat)):List (Nat × Tk):=A.flatMap Jud
def Jep(l:List Nat):List AV:=[.vec (l.map Jak) false]
def vG (G:List (List Nat)):AV:=.vec (G.map Jep) false
def nT (T0:List (Nat × Tk))(gt:Nat)(A:List (Nat × List Nat)):List (Nat × Tk):=T0++(gt,⟨A.map JY,0,1⟩) :: Jjs A
structure NOk (A:List (Nat × List Nat)) (lo hi:Nat):Prop where
 rg:∀ p∈A,p.2≠[]->lo<=p.1/\p.1<hi
 ne:∀ (i j:Nat) p q,A[i]? = some p->A[j]? = some q->p.2≠[]->q.2≠[]->p.1=q.1->i=j
theorem Jbo{t:Nat}{l:List Nat}(h:l≠[]):JY (t,l)=[.own t l.length]:=by
 cases l with
 | nil=>exact absurd rfl h
 | cons x l=>rfl
theorem Jho{t x:Nat}{l:List Nat}:JY (t,l++[x])=[.own t (l.length+1)]:=by
 rw[Jbo (by simp)];simp
theorem Jn4{t:Nat}{l:List Nat}(h:l≠[]):Jud (t,l)=[(t,⟨l.map Jak,0,1⟩)]:=by
 cases l with
 | nil=>exact absurd rfl h
 | cons x l=>rfl
theorem Jqh{p:Nat × List Nat}{q:Nat × Tk}(h:q∈Jud p):p.2≠[]/\q=(p.1,⟨p.2.map Jak,0,1⟩):=by
 obtain⟨t,l⟩:=p;cases l with
 | nil=>simp[Jud] at h
 | cons x l=>simp only[Jud,List.mem_singleton] at h;exact⟨by simp,h⟩
theorem JcY{A:List (Nat × List Nat)}{q:Nat × Tk}(h:q∈Jjs A):∃ (i:Nat) (l:List Nat),A[i]? = some (q.1,l)/\l≠[]/\q.2=⟨l.map Jak,0,1⟩:=by
 obtain⟨p,h1,h2⟩:=List.mem_flatMap.1 h;obtain⟨h3,h4⟩:=Jqh h2;obtain⟨i,h5⟩:=List.getElem?_of_mem h1;subst h4;exact⟨i,p.2,h5,h3,rfl⟩
theorem JcH{α:Type}{l:List α}{i j:Nat}{x y:α}(hi:i<l.length)(e:(l.set i x)[j]? = some y):(i=j/\y=x)\/(i≠j/\l[j]? = some y):=by
 rw[List.getElem?_set] at e;by_cases h:i=j
 ·rw[if_pos h,if_pos hi] at e;exact .inl ⟨h,(Option.some.inj e).symm⟩
 ·rw[if_neg h] at e;exact .inr ⟨h,e⟩
theorem Jdx{α:Type}:∀ {l:List (Nat × α)} {p:Nat × α},p∈l->∃ v,lk l p.1=some v
 | (k,x) :: l,p,h=>by
  simp only[lk];by_cases hk:k=p.1
  ·exact⟨x,if_pos hk⟩
  ·rw[if_neg hk];rcases List.mem_cons.1 h with h | h
   ·subst h;exact absurd rfl hk
   ·exact Jdx h
theorem JC{α:Type}(a b:List (Nat × α))(j:Nat):lk (a++b) j=(lk a j).or (lk b j):=by
 induction a with
 | nil=>simp[lk]
 | cons p a ih=>obtain⟨k,v⟩:=p;by_cases h:k=j <;> simp[lk,h,ih]
section
variable {A:List (Nat × List Nat)} {lo hi:Nat}
theorem NOk.lk(h:NOk A lo hi){i t:Nat}{l:List Nat}(e:A[i]? = some (t,l))(hl:l≠[]):Ab.lk (Jjs A) t=some ⟨l.map Jak,0,1⟩:=by
 have hm:(t,(⟨l.map Jak,0,1⟩:Tk))∈Jjs A:=List.mem_flatMap.2 ⟨(t,l),List.mem_of_getElem? e,by rw[Jn4 hl];simp⟩;obtain⟨v,hv⟩:=Jdx hm;obtain⟨j,l',f1,f2,f3⟩:=JcY (JaD hv);have:=h.ne i j _ _ e f1 hl f2 rfl;subst this;rw[e] at f1;cases f1;simp only at hv f3;rw[hv,f3]
theorem NOk.lk_no(h:NOk A lo hi){t:Nat}(ht:t<lo\/hi<=t):Ab.lk (Jjs A) t=none:=by
 cases e:Ab.lk (Jjs A) t with
 | none=>rfl
 | some v =>
  obtain⟨j,l',f1,f2,f3⟩:=JcY (JaD e);have:=h.rg _ (List.mem_of_getElem? f1) f2;omega
def TOk (T0:List (Nat × Tk))(gt:Nat):Prop:=∀ p∈T0,p.1<gt/\lk T0 p.1=some p.2
theorem TOk.no{T0:List (Nat × Tk)}{gt t:Nat}(h:TOk T0 gt)(ht:gt<=t):Ab.lk T0 t=none:=by
 cases e:Ab.lk T0 t with
 | none=>rfl
 | some v=>have:=(h _ (JaD e)).1;simp only at this;omega
variable {T0:List (Nat × Tk)} {gt:Nat}
theorem Jmx{t:Nat}(h:t<gt)(hok:NOk A lo hi)(hlo:gt<lo):lk (nT T0 gt A) t=lk T0 t:=by
 unfold nT;rw[JC];simp only[lk];rw[if_neg (by omega),hok.lk_no (.inl (by omega))];simp
theorem JkO(h0:TOk T0 gt):lk (nT T0 gt A) gt=some ⟨A.map JY,0,1⟩:=by
 unfold nT;rw[JC,h0.no (Nat.le_refl _)];simp[lk]
theorem Jfs(h0:TOk T0 gt)(hok:NOk A lo hi)(hlo:gt<lo){i t:Nat}{l:List Nat}(e:A[i]? = some (t,l))(hl:l≠[]):lk (nT T0 gt A) t=some ⟨l.map Jak,0,1⟩:=by
 have:=hok.rg _ (List.mem_of_getElem? e) hl;simp only at this;unfold nT;rw[JC,h0.no (by omega)];simp only[lk];rw[if_neg (by omega),hok.lk e hl];rfl
theorem Jue(h0:TOk T0 gt)(hok:NOk A lo hi)(hlo:gt<lo)(hle:lo<=hi):lk (nT T0 gt A) hi=none:=by
 unfold nT;rw[JC,h0.no (by omega)];simp only[lk];rw[if_neg (by omega),hok.lk_no (.inr (Nat.le_refl _))];rfl
theorem Jih(h0:TOk T0 gt)(hok:NOk A lo hi)(hlo:gt<lo){i t x:Nat}{l:List Nat}(e:A[i]? = some (t,l))(hl:l≠[]) :
  NOk (A.set i (t,l++[x])) lo hi /\
  ∀ p∈nT T0 gt (A.set i (t,l++[x])),lk (up (up (nT T0 gt A) t ⟨l.map Jak++[Jak x],0,1⟩) gt ⟨(A.map JY).set i [.own t (l.length+1)],0,1⟩) p.1=some p.2:=by
 have hi':i<A.length:=(List.getElem?_eq_some_iff.1 e).1;have hr:=hok.rg _ (List.mem_of_getElem? e) hl;simp only at hr;have hok':NOk (A.set i (t,l++[x])) lo hi:=by
  refine⟨fun p hp hne=>?_,fun a b p q ea eb hp hq hpq=>?_⟩
  ·rcases List.mem_or_eq_of_mem_set hp with h1 | h1
   ·exact hok.rg p h1 hne
   ·subst h1;exact hr
  ·rcases JcH hi' ea with ⟨h1,h2⟩ | ⟨h1,h2⟩ <;> rcases JcH hi' eb with ⟨h3,h4⟩ | ⟨h3,h4⟩
   ·omega
   ·subst h2;have:=hok.ne i b _ _ e h4 hl hq hpq;omega
   ·subst h4;have:=hok.ne a i _ _ h2 e hp hl hpq;omega
   ·exact hok.ne a b _ _ h2 h4 hp hq hpq
 refine⟨hok',fun p hp=>?_⟩;unfold nT at hp;rw[JH];rcases List.mem_append.1 hp with hp | hp
 ·obtain⟨q1,q2⟩:=h0 p hp;rw[if_neg (by omega),JH,if_neg (by omega),Jmx q1 hok hlo];exact q2
 ·rcases List.mem_cons.1 hp with hp | hp
  ·subst hp;simp only[if_true,JH];rw[if_neg (by omega),JkO h0];simp only[Option.map_some,List.map_set,Jho]
  ·obtain⟨j,l',f1,f2,f3⟩:=JcY hp;have hpr:=hok'.rg _ (List.mem_of_getElem? f1) f2;simp only at hpr;rw[if_neg (by omega),JH];rcases JcH hi' f1 with ⟨hij,f1⟩ | ⟨hij,f1⟩
   ·have h1:p.1=t:=congrArg Prod.fst f1;have h2:l'=l++[x]:=congrArg Prod.snd f1;rw[if_pos h1.symm,Jfs h0 hok hlo e hl];simp[f3,h2,List.map_append]
   ·have:p.1≠t:=fun q=>hij (hok.ne i j _ _ e f1 hl f2 q.symm)
    rw[if_neg (fun q=>this q.symm),Jfs h0 hok hlo f1 f2,f3]
theorem Jii(h0:TOk T0 gt)(hok:NOk A lo hi)(hlo:gt<lo)(hle:lo<=hi){i t x:Nat}(e:A[i]? = some (t,[])) :
  NOk (A.set i (hi,[x])) lo (hi+1) /\
  ∀ p∈nT T0 gt (A.set i (hi,[x])),lk (up (nT T0 gt A++[(hi,⟨[Jak x],0,1⟩)]) gt ⟨(A.map JY).set i [.own hi 1],0,1⟩) p.1=some p.2:=by
 have hi':i<A.length:=(List.getElem?_eq_some_iff.1 e).1;have hok':NOk (A.set i (hi,[x])) lo (hi+1):=by
  refine⟨fun p hp hne=>?_,fun a b p q ea eb hp hq hpq=>?_⟩
  ·rcases List.mem_or_eq_of_mem_set hp with h1 | h1
   ·have:=hok.rg p h1 hne;omega
   ·subst h1;simp only;omega
  ·rcases JcH hi' ea with ⟨h1,h2⟩ | ⟨h1,h2⟩ <;> rcases JcH hi' eb with ⟨h3,h4⟩ | ⟨h3,h4⟩
   ·omega
   ·subst h2;have:=hok.rg _ (List.mem_of_getElem? h4) hq;simp only at hpq;omega
   ·subst h4;have:=hok.rg _ (List.mem_of_getElem? h2) hp;simp only at hpq;omega
   ·exact hok.ne a b _ _ h2 h4 hp hq hpq
 refine⟨hok',fun p hp=>?_⟩;unfold nT at hp;rw[JH];rcases List.mem_append.1 hp with hp | hp
 ·obtain⟨q1,q2⟩:=h0 p hp;rw[if_neg (by omega),JC,Jmx q1 hok hlo,q2];rfl
 ·rcases List.mem_cons.1 hp with hp | hp
  ·subst hp;simp only[if_true,JC,JkO h0];simp only[Option.some_or,Option.map_some,List.map_set,JY,List.length_nil,Nat.zero_add]
  ·obtain⟨j,l',f1,f2,f3⟩:=JcY hp;have hpr:=hok'.rg _ (List.mem_of_getElem? f1) f2;simp only at hpr;rw[if_neg (by omega),JC];rcases JcH hi' f1 with ⟨hij,f1⟩ | ⟨hij,f1⟩
   ·have h2:p.1=hi:=congrArg Prod.fst f1;have h3:l'=[x]:=congrArg Prod.snd f1;rw[h2,Jue h0 hok hlo hle];simp[lk,f3,h3]
   ·rw[Jfs h0 hok hlo f1 f2,f3];rfl
end
theorem JW.freezes{w:World}:∀ (B:List (Nat × List (List AV))) {g:Gh} {h:Hp},JZ g h w->(∀ p∈B,∃ fz s,lk h.toks p.1=some ⟨p.2,fz,s⟩) ->
  ∃ g' h',JW g h w g' h' w/\h'.nx=h.nx/\h'.boxes=h.boxes/\g'.tok=g.tok/\(∀ j k,lk h.toks j=some k->∃ fz,lk h'.toks j=some ⟨k.xs,fz,k.s⟩)/\(∀ j k,lk h.toks j=some k->(∀ p∈B,p.1≠j)->lk h'.toks j=some k) /\
   ∀ p∈B,Cv g g' (.own p.1 p.2.length) (.vec p.2 false)
 | [],g,h,r,_=>⟨g,h,.refl r,rfl,rfl,rfl,fun j k e=>⟨k.fz,e⟩,fun j k e _=>e,fun p hp=>by cases hp⟩
 | b :: B,g,h,r,hB=>by
  obtain⟨fz,s,hb⟩:=hB b (by simp);obtain⟨g1,s1,c1,t1⟩:=JW.freeze r hb;simp only at s1 c1;obtain⟨g2,h2,s2,n2,b2,t2,l2,m2,c2⟩:=JW.freezes B (g:=g1) (h:={h with toks:=up h.toks b.1 ⟨b.2,b.2.length,s⟩}) s1.hp (fun p hp=>by
   obtain⟨fz',s',e⟩:=hB p (by simp[hp]);simp only[JH];by_cases hbp:b.1=p.1
   ·rw[if_pos hbp,hb];rw[<- hbp,hb] at e;have:=congrArg Tk.xs (Option.some.inj e);simp only at this;exact⟨_,_,by rw[Option.map_some,this]⟩
   ·rw[if_neg hbp];exact⟨fz',s',e⟩)
  have hnx:g1.nx=g.nx:=by rw[s1.hp.nx,r.nx]
  refine⟨g2,h2,s1.trans s2,n2,b2,t2.trans t1,fun j k e=>?_,fun j k e hj=>?_,fun p hp=>?_⟩
  ·by_cases hj:b.1=j
   ·subst hj;rw[hb] at e;cases e;exact l2 b.1 ⟨b.2,b.2.length,s⟩ (by simp[JH,hb])
   ·exact l2 j k (by simp only[JH];rw[if_neg hj];exact e)
  ·exact m2 j k (by simp only[JH];rw[if_neg (hj b (by simp))];exact e) (fun p hp=>hj p (by simp[hp]))
  ·rcases List.mem_cons.1 hp with hp | hp
   ·subst hp;intro v hv;exact(c1 v hv).mono s2.ext
   ·intro v hv;refine c2 p hp v ?_;cases hv with
    | own p1 p2=>exact .own (by rw[hnx];exact p1) (fun b' c1 m e=>p2 b' c1 m (by rw[<- t1];exact e))
theorem St.wk_nestG{sl sl':List (Nat × AV)}{bx:List (Nat × List AV)}{X T':List (Nat × Tk)}{gt:Nat}{A:List (Nat × List Nat)}{hi nt:Nat}(hg:lk X gt=some ⟨A.map JY,0,1⟩)
  (hr:∀ (i t:Nat) l,A[i]? = some (t,l)->l≠[]->lk X t=some ⟨l.map Jak,0,1⟩/\t≠gt) (hT:∀ p∈T',lk X p.1=some p.2/\p.1≠gt/\∀ (i t:Nat) l,A[i]? = some (t,l)->l≠[]->t≠p.1)
  (hb:∀ p∈bx,lk bx p.1=some p.2) (hs:∀ p∈sl',lk sl p.1=some p.2\/(lk sl p.1=some (.own gt A.length)/\p.2=vG (A.map (·.2)))) :
  St.wk ⟨sl,⟨bx,X,hi⟩,nt⟩ ⟨sl',⟨bx,T',hi⟩,nt⟩:=by
 intro g0 h0' w0 g w a r;let B:List (Nat × List (List AV)):=(A.filter fun p => !p.2.isEmpty).map fun p=>(p.1,p.2.map Jak)
 have hBm:∀ q∈B,∃ (i:Nat) (l:List Nat),A[i]? = some (q.1,l)/\l≠[]/\q.2=l.map Jak:=fun q hq=>by
  obtain⟨p,h1,h2⟩:=List.mem_map.1 hq;obtain⟨h3,h4⟩:=List.mem_filter.1 h1;obtain⟨i,h5⟩:=List.getElem?_of_mem h3;subst h2;refine⟨i,p.2,h5,fun q=>?_,rfl⟩;simp[q] at h4
 obtain⟨g1,h1,s1,n1,b1,t1,l1,m1,c1⟩:=JW.freezes B r.st.hp (fun p hp=>by
  obtain⟨i,l,f1,f2,f3⟩:=hBm p hp;exact⟨0,1,by rw[f3];exact(hr i _ l f1 f2).1⟩)
 simp only at n1 b1;have hgt:=m1 gt _ hg (fun p hp=>by
  obtain⟨i,l,f1,f2,f3⟩:=hBm p hp;exact(hr i _ l f1 f2).2)
 obtain⟨g2,s2,c2,t2⟩:=JW.freeze s1.hp hgt;simp only[List.length_map] at s2 c2;have st:=s1.trans s2;have nx2:g2.nx=g.nx:=by rw[st.hp.nx,r.st.hp.nx];exact n1
 have tk2:g2.tok=g.tok:=t2.trans t1;have back:∀ v t n,Rep g2 v (.own t n)->Rep g v (.own t n):=fun v t n hv=>by
  cases hv with
  | own p1 p2=>exact .own (by rw[<- nx2];exact p1) (fun b' c1 m e=>p2 b' c1 m (by rw[tk2];exact e))
 have cell:∀ p∈A,CvL g2 g2 (JY p) (Jep p.2):=fun p hp=>by
  obtain⟨t,l⟩:=p;cases l with
  | nil=>exact Jv (JbG (.refl g2) [] true) JaV
  | cons x l =>
   refine Jv (fun v hv=>?_) JaV;have hm:(t,(x :: l).map Jak)∈B:=List.mem_map.2 ⟨(t,x :: l),List.mem_filter.2 ⟨hp,by simp⟩,rfl⟩;have:=c1 _ hm v (by simpa using back v _ _ hv);exact this.mono s2.ext
 have rows:CvR g2 g2 (A.map JY) ((A.map (·.2)).map Jep):=by
  have gen:∀ A':List (Nat × List Nat),(∀ p∈A',p∈A)->CvR g2 g2 (A'.map JY) ((A'.map (·.2)).map Jep):=by
   intro A';induction A' with
   | nil=>intro _;exact .nil
   | cons p A' ih =>
    intro hA;refine .cons (cell p (hA p (by simp))) ?_ (ih (fun q hq=>hA q (by simp[hq])));obtain⟨t,l⟩:=p;cases l <;> rfl
  exact gen A (fun _ h=>h)
 have cg:Cv g g2 (.own gt A.length) (vG (A.map (·.2))):=fun v hv=>by
  refine JrD (.refl g2) rows v (c2 v ?_);exact hv.mono s1.ext
 refine⟨g2,r.conv (σ':=⟨sl',⟨bx,T',hi⟩,nt⟩) st n1.symm rfl (fun p hp=>?_) (fun p hp=>?_) (fun p hp=>?_)⟩
 ·rcases hs p hp with e | ⟨e,e'⟩
  ·exact⟨_,e,JF st.ext _⟩
  ·exact⟨_,e,by rw[e'];exact cg⟩
 ·exact⟨_,by simp only;rw[b1];exact hb p hp,Jbe (.refl g2) _⟩
 ·obtain⟨q1,q2,q3⟩:=hT p hp;refine⟨p.2,?_,Jks.refl g2 p.2⟩;simp only[JH];rw[if_neg (Ne.symm q2)];exact m1 p.1 p.2 q1 (fun q hq=>by
   obtain⟨i,l,f1,f2,f3⟩:=hBm q hq;exact q3 i _ l f1 f2)
theorem St.wk_nest{sl sl':List (Nat × AV)}{bx:List (Nat × List AV)}{T0:List (Nat × Tk)}{gt:Nat}{A:List (Nat × List Nat)}{lo hi nt:Nat}(h0:TOk T0 gt)(hok:NOk A lo hi)(hlo:gt<lo)
  (hb:∀ p∈bx,lk bx p.1=some p.2) (hs:∀ p∈sl',lk sl p.1=some p.2\/(lk sl p.1=some (.own gt A.length)/\p.2=vG (A.map (·.2)))) :
  St.wk ⟨sl,⟨bx,nT T0 gt A,hi⟩,nt⟩ ⟨sl',⟨bx,T0,hi⟩,nt⟩:=by
 have hid:∀ (i t:Nat) l,A[i]? = some (t,l)->l≠[]->lo<=t:=fun i t l e hl=>(hok.rg _ (List.mem_of_getElem? e) hl).1;refine St.wk_nestG (JkO h0) (fun i t l e hl=>⟨Jfs h0 hok hlo e hl,by have:=hid i t l e hl;omega⟩) (fun p hp=>?_) hb hs;obtain⟨q1,q2⟩:=h0 p hp;exact⟨by rw[Jmx q1 hok hlo];exact q2,by omega,fun i t l e hl=>by have:=hid i t l e hl;omega⟩
end Go.Ab
end
section
namespace Go.Ab
section
variable {P:Program} {σ:St} {Q:Exit->St->Prop}
theorem Jm{x y:Code}(h:Aw P x (JlC (fun σ1=>Aw P y Q σ1) Q) σ):Aw P (.seq x y) Q σ:=fun g0 h0 w0 g w a r=>wpIn_seq (wpIn_mono (h g0 h0 w0 g w a r) fun e a' w' hh=>by
 obtain⟨σ',g',k1,k2⟩:=hh;cases e with
 | normal=>exact k1 g0 h0 w0 g' w' a' k2
 | _=>exact⟨σ',g',k1,k2⟩)
theorem Jj{c:Code}(h:awp P c Q σ):Aw P c Q σ:=Jax c h
theorem JeL{g0:Gh}{h0:Hp}{w0:Wr}{ops:Array Oper}:∀ (l:List Oper) {σ:St} {g:Gh} {w:World} {a:Act},gwl (JeY P) ops l (Q .normal) σ->Jae g0 h0 w0 σ g w a->JbQ P ops (Jb5 g0 h0 w0 Q) l a w
 | [],σ,g,w,a,h,r=>⟨σ,g,h,r⟩
 | o :: rest,σ,g,w,a,h,r=>by
  simp only[gwl] at h;unfold JbQ;have step:JeY P o (gwl (JeY P) ops rest (Q .normal)) σ->Oper.wp P o a w (JbQ P ops (Jb5 g0 h0 w0 Q) rest) (Jb5 g0 h0 w0 Q):=fun hh =>
   Oper.wp_mono (fun a' w' ⟨σ',g',k1,k2⟩=>JeL rest k1 k2) (hh g0 h0 w0 g w a (Jb5 g0 h0 w0 Q) r)
  cases hg:o.guard with
  | none =>
   simp only[hg] at h;simp only[Region.wanted,hg,if_true];exact .inl (step h)
  | some p =>
   obtain⟨j,want⟩:=p;cases hb:Jar ops σ j want with
   | none=>simp only[hg,hb] at h
   | some b =>
    have hy:=Jde r hb;simp only[hg,hb] at h;simp only[Region.wanted,hg,hy];by_cases hw:b=want
    ·subst hw;simp only[beq_self_eq_true,if_true];exact .inl (step (h.1 rfl))
    ·have:(b==want)=false:=by simp[hw]
     simp only[this];exact JeL rest (h.2 (by cases b <;> cases want <;> simp_all)) (r.drop o.dst)
theorem Jn5{id:Nat}{l:List Oper}(h:gwl (JeY P) l.toArray l (Q .normal) σ):Aw P (.region id l.toArray false) Q σ :=
 fun g0 h0 w0 g w a r=>JeX (JeL _ h r)
theorem JcZ{K:St->Prop}{d:Option Tmp}{t t2:TypeId}{len:Nat}{parts:Array (Nat × Operand)}{pos:String}{af:Array Edge}{gu:Option (Nat × Bool)}{ti te:TI}{e:TypeId}{ps:List (Nat × AV)}{z:List AV}{rows:List (List AV)}
  (ht:Jt P t=some ti) (hkd:ti.kd = .sl e) (hte:Jt P e=some te) (hz:te.zero=some z) (hb:z.length=te.size/\len * te.size<=2 ^ 24) (hne:te.size≠0) (hp:evP σ parts.toList=some ps)
  (hr:Jbs te.size (List.replicate len z) ps=some rows)
  (h:K (St.put {σ with hp:={σ.hp with toks:=σ.hp.toks++[(σ.hp.nx,⟨rows,0,te.size⟩)],nx:=σ.hp.nx+1}} d (.own σ.hp.nx len))):JeY P ⟨d,.buildSlice t len parts,t2,pos,af,gu⟩ K σ:=by
 intro g0 h0' w0 g w a Q r;obtain⟨dd,u1,u2⟩:=J1 (w:=w) ht;obtain⟨q1,q2⟩:=r.evP hp;rw[u2] at hkd;have:=JbF hkd;subst this;obtain⟨ie,de,e1,e2,e3,e4,e5,e6⟩:=JD hte;obtain⟨zv,z1,z2⟩:=e6 z hz;obtain⟨z3,z4⟩:=J9.cellsAV (g:=g) z2;obtain⟨c1,c2,c3⟩:=JdZ z3 z4 len te.size hb.1;obtain⟨cells,k1,k2,k3,k4,k5⟩:=JbM (qs:=parts.toList.map fun(p:Nat × Operand)=>(p.1,a.eval p.2)) c1 (by rw[c2];simp) c3 q1 q2 hr;simp only[List.length_replicate] at k5;have hs:=r.st.hp.addTok cells e rows te.size len k2 k4 (by rw[k3,k5]) (by omega) hne;have st:JW g σ.hp w (g.addTok w.heap.size len rows.length) {σ.hp with toks:=σ.hp.toks++[(σ.hp.nx,⟨rows,0,te.size⟩)],nx:=σ.hp.nx+1} (w.alloc (.cells cells e)) :=
  ⟨hs,Ext.addTok _ _ _ _,Jai.alloc _ _ _,fun b l=>Ja2.addTok r.st.hp l,fun _ _ _ q=>.inl q⟩
 have hrun:(execOp a.eval ⟨d,.buildSlice t len parts,t2,pos,af,gu⟩).run P w = .ok (.value (.slice (some ⟨w.heap.size,0,none⟩) len len)) (w.alloc (.cells cells e)):=by
  have hparts:(parts.map fun(p:Nat × Operand)=>(p.1,a.eval p.2)).toList=parts.toList.map fun(p:Nat × Operand)=>(p.1,a.eval p.2):=by simp
  have hsz:¬ len * te.size > 2 ^ 24:=by omega
  by_cases hz0:len * te.size=0
  ·have hk1:Instr.fill (fun i=>some (i * te.size,te.size)) ((Array.range (len * te.size)).map (fun i=>(#[]:Array Value)[i % (#[]:Array Value).size]!)) (parts.toList.map fun(p:Nat × Operand)=>(p.1,a.eval p.2))=some cells:=by
    rw[<- k1];congr 1;rw[hz0];simp
   simp only[execOp,Sem.run_bind,Instr.buildSlice,u1,Result.andThen_ok,J3 hte,Sem.run_ite,if_neg hsz,if_pos hz0,Sem.run_pure,hparts,hk1,newRow,run_newObj,World.alloc_eq]
  ·simp only[execOp,Sem.run_bind,Instr.buildSlice,u1,Result.andThen_ok,J3 hte,Sem.run_ite,if_neg hsz,if_neg hz0,Sem.run_pure,zeroValue,typeInfo,run_program,e1,z1,hparts,k1,newRow,run_newObj,World.alloc_eq]
 unfold Oper.wp;rw[hrun];refine⟨_,_,h,(r.heap st).put d ?_⟩;refine .own (by simp[Gh.addTok,r.st.hp.nx]) (fun b c n q=>?_);simp only[Gh.addTok,r.st.hp.nx,if_true,Option.some.injEq,Prod.mk.injEq] at q;obtain⟨rfl,rfl,rfl⟩:=q;exact⟨by omega,by omega,fun _=>⟨rfl,rfl⟩⟩
def JlE (P:Program)(o:Oper)(K:St->Prop)(σ:St):Prop :=
 match o.op with
 | .buildSlice _ _ _=>JeY P o K σ
 | _=>awo P o K σ
theorem Jmy{o:Oper}{K:St->Prop}(h:JlE P o K σ):JeY P o K σ:=by
 unfold JlE at h;split at h
 ·exact h
 ·exact JdL h
theorem Je7{S T:Oper->(St->Prop)->St->Prop}(hT:∀ o K K' σ,(∀ σ,K σ->K' σ)->S o K σ->T o K' σ){ops:Array Oper}{K:St->Prop}:∀ (l:List Oper) {σ:St},gwl S ops l K σ->gwl T ops l K σ
 | [],σ,h=>h
 | o :: rest,σ,h=>by
  simp only[gwl] at h ⊢;split at h
  ·exact hT _ _ _ _ (fun σ q=>Je7 hT rest q) h
  ·split at h
   ·exact⟨fun q=>hT _ _ _ _ (fun σ q=>Je7 hT rest q) (h.1 q),fun q=>Je7 hT rest (h.2 q)⟩
   ·exact h
theorem JeY.mono{o:Oper}{K K':St->Prop}(h:JeY P o K σ)(k:∀ σ,K σ->K' σ):JeY P o K' σ:=fun g0 h0 w0 g w a Q r =>
 Oper.wp_mono (fun a' w' ⟨σ',g',k1,k2⟩=>⟨σ',g',k σ' k1,k2⟩) (h g0 h0 w0 g w a Q r)
theorem Jc0{id:Nat}{l:List Oper}(h:gwl (JlE P) l.toArray l (Q .normal) σ):Aw P (.region id l.toArray false) Q σ :=
 Jn5 (Je7 (S:=JlE P) (T:=JeY P) (fun o K K' σ hk q=>(Jmy q).mono hk) l h)
theorem Jn6{c:Code}(h:Aw P c (JnS Q) σ):Aw P (.scope c) Q σ:=by
 intro g0 h0 w0 g w a r;refine Jce (wpIn_mono (h g0 h0 w0 g w a r) fun e a' w' hh=>?_);obtain⟨σ1,g1,q1,q2⟩:=hh;cases e with
 | goto l=>exact q1.elim
 | _=>exact⟨σ1,g1,q1,q2⟩
theorem JaE{σ σ':St}(h1:∀ p∈σ'.slots,lk σ.slots p.1=some p.2)(h2:∀ p∈σ'.hp.boxes,lk σ.hp.boxes p.1=some p.2)(h3:∀ p∈σ'.hp.toks,lk σ.hp.toks p.1=some p.2)(h4:σ'.hp.nx=σ.hp.nx)(h5:σ'.nt=σ.nt):St.wk σ σ':=St.le.wk ⟨h1,h2,h3,h4,h5⟩
theorem Jjt{f:FuncId}{fn:Func}{c:Code}{args:List AV}{h:Hp}{R:AV->Hp->Prop}(hf:P.funcs[f]? = some fn)(hb:fn.body=some c){n:Nat}(hnt:fn.ntmps=n){rs:List ResultVar}(hrs:fn.results.toList=rs)(hn:args.length<=n){N:Nat}(hN:h.nx=N)
  (hw:Aw P c (Jzm P N rs R) (entry args h n)):JU P f args h R:=by
 subst hnt;subst hrs;subst hN;intro g w vals hr hl;have hs:vals.size=args.length:=by simpa using hl.1
 refine JbR hf hb (wpIn_mono (hw g h (.top w) g w _ (Jae.entry hr hl fn.ntmps hn)) fun e a' w' hh=>?_);obtain⟨σ,g',q1,q2⟩:=hh;have fin:(∃ σ',St.cp h.nx σ σ'/\Jfp (JaQ P σ' fn.results.toList) R σ'.hp)->∃ w'',JfK P a'.defers w' w''/\∃ v,(results fn a'.tmps).run P w'' = .ok v w''/\∃ v' r h' g',Ending.returned v = .returned v'/\Rep g' v' r/\JW g h w g' h' w''/\R r h':=fun⟨σ',hw',hb⟩=>by
  obtain⟨g2,q3⟩:=hw' g h (.top w) g' w' a' (by rw[hr.nx];exact Nat.le_refl _) q2;obtain⟨vs,k1,k2⟩:=JdM hb;obtain⟨w'',t1,t2⟩:=q3.fin P;obtain⟨u,e1,e2⟩:=Jbu t2 k1;exact⟨w'',t1,u,e1,u,_,_,g2,rfl,e2,t2.st,k2⟩
 cases e with
 | normal=>exact fin q1
 | ret=>exact fin q1
 | exit id=>exact q1.elim
 | goto id=>exact q1.elim
 | panic v=>exact q1.elim
 | outgrown=>exact q1.elim
theorem Jq{f:FuncId}{fn:Func}{c:Code}{args:List AV}{h:Hp}{Q:AV->Hp->Prop}(hf:P.funcs[f]? = some fn)(hb:fn.body=some c){n:Nat}(hnt:fn.ntmps=n){rs:List ResultVar}(hrs:fn.results.toList=rs)(hn:args.length<=n)
  (hw:Aw P c (Jt7 P rs Q) (entry args h n)):JU P f args h Q:=by
 subst hnt;subst hrs;intro g w vals hr hl;have hs:vals.size=args.length:=by simpa using hl.1
 refine JbR hf hb (wpIn_mono (hw g h (.top w) g w _ (Jae.entry hr hl fn.ntmps hn)) fun e a' w' hh=>?_);obtain⟨σ,g',q1,q2⟩:=hh;have fin:Jfp (JaQ P σ fn.results.toList) Q σ.hp->∃ w'',JfK P a'.defers w' w''/\∃ v,(results fn a'.tmps).run P w'' = .ok v w''/\∃ v' r h' g',Ending.returned v = .returned v'/\Rep g' v' r/\JW g h w g' h' w''/\Q r h':=fun hb=>by
  obtain⟨vs,k1,k2⟩:=JdM hb;obtain⟨w'',t1,t2⟩:=q2.fin P;obtain⟨u,e1,e2⟩:=Jbu t2 k1;exact⟨w'',t1,u,e1,u,_,_,g',rfl,e2,t2.st,k2⟩
 cases e with
 | normal=>exact fin q1
 | ret=>exact fin q1
 | exit id=>exact q1.elim
 | goto l=>exact q1.elim
 | panic ch=>exact q1.elim
 | outgrown=>exact q1.elim
end
end Go.Ab
end
section
namespace Go.Ab
section
variable {P:Program} {ops:Array Oper} {p:Nat} {σ:St} {g0:Gh} {h0:Hp} {w0:Wr}
def Jju(h h':Hp):Prop:=(∀ i c,lk h.boxes i=some c->lk h'.boxes i=some c)/\∀ t k,lk h.toks t=some k->lk h'.toks t=some k
theorem Jn7{B:List (Nat × List AV)}{L L':List (Nat × Tk)}{n m:Nat}(h:∀ t k,lk L t=some k->lk L' t=some k):Jju ⟨B,L,n⟩ ⟨B,L',m⟩:=⟨fun _ _ e=>e,h⟩
theorem Jgl{h h':Hp}(gr:Jju h h'){p:AV}{x:List AV × Nat}(k:Ja3 h p=some x):Ja3 h' p=some x:=by
 cases p with
 | ep t n s i off =>
  simp only[Ja3] at k ⊢;cases e:lk h.toks t with
  | none=>rw[e] at k;cases k
  | some q=>rw[e] at k;rw[gr.2 t q e];exact k
 | ptr id off =>
  simp only[Ja3] at k ⊢;cases e:lk h.boxes id with
  | none=>rw[e] at k;cases k
  | some q=>rw[e] at k;rw[gr.1 id q e];exact k
 | _=>exact k
theorem Jmz{P:Program}{σ:St}{o:Oper}{v:AV}{h:Hp}(gr:Jju σ.hp h)(hc:Jsy o=true)(k:Ja0 P σ o v):Ja0 P {σ with hp:=h} o v:=by
 have key:∀ op:Op,Jsy {o with op:=op}=true->qOp P σ op=some v->qOp P {σ with hp:=h} op=some v:=by
  intro op hc k;cases op with
  | load t x =>
   unfold qOp at k ⊢;simp only[Jz,JdB] at k ⊢;cases h1:Jt P t with
   | none=>rw[h1] at k;cases k
   | some ti =>
    cases h2:ev σ x with
    | none=>rw[h1,h2] at k;cases k
    | some p =>
     simp only[h1,h2] at k ⊢;cases h3:Ja3 σ.hp p with
     | none=>rw[h3] at k;cases k
     | some y=>rw[h3] at k;rw[Jgl gr h3];exact k
  | move x=>unfold qOp at k ⊢;simp only[Jz,JdB] at k ⊢;exact k
  | assign x=>unfold qOp at k ⊢;simp only[Jz,JdB] at k ⊢;exact k
  | fieldAddr t x f=>unfold qOp at k ⊢;simp only[Jz,JdB] at k ⊢;exact k
  | binOp a b c d e=>unfold qOp at k ⊢;simp only[Jz,JdB] at k ⊢;exact k
  | _=>cases hc
 have ho:∀ op,o.op=op->Jsy {o with op:=op}=true:=fun op e=>by rw[<- e];exact hc
 unfold Ja0 at k ⊢;cases hop:o.op with
 | pick c x y=>have:=ho _ hop;cases this
 | call c=>have:=ho _ hop;cases this
 | _ =>
  rw[hop] at k;exact key _ (ho _ hop) k
def Jqi(ops:Array Oper)(f:Nat):Bool :=
 let B:=(Jqa ops.toList []).getD f []
 (ops.getD f default).guard.isNone && JdQ (ops.getD f default) && (List.range f).all fun i=>Jsy (ops.getD i default) || B.contains i
theorem Jqj{Q:Exit->St->Prop}{σ':St}{n:Nat}(N:Nat){id:Nat}{l:List Oper}(f:Nat)(t:OT){o:Oper}(hof:l[f]? = some o)(hn:σ.nt=n)(hB:Jdh l.toArray n (f+1)=true)(hT:Je5 l.toArray (f+1)=true)(hSG:Jqi l.toArray f=true)(hm:P.follows .mixedOrders=true)
  (hok:okT l.toArray t (Array.ofFn fun j:Fin l.length=>decide (j.val<f+1)) none=true) (hd:decide (f+1+t.depth<=l.length)=true)
  (h:qwl P l.toArray (l.take f) (fun σ1=>JsA P o (Jb6 P σ1 o.op) (fun σ2=>Jju σ.hp σ2.hp/\σ2.hp.nx<=N/\JbI P l.toArray t (fun σ3=>St.cp N σ3 σ') σ2) σ1) σ) (k:Q .normal σ'):Aw P (.region id l.toArray true) Q σ:=by
 intro g0 h0 w0 g w a r;have hB':Jdh l.toArray σ.nt (f+1)=true:=by rw[hn];exact hB
 have hs:=Ji5.of_B hB';have getD:∀ j o,l[j]? = some o->l.toArray.getD j default=o:=fun j o e=>by simp[Array.getD_eq_getD_getElem?,e]
 unfold Jqi at hSG;simp only[Bool.and_eq_true,List.all_eq_true,List.mem_range,Bool.or_eq_true,List.contains_eq_mem,decide_eq_true_eq] at hSG;obtain⟨⟨hgf,hbt⟩,hstill⟩:=hSG;rw[getD f o hof] at hgf hbt;have hgf:o.guard=none:=by simpa using hgf
 have hlp:f+1<=l.length:=by have:=hs.le;simpa using this
 have hfl:f<l.length:=by omega
 have hfp:f<f+1:=Nat.lt_succ_self f;have hfb:∀ i,f<i->i<f+1->Bef l.toArray f i:=fun i h1 h2=>by omega
 obtain⟨ws1,t1,h1⟩:=Jcj _ _ h;have hlen1:(l.take f).length=f:=by rw[List.length_take];omega
 have hL:l.take (f+1)=l.take f++[o]:=by
  obtain⟨hfl',e3⟩:=List.getElem?_eq_some_iff.1 hof;rw[List.take_add_one,hof];rfl
 generalize hl1:l.take f=l1 at hL t1 h1 hlen1;have hw1:ws1.length=f:=by rw[t1.len,hlen1]
 generalize hi1:(l1.map (·.dst)).zip ws1=it1 at h1 t1;have hit1:it1.length=f:=by rw[<- hi1];simp[hlen1,hw1]
 unfold JsA at h1;split at h1;rotate_left
 ·exact h1.elim
 rename_i x rv hF hx;have hitems:((l.take (f+1)).map (·.dst)).zip (ws1++[rv])=it1++[(o.dst,rv)]:=by
  rw[hL,List.map_append,List.zip_append (by simp[hlen1,hw1]),hi1];rfl
 have hgr:Jju σ.hp hF:=by have:=h1.1;rwa [(Jfq _ _ _).1] at this
 have tF:Jei P l.toArray f hF (l.toArray.toList.take (f+1)) σ (ws1++[rv]):=by
  show Jei P l.toArray f hF (l.take (f+1)) σ _;refine⟨by rw[hL];simp[hlen1,hw1],fun i o' v e1 e2=>?_⟩;rw[hitems];rw[hL] at e1;rcases Nat.lt_trichotomy i f with hi | hi | hi
  ·rw[List.getElem?_append_left (by omega)] at e1 e2;rw[List.take_append_of_le_length (by omega)];obtain⟨b,hg,hv,hk⟩:=t1.step i o' v e1 e2;rw[hi1] at hv hg;have hol:l[i]? = some o':=by rw[<- hl1,List.getElem?_take,if_pos hi] at e1;exact e1
   refine⟨b,hg,fun hb=>⟨fun _=>⟨hv hb,?_⟩,fun h=>by omega,fun h=>by omega⟩,fun hb=>⟨hk hb,by omega⟩⟩;have hst:=hstill i hi;rw[getD i o' hol] at hst;rcases hst with hst | hst
   ·exact .inr (Jmz (by rw[(JaW _ σ).1];exact hgr) hst (hv hb))
   ·exact .inl (JbH (ops:=l.toArray) l.toArray.toList [] (by simp) (by simp) (by simp) f i (by simpa using hst))
  ·subst hi;rw[List.getElem?_append_right (by omega),hlen1,Nat.sub_self] at e1;rw[List.getElem?_append_right (by omega),hw1,Nat.sub_self] at e2;simp only[List.getElem?_cons_zero,Option.some.injEq] at e1 e2;subst e1;subst e2;rw[List.take_append_of_le_length (by omega),List.take_of_length_le (by omega)];refine⟨true,.inl ⟨hgf,rfl⟩,fun _=>⟨fun h=>by omega,fun _=>?_,fun h=>by omega⟩,fun h=>by cases h⟩;unfold JdQ at hbt;split at hbt
   ·rename_i b args tys ho;unfold Jqg;rw[ho] at hx;rw[ho];exact hx
   ·cases hbt
  ·rw[List.getElem?_append_right (by omega),hlen1] at e1;have:1<=i - f:=by omega
   rw[List.getElem?_eq_none (by simpa using this)] at e1;cases e1
 have hKs:({JaP σ it1 with hp:=hF}:St).put o.dst rv={JaP σ (((l.toArray.toList.take (f+1)).map (·.dst)).zip (ws1++[rv])) with hp:=hF}:=by
  show _={JaP σ (((l.take (f+1)).map (·.dst)).zip (ws1++[rv])) with hp:=hF};rw[hitems,Jd2,Jig];rfl
 rw[hKs] at h1;obtain⟨_,hNN,hW⟩:=h1;refine JaT hm ?_;have off:∀ j,Jah (Array.replicate l.toArray.size false) j=false:=fun j=>by
  unfold Jah;simp only[Array.getD_eq_getD_getElem?,Array.getElem?_replicate];split <;> rfl
 have hd':f+1+t.depth<=l.length:=by simpa using hd
 have hcur:hpF (Array.replicate l.toArray.size false) f σ.hp hF=σ.hp:=by unfold hpF;rw[if_neg (by rw[off];exact Bool.false_ne_true)]
 refine Je6 (rest:=t.depth) hs hfp hfb (fun i j hi hj hn=>Jci hT hi hj hn) tF ?_ (f+1) _ _ g _ a (by simp) (fun j hj=>by rw[off] at hj;cases hj) (fun i j _ hj=>by rw[off] at hj;cases hj) (by
   refine Nat.le_trans (List.length_filter_le _ _) ?_;simp) (by simpa using hd') (by rw[hcur];exact⟨⟨r.st.hp.drew,r.st.ext,r.st.keeps.trans (Jai.drew (Ja2 g σ.hp) w) r.st.live,r.st.live,r.st.memo⟩,r.nt,r.defers,fun j o v s hL=>(by rw[off] at hL;cases hL),fun s v _ e=>r.slots s v e⟩)
 intro g w a listed fuel hsz hon hf fr;have hg:g0.nx<=N:=by
  have h1:g0.nx<=g.nx:=fr.st.ext.nx;rw[fr.st.hp.nx] at h1;exact Nat.le_trans h1 hNN
 have hl:listed=Array.ofFn fun j:Fin l.length=>decide (j.val<f+1):=by
  apply Array.ext
  ·simpa using hsz
  ·intro j h1 h2;have:=hon j;unfold Jah at this;simp only[Array.getD_eq_getD_getElem?,Array.getElem?_eq_getElem h1,Option.getD_some] at this;simp[this]
 subst hl;have base:=Jdj (Q:=fun e σ1=>match e with | .normal=>St.cp N σ1 σ' | _=>False) (g0:=g0) (h0:=h0) (w0:=w0) t.depth t _ _ g w a fuel (Nat.le_refl _) hok hW fr hf;have mono:∀ (n:Nat) (listed:Array Bool) (a:Act) (w:World),Ja5 P .any l.toArray (Jb5 g0 h0 w0 fun e σ1=>match e with | .normal=>St.cp N σ1 σ' | _=>False) n listed a w->Ja5 P .any l.toArray (Jb5 g0 h0 w0 Q) n listed a w:=by
  have post:∀ e a w,Jb5 g0 h0 w0 (fun e σ1=>match e with | .normal=>St.cp N σ1 σ' | _=>False) e a w->Jb5 g0 h0 w0 Q e a w:=fun e a w ⟨σ2,g2,k1,k2⟩=>by
   cases e with
   | normal=>obtain⟨g3,k3⟩:=k1 g0 h0 w0 g2 w a hg k2;exact⟨σ',g3,k,k3⟩
   | _=>exact k1.elim
  intro n;induction n with
  | zero=>intro listed a w h;exact⟨h.1,post _ _ _ h.2⟩
  | succ n ih =>
   intro listed a w h;refine⟨fun q=>post _ _ _ (h.1 q),fun i hi=>?_⟩;have:=h.2 i hi;unfold Jkx at this ⊢;split
   ·rename_i ho;rw[ho] at this;exact ih _ _ _ this
   ·rename_i o ho;rw[ho] at this;simp only at this;split
    ·rename_i hw;rw[if_pos hw] at this;rcases this with h1 | h1
     ·exact .inl (Jcb (fun a w=>ih _ a w) post h1)
     ·exact h1.elim
    ·rename_i hw;rw[if_neg hw] at this;exact ih _ _ _ this
 exact mono _ _ _ _ base
end
end Go.Ab
end
section
namespace Go.Ab
section
variable {P:Program} {ops:Array Oper} {p:Nat} {σ:St} {g0:Gh} {h0:Hp} {w0:Wr}
def Jjv(tk:Nat)(h h':Hp):Prop:=(∀ i c,lk h.boxes i=some c->lk h'.boxes i=some c)/\∀ t k,t≠tk->lk h.toks t=some k->lk h'.toks t=some k
theorem Jc1{tk:Nat}{B:List (Nat × List AV)}{L L':List (Nat × Tk)}{n m:Nat}(h:∀ t k,t≠tk->lk L t=some k->lk L' t=some k):Jjv tk ⟨B,L,n⟩ ⟨B,L',m⟩:=⟨fun _ _ e=>e,h⟩
def NE (tk:Nat)(v:AV):Prop:=∀ n s i off,v≠.ep tk n s i off
theorem Jjw{tk:Nat}{v:Value}:NE tk (.lit v):=fun _ _ _ _ q=>(nomatch q)
theorem Jjx{tk i o:Nat}:NE tk (.ptr i o):=fun _ _ _ _ q=>(nomatch q)
theorem Jn8{tk o:Nat}{cs:List AV}:NE tk (.pp cs o):=fun _ _ _ _ q=>(nomatch q)
theorem Jjy{tk t n:Nat}:NE tk (.own t n):=fun _ _ _ _ q=>(nomatch q)
theorem Jjz{tk:Nat}{xs:List (List AV)}{f:Bool}:NE tk (.vec xs f):=fun _ _ _ _ q=>(nomatch q)
theorem JjA{tk:Nat}{cs:List AV}:NE tk (.agg cs):=fun _ _ _ _ q=>(nomatch q)
theorem JjB{tk:Nat}{cs:List AV}:NE tk (.tup cs):=fun _ _ _ _ q=>(nomatch q)
theorem Jn9{tk t n s i o:Nat}(h:t≠tk):NE tk (.ep t n s i o):=fun _ _ _ _ q=>by cases q;exact h rfl
theorem JzK{tk:Nat}{σ:St}(hn:∀ p∈σ.slots,NE tk p.2){x:Operand}{v:AV}(h:ev σ x=some v):NE tk v:=by
 cases x with
 | tmp t=>exact hn _ (JaD h)
 | const c =>
  intro n s i off q;subst q;simp only[ev] at h;unfold constAV at h;split at h
  ·rename_i cs;cases hc:cellsAV cs.toList with
   | none=>rw[hc] at h;cases h
   | some as=>rw[hc] at h;cases h
  ·unfold cellAV at h;split at h
   ·cases h
   ·split at h <;> cases h
 | global _=>cases h
 | func f=>simp only[ev,Option.some.injEq] at h;subst h;intro n s i off q;cases q
theorem JlF:∀ (l:List (Option Tmp × AV)) (σ:St),(∀ d w,(some d,w)∈l->d<σ.nt)->∀ p∈σ.slots,p∈(JaP σ l).slots
 | [],_,_,_,hp=>hp
 | (d,w) :: l,σ,h,p,hp=>by
  refine JlF l (σ.put d w) (fun d' w' hm=>by rw[(Jfq _ _ _).2];exact h d' w' (by simp[hm])) p ?_;cases d with
  | none=>exact hp
  | some d =>
   simp only[St.put];rw[if_pos (h d w (by simp))];exact List.mem_cons_of_mem _ hp
theorem JjC{tk:Nat}{h h':Hp}(gr:Jjv tk h h'){p:AV}(hn:NE tk p){x:List AV × Nat}(k:Ja3 h p=some x):Ja3 h' p=some x:=by
 cases p with
 | ep t n s i off =>
  simp only[Ja3] at k ⊢;cases e:lk h.toks t with
  | none=>rw[e] at k;cases k
  | some q=>rw[e] at k;rw[gr.2 t q (fun c=>hn n s i off (by rw[c])) e];exact k
 | ptr id off =>
  simp only[Ja3] at k ⊢;cases e:lk h.boxes id with
  | none=>rw[e] at k;cases k
  | some q=>rw[e] at k;rw[gr.1 id q e];exact k
 | _=>exact k
theorem JkP{tk:Nat}{P:Program}{σ:St}{o:Oper}{v:AV}{h:Hp}(gr:Jjv tk σ.hp h)(hn:∀ p∈σ.slots,NE tk p.2)(hc:Jsy o=true)(k:Ja0 P σ o v):Ja0 P {σ with hp:=h} o v:=by
 have key:∀ op:Op,Jsy {o with op:=op}=true->qOp P σ op=some v->qOp P {σ with hp:=h} op=some v:=by
  intro op hc k;cases op with
  | load t x =>
   unfold qOp at k ⊢;simp only[Jz,JdB] at k ⊢;cases h1:Jt P t with
   | none=>rw[h1] at k;cases k
   | some ti =>
    cases h2:ev σ x with
    | none=>rw[h1,h2] at k;cases k
    | some p =>
     simp only[h1,h2] at k ⊢;cases h3:Ja3 σ.hp p with
     | none=>rw[h3] at k;cases k
     | some y=>rw[h3] at k;rw[JjC gr (JzK hn h2) h3];exact k
  | move x=>unfold qOp at k ⊢;simp only[Jz,JdB] at k ⊢;exact k
  | assign x=>unfold qOp at k ⊢;simp only[Jz,JdB] at k ⊢;exact k
  | fieldAddr t x f=>unfold qOp at k ⊢;simp only[Jz,JdB] at k ⊢;exact k
  | binOp a b c d e=>unfold qOp at k ⊢;simp only[Jz,JdB] at k ⊢;exact k
  | _=>cases hc
 have ho:∀ op,o.op=op->Jsy {o with op:=op}=true:=fun op e=>by rw[<- e];exact hc
 unfold Ja0 at k ⊢;cases hop:o.op with
 | pick c x y=>have:=ho _ hop;cases this
 | call c=>have:=ho _ hop;cases this
 | _ =>
  rw[hop] at k;exact key _ (ho _ hop) k
theorem JeM(tk:Nat){Q:Exit->St->Prop}{σ':St}{n:Nat}(N:Nat){id:Nat}{l:List Oper}(f:Nat)(t:OT){o:Oper}(hof:l[f]? = some o)(hn:σ.nt=n)(hB:Jdh l.toArray n (f+1)=true)(hT:Je5 l.toArray (f+1)=true)(hSG:Jqi l.toArray f=true)(hm:P.follows .mixedOrders=true)
  (hok:okT l.toArray t (Array.ofFn fun j:Fin l.length=>decide (j.val<f+1)) none=true) (hd:decide (f+1+t.depth<=l.length)=true)
  (h:qwl P l.toArray (l.take f) (fun σ1=>JsA P o (Jb6 P σ1 o.op) (fun σ2=>Jjv tk σ.hp σ2.hp/\(∀ p∈σ2.slots,NE tk p.2)/\σ2.hp.nx<=N/\JbI P l.toArray t (fun σ3=>St.cp N σ3 σ') σ2) σ1) σ) (k:Q .normal σ'):Aw P (.region id l.toArray true) Q σ:=by
 intro g0 h0 w0 g w a r;have hB':Jdh l.toArray σ.nt (f+1)=true:=by rw[hn];exact hB
 have hs:=Ji5.of_B hB';have getD:∀ j o,l[j]? = some o->l.toArray.getD j default=o:=fun j o e=>by simp[Array.getD_eq_getD_getElem?,e]
 unfold Jqi at hSG;simp only[Bool.and_eq_true,List.all_eq_true,List.mem_range,Bool.or_eq_true,List.contains_eq_mem,decide_eq_true_eq] at hSG;obtain⟨⟨hgf,hbt⟩,hstill⟩:=hSG;rw[getD f o hof] at hgf hbt;have hgf:o.guard=none:=by simpa using hgf
 have hlp:f+1<=l.length:=by have:=hs.le;simpa using this
 have hfl:f<l.length:=by omega
 have hfp:f<f+1:=Nat.lt_succ_self f;have hfb:∀ i,f<i->i<f+1->Bef l.toArray f i:=fun i h1 h2=>by omega
 obtain⟨ws1,t1,h1⟩:=Jcj _ _ h;have hlen1:(l.take f).length=f:=by rw[List.length_take];omega
 have hL:l.take (f+1)=l.take f++[o]:=by
  obtain⟨hfl',e3⟩:=List.getElem?_eq_some_iff.1 hof;rw[List.take_add_one,hof];rfl
 generalize hl1:l.take f=l1 at hL t1 h1 hlen1;have hw1:ws1.length=f:=by rw[t1.len,hlen1]
 generalize hi1:(l1.map (·.dst)).zip ws1=it1 at h1 t1;have hit1:it1.length=f:=by rw[<- hi1];simp[hlen1,hw1]
 unfold JsA at h1;split at h1;rotate_left
 ·exact h1.elim
 rename_i x rv hF hx;have hitems:((l.take (f+1)).map (·.dst)).zip (ws1++[rv])=it1++[(o.dst,rv)]:=by
  rw[hL,List.map_append,List.zip_append (by simp[hlen1,hw1]),hi1];rfl
 have hgr:Jjv tk σ.hp hF:=by have:=h1.1;rwa [(Jfq _ _ _).1] at this
 have hne0:=h1.2.1;have hdst:∀ d w,(some d,w)∈it1->d<σ.nt:=fun d w hm=>by
  rw[<- hi1] at hm;have:=(List.of_mem_zip hm).1;obtain⟨o',ho',hd'⟩:=List.mem_map.1 this;obtain⟨j,hj⟩:=List.getElem?_of_mem ho';rw[<- hl1,List.getElem?_take] at hj;split at hj
  ·exact hs.bound j o' d (by omega) (by simpa using hj) hd'
  ·cases hj
 have hne:∀ i,∀ p∈(JaP σ (it1.take i)).slots,NE tk p.2:=fun i p hp=>by
  have h2:=JlF (it1.drop i) (JaP σ (it1.take i)) (fun d w hm=>by rw[(JaW _ σ).2];exact hdst d w (List.mem_of_mem_drop hm)) p hp;rw[<- Jd2,List.take_append_drop] at h2;refine hne0 p ?_;cases hod:o.dst with
  | none=>exact h2
  | some d =>
   have hdn:d<σ.nt:=hs.bound f o d hfp (by simpa using hof) hod;simp only[St.put];rw[if_pos (by show d<(JaP σ it1).nt;rw[(JaW _ σ).2];exact hdn)];exact List.mem_cons_of_mem _ h2
 have tF:Jei P l.toArray f hF (l.toArray.toList.take (f+1)) σ (ws1++[rv]):=by
  show Jei P l.toArray f hF (l.take (f+1)) σ _;refine⟨by rw[hL];simp[hlen1,hw1],fun i o' v e1 e2=>?_⟩;rw[hitems];rw[hL] at e1;rcases Nat.lt_trichotomy i f with hi | hi | hi
  ·rw[List.getElem?_append_left (by omega)] at e1 e2;rw[List.take_append_of_le_length (by omega)];obtain⟨b,hg,hv,hk⟩:=t1.step i o' v e1 e2;rw[hi1] at hv hg;have hol:l[i]? = some o':=by rw[<- hl1,List.getElem?_take,if_pos hi] at e1;exact e1
   refine⟨b,hg,fun hb=>⟨fun _=>⟨hv hb,?_⟩,fun h=>by omega,fun h=>by omega⟩,fun hb=>⟨hk hb,by omega⟩⟩;have hst:=hstill i hi;rw[getD i o' hol] at hst;rcases hst with hst | hst
   ·exact .inr (JkP (by rw[(JaW _ σ).1];exact hgr) (hne i) hst (hv hb))
   ·exact .inl (JbH (ops:=l.toArray) l.toArray.toList [] (by simp) (by simp) (by simp) f i (by simpa using hst))
  ·subst hi;rw[List.getElem?_append_right (by omega),hlen1,Nat.sub_self] at e1;rw[List.getElem?_append_right (by omega),hw1,Nat.sub_self] at e2;simp only[List.getElem?_cons_zero,Option.some.injEq] at e1 e2;subst e1;subst e2;rw[List.take_append_of_le_length (by omega),List.take_of_length_le (by omega)];refine⟨true,.inl ⟨hgf,rfl⟩,fun _=>⟨fun h=>by omega,fun _=>?_,fun h=>by omega⟩,fun h=>by cases h⟩;unfold JdQ at hbt;split at hbt
   ·rename_i b args tys ho;unfold Jqg;rw[ho] at hx;rw[ho];exact hx
   ·cases hbt
  ·rw[List.getElem?_append_right (by omega),hlen1] at e1;have:1<=i - f:=by omega
   rw[List.getElem?_eq_none (by simpa using this)] at e1;cases e1
 have hKs:({JaP σ it1 with hp:=hF}:St).put o.dst rv={JaP σ (((l.toArray.toList.take (f+1)).map (·.dst)).zip (ws1++[rv])) with hp:=hF}:=by
  show _={JaP σ (((l.take (f+1)).map (·.dst)).zip (ws1++[rv])) with hp:=hF};rw[hitems,Jd2,Jig];rfl
 rw[hKs] at h1;obtain⟨_,_,hNN,hW⟩:=h1;refine JaT hm ?_;have off:∀ j,Jah (Array.replicate l.toArray.size false) j=false:=fun j=>by
  unfold Jah;simp only[Array.getD_eq_getD_getElem?,Array.getElem?_replicate];split <;> rfl
 have hd':f+1+t.depth<=l.length:=by simpa using hd
 have hcur:hpF (Array.replicate l.toArray.size false) f σ.hp hF=σ.hp:=by unfold hpF;rw[if_neg (by rw[off];exact Bool.false_ne_true)]
 refine Je6 (rest:=t.depth) hs hfp hfb (fun i j hi hj hn=>Jci hT hi hj hn) tF ?_ (f+1) _ _ g _ a (by simp) (fun j hj=>by rw[off] at hj;cases hj) (fun i j _ hj=>by rw[off] at hj;cases hj) (by
   refine Nat.le_trans (List.length_filter_le _ _) ?_;simp) (by simpa using hd') (by rw[hcur];exact⟨⟨r.st.hp.drew,r.st.ext,r.st.keeps.trans (Jai.drew (Ja2 g σ.hp) w) r.st.live,r.st.live,r.st.memo⟩,r.nt,r.defers,fun j o v s hL=>(by rw[off] at hL;cases hL),fun s v _ e=>r.slots s v e⟩)
 intro g w a listed fuel hsz hon hf fr;have hg:g0.nx<=N:=by
  have h1:g0.nx<=g.nx:=fr.st.ext.nx;rw[fr.st.hp.nx] at h1;exact Nat.le_trans h1 hNN
 have hl:listed=Array.ofFn fun j:Fin l.length=>decide (j.val<f+1):=by
  apply Array.ext
  ·simpa using hsz
  ·intro j h1 h2;have:=hon j;unfold Jah at this;simp only[Array.getD_eq_getD_getElem?,Array.getElem?_eq_getElem h1,Option.getD_some] at this;simp[this]
 subst hl;have base:=Jdj (Q:=fun e σ1=>match e with | .normal=>St.cp N σ1 σ' | _=>False) (g0:=g0) (h0:=h0) (w0:=w0) t.depth t _ _ g w a fuel (Nat.le_refl _) hok hW fr hf;have mono:∀ (n:Nat) (listed:Array Bool) (a:Act) (w:World),Ja5 P .any l.toArray (Jb5 g0 h0 w0 fun e σ1=>match e with | .normal=>St.cp N σ1 σ' | _=>False) n listed a w->Ja5 P .any l.toArray (Jb5 g0 h0 w0 Q) n listed a w:=by
  have post:∀ e a w,Jb5 g0 h0 w0 (fun e σ1=>match e with | .normal=>St.cp N σ1 σ' | _=>False) e a w->Jb5 g0 h0 w0 Q e a w:=fun e a w ⟨σ2,g2,k1,k2⟩=>by
   cases e with
   | normal=>obtain⟨g3,k3⟩:=k1 g0 h0 w0 g2 w a hg k2;exact⟨σ',g3,k,k3⟩
   | _=>exact k1.elim
  intro n;induction n with
  | zero=>intro listed a w h;exact⟨h.1,post _ _ _ h.2⟩
  | succ n ih =>
   intro listed a w h;refine⟨fun q=>post _ _ _ (h.1 q),fun i hi=>?_⟩;have:=h.2 i hi;unfold Jkx at this ⊢;split
   ·rename_i ho;rw[ho] at this;exact ih _ _ _ this
   ·rename_i o ho;rw[ho] at this;simp only at this;split
    ·rename_i hw;rw[if_pos hw] at this;rcases this with h1 | h1
     ·exact .inl (Jcb (fun a w=>ih _ a w) post h1)
     ·exact h1.elim
    ·rename_i hw;rw[if_neg hw] at this;exact ih _ _ _ this
 exact mono _ _ _ _ base
end
end Go.Ab
end
section
namespace Go.Ab
section
variable {P:Program} {ops:Array Oper} {p:Nat} {σ:St} {g0:Gh} {h0:Hp} {w0:Wr}
theorem Jbh{Q:Exit->St->Prop}{σ:St}{n:Nat}{id:Nat}{l:List Oper}(p:Nat)(t:OT)(hn:σ.nt=n)(hB:Jdh l.toArray n p=true)(hT:Je5 l.toArray p=true)(hm:P.follows .mixedOrders=true)
  (hok:okT l.toArray t (Array.ofFn fun j:Fin l.length=>decide (j.val<p)) none=true) (hd:decide (p+t.depth<=l.length)=true)
  (h:qwl P l.toArray (l.take p) (fun σ1=>JbI P l.toArray t (Q .normal) σ1) σ):Aw P (.region id l.toArray true) Q σ:=by
 refine Jd0 (rest:=t.depth) (by rw[hn];exact hB) hT hm (K:=fun σ1=>JbI P l.toArray t (Q .normal) σ1) (by simpa using h) (fun σ1 hK g0 h0 w0 g w a listed fuel hsz hon hf fr=>?_) (by simpa using hd);have hl:listed=Array.ofFn fun j:Fin l.length=>decide (j.val<p):=by
  apply Array.ext
  ·simpa using hsz
  ·intro j h1 h2;have:=hon j;unfold Jah at this;simp only[Array.getD_eq_getD_getElem?,Array.getElem?_eq_getElem h1,Option.getD_some] at this;simp[this]
 subst hl;exact Jdj (Q:=Q) (g0:=g0) (h0:=h0) (w0:=w0) t.depth t _ σ1 g w a fuel (Nat.le_refl _) hok hK fr hf
end
end Go.Ab
end
section
namespace Go.Ab
def Gh.addLp(g:Gh)(l:Nat)(R:Loop):Gh:={g with tok:=fun i=>if i=g.nx then some (l,0,2) else g.tok i,nx:=g.nx+1,lrec:=fun i=>if i=g.nx then some R else g.lrec i}
def Hp.addLp(h:Hp):Hp:={h with toks:=h.toks++[(h.nx,JaL 1)],nx:=h.nx+1}
def Hp.lp(h:Hp)(t n:Nat):Hp:={h with toks:=up h.toks t (JaL n)}
def Hp.unlp(h:Hp)(t:Nat):Hp:={h with toks:=dl h.toks t}
theorem Ext.addLp(g:Gh)(l:Nat)(R:Loop):Ext g (g.addLp l R) :=
 ⟨Nat.le_succ _,fun _ _ _ h=>h,fun _ _=>rfl,fun t ht=>by simp only[Gh.addLp,if_neg (Nat.ne_of_lt ht)];exact Jas.refl _,fun _ _ h=>h,fun t ht=>by simp only[Gh.addLp,if_neg (Nat.ne_of_lt ht)]⟩
theorem Jij{n:Nat}(h:1<=n):(JaL n).tn=2:=by unfold Tk.tn;rw[if_pos (show (JaL n).s=0 from rfl),if_pos (JhX h)]
theorem Joa{n:Nat}(h:1<=n):(JaL n).st=0:=by unfold Tk.st;rw[if_pos (show (JaL n).s=0 from rfl),if_pos (JhX h)]
theorem JlG{n:Nat}(h:1<=n)(x:Loop):(JaL n).obj (.loop x) #[] 0:=⟨fun q=>absurd rfl q,fun _=>⟨rfl,fun q=>absurd (JhX h) q,fun _=>⟨x,rfl⟩⟩⟩
theorem Jik{n:Nat}{x:List AV}(h:x∈(JaL n).xs):x=[]:=(List.mem_replicate.1 h).2
theorem JlH{n i:Nat}{x:List AV}(h:(JaL n).xs[i]? = some x):x=[]:=Jik (List.mem_of_getElem? h)
section
variable {P:Program} {g:Gh} {h:Hp} {w:World}
theorem JZ.addLp(r:JZ g h w){l:Nat}{R:Loop}(hl:w.heap[l]? = some (.loop R))(hR:R=Jek R 1)(dead:¬ Ja2 g h l)(hm:∀ o,g.mem l o=Option.none):JZ (g.addLp l R) h.addLp w:=by
 have hx:=Ext.addLp g l R;have hg:g.nx=h.nx:=r.nx;have htok:∀ i,(g.addLp l R).tok i=if i=h.nx then some (l,0,2) else g.tok i:=fun i=>by simp[Gh.addLp,hg]
 have hlr:∀ i,(g.addLp l R).lrec i=if i=h.nx then some R else g.lrec i:=fun i=>by simp[Gh.addLp,hg]
 have old:∀ i k,lk (h.toks++[(h.nx,JaL 1)]) i=some k->i≠h.nx->lk h.toks i=some k:=fun i k e hi=>by rwa [J5 hi] at e
 have oldS:∀ i,(lk (h.toks++[(h.nx,JaL 1)]) i).isSome=true->i≠h.nx->(lk h.toks i).isSome=true:=fun i e hi=>by rwa [J5 hi] at e
 have tl:∀ i,(lk h.toks i).isSome=true->∀ c n,g.tok i≠some (l,c,n):=fun i e c n eb=>by
  obtain⟨k,hc⟩:=Option.isSome_iff_exists.1 e;exact dead (.inr (.inl ⟨i,k,c,n,hc,eb⟩))
 refine⟨by simp[Gh.addLp,Hp.addLp,hg],r.mem,fun id cs e=>?_,fun t k e=>?_,r.bxbx,fun i j b c1 n1 c2 n2 e1 e2 e3 e4=>?_,fun i j b c1 n1 e1 e2 e3 e4=>?_,fun i e=>?_,r.cchUp hx rfl (fun _ _ _ e=>e),r.celUp rfl (fun _ _ _ q=>⟨_,_,q⟩),fun t k b c n e hk q=>?_⟩
 ·obtain⟨b,vs',ty',f1,f2,f3,f4,f5⟩:=r.box id cs e;exact⟨b,vs',ty',f1,f2,f3.mono hx,f4,f5⟩
 ·by_cases hi:t=h.nx
  ·subst hi;have e:lk (h.toks++[(h.nx,JaL 1)]) h.nx=some k:=e;rw[JaH r.lk_fresh_tok] at e;cases e;refine⟨l,0,#[],_,by rw[htok,if_pos rfl,Jij (Nat.le_refl 1)],hl,JlG (Nat.le_refl 1) R,Nat.zero_le _,fun x hx=>?_,fun i x j a e1 e2=>?_,fun o _=>hm o,fun s q=>dead (.inr (.inr ⟨s,q⟩))⟩
   ·rw[Jik hx,Joa (Nat.le_refl 1)];rfl
   ·rw[JlH e1] at e2;simp at e2
  ·obtain⟨b,c1,vs',ty',f1,f2,f3,f5,f6,f7,f9⟩:=r.tok t k (old t k e hi);refine⟨b,c1,vs',ty',by rw[htok,if_neg hi];exact f1,f2,f3,f5,f6,fun i y j a g1 g2=>?_,f9⟩;obtain⟨v,g3,g4⟩:=f7 i y j a g1 g2;exact⟨v,g3,g4.mono hx⟩
 ·rw[htok] at e1 e2;by_cases hi:i=h.nx <;> by_cases hj:j=h.nx
  ·rw[hi,hj]
  ·rw[if_pos hi] at e1;rw[if_neg hj] at e2;cases e1;exact absurd e2 (tl j (oldS j e4 hj) _ _)
  ·rw[if_neg hi] at e1;rw[if_pos hj] at e2;cases e2;exact absurd e1 (tl i (oldS i e3 hi) _ _)
  ·rw[if_neg hi] at e1;rw[if_neg hj] at e2;exact r.tktk i j b c1 n1 c2 n2 e1 e2 (oldS i e3 hi) (oldS j e4 hj)
 ·rw[htok] at e2;by_cases hj:j=h.nx
  ·rw[if_pos hj] at e2;cases e2;obtain⟨c,hc⟩:=Option.isSome_iff_exists.1 e3;exact dead (.inl ⟨i,c,hc,e1⟩)
  ·rw[if_neg hj] at e2;exact r.bxtk i j b c1 n1 e1 e2 e3 (oldS j e4 hj)
 ·have hi:h.nx<=i:=Nat.le_of_succ_le e;have hne:i≠h.nx:=fun q=>by subst q;exact absurd e (Nat.not_succ_le_self _)
  exact⟨(r.fresh i hi).1,by rw[htok,if_neg hne];exact(r.fresh i hi).2⟩
 ·by_cases hi:t=h.nx
  ·subst hi;have e:lk (h.toks++[(h.nx,JaL 1)]) h.nx=some k:=e;rw[JaH r.lk_fresh_tok] at e;cases e;rw[htok,if_pos rfl] at q;cases q;exact⟨R,by rw[hlr,if_pos rfl],by rw[JhY,<- hR];exact hl,hR⟩
  ·rw[htok,if_neg hi] at q;obtain⟨x,f1,f2,f3⟩:=r.lpr t k b c n (old t k e hi) hk q;exact⟨x,by rw[hlr,if_neg hi];exact f1,f2,f3⟩
theorem JZ.lpLies(r:JZ g h w){t n:Nat}(hn:1<=n)(e:lk h.toks t=some (JaL n)):∃ l R,g.tok t=some (l,0,2)/\g.lrec t=some R/\w.heap[l]? = some (.loop (Jek R n))/\R=Jek R 1:=by
 obtain⟨b,c,vs,o,e1,e2,e3,_⟩:=r.tok t _ e;rw[Jij hn] at e1;obtain⟨rfl,_⟩:=e3.2 rfl;obtain⟨R,f1,f2,f3⟩:=r.lpr t _ b _ 2 e (JhX hn) e1;rw[JhY] at f2;exact⟨b,R,e1,f1,f2,f3⟩
theorem JcD{w:World}{l b:Nat}(o:Obj)(h:b≠l):(w.putObj l o).heap[b]? = w.heap[b]? := World.putObj_heap_other h
theorem Jai.putLoop{F:Nat->Prop}{w:World}{l:Nat}{x:Loop}(hl:w.heap[l]? = some (.loop x))(y:Loop)(hF:F l):Jai F w (w.putObj l (.loop y)) :=
 ⟨rfl,rfl,rfl,fun _=>Nat.le_refl _,by simp[World.putObj],fun b _ hb=>JcD _ (fun q=>hb (q ▸ hF)),fun b z e=>by
  by_cases hb:b=l
  ·subst hb;exact⟨y,World.putObj_heap_same (Jaq hl)⟩
  ·exact⟨z,(JcD _ hb).trans e⟩⟩
theorem Jcw.putLoop{w0 w:World}{ds:List Deferred}(m:Jcw w0 w ds){l:Nat}{x:Loop}(hl:w.heap[l]? = some (.loop x))(y:Loop):Jcw w0 (w.putObj l (.loop y)) ds :=
 m.keep (F:=fun b=>b=l) (fun b hb=>⟨.loop x,by subst hb;exact hl,fun _ q=>by cases q⟩) (Jai.putLoop hl y rfl)
theorem JZ.but(r:JZ g h w){l:Nat}{x:Loop}(hl:w.heap[l]? = some (.loop x))(dead:∀ t k c n,lk h.toks t=some k->g.tok t≠some (l,c,n))(o':Obj):JZ g h (w.putObj l o'):=by
 have oth:∀ (b:Nat) (o:Obj),b≠l->w.heap[b]? = some o->(w.putObj l o').heap[b]? = some o:=fun b o hb e=>(JcD _ hb).trans e;refine⟨r.nx,fun b o v e=>?_,fun id cs e=>?_,fun t k e=>?_,r.bxbx,r.tktk,r.bxtk,r.fresh,fun b t e=>?_,fun b e=>?_,fun t k b c n e hk q=>?_⟩
 ·obtain⟨e1,e2⟩:=r.mem b o v e;have hb:b≠l:=fun q=>by subst q;simp[World.cell?,hl] at e1
  exact⟨by rw[World.cell?_of_block (w:=w) (JcD _ hb)];exact e1,e2⟩
 ·obtain⟨b,vs,ty,e1,e2,e3⟩:=r.box id cs e;exact⟨b,vs,ty,e1,oth b _ (fun q=>by subst q;rw[hl] at e2;cases e2) e2,e3⟩
 ·obtain⟨b,c,vs,o,e1,e2,e3⟩:=r.tok t k e;exact⟨b,c,vs,o,e1,oth b _ (fun q=>by subst q;exact dead t k _ _ e e1) e2,e3⟩
 ·obtain⟨es,k,e1,e2⟩:=r.cch b t e;exact⟨es,k,oth b _ (fun q=>by subst q;rw[hl] at e1;cases e1) e1,e2⟩
 ·obtain⟨vs,ty,e1⟩:=r.cel b e;exact⟨vs,ty,oth b _ (fun q=>by subst q;rw[hl] at e1;cases e1) e1⟩
 ·obtain⟨x,f1,f2,f3⟩:=r.lpr t k b c n e hk q;exact⟨x,f1,oth b _ (fun q'=>by subst q';exact dead t k _ _ e q) f2,f3⟩
theorem JfR{α:Type}{l:List (Nat × α)}{i j:Nat}{x:α}(h:lk (dl l i) j=some x):j≠i/\lk l j=some x:=by
 rw[Jeb] at h;split at h
 ·cases h
 ·rename_i hn;exact⟨fun q=>hn q.symm,h⟩
theorem JZ.unlp(r:JZ g h w){t n l:Nat}{x:Loop}(e:lk h.toks t=some (JaL n))(q:g.tok t=some (l,0,2))(hl:w.heap[l]? = some (.loop x))(y:Loop):JZ g (h.unlp t) (w.putObj l (.loop y)) :=
 (r.less (h':=h.unlp t) rfl (fun _ _ e=>e) (fun i k e=>(JfR e).2)).but hl (fun i k c m e1 e2=>by
  obtain⟨h1,h2⟩:=JfR e1;exact h1 (r.tktk i t l _ _ _ _ e2 q (by rw[h2];rfl) (by rw[e];rfl))) _
theorem Ja2.unlp{t b:Nat}(l:Ja2 g (h.unlp t) b):Ja2 g h b:=Ja2.less (h:=h) (h':=h.unlp t) (fun _ _ e=>e) (fun i k e=>(JfR e).2) l
theorem JZ.setLp(r:JZ g h w){t n m:Nat}(hn:1<=n)(hm:1<=m)(e:lk h.toks t=some (JaL n)){l:Nat}{R:Loop}(q:g.tok t=some (l,0,2))(hR:g.lrec t=some R):JW g h w g (h.lp t m) (w.putObj l (.loop (Jek R m))):=by
 obtain⟨l',R',q',hR',hl,hRR⟩:=r.lpLies hn e;rw[q] at q';rw[hR] at hR';cases q';cases hR';have base:=r.unlp e q hl (Jek R m);have hlive:Ja2 g h l:=.inr (.inl ⟨t,_,_,_,e,q⟩);have same:(w.putObj l (.loop (Jek R m))).heap[l]? = some (.loop (Jek R m)):=World.putObj_heap_same (Jaq hl);have spl:∀ i k,lk (h.lp t m).toks i=some k->(i=t/\k=JaL m)\/(i≠t/\lk (h.unlp t).toks i=some k/\lk h.toks i=some k):=fun i k e1=>by
  have e1:lk (up h.toks t (JaL m)) i=some k:=e1;rw[JH] at e1;by_cases hi:t=i
  ·subst hi;simp only[if_true,e,Option.map_some,Option.some.injEq] at e1;exact .inl ⟨rfl,e1.symm⟩
  ·rw[if_neg hi] at e1;exact .inr ⟨fun q=>hi q.symm,by show lk (dl h.toks t) i=some k;rw[Jeb,if_neg hi];exact e1,e1⟩
 have splS:∀ i,(lk (h.lp t m).toks i).isSome=true->(lk h.toks i).isSome=true:=fun i e1=>by
  obtain⟨k,hk⟩:=Option.isSome_iff_exists.1 e1;rcases spl i k hk with ⟨rfl,_⟩ | ⟨_,_,h2⟩
  ·rw[e];rfl
  ·rw[h2];rfl
 refine⟨⟨r.nx,base.mem,base.box,fun i k e1=>?_,base.bxbx,fun i j b c n c' n' e1 e2 e3 e4=>r.tktk i j b c n c' n' e1 e2 (splS i e3) (splS j e4),fun i j b c n e1 e2 e3 e4=>r.bxtk i j b c n e1 e2 e3 (splS j e4),base.fresh,base.cch,base.cel,fun i k b c n e1 hk q1=>?_⟩,.refl g,Jai.putLoop hl _ hlive,fun b lv=>.inl ?_,fun _ _ _ e=>.inl e⟩
 ·rcases spl i k e1 with ⟨rfl,rfl⟩ | ⟨_,h1,_⟩
  ·obtain⟨b,c,vs,o,f1,f2,f3,f4,f5,f6,f7,f8⟩:=r.tok i _ e;rw[Jij hn,q] at f1;cases f1;refine⟨l,0,#[],_,by rw[q,Jij hm],same,JlG hm _,Nat.zero_le _,fun x hx=>by rw[Jik hx,Joa hm];rfl,fun i x j a e1 e2=>by rw[JlH e1] at e2;simp at e2,fun o _=>f7 o (Nat.zero_le _),f8⟩
  ·exact base.tok i k h1
 ·rcases spl i k e1 with ⟨rfl,rfl⟩ | ⟨_,h1,_⟩
  ·rw[q] at q1;cases q1;exact⟨R,hR,by rw[JhY];exact same,hRR⟩
  ·exact base.lpr i k b c n h1 hk q1
 ·rcases lv with ⟨id,cs,e1,e2⟩ | ⟨i,k,c,n,e1,e2⟩ | lv
  ·exact .inl ⟨id,cs,e1,e2⟩
  ·obtain⟨k',hk'⟩:=Option.isSome_iff_exists.1 (splS i (by rw[e1];rfl));exact .inr (.inl ⟨i,k',c,n,hk',e2⟩)
  ·exact .inr (.inr lv)
end
def YC (P:Program)(p:Gh->Nat->Prop)(args:List AV)(h:Hp)(Q:AV->Hp->Prop):Prop :=
 ∀ g w l (vals:Array Value),p g l->JZ g h w->J9 g vals.toList args->∃ fn tmps assign body,(Instr.yield l vals).run P w = .ok (.round l fn tmps assign body) w /\
  RoundIn (RF none) 0 P l fn tmps assign body w fun e w'=>∃ v r h' g',e = .returned v/\Rep g' v r/\JW g h w g' h' w'/\Q r h'
theorem YC.mono{P:Program}{p:Gh->Nat->Prop}{args:List AV}{h:Hp}{Q Q':AV->Hp->Prop}(hy:YC P p args h Q)(hq:∀ r h',Q r h'->Q' r h'):YC P p args h Q':=fun g w l vals hp hr hv=>by
 obtain⟨fn,tmps,assign,body,e1,e2⟩:=hy g w l vals hp hr hv;exact⟨fn,tmps,assign,body,e1,e2.mono fun e w' ⟨v,r,h',g',k1,k2,k3,k4⟩=>⟨v,r,h',g',k1,k2,k3,hq _ _ k4⟩⟩
section
variable {P:Program} {σ:St} {o:Oper}
theorem Je8{K:St->Prop}{f:Operand}{args:Array Operand}{tys:Array TypeId}(ho:o.op = .call ⟨.value f,args,tys⟩){p:Gh->Nat->Prop}{as:List AV}(hf:ev σ f=some (.yl p))(ha:evL σ args.toList=some as)
  (h:YC P p as σ.hp fun r h'=>K ({σ with hp:=h'}.put o.dst r)):JeY P o K σ:=by
 intro g0 h0 w0 g w a Q r;have hv:=r.ev hf;have hl:=r.evL ha;generalize hu:a.eval f=u at hv;cases hv with
 | @yl _ l p0 p1 =>
  have hargs:J9 g (args.map a.eval).toList as:=by simpa using hl
  obtain⟨fn,tmps,assign,body,e1,e2⟩:=h g w l (args.map a.eval) p1 r.st.hp hargs;have hrun:(execOp a.eval o).run P w = .ok (.round l fn tmps assign body) w:=by
   simp only[execOp,ho,Sem.run_bind,resolve,hu,Deferred.ofValue,Sem.run_pure,Result.andThen_ok,invoke];simpa using e1
  unfold Oper.wp;rw[hrun];refine e2.mono fun e w' hh=>?_
  obtain⟨v,rr,h',g',he,hr,hs,hk⟩:=hh;subst he;exact⟨_,g',hk,(r.heap hs).put o.dst hr⟩
end
def putL (σ:St):List Tmp->List AV->St
 | p :: ps,v :: vs=>putL (σ.put (some p) v) ps vs
 | _,_=>σ
theorem Jae.putL{g0:Gh}{h0:Hp}{w0:Wr}{g:Gh}{w:World}:∀ {ps:List Tmp} {us:List Value} {vs:List AV} {σ:St} {a:Act},Jae g0 h0 w0 σ g w a->J9 g us vs ->
  Jae g0 h0 w0 (putL σ ps vs) g w {a with tmps:=(ps.zip us).foldl (fun tmps (t,v)=>tmps.setIfInBounds t v) a.tmps}
 | [],us,vs,σ,a,r,_=>by
  cases vs <;> exact r
 | p :: ps,us,[],σ,a,r,hv=>by
  cases us with
  | nil=>exact r
  | cons u us=>exact absurd hv.1 (by simp)
 | p :: ps,us,v :: vs,σ,a,r,hv=>by
  cases us with
  | nil=>exact absurd hv.1 (by simp)
  | cons u us=>exact Jae.putL (ps:=ps) (r.put (some p) hv.head) hv.tail
def Juf(t:Nat)(Q:AV->Hp->Prop):Exit->St->Prop
 | .normal,σ=>∃ σ',St.wk σ σ'/\lk σ'.hp.toks t=some (JaL 2)/\Q (.lit (.bool true)) (σ'.hp.lp t 1)
 | .ret,σ=>∃ σ',St.wk σ σ'/\lk σ'.hp.toks t=some (JaL 2)/\Q (.lit (.bool false)) (σ'.hp.lp t 3)
 | .exit i,σ=>∃ σ',St.wk σ σ'/\lk σ'.hp.toks t=some (JaL 2)/\Q (.lit (.bool false)) (σ'.hp.lp t (4+2 * i))
 | .goto i,σ=>∃ σ',St.wk σ σ'/\lk σ'.hp.toks t=some (JaL 2)/\Q (.lit (.bool false)) (σ'.hp.lp t (5+2 * i))
 | _,_=>False
def JrF(P:Program)(ps:Array Tmp)(assign body:Code)(t:Nat)(σ:St)(args:List AV)(h:Hp)(Q:AV->Hp->Prop):Prop :=
 lk h.toks t=some (JaL 1)/\args.length=ps.size /\
  Aw P assign (fun e σ1=>e = .normal/\lk σ1.hp.toks t=some (JaL 1)/\Aw P body (Juf t Q) {σ1 with hp:=σ1.hp.lp t 2}) (putL {σ with hp:=h} ps.toList args)
def JzL(t n:Nat)(Q:Exit->St->Prop)(σ:St)(h:Hp):Prop :=
 (n=1/\Q .normal {σ with hp:=h.unlp t})\/(n=3/\Q .ret {σ with hp:=h.unlp t})\/(∃ i,n=4+2 * i/\Q (.exit i) {σ with hp:=h.unlp t})\/∃ i,n=5+2 * i/\Q (.goto i) {σ with hp:=h.unlp t}
section
variable {P:Program} {σ:St}
theorem JlI{g g':Gh}(x:Ext g g'){t l:Nat}(ht:t<g.nx)(e:g.tok t=some (l,0,2)){l':Nat}(e':g'.tok t=some (l',0,2)):l'=l:=by
 rcases x.tok t ht with q | ⟨b,c,n,b',c',n',f1,f2,f3,f4,_⟩
 ·rw[q] at e';cases e'
 ·rw[e] at f1;rw[e'] at f2;cases f1;cases f2;exact(f4 rfl).1
theorem JjD(R:Loop)(i:Nat):Jek R (4+2 * i)={Jek R 2 with state:=.done,pending:=some (.exit i)}:=by
 unfold Jek;have a1:¬ 4+2 * i=1:=by omega
 have a2:¬ 4+2 * i=2:=by omega
 have a3:¬ 4+2 * i<=2:=by omega
 have a4:¬ 4+2 * i=3:=by omega
 have a5:(4+2 * i) % 2=0:=by omega
 have a6:(4+2 * i) / 2 - 2=i:=by omega
 simp only[if_neg a1,if_neg a2,if_neg a3,if_neg a4,if_pos a5,a6]
theorem JjE(R:Loop)(i:Nat):Jek R (5+2 * i)={Jek R 2 with state:=.done,pending:=some (.goto i)}:=by
 unfold Jek;have a1:¬ 5+2 * i=1:=by omega
 have a2:¬ 5+2 * i=2:=by omega
 have a3:¬ 5+2 * i<=2:=by omega
 have a4:¬ 5+2 * i=3:=by omega
 have a5:¬ (5+2 * i) % 2=0:=by omega
 have a6:(5+2 * i) / 2 - 2=i:=by omega
 simp only[if_neg a1,if_neg a2,if_neg a3,if_neg a4,if_neg a5,a6]
theorem Jqk{g0:Gh}{h0:Hp}{w0:Wr}{g:Gh}{w:World}{a:Act}(r:Jae g0 h0 w0 σ g w a){ps:Array Tmp}{assign body:Code}{l t:Nat}{R:Loop}{g1:Gh}(hx1:Ext g g1)(ht1:t<g1.nx)(etok:g1.tok t=some (l,0,2))(elr:g1.lrec t=some R)
  (hR1:R.tmps=a.tmps) (hR2:R.params=ps) (hR3:R.assign=assign) (hR4:R.body=body) {args:List AV} {h:Hp} {Q:AV->Hp->Prop} (hw:JrF P ps assign body t σ args h Q):YC P (fun g' l'=>l'=l/\Ext g1 g') args h Q:=by
 intro g' w' l' vals ⟨hl',hx⟩ hr hv;subst hl';obtain⟨ht,hlen,hA⟩:=hw;have recd:∀ {g2:Gh} {h2:Hp} {w2:World} {n:Nat},Ext g1 g2->JZ g2 h2 w2->1<=n->lk h2.toks t=some (JaL n)->g2.tok t=some (l',0,2)/\g2.lrec t=some R/\w2.heap[l']? = some (.loop (Jek R n))/\R=Jek R 1:=by
  intro g2 h2 w2 n x2 r2 hn e2;obtain⟨b,R',f1,f2,f3,f4⟩:=r2.lpLies hn e2;have hb:=JlI x2 ht1 etok f1;subst hb;have hRR:R'=R:=by
   have:=x2.lrec t ht1;rw[f2,elr] at this;cases this;rfl
  subst hRR;exact⟨f1,f2,f3,f4⟩
 obtain⟨k1,k2,k3,k4⟩:=recd hx hr (Nat.le_refl 1) ht;rw[<- k4] at k3;have hsz:vals.size=R.params.size:=by
  have:=hv.1;rw[hR2,<- hlen,<- this];simp
 refine⟨R.fn,_,assign,body,by rw[<- hR3,<- hR4];exact run_yield k3 hsz,?_⟩;let w0r:Wr:=⟨w',some l',fun x e=>by cases e;exact⟨R,k3⟩⟩
 have hx2:Ext g g':=hx1.trans hx;have base:Jae g' h w0r {σ with hp:=h} g' w' {tmps:=R.tmps,defers:=[]} :=
  ⟨.refl hr,fun s v e=>by
   obtain⟨u,e1,e2⟩:=r.slots s v e;exact⟨u,by rw[hR1];exact e1,e2.mono hx2⟩,by rw[hR1];exact r.nt,.nil⟩
 have fr:Jae g' h w0r (putL {σ with hp:=h} ps.toList args) g' w' {tmps:=(R.params.zip vals).foldl (fun tmps (t,a)=>tmps.setIfInBounds t a) R.tmps,defers:=[]}:=by
  have:=base.putL (ps:=ps.toList) hv;rw[<- Array.foldl_toList,Array.toList_zip,hR2];exact this
 refine roundIn_of_wpIn trivial (wpIn_mono (hA g' h w0r g' w' _ fr) fun e a1 w1 hh=>?_);obtain⟨σ1,g2,⟨rfl,ht1',hB⟩,f1⟩:=hh;have x1:=hx.trans f1.st.ext;obtain⟨p1,p2,p3,p4⟩:=recd x1 f1.st.hp (Nat.le_refl 1) ht1';have hrdy:R.state = .ready:=by rw[k4];rfl
 have hpnd:R.pending=none:=by rw[k4];rfl
 have hbusy:({R with state:=.busy}:Loop)=Jek R 2:=by
  cases R;simp only at hpnd;subst hpnd;rfl
 have s1:=f1.st.hp.setLp (Nat.le_refl 1) (m:=2) (by omega) ht1' p1 p2;refine⟨w1.putObj l' (.loop (Jek R 2)),by rw[<- hbusy];rw[<- p4] at p3;exact run_beginRound p3 hrdy,?_⟩;refine wpIn_mono (hB g' h w0r g2 _ a1 (f1.heap s1)) fun e a3 w3 hh=>?_
 obtain⟨σ3,g3,q3,f3⟩:=hh;have fin:∀ (jump:Option Code) (m:Nat) (v:Bool),1<=m->v=jump.isNone->({Jek R 2 with state:=if jump.isNone then .ready else .done,pending:=jump}:Loop)=Jek R m ->
   (∃ σ',St.wk σ3 σ'/\lk σ'.hp.toks t=some (JaL 2)/\Q (.lit (.bool v)) (σ'.hp.lp t m)) ->
   ∃ u w4,(Instr.endRound l' jump).run P w3 = .ok u w4/\∃ v r h'' g'',Ending.returned u = .returned v/\Rep g'' v r/\JW g' h w' g'' h'' w4/\Q r h'':=by
  intro jump m v hm hv hrec ⟨σ',hwk,e2,hQ⟩;obtain⟨g4,f4⟩:=hwk _ _ _ _ _ _ f3;obtain⟨m1,m2,m3,m4⟩:=recd (hx.trans f4.st.ext) f4.st.hp (by omega) e2;have s4:=f4.st.hp.setLp (n:=2) (m:=m) (by omega) hm e2 m1 m2;exact⟨.bool jump.isNone,w3.putObj l' (.loop (Jek R m)),by rw[<- hrec];exact run_endRound jump m3,.bool jump.isNone,.lit (.bool v),σ'.hp.lp t m,g4,rfl,by rw[hv];exact .lit rfl,f4.st.trans s4,hQ⟩
 cases e with
 | normal=>exact fin none 1 true (by omega) rfl (by rw[Jek];rfl) q3
 | ret=>exact fin (some .ret) 3 false (by omega) rfl (by rw[Jek];rfl) q3
 | exit i=>exact fin (some (.exit i)) (4+2 * i) false (by omega) rfl (JjD R i).symm q3
 | goto i=>exact fin (some (.goto i)) (5+2 * i) false (by omega) rfl (JjE R i).symm q3
 | panic ch=>exact q3.elim
 | outgrown=>exact q3.elim
theorem Job{w:World}(ro:Option Nat)(hro:∀ l,ro=some l->∃ x:Loop,w.heap[l]? = some (.loop x))(fn:FuncId)(tmps:Array Value)(ps:Array Tmp)(assign body:Code) :
  ∃ l mark w1 R,(Instr.enterLoop fn tmps ps assign body ro).run P w = .ok (l,mark) w1/\w1.heap[l]? = some (.loop R)/\R=Jek R 1/\R.tmps=tmps/\R.params=ps/\R.assign=assign/\R.body=body/\w.heap.size<=l /\
   (∀ g h,JZ g h w->JZ g h w1)/\(∀ F,Jai F w w1)/\(mark=[]\/∃ D,mark=[{target:=.collected D,args := #[]}]/\w.heap.size<=D/\w1.heap[D]? = some (.deferred (some []))):=by
 cases ro with
 | none =>
  refine⟨_,_,_,{state:=.ready,pending:=none,fn,tmps,params:=ps,assign,body,defers:=w.heap.size},run_enterLoop_outer fn tmps ps assign body,?_,rfl,rfl,rfl,rfl,rfl,by omega,fun g h r=>(r.still _).still _,fun F=>(Jai.alloc F w _).trans (Jai.alloc F _ _) (fun _ q=>.inl q),.inr ⟨_,rfl,Nat.le_refl _,?_⟩⟩
  ·have:=heap_alloc_new (w.alloc (.deferred (some []))) (.loop {state:=.ready,pending:=none,fn,tmps,params:=ps,assign,body,defers:=w.heap.size});rw[World.size_alloc] at this;exact this
  ·exact JP (heap_alloc_new w _)
 | some l0 =>
  obtain⟨x,hx⟩:=hro l0 rfl;refine⟨w.heap.size,[],w.alloc (.loop {state:=.ready,pending:=none,fn,tmps,params:=ps,assign,body,defers:=x.defers}),_,?_,heap_alloc_new w _,rfl,rfl,rfl,rfl,rfl,Nat.le_refl _,fun g h r=>r.still _,fun F=>Jai.alloc F w _,.inl rfl⟩;unfold Instr.enterLoop;simp only[Sem.run_bind,run_getLoop hx,run_newObj_alloc,Result.andThen,Sem.run_pure]
theorem JbS{f:Operand}{ps:Array Tmp}{assign body:Code}{Q:Exit->St->Prop}{gf:FuncId}{first lb:List AV}(hf:ev σ f=some (.fn (.func gf) first lb))(hc:Jg P gf)
  (hit:∀ p:Gh->Nat->Prop,(∀ args h R,JrF P ps assign body σ.hp.nx σ args h R->YC P p args h R) ->
   JU P gf (first++[.yl p]++lb) σ.hp.addLp fun _ h'=>∃ n,1<=n/\n≠2/\lk h'.toks σ.hp.nx=some (JaL n)/\JzL σ.hp.nx n Q σ h') :
  Aw P (.rangeFunc f ps assign body) Q σ:=by
 intro g0 h0 w0 g w a r;refine wpIn_rangeFunc fun fn _=>?_
 obtain⟨l,mark,w1,R,e1,hl,hR,q1,q2,q3,q4,hge,hkeepH,hkeepK,hmark⟩:=Job (P:=P) w0.ro (fun l e=>r.ro e) fn a.tmps ps assign body;have hv:=r.ev hf;generalize hu:a.eval f=u at hv;cases hv with
 | fn p1 p2 p3 p4 =>
  rename_i fs cs;obtain⟨fnc,k1,k2,k3⟩:=hc;have r1:JZ g σ.hp w1:=hkeepH _ _ r.st.hp;have dead:¬ Ja2 g σ.hp l:=fun lv=>by have:=lv.lt r.st.hp;omega
  have hm:∀ o,g.mem l o=Option.none:=fun o=>r.st.hp.mem_none o hge
  have rr:JZ (g.addLp l R) σ.hp.addLp w1:=r1.addLp hl hR dead hm;have hx:Ext g (g.addLp l R):=.addLp g l R;have hgn:g.nx=σ.hp.nx:=r.st.hp.nx;have hyl:Rep (g.addLp l R) (.func (.yield l) #[] #[]) (.yl fun g' l'=>l'=l/\Ext (g.addLp l R) g'):=.yl (fun _ _ x q=>⟨q.1,q.2.trans x⟩) ⟨rfl,.refl _⟩;have hargs:J9 (g.addLp l R) (fs ++ #[Value.func (.yield l) #[] #[]]++cs).toList (first++[.yl fun g' l'=>l'=l/\Ext (g.addLp l R) g']++lb):=by
   simp only[Array.toList_append];exact J9.append (J9.append (J9.mono hx ⟨p1,p2⟩) (.cons hyl .nil)) (J9.mono hx ⟨p3,p4⟩)
  have etok:(g.addLp l R).tok σ.hp.nx=some (l,0,2):=by simp[Gh.addLp,hgn]
  have elr:(g.addLp l R).lrec σ.hp.nx=some R:=by simp[Gh.addLp,hgn]
  have ent:JW g σ.hp w (g.addLp l R) σ.hp.addLp w1:=⟨rr,hx,hkeepK _,fun b lv=>by
   rcases lv with ⟨id,c,f1,f2⟩ | ⟨t,k,c,n,f1,f2⟩ | f1
   ·exact .inl (.inl ⟨id,c,f1,f2⟩)
   ·by_cases hi:t=σ.hp.nx
    ·subst hi;rw[etok] at f2;cases f2;exact .inr hge
    ·have f1:lk (σ.hp.toks++[(σ.hp.nx,JaL 1)]) t=some k:=f1;rw[J5 hi] at f1;simp only[Gh.addLp,hgn,if_neg hi] at f2;exact .inl (.inr (.inl ⟨t,k,c,n,f1,f2⟩))
   ·exact .inl (.inr (.inr f1)),fun _ _ _ q=>.inl q⟩
  have call:=hit (fun g' l'=>l'=l/\Ext (g.addLp l R) g') (fun args h Q hw=>Jqk r hx (by simp[Gh.addLp,hgn]) etok elr q1 q2 q3 q4 hw) (g.addLp l R) w1 (fs ++ #[Value.func (.yield l) #[] #[]]++cs) rr hargs;refine⟨l,mark,w1,{target:=.fn (.func gf) cs,args:=fs ++ #[Value.func (.yield l) #[] #[]]},w1,gf,fs ++ #[Value.func (.yield l) #[] #[]]++cs,w1,e1,?_,fun _ _=>trivial,?_,fun q=>by simp[RF,Fence.wide] at q,JrA (call.mono ?_)⟩
  ·simp only[rangeCall,resolve,hu,Deferred.ofValue,Sem.run_pure];simp[Act.eval]
  ·simp only[invoke,callFunc,Sem.run_bind,run_program,Result.andThen_ok,k1,k2,k3];simp
  ·rintro e w3 ⟨v,rv,h',g',rfl,hv',s,n,hn1,hn2,ht,hK⟩;obtain⟨b,R',f1,f2,f3,f4⟩:=s.hp.lpLies hn1 ht;have hb:=JlI s.ext (t:=σ.hp.nx) (by simp[Gh.addLp,hgn]) etok f1;subst hb;have hRR:R'=R:=by
    have:=s.ext.lrec σ.hp.nx (by simp[Gh.addLp,hgn]);rw[f2,elr] at this;cases this;rfl
   subst hRR;have hst:(Jek R' n).state≠.busy:=by
    unfold Jek;simp only[if_neg hn2];split <;> simp
   refine⟨_,_,run_endLoop f3 hst,?_⟩;have fin:Jae g0 h0 w0 {σ with hp:=h'.unlp σ.hp.nx} g' (w3.putObj b (.loop {Jek R' n with state:=.exhausted})) {a with defers:=mark++a.defers}:=by
    have tot:=ent.trans s;have m1:Jcw w0.w w1 (mark++a.defers):=by
     have mo:Jcw w0.w w1 a.defers:=r.defers.keep (F:=fun _=>False) (fun _ q=>q.elim) (hkeepK _);rcases hmark with rfl | ⟨D,rfl,hD,hD2⟩
     ·exact mo
     ·refine⟨?_,fun d hd=>?_⟩
      ·rw[List.singleton_append,List.nodup_cons];refine⟨fun hmem=>?_,mo.1⟩;obtain⟨D',e,_,h3⟩:=r.defers.2 _ hmem;cases e;have:=Jaq h3;omega
      ·rcases List.mem_append.1 hd with hd | hd
       ·rw[List.mem_singleton] at hd;subst hd;exact⟨D,rfl,Nat.le_trans r.st.keeps.size hD,hD2⟩
       ·exact mo.2 d hd
    refine⟨⟨s.hp.unlp ht f1 f3 _,r.st.ext.trans tot.ext,?_,fun x lv=>?_,fun x o u q=>?_⟩,fun i u e=>?_,r.nt,(m1.step rr s).putLoop f3 _⟩
    ·have k0:=r.st.keeps.trans tot.keeps r.st.live;exact k0.trans (Jai.putLoop (F:=fun x=>x=b) f3 _ rfl) (fun x q=>.inr (by rw[q];exact Nat.le_trans r.st.keeps.size hge))
    ·rcases tot.live x lv.unlp with q | q
     ·exact r.st.live x q
     ·exact .inr (Nat.le_trans r.st.keeps.size q)
    ·rcases tot.memo x o u q with q | q | q
     ·exact r.st.memo x o u q
     ·exact .inr (r.st.live x q)
     ·exact .inr (.inr (Nat.le_trans r.st.keeps.size q))
    ·obtain⟨y,y1,y2⟩:=r.slots i u e;exact⟨y,y1,y2.mono tot.ext⟩
   obtain⟨w4,hw4⟩:∃ w4,w3.putObj b (.loop {Jek R' n with state:=.exhausted})=w4:=⟨_,rfl⟩;rw[hw4] at fin ⊢;clear hw4;rcases hK with ⟨rfl,hQ⟩ | ⟨rfl,hQ⟩ | ⟨i,rfl,hQ⟩ | ⟨i,rfl,hQ⟩
   ·exact⟨_,g',hQ,fin⟩
   ·exact wpIn_ret ⟨_,g',hQ,fin⟩
   ·rw[JjD];exact wpIn_exit ⟨_,g',hQ,fin⟩
   ·rw[JjE];exact wpIn_goto ⟨_,g',hQ,fin⟩
end
end Go.Ab
end
section
namespace Go.Ab
section
variable {P:Program} {ops:Array Oper} {p:Nat} {σ:St} {g0:Gh} {h0:Hp} {w0:Wr}
def Jql(o:Oper):Bool :=
 match o.op with
 | .move _=>true
 | .assign _=>true
 | .load _ _=>true
 | .fieldAddr _ _ _=>true
 | .binOp _ _ _ _ _=>true
 | .nilCheck _=>true
 | .indexAddr _ _ _=>true
 | _=>false
theorem JkQ{P:Program}{σ:St}{o:Oper}{v:AV}{h:Hp}(gr:Jju σ.hp h)(hc:Jql o=true)(k:Ja0 P σ o v):Ja0 P {σ with hp:=h} o v:=by
 have key:∀ op:Op,Jql {o with op:=op}=true->qOp P σ op=some v->qOp P {σ with hp:=h} op=some v:=by
  intro op hc k;cases op with
  | load t x =>
   unfold qOp at k ⊢;simp only[Jz,JdB] at k ⊢;cases h1:Jt P t with
   | none=>rw[h1] at k;cases k
   | some ti =>
    cases h2:ev σ x with
    | none=>rw[h1,h2] at k;cases k
    | some p =>
     simp only[h1,h2] at k ⊢;cases h3:Ja3 σ.hp p with
     | none=>rw[h3] at k;cases k
     | some y=>rw[h3] at k;rw[Jgl gr h3];exact k
  | nilCheck x=>unfold qOp at k ⊢;simp only[Jz,JdB] at k ⊢;exact k
  | indexAddr t x y =>
   unfold qOp at k ⊢;simp only[Jz,JdB] at k ⊢;cases h1:Jt P t with
   | none=>simp[h1] at k
   | some ti =>
    cases h2:(ev σ x).map unw with
    | none=>simp[h1,h2] at k
    | some p =>
     cases h3:(ev σ y).bind Jdc with
     | none=>cases p <;> simp[h1,h2,h3] at k
     | some n =>
      cases p with
      | own tk m =>
       cases h5:lk σ.hp.toks tk with
       | none =>
        simp only[h1,h2,h3,h5] at k;cases h6:ti.kd <;> simp[h6] at k
       | some q =>
        simp only[h1,h2,h3,h5] at k;simp only[h1,h2,h3,gr.2 tk q h5];exact k
      | _=>simp only[h1,h2,h3] at k ⊢;exact k
  | move x=>unfold qOp at k ⊢;simp only[Jz,JdB] at k ⊢;exact k
  | assign x=>unfold qOp at k ⊢;simp only[Jz,JdB] at k ⊢;exact k
  | fieldAddr t x f=>unfold qOp at k ⊢;simp only[Jz,JdB] at k ⊢;exact k
  | binOp a b c d e=>unfold qOp at k ⊢;simp only[Jz,JdB] at k ⊢;exact k
  | _=>cases hc
 have ho:∀ op,o.op=op->Jql {o with op:=op}=true:=fun op e=>by rw[<- e];exact hc
 unfold Ja0 at k ⊢;cases hop:o.op with
 | pick c x y=>have:=ho _ hop;cases this
 | call c=>have:=ho _ hop;cases this
 | _ =>
  rw[hop] at k;exact key _ (ho _ hop) k
end
end Go.Ab
end
section
namespace Go.Ab
section
variable {P:Program} {ops:Array Oper} {p:Nat} {σ:St} {g0:Gh} {h0:Hp} {w0:Wr}
def JrG (P:Program)(σ:St)(o:Oper)(v:AV)(hF:Hp):Prop :=
 match o.op with
 | .store t x y=>v = .tup []/\o.dst=none/\Jb6 P σ (.store t x y)=some (none,hF)
 | _=>False
theorem JmA{σ':St}{o:Oper}{v:AV}{hF:Hp}(hp:σ.hp=σ'.hp)(h:∀ x∈o.op.operands,ev σ x=ev σ' x)(k:JrG P σ o v hF):JrG P σ' o v hF:=by
 unfold JrG at *;split at k
 ·rename_i t x y ho;rw[ho] at h;have h1:ev σ x=ev σ' x:=h x (by simp[Op.operands]);have h2:ev σ y=ev σ' y:=h y (by simp[Op.operands]);have e1:Jz P σ (.store t x y)=Jz P σ' (.store t x y):=JdO hp h;have e2:Jaf P σ (.store t x y)=Jaf P σ' (.store t x y):=by
   unfold Jaf;simp only[h1,h2,hp]
  obtain⟨k1,k2,k3⟩:=k;refine⟨k1,k2,?_⟩;unfold Jb6 at *;rw[<- e1,<- e2,<- hp];exact k3
 ·exact k.elim
theorem JmB{g:Gh}{w:World}{a:Act}{o:Oper}(r:Jae g0 h0 w0 σ g w a){v:AV}{hF:Hp}(h:JrG P σ o v hF){next:Act->World->Prop}{Q:Exit->Act->World->Prop}
  (hn:∀ u g' w',Rep g' u v->JW g σ.hp w g' hF w'->next (a.put o.dst u) w'):Oper.wp P o a w next Q:=by
 unfold JrG at h;split at h
 ·rename_i t x y ho;obtain⟨rfl,hd,h⟩:=h;rw[<- ho] at h;unfold Jb6 at h;split at h
  ·simp at h
  ·obtain⟨g',w',s,e1⟩:=JcR r h;unfold Oper.wp;rw[show (execOp a.eval o).run P w = .ok .skip w' from e1];exact hn undef g' w' (Rep.tup (cs := #[]) (as:=[]) rfl (by simp)) s
 ·exact h.elim
structure Jhp (P:Program) (ops:Array Oper) (f:Nat) (hF:Hp) (l:List Oper) (σ:St) (ws:List AV):Prop where
 len:ws.length=l.length
 step:∀ i o w,l[i]? = some o->ws[i]? = some w->∃ b,(o.guard=none/\b=true\/∃ j want c,o.guard=some (j,want)/\Jar ops (JaP σ ((l.map (·.dst)).zip ws |>.take i)) j want=some c/\b=(c==want)) /\
  (b=true->(i<f->Ja0 P (JaP σ ((l.map (·.dst)).zip ws |>.take i)) o w/\(Bef ops i f\/Ja0 P {JaP σ ((l.map (·.dst)).zip ws |>.take i) with hp:=hF} o w)) /\
   (i=f->JrG P (JaP σ ((l.map (·.dst)).zip ws |>.take i)) o w hF)/\(f<i->Ja0 P {JaP σ ((l.map (·.dst)).zip ws |>.take i) with hp:=hF} o w))/\(b=false->w = .tup []/\i≠f)
theorem Jhp.at{f:Nat}{hF:Hp}{l:List Oper}{ws:List AV}(t:Jhp P ops f hF l σ ws){i:Nat}{o:Oper}(h:l[i]? = some o):∃ w,ws[i]? = some w:=by
 have hi:i<ws.length:=by rw[t.len];exact(List.getElem?_eq_some_iff.1 h).1
 exact⟨ws[i],List.getElem?_eq_getElem hi⟩
theorem Ji6.looksT{f:Nat}{hF c:Hp}{ws:List AV}{L:Nat->Bool}{g:Gh}{w:World}{a:Act}(hs:Ji5 ops σ.nt p)(t:Jhp P ops f hF (ops.toList.take p) σ ws)(hh:Ji6 ops p {σ with hp:=c} ws g0 h0 w0 L g w a)(hc:JdP ops L)(hlt:∀ j,L j=true->j<p)
  {i:Nat} {o:Oper} (hi:i<p) (ho:ops[i]? = some o) (hu:L i=false) (hr:∀ k,Bef ops k i->L k=true) {s:Nat} (hl:s∈Ab.looks ops o) {v:AV}
  (e:lk (JaP σ ((((ops.toList.take p).map (·.dst)).zip ws).take i)).slots s=some v):∃ u,a.tmps[s]? = some u/\Rep g u v:=by
 rcases Jdi (nt:=σ.nt) _ σ s v rfl (fun k d w' q=>by
  obtain⟨_,q1,q2,q3,_⟩:=Jat q;exact hs.bound k q1 d (JaB q2).1 (JaB q2).2 q3) e with ⟨j,h1,h2⟩ | ⟨h1,h2⟩
 ·obtain⟨hji,oj,q1,q2,q3⟩:=Jat h1;obtain⟨hjp,q1'⟩:=JaB q1;refine hh.wrt j oj v s (hr j (hs.sep j i oj o hji hi q1' ho (.inl ⟨s,q2,.inl hl⟩))) q1' q3 q2 (fun k q hjk hLk hk hd=>?_);rcases Nat.lt_trichotomy k i with hki | hki | hki
  ·obtain⟨wk,hwk⟩:=t.at (JT (by omega) hk);exact h2 k q.dst wk hjk (JaY hki (JT (by omega) hk) hwk) hd
  ·subst hki;rw[hu] at hLk;cases hLk
  ·have:=hc i k (hs.sep i k o q hki (hlt k hLk) ho hk (.inr ⟨s,hd,hl⟩)) hLk;rw[hu] at this;cases this
 ·refine hh.old s v (fun k q hLk hk hd=>?_) h2;rcases Nat.lt_trichotomy k i with hki | hki | hki
  ·obtain⟨wk,hwk⟩:=t.at (JT (by omega) hk);exact h1 k q.dst wk (JaY hki (JT (by omega) hk) hwk) hd
  ·subst hki;rw[hu] at hLk;cases hLk
  ·have:=hc i k (hs.sep i k o q hki (hlt k hLk) ho hk (.inr ⟨s,hd,hl⟩)) hLk;rw[hu] at this;cases this
theorem JmC{ws:List AV}{Q:Exit->Act->World->Prop}{rest f:Nat}{hF:Hp}(hs:Ji5 ops σ.nt p)(hf:f<p)(hfb:∀ i,f<i->i<p->Bef ops f i)(ht:∀ i j,i<p->p<=j->j<ops.size->Bef ops i j)(t:Jhp P ops f hF (ops.toList.take p) σ ws)
  (fin:∀ g w a listed fuel,listed.size=ops.size->(∀ j,Jah listed j=decide (j<p))->rest<=fuel->Jae g0 h0 w0 {JaP σ (((ops.toList.take p).map (·.dst)).zip ws) with hp:=hF} g w a->Ja5 P .any ops Q fuel listed a w) :
  ∀ (m:Nat) (listed:Array Bool) (fuel:Nat) (g:Gh) (w:World) (a:Act),listed.size=ops.size->(∀ j,Jah listed j=true->j<p)->JdP ops (Jah listed) ->
   ((List.range p).filter fun j => !Jah listed j).length<=m->m+rest<=fuel->Ji6 ops p {σ with hp:=hpF listed f σ.hp hF} ws g0 h0 w0 (Jah listed) g w a->Ja5 P .any ops Q fuel listed a w:=by
 intro m;induction m with
 | zero =>
  intro listed fuel g w a hsz hlt hc hm hfu hh;have hall:∀ j,j<p->Jah listed j=true:=fun j hj=>by
   cases q:Jah listed j with
   | true=>rfl
   | false =>
    have:j∈(List.range p).filter fun j => !Jah listed j:=by simp[hj,q]
    rw[List.eq_nil_of_length_eq_zero (Nat.le_zero.1 hm)] at this;cases this
  have hon:∀ j,Jah listed j=decide (j<p):=fun j=>by
   by_cases hj:j<p
   ·simp[hj,hall j hj]
   ·cases q:Jah listed j with
    | true=>exact absurd (hlt j q) hj
    | false=>simp[hj]
  have hcur:hpF listed f σ.hp hF=hF:=by simp[hpF,hall f hf]
  rw[hcur] at hh;refine fin g w a listed fuel hsz hon (by omega) ⟨hh.st,fun s v e=>?_,?_,hh.defers⟩
  ·rcases Jdi (nt:=σ.nt) _ σ s v rfl (fun k d w' q=>by
    have q':=Jat (i:=k) (m:=k+1) (by rw[List.getElem?_take,if_pos (by omega)];exact q);obtain⟨_,o1,q2,q3,_⟩:=q';exact hs.bound k o1 d (JaB q2).1 (JaB q2).2 q3) e with ⟨j,h1,h2⟩ | ⟨h1,h2⟩
   ·have q':=Jat (i:=j) (m:=j+1) (by rw[List.getElem?_take,if_pos (by omega)];exact h1);obtain⟨_,oj,q1,q2,q3⟩:=q';obtain⟨hjp,q1'⟩:=JaB q1;refine hh.wrt j oj v s (hall j hjp) q1' q3 q2 (fun k q hjk hLk hk hd=>?_);have hkp:=hlt k hLk;obtain⟨wk,hwk⟩:=t.at (JT hkp hk);have:=JaY (m:=k+1) (Nat.lt_succ_self k) (JT hkp hk) hwk;rw[List.getElem?_take,if_pos (by omega)] at this;exact h2 k q.dst wk hjk this hd
   ·refine hh.old s v (fun k q hLk hk hd=>?_) h2;have hkp:=hlt k hLk;obtain⟨wk,hwk⟩:=t.at (JT hkp hk);have:=JaY (m:=k+1) (Nat.lt_succ_self k) (JT hkp hk) hwk;rw[List.getElem?_take,if_pos (by omega)] at this;exact h1 k q.dst wk this hd
  ·show a.tmps.size=(JaP σ _).nt;rw[(JaW _ σ).2];exact hh.nt
 | succ m ih =>
  intro listed fuel g w a hsz hlt hc hm hfu hh;by_cases hz:((List.range p).filter fun j => !Jah listed j).length<=m
  ·exact ih listed fuel g w a hsz hlt hc hz (by omega) hh
  ·obtain⟨fuel,rfl⟩:∃ f,fuel=f+1:=⟨fuel - 1,by omega⟩;have hex:∃ j,j<p/\Jah listed j=false:=by
    cases q:(List.range p).filter fun j => !Jah listed j with
    | nil=>rw[q] at hz;simp at hz
    | cons x l =>
     have:x∈(List.range p).filter fun j => !Jah listed j:=by rw[q];simp
     simp only[List.mem_filter,List.mem_range,Bool.not_eq_true'] at this;exact⟨x,this⟩
   refine⟨fun hnil=>?_,fun i hi=>?_⟩
   ·exfalso;have least:∀ n,∀ j,j<=n->j<p->Jah listed j=false->False:=by
     intro n;induction n using Nat.strongRecOn with
     | _ n ihn =>
      intro j hjn hj hoff;have hjs:j<ops.size:=Nat.lt_of_lt_of_le hj hs.le;have hready:j∈Region.ready .any ops listed:=(Jba hsz).2 ⟨ops[j],Array.getElem?_eq_getElem hjs,hoff,fun e he hb=>by
       have hb':=hs.back j _ e hj (Array.getElem?_eq_getElem hjs) he hb;cases q:Jah listed e.on with
       | true=>rfl
       | false=>exact(ihn (e.on) (by omega) e.on (Nat.le_refl _) (by omega) q).elim⟩
      rw[hnil] at hready;cases hready
    obtain⟨j,hj,hoff⟩:=hex;exact least j j (Nat.le_refl _) hj hoff
   ·obtain⟨o,ho,hoff,hedges⟩:=(Jba hsz).1 hi;have his:i<ops.size:=(Array.getElem?_eq_some_iff.1 ho).1;have hr:=JlD hc ho hedges;have hip:i<p:=by
     rcases Nat.lt_or_ge i p with h1 | h1
     ·exact h1
     ·obtain⟨j,hj,hjoff⟩:=hex;have:=hr j (ht j i hj h1 his);rw[hjoff] at this;cases this
    obtain⟨v,hv⟩:=t.at (JT hip ho);obtain⟨b,hguard,hval,hskip⟩:=t.step i o v (JT hip ho) hv;have look:∀ s∈Ab.looks ops o,∀ v,lk (JaP σ ((((ops.toList.take p).map (·.dst)).zip ws).take i)).slots s=some v->∃ u,a.tmps[s]? = some u/\Rep g u v :=
     fun s hs' v e=>hh.looksT hs t hc hlt hip ho hoff hr hs' e
    have hwant:Region.wanted o (yielded ops a.tmps)=b:=by
     rcases hguard with ⟨hg,rfl⟩ | ⟨j,want,c,hg,hbit,rfl⟩
     ·simp[Region.wanted,hg]
     ·have:(yielded ops a.tmps j==some want)=(c==want):=by
       unfold Jar at hbit;split at hbit
       ·rename_i d hd;split at hbit
        ·rename_i b' hl;cases hbit;have hmem:d∈Ab.looks ops o:=by simp only[Ab.looks,hg,List.mem_append];exact .inr (by rw[hd];simp)
         obtain⟨u,e1,e2⟩:=look d hmem _ hl;have:=(Rep.of_lit e2).1;subst this;simp[yielded,hd,e1]
        ·rename_i hl;cases hbit;have hmem:d∈Ab.looks ops o:=by simp only[Ab.looks,hg,List.mem_append];exact .inr (by rw[hd];simp)
         obtain⟨u,e1,e2⟩:=look d hmem _ hl;cases e2;simp[yielded,hd,e1]
        ·cases hbit
       ·cases hbit
      simp[Region.wanted,hg,this]
    have hon:Jah (listed.setIfInBounds i true)=fun j=>if j=i then true else Jah listed j:=funext (JfQ (by omega))
    have nextc:∀ c' u g' w',hpF (listed.setIfInBounds i true) f σ.hp hF=c'->Rep g' u v->JW g (hpF listed f σ.hp hF) w g' c' w'->Ja5 P .any ops Q fuel (listed.setIfInBounds i true) (a.put o.dst u) w':=by
     intro c' u g' w' hcur hu st;refine ih _ fuel g' w' _ (by simpa using hsz) (fun j hj=>?_) ?_ ?_ (by omega) ?_
     ·rw[hon] at hj;by_cases hji:j=i
      ·omega
      ·simp only[if_neg hji] at hj;exact hlt j hj
     ·rw[hon];intro k j hb hj;by_cases hki:k=i
      ·simp[hki]
      ·simp only[if_neg hki];by_cases hji:j=i
       ·subst hji;exact hr k hb
       ·simp only[if_neg hji] at hj;exact hc k j hb hj
     ·have:=Jck (f:=fun j => !Jah listed j) (f':=fun j => !Jah (listed.setIfInBounds i true) j) (l:=List.range p) (fun x _ hx=>by
       rw[hon] at hx;by_cases hxi:x=i
       ·simp[hxi] at hx
       ·simpa [hxi] using hx) ⟨i,by simp[hip],by simp[hoff],by rw[hon];simp⟩
      omega
     ·rw[hcur,hon];exact hh.putF hs hc hlt hip ho hoff hv hu st
    let ρ:Hp->St:=fun c=>⟨((Ab.looks ops o).filterMap fun s=>(lk (JaP σ ((((ops.toList.take p).map (·.dst)).zip ws).take i)).slots s).map fun v=>(s,v)),c,σ.nt⟩
    have lkρ:∀ (l:List Nat) (f:Nat->Option AV) (s:Nat) (v:AV),lk (l.filterMap fun s=>(f s).map fun v=>(s,v)) s=some v->s∈l/\f s=some v:=by
     intro l f;induction l with
     | nil=>intro s v e;cases e
     | cons x l ih =>
      intro s v e;rw[List.filterMap_cons] at e;cases q:f x with
      | none=>simp only[q,Option.map_none] at e;obtain⟨h1,h2⟩:=ih s v e;exact⟨by simp[h1],h2⟩
      | some y =>
       simp only[q,Option.map_some,lk] at e;split at e
       ·rename_i hx;cases e;subst hx;exact⟨by simp,q⟩
       ·obtain⟨h1,h2⟩:=ih s v e;exact⟨by simp[h1],h2⟩
    have lkρ2:∀ (l:List Nat) (f:Nat->Option AV) (s:Nat),s∈l->lk (l.filterMap fun s=>(f s).map fun v=>(s,v)) s=f s:=by
     intro l f;induction l with
     | nil=>intro s h;cases h
     | cons x l ih =>
      intro s hmem;rw[List.filterMap_cons];by_cases hx:x=s
      ·subst hx;cases q:f x with
       | none =>
        simp only[Option.map_none];by_cases hm:x∈l
        ·rw[ih x hm,q]
        ·cases q2:lk (l.filterMap fun s=>(f s).map fun v=>(s,v)) x with
         | none=>rfl
         | some y=>exact absurd (lkρ l f x y q2).1 hm
       | some y=>simp[lk]
      ·have hm:s∈l:=by simp only[List.mem_cons] at hmem;rcases hmem with h1 | h1;exact absurd h1.symm hx;exact h1
       cases q:f x with
       | none=>simp only[Option.map_none];exact ih s hm
       | some y=>simp only[Option.map_some,lk,if_neg hx];exact ih s hm
    have fr:Jae g0 h0 w0 (ρ (hpF listed f σ.hp hF)) g w a:=⟨hh.st,fun s v e=>by
     obtain⟨h1,h2⟩:=lkρ _ _ s v e;exact look s h1 v h2,hh.nt,hh.defers⟩
    have evs:∀ c:Hp,∀ x∈o.op.operands,ev ({JaP σ ((((ops.toList.take p).map (·.dst)).zip ws).take i) with hp:=c}:St) x=ev (ρ c) x:=fun c x hx=>by
     cases x with
     | tmp s =>
      have hmem:s∈Ab.looks ops o:=by
       simp only[Ab.looks,List.mem_append,List.mem_filterMap];exact .inl ⟨.tmp s,by simpa using hx,rfl⟩
      exact(lkρ2 _ (fun s=>lk (JaP σ ((((ops.toList.take p).map (·.dst)).zip ws).take i)).slots s) s hmem).symm
     | const c=>rfl
     | «global» q=>rfl
     | func f=>rfl
    have same:({JaP σ ((((ops.toList.take p).map (·.dst)).zip ws).take i) with hp:=σ.hp}:St)=JaP σ ((((ops.toList.take p).map (·.dst)).zip ws).take i):=by
     conv=>rhs;rw[show JaP σ ((((ops.toList.take p).map (·.dst)).zip ws).take i)={JaP σ ((((ops.toList.take p).map (·.dst)).zip ws).take i) with hp:=(JaP σ ((((ops.toList.take p).map (·.dst)).zip ws).take i)).hp} from rfl]
     rw[(JaW _ σ).1]
    unfold Jkx;simp only[ho];by_cases hif:i=f
    ·subst hif;have hcur:hpF listed i σ.hp hF=σ.hp:=by simp[hpF,hoff]
     have hcur':hpF (listed.setIfInBounds i true) i σ.hp hF=hF:=by simp[hpF,hon]
     cases b with
     | false=>exact absurd rfl (hskip rfl).2
     | true =>
      rw[if_pos hwant];refine .inl ?_;have e1:=(hval rfl).2.1 rfl;rw[<- same] at e1;rw[hcur] at fr nextc;exact JmB fr (JmA (σ':=ρ σ.hp) (by exact rfl) (evs σ.hp) e1) fun u g' w' hu st=>nextc hF u g' w' hcur' hu st
    ·have hcur':hpF (listed.setIfInBounds i true) f σ.hp hF=hpF listed f σ.hp hF:=by simp[hpF,hon,Ne.symm hif]
     cases b with
     | true =>
      rw[if_pos hwant];refine .inl ?_;have e1:Ja0 P {JaP σ ((((ops.toList.take p).map (·.dst)).zip ws).take i) with hp:=hpF listed f σ.hp hF} o v:=by
       have hv:=hval rfl;cases q:Jah listed f with
       | true =>
        have:hpF listed f σ.hp hF=hF:=by simp[hpF,q]
        rw[this];rcases Nat.lt_trichotomy i f with h1 | h1 | h1
        ·rcases(hv.1 h1).2 with q1 | q1
         ·have:=hc i f q1 q;rw[hoff] at this;cases this
         ·exact q1
        ·exact absurd h1 hif
        ·exact hv.2.2 h1
       | false =>
        have:hpF listed f σ.hp hF=σ.hp:=by simp[hpF,q]
        rw[this,same];rcases Nat.lt_trichotomy i f with h1 | h1 | h1
        ·exact(hv.1 h1).1
        ·exact absurd h1 hif
        ·have:=hr f (hfb i h1 hip);rw[q] at this;cases this
      exact Jdg fr (Jdf (σ':=ρ (hpF listed f σ.hp hF)) (by exact rfl) (evs _) e1) fun u g' w' hu st=>nextc _ u g' w' hcur' hu st
     | false =>
      rw[if_neg (by rw[hwant];simp)];have:=(hskip rfl).1;subst this;exact nextc _ undef g w hcur' (Rep.tup (cs := #[]) (as:=[]) rfl (by simp)) (.refl hh.st.hp)
def Jzn (P:Program)(o:Oper)(x:Option (Option AV × Hp))(K:St->Prop)(σ:St):Prop :=
 match x with
 | some (none,h)=>o.dst=none/\K {σ with hp:=h}
 | _=>False
def JkR(o:Oper):Bool :=
 match o.op with
 | .store _ _ _=>true
 | _=>false
theorem Joc{P:Program}{o:Oper}{K:St->Prop}{σ:St}(hb:JkR o=true)(h:Jzn P o (Jb6 P σ o.op) K σ):∃ rv hF,JrG P σ o rv hF/\K (St.put {σ with hp:=hF} o.dst rv):=by
 unfold Jzn at h;split at h
 ·rename_i x hF hx;obtain⟨h1,h2⟩:=h;refine⟨.tup [],hF,?_,by rw[h1];exact h2⟩;unfold JkR at hb;split at hb
  ·rename_i t x y ho;unfold JrG;rw[ho] at hx ⊢;exact⟨rfl,h1,hx⟩
  ·cases hb
 ·exact h.elim
end
end Go.Ab
end
section
namespace Go.Ab
section
variable {P:Program} {ops:Array Oper} {p:Nat} {σ:St} {g0:Gh} {h0:Hp} {w0:Wr}
def Jug(ops:Array Oper)(f:Nat):Bool :=
 let B:=(Jqa ops.toList []).getD f []
 (ops.getD f default).guard.isNone && JkR (ops.getD f default) && (List.range f).all fun i=>Jql (ops.getD i default) || B.contains i
theorem Jqm{Q:Exit->St->Prop}{σ':St}{n:Nat}(N:Nat){id:Nat}{l:List Oper}(f:Nat)(t:OT){o:Oper}(hof:l[f]? = some o)(hn:σ.nt=n)(hB:Jdh l.toArray n (f+1)=true)(hT:Je5 l.toArray (f+1)=true)(hSG:Jug l.toArray f=true)(hm:P.follows .mixedOrders=true)
  (hok:okT l.toArray t (Array.ofFn fun j:Fin l.length=>decide (j.val<f+1)) none=true) (hd:decide (f+1+t.depth<=l.length)=true)
  (h:qwl P l.toArray (l.take f) (fun σ1=>Jzn P o (Jb6 P σ1 o.op) (fun σ2=>Jju σ.hp σ2.hp/\σ2.hp.nx<=N/\JbI P l.toArray t (fun σ3=>St.cp N σ3 σ') σ2) σ1) σ) (k:Q .normal σ'):Aw P (.region id l.toArray true) Q σ:=by
 intro g0 h0 w0 g w a r;have hB':Jdh l.toArray σ.nt (f+1)=true:=by rw[hn];exact hB
 have hs:=Ji5.of_B hB';have getD:∀ j o,l[j]? = some o->l.toArray.getD j default=o:=fun j o e=>by simp[Array.getD_eq_getD_getElem?,e]
 unfold Jug at hSG;simp only[Bool.and_eq_true,List.all_eq_true,List.mem_range,Bool.or_eq_true,List.contains_eq_mem,decide_eq_true_eq] at hSG;obtain⟨⟨hgf,hbt⟩,hstill⟩:=hSG;rw[getD f o hof] at hgf hbt;have hgf:o.guard=none:=by simpa using hgf
 have hlp:f+1<=l.length:=by have:=hs.le;simpa using this
 have hfl:f<l.length:=by omega
 have hfp:f<f+1:=Nat.lt_succ_self f;have hfb:∀ i,f<i->i<f+1->Bef l.toArray f i:=fun i h1 h2=>by omega
 obtain⟨ws1,t1,h1⟩:=Jcj _ _ h;have hlen1:(l.take f).length=f:=by rw[List.length_take];omega
 have hL:l.take (f+1)=l.take f++[o]:=by
  obtain⟨hfl',e3⟩:=List.getElem?_eq_some_iff.1 hof;rw[List.take_add_one,hof];rfl
 generalize hl1:l.take f=l1 at hL t1 h1 hlen1;have hw1:ws1.length=f:=by rw[t1.len,hlen1]
 generalize hi1:(l1.map (·.dst)).zip ws1=it1 at h1 t1;have hit1:it1.length=f:=by rw[<- hi1];simp[hlen1,hw1]
 obtain⟨rv,hF,hx,h1⟩:=Joc hbt h1;have hgr:Jju σ.hp hF:=by have:=h1.1;rwa [(Jfq _ _ _).1] at this
 have hitems:((l.take (f+1)).map (·.dst)).zip (ws1++[rv])=it1++[(o.dst,rv)]:=by
  rw[hL,List.map_append,List.zip_append (by simp[hlen1,hw1]),hi1];rfl
 have tF:Jhp P l.toArray f hF (l.toArray.toList.take (f+1)) σ (ws1++[rv]):=by
  show Jhp P l.toArray f hF (l.take (f+1)) σ _;refine⟨by rw[hL];simp[hlen1,hw1],fun i o' v e1 e2=>?_⟩;rw[hitems];rw[hL] at e1;rcases Nat.lt_trichotomy i f with hi | hi | hi
  ·rw[List.getElem?_append_left (by omega)] at e1 e2;rw[List.take_append_of_le_length (by omega)];obtain⟨b,hg,hv,hk⟩:=t1.step i o' v e1 e2;rw[hi1] at hv hg;have hol:l[i]? = some o':=by rw[<- hl1,List.getElem?_take,if_pos hi] at e1;exact e1
   refine⟨b,hg,fun hb=>⟨fun _=>⟨hv hb,?_⟩,fun h=>by omega,fun h=>by omega⟩,fun hb=>⟨hk hb,by omega⟩⟩;have hst:=hstill i hi;rw[getD i o' hol] at hst;rcases hst with hst | hst
   ·exact .inr (JkQ (by rw[(JaW _ σ).1];exact hgr) hst (hv hb))
   ·exact .inl (JbH (ops:=l.toArray) l.toArray.toList [] (by simp) (by simp) (by simp) f i (by simpa using hst))
  ·subst hi;rw[List.getElem?_append_right (by omega),hlen1,Nat.sub_self] at e1;rw[List.getElem?_append_right (by omega),hw1,Nat.sub_self] at e2;simp only[List.getElem?_cons_zero,Option.some.injEq] at e1 e2;subst e1;subst e2;rw[List.take_append_of_le_length (by omega),List.take_of_length_le (by omega)];refine⟨true,.inl ⟨hgf,rfl⟩,fun _=>⟨fun h=>by omega,fun _=>?_,fun h=>by omega⟩,fun h=>by cases h⟩;exact hx
  ·rw[List.getElem?_append_right (by omega),hlen1] at e1;have:1<=i - f:=by omega
   rw[List.getElem?_eq_none (by simpa using this)] at e1;cases e1
 have hKs:({JaP σ it1 with hp:=hF}:St).put o.dst rv={JaP σ (((l.toArray.toList.take (f+1)).map (·.dst)).zip (ws1++[rv])) with hp:=hF}:=by
  show _={JaP σ (((l.take (f+1)).map (·.dst)).zip (ws1++[rv])) with hp:=hF};rw[hitems,Jd2,Jig];rfl
 rw[hKs] at h1;obtain⟨_,hNN,hW⟩:=h1;refine JaT hm ?_;have off:∀ j,Jah (Array.replicate l.toArray.size false) j=false:=fun j=>by
  unfold Jah;simp only[Array.getD_eq_getD_getElem?,Array.getElem?_replicate];split <;> rfl
 have hd':f+1+t.depth<=l.length:=by simpa using hd
 have hcur:hpF (Array.replicate l.toArray.size false) f σ.hp hF=σ.hp:=by unfold hpF;rw[if_neg (by rw[off];exact Bool.false_ne_true)]
 refine JmC (rest:=t.depth) hs hfp hfb (fun i j hi hj hn=>Jci hT hi hj hn) tF ?_ (f+1) _ _ g _ a (by simp) (fun j hj=>by rw[off] at hj;cases hj) (fun i j _ hj=>by rw[off] at hj;cases hj) (by
   refine Nat.le_trans (List.length_filter_le _ _) ?_;simp) (by simpa using hd') (by rw[hcur];exact⟨⟨r.st.hp.drew,r.st.ext,r.st.keeps.trans (Jai.drew (Ja2 g σ.hp) w) r.st.live,r.st.live,r.st.memo⟩,r.nt,r.defers,fun j o v s hL=>(by rw[off] at hL;cases hL),fun s v _ e=>r.slots s v e⟩)
 intro g w a listed fuel hsz hon hf fr;have hg:g0.nx<=N:=by
  have h1:g0.nx<=g.nx:=fr.st.ext.nx;rw[fr.st.hp.nx] at h1;exact Nat.le_trans h1 hNN
 have hl:listed=Array.ofFn fun j:Fin l.length=>decide (j.val<f+1):=by
  apply Array.ext
  ·simpa using hsz
  ·intro j h1 h2;have:=hon j;unfold Jah at this;simp only[Array.getD_eq_getD_getElem?,Array.getElem?_eq_getElem h1,Option.getD_some] at this;simp[this]
 subst hl;have base:=Jdj (Q:=fun e σ1=>match e with | .normal=>St.cp N σ1 σ' | _=>False) (g0:=g0) (h0:=h0) (w0:=w0) t.depth t _ _ g w a fuel (Nat.le_refl _) hok hW fr hf;have mono:∀ (n:Nat) (listed:Array Bool) (a:Act) (w:World),Ja5 P .any l.toArray (Jb5 g0 h0 w0 fun e σ1=>match e with | .normal=>St.cp N σ1 σ' | _=>False) n listed a w->Ja5 P .any l.toArray (Jb5 g0 h0 w0 Q) n listed a w:=by
  have post:∀ e a w,Jb5 g0 h0 w0 (fun e σ1=>match e with | .normal=>St.cp N σ1 σ' | _=>False) e a w->Jb5 g0 h0 w0 Q e a w:=fun e a w ⟨σ2,g2,k1,k2⟩=>by
   cases e with
   | normal=>obtain⟨g3,k3⟩:=k1 g0 h0 w0 g2 w a hg k2;exact⟨σ',g3,k,k3⟩
   | _=>exact k1.elim
  intro n;induction n with
  | zero=>intro listed a w h;exact⟨h.1,post _ _ _ h.2⟩
  | succ n ih =>
   intro listed a w h;refine⟨fun q=>post _ _ _ (h.1 q),fun i hi=>?_⟩;have:=h.2 i hi;unfold Jkx at this ⊢;split
   ·rename_i ho;rw[ho] at this;exact ih _ _ _ this
   ·rename_i o ho;rw[ho] at this;simp only at this;split
    ·rename_i hw;rw[if_pos hw] at this;rcases this with h1 | h1
     ·exact .inl (Jcb (fun a w=>ih _ a w) post h1)
     ·exact h1.elim
    ·rename_i hw;rw[if_neg hw] at this;exact ih _ _ _ this
 exact mono _ _ _ _ base
end
end Go.Ab
end
section
namespace Go.Ab
def Juh(P:Program)(o1 o2:Oper)(K:St->Prop)(σ:St):Prop :=
 ∀ g0 h0 w0 g w a Q,Jae g0 h0 w0 σ g w a->Oper.wp P o1 a w (fun a1 w1=>Oper.wp P o2 a1 w1 (fun a' w'=>∃ σ' g',K σ'/\Jae g0 h0 w0 σ' g' w' a') Q) Q
section
variable {P:Program} {σ:St} {Q:Exit->St->Prop}
theorem JkS{g0:Gh}{h0:Hp}{w0:Wr}{ops:Array Oper}{rest:List Oper}{K:St->Prop}(hK:∀ σ g w a,K σ->Jae g0 h0 w0 σ g w a->JbQ P ops (Jb5 g0 h0 w0 Q) rest a w) :
  ∀ (l:List Oper) {σ:St} {g:Gh} {w:World} {a:Act},gwl (JeY P) ops l K σ->Jae g0 h0 w0 σ g w a->JbQ P ops (Jb5 g0 h0 w0 Q) (l++rest) a w
 | [],σ,g,w,a,h,r=>hK _ _ _ _ h r
 | o :: l,σ,g,w,a,h,r=>by
  simp only[gwl] at h;have step:JeY P o (gwl (JeY P) ops l K) σ->Oper.wp P o a w (JbQ P ops (Jb5 g0 h0 w0 Q) (l++rest)) (Jb5 g0 h0 w0 Q):=fun hh =>
   Oper.wp_mono (fun a' w' ⟨σ',g',k1,k2⟩=>JkS hK l k1 k2) (hh g0 h0 w0 g w a (Jb5 g0 h0 w0 Q) r)
  simp only[List.cons_append,JbQ];cases hg:o.guard with
  | none =>
   simp only[hg] at h;simp only[Region.wanted,hg,if_true];exact .inl (step h)
  | some p =>
   obtain⟨k,want⟩:=p;simp only[hg] at h;cases hb:Jar ops σ k want with
   | none=>simp only[hb] at h
   | some b =>
    simp only[hb] at h;have hy:=Jde r hb;simp only[Region.wanted,hg,hy];by_cases hw:b=want
    ·subst hw;simp only[beq_self_eq_true,if_true];exact .inl (step (h.1 rfl))
    ·have:(b==want)=false:=by simp[hw]
     simp only[this];exact JkS hK l (h.2 (by cases b <;> cases want <;> simp_all)) (r.drop o.dst)
theorem Jd3{id:Nat}{l:List Oper}(k:Nat){o1 o2:Oper}(h1:l[k]? = some o1)(h2:l[k+1]? = some o2)(g1:o1.guard=none)(g2:o2.guard=none)
  (h:gwl (awo P) l.toArray (l.take k) (fun σ1=>Juh P o1 o2 (fun σ2=>gwl (awo P) l.toArray (l.drop (k+2)) (Q .normal) σ2) σ1) σ):Aw P (.region id l.toArray false) Q σ:=by
 have hl:l=l.take k++o1 :: o2 :: l.drop (k+2):=by
  obtain⟨i1,e1⟩:=List.getElem?_eq_some_iff.1 h1;obtain⟨i2,e2⟩:=List.getElem?_eq_some_iff.1 h2;conv=>lhs;rw[<- List.take_append_drop k l]
  rw[List.drop_eq_getElem_cons i1,e1,List.drop_eq_getElem_cons i2,e2]
 intro g0 h0 w0 g w a r;refine JeX ?_;have h':=Je7 (S:=awo P) (T:=JeY P) (fun o K K' σ hk q=>(JdL q).mono hk) _ h;have key:JbQ P l.toArray (Jb5 g0 h0 w0 Q) (l.take k++o1 :: o2 :: l.drop (k+2)) a w:=by
  refine JkS (fun σ1 g1' w1 a1 hk r1=>?_) _ h' r;simp only[JbQ,Region.wanted,g1,g2,if_true,or_false];refine Oper.wp_mono (fun a2 w2 q=>Oper.wp_mono (fun a3 w3 ⟨σ',g',q1,q2⟩=>?_) q) (hk g0 h0 w0 g1' w1 a1 (Jb5 g0 h0 w0 Q) r1);exact JeL _ (Je7 (S:=awo P) (T:=JeY P) (fun o K K' σ hk q=>(JdL q).mono hk) _ q1) q2
 rw[<- hl] at key;exact key
end
section
variable {P:Program} {σ:St}
theorem JW.newRowF{g:Gh}{h:Hp}{w:World}(r:JZ g h w)(vs:Array Value)(ty:TypeId)(fr:Nat × Nat)(h1:∀ v∈vs.toList,v.oneCell'=true):JW g h w (g.addRow w.heap.size vs) h (w.alloc (.cells vs ty fr)):=by
 refine⟨r.push _ _ (r.ext_row vs) rfl (fun b o hb=>by simp only[Gh.addRow,if_neg (Nat.ne_of_lt hb)]) (fun o' v e=>?_) (fun b o' hb=>?_) rfl rfl rfl rfl,r.ext_row vs,Jai.alloc _ _ _,fun b l=>.inl l,fun b o v e=>?_⟩
 ·simp only[Gh.addRow,if_true] at e;refine⟨?_,h1 v (by rw[<- Array.getElem?_toList] at e;exact List.mem_of_getElem? e)⟩;simp only[World.cell?,heap_alloc_new];simpa using e
 ·simp only[Gh.addRow,if_neg (Nat.ne_of_gt hb)];exact r.mem_none o' (Nat.le_of_lt hb)
 ·simp only[Gh.addRow] at e;split at e
  ·exact .inr (.inr (by omega))
  ·exact .inl e
theorem Jdl{K:St->Prop}{d1:Nat}{d2:Option Tmp}{t t1 t2:TypeId}{len:Nat}{parts:Array (Nat × Operand)}{p1 p2:String}{af1 af2:Array Edge}{ti te:TI}{e:TypeId}{ps:List (Nat × AV)}{z:List AV}{rows:List (List AV)}
  (ht:Jt P t=some ti) (hkd:ti.kd = .sl e) (hte:Jt P e=some te) (h8:te.kd = .int .u8) (hz:te.zero=some z) (hb:z.length=te.size/\len * te.size<=2 ^ 24) (hne:te.size≠0) (hp:evP σ parts.toList=some ps)
  (hr:Jbs te.size (List.replicate len z) ps=some rows) (hd:d1<σ.nt)
  (h:K ((σ.put (some d1) (.vec rows true)).put d2 (.vec rows true))):Juh P ⟨some d1,.buildSlice t len parts,t1,p1,af1,none⟩ ⟨d2,.convert t t (.tmp d1),t2,p2,af2,none⟩ K σ:=by
 intro g0 h0' w0 g w a Q r;obtain⟨dd,u1,u2⟩:=J1 (w:=w) ht;obtain⟨q1,q2⟩:=r.evP hp;rw[u2] at hkd;have:=JbF hkd;subst this;obtain⟨ie,de,e1,e2,e3,e4,e5,e6⟩:=JD hte;obtain⟨zv,z1,z2⟩:=e6 z hz;obtain⟨z3,z4⟩:=J9.cellsAV (g:=g) z2;obtain⟨c1,c2,c3⟩:=JdZ z3 z4 len te.size hb.1;obtain⟨cells,k1,k2,k3,k4,k5⟩:=JbM (qs:=parts.toList.map fun(p:Nat × Operand)=>(p.1,a.eval p.2)) c1 (by rw[c2];simp) c3 q1 q2 hr;simp only[List.length_replicate] at k5;have hrun:(execOp a.eval ⟨some d1,.buildSlice t len parts,t1,p1,af1,none⟩).run P w = .ok (.value (.slice (some ⟨w.heap.size,0,none⟩) len len)) (w.alloc (.cells cells e)):=by
  have hparts:(parts.map fun(p:Nat × Operand)=>(p.1,a.eval p.2)).toList=parts.toList.map fun(p:Nat × Operand)=>(p.1,a.eval p.2):=by simp
  have hsz:¬ len * te.size > 2 ^ 24:=by omega
  by_cases hz0:len * te.size=0
  ·have hk1:Instr.fill (fun i=>some (i * te.size,te.size)) ((Array.range (len * te.size)).map (fun i=>(#[]:Array Value)[i % (#[]:Array Value).size]!)) (parts.toList.map fun(p:Nat × Operand)=>(p.1,a.eval p.2))=some cells:=by
    rw[<- k1];congr 1;rw[hz0];simp
   simp only[execOp,Sem.run_bind,Instr.buildSlice,u1,Result.andThen_ok,J3 hte,Sem.run_ite,if_neg hsz,if_pos hz0,Sem.run_pure,hparts,hk1,newRow,run_newObj,World.alloc_eq]
  ·simp only[execOp,Sem.run_bind,Instr.buildSlice,u1,Result.andThen_ok,J3 hte,Sem.run_ite,if_neg hsz,if_neg hz0,Sem.run_pure,zeroValue,typeInfo,run_program,e1,z1,hparts,k1,newRow,run_newObj,World.alloc_eq]
 have st:=JW.newRowF r.st.hp cells e (cells.size,cells.size+1) k4;have hd':d1<a.tmps.size:=by rw[r.nt];exact hd
 have hev:(a.put (some d1) (.slice (some ⟨w.heap.size,0,none⟩) len len)).eval (.tmp d1) = .slice (some ⟨w.heap.size,0,none⟩) len len:=by
  simp[Act.eval,Act.put,hd']
 have hde:P.underlying e=some (.int .u8):=by
  rw[e2];rw[e3] at h8;rw[Jly h8]
 have hdt:P.underlying t=some (.slice e):=by
  obtain⟨i',dt,a1,a2,a3,_⟩:=JD ht;rw[a2];rw[u2] at a3;have:=JbF (e:=e) a3.symm;rw[this]
 have hrun2:(execOp (a.put (some d1) (.slice (some ⟨w.heap.size,0,none⟩) len len)).eval ⟨d2,.convert t t (.tmp d1),t2,p2,af2,none⟩).run P (w.alloc (.cells cells e)) = .ok (.value (.slice (some ⟨w.heap.size,0,none⟩) len len)) (w.alloc (.cells cells e (cells.size,cells.size+1))):=by
  simp only[execOp,Sem.run_bind,hev,Go.Lib.run_convert_bytes_const w t e cells len len hdt hde,Result.andThen_ok,Sem.run_pure]
 unfold Oper.wp;rw[hrun];simp only;rw[hrun2];simp only;have hv:Rep (g.addRow w.heap.size cells) (.slice (some ⟨w.heap.size,0,none⟩) len len) (.vec rows true):=Rep.vec_row (k2.mono st.ext) (by rw[k5]) (fun o v hv=>by simp[Gh.addRow,hv]);exact⟨_,_,h,((r.heap st).put (some d1) hv).put d2 hv⟩
end
end Go.Ab
end
section
namespace Go.Ab
theorem Xzz:(type_of% @Xaa)/\(type_of% @Xab)/\(type_of% @Xac)/\(type_of% @Xad)/\(type_of% @Xae)/\(type_of% @Xaf)/\(type_of% @Xag)/\(type_of% @Xah)/\(type_of% @Xai)/\(type_of% @Xaj)/\(type_of% @Xak)/\(type_of% @Xal)/\(type_of% @Xam)/\(type_of% @Xan)/\(type_of% @Xao)/\(type_of% @Xap)/\(type_of% @Xaq)/\(type_of% @Xar)/\(type_of% @Xas)/\(type_of% @Xat)/\(type_of% @Xau)/\(type_of% @Xav)/\(type_of% @Xaw)/\(type_of% @Xax)/\(type_of% @Xay)/\(type_of% @Xaz)/\(type_of% @Xba)/\(type_of% @Xbb)/\(type_of% @Xbc)/\(type_of% @Xbd)/\(type_of% @Xbe)/\(type_of% @Xbf)/\(type_of% @Xbg)/\(type_of% @Xbh)/\(type_of% @Xbi)/\(type_of% @Xbj)/\(type_of% @Xbk)/\(type_of% @Xbl)/\(type_of% @Xbm)/\(type_of% @Xbn)/\(type_of% @Xbo)/\(type_of% @Xbp)/\(type_of% @Xbq)/\(type_of% @Xbr)/\(type_of% @Xbs)/\(type_of% @Xbt)/\(type_of% @Xbu)/\(type_of% @Xbv)/\(type_of% @Xbw)/\(type_of% @Xbx)/\(type_of% @Xby)/\(type_of% @Xbz)/\(type_of% @Xca)/\(type_of% @Xcb)/\(type_of% @Xcc)/\(type_of% @Xcd)/\(type_of% @Xce)/\(type_of% @Xcf)/\(type_of% @Xcg)/\(type_of% @Xch)/\(type_of% @Xci)/\(type_of% @Xcj)/\(type_of% @Xck)/\(type_of% @Xcl)/\(type_of% @Xcm):=⟨@Xaa,@Xab,@Xac,@Xad,@Xae,@Xaf,@Xag,@Xah,@Xai,@Xaj,@Xak,@Xal,@Xam,@Xan,@Xao,@Xap,@Xaq,@Xar,@Xas,@Xat,@Xau,@Xav,@Xaw,@Xax,@Xay,@Xaz,@Xba,@Xbb,@Xbc,@Xbd,@Xbe,@Xbf,@Xbg,@Xbh,@Xbi,@Xbj,@Xbk,@Xbl,@Xbm,@Xbn,@Xbo,@Xbp,@Xbq,@Xbr,@Xbs,@Xbt,@Xbu,@Xbv,@Xbw,@Xbx,@Xby,@Xbz,@Xca,@Xcb,@Xcc,@Xcd,@Xce,@Xcf,@Xcg,@Xch,@Xci,@Xcj,@Xck,@Xcl,@Xcm⟩
theorem Yzy:(type_of% @Yaa.{0,0})/\(type_of% @Yab.{0,0})/\(type_of% @Yac.{0,0})/\(type_of% @Yad.{0,0})/\(type_of% @Yae.{0,0})/\(type_of% @Yaf.{0,0})/\(type_of% @Yag.{0})/\(type_of% @Yah.{0})/\(type_of% @Yai.{0})/\(type_of% @Yaj.{0})/\(type_of% @Yak.{0})/\(type_of% @Yal.{0})/\(type_of% @Yam.{0})/\(type_of% @Yan.{0})/\(type_of% @Yao.{0})/\(type_of% @Yap.{0})/\(type_of% @Yaq.{0})/\(type_of% @Yar.{0})/\(type_of% @Yas.{0})/\(type_of% @Yat.{0})/\(type_of% @Yau.{0})/\(type_of% @Yav.{0})/\(type_of% @Yaw.{0})/\(type_of% @Yax.{0})/\(type_of% @Yay)/\(type_of% @Yaz)/\(type_of% @Yba)/\(type_of% @Ybb)/\(type_of% @Ybc)/\(type_of% @Ybd)/\(type_of% @Yzz):=⟨@Yaa.{0,0},@Yab.{0,0},@Yac.{0,0},@Yad.{0,0},@Yae.{0,0},@Yaf.{0,0},@Yag.{0},@Yah.{0},@Yai.{0},@Yaj.{0},@Yak.{0},@Yal.{0},@Yam.{0},@Yan.{0},@Yao.{0},@Yap.{0},@Yaq.{0},@Yar.{0},@Yas.{0},@Yat.{0},@Yau.{0},@Yav.{0},@Yaw.{0},@Yax.{0},@Yay,@Yaz,@Yba,@Ybb,@Ybc,@Ybd,@Yzz⟩
theorem Dzz:(type_of% @awl.eq_def)/\(type_of% @ne_eq.{1})/\(type_of% @Jh8.eq_def)/\(type_of% @Jhb.eq_def)/\(type_of% @awo.eq_def)/\(type_of% @JnF.eq_def)/\(type_of% @eqF.eq_1)/\(type_of% @eqF.eq_2)/\(type_of% @Jda.eq_def)/\(type_of% @Jnr.eq_def)/\(type_of% @qwl.eq_def)/\(type_of% @qwo.eq_def)/\(type_of% @Go.Ab.qOp.eq_def)/\(type_of% @lop.eq_def)/\(type_of% @Jst.eq_def)/\(type_of% @Jb6.eq_def)/\(type_of% @JkL.eq_def)/\(type_of% @Jz.eq_def)/\(type_of% @slP.eq_def)/\(type_of% @Jp4.eq_def)/\(type_of% @unw.eq_def)/\(type_of% @Jaf.eq_def)/\(type_of% @entry.eq_def)/\(type_of% @JdN.eq_1)/\(type_of% @JdN.eq_2)/\(type_of% @ev.eq_def)/\(type_of% @evL.eq_1)/\(type_of% @evL.eq_2)/\(type_of% @evP.eq_1)/\(type_of% @evP.eq_2)/\(type_of% @evO.eq_def)/\(type_of% @lk.eq_1)/\(type_of% @lk.eq_2)/\(type_of% @up.eq_1)/\(type_of% @up.eq_2)/\(type_of% @St.put.eq_def)/\(type_of% @St.drop.eq_def)/\(type_of% @constAV.eq_def)/\(type_of% @cellAV.eq_def)/\(type_of% @cellsAV.eq_1)/\(type_of% @cellsAV.eq_2)/\(type_of% @JfY.eq_def)/\(type_of% @JtT.eq_def)/\(type_of% @JeC.eq_def)/\(type_of% @Jky.eq_def)/\(type_of% @Jf2.eq_def)/\(type_of% @Ji9.eq_def)/\(type_of% @Jar.eq_def)/\(type_of% @JcS.eq_def)/\(type_of% @Jp7.eq_def)/\(type_of% @Jdc.eq_def)/\(type_of% @bound.eq_def)/\(type_of% @JaQ.eq_1)/\(type_of% @JaQ.eq_2)/\(type_of% @JaQ.eq_3)/\(type_of% @Jp8.eq_def)/\(type_of% @Jcx.eq_def)/\(type_of% @Ja3.eq_def)/\(type_of% @Jf1.eq_def)/\(type_of% @Kd.agg.eq_def)/\(type_of% @AV.cells.eq_def)/\(type_of% @JdF.eq_def)/\(type_of% @Jds.eq_1)/\(type_of% @Jds.eq_2)/\(type_of% @Jdt.eq_1)/\(type_of% @Jdt.eq_2)/\(type_of% @Jbs.eq_1)/\(type_of% @Jbs.eq_2)/\(type_of% @Hp.none.eq_def):=⟨@awl.eq_def,@ne_eq.{1},@Jh8.eq_def,@Jhb.eq_def,@awo.eq_def,@JnF.eq_def,@eqF.eq_1,@eqF.eq_2,@Jda.eq_def,@Jnr.eq_def,@qwl.eq_def,@qwo.eq_def,@Go.Ab.qOp.eq_def,@lop.eq_def,@Jst.eq_def,@Jb6.eq_def,@JkL.eq_def,@Jz.eq_def,@slP.eq_def,@Jp4.eq_def,@unw.eq_def,@Jaf.eq_def,@entry.eq_def,@JdN.eq_1,@JdN.eq_2,@ev.eq_def,@evL.eq_1,@evL.eq_2,@evP.eq_1,@evP.eq_2,@evO.eq_def,@lk.eq_1,@lk.eq_2,@up.eq_1,@up.eq_2,@St.put.eq_def,@St.drop.eq_def,@constAV.eq_def,@cellAV.eq_def,@cellsAV.eq_1,@cellsAV.eq_2,@JfY.eq_def,@JtT.eq_def,@JeC.eq_def,@Jky.eq_def,@Jf2.eq_def,@Ji9.eq_def,@Jar.eq_def,@JcS.eq_def,@Jp7.eq_def,@Jdc.eq_def,@bound.eq_def,@JaQ.eq_1,@JaQ.eq_2,@JaQ.eq_3,@Jp8.eq_def,@Jcx.eq_def,@Ja3.eq_def,@Jf1.eq_def,@Kd.agg.eq_def,@AV.cells.eq_def,@JdF.eq_def,@Jds.eq_1,@Jds.eq_2,@Jdt.eq_1,@Jdt.eq_2,@Jbs.eq_1,@Jbs.eq_2,@Hp.none.eq_def⟩
theorem Wa:(type_of% @Xzz)/\(type_of% @Yzy)/\(type_of% @Dzz):=⟨Xzz,Yzy,Dzz⟩
end Go.Ab
end
