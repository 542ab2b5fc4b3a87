/- What the claim wants of the machine, the contracts and the law, laid together. -/
import Derived.Test.YtbbnfbnicacdoaaGreatVj
import Derived.Carry
import Derived.ChangeSame
import Derived.JoinedCond
import Derived.OpenShut
set_option linter.unusedVariables false
set_option linter.unusedSimpArgs false
section
namespace Go.Proofs.YtbbnfbnicacdoaaGreat
open Go Go.Ab
open Go.Proofs.Tryz renaming prog→Pg
set_option maxRecDepth 20000
set_option maxHeartbeats 16000000
def gr14K:List Sta→Nat→Nat
 | [],k=>k
 | s :: l,k=>if k≤6000 then gr14K l (k+s.edges.length) else k
def gr14 (n:Nt):Bool:=decide (6000<gr14K n.states (n.rules.length+n.states.length+n.types.length+n.channels.length+n.modes.length))
theorem gr14_spec(n:Nt)(ok:NtOk n):KCall Pg 18 [.agg (encN n)] (.lit (.bool (gr14 n))):=by
 obtain⟨v,hv⟩:∃ v,gr14 n=v:=⟨_,rfl⟩
 rw[hv]
 obtain⟨k0,hk0⟩:∃ k0,n.rules.length+n.states.length+n.types.length+n.channels.length+n.modes.length=k0:=⟨_,rfl⟩
 unfold gr14 at hv
 rw[hk0] at hv
 refine KCall_of (SCall_introK Tryz.func18 rfl Tryz.ntmps18 (rs:=[.tmp 2]) rfl (by simp) ?_)
 refine aw_of ?_
 have b1:=ok.types
 have b2:=ok.channels
 have b3:=ok.modes
 have b4:=ok.rules
 have b5:=ok.states
 have hc1:(n.rules.length:Int)+n.states.length+n.types.length+n.channels.length+n.modes.length=(k0:Int):=by omega
 simp -implicitDefEqProofs (disch:=omega) only[Wz,seval,encN,hc1]
 refine aw_measA (fun x:Nat × Nat=>⟨[(4,.lit (.int .i64 (x.1:Int))),(3,.lit (.int .i64 (x.2:Int))),(1,.ptr 0 0)],⟨[(0,encN n)],[],1⟩,46⟩) (fun x=>x.1≤n.states.length∧decide (6000<gr14K (n.states.drop x.1) x.2)=v∧x.2≤6000000000) (fun x=>n.states.length - x.1) (0,k0) (wk_lk (by simp[lk]) (fun _ _ q=>q) (fun _ _ q=>q) rfl rfl) ⟨Nat.zero_le _,by rw[List.drop_zero];exact hv,by show k0≤_;omega⟩ ?_
 rintro⟨i,k⟩ ⟨hi,hkv,hkb⟩
 simp only at hi hkv hkb ⊢
 refine aw_of ?_
 rcases Nat.lt_or_ge i n.states.length with hl | hg
 ·obtain⟨s,hs⟩:∃ s,n.states.getD i default=s:=⟨_,rfl⟩
  have he:=(ok.edges _ (getD_mem hl)).1
  rw[hs] at he
  rw[drop_getD hl,hs] at hkv
  unfold gr14K at hkv
  by_cases h6:k≤6000
  ·rw[if_pos h6] at hkv
   simp -implicitDefEqProofs (disch:=omega) only[Wz,seval,encN,encSt,hs]
   refine⟨(i+1,k+s.edges.length),⟨hl,hkv,by show k+_≤_;omega⟩,by show n.states.length - (i+1)<_;omega,wk_lk (by simp[lk]) (fun _ _ q=>q) (fun _ _ q=>q) rfl rfl⟩
  ·rw[if_neg h6,decide_eq_true (by omega)] at hkv
   subst hkv
   simp -implicitDefEqProofs (disch:=omega) only[Wz,seval,encN]
   exact kexpo (.lit _)
 ·have hi2:i=n.states.length:=by omega
  subst hi2
  rw[List.drop_length] at hkv
  have hkv:decide (6000<k)=v:=hkv
  simp -implicitDefEqProofs (disch:=omega) only[Wz,seval,encN]
  have e1:(decide ((k:Int) > 6000))=v:=by rw[← hkv];rw[Bool.eq_iff_iff];simp only[decide_eq_true_eq];omega
  rw[e1]
  exact kexpo (.lit _)
def tooMany(len:Nat):Bool:=decide (24<len) && decide (len≤601)
def greatV(n:Nt)(o:List Orc)(L:List It):Bool:=gr14 n || decide (600<n.states.length) || decide (60<n.types.length) || decide (60<o.length) || tooMany L.length
theorem great_spec(n:Nt)(o:List Orc)(L:List It)(f g:Bool)(ok:NtOk n)(ho:o.length≤1000000000)(hL:L.length≤1000000000):KCall Pg 5 [.agg (encN n),.vec (o.map encO) f,.vec (L.map encI) g] (.lit (.bool (greatV n o L))):=by
 obtain⟨v,hv⟩:∃ v,greatV n o L=v:=⟨_,rfl⟩
 rw[hv]
 have h14:=gr14_spec n ok
 unfold encN at h14
 refine KCall_of (SCall_introK Tryz.func5 rfl Tryz.ntmps5 (rs:=[.tmp 6]) rfl (by simp) ?_)
 refine aw_of ?_
 have b1:=ok.types
 have b5:=ok.states
 unfold greatV tooMany at hv
 simp -implicitDefEqProofs (disch:=omega) only[Wz,seval,encN]
 refine CallK_k call18 h14 (allc (.of_pure (.agg (pure_encN n))) alln) (.lit _) ?_
 have fin:v=v→∀ h,KExpo h (.lit (.bool v)) (.lit (.bool v)):=fun _ h=>kexpo (.lit _)
 cases hg:gr14 n with
 | true =>
  rw[hg] at hv;simp only[Bool.true_or] at hv;subst hv
  simp -implicitDefEqProofs (disch:=omega) only[Wz,seval]
  exact kexpo (.lit _)
 | false =>
  rw[hg] at hv;simp only[Bool.false_or] at hv
  by_cases h1:600<n.states.length
  ·rw[decide_eq_true h1] at hv;simp only[Bool.true_or] at hv;subst hv
   simp -implicitDefEqProofs (disch:=omega) only[Wz,seval]
   exact kexpo (.lit _)
  ·rw[decide_eq_false h1] at hv;simp only[Bool.false_or] at hv
   by_cases h2:60<n.types.length
   ·rw[decide_eq_true h2] at hv;simp only[Bool.true_or] at hv;subst hv
    simp -implicitDefEqProofs (disch:=omega) only[Wz,seval]
    exact kexpo (.lit _)
   ·rw[decide_eq_false h2] at hv;simp only[Bool.false_or] at hv
    by_cases h3:60<o.length
    ·rw[decide_eq_true h3] at hv;simp only[Bool.true_or] at hv;subst hv
     simp -implicitDefEqProofs (disch:=omega) only[Wz,seval]
     exact kexpo (.lit _)
    ·rw[decide_eq_false h3] at hv;simp only[Bool.false_or] at hv
     by_cases h4:24<L.length
     ·rw[decide_eq_true h4] at hv;simp only[Bool.true_and] at hv
      by_cases h5:L.length≤601
      ·rw[decide_eq_true h5] at hv;subst hv
       simp -implicitDefEqProofs (disch:=omega) only[Wz,seval]
       exact kexpo (.lit _)
      ·rw[decide_eq_false h5] at hv;subst hv
       simp -implicitDefEqProofs (disch:=omega) only[Wz,seval]
       exact kexpo (.lit _)
     ·rw[decide_eq_false h4] at hv;simp only[Bool.false_and] at hv;subst hv
      simp -implicitDefEqProofs (disch:=omega) only[Wz,seval]
      exact kexpo (.lit _)
theorem greatV_items{n:Nt}{o:List Orc}{L:List It}(h:greatV n o L=false):L.length≤24∨601<L.length:=by
 unfold greatV tooMany at h
 simp only[Bool.or_eq_false_iff,Bool.and_eq_false_iff,decide_eq_false_iff_not] at h
 omega
def stepsB(n:Nt)(o:List Orc)(L:List It)(lv:Int)(x:Sp):List Sp:=(n.states.getD x.1 default).edges.filterMap fun e=>if (goV o L e lv x.2).2 then some (e.to.toNat,x.2+(goV o L e lv x.2).1) else none
def bfsB (n:Nt)(o:List Orc)(L:List It)(c:Cl):Nat→List Sp
 | 0=>[(stN n c.rule,c.pos)]
 | k+1=>bfsB n o L c k++((bfsB n o L c k).flatMap (stepsB n o L c.level)).filter fun x => !(bfsB n o L c k).contains x
def noCallB(n:Nt):Bool:=n.states.all fun s=>s.edges.all fun e=>decide (e.op.1≠2)
def closedB(n:Nt)(o:List Orc)(L:List It)(c:Cl)(S:List Sp):Bool:=S.all fun x=>(stepsB n o L c.level x).all fun y=>S.contains y
theorem noCall_edge{n:Nt}(h:noCallB n=true){s:Nat}{e:Ed}(he:e∈(n.states.getD s default).edges):e.op.1≠2:=by
 rcases Nat.lt_or_ge s n.states.length with hs | hs
 ·have h1:=List.all_eq_true.1 h _ (getD_mem hs)
  have h2:=List.all_eq_true.1 h1 e he
  exact of_decide_eq_true h2
 ·have:n.states.getD s default=default:=by rw[List.getD_eq_getElem?_getD,List.getElem?_eq_none hs];rfl
  rw[this] at he;cases he
theorem bfs_sound{n:Nt}{o:List Orc}{L:List It}{c:Cl}:∀ {k:Nat} {x:Sp},x∈bfsB n o L c k→Rs n o L c x.1 x.2
 | 0,x,h=>by simp only[bfsB,List.mem_singleton] at h;subst h;exact .start
 | k+1,x,h=>by
  simp only[bfsB,List.mem_append,List.mem_filter,List.mem_flatMap] at h
  rcases h with h | ⟨⟨y,hy,h⟩,_⟩
  ·exact bfs_sound h
  ·simp only[stepsB,List.mem_filterMap] at h
   obtain⟨e,he,h⟩:=h
   split at h
   ·rename_i hg
    cases h
    exact .edge (bfs_sound hy) he hg
   ·cases h
theorem bfs_all{n:Nt}{o:List Orc}{L:List It}{c:Cl}{k:Nat}(hn:noCallB n=true)(hc:closedB n o L c (bfsB n o L c k)=true){s p:Nat}(h:Rs n o L c s p):(s,p)∈bfsB n o L c k:=by
 have hst:(stN n c.rule,c.pos)∈bfsB n o L c k:=by
  clear hc
  induction k with
  | zero=>simp[bfsB]
  | succ k ih=>simp only[bfsB,List.mem_append];exact .inl ih
 have key:∀ (c':Cl) (s p:Nat),Rs n o L c' s p→c'=c→(s,p)∈bfsB n o L c k:=by
  intro c' s p r
  induction r with
  | start=>intro q;subst q;exact hst
  | @edge c' s p e _ h2 h3 ih =>
   intro q;subst q
   have h4:=List.all_eq_true.1 hc _ (ih rfl)
   have h5:=List.all_eq_true.1 h4 (e.to.toNat,p+(goV o L e c'.level p).1) (by
    simp only[stepsB,List.mem_filterMap]
    exact⟨e,h2,by rw[if_pos h3]⟩)
   simpa using h5
  | @call c' s p k' e _ h2 h3 h4 ih _=>exact absurd h3 (noCall_edge hn h2)
 exact key c s p h rfl
theorem wh_bfs{n:Nt}{o:List Orc}{L:List It}{c:Cl}(k:Nat)(hn:noCallB n=true)(hc:closedB n o L c (bfsB n o L c k)=true){i:Nat}(hi:i≤L.length):(whW n o L c).testBit i=(bfsB n o L c k).contains (spN n c.rule,i):=by
 rw[Bool.eq_iff_iff,whW_bit,List.contains_iff_mem]
 exact⟨fun h=>bfs_all hn hc h.2,fun h=>⟨hi,bfs_sound h⟩⟩
theorem op_bfs{n:Nt}{o:List Orc}{L:List It}{c:Cl}(k:Nat)(hn:noCallB n=true)(hc:closedB n o L c (bfsB n o L c k)=true):opB n o L c=(bfsB n o L c k).any fun x=>x.2==L.length:=by
 rw[Bool.eq_iff_iff,opB_true,List.any_eq_true]
 constructor
 ·intro h
  cases h with
  | @here _ s h=>exact⟨(s,L.length),bfs_all hn hc h,by simp⟩
  | call _ h2 h3 _=>exact absurd h3 (noCall_edge hn h2)
 ·rintro⟨x,hx,q⟩
  have q:x.2=L.length:=by simpa using q
  exact .here (s:=x.1) (by rw[← q];exact bfs_sound hx)
def i8 (z:Int)(h : -128≤z∧z≤127:=by decide):I8:=⟨z,h⟩
def eSm (op:I8)(set:List (Int × Int))(n to:Int):Ed:=⟨op,set,n,0,default,[],to⟩
def smallN:Nt:=⟨[⟨#[66]⟩,⟨#[67]⟩,⟨#[68]⟩],[⟨#[]⟩],[⟨#[]⟩],[⟨⟨#[97]⟩,false,false,false,false,0,0,0,1⟩],
 [⟨0,[eSm (i8 4) [] 1 2]⟩,⟨0,[]⟩,⟨0,[eSm (i8 1) [(1,1)] 0 3]⟩,⟨0,[eSm (i8 0) [] 0 4,eSm (i8 0) [] 0 5]⟩,⟨0,[eSm (i8 1) [(2,2)] 0 3]⟩,⟨0,[eSm (i8 1) [(3,3)] 0 6]⟩,⟨0,[eSm (i8 0) [] 0 1]⟩]⟩
theorem mem_con{a:Nat}{l:List Nat}(h:l.contains a=true):a∈l:=by simpa using h
theorem small_no:noCallB smallN=true:=by kernel_rfl
theorem small_heads:headsV smallN=true:=by kernel_rfl
theorem small_rules:rulesV smallN=true:=by kernel_rfl
theorem small_states:statesV smallN=true:=by kernel_rfl
theorem small_ends:endsV smallN=true:=by
 unfold endsV
 refine @decide_eq_true _ (Classical.propDecidable _) fun s hs=>⟨0,by decide,?_⟩
 have hs:s<7:=hs
 have h6:Rch (gB smallN) (spN smallN 0) 6:=.one (mem_con (by kernel_rfl))
 have h5:Rch (gB smallN) (spN smallN 0) 5:=.step h6 (mem_con (by kernel_rfl))
 have h3:Rch (gB smallN) (spN smallN 0) 3:=.step h5 (mem_con (by kernel_rfl))
 have h2:Rch (gB smallN) (spN smallN 0) 2:=.step h3 (mem_con (by kernel_rfl))
 have h4:Rch (gB smallN) (spN smallN 0) 4:=.step h3 (mem_con (by kernel_rfl))
 have h0:Rch (gB smallN) (spN smallN 0) 0:=.step h2 (mem_con (by kernel_rfl))
 match s,hs with
 | 0,_=>exact .inr h0
 | 1,_=>exact .inl (by kernel_rfl)
 | 2,_=>exact .inr h2
 | 3,_=>exact .inr h3
 | 4,_=>exact .inr h4
 | 5,_=>exact .inr h5
 | 6,_=>exact .inr h6
theorem rank_small{G:List (List Nat)}(rk:Nat→Nat)(h:((List.range G.length).all fun i=>(G.getD i []).all fun j=>decide (rk j<rk i))=true):Acyc G:=by
 refine⟨rk,fun i j hj=>?_⟩
 rcases Nat.lt_or_ge i G.length with hi | hi
 ·exact of_decide_eq_true (List.all_eq_true.1 (List.all_eq_true.1 h i (List.mem_range.2 hi)) j hj)
 ·rw[List.getD_eq_getElem?_getD,List.getElem?_eq_none hi] at hj;cases hj
theorem small_ok:okV smallN=true:=by
 unfold okV
 rw[small_heads,small_rules,small_states,small_ends]
 have h1:((List.range smallN.rules.length).all (lexR smallN))=true:=by kernel_rfl
 have g1:gF smallN=[[2],[],[],[4,5],[],[],[1]]:=by kernel_rfl
 have h2:ringV (gF smallN)=false:=by
  rw[g1];exact ringV_false (rank_small (fun i=>if i=0 then 3 else if i=3 then 3 else if i=6 then 3 else 1) (by decide))
 have g2:gC smallN=[[]]:=by kernel_rfl
 have h3:ringV (gC smallN)=false:=by rw[g2];exact ringV_false (rank_small (fun _=>0) (by decide))
 rw[h1,h2,h3];rfl
theorem gd0:GdOk (default:Gd):=.mk (by decide) (by intro k hk;cases hk)
theorem eSm_ok{op:I8}{set:List (Int × Int)}{n to:Int}(hl:set.length≤5)(hs:SetOk set):EdOk (eSm op set n to):=⟨by show set.length≤_;omega,by show 0≤_;omega,by show gsz (default:Gd)≤_;decide,gd0,hs⟩
theorem small_nt:NtOk smallN:=by
 refine⟨by decide,by decide,by decide,by decide,by decide,by decide,by decide,by decide,?_,?_⟩
 ·intro r hr
  simp only[smallN,List.mem_singleton] at hr;subst hr;decide
 ·intro s hs
  simp only[smallN,List.mem_cons,List.not_mem_nil,or_false] at hs
  have s0:SetOk []:=fun r hr=>by cases hr
  have s1:∀ a:Int,-2147483648≤a∧a≤2147483647→SetOk [(a,a)]:=fun a ha r hr=>by
   simp only[List.mem_singleton] at hr;subst hr;exact⟨ha,ha⟩
  rcases hs with rfl | rfl | rfl | rfl | rfl | rfl | rfl
  ·refine⟨by decide,fun e he=>?_⟩
   simp only[List.mem_singleton] at he;subst he;exact eSm_ok (by decide) s0
  ·exact⟨by decide,fun e he=>by cases he⟩
  ·refine⟨by decide,fun e he=>?_⟩
   simp only[List.mem_singleton] at he;subst he;exact eSm_ok (by decide) (s1 1 (by decide))
  ·refine⟨by decide,fun e he=>?_⟩
   simp only[List.mem_cons,List.not_mem_nil,or_false] at he
   rcases he with rfl | rfl <;> exact eSm_ok (by decide) s0
  ·refine⟨by decide,fun e he=>?_⟩
   simp only[List.mem_singleton] at he;subst he;exact eSm_ok (by decide) (s1 2 (by decide))
  ·refine⟨by decide,fun e he=>?_⟩
   simp only[List.mem_singleton] at he;subst he;exact eSm_ok (by decide) (s1 3 (by decide))
  ·refine⟨by decide,fun e he=>?_⟩
   simp only[List.mem_singleton] at he;subst he;exact eSm_ok (by decide) s0
theorem small_net:NetOk smallN []:=⟨(okV_wf small_ok).1,small_nt,rank_ex small_nt small_ok,by decide⟩
def rowK:List Nat→Nat→List It
 | [],_=>[]
 | t :: l,k=>⟨(t:Int),(k:Int),(k:Int),false,(k:Int)⟩ :: rowK l (k+1)
def rowV (eof:Bool)(ts:List Nat):List It:=rowK ts 0++(if eof then [⟨0,(ts.length:Int),(ts.length:Int),false,(ts.length:Int)⟩] else [])
def c0:Cl:=⟨0,0,0⟩
def bS (L:List It):List Sp:=bfsB smallN [] L c0 9
def okS (L:List It):Bool:=closedB smallN [] L c0 (bS L)
def viaC (L:List It):Bool :=
 if 0<L.length then
  if anyLe0 (L.take (L.length - 1)) then false
  else if (L.getD (L.length - 1) default).type=0 then (bS L).contains (1,L.length - 1) else (bS L).any fun x=>x.2==L.length
 else (bS L).any fun x=>x.2==L.length
theorem via_C{L:List It}(h:okS L=true):viaV smallN [] 0 L=viaC L:=by
 unfold viaV viaC
 have h1:opB smallN [] L c0=(bS L).any fun x=>x.2==L.length:=op_bfs 9 small_no h
 have h2:∀ i,i≤L.length→(whW smallN [] L c0).testBit i=(bS L).contains (1,i):=fun i hi=>wh_bfs 9 small_no h hi
 unfold c0 at h1 h2
 rw[h1,h2 _ (Nat.sub_le _ _)]
theorem small_f2:endsL smallN [] 0 0 0 (rowV false [1,2,2,3])=[4]:=by
 have hc:okS (rowV false [1,2,2,3])=true:=by kernel_rfl
 unfold endsL plcs
 have hr:∀ i∈List.range ((rowV false [1,2,2,3]).length+1),(whW smallN [] (rowV false [1,2,2,3]) ⟨0,0,0⟩).testBit i=(bS (rowV false [1,2,2,3])).contains (1,i):=fun i hi =>
  wh_bfs 9 small_no hc (by have:=List.mem_range.1 hi;omega)
 rw[List.filter_congr hr]
 show _=_
 kernel_rfl
theorem small_f3:viaN smallN [] 0 (rowV false [1,2,1]) 3=2:=by
 have h3:viaV smallN [] 0 ((rowV false [1,2,1]).take 3)=false:=by rw[via_C (by kernel_rfl)];kernel_rfl
 have h2:viaV smallN [] 0 ((rowV false [1,2,1]).take 2)=true:=by rw[via_C (by kernel_rfl)];kernel_rfl
 rw[viaN,h3,viaN,h2];rfl
theorem small_f4:nextL smallN [] 0 (rowV false [1]) 1 1 4=[2,3]:=by
 unfold nextL
 have hr:∀ t∈List.range 4,viaV smallN [] 0 (rowV false [1]++[itN t 1 1])=viaC (rowV false [1]++[itN t 1 1]):=fun t ht=>by
  have ht:t<4:=List.mem_range.1 ht
  refine via_C ?_
  match t,ht with
  | 0,_=>show okS _=true;kernel_rfl
  | 1,_=>show okS _=true;kernel_rfl
  | 2,_=>show okS _=true;kernel_rfl
  | 3,_=>show okS _=true;kernel_rfl
 rw[List.filter_congr hr]
 show _=_
 kernel_rfl
theorem small_f5:viaV smallN [] 0 (rowV true [1,3])=true:=by rw[via_C (by kernel_rfl)];kernel_rfl
theorem small_f6:viaV smallN [] 0 (rowV true [1])=false:=by rw[via_C (by kernel_rfl)];kernel_rfl
def wideF:Nat→AV→AV
 | 0,a=>a
 | k+1,.agg cs=>.agg (cs.map (wideF k))
 | k+1,.vec xs _=>.vec (xs.map fun x=>x.map (wideF k)) false
 | _+1,a=>a
theorem cvL_map{g:Gh}{f:AV→AV}(h:∀ a,Cv g g a (f a)):∀ cs:List AV,CvL g g cs (cs.map f)
 | []=>cvL_nil
 | a :: cs=>cvL_cons (h a) (cvL_map h cs)
theorem cvR_map{g:Gh}{f:AV→AV}(h:∀ a,Cv g g a (f a)):∀ xs:List (List AV),CvR g g xs (xs.map fun x=>x.map f)
 | []=>.nil
 | x :: xs=>.cons (cvL_map h x) (by simp) (cvR_map h xs)
theorem cv_wide(g:Gh):∀ (k:Nat) (a:AV),Cv g g a (wideF k a)
 | 0,a=>cv_refl (.refl g) a
 | k+1,a=>by
  cases a with
  | agg cs=>exact cv_agg (cvL_map (cv_wide g k) cs)
  | vec xs f=>exact fun v hv=>cv_full (.refl g) _ f v (cv_vec (.refl g) (cvR_map (cv_wide g k) xs) v hv)
  | _=>exact cv_refl (.refl g) _
theorem kexpo_wide(k:Nat){h:Hp}{r r':AV}(e:wideF k r=r')(hr:GP r'):KExpo h r r':=by
 refine KExpo.wk (h':=⟨[],[],h.nx⟩) (r':=r') (St.wk_conv rfl rfl (fun g g' x=>allc ⟨r,rfl,?_⟩ alln) (fun g g' x=>alln) (fun g=>alln)) (kexpo hr)
 subst e
 exact fun v hv=>cv_refl x _ v (cv_wide g k r v hv)
theorem set_spec'(t to:Int):KCall Pg 35 [.lit (.int .i32 t),.lit (.int .i64 to)] (.agg (encSt ⟨0,[eSm (i8 1) [(t,t)] 0 to]⟩)):=by
 refine KCall_of (SCall_introK Tryz.func35 rfl Tryz.ntmps35 (rs:=[.cell 4 83]) rfl (by simp) ?_)
 refine aw_of ?_
 simp -implicitDefEqProofs (disch:=omega) only[Wz,seval]
 exact kexpo_wide 8 rfl (.of_pure (.agg (pure_encSt _)))
theorem Small_spec:KCall Pg 19 [] (.agg (encN smallN)):=by
 refine KCall_of (SCall_introK Tryz.func19 rfl Tryz.ntmps19 (rs:=[.cell 0 26]) rfl (by simp) ?_)
 refine aw_of ?_
 have gs:∀ s:Sta,GP (.agg (encSt s)):=fun s=>.of_pure (.agg (pure_encSt s))
 simp -implicitDefEqProofs (disch:=omega) only[Wz,seval]
 refine CallK_k call35 (set_spec' 1 3) (allc (.lit _) (allc (.lit _) alln)) (gs _) ?_
 simp -implicitDefEqProofs (disch:=omega) only[Wz,seval]
 refine CallK_k call35 (set_spec' 2 3) (allc (.lit _) (allc (.lit _) alln)) (gs _) ?_
 simp -implicitDefEqProofs (disch:=omega) only[Wz,seval]
 refine CallK_k call35 (set_spec' 3 6) (allc (.lit _) (allc (.lit _) alln)) (gs _) ?_
 simp -implicitDefEqProofs (disch:=omega) only[Wz,seval]
 exact kexpo_wide 8 rfl (.of_pure (.agg (pure_encN _)))
def gVI (t:Nat):List It→AV
 | []=>.vec [] true
 | _ :: l=>.own t (l.length+1)
def tokI (t:Nat):List It→List (Nat × Tk)
 | []=>[]
 | x :: l=>[(t,⟨(x :: l).map encI,0,5⟩)]
def rowI'(ts:List Nat)(k:Nat):It:=⟨((ts.getD k default:Nat):Int),(k:Int),(k:Int),false,(k:Int)⟩
theorem rowK_len:∀ (l:List Nat) (k:Nat),(rowK l k).length=l.length
 | [],k=>rfl
 | t :: l,k=>by simp[rowK,rowK_len l (k+1)]
theorem rowK_get:∀ (l:List Nat) (j i:Nat),i<l.length→(rowK l j)[i]? = some ⟨((l.getD i default:Nat):Int),((j+i:Nat):Int),((j+i:Nat):Int),false,((j+i:Nat):Int)⟩
 | t :: l,j,0,_=>by simp[rowK]
 | t :: l,j,i+1,h=>by
  have:=rowK_get l (j+1) i (by simpa using h)
  simp only[rowK,List.getElem?_cons_succ,this]
  rw[show j+1+i=j+(i+1) by omega];rfl
theorem rowK_take{ts:List Nat}{k:Nat}(h:k<ts.length):(rowK ts 0).take (k+1)=(rowK ts 0).take k++[rowI' ts k]:=by
 rw[List.take_add_one,rowK_get ts 0 k h,Nat.zero_add];rfl
theorem Row_spec(eof:Bool)(ts:List Nat)(f:Bool)(h:ts.length≤1000000):PCall Pg 20 [.lit (.bool eof),.vec (ts.map rowI) f] (.vec ((rowV eof ts).map encI) false):=by
 refine PCall_intro Tryz.func20 rfl Tryz.ntmps20 (rs:=[.tmp 4]) rfl (by simp) ?_
 simp -implicitDefEqProofs (disch:=omega) only[Wz,seval]
 refine aw_measA (fun x:Nat × Nat × Nat=>⟨[(6,.lit (.int .i64 (x.1:Int))),(5,gVI x.2.1 ((rowK ts 0).take x.1)),(0,.lit (.bool eof)),(1,.vec (ts.map rowI) f)],⟨[],tokI x.2.1 ((rowK ts 0).take x.1),x.2.2⟩,36⟩) (fun x=>x.1≤ts.length) (fun x=>ts.length - x.1) (0,0,0) (wk_lk (by simp[lk];rfl) (fun _ _ q=>q) (fun _ _ q=>q) rfl rfl) (Nat.zero_le _) ?_
 rintro⟨k,t,nx⟩ hk
 simp only at hk ⊢
 refine aw_of ?_
 have hlen:((rowK ts 0).take k).length=k:=by rw[List.length_take,rowK_len];omega
 rcases Nat.lt_or_ge k ts.length with hl | hg
 ·have htk:=rowK_take hl
  obtain⟨y,hy⟩:∃ y,ts.getD k default=y:=⟨_,rfl⟩
  have hit:encI (rowI' ts k)=[.lit (.int .i64 (y:Int)),.lit (.int .i64 (k:Int)),.lit (.int .i64 (k:Int)),.lit (.bool false),.lit (.int .i64 (k:Int))]:=by unfold rowI' encI;rw[hy]
  obtain⟨l,hl1⟩:∃ l,(rowK ts 0).take k=l:=⟨_,rfl⟩
  rw[hl1] at htk hlen ⊢
  cases l with
  | nil =>
   have hf1:fits 1 40:=by decide
   have hg0:gVI t [] = .vec [] true:=rfl
   have ht0:tokI t []=[]:=rfl
   simp -implicitDefEqProofs (disch:=omega) only[Wz,seval,hg0,ht0,hy,rowI,List.mem_singleton,forall_eq,List.not_mem_nil,false_imp_iff,implies_true,hf1,if_true,List.length_cons,List.length_nil]
   refine⟨(k+1,nx,nx+1),hl,by show ts.length - (k+1)<_;omega,?_⟩
   simp only
   rw[htk]
   refine wk_lk (by simp[lk,gVI]) (fun _ _ q=>q) (fun i c q=>?_) rfl rfl
   have q1:lk [(nx,(⟨[encI (rowI' ts k)],0,5⟩:Tk))] i=some c:=q
   rw[hit] at q1
   exact q1
  | cons a l' =>
   simp only[List.length_cons] at hlen
   have hf1:fits (l'.length+1+1) 40:=fits_of' (by omega) (by omega)
   have hgc:gVI t (a :: l') = .own t (l'.length+1):=rfl
   have htc:tokI t (a :: l')=[(t,⟨(a :: l').map encI,0,5⟩)]:=rfl
   simp -implicitDefEqProofs (disch:=omega) only[Wz,seval,hgc,htc,hy,rowI,List.mem_singleton,forall_eq,List.not_mem_nil,false_imp_iff,implies_true,hf1,if_true,List.length_cons,List.length_nil,List.length_map]
   refine⟨(k+1,t,nx),hl,by show ts.length - (k+1)<_;omega,?_⟩
   simp only
   rw[htk]
   refine wk_lk (by simp[lk,gVI]) (fun _ _ q=>q) (fun i c q=>?_) rfl rfl
   have q1:lk [(t,(⟨(a :: l'++[rowI' ts k]).map encI,0,5⟩:Tk))] i=some c:=q
   rw[show (a :: l'++[rowI' ts k]).map encI=(a :: l').map encI++[encI (rowI' ts k)] by simp,hit] at q1
   exact q1
 ·have hk2:k=ts.length:=by omega
  have hall:(rowK ts 0).take k=rowK ts 0:=List.take_of_length_le (by rw[rowK_len];omega)
  rw[hall] at hlen ⊢
  obtain⟨l,hl1⟩:∃ l,rowK ts 0=l:=⟨_,rfl⟩
  unfold rowV
  rw[hl1] at hlen ⊢
  cases eof with
  | false =>
   cases l with
   | nil =>
    have hg0:gVI t [] = .vec [] true:=rfl
    have ht0:tokI t []=[]:=rfl
    simp -implicitDefEqProofs (disch:=omega) only[Wz,seval,hg0,ht0]
    exact expo_full (by simp)
   | cons a l' =>
    have hgc:gVI t (a :: l') = .own t (l'.length+1):=rfl
    have htc:tokI t (a :: l')=[(t,⟨(a :: l').map encI,0,5⟩)]:=rfl
    simp -implicitDefEqProofs (disch:=omega) only[Wz,seval,hgc,htc]
    exact expo_own (k:=⟨(a :: l').map encI,0,5⟩) (by simp[lk]) (by simp) (pure_rows pure_encI _)
  | true =>
   cases l with
   | nil =>
    have hf1:fits 1 40:=by decide
    have hg0:gVI t [] = .vec [] true:=rfl
    have ht0:tokI t []=[]:=rfl
    simp -implicitDefEqProofs (disch:=omega) only[Wz,seval,hg0,ht0,hf1,List.mem_singleton,forall_eq,List.not_mem_nil,false_imp_iff,implies_true,if_true,List.length_cons,List.length_nil]
    exact expo_own (k:=⟨([⟨0,(ts.length:Int),(ts.length:Int),false,(ts.length:Int)⟩]:List It).map encI,0,5⟩) (by simp[lk,encI]) (by simp) (pure_rows pure_encI _)
   | cons a l' =>
    simp only[List.length_cons] at hlen
    have hf1:fits (l'.length+1+1) 40:=fits_of' (by omega) (by omega)
    have hgc:gVI t (a :: l') = .own t (l'.length+1):=rfl
    have htc:tokI t (a :: l')=[(t,⟨(a :: l').map encI,0,5⟩)]:=rfl
    simp -implicitDefEqProofs (disch:=omega) only[Wz,seval,hgc,htc,hf1,List.mem_singleton,forall_eq,List.not_mem_nil,false_imp_iff,implies_true,if_true,List.length_cons,List.length_nil,List.length_map]
    refine expo_own (k:=⟨((a :: (l'++[⟨0,(ts.length:Int),(ts.length:Int),false,(ts.length:Int)⟩])):List It).map encI,0,5⟩) ?_ ?_ ?_
    ·simp[lk,encI]
    ·simp
    ·exact pure_rows pure_encI _
theorem New_any(n:Nt)(o:List Orc)(f:Bool)(ok:NtOk n)(ho:o.length≤1000000000)(H:Hp)(hf:∀ i,H.nx≤i→lk H.boxes i=none) :
  SCall Pg 7 [.agg (encN n),.vec (o.map encO) f] H fun r h' =>
   (okV n=true→r = .tup [.ptr (H.nx+1) 0,.lit (.int .i64 0)]∧h'=⟨H.boxes++[(H.nx+1,askX n o (.vec [] true) (.lit (.map none)) (.lit (.map none)))],H.toks,H.nx+2⟩)∧(okV n=false→r = .tup [.lit (.pointer none),.lit (.int .i64 110)]∧h'=⟨H.boxes,H.toks,H.nx+1⟩) :=
 SCall.conv (fun g w r=>⟨g,.refl r,cvL_cons (cv_refl (.refl g) _) (cvL_cons (cv_full (.refl g) _ f) cvL_nil)⟩) (New_spec n o ok ho H hf)
theorem netOk_of{n:Nt}{o:List Orc}(ok:NtOk n)(ho:o.length≤1000000000)(h:okV n=true):NetOk n o:=⟨(okV_wf h).1,ok,rank_ex ok h,ho⟩
noncomputable def validV(n:Nt)(o:List Orc)(rule:Int)(L:List It):Bool :=
 okV n && (decide (asksV n rule L.length=0) && (decide (0<L.length) && (decide ((L.getD (L.length - 1) default).type=0) && viaV n o rule.toNat L)))
theorem Valid_spec(n:Nt)(o:List Orc)(f:Bool)(rule:Int)(L:List It)(ok:NtOk n)(ho:o.length≤1000000000)(hL:L.length≤25∨601<L.length)(hL2:L.length≤1000000000) :
  KCall Pg 16 [.agg (encN n),.vec (o.map encO) f,.lit (.int .i64 rule),.vec (L.map encI) false] (.lit (.bool (validV n o rule L))):=by
 obtain⟨v,hv⟩:∃ v,validV n o rule L=v:=⟨_,rfl⟩
 rw[hv]
 unfold validV at hv
 have hz:=fun q=>asksV_0 (n:=n) (rule:=rule) (k:=L.length) q
 obtain⟨e,he⟩:∃ e,asksV n rule L.length=e:=⟨_,rfl⟩
 obtain⟨it,hit⟩:∃ it,L.getD (L.length - 1) default=it:=⟨_,rfl⟩
 rw[he] at hz hv
 rw[hit] at hv
 refine KCall_of (SCall_introK Tryz.func16 rfl Tryz.ntmps16 (rs:=[.tmp 8]) rfl (by simp) ?_)
 refine aw_of ?_
 have hnew:=New_any n o f ok ho ⟨[(0,encN n)],[],1⟩ (fun i hi=>lk_lt (N:=1) (by simp) hi)
 have hnew':=hnew
 unfold encN at hnew'
 simp -implicitDefEqProofs (disch:=omega) only[Wz,seval,encN]
 refine CallK_of call7 hnew' ?_
 rintro r h' ⟨q1,q2⟩
 cases hok:okV n with
 | false =>
  obtain⟨rfl,rfl⟩:=q2 hok
  have hv0:false=v:=by rw[← hv,hok];rfl
  subst hv0
  simp -implicitDefEqProofs (disch:=omega) only[Wz,seval]
  exact kexpo (.lit _)
 | true =>
  obtain⟨rfl,rfl⟩:=q1 hok
  have N:=netOk_of ok ho hok
  rw[hok,Bool.true_and] at hv
  have hA:AtA n o ⟨[(0,encN n)]++[(1+1,askX n o (.vec [] true) (.lit (.map none)) (.lit (.map none)))],[],1+2⟩ (1+1) (.vec [] true) (.lit (.map none)) (.lit (.map none)):=⟨rfl,fun i hi=>lk_lt (N:=3) (by simp) hi,fun i _=>rfl,rfl⟩
  have hask:=asks_spec n o _ _ _ rule L.length _ (1+1) (by have:=ok.rules;omega) hA.bx
  rw[he] at hask
  simp -implicitDefEqProofs (disch:=omega) only[Wz,seval]
  refine CallK_of call24 hask ?_
  rintro r h' ⟨rfl,hh⟩
  rw[hh]
  clear hh
  by_cases h0:e=0
  ·obtain⟨z1,z2,z3,z4⟩:=hz h0
   rw[decide_eq_true h0,Bool.true_and] at hv
   subst h0
   by_cases hl0:0<L.length
   ·rw[decide_eq_true hl0,Bool.true_and] at hv
    have hcast:(L.length:Int) - 1=((L.length - 1:Nat):Int):=by omega
    by_cases ht:it.type=0
    ·rw[decide_eq_true ht,Bool.true_and] at hv
     have h1':(it.type==0)=true:=by simpa using ht
     obtain⟨rn,hrn⟩:∃ rn,rule.toNat=rn:=⟨_,rfl⟩
     rw[hrn] at z2 z3 hv
     subst z3
     simp -implicitDefEqProofs (disch:=omega) only[Wz,seval,hcast,encI,hit,h1']
     refine CallK_of call32 (viable_spec n o N rn z2 L (by omega) _ (1+1) _ _ _ hA) ?_
     rintro r h' ⟨rfl,x2,y2,z2,m2,hm2,rfl⟩
     simp -implicitDefEqProofs (disch:=omega) only[Wz,seval]
     rw[hv]
     exact kexpo (.lit _)
    ·rw[decide_eq_false ht,Bool.false_and] at hv
     subst hv
     have h1':(it.type==0)=false:=by simpa using ht
     simp -implicitDefEqProofs (disch:=omega) only[Wz,seval,hcast,encI,hit,h1']
     exact kexpo (.lit _)
   ·rw[decide_eq_false hl0,Bool.false_and] at hv
    subst hv
    simp -implicitDefEqProofs (disch:=omega) only[Wz,seval]
    exact kexpo (.lit _)
  ·rw[decide_eq_false h0,Bool.false_and] at hv
   subst hv
   have hne0:(e==0)=false:=by simpa using h0
   simp -implicitDefEqProofs (disch:=omega) only[Wz,seval,hne0]
   exact kexpo (.lit _)
theorem gp_nil:GP (.vec [] true):=.of_pure (.vec (by simp))
theorem wakes_spec:KCall Pg 6 [] (.lit (.bool true)):=by
 have gN:GP (.agg (encN smallN)):=.of_pure (.agg (pure_encN _))
 have hnew:=New_any smallN [] true small_nt (by decide) ⟨[],[],0⟩ (fun i _=>rfl)
 have as0:∀ k,k≤601→asksV smallN 0 k=0:=fun k hk=>by
  have h1:¬ (601<k):=by omega
  unfold asksV
  rw[if_neg (by decide),if_neg (by decide),if_neg (by decide),if_neg h1]
 have hlE:(if endsE smallN 0 0 0 (rowV false [1,2,2,3]).length=0 then endsL smallN [] (Int.toNat 0) 0 (Int.toNat 0) (rowV false [1,2,2,3]) else [])=[4]:=by
  rw[if_pos (by kernel_rfl)];exact small_f2
 have heE:endsE smallN 0 0 0 (rowV false [1,2,2,3]).length=0:=by kernel_rfl
 have hE:=fun H x y z=>Ends_spec smallN [] small_net 0 0 0 (rowV false [1,2,2,3]) (.inl (by decide)) (by decide) H 1 x y z
 rw[hlE,heE] at hE
 have hV:=fun H x y z=>Viable_spec smallN [] small_net 0 (rowV false [1,2,1]) (.inl (by decide)) (by decide) H 1 x y z
 have hlV:(if asksV smallN 0 (rowV false [1,2,1]).length=0 then viaN smallN [] (Int.toNat 0) (rowV false [1,2,1]) (rowV false [1,2,1]).length else 0)=2:=by
  rw[if_pos (as0 _ (by decide))];exact small_f3
 rw[hlV,as0 _ (by decide)] at hV
 have hX:=fun H x y z=>Next_spec smallN [] small_net 0 1 1 (rowV false [1]) (.inl (by decide)) (by decide) H 1 x y z
 have hlX:(if asksV smallN 0 (rowV false [1]).length=0 then nextL smallN [] (Int.toNat 0) (rowV false [1]) 1 1 (smallN.types.length+1) else [])=[2,3]:=by
  rw[if_pos (as0 _ (by decide))];exact small_f4
 rw[hlX,as0 _ (by decide)] at hX
 have hY:=Valid_spec smallN [] true 0 (rowV true [1,3]) small_nt (by decide) (.inl (by decide)) (by decide)
 have hvY:validV smallN [] 0 (rowV true [1,3])=true:=by
  unfold validV
  rw[small_ok,decide_eq_true (as0 _ (by decide))]
  show (true && (true && (_ && (_ && viaV smallN [] 0 (rowV true [1,3])))))=true
  rw[small_f5];kernel_rfl
 rw[hvY] at hY
 have hZ:=Valid_spec smallN [] true 0 (rowV true [1]) small_nt (by decide) (.inl (by decide)) (by decide)
 have hvZ:validV smallN [] 0 (rowV true [1])=false:=by
  unfold validV
  rw[small_ok,decide_eq_true (as0 _ (by decide))]
  show (true && (true && (_ && (_ && viaV smallN [] 0 (rowV true [1])))))=false
  rw[small_f6];kernel_rfl
 rw[hvZ] at hZ
 refine KCall_of (SCall_introK Tryz.func6 rfl Tryz.ntmps6 (rs:=[.tmp 0]) rfl (by simp) ?_)
 refine aw_of ?_
 simp -implicitDefEqProofs (disch:=omega) only[Wz,seval]
 refine CallK_k call19 Small_spec alln gN ?_
 simp -implicitDefEqProofs (disch:=omega) only[Wz,seval]
 refine CallK_of call7 hnew ?_
 rintro r h' ⟨q1,q2⟩
 obtain⟨rfl,rfl⟩:=q1 small_ok
 clear q1 q2
 simp -implicitDefEqProofs (disch:=omega) only[Wz,seval]
 have hAt:∀ x y z m,2≤m→AtA smallN [] ⟨[(1,askX smallN [] x y z)],[],m⟩ 1 x y z:=fun x y z m hm=>⟨rfl,fun i hi=>lk_lt (N:=2) (by simp) (by have hi:m≤i:=hi;omega),fun _ _=>rfl,rfl⟩
 refine CallK_pure call20 (Row_spec false [1,2,2,3] true (by decide)) (allc (.lit _) (allc (.vec (pure_rows pure_rowI [1,2,2,3])) alln)) (.vec (pure_rows pure_encI _)) ?_
 simp -implicitDefEqProofs (disch:=omega) only[Wz,seval]
 refine CallK_of call9 (hE _ _ _ _ (hAt _ _ _ _ (by decide))) ?_
 rintro r h' ⟨⟨f1,rfl⟩,x1,y1,z1,m1,hm1,rfl⟩
 have hm1:2≤m1:=hm1
 simp -implicitDefEqProofs (disch:=omega) only[Wz,seval]
 refine CallK_pure call20 (Row_spec false [1,2,1] true (by decide)) (allc (.lit _) (allc (.vec (pure_rows pure_rowI [1,2,1])) alln)) (.vec (pure_rows pure_encI _)) ?_
 simp -implicitDefEqProofs (disch:=omega) only[Wz,seval]
 refine CallK_of call12 (hV _ _ _ _ (hAt _ _ _ _ hm1)) ?_
 rintro r h' ⟨rfl,x2,y2,z2,m2,hm2,rfl⟩
 have hm2:m1≤m2:=hm2
 simp -implicitDefEqProofs (disch:=omega) only[Wz,seval]
 refine CallK_pure call20 (Row_spec false [1] true (by decide)) (allc (.lit _) (allc (.vec (pure_rows pure_rowI [1])) alln)) (.vec (pure_rows pure_encI _)) ?_
 simp -implicitDefEqProofs (disch:=omega) only[Wz,seval]
 refine CallK_of call14 (hX _ _ _ _ (hAt _ _ _ _ (by omega))) ?_
 rintro r h' ⟨⟨f3,rfl⟩,x3,y3,z3,m3,hm3,rfl⟩
 have hm3:m2≤m3:=hm3
 simp -implicitDefEqProofs (disch:=omega) only[Wz,seval]
 have hr1:=rows_spec [4] [4] f1 true (by decide) (by decide)
 rw[show decide (([4]:List Nat)=[4])=true by decide] at hr1
 have hr2:=rows_spec [2,3] [2,3] f3 true (by decide) (by decide)
 rw[show decide (([2,3]:List Nat)=[2,3])=true by decide] at hr2
 have gR:∀ (l:List Nat) f,GP (.vec (l.map rowI) f):=fun l f=>.of_pure (.vec (pure_rows pure_rowI l))
 have gI:∀ (l:List It) f,GP (.vec (l.map encI) f):=fun l f=>.of_pure (.vec (pure_rows pure_encI l))
 refine CallK_k call11 hr1 (allc (gR [4] f1) (allc (gR [4] true) alln)) (.lit _) ?_
 simp -implicitDefEqProofs (disch:=omega) only[Wz,seval]
 refine CallK_k call11 hr2 (allc (gR [2,3] f3) (allc (gR [2,3] true) alln)) (.lit _) ?_
 simp -implicitDefEqProofs (disch:=omega) only[Wz,seval]
 refine CallK_k call19 Small_spec alln gN ?_
 simp -implicitDefEqProofs (disch:=omega) only[Wz,seval]
 refine CallK_pure call20 (Row_spec true [1,3] true (by decide)) (allc (.lit _) (allc (.vec (pure_rows pure_rowI [1,3])) alln)) (.vec (pure_rows pure_encI _)) ?_
 simp -implicitDefEqProofs (disch:=omega) only[Wz,seval]
 refine CallK_k call16 hY (allc gN (allc (gp_nil) (allc (.lit _) (allc (gI _ _) alln)))) (.lit _) ?_
 simp -implicitDefEqProofs (disch:=omega) only[Wz,seval]
 refine CallK_k call19 Small_spec alln gN ?_
 simp -implicitDefEqProofs (disch:=omega) only[Wz,seval]
 refine CallK_pure call20 (Row_spec true [1] true (by decide)) (allc (.lit _) (allc (.vec (pure_rows pure_rowI [1])) alln)) (.vec (pure_rows pure_encI _)) ?_
 simp -implicitDefEqProofs (disch:=omega) only[Wz,seval]
 refine CallK_k call16 hZ (allc gN (allc (gp_nil) (allc (.lit _) (allc (gI _ _) alln)))) (.lit _) ?_
 simp -implicitDefEqProofs (disch:=omega) only[Wz,seval]
 exact kexpo (.lit _)
end Go.Proofs.YtbbnfbnicacdoaaGreat
end
section
namespace Go.Proofs.YtbbnfbnicacdoaaGreat
open Go Go.Ab
open Go.Proofs.Tryz renaming prog→Pg
set_option maxRecDepth 20000
mutual
def gz:Gd→Nat
 | .mk _ _ name kids=>1+name.size+gzs kids
def gzs:List Gd→Nat
 | []=>0
 | g :: l=>gz g+gzs l
end
theorem gzs_sum(l:List Gd):gzs l=(l.map gz).sum:=by induction l with | nil=>rfl | cons x l ih=>simp[gzs,ih]
theorem gz_eq(g:Gd):gz g=1+g.name.size+(g.kids.map gz).sum:=by cases g;simp only[gz,gzs_sum];rfl
theorem sum_le{l:List Gd}{f g:Gd→Nat}(h:∀ x∈l,f x≤g x):(l.map f).sum≤(l.map g).sum:=by
 induction l with
 | nil=>simp
 | cons x l ih =>
  simp only[List.map_cons,List.sum_cons]
  have:=h x (by simp)
  have:=ih (fun y hy=>h y (by simp[hy]))
  omega
theorem gz_ok:∀ (m:Nat) (g:Gd),gz g≤m→m≤1000000000→GdOk g∧gsz g≤gz g:=by
 intro m
 induction m using Nat.strongRecOn with
 | _ m ih =>
  intro g h hm
  have hk:∀ k∈g.kids,GdOk k∧gsz k≤gz k:=fun k hk=>by
   have h1:=sum_mem (List.mem_map_of_mem (f:=gz) hk)
   have h2:=gz_eq g
   exact ih (gz k) (by omega) k (Nat.le_refl _) (by omega)
  refine⟨.mk (by have:=gz_eq g;omega) fun k hk'=>(hk k hk').1,?_⟩
  rw[gsz_eq,gz_eq]
  have:=sum_le fun x hx=>(hk x hx).2
  omega
abbrev RgS:Type:={p:Int × Int // (-2147483648≤p.1∧p.1≤2147483647)∧(-2147483648≤p.2∧p.2≤2147483647)}
abbrev EdS:Type:={e:Ed // SetOk e.set}
abbrev StS:Type:={s:Sta // ∀ e∈s.edges,SetOk e.set}
def edz (e:Ed):Nat:=1+e.set.length+gz e.g+e.acts.length
def stz (s:Sta):Nat:=1+(s.edges.map edz).sum
def nrz (r:Nr):Nat:=1+r.name.size
def baz (s:ByteArray):Nat:=1+s.size
def ntz (n:Nt):Nat:=1+(n.types.map baz).sum+(n.channels.map baz).sum+(n.modes.map baz).sum+(n.rules.map nrz).sum+(n.states.map stz).sum
theorem i32_wf{z:Int}(h:(Lit.int .i32 z).wf=true) : -2147483648≤z∧z≤2147483647:=by
 simp only[Lit.wf,Bool.and_eq_true,decide_eq_true_eq] at h
 have e1:IntKind.i32.min = -2147483648:=by decide
 have e2:IntKind.i32.max=2147483647:=by decide
 omega
theorem all_val{α:Type}{P:α→Prop}(l:List {a // P a}):∀ a∈l.map (fun x=>x.1),P a:=fun a h=>by
 obtain⟨x,_,rfl⟩:=List.mem_map.1 h;exact x.2
section
variable {H:Type} {en:TypeId × Value→H} {W:World}
theorem rs_gd(n:Nat):Rd en Pg W n 91 (fun av m=>∃ t:Gd,av=encG t∧gz t≤m):=by
 induction n using Nat.strongRecOn with
 | _ n ih =>
  refine(Rd.struct' ty91 rfl fun k hk=>.cons ty86 (.int ty86 rfl) (.cons ty2 (.int ty2 rfl) (.cons ty9 (.str ty9 rfl)
   (.cons ty89 (.slice' ty89 rfl ty91 (by decide) (f:=encG) (sz:=gz) fun j hj=>ih j (by omega)) (.nil (by decide)))))).mono ?_
  rintro av m ⟨q,h,rfl⟩
  obtain⟨_,_,_,_,rfl,⟨z1,w1,rfl⟩,h,rfl⟩:=h
  obtain⟨_,_,_,_,rfl,⟨z2,_,rfl⟩,h,rfl⟩:=h
  obtain⟨_,_,_,_,rfl,⟨s,hs,hs2,rfl⟩,h,rfl⟩:=h
  obtain⟨_,_,_,_,rfl,⟨l,rfl,hl,_⟩,rfl,rfl⟩:=h
  exact⟨.mk ⟨z1,i8_wf w1⟩ z2 s l,by simp[encG,encGs_map],by simp only[gz,gzs_sum];omega⟩
theorem rs_range(n:Nat):Rd en Pg W n 119 (fun av m=>∃ t:RgS,av=encR t.1∧1≤m):=by
 refine(Rd.struct' ty119 rfl fun k hk=>.cons ty21 (.int ty21 rfl) (.cons ty21 (.int ty21 rfl) (.nil (by decide)))).mono ?_
 rintro av m ⟨q,h,rfl⟩
 obtain⟨_,_,_,_,rfl,⟨z1,w1,rfl⟩,h,rfl⟩:=h
 obtain⟨_,_,_,_,rfl,⟨z2,w2,rfl⟩,rfl,rfl⟩:=h
 exact⟨⟨(z1,z2),i32_wf w1,i32_wf w2⟩,rfl,by omega⟩
theorem rs_ed(n:Nat):Rd en Pg W n 94 (fun av m=>∃ t:EdS,av=encE t.1∧edz t.1≤m):=by
 refine(Rd.struct' ty94 rfl fun k hk=>.cons ty86 (.int ty86 rfl) (.cons ty88 (.slice' ty88 rfl ty119 (by decide) (f:=fun t:RgS=>encR t.1) (sz:=fun _=>1) fun j _=>rs_range j)
  (.cons ty3 (.int ty3 rfl) (.cons ty3 (.int ty3 rfl) (.cons ty91 (rs_gd k)
  (.cons ty92 (.slice' ty92 rfl ty158 (by decide) (f:=encAct) (sz:=fun _=>1) fun j _=>rd_act j) (.cons ty3 (.int ty3 rfl) (.nil (by decide))))))))).mono ?_
 rintro av m ⟨q,h,rfl⟩
 obtain⟨_,_,_,_,rfl,⟨z1,w1,rfl⟩,h,rfl⟩:=h
 obtain⟨_,_,_,_,rfl,⟨st,rfl,_,hs⟩,h,rfl⟩:=h
 obtain⟨_,_,_,_,rfl,⟨z2,_,rfl⟩,h,rfl⟩:=h
 obtain⟨_,_,_,_,rfl,⟨z3,_,rfl⟩,h,rfl⟩:=h
 obtain⟨_,_,_,_,rfl,⟨g,rfl,hg⟩,h,rfl⟩:=h
 obtain⟨_,_,_,_,rfl,⟨ac,rfl,_,ha⟩,h,rfl⟩:=h
 obtain⟨_,_,_,_,rfl,⟨z4,_,rfl⟩,rfl,rfl⟩:=h
 have hst:SetOk (st.map fun x=>x.1):=all_val st
 exact⟨⟨⟨⟨z1,i8_wf w1⟩,st.map (fun x=>x.1),z2,z3,g,ac,z4⟩,hst⟩,by simp[encE,encG_eq,List.map_map,Function.comp_def],by simp only[edz,List.length_map];omega⟩
theorem rs_sta(n:Nat):Rd en Pg W n 83 (fun av m=>∃ t:StS,av=encSt t.1∧stz t.1≤m):=by
 refine(Rd.struct' ty83 rfl fun k hk=>.cons ty3 (.int ty3 rfl) (.cons ty81 (.slice' ty81 rfl ty94 (by decide) (f:=fun t:EdS=>encE t.1) (sz:=fun t:EdS=>edz t.1) fun j _=>rs_ed j) (.nil (by decide)))).mono ?_
 rintro av m ⟨q,h,rfl⟩
 obtain⟨_,_,_,_,rfl,⟨z1,_,rfl⟩,h,rfl⟩:=h
 obtain⟨_,_,_,_,rfl,⟨l,rfl,hl,_⟩,rfl,rfl⟩:=h
 exact⟨⟨⟨z1,l.map (fun x=>x.1)⟩,all_val l⟩,by simp[encSt,List.map_map,Function.comp_def],by simp only[stz,List.map_map,Function.comp_def];omega⟩
theorem rs_nr(n:Nat):Rd en Pg W n 85 (fun av m=>∃ t:Nr,av=encNr t∧nrz t≤m):=by
 refine(Rd.struct' ty85 rfl fun k hk=>.cons ty9 (.str ty9 rfl) (.cons ty4 (.bool ty4 rfl) (.cons ty4 (.bool ty4 rfl) (.cons ty4 (.bool ty4 rfl) (.cons ty4 (.bool ty4 rfl)
  (.cons ty3 (.int ty3 rfl) (.cons ty3 (.int ty3 rfl) (.cons ty3 (.int ty3 rfl) (.cons ty3 (.int ty3 rfl) (.nil (by decide))))))))))).mono ?_
 rintro av m ⟨q,h,rfl⟩
 obtain⟨_,_,_,_,rfl,⟨s,hs,hs2,rfl⟩,h,rfl⟩:=h
 obtain⟨_,_,_,_,rfl,⟨b1,rfl⟩,h,rfl⟩:=h
 obtain⟨_,_,_,_,rfl,⟨b2,rfl⟩,h,rfl⟩:=h
 obtain⟨_,_,_,_,rfl,⟨b3,rfl⟩,h,rfl⟩:=h
 obtain⟨_,_,_,_,rfl,⟨b4,rfl⟩,h,rfl⟩:=h
 obtain⟨_,_,_,_,rfl,⟨z1,_,rfl⟩,h,rfl⟩:=h
 obtain⟨_,_,_,_,rfl,⟨z2,_,rfl⟩,h,rfl⟩:=h
 obtain⟨_,_,_,_,rfl,⟨z3,_,rfl⟩,h,rfl⟩:=h
 obtain⟨_,_,_,_,rfl,⟨z4,_,rfl⟩,rfl,rfl⟩:=h
 exact⟨⟨s,b1,b2,b3,b4,z1,z2,z3,z4⟩,rfl,by simp only[nrz];omega⟩
theorem rs_str(n:Nat):Rd en Pg W n 9 (fun av m=>∃ t:ByteArray,av=encB t∧baz t≤m):=by
 refine(Rd.str ty9 rfl).mono ?_
 rintro av m ⟨s,_,hs,rfl⟩
 exact⟨s,rfl,by simp only[baz];omega⟩
theorem rs_nt(n:Nat):Rd en Pg W n 26 (fun av m=>∃ t:Nt,av=encN t∧ntz t≤m∧∀ s∈t.states,∀ e∈s.edges,SetOk e.set):=by
 have ws:∀ k,Rd en Pg W k 22 (fun av m=>∃ l:List ByteArray,av=[.vec (l.map encB) false]∧(l.map baz).sum+1≤m∧l.length+1≤m):=fun k =>
  .slice' ty22 rfl ty9 (by decide) (f:=encB) (sz:=baz) fun j _=>rs_str j
 refine(Rd.struct' ty26 rfl fun k hk=>.cons ty22 (ws k) (.cons ty22 (ws k) (.cons ty22 (ws k)
  (.cons ty23 (.slice' ty23 rfl ty85 (by decide) (f:=encNr) (sz:=nrz) fun j _=>rs_nr j)
  (.cons ty24 (.slice' ty24 rfl ty83 (by decide) (f:=fun t:StS=>encSt t.1) (sz:=fun t:StS=>stz t.1) fun j _=>rs_sta j) (.nil (by decide))))))).mono ?_
 rintro av m ⟨q,h,rfl⟩
 obtain⟨_,_,_,_,rfl,⟨l1,rfl,h1,_⟩,h,rfl⟩:=h
 obtain⟨_,_,_,_,rfl,⟨l2,rfl,h2,_⟩,h,rfl⟩:=h
 obtain⟨_,_,_,_,rfl,⟨l3,rfl,h3,_⟩,h,rfl⟩:=h
 obtain⟨_,_,_,_,rfl,⟨l4,rfl,h4,_⟩,h,rfl⟩:=h
 obtain⟨_,_,_,_,rfl,⟨l5,rfl,h5,_⟩,rfl,rfl⟩:=h
 exact⟨⟨l1,l2,l3,l4,l5.map (fun x=>x.1)⟩,by simp[encN,List.map_map,Function.comp_def],by simp only[ntz,List.map_map,Function.comp_def];omega,all_val l5⟩
theorem ntOk_of{n:Nt}(h:ntz n≤100000000)(p:∀ s∈n.states,∀ e∈s.edges,SetOk e.set):NtOk n:=by
 unfold ntz at h
 have b1:=sum_len baz (fun t=>by unfold baz;omega) n.types
 have b2:=sum_len baz (fun t=>by unfold baz;omega) n.channels
 have b3:=sum_len baz (fun t=>by unfold baz;omega) n.modes
 have b4:=sum_len nrz (fun t=>by unfold nrz;omega) n.rules
 have b5:=sum_len stz (fun t=>by unfold stz;omega) n.states
 have sb:∀ (l:List ByteArray),(l.map baz).sum≤100000000→∀ s∈l,s.size≤9000000000000000000:=fun l hl s hs=>by
  have:=sum_mem (List.mem_map_of_mem (f:=baz) hs)
  unfold baz at this hl;omega
 refine⟨by omega,by omega,by omega,by omega,by omega,sb _ (by omega),sb _ (by omega),sb _ (by omega),fun r hr=>?_,fun s hs=>?_⟩
 ·have:=sum_mem (List.mem_map_of_mem (f:=nrz) hr)
  have e:nrz r=1+r.name.size:=rfl
  omega
 ·have h1:=sum_mem (List.mem_map_of_mem (f:=stz) hs)
  have e1:stz s=1+(s.edges.map edz).sum:=rfl
  have h2:=sum_len edz (fun t=>by unfold edz;omega) s.edges
  refine⟨by omega,fun e he=>?_⟩
  have h3:=sum_mem (List.mem_map_of_mem (f:=edz) he)
  have e2:edz e=1+e.set.length+gz e.g+e.acts.length:=rfl
  obtain⟨q1,q2⟩:=gz_ok _ e.g (Nat.le_refl _) (by omega)
  exact⟨by omega,by omega,by omega,q1,p s hs e he⟩
theorem rd_orcs(n:Nat):Rd en Pg W n 27 (fun av m=>∃ l:List Orc,av=[.vec (l.map encO) false]∧l.length≤m) :=
 (Rd.slice' ty27 rfl ty56 (by decide) (f:=encO) (sz:=fun _=>1) fun j _=>rd_orc j).mono fun av m ⟨l,h1,_,h2⟩=>⟨l,h1,by omega⟩
theorem rd_items(n:Nat):Rd en Pg W n 38 (fun av m=>∃ l:List It,av=[.vec (l.map encI) false]∧l.length≤m) :=
 (Rd.slice' ty38 rfl ty70 (by decide) (f:=encI) (sz:=fun _=>1) fun j _=>rd_item j).mono fun av m ⟨l,h1,_,h2⟩=>⟨l,h1,by omega⟩
end
end Go.Proofs.YtbbnfbnicacdoaaGreat
end
section
namespace Go.Proofs.YtbbnfbnicacdoaaGreat
open Go Go.Ab Go.RowKit Go.ChangeShapes
section
variable {H:Type} {enc:TypeId × Value→H} {P:Program}
theorem Keeps.below{W W':World}(h:Keeps (fun _=>False) W W'):Below W.heap.size W W':=⟨h.os,h.tape,h.output,h.size,fun b hb=>h.block b hb (fun q=>q)⟩
theorem trodAll_stays(hl:laidOutB P=true){W W':World}(hb:Below W.heap.size W W'){sp:Nat→Bool}:∀ {ts:List TypeId} {vs:List Value} {ds:List (DataW H)} {ps:List MemPlace},
  (∀ t∈ts,P.readableRec t=true∧t<P.types.size)→DataW.TrodAll enc P W 0 (fun _=>true) true ts vs ds ps→(∀ p∈ps,p.block<W.heap.size∧sp p.block=true)→DataW.TrodAll enc P W' 0 sp true ts vs ds ps
 | [],vs,ds,ps,_,h,_=>by
  obtain⟨rfl,rfl,rfl⟩:=trodAll_nil h
  exact trodAll_mk0
 | t :: ts,_,_,_,ht,h,hp=>by
  obtain⟨v,vs',d,ds',p,q,rfl,rfl,rfl,h1,h2⟩:=trodAll_cons h
  obtain⟨hr,hrow⟩:=ht t (by simp)
  exact⟨p,q,WideElems.Trod_stays hl hr hrow h1 (fun x hx=>hb.same (hp x (by simp[hx])).1) (fun x hx=>(hp x (by simp[hx])).2),
   trodAll_stays hl hb (fun t' h'=>ht t' (by simp[h'])) h2 (fun x hx=>hp x (by simp[hx])),rfl⟩
theorem law_post{f:Func}{s:ChangeSpec}{apart fresh handsOn again:Bool}{W W':World}{args:Array Value}{ds gs:List (DataW H)}{before:List MemPlace}{tb:TypeId}
  (hW:DataW.Whole enc P f.params.toList s.vars apart W args.toList ds gs before) (hv:s.vars=[]) (hs:s.fn H ds={results:=[.lit (.bool true)],args:=ds})
  (hl:laidOutB P=true) (hp:(f.params.toList.all fun t=>P.readableRec t && decide (t<P.types.size))=true) (hres:f.resultTypes = #[tb]) (htb:P.underlying tb=some .bool)
  (hk:Keeps (fun _=>False) W W'):s.post enc P f apart fresh handsOn again W args (.bool true) W':=by
 have hb:=Keeps.below hk
 have hlt:=hW.lt
 have hW0:=hW
 have hpar:∀ t∈f.params.toList,P.readableRec t=true∧t<P.types.size:=fun t ht=>by
  have:=List.all_eq_true.1 hp t ht
  simpa using this
 obtain⟨p,q,h1,h2,rfl,hz,hn⟩:=hW
 rw[hv] at h2
 obtain⟨rfl,rfl⟩:=trodVars_none h2
 have hfn:s.fn H (ds++[])={results:=[.lit (.bool true)],args:=ds}:=by rw[List.append_nil];exact hs
 have hr:∀ (b:Nat) (sp:Nat→Bool) (hd:Bool),DataW.TrodAll enc P W' b sp hd f.resultTypes.toList ((Value.bool true).resultList f.resultTypes.size) [.lit (.bool true)] []:=fun b sp hd=>by
  rw[hres];exact trodAll_cons_mk (shut_bool htb true) trodAll_mk0
 have ha:∀ sp:Nat→Bool,(∀ x∈p,sp x.block=true)→DataW.TrodAll enc P W' 0 sp true f.params.toList args.toList ds p:=fun sp hsp =>
  trodAll_stays hl hb hpar h1 (fun x hx=>⟨hlt x (by simp[hx]),hsp x hx⟩)
 refine⟨ds,[],p++[],[],p,[],hW0,?_,?_,?_,hb.frame _,fun _=>⟨?_,.lit (.bool true) :: ds,[],p++[],?_,fun x hx _=>hx⟩⟩
 ·rw[hfn];exact hr _ _ _
 ·rw[hfn];exact ha _ (fun x hx=>by simpa using hlt x (by simp[hx]))
 ·rw[hfn,hv];rfl
 ·exact ok_one hres rfl (okWide_bool_mk htb true)
 ·refine⟨p,[],?_,by rw[hv];rfl,rfl,fun b off hx=>?_,fun hap=>hn hap⟩
  ·exact trodAll_append (p:=[]) (ha (fun _=>true) (fun _ _=>rfl)) (hr 0 (fun _=>true) true)
  ·have hlt':=hlt _ hx
   exact(World.frozen?_of_block (w:=W) (hb.block b hlt')).trans (hz b off hx)
end
end Go.Proofs.YtbbnfbnicacdoaaGreat
end
section
namespace Go.Proofs.YtbbnfbnicacdoaaGreat
open Go Go.Ab
open Go.Proofs.Tryz renaming prog→Pg
set_option maxRecDepth 20000
set_option maxHeartbeats 16000000
theorem rletter_spec(c:Int):PCall Pg 138 [.lit (.int .u8 c)] (.lit (.bool (letterB c))):=by
  refine PCall_intro Tryz.func138 rfl Tryz.ntmps138 (rs:=[.tmp 2]) rfl (by simp) ?_
  unfold letterB
  by_cases h1:c ≥ 97 <;> by_cases h2:c≤122 <;> by_cases h3:c ≥ 65 <;> by_cases h4:c≤90 <;> first
    | omega
    | (simp -implicitDefEqProofs (disch:=omega) only[Wz,seval,Bool.and_true,Bool.true_and,Bool.or_true,Bool.true_or,Bool.false_or,Bool.or_false,Bool.and_false,Bool.false_and]
       exact expo_pure (.lit _))
theorem rdigit_spec(c:Int):PCall Pg 139 [.lit (.int .u8 c)] (.lit (.bool (digitB c))):=by
  refine PCall_intro Tryz.func139 rfl Tryz.ntmps139 (rs:=[.tmp 2]) rfl (by simp) ?_
  unfold digitB
  by_cases h1:c ≥ 48 <;> by_cases h2:c≤57 <;> first
    | omega
    | (simp -implicitDefEqProofs (disch:=omega) only[Wz,seval,Bool.and_true,Bool.true_and,Bool.or_true,Bool.true_or,Bool.false_or,Bool.or_false,Bool.and_false,Bool.false_and]
       exact expo_pure (.lit _))
def wordT(s:ByteArray):Bool:=if nameW s then false else !(listL.any fun x=>s.toList==x.toList)
def wordF(s:ByteArray)(i:Nat):Bool:=((s.data.toList.drop i).all fun b=>inNameB (b.toNat:Int)) && wordT s
theorem takeWhile_all{α:Type}(p:α→Bool)(l:List α):decide ((l.takeWhile p).length<l.length) = !(l.all p):=by
 induction l with
 | nil=>rfl
 | cons x l ih =>
  rw[List.all_cons,List.takeWhile_cons]
  cases p x with
  | true=>simp only[if_true,List.length_cons,Nat.add_lt_add_iff_right,Bool.true_and];exact ih
  | false=>simp
theorem namedB_word(s:ByteArray):namedB s=if s.size=0 then false else if s.size > 40 then false else if letterB (byteAt s 0)=false then false else wordF s 0:=by
 unfold namedB
 split
 ·rfl
 split
 ·rfl
 split
 ·rfl
 have h:=takeWhile_all (fun b:UInt8=>inNameB (b.toNat:Int)) s.data.toList
 have e:s.data.toList.length=s.size:=by rw[Array.length_toList];rfl
 unfold wordF wordT whileN
 rw[List.drop_zero]
 cases ha:s.data.toList.all fun b=>inNameB (b.toNat:Int) with
 | true =>
  rw[ha,e] at h
  have h':¬ (s.data.toList.takeWhile fun b=>inNameB (b.toNat:Int)).length<s.size:=of_decide_eq_false h
  rw[if_neg h'];rfl
 | false =>
  rw[ha,e] at h
  have h':(s.data.toList.takeWhile fun b=>inNameB (b.toNat:Int)).length<s.size:=of_decide_eq_true h
  rw[if_pos h'];rfl
theorem wordF_step{s:ByteArray}{i:Nat}(h:i<s.size):wordF s i=(inNameB (byteAt s i) && wordF s (i+1)):=by
 have h':i<s.data.toList.length:=by rw[Array.length_toList];exact h
 unfold wordF
 rw[List.drop_eq_getElem_cons h',List.all_cons,Bool.and_assoc]
 congr 2
 unfold byteAt
 rw[Array.getD_eq_getD_getElem?,Array.getElem?_eq_getElem h]
 rfl
theorem byte_get{s:ByteArray}{i:Nat}(h:i<s.size):((s[i]).toNat:Int)=byteAt s i:=by
 unfold byteAt
 rw[Array.getD_eq_getD_getElem?,Array.getElem?_eq_getElem (show i<s.data.size from h)];rfl
theorem rWord_spec(s:ByteArray)(hs:s.size≤9000000000000000000):PCall Pg 130 [.lit (.string s)] (.lit (.bool (namedB s))):=by
 refine PCall_intro Tryz.func130 rfl Tryz.ntmps130 (rs:=[.tmp 2]) rfl (by simp) ?_
 rw[namedB_word]
 have fin:∀ h (b:Bool),Expo h (.lit (.bool b)) (.lit (.bool b)):=fun h b=>expo_pure (.lit _)
 by_cases h0:s.size=0
 ·simp -implicitDefEqProofs (disch:=omega) only[Wz,seval,empty_toList]
  exact fin _ _
 by_cases h1:s.size > 40
 ·simp -implicitDefEqProofs (disch:=omega) only[Wz,seval,empty_toList]
  exact fin _ _
 have gb:s[0]? = some s[0]:=getElem?_pos s 0 (by omega)
 have gb':(s[Int.toNat 0]?)=some s[0]:=gb
 simp -implicitDefEqProofs (disch:=omega) only[Wz,seval,empty_toList,gb',gb]
 refine CallK_pure call138 (rletter_spec _) (allc (.lit _) alln) (.lit _) ?_
 rw[byte_get (by omega)]
 cases hl:letterB (byteAt s 0) with
 | false =>
  simp -implicitDefEqProofs (disch:=omega) only[Wz,seval]
  exact fin _ _
 | true =>
 obtain⟨v,hv⟩:∃ v,wordF s 0=v:=⟨_,rfl⟩
 simp -implicitDefEqProofs (disch:=omega) only[Wz,seval,hv]
 refine aw_measA (fun i:Nat=>⟨[(3,.lit (.int .i64 (i:Int))),(0,.lit (.string s))],.none,50⟩) (fun i=>i≤s.size∧(wordF s i=v)) (fun i=>s.size - i) 0 (wk_lk (by simp[lk]) (fun _ _ q=>q) (fun _ _ q=>q) rfl rfl) ⟨Nat.zero_le _,hv⟩ ?_
 rintro i ⟨hi,hiv⟩
 refine aw_of ?_
 rcases Nat.lt_or_ge i s.size with hlt | hge
 ·rw[wordF_step hlt] at hiv
  have gi:s[i]? = some s[i]:=getElem?_pos s i hlt
  have bi:=byte_get hlt
  simp -implicitDefEqProofs (disch:=omega) only[Wz,seval,gi]
  refine CallK_pure call138 (rletter_spec _) (allc (.lit _) alln) (.lit _) ?_
  rw[bi]
  unfold inNameB at hiv
  cases h2:letterB (byteAt s i) with
  | true =>
   have hiv:wordF s (i+1)=v:=by rw[← hiv,h2];rfl
   simp -implicitDefEqProofs (disch:=omega) only[Wz,seval]
   exact⟨i+1,⟨by omega,hiv⟩,by omega,wk_lk (by simp[lk]) (fun _ _ q=>q) (fun _ _ q=>q) rfl rfl⟩
  | false =>
   simp -implicitDefEqProofs (disch:=omega) only[Wz,seval,gi]
   refine CallK_pure call139 (rdigit_spec _) (allc (.lit _) alln) (.lit _) ?_
   rw[bi]
   cases h3:digitB (byteAt s i) with
   | true =>
    have hiv:wordF s (i+1)=v:=by rw[← hiv,h2,h3];rfl
    simp -implicitDefEqProofs (disch:=omega) only[Wz,seval]
    exact⟨i+1,⟨by omega,hiv⟩,by omega,wk_lk (by simp[lk]) (fun _ _ q=>q) (fun _ _ q=>q) rfl rfl⟩
   | false =>
    by_cases h4:byteAt s i=95
    ·have hiv:wordF s (i+1)=v:=by rw[← hiv,h2,h3,h4];rfl
     simp -implicitDefEqProofs (disch:=omega) only[Wz,seval,gi,bi]
     exact⟨i+1,⟨by omega,hiv⟩,by omega,wk_lk (by simp[lk]) (fun _ _ q=>q) (fun _ _ q=>q) rfl rfl⟩
    ·have hiv:false=v:=by rw[← hiv,h2,h3,beqF h4];rfl
     subst hiv
     simp -implicitDefEqProofs (disch:=omega) only[Wz,seval,gi,bi]
     exact fin _ _
 ·have e:i=s.size:=by omega
  subst e
  have hv':wordT s=v:=by
   rw[← hiv];unfold wordF
   rw[List.drop_eq_nil_of_le (by rw[Array.length_toList];exact Nat.le_refl _)];rfl
  simp -implicitDefEqProofs (disch:=omega) only[Wz,seval]
  have tl:wordT s = !(sEq s ⟨#[116,114,117,101]⟩ || (sEq s ⟨#[102,97,108,115,101]⟩ || (sEq s ⟨#[111,114,97,99,108,101]⟩ || (sEq s ⟨#[105,110,100,101,120]⟩ || (sEq s ⟨#[99,111,108,117,109,110]⟩ || (sEq s ⟨#[108,97]⟩ || sEq s ⟨#[109,111,100,101]⟩)))))):=by
   unfold wordT nameW listL
   simp only[List.any_cons,List.any_nil,Bool.or_false]
   show _ = !(_ || (_ || (_ || ((s.toList==_) || ((s.toList==_) || ((s.toList==_) || (s.toList==_)))))))
   generalize sEq s ⟨#[116,114,117,101]⟩=b1
   generalize sEq s ⟨#[102,97,108,115,101]⟩=b2
   generalize sEq s ⟨#[111,114,97,99,108,101]⟩=b3
   cases b1 <;> cases b2 <;> cases b3 <;> simp
  rw[tl] at hv'
  unfold sEq at hv'
  subst hv'
  generalize hb1:(s.toList==(⟨#[116,114,117,101]⟩:ByteArray).toList)=b1
  generalize hb2:(s.toList==(⟨#[102,97,108,115,101]⟩:ByteArray).toList)=b2
  generalize hb3:(s.toList==(⟨#[111,114,97,99,108,101]⟩:ByteArray).toList)=b3
  generalize hb4:(s.toList==(⟨#[105,110,100,101,120]⟩:ByteArray).toList)=b4
  generalize hb5:(s.toList==(⟨#[99,111,108,117,109,110]⟩:ByteArray).toList)=b5
  generalize hb6:(s.toList==(⟨#[108,97]⟩:ByteArray).toList)=b6
  generalize hb7:(s.toList==(⟨#[109,111,100,101]⟩:ByteArray).toList)=b7
  cases b1 with
  | true =>
   simp -implicitDefEqProofs (disch:=omega) only[Wz,seval,hb1,Bool.true_or,Bool.or_true]
   exact fin _ _
  | false =>
  cases b2 with
  | true =>
   simp -implicitDefEqProofs (disch:=omega) only[Wz,seval,hb1,hb2,Bool.true_or,Bool.or_true]
   exact fin _ _
  | false =>
  cases b3 with
  | true =>
   simp -implicitDefEqProofs (disch:=omega) only[Wz,seval,hb1,hb2,hb3,Bool.true_or,Bool.or_true]
   exact fin _ _
  | false =>
  cases b4 with
  | true =>
   simp -implicitDefEqProofs (disch:=omega) only[Wz,seval,hb1,hb2,hb3,hb4,Bool.true_or,Bool.or_true]
   exact fin _ _
  | false =>
  cases b5 with
  | true =>
   simp -implicitDefEqProofs (disch:=omega) only[Wz,seval,hb1,hb2,hb3,hb4,hb5,Bool.true_or,Bool.or_true]
   exact fin _ _
  | false =>
  cases b6 with
  | true =>
   simp -implicitDefEqProofs (disch:=omega) only[Wz,seval,hb1,hb2,hb3,hb4,hb5,hb6,Bool.true_or,Bool.or_true]
   exact fin _ _
  | false =>
  cases b7
  all_goals (simp -implicitDefEqProofs (disch:=omega) only[Wz,seval,hb1,hb2,hb3,hb4,hb5,hb6,hb7,Bool.true_or,Bool.or_true,Bool.or_false];exact fin _ _)
def gdB (g:Gd):List AV:=[.lit (.int .i8 g.op.1),.lit (.int .i64 g.n),.lit (.string g.name),.vec (g.kids.map encG) false]
theorem rSize_spec:∀ (m:Nat) (g:Gd),gsz g≤m→m≤2000000000→PCall Pg 107 [.agg (encG g)] (.lit (.int .i64 (sizeG g)))
 | 0,g,h,_=>by have:=gsz_pos g;omega
 | m+1,g,h,hm=>by
  have hl:=gsz_len g
  refine PCall_intro Tryz.func107 rfl Tryz.ntmps107 (rs:=[.tmp 2]) rfl (by simp) ?_
  simp -implicitDefEqProofs (disch:=omega) only[Wz,seval,encG_eq]
  refine aw_measA (fun i:Nat=>⟨[(4,.lit (.int .i64 (i:Int))),(3,.lit (.int .i64 (sizeGs 1 (g.kids.take i)))),(1,.ptr 0 0)],⟨[(0,gdB g)],[],1⟩,22⟩) (fun i=>i≤g.kids.length) (fun i=>g.kids.length - i) 0 (wk_lk (by simp[lk,sizeGs]) (fun _ _ q=>q) (fun _ _ q=>q) rfl rfl) (Nat.zero_le _) ?_
  intro i hi
  refine aw_of ?_
  rcases Nat.lt_or_ge i g.kids.length with hlt | hge
  ·have hk:=getD_mem (l:=g.kids) hlt
   have ih:=rSize_spec m (g.kids.getD i default) (by have:=gsz_kid hk;omega) (by omega)
   have r1:=sizeG_rng (g.kids.getD i default)
   have r2:=sizeGs_rng (g.kids.take i)
   have nx:sizeGs 1 (g.kids.take (i+1))=min (sizeGs 1 (g.kids.take i)+sizeG (g.kids.getD i default)) 2147483647:=by
    rw[List.take_add_one,getD_get hlt,Option.toList_some,sizeGs_snoc]
   have mn:(if (2147483647:Int)<sizeGs 1 (g.kids.take i)+sizeG (g.kids.getD i default) then 2147483647 else sizeGs 1 (g.kids.take i)+sizeG (g.kids.getD i default))=min (sizeGs 1 (g.kids.take i)+sizeG (g.kids.getD i default)) 2147483647:=by omega
   simp -implicitDefEqProofs (disch:=omega) only[Wz,seval,gdB]
   refine CallK_pure call107 ih (allc (.agg (pure_encG _)) alln) (.lit _) ?_
   simp -implicitDefEqProofs (disch:=omega) only[Wa,tyW,seval,tyW,i64w,mn]
   exact⟨i+1,by omega,by omega,wk_lk (by simp[lk,nx]) (fun _ _ q=>q) (fun _ _ q=>q) rfl rfl⟩
  ·have e:i=g.kids.length:=by omega
   subst e
   simp -implicitDefEqProofs (disch:=omega) only[Wz,seval,gdB,List.take_length]
   rw[← sizeG_eq]
   exact expo_pure (.lit _)
theorem rNumber_spec(g:Gd)(p:Pl):PCall Pg 132 [.agg (encG g),.agg (encPl p)] (.tup [.lit (.int .i64 (numV g p)),.lit (.bool (decide (9≤g.op.1∧g.op.1≤14)))]):=by
 refine PCall_intro Tryz.func132 rfl Tryz.ntmps132 (rs:=[.tmp 4,.tmp 5]) rfl (by simp) ?_
 unfold numV
 by_cases h1:g.op.1=9
 ·simp -implicitDefEqProofs (disch:=omega) only[Wz,seval,encG_eq,encPl]
  exact expo_pure (.tup (allc (.lit _) (allc (.lit _) alln)))
 by_cases h2:g.op.1=10
 ·simp -implicitDefEqProofs (disch:=omega) only[Wz,seval,encG_eq,encPl]
  exact expo_pure (.tup (allc (.lit _) (allc (.lit _) alln)))
 by_cases h3:g.op.1=11
 ·simp -implicitDefEqProofs (disch:=omega) only[Wz,seval,encG_eq,encPl]
  exact expo_pure (.tup (allc (.lit _) (allc (.lit _) alln)))
 by_cases h4:g.op.1=12
 ·simp -implicitDefEqProofs (disch:=omega) only[Wz,seval,encG_eq,encPl]
  exact expo_pure (.tup (allc (.lit _) (allc (.lit _) alln)))
 by_cases h5:g.op.1=13
 ·simp -implicitDefEqProofs (disch:=omega) only[Wz,seval,encG_eq,encPl]
  exact expo_pure (.tup (allc (.lit _) (allc (.lit _) alln)))
 by_cases h6:g.op.1=14
 all_goals
  simp -implicitDefEqProofs (disch:=omega) only[Wz,seval,encG_eq,encPl]
  exact expo_pure (.tup (allc (.lit _) (allc (.lit _) alln)))
theorem rnumber_spec(g:Gd)(hs:g.name.size≤9000000000000000000)(hg:g.kids.length≤2000000000):PCall Pg 118 [.agg (encG g)] (.lit (.bool (numB g))):=by
 refine PCall_intro Tryz.func118 rfl Tryz.ntmps118 (rs:=[.tmp 2]) rfl (by simp) ?_
 have fin:∀ h (b:Bool),Expo h (.lit (.bool b)) (.lit (.bool b)):=fun h b=>expo_pure (.lit _)
 unfold numB
 by_cases h1:g.kids.length > 0
 ·simp -implicitDefEqProofs (disch:=omega) only[Wz,seval,encG_eq]
  exact fin _ _
 by_cases h4:g.op.1=9
 ·simp -implicitDefEqProofs (disch:=omega) only[Wz,seval,encG_eq]
  unfold sEq
  generalize hb:(g.name.toList==(⟨#[]⟩:ByteArray).toList)=b1
  by_cases h5:g.n<1000000000000000000 <;> by_cases h6:g.n > -1000000000000000000 <;> cases b1
  all_goals
   simp -implicitDefEqProofs (disch:=omega) only[Wz,seval,hb,Bool.true_and,Bool.false_and,Bool.and_true,Bool.and_false]
   exact fin _ _
 by_cases h5:g.op.1=14
 ·by_cases h6:g.n=0
  ·simp -implicitDefEqProofs (disch:=omega) only[Wz,seval,encG_eq,Bool.true_and]
   refine CallK_pure call130 (rWord_spec g.name hs) (allc (.lit _) alln) (.lit _) ?_
   simp -implicitDefEqProofs (disch:=omega) only[Wz,seval]
   exact fin _ _
  ·simp -implicitDefEqProofs (disch:=omega) only[Wz,seval,encG_eq,Bool.false_and]
   exact fin _ _
 by_cases h2:g.op.1<9
 ·simp -implicitDefEqProofs (disch:=omega) only[Wz,seval,encG_eq]
  exact fin _ _
 by_cases h3:g.op.1 > 14
 ·simp -implicitDefEqProofs (disch:=omega) only[Wz,seval,encG_eq]
  exact fin _ _
 rcases(by omega:g.op.1=10∨g.op.1=11∨g.op.1=12∨g.op.1=13) with q | q | q | q
 all_goals
  simp -implicitDefEqProofs (disch:=omega) only[Wz,seval,encG_eq]
  unfold sEq
  generalize hb:(g.name.toList==(⟨#[]⟩:ByteArray).toList)=b1
  by_cases h6:g.n=0 <;> cases b1
 all_goals
  simp -implicitDefEqProofs (disch:=omega) only[Wz,seval,hb,Bool.true_and,Bool.false_and,Bool.and_true,Bool.and_false]
  exact fin _ _
theorem orcV_cons(x:Orc)(o:List Orc)(n index:Int):orcV (x :: o) n index=if x.id=n∧x.index=index then x.says else orcV o n index:=by
 unfold orcV
 rw[List.find?_cons]
 by_cases h1:x.id=n
 ·by_cases h2:x.index=index
  ·rw[beqT h1,beqT h2,if_pos ⟨h1,h2⟩];rfl
  ·rw[beqT h1,beqF h2,if_neg fun q=>h2 q.2];rfl
 ·rw[beqF h1,if_neg fun q=>h1 q.1];rfl
theorem drop_cons{T:Type}[Inhabited T]{l:List T}{i:Nat}(h:i<l.length):l.drop i=l.getD i default :: l.drop (i+1):=by
 rw[List.drop_eq_getElem_cons h,List.getD_eq_getElem?_getD,List.getElem?_eq_getElem h];rfl
theorem roracle_spec(o:List Orc)(id index:Int)(ho:o.length≤2000000000):PCall Pg 131 [.lit (.int .i64 id),.lit (.int .i64 index),.vec (o.map encO) false] (.lit (.bool (orcV o id index))):=by
 refine PCall_intro Tryz.func131 rfl Tryz.ntmps131 (rs:=[.tmp 6]) rfl (by simp) ?_
 have fin:∀ h (b:Bool),Expo h (.lit (.bool b)) (.lit (.bool b)):=fun h b=>expo_pure (.lit _)
 obtain⟨v,hv⟩:∃ v,orcV o id index=v:=⟨_,rfl⟩
 rw[hv]
 simp -implicitDefEqProofs (disch:=omega) only[Wz,seval]
 refine aw_measA (fun i:Nat=>⟨[(7,.lit (.int .i64 (i:Int))),(0,.lit (.int .i64 id)),(1,.lit (.int .i64 index)),(2,.vec (o.map encO) false)],.none,35⟩) (fun i=>i≤o.length∧(orcV (o.drop i) id index=v)) (fun i=>o.length - i) 0 (wk_lk (by simp[lk]) (fun _ _ q=>q) (fun _ _ q=>q) rfl rfl) ⟨Nat.zero_le _,by rw[List.drop_zero];exact hv⟩ ?_
 rintro i ⟨hi,hiv⟩
 refine aw_of ?_
 rcases Nat.lt_or_ge i o.length with hlt | hge
 ·obtain⟨x,hx⟩:∃ x,o.getD i default=x:=⟨_,rfl⟩
  rw[drop_cons hlt,hx,orcV_cons] at hiv
  by_cases h1:x.id=id
  ·by_cases h2:x.index=index
   ·rw[if_pos ⟨h1,h2⟩] at hiv
    subst hiv
    simp -implicitDefEqProofs (disch:=omega) only[Wz,seval,hx,encO]
    exact fin _ _
   ·rw[if_neg fun q=>h2 q.2] at hiv
    simp -implicitDefEqProofs (disch:=omega) only[Wz,seval,hx,encO]
    exact⟨i+1,⟨by omega,hiv⟩,by omega,wk_lk (by simp[lk]) (fun _ _ q=>q) (fun _ _ q=>q) rfl rfl⟩
  ·rw[if_neg fun q=>h1 q.1] at hiv
   simp -implicitDefEqProofs (disch:=omega) only[Wz,seval,hx,encO]
   exact⟨i+1,⟨by omega,hiv⟩,by omega,wk_lk (by simp[lk]) (fun _ _ q=>q) (fun _ _ q=>q) rfl rfl⟩
 ·have e:i=o.length:=by omega
  subst e
  rw[List.drop_length] at hiv
  have hiv:false=v:=hiv
  subst hiv
  simp -implicitDefEqProofs (disch:=omega) only[Wz,seval]
  exact fin _ _
theorem rall_spec(l:List Gd)(hl:l.length≤2000000000)(h:∀ k∈l,PCall Pg 108 [.agg (encG k)] (.lit (.bool (condG k)))):PCall Pg 117 [.vec (l.map encG) false] (.lit (.bool (l.all condG))):=by
 refine PCall_intro Tryz.func117 rfl Tryz.ntmps117 (rs:=[.tmp 2]) rfl (by simp) ?_
 have fin:∀ h (b:Bool),Expo h (.lit (.bool b)) (.lit (.bool b)):=fun h b=>expo_pure (.lit _)
 obtain⟨v,hv⟩:∃ v,l.all condG=v:=⟨_,rfl⟩
 rw[hv]
 simp -implicitDefEqProofs (disch:=omega) only[Wz,seval]
 refine aw_measA (fun i:Nat=>⟨[(3,.lit (.int .i64 (i:Int))),(0,.vec (l.map encG) false)],.none,16⟩) (fun i=>i≤l.length∧((l.drop i).all condG=v)) (fun i=>l.length - i) 0 (wk_lk (by simp[lk]) (fun _ _ q=>q) (fun _ _ q=>q) rfl rfl) ⟨Nat.zero_le _,by rw[List.drop_zero];exact hv⟩ ?_
 rintro i ⟨hi,hiv⟩
 refine aw_of ?_
 rcases Nat.lt_or_ge i l.length with hlt | hge
 ·obtain⟨x,hx⟩:∃ x,l.getD i default=x:=⟨_,rfl⟩
  have ih:=h (l.getD i default) (getD_mem hlt)
  rw[hx] at ih
  rw[drop_getD hlt,hx,List.all_cons] at hiv
  simp -implicitDefEqProofs (disch:=omega) only[Wz,seval,hx]
  refine CallK_pure call108 ih (allc (.agg (pure_encG _)) alln) (.lit _) ?_
  cases hc:condG x with
  | true =>
   have hiv:(l.drop (i+1)).all condG=v:=by rw[← hiv,hc];rfl
   simp -implicitDefEqProofs (disch:=omega) only[Wz,seval]
   exact⟨i+1,⟨by omega,hiv⟩,by omega,wk_lk (by simp[lk]) (fun _ _ q=>q) (fun _ _ q=>q) rfl rfl⟩
  | false =>
   have hiv:false=v:=by rw[← hiv,hc];rfl
   subst hiv
   simp -implicitDefEqProofs (disch:=omega) only[Wz,seval]
   exact fin _ _
 ·have e:i=l.length:=by omega
  subst e
  rw[List.drop_length] at hiv
  have hiv:true=v:=hiv
  subst hiv
  simp -implicitDefEqProofs (disch:=omega) only[Wz,seval]
  exact fin _ _
theorem rcond_spec:∀ (m:Nat) (g:Gd),gsz g≤m→m≤2000000000→GdOk g→PCall Pg 108 [.agg (encG g)] (.lit (.bool (condG g)))
  | 0,g,h,_,_=>by have:=gsz_pos g;omega
  | m+1,g,h,hm,hok=>by
    have hl:=gsz_len g
    have hall:=rall_spec g.kids (by omega) fun k hk=>rcond_spec m k (by have:=gsz_kid hk;omega) (by omega) (by cases hok with | mk _ h2=>exact h2 k hk)
    have pk:∀ v∈[AV.vec (g.kids.map encG) false],Ab.Pure v:=allc (.vec (pure_rows pure_encG _)) alln
    refine PCall_intro Tryz.func108 rfl Tryz.ntmps108 (rs:=[.tmp 2]) rfl (by simp) ?_
    have fin:∀ h (b:Bool),Expo h (.lit (.bool b)) (.lit (.bool b)):=fun h b=>expo_pure (.lit _)
    rw[condG_eq]
    have hsE:(g.name.toList==(⟨#[]⟩:ByteArray).toList)=sEq g.name ⟨#[]⟩:=rfl
    have bools:∀ b:Bool,(b && true)=b∧(true && b)=b∧(b && false)=false∧(false && b)=false:=fun b=>by cases b <;> decide
    cases hE:sEq g.name ⟨#[]⟩ with
    | false =>
      simp -implicitDefEqProofs (disch:=omega) only[Wz,seval,encG_eq,hsE,hE]
      exact fin _ _
    | true =>
    by_cases h2:g.op.1=8
    · by_cases h3:g.kids.length=0 <;> by_cases h4:g.n<1000000000000000000 <;> by_cases h5:g.n > -1000000000000000000 <;> by_cases h6:g.n=0
      all_goals first
        | omega
        | (simp -implicitDefEqProofs (disch:=omega) only[Wz,seval,encG_eq,hsE,hE,bools]
           exact fin _ _)
    by_cases h1:¬ g.n=0
    · simp -implicitDefEqProofs (disch:=omega) only[Wz,seval,encG_eq,hsE,hE]
      exact fin _ _
    by_cases h3:g.op.1=0
    · by_cases h4:g.kids.length=0
      all_goals
        simp -implicitDefEqProofs (disch:=omega) only[Wz,seval,encG_eq,hsE,hE,bools]
        exact fin _ _
    by_cases h4:g.op.1=1
    · by_cases h4:g.kids.length=0
      all_goals
        simp -implicitDefEqProofs (disch:=omega) only[Wz,seval,encG_eq,hsE,hE,bools]
        exact fin _ _
    by_cases h5:g.op.1=2
    · by_cases h6:g.kids.length=1
      · simp -implicitDefEqProofs (disch:=omega) only[Wz,seval,encG_eq,hsE,hE,bools]
        refine CallK_pure call117 hall pk (.lit _) ?_
        cases g.kids.all condG
        all_goals
          simp -implicitDefEqProofs (disch:=omega) only[Wz,seval,bools]
          exact fin _ _
      · simp -implicitDefEqProofs (disch:=omega) only[Wz,seval,encG_eq,hsE,hE,bools]
        exact fin _ _
    by_cases h6:g.op.1=3∨g.op.1=4
    · by_cases h7:g.kids.length ≥ 2
      · rcases h6 with h6 | h6
        all_goals
          simp -implicitDefEqProofs (disch:=omega) only[Wz,seval,encG_eq,hsE,hE,bools]
          refine CallK_pure call117 hall pk (.lit _) ?_
          cases g.kids.all condG
          all_goals
            simp -implicitDefEqProofs (disch:=omega) only[Wz,seval,bools]
            exact fin _ _
      · rcases h6 with h6 | h6
        all_goals
          simp -implicitDefEqProofs (disch:=omega) only[Wz,seval,encG_eq,hsE,hE,bools]
          exact fin _ _
    by_cases h7:5≤g.op.1∧g.op.1≤7
    · have ok2:∀ k∈g.kids,k.name.size≤9000000000000000000:=fun k hk=>by cases hok with | mk _ h2=>cases h2 k hk with | mk h3 _=>exact h3
      by_cases h8:g.kids.length=2
      · obtain⟨k,j,hk⟩:∃ k j,g.kids=[k,j]:=by
          match hq:g.kids,h8 with
          | [k,j],_=>exact⟨k,j,rfl⟩
        have hkm:k∈g.kids:=by rw[hk];simp
        have hjm:j∈g.kids:=by rw[hk];simp
        have gk:g.kids.getD 0 default=k:=by rw[hk];rfl
        have gj:g.kids.getD 1 default=j:=by rw[hk];rfl
        have ea:g.kids.all numB=(numB k && numB j):=by rw[hk];simp
        have nk:=rnumber_spec k (ok2 k hkm) (by have:=gsz_kid hkm;have:=gsz_len k;omega)
        have nj:=rnumber_spec j (ok2 j hjm) (by have:=gsz_kid hjm;have:=gsz_len j;omega)
        rw[ea]
        have pk:=pure_encG k
        have pj:=pure_encG j
        rw[encG_eq] at nk nj pk pj
        rcases(by omega:g.op.1=5∨g.op.1=6∨g.op.1=7) with q | q | q
        all_goals
          simp -implicitDefEqProofs (disch:=omega) only[Wz,seval,encG_eq,hsE,hE,bools,gk]
          refine CallK_pure call118 nk (allc (.agg pk) alln) (.lit _) ?_
          cases numB k with
          | false =>
            simp -implicitDefEqProofs (disch:=omega) only[Wz,seval,bools]
            exact fin _ _
          | true =>
            simp -implicitDefEqProofs (disch:=omega) only[Wz,seval,encG_eq,bools,gj]
            refine CallK_pure call118 nj (allc (.agg pj) alln) (.lit _) ?_
            cases numB j
            all_goals
              simp -implicitDefEqProofs (disch:=omega) only[Wz,seval,bools]
              exact fin _ _
      · rcases(by omega:g.op.1=5∨g.op.1=6∨g.op.1=7) with q | q | q
        all_goals
          simp -implicitDefEqProofs (disch:=omega) only[Wz,seval,encG_eq,hsE,hE,bools]
          exact fin _ _
    · simp -implicitDefEqProofs (disch:=omega) only[Wz,seval,encG_eq,hsE,hE,bools]
      exact fin _ _
theorem rgCheck_spec(g:Gd)(h:gsz g≤2000000000)(hok:GdOk g):PCall Pg 95 [.agg (encG g)] (.lit (.int .i64 (if ckG g then 0 else 40))):=by
 refine PCall_intro Tryz.func95 rfl Tryz.ntmps95 (rs:=[.tmp 2]) rfl (by simp) ?_
 have hs:=rSize_spec (gsz g) g (Nat.le_refl _) h
 have hc:=rcond_spec (gsz g) g (Nat.le_refl _) h hok
 rw[encG_eq] at hs hc
 have pg:=pure_encG g
 rw[encG_eq] at pg
 have fin:∀ h (b:Int),Expo h (.lit (.int .i64 b)) (.lit (.int .i64 b)):=fun h b=>expo_pure (.lit _)
 unfold ckG
 simp -implicitDefEqProofs (disch:=omega) only[Wz,seval,encG_eq]
 refine CallK_pure call107 hs (allc (.agg pg) alln) (.lit _) ?_
 by_cases h1:sizeG g≤64
 ·simp -implicitDefEqProofs (disch:=omega) only[Wz,seval]
  refine CallK_pure call108 hc (allc (.agg pg) alln) (.lit _) ?_
  cases condG g
  all_goals
   simp -implicitDefEqProofs (disch:=omega) only[Wz,seval,Bool.true_and,Bool.false_eq_true]
   exact fin _ _
 ·simp -implicitDefEqProofs (disch:=omega) only[Wz,seval,Bool.false_and,Bool.false_eq_true]
  exact fin _ _
def plB (p:Pl):List AV:=[.lit (.int .i64 p.index),.lit (.int .i64 p.column),.lit (.int .i64 p.la),.lit (.int .i64 p.mode)]
theorem rsays_spec(p:Pl)(o:List Orc)(ho:o.length≤2000000000):∀ (m:Nat) (g:Gd),gsz g≤m→m≤2000000000→condG g=true→PCall Pg 125 [.agg (encG g),.agg (encPl p),.vec (o.map encO) false] (.lit (.bool (saysG p o g)))
 | 0,g,h,_,_=>by have:=gsz_pos g;omega
 | m+1,g,h,hm,hok=>by
  have hl:=gsz_len g
  have po:Ab.Pure (.vec (o.map encO) false):=.vec (pure_rows pure_encO _)
  have ih:∀ k∈g.kids,condG k=true→PCall Pg 125 [.agg (encG k),.agg (encPl p),.vec (o.map encO) false] (.lit (.bool (saysG p o k))):=fun k hk hc=>rsays_spec p o ho m k (by have:=gsz_kid hk;omega) (by omega) hc
  have pk:∀ k,∀ v∈[AV.agg (encG k),.agg (encPl p),.vec (o.map encO) false],Ab.Pure v:=fun k=>allc (.agg (pure_encG k)) (allc (.agg (pure_encPl p)) (allc po alln))
  refine PCall_intro Tryz.func125 rfl Tryz.ntmps125 (rs:=[.tmp 6]) rfl (by simp) ?_
  obtain⟨c1,c2,c3⟩:=condG_facts hok
  rw[saysG_eq]
  have fin:∀ h (b:Bool),Expo h (.lit (.bool b)) (.lit (.bool b)):=fun h b=>expo_pure (.lit _)
  by_cases h0:g.op.1=0
  ·simp -implicitDefEqProofs (disch:=omega) only[Wz,seval,encG_eq,encPl]
   exact fin _ _
  by_cases h1:g.op.1=1
  ·simp -implicitDefEqProofs (disch:=omega) only[Wz,seval,encG_eq,encPl]
   exact fin _ _
  by_cases h8:g.op.1=8
  ·simp -implicitDefEqProofs (disch:=omega) only[Wz,seval,encG_eq,encPl]
   refine CallK_pure call131 (roracle_spec o g.n p.index ho) (allc (.lit _) (allc (.lit _) (allc po alln))) (.lit _) ?_
   simp -implicitDefEqProofs (disch:=omega) only[Wz,seval]
   exact fin _ _
  by_cases h2:g.op.1=2
  ·have l1:=c1 h2
   have ck:=c2 (by omega) (by omega)
   obtain⟨k,hk⟩:∃ k,g.kids=[k]:=by
    match hq:g.kids,l1 with
    | [k],_=>exact⟨k,rfl⟩
   have hkm:k∈g.kids:=by rw[hk];simp
   have gk:g.kids.getD 0 default=k:=by rw[hk];rfl
   have ea:g.kids.all (saysG p o)=saysG p o k:=by rw[hk];simp
   rw[ea]
   simp -implicitDefEqProofs (disch:=omega) only[Wz,seval,encG_eq,encPl,gk]
   refine aw_drawQ (n:=120) 7 (.alt 7 (.alt 8 .leaf .nil) .nil) rfl (by decide) (by decide) mixed (by kernel_rfl) (by decide) ?_
   simp -implicitDefEqProofs (disch:=omega) only[Wz,seval,gk]
   refine CallQ_pure call125 (ih k hkm (ck k hkm)) (pk k) (.lit _) ?_
   simp -implicitDefEqProofs (disch:=omega) only[Wz,seval]
   exact fin _ _
  by_cases h3:g.op.1=3
  ·have ck:=c2 (by omega) (by omega)
   obtain⟨v,hv⟩:∃ v,g.kids.all (saysG p o)=v:=⟨_,rfl⟩
   simp -implicitDefEqProofs (disch:=omega) only[Wz,seval,encG_eq,encPl,hv]
   refine aw_measA (fun i:Nat=>⟨[(7,.lit (.int .i64 (i:Int))),(2,.vec (o.map encO) false),(3,.ptr 0 0),(4,.ptr 1 0)],⟨[(0,gdB g),(1,plB p)],[],2⟩,120⟩) (fun i=>i≤g.kids.length∧((g.kids.drop i).all (saysG p o)=v)) (fun i=>g.kids.length - i) 0 (wk_lk (by simp[lk]) (fun _ _ q=>q) (fun _ _ q=>q) rfl rfl) ⟨Nat.zero_le _,by rw[List.drop_zero];exact hv⟩ ?_
   rintro i ⟨hi,hiv⟩
   refine aw_of ?_
   rcases Nat.lt_or_ge i g.kids.length with hlt | hge
   ·have hkm:=getD_mem (l:=g.kids) hlt
    obtain⟨x,hx⟩:∃ x,g.kids.getD i default=x:=⟨_,rfl⟩
    rw[drop_getD hlt,List.all_cons,hx] at hiv
    rw[hx] at hkm
    simp -implicitDefEqProofs (disch:=omega) only[Wz,seval,gdB,plB,hx]
    refine aw_drawQ (n:=120) 7 (.alt 7 (.alt 8 .leaf .nil) .nil) rfl (by decide) (by decide) mixed (by kernel_rfl) (by decide) ?_
    simp -implicitDefEqProofs (disch:=omega) only[Wz,seval,gdB,plB,hx]
    refine CallK_pure call125 (ih x hkm (ck x hkm)) (pk x) (.lit _) ?_
    cases hc:saysG p o x with
    | true =>
     have hiv:(g.kids.drop (i+1)).all (saysG p o)=v:=by rw[← hiv,hc];rfl
     simp -implicitDefEqProofs (disch:=omega) only[Wz,seval]
     exact⟨i+1,⟨by omega,hiv⟩,by omega,wk_lk (by simp[lk]) (fun _ _ q=>q) (fun _ _ q=>q) rfl rfl⟩
    | false =>
     have hiv:false=v:=by rw[← hiv,hc];rfl
     subst hiv
     simp -implicitDefEqProofs (disch:=omega) only[Wz,seval]
     exact fin _ _
   ·have e:i=g.kids.length:=by omega
    subst e
    rw[List.drop_length] at hiv
    have hiv:true=v:=hiv
    subst hiv
    simp -implicitDefEqProofs (disch:=omega) only[Wz,seval,gdB,plB]
    exact fin _ _
  by_cases h4:g.op.1=4
  ·have ck:=c2 (by omega) (by omega)
   obtain⟨v,hv⟩:∃ v,g.kids.any (saysG p o)=v:=⟨_,rfl⟩
   simp -implicitDefEqProofs (disch:=omega) only[Wz,seval,encG_eq,encPl,hv]
   refine aw_measA (fun i:Nat=>⟨[(8,.lit (.int .i64 (i:Int))),(2,.vec (o.map encO) false),(3,.ptr 0 0),(4,.ptr 1 0)],⟨[(0,gdB g),(1,plB p)],[],2⟩,120⟩) (fun i=>i≤g.kids.length∧((g.kids.drop i).any (saysG p o)=v)) (fun i=>g.kids.length - i) 0 (wk_lk (by simp[lk]) (fun _ _ q=>q) (fun _ _ q=>q) rfl rfl) ⟨Nat.zero_le _,by rw[List.drop_zero];exact hv⟩ ?_
   rintro i ⟨hi,hiv⟩
   refine aw_of ?_
   rcases Nat.lt_or_ge i g.kids.length with hlt | hge
   ·have hkm:=getD_mem (l:=g.kids) hlt
    obtain⟨x,hx⟩:∃ x,g.kids.getD i default=x:=⟨_,rfl⟩
    rw[drop_getD hlt,List.any_cons,hx] at hiv
    rw[hx] at hkm
    simp -implicitDefEqProofs (disch:=omega) only[Wz,seval,gdB,plB,hx]
    refine aw_drawQ (n:=120) 7 (.alt 7 .leaf .nil) rfl (by decide) (by decide) mixed (by kernel_rfl) (by decide) ?_
    simp -implicitDefEqProofs (disch:=omega) only[Wz,seval,gdB,plB,hx]
    refine CallK_pure call125 (ih x hkm (ck x hkm)) (pk x) (.lit _) ?_
    cases hc:saysG p o x with
    | false =>
     have hiv:(g.kids.drop (i+1)).any (saysG p o)=v:=by rw[← hiv,hc];rfl
     simp -implicitDefEqProofs (disch:=omega) only[Wz,seval]
     exact⟨i+1,⟨by omega,hiv⟩,by omega,wk_lk (by simp[lk]) (fun _ _ q=>q) (fun _ _ q=>q) rfl rfl⟩
    | true =>
     have hiv:true=v:=by rw[← hiv,hc];rfl
     subst hiv
     simp -implicitDefEqProofs (disch:=omega) only[Wz,seval]
     exact fin _ _
   ·have e:i=g.kids.length:=by omega
    subst e
    rw[List.drop_length] at hiv
    have hiv:false=v:=hiv
    subst hiv
    simp -implicitDefEqProofs (disch:=omega) only[Wz,seval,gdB,plB]
    exact fin _ _
  obtain⟨c4,c5⟩:=c3 h0 h1 h8 h2 h3 h4
  obtain⟨k,j,hk⟩:∃ k j,g.kids=[k,j]:=by
   match hq:g.kids,c5 with
   | [k,j],_=>exact⟨k,j,rfl⟩
  have gk:g.kids.getD 0 default=k:=by rw[hk];rfl
  have gj:g.kids.getD 1 default=j:=by rw[hk];rfl
  rw[gk,gj]
  obtain⟨x,hx⟩:∃ x,numV k p=x:=⟨_,rfl⟩
  obtain⟨y,hy⟩:∃ y,numV j p=y:=⟨_,rfl⟩
  have nk:=rNumber_spec k p
  have nj:=rNumber_spec j p
  rw[hx] at nk
  rw[hy] at nj
  rw[hx,hy]
  unfold cmpV
  rcases(by omega:g.op.1=5∨g.op.1=6∨g.op.1=7) with h | h | h
  all_goals
   simp -implicitDefEqProofs (disch:=omega) only[Wz,seval,encG_eq,encPl,gk,gj]
   refine aw_drawC (n:=120) (σ':=⟨[(9,.lit (.int .i64 x)),(3,.ptr 0 0),(4,.ptr 1 0)],⟨[(0,gdB g),(1,plB p)],[],2⟩,120⟩) 2 6 (.alt 6 (.alt 7 (.alt 8 (.alt 9 (.alt 10 .leaf .nil) .nil) (.alt 9 (.alt 8 (.alt 10 .leaf .nil) .nil) .nil)) (.alt 8 (.alt 7 (.alt 9 (.alt 10 .leaf .nil) .nil) .nil) .nil)) .nil) rfl (by decide) (by decide) mixed (by kernel_rfl) (by decide) ?_ ?_
   ·simp -implicitDefEqProofs (disch:=omega) only[Wz,seval,gk,gj]
    refine CallQ_pure call132 nk (allc (.agg (pure_encG k)) (allc (.agg (pure_encPl p)) alln)) (.tup (allc (.lit _) (allc (.lit _) alln))) ?_
    simp -implicitDefEqProofs (disch:=omega) only[Wz,seval]
    exact⟨⟨St.wk.cp (St.wk_slots1 (by simp[lk]) (by simp[lk,gdB,plB]) (fun t=>rfl)),St.wk.cp (St.wk_slots1 (by simp[lk]) (by simp[lk,gdB,plB]) (fun t=>rfl))⟩,St.wk.cp (St.wk_slots1 (by simp[lk]) (by simp[lk,gdB,plB]) (fun t=>rfl))⟩
   simp -implicitDefEqProofs (disch:=omega) only[Wz,seval,gdB,plB]
   refine aw_drawC (n:=120) (σ':=⟨[(11,.lit (.int .i64 y)),(9,.lit (.int .i64 x)),(3,.ptr 0 0)],⟨[(0,gdB g)],[],2⟩,120⟩) 2 6 (.alt 6 (.alt 7 (.alt 8 (.alt 9 (.alt 10 .leaf .nil) .nil) (.alt 9 (.alt 8 (.alt 10 .leaf .nil) .nil) .nil)) (.alt 8 (.alt 7 (.alt 9 (.alt 10 .leaf .nil) .nil) .nil) .nil)) .nil) rfl (by decide) (by decide) mixed (by kernel_rfl) (by decide) ?_ ?_
   ·simp -implicitDefEqProofs (disch:=omega) only[Wz,seval,gk,gj]
    refine CallQ_pure call132 nj (allc (.agg (pure_encG j)) (allc (.agg (pure_encPl p)) alln)) (.tup (allc (.lit _) (allc (.lit _) alln))) ?_
    simp -implicitDefEqProofs (disch:=omega) only[Wz,seval]
    exact⟨⟨St.wk.cp (St.wk_slots1 (by simp[lk]) (by simp[lk,gdB]) (fun t=>rfl)),St.wk.cp (St.wk_slots1 (by simp[lk]) (by simp[lk,gdB]) (fun t=>rfl))⟩,St.wk.cp (St.wk_slots1 (by simp[lk]) (by simp[lk,gdB]) (fun t=>rfl))⟩
   simp -implicitDefEqProofs (disch:=omega) only[Wz,seval,gdB]
  ·by_cases hxy:x<y
   all_goals
    simp -implicitDefEqProofs (disch:=omega) only[Wz,seval]
    exact fin _ _
  ·by_cases hxy:x≤y
   all_goals
    simp -implicitDefEqProofs (disch:=omega) only[Wz,seval]
    exact fin _ _
  ·by_cases hxy:x=y
   all_goals
    simp -implicitDefEqProofs (disch:=omega) only[Wz,seval]
    exact fin _ _
theorem rHolds_spec(g:Gd)(p:Pl)(o:List Orc)(h:gsz g≤2000000000)(hok:GdOk g)(ho:o.length≤2000000000):PCall Pg 112 [.agg (encG g),.agg (encPl p),.vec (o.map encO) false] (.lit (.bool (ckG g && saysG p o g))):=by
 refine PCall_intro Tryz.func112 rfl Tryz.ntmps112 (rs:=[.tmp 6]) rfl (by simp) ?_
 have fin:∀ h (b:Bool),Expo h (.lit (.bool b)) (.lit (.bool b)):=fun h b=>expo_pure (.lit _)
 have hc:=rgCheck_spec g h hok
 have hs:=fun q=>rsays_spec p o ho (gsz g) g (Nat.le_refl _) h q
 have pg:=pure_encG g
 rw[encG_eq] at hc hs pg
 simp -implicitDefEqProofs (disch:=omega) only[Wz,seval,encG_eq,encPl]
 unfold encPl at hs
 refine CallK_pure call95 hc (allc (.agg pg) alln) (.lit _) ?_
 cases hk:ckG g with
 | false =>
  simp -implicitDefEqProofs (disch:=omega) only[Wz,seval,Bool.false_and,Bool.false_eq_true]
  exact fin _ _
 | true =>
  have hcd:condG g=true:=by unfold ckG at hk;simp only[Bool.and_eq_true] at hk;exact hk.2
  simp -implicitDefEqProofs (disch:=omega) only[Wz,seval,Bool.true_and]
  refine CallK_pure call125 (hs hcd) (allc (.agg pg) (allc (.agg (pure_encPl p)) (allc (.vec (pure_rows pure_encO _)) alln))) (.lit _) ?_
  simp -implicitDefEqProofs (disch:=omega) only[Wz,seval]
  exact fin _ _
theorem rHas_spec(s:List (Int × Int))(x:Int)(h:s.length≤2000000000):PCall Pg 100 [.vec (s.map encR) false,.lit (.int .i32 x)] (.lit (.bool (hasV s x))):=by
 refine PCall_intro Tryz.func100 rfl Tryz.ntmps100 (rs:=[.tmp 4]) rfl (by simp) ?_
 have fin:∀ h (b:Bool),Expo h (.lit (.bool b)) (.lit (.bool b)):=fun h b=>expo_pure (.lit _)
 obtain⟨v,hv⟩:∃ v,hasV s x=v:=⟨_,rfl⟩
 rw[hv]
 simp -implicitDefEqProofs (disch:=omega) only[Wz,seval]
 refine aw_measA (fun i:Nat=>⟨[(5,.lit (.int .i64 (i:Int))),(0,.vec (s.map encR) false),(1,.lit (.int .i32 x))],.none,28⟩) (fun i=>i≤s.length∧(hasV (s.drop i) x=v)) (fun i=>s.length - i) 0 (wk_lk (by simp[lk]) (fun _ _ q=>q) (fun _ _ q=>q) rfl rfl) ⟨Nat.zero_le _,by rw[List.drop_zero];exact hv⟩ ?_
 rintro i ⟨hi,hiv⟩
 refine aw_of ?_
 rcases Nat.lt_or_ge i s.length with hlt | hge
 ·obtain⟨r,hr⟩:∃ r,s.getD i default=r:=⟨_,rfl⟩
  unfold hasV at hiv
  rw[drop_getD hlt,List.any_cons,hr] at hiv
  unfold hasR at hiv
  by_cases h1:r.1≤x
  ·by_cases h2:x≤r.2
   ·have hiv:true=v:=by rw[← hiv,decide_eq_true (⟨h1,h2⟩:r.1≤x∧x≤r.2)];rfl
    subst hiv
    simp -implicitDefEqProofs (disch:=omega) only[Wz,seval,hr,encR]
    exact fin _ _
   ·have hiv:hasV (s.drop (i+1)) x=v:=by rw[← hiv,decide_eq_false (fun q:r.1≤x∧x≤r.2=>h2 q.2)];rfl
    simp -implicitDefEqProofs (disch:=omega) only[Wz,seval,hr,encR]
    exact⟨i+1,⟨by omega,hiv⟩,by omega,wk_lk (by simp[lk]) (fun _ _ q=>q) (fun _ _ q=>q) rfl rfl⟩
  ·have hiv:hasV (s.drop (i+1)) x=v:=by rw[← hiv,decide_eq_false (fun q:r.1≤x∧x≤r.2=>h1 q.1)];rfl
   simp -implicitDefEqProofs (disch:=omega) only[Wz,seval,hr,encR]
   exact⟨i+1,⟨by omega,hiv⟩,by omega,wk_lk (by simp[lk]) (fun _ _ q=>q) (fun _ _ q=>q) rfl rfl⟩
 ·have e:i=s.length:=by omega
  subst e
  rw[List.drop_length] at hiv
  have hiv:false=v:=hiv
  subst hiv
  simp -implicitDefEqProofs (disch:=omega) only[Wz,seval]
  exact fin _ _
theorem rsCheck_spec(s:List (Int × Int))(h:s.length≤2000000000)(hs:SetOk s):PCall Pg 93 [.vec (s.map encR) false] (.lit (.int .i64 (if chkS s then 0 else 2))):=by
 refine PCall_intro Tryz.func93 rfl Tryz.ntmps93 (rs:=[.tmp 2]) rfl (by simp) ?_
 have fin:∀ h (b:Int),Expo h (.lit (.int .i64 b)) (.lit (.int .i64 b)):=fun h b=>expo_pure (.lit _)
 simp -implicitDefEqProofs (disch:=omega) only[Wz,seval]
 refine aw_measA (fun i:Nat=>⟨[(3,.lit (.int .i64 (i:Int))),(0,.vec (s.map encR) false)],.none,42⟩) (fun i=>i≤s.length∧(∀ j,j<i→chkR s j=true)) (fun i=>s.length - i) 0 (wk_lk (by simp[lk]) (fun _ _ q=>q) (fun _ _ q=>q) rfl rfl) ⟨Nat.zero_le _,fun j q=>absurd q (Nat.not_lt_zero _)⟩ ?_
 rintro i ⟨hi,hiv⟩
 refine aw_of ?_
 rcases Nat.lt_or_ge i s.length with hlt | hge
 ·have hr:=hs _ (getD_mem (l:=s) hlt)
  have hq:=hs (s.getD (i - 1) default) (getD_mem (l:=s) (by omega))
  have key:chkR s i=decide ((s.getD i default).1≤(s.getD i default).2∧(i=0∨(s.getD (i - 1) default).2+1<(s.getD i default).1)):=rfl
  obtain⟨r,ei⟩:∃ r,s.getD i default=r:=⟨_,rfl⟩
  obtain⟨q,ep⟩:∃ q,s.getD (i - 1) default=q:=⟨_,rfl⟩
  rw[ei] at hr key
  rw[ep] at hq key
  have c1:IntKind.i64.wrap r.1=r.1:=i64w (by omega) (by omega)
  have c2:IntKind.i64.wrap q.2=q.2:=i64w (by omega) (by omega)
  have c3:IntKind.i64.wrap (q.2+2)=q.2+2:=i64w (by omega) (by omega)
  simp -implicitDefEqProofs (disch:=omega) only[Wz,seval]
  refine aw_quietN (n:=42) rfl (by decide) mixed ?_
  by_cases h1:r.1≤r.2
  ·by_cases h2:i=0
   ·have hn:=lt_step hiv (by rw[key];exact decide_eq_true ⟨h1,.inl h2⟩)
    simp -implicitDefEqProofs (disch:=omega) only[Wz,seval,ei,ep,encR,c1,c2,c3]
    exact⟨i+1,⟨by omega,hn⟩,by omega,wk_lk (by simp[lk]) (fun _ _ q=>q) (fun _ _ q=>q) rfl rfl⟩
   ·have i1:((i:Int) - 1).toNat=i - 1:=by omega
    have i2:IntKind.i64.wrap ((i:Int) - 1)=(i:Int) - 1:=i64w (by omega) (by omega)
    by_cases h3:q.2+1<r.1
    ·have hn:=lt_step hiv (by rw[key];exact decide_eq_true ⟨h1,.inr h3⟩)
     simp -implicitDefEqProofs (disch:=omega) only[Wz,seval,ei,ep,encR,c1,c2,c3,i1,i2]
     exact⟨i+1,⟨by omega,hn⟩,by omega,wk_lk (by simp[lk]) (fun _ _ q=>q) (fun _ _ q=>q) rfl rfl⟩
    ·have hn:chkS s=false:=all_not hlt (by rw[key];exact decide_eq_false fun x=>by rcases x.2 with x | x <;> omega)
     simp -implicitDefEqProofs (disch:=omega) only[Wz,seval,ei,ep,encR,c1,c2,c3,i1,i2,hn,Bool.false_eq_true]
     exact fin _ _
  ·have hn:chkS s=false:=all_not hlt (by rw[key];exact decide_eq_false fun x=>h1 x.1)
   simp -implicitDefEqProofs (disch:=omega) only[Wz,seval,ei,ep,encR,c1,c2,c3,hn,Bool.false_eq_true]
   exact fin _ _
 ·have e:i=s.length:=by omega
  subst e
  have hn:chkS s=true:=all_range hiv
  simp -implicitDefEqProofs (disch:=omega) only[Wz,seval,hn]
  exact fin _ _
theorem rzero_spec(g:Gd)(h:g.kids.length≤2000000000):PCall Pg 94 [.agg (encG g)] (.lit (.bool (noG g))):=by
 refine PCall_intro Tryz.func94 rfl Tryz.ntmps94 (rs:=[.tmp 2]) rfl (by simp) ?_
 have fin:∀ h (b:Bool),Expo h (.lit (.bool b)) (.lit (.bool b)):=fun h b=>expo_pure (.lit _)
 have hsE:=bytes_eq g.name ⟨#[]⟩
 unfold noG
 by_cases h1:g.op.1=0
 ·by_cases h2:g.n=0
  ·cases h3:decide (g.name=⟨#[]⟩) with
   | true =>
    by_cases h4:g.kids.length=0
    all_goals
     simp -implicitDefEqProofs (disch:=omega) only[Wz,seval,encG_eq,hsE,h3,Bool.true_and]
     exact fin _ _
   | false =>
    simp -implicitDefEqProofs (disch:=omega) only[Wz,seval,encG_eq,hsE,h3,Bool.true_and,Bool.false_and]
    exact fin _ _
  ·simp -implicitDefEqProofs (disch:=omega) only[Wz,seval,encG_eq,hsE,Bool.true_and,Bool.false_and]
   exact fin _ _
 ·simp -implicitDefEqProofs (disch:=omega) only[Wz,seval,encG_eq,hsE,Bool.true_and,Bool.false_and]
  exact fin _ _
theorem rnamed_spec(op:Int):∀ (m:Nat) (g:Gd),gsz g≤m→m≤2000000000→PCall Pg 96 [.agg (encG g),.lit (.int .i8 op)] (.lit (.bool (holdsV op g)))
 | 0,g,h,_=>by have:=gsz_pos g;omega
 | m+1,g,h,hm=>by
  have hl:=gsz_len g
  refine PCall_intro Tryz.func96 rfl Tryz.ntmps96 (rs:=[.tmp 4]) rfl (by simp) ?_
  have fin:∀ h (b:Bool),Expo h (.lit (.bool b)) (.lit (.bool b)):=fun h b=>expo_pure (.lit _)
  rw[holdsV_eq]
  by_cases h1:g.op.1=op
  ·have e1:(g.op.1==op)=true:=beqT h1
   simp -implicitDefEqProofs (disch:=omega) only[Wz,seval,encG_eq,e1,Bool.true_or]
   exact fin _ _
  ·have e1:(g.op.1==op)=false:=beqF h1
   obtain⟨v,hv⟩:∃ v,g.kids.any (holdsV op)=v:=⟨_,rfl⟩
   simp -implicitDefEqProofs (disch:=omega) only[Wz,seval,encG_eq,e1,hv,Bool.false_or]
   refine aw_measA (fun i:Nat=>⟨[(5,.lit (.int .i64 (i:Int))),(1,.lit (.int .i8 op)),(2,.ptr 0 0)],⟨[(0,gdB g)],[],1⟩,24⟩) (fun i=>i≤g.kids.length∧((g.kids.drop i).any (holdsV op)=v)) (fun i=>g.kids.length - i) 0 (wk_lk (by simp[lk]) (fun _ _ q=>q) (fun _ _ q=>q) rfl rfl) ⟨Nat.zero_le _,by rw[List.drop_zero];exact hv⟩ ?_
   rintro i ⟨hi,hiv⟩
   refine aw_of ?_
   rcases Nat.lt_or_ge i g.kids.length with hlt | hge
   ·have hkm:=getD_mem (l:=g.kids) hlt
    obtain⟨x,hx⟩:∃ x,g.kids.getD i default=x:=⟨_,rfl⟩
    rw[drop_getD hlt,List.any_cons,hx] at hiv
    rw[hx] at hkm
    have ih:=rnamed_spec op m x (by have:=gsz_kid hkm;omega) (by omega)
    simp -implicitDefEqProofs (disch:=omega) only[Wz,seval,gdB,hx]
    refine CallK_pure call96 ih (allc (.agg (pure_encG _)) (allc (.lit _) alln)) (.lit _) ?_
    cases hc:holdsV op x with
    | true =>
     have hiv:true=v:=by rw[← hiv,hc];rfl
     subst hiv
     simp -implicitDefEqProofs (disch:=omega) only[Wz,seval]
     exact fin _ _
    | false =>
     have hiv:(g.kids.drop (i+1)).any (holdsV op)=v:=by rw[← hiv,hc];rfl
     simp -implicitDefEqProofs (disch:=omega) only[Wz,seval]
     exact⟨i+1,⟨by omega,hiv⟩,by omega,wk_lk (by simp[lk]) (fun _ _ q=>q) (fun _ _ q=>q) rfl rfl⟩
   ·have e:i=g.kids.length:=by omega
    subst e
    rw[List.drop_length] at hiv
    have hiv:false=v:=hiv
    subst hiv
    simp -implicitDefEqProofs (disch:=omega) only[Wz,seval,gdB]
    exact fin _ _
theorem ract_spec(n:Nt)(a:Int × Int)(h1:n.types.length≤2000000000)(h2:n.channels.length≤2000000000)(h3:n.modes.length≤2000000000):PCall Pg 97 [.agg (encN n),.agg (encAct a)] (.lit (.bool (actV n a))):=by
 refine PCall_intro Tryz.func97 rfl Tryz.ntmps97 (rs:=[.tmp 4]) rfl (by simp) ?_
 have fin:∀ h (b:Bool),Expo h (.lit (.bool b)) (.lit (.bool b)):=fun h b=>expo_pure (.lit _)
 unfold actV
 by_cases k2:a.1=2
 ·by_cases q1:1≤a.2
  ·by_cases q2:a.2≤(n.types.length:Int)
   all_goals
    simp -implicitDefEqProofs (disch:=omega) only[Wz,seval,encN,encAct]
    exact fin _ _
  ·simp -implicitDefEqProofs (disch:=omega) only[Wz,seval,encN,encAct]
   exact fin _ _
 by_cases k3:a.1=3
 ·by_cases q1:0≤a.2
  ·by_cases q2:a.2<(n.channels.length:Int)
   all_goals
    simp -implicitDefEqProofs (disch:=omega) only[Wz,seval,encN,encAct]
    exact fin _ _
  ·simp -implicitDefEqProofs (disch:=omega) only[Wz,seval,encN,encAct]
   exact fin _ _
 by_cases k4:a.1=4
 ·by_cases q1:0≤a.2
  ·by_cases q2:a.2<(n.modes.length:Int)
   all_goals
    simp -implicitDefEqProofs (disch:=omega) only[Wz,seval,encN,encAct]
    exact fin _ _
  ·simp -implicitDefEqProofs (disch:=omega) only[Wz,seval,encN,encAct]
   exact fin _ _
 by_cases k5:a.1=5
 ·by_cases q1:0≤a.2
  ·by_cases q2:a.2<(n.modes.length:Int)
   all_goals
    simp -implicitDefEqProofs (disch:=omega) only[Wz,seval,encN,encAct]
    exact fin _ _
  ·simp -implicitDefEqProofs (disch:=omega) only[Wz,seval,encN,encAct]
   exact fin _ _
 by_cases k0:a.1=0
 ·by_cases q1:a.2=0
  all_goals
   simp -implicitDefEqProofs (disch:=omega) only[Wz,seval,encN,encAct]
   exact fin _ _
 by_cases k1:a.1=1
 ·by_cases q1:a.2=0
  all_goals
   simp -implicitDefEqProofs (disch:=omega) only[Wz,seval,encN,encAct]
   exact fin _ _
 by_cases k6:a.1=6
 ·by_cases q1:a.2=0
  all_goals
   simp -implicitDefEqProofs (disch:=omega) only[Wz,seval,encN,encAct]
   exact fin _ _
 simp -implicitDefEqProofs (disch:=omega) only[Wz,seval,encN,encAct]
 exact fin _ _
theorem rof_spec(n:Nt)(s r:Int)(h:n.states.length≤2000000000):PCall Pg 68 [.agg (encN n),.lit (.int .i64 s),.lit (.int .i64 r)] (.lit (.bool (ofN n s r))):=by
 refine PCall_intro Tryz.func68 rfl Tryz.ntmps68 (rs:=[.tmp 6]) rfl (by simp) ?_
 have fin:∀ h (b:Bool),Expo h (.lit (.bool b)) (.lit (.bool b)):=fun h b=>expo_pure (.lit _)
 unfold ofN
 by_cases h1:0≤s
 ·by_cases h2:s<(n.states.length:Int)
  ·obtain⟨sn,rfl⟩:∃ sn:Nat,s=(sn:Int):=⟨s.toNat,by omega⟩
   have hlt:sn<n.states.length:=by omega
   obtain⟨x,hx⟩:∃ x,n.states.getD sn default=x:=⟨_,rfl⟩
   have e0:decide ((sn:Int)<n.states.length)=true:=decide_eq_true h2
   simp -implicitDefEqProofs (disch:=omega) only[Wz,seval,encN,encSt,hx,e0,Bool.true_and]
   exact fin _ _
  ·simp -implicitDefEqProofs (disch:=omega) only[Wz,seval,encN,Bool.true_and,Bool.false_and]
   exact fin _ _
 ·simp -implicitDefEqProofs (disch:=omega) only[Wz,seval,encN,Bool.true_and,Bool.false_and]
  exact fin _ _
def nmOk (l:List ByteArray)(f:Bool)(j:Nat):Bool:=if f=true∧j=0 then decide (l.getD 0 default=⟨#[]⟩) else unOk l j
def namesV(l:List ByteArray)(f:Bool):Bool:=(List.range l.length).all (nmOk l f)
theorem size_ne{s:ByteArray}:s.size≠0↔s≠⟨#[]⟩:=by
 have h:=@empty_toList s
 rw[bytes_eq] at h
 constructor
 ·intro q e;rw[decide_eq_true e] at h;exact q (of_decide_eq_true h.symm)
 ·intro q e;rw[decide_eq_false q] at h;exact of_decide_eq_false h.symm e
theorem rnames_spec(l:List ByteArray)(fl f:Bool)(h:l.length≤2000000000)(hs:∀ s∈l,s.size≤9000000000000000000):PCall Pg 67 [.vec (l.map encB) fl,.lit (.bool f)] (.lit (.bool (namesV l f))):=by
 refine PCall_intro Tryz.func67 rfl Tryz.ntmps67 (rs:=[.tmp 4]) rfl (by simp) ?_
 have fin:∀ h (b:Bool),Expo h (.lit (.bool b)) (.lit (.bool b)):=fun h b=>expo_pure (.lit _)
 simp -implicitDefEqProofs (disch:=omega) only[Wz,seval]
 refine aw_measA (fun i:Nat=>⟨[(5,.lit (.int .i64 (i:Int))),(0,.vec (l.map encB) fl),(1,.lit (.bool f))],.none,50⟩) (fun i=>i≤l.length∧(∀ j,j<i→nmOk l f j=true)) (fun i=>l.length - i) 0 (wk_lk (by simp[lk]) (fun _ _ q=>q) (fun _ _ q=>q) rfl rfl) ⟨Nat.zero_le _,fun j q=>absurd q (Nat.not_lt_zero _)⟩ ?_
 rintro i ⟨hi,hiv⟩
 refine aw_of ?_
 rcases Nat.lt_or_ge i l.length with hlt | hge
 ·have bad:nmOk l f i=false→namesV l f=false:=fun q=>all_not hlt q
  by_cases h0:f=true∧i=0
  ·obtain⟨rfl,rfl⟩:=h0
   have key:nmOk l true 0=decide (l.getD 0 default=⟨#[]⟩):=rfl
   cases hd:decide (l.getD 0 default=⟨#[]⟩) with
   | true =>
    have hn:=lt_step hiv (key.trans hd)
    simp -implicitDefEqProofs (disch:=omega) only[Wz,seval,encB,bytes_eq,hd]
    exact⟨1,⟨by omega,hn⟩,by omega,wk_lk (by simp[lk]) (fun _ _ q=>q) (fun _ _ q=>q) rfl rfl⟩
   | false =>
    simp -implicitDefEqProofs (disch:=omega) only[Wz,seval,encB,bytes_eq,hd,bad (key.trans hd)]
    exact fin _ _
  ·have key:nmOk l f i=unOk l i:=if_neg h0
   have hsz:=hs _ (getD_mem (l:=l) hlt)
   have k2:unOk l i=(decide (l.getD i default≠⟨#[]⟩) && (decide ((l.getD i default).size≤40) && !decide (l.getD i default∈l.take i))):=rfl
   obtain⟨x,hx⟩:∃ x,l.getD i default=x:=⟨_,rfl⟩
   rw[hx] at hsz k2
   cases f with
   | false =>
    try have hi0:i≠0:=fun q=>h0 ⟨rfl,q⟩
    by_cases h1:x.size<1
    ·have hn:x=⟨#[]⟩:=by
      by_cases q:x=⟨#[]⟩
      ·exact q
      ·have:=size_ne.2 q;omega
     have hb:=bad (key.trans (by rw[k2,decide_eq_false (fun q=>q hn)];rfl))
     simp -implicitDefEqProofs (disch:=omega) only[Wz,seval,encB,hx,hb]
     exact fin _ _
    have hne:x≠⟨#[]⟩:=size_ne.1 (by omega)
    by_cases h2:x.size > 40
    ·have hb:=bad (key.trans (by rw[k2,decide_eq_false (by omega:¬ x.size≤40),decide_eq_true hne];rfl))
     simp -implicitDefEqProofs (disch:=omega) only[Wz,seval,encB,hx,hb]
     exact fin _ _
    rw[decide_eq_true hne,decide_eq_true (by omega:x.size≤40),Bool.true_and,Bool.true_and] at k2
    simp -implicitDefEqProofs (disch:=omega) only[Wz,seval,encB,hx]
    refine aw_measA (fun k:Nat=>⟨[(6,.lit (.int .i64 (k:Int))),(5,.lit (.int .i64 (i:Int))),(0,.vec (l.map encB) fl),(1,.lit (.bool false))],.none,50⟩) (fun k=>k≤i∧(∀ j,j<k→l.getD j default≠x)) (fun k=>i - k) 0 (wk_lk (by simp[lk]) (fun _ _ q=>q) (fun _ _ q=>q) rfl rfl) ⟨Nat.zero_le _,fun j q=>absurd q (Nat.not_lt_zero _)⟩ ?_
    rintro k ⟨hk,hkv⟩
    refine aw_of ?_
    rcases Nat.lt_or_ge k i with hk | hge
    ·have hy:(l.map encB)[k]? = some (encB (l.getD k default)):=mapQ (by omega)
     have hmem:l.getD k default∈l.take i:=by
      rw[List.mem_take_iff_getElem]
      exact⟨k,by omega,by rw[List.getD_eq_getElem?_getD,List.getElem?_eq_getElem (by omega)];rfl⟩
     obtain⟨y,hy⟩:∃ y,l.getD k default=y:=⟨_,rfl⟩
     rw[hy] at hmem
     simp -implicitDefEqProofs (disch:=omega) only[Wz,seval]
     refine aw_quietN (n:=50) rfl (by decide) mixed ?_
     cases hd:decide (y=x) with
     | true =>
      have hyx:=of_decide_eq_true hd
      rw[hyx] at hmem
      have hb:=bad (key.trans (by rw[k2,decide_eq_true hmem];rfl))
      simp -implicitDefEqProofs (disch:=omega) only[Wz,seval,encB,hx,hy,bytes_eq,hd,hb]
      exact fin _ _
     | false =>
      have hyx:=of_decide_eq_false hd
      simp -implicitDefEqProofs (disch:=omega) only[Wz,seval,encB,hx,hy,bytes_eq,hd]
      exact⟨k+1,⟨by omega,fun j hj=>by rcases Nat.lt_succ_iff_lt_or_eq.1 hj with q | q;exact hkv j q;subst q;rw[hy];exact hyx⟩,by omega,wk_lk (by simp[lk]) (fun _ _ q=>q) (fun _ _ q=>q) rfl rfl⟩
    ·have e:k=i:=by omega
     subst e
     have hn:unOk l k=true:=by
      rw[k2,Bool.not_eq_true',decide_eq_false_iff_not]
      intro hm
      rw[List.mem_take_iff_getElem] at hm
      obtain⟨j,hj,e⟩:=hm
      exact hkv j (by omega) (by rw[List.getD_eq_getElem?_getD,List.getElem?_eq_getElem (by omega)];exact e)
     have hm:=lt_step hiv (key.trans hn)
     simp -implicitDefEqProofs (disch:=omega) only[Wz,seval]
     exact⟨k+1,⟨by omega,hm⟩,by omega,wk_lk (by simp[lk]) (fun _ _ q=>q) (fun _ _ q=>q) rfl rfl⟩
   | true =>
    try have hi0:i≠0:=fun q=>h0 ⟨rfl,q⟩
    by_cases h1:x.size<1
    ·have hn:x=⟨#[]⟩:=by
      by_cases q:x=⟨#[]⟩
      ·exact q
      ·have:=size_ne.2 q;omega
     have hb:=bad (key.trans (by rw[k2,decide_eq_false (fun q=>q hn)];rfl))
     simp -implicitDefEqProofs (disch:=omega) only[Wz,seval,encB,hx,hb]
     exact fin _ _
    have hne:x≠⟨#[]⟩:=size_ne.1 (by omega)
    by_cases h2:x.size > 40
    ·have hb:=bad (key.trans (by rw[k2,decide_eq_false (by omega:¬ x.size≤40),decide_eq_true hne];rfl))
     simp -implicitDefEqProofs (disch:=omega) only[Wz,seval,encB,hx,hb]
     exact fin _ _
    rw[decide_eq_true hne,decide_eq_true (by omega:x.size≤40),Bool.true_and,Bool.true_and] at k2
    simp -implicitDefEqProofs (disch:=omega) only[Wz,seval,encB,hx]
    refine aw_measA (fun k:Nat=>⟨[(6,.lit (.int .i64 (k:Int))),(5,.lit (.int .i64 (i:Int))),(0,.vec (l.map encB) fl),(1,.lit (.bool true))],.none,50⟩) (fun k=>k≤i∧(∀ j,j<k→l.getD j default≠x)) (fun k=>i - k) 0 (wk_lk (by simp[lk]) (fun _ _ q=>q) (fun _ _ q=>q) rfl rfl) ⟨Nat.zero_le _,fun j q=>absurd q (Nat.not_lt_zero _)⟩ ?_
    rintro k ⟨hk,hkv⟩
    refine aw_of ?_
    rcases Nat.lt_or_ge k i with hk | hge
    ·have hy:(l.map encB)[k]? = some (encB (l.getD k default)):=mapQ (by omega)
     have hmem:l.getD k default∈l.take i:=by
      rw[List.mem_take_iff_getElem]
      exact⟨k,by omega,by rw[List.getD_eq_getElem?_getD,List.getElem?_eq_getElem (by omega)];rfl⟩
     obtain⟨y,hy⟩:∃ y,l.getD k default=y:=⟨_,rfl⟩
     rw[hy] at hmem
     simp -implicitDefEqProofs (disch:=omega) only[Wz,seval]
     refine aw_quietN (n:=50) rfl (by decide) mixed ?_
     cases hd:decide (y=x) with
     | true =>
      have hyx:=of_decide_eq_true hd
      rw[hyx] at hmem
      have hb:=bad (key.trans (by rw[k2,decide_eq_true hmem];rfl))
      simp -implicitDefEqProofs (disch:=omega) only[Wz,seval,encB,hx,hy,bytes_eq,hd,hb]
      exact fin _ _
     | false =>
      have hyx:=of_decide_eq_false hd
      simp -implicitDefEqProofs (disch:=omega) only[Wz,seval,encB,hx,hy,bytes_eq,hd]
      exact⟨k+1,⟨by omega,fun j hj=>by rcases Nat.lt_succ_iff_lt_or_eq.1 hj with q | q;exact hkv j q;subst q;rw[hy];exact hyx⟩,by omega,wk_lk (by simp[lk]) (fun _ _ q=>q) (fun _ _ q=>q) rfl rfl⟩
    ·have e:k=i:=by omega
     subst e
     have hn:unOk l k=true:=by
      rw[k2,Bool.not_eq_true',decide_eq_false_iff_not]
      intro hm
      rw[List.mem_take_iff_getElem] at hm
      obtain⟨j,hj,e⟩:=hm
      exact hkv j (by omega) (by rw[List.getD_eq_getElem?_getD,List.getElem?_eq_getElem (by omega)];exact e)
     have hm:=lt_step hiv (key.trans hn)
     simp -implicitDefEqProofs (disch:=omega) only[Wz,seval]
     exact⟨k+1,⟨by omega,hm⟩,by omega,wk_lk (by simp[lk]) (fun _ _ q=>q) (fun _ _ q=>q) rfl rfl⟩
 ·have e:i=l.length:=by omega
  subst e
  have hn:namesV l f=true:=all_range hiv
  simp -implicitDefEqProofs (disch:=omega) only[Wz,seval,hn]
  exact fin _ _
theorem namesV_false(l:List ByteArray):namesV l false=unlikeV l:=rfl
theorem unOk_drop{l:List ByteArray}(h0:l.getD 0 default=⟨#[]⟩)(hl:0<l.length)(j:Nat):unOk l (j+1)=unOk (l.drop 1) j:=by
 unfold unOk
 have e:(l.drop 1).getD j default=l.getD (j+1) default:=by
  rw[List.getD_eq_getElem?_getD,List.getElem?_drop,List.getD_eq_getElem?_getD,Nat.add_comm]
 rw[e]
 cases hd:decide (l.getD (j+1) default≠⟨#[]⟩) with
 | false=>rfl
 | true =>
  have hne:=of_decide_eq_true hd
  congr 2
  obtain⟨x,m,rfl⟩:∃ x m,l=x :: m:=by
   cases l with
   | nil=>cases hl
   | cons x m=>exact⟨x,m,rfl⟩
  have hx:x=⟨#[]⟩:=h0
  rw[List.take_succ_cons,List.drop_succ_cons,List.drop_zero]
  simp only[List.mem_cons]
  have:¬ (x :: m).getD (j+1) default=x:=by rw[hx] at hne ⊢;exact hne
  congr 1
  exact decide_eq_decide.2 (by simp only[this,false_or])
theorem namesV_true(l:List ByteArray)(hl:0<l.length):namesV l true=(decide (l.getD 0 default=⟨#[]⟩) && unlikeV (l.drop 1)):=by
 unfold namesV unlikeV
 obtain⟨k,hk⟩:∃ k,l.length=k+1:=⟨l.length - 1,by omega⟩
 have hk1:(l.drop 1).length=k:=by rw[List.length_drop];omega
 rw[hk,hk1,List.range_succ_eq_map,List.all_cons,List.all_map]
 show (decide (l.getD 0 default=⟨#[]⟩) && _)=_
 cases hd:decide (l.getD 0 default=⟨#[]⟩) with
 | false=>rfl
 | true =>
  have h0:=of_decide_eq_true hd
  congr 2
  funext j
  show nmOk l true (j+1)=_
  unfold nmOk
  rw[if_neg (by omega)]
  exact unOk_drop h0 hl j
def sizeB(n:Nt):Bool:=decide (n.types.length≤200) && (decide (1≤n.channels.length) && (decide (n.channels.length≤20) && (decide (1≤n.modes.length) && (decide (n.modes.length≤20) && (decide (n.rules.length≤100) && decide (n.states.length≤4000))))))
theorem headsV_eq(n:Nt):headsV n=(sizeB n && ((List.range n.rules.length).all (headR n) && (namesV n.types false && (namesV n.channels true && (namesV n.modes true && namesV (n.rules.map Nr.name) false))))):=by
 unfold headsV sizeB namedV
 rw[namesV_false,namesV_false]
 by_cases h1:n.types.length≤200
 rotate_left
 ·simp[h1]
 by_cases h2:1≤n.channels.length
 rotate_left
 ·simp[h2,show ¬ 0<n.channels.length by omega]
 by_cases h3:n.channels.length≤20
 rotate_left
 ·simp[h3]
 by_cases h4:1≤n.modes.length
 rotate_left
 ·simp[h4,show ¬ 0<n.modes.length by omega]
 by_cases h5:n.modes.length≤20
 rotate_left
 ·simp[h5]
 rw[namesV_true _ (by omega),namesV_true _ (by omega)]
 by_cases h6:n.rules.length≤100
 rotate_left
 ·simp[h6]
 by_cases h7:n.states.length≤4000
 rotate_left
 ·simp[h7]
 have h2':0<n.channels.length:=by omega
 have h4':0<n.modes.length:=by omega
 simp[h1,h2,h3,h4,h5,h6,h7,h2',h4']
theorem rheads_spec(n:Nt)(ok:NtOk n):KCall Pg 42 [.agg (encN n)] (.lit (.bool (headsV n))):=by
 have h:=ok.rules
 have ht:=ok.types
 have hc:=ok.channels
 have hm:=ok.modes
 have hst:=ok.states
 refine KCall_of (SCall_intro Tryz.func42 rfl Tryz.ntmps42 (rs:=[.tmp 2]) rfl (by simp) ?_)
 have fin:∀ h (b:Bool),KExpo h (.lit (.bool b)) (.lit (.bool b)):=fun h b=>kexpo (.lit _)
 obtain⟨v,hv⟩:∃ v,headsV n=v:=⟨_,rfl⟩
 rw[hv]
 rw[headsV_eq] at hv
 unfold sizeB at hv
 rcases Decidable.em (n.types.length≤200) with hy | hy
 rotate_left
 ·rw[decide_eq_false hy] at hv
  simp only[Bool.false_and,Bool.true_and] at hv
  subst hv
  simp -implicitDefEqProofs (disch:=omega) only[Wz,seval,encN,List.append_eq,List.cons_append,List.nil_append]
  exact fin _ _
 rw[decide_eq_true hy] at hv
 have:=hy
 clear hy
 rcases Decidable.em (1≤n.channels.length) with hy | hy
 rotate_left
 ·rw[decide_eq_false hy] at hv
  simp only[Bool.false_and,Bool.true_and] at hv
  subst hv
  simp -implicitDefEqProofs (disch:=omega) only[Wz,seval,encN,List.append_eq,List.cons_append,List.nil_append]
  exact fin _ _
 rw[decide_eq_true hy] at hv
 have:=hy
 clear hy
 rcases Decidable.em (n.channels.length≤20) with hy | hy
 rotate_left
 ·rw[decide_eq_false hy] at hv
  simp only[Bool.false_and,Bool.true_and] at hv
  subst hv
  simp -implicitDefEqProofs (disch:=omega) only[Wz,seval,encN,List.append_eq,List.cons_append,List.nil_append]
  exact fin _ _
 rw[decide_eq_true hy] at hv
 have:=hy
 clear hy
 rcases Decidable.em (1≤n.modes.length) with hy | hy
 rotate_left
 ·rw[decide_eq_false hy] at hv
  simp only[Bool.false_and,Bool.true_and] at hv
  subst hv
  simp -implicitDefEqProofs (disch:=omega) only[Wz,seval,encN,List.append_eq,List.cons_append,List.nil_append]
  exact fin _ _
 rw[decide_eq_true hy] at hv
 have:=hy
 clear hy
 rcases Decidable.em (n.modes.length≤20) with hy | hy
 rotate_left
 ·rw[decide_eq_false hy] at hv
  simp only[Bool.false_and,Bool.true_and] at hv
  subst hv
  simp -implicitDefEqProofs (disch:=omega) only[Wz,seval,encN,List.append_eq,List.cons_append,List.nil_append]
  exact fin _ _
 rw[decide_eq_true hy] at hv
 have:=hy
 clear hy
 rcases Decidable.em (n.rules.length≤100) with hy | hy
 rotate_left
 ·rw[decide_eq_false hy] at hv
  simp only[Bool.false_and,Bool.true_and] at hv
  subst hv
  simp -implicitDefEqProofs (disch:=omega) only[Wz,seval,encN,List.append_eq,List.cons_append,List.nil_append]
  exact fin _ _
 rw[decide_eq_true hy] at hv
 have:=hy
 clear hy
 rcases Decidable.em (n.states.length≤4000) with hy | hy
 rotate_left
 ·rw[decide_eq_false hy] at hv
  simp only[Bool.false_and,Bool.true_and] at hv
  subst hv
  simp -implicitDefEqProofs (disch:=omega) only[Wz,seval,encN,List.append_eq,List.cons_append,List.nil_append]
  exact fin _ _
 rw[decide_eq_true hy] at hv
 have:=hy
 clear hy
 simp only[Bool.true_and] at hv
 simp -implicitDefEqProofs (disch:=omega) only[Wz,seval,encN,List.append_eq,List.cons_append,List.nil_append]
 obtain⟨X,hX⟩:∃ X:Nat→List (List AV),∀ i,X i=((n.rules.map Nr.name).take i).map encB:=⟨_,fun _=>rfl⟩
 obtain⟨S,hS⟩:∃ S:Nat × Nat × Nat→St,∀ i t N,S (i,t,N)=⟨[(4,.lit (.int .i64 (i:Int))),(3,grA t (X i)),(1,.ptr 0 0)],⟨[(0,encN n)],grT t 1 (X i),N⟩,98⟩:=⟨fun a=>⟨[(4,.lit (.int .i64 (a.1:Int))),(3,grA a.2.1 (X a.1)),(1,.ptr 0 0)],⟨[(0,encN n)],grT a.2.1 1 (X a.1),a.2.2⟩,98⟩,fun _ _ _=>rfl⟩
 refine aw_measA S (fun a=>a.1≤n.rules.length∧1≤a.2.2∧(0<a.1→1≤a.2.1∧a.2.1<a.2.2)∧∀ j,j<a.1→headR n j=true) (fun a=>n.rules.length - a.1) (0,1,1) ?_ ⟨Nat.zero_le _,Nat.le_refl _,fun q=>absurd q (Nat.lt_irrefl _),fun j q=>absurd q (Nat.not_lt_zero _)⟩ ?_
 ·have e:X 0=[]:=by rw[hX];rfl
  rw[hS,e]
  exact wk_lk (by simp[lk,grA]) (fun _ _ q=>q) (fun _ _ q=>q) rfl rfl
 rintro⟨i,t,N⟩ ⟨hi,hN,htN,hno⟩
 simp only at hi hN htN hno
 rw[hS]
 refine aw_of ?_
 have hxl:(X i).length=i:=by rw[hX];simp;omega
 rcases Nat.lt_or_ge i n.rules.length with hlt | hge
 ·have key:headR n i = !(decide (0<i) && ((n.rules.getD i default).lexer && !(n.rules.getD (i - 1) default).lexer)):=rfl
  have hnext:X (i+1)=X i++[encB (n.rules.getD i default).name]:=by
   rw[hX,hX,List.take_add_one,List.getElem?_map,List.getElem?_eq_getElem hlt];simp[List.getD_eq_getElem?_getD,List.getElem?_eq_getElem hlt]
  have bad:headR n i=false→false=v:=fun q=>by rw[← hv,all_not hlt q];rfl
  obtain⟨r,hr⟩:∃ r,n.rules.getD i default=r:=⟨_,rfl⟩
  rw[hr] at key hnext
  cases hx:X i with
  | nil =>
   rw[hx] at hxl hnext
   have h0:i=0:=hxl.symm
   subst h0
   have hfit:fits 1 16:=fits_of' (by decide) (by decide)
   have hm:=lt_step hno (key.trans (by rfl))
   cases hx1:r.lexer
   all_goals
    simp -implicitDefEqProofs (disch:=omega) only[Wz,seval,encN,encNr,grA,grT,hr,hx1,hfit,List.mem_singleton,forall_eq,List.not_mem_nil,false_imp_iff,implies_true]
    refine⟨(1,N,N+1),⟨by omega,by simp only;omega,fun _=>⟨by simp only;omega,by simp only;omega⟩,hm⟩,by simp only;omega,?_⟩
    rw[hS,hnext]
    exact wk_lk (by simp[lk,grA]) (fun _ _ q=>q) (fun _ _ q=>q) rfl rfl
  | cons x l =>
   rw[hx] at hxl hnext
   simp only[List.length_cons] at hxl
   obtain⟨ht1,ht2⟩:=htN (by omega)
   have hfit:fits (l.length+1+1) 16:=fits_of' (by omega) (by omega)
   have i1:((i:Int) - 1).toNat=i - 1:=by omega
   have i2:IntKind.i64.wrap ((i:Int) - 1)=(i:Int) - 1:=i64w (by omega) (by omega)
   obtain⟨u,hu⟩:∃ u,n.rules.getD (i - 1) default=u:=⟨_,rfl⟩
   have key1:headR n i = !(r.lexer && !u.lexer):=by rw[key,hu,decide_eq_true (by omega),Bool.true_and]
   have nxt:headR n i=true→∀ σ:St,lk σ.slots 4=some (.lit (.int .i64 ((i:Int)+1)))→lk σ.slots 3=some (.own t (l.length+1+1))→lk σ.slots 1=some (.ptr 0 0)→lk σ.hp.boxes 0=some (encN n)→lk σ.hp.toks t=some ⟨x :: l++[encB r.name],0,1⟩→σ.hp.nx=N→σ.nt=98→∃ x',(x'.1≤n.rules.length∧1≤x'.2.2∧(0<x'.1→1≤x'.2.1∧x'.2.1<x'.2.2)∧∀ j,j<x'.1→headR n j=true)∧n.rules.length - x'.1<n.rules.length - i∧St.wk σ (S x'):=fun hh σ e1 e2 e3 e4 e5 e6 e7=>by
    refine⟨(i+1,t,N),⟨by simp only;omega,by simp only;omega,fun _=>⟨ht1,by simp only;omega⟩,lt_step hno hh⟩,by simp only;omega,?_⟩
    rw[hS,hnext]
    have e2':lk σ.slots 3=some (grA t (x :: l++[encB r.name])):=by rw[e2];simp[grA]
    refine wk_lk (allc (by rw[e1];simp) (allc e2' (allc e3 alln))) ?_ ?_ e6.symm e7.symm
    ·intro i c q;simp only[lk] at q;split at q
     ·rename_i q1;subst q1;rw[e4];exact q
     ·cases q
    ·intro i c q
     simp only[List.cons_append,grT,lk] at q;split at q
     ·rename_i q1;subst q1;rw[e5];exact q
     ·cases q
   cases hx1:r.lexer
   ·simp -implicitDefEqProofs (disch:=omega) only[Wz,seval,encN,encNr,grA,grT,hx,hr,hx1,hfit,List.mem_singleton,forall_eq,List.not_mem_nil,false_imp_iff,implies_true]
    exact nxt (by rw[key1,hx1];rfl) _ rfl rfl rfl rfl (by simp[lk,encB]) rfl rfl
   ·cases hy:u.lexer
    ·simp -implicitDefEqProofs (disch:=omega) only[Wz,seval,encN,encNr,grA,grT,hx,hr,hu,hx1,hy,i1,i2,hfit,List.mem_singleton,forall_eq,List.not_mem_nil,false_imp_iff,implies_true]
     have hb:=bad (by rw[key1,hx1,hy];rfl)
     subst hb
     exact fin _ _
    ·simp -implicitDefEqProofs (disch:=omega) only[Wz,seval,encN,encNr,grA,grT,hx,hr,hu,hx1,hy,i1,i2,hfit,List.mem_singleton,forall_eq,List.not_mem_nil,false_imp_iff,implies_true]
     exact nxt (by rw[key1,hx1,hy];rfl) _ rfl rfl rfl rfl (by simp[lk,encB]) rfl rfl
 ·have e:i=n.rules.length:=by omega
  subst e
  have e1:(List.range n.rules.length).all (headR n)=true:=all_range hno
  rw[e1,Bool.true_and] at hv
  have hX1:X n.rules.length=(n.rules.map Nr.name).map encB:=by rw[hX,List.take_of_length_le (by simp)]
  have pv:∀ (l:List ByteArray) b,∀ v∈[AV.vec (l.map encB) false,.lit (.bool b)],Ab.Pure v:=fun l b=>allc (.vec (pure_rows pure_encB _)) (allc (.lit _) alln)
  simp -implicitDefEqProofs (disch:=omega) only[Wz,seval,encN]
  refine CallK_pure call67 (rnames_spec n.types false false (by omega) ok.typ) (pv _ _) (.lit _) ?_
  cases h1:namesV n.types false with
  | false =>
   rw[h1] at hv
   have hv:false=v:=hv
   subst hv
   simp -implicitDefEqProofs (disch:=omega) only[Wz,seval]
   exact fin _ _
  | true =>
  rw[h1,Bool.true_and] at hv
  simp -implicitDefEqProofs (disch:=omega) only[Wz,seval,encN]
  refine CallK_pure call67 (rnames_spec n.channels false true (by omega) ok.chan) (pv _ _) (.lit _) ?_
  cases h2:namesV n.channels true with
  | false =>
   rw[h2] at hv
   have hv:false=v:=hv
   subst hv
   simp -implicitDefEqProofs (disch:=omega) only[Wz,seval]
   exact fin _ _
  | true =>
  rw[h2,Bool.true_and] at hv
  simp -implicitDefEqProofs (disch:=omega) only[Wz,seval,encN]
  refine CallK_pure call67 (rnames_spec n.modes false true (by omega) ok.mode) (pv _ _) (.lit _) ?_
  cases h3:namesV n.modes true with
  | false =>
   rw[h3] at hv
   have hv:false=v:=hv
   subst hv
   simp -implicitDefEqProofs (disch:=omega) only[Wz,seval]
   exact fin _ _
  | true =>
  rw[h3,Bool.true_and] at hv
  have un:=rnames_spec (n.rules.map Nr.name) false false (by simp;omega) (fun s hs=>by obtain⟨r,hr,rfl⟩:=List.mem_map.1 hs;exact ok.name r hr)
  have un':=rnames_spec (n.rules.map Nr.name) true false (by simp;omega) (fun s hs=>by obtain⟨r,hr,rfl⟩:=List.mem_map.1 hs;exact ok.name r hr)
  rw[← hX1] at un un'
  rw[hv] at un un'
  cases hx:X n.rules.length with
  | nil =>
   rw[hx] at un'
   simp -implicitDefEqProofs (disch:=omega) only[Wz,seval,encN,grA,grT]
   refine CallK_pure call67 un' (allc (.vec alln) (allc (.lit _) alln)) (.lit _) ?_
   simp -implicitDefEqProofs (disch:=omega) only[Wz,seval]
   exact fin _ _
  | cons x l =>
   rw[hx] at un hxl
   simp -implicitDefEqProofs (disch:=omega) only[Wz,seval,encN,grA,grT]
   refine CallK.freeze (t:=t) (k:=⟨x :: l,0,1⟩) (args1:=[.vec (x :: l) false,.lit (.bool false)]) (by simp[lk]) (fun g g' e c=>cvL_cons c (cvL_cons (cv_refl e _) cvL_nil)) ?_
   refine CallK_pure call67 un (allc (.vec (by rw[← hx,hX];exact pure_rows pure_encB _)) (allc (.lit _) alln)) (.lit _) ?_
   simp -implicitDefEqProofs (disch:=omega) only[Wz,seval]
   exact fin _ _
def ruleT(n:Nt)(i:Nat)(r:Nr):Bool:=if typd r then decide (1≤r.type∧r.type≤(n.types.length:Int)) && !decide (r.type∈tysN n i) else decide (r.type=0)
theorem ruleR_eq(n:Nt)(i:Nat)(r:Nr)(hr:n.rules.getD i default=r):ruleR n i=(ofN n r.start i && (ofN n r.stop i && (decide (r.start≠r.stop) && (decide ((n.states.getD r.stop.toNat default).edges.length=0) &&
  (!(!r.lexer && (r.frag || (r.lz || decide (r.mode≠0)))) && (!(r.lexer && r.left) && (decide (0≤r.mode∧r.mode<(n.modes.length:Int)) && ruleT n i r))))))):=by
 subst hr;rfl
theorem tys_mem{n:Nt}{i:Nat}(h:∀ j,j<i→ruleR n j=true)(hi:i≤n.rules.length){t:Int}(ht:1≤t):t∈tysN n i↔∃ k,k<i∧(n.rules.getD k default).type=t:=by
 unfold tysN
 constructor
 ·intro hm
  obtain⟨r,hr,e⟩:=List.mem_map.1 hm
  obtain⟨k,hk,e2⟩:=List.mem_take_iff_getElem.1 (List.mem_filter.1 hr).1
  exact⟨k,by omega,by rw[List.getD_eq_getElem?_getD,List.getElem?_eq_getElem (by omega)];show (n.rules[k]).type=t;rw[e2];exact e⟩
 ·rintro⟨k,hk,e⟩
  have hkl:k<n.rules.length:=by omega
  have hR:=h k hk
  rw[ruleR_eq n k _ rfl] at hR
  simp only[Bool.and_eq_true] at hR
  have hT:=hR.2.2.2.2.2.2.2
  have hty:typd (n.rules.getD k default)=true:=by
   unfold ruleT at hT
   cases hd:typd (n.rules.getD k default) with
   | true=>rfl
   | false=>rw[hd] at hT;simp only[Bool.false_eq_true,if_false,decide_eq_true_eq] at hT;omega
  have eg:n.rules.getD k default=n.rules[k]:=by rw[List.getD_eq_getElem?_getD,List.getElem?_eq_getElem hkl];rfl
  rw[eg] at e hty
  exact List.mem_map.2 ⟨n.rules[k],List.mem_filter.2 ⟨List.mem_take_iff_getElem.2 ⟨k,by omega,rfl⟩,hty⟩,e⟩
theorem lkA{x:List AV}{y:List (Nat × List AV)}(_h:True):∀ i c,lk [(0,x)] i=some c→lk ((0,x) :: y) i=some c:=fun i c q=>by
 simp only[lk] at q ⊢
 split at q
 ·rename_i e;rw[if_pos e];exact q
 ·cases q
theorem rrules_spec(n:Nt)(ok:NtOk n):PCall Pg 43 [.agg (encN n)] (.lit (.bool (rulesV n))):=by
 have h:=ok.rules
 have ht:=ok.types
 have hm:=ok.modes
 have hst:=ok.states
 refine PCall_intro Tryz.func43 rfl Tryz.ntmps43 (rs:=[.tmp 2]) rfl (by simp) ?_
 have fin:∀ h (b:Bool),Expo h (.lit (.bool b)) (.lit (.bool b)):=fun h b=>expo_pure (.lit _)
 simp -implicitDefEqProofs (disch:=omega) only[Wz,seval]
 refine aw_measA (fun a:Nat × Nat=>⟨[(3,.lit (.int .i64 (a.1:Int))),(1,.ptr 0 0)],⟨[(0,encN n)],[],a.2⟩,122⟩) (fun a=>a.1≤n.rules.length∧1≤a.2∧∀ j,j<a.1→ruleR n j=true) (fun a=>n.rules.length - a.1) (0,1) (wk_lk (by simp[lk]) (fun _ _ q=>q) (fun _ _ q=>q) rfl rfl) ⟨Nat.zero_le _,Nat.le_refl _,fun j q=>absurd q (Nat.not_lt_zero _)⟩ ?_
 rintro⟨i,N⟩ ⟨hi,hN,hno⟩
 simp only at hi hN hno
 refine aw_of ?_
 rcases Nat.lt_or_ge i n.rules.length with hlt | hge
 ·obtain⟨r,hr⟩:∃ r,n.rules.getD i default=r:=⟨_,rfl⟩
  have key:=ruleR_eq n i r hr
  have bad:ruleR n i=false→rulesV n=false:=fun q=>all_not hlt q
  have pn:=pure_encN n
  have pv:∀ a b:Int,∀ v∈[AV.agg (encN n),.lit (.int .i64 a),.lit (.int .i64 b)],Ab.Pure v:=fun a b=>allc (.agg pn) (allc (.lit _) (allc (.lit _) alln))
  have o1:=rof_spec n r.start (i:Int) (by omega)
  have o2:=rof_spec n r.stop (i:Int) (by omega)
  have pv1:=pv r.start i
  have pv2:=pv r.stop i
  unfold encN at o1 o2 pv1 pv2
  simp -implicitDefEqProofs (disch:=omega) only[Wz,seval,encN,hr,encNr,List.append_eq,List.cons_append,List.nil_append]
  refine CallK_pure call68 o1 pv1 (.lit _) ?_
  cases h1:ofN n r.start i with
  | false =>
   have hb:=bad (by rw[key,h1];rfl)
   simp -implicitDefEqProofs (disch:=omega) only[Wz,seval,hb]
   exact fin _ _
  | true =>
  simp -implicitDefEqProofs (disch:=omega) only[Wz,seval,encN,encNr]
  refine CallK_pure call68 o2 pv2 (.lit _) ?_
  cases h2:ofN n r.stop i with
  | false =>
   have hb:=bad (by rw[key,h1,h2];rfl)
   simp -implicitDefEqProofs (disch:=omega) only[Wz,seval,hb]
   exact fin _ _
  | true =>
  obtain⟨b1,b2⟩:=ofN_bnd h2
  obtain⟨sp,hsp⟩:∃ sp:Nat,r.stop=(sp:Int):=⟨r.stop.toNat,by omega⟩
  have hspl:sp<n.states.length:=by omega
  obtain⟨s,hs⟩:∃ s,n.states.getD sp default=s:=⟨_,rfl⟩
  have hsl:s.edges.length≤2000000000:=by
   have:=(ok.edges _ (getD_mem hspl)).1
   rw[hs] at this;omega
  rw[hsp,Int.toNat_natCast,hs] at key
  rw[hsp] at h2
  by_cases h3:r.start=(sp:Int)
  ·have hb:=bad (by rw[key];simp[h3])
   simp -implicitDefEqProofs (disch:=omega) only[Wz,seval,encN,encNr,encSt,hsp,hs,hb]
   exact fin _ _
  by_cases h4:¬ s.edges.length=0
  ·have hb:=bad (by rw[key];simp only[decide_eq_false h4,Bool.and_false,Bool.false_and])
   simp -implicitDefEqProofs (disch:=omega) only[Wz,seval,encN,encNr,encSt,hsp,hs,hb]
   exact fin _ _
  have h4:s.edges.length=0:=by omega
  rw[h1,h2,decide_eq_true (by omega:r.start≠(sp:Int)),decide_eq_true h4,Bool.true_and,Bool.true_and,Bool.true_and,Bool.true_and] at key
  cases hlx:r.lexer with
  | false =>
   cases hfr:r.frag with
   | true =>
    have hb:=bad (by rw[key];unfold ruleT typd;simp[hlx,hfr])
    simp -implicitDefEqProofs (disch:=omega) only[Wz,seval,encN,encNr,encSt,hsp,hs,hlx,hfr,hb]
    exact fin _ _
   | false =>
   cases hlz:r.lz with
   | true =>
    have hb:=bad (by rw[key];unfold ruleT typd;simp[hlx,hfr,hlz])
    simp -implicitDefEqProofs (disch:=omega) only[Wz,seval,encN,encNr,encSt,hsp,hs,hlx,hfr,hlz,hb]
    exact fin _ _
   | false =>
   by_cases hm0:¬ r.mode=0
   ·have hb:=bad (by rw[key];unfold ruleT typd;simp[hlx,hfr,hlz,hm0])
    simp -implicitDefEqProofs (disch:=omega) only[Wz,seval,encN,encNr,encSt,hsp,hs,hlx,hfr,hlz,hb]
    exact fin _ _
   have hm0:r.mode=0:=by omega
   by_cases hmm:¬ 0<n.modes.length
   ·have hb:=bad (by rw[key];unfold ruleT typd;simp[hlx,hfr,hlz,hm0,hmm])
    simp -implicitDefEqProofs (disch:=omega) only[Wz,seval,encN,encNr,encSt,hsp,hs,hlx,hfr,hlz,hm0,hb]
    exact fin _ _
   have hmm:0<n.modes.length:=by omega
   by_cases hty:¬ r.type=0
   ·have hb:=bad (by rw[key];unfold ruleT typd;simp[hlx,hfr,hlz,hm0,hmm,hty])
    simp -implicitDefEqProofs (disch:=omega) only[Wz,seval,encN,encNr,encSt,hsp,hs,hlx,hfr,hlz,hm0,hb]
    exact fin _ _
   have hty:r.type=0:=by omega
   have hg:ruleR n i=true:=by rw[key];unfold ruleT typd;simp[hlx,hfr,hlz,hm0,hmm,hty]
   simp -implicitDefEqProofs (disch:=omega) only[Wz,seval,encN,encNr,encSt,hsp,hs,hlx,hfr,hlz,hm0]
   exact⟨(i+1,N+1),⟨by simp only;omega,by simp only;omega,lt_step hno hg⟩,by simp only;omega,wk_lk (by simp[lk]) (lkA trivial) (fun _ _ q=>q) rfl rfl⟩
  | true =>
   cases hle:r.left with
   | true =>
    have hb:=bad (by rw[key];unfold ruleT typd;simp[hlx,hle])
    simp -implicitDefEqProofs (disch:=omega) only[Wz,seval,encN,encNr,encSt,hsp,hs,hlx,hle,hb]
    exact fin _ _
   | false =>
   by_cases m1:¬ 0≤r.mode
   ·have hb:=bad (by rw[key];unfold ruleT typd;simp[hlx,hle,m1])
    simp -implicitDefEqProofs (disch:=omega) only[Wz,seval,encN,encNr,encSt,hsp,hs,hlx,hle,hb]
    exact fin _ _
   have m1:0≤r.mode:=by omega
   by_cases m2:¬ r.mode<(n.modes.length:Int)
   ·have hb:=bad (by rw[key];unfold ruleT typd;simp[hlx,hle,m1,m2])
    simp -implicitDefEqProofs (disch:=omega) only[Wz,seval,encN,encNr,encSt,hsp,hs,hlx,hle,hb]
    exact fin _ _
   have m2:r.mode<(n.modes.length:Int):=by omega
   cases hfr:r.frag with
   | true =>
    by_cases hty:¬ r.type=0
    ·have hb:=bad (by rw[key];unfold ruleT typd;simp[hlx,hfr,hle,m1,m2,hty])
     simp -implicitDefEqProofs (disch:=omega) only[Wz,seval,encN,encNr,encSt,hsp,hs,hlx,hfr,hle,hb]
     exact fin _ _
    have hty:r.type=0:=by omega
    have hg:ruleR n i=true:=by rw[key];unfold ruleT typd;simp[hlx,hfr,hle,m1,m2,hty]
    simp -implicitDefEqProofs (disch:=omega) only[Wz,seval,encN,encNr,encSt,hsp,hs,hlx,hfr,hle]
    exact⟨(i+1,N+1),⟨by simp only;omega,by simp only;omega,lt_step hno hg⟩,by simp only;omega,wk_lk (by simp[lk]) (lkA trivial) (fun _ _ q=>q) rfl rfl⟩
   | false =>
    by_cases t1:¬ 1≤r.type
    ·have hb:=bad (by rw[key];unfold ruleT typd;simp[hlx,hfr,hle,m1,m2,t1])
     simp -implicitDefEqProofs (disch:=omega) only[Wz,seval,encN,encNr,encSt,hsp,hs,hlx,hfr,hle,hb]
     exact fin _ _
    have t1:1≤r.type:=by omega
    by_cases t2:¬ r.type≤(n.types.length:Int)
    ·have hb:=bad (by rw[key];unfold ruleT typd;simp[hlx,hfr,hle,m1,m2,t1,t2])
     simp -implicitDefEqProofs (disch:=omega) only[Wz,seval,encN,encNr,encSt,hsp,hs,hlx,hfr,hle,hb]
     exact fin _ _
    have t2:r.type≤(n.types.length:Int):=by omega
    have key2:ruleR n i = !decide (r.type∈tysN n i):=by rw[key];unfold ruleT typd;simp[hlx,hfr,hle,m1,m2,t1,t2]
    have tm:=tys_mem hno hi t1
    simp -implicitDefEqProofs (disch:=omega) only[Wz,seval,encN,encNr,encSt,hsp,hs,hlx,hfr,hle]
    refine aw_measA (fun k:Nat=>⟨[(5,.lit (.int .i64 (k:Int))),(3,.lit (.int .i64 (i:Int))),(1,.ptr 0 0),(4,.ptr N 0)],⟨[(0,encN n),(N,encNr r)],[],N+1⟩,122⟩) (fun k=>k≤i∧∀ j,j<k→(n.rules.getD j default).type≠r.type) (fun k=>i - k) 0 (wk_lk (by simp[lk]) ?_ (fun _ _ q=>q) rfl rfl) ⟨Nat.zero_le _,fun j q=>absurd q (Nat.not_lt_zero _)⟩ ?_
    ·intro p c q
     rw[← q]
     simp[encNr,encN,hlx,hfr,hle,hsp]
    rintro k ⟨hk,hkv⟩
    refine aw_of ?_
    rcases Nat.lt_or_ge k i with hkl | hge
    ·obtain⟨u,hu⟩:∃ u,n.rules.getD k default=u:=⟨_,rfl⟩
     simp -implicitDefEqProofs (disch:=omega) only[Wz,seval,encN,encNr]
     refine aw_quietN (n:=122) rfl (by decide) mixed ?_
     by_cases hx:u.type=r.type
     ·have hb:=bad (by rw[key2,decide_eq_true (tm.2 ⟨k,hkl,by rw[hu];exact hx⟩)];rfl)
      simp -implicitDefEqProofs (disch:=omega) only[Wz,seval,encN,encNr,hu,hb]
      exact fin _ _
     ·simp -implicitDefEqProofs (disch:=omega) only[Wz,seval,encN,encNr,hu]
      exact⟨k+1,⟨by omega,fun j hj=>by rcases Nat.lt_succ_iff_lt_or_eq.1 hj with q | q;exact hkv j q;subst q;rw[hu];exact hx⟩,by omega,wk_lk (by simp[lk]) (fun _ _ q=>q) (fun _ _ q=>q) rfl rfl⟩
    ·have e:k=i:=by omega
     subst e
     have hg:ruleR n k=true:=by
      rw[key2,decide_eq_false (fun q=>by obtain⟨j,h1,h2⟩:=tm.1 q;exact hkv j h1 h2)];rfl
     simp -implicitDefEqProofs (disch:=omega) only[Wz,seval]
     exact⟨(k+1,N+1),⟨by simp only;omega,by simp only;omega,lt_step hno hg⟩,by simp only;omega,wk_lk (by simp[lk]) (lkA trivial) (fun _ _ q=>q) rfl rfl⟩
 ·have e:i=n.rules.length:=by omega
  subst e
  have hn:rulesV n=true:=all_range hno
  simp -implicitDefEqProofs (disch:=omega) only[Wz,seval,encN,hn]
  exact fin _ _
end Go.Proofs.YtbbnfbnicacdoaaGreat
end
