/- MunchBehind answers true for any net, bytes ahead, bytes and mode that are read of bulk at most 1048576, and these read as they did, where the library's tables read as its text lays them: the given statement; and its card, in which the tables are tied to the text. Conditions: none. -/
import Derived.Test.YtgbbhilflgekhaaDoorXm
import Derived.Test.YtgbbhilflgekhaaDoorCards
import Derived.Test.YtgbbhilflgekhaaDoorTie
import Derived.Deep.DeepHandedRow
import Derived.Deep.DeepWitnessRowRef
import Derived.Lib.LaidIn
set_option linter.unusedVariables false
set_option linter.unusedSimpArgs false
section
namespace Go.Proofs.YtgbbhilflgekhaaDoor
open Go Go.Ab
set_option maxRecDepth 20000
set_option maxHeartbeats 4000000
structure ShU (d a:Nat) (l1 l2:List Un):Prop where
 len:l2.length=a+l1.length
 x:∀ i,(l2.getD (a+i) default).x=(l1.getD i default).x
 pos:∀ i,i<l1.length→(l2.getD (a+i) default).pos=(l1.getD i default).pos+d
theorem bt_app(A x:List UInt8)(i:Nat):bt (ofB (A++x)) (A.length+i)=bt (ofB x) i:=by
 rw[ofB_bt,ofB_bt,List.getD_eq_getElem?_getD,List.getD_eq_getElem?_getD,List.getElem?_append_right (by omega),Nat.add_sub_cancel_left]
theorem uV_app(A x:List UInt8)(i:Nat):uV (ofB (A++x)) (A.length+i)=uV (ofB x) i:=by
 have e1:=bt_app A x i
 have e2:=bt_app A x (i+1)
 have e3:=bt_app A x (i+2)
 have e4:=bt_app A x (i+3)
 have es:(ofB (A++x)).size - (A.length+i)=(ofB x).size - i:=by rw[ofB_size,ofB_size,List.length_append];omega
 unfold uV dcV
 rw[show A.length+i+1=A.length+(i+1) by omega,show A.length+i+2=A.length+(i+2) by omega,show A.length+i+3=A.length+(i+3) by omega,e1,e2,e3,e4,es]
theorem cutF_app(A x:List UInt8):∀ (k k' p c c':Nat),(ofB x).size - p≤k→(ofB x).size - p≤k'→ShU A.length 0 (cutF k (ofB x) p c) (cutF k' (ofB (A++x)) (A.length+p) c'):=by
 have hs:(ofB (A++x)).size=A.length+(ofB x).size:=by rw[ofB_size,ofB_size,List.length_append]
 have last:∀ c c',ShU A.length 0 [⟨-1,(ofB x).size,c⟩] [⟨-1,(ofB (A++x)).size,c'⟩]:=fun c c'=>by
  refine⟨rfl,fun i=>?_,fun i hi=>?_⟩
  ·cases i <;> simp
  ·have:i=0:=by simpa using hi
   subst this
   simp[hs];omega
 intro k
 induction k with
 | zero =>
  intro k' p c c' h h'
  have e1:cutF 0 (ofB x) p c=[⟨-1,(ofB x).size,c⟩]:=rfl
  have e2:cutF k' (ofB (A++x)) (A.length+p) c'=[⟨-1,(ofB (A++x)).size,c'⟩]:=by
   cases k' with
   | zero=>rfl
   | succ k'=>rw[cutF,if_neg (by omega)]
  rw[e1,e2]
  exact last c c'
 | succ k ih =>
  intro k' p c c' h h'
  by_cases hp:p<(ofB x).size
  ·obtain⟨k',rfl⟩:∃ q,k'=q+1:=⟨k' - 1,by omega⟩
   have hu:=uV_ok hp
   have e1:cutF (k+1) (ofB x) p c=⟨(uV (ofB x) p).1,p,c⟩ :: cutF k (ofB x) (p+(uV (ofB x) p).2) (if (uV (ofB x) p).1=10 then 0 else c+1):=by rw[cutF,if_pos hp]
   have e2:cutF (k'+1) (ofB (A++x)) (A.length+p) c'=⟨(uV (ofB x) p).1,A.length+p,c'⟩ :: cutF k' (ofB (A++x)) (A.length+p+(uV (ofB x) p).2) (if (uV (ofB x) p).1=10 then 0 else c'+1):=by rw[cutF,if_pos (by omega),uV_app]
   rw[e1,e2]
   have hr:=ih k' (p+(uV (ofB x) p).2) (if (uV (ofB x) p).1=10 then 0 else c+1) (if (uV (ofB x) p).1=10 then 0 else c'+1) (by omega) (by omega)
   rw[← Nat.add_assoc] at hr
   refine⟨?_,fun i=>?_,fun i hi=>?_⟩
   ·have:=hr.len
    simp only[List.length_cons];omega
   ·cases i with
    | zero=>rfl
    | succ i =>
     have:=hr.x i
     simpa using this
   ·cases i with
    | zero=>simp;omega
    | succ i =>
     have:=hr.pos i (by simpa using hi)
     simpa using this
  ·have e1:cutF (k+1) (ofB x) p c=[⟨-1,(ofB x).size,c⟩]:=by rw[cutF,if_neg hp]
   have e2:cutF k' (ofB (A++x)) (A.length+p) c'=[⟨-1,(ofB (A++x)).size,c'⟩]:=by
    cases k' with
    | zero=>rfl
    | succ k'=>rw[cutF,if_neg (by omega)]
   rw[e1,e2]
   exact last c c'
theorem cutF_from:∀ (k:Nat) (s:ByteArray) (p c:Nat),s.size - p≤k→p≤s.size→∀ u∈cutF k s p c,∃ pre k' c',cutF k s p c=pre++cutF k' s u.pos c'∧s.size - u.pos≤k'∧∀ v∈pre,v.pos<u.pos:=by
 intro k
 induction k with
 | zero =>
  intro s p c h hp u hu
  have e:cutF 0 s p c=[⟨-1,s.size,c⟩]:=rfl
  rw[e,List.mem_singleton] at hu
  subst hu
  exact⟨[],0,c,rfl,by show s.size - s.size≤0;omega,fun v hv=>by cases hv⟩
 | succ k ih =>
  intro s p c h hp u hu
  by_cases hlt:p<s.size
  ·have hv:=uV_ok hlt
   rw[cutF,if_pos hlt] at hu
   rcases List.mem_cons.1 hu with rfl | hu
   ·exact⟨[],k+1,c,rfl,h,fun v hv=>by cases hv⟩
   ·obtain⟨pre,k',c',e,h1,h2⟩:=ih s _ _ (by omega) (by omega) u hu
    have h3:=(cutF_rise k s (p+(uV s p).2) (if (uV s p).1=10 then 0 else c+1) (by omega) (by omega)).2 u hu
    refine⟨⟨(uV s p).1,p,c⟩ :: pre,k',c',by rw[cutF,if_pos hlt,e];rfl,h1,fun v hv'=>?_⟩
    rcases List.mem_cons.1 hv' with rfl | q
    ·simp only;omega
    ·exact h2 v q
  ·have e:cutF (k+1) s p c=[⟨-1,s.size,c⟩]:=by rw[cutF,if_neg hlt]
   rw[e,List.mem_singleton] at hu
   subst hu
   exact⟨[],k+1,c,by rw[e,cutF,if_neg (Nat.lt_irrefl _)];rfl,by show s.size - s.size≤_;omega,fun v hv=>by cases hv⟩
theorem cutV_app(A x:List UInt8)(h:∃ u∈cutV (ofB (A++x)),u.pos=A.length):∃ a,a<(cutV (ofB (A++x))).length∧((cutV (ofB (A++x))).getD a default).pos=A.length∧ShU A.length a (cutV (ofB x)) (cutV (ofB (A++x))):=by
 obtain⟨u,hu,hp⟩:=h
 obtain⟨pre,k',c',e,h1,h2⟩:=cutF_from _ (ofB (A++x)) 0 0 (by omega) (Nat.zero_le _) u hu
 have e:cutV (ofB (A++x))=pre++cutF k' (ofB (A++x)) u.pos c':=e
 rw[hp] at e h1
 have hsh:=cutF_app A x (ofB x).size k' 0 0 c' (by omega) (by rw[ofB_size] at h1 ⊢;rw[List.length_append] at h1;omega)
 rw[Nat.add_zero] at hsh
 have gd:∀ i,(cutV (ofB (A++x))).getD (pre.length+i) default=(cutF k' (ofB (A++x)) A.length c').getD i default:=fun i=>by
  rw[e,List.getD_eq_getElem?_getD,List.getD_eq_getElem?_getD,List.getElem?_append_right (by omega),Nat.add_sub_cancel_left]
 have hne:=cutF_ne (ofB x).size (ofB x) 0 0
 have hsh':ShU A.length pre.length (cutV (ofB x)) (cutV (ofB (A++x))):=by
  refine⟨by rw[e,List.length_append];have:=hsh.len;unfold cutV;omega,fun i=>?_,fun i hi=>?_⟩
  ·rw[gd]
   have:=hsh.x i
   rw[Nat.zero_add] at this
   exact this
  ·rw[gd]
   have:=hsh.pos i hi
   rw[Nat.zero_add] at this
   exact this
 refine⟨pre.length,by have:=hsh'.len;unfold cutV at this ⊢;omega,?_,hsh'⟩
 have h0:=hsh'.pos 0 hne
 rw[Nat.add_zero] at h0
 rw[h0]
 have:((cutV (ofB x)).getD 0 default).pos=0:=by
  unfold cutV
  cases hx:(ofB x).size with
  | zero=>simp[cutF,hx]
  | succ k=>unfold cutF;rw[if_pos (by omega)];rfl
 omega
def shT (a:Nat)(t:Tr):Tr:=⟨t.st,t.pos+a,t.acts⟩
def shE (a:Nat)(y:En):En:=⟨y.pos+a,y.acts⟩
def shS (a:Nat)(s:Seen):Seen:=s.map fun p=>(p.1,p.2+a)
theorem mem_shS{a s p:Nat}{S:Seen}:(s,p+a)∈shS a S↔(s,p)∈S:=by
 unfold shS
 constructor
 ·intro h
  obtain⟨q,hq,e⟩:=List.mem_map.1 h
  simp only[Prod.mk.injEq] at e
  obtain⟨e1,e2⟩:=e
  have:q=(s,p):=Prod.ext e1 (by simp only;omega)
  rw[← this];exact hq
 ·intro h;exact List.mem_map.2 ⟨_,h,rfl⟩
theorem shS_snoc(a:Nat)(S:Seen)(s p:Nat):shS a S++[(s,p+a)]=shS a (S++[(s,p)]):=by simp[shS]
section
variable {n:Nt} {o:List Orc} {l1 l2:List Un} {md:Int} {d a:Nat} (sh:ShU d a l1 l2) (ng:∀ s,∀ e∈(n.states.getD s default).edges,e.op.1≠3)
include sh ng
theorem goU_sh{s:Nat}{e:Ed}(he:e∈(n.states.getD s default).edges)(p:Nat):goU o l2 md e (p+a)=goU o l1 md e p:=by
 unfold goU
 have h3:=ng s e he
 rw[if_neg h3,if_neg h3]
 have hx:=sh.x p
 rw[Nat.add_comm] at hx
 rw[hx]
theorem tgt_sh{s:Nat}{e:Ed}(he:e∈(n.states.getD s default).edges){E1 E2:Nat→Nat→List En}(hE:∀ r p,E2 r (p+a)=(E1 r p).map (shE a))(t:Tr):tgtV o l2 md E2 e (shT a t)=(tgtV o l1 md E1 e t).map (shT a):=by
 unfold tgtV
 by_cases h2:e.op.1=2
 ·rw[if_pos h2,if_pos h2]
  show (E2 _ (t.pos+a)).map _=_
  rw[hE,List.map_map,List.map_map]
  rfl
 ·rw[if_neg h2,if_neg h2]
  show (if goU o l2 md e (t.pos+a)=true then _ else _)=_
  rw[goU_sh sh ng he]
  split
  ·by_cases h1:e.op.1=1
   ·simp only[if_pos h1,List.map_cons,List.map_nil,shT]
    rw[show t.pos+a+1=t.pos+1+a by omega]
   ·simp only[if_neg h1,List.map_cons,List.map_nil,shT]
  ·rfl
theorem next_sh{E1 E2:Nat→Nat→List En}(hE:∀ r p,E2 r (p+a)=(E1 r p).map (shE a))(t:Tr):nextV n o l2 md E2 (shT a t)=(nextV n o l1 md E1 t).map (shT a):=by
 unfold nextV
 show ((n.states.getD t.st default).edges.flatMap _)=_
 rw[List.map_flatMap]
 have:∀ (es:List Ed),(∀ e∈es,e∈(n.states.getD t.st default).edges)→es.flatMap (fun e=>tgtV o l2 md E2 e (shT a t))=es.flatMap fun e=>(tgtV o l1 md E1 e t).map (shT a):=by
  intro es
  induction es with
  | nil=>intro _;rfl
  | cons e es ih =>
   intro h
   rw[List.flatMap_cons,List.flatMap_cons,tgt_sh sh ng (h e (by simp)) hE,ih fun e he=>h e (by simp[he])]
 exact this _ fun e he=>he
theorem run_sh{f g:Tr→Seen→Seen × List En}(h:∀ t s,g (shT a t) (shS a s)=(shS a (f t s).1,(f t s).2.map (shE a))):∀ (ts:List Tr) (s:Seen),runL g (ts.map (shT a)) (shS a s)=(shS a (runL f ts s).1,(runL f ts s).2.map (shE a))
 | [],s=>rfl
 | t :: ts,s=>by
  have _:=sh
  have _:=ng
  simp only[List.map_cons,runL,h]
  rw[run_sh h ts]
  simp only[List.map_append]
theorem w_sh:∀ (k r:Nat) (t:Tr) (s:Seen),wF n o l2 md k r (shT a t) (shS a s)=(shS a (wF n o l1 md k r t s).1,(wF n o l1 md k r t s).2.map (shE a)):=by
 intro k
 induction k with
 | zero=>intro r t s;rfl
 | succ k ih =>
  intro r t s
  unfold wF
  show (if (t.st,t.pos+a)∈shS a s then _ else _)=_
  by_cases h1:(t.st,t.pos)∈s
  ·rw[if_pos h1,if_pos (mem_shS.2 h1)];rfl
  ·rw[if_neg h1,if_neg fun q=>h1 (mem_shS.1 q)]
   show (if t.st=spN n r then (shS a s++[(t.st,t.pos+a)],[⟨t.pos+a,t.acts⟩]) else runL _ _ (shS a s++[(t.st,t.pos+a)]))=_
   rw[shS_snoc]
   by_cases h2:t.st=spN n r
   ·rw[if_pos h2,if_pos h2];rfl
   ·rw[if_neg h2,if_neg h2]
    have hE:∀ r' p,(wF n o l2 md k r' ⟨stN n r',p+a,[]⟩ []).2=((wF n o l1 md k r' ⟨stN n r',p,[]⟩ []).2).map (shE a):=fun r' p=>by
     have:=ih r' ⟨stN n r',p,[]⟩ []
     have e:wF n o l2 md k r' ⟨stN n r',p+a,[]⟩ []=_:=this
     rw[e]
    rw[next_sh sh ng (E1:=fun r' p=>(wF n o l1 md k r' ⟨stN n r',p,[]⟩ []).2) hE]
    exact run_sh sh ng (fun t s=>ih r t s) _ _
theorem e_sh(k r p:Nat):eF n o l2 md k r (p+a)=(eF n o l1 md k r p).map (shE a):=by
 have:=w_sh (o:=o) (md:=md) sh ng k r ⟨stN n r,p,[]⟩ []
 have e:wF n o l2 md k r ⟨stN n r,p+a,[]⟩ []=_:=this
 unfold eF
 rw[e]
theorem best_sh(lz:Bool)(ys:List En):bestV lz (ys.map (shE a))=(bestV lz ys).map (shE a):=by
 have _:=sh
 have _:=ng
 have key:∀ (ys:List En) (y:En),(ys.map (shE a)).foldl (stepB lz) (shE a y)=shE a (ys.foldl (stepB lz) y):=by
  intro ys
  induction ys with
  | nil=>intro y;rfl
  | cons z ys ih =>
   intro y
   rw[List.map_cons,List.foldl_cons,List.foldl_cons,← ih]
   congr 1
   unfold stepB
   show (if y.pos+a<z.pos+a∧lz=false then _ else _)=_
   by_cases h:y.pos<z.pos∧lz=false
   ·rw[if_pos h,if_pos ⟨by omega,h.2⟩]
   ·rw[if_neg h,if_neg fun q=>h ⟨by omega,q.2⟩]
 cases ys with
 | nil=>rfl
 | cons y ys=>simp only[List.map_cons,bestV,Option.map_some,key]
theorem props_sh(k p R:Nat):propsV n o l2 md k (p+a) R=(propsV n o l1 md k p R).map fun q=>(q.1,shE a q.2):=by
 unfold propsV
 rw[List.map_filterMap]
 congr 1
 funext i
 unfold propV
 split
 ·rw[e_sh sh ng,best_sh sh ng]
  cases bestV (n.rules.getD i default).lz (eF n o l1 md k i p) <;> rfl
 ·rfl
theorem pick_sh(ps:List (Nat × En)):pickV (ps.map fun q=>(q.1,shE a q.2))=(pickV ps).map fun q=>(q.1,shE a q.2):=by
 have _:=sh
 have _:=ng
 have key:∀ (ps:List (Nat × En)) (b:Nat × En),(ps.map fun q=>(q.1,shE a q.2)).foldl stepP (b.1,shE a b.2)=((ps.foldl stepP b).1,shE a (ps.foldl stepP b).2):=by
  intro ps
  induction ps with
  | nil=>intro b;rfl
  | cons z ps ih =>
   intro b
   rw[List.map_cons,List.foldl_cons,List.foldl_cons,← ih]
   congr 1
   unfold stepP
   show (if b.2.pos+a<z.2.pos+a then _ else _)=_
   by_cases h:b.2.pos<z.2.pos
   ·rw[if_pos h,if_pos (by omega)]
   ·rw[if_neg h,if_neg (by omega)]
 cases ps with
 | nil=>rfl
 | cons p ps=>simp only[List.map_cons,pickV,Option.map_some,key]
theorem nextT_sh(k:Nat)(hall:∀ p∈propsV n o l1 md k 0 n.rules.length,p.2.pos<l1.length)(at':Int)(hat:at'=(d:Int)):nextT n o l2 md k a at'=nextT n o l1 md k 0 0:=by
 have hp:=props_sh (o:=o) (md:=md) sh ng k 0 n.rules.length
 rw[Nat.zero_add] at hp
 unfold nextT
 rw[hp,pick_sh sh ng]
 cases h:pickV (propsV n o l1 md k 0 n.rules.length) with
 | none=>rfl
 | some b =>
  simp only[Option.map_some]
  have hb:=hall b (pickV_far h (propsV_rise n o l1 md k 0 _)).1
  have:=sh.pos _ hb
  show ((b.1:Int),((l2.getD (b.2.pos+a) default).pos:Int) - at',b.2.acts,(0:Int))=_
  rw[Nat.add_comm b.2.pos a,this,hat]
  simp only[Prod.mk.injEq,true_and,and_true]
  omega
end
theorem noGuard{n:Nt}(h:asks16 n=false):∀ s,∀ e∈(n.states.getD s default).edges,e.op.1≠3:=fun s e he q=>by
 rcases Nat.lt_or_ge s n.states.length with hs | hs
 ·have:asks16 n=true:=by
   unfold asks16
   exact List.any_eq_true.2 ⟨_,getD_mem hs,List.any_eq_true.2 ⟨e,he,by unfold gdE;exact decide_eq_true q⟩⟩
  rw[h] at this;cases this
 ·have:n.states.getD s default=default:=by rw[List.getD_eq_getElem?_getD,List.getElem?_eq_none hs];rfl
  rw[this] at he;cases he
theorem fix_two{n:Nt}{o:List Orc}{md:Int}(ok:NtOk n)(hok:okV n=true)(l1 l2:List Un)(u1:UnOk l1)(u2:UnOk l2):∃ k,FixK n o l1 md k∧FixK n o l2 md k:=by
 obtain⟨rk,hrk⟩:=rank_ex ok hok
 obtain⟨R,hR⟩:=rk_bound rk n.states.length
 have w:=(okV_wf hok).1
 exact⟨(l1.length+1) * (R+1)+(l2.length+1) * (R+1),fix_of w u1 hrk hR (by omega),fix_of w u2 hrk hR (by omega)⟩
end Go.Proofs.YtgbbhilflgekhaaDoor
end
section
namespace Go.Proofs.YtgbbhilflgekhaaDoor
open Go Go.Ab
set_option maxRecDepth 20000
set_option maxHeartbeats 4000000
theorem wk_wit{σ σ':St}{s0:Nat}{L:List (Nat × List Value)}{a0:AV}(h0:lk σ.slots s0=some (.wit L a0))(hs:∀ p∈σ'.slots,lk σ.slots p.1=some p.2∨∃ xs f,lk σ.slots p.1=some (.vec xs f)∧p.2 = .wit L (.vec xs f))
  (hb:∀ i c,lk σ'.hp.boxes i=some c→lk σ.hp.boxes i=some c) (ht:∀ i c,lk σ'.hp.toks i=some c→lk σ.hp.toks i=some c) (hn:σ'.hp.nx=σ.hp.nx) (hnt:σ'.nt=σ.nt):St.wk σ σ':=fun _ _ _ g _ _ r=>by
 refine⟨g,r.st.less hn hb ht,fun s v e=>?_,r.nt.trans hnt.symm,r.defers⟩
 rcases hs _ (lk_mem e) with q | ⟨xs,f,q1,q2⟩
 ·exact r.slots s v q
 ·simp only at q1 q2
  subst q2
  obtain⟨u,e1,e2⟩:=r.slots s _ q1
  obtain⟨u0,_,e3⟩:=r.slots s0 _ h0
  refine⟨u,e1,?_⟩
  cases e3 with
  | wit m1 _ =>
   cases e2 with
   | vecN=>exact .wit m1 .vecN
   | vecE q=>exact .wit m1 (.vecE q)
   | vec F q1 q2 q3 q4 q5=>exact .wit m1 (.vec F q1 q2 q3 q4 q5)
theorem behind_law(L:List (Nat × List Value))(n:Nt)(A x:List UInt8)(hL:∀ y,TabFor L y)(md:Int)(ok:NtOk n)(hA:A.length≤1000000000)(hx:x.length≤1000000000)(ha:∀ s,∀ e∈(n.states.getD s default).edges,e.acts.length≤actA)
  (hmd : -9223372036854775808≤md∧md≤9223372036854775807) :
  PCall Tryd.prog 3 [.agg (encN n),.vec (A.map encBy) false,inV L x false,.lit (.int .i64 md)] (.lit (.bool true)):=by
 refine PCall_of_SCall (SCall_introK Tryd.func3 rfl Tryd.ntmps3 (rs:=[.tmp 8]) rfl (by simp) ?_)
 have hgr:=great16_spec L n x false true [] ok hx (by decide)
 have hasks:=asks16_spec n ok
 have gN:GP (.agg (encN n)):=.of_pure (.agg (pure_encN _))
 have pN:Ab.Pure (.agg (encN n)):=.agg (pure_encN _)
 have pO:Ab.Pure (.vec [] true):=.vec (by simp)
 have pO2:Ab.Pure (.vec [] false):=.vec (by simp)
 have pI:=pure_inV L x false
 obtain⟨g16,hg16⟩:∃ v,gr16 n x.length []=v:=⟨_,rfl⟩
 rw[hg16] at hgr
 obtain⟨q16,hq16⟩:∃ v,asks16 n=v:=⟨_,rfl⟩
 rw[hq16] at hasks
 refine aw_seq ?_
 refine aw_of ?_
 unfold inV at hgr pI ⊢
 simp -implicitDefEqProofs (disch:=omega) only[Wz,seval,encU_length,encU_take,encEn_length,encEn_take,encTr_length,encTr_take,List.append_eq,List.cons_append,List.nil_append]
 refine aw_seq ?_
 refine aw_of ?_
 simp -implicitDefEqProofs (disch:=omega) only[Wz,seval,encU_length,encU_take,encEn_length,encEn_take,encTr_length,encTr_take,List.append_eq,List.cons_append,List.nil_append,encN_length,encN_take]
 refine CallK_k call5 hgr (allc gN (allc (.of_pure pI) (allc (.of_pure pO) alln))) (.lit _) ?_
 cases g16 with
 | true =>
  simp -implicitDefEqProofs (disch:=omega) only[Wz,seval,encU_length,encU_take,encEn_length,encEn_take,encTr_length,encTr_take,List.append_eq,List.cons_append,List.nil_append]
  refine CallK_pure call7 wakes_spec alln (.lit _) ?_
  simp -implicitDefEqProofs (disch:=omega) only[Wz,seval,encU_length,encU_take,encEn_length,encEn_take,encTr_length,encTr_take,List.append_eq,List.cons_append,List.nil_append]
  exact expo_pure (.lit _)
 | false =>
 by_cases hA2:200<A.length
 ·simp -implicitDefEqProofs (disch:=omega) only[Wz,seval,encU_length,encU_take,encEn_length,encEn_take,encTr_length,encTr_take,List.append_eq,List.cons_append,List.nil_append]
  refine CallK_pure call7 wakes_spec alln (.lit _) ?_
  simp -implicitDefEqProofs (disch:=omega) only[Wz,seval,encU_length,encU_take,encEn_length,encEn_take,encTr_length,encTr_take,List.append_eq,List.cons_append,List.nil_append]
  exact expo_pure (.lit _)
 simp -implicitDefEqProofs (disch:=omega) only[Wz,seval,encU_length,encU_take,encEn_length,encEn_take,encTr_length,encTr_take,List.append_eq,List.cons_append,List.nil_append,encN_length,encN_take]
 refine CallK_pure call6 hasks (allc pN alln) (.lit _) ?_
 cases q16 with
 | true =>
  simp -implicitDefEqProofs (disch:=omega) only[Wz,seval,encU_length,encU_take,encEn_length,encEn_take,encTr_length,encTr_take,List.append_eq,List.cons_append,List.nil_append]
  refine CallK_pure call7 wakes_spec alln (.lit _) ?_
  simp -implicitDefEqProofs (disch:=omega) only[Wz,seval,encU_length,encU_take,encEn_length,encEn_take,encTr_length,encTr_take,List.append_eq,List.cons_append,List.nil_append]
  exact expo_pure (.lit _)
 | false =>
 obtain⟨mu,hx3,ho1⟩:=mu_of hg16 ha
 have ng:=noGuard hq16
 simp -implicitDefEqProofs (disch:=omega) only[Wz,seval,encU_length,encU_take,encEn_length,encEn_take,encTr_length,encTr_take,List.append_eq,List.cons_append,List.nil_append]
 have one1:∀ l:List UInt8,(∀ q,q∈l.map encBy→q.length=1)=True:=fun l=>by
  simp only[eq_iff_iff,iff_true]
  intro q hq
  obtain⟨b,_,rfl⟩:=List.mem_map.1 hq;rfl
 refine aw_seq_cut (fun σ=>∃ m,1≤m∧σ=⟨[(1,.vec (A.map encBy) false),(2,.wit L (.vec (x.map encBy) false)),(3,.lit (.int .i64 md)),(4,.ptr 0 0),(9,.wit L (.vec ((A++x).map encBy) false))],⟨[(0,encN n)],[],m⟩,86⟩) ?_ ?_
 ·refine aw_of ?_
  have hf:∀ k,k≤1000→fits k 1=True:=fun k hk=>eq_true (fits_of' (by omega) (by omega))
  have nil1:(∀ q:List AV,q∈[]→q.length=1)=True:=by simp
  have fin:∀ (sl:List (Nat × AV)) (t:Nat) (rows:List (List AV)) (m:Nat),1≤m→lk sl 1=some (.vec (A.map encBy) false)→lk sl 2=some (.wit L (.vec (x.map encBy) false))→lk sl 3=some (.lit (.int .i64 md))→lk sl 4=some (.ptr 0 0)→lk sl 9=some (.own t rows.length)→rows=(A++x).map encBy →
    ∃ σ2,St.wk ⟨sl,⟨[(0,encN n)],[(t,⟨rows,0,1⟩)],m⟩,86⟩ σ2∧∃ m,1≤m∧σ2=⟨[(1,.vec (A.map encBy) false),(2,.wit L (.vec (x.map encBy) false)),(3,.lit (.int .i64 md)),(4,.ptr 0 0),(9,.wit L (.vec ((A++x).map encBy) false))],⟨[(0,encN n)],[],m⟩,86⟩:=fun sl t rows m hm1 e1 e2 e3 e4 e9 er=>by
   refine⟨_,?_,m,hm1,rfl⟩
   refine(wk_frz (σ:=⟨sl,⟨[(0,encN n)],[(t,⟨rows,0,1⟩)],m⟩,86⟩) (σ':=⟨[(1,.vec (A.map encBy) false),(2,.wit L (.vec (x.map encBy) false)),(3,.lit (.int .i64 md)),(4,.ptr 0 0),(9,.vec rows false)],⟨[(0,encN n)],[],m⟩,86⟩) (t:=t) (k:=⟨rows,0,1⟩) (by simp[lk]) rfl rfl
    (allc ⟨_,e1,.inl rfl⟩ (allc ⟨_,e2,.inl rfl⟩ (allc ⟨_,e3,.inl rfl⟩ (allc ⟨_,e4,.inl rfl⟩ (allc ⟨_,e9,.inr ⟨rfl,rfl⟩⟩ alln))))) (fun _ _ e=>e) (fun _ _ e=>by cases e)).trans ?_
   refine wk_wit (s0:=2) (L:=L) rfl (allc (.inl rfl) (allc (.inl rfl) (allc (.inl rfl) (allc (.inl rfl) (allc (.inr ⟨_,_,rfl,by rw[er]⟩) alln))))) (fun _ _ e=>e) (fun _ _ e=>e) rfl rfl
  rcases Nat.eq_zero_or_pos A.length with hA0 | hA0
  ·have:A=[]:=List.length_eq_zero_iff.1 hA0
   subst this
   rcases Nat.eq_zero_or_pos x.length with hx0 | hx0
   ·have:x=[]:=List.length_eq_zero_iff.1 hx0
    subst this
    simp -implicitDefEqProofs (disch:=omega) only[Wz,seval,encU_length,encU_take,encEn_length,encEn_take,encTr_length,encTr_take,List.append_eq,List.cons_append,List.nil_append,nil1,hf,if_true,true_and,List.length_nil,List.map_nil]
    refine⟨_,?_,1,Nat.le_refl _,rfl⟩
    refine St.wk.trans (σ':=⟨[(1,.vec [] false),(2,.wit L (.vec [] false)),(3,.lit (.int .i64 md)),(4,.ptr 0 0),(9,.vec [] false)],⟨[(0,encN n)],[],1⟩,86⟩) (St.wk_conv rfl rfl (fun g g' e=>allc ⟨_,rfl,cv_refl e _⟩ (allc ⟨_,rfl,cv_refl e _⟩ (allc ⟨_,rfl,cv_refl e _⟩ (allc ⟨_,rfl,cv_refl e _⟩ (allc ⟨_,rfl,cv_full e _ _⟩ alln))))) (fun g g' e=>allc ⟨_,rfl,cvL_refl e _⟩ alln) (fun g=>alln)) ?_
    exact wk_wit (s0:=2) (L:=L) rfl (allc (.inl rfl) (allc (.inl rfl) (allc (.inl rfl) (allc (.inl rfl) (allc (.inr ⟨_,_,rfl,rfl⟩) alln))))) (fun _ _ e=>e) (fun _ _ e=>e) rfl rfl
   ·have hx1:(x.length=0)=False:=eq_false (by omega)
    simp -implicitDefEqProofs (disch:=omega) only[Wz,seval,encU_length,encU_take,encEn_length,encEn_take,encTr_length,encTr_take,List.append_eq,List.cons_append,List.nil_append,nil1,hf,one1,hx1,if_true,if_false,true_and,List.length_nil,List.map_nil,List.length_map]
    refine fin _ _ (x.map encBy) _ (by decide) rfl rfl rfl rfl (by simp[lk]) rfl
  ·have hA1:(A.length=0)=False:=eq_false (by omega)
   simp -implicitDefEqProofs (disch:=omega) only[Wz,seval,encU_length,encU_take,encEn_length,encEn_take,encTr_length,encTr_take,List.append_eq,List.cons_append,List.nil_append,nil1,hf,one1,hA1,if_true,if_false,true_and,List.length_nil,List.map_nil,List.length_map]
   refine fin _ _ (A.map encBy++x.map encBy) _ (by decide) rfl rfl rfl rfl (by simp[lk]) (by rw[List.map_append])
 rintro _ ⟨m,hm1,rfl⟩
 have hcut:=refCut_spec L (A++x) false (by rw[List.length_append];omega)
 have hgx:=fun p h=>index_spec L (A++x) false (cutV (ofB (A++x))) p h
 have hlen2:=cutV_len (ofB (A++x))
 rw[ofB_size,List.length_append] at hlen2
 have pH:=pure_hdV L (A++x) false
 have pI2:=pure_inV L (A++x) false
 have hixa:=ixF_any (cutV (ofB (A++x))) (A.length:Int) 0
 have g1:InOk n [] x 0 md:=⟨ok,by omega,by decide,by decide,hmd⟩
 have g2:InOk n [] (A++x) (A.length:Int) md:=⟨ok,by rw[List.length_append];omega,by decide,by omega,hmd⟩
 have n1:=fun k fk=>next_spec_ok L n [] x false (hL x) 0 md g1 mu k fk
 have n2:=fun k fk=>next_spec_ok L n [] (A++x) false (hL _) (A.length:Int) md g2 mu k fk
 unfold hdV inV at hcut hgx pH
 unfold inV at pI2 n1 n2
 obtain⟨ix,hix⟩:∃ ix,ixF (cutV (ofB (A++x))) (A.length:Int) 0=ix:=⟨_,rfl⟩
 have hgx0:=hgx (A.length:Int) (by omega)
 rw[hix] at hixa hgx0
 refine aw_seq ?_
 refine aw_of ?_
 simp -implicitDefEqProofs (disch:=omega) only[Wz,seval,encU_length,encU_take,encEn_length,encEn_take,encTr_length,encTr_take,List.append_eq,List.cons_append,List.nil_append]
 refine CallK_pure call8 hcut (allc pI2 alln) (.agg (pH _)) ?_
 simp -implicitDefEqProofs (disch:=omega) only[Wz,seval,encU_length,encU_take,encEn_length,encEn_take,encTr_length,encTr_take,List.append_eq,List.cons_append,List.nil_append]
 refine aw_seq ?_
 refine aw_of ?_
 simp -implicitDefEqProofs (disch:=omega) only[Wz,seval,encU_length,encU_take,encEn_length,encEn_take,encTr_length,encTr_take,List.append_eq,List.cons_append,List.nil_append]
 refine CallK_pure call9 hgx0 (allc (.agg (pH _)) (allc (.lit _) alln)) (.lit _) ?_
 by_cases h0:ix<0
 ·simp -implicitDefEqProofs (disch:=omega) only[Wz,seval,encU_length,encU_take,encEn_length,encEn_take,encTr_length,encTr_take,List.append_eq,List.cons_append,List.nil_append]
  refine CallK_pure call7 wakes_spec alln (.lit _) ?_
  simp -implicitDefEqProofs (disch:=omega) only[Wz,seval,encU_length,encU_take,encEn_length,encEn_take,encTr_length,encTr_take,List.append_eq,List.cons_append,List.nil_append]
  exact expo_pure (.lit _)
 rw[decide_eq_true (by omega)] at hixa
 obtain⟨u,hu,hup⟩:=List.any_eq_true.1 hixa.symm
 have hup:(u.pos:Int)=(A.length:Int):=of_decide_eq_true hup
 obtain⟨a,hal,hia,hsh⟩:=cutV_app A x ⟨u,hu,by omega⟩
 have key:∃ k t,(okV n=true→FixK n [] (cutV (ofB x)) md k)∧(okV n=true→FixK n [] (cutV (ofB (A++x))) md k)∧t.2.2.1.length≤4000000000000 ∧
   (if okV n=true∧(0≤md∧md<(n.modes.length:Int))∧∃ u∈cutV (ofB x),(u.pos:Int)=0 then nextA (nextT n [] (cutV (ofB x)) md k (ixV (cutV (ofB x)) 0) 0) else nextA (0,0,[],if okV n then 2 else 110))=nextA t ∧
   (if okV n=true∧(0≤md∧md<(n.modes.length:Int))∧∃ u∈cutV (ofB (A++x)),(u.pos:Int)=(A.length:Int) then nextA (nextT n [] (cutV (ofB (A++x))) md k (ixV (cutV (ofB (A++x))) (A.length:Int)) (A.length:Int)) else nextA (0,0,[],if okV n then 2 else 110))=nextA t:=by
  cases hok:okV n with
  | false =>
   refine⟨0,(0,0,[],110),fun q=>(by cases q),fun q=>(by cases q),Nat.zero_le _,?_,?_⟩
   ·rw[if_neg (fun q=>by cases q.1)];rfl
   ·rw[if_neg (fun q=>by cases q.1)];rfl
  | true =>
   obtain⟨k,f1,f2⟩:=fix_two (o:=[]) (md:=md) ok hok (cutV (ofB x)) (cutV (ofB (A++x))) (cutV_ok _) (cutV_ok _)
   by_cases hm:0≤md∧md<(n.modes.length:Int)
   ·have w:=(okV_wf hok).1
    have hne:=cutF_ne (ofB x).size (ofB x) 0 0
    have i0:ixV (cutV (ofB x)) 0=0:=by
     obtain⟨v,hv,e⟩:=cut_start x
     refine ixV_of (cutV_rise _) hne ?_
     have h0:=hsh.pos 0 hne
     rw[Nat.add_zero,hia] at h0
     omega
    have ia:ixV (cutV (ofB (A++x))) (A.length:Int)=a:=ixV_of (cutV_rise _) hal (by rw[hia])
    have hmem:=fun p (hp:p∈propsV n [] (cutV (ofB x)) md k 0 n.rules.length)=>propsV_mem hp
    have hall:∀ p∈propsV n [] (cutV (ofB x)) md k 0 n.rules.length,p.2.pos<(cutV (ofB x)).length:=fun p hp=>by
     obtain⟨q1,q2,q3⟩:=hmem p hp
     exact(e_out w (cutV_ok _) q1 hne _ q3).2.1
    have hsame:=nextT_sh (o:=[]) (md:=md) hsh ng k hall (A.length:Int) rfl
    refine⟨k,nextT n [] (cutV (ofB x)) md k 0 0,fun _=>f1,fun _=>f2,?_,?_,?_⟩
    ·unfold nextT
     cases hp:pickV (propsV n [] (cutV (ofB x)) md k 0 n.rules.length) with
     | none=>exact Nat.zero_le _
     | some b =>
      have hb:=hmem b (pickV_far hp (propsV_rise n [] _ md k 0 _)).1
      exact e_acts w (cutV_ok _) mu (cut_range g1.len).1 hb.1 hne _ hb.2.2
    ·rw[if_pos ⟨rfl,hm,cut_start x⟩,i0]
    ·rw[if_pos ⟨rfl,hm,u,hu,hup⟩,ia,hsame]
   ·refine⟨k,(0,0,[],2),fun _=>f1,fun _=>f2,Nat.zero_le _,?_,?_⟩
    ·rw[if_neg (fun q=>hm q.2.1)];rfl
    ·rw[if_neg (fun q=>hm q.2.1)];rfl
 obtain⟨k,t,f1,f2,hac,t1,t2⟩:=key
 have n1:=n1 k f1
 have n2:=n2 k f2
 rw[t1] at n1
 rw[t2] at n2
 obtain⟨r,kk,ac,e⟩:=t
 simp only at hac
 have hsam:=acts_same ac hac
 have pA:Ab.Pure (nextA (r,kk,ac,e)):=.tup (allc (.lit _) (allc (.lit _) (allc (.vec (pure_rows pure_encAct _)) (allc (.lit _) alln))))
 have pV:Ab.Pure (.vec (ac.map encAct) false):=.vec (pure_rows pure_encAct _)
 have b1:(r==r)=true:=by simp
 have b2:(kk==kk)=true:=by simp
 have b3:(e==e)=true:=by simp
 simp -implicitDefEqProofs (disch:=omega) only[Wz,seval,encU_length,encU_take,encEn_length,encEn_take,encTr_length,encTr_take,List.append_eq,List.cons_append,List.nil_append]
 refine aw_seq ?_
 refine aw_of ?_
 simp -implicitDefEqProofs (disch:=omega) only[Wz,seval,encU_length,encU_take,encEn_length,encEn_take,encTr_length,encTr_take,List.append_eq,List.cons_append,List.nil_append,encN_length,encN_take]
 refine CallK.cv (fun g=>cvL_cons (cv_refl (.refl g) _) (cvL_cons (cv_refl (.refl g) _) (cvL_cons (cv_full (.refl g) _ _) (cvL_cons (cv_refl (.refl g) _) (cvL_cons (cv_refl (.refl g) _) cvL_nil))))) ?_
 refine CallK_pure call10 n1 (allc pN (allc pI (allc pO2 (allc (.lit _) (allc (.lit _) alln))))) pA ?_
 simp -implicitDefEqProofs (disch:=omega) only[Wz,seval,encU_length,encU_take,encEn_length,encEn_take,encTr_length,encTr_take,List.append_eq,List.cons_append,List.nil_append,nextA]
 refine aw_seq ?_
 refine aw_of ?_
 simp -implicitDefEqProofs (disch:=omega) only[Wz,seval,encU_length,encU_take,encEn_length,encEn_take,encTr_length,encTr_take,List.append_eq,List.cons_append,List.nil_append,encN_length,encN_take]
 refine CallK.cv (fun g=>cvL_cons (cv_refl (.refl g) _) (cvL_cons (cv_refl (.refl g) _) (cvL_cons (cv_full (.refl g) _ _) (cvL_cons (cv_refl (.refl g) _) (cvL_cons (cv_refl (.refl g) _) cvL_nil))))) ?_
 refine CallK_pure call10 n2 (allc pN (allc pI2 (allc pO2 (allc (.lit _) (allc (.lit _) alln))))) pA ?_
 simp -implicitDefEqProofs (disch:=omega) only[Wz,seval,encU_length,encU_take,encEn_length,encEn_take,encTr_length,encTr_take,List.append_eq,List.cons_append,List.nil_append,nextA]
 refine aw_seq ?_
 refine aw_of ?_
 simp -implicitDefEqProofs (disch:=omega) only[Wz,seval,encU_length,encU_take,encEn_length,encEn_take,encTr_length,encTr_take,List.append_eq,List.cons_append,List.nil_append,b1,b2,b3]
 refine CallK_pure call11 hsam (allc pV (allc pV alln)) (.lit _) ?_
 simp -implicitDefEqProofs (disch:=omega) only[Wz,seval,encU_length,encU_take,encEn_length,encEn_take,encTr_length,encTr_take,List.append_eq,List.cons_append,List.nil_append]
 refine CallK_pure call7 wakes_spec alln (.lit _) ?_
 simp -implicitDefEqProofs (disch:=omega) only[Wz,seval,encU_length,encU_take,encEn_length,encEn_take,encTr_length,encTr_take,List.append_eq,List.cons_append,List.nil_append]
 refine aw_of ?_
 simp -implicitDefEqProofs (disch:=omega) only[Wz,seval,encU_length,encU_take,encEn_length,encEn_take,encTr_length,encTr_take,List.append_eq,List.cons_append,List.nil_append]
 exact expo_pure (.lit _)
end Go.Proofs.YtgbbhilflgekhaaDoor
end
section
namespace Go.Proofs.YtgbbhilflgekhaaDoor
open Go Go.Ab Go.RowKit Go.ChangeShapes
set_option maxRecDepth 20000
theorem contractBeh(H:Type)(en:TypeId × Value→H)(W:World)(base:Nat)(args:Array Value)(ds gs:List (DataW H))(before:List MemPlace)
  (hval:∀ (j:Nat) t v,Tryd.f3.params[j]? = some t→args[j]? = some v→Value.okWide Tryd.prog W .any base t v)
  (hW:DataW.Whole en Tryd.prog Tryd.f3.params.toList Rows.munchBehindSpec.vars false W args.toList ds gs before) (hk:Rows.uptoSmall H (ds++gs)=true) (hT:Lib.Utf8Tabs 0 1 W) :
  Calls Tryd.prog 3 args W fun e W'=>∃ v,e = .returned v∧Rows.munchBehindSpec.post en Tryd.prog Tryd.f3 false true false false W args v W':=by
 have hW':=hW
 obtain⟨p,q,hA,hV,rfl,hfz,hnd⟩:=hW
 have hA:DataW.TrodAll en Tryd.prog W 0 (fun _=>true) true Tryd.f3.params.toList args.toList ds p:=hA
 rw[Tryd.params3] at hA
 obtain⟨v0,vs0,d0,ds0,p0,q0,hargs,rfl,rfl,⟨n0,h0⟩,r0⟩:=trodAll_cons hA
 obtain⟨v1,vs1,d1,ds1,p1,q1,rfl,rfl,rfl,⟨n1,h1⟩,r1⟩:=trodAll_cons r0
 obtain⟨v2,vs2,d2,ds2,p2,q2,rfl,rfl,rfl,⟨n2,h2⟩,r2⟩:=trodAll_cons r1
 obtain⟨v3,vs3,d3,ds3,p3,q3,rfl,rfl,rfl,⟨n3,h3⟩,r3⟩:=trodAll_cons r2
 obtain⟨rfl,rfl,rfl⟩:=trodAll_nil r3
 obtain rfl:args = #[v0,v1,v2,v3]:=Array.toList_inj.1 hargs
 obtain⟨rfl,rfl⟩:=trodVars_none hV
 obtain⟨k0,av0,l0,t,rfl,b0,c0'⟩:=rs_nt n0 _ _ _ h0
 obtain⟨k1,av1,l1,y,rfl,b1⟩:=rd_bytes n1 _ _ _ h1
 obtain⟨k2,av2,l2,x,rfl,b2⟩:=rd_bytes n2 _ _ _ h2
 obtain⟨oa,ol,oc,rfl⟩:=Go.WideShapes.okWide_slice (e:=5) (by kernel_rfl) (hval 1 27 v1 (by kernel_rfl) rfl)
 obtain⟨sa,sl,sc,rfl⟩:=Go.WideShapes.okWide_slice (e:=5) (by kernel_rfl) (hval 2 27 v2 (by kernel_rfl) rfl)
 obtain⟨k3,av3,l3,z3,rfl,w3⟩:=rd_i64 n3 _ _ _ h3
 obtain⟨y3,rfl⟩:=Go.WideShapes.okWide_int (k:=.i64) (by kernel_rfl) (hval 3 3 v3 (by kernel_rfl) rfl)
 have hr3:Rep (gm (memOf W)) (.int .i64 y3) (.lit (.int .i64 z3)):=l3.2 0 _ _ rfl rfl
 have hrep1:Rep (gm (memOf W)) (.slice oa ol oc) (.vec (y.map encBy) false):=l1.2 0 _ _ rfl rfl
 have hrep2:Rep (gm (memOf W)) (.slice sa sl sc) (.vec (x.map encBy) false):=l2.2 0 _ _ rfl rfl
 have hrepW:Rep (gm (memOf W)) (.slice sa sl sc) (inV tabL x false):=.wit (tabMem hT) hrep2
 have h:Rows.uptoBulkAll [d0,d1,d2,d3]≤1048576:=of_decide_eq_true hk
 simp only[Rows.uptoBulkAll] at h
 have ok:NtOk t:=ntOk_of (by omega) c0'
 have ha:=acts_of (n:=t) (M:=1048576) (by omega)
 have e0:(encN t).length=5:=rfl
 have g0:=l0.1
 rw[e0] at g0
 obtain⟨cs0,rfl⟩:∃ cs,v0 = .agg cs:=by
  cases v0 <;> simp[Value.cells] at g0
  exact⟨_,rfl⟩
 have hrep0:Rep (gm (memOf W)) (.agg cs0) (.agg (encN t)):=.agg k0 l0.1 l0.2
 have hc:=behind_law tabL t y x (fun _=>.inl rfl) z3 ok (by omega) (by omega) ha w3
 refine(hc (memOf W) W #[.agg cs0,.slice oa ol oc,.slice sa sl sc,.int .i64 y3] (memOk_of W) (.cons hrep0 (.cons hrep1 (.cons hrepW (.cons hr3 .nil))))).mono fun e W' hh=>?_
 obtain⟨v,m',rfl,hv,_,hkeep,_,_⟩:=hh
 cases hv
 exact⟨_,rfl,law_post hW' rfl rfl (by kernel_rfl) (by kernel_rfl) (by kernel_rfl) (tb:=4) (by kernel_rfl) hkeep⟩
theorem ownBeh:ownKnob Tryd.prog.godebug=none:=by kernel_rfl
noncomputable def laidWorldB(os:Os):World :=
 let w0:=World.holding Tryd.prog os ⟨#[],#[],[]⟩
 let put (h:Array Obj) (g:Nat) (cs:Array Value):Array Obj:=h.modify g fun
  | .cells _ t frozen=>.cells cs t frozen
  | o=>o
 let h1:=put w0.heap 0 (Lib.firstTab.map fun z=>Value.int .u8 z).toArray
 let h2:=put h1 1 ((List.range 16).flatMap fun i=>[Value.int .u8 (Lib.accLo i),Value.int .u8 (Lib.accHi i)]).toArray
 {w0 with heap:=h2}
theorem laidMetB(os:Os)(args:Array Value):laidMet Tryd.prog Rows.munchBehindUptoRow.laid ((laidWorldB os).forCall (fun _ _=>0) ⟨#[],args,[]⟩).memory :=
 (LaidIn.of_run (l:=Rows.munchBehindUptoRow.laid) [0,1] 8 (by kernel_rfl) (by kernel_rfl) (by kernel_rfl) (by kernel_rfl)).met
noncomputable def witB:Array Value := #[.agg #[.slice none 0 0,.slice none 0 0,.slice none 0 0,.slice none 0 0,.slice none 0 0],.slice none 0 0,.slice none 0 0,.int .i64 0]
theorem readsB(os:Os){H:Type}(en:TypeId × Value→H):∃ places,DataW.whole en Tryd.prog ((laidWorldB os).forCall (fun _ _=>0) ⟨#[],witB,[]⟩).memory Tryd.f3.params.toList Rows.munchBehindSpec.vars false witB.toList 8=some ([.agg [.nil,.nil,.nil,.nil,.nil],.nil,.nil,.lit (.int .i64 0)],[],places) :=
 ⟨[],by kernel_rfl⟩
set_option maxRecDepth 100000 in
theorem liftedBeh(os:Os)(started:os.Started)(H:Type)(en:TypeId × Value→H)(F:Stop.Interp) :
  ReturnsInHanded {} Tryd.checked os 3 .any ((Rows.OpenSpec.upto Rows.munchBehindSpec).preRow en Tryd.prog Tryd.f3 Rows.munchBehindUptoRow.domain false Rows.munchBehindUptoRow.laid) (((Rows.OpenSpec.upto Rows.munchBehindSpec).at F).post en Tryd.prog Tryd.f3 false true false false):=by
 obtain⟨places,hx⟩:=readsB os en
 refine returnsInHanded_of_row (C:=Tryd.checked) (s:=Rows.OpenSpec.upto Rows.munchBehindSpec) ownBeh started (by kernel_rfl) Tryd.func3
  (witness_row_atRef (enc:=en) (C:=Tryd.checked) false (laidWorldB os) witB rfl (by kernel_rfl) (by kernel_rfl) (by kernel_rfl)
   (OpenSpec.preRow_of_cond 8 hx (by kernel_rfl) (fun k hk=>by cases hk;kernel_rfl) (by kernel_rfl) (laidMetB os _))) ?_
 intro W base args ds gs before hval hW _ hcond _ hL _ _
 exact contractBeh H en W base args ds gs before hval hW (hcond _ rfl) (tabLaid hL)
theorem munchBehind_row:Rows.MunchBehindUptoSaid :=
 OpenClaim.holds_of_cond 3 Tryd.f3 rfl rfl rfl rfl rfl rfl rfl ⟨rfl,rfl,rfl,rfl,rfl⟩ rfl rfl rfl rfl rfl (by kernel_rfl) Tryd.func3 (by kernel_rfl)
  (of_decide_eq_true (by kernel_rfl)) (by unfold Func.isWrapper;first | (rw[if_pos (by decide +kernel)];kernel_rfl) | (rw[if_neg (by decide +kernel)];exact⟨rfl,rfl⟩))
  (fun os started H en _ F=>by rw[OpenClaim.pre_eq_preRow];exact liftedBeh os started H en F)
theorem plainBeh(f:FuncId)(fn:Func)(hf:Tryd.pinned.checked.prog.funcNamed "pollard/pollardlaw16.MunchBehind" = some f)(hfn:Tryd.pinned.checked.prog.funcs[f]? = some fn) :
  false=Tryd.pinned.checked.prog.looks []∧∀ (j:Nat) t,fn.params[j]? = some t→Tryd.pinned.checked.prog.wantsStandIn t=false:=by
 obtain rfl:f=3:=Option.some.inj ((show Tryd.prog.funcNamed "pollard/pollardlaw16.MunchBehind" = some 3 by kernel_rfl).symm.trans hf) |>.symm
 obtain rfl:fn=Tryd.f3:=(Option.some.inj (Tryd.func3.symm.trans hfn)).symm
 refine⟨by kernel_rfl,fun j t ht=>?_⟩
 have hm:=Array.mem_of_getElem? ht
 have key:Tryd.f3.params.toList.all (fun t => !(Tryd.pinned.checked.prog.wantsStandIn t))=true:=by kernel_rfl
 have:=List.all_eq_true.1 key t (by simpa using hm)
 simpa using this
theorem munchBehind_proved:Rows.MunchBehindUptoCardSaid :=
 Claim7.holds_tied_plain_at .later [] _ _ _ _ munchBehind_row (fun _ h=>by cases h) (by kernel_rfl) (fun _ h=>by cases h) munchBehindUpto_row_tie rfl ⟨rfl,rfl⟩ (by kernel_rfl) rfl plainBeh (by kernel_rfl)
#print axioms munchBehind_proved
end Go.Proofs.YtgbbhilflgekhaaDoor
end
