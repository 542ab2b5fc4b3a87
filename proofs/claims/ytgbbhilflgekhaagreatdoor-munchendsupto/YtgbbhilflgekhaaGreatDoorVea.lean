/- Parts of the proof, laid together. -/
import Derived.WalkKit
import Derived.Deep.MidRow
import Derived.RangeFuncLeaves
import Derived.RangeFuncRecord
import Derived.OrdersIn
import Derived.Sort.LoopGhostIn
import Derived.ScopeJumps
import Derived.Laws.Pointers
import Derived.Laws.StructEq
import Derived.MapKept
set_option linter.unusedVariables false
set_option linter.unusedSimpArgs false
set_option maxRecDepth 20000
set_option maxHeartbeats 16000000
section
namespace Go.Ab
def JfY:Value->Bool
 | .bool _ | .int _ _ | .float _ _ | .complex _ _ _ | .string _ | .nilFunc | .nilIface=>true
 | .pointer none | .map none | .chan none=>true
 | _=>false
structure Gh where
 mem:Nat->Nat->Option Value
 box:Nat->Option Nat
 tok:Nat->Option (Nat × Nat × Nat)
 nx:Nat
 cch:Nat->Option Nat
 lrec:Nat->Option Loop
def Jas(x y:Option (Nat × Nat × Nat)):Prop :=
 y=none\/∃ b c n b' c' n',x=some (b,c,n)/\y=some (b',c',n')/\n<=n'/\(n=n'->b'=b/\c'=c)/\(n<=c->n'<=c')/\(c<n->n'=n)
structure Ext (g g':Gh):Prop where
 nx:g.nx<=g'.nx
 mem:∀ b o v,g.mem b o=some v->g'.mem b o=some v
 box:∀ id,id<g.nx->g'.box id=g.box id
 tok:∀ t,t<g.nx->Jas (g.tok t) (g'.tok t)
 cch:∀ r t,g.cch r=some t->g'.cch r=some t
 lrec:∀ t,t<g.nx->g'.lrec t=g.lrec t
inductive AV where
 | lit (v:Value)
 | agg (cs:List AV)
 | tup (vs:List AV)
 | vec (xs:List (List AV)) (full:Bool)
 | pp (cs:List AV) (off:Nat)
 | ptr (id off:Nat)
 | own (t n:Nat)
 | ep (t n s i off:Nat)
 | fn (f:Fn) (first captured:List AV)
 | ifc (t:TypeId) (v:AV)
 | mp (id:Nat)
 | om (t:Nat)
 | np (cs:List AV)
 | wit (L:List (Nat × List Value)) (a:AV)
 | yl (p:Gh->Nat->Prop)
end Go.Ab
end
section
namespace Go.Ab
def JBZ (_:Nat)(_ _:AV):Prop:=True
abbrev Jp1:Prop:=False
end Go.Ab
end
section
namespace Go.Ab
inductive Rep (g:Gh):Value->AV->Prop
 | lit {v:Value}:JfY v=true->Rep g v (.lit v)
 | agg {cs:Array Value} {as:List AV}:(∀ c∈cs.toList,c.oneCell'=true)->cs.toList.length=as.length->(∀ (i:Nat) (c:Value) (a:AV),cs.toList[i]? = some c->as[i]? = some a->Rep g c a)->Rep g (.agg cs) (.agg as)
 | tup {cs:Array Value} {as:List AV}:cs.toList.length=as.length->(∀ (i:Nat) (c:Value) (a:AV),cs.toList[i]? = some c->as[i]? = some a->Rep g c a)->Rep g (.tuple cs) (.tup as)
 | vecN {full:Bool}:Rep g (.slice none 0 0) (.vec [] full)
 | vecE {ad:Addr} {cap:Nat} {full:Bool}:(full=true->cap=0)->Rep g (.slice (some ad) 0 cap) (.vec [] full)
 | vec {b off cap s:Nat} {xs:List (List AV)} {full:Bool} (f:Nat->Nat->Value):(∀ x∈xs,x.length=s)->(full=true->cap=xs.length)->xs.length<=cap ->
   (∀ (i:Nat) (x:List AV) (j:Nat) (a:AV),xs[i]? = some x->x[j]? = some a->g.mem b (off+i * s+j)=some (f i j)) ->
   (∀ (i:Nat) (x:List AV) (j:Nat) (a:AV),xs[i]? = some x->x[j]? = some a->Rep g (f i j) a)->Rep g (.slice (some ⟨b,off,none⟩) xs.length cap) (.vec xs full)
 | pp {b base off:Nat} {cs:List AV} (f:Nat->Value):(∀ (j:Nat) (a:AV),cs[j]? = some a->g.mem b (base+j)=some (f j))->(∀ (j:Nat) (a:AV),cs[j]? = some a->Rep g (f j) a) ->
   Rep g (.pointer (some ⟨b,base+off,none⟩)) (.pp cs off)
 | ptr {a:Addr} {id off:Nat}:id<g.nx->(∀ b,g.box id=some b->a=⟨b,off,none⟩)->Rep g (.pointer (some a)) (.ptr id off)
 | own {a:Option Addr} {n cap t:Nat}:t<g.nx->(∀ b c m,g.tok t=some (b,c,m)->m<=c/\n<=m/\(n=m->a=some ⟨b,0,none⟩/\cap=c))->Rep g (.slice a n cap) (.own t n)
 | ep {a:Addr} {t n s i off:Nat}:t<g.nx->(∀ b c m,g.tok t=some (b,c,m)->m<=c/\n<=m/\(n=m->a=⟨b,i * s+off,none⟩))->Rep g (.pointer (some a)) (.ep t n s i off)
 | fn {f:Fn} {fs cs:Array Value} {as bs:List AV}:fs.toList.length=as.length->(∀ (i:Nat) (c:Value) (a:AV),fs.toList[i]? = some c->as[i]? = some a->Rep g c a) ->
   cs.toList.length=bs.length->(∀ (i:Nat) (c:Value) (a:AV),cs.toList[i]? = some c->bs[i]? = some a->Rep g c a)->Rep g (.func f fs cs) (.fn f as bs)
 | ifc {t:TypeId} {v:Value} {a:AV}:Rep g v a->Rep g (.iface t v) (.ifc t a)
 | mp {r id:Nat}:g.cch r=some (id+1)->Rep g (.map (some r)) (.mp id)
 | om {r:Option Nat} {t:Nat}:t<g.nx->(∀ b c m,g.tok t=some (b,c,m)->m=c+1/\r=some b)->Rep g (.map r) (.om t)
 | np {b:Nat} {cs:List AV} (f:Nat->Value):g.cch b=some 0->(∀ (j:Nat) (a:AV),cs[j]? = some a->g.mem b j=some (f j))->(∀ (j:Nat) (a:AV),cs[j]? = some a->Rep g (f j) a) ->
   Rep g (.pointer (some ⟨b,0,none⟩)) (.np cs)
 | wit {L:List (Nat × List Value)} {ad:Option Addr} {n cap:Nat} {a:AV}:(∀ p∈L,∀ (j:Nat) (c:Value),p.2[j]? = some c->g.mem p.1 j=some c)->Rep g (.slice ad n cap) a->Rep g (.slice ad n cap) (.wit L a)
 | yl {p:Gh->Nat->Prop} {l:Nat}:(∀ g g',Ext g g'->p g l->p g' l)->p g l->Rep g (.func (.yield l) #[] #[]) (.yl p)
theorem Jas.refl(x:Option (Nat × Nat × Nat)):Jas x x:=by
 cases x with
 | none=>exact .inl rfl
 | some p=>obtain⟨b,c,n⟩:=p;exact .inr ⟨b,c,n,b,c,n,rfl,rfl,Nat.le_refl _,fun _=>⟨rfl,rfl⟩,id,fun _=>rfl⟩
theorem Jas.trans{x y z:Option (Nat × Nat × Nat)}(h:Jas x y)(k:Jas y z):Jas x z:=by
 rcases k with k | ⟨b,c,n,b',c',n',e1,e2,hn,hs,hv,hu⟩
 ·exact .inl k
 ·rcases h with h | ⟨d,e,m,d',e',m',f1,f2,hm,ht,hv',hu'⟩
  ·rw[h] at e1;cases e1
  ·rw[f2] at e1;cases e1;refine .inr ⟨d,e,m,b',c',n',f1,e2,Nat.le_trans hm hn,fun q=>?_,fun q=>hv (hv' q),fun q=>?_⟩;rotate_left
   ·have q1:=hu' q;obtain⟨r1,r2⟩:=ht q1.symm;have:=hu (by omega);omega
   obtain⟨r1,r2⟩:=ht (by omega);obtain⟨r3,r4⟩:=hs (by omega);exact⟨r3.trans r1,r4.trans r2⟩
theorem Ext.refl(g:Gh):Ext g g:=⟨Nat.le_refl _,fun _ _ _ h=>h,fun _ _=>rfl,fun _ _=>Jas.refl _,fun _ _ h=>h,fun _ _=>rfl⟩
theorem Ext.trans{a b c:Gh}(h:Ext a b)(k:Ext b c):Ext a c :=
 ⟨Nat.le_trans h.nx k.nx,fun x y v e=>k.mem x y v (h.mem x y v e),fun id hi=>(k.box id (Nat.lt_of_lt_of_le hi h.nx)).trans (h.box id hi),
  fun t ht=>(h.tok t ht).trans (k.tok t (Nat.lt_of_lt_of_le ht h.nx)),fun r t e=>k.cch r t (h.cch r t e),fun t ht=>(k.lrec t (Nat.lt_of_lt_of_le ht h.nx)).trans (h.lrec t ht)⟩
theorem Jas.keep{x y:Option (Nat × Nat × Nat)}{n b c m:Nat}(h:Jas x y)(e:y=some (b,c,m))
  {p:Nat->Nat->Prop} (k:∀ b c m,x=some (b,c,m)->m<=c/\n<=m/\(n=m->p b c)):m<=c/\n<=m/\(n=m->p b c):=by
 rcases h with h | ⟨b1,c1,n1,b2,c2,n2,e1,e2,hn,hs,hv,hu⟩
 ·rw[h] at e;cases e
 ·rw[e2] at e;cases e;obtain⟨k0,k1,k2⟩:=k _ _ _ e1;refine⟨hv k0,Nat.le_trans k1 hn,fun q=>?_⟩;have q1:n1=m:=by omega
  obtain⟨r1,r2⟩:=hs q1;rw[r1,r2];exact k2 (by omega)
theorem Jas.om{x y:Option (Nat × Nat × Nat)}{b c m:Nat}(h:Jas x y)(e:y=some (b,c,m)){r:Option Nat}(k:∀ b c m,x=some (b,c,m)->m=c+1/\r=some b):m=c+1/\r=some b:=by
 rcases h with h | ⟨b1,c1,n1,b2,c2,n2,e1,e2,hn,hs,hv,hu⟩
 ·rw[h] at e;cases e
 ·rw[e2] at e;cases e;obtain⟨k0,k1⟩:=k _ _ _ e1;have q1:=hu (by omega);obtain⟨r1,r2⟩:=hs q1.symm;rw[r1];exact⟨by omega,k1⟩
theorem Rep.mono{g g':Gh}(x:Ext g g'){v:Value}{a:AV}(h:Rep g v a):Rep g' v a:=by
 induction h with
 | lit h=>exact .lit h
 | agg h0 h _ ih=>exact .agg h0 h ih
 | tup h _ ih=>exact .tup h ih
 | vecN=>exact .vecN
 | vecE h=>exact .vecE h
 | vec f h1 h2 h3 h4 _ ih=>exact .vec f h1 h2 h3 (fun i x' j a e1 e2=>x.mem _ _ _ (h4 i x' j a e1 e2)) ih
 | pp f h1 _ ih=>exact .pp f (fun j a e=>x.mem _ _ _ (h1 j a e)) ih
 | ptr h1 h2=>exact .ptr (Nat.lt_of_lt_of_le h1 x.nx) (fun b e=>h2 b (by rw[<- x.box _ h1];exact e))
 | @own a n cap t h1 h2=>exact .own (Nat.lt_of_lt_of_le h1 x.nx) (fun b c m e=>(x.tok _ h1).keep (p:=fun b c=>a=some ⟨b,0,none⟩/\cap=c) e h2)
 | @ep a t n s i off h1 h2=>exact .ep (Nat.lt_of_lt_of_le h1 x.nx) (fun b c m e=>(x.tok _ h1).keep (p:=fun b _=>a=⟨b,i * s+off,none⟩) e h2)
 | fn h1 _ h3 _ ih1 ih2=>exact .fn h1 ih1 h3 ih2
 | ifc _ ih=>exact .ifc ih
 | mp h1=>exact .mp (x.cch _ _ h1)
 | @om r t h1 h2=>exact .om (Nat.lt_of_lt_of_le h1 x.nx) (fun b c m e=>(x.tok _ h1).om e h2)
 | np f h0 h1 _ ih=>exact .np f (x.cch _ _ h0) (fun j a e=>x.mem _ _ _ (h1 j a e)) ih
 | wit h1 _ ih=>exact .wit (fun p hp j c e=>x.mem _ _ _ (h1 p hp j c e)) ih
 | yl h0 h1=>exact .yl h0 (h0 _ _ x h1)
def J9 (g:Gh)(vs:List Value)(as:List AV):Prop:=vs.length=as.length/\∀ (i:Nat) (c:Value) (a:AV),vs[i]? = some c->as[i]? = some a->Rep g c a
theorem J9.mono{g g':Gh}(x:Ext g g'){vs:List Value}{as:List AV}(h:J9 g vs as):J9 g' vs as:=⟨h.1,fun i c a e1 e2=>(h.2 i c a e1 e2).mono x⟩
theorem J9.nil{g:Gh}:J9 g [] []:=⟨rfl,fun i c a e=>by simp at e⟩
theorem J9.cons{g:Gh}{v:Value}{a:AV}{vs:List Value}{as:List AV}(h:Rep g v a)(k:J9 g vs as):J9 g (v :: vs) (a :: as):=by
 refine⟨by simp[k.1],fun i c b e1 e2=>?_⟩;cases i with
 | zero=>simp at e1 e2;subst e1;subst e2;exact h
 | succ i=>simp at e1 e2;exact k.2 i c b e1 e2
theorem J9.append{g:Gh}{vs us:List Value}{as bs:List AV}(h:J9 g vs as)(k:J9 g us bs):J9 g (vs++us) (as++bs):=by
 induction vs generalizing as with
 | nil=>cases as with
  | nil=>simpa using k
  | cons a as=>exact absurd h.1 (by simp)
 | cons v vs ih=>cases as with
  | nil=>exact absurd h.1 (by simp)
  | cons a as=>exact .cons (h.2 0 v a rfl rfl) (ih ⟨by have:=h.1;simp at this;exact this,fun i c b e1 e2=>h.2 (i+1) c b (by simpa using e1) (by simpa using e2)⟩)
theorem J9.head{g:Gh}{v:Value}{a:AV}{vs:List Value}{as:List AV}(h:J9 g (v :: vs) (a :: as)):Rep g v a:=h.2 0 v a rfl rfl
theorem J9.tail{g:Gh}{v:Value}{a:AV}{vs:List Value}{as:List AV}(h:J9 g (v :: vs) (a :: as)):J9 g vs as :=
 ⟨by have:=h.1;simp at this;exact this,fun i c b e1 e2=>h.2 (i+1) c b (by simpa using e1) (by simpa using e2)⟩
theorem J9.agg{g:Gh}{cs:Array Value}{as:List AV}(h1:∀ c∈cs.toList,c.oneCell'=true)(h:J9 g cs.toList as):Rep g (.agg cs) (.agg as):=.agg h1 h.1 h.2
theorem J9.of_agg{g:Gh}{v:Value}{as:List AV}(h:Rep g v (.agg as)):∃ cs:Array Value,v = .agg cs/\J9 g cs.toList as/\∀ c∈cs.toList,c.oneCell'=true:=by
 cases h with | agg h0 h1 h2=>exact⟨_,rfl,⟨h1,h2⟩,h0⟩
def AV.cells:AV->Option (List AV)
 | .agg cs=>some cs
 | .tup _=>none
 | a=>some [a]
theorem Rep.cells{g:Gh}{v:Value}{a:AV}(h:Rep g v a){cs:List AV}(e:a.cells=some cs):J9 g v.cells.toList cs/\∀ c∈v.cells.toList,c.oneCell'=true:=by
 cases h with
 | agg h0 h1 h2=>simp only[AV.cells,Option.some.injEq] at e;subst e;exact⟨⟨h1,h2⟩,h0⟩
 | tup h1 h2=>simp[AV.cells] at e
 | lit hp =>
  simp only[AV.cells,Option.some.injEq] at e;subst e;cases v <;> simp only[JfY] at hp <;> first | (cases hp;done) | exact⟨.cons (.lit (by first | rfl | exact hp)) .nil,by simp[Value.cells,Value.oneCell']⟩
 | vecN=>simp only[AV.cells,Option.some.injEq] at e;subst e;exact⟨.cons .vecN .nil,by simp[Value.cells,Value.oneCell']⟩
 | vecE h=>simp only[AV.cells,Option.some.injEq] at e;subst e;exact⟨.cons (.vecE h) .nil,by simp[Value.cells,Value.oneCell']⟩
 | vec f h1 h2 h3 h4 h5=>simp only[AV.cells,Option.some.injEq] at e;subst e;exact⟨.cons (.vec f h1 h2 h3 h4 h5) .nil,by simp[Value.cells,Value.oneCell']⟩
 | pp f h1 h2=>simp only[AV.cells,Option.some.injEq] at e;subst e;exact⟨.cons (.pp f h1 h2) .nil,by simp[Value.cells,Value.oneCell']⟩
 | ptr h1 h2=>simp only[AV.cells,Option.some.injEq] at e;subst e;exact⟨.cons (.ptr h1 h2) .nil,by simp[Value.cells,Value.oneCell']⟩
 | own h1 h2=>simp only[AV.cells,Option.some.injEq] at e;subst e;exact⟨.cons (.own h1 h2) .nil,by simp[Value.cells,Value.oneCell']⟩
 | ep h1 h2=>simp only[AV.cells,Option.some.injEq] at e;subst e;exact⟨.cons (.ep h1 h2) .nil,by simp[Value.cells,Value.oneCell']⟩
 | fn h1 h2 h3 h4=>simp only[AV.cells,Option.some.injEq] at e;subst e;exact⟨.cons (.fn h1 h2 h3 h4) .nil,by simp[Value.cells,Value.oneCell']⟩
 | ifc h1=>simp only[AV.cells,Option.some.injEq] at e;subst e;exact⟨.cons (.ifc h1) .nil,by simp[Value.cells,Value.oneCell']⟩
 | mp h1=>simp only[AV.cells,Option.some.injEq] at e;subst e;exact⟨.cons (.mp h1) .nil,by simp[Value.cells,Value.oneCell']⟩
 | om h1 h2=>simp only[AV.cells,Option.some.injEq] at e;subst e;exact⟨.cons (.om h1 h2) .nil,by simp[Value.cells,Value.oneCell']⟩
 | np f h0 h1 h2=>simp only[AV.cells,Option.some.injEq] at e;subst e;exact⟨.cons (.np f h0 h1 h2) .nil,by simp[Value.cells,Value.oneCell']⟩
 | wit h1 h2=>simp only[AV.cells,Option.some.injEq] at e;subst e;exact⟨.cons (.wit h1 h2) .nil,by simp[Value.cells,Value.oneCell']⟩
 | yl h1 h2=>simp only[AV.cells,Option.some.injEq] at e;subst e;exact⟨.cons (.yl h1 h2) .nil,by simp[Value.cells,Value.oneCell']⟩
def lk {α:Type}:List (Nat × α)->Nat->Option α
 | [],_=>none
 | (k,v) :: l,i=>if k=i then some v else lk l i
def up {α:Type}:List (Nat × α)->Nat->α->List (Nat × α)
 | [],_,_=>[]
 | (k,v) :: l,i,x=>if k=i then (k,x) :: l else (k,v) :: up l i x
def dl {α:Type}:List (Nat × α)->Nat->List (Nat × α)
 | [],_=>[]
 | (k,v) :: l,i=>if k=i then dl l i else (k,v) :: dl l i
theorem JH{α:Type}(l:List (Nat × α))(i j:Nat)(x:α):lk (up l i x) j=if i=j then (lk l i).map fun _=>x else lk l j:=by
 induction l with
 | nil=>simp[up,lk]
 | cons p l ih =>
  obtain⟨k,v⟩:=p;by_cases h:k=i
  ·subst h;simp only[up,lk,if_true];split <;> simp
  ·simp only[up,lk,if_neg h];by_cases hk:k=j
   ·subst hk;simp only[if_true];rw[if_neg (fun e=>h e.symm)]
   ·simp[hk,ih]
theorem Jeb{α:Type}(l:List (Nat × α))(i j:Nat):lk (dl l i) j=if i=j then none else lk l j:=by
 induction l with
 | nil=>simp[dl,lk]
 | cons p l ih =>
  obtain⟨k,v⟩:=p;by_cases h:k=i
  ·subst h;simp only[dl,lk,if_true,ih];split <;> simp[*]
  ·simp only[dl,lk,if_neg h];by_cases hk:k=j
   ·subst hk;simp only[if_true];rw[if_neg (fun e=>h e.symm)]
   ·simp[hk,ih]
theorem JnC{α:Type}(l:List (Nat × α))(i:Nat)(x:α)(j:Nat):lk (l++[(i,x)]) j=(lk l j).or (if i=j then some x else none):=by
 induction l with
 | nil=>simp[lk]
 | cons p l ih=>obtain⟨k,v⟩:=p;by_cases h:k=j <;> simp[lk,h,ih]
structure Tk where
 xs:List (List AV)
 fz:Nat
 s:Nat
def Tk.lp(k:Tk):Prop:=k.s=0/\(k.xs.map List.length).head? = some 0
instance (k:Tk):Decidable k.lp:=by unfold Tk.lp;infer_instance
def Tk.st(k:Tk):Nat:=if k.s=0 then (if k.lp then 0 else 2) else k.s
def Tk.tn(k:Tk):Nat:=if k.s=0 then (if k.lp then 2 else 1) else k.xs.length
def JfZ:List MapEntry->List Value
 | []=>[]
 | e :: l=>e.key :: e.val :: JfZ l
def Jek (r:Loop)(n:Nat):Loop:={r with
 state:=if n=1 then .ready else if n=2 then .busy else .done
 pending:=if n<=2 then none else if n=3 then some .ret else if n % 2=0 then some (.exit (n / 2 - 2)) else some (.goto (n / 2 - 2))}
def JaL (n:Nat):Tk:=⟨List.replicate n [],0,0⟩
def Tk.obj(k:Tk)(o:Obj)(vs:Array Value)(c:Nat):Prop :=
 (k.s≠0->∃ e,o = .cells vs e (0,0)/\vs.size=c * k.s/\k.xs.length<=c/\∀ v∈vs.toList,v.oneCell'=true) /\
 (k.s=0->c=0/\(¬ k.lp->∃ es n,o = .map es n/\vs.toList=JfZ es.toList/\es.size=k.xs.length)/\(k.lp->∃ r,o = .loop r))
structure Hp where
 boxes:List (Nat × List AV)
 toks:List (Nat × Tk)
 nx:Nat
def Hp.none:Hp:=⟨[],[],0⟩
def gm (m:Nat->Nat->Option Value):Gh:=⟨m,fun _=>none,fun _=>none,0,fun _=>none,fun _=>none⟩
def gc (g:Gh):Gh:=⟨g.mem,fun _=>none,fun _=>none,0,g.cch,fun _=>none⟩
theorem Ext.gc{g g':Gh}(h:∀ b o v,g.mem b o=some v->g'.mem b o=some v)(k:∀ r t,g.cch r=some t->g'.cch r=some t):Ext (gc g) (gc g'):=⟨Nat.le_refl _,h,fun _ _=>rfl,fun _ _=>Jas.refl _,k,fun _ _=>rfl⟩
def JnD(g:Gh)(t:Nat)(es:Array MapEntry):Prop:=∀ e∈es.toList,∃ ka va,JBZ t ka va/\Rep (gc g) e.key ka/\Rep (gc g) e.val va
theorem JnD.mono{g g':Gh}(x:∀ b o v,g.mem b o=some v->g'.mem b o=some v)(y:∀ r t,g.cch r=some t->g'.cch r=some t){t:Nat}{es:Array MapEntry}(h:JnD g t es):JnD g' t es:=fun e he=>by
 obtain⟨ka,va,h1,h2,h3⟩:=h e he;exact⟨ka,va,h1,h2.mono (.gc x y),h3.mono (.gc x y)⟩
structure JZ (g:Gh) (h:Hp) (w:World):Prop where
 nx:g.nx=h.nx
 mem:∀ b o v,g.mem b o=some v->w.cell? ⟨b,o,none⟩=some v/\v.oneCell'=true
 box:∀ id cs,lk h.boxes id=some cs->∃ b vs e,g.box id=some b/\w.heap[b]? = some (.cells vs e (0,0))/\J9 g vs.toList cs/\(∀ v∈vs.toList,v.oneCell'=true)/\∀ o,g.mem b o=Option.none
 tok:∀ t k,lk h.toks t=some k->∃ b c vs o,g.tok t=some (b,c,k.tn)/\w.heap[b]? = some o/\k.obj o vs c/\k.fz<=k.xs.length /\
   (∀ x∈k.xs,x.length=k.st)/\(∀ (i:Nat) (x:List AV) (j:Nat) (a:AV),k.xs[i]? = some x->x[j]? = some a->∃ v,vs[i * k.st+j]? = some v/\Rep g v a)/\(∀ o,k.fz * k.s<=o->g.mem b o=Option.none)/\∀ r,g.cch b≠some (r+1)
 bxbx:∀ i j b,g.box i=some b->g.box j=some b->(lk h.boxes i).isSome=true->(lk h.boxes j).isSome=true->i=j
 tktk:∀ i j b c n c' n',g.tok i=some (b,c,n)->g.tok j=some (b,c',n')->(lk h.toks i).isSome=true->(lk h.toks j).isSome=true->i=j
 bxtk:∀ i j b c n,g.box i=some b->g.tok j=some (b,c,n)->(lk h.boxes i).isSome=true->(lk h.toks j).isSome=true->False
 fresh:∀ i,h.nx<=i->g.box i=Option.none/\g.tok i=Option.none
 cch:∀ r t,g.cch r=some (t+1)->∃ es k,w.heap[r]? = some (.map es k)/\JnD g t es
 cel:∀ b,g.cch b=some 0->∃ vs e,w.heap[b]? = some (.cells vs e (0,0))
 lpr:∀ t k b c n,lk h.toks t=some k->k.lp->g.tok t=some (b,c,n)->∃ r,g.lrec t=some r/\w.heap[b]? = some (.loop (Jek r k.xs.length))/\r=Jek r 1
def Ja2 (g:Gh)(h:Hp)(b:Nat):Prop:=(∃ id cs,lk h.boxes id=some cs/\g.box id=some b)\/(∃ t k c n,lk h.toks t=some k/\g.tok t=some (b,c,n))\/∃ t,g.cch b=some (t+1)
structure Jai (F:Nat->Prop) (w0 w:World):Prop where
 os:w.os=w0.os
 tape:w.tape=w0.tape
 output:w.output=w0.output
 drawn:Jp1->w0.drawn<=w.drawn
 size:w0.heap.size<=w.heap.size
 block:∀ b,b<w0.heap.size->¬ F b->w.heap[b]? = w0.heap[b]?
 loop:∀ (b:Nat) (r:Loop),w0.heap[b]? = some (.loop r)->∃ r':Loop,w.heap[b]? = some (.loop r')
theorem Jai.refl(F:Nat->Prop)(w:World):Jai F w w:=⟨rfl,rfl,rfl,fun _=>Nat.le_refl _,Nat.le_refl _,fun _ _ _=>rfl,fun _ r h=>⟨r,h⟩⟩
theorem Jai.trans{F G:Nat->Prop}{a b c:World}(h:Jai F a b)(k:Jai G b c)(hG:∀ x,G x->F x\/a.heap.size<=x):Jai F a c :=
 ⟨k.os.trans h.os,k.tape.trans h.tape,k.output.trans h.output,fun q=>Nat.le_trans (h.drawn q) (k.drawn q),Nat.le_trans h.size k.size,fun x hx hF=>by
  refine(k.block x (Nat.lt_of_lt_of_le hx h.size) (fun hg=>?_)).trans (h.block x hx hF);rcases hG x hg with h1 | h1
  ·exact hF h1
  ·omega,fun x r e=>let ⟨r',e'⟩:=h.loop x r e;k.loop x r' e'⟩
theorem JZ.cch_new{g:Gh}{h:Hp}{w:World}(r:JZ g h w){b:Nat}(hb:w.heap.size<=b):∀ s,g.cch b≠some (s+1):=fun s q=>by
 obtain⟨es,k,f1,_⟩:=r.cch b s q;have:=(Array.getElem?_eq_some_iff.1 f1).1;omega
theorem JZ.tok_cch{g:Gh}{h:Hp}{w:World}(r:JZ g h w){t:Nat}{k:Tk}(e:lk h.toks t=some k){b c n:Nat}(q:g.tok t=some (b,c,n)):∀ s,g.cch b≠some (s+1):=by
 obtain⟨b',c',vs,o,e1,e2,e3,e4,e5,e6,e7,e8⟩:=r.tok t k e;rw[e1] at q;cases q;exact e8
theorem JZ.tokS{g:Gh}{h:Hp}{w:World}(r:JZ g h w){t:Nat}{k:Tk}(e:lk h.toks t=some k)(hs:k.s≠0):∃ b c vs e,g.tok t=some (b,c,k.xs.length)/\w.heap[b]? = some (.cells vs e (0,0))/\vs.size=c * k.s/\k.xs.length<=c/\k.fz<=k.xs.length /\
   (∀ x∈k.xs,x.length=k.s)/\(∀ (i:Nat) (x:List AV) (j:Nat) (a:AV),k.xs[i]? = some x->x[j]? = some a->∃ v,vs[i * k.s+j]? = some v/\Rep g v a)/\(∀ v∈vs.toList,v.oneCell'=true)/\(∀ o,k.fz * k.s<=o->g.mem b o=Option.none):=by
 obtain⟨b,c,vs,o,e1,e2,e3,e4,e5,e6,e7,e8⟩:=r.tok t k e;obtain⟨ty,rfl,f1,f2,f3⟩:=e3.1 hs;unfold Tk.tn at e1;unfold Tk.st at e5 e6;rw[if_neg hs] at e1 e5;simp only[if_neg hs] at e6;exact⟨b,c,vs,ty,e1,e2,f1,f2,e4,e5,e6,f3,e7⟩
theorem JZ.tokO{g:Gh}{h:Hp}{w:World}(r:JZ g h w){t:Nat}{k:Tk}(e:lk h.toks t=some k){v:Value}{n:Nat}(hv:Rep g v (.own t n)):k.s≠0:=by
 obtain⟨b,c,vs,o,e1,e2,e3,e4,e5,e6,e7,e8⟩:=r.tok t k e;intro hs;cases hv with
 | own h1 h2 =>
  obtain⟨q,_⟩:=h2 _ _ _ e1;obtain⟨rfl,_⟩:=e3.2 hs;unfold Tk.tn at q;rw[if_pos hs] at q;split at q <;> omega
theorem JZ.tokE{g:Gh}{h:Hp}{w:World}(r:JZ g h w){t:Nat}{k:Tk}(e:lk h.toks t=some k){v:Value}{n s i off:Nat}(hv:Rep g v (.ep t n s i off)):k.s≠0:=by
 obtain⟨b,c,vs,o,e1,e2,e3,e4,e5,e6,e7,e8⟩:=r.tok t k e;intro hs;cases hv with
 | ep h1 h2 =>
  obtain⟨q,_⟩:=h2 _ _ _ e1;obtain⟨rfl,_⟩:=e3.2 hs;unfold Tk.tn at q;rw[if_pos hs] at q;split at q <;> omega
theorem Tk.lp_eq{k k':Tk}(hl:k'.xs.map List.length=k.xs.map List.length)(hs:k'.s=k.s):k'.lp↔k.lp:=by unfold Tk.lp;rw[hl,hs]
theorem Tk.len_eq{k k':Tk}(hl:k'.xs.map List.length=k.xs.map List.length):k'.xs.length=k.xs.length:=by simpa using congrArg List.length hl
theorem Tk.obj_eq{k k':Tk}{o:Obj}{vs:Array Value}{c:Nat}(hl:k'.xs.map List.length=k.xs.map List.length)(hs:k'.s=k.s)(h:k.obj o vs c):k'.obj o vs c:=by
 unfold Tk.obj at *;rw[Tk.lp_eq hl hs,Tk.len_eq hl,hs];exact h
theorem Tk.tn_eq{k k':Tk}(hl:k'.xs.map List.length=k.xs.map List.length)(hs:k'.s=k.s):k'.tn=k.tn:=by unfold Tk.tn;rw[Tk.len_eq hl,hs];simp only[Tk.lp_eq hl hs]
theorem Tk.st_eq{k k':Tk}(hl:k'.xs.map List.length=k.xs.map List.length)(hs:k'.s=k.s):k'.st=k.st:=by unfold Tk.st;rw[hs];simp only[Tk.lp_eq hl hs]
theorem JhX{n:Nat}(h:1<=n):(JaL n).lp:=by
 obtain⟨m,rfl⟩:∃ m,n=m+1:=⟨n - 1,by omega⟩;exact⟨rfl,by simp[JaL,List.replicate_succ]⟩
theorem JhY(n:Nat):(JaL n).xs.length=n:=by simp[JaL]
theorem Tk.st_pos{k:Tk}(hs:k.s≠0):k.st=k.s:=by unfold Tk.st;rw[if_neg hs]
theorem Tk.tn_pos{k:Tk}(hs:k.s≠0):k.tn=k.xs.length:=by unfold Tk.tn;rw[if_neg hs]
theorem Tk.obj_cells{k:Tk}(hs:k.s≠0){vs:Array Value}{e:TypeId}{c:Nat}(h1:vs.size=c * k.s)(h2:k.xs.length<=c)(h3:∀ v∈vs.toList,v.oneCell'=true):k.obj (.cells vs e (0,0)) vs c :=
 ⟨fun _=>⟨e,rfl,h1,h2,h3⟩,fun q=>absurd q hs⟩
theorem Yaa:type_of% @List.map_cons:=@List.map_cons
theorem Yab:type_of% @List.map_nil:=@List.map_nil
theorem Yac:type_of% @Option.bind_some:=@Option.bind_some
theorem Yad:type_of% @Option.bind_none:=@Option.bind_none
theorem Yae:type_of% @Option.map_some:=@Option.map_some
theorem Yaf:type_of% @Option.map_none:=@Option.map_none
theorem Yag:type_of% @List.getElem?_toArray:=@List.getElem?_toArray
theorem Yah:type_of% @List.getElem?_cons_succ:=@List.getElem?_cons_succ
theorem Yai:type_of% @List.getElem?_cons_zero:=@List.getElem?_cons_zero
theorem Yaj:type_of% @List.length_cons:=@List.length_cons
theorem Yak:type_of% @List.length_nil:=@List.length_nil
theorem Yal:type_of% @List.drop_succ_cons:=@List.drop_succ_cons
theorem Yam:type_of% @List.drop_zero:=@List.drop_zero
theorem Yan:type_of% @List.drop_nil:=@List.drop_nil
theorem Yao:type_of% @List.take_succ_cons:=@List.take_succ_cons
theorem Yap:type_of% @List.take_zero:=@List.take_zero
theorem Yaq:type_of% @List.take_nil:=@List.take_nil
theorem Yar:type_of% @List.cons_append:=@List.cons_append
theorem Yas:type_of% @List.nil_append:=@List.nil_append
theorem Yat:type_of% @List.append_nil:=@List.append_nil
theorem Yau:type_of% @List.set_cons_succ:=@List.set_cons_succ
theorem Yav:type_of% @List.set_cons_zero:=@List.set_cons_zero
theorem Yaw:type_of% @List.replicate_succ:=@List.replicate_succ
theorem Yax:type_of% @List.replicate_zero:=@List.replicate_zero
theorem Yay:type_of% @Nat.zero_add:=@Nat.zero_add
theorem Yaz:type_of% @Nat.add_zero:=@Nat.add_zero
theorem Yba:type_of% @Bool.not_true:=@Bool.not_true
theorem Ybb:type_of% @Bool.not_false:=@Bool.not_false
theorem Ybc:type_of% @Nat.le_refl:=@Nat.le_refl
theorem Ybd:type_of% @Nat.one_ne_zero:=@Nat.one_ne_zero
theorem Yzz:(type_of% @and_self)/\(type_of% @and_true)/\(type_of% @true_and)/\(type_of% @not_false_eq_true)/\(type_of% @not_true_eq_false)/\(type_of% @true_or)/\(type_of% @or_true)/\(type_of% @false_or)/\(type_of% @or_false):=⟨@and_self,@and_true,@true_and,@not_false_eq_true,@not_true_eq_false,@true_or,@or_true,@false_or,@or_false⟩
end Go.Ab
end
section
namespace Go.Ab
theorem Jaj{w:World}{b o:Nat}{vs:Array Value}{e:TypeId}{fr:Nat × Nat}(h:w.heap[b]? = some (.cells vs e fr)):w.cell? ⟨b,o,none⟩=vs[o]? := by
 simp[World.cell?,h]
theorem Jaq{w:World}{b:Nat}{o:Obj}(h:w.heap[b]? = some o):b<w.heap.size:=(Array.getElem?_eq_some_iff.1 h).1
theorem JZ.cchUp{g g':Gh}{h:Hp}{w w':World}(r:JZ g h w)(x:Ext g g')(hc:g'.cch=g.cch)(hw:∀ (b:Nat) es k,w.heap[b]? = some (.map es k)->w'.heap[b]? = some (.map es k)) :
  ∀ b t,g'.cch b=some (t+1)->∃ es k,w'.heap[b]? = some (.map es k)/\JnD g' t es:=fun b t e=>by
 rw[hc] at e;obtain⟨es,k,e1,e2⟩:=r.cch b t e;exact⟨es,k,hw b es k e1,e2.mono x.mem x.cch⟩
theorem JZ.celUp{g g':Gh}{h:Hp}{w w':World}(r:JZ g h w)(hc:g'.cch=g.cch)(hw:∀ (b:Nat) vs e,w.heap[b]? = some (.cells vs e (0,0))->∃ vs' e',w'.heap[b]? = some (.cells vs' e' (0,0))) :
  ∀ b,g'.cch b=some 0->∃ vs e,w'.heap[b]? = some (.cells vs e (0,0)):=fun b e=>by
 rw[hc] at e;obtain⟨vs,ty,e1⟩:=r.cel b e;exact hw b vs ty e1
theorem JZ.lprUp{g g':Gh}{h h':Hp}{w w':World}(r:JZ g h w)(hl:g'.lrec=g.lrec)(ht:∀ t k,lk h'.toks t=some k->k.lp->lk h.toks t=some k/\g'.tok t=g.tok t)(hw:∀ (b:Nat) q,w.heap[b]? = some (.loop q)->w'.heap[b]? = some (.loop q)) :
  ∀ t k b c n,lk h'.toks t=some k->k.lp->g'.tok t=some (b,c,n)->∃ r,g'.lrec t=some r/\w'.heap[b]? = some (.loop (Jek r k.xs.length))/\r=Jek r 1:=fun t k b c n e hk q=>by
 obtain⟨e1,e2⟩:=ht t k e hk;rw[e2] at q;obtain⟨x,f1,f2,f3⟩:=r.lpr t k b c n e1 hk q;exact⟨x,by rw[hl];exact f1,hw _ _ f2,f3⟩
theorem Jc9(w:World)(b:Nat)(vs:Array Value){k:Nat}{q:Loop}(h:w.heap[k]? = some (.loop q)):(w.setRow b vs).heap[k]? = some (.loop q):=by
 have hlt:=(Array.getElem?_eq_some_iff.1 h).1;have hv:=(Array.getElem?_eq_some_iff.1 h).2;unfold World.setRow;rw[Array.getElem?_eq_getElem (by simpa using hlt),Array.getElem_modify];split
 ·simp[hv]
 ·simp[hv]
theorem JZ.drew{g:Gh}{h:Hp}{w:World}(r:JZ g h w):JZ g h w.drew:=⟨r.nx,r.mem,r.box,r.tok,r.bxbx,r.tktk,r.bxtk,r.fresh,r.cch,r.cel,r.lpr⟩
theorem JZ.less{g:Gh}{h h':Hp}{w:World}(r:JZ g h w)(hn:h'.nx=h.nx)(hb:∀ i c,lk h'.boxes i=some c->lk h.boxes i=some c)(ht:∀ i c,lk h'.toks i=some c->lk h.toks i=some c):JZ g h' w:=by
 have sb:∀ i,(lk h'.boxes i).isSome=true->(lk h.boxes i).isSome=true:=fun i e=>by
  obtain⟨c,hc⟩:=Option.isSome_iff_exists.1 e;rw[hb i c hc];rfl
 have st:∀ i,(lk h'.toks i).isSome=true->(lk h.toks i).isSome=true:=fun i e=>by
  obtain⟨c,hc⟩:=Option.isSome_iff_exists.1 e;rw[ht i c hc];rfl
 exact⟨r.nx.trans hn.symm,r.mem,fun id cs e=>r.box id cs (hb id cs e),fun t k e=>r.tok t k (ht t k e),
  fun i j b e1 e2 e3 e4=>r.bxbx i j b e1 e2 (sb i e3) (sb j e4),fun i j b c n c' n' e1 e2 e3 e4=>r.tktk i j b c n c' n' e1 e2 (st i e3) (st j e4),
  fun i j b c n e1 e2 e3 e4=>r.bxtk i j b c n e1 e2 (sb i e3) (st j e4),fun i e=>r.fresh i (hn ▸ e),r.cch,r.cel,r.lprUp rfl (fun t k e _=>⟨ht t k e,rfl⟩) (fun _ _ q=>q)⟩
theorem Ja2.less{g:Gh}{h h':Hp}(hb:∀ i c,lk h'.boxes i=some c->lk h.boxes i=some c)(ht:∀ i c,lk h'.toks i=some c->lk h.toks i=some c){b:Nat}(l:Ja2 g h' b):Ja2 g h b:=by
 rcases l with ⟨id,cs,e1,e2⟩ | ⟨t,k,c,n,e1,e2⟩ | e1
 ·exact .inl ⟨id,cs,hb _ _ e1,e2⟩
 ·exact .inr (.inl ⟨t,k,c,n,ht _ _ e1,e2⟩)
 ·exact .inr (.inr e1)
theorem JZ.box_lt{g:Gh}{h:Hp}{w:World}(r:JZ g h w){id:Nat}{cs:List AV}(e:lk h.boxes id=some cs):id<h.nx:=by
 obtain⟨b,vs,ty,e1,_⟩:=r.box id cs e;rcases Nat.lt_or_ge id h.nx with h1 | h1
 ·exact h1
 ·rw[(r.fresh id h1).1] at e1;cases e1
theorem JZ.tok_lt{g:Gh}{h:Hp}{w:World}(r:JZ g h w){t:Nat}{k:Tk}(e:lk h.toks t=some k):t<h.nx:=by
 obtain⟨b,c,vs,ty,e1,_⟩:=r.tok t k e;rcases Nat.lt_or_ge t h.nx with h1 | h1
 ·exact h1
 ·rw[(r.fresh t h1).2] at e1;cases e1
theorem JP{w:World}{o:Obj}{b:Nat}{x:Obj}(h:w.heap[b]? = some x):(w.alloc o).heap[b]? = some x:=(heap_alloc_old w o (Jaq h)).trans h
theorem JcO{w:World}{o:Obj}{a:Addr}{v:Value}(h:w.cell? a=some v):(w.alloc o).cell? a=some v:=by
 rw[World.cell?_alloc_lt w o a (World.block_lt_of_cell? w a h)];exact h
theorem JZ.push{g:Gh}{h:Hp}{w:World}(r:JZ g h w)(o:Obj)(g':Gh)(x:Ext g g')(hnx:g'.nx=g.nx)(hm:∀ b o,b<w.heap.size->g'.mem b o=g.mem b o)
  (hnew:∀ o' v,g'.mem w.heap.size o'=some v->(w.alloc o).cell? ⟨w.heap.size,o',none⟩=some v/\v.oneCell'=true) (hno:∀ b o',w.heap.size<b->g'.mem b o'=none)
  (hbx:g'.box=g.box) (htk:g'.tok=g.tok) (hcc:g'.cch=g.cch) (hlr:g'.lrec=g.lrec):JZ g' h (w.alloc o):=by
 refine⟨hnx.trans r.nx,fun b o' v e=>?_,fun id cs e=>?_,fun t k e=>?_,?_,?_,?_,?_,r.cchUp x hcc (fun b es k e=>JP e),r.celUp hcc (fun b vs e q=>⟨vs,e,JP q⟩),r.lprUp hlr (fun t k e _=>⟨e,by rw[htk]⟩) (fun b q e=>JP e)⟩
 ·rcases Nat.lt_trichotomy b w.heap.size with h1 | h1 | h1
  ·rw[hm b o' h1] at e;obtain⟨e1,e2⟩:=r.mem b o' v e;exact⟨JcO e1,e2⟩
  ·subst h1;exact hnew o' v e
  ·rw[hno b o' h1] at e;cases e
 ·obtain⟨b,vs,ty,e1,e2,e3,e4,e5⟩:=r.box id cs e;exact⟨b,vs,ty,by rw[hbx];exact e1,JP e2,e3.mono x,e4,fun o'=>by rw[hm b o' (Jaq e2)];exact e5 o'⟩
 ·obtain⟨b,c,vs,ty,e1,e2,e3,e5,e6,e7,e9,e10⟩:=r.tok t k e;refine⟨b,c,vs,ty,by rw[htk];exact e1,JP e2,e3,e5,e6,fun i y j a f1 f2=>?_,fun o' ho=>by rw[hm b o' (Jaq e2)];exact e9 o' ho,by rw[hcc];exact e10⟩;obtain⟨v,f3,f4⟩:=e7 i y j a f1 f2;exact⟨v,f3,f4.mono x⟩
 ·rw[hbx];exact r.bxbx
 ·rw[htk];exact r.tktk
 ·rw[hbx,htk];exact r.bxtk
 ·rw[hbx,htk];exact r.fresh
theorem JZ.mem_lt{g:Gh}{h:Hp}{w:World}(r:JZ g h w){b o:Nat}{v:Value}(e:g.mem b o=some v):b<w.heap.size:=World.block_lt_of_cell? w ⟨b,o,none⟩ (r.mem b o v e).1
theorem JZ.mem_none{g:Gh}{h:Hp}{w:World}(r:JZ g h w){b:Nat}(o:Nat)(hb:w.heap.size<=b):g.mem b o=none:=by
 cases e:g.mem b o with
 | none=>rfl
 | some v=>have:=r.mem_lt e;omega
def Gh.addBox(g:Gh)(b:Nat):Gh:={g with box:=fun i=>if i=g.nx then some b else g.box i,nx:=g.nx+1}
theorem Ext.addBox(g:Gh)(b:Nat):Ext g (g.addBox b) :=
 ⟨Nat.le_succ _,fun _ _ _ h=>h,fun id hi=>by simp[Gh.addBox,Nat.ne_of_lt hi],fun _ _=>Jas.refl _,fun _ _ h=>h,fun _ _=>rfl⟩
theorem J5{α:Type}{l:List (Nat × α)}{i j:Nat}{x:α}(h:j≠i):lk (l++[(i,x)]) j=lk l j:=by
 rw[JnC,if_neg (fun e=>h e.symm)];simp
theorem JaH{α:Type}{l:List (Nat × α)}{i:Nat}{x:α}(h:lk l i=none):lk (l++[(i,x)]) i=some x:=by
 rw[JnC,h];simp
theorem JZ.lk_fresh_box{g:Gh}{h:Hp}{w:World}(r:JZ g h w):lk h.boxes h.nx=none:=by
 cases e:lk h.boxes h.nx with
 | none=>rfl
 | some c=>exact absurd (r.box_lt e) (Nat.lt_irrefl _)
theorem JZ.lk_fresh_tok{g:Gh}{h:Hp}{w:World}(r:JZ g h w):lk h.toks h.nx=none:=by
 cases e:lk h.toks h.nx with
 | none=>rfl
 | some c=>exact absurd (r.tok_lt e) (Nat.lt_irrefl _)
theorem JZ.addBox{g:Gh}{h:Hp}{w:World}(r:JZ g h w)(vs:Array Value)(ty:TypeId)(cs:List AV)(hc:J9 g vs.toList cs)(h1:∀ v∈vs.toList,v.oneCell'=true) :
  JZ (g.addBox w.heap.size) {h with boxes:=h.boxes++[(h.nx,cs)],nx:=h.nx+1} (w.alloc (.cells vs ty)):=by
 have hx:=Ext.addBox g w.heap.size;have hg:g.nx=h.nx:=r.nx;have hbox:∀ i,(g.addBox w.heap.size).box i=if i=h.nx then some w.heap.size else g.box i:=fun i=>by simp[Gh.addBox,hg]
 have old:∀ i c,lk (h.boxes++[(h.nx,cs)]) i=some c->i≠h.nx->lk h.boxes i=some c:=fun i c e hi=>by rwa [J5 hi] at e
 have oldS:∀ i,(lk (h.boxes++[(h.nx,cs)]) i).isSome=true->i≠h.nx->(lk h.boxes i).isSome=true:=fun i e hi=>by rwa [J5 hi] at e
 have bl:∀ i,(lk h.boxes i).isSome=true->∀ b,g.box i=some b->b<w.heap.size:=fun i e b eb=>by
  obtain⟨c,hc⟩:=Option.isSome_iff_exists.1 e;obtain⟨b',vs',ty',e1,e2,_⟩:=r.box i c hc;rw[e1] at eb;cases eb;exact Jaq e2
 have tl:∀ i,(lk h.toks i).isSome=true->∀ b c n,g.tok i=some (b,c,n)->b<w.heap.size:=fun i e b c n eb=>by
  obtain⟨k,hc⟩:=Option.isSome_iff_exists.1 e;obtain⟨b',c',vs',ty',e1,e2,_⟩:=r.tok i k hc;rw[e1] at eb;cases eb;exact Jaq e2
 refine⟨by simp[Gh.addBox,hg],fun b o v e=>?_,fun id c e=>?_,fun t k e=>?_,fun i j b e1 e2 e3 e4=>?_,fun i j b c n c' n' e1 e2 e3 e4=>r.tktk i j b c n c' n' e1 e2 e3 e4,fun i j b c n e1 e2 e3 e4=>?_,fun i e=>?_,r.cchUp hx rfl (fun b es k e=>JP e),r.celUp rfl (fun b vs e q=>⟨vs,e,JP q⟩),r.lprUp rfl (fun t k e _=>⟨e,rfl⟩) (fun b q e=>JP e)⟩
 ·obtain⟨f1,f2⟩:=r.mem b o v e;exact⟨JcO f1,f2⟩
 ·by_cases hi:id=h.nx
  ·subst hi;rw[JaH r.lk_fresh_box] at e;cases e;exact⟨w.heap.size,vs,ty,by rw[hbox,if_pos rfl],heap_alloc_new w _,hc.mono hx,h1,fun o=>r.mem_none o (Nat.le_refl _)⟩
  ·obtain⟨b,vs',ty',f1,f2,f3,f4,f5⟩:=r.box id c (old id c e hi);exact⟨b,vs',ty',by rw[hbox,if_neg hi];exact f1,JP f2,f3.mono hx,f4,f5⟩
 ·obtain⟨b,c,vs',ty',f1,f2,f3,f5,f6,f7,f9⟩:=r.tok t k e;refine⟨b,c,vs',ty',f1,JP f2,f3,f5,f6,fun i y j a g1 g2=>?_,f9⟩;obtain⟨v,g3,g4⟩:=f7 i y j a g1 g2;exact⟨v,g3,g4.mono hx⟩
 ·rw[hbox] at e1 e2;by_cases hi:i=h.nx <;> by_cases hj:j=h.nx
  ·rw[hi,hj]
  ·rw[if_pos hi] at e1;rw[if_neg hj] at e2;cases e1;have:=bl j (oldS j e4 hj) _ e2;omega
  ·rw[if_neg hi] at e1;rw[if_pos hj] at e2;cases e2;have:=bl i (oldS i e3 hi) _ e1;omega
  ·rw[if_neg hi] at e1;rw[if_neg hj] at e2;exact r.bxbx i j b e1 e2 (oldS i e3 hi) (oldS j e4 hj)
 ·rw[hbox] at e1;by_cases hi:i=h.nx
  ·rw[if_pos hi] at e1;cases e1;have:=tl j e4 _ _ _ e2;omega
  ·rw[if_neg hi] at e1;exact r.bxtk i j b c n e1 e2 (oldS i e3 hi) e4
 ·have hi:h.nx<=i:=Nat.le_of_succ_le e;have hne:i≠h.nx:=fun q=>by subst q;exact absurd e (Nat.not_succ_le_self _)
  exact⟨by rw[hbox,if_neg hne];exact(r.fresh i hi).1,(r.fresh i hi).2⟩
theorem Ja2.addBox{g:Gh}{h:Hp}{w:World}(r:JZ g h w){cs:List AV}{b:Nat}(l:Ja2 (g.addBox w.heap.size) {h with boxes:=h.boxes++[(h.nx,cs)],nx:=h.nx+1} b):Ja2 g h b\/w.heap.size<=b:=by
 have hg:g.nx=h.nx:=r.nx;rcases l with ⟨id,c,e1,e2⟩ | ⟨t,k,c,n,e1,e2⟩ | e1
 ·by_cases hi:id=h.nx
  ·simp[Gh.addBox,hg,hi] at e2;exact .inr (by omega)
  ·simp only[Gh.addBox,hg,if_neg hi] at e2;exact .inl (.inl ⟨id,c,by rwa [J5 hi] at e1,e2⟩)
 ·exact .inl (.inr (.inl ⟨t,k,c,n,e1,e2⟩))
 ·exact .inl (.inr (.inr e1))
def Gh.addRow(g:Gh)(b:Nat)(vs:Array Value):Gh:={g with mem:=fun b' o=>if b'=b then vs[o]? else g.mem b' o}
theorem JZ.ext_row{g:Gh}{h:Hp}{w:World}(r:JZ g h w)(vs:Array Value):Ext g (g.addRow w.heap.size vs) :=
 ⟨Nat.le_refl _,fun b o v e=>by
  have hb:b≠w.heap.size:=Nat.ne_of_lt (r.mem_lt e);simp[Gh.addRow,hb,e],fun _ _=>rfl,fun _ _=>Jas.refl _,fun _ _ h=>h,fun _ _=>rfl⟩
theorem JZ.addRow{g:Gh}{h:Hp}{w:World}(r:JZ g h w)(vs:Array Value)(ty:TypeId)(h1:∀ v∈vs.toList,v.oneCell'=true):JZ (g.addRow w.heap.size vs) h (w.alloc (.cells vs ty)) :=
 r.push _ _ (r.ext_row vs) rfl (fun b o hb=>by simp[Gh.addRow,Nat.ne_of_lt hb]) (fun o v e=>by
   simp only[Gh.addRow,if_true] at e;exact⟨by rw[World.cell?_alloc_new];exact e,h1 v (by simpa using Array.mem_of_getElem? e)⟩)
  (fun b o hb=>by simp only[Gh.addRow,if_neg (Nat.ne_of_gt hb)];exact r.mem_none o (Nat.le_of_lt hb)) rfl rfl rfl rfl
theorem JZ.setBox{g:Gh}{h:Hp}{w:World}(r:JZ g h w){id:Nat}{cs cs':List AV}(e:lk h.boxes id=some cs){b:Nat}(eb:g.box id=some b)(vs':Array Value)
  (hc:J9 g vs'.toList cs') (h1:∀ v∈vs'.toList,v.oneCell'=true):JZ g {h with boxes:=up h.boxes id cs'} (w.setRow b vs'):=by
 obtain⟨b0,vs,ty,q1,q2,q3,q4,q5⟩:=r.box id cs e;rw[q1] at eb;cases eb;have other:∀ k x,w.heap[k]? = some x->k≠b->(w.setRow b vs').heap[k]? = some x:=fun k x hk hne=>(setRow_other w b k vs' hne).trans hk;have some_up:∀ i,(lk (up h.boxes id cs') i).isSome=(lk h.boxes i).isSome:=fun i=>by
  rw[JH];by_cases hi:id=i
  ·subst hi;simp[e]
  ·simp[hi]
 refine⟨r.nx,fun b' o v e'=>?_,fun i c e'=>?_,fun t k e'=>?_,fun i j b' e1 e2 e3 e4=>?_,r.tktk,fun i j b' c n e1 e2 e3 e4=>?_,r.fresh,r.cchUp (.refl g) rfl (fun b' es k e'=>other b' _ e' (fun q=>by subst q;rw[q2] at e';cases e')),r.celUp rfl (fun b' vs0 e0 q=>(Classical.em (b'=b)).elim (fun q'=>⟨vs',ty,by rw[q'];exact setRow_heap w b vs vs' ty _ q2⟩) (fun q'=>⟨vs0,e0,other b' _ q q'⟩)),r.lprUp rfl (fun t k e _=>⟨e,rfl⟩) (fun _ _ q=>Jc9 w b vs' q)⟩
 ·obtain⟨f1,f2⟩:=r.mem b' o v e';have hne:b'≠b:=fun q=>by subst q;rw[q5] at e';cases e'
  exact⟨by rw[World.cell?_of_block (w:=w) (setRow_other w b b' vs' hne)];exact f1,f2⟩
 ·rw[JH] at e';by_cases hi:id=i
  ·subst hi;simp only[if_true,e,Option.map_some,Option.some.injEq] at e';subst e';exact⟨b,vs',ty,q1,setRow_heap w b vs vs' ty _ q2,hc,h1,q5⟩
  ·rw[if_neg hi] at e';obtain⟨b',vs0,ty0,f1,f2,f3,f4,f5⟩:=r.box i c e';refine⟨b',vs0,ty0,f1,other b' _ f2 (fun q=>hi ?_),f3,f4,f5⟩;subst q;exact r.bxbx id i b' q1 f1 (by rw[e];rfl) (by rw[e'];rfl)
 ·obtain⟨b',c,vs0,ty0,f1,f2,f3⟩:=r.tok t k e';refine⟨b',c,vs0,ty0,f1,other b' _ f2 (fun q=>?_),f3⟩;subst q;exact r.bxtk id t b' c _ q1 f1 (by rw[e];rfl) (by rw[e'];rfl)
 ·simp only[some_up] at e3 e4;exact r.bxbx i j b' e1 e2 e3 e4
 ·simp only[some_up] at e3;exact r.bxtk i j b' c n e1 e2 e3 e4
theorem Ja2.setBox{g:Gh}{h:Hp}{id:Nat}{cs':List AV}{b:Nat}(l:Ja2 g {h with boxes:=up h.boxes id cs'} b):Ja2 g h b:=by
 rcases l with ⟨i,c,e1,e2⟩ | ⟨t,k,c,n,e1,e2⟩ | e1
 ·simp only[JH] at e1;by_cases hi:id=i
  ·subst hi;cases hl:lk h.boxes id with
   | none=>simp[hl] at e1
   | some c0=>exact .inl ⟨id,c0,hl,e2⟩
  ·rw[if_neg hi] at e1;exact .inl ⟨i,c,e1,e2⟩
 ·exact .inr (.inl ⟨t,k,c,n,e1,e2⟩)
 ·exact .inr (.inr e1)
theorem Jai.alloc(F:Nat->Prop)(w:World)(o:Obj):Jai F w (w.alloc o):=⟨rfl,rfl,rfl,fun _=>Nat.le_refl _,by simp,fun _ hb _=>heap_alloc_old w o hb,fun b r e=>⟨r,JP e⟩⟩
theorem Jai.drew(F:Nat->Prop)(w:World):Jai F w w.drew:=⟨rfl,rfl,rfl,fun _=>Nat.le_succ _,Nat.le_refl _,fun _ _ _=>rfl,fun _ r e=>⟨r,e⟩⟩
theorem Jai.setRow{F:Nat->Prop}(w:World){b:Nat}(vs:Array Value)(hb:F b):Jai F w (w.setRow b vs) :=
 ⟨rfl,rfl,rfl,fun _=>Nat.le_refl _,by simp,fun k _ hk=>setRow_other w b k vs (fun q=>hk (q ▸ hb)),fun _ r e=>⟨r,Jc9 w b vs e⟩⟩
def Gh.addTok(g:Gh)(b c n:Nat):Gh:={g with tok:=fun i=>if i=g.nx then some (b,c,n) else g.tok i,nx:=g.nx+1}
theorem Ext.addTok(g:Gh)(b c n:Nat):Ext g (g.addTok b c n) :=
 ⟨Nat.le_succ _,fun _ _ _ h=>h,fun _ _=>rfl,fun t ht=>by simp only[Gh.addTok,if_neg (Nat.ne_of_lt ht)];exact Jas.refl _,fun _ _ h=>h,fun _ _=>rfl⟩
def JeW (g:Gh)(vs:Array Value)(xs:List (List AV))(s:Nat):Prop :=
 (∀ x∈xs,x.length=s)/\∀ (i:Nat) (x:List AV) (j:Nat) (a:AV),xs[i]? = some x->x[j]? = some a->∃ v,vs[i * s+j]? = some v/\Rep g v a
theorem JeW.mono{g g':Gh}(x:Ext g g'){vs:Array Value}{xs:List (List AV)}{s:Nat}(h:JeW g vs xs s):JeW g' vs xs s :=
 ⟨h.1,fun i y j a e1 e2=>let ⟨v,f1,f2⟩:=h.2 i y j a e1 e2;⟨v,f1,f2.mono x⟩⟩
theorem JZ.tokBlocks{g:Gh}{h:Hp}{w:World}(r:JZ g h w):∀ i,(lk h.toks i).isSome=true->∀ b c n,g.tok i=some (b,c,n)->b<w.heap.size:=fun i e b c n eb=>by
 obtain⟨k,hc⟩:=Option.isSome_iff_exists.1 e;obtain⟨b',c',vs',ty',e1,e2,_⟩:=r.tok i k hc;rw[e1] at eb;cases eb;exact Jaq e2
theorem JZ.boxBlocks{g:Gh}{h:Hp}{w:World}(r:JZ g h w):∀ i,(lk h.boxes i).isSome=true->∀ b,g.box i=some b->b<w.heap.size:=fun i e b eb=>by
 obtain⟨c,hc⟩:=Option.isSome_iff_exists.1 e;obtain⟨b',vs',ty',e1,e2,_⟩:=r.box i c hc;rw[e1] at eb;cases eb;exact Jaq e2
theorem JZ.addTok{g:Gh}{h:Hp}{w:World}(r:JZ g h w)(vs:Array Value)(ty:TypeId)(xs:List (List AV))(s c:Nat)(hl:JeW g vs xs s)(h1:∀ v∈vs.toList,v.oneCell'=true)
  (hs:vs.size=c * s) (hc:xs.length<=c) (h0:s≠0) :
  JZ (g.addTok w.heap.size c xs.length) {h with toks:=h.toks++[(h.nx,⟨xs,0,s⟩)],nx:=h.nx+1} (w.alloc (.cells vs ty)):=by
 have hx:=Ext.addTok g w.heap.size c xs.length;have hg:g.nx=h.nx:=r.nx;have htok:∀ i,(g.addTok w.heap.size c xs.length).tok i=if i=h.nx then some (w.heap.size,c,xs.length) else g.tok i:=fun i=>by simp[Gh.addTok,hg]
 have old:∀ i k,lk (h.toks++[(h.nx,(⟨xs,0,s⟩:Tk))]) i=some k->i≠h.nx->lk h.toks i=some k:=fun i k e hi=>by rwa [J5 hi] at e
 have oldS:∀ i,(lk (h.toks++[(h.nx,(⟨xs,0,s⟩:Tk))]) i).isSome=true->i≠h.nx->(lk h.toks i).isSome=true:=fun i e hi=>by rwa [J5 hi] at e
 refine⟨by simp[Gh.addTok,hg],fun b o v e=>?_,fun id cs e=>?_,fun t k e=>?_,r.bxbx,fun i j b c1 n1 c2 n2 e1 e2 e3 e4=>?_,fun i j b c1 n1 e1 e2 e3 e4=>?_,fun i e=>?_,r.cchUp hx rfl (fun b es k e=>JP e),r.celUp rfl (fun b vs e q=>⟨vs,e,JP q⟩),r.lprUp rfl (fun t k e hk=>by
  by_cases hi:t=h.nx
  ·subst hi;rw[JaH r.lk_fresh_tok] at e;cases e;exact absurd hk.1 h0
  ·exact⟨old t k e hi,by rw[htok,if_neg hi]⟩) (fun b q e=>JP e)⟩
 ·obtain⟨f1,f2⟩:=r.mem b o v e;exact⟨JcO f1,f2⟩
 ·obtain⟨b,vs',ty',f1,f2,f3,f4,f5⟩:=r.box id cs e;exact⟨b,vs',ty',f1,JP f2,f3.mono hx,f4,f5⟩
 ·by_cases hi:t=h.nx
  ·subst hi;rw[JaH r.lk_fresh_tok] at e;cases e;have st:(⟨xs,0,s⟩:Tk).st=s:=Tk.st_pos h0;refine⟨w.heap.size,c,vs,_,by rw[htok,if_pos rfl,Tk.tn_pos h0],heap_alloc_new w _,Tk.obj_cells h0 hs hc h1,Nat.zero_le _,by rw[st];exact hl.1,by rw[st];exact(hl.mono hx).2,fun o _=>r.mem_none o (Nat.le_refl _),r.cch_new (Nat.le_refl _)⟩
  ·obtain⟨b,c1,vs',ty',f1,f2,f3,f5,f6,f7,f9⟩:=r.tok t k (old t k e hi);refine⟨b,c1,vs',ty',by rw[htok,if_neg hi];exact f1,JP f2,f3,f5,f6,fun i y j a g1 g2=>?_,f9⟩;obtain⟨v,g3,g4⟩:=f7 i y j a g1 g2;exact⟨v,g3,g4.mono hx⟩
 ·rw[htok] at e1 e2;by_cases hi:i=h.nx <;> by_cases hj:j=h.nx
  ·rw[hi,hj]
  ·rw[if_pos hi] at e1;rw[if_neg hj] at e2;cases e1;have:=r.tokBlocks j (oldS j e4 hj) _ _ _ e2;omega
  ·rw[if_neg hi] at e1;rw[if_pos hj] at e2;cases e2;have:=r.tokBlocks i (oldS i e3 hi) _ _ _ e1;omega
  ·rw[if_neg hi] at e1;rw[if_neg hj] at e2;exact r.tktk i j b c1 n1 c2 n2 e1 e2 (oldS i e3 hi) (oldS j e4 hj)
 ·rw[htok] at e2;by_cases hj:j=h.nx
  ·rw[if_pos hj] at e2;cases e2;have:=r.boxBlocks i e3 _ e1;omega
  ·rw[if_neg hj] at e2;exact r.bxtk i j b c1 n1 e1 e2 e3 (oldS j e4 hj)
 ·have hi:h.nx<=i:=Nat.le_of_succ_le e;have hne:i≠h.nx:=fun q=>by subst q;exact absurd e (Nat.not_succ_le_self _)
  exact⟨(r.fresh i hi).1,by rw[htok,if_neg hne];exact(r.fresh i hi).2⟩
theorem Ja2.addTok{g:Gh}{h:Hp}{w:World}(r:JZ g h w){k:Tk}{c n b:Nat}(l:Ja2 (g.addTok w.heap.size c n) {h with toks:=h.toks++[(h.nx,k)],nx:=h.nx+1} b):Ja2 g h b\/w.heap.size<=b:=by
 have hg:g.nx=h.nx:=r.nx;rcases l with ⟨id,cs,e1,e2⟩ | ⟨t,k',c',n',e1,e2⟩ | e1
 ·exact .inl (.inl ⟨id,cs,e1,e2⟩)
 ·by_cases hi:t=h.nx
  ·simp[Gh.addTok,hg,hi] at e2;exact .inr (by omega)
  ·simp only[Gh.addTok,hg,if_neg hi] at e2;exact .inl (.inr (.inl ⟨t,k',c',n',by rwa [J5 hi] at e1,e2⟩))
 ·exact .inl (.inr (.inr e1))
end Go.Ab
end
section
namespace Go.Ab
def Gh.setTok(g:Gh)(t b c n:Nat):Gh:={g with tok:=fun i=>if i=t then some (b,c,n) else g.tok i}
theorem Ext.setTok{g:Gh}{t b c n b' c' n':Nat}(e:g.tok t=some (b,c,n))(h0:n<=c)(h0':n'<=c')(hn:n<=n')(hs:n=n'->b'=b/\c'=c):Ext g (g.setTok t b' c' n') :=
 ⟨Nat.le_refl _,fun _ _ _ h=>h,fun _ _=>rfl,fun i _=>by
  by_cases hi:i=t
  ·subst hi;simp only[Gh.setTok,if_true];exact .inr ⟨b,c,n,b',c',n',e,rfl,hn,hs,fun _=>h0',fun q=>by omega⟩
  ·simp only[Gh.setTok,if_neg hi];exact Jas.refl _,fun _ _ h=>h,fun _ _=>rfl⟩
theorem Jal{α:Type}{l:List (Nat × α)}{t:Nat}{x:α}(i:Nat):(lk (up l t x) i).isSome=(lk l i).isSome:=by
 rw[JH];by_cases hi:t=i
 ·subst hi;cases lk l t <;> simp
 ·simp[hi]
theorem Jsp{l:List (Nat × Tk)}{t i:Nat}{x k:Tk}(hx:x.s≠0)(e:lk (up l t x) i=some k)(hk:k.lp):i≠t/\lk l i=some k:=by
 rw[JH] at e;by_cases hi:t=i
 ·rw[if_pos hi] at e;obtain⟨_,_,rfl⟩:=Option.map_eq_some_iff.1 e;exact absurd hk.1 hx
 ·rw[if_neg hi] at e;exact⟨fun q=>hi q.symm,e⟩
theorem JZ.setTok{g:Gh}{h:Hp}{w:World}(r:JZ g h w){t:Nat}{k:Tk}(e:lk h.toks t=some k){b c n:Nat}(eb:g.tok t=some (b,c,n))(vs':Array Value)(xs':List (List AV))(fz':Nat)
  (h0:k.s≠0) (hl:JeW g vs' xs' k.s) (h1:∀ v∈vs'.toList,v.oneCell'=true) (hs:vs'.size=c * k.s) (hn:k.xs.length<=xs'.length) (hc:xs'.length<=c) (hz:k.fz<=fz') (hz':fz'<=xs'.length)
  (hm:∀ o v,g.mem b o=some v->vs'[o]? = some v) :
  JZ (g.setTok t b c xs'.length) {h with toks:=up h.toks t ⟨xs',fz',k.s⟩} (w.setRow b vs')/\Ext g (g.setTok t b c xs'.length):=by
 obtain⟨b0,c0,vs,ty,q1,q2,q3,q4,q5,q6,q7,q8,q9⟩:=r.tokS e h0;rw[q1] at eb;cases eb;have hx:Ext g (g.setTok t b c xs'.length):=Ext.setTok q1 q4 hc hn (fun _=>⟨rfl,rfl⟩);have other:∀ j x,w.heap[j]? = some x->j≠b->(w.setRow b vs').heap[j]? = some x:=fun j x hk hne=>(setRow_other w b j vs' hne).trans hk;have tk:∀ i b' c' n',(g.setTok t b c xs'.length).tok i=some (b',c',n')->∃ c1 n1,g.tok i=some (b',c1,n1):=fun i b' c' n' q=>by
  by_cases hi:i=t
  ·subst hi;simp only[Gh.setTok,if_true,Option.some.injEq,Prod.mk.injEq] at q;exact⟨c,_,by rw[q1,q.1]⟩
  ·simp only[Gh.setTok,if_neg hi] at q;exact⟨c',n',q⟩
 refine⟨⟨r.nx,fun b' o v e'=>?_,fun i cs e'=>?_,fun i k' e'=>?_,r.bxbx,fun i j b' c1 n1 c2 n2 e1 e2 e3 e4=>?_,fun i j b' c' n' e1 e2 e3 e4=>?_,fun i hi=>?_,r.cchUp hx rfl (fun b' es k e'=>other b' _ e' (fun q=>by subst q;rw[q2] at e';cases e')),r.celUp rfl (fun b' vs0 e0 q=>(Classical.em (b'=b)).elim (fun q'=>⟨vs',ty,by rw[q'];exact setRow_heap w b vs vs' ty _ q2⟩) (fun q'=>⟨vs0,e0,other b' _ q q'⟩)),r.lprUp rfl (fun i k' e' hk=>let ⟨hi,e2⟩:=Jsp (x:=⟨xs',fz',k.s⟩) h0 e' hk;⟨e2,by simp only[Gh.setTok,if_neg hi]⟩) (fun _ _ q=>Jc9 w b vs' q)⟩,hx⟩
 ·obtain⟨f1,f2⟩:=r.mem b' o v e';by_cases hb:b'=b
  ·subst hb;refine⟨?_,f2⟩;rw[Jaj (setRow_heap w b' vs vs' ty _ q2)];exact hm o v e'
  ·exact⟨by rw[World.cell?_of_block (w:=w) (setRow_other w b b' vs' hb)];exact f1,f2⟩
 ·obtain⟨b',vs0,ty0,f1,f2,f3,f4,f5⟩:=r.box i cs e';refine⟨b',vs0,ty0,f1,other b' _ f2 (fun q=>?_),f3.mono hx,f4,f5⟩;subst q;exact r.bxtk i t b' c _ f1 q1 (by rw[e'];rfl) (by rw[e];rfl)
 ·rw[JH] at e';by_cases hi:t=i
  ·subst hi;simp only[if_true,e,Option.map_some,Option.some.injEq] at e';subst e';have st:(⟨xs',fz',k.s⟩:Tk).st=k.s:=Tk.st_pos h0;exact⟨b,c,vs',_,by simp[Gh.setTok,Tk.tn_pos (k:=⟨xs',fz',k.s⟩) h0],setRow_heap w b vs vs' ty _ q2,Tk.obj_cells (k:=⟨xs',fz',k.s⟩) h0 hs hc h1,hz',by rw[st];exact hl.1,by rw[st];exact(hl.mono hx).2,fun o ho=>q9 o (Nat.le_trans (Nat.mul_le_mul_right _ hz) ho),r.tok_cch e q1⟩
  ·rw[if_neg hi] at e';obtain⟨b',c',vs0,ty0,f1,f2,f3,f5,f6,f7,f9⟩:=r.tok i k' e';refine⟨b',c',vs0,ty0,by simp only[Gh.setTok,if_neg (fun q:i=t=>hi q.symm)];exact f1,other b' _ f2 (fun q=>hi ?_),f3,f5,f6,fun i y j a g1 g2=>?_,f9⟩
   ·subst q;exact r.tktk t i b' c _ c' _ q1 f1 (by rw[e];rfl) (by rw[e'];rfl)
   ·obtain⟨v,g3,g4⟩:=f7 i y j a g1 g2;exact⟨v,g3,g4.mono hx⟩
 ·simp only[Jal] at e3 e4;obtain⟨c3,n3,e5⟩:=tk i _ _ _ e1;obtain⟨c4,n4,e6⟩:=tk j _ _ _ e2;exact r.tktk i j b' _ _ _ _ e5 e6 e3 e4
 ·simp only[Jal] at e4;obtain⟨c3,n3,e5⟩:=tk j _ _ _ e2;exact r.bxtk i j b' _ _ e1 e5 e3 e4
 ·have ht:=r.tok_lt e;have hi':h.nx<=i:=hi;have hne:i≠t:=by omega
  refine⟨(r.fresh i hi).1,?_⟩;simp only[Gh.setTok,if_neg hne];exact(r.fresh i hi).2
theorem Ja2.setTok{g:Gh}{h:Hp}{t:Nat}{k k':Tk}(e:lk h.toks t=some k){b c n n' x:Nat}(eb:g.tok t=some (b,c,n))(l:Ja2 (g.setTok t b c n') {h with toks:=up h.toks t k'} x):Ja2 g h x:=by
 rcases l with ⟨i,cs,e1,e2⟩ | ⟨i,k1,c1,n1,e1,e2⟩ | e1
 ·exact .inl ⟨i,cs,e1,e2⟩
 ·by_cases hi:i=t
  ·subst hi;simp only[Gh.setTok,if_true,Option.some.injEq,Prod.mk.injEq] at e2;exact .inr (.inl ⟨i,k,c,n,e,by rw[eb,e2.1]⟩)
  ·simp only[Gh.setTok,if_neg hi] at e2;simp only[JH] at e1;rw[if_neg (fun q:t=i=>hi q.symm)] at e1;exact .inr (.inl ⟨i,k1,c1,n1,e1,e2⟩)
 ·exact .inr (.inr e1)
theorem JZ.moveTok{g:Gh}{h:Hp}{w:World}(r:JZ g h w){t:Nat}{k:Tk}(e:lk h.toks t=some k)(vs':Array Value)(ty:TypeId)(xs':List (List AV))(c:Nat)
  (h0:k.s≠0) (hl:JeW g vs' xs' k.s) (h1:∀ v∈vs'.toList,v.oneCell'=true) (hs:vs'.size=c * k.s) (hn:k.xs.length<xs'.length) (hc:xs'.length<=c) :
  JZ (g.setTok t w.heap.size c xs'.length) {h with toks:=up h.toks t ⟨xs',k.fz,k.s⟩} (w.alloc (.cells vs' ty))/\Ext g (g.setTok t w.heap.size c xs'.length):=by
 obtain⟨b,c0,vs,ty0,q1,q2,q3,q4,q5,q6,q7,q8,q9⟩:=r.tokS e h0;have hx:Ext g (g.setTok t w.heap.size c xs'.length):=Ext.setTok q1 q4 hc (Nat.le_of_lt hn) (fun q=>by omega);refine⟨⟨r.nx,fun b' o v e'=>?_,fun i cs e'=>?_,fun i k' e'=>?_,r.bxbx,fun i j b' c1 n1 c2 n2 e1 e2 e3 e4=>?_,fun i j b' c' n' e1 e2 e3 e4=>?_,fun i hi=>?_,r.cchUp hx rfl (fun b' es k e'=>JP e'),r.celUp rfl (fun b vs e q=>⟨vs,e,JP q⟩),r.lprUp rfl (fun i k' e' hk=>let ⟨hi,e2⟩:=Jsp (x:=⟨xs',k.fz,k.s⟩) h0 e' hk;⟨e2,by simp only[Gh.setTok,if_neg hi]⟩) (fun _ _ q=>JP q)⟩,hx⟩
 ·obtain⟨f1,f2⟩:=r.mem b' o v e';exact⟨JcO f1,f2⟩
 ·obtain⟨b',vs0,ty1,f1,f2,f3,f4,f5⟩:=r.box i cs e';exact⟨b',vs0,ty1,f1,JP f2,f3.mono hx,f4,f5⟩
 ·rw[JH] at e';by_cases hi:t=i
  ·subst hi;simp only[if_true,e,Option.map_some,Option.some.injEq] at e';subst e';have st:(⟨xs',k.fz,k.s⟩:Tk).st=k.s:=Tk.st_pos h0;exact⟨w.heap.size,c,vs',_,by simp[Gh.setTok,Tk.tn_pos (k:=⟨xs',k.fz,k.s⟩) h0],heap_alloc_new w _,Tk.obj_cells (k:=⟨xs',k.fz,k.s⟩) h0 hs hc h1,by simp only;omega,by rw[st];exact hl.1,by rw[st];exact(hl.mono hx).2,fun o _=>r.mem_none o (Nat.le_refl _),r.cch_new (Nat.le_refl _)⟩
  ·rw[if_neg hi] at e';obtain⟨b',c',vs0,ty1,f1,f2,f3,f5,f6,f7,f9⟩:=r.tok i k' e';refine⟨b',c',vs0,ty1,by simp only[Gh.setTok,if_neg (fun q:i=t=>hi q.symm)];exact f1,JP f2,f3,f5,f6,fun i y j a g1 g2=>?_,f9⟩;obtain⟨v,g3,g4⟩:=f7 i y j a g1 g2;exact⟨v,g3,g4.mono hx⟩
 ·simp only[Jal] at e3 e4;by_cases hi:i=t <;> by_cases hj:j=t
  ·rw[hi,hj]
  ·simp only[Gh.setTok,if_pos hi,if_neg hj,Option.some.injEq,Prod.mk.injEq] at e1 e2;have:=r.tokBlocks j e4 _ _ _ e2;omega
  ·simp only[Gh.setTok,if_neg hi,if_pos hj,Option.some.injEq,Prod.mk.injEq] at e1 e2;have:=r.tokBlocks i e3 _ _ _ e1;omega
  ·simp only[Gh.setTok,if_neg hi,if_neg hj] at e1 e2;exact r.tktk i j b' _ _ _ _ e1 e2 e3 e4
 ·simp only[Jal] at e4;by_cases hj:j=t
  ·simp only[Gh.setTok,if_pos hj,Option.some.injEq,Prod.mk.injEq] at e2;have:=r.boxBlocks i e3 _ e1;omega
  ·simp only[Gh.setTok,if_neg hj] at e2;exact r.bxtk i j b' _ _ e1 e2 e3 e4
 ·have ht:=r.tok_lt e;have hi':h.nx<=i:=hi;have hne:i≠t:=by omega
  refine⟨(r.fresh i hi).1,?_⟩;simp only[Gh.setTok,if_neg hne];exact(r.fresh i hi).2
theorem Ja2.moveTok{g:Gh}{h:Hp}{w:World}{t:Nat}{k':Tk}{c n' x:Nat}(l:Ja2 (g.setTok t w.heap.size c n') {h with toks:=up h.toks t k'} x):Ja2 g h x\/w.heap.size<=x:=by
 rcases l with ⟨i,cs,e1,e2⟩ | ⟨i,k1,c1,n1,e1,e2⟩ | e1
 ·exact .inl (.inl ⟨i,cs,e1,e2⟩)
 ·by_cases hi:i=t
  ·subst hi;simp only[Gh.setTok,if_true,Option.some.injEq,Prod.mk.injEq] at e2;exact .inr (by omega)
  ·simp only[Gh.setTok,if_neg hi] at e2;simp only[JH] at e1;rw[if_neg (fun q:t=i=>hi q.symm)] at e1;exact .inl (.inr (.inl ⟨i,k1,c1,n1,e1,e2⟩))
 ·exact .inl (.inr (.inr e1))
def Gh.freeze(g:Gh)(b m:Nat)(vs:Array Value):Gh:={g with mem:=fun b' o=>if b'=b/\o<m then vs[o]? else g.mem b' o}
theorem JZ.freezeM{g:Gh}{h:Hp}{w:World}(r:JZ g h w){t:Nat}{k:Tk}(e:lk h.toks t=some k) :
  ∃ g',JZ g' {h with toks:=up h.toks t ⟨k.xs,k.xs.length,k.s⟩} w/\Ext g g'/\(∀ v,Rep g v (.own t k.xs.length)->Rep g' v (.vec k.xs false))/\g'.box=g.box/\(g'.tok=g.tok/\g'.cch=g.cch)/\∀ b o v,g'.mem b o=some v->g.mem b o=some v\/∃ c n,g.tok t=some (b,c,n):=by
 by_cases h0:k.s=0
 ·refine⟨g,⟨r.nx,r.mem,r.box,fun i k' e'=>?_,r.bxbx,fun i j b' c1 n1 c2 n2 e1 e2 e3 e4=>?_,fun i j b' c' n' e1 e2 e3 e4=>?_,r.fresh,r.cch,r.cel,fun i k' b c n e' hk q=>by
   rw[JH] at e';by_cases hi:t=i
   ·subst hi;simp only[if_true,e,Option.map_some,Option.some.injEq] at e';subst e';exact r.lpr t k b c n e hk q
   ·rw[if_neg hi] at e';exact r.lpr i k' b c n e' hk q⟩,.refl g,fun v hv=>absurd h0 (r.tokO e hv),rfl,⟨rfl,rfl⟩,fun _ _ _ q=>.inl q⟩
  ·rw[JH] at e';by_cases hi:t=i
   ·subst hi;simp only[if_true,e,Option.map_some,Option.some.injEq] at e';subst e';obtain⟨b,c,vs,o,f1,f2,f3,f5,f6,f7,f9,f10⟩:=r.tok t k e;refine⟨b,c,vs,o,f1,f2,f3.imp (fun f q=>f q) (fun f q=>f q),Nat.le_refl _,f6,f7,fun o _=>f9 o (by rw[h0];simp),f10⟩
   ·rw[if_neg hi] at e';exact r.tok i k' e'
  ·simp only[Jal] at e3 e4;exact r.tktk i j b' c1 n1 c2 n2 e1 e2 e3 e4
  ·simp only[Jal] at e4;exact r.bxtk i j b' c' n' e1 e2 e3 e4
 obtain⟨b,c,vs,ty,q1,q2,q3,q4,q5,q6,q7,q8,q9⟩:=r.tokS e h0;have hx:Ext g (g.freeze b (k.xs.length * k.s) vs):=⟨Nat.le_refl _,fun b' o v e'=>by
  by_cases hb:b'=b/\o<k.xs.length * k.s
  ·obtain⟨rfl,_⟩:=hb;have:=(r.mem _ o v e').1;rw[Jaj q2] at this;simp only[Gh.freeze];split <;> assumption
  ·simp only[Gh.freeze,if_neg hb];exact e',fun _ _=>rfl,fun _ _=>Jas.refl _,fun _ _ h=>h,fun _ _=>rfl⟩
 refine⟨g.freeze b (k.xs.length * k.s) vs,⟨r.nx,fun b' o v e'=>?_,fun i cs e'=>?_,fun i k' e'=>?_,r.bxbx,fun i j b' c1 n1 c2 n2 e1 e2 e3 e4=>?_,fun i j b' c' n' e1 e2 e3 e4=>?_,r.fresh,r.cchUp hx rfl (fun _ _ _ e=>e),r.celUp rfl (fun _ _ _ q=>⟨_,_,q⟩),r.lprUp rfl (fun i k' e' hk=>⟨(Jsp (x:=⟨k.xs,k.xs.length,k.s⟩) h0 e' hk).2,rfl⟩) (fun _ _ q=>q)⟩,hx,fun v hv=>?_,rfl,⟨rfl,rfl⟩,fun b' o v e'=>?_⟩
 ·simp only[Gh.freeze] at e';split at e'
  ·rename_i hb;obtain⟨rfl,_⟩:=hb;exact⟨by rw[Jaj q2];exact e',q8 v (by simpa using Array.mem_of_getElem? e')⟩
  ·exact r.mem b' o v e'
 ·obtain⟨b',vs0,ty0,f1,f2,f3,f4,f5⟩:=r.box i cs e';refine⟨b',vs0,ty0,f1,f2,f3.mono hx,f4,fun o=>?_⟩;have hne:b'≠b:=fun q=>by subst q;exact r.bxtk i t b' c _ f1 q1 (by rw[e'];rfl) (by rw[e];rfl)
  simp[Gh.freeze,hne,f5 o]
 ·rw[JH] at e';by_cases hi:t=i
  ·subst hi;simp only[if_true,e,Option.map_some,Option.some.injEq] at e';subst e';have st:(⟨k.xs,k.xs.length,k.s⟩:Tk).st=k.s:=Tk.st_pos h0;refine⟨b,c,vs,_,by rw[Tk.tn_pos (k:=⟨k.xs,k.xs.length,k.s⟩) h0];exact q1,q2,Tk.obj_cells h0 q3 q4 q8,Nat.le_refl _,by rw[st];exact q6,by rw[st];exact(JeW.mono hx ⟨q6,q7⟩).2,fun o ho=>?_,r.tok_cch e q1⟩;simp only[Gh.freeze];rw[if_neg (by simp only at ho;omega)];exact q9 o (Nat.le_trans (Nat.mul_le_mul_right _ q5) ho)
  ·rw[if_neg hi] at e';obtain⟨b',c',vs0,ty1,f1,f2,f3,f5,f6,f7,f9,f10⟩:=r.tok i k' e';have hne:b'≠b:=fun q=>hi (by subst q;exact r.tktk t i b' c _ c' _ q1 f1 (by rw[e];rfl) (by rw[e'];rfl))
   refine⟨b',c',vs0,ty1,f1,f2,f3,f5,f6,(JeW.mono hx ⟨f6,f7⟩).2,fun o ho=>by simp[Gh.freeze,hne,f9 o ho],f10⟩
 ·simp only[Jal] at e3 e4;exact r.tktk i j b' c1 n1 c2 n2 e1 e2 e3 e4
 ·simp only[Jal] at e4;exact r.bxtk i j b' c' n' e1 e2 e3 e4
 ·cases hv with
  | own h1 h2 =>
   obtain⟨_,_,h3⟩:=h2 b c k.xs.length q1;obtain⟨rfl,rfl⟩:=h3 rfl;refine .vec (s:=k.s) (fun i j=>vs.getD (i * k.s+j) undef) q6 (by simp) q4 (fun i x j a e1 e2=>?_) (fun i x j a e1 e2=>?_)
   ·obtain⟨v,f1,f2⟩:=q7 i x j a e1 e2;have hj:j<k.s:=by rw[<- q6 x (List.mem_of_getElem? e1)];exact(List.getElem?_eq_some_iff.1 e2).1
    have hi:i<k.xs.length:=(List.getElem?_eq_some_iff.1 e1).1;have hlt:i * k.s+j<k.xs.length * k.s:=by
     calc i * k.s+j<i * k.s+k.s:=by omega
      _=(i+1) * k.s:=by rw[Nat.add_mul,Nat.one_mul]
      _<=k.xs.length * k.s:=Nat.mul_le_mul_right _ hi
    simp only[Gh.freeze,Nat.zero_add];rw[if_pos ⟨trivial,hlt⟩,f1,Array.getD_eq_getD_getElem?,f1];rfl
   ·obtain⟨v,f1,f2⟩:=q7 i x j a e1 e2;rw[Array.getD_eq_getD_getElem?,f1];exact f2.mono hx
 ·simp only[Gh.freeze] at e';split at e'
  ·rename_i hb;exact .inr ⟨c,_,by rw[hb.1];exact q1⟩
  ·exact .inl e'
theorem JZ.freeze'{g:Gh}{h:Hp}{w:World}(r:JZ g h w){t:Nat}{k:Tk}(e:lk h.toks t=some k){b c:Nat}{vs:Array Value}{ty:TypeId}(q1:g.tok t=some (b,c,k.xs.length))(q2:w.heap[b]? = some (.cells vs ty (0,0)))(q3:vs.size=c * k.s) :
  ∃ g':Gh,(∀ b o v,g'.mem b o=some v->w.cell? ⟨b,o,none⟩=some v/\v.oneCell'=true)/\(∀ b o v,g.mem b o=some v->g'.mem b o=some v)/\(∀ b' o v,g'.mem b' o=some v->g.mem b' o=some v\/b'=b) /\
   (∀ v,Rep g v (.own t k.xs.length)->Rep g' v (.vec k.xs false))/\g'.tok=g.tok:=by
 obtain⟨g',h1,h2,h3,h4,h5,h6⟩:=r.freezeM e;refine⟨g',fun b o v q=>h1.mem b o v q,h2.mem,fun b'' o v q=>?_,h3,h5.1⟩;rcases h6 b'' o v q with q' | ⟨c1,n1,q'⟩
 ·exact .inl q'
 ·rw[q1] at q';cases q';exact .inr rfl
theorem Ja2.freeze{g g':Gh}{h:Hp}{t:Nat}{k k':Tk}(e:lk h.toks t=some k)(hb:g'.box=g.box)(ht:g'.tok=g.tok)(hc:g'.cch=g.cch){x:Nat}(l:Ja2 g' {h with toks:=up h.toks t k'} x):Ja2 g h x:=by
 rcases l with ⟨i,cs,e1,e2⟩ | ⟨i,k1,c1,n1,e1,e2⟩ | ⟨t',e1⟩
 ·exact .inl ⟨i,cs,e1,by rw[<- hb];exact e2⟩
 ·rw[ht] at e2;by_cases hi:t=i
  ·subst hi;exact .inr (.inl ⟨t,k,c1,n1,e,e2⟩)
  ·simp only[JH] at e1;rw[if_neg hi] at e1;exact .inr (.inl ⟨i,k1,c1,n1,e1,e2⟩)
 ·exact .inr (.inr ⟨t',by rw[<- hc];exact e1⟩)
end Go.Ab
end
section
namespace Go.Ab
abbrev RF(ro:Option Nat):Fence:={Fence.wide with round:=ro}
theorem JrA{n:Nat}{ro:Option Nat}{P:Program}{f:FuncId}{args:Array Value}{w:World}{R:Ending->World->Prop}(h:Calls P f args w R):CallsIn (RF ro) n P f args w R :=
 (callsIn_wide (n:=n)).2 h
theorem JnE{n:Nat}{ro:Option Nat}{P:Program}{f:FuncId}{args:Array Value}{w:World}{R:Ending->World->Prop}(h:CallsIn (RF ro) n P f args w R):Calls P f args w R :=
 (callsIn_wide (n:=n)).1 h
theorem JzG(ro:Option Nat)(n:Nat):(RF ro).room n:=fun d h=>by simp[RF,Fence.wide] at h
theorem Jt4{n m:Nat}{ro ro':Option Nat}{P:Program}{l:Nat}{f:FuncId}{tmps:Array Value}{assign body:Code}{w:World}{R:Ending->World->Prop}
  (h:RoundIn (RF ro) n P l f tmps assign body w R):RoundIn (RF ro') m P l f tmps assign body w R:=⟨trivial,fun c cs _=>h.2 c cs (JzG _ _)⟩
def Oper.wp(P:Program)(o:Oper)(a:Act)(w:World)(next:Act->World->Prop)(Q:Exit->Act->World->Prop):Prop :=
 match (execOp a.eval o).run P w with
 | .ok (.value v) w'=>next (a.put o.dst v) w'
 | .ok .skip w'=>next (a.put o.dst undef) w'
 | .ok (.enter f args) w'=>Calls P f args w' fun e w''=>match e with
  | .returned v=>next (a.put o.dst v) w''
  | _=>False
 | .ok (.round l f tmps assign body) w'=>RoundIn (RF none) 0 P l f tmps assign body w' fun e w''=>match e with
  | .returned v=>next (a.put o.dst v) w''
  | _=>False
 | _=>False
theorem Oper.wp_mono{P:Program}{o:Oper}{a:Act}{w:World}{K K':Act->World->Prop}{Q Q':Exit->Act->World->Prop}(h:∀ a w,K a w->K' a w)(hh:Oper.wp P o a w K Q):Oper.wp P o a w K' Q':=by
 unfold Oper.wp at *;split at hh
 ·exact h _ _ hh
 ·exact h _ _ hh
 ·exact hh.mono fun e w' q=>by cases e <;> first | exact h _ _ q | exact q
 ·exact hh.mono fun e w' q=>by cases e <;> first | exact h _ _ q | exact q
 ·exact hh
theorem Jmk{P:Program}{o:Oper}{a:Act}{w:World}{c:Call}(ho:o.op = .defer c):(∃ d w',(execOp a.eval o).run P w = .ok (.defer d) w')\/∃ x w',(execOp a.eval o).run P w = .halt x w':=by
 simp only[execOp,ho,Sem.run_bind];cases (resolve a.eval c o.type).run P w with
 | ok d w'=>exact .inl ⟨_,_,rfl⟩
 | halt x w'=>exact .inr ⟨_,_,rfl⟩
theorem JrB{ro:Option Nat}{n:Nat}{P:Program}{o:Oper}{a:Act}{w:World}{K:Act->World->Prop}{Q Q':Exit->Act->World->Prop}(h:Oper.wp P o a w K Q):o.wpIn (RF ro) n P a w K Q':=by
 refine⟨fun _ _=>trivial,?_⟩;have hs:o.semAt ro a.eval=execOp a.eval o:=Oper.semAt_eq ro a.eval o fun c hc=>by
  unfold Oper.wp at h;rcases Jmk (P:=P) (a:=a) (w:=w) hc with ⟨d,w',e⟩ | ⟨x,w',e⟩ <;> rw[e] at h <;> exact h
 show o.uponIn (RF ro) n P a K Q' ((o.semAt ro a.eval).run P w);rw[hs];unfold Oper.wp at h;split at h
 ·rename_i e;rw[e];exact h
 ·rename_i e;rw[e];exact h
 ·rename_i e;rw[e];exact⟨fun q=>by simp[RF,Fence.wide] at q,(JrA h).mono fun e w' q=>by cases e <;> first | exact q | exact q.elim⟩
 ·rename_i e;rw[e];exact⟨fun q=>by simp[RF,Fence.wide] at q,(Jt4 h).mono fun e w' q=>by cases e <;> first | exact q | exact q.elim⟩
 ·exact h.elim
def Jkx (P:Program)(ops:Array Oper)(Q:Exit->Act->World->Prop)(i:Nat)(K:Act->World->Prop)(a:Act)(w:World):Prop :=
 match ops[i]? with
 | none=>K a w
 | some o=>if Region.wanted o (yielded ops a.tmps) then Oper.wp P o a w K Q\/False else K (a.put o.dst undef) w
def Ja5(P:Program)(md:Region.Mode)(ops:Array Oper)(Q:Exit->Act->World->Prop):Nat->Array Bool->Act->World->Prop
 | 0,listed,a,w=>Region.ready md ops listed=[]/\Q .normal a w
 | fuel+1,listed,a,w=>(Region.ready md ops listed=[]->Q .normal a w)/\∀ i∈Region.ready md ops listed,Jkx P ops Q i (Ja5 P md ops Q fuel (listed.setIfInBounds i true)) a w
def JbQ(P:Program)(ops:Array Oper)(Q:Exit->Act->World->Prop):List Oper->Act->World->Prop
 | [],a,w=>Q .normal a w
 | o :: rest,a,w=>if Region.wanted o (yielded ops a.tmps) then Oper.wp P o a w (JbQ P ops Q rest) Q\/False else JbQ P ops Q rest (a.put o.dst undef) w
theorem JhZ{ro:Option Nat}{n:Nat}{P:Program}{md:Region.Mode}{ops:Array Oper}{Q:Exit->Act->World->Prop}:∀ (fuel:Nat) (listed:Array Bool) (a:Act) (w:World),
  Ja5 P md ops Q fuel listed a w->wpAnyIn (RF ro) n P md ops Q fuel listed a w
 | 0,_,_,_,h=>h
 | fuel+1,listed,a,w,h=>by
  refine⟨h.1,fun i hi=>?_⟩;have hh:=h.2 i hi;unfold Jkx at hh;unfold wpOpIn;split
  ·rename_i e;rw[e] at hh;exact JhZ fuel _ _ _ hh
  ·rename_i o e;rw[e] at hh;simp only at hh;split
   ·rename_i hw;rw[if_pos hw,or_false] at hh;exact JrB (Oper.wp_mono (Q':=Q) (fun a' w' q=>JhZ fuel _ a' w' q) hh)
   ·rename_i hw;rw[if_neg hw] at hh;exact⟨fun _ _=>trivial,JhZ fuel _ _ _ hh⟩
theorem JaT{ro:Option Nat}{n:Nat}{P:Program}{ops:Array Oper}{Q:Exit->Act->World->Prop}{id:Nat}{a:Act}{w:World}(hm:P.follows .mixedOrders=true)
  (h:Ja5 P .any ops Q ops.size (Array.replicate ops.size false) a {w with drawn:=w.drawn+1}):(Code.region id ops true).wpIn (RF ro) n P Q a w:=wpIn_region_any hm (JhZ _ _ _ _ h)
theorem Jh0{ro:Option Nat}{n:Nat}{P:Program}{ops:Array Oper}{Q:Exit->Act->World->Prop}:∀ (l:List Oper) (a:Act) (w:World),JbQ P ops Q l a w->wpListIn (RF ro) n P ops Q l a w
 | [],_,_,h=>h
 | o :: rest,a,w,h=>by
  unfold JbQ at h;unfold wpListIn;split
  ·rename_i hw;rw[if_pos hw,or_false] at h;exact JrB (Oper.wp_mono (Q':=Q) (fun a' w' q=>Jh0 rest a' w' q) h)
  ·rename_i hw;rw[if_neg hw] at h;exact⟨fun _ _=>trivial,Jh0 rest _ _ h⟩
theorem JeX{ro:Option Nat}{n:Nat}{P:Program}{ops:Array Oper}{Q:Exit->Act->World->Prop}{id:Nat}{a:Act}{w:World}
  (h:JbQ P ops Q ops.toList a w):(Code.region id ops false).wpIn (RF ro) n P Q a w:=wpIn_region_list (Jh0 _ _ _ h)
section
variable {F:Fence} {n:Nat} {P:Program} {a:Act} {w:World} {Q:Exit->Act->World->Prop}
theorem Jf0{b:Frame}{k:List Item}{cs:List Frame}{c:Code}:step P (lone (b.atR a (.code (.scope c) :: k)) cs w) = .next (lone (b.atR a (.code c :: .inScope c :: k)) cs w) :=
 step_lone_go (by simp[stepG,stepG.exec,Frame.atR])
theorem JeB{b:Frame}{k:List Item}{cs:List Frame}{c:Code}:step P (lone (b.atR a (.inScope c :: k)) cs w) = .next (lone (b.atR a k) cs w) :=
 step_lone_go (by simp[stepG,stepG.exec,Frame.atR])
theorem JfI{c rest:Code}(l:Nat)(J:Act->World->Prop)(μ:Act->World->Nat)(hf:findLabel c l=some rest)
  (first:c.wpIn F n P (Exit.jump l J Q) a w)
  (pass:∀ a w,J a w->rest.wpIn F n P (Exit.jump l (fun a' w'=>J a' w'/\μ a' w'<μ a w) Q) a w):(Code.scope c).wpIn F n P Q a w:=by
 intro b k cs hro hb hr;have hg:gotoIn l (.inScope c :: k)=some (.code rest :: .inScope c :: k):=by simp[gotoIn,hf]
 have out:∀ {m:Machine} {e:Exit} {a₁:Act} {w₁:World},(∀ l',e≠.goto l')->ArrivesIn (Machine.fenced P F) P m b (.inScope c :: k) cs e a₁ w₁->ArrivesIn (Machine.fenced P F) P m b k cs e a₁ w₁:=by
  intro m e a₁ w₁ hn harr;cases e with
  | normal=>exact StepsIn.trans harr (.one (fenced_calm hb hr rfl) JeB)
  | exit id=>exact⟨fun k' hk=>harr.1 k' (by simp[exitTo,hk]),fun hr' hk=>harr.2 hr' (by simp[exitTo,hk])⟩
  | goto l'=>exact absurd rfl (hn l')
  | ret=>exact harr
  | panic ch=>exact harr
  | outgrown=>exact harr
 have key:∀ j a w,μ a w=j->J a w->∃ e a' w',Q e a' w'/\ArrivesIn (Machine.fenced P F) P (lone (b.atR a (.code rest :: .inScope c :: k)) cs w) b k cs e a' w':=by
  intro j;induction j using Nat.strongRecOn with
  | _ j ih =>
   intro a w hn hJ;obtain⟨e,a₁,w₁,hq,harr⟩:=pass a w hJ b (.inScope c :: k) cs hro hb hr;cases e with
   | goto l' =>
    obtain⟨rfl,hJ',hlt⟩:=hq;obtain⟨e₂,a₂,w₂,hq₂,harr₂⟩:=ih _ (by omega) a₁ w₁ rfl hJ';exact⟨e₂,a₂,w₂,hq₂,.of_steps (harr.1 _ hg) harr₂⟩
   | normal=>exact⟨_,a₁,w₁,hq,out (fun _ h=>by cases h) harr⟩
   | exit id=>exact⟨_,a₁,w₁,hq,out (fun _ h=>by cases h) harr⟩
   | ret=>exact⟨_,a₁,w₁,hq,out (fun _ h=>by cases h) harr⟩
   | panic ch=>exact⟨_,a₁,w₁,hq,out (fun _ h=>by cases h) harr⟩
   | outgrown=>exact⟨_,a₁,w₁,hq,out (fun _ h=>by cases h) harr⟩
 have h0:StepsIn (Machine.fenced P F) P (lone (b.atR a (.code (.scope c) :: k)) cs w) (lone (b.atR a (.code c :: .inScope c :: k)) cs w):=.one (fenced_calm hb hr rfl) Jf0;obtain⟨e,a₁,w₁,hq,harr⟩:=first b (.inScope c :: k) cs hro hb hr;cases e with
 | goto l' =>
  obtain⟨rfl,hJ'⟩:=hq;obtain⟨e₂,a₂,w₂,hq₂,harr₂⟩:=key _ a₁ w₁ rfl hJ';exact⟨e₂,a₂,w₂,hq₂,.of_steps (StepsIn.trans h0 (harr.1 _ hg)) harr₂⟩
 | normal=>exact⟨_,a₁,w₁,hq,.of_steps h0 (out (fun _ h=>by cases h) harr)⟩
 | exit id=>exact⟨_,a₁,w₁,hq,.of_steps h0 (out (fun _ h=>by cases h) harr)⟩
 | ret=>exact⟨_,a₁,w₁,hq,.of_steps h0 (out (fun _ h=>by cases h) harr)⟩
 | panic ch=>exact⟨_,a₁,w₁,hq,.of_steps h0 (out (fun _ h=>by cases h) harr)⟩
 | outgrown=>exact⟨_,a₁,w₁,hq,.of_steps h0 (out (fun _ h=>by cases h) harr)⟩
theorem Jce{c:Code}(h:c.wpIn F n P (Exit.noGoto Q) a w):(Code.scope c).wpIn F n P Q a w:=by
 intro b k cs hro hb hr;have h0:StepsIn (Machine.fenced P F) P (lone (b.atR a (.code (.scope c) :: k)) cs w) (lone (b.atR a (.code c :: .inScope c :: k)) cs w):=.one (fenced_calm hb hr rfl) Jf0;obtain⟨e,a₁,w₁,hq,harr⟩:=h b (.inScope c :: k) cs hro hb hr;cases e with
 | normal=>exact⟨.normal,a₁,w₁,hq,.of_steps h0 (StepsIn.trans harr (.one (fenced_calm hb hr rfl) JeB))⟩
 | exit id=>exact⟨.exit id,a₁,w₁,hq,.of_steps h0 ⟨fun k' hk=>harr.1 k' (by simp[exitTo,hk]),fun hr' hk=>harr.2 hr' (by simp[exitTo,hk])⟩⟩
 | goto l=>exact hq.elim
 | ret=>exact⟨_,a₁,w₁,hq,.of_steps h0 harr⟩
 | panic ch=>exact⟨_,a₁,w₁,hq,.of_steps h0 harr⟩
 | outgrown=>exact⟨_,a₁,w₁,hq,.of_steps h0 harr⟩
end
inductive JfK (P:Program):List Deferred->World->World->Prop
 | nil {w:World}:JfK P [] w w
 | cons {d:Deferred} {D:Nat} {ds:List Deferred} {w w1 w2:World}:d.target = .collected D->(Instr.takeDeferred D).run P w = .ok [] w1->JfK P ds w1 w2->JfK P (d :: ds) w w2
theorem JfK.leaves{P:Program}{fn:Func}{tmps:Array Value}{R:Ending->World->Prop}{ds:List Deferred}{w w':World}(h:JfK P ds w w'){v:Value}(hv:(results fn tmps).run P w' = .ok v w')(hR:R (.returned v) w') :
  LeavesInM (RF none) 0 P fn tmps R ds .returning w:=by
 induction h with
 | nil=>exact⟨v,hv,hR⟩
 | cons h1 h2 _ ih=>exact⟨by simp,.inl ⟨_,_,h1,h2,ih hv hR⟩⟩
theorem JbR{P:Program}{f:FuncId}{fn:Func}{c:Code}{args:Array Value}{w:World}{R:Ending->World->Prop}(hf:P.funcs[f]? = some fn)(hb:fn.body=some c)
  (h:c.wpIn (RF none) 0 P (fun e a' w'=>match e with
   | .normal | .ret=>∃ w'',JfK P a'.defers w' w''/\∃ v,(results fn a'.tmps).run P w'' = .ok v w''/\R (.returned v) w''
   | _=>False) {tmps:=args++Array.replicate (fn.ntmps - args.size) undef,defers:=[]} w):Calls P f args w R :=
 JnE (n:=0) (callsIn_of_wp_marks hf hb trivial (wpIn_mono h fun e a' w' q=>by
  cases e with
  | normal=>obtain⟨w'',h1,v,h2,h3⟩:=q;exact h1.leaves h2 h3
  | ret=>obtain⟨w'',h1,v,h2,h3⟩:=q;exact h1.leaves h2 h3
  | _=>exact q.elim))
end Go.Ab
end
section
namespace Go.Ab
inductive Kd where
 | bool | str | oth
 | int (k:IntKind)
 | sl (e:TypeId)
 | arr (n:Nat) (e:TypeId)
 | st (fs:List (Nat × TypeId))
 | map (k e:TypeId)
def Kd.agg:Kd->Bool
 | .st _ | .arr _ _=>true
 | _=>false
structure TI where
 kd:Kd
 size:Nat
 bytes:Nat
 zero:Option (List AV)
def cellAV:Value->Option AV
 | .slice none 0 0=>some (.vec [] true)
 | v=>if JfY v then some (.lit v) else none
def cellsAV:List Value->Option (List AV)
 | []=>some []
 | v :: l=>match cellAV v,cellsAV l with
  | some a,some as=>some (a :: as)
  | _,_=>none
def constAV:Value->Option AV
 | .agg cs=>(cellsAV cs.toList).map .agg
 | v=>cellAV v
def JcP:TypeDesc->Kd
 | .bool=>.bool
 | .string=>.str
 | .int k=>.int k
 | .slice e=>.sl e
 | .array n e=>.arr n e
 | .struct fs=>.st (fs.toList.map fun f=>(f.offset,f.type))
 | .map k e=>.map k e
 | _=>.oth
def Jt (P:Program)(t:TypeId):Option TI :=
 match P.info? t,P.underlying t with
 | some i,some d=>some {kd:=JcP d,size:=i.size,bytes:=i.bytes,zero:=i.zero.bind fun z=>cellsAV z.cells.toList}
 | _,_=>none
theorem JD{P:Program}{t:TypeId}{ti:TI}(h:Jt P t=some ti):∃ i d,P.info? t=some i/\P.underlying t=some d/\ti.kd=JcP d/\ti.size=i.size/\ti.bytes=i.bytes /\
  ∀ zs,ti.zero=some zs->∃ z,i.zero=some z/\cellsAV z.cells.toList=some zs:=by
 unfold Jt at h;cases hi:P.info? t with
 | none=>simp[hi] at h
 | some i =>
  cases hd:P.underlying t with
  | none=>simp[hi,hd] at h
  | some d =>
   simp only[hi,hd,Option.some.injEq] at h;subst h;refine⟨i,d,rfl,rfl,rfl,rfl,rfl,fun zs hz=>?_⟩;cases hz':i.zero with
   | none=>simp[hz'] at hz
   | some z=>simp only[hz',Option.bind_some] at hz;exact⟨z,rfl,hz⟩
theorem Rep.cellAV{g:Gh}{v:Value}{a:AV}(h:cellAV v=some a):Rep g v a/\v.oneCell'=true:=by
 unfold Ab.cellAV at h;split at h
 ·cases h;exact⟨.vecN,rfl⟩
 ·split at h
  ·rename_i hp;cases h;refine⟨.lit hp,?_⟩;cases v <;> simp_all [JfY,Value.oneCell']
  ·cases h
theorem J9.cellsAV{g:Gh}{vs:List Value}{as:List AV}(h:cellsAV vs=some as):J9 g vs as/\∀ v∈vs,v.oneCell'=true:=by
 induction vs generalizing as with
 | nil=>simp only[Ab.cellsAV,Option.some.injEq] at h;subst h;exact⟨.nil,by simp⟩
 | cons v vs ih =>
  unfold Ab.cellsAV at h;split at h
  ·rename_i a as' h1 h2;cases h;obtain⟨i1,i2⟩:=ih h2;obtain⟨j1,j2⟩:=Rep.cellAV (g:=g) h1;exact⟨.cons j1 i1,by simp only[List.mem_cons,forall_eq_or_imp];exact⟨j2,i2⟩⟩
  ·cases h
theorem Rep.constAV{g:Gh}{v:Value}{a:AV}(h:constAV v=some a):Rep g v a:=by
 unfold Ab.constAV at h;split at h
 ·rename_i cs;cases hc:Ab.cellsAV cs.toList with
  | none=>simp[hc] at h
  | some as =>
   simp only[hc,Option.map_some,Option.some.injEq] at h;subst h;obtain⟨h1,h2⟩:=J9.cellsAV (g:=g) hc;exact .agg h2 h1.1 h1.2
 ·exact(Rep.cellAV h).1
structure St where
 slots:List (Nat × AV)
 hp:Hp
 nt:Nat
structure JW (g:Gh) (h:Hp) (w:World) (g':Gh) (h':Hp) (w':World):Prop where
 hp:JZ g' h' w'
 ext:Ext g g'
 keeps:Jai (Ja2 g h) w w'
 live:∀ b,Ja2 g' h' b->Ja2 g h b\/w.heap.size<=b
 memo:∀ b o v,g'.mem b o=some v->g.mem b o=some v\/Ja2 g h b\/w.heap.size<=b
theorem JW.refl{g:Gh}{h:Hp}{w:World}(r:JZ g h w):JW g h w g h w:=⟨r,.refl _,.refl _ _,fun _ l=>.inl l,fun _ _ _ e=>.inl e⟩
theorem JW.trans{g h w g' h' w' g'' h'' w''}(a:JW g h w g' h' w')(b:JW g' h' w' g'' h'' w''):JW g h w g'' h'' w'' :=
 ⟨b.hp,a.ext.trans b.ext,a.keeps.trans b.keeps a.live,fun x l=>by
  rcases b.live x l with l1 | l1
  ·exact a.live x l1
  ·exact .inr (Nat.le_trans a.keeps.size l1),fun x o v e=>by
  rcases b.memo x o v e with e1 | e1 | e1
  ·exact a.memo x o v e1
  ·exact .inr (a.live x e1)
  ·exact .inr (.inr (Nat.le_trans a.keeps.size e1))⟩
theorem JW.less{g h w g' h' h'' w'}(a:JW g h w g' h' w')(hn:h''.nx=h'.nx)(hb:∀ i c,lk h''.boxes i=some c->lk h'.boxes i=some c)(ht:∀ i c,lk h''.toks i=some c->lk h'.toks i=some c):JW g h w g' h'' w' :=
 ⟨a.hp.less hn hb ht,a.ext,a.keeps,fun x l=>a.live x (Ja2.less hb ht l),a.memo⟩
structure Wr where
 w:World
 ro:Option Nat
 ok:∀ l,ro=some l->∃ r:Loop,w.heap[l]? = some (.loop r)
def Wr.top(w:World):Wr:=⟨w,none,fun _ h=>nomatch h⟩
def Jcw(w0 w:World)(ds:List Deferred):Prop:=ds.Nodup/\∀ d∈ds,∃ D,d={target:=.collected D,args := #[]}/\w0.heap.size<=D/\w.heap[D]? = some (.deferred (some []))
theorem Jcw.nil{w0 w:World}:Jcw w0 w []:=⟨List.nodup_nil,fun _ h=>by cases h⟩
theorem JZ.live_obj{g:Gh}{h:Hp}{w:World}(r:JZ g h w){b:Nat}(l:Ja2 g h b):∃ o,w.heap[b]? = some o/\∀ ds,o≠.deferred ds:=by
 rcases l with ⟨id,cs,e1,e2⟩ | ⟨t,k,c,n,e1,e2⟩ | ⟨t,e1⟩
 ·obtain⟨b',vs,ty,f1,f2,_⟩:=r.box id cs e1;rw[f1] at e2;cases e2;exact⟨_,f2,fun _ q=>by cases q⟩
 ·obtain⟨b',c',vs,o,f1,f2,f3,_⟩:=r.tok t k e1;rw[f1] at e2;cases e2;refine⟨o,f2,fun ds q=>?_⟩;by_cases hs:k.s=0
  ·by_cases hk:k.lp
   ·obtain⟨x,hx⟩:=(f3.2 hs).2.2 hk;rw[hx] at q;cases q
   ·obtain⟨es,m,hx,_⟩:=(f3.2 hs).2.1 hk;rw[hx] at q;cases q
  ·obtain⟨ty,hx,_⟩:=f3.1 hs;rw[hx] at q;cases q
 ·obtain⟨es,k,f1,_⟩:=r.cch b t e1;exact⟨_,f1,fun _ q=>by cases q⟩
theorem Jcw.keep{w0:World}{F:Nat->Prop}{w w':World}{ds:List Deferred}(h:Jcw w0 w ds)(hF:∀ b,F b->∃ o,w.heap[b]? = some o/\∀ ds,o≠.deferred ds)(k:Jai F w w'):Jcw w0 w' ds :=
 ⟨h.1,fun d hd=>by
  obtain⟨D,e1,e2,e3⟩:=h.2 d hd;refine⟨D,e1,e2,(k.block D (Array.getElem?_eq_some_iff.1 e3).1 fun q=>?_).trans e3⟩;obtain⟨o,f1,f2⟩:=hF D q;rw[f1] at e3;cases e3;exact f2 _ rfl⟩
theorem Jcw.step{w0:World}{g:Gh}{h:Hp}{w:World}{g':Gh}{h':Hp}{w':World}{ds:List Deferred}(m:Jcw w0 w ds)(r:JZ g h w)(s:JW g h w g' h' w'):Jcw w0 w' ds :=
 m.keep (fun _ l=>r.live_obj l) s.keeps
theorem Jcw.setRow{w0 w:World}{ds:List Deferred}(m:Jcw w0 w ds){b:Nat}{vs:Array Value}{ty:TypeId}{fr:Nat × Nat}(hb:w.heap[b]? = some (.cells vs ty fr))(vs':Array Value):Jcw w0 (w.setRow b vs') ds :=
 m.keep (F:=fun x=>x=b) (fun x hx=>⟨.cells vs ty fr,by subst hx;exact hb,fun _ q=>by cases q⟩) (Jai.setRow w _ rfl)
theorem Jcw.alloc{w0 w:World}{ds:List Deferred}(m:Jcw w0 w ds)(o:Obj):Jcw w0 (w.alloc o) ds:=m.keep (F:=fun _=>False) (fun _ h=>h.elim) (Jai.alloc _ _ _)
theorem JdY(a:Act)(d:Option Tmp)(v:Value):(a.put d v).defers=a.defers:=by cases d <;> rfl
structure Jae (g0:Gh) (h0:Hp) (w0:Wr) (σ:St) (g:Gh) (w:World) (a:Act):Prop where
 st:JW g0 h0 w0.w g σ.hp w
 slots:∀ s v,lk σ.slots s=some v->∃ u,a.tmps[s]? = some u/\Rep g u v
 nt:a.tmps.size=σ.nt
 defers:Jcw w0.w w a.defers
theorem Jae.ro{g0:Gh}{h0:Hp}{w0:Wr}{σ:St}{g:Gh}{w:World}{a:Act}(r:Jae g0 h0 w0 σ g w a){l:Nat}(e:w0.ro=some l):∃ x:Loop,w.heap[l]? = some (.loop x) :=
 let ⟨x,hx⟩:=w0.ok l e;r.st.keeps.loop l x hx
def JU(P:Program)(f:FuncId)(args:List AV)(h:Hp)(Q:AV->Hp->Prop):Prop :=
 ∀ g w (vals:Array Value),JZ g h w->J9 g vals.toList args->Calls P f vals w fun e w'=>∃ v r h' g',e = .returned v/\Rep g' v r/\JW g h w g' h' w'/\Q r h'
def Jb5 (g0:Gh)(h0:Hp)(w0:Wr)(Q:Exit->St->Prop):Exit->Act->World->Prop:=fun e a w=>∃ σ g,Q e σ/\Jae g0 h0 w0 σ g w a
def Aw (P:Program)(c:Code)(Q:Exit->St->Prop)(σ:St):Prop:=∀ g0 h0 w0 g w a,Jae g0 h0 w0 σ g w a->c.wpIn (RF w0.ro) 0 P (Jb5 g0 h0 w0 Q) a w
def JeY (P:Program)(o:Oper)(K:St->Prop)(σ:St):Prop :=
 ∀ g0 h0 w0 g w a Q,Jae g0 h0 w0 σ g w a->Oper.wp P o a w (fun a' w'=>∃ σ' g',K σ'/\Jae g0 h0 w0 σ' g' w' a') Q
def ev (σ:St):Operand->Option AV
 | .tmp t=>lk σ.slots t
 | .const v=>constAV v
 | .global _=>none
 | .func f=>some (.fn (.func f) [] [])
def evL (σ:St):List Operand->Option (List AV)
 | []=>some []
 | x :: l=>match ev σ x,evL σ l with
  | some a,some as=>some (a :: as)
  | _,_=>none
theorem Jae.ev{g0 h0 w0 σ g w a}(r:Jae g0 h0 w0 σ g w a){x:Operand}{v:AV}(h:ev σ x=some v):Rep g (a.eval x) v:=by
 cases x with
 | tmp t=>obtain⟨u,e1,e2⟩:=r.slots t v h;simpa [Act.eval,Array.getD_eq_getD_getElem?,e1] using e2
 | const c=>exact .constAV h
 | «global» q=>cases h
 | func f=>cases h;exact .fn rfl (fun _ _ _ e=>by simp at e) rfl (fun _ _ _ e=>by simp at e)
theorem Jae.evL{g0 h0 w0 σ g w a}(r:Jae g0 h0 w0 σ g w a):∀ {xs:List Operand} {vs:List AV},evL σ xs=some vs->J9 g (xs.map a.eval) vs
 | [],vs,h=>by cases h;exact .nil
 | x :: l,vs,h=>by
  unfold Ab.evL at h;split at h
  ·rename_i v vs' h1 h2;cases h;exact .cons (r.ev h1) (r.evL h2)
  ·cases h
def Jds(P:Program):List (Nat × TypeId)->Option (List (Nat × Nat))
 | []=>some []
 | (o,t) :: l=>match Jt P t,Jds P l with
  | some ti,some ps=>some ((o,ti.size) :: ps)
  | _,_=>none
def JdF(cells:List AV)(off:Nat)(cs:List AV):List AV:=cells.take off++cs++cells.drop (off+cs.length)
def Jdt(place:Nat->Option (Nat × Nat))(cells:List AV):List (Nat × AV)->Option (List AV)
 | []=>some cells
 | (i,v) :: rest=>match place i,v.cells with
  | some (off,size),some cs=>if cs.length=size/\off+cs.length<=cells.length then Jdt place (JdF cells off cs) rest else none
  | _,_=>none
def evP (σ:St):List (Nat × Operand)->Option (List (Nat × AV))
 | []=>some []
 | (i,x) :: l=>match ev σ x,evP σ l with
  | some a,some as=>some ((i,a) :: as)
  | _,_=>none
def Jf1(ti:TI)(cs:List AV)(off:Nat):Option AV :=
 if ti.kd.agg then (if off+ti.size<=cs.length then some (.agg ((cs.drop off).take ti.size)) else none) else cs[off]?
def Jf2(op:BinOp)(k:IntKind)(a b:Int):Option Value :=
 match op with
 | .add=>some (.int k (k.wrap (a+b)))
 | .sub=>some (.int k (k.wrap (a - b)))
 | .mul=>some (.int k (k.wrap (a * b)))
 | .quo=>if b=0 then none else some (.int k (k.wrap (a.tdiv b)))
 | .rem=>if b=0 then none else some (.int k (a.tmod b))
 | .and=>some (.int k (k.wrap (BitVec.ofInt k.bits a &&& BitVec.ofInt k.bits b).toNat))
 | .or=>some (.int k (k.wrap (BitVec.ofInt k.bits a ||| BitVec.ofInt k.bits b).toNat))
 | .xor=>some (.int k (k.wrap (BitVec.ofInt k.bits a ^^^ BitVec.ofInt k.bits b).toNat))
 | .andNot=>some (.int k (k.wrap (BitVec.ofInt k.bits a &&& ~~~ BitVec.ofInt k.bits b).toNat))
 | .eql=>some (.bool (a==b))
 | .neq=>some (.bool (a != b))
 | .lss=>some (.bool (decide (a<b)))
 | .leq=>some (.bool (decide (a<=b)))
 | .gtr=>some (.bool (decide (a > b)))
 | .geq=>some (.bool (decide (a >= b)))
 | .shl=>if b<0 then none else some (.int k (k.wrap (a * 2 ^ (min b.toNat k.bits))))
 | .shr=>if b<0 then none else some (.int k (a.fdiv (2 ^ (min b.toNat k.bits))))
def Ji9(op:BinOp)(a b:ByteArray):Option Value :=
 match op with
 | .eql=>some (.bool (a.toList==b.toList))
 | .neq=>some (.bool !(a.toList==b.toList))
 | .lss=>some (.bool (Op.bytesLess a.toList b.toList))
 | .leq=>some (.bool (Op.bytesLess a.toList b.toList || a.toList==b.toList))
 | .gtr=>some (.bool !(Op.bytesLess a.toList b.toList || a.toList==b.toList))
 | .geq=>some (.bool !(Op.bytesLess a.toList b.toList))
 | .add=>if ((a.size+b.size:Nat):Int) > IntKind.i64.max then none else some (.string (a++b))
 | _=>none
def Jel(P:Program)(t:TypeId):Bool:=match P.underlying t with | some (.pointer _)=>true | _=>false
theorem Jhh{P:Program}{t:TypeId}(h:Jel P t=true):P.underlying t=some (.pointer (P.pointee t)):=by
 unfold Jel at h;split at h
 ·rename_i e he;simp[Program.pointee,he]
 ·cases h
def JeC(P:Program)(op:BinOp)(t:TypeId)(b:Bool):Option Value:=match Jel P t,op with
 | true,.eql=>some (.bool b)
 | true,.neq=>some (.bool !b)
 | _,_=>none
theorem JeZ(P:Program)(w:World){op:BinOp}{t:TypeId}{p:Option Addr}{v:Value}(h:JeC P op t p.isNone=some v) :
  (binOp op t (.pointer p) (.pointer none)).run P w = .ok v w/\JfY v=true/\∀ x y,(eqGuard op t x y (.pointer p) (.pointer none)).run P w = .ok () w:=by
 unfold JeC at h;split at h
 ·rename_i hp;cases h;exact⟨run_eql_pointer_nil w t p (Jhh hp),rfl,fun x y=>by unfold eqGuard;split <;> rfl⟩
 ·rename_i hp;cases h;exact⟨run_neq_pointer_nil w t p (Jhh hp),rfl,fun x y=>by unfold eqGuard;split <;> rfl⟩
 ·cases h
def Jam (P:Program)(t:TypeId):Bool:=match P.underlying t with | some (.func _ _ _)=>true | _=>false
def Jky(P:Program)(op:BinOp)(t:TypeId)(b:Bool):Option Value:=match Jam P t,op with
 | true,.eql=>some (.bool b)
 | true,.neq=>some (.bool !b)
 | _,_=>none
theorem Jja(P:Program)(w:World){op:BinOp}{t:TypeId}{x:Value}{b:Bool}{v:Value}(hx:(x = .nilFunc/\b=true)\/(∃ f p q,x = .func f p q)/\b=false)(h:Jky P op t b=some v) :
  (binOp op t x .nilFunc).run P w = .ok v w/\JfY v=true/\∀ p q,(eqGuard op t p q x .nilFunc).run P w = .ok () w:=by
 unfold Jky at h;have hf:Jam P t=true->∃ a b c,P.underlying t=some (.func a b c):=fun h=>by
  unfold Jam at h;split at h
  ·rename_i a b c e;exact⟨a,b,c,e⟩
  ·cases h
 split at h;all_goals first | (cases h;done) | skip
 all_goals
  rename_i hp;cases h;obtain⟨_,_,_,hu⟩:=hf hp;have q0:∀ d,(Op.equalIn (d+1) t x .nilFunc).run P w = .ok b w:=fun d=>by
   rcases hx with ⟨rfl,rfl⟩ | ⟨⟨_,_,_,rfl⟩,rfl⟩ <;> simp[Op.equalIn,run_underlying hu]
  have q1:(Op.equal t x .nilFunc).run P w = .ok b w:=q0 9999;refine⟨by simp[binOp,q1],rfl,fun p q=>?_⟩;rcases hx with ⟨rfl,rfl⟩ | ⟨⟨_,_,_,rfl⟩,rfl⟩ <;> (unfold eqGuard;split <;> rfl)
def JtT (P:Program)(op:BinOp)(t:TypeId)(x y:Value):Option Value :=
 match x,y with
 | .pointer none,.pointer none=>JeC P op t true
 | .nilFunc,.nilFunc=>Jky P op t true
 | .int k a,.int k' b=>if k=k'\/op = .shl\/op = .shr then Jf2 op k a b else none
 | .string a,.string b=>Ji9 op a b
 | .bool a,.bool b=>match op,(Jt P t).map TI.kd with
  | .eql,some Kd.bool=>some (.bool (a==b))
  | .neq,some Kd.bool=>some (.bool !(a==b))
  | _,_=>none
 | _,_=>none
theorem Jh1(P:Program)(w:World){op:BinOp}{t:TypeId}{k k':IntKind}{a b:Int}{v:Value}(hk:k=k'\/op = .shl\/op = .shr)(h:Jf2 op k a b=some v) :
  (binOp op t (.int k a) (.int k' b)).run P w = .ok v w:=by
 by_cases hop:op = .shl\/op = .shr
 ·rcases hop with rfl | rfl <;>
  ·simp only[Jf2] at h;split at h
   ·cases h
   ·rename_i hb;cases h;simp[binOp,Op.shift,hb]
 ·have hk':k=k':=by rcases hk with h1 | h1;exact h1;exact absurd h1 hop
  subst hk';cases op <;> simp only[Jf2,reduceCtorEq,or_self,not_true,not_false_eq_true,or_true,true_or] at h hop <;>
   first
    | (cases h;simp[binOp,Op.intArith,Op.intCmp,Op.intBits];done)
    | (split at h <;> first | (cases h;done) | (rename_i hb;cases h;simp[binOp,Op.intDiv,hb]))
theorem Jp2(P:Program)(w:World){op:BinOp}{t:TypeId}{x y v:Value}(h:JtT P op t x y=some v):(binOp op t x y).run P w = .ok v w/\JfY v=true/\∀ p q,(eqGuard op t p q x y).run P w = .ok () w:=by
 unfold JtT at h;split at h
 ·exact JeZ P w (p:=none) h
 ·exact Jja P w (.inl ⟨rfl,rfl⟩) h
 ·rename_i k a k' b;split at h
  ·rename_i hk;refine⟨Jh1 P w hk h,?_,fun p q=>by unfold eqGuard;split <;> rfl⟩
   cases op <;> simp only[Jf2] at h <;> first | (cases h;rfl) | (split at h <;> first | (cases h;done) | (cases h;rfl))
  ·cases h
 ·rename_i a b;refine⟨?_,?_,fun p q=>by unfold eqGuard;split <;> rfl⟩
  ·cases op <;> simp only[Ji9] at h <;> first | (cases h;done) | (cases h;simp[binOp,Op.stringOp];done) | (split at h <;> first | (cases h;done) | (rename_i hb;cases h;simp only[binOp,Op.stringOp];rw[if_neg hb];rfl))
  ·cases op <;> simp only[Ji9] at h <;> first | (cases h;done) | (cases h;rfl) | (split at h <;> first | (cases h;done) | (cases h;rfl))
 ·rename_i a b;split at h
  ·rename_i ht;cases h;cases hti:Jt P t with
   | none=>simp[hti] at ht
   | some ti =>
    obtain⟨i,d,_,hd,hk,_⟩:=JD hti;simp only[hti,Option.map_some,Option.some.injEq,hk] at ht;have:d = .bool:=by cases d <;> simp[JcP] at ht;rfl
    subst this;exact⟨run_eql_bool w t a b hd,rfl,fun p q=>by unfold eqGuard;split <;> rfl⟩
  ·rename_i ht;cases h;cases hti:Jt P t with
   | none=>simp[hti] at ht
   | some ti =>
    obtain⟨i,d,_,hd,hk,_⟩:=JD hti;simp only[hti,Option.map_some,Option.some.injEq,hk] at ht;have:d = .bool:=by cases d <;> simp[JcP] at ht;rfl
    subst this;exact⟨by simp[binOp,run_equal_bool w t a b hd],rfl,fun p q=>by unfold eqGuard;split <;> rfl⟩
  ·cases h
 ·cases h
end Go.Ab
end
section
namespace Go.Ab
def Gh.cutTok(g:Gh)(t b c n:Nat):Gh:={g with tok:=fun i=>if i=t then none else if i=g.nx then some (b,c,n) else g.tok i,nx:=g.nx+1}
theorem Ext.cutTok(g:Gh)(t b c n:Nat):Ext g (g.cutTok t b c n) :=
 ⟨Nat.le_succ _,fun _ _ _ h=>h,fun _ _=>rfl,fun i hi=>by
  by_cases h:i=t
  ·simp only[Gh.cutTok,if_pos h];exact .inl rfl
  ·simp only[Gh.cutTok,if_neg h,if_neg (Nat.ne_of_lt hi)];exact Jas.refl _,fun _ _ h=>h,fun _ _=>rfl⟩
theorem JZ.cutTok{g:Gh}{h:Hp}{w:World}(r:JZ g h w){t:Nat}{k:Tk}(e:lk h.toks t=some k)(hs:k.s≠0){n:Nat}(hn:n<=k.xs.length)(hf:k.fz<=n){b c:Nat}(q:g.tok t=some (b,c,k.xs.length)) :
  JZ (g.cutTok t b c n) {h with toks:=dl h.toks t++[(h.nx,⟨k.xs.take n,k.fz,k.s⟩)],nx:=h.nx+1} w:=by
 have hx:=Ext.cutTok g t b c n;have hg:g.nx=h.nx:=r.nx;have ht:=r.tok_lt e;have hnt:t≠h.nx:=Nat.ne_of_lt ht;obtain⟨b0,c0,vs,ty,q1,q2,q3,q4,q5,q6,q7,q8,q9⟩:=r.tokS e hs;rw[q] at q1;cases q1;have htok:∀ i,(g.cutTok t b c n).tok i=if i=t then none else if i=h.nx then some (b,c,n) else g.tok i:=fun i=>by simp[Gh.cutTok,hg]
 have old:∀ i,i≠h.nx->lk (dl h.toks t++[(h.nx,(⟨k.xs.take n,k.fz,k.s⟩:Tk))]) i=if t=i then none else lk h.toks i:=fun i hi=>by rw[J5 hi,Jeb]
 have fr:lk (dl h.toks t) h.nx=none:=by rw[Jeb];split <;> first | rfl | exact r.lk_fresh_tok
 have live:∀ i,(lk (dl h.toks t++[(h.nx,(⟨k.xs.take n,k.fz,k.s⟩:Tk))]) i).isSome=true->i≠h.nx->i≠t/\(lk h.toks i).isSome=true:=fun i e hi=>by
  rw[old i hi] at e;split at e
  ·cases e
  ·rename_i h1;exact⟨fun q=>h1 q.symm,e⟩
 refine⟨by simp[Gh.cutTok,hg],r.mem,fun id cs e=>?_,fun i k' e'=>?_,r.bxbx,fun i j b1 c1 n1 c2 n2 e1 e2 e3 e4=>?_,fun i j b1 c1 n1 e1 e2 e3 e4=>?_,fun i e=>?_,r.cchUp hx rfl (fun b es k e=>e),r.celUp rfl (fun b vs e q=>⟨vs,e,q⟩),r.lprUp rfl (fun i k' e' hk=>by
  by_cases hi:i=h.nx
  ·subst hi;rw[JaH fr] at e';cases e';exact absurd hk.1 hs
  ·obtain⟨l1,l2⟩:=live i (by rw[e'];rfl) hi;rw[old i hi,if_neg (fun q=>l1 q.symm)] at e';exact⟨e',by rw[htok,if_neg l1,if_neg hi]⟩) (fun _ _ q=>q)⟩
 ·obtain⟨b,vs',ty',f1,f2,f3,f4,f5⟩:=r.box id cs e;exact⟨b,vs',ty',f1,f2,f3.mono hx,f4,f5⟩
 ·by_cases hi:i=h.nx
  ·subst hi;rw[JaH fr] at e';cases e';have st:(⟨k.xs.take n,k.fz,k.s⟩:Tk).st=k.s:=Tk.st_pos hs;have hl:(k.xs.take n).length=n:=by simp;omega
   refine⟨b,c,vs,_,by rw[htok,if_neg (Ne.symm hnt),if_pos rfl,Tk.tn_pos (k:=⟨k.xs.take n,k.fz,k.s⟩) hs];simp only[hl],q2,Tk.obj_cells (k:=⟨k.xs.take n,k.fz,k.s⟩) hs q3 (by simp only[hl];omega) q8,by simp only[hl];exact hf,by rw[st];exact fun x hx=>q6 x (List.mem_of_mem_take hx),by
    rw[st];intro i' x j a g1 g2;have g1':k.xs[i']? = some x:=by
     rw[List.getElem?_take] at g1;split at g1
     ·exact g1
     ·cases g1
    obtain⟨v,g3,g4⟩:=q7 i' x j a g1' g2;exact⟨v,g3,g4.mono hx⟩,q9,r.tok_cch e q⟩
  ·rw[old i hi] at e';split at e'
   ·cases e'
   ·rename_i h1;obtain⟨b1,c1,vs',ty',f1,f2,f3,f5,f6,f7,f9⟩:=r.tok i k' e';refine⟨b1,c1,vs',ty',by rw[htok,if_neg (fun q=>h1 q.symm),if_neg hi];exact f1,f2,f3,f5,f6,fun i' y j a g1 g2=>?_,f9⟩;obtain⟨v,g3,g4⟩:=f7 i' y j a g1 g2;exact⟨v,g3,g4.mono hx⟩
 ·rw[htok] at e1 e2;by_cases hi:i=h.nx <;> by_cases hj:j=h.nx
  ·rw[hi,hj]
  ·obtain⟨l1,l2⟩:=live j e4 hj;rw[if_neg (by rw[hi];exact Ne.symm hnt),if_pos hi] at e1;rw[if_neg l1,if_neg hj] at e2;cases e1;exact absurd (r.tktk j t b _ _ _ _ e2 q l2 (by rw[e];rfl)) l1
  ·obtain⟨l1,l2⟩:=live i e3 hi;rw[if_neg (by rw[hj];exact Ne.symm hnt),if_pos hj] at e2;rw[if_neg l1,if_neg hi] at e1;cases e2;exact absurd (r.tktk i t b _ _ _ _ e1 q l2 (by rw[e];rfl)) l1
  ·obtain⟨l1,l2⟩:=live i e3 hi;obtain⟨l3,l4⟩:=live j e4 hj;rw[if_neg l1,if_neg hi] at e1;rw[if_neg l3,if_neg hj] at e2;exact r.tktk i j b1 c1 n1 c2 n2 e1 e2 l2 l4
 ·rw[htok] at e2;by_cases hj:j=h.nx
  ·rw[if_neg (by rw[hj];exact Ne.symm hnt),if_pos hj] at e2;cases e2;exact r.bxtk i t b _ _ e1 q e3 (by rw[e];rfl)
  ·obtain⟨l1,l2⟩:=live j e4 hj;rw[if_neg l1,if_neg hj] at e2;exact r.bxtk i j b1 c1 n1 e1 e2 e3 l2
 ·have hi:h.nx<=i:=Nat.le_of_succ_le e;have hne:i≠h.nx:=fun q=>by subst q;exact absurd e (Nat.not_succ_le_self _)
  exact⟨(r.fresh i hi).1,by rw[htok,if_neg (by omega),if_neg hne];exact(r.fresh i hi).2⟩
theorem Ja2.cutTok{g:Gh}{h:Hp}{w:World}(r:JZ g h w){t:Nat}{k k':Tk}(e:lk h.toks t=some k){n b c m x:Nat}(q:g.tok t=some (b,c,m))(l:Ja2 (g.cutTok t b c n) {h with toks:=dl h.toks t++[(h.nx,k')],nx:=h.nx+1} x):Ja2 g h x:=by
 have hg:g.nx=h.nx:=r.nx;rcases l with ⟨id,cs,e1,e2⟩ | ⟨i,k1,c',n',e1,e2⟩ | e1
 ·exact .inl ⟨id,cs,e1,e2⟩
 ·by_cases ht:i=t
  ·simp only[Gh.cutTok,if_pos ht] at e2;cases e2
  ·by_cases hi:i=h.nx
   ·simp only[Gh.cutTok,hg,if_neg ht,if_pos hi,Option.some.injEq,Prod.mk.injEq] at e2;obtain⟨rfl,_,_⟩:=e2;exact .inr (.inl ⟨t,k,c,m,e,q⟩)
   ·simp only[Gh.cutTok,hg,if_neg ht,if_neg hi] at e2;rw[J5 hi,Jeb] at e1;split at e1
    ·cases e1
    ·exact .inr (.inl ⟨i,k1,c',n',e1,e2⟩)
 ·exact .inr (.inr e1)
theorem JW.cutTok{g:Gh}{h:Hp}{w:World}(r:JZ g h w){t:Nat}{k:Tk}(e:lk h.toks t=some k)(hs:k.s≠0){n:Nat}(hn:n<=k.xs.length)(hf:k.fz<=n){b c:Nat}(q:g.tok t=some (b,c,k.xs.length)) :
  JW g h w (g.cutTok t b c n) {h with toks:=dl h.toks t++[(h.nx,⟨k.xs.take n,k.fz,k.s⟩)],nx:=h.nx+1} w :=
 ⟨r.cutTok e hs hn hf q,.cutTok g t b c n,.refl _ _,fun _ l=>.inl (Ja2.cutTok r e q l),fun _ _ _ e=>.inl e⟩
end Go.Ab
end
section
namespace Go.Ab
def Ja6(P:Program)(t:TypeId):Bool :=
 (P.fieldsOf t).toList.all (fun f=>f.name != "_") && !P.stoodInHeld t && !P.eqGuardType P.depth t
def Jda(k:Kd)(x y:AV):Option Bool :=
 match k,x,y with
 | .int _,.lit (.int k a),.lit (.int k' b)=>if k=k' then some (a==b) else none
 | .bool,.lit (.bool a),.lit (.bool b)=>some (a==b)
 | .str,.lit (.string a),.lit (.string b)=>some (a.toList==b.toList)
 | _,_,_=>none
def Jnr:Option Bool->Option Bool->Option Bool
 | some a,some b=>some (a && b)
 | _,_=>none
def eqF (P:Program):List (Nat × TypeId)->List AV->List AV->Option Bool
 | [],_,_=>some true
 | f :: fs,as,bs=>match Jt P f.2,as[f.1]?,bs[f.1]? with
  | some ti,some a,some b=>Jnr (Jda ti.kd a b) (eqF P fs as bs)
  | _,_,_=>none
def JnF(P:Program)(op:BinOp)(t:TypeId)(as bs:List AV):Option AV :=
 match op,Jt P t with
 | .eql,some ti=>match ti.kd with
  | .st fs=>if Ja6 P t=true then (eqF P fs as bs).map fun r=>.lit (.bool r) else none
  | _=>none
 | .neq,some ti=>match ti.kd with
  | .st fs=>if Ja6 P t=true then (eqF P fs as bs).map fun r=>.lit (.bool !r) else none
  | _=>none
 | _,_=>none
theorem JnG{d:TypeDesc}:(JcP d).agg=d.isRow:=by cases d <;> rfl
theorem JeD{P:Program}{t:TypeId}{d:TypeDesc}(h:P.underlying t=some d)(w:World):(isAgg t).run P w = .ok d.isRow w:=by
 unfold isAgg;rw[Sem.run_bind,run_underlying h w];cases d <;> rfl
section
variable {P:Program} {g:Gh}
theorem JdG{w:World}{t:TypeId}{ti:TI}(ht:Jt P t=some ti)(hk:ti.kd.agg=false){xs:Array Value}{off:Nat}{v:Value}(h:xs[off]? = some v):(part t xs off).run P w = .ok v w:=by
 obtain⟨i,d,e1,e2,e3,_⟩:=JD ht;have hrow:d.isRow=false:=by rw[<- JnG,<- e3];exact hk
 have hg:xs.getD off undef=v:=by simp[Array.getD_eq_getD_getElem?,h]
 simp[part,Sem.run_bind,JeD e2,hrow,h]
theorem Jf3{w:World}{d:Nat}{t:TypeId}{ti:TI}(ht:Jt P t=some ti){x y:AV}{u v:Value}{r:Bool}(h:Jda ti.kd x y=some r)(hu:Rep g u x)(hv:Rep g v y):(Op.equalIn (d+1) t u v).run P w = .ok r w/\ti.kd.agg=false:=by
 obtain⟨i,dd,e1,e2,e3,_⟩:=JD ht;rw[e3] at h ⊢;unfold Jda at h;split at h
 ·rename_i q k a k' b hq;split at h
  ·rename_i hk;cases h;subst hk;cases hu;cases hv;have hd:dd = .int q:=by cases dd <;> simp[JcP] at hq;rw[hq]
   subst hd;exact⟨run_equalIn_int w d t _ q a b e2,rfl⟩
  ·cases h
 ·rename_i a b hq;cases h;cases hu;cases hv;have hd:dd = .bool:=by cases dd <;> simp[JcP] at hq;rfl
  subst hd;exact⟨run_equalIn_bool w d t a b e2,rfl⟩
 ·rename_i a b hq;cases h;cases hu;cases hv;have hd:dd = .string:=by cases dd <;> simp[JcP] at hq;rfl
  subst hd;exact⟨run_equalIn_string w d t a b e2,rfl⟩
 ·cases h
theorem Jf4{w:World}{d:Nat}{xs ys:Array Value}{as bs:List AV}(hx:J9 g xs.toList as)(hy:J9 g ys.toList bs):∀ (fs:List Field),(∀ f∈fs,f.name ≠ "_")->∀ {r:Bool},eqF P (fs.map fun f=>(f.offset,f.type)) as bs=some r ->
  (Op.eqFields (d+1) xs ys fs).run P w = .ok r w
 | [],_,r,h=>by cases h;rfl
 | f :: fs,hn,r,h=>by
  simp only[List.map_cons,eqF] at h;split at h
  ·rename_i ti a b ht ha hb;cases hl:Jda ti.kd a b with
   | none=>rw[hl] at h;simp[Jnr] at h
   | some r1 =>
    cases hr:eqF P (fs.map fun f=>(f.offset,f.type)) as bs with
    | none=>rw[hr,hl] at h;simp[Jnr] at h
    | some r2 =>
     rw[hl,hr] at h;simp only[Jnr,Option.some.injEq] at h;have lx:xs.toList[f.offset]? = some (xs.toList[f.offset]'(by rw[hx.1];exact(List.getElem?_eq_some_iff.1 ha).1)):=List.getElem?_eq_getElem _;have ly:ys.toList[f.offset]? = some (ys.toList[f.offset]'(by rw[hy.1];exact(List.getElem?_eq_some_iff.1 hb).1)):=List.getElem?_eq_getElem _;obtain⟨k1,k2⟩:=Jf3 (w:=w) (d:=d) ht hl (hx.2 _ _ _ lx ha) (hy.2 _ _ _ ly hb);have p1:=JdG (w:=w) ht k2 (by rw[<- Array.getElem?_toList];exact lx);have p2:=JdG (w:=w) ht k2 (by rw[<- Array.getElem?_toList];exact ly);have ih:=Jf4 (w:=w) (d:=d) hx hy fs (fun f hf=>hn f (by simp[hf])) hr;simp only[Op.eqFields,if_pos (hn f (by simp)),Sem.run_bind,p1,p2,k1,Result.andThen_ok,Sem.run_ite];subst h;cases r1 with
     | true=>simp only[Bool.not_true,Bool.false_eq_true,if_false,Bool.true_and];exact ih
     | false=>simp
  ·cases h
theorem Jkz{w:World}{op:BinOp}{t:TypeId}{xs ys:Array Value}{as bs:List AV}{r:AV}(hx:J9 g xs.toList as)(hy:J9 g ys.toList bs)(h:JnF P op t as bs=some r) :
  (∃ b,r = .lit (.bool b)/\(binOp op t (.agg xs) (.agg ys)).run P w = .ok (.bool b) w)/\∀ p q,(eqGuard op t p q (.agg xs) (.agg ys)).run P w = .ok () w:=by
 have main:∀ {ti:TI} {fs:List (Nat × TypeId)},Jt P t=some ti->ti.kd = .st fs->Ja6 P t=true->∀ {b:Bool},eqF P fs as bs=some b->(Op.equalIn 10000 t (.agg xs) (.agg ys)).run P w = .ok b w/\P.eqGuardType P.depth t=false:=by
  intro ti fs ht hk hn b hb;obtain⟨i,d,e1,e2,e3,_⟩:=JD ht;rw[e3] at hk;have hd:∃ F,d = .struct F/\fs=F.toList.map fun f=>(f.offset,f.type):=by cases d <;> simp[JcP] at hk;exact⟨_,rfl,hk.symm⟩
  obtain⟨F,rfl,rfl⟩:=hd;have hf:P.fieldsOf t=F:=by simp[Program.fieldsOf,e2]
  simp only[Ja6,hf,Bool.and_eq_true,Bool.not_eq_true',List.all_eq_true,bne_iff_ne] at hn;have:=run_equalIn_struct w 9999 t xs ys (by rw[hf];exact e2) hn.1.2;rw[show (10000:Nat)=9999+1 from rfl,this,hf];exact⟨Jf4 hx hy _ hn.1.1 hb,hn.2⟩
 unfold JnF at h;split at h
 ·rename_i ti ht;split at h
  ·rename_i fs hk;split at h
   ·rename_i hn;obtain⟨b,hb,rfl⟩:=Option.map_eq_some_iff.1 h;obtain⟨k1,k2⟩:=main ht hk hn hb;exact⟨⟨b,rfl,by rw[run_eql_struct,k1];rfl⟩,fun p q=>run_eqGuard_agg w _ t p q xs ys k2⟩
   ·cases h
  ·cases h
 ·rename_i ti ht;split at h
  ·rename_i fs hk;split at h
   ·rename_i hn;obtain⟨b,hb,rfl⟩:=Option.map_eq_some_iff.1 h;obtain⟨k1,k2⟩:=main ht hk hn hb;exact⟨⟨!b,rfl,by rw[run_neq_struct,k1];rfl⟩,fun p q=>run_eqGuard_agg w _ t p q xs ys k2⟩
   ·cases h
  ·cases h
 ·cases h
end
end Go.Ab
end
section
namespace Go.Ab
def JbE(P:Program)(t:TypeId)(fs:List (Nat × TypeId)):Bool:=Ja6 P t && decide (fs.map (·.1)=List.range fs.length)
def Jcf(P:Program)(t:TypeId)(a b:AV):Option Bool :=
 match Jt P t with
 | some ti=>match ti.kd,a,b with
  | .st fs,.agg as,.agg bs=>if JbE P t fs=true/\as.length=fs.length/\bs.length=fs.length then eqF P fs as bs else none
  | k,a,b=>Jda k a b
 | none=>none
def JcQ(P:Program)(t:TypeId)(a:AV):List (List AV)->Option (Option (Nat × AV))
 | []=>some none
 | r :: l=>match r with
  | [kb,vb]=>match Jcf P t a kb with
   | some true=>some (some (0,vb))
   | some false=>(JcQ P t a l).map fun q=>q.map fun p=>(p.1+1,p.2)
   | none=>none
  | _=>none
def JdH(P:Program)(t:TypeId):Option AV:=((P.info? t).bind (·.zero)).bind cellAV
def MR (g:Gh):List MapEntry->List (List AV)->Prop
 | [],[]=>True
 | e :: es,r :: rs=>(∃ ka va,r=[ka,va]/\Rep g e.key ka/\Rep g e.val va)/\MR g es rs
 | _,_=>False
theorem MR.length{g:Gh}:∀ {es:List MapEntry} {rs:List (List AV)},MR g es rs->es.length=rs.length
 | [],[],_=>rfl
 | e :: es,r :: rs,h=>by simp[MR.length h.2]
theorem MR.get{g:Gh}:∀ {es:List MapEntry} {rs:List (List AV)},MR g es rs->∀ {i:Nat} {e:MapEntry},es[i]? = some e->∃ ka va,rs[i]? = some [ka,va]/\Rep g e.key ka/\Rep g e.val va
 | e :: es,r :: rs,h,0,e',he=>by
  simp at he;subst he;obtain⟨ka,va,rfl,h1,h2⟩:=h.1;exact⟨ka,va,rfl,h1,h2⟩
 | e :: es,r :: rs,h,i+1,e',he=>by
  simp at he;obtain⟨ka,va,h1,h2⟩:=MR.get h.2 he;exact⟨ka,va,by simpa using h1,h2⟩
theorem Jjb:∀ {es:List MapEntry} {i:Nat} {e:MapEntry},es[i]? = some e->(JfZ es)[i * 2]? = some e.key/\(JfZ es)[i * 2+1]? = some e.val
 | e :: es,0,e',h=>by simp at h;subst h;exact⟨rfl,rfl⟩
 | e :: es,i+1,e',h=>by
  simp at h;obtain⟨h1,h2⟩:=Jjb h;rw[show (i+1) * 2=i * 2+2 by omega];exact⟨by simpa [JfZ] using h1,by simpa [JfZ] using h2⟩
theorem MR.of_rows{g:Gh}:∀ {es:List MapEntry} {rs:List (List AV)},es.length=rs.length->(∀ x∈rs,x.length=2) ->
  (∀ (i:Nat) (x:List AV) (j:Nat) (a:AV),rs[i]? = some x->x[j]? = some a->∃ v,(JfZ es)[i * 2+j]? = some v/\Rep g v a)->MR g es rs
 | [],[],_,_,_=>trivial
 | [],r :: rs,h,_,_=>by simp at h
 | e :: es,[],h,_,_=>by simp at h
 | e :: es,r :: rs,h,h2,h3=>by
  refine⟨?_,MR.of_rows (by simpa using h) (fun x hx=>h2 x (by simp[hx])) (fun i x j a e1 e2=>?_)⟩
  ·match r,h2 r (by simp) with
   | [ka,va],_ =>
    obtain⟨v,q1,q2⟩:=h3 0 [ka,va] 0 ka rfl rfl;obtain⟨u,q3,q4⟩:=h3 0 [ka,va] 1 va rfl rfl;simp[JfZ] at q1 q3;subst q1;subst q3;exact⟨ka,va,rfl,q2,q4⟩
  ·obtain⟨v,q1,q2⟩:=h3 (i+1) x j a (by simpa using e1) e2;refine⟨v,?_,q2⟩;rw[show (i+1) * 2+j=i * 2+j+2 by omega] at q1;simpa [JfZ] using q1
theorem MR.rows{g:Gh}{es:List MapEntry}{rs:List (List AV)}(h:MR g es rs):(∀ x∈rs,x.length=2)/\∀ (i:Nat) (x:List AV) (j:Nat) (a:AV),rs[i]? = some x->x[j]? = some a->∃ v,(JfZ es)[i * 2+j]? = some v/\Rep g v a:=by
 have row:∀ {i:Nat} {x:List AV},rs[i]? = some x->∃ (e:MapEntry) (ka va:AV),es[i]? = some e/\x=[ka,va]/\Rep g e.key ka/\Rep g e.val va:=fun {i x} hx=>by
  have hi:i<es.length:=by rw[h.length];exact(List.getElem?_eq_some_iff.1 hx).1
  have he:=List.getElem?_eq_getElem hi;obtain⟨ka,va,q1,q2,q3⟩:=h.get he;rw[q1] at hx;cases hx;exact⟨_,ka,va,he,rfl,q2,q3⟩
 refine⟨fun x hx=>?_,fun i x j a e1 e2=>?_⟩
 ·obtain⟨i,hi⟩:=List.getElem?_of_mem hx;obtain⟨e,ka,va,_,rfl,_⟩:=row hi;rfl
 ·obtain⟨e,ka,va,he,rfl,q1,q2⟩:=row e1;obtain⟨f1,f2⟩:=Jjb he;match j with
  | 0=>simp at e2;subst e2;exact⟨_,f1,q1⟩
  | 1=>simp at e2;subst e2;exact⟨_,f2,q2⟩
  | j+2=>simp at e2
theorem MR.push{g:Gh}{e:MapEntry}{ka va:AV}(h1:Rep g e.key ka)(h2:Rep g e.val va):∀ {es:List MapEntry} {rs:List (List AV)},MR g es rs->MR g (es++[e]) (rs++[[ka,va]])
 | [],[],_=>⟨⟨ka,va,rfl,h1,h2⟩,trivial⟩
 | e :: es,r :: rs,h=>⟨h.1,MR.push h1 h2 h.2⟩
theorem MR.set{g:Gh}{e:MapEntry}{ka va:AV}(h1:Rep g e.key ka)(h2:Rep g e.val va):∀ {es:List MapEntry} {rs:List (List AV)} (i:Nat),MR g es rs->MR g (es.set i e) (rs.set i [ka,va])
 | [],[],_,_=>trivial
 | e :: es,r :: rs,0,h=>⟨⟨ka,va,rfl,h1,h2⟩,h.2⟩
 | e :: es,r :: rs,i+1,h=>⟨h.1,MR.set h1 h2 i h.2⟩
theorem JZ.tokM{g:Gh}{h:Hp}{w:World}(r:JZ g h w){t:Nat}{k:Tk}(e:lk h.toks t=some k)(hs:k.s=0/\¬ k.lp) :
  ∃ b es n,g.tok t=some (b,0,1)/\w.heap[b]? = some (.map es n)/\MR g es.toList k.xs/\k.fz<=k.xs.length/\(∀ o,g.mem b o=Option.none):=by
 obtain⟨b,c,vs,o,e1,e2,e3,e4,e5,e6,e7,e8⟩:=r.tok t k e;obtain⟨rfl,hmp,_⟩:=e3.2 hs.1;obtain⟨es,n,rfl,f1,f2⟩:=hmp hs.2;unfold Tk.tn at e1;unfold Tk.st at e5 e6;rw[if_pos hs.1,if_neg hs.2] at e1 e5;simp only[if_pos hs.1,if_neg hs.2] at e6;refine⟨b,es,n,e1,e2,MR.of_rows (by simpa using f2) e5 (fun i x j a q1 q2=>?_),e4,fun o=>e7 o (by rw[hs.1];simp)⟩;obtain⟨v,q3,q4⟩:=e6 i x j a q1 q2;exact⟨v,by rw[<- f1,Array.getElem?_toList];exact q3,q4⟩
theorem Tk.lp_two{k:Tk}(h:∀ x∈k.xs,x.length=2):¬ k.lp:=fun q=>by
 have q2:=q.2;cases hx:k.xs with
 | nil=>rw[hx] at q2;simp at q2
 | cons x l =>
  have:=h x (by rw[hx];simp);rw[hx] at q2;simp at q2;rw[q2] at this;simp at this
theorem Rep.om_map{g:Gh}{h:Hp}{w:World}(r:JZ g h w){t:Nat}{k:Tk}(e:lk h.toks t=some k){v:Value}(hv:Rep g v (.om t)):(k.s=0/\¬ k.lp)/\∀ b c n,g.tok t=some (b,c,n)->v = .map (some b):=by
 cases hv with
 | @om q t h1 h2 =>
  refine⟨?_,fun b c n q=>by rw[(h2 b c n q).2]⟩;obtain⟨b,c,vs,o,e1,e2,e3,e4,e5,e6,e7,e8⟩:=r.tok t k e;by_cases hs:k.s=0
  ·refine⟨hs,fun hl=>?_⟩;obtain⟨q1,_⟩:=h2 _ _ _ e1;obtain⟨rfl,_⟩:=e3.2 hs;unfold Tk.tn at q1;rw[if_pos hs,if_pos hl] at q1;omega
  ·obtain⟨q1,_⟩:=h2 _ _ _ e1;rw[Tk.tn_pos hs] at q1;obtain⟨_,_,_,q2,_⟩:=e3.1 hs;omega
section
variable {P:Program} {g:Gh}
theorem Jh2{w:World}{t:TypeId}{ti:TI}{fs:List (Nat × TypeId)}(ht:Jt P t=some ti)(hk:ti.kd = .st fs)(hn:Ja6 P t=true){xs ys:Array Value}{as bs:List AV}(hx:J9 g xs.toList as)(hy:J9 g ys.toList bs){b:Bool}
  (hb:eqF P fs as bs=some b):(Op.equalIn 10000 t (.agg xs) (.agg ys)).run P w = .ok b w:=by
 obtain⟨i,d,e1,e2,e3,_⟩:=JD ht;rw[e3] at hk;have hd:∃ F,d = .struct F/\fs=F.toList.map fun f=>(f.offset,f.type):=by cases d <;> simp[JcP] at hk;exact⟨_,rfl,hk.symm⟩
 obtain⟨F,rfl,rfl⟩:=hd;have hf:P.fieldsOf t=F:=by simp[Program.fieldsOf,e2]
 simp only[Ja6,hf,Bool.and_eq_true,Bool.not_eq_true',List.all_eq_true,bne_iff_ne] at hn;have:=run_equalIn_struct w 9999 t xs ys (by rw[hf];exact e2) hn.1.2;rw[show (10000:Nat)=9999+1 from rfl,this,hf];exact Jf4 hx hy _ hn.1.1 hb
theorem Jf5{w:World}{t:TypeId}{a b:AV}{u v:Value}{r:Bool}(h:Jcf P t a b=some r)(hu:Rep g u a)(hv:Rep g v b):(Op.equal t u v).run P w = .ok r w:=by
 unfold Jcf at h;split at h
 ·rename_i ti ht;split at h
  ·rename_i fs as bs hk;split at h
   ·rename_i hn;have hn:=hn.1;simp only[JbE,Bool.and_eq_true] at hn;obtain⟨cs,rfl,q1,_⟩:=J9.of_agg hu;obtain⟨ds,rfl,q2,_⟩:=J9.of_agg hv;exact Jh2 ht hk hn.1 q1 q2 h
   ·cases h
  ·exact(Jf3 (w:=w) (d:=9999) ht h hu hv).1
 ·cases h
theorem JeE{k:Kd}{x y:AV}{r:Bool}(h:Jda k x y=some r):(∃ q kk a b,k = .int q/\x = .lit (.int kk a)/\y = .lit (.int kk b)/\r=(a==b))\/(∃ a b,k = .bool/\x = .lit (.bool a)/\y = .lit (.bool b)/\r=(a==b)) \/
  (∃ a b,k = .str/\x = .lit (.string a)/\y = .lit (.string b)/\r=(a.toList==b.toList)):=by
 unfold Jda at h;split at h
 ·split at h
  ·rename_i q;subst q;cases h;exact .inl ⟨_,_,_,_,rfl,rfl,rfl,rfl⟩
  ·cases h
 ·cases h;exact .inr (.inl ⟨_,_,rfl,rfl,rfl,rfl⟩)
 ·cases h;exact .inr (.inr ⟨_,_,rfl,rfl,rfl,rfl⟩)
 ·cases h
theorem Jjc{t:TypeId}{a b:AV}{u v:Value}{r:Bool}{d:TypeDesc}(hd:P.underlying t=some d)(h:Jcf P t a b=some r)(hu:Rep g u a)(hv:Rep g v b):Instr.sameNow d u v=some r\/Instr.sameNow d u v=none:=by
 unfold Jcf at h;split at h
 ·rename_i ti ht;obtain⟨i,dd,e1,e2,e3,_⟩:=JD ht;rw[hd] at e2;cases e2;split at h
  ·rename_i fs as bs hk
   right
   rw[e3] at hk;cases d <;> simp[JcP] at hk
   rfl
  ·rw[e3] at h;rcases JeE h with ⟨q,kk,x,y,hq,rfl,rfl,rfl⟩ | ⟨x,y,hq,rfl,rfl,rfl⟩ | ⟨x,y,hq,rfl,rfl,rfl⟩
   ·cases hu;cases hv;have:d = .int q:=by cases d <;> simp[JcP] at hq;rw[hq]
    subst this
    left;simp[Instr.sameNow]
   ·cases hu;cases hv;have:d = .bool:=by cases d <;> simp[JcP] at hq;rfl
    subst this
    left;rfl
   ·cases hu;cases hv;have:d = .string:=by cases d <;> simp[JcP] at hq;rfl
    subst this
    left
    show some (x==y)=some (x.toList==y.toList);rw[beq_toListBytes]
 ·cases h
def Jml(g:Gh)(es:List MapEntry)(i:Nat)(q:Option (Nat × Value))(r:Option (Nat × AV)):Prop :=
 match r with
 | none=>q=none
 | some (j,va)=>∃ e,es[j]? = some e/\q=some (i+j,e.val)/\Rep g e.val va
theorem Jml.next{e:MapEntry}{es:List MapEntry}{i:Nat}{q:Option (Nat × Value)}{r:Option (Nat × AV)}(h:Jml g es (i+1) q r):Jml g (e :: es) i q (r.map fun p=>(p.1+1,p.2)):=by
 cases r with
 | none=>exact h
 | some p =>
  obtain⟨j,va⟩:=p;obtain⟨e',h1,h2,h3⟩:=h;exact⟨e',by simpa using h1,by rw[h2];congr 2;omega,h3⟩
theorem Je0{t:TypeId}{a kb vb:AV}{l:List (List AV)}{r:Option (Nat × AV)}(h:JcQ P t a ([kb,vb] :: l)=some r):(Jcf P t a kb=some true/\r=some (0,vb))\/(Jcf P t a kb=some false/\∃ r',JcQ P t a l=some r'/\r=r'.map fun p=>(p.1+1,p.2)):=by
 simp only[JcQ] at h;split at h
 ·rename_i q;cases h;exact .inl ⟨q,rfl⟩
 ·rename_i q;obtain⟨r',h1,h2⟩:=Option.map_eq_some_iff.1 h;exact .inr ⟨q,r',h1,h2.symm⟩
 ·cases h
theorem Jdu{w:World}{t:TypeId}{a:AV}{u:Value}(hu:Rep g u a):∀ {es:List MapEntry} {rs:List (List AV)} (i:Nat) {r:Option (Nat × AV)},MR g es rs->JcQ P t a rs=some r ->
  ∃ q,(Instr.findAsking t u es i).run P w = .ok q w/\Jml g es i q r
 | [],[],i,r,_,h=>by
  simp[JcQ] at h;subst h;exact⟨none,by simp[Instr.findAsking],rfl⟩
 | e :: es,x :: rs,i,r,hm,h=>by
  obtain⟨⟨ka,va,rfl,h1,h2⟩,hm⟩:=hm;rcases Je0 h with ⟨q,rfl⟩ | ⟨q,r',q1,rfl⟩
  ·exact⟨some (i,e.val),by simp[Instr.findAsking,Jf5 (w:=w) q hu h1],⟨e,rfl,rfl,h2⟩⟩
  ·obtain⟨p,f1,f2⟩:=Jdu (w:=w) hu (i+1) hm q1;exact⟨p,by simp[Instr.findAsking,Jf5 (w:=w) q hu h1,f1],f2.next⟩
theorem JeF{t:TypeId}{d:TypeDesc}(hd:P.underlying t=some d){a:AV}{u:Value}(hu:Rep g u a):∀ {es:List MapEntry} {rs:List (List AV)} (i:Nat) {r:Option (Nat × AV)},MR g es rs->JcQ P t a rs=some r ->
  ∀ q,Instr.findNow d u es i=some q->Jml g es i q r
 | [],[],i,r,_,h,q,hq=>by
  simp[JcQ] at h;subst h;simp[Instr.findNow] at hq;exact hq.symm
 | e :: es,x :: rs,i,r,hm,h,p,hp=>by
  obtain⟨⟨ka,va,rfl,h1,h2⟩,hm⟩:=hm;simp only[Instr.findNow] at hp;rcases Je0 h with ⟨q,rfl⟩ | ⟨q,r',q1,rfl⟩
  ·rcases Jjc hd q hu h1 with k | k
   ·rw[k] at hp;cases hp;exact⟨e,rfl,rfl,h2⟩
   ·rw[k] at hp;cases hp
  ·rcases Jjc hd q hu h1 with k | k
   ·rw[k] at hp;exact(JeF hd hu (i+1) hm q1 p hp).next
   ·rw[k] at hp;cases hp
theorem Jdb{w:World}{t:TypeId}{ti:TI}(ht:Jt P t=some ti){a:AV}{u:Value}(hu:Rep g u a){es:List MapEntry}{rs:List (List AV)}{r:Option (Nat × AV)}(hm:MR g es rs)(h:JcQ P t a rs=some r) :
  ∃ q,(Instr.findKey t u es).run P w = .ok q w/\Jml g es 0 q r:=by
 obtain⟨i,d,e1,e2,e3,_⟩:=JD ht;cases hn:Instr.findNow d u es 0 with
 | some q=>exact⟨q,by simp[Instr.findKey,run_underlying e2,hn],JeF e2 hu 0 hm h q hn⟩
 | none =>
  obtain⟨q,f1,f2⟩:=Jdu (w:=w) hu 0 hm h;exact⟨q,by simp[Instr.findKey,run_underlying e2,hn,f1],f2⟩
theorem Jf6{w:World}{t:TypeId}{ti:TI}(ht:Jt P t=some ti){x y:AV}{u:Value}{r:Bool}(h:Jda ti.kd x y=some r)(hu:Rep g u x)(em:Bool)(n:Nat):(Instr.checkKey em (n+1) t u).run P w = .ok () w:=by
 obtain⟨i,d,e1,e2,e3,_⟩:=JD ht;rw[e3] at h;rcases JeE h with ⟨q,kk,x,y,hq,rfl,rfl,rfl⟩ | ⟨x,y,hq,rfl,rfl,rfl⟩ | ⟨x,y,hq,rfl,rfl,rfl⟩
 ·cases hu;have:d = .int q:=by cases d <;> simp[JcP] at hq;rw[hq]
  subst this;simp[Instr.checkKey,run_underlying e2]
 ·cases hu;have:d = .bool:=by cases d <;> simp[JcP] at hq;rfl
  subst this;simp[Instr.checkKey,run_underlying e2]
 ·cases hu;have:d = .string:=by cases d <;> simp[JcP] at hq;rfl
  subst this;simp[Instr.checkKey,run_underlying e2]
theorem Jjd{w:World}{em:Bool}{n:Nat}{xs:Array Value}{as bs:List AV}(hx:J9 g xs.toList as):∀ (fs:List Field) {r:Bool},eqF P (fs.map fun f=>(f.offset,f.type)) as bs=some r ->
  ∀ f∈fs,∃ v,(part f.type xs f.offset).run P w = .ok v w/\(Instr.checkKey em (n+1) f.type v).run P w = .ok () w
 | [],_,_,f,hf=>by cases hf
 | f :: fs,r,h,f',hf'=>by
  simp only[List.map_cons,eqF] at h;split at h
  ·rename_i ti a b ht ha hb;cases hl:Jda ti.kd a b with
   | none=>rw[hl] at h;simp[Jnr] at h
   | some r1 =>
    cases hr:eqF P (fs.map fun f=>(f.offset,f.type)) as bs with
    | none=>rw[hr,hl] at h;simp[Jnr] at h
    | some r2 =>
     rcases List.mem_cons.1 hf' with rfl | hf'
     ·have lx:xs.toList[f'.offset]? = some (xs.toList[f'.offset]'(by rw[hx.1];exact(List.getElem?_eq_some_iff.1 ha).1)):=List.getElem?_eq_getElem _;have hrep:=hx.2 _ _ _ lx ha;have ka:ti.kd.agg=false:=by
       rcases JeE hl with ⟨q,_,_,_,hq,_⟩ | ⟨_,_,hq,_⟩ | ⟨_,_,hq,_⟩ <;> rw[hq] <;> rfl
      refine⟨_,JdG (w:=w) ht ka (by rw[<- Array.getElem?_toList];exact lx),Jf6 ht hl hrep em n⟩
     ·exact Jjd hx fs hr f' hf'
  ·cases h
theorem Jf7{w:World}{em:Bool}{n:Nat}{xs:Array Value}:∀ (fs:List Field),(∀ f∈fs,∃ v,(part f.type xs f.offset).run P w = .ok v w/\(Instr.checkKey em n f.type v).run P w = .ok () w) ->
  (forIn fs PUnit.unit (fun f _ =>
   if f.name ≠ "_" then do
    let v <- part f.type xs f.offset
    Instr.checkKey em n f.type v
    pure (ForInStep.yield PUnit.unit)
   else pure (ForInStep.yield PUnit.unit)):Sem PUnit).run P w = .ok PUnit.unit w
 | [],_=>by simp
 | f :: fs,h=>by
  obtain⟨v,h1,h2⟩:=h f (by simp);have ih:=Jf7 (w:=w) (em:=em) (n:=n) (xs:=xs) fs (fun f hf=>h f (by simp[hf]));rw[List.forIn_cons];by_cases hn:f.name = "_"
  ·rw[if_neg (by simpa using hn)];simp only[Sem.run_bind,Sem.run_pure,Result.andThen_ok];exact ih
  ·rw[if_pos hn];simp only[Sem.run_bind,Sem.run_pure,Result.andThen_ok,h1,h2];exact ih
theorem Jem{w:World}{t:TypeId}{a b:AV}{u:Value}{r:Bool}(h:Jcf P t a b=some r)(hu:Rep g u a)(em:Bool):(Instr.checkKey em 10000 t u).run P w = .ok () w:=by
 unfold Jcf at h;split at h
 ·rename_i ti ht;split at h
  ·rename_i fs as bs hk;split at h
   ·rename_i hn;obtain⟨cs,rfl,q1,_⟩:=J9.of_agg hu;obtain⟨i,d,e1,e2,e3,_⟩:=JD ht;rw[e3] at hk;have hd:∃ F,d = .struct F/\fs=F.toList.map fun f=>(f.offset,f.type):=by cases d <;> simp[JcP] at hk;exact⟨_,rfl,hk.symm⟩
    obtain⟨F,rfl,rfl⟩:=hd;have hc:=Jjd (w:=w) (em:=em) (n:=9998) q1 F.toList h;have hf:=Jf7 F.toList hc;show (Instr.checkKey em (9999+1) t (.agg cs)).run P w=_;unfold Instr.checkKey;simp only[Sem.run_bind,run_underlying e2,Result.andThen_ok];rw[<- Array.forIn_toList];rw[hf];simp
   ·cases h
  ·exact Jf6 ht h hu em 9999
 ·cases h
theorem JB{x y:ByteArray}(h:(x==y)=true):x=y:=by
 cases x;cases y;rename_i a b;have:(a==b)=true:=h;rw[beq_iff_eq] at this;rw[this]
theorem Jhi(x:ByteArray):(x==x)=true:=by
 cases x;rename_i a;show (a==a)=true;simp
def Jh3:Value->Bool
 | .int _ _ | .bool _ | .string _=>true
 | _=>false
theorem Jhj{k:Kd}{x y:AV}{u v:Value}(h:Jda k x y=some true)(hu:Rep g u x)(hv:Rep g v y):u=v/\Jh3 u=true:=by
 rcases JeE h with ⟨q,kk,x,y,hq,rfl,rfl,e⟩ | ⟨x,y,hq,rfl,rfl,e⟩ | ⟨x,y,hq,rfl,rfl,e⟩
 ·cases hu;cases hv;simp at e;subst e;exact⟨rfl,rfl⟩
 ·cases hu;cases hv;simp at e;subst e;exact⟨rfl,rfl⟩
 ·cases hu;cases hv;have e:(x==y)=true:=by rw[beq_toListBytes];exact e.symm
  have e:=JB e;subst e;exact⟨rfl,rfl⟩
theorem Jlx{as bs:List AV}:∀ {fs:List (Nat × TypeId)},eqF P fs as bs=some true->∀ f∈fs,∃ k a b,as[f.1]? = some a/\bs[f.1]? = some b/\Jda k a b=some true
 | [],_,f,hf=>by cases hf
 | f :: fs,h,f',hf'=>by
  simp only[eqF] at h;split at h
  ·rename_i ti a b ht ha hb;cases hl:Jda ti.kd a b with
   | none=>rw[hl] at h;simp[Jnr] at h
   | some r1 =>
    cases hr:eqF P fs as bs with
    | none=>rw[hr,hl] at h;simp[Jnr] at h
    | some r2 =>
     rw[hl,hr] at h;simp only[Jnr,Option.some.injEq,Bool.and_eq_true] at h;obtain⟨rfl,rfl⟩:=h;rcases List.mem_cons.1 hf' with rfl | hf'
     ·exact⟨_,_,_,ha,hb,hl⟩
     ·exact Jlx hr f' hf'
  ·cases h
theorem Jfj{u:Value}(h:Jh3 u=true)(n:Nat):Instr.sameBits n u u=true:=by
 cases u <;> simp[Jh3] at h <;> cases n <;> simp[Instr.sameBits,Jhi]
theorem Jmm{t:TypeId}{a b:AV}{u v:Value}(h:Jcf P t a b=some true)(hu:Rep g u a)(hv:Rep g v b):v=u/\Instr.sameBits 10000 u u=true:=by
 unfold Jcf at h;split at h
 ·rename_i ti ht;split at h
  ·rename_i fs as bs hk;split at h
   ·rename_i hn;obtain⟨hn,l1,l2⟩:=hn;simp only[JbE,Bool.and_eq_true,decide_eq_true_eq] at hn;obtain⟨cs,rfl,q1,_⟩:=J9.of_agg hu;obtain⟨ds,rfl,q2,_⟩:=J9.of_agg hv;have at':∀ i,i<fs.length->∃ x y,cs.toList[i]? = some x/\ds.toList[i]? = some y/\x=y/\Jh3 x=true:=fun i hi=>by
     have hm:i∈fs.map (·.1):=by rw[hn.2];simpa using hi
     obtain⟨f,hf,rfl⟩:=List.mem_map.1 hm;obtain⟨k,a,b,ha,hb,hl⟩:=Jlx h f hf;have lx:cs.toList[f.1]? = some (cs.toList[f.1]'(by rw[q1.1,l1];exact hi)):=List.getElem?_eq_getElem _;have ly:ds.toList[f.1]? = some (ds.toList[f.1]'(by rw[q2.1,l2];exact hi)):=List.getElem?_eq_getElem _;obtain⟨e1,e2⟩:=Jhj hl (q1.2 _ _ _ lx ha) (q2.2 _ _ _ ly hb);exact⟨_,_,lx,ly,e1,e2⟩
    have hcd:ds=cs:=by
     apply Array.toList_inj.1;apply List.ext_getElem?;intro i;rcases Nat.lt_or_ge i fs.length with hi | hi
     ·obtain⟨x,y,h1,h2,h3,_⟩:=at' i hi;rw[h1,h2,h3]
     ·rw[List.getElem?_eq_none (by rw[q2.1,l2];exact hi),List.getElem?_eq_none (by rw[q1.1,l1];exact hi)]
    refine⟨by rw[hcd],?_⟩;show Instr.sameBits (9999+1) _ _=true;unfold Instr.sameBits;simp only[beq_self_eq_true,Bool.true_and,List.all_eq_true];intro p hp;obtain⟨i,hi⟩:=List.getElem?_of_mem hp;rw[List.getElem?_zip_eq_some] at hi;have hl:i<fs.length:=by rw[<- l1,<- q1.1];exact(List.getElem?_eq_some_iff.1 hi.1).1
    obtain⟨x,y,h1,h2,h3,h4⟩:=at' i hl;rw[h1] at hi;obtain⟨p1,p2⟩:=p;obtain⟨e1,e2⟩:=hi;cases e1;cases e2;exact Jfj h4 9999
   ·cases h
  ·obtain⟨e1,e2⟩:=Jhj h hu hv;exact⟨e1.symm,Jfj e2 _⟩
 ·cases h
theorem Jje{t:TypeId}{a:AV}:∀ {rs:List (List AV)} {j:Nat} {va:AV},JcQ P t a rs=some (some (j,va))->∃ kb,rs[j]? = some [kb,va]/\Jcf P t a kb=some true
 | [],j,va,h=>by simp[JcQ] at h
 | x :: rs,j,va,h=>by
  match x,h with
  | [kb,vb],h =>
   rcases Je0 h with ⟨q,e⟩ | ⟨q,r',q1,e⟩
   ·cases e;exact⟨kb,rfl,q⟩
   ·cases r' with
    | none=>cases e
    | some p =>
     obtain⟨j',v'⟩:=p;cases e;obtain⟨kb',h1,h2⟩:=Jje q1;exact⟨kb',by simpa using h1,h2⟩
  | [],h=>simp[JcQ] at h
  | [_],h=>simp[JcQ] at h
  | _ :: _ :: _ :: _,h=>simp[JcQ] at h
theorem JZ.addOm{h:Hp}{w:World}(r:JZ g h w):JW g h w (g.addTok w.heap.size 0 1) {h with toks:=h.toks++[(h.nx,⟨[],0,0⟩)],nx:=h.nx+1} (w.alloc (.map #[] 0))/\Rep (g.addTok w.heap.size 0 1) (.map (some w.heap.size)) (.om h.nx):=by
 have hx:=Ext.addTok g w.heap.size 0 1;have hg:g.nx=h.nx:=r.nx;have htok:∀ i,(g.addTok w.heap.size 0 1).tok i=if i=h.nx then some (w.heap.size,0,1) else g.tok i:=fun i=>by simp[Gh.addTok,hg]
 have old:∀ i k,lk (h.toks++[(h.nx,(⟨[],0,0⟩:Tk))]) i=some k->i≠h.nx->lk h.toks i=some k:=fun i k e hi=>by rwa [J5 hi] at e
 have oldS:∀ i,(lk (h.toks++[(h.nx,(⟨[],0,0⟩:Tk))]) i).isSome=true->i≠h.nx->(lk h.toks i).isSome=true:=fun i e hi=>by rwa [J5 hi] at e
 refine⟨⟨⟨by simp[Gh.addTok,hg],fun b o v e=>?_,fun id cs e=>?_,fun t k e=>?_,r.bxbx,fun i j b c1 n1 c2 n2 e1 e2 e3 e4=>?_,fun i j b c1 n1 e1 e2 e3 e4=>?_,fun i e=>?_,r.cchUp hx rfl (fun b es k e=>JP e),r.celUp rfl (fun b vs e q=>⟨vs,e,JP q⟩),r.lprUp rfl (fun t k e hk=>by
  by_cases hi:t=h.nx
  ·subst hi;rw[JaH r.lk_fresh_tok] at e;cases e;exact absurd hk (Tk.lp_two (by simp))
  ·exact⟨old t k e hi,by rw[htok,if_neg hi]⟩) (fun b q e=>JP e)⟩,hx,Jai.alloc _ _ _,fun b l=>Ja2.addTok r l,fun _ _ _ q=>.inl q⟩,
  .om (by simp[Gh.addTok,hg]) (fun b c n q=>by rw[htok,if_pos rfl] at q;cases q;exact⟨rfl,rfl⟩)⟩
 ·obtain⟨f1,f2⟩:=r.mem b o v e;exact⟨JcO f1,f2⟩
 ·obtain⟨b,vs',ty',f1,f2,f3,f4,f5⟩:=r.box id cs e;exact⟨b,vs',ty',f1,JP f2,f3.mono hx,f4,f5⟩
 ·by_cases hi:t=h.nx
  ·subst hi;rw[JaH r.lk_fresh_tok] at e;cases e;exact⟨w.heap.size,0,#[],_,by rw[htok,if_pos rfl];rfl,heap_alloc_new w _,⟨fun q=>absurd rfl q,fun _=>⟨rfl,fun _=>⟨#[],0,rfl,rfl,rfl⟩,fun q=>absurd q (Tk.lp_two (by simp))⟩⟩,Nat.zero_le _,by simp,by simp,fun o _=>r.mem_none o (Nat.le_refl _),r.cch_new (Nat.le_refl _)⟩
  ·obtain⟨b,c1,vs',ty',f1,f2,f3,f5,f6,f7,f9⟩:=r.tok t k (old t k e hi);refine⟨b,c1,vs',ty',by rw[htok,if_neg hi];exact f1,JP f2,f3,f5,f6,fun i y j a g1 g2=>?_,f9⟩;obtain⟨v,g3,g4⟩:=f7 i y j a g1 g2;exact⟨v,g3,g4.mono hx⟩
 ·rw[htok] at e1 e2;by_cases hi:i=h.nx <;> by_cases hj:j=h.nx
  ·rw[hi,hj]
  ·rw[if_pos hi] at e1;rw[if_neg hj] at e2;cases e1;have:=r.tokBlocks j (oldS j e4 hj) _ _ _ e2;omega
  ·rw[if_neg hi] at e1;rw[if_pos hj] at e2;cases e2;have:=r.tokBlocks i (oldS i e3 hi) _ _ _ e1;omega
  ·rw[if_neg hi] at e1;rw[if_neg hj] at e2;exact r.tktk i j b c1 n1 c2 n2 e1 e2 (oldS i e3 hi) (oldS j e4 hj)
 ·rw[htok] at e2;by_cases hj:j=h.nx
  ·rw[if_pos hj] at e2;cases e2;have:=r.boxBlocks i e3 _ e1;omega
  ·rw[if_neg hj] at e2;exact r.bxtk i j b c1 n1 e1 e2 e3 (oldS j e4 hj)
 ·have hi:h.nx<=i:=Nat.le_of_succ_le e;have hne:i≠h.nx:=fun q=>by subst q;exact absurd e (Nat.not_succ_le_self _)
  exact⟨(r.fresh i hi).1,by rw[htok,if_neg hne];exact(r.fresh i hi).2⟩
theorem JZ.setOm{h:Hp}{w:World}(r:JZ g h w){t:Nat}{k:Tk}(e:lk h.toks t=some k)(hs:k.s=0/\¬ k.lp){b:Nat}(eb:g.tok t=some (b,0,1)){es:Array MapEntry}{n:Nat}(hb:w.heap[b]? = some (.map es n))
  (es':Array MapEntry) (n':Nat) (xs':List (List AV)) (hm:MR g es'.toList xs') (hl:k.xs.length<=xs'.length) :
  JW g h w g {h with toks:=up h.toks t ⟨xs',k.fz,k.s⟩} {w with heap:=w.heap.setIfInBounds b (.map es' n')}:=by
 obtain⟨same,other⟩:=Go.MapKept.heap_set (o':=.map es' n') hb;have old:∀ b' vs ty,w.heap[b']? = some (Obj.cells vs ty (0,0))->(w.heap.setIfInBounds b (.map es' n'))[b']? = some (Obj.cells vs ty (0,0)):=fun b' vs ty e=>by
  rw[other b' (fun q=>by subst q;rw[hb] at e;cases e)];exact e
 have oldL:∀ b' x,w.heap[b']? = some (Obj.loop x)->(w.heap.setIfInBounds b (.map es' n'))[b']? = some (Obj.loop x):=fun b' x e=>by
  rw[other b' (fun q=>by subst q;rw[hb] at e;cases e)];exact e
 obtain⟨b0,c0,vs0,o0,q1,q2,q3,q4,q5,q6,q7,q8⟩:=r.tok t k e;have hb0:b0=b:=by rw[eb] at q1;simp only[Option.some.injEq,Prod.mk.injEq] at q1;exact q1.1.symm
 rw[hb0] at q7 q8;refine⟨⟨r.nx,fun b' o v e'=>?_,fun id cs e'=>?_,fun i k' e'=>?_,r.bxbx,fun i j b' c1 n1 c2 n2 e1 e2 e3 e4=>?_,fun i j b' c1 n1 e1 e2 e3 e4=>?_,r.fresh,fun b' s e'=>?_,fun b' e'=>?_,fun i k' b' c1 n1 e' hk q=>?_⟩,.refl _,⟨rfl,rfl,rfl,fun _=>Nat.le_refl _,by simp,fun b' _ hF=>other b' (fun q=>by subst q;exact hF (.inr (.inl ⟨t,k,0,1,e,eb⟩))),fun b' x q=>⟨x,oldL b' x q⟩⟩,fun b' l=>.inl ?_,fun _ _ _ q=>.inl q⟩
 ·obtain⟨f1,f2⟩:=r.mem b' o v e';have hne:b'≠b:=fun q=>by subst q;rw[show w.cell? ⟨b',o,none⟩=none by simp[World.cell?,hb]] at f1;cases f1
  exact⟨by rw[World.cell?_of_block (w:=w) (other b' hne)];exact f1,f2⟩
 ·obtain⟨b',vs,ty,f1,f2,f3⟩:=r.box id cs e';exact⟨b',vs,ty,f1,old _ _ _ f2,f3⟩
 ·rw[JH] at e';by_cases hi:t=i
  ·subst hi;simp only[if_true,e,Option.map_some,Option.some.injEq] at e';subst e';obtain⟨m1,m2⟩:=hm.rows;have nl:¬ (⟨xs',k.fz,k.s⟩:Tk).lp:=Tk.lp_two m1;have st:(⟨xs',k.fz,k.s⟩:Tk).st=2:=by unfold Tk.st;rw[if_pos hs.1,if_neg nl]
   have tn:(⟨xs',k.fz,k.s⟩:Tk).tn=1:=by unfold Tk.tn;rw[if_pos hs.1,if_neg nl]
   refine⟨b,0,(JfZ es'.toList).toArray,_,by rw[tn];exact eb,same,⟨fun q=>absurd hs.1 q,fun _=>⟨rfl,fun _=>⟨es',n',rfl,rfl,by have:=hm.length;simpa using this⟩,fun q=>absurd q nl⟩⟩,by show k.fz<=xs'.length;omega,by rw[st];exact m1,by rw[st];simpa using m2,q7,q8⟩
  ·rw[if_neg hi] at e';obtain⟨b',c',vs1,o1,f1,f2,f3⟩:=r.tok i k' e';have hne:b'≠b:=fun q=>hi (by subst q;exact r.tktk t i b' _ _ _ _ eb f1 (by rw[e];rfl) (by rw[e'];rfl))
   exact⟨b',c',vs1,o1,f1,(other b' hne).trans f2,f3⟩
 ·simp only[Jal] at e3 e4;exact r.tktk i j b' c1 n1 c2 n2 e1 e2 e3 e4
 ·simp only[Jal] at e4;exact r.bxtk i j b' c1 n1 e1 e2 e3 e4
 ·obtain⟨es1,k1,f1,f2⟩:=r.cch b' s e';have hne:b'≠b:=fun q=>by subst q;exact q8 s e'
  exact⟨es1,k1,(other b' hne).trans f1,f2⟩
 ·obtain⟨vs,ty,f1⟩:=r.cel b' e';exact⟨vs,ty,old _ _ _ f1⟩
 ·rw[JH] at e';by_cases hi:t=i
  ·subst hi;simp only[if_true,e,Option.map_some,Option.some.injEq] at e';subst e';exact absurd hk (Tk.lp_two hm.rows.1)
  ·rw[if_neg hi] at e';obtain⟨x,f1,f2,f3⟩:=r.lpr i k' b' c1 n1 e' hk q;exact⟨x,f1,oldL _ _ f2,f3⟩
 ·rcases l with ⟨id,cs,f1,f2⟩ | ⟨i,k1,c1,n1,f1,f2⟩ | f1
  ·exact .inl ⟨id,cs,f1,f2⟩
  ·have:(lk h.toks i).isSome=true:=by rw[<- Jal (t:=t) (x:=⟨xs',k.fz,k.s⟩) i,f1];rfl
   obtain⟨k2,hk2⟩:=Option.isSome_iff_exists.1 this;exact .inr (.inl ⟨i,k2,c1,n1,hk2,f2⟩)
  ·exact .inr (.inr f1)
end
end Go.Ab
end
section
namespace Go.Ab
def unw:AV->AV
 | .wit _ a=>a
 | a=>a
theorem Rep.unw{g:Gh}{v:Value}{a:AV}(h:Rep g v a):Rep g v (unw a):=by
 cases h with
 | wit h1 h2=>exact h2
 | _=>constructor <;> assumption
def Ja3(h:Hp):AV->Option (List AV × Nat)
 | .ptr id off=>(lk h.boxes id).map fun cs=>(cs,off)
 | .pp cs off=>some (cs,off)
 | .np cs=>some (cs,0)
 | .ep t n s i off=>match lk h.toks t with
  | some k=>if n=k.xs.length/\s=k.s then (k.xs[i]?).map fun cs=>(cs,off) else none
  | none=>none
 | _=>none
def Jcx(a:AV)(o:Nat):Option AV :=
 match a with
 | .ptr id off=>some (.ptr id (off+o))
 | .pp cs off=>some (.pp cs (off+o))
 | .np cs=>some (.pp cs o)
 | .ep t n s i off=>some (.ep t n s i (off+o))
 | _=>none
theorem Jf8{g:Gh}{h:Hp}{w:World}(r:JZ g h w){v:Value}{a:AV}(hv:Rep g v a){cs:List AV}{off:Nat}(e:Ja3 h a=some (cs,off)) :
  ∃ b base vs,v = .pointer (some ⟨b,base+off,none⟩)/\J9 g vs cs/\(∀ x∈vs,x.oneCell'=true)/\∀ j x,vs[j]? = some x->w.cell? ⟨b,base+j,none⟩=some x:=by
 cases hv with
 | @ptr ad id off' h1 h2 =>
  simp only[Ja3] at e;cases hl:lk h.boxes id with
  | none=>simp[hl] at e
  | some cs' =>
   simp only[hl,Option.map_some,Option.some.injEq,Prod.mk.injEq] at e;obtain⟨rfl,rfl⟩:=e;obtain⟨b,vs,ty,f1,f2,f3,f4,f5⟩:=r.box id cs' hl;have:=h2 b f1;subst this;exact⟨b,0,vs.toList,by simp,f3,f4,fun j x hx=>by rw[Jaj f2];simpa using hx⟩
 | @pp b base off' cs' f h1 h2 =>
  simp only[Ja3,Option.some.injEq,Prod.mk.injEq] at e;obtain⟨rfl,rfl⟩:=e;refine⟨b,base,(List.range cs'.length).map f,rfl,⟨by simp,fun i c a e1 e2=>?_⟩,fun x hx=>?_,fun j x hx=>?_⟩
  ·have hi:i<cs'.length:=(List.getElem?_eq_some_iff.1 e2).1;simp[List.getElem?_map,List.getElem?_range hi] at e1;subst e1;exact h2 i a e2
  ·simp only[List.mem_map,List.mem_range] at hx;obtain⟨i,hi,rfl⟩:=hx;exact(r.mem _ _ _ (h1 i cs'[i] (List.getElem?_eq_getElem hi))).2
  ·have hj:j<cs'.length:=by have:=(List.getElem?_eq_some_iff.1 hx).1;simpa using this
   simp[List.getElem?_map,List.getElem?_range hj] at hx;subst hx;exact(r.mem _ _ _ (h1 j cs'[j] (List.getElem?_eq_getElem hj))).1
 | @np b cs' f h0 h1 h2 =>
  simp only[Ja3,Option.some.injEq,Prod.mk.injEq] at e;obtain⟨rfl,rfl⟩:=e;refine⟨b,0,(List.range cs'.length).map f,rfl,⟨by simp,fun i c a e1 e2=>?_⟩,fun x hx=>?_,fun j x hx=>?_⟩
  ·have hi:i<cs'.length:=(List.getElem?_eq_some_iff.1 e2).1;simp[List.getElem?_map,List.getElem?_range hi] at e1;subst e1;exact h2 i a e2
  ·simp only[List.mem_map,List.mem_range] at hx;obtain⟨i,hi,rfl⟩:=hx;exact(r.mem _ _ _ (h1 i cs'[i] (List.getElem?_eq_getElem hi))).2
  ·have hj:j<cs'.length:=by have:=(List.getElem?_eq_some_iff.1 hx).1;simpa using this
   simp[List.getElem?_map,List.getElem?_range hj] at hx;subst hx;rw[Nat.zero_add];exact(r.mem _ _ _ (h1 j cs'[j] (List.getElem?_eq_getElem hj))).1
 | @ep ad t n s i off' h1 h2 =>
  simp only[Ja3] at e;cases hl:lk h.toks t with
  | none=>simp[hl] at e
  | some k =>
   simp only[hl] at e;split at e
   ·rename_i hns;obtain⟨rfl,rfl⟩:=hns;cases hx:k.xs[i]? with
    | none=>simp[hx] at e
    | some cs' =>
     simp only[hx,Option.map_some,Option.some.injEq,Prod.mk.injEq] at e;obtain⟨rfl,rfl⟩:=e;obtain⟨b,c,vs,ty,f1,f2,f3,f4,f5,f6,f7,f8,f9⟩:=r.tokS hl (r.tokE hl (Rep.ep h1 h2));have:=(h2 b c _ f1).2.2 rfl;subst this;have hlen:cs'.length=k.s:=f6 cs' (List.mem_of_getElem? hx);have hi:i<k.xs.length:=(List.getElem?_eq_some_iff.1 hx).1;have hle:i * k.s+k.s<=vs.size:=by
      rw[f3]
      calc i * k.s+k.s=(i+1) * k.s:=by rw[Nat.add_mul,Nat.one_mul]
       _<=c * k.s:=Nat.mul_le_mul_right _ (by omega)
     refine⟨b,i * k.s,(vs.toList.drop (i * k.s)).take k.s,rfl,⟨by simp;omega,fun j x a e1 e2=>?_⟩,fun x hx'=>f8 x (List.mem_of_mem_drop (List.mem_of_mem_take hx')),fun j x hx'=>?_⟩
     ·obtain⟨v,g1,g2⟩:=f7 i cs' j a hx e2;have hj:j<k.s:=by rw[<- hlen];exact(List.getElem?_eq_some_iff.1 e2).1
      rw[List.getElem?_take,if_pos hj,List.getElem?_drop] at e1;simp only[Array.getElem?_toList] at e1;rw[g1] at e1;cases e1;exact g2
     ·rw[Jaj f2];rw[List.getElem?_take] at hx';split at hx'
      ·rw[List.getElem?_drop] at hx';simpa using hx'
      ·cases hx'
   ·cases e
 | lit h1=>simp[Ja3] at e
 | agg h0 h1 h2=>simp[Ja3] at e
 | tup h1 h2=>simp[Ja3] at e
 | vecN=>simp[Ja3] at e
 | vecE _=>simp[Ja3] at e
 | vec f h1 h2 h3 h4 h5=>simp[Ja3] at e
 | own h1 h2=>simp[Ja3] at e
 | fn h1 h2 h3 h4=>simp[Ja3] at e
 | ifc h1=>simp[Ja3] at e
 | mp h1=>simp[Ja3] at e
 | om h1 h2=>simp[Ja3] at e
 | wit h1 h2=>simp[Ja3] at e
 | yl h1 h2=>simp[Ja3] at e
theorem Addr.add_eq(b o n:Nat):(⟨b,o,none⟩:Addr).add n=⟨b,o+n,none⟩:=by unfold Addr.add;split <;> simp_all
theorem Jf9{g:Gh}{v:Value}{a a':AV}(hv:Rep g v a){o:Nat}(e:Jcx a o=some a'):∃ ad,v = .pointer (some ad)/\Rep g (.pointer (some (ad.add o))) a':=by
 cases hv with
 | @ptr ad id off h1 h2 =>
  simp only[Jcx,Option.some.injEq] at e;subst e;exact⟨ad,rfl,.ptr h1 fun b hb=>by rw[h2 b hb,Addr.add_eq]⟩
 | @pp b base off cs f h1 h2 =>
  simp only[Jcx,Option.some.injEq] at e;subst e;refine⟨_,rfl,?_⟩;rw[Addr.add_eq,Nat.add_assoc];exact .pp f h1 h2
 | @np b cs f h0 h1 h2 =>
  simp only[Jcx,Option.some.injEq] at e;subst e;refine⟨_,rfl,?_⟩;rw[Addr.add_eq];exact .pp (base:=0) f (fun j a e=>by rw[Nat.zero_add];exact h1 j a e) h2
 | @ep ad t n s i off h1 h2 =>
  simp only[Jcx,Option.some.injEq] at e;subst e;exact⟨ad,rfl,.ep h1 fun b c m hb=>⟨(h2 b c m hb).1,(h2 b c m hb).2.1,fun q=>by rw[(h2 b c m hb).2.2 q,Addr.add_eq,Nat.add_assoc]⟩⟩
 | lit h1=>simp[Jcx] at e
 | agg h0 h1 h2=>simp[Jcx] at e
 | tup h1 h2=>simp[Jcx] at e
 | vecN=>simp[Jcx] at e
 | vecE _=>simp[Jcx] at e
 | vec f h1 h2 h3 h4 h5=>simp[Jcx] at e
 | own h1 h2=>simp[Jcx] at e
 | fn h1 h2 h3 h4=>simp[Jcx] at e
 | ifc h1=>simp[Jcx] at e
 | mp h1=>simp[Jcx] at e
 | om h1 h2=>simp[Jcx] at e
 | wit h1 h2=>simp[Jcx] at e
 | yl h1 h2=>simp[Jcx] at e
theorem J9.get{g:Gh}{vs:List Value}{as:List AV}(h:J9 g vs as){i:Nat}{a:AV}(e:as[i]? = some a):∃ v,vs[i]? = some v/\Rep g v a:=by
 have hi:i<vs.length:=by rw[h.1];exact(List.getElem?_eq_some_iff.1 e).1
 exact⟨vs[i],List.getElem?_eq_getElem hi,h.2 i _ a (List.getElem?_eq_getElem hi) e⟩
theorem J9.drop{g:Gh}{vs:List Value}{as:List AV}(h:J9 g vs as)(n:Nat):J9 g (vs.drop n) (as.drop n) :=
 ⟨by simp[h.1],fun i c a e1 e2=>h.2 (n+i) c a (by simpa [List.getElem?_drop] using e1) (by simpa [List.getElem?_drop] using e2)⟩
theorem J9.take{g:Gh}{vs:List Value}{as:List AV}(h:J9 g vs as)(n:Nat):J9 g (vs.take n) (as.take n) :=
 ⟨by simp[h.1],fun i c a e1 e2=>by
  rw[List.getElem?_take] at e1 e2;split at e1
  ·rename_i hi;rw[if_pos hi] at e2;exact h.2 i c a e1 e2
  ·cases e1⟩
theorem Jdv{P:Program}{g:Gh}{w:World}{t:TypeId}{ti:TI}(ht:Jt P t=some ti){b base off:Nat}{vs:List Value}{cs:List AV}(hr:J9 g vs cs)(h1:∀ x∈vs,x.oneCell'=true)
  (hc:∀ j x,vs[j]? = some x->w.cell? ⟨b,base+j,none⟩=some x) {a:AV} (e:Jf1 ti cs off=some a):∃ v,(loadVar t ⟨b,base+off,none⟩).run P w = .ok v w/\Rep g v a:=by
 obtain⟨i,d,e1,e2,e3,e4,_,_⟩:=JD ht;unfold Jf1 at e;rw[e3,JnG] at e;split at e
 ·rename_i hrow;split at e
  ·rename_i hle;cases e;have hl:((vs.drop off).take ti.size).length=ti.size:=by simp[hr.1];omega
   refine⟨_,run_loadVar_mid (P:=P) w b (base+off) t ((vs.drop off).take ti.size) d (fun j x hx=>?_) e2 hrow (by rw[e1,hl,e4];rfl),?_⟩
   ·rw[List.getElem?_take] at hx;split at hx
    ·rw[List.getElem?_drop] at hx;rw[Nat.add_assoc];exact hc _ _ hx
    ·cases hx
   ·have:=(hr.drop off).take ti.size;exact .agg (fun c hc'=>h1 c (List.mem_of_mem_drop (List.mem_of_mem_take (by simpa using hc')))) this.1 this.2
  ·cases e
 ·rename_i hrow;obtain⟨v,f1,f2⟩:=hr.get e;refine⟨v,?_,f2⟩;have hcell:=hc off v f1;simp[loadVar,Sem.run_bind,JeD e2,hrow,hcell]
theorem JkA{P:Program}{g:Gh}{h:Hp}{w:World}(r:JZ g h w){t:TypeId}{ti:TI}(ht:Jt P t=some ti){v:Value}{p:AV}(hv:Rep g v p){cs:List AV}{off:Nat}(hr:Ja3 h p=some (cs,off)){a:AV}(e:Jf1 ti cs off=some a) :
  ∃ u,(Instr.loadAt t v).run P w = .ok u w/\Rep g u a:=by
 obtain⟨b,base,vs,rfl,f1,f2,f3⟩:=Jf8 r hv hr;obtain⟨u,g1,g2⟩:=Jdv ht f1 f2 f3 e;exact⟨u,by simp[Instr.loadAt,Instr.sureAddr,g1],g2⟩
def bound:Option AV->Option (Option Int)
 | none=>some none
 | some (.lit (.int _ n))=>some (some n)
 | _=>none
def Jdw(mx:Option Int)(h:Int)(full:Bool)(len:Nat):Bool :=
 match mx with
 | some m=>decide (m=h)
 | none=>full && decide (h=len)
def Jfk(size:Nat)(xs:List (List AV))(full:Bool)(lo hi mx:Option Int):Option AV :=
 let h:=hi.getD xs.length
 let l:=lo.getD 0
 if 0<=l/\l<=h/\h<=(mx.getD xs.length)/\(mx.getD xs.length)<=xs.length/\(mx.isSome->hi.isSome)/\∀ x∈xs,x.length=size then
  some (.vec ((xs.drop l.toNat).take (h.toNat - l.toNat)) (Jdw mx h full xs.length))
 else none
def evO (σ:St):Option Operand->Option (Option AV)
 | none=>some none
 | some x=>(ev σ x).map some
def Jdc:AV->Option Int
 | .lit (.int _ n)=>some n
 | _=>none
def Jp3 (P:Program)(et:TypeId):Bool->Option (Nat × AV)->Option AV
 | true,some p=>some (.tup [p.2,.lit (.bool true)])
 | false,some p=>some p.2
 | true,none=>(JdH P et).map fun z=>.tup [z,.lit (.bool false)]
 | false,none=>JdH P et
def Jns (P:Program)(kt et:TypeId)(ok:Bool)(a:AV)(rs:List (List AV)):Option AV :=
 match Jcf P kt a a,JcQ P kt a rs with
 | some _,some r=>Jp3 P et ok r
 | _,_=>none
def Jp4:Option AV->AV->AV
 | some (.wit L _),.vec xs f=>.wit L (.vec xs f)
 | _,v=>v
def slP (P:Program)(σ:St)(t:TypeId)(x:Operand)(lo hi mx:Option Operand):Option AV :=
 match Jt P t,(ev σ x).map unw,(evO σ lo).bind bound,(evO σ hi).bind bound,(evO σ mx).bind bound with
 | some ti,some (.vec xs full),some l,some h,some m=>match ti.kd with
  | .sl e=>match Jt P e with
   | some te=>Jfk te.size xs full l h m
   | none=>none
  | _=>none
 | some ti,some (.lit (.string s)),some l,some h,some none=>match ti.kd with
  | .str=>if 0<=l.getD 0/\l.getD 0<=h.getD s.size/\h.getD s.size<=s.size then some (.lit (.string (s.extract (l.getD 0).toNat (h.getD s.size).toNat))) else none
  | _=>none
 | some ti,some (.np cs),some (some l),some (some h),some none=>match ti.kd with
  | .arr n e=>match Jt P e with
   | some te=>if te.size=1/\0<=l/\l<h/\h<=n/\n<=cs.length then some (.vec (((cs.drop l.toNat).take (h.toNat - l.toNat)).map fun c=>[c]) false) else none
   | none=>none
  | _=>none
 | _,_,_,_,_=>none
def Jz(P:Program)(σ:St):Op->Option AV
 | .move x=>ev σ x
 | .assign x=>ev σ x
 | .build t parts =>
  match Jt P t,evP σ parts.toList with
  | some ti,some ps=>match ti.zero,ti.kd with
   | some z,.st fs=>match Jds P fs with
    | some pl=>(Jdt (pl[·]?) z ps).map .agg
    | none=>none
   | some z,.arr _ e=>match Jt P e with
    | some te=>(Jdt (fun i=>some (i * te.size,te.size)) z ps).map .agg
    | none=>none
   | _,_=>none
  | _,_=>none
 | .load t x=>match Jt P t,ev σ x with
  | some ti,some p=>match Ja3 σ.hp p with
   | some (cs,off)=>Jf1 ti cs off
   | none=>none
  | _,_=>none
 | .nilCheck x=>match ev σ x with
  | some (.ptr id off)=>some (.ptr id off)
  | some (.pp cs off)=>some (.pp cs off)
  | some (.np cs)=>some (.np cs)
  | some (.ep t n s i off)=>some (.ep t n s i off)
  | some (.fn (.func f) a b)=>some (.fn (.func f) a b)
  | _=>none
 | .binOp op t x y _=>match ev σ x,ev σ y with
  | some (.lit a),some (.lit b)=>(JtT P op t a b).map .lit
  | some (.agg as),some (.agg bs)=>JnF P op t as bs
  | some (.np _),some (.lit (.pointer none))=>(JeC P op t false).map .lit
  | some (.ptr _ _),some (.lit (.pointer none))=>(JeC P op t false).map .lit
  | some (.fn _ _ _),some (.lit .nilFunc)=>(Jky P op t false).map .lit
  | _,_=>none
 | .unOp op _ x=>match op,ev σ x with
  | .not,some (.lit (.bool b))=>some (.lit (.bool !b))
  | .neg,some (.lit (.int k n))=>some (.lit (.int k (k.wrap (0 - n))))
  | _,_=>none
 | .convert s d x=>match Jt P s,Jt P d,ev σ x with
  | some _,some td,some (.lit (.int _ n))=>match td.kd with
   | .int k=>some (.lit (.int k (k.wrap n)))
   | _=>none
  | some ts,some td,some (.lit (.string q))=>match ts.kd,td.kd with
   | .str,.str=>some (.lit (.string q))
   | _,_=>none
  | _,_,_=>none
 | .makeFunc f first cap=>match evL σ first.toList,evL σ cap.toList with
  | some a,some b=>some (.fn f a b)
  | _,_=>none
 | .fieldAddr s x f=>match Jt P s,ev σ x with
  | some ti,some p=>match ti.kd with
   | .st fs=>match fs[f]? with
    | some (off,ft)=>match Jt P ft with
     | some tf=>if tf.size=0 then none else Jcx p off
     | none=>none
    | none=>none
   | _=>none
  | _,_=>none
 | .field s x f=>match Jt P s,ev σ x with
  | some ti,some (.agg cs)=>match ti.kd with
   | .st fs=>match fs[f]? with
    | some (off,ft)=>match Jt P ft with
     | some tf=>Jf1 tf cs off
     | none=>none
    | none=>none
   | _=>none
  | _,_=>none
 | .indexAddr t x i=>match Jt P t,(ev σ x).map unw,(ev σ i).bind Jdc with
  | some ti,some (.vec xs _),some n=>match ti.kd with
   | .sl e=>match Jt P e with
    | some te=>if 0<=n/\n<xs.length/\(xs.getD n.toNat []).length=te.size then some (.pp (xs.getD n.toNat []) 0) else none
    | none=>none
   | _=>none
  | some ti,some (.own tk m),some n=>match ti.kd,lk σ.hp.toks tk with
   | .sl e,some k=>match Jt P e with
    | some te=>if 0<=n/\n<m/\m=k.xs.length/\k.s=te.size then some (.ep tk m k.s n.toNat 0) else none
    | none=>none
   | _,_=>none
  | some ti,some p,some n=>match ti.kd with
   | .arr len e=>match Jt P e with
    | some te=>if 0<=n/\n<len then Jcx p (n.toNat * te.size) else none
    | none=>none
   | _=>none
  | _,_,_=>none
 | .index t x i=>match Jt P t,ev σ x,(ev σ i).bind Jdc with
  | some ti,some (.lit (.string s)),some n=>match ti.kd with
   | .str=>if 0<=n then (s[n.toNat]?).map fun b=>.lit (.int .u8 b.toNat) else none
   | _=>none
  | some ti,some (.agg cs),some n=>match ti.kd with
   | .arr len e=>match Jt P e with
    | some te=>if 0<=n/\n<len then Jf1 te cs (n.toNat * te.size) else none
    | none=>none
   | _=>none
  | _,_,_=>none
 | .slice t x lo hi mx=>(slP P σ t x lo hi mx).map (Jp4 (ev σ x))
 | .lookup t x y ok=>match Jt P t,ev σ x,ev σ y with
  | some ti,some (.om id),some ka=>match ti.kd,lk σ.hp.toks id with
   | .map kt et,some k=>Jns P kt et ok ka k.xs
   | _,_=>none
  | some ti,some (.lit (.map none)),some ka=>match ti.kd with
   | .map kt et=>Jns P kt et ok ka []
   | _=>none
  | _,_,_=>none
 | .extract x i=>match ev σ x with
  | some (.tup vs)=>vs[i]?
  | _=>none
 | .call c=>match c.callee with
  | .builtin .len=>match c.argTypes.toList,evL σ c.args.toList with
   | t :: _,some (a :: _)=>match Jt P t,unw a with
    | some ti,.vec xs _=>match ti.kd with
     | .sl _=>some (.lit (.int .i64 xs.length))
     | _=>none
    | some ti,.own _ n=>match ti.kd with
     | .sl _=>some (.lit (.int .i64 n))
     | _=>none
    | some ti,.lit (.string s)=>match ti.kd with
     | .str=>some (.lit (.int .i64 s.size))
     | _=>none
    | _,_=>none
   | _,_=>none
  | .builtin .min=>match evL σ c.args.toList with
   | some [.lit (.int k a),.lit (.int _ b)]=>some (.lit (.int k (if b<a then b else a)))
   | _=>none
  | .builtin .max=>match evL σ c.args.toList with
   | some [.lit (.int k a),.lit (.int _ b)]=>some (.lit (.int k (if b > a then b else a)))
   | _=>none
  | _=>none
 | _=>none
end Go.Ab
end
section
namespace Go.Ab
theorem J9.set{g:Gh}{vs us:List Value}{as bs:List AV}(h:J9 g vs as)(k:J9 g us bs)(off:Nat):J9 g (vs.take off++us++vs.drop (off+us.length)) (JdF as off bs):=by
 unfold JdF;rw[k.1];exact((h.take off).append k).append (h.drop _)
theorem Jh4:∀ (l:List Value) (cs:Array Value) (off j:Nat),off+j+l.length<=cs.size ->
  ((l.zipIdx j).foldl (fun cs (p:Value × Nat)=>cs.setIfInBounds (off+p.2) p.1) cs).toList=cs.toList.take (off+j)++l++cs.toList.drop (off+j+l.length)
 | [],cs,off,j,_=>by simp
 | v :: l,cs,off,j,h=>by
  have hlt:off+j<cs.size:=by simp at h;omega
  rw[List.zipIdx_cons,List.foldl_cons,Jh4 l _ off (j+1) (by simp at h ⊢;omega)];apply List.ext_getElem?;intro i;simp only[Array.toList_setIfInBounds,List.length_cons];simp only[List.getElem?_append,List.length_take,List.length_set,Array.length_toList,List.getElem?_take,List.getElem?_drop,List.getElem?_set,List.length_append,List.length_cons];have e1:min (off+(j+1)) cs.size=off+j+1:=by omega
  have e2:min (off+j) cs.size=off+j:=by omega
  rw[e1,e2];by_cases c1:i<off+j
  ·have:i<off+j+1:=by omega
   have c2:¬ off+j=i:=by omega
   have c3:i<off+j+1+l.length:=by omega
   have c4:i<off+j+(l.length+1):=by omega
   have c5:i<off+(j+1):=by omega
   simp[c1,this,c2,c3,c4,c5]
  ·by_cases c2:i=off+j
   ·subst c2;simp[hlt,Nat.add_assoc]
   ·have c3:¬ i<off+j+1:=by omega
    by_cases c4:i<off+j+1+l.length
    ·have c5:i<off+j+(l.length+1):=by omega
     have c6:i - (off+j)=(i - (off+j+1))+1:=by omega
     simp only[c4,c5,c3,c1,if_true,if_false];rw[c6,List.getElem?_cons_succ]
    ·have c5:¬ i<off+j+(l.length+1):=by omega
     have c6:¬ off+j=off+(j+1)+l.length+(i - (off+j+1+l.length)):=by omega
     simp only[c4,c5,c6,if_false];congr 1
     omega
theorem Je1{g:Gh}{place:Nat->Option (Nat × Nat)}:∀ {ps:List (Nat × AV)} {qs:List (Nat × Value)} {cells:Array Value} {as out:List AV},J9 g cells.toList as->(∀ v∈cells.toList,v.oneCell'=true) ->
  ps.map (·.1)=qs.map (·.1)->J9 g (qs.map (·.2)) (ps.map (·.2))->Jdt place as ps=some out ->
  ∃ c,Instr.fill place cells qs=some c/\J9 g c.toList out/\∀ v∈c.toList,v.oneCell'=true
 | [],[],cells,as,out,h,h1,_,_,e=>by
  simp only[Jdt,Option.some.injEq] at e;subst e;exact⟨cells,rfl,h,h1⟩
 | [],q :: qs,_,_,_,_,_,e,_,_=>by simp at e
 | p :: ps,[],_,_,_,_,_,e,_,_=>by simp at e
 | (i,a) :: ps,(i',v) :: qs,cells,as,out,h,h1,hi,hv,e=>by
  simp only[List.map_cons,List.cons.injEq] at hi hv;obtain⟨rfl,hi⟩:=hi;unfold Jdt at e;cases hp:place i with
  | none=>simp[hp] at e
  | some os =>
   obtain⟨off,size⟩:=os;cases hc:a.cells with
   | none=>simp[hp,hc] at e
   | some cs =>
    simp only[hp,hc] at e;split at e
    ·rename_i hs;obtain⟨g1,g2⟩:=hv.head.cells hc;have hlen:v.cells.size=cs.length:=by simpa using g1.1
     have hcl:cells.size=as.length:=by simpa using h.1
     have hf:=Jh4 v.cells.toList cells off 0 (by simp;omega);have harr:v.cells.zipIdx.foldl (fun cs (p:Value × Nat)=>cs.setIfInBounds (off+p.2) p.1) cells=(cells.toList.take off++v.cells.toList++cells.toList.drop (off+v.cells.toList.length)).toArray:=by
      apply Array.ext';rw[<- Array.foldl_toList,Array.toList_zipIdx,hf];simp
     obtain⟨c,k1,k2,k3⟩:=Je1 (qs:=qs) (cells:=(cells.toList.take off++v.cells.toList++cells.toList.drop (off+v.cells.toList.length)).toArray) (as:=JdF as off cs) (out:=out)
      (by simpa using h.set g1 off) (fun x hx=>by
       simp only[List.mem_append] at hx;rcases hx with (hx | hx) | hx
       ·exact h1 x (List.mem_of_mem_take hx)
       ·exact g2 x hx
       ·exact h1 x (List.mem_of_mem_drop hx)) hi hv.tail e
     refine⟨c,?_,k2,k3⟩;unfold Instr.fill;simp only[hp];rw[if_neg (by simp;omega),harr];exact k1
    ·cases e
theorem Jae.evP{g0 h0 w0 σ g w a}(r:Jae g0 h0 w0 σ g w a):∀ {xs:List (Nat × Operand)} {ps:List (Nat × AV)},evP σ xs=some ps->ps.map (·.1)=(xs.map fun(p:Nat × Operand)=>(p.1,a.eval p.2)).map (·.1)/\J9 g ((xs.map fun(p:Nat × Operand)=>(p.1,a.eval p.2)).map (·.2)) (ps.map (·.2))
 | [],ps,h=>by cases h;exact⟨rfl,.nil⟩
 | (i,x) :: l,ps,h=>by
  unfold Ab.evP at h;split at h
  ·rename_i v vs h1 h2;cases h;obtain⟨k1,k2⟩:=r.evP h2;exact⟨by simpa using k1,.cons (r.ev h1) k2⟩
  ·cases h
theorem Jfl{P:Program}{w:World}:∀ {fs:List Field} {pl:List (Nat × Nat)},Jds P (fs.map fun f=>(f.offset,f.type))=some pl ->
  (fs.mapM (m:=Sem) fun f=>do pure (f.offset,<- sizeOf f.type)).run P w = .ok pl w
 | [],pl,h=>by cases h;rfl
 | f :: fs,pl,h=>by
  unfold Jds at h;simp only[List.map_cons] at h;split at h
  ·rename_i ti ps h1 h2;cases h;obtain⟨i,d,e1,_,_,e4,_⟩:=JD h1;have ih:=Jfl (w:=w) h2;have first:(do pure (f.offset,<- sizeOf f.type):Sem (Nat × Nat)).run P w = .ok (f.offset,ti.size) w:=by simp[sizeOf,typeInfo,e1,e4]
   rw[List.mapM_cons,Sem.run_bind,first,Result.andThen_ok,Sem.run_bind,ih,Result.andThen_ok,Sem.run_pure]
  ·cases h
theorem Jga{P:Program}{w:World}{α β:Type}(f:α->Sem β)(xs:Array α){ys:List β}(h:(xs.toList.mapM f).run P w = .ok ys w):(xs.mapM f).run P w = .ok ys.toArray w:=by
 have e:xs.mapM f=List.toArray <$> xs.toList.mapM f:=by rw[<- List.mapM_toArray]
 rw[e,Sem.run_map,h];rfl
def Jcy(P:Program)(o:Oper)(a:Act)(w:World)(g:Gh)(v:AV):Prop:=∃ u,(execOp a.eval o).run P w = .ok (.value u) w/\Rep g u v
section
variable {P:Program} {g0:Gh} {h0:Hp} {w0:Wr} {σ:St} {g:Gh} {w:World} {a:Act} {o:Oper} {v:AV}
theorem JkB{t:TypeId}{parts:Array (Nat × Operand)}(ho:o.op = .build t parts)(r:Jae g0 h0 w0 σ g w a)(h:Jz P σ (.build t parts)=some v):Jcy P o a w g v:=by
 simp only[Jz] at h;cases ht:Jt P t with
 | none=>simp[ht] at h
 | some ti =>
  cases hp:evP σ parts.toList with
  | none=>simp[ht,hp] at h
  | some ps =>
   simp only[ht,hp] at h;obtain⟨i,d,e1,e2,e3,e4,e5,e6⟩:=JD ht;obtain⟨q1,q2⟩:=r.evP hp;have hparts:(parts.map fun(p:Nat × Operand)=>(p.1,a.eval p.2)).toList=parts.toList.map fun(p:Nat × Operand)=>(p.1,a.eval p.2):=by simp
   cases hz:ti.zero with
   | none=>simp[hz] at h
   | some z =>
    obtain⟨zv,z1,z2⟩:=e6 z hz;obtain⟨z3,z4⟩:=J9.cellsAV (g:=g) z2;simp only[hz,e3] at h;cases d with
    | struct fields =>
     simp only[JcP] at h;cases hpl:Jds P (fields.toList.map fun f=>(f.offset,f.type)) with
     | none=>simp[hpl] at h
     | some pl =>
      simp only[hpl] at h;cases hf:Jdt (fun x=>pl[x]?) z ps with
      | none=>simp[hf] at h
      | some out =>
       simp only[hf,Option.map_some,Option.some.injEq] at h;subst h;obtain⟨c,k1,k2,k3⟩:=Je1 z3 z4 q1 q2 hf;have hm:=Jga (P:=P) (w:=w) (fun f:Field=>do pure (f.offset,<- sizeOf f.type)) fields (Jfl hpl);refine⟨.agg c,?_,.agg k3 k2.1 k2.2⟩;have k1':Instr.fill (fun x=>pl.toArray[x]?) zv.cells (parts.toList.map fun(p:Nat × Operand)=>(p.1,a.eval p.2))=some c:=by simpa using k1
       simp only[execOp,ho,Sem.run_bind,Instr.build,zeroValue,typeInfo,Sem.run_pure,run_program,Result.andThen_ok,e1,z1,run_underlying e2,hm,hparts,k1']
    | array n e =>
     simp only[JcP] at h;cases hte:Jt P e with
     | none=>simp[hte] at h
     | some te =>
      simp only[hte] at h;obtain⟨ie,de,f1,_,_,f4,_⟩:=JD hte;cases hf:Jdt (fun i=>some (i * te.size,te.size)) z ps with
      | none=>simp[hf] at h
      | some out =>
       simp only[hf,Option.map_some,Option.some.injEq] at h;subst h;obtain⟨c,k1,k2,k3⟩:=Je1 z3 z4 q1 q2 hf;refine⟨.agg c,?_,.agg k3 k2.1 k2.2⟩;rw[f4] at k1;simp only[execOp,ho,Sem.run_bind,Instr.build,zeroValue,typeInfo,Sem.run_pure,run_program,Result.andThen_ok,e1,z1,run_underlying e2,sizeOf,f1,hparts,k1]
    | _=>simp[JcP] at h
theorem Jmn{t:TypeId}{x:Operand}(ho:o.op = .load t x)(r:Jae g0 h0 w0 σ g w a)(h:Jz P σ (.load t x)=some v):Jcy P o a w g v:=by
 simp only[Jz] at h;split at h
 ·rename_i ti p ht hx;split at h
  ·rename_i cs off hr;obtain⟨u,k1,k2⟩:=JkA r.st.hp ht (r.ev hx) hr h;exact⟨u,by simp[execOp,ho,k1],k2⟩
  ·cases h
 ·cases h
theorem Jg9{x:Operand}(ho:o.op = .nilCheck x)(r:Jae g0 h0 w0 σ g w a)(h:Jz P σ (.nilCheck x)=some v):Jcy P o a w g v:=by
  refine⟨a.eval x,?_,?_⟩
  · simp only[Jz] at h
    split at h <;> first
      | (cases h;done)
      | (rename_i hx
         have hv:=r.ev hx;generalize hu:a.eval x=u at hv;cases hv <;> simp[execOp,ho,hu])
  · simp only[Jz] at h
    split at h <;> first
      | (cases h;done)
      | (rename_i hx;cases h;exact r.ev hx)
theorem Rep.of_lit{u v:Value}(h:Rep g u (.lit v)):u=v/\JfY v=true:=by cases h with | lit h=>exact⟨rfl,h⟩
theorem JkC{op:BinOp}{t t':TypeId}{x y:Operand}(ho:o.op = .binOp op t x y t')(r:Jae g0 h0 w0 σ g w a)(h:Jz P σ (.binOp op t x y t')=some v):Jcy P o a w g v:=by
 simp only[Jz] at h;split at h
 ·rename_i p q hx hy;cases hb:JtT P op t p q with
  | none=>simp[hb] at h
  | some u =>
   simp only[hb,Option.map_some,Option.some.injEq] at h;subst h;obtain⟨k1,k2,k3⟩:=Jp2 P w hb;have ex:=(Rep.of_lit (r.ev hx)).1;have ey:=(Rep.of_lit (r.ev hy)).1;exact⟨u,by simp[execOp,ho,ex,ey,k1,k3],.lit k2⟩
 ·rename_i as bs hx hy;have hu:=r.ev hx;have hw:=r.ev hy;obtain⟨cs,ex,e1,e2⟩:=J9.of_agg hu;obtain⟨ds,ey,f1,f2⟩:=J9.of_agg hw;obtain⟨⟨b,rfl,k1⟩,k2⟩:=Jkz (w:=w) e1 f1 h;exact⟨.bool b,by simp[execOp,ho,ex,ey,k1,k2],.lit rfl⟩
 ·rename_i cs hx hy;have hu:=r.ev hx;have ey:=(Rep.of_lit (r.ev hy)).1;generalize hux:a.eval x=ux at hu;cases hu with
  | @np bb _ f h0 h1 h2 =>
   cases hb:JeC P op t false with
   | none=>simp[hb] at h
   | some u =>
    simp only[hb,Option.map_some,Option.some.injEq] at h;subst h;obtain⟨k1,k2,k3⟩:=JeZ P w (p:=some ⟨bb,0,none⟩) hb;exact⟨u,by simp[execOp,ho,hux,ey,k1,k3],.lit k2⟩
 ·rename_i id off hx hy;have hu:=r.ev hx;have ey:=(Rep.of_lit (r.ev hy)).1;generalize hux:a.eval x=ux at hu;cases hu with
  | @ptr ad _ _ h1 h2 =>
   cases hb:JeC P op t false with
   | none=>simp[hb] at h
   | some u =>
    simp only[hb,Option.map_some,Option.some.injEq] at h;subst h;obtain⟨k1,k2,k3⟩:=JeZ P w (p:=some ad) hb;exact⟨u,by simp[execOp,ho,hux,ey,k1,k3],.lit k2⟩
 ·rename_i f p q hx hy;have hu:=r.ev hx;have ey:=(Rep.of_lit (r.ev hy)).1;generalize hux:a.eval x=ux at hu;cases hu with
  | fn h1 h2 h3 h4 =>
   cases hb:Jky P op t false with
   | none=>simp[hb] at h
   | some u =>
    simp only[hb,Option.map_some,Option.some.injEq] at h;subst h;obtain⟨k1,k2,k3⟩:=Jja P w (x:=a.eval x) (.inr ⟨⟨_,_,_,hux⟩,rfl⟩) hb;exact⟨u,by simp[execOp,ho,ey,k1,k3],.lit k2⟩
 ·cases h
theorem Jmo{op:UnOp}{t:TypeId}{x:Operand}(ho:o.op = .unOp op t x)(r:Jae g0 h0 w0 σ g w a)(h:Jz P σ (.unOp op t x)=some v):Jcy P o a w g v:=by
 simp only[Jz] at h;split at h
 ·rename_i b hx;cases h;exact⟨_,by simp[execOp,ho,(Rep.of_lit (r.ev hx)).1,Op.unary],.lit rfl⟩
 ·rename_i k n hx;cases h;exact⟨_,by simp[execOp,ho,(Rep.of_lit (r.ev hx)).1,Op.unary,Op.intArith],.lit rfl⟩
 ·cases h
theorem Jly{d:TypeDesc}{k:IntKind}(h:JcP d = .int k):d = .int k:=by cases d <;> simp[JcP] at h;rw[h]
theorem JeG{d:TypeDesc}(h:JcP d = .str):d = .string:=by cases d <;> simp[JcP] at h;rfl
theorem JbF{d:TypeDesc}{e:TypeId}(h:JcP d = .sl e):d = .slice e:=by cases d <;> simp[JcP] at h;rw[h]
theorem Jh5{d:TypeDesc}{n:Nat}{e:TypeId}(h:JcP d = .arr n e):d = .array n e:=by cases d <;> simp[JcP] at h;rw[h.1,h.2]
theorem JnH{d:TypeDesc}{fs:List (Nat × TypeId)}(h:JcP d = .st fs):∃ F,d = .struct F/\fs=F.toList.map fun f=>(f.offset,f.type):=by cases d <;> simp[JcP] at h;exact⟨_,rfl,h.symm⟩
theorem Jh6{s d:TypeId}{x:Operand}(ho:o.op = .convert s d x)(r:Jae g0 h0 w0 σ g w a)(h:Jz P σ (.convert s d x)=some v):Jcy P o a w g v:=by
 simp only[Jz] at h;split at h
 ·rename_i td k n hs hd hx;obtain⟨i1,d1,a1,a2,a3,_⟩:=JD hs;obtain⟨i2,d2,b1,b2,b3,_⟩:=JD hd;split at h
  ·rename_i k' hk;cases h;rw[b3] at hk;have:=Jly hk;subst this;exact⟨_,by simp[execOp,ho,(Rep.of_lit (r.ev hx)).1,convert,run_underlying a2,run_underlying b2,Conv.intToInt],.lit rfl⟩
  ·cases h
 ·rename_i ts td q hs hd hx;obtain⟨i1,d1,a1,a2,a3,_⟩:=JD hs;obtain⟨i2,d2,b1,b2,b3,_⟩:=JD hd;split at h
  ·rename_i h1 h2;cases h;rw[a3] at h1;rw[b3] at h2;have:=JeG h1;subst this;have:=JeG h2;subst this;exact⟨_,by simp[execOp,ho,(Rep.of_lit (r.ev hx)).1,convert,run_underlying a2,run_underlying b2],.lit rfl⟩
  ·cases h
 ·cases h
theorem Jha{f:Fn}{first cap:Array Operand}(ho:o.op = .makeFunc f first cap)(r:Jae g0 h0 w0 σ g w a)(h:Jz P σ (.makeFunc f first cap)=some v):Jcy P o a w g v:=by
 simp only[Jz] at h;split at h
 ·rename_i p q hx hy;cases h;have e1:=r.evL hx;have e2:=r.evL hy;exact⟨.func f (first.map a.eval) (cap.map a.eval),by simp[execOp,ho,Instr.makeFunc],.fn (by simpa using e1.1) (fun i c b k1 k2=>e1.2 i c b (by simpa using k1) k2) (by simpa using e2.1) (fun i c b k1 k2=>e2.2 i c b (by simpa using k1) k2)⟩
 ·cases h
theorem JcC{F:Array Field}{f off:Nat}{ft:TypeId}(h:(F.toList.map fun f=>(f.offset,f.type))[f]? = some (off,ft)):∃ fd,F[f]? = some fd/\fd.offset=off/\fd.type=ft:=by
 simp only[List.getElem?_map,Array.getElem?_toList,Option.map_eq_some_iff,Prod.mk.injEq] at h;obtain⟨fd,h1,h2,h3⟩:=h;exact⟨fd,h1,h2,h3⟩
theorem Jgb{s:TypeId}{x:Operand}{f:Nat}(ho:o.op = .fieldAddr s x f)(r:Jae g0 h0 w0 σ g w a)(h:Jz P σ (.fieldAddr s x f)=some v):Jcy P o a w g v:=by
 simp only[Jz] at h;split at h
 ·rename_i ti p ht hx;obtain⟨i1,d1,a1,a2,a3,_⟩:=JD ht;split at h
  ·rename_i fs hk;rw[a3] at hk;obtain⟨F,rfl,rfl⟩:=JnH hk;split at h
   ·rename_i off ft hf;obtain⟨fd,c1,c2,c3⟩:=JcC hf;split at h
    ·rename_i tf htf;obtain⟨i2,d2,b1,b2,b3,b4,_⟩:=JD htf;split at h
     ·cases h
     ·rename_i hz;obtain⟨ad,k1,k2⟩:=Jf9 (r.ev hx) h;rw[<- c3] at b1;rw[b4] at hz;rw[<- c2] at k2;exact⟨_,by simp[execOp,ho,Instr.fieldAt,run_underlying a2,c1,k1,Instr.sureAddr,fieldPlace,sizeOf,typeInfo,b1,hz],k2⟩
    ·cases h
   ·cases h
  ·cases h
 ·cases h
theorem Jlz{P:Program}{w:World}{t:TypeId}{ti:TI}(ht:Jt P t=some ti){cs:Array Value}{as:List AV}(hc:J9 g cs.toList as)(h1:∀ c∈cs.toList,c.oneCell'=true){off:Nat}{v:AV}(h:Jf1 ti as off=some v) :
  ∃ u,(part t cs off).run P w = .ok u w/\Rep g u v:=by
 obtain⟨i,d,e1,e2,e3,e4,_⟩:=JD ht;unfold Jf1 at h;rw[e3,JnG] at h;split at h
 ·rename_i hrow;split at h
  ·cases h;refine⟨.agg (cs.extract off (off+i.size)),by simp[part,JeD e2,hrow,sizeOf,typeInfo,e1],?_⟩;have:=(hc.drop off).take ti.size;have he:(cs.extract off (off+i.size)).toList=(cs.toList.drop off).take ti.size:=by
    simp[e4,List.take_drop]
   exact .agg (fun c hc'=>by rw[he] at hc';exact h1 c (List.mem_of_mem_drop (List.mem_of_mem_take hc'))) (by rw[he];exact this.1) (by rw[he];exact this.2)
  ·cases h
 ·rename_i hrow;obtain⟨u,f1,f2⟩:=hc.get h;simp only[Array.getElem?_toList] at f1;exact⟨u,by simp[part,JeD e2,hrow,f1],f2⟩
theorem JkD{s:TypeId}{x:Operand}{f:Nat}(ho:o.op = .field s x f)(r:Jae g0 h0 w0 σ g w a)(h:Jz P σ (.field s x f)=some v):Jcy P o a w g v:=by
 simp only[Jz] at h;split at h
 ·rename_i ti cs ht hx;obtain⟨i1,d1,a1,a2,a3,_⟩:=JD ht;obtain⟨vs,q1,q2,q3⟩:=J9.of_agg (r.ev hx);split at h
  ·rename_i fs hk;rw[a3] at hk;obtain⟨F,rfl,rfl⟩:=JnH hk;split at h
   ·rename_i off ft hf;obtain⟨fd,c1,c2,c3⟩:=JcC hf;split at h
    ·rename_i tf htf;obtain⟨u,k1,k2⟩:=Jlz (w:=w) htf q2 q3 h;exact⟨u,by simp[execOp,ho,Instr.field,run_underlying a2,c1,q1,asAgg,c2,c3,k1],k2⟩
    ·cases h
   ·cases h
  ·cases h
 ·cases h
theorem Jh7{x:Operand}{i:Nat}(ho:o.op = .extract x i)(r:Jae g0 h0 w0 σ g w a)(h:Jz P σ (.extract x i)=some v):Jcy P o a w g v:=by
 simp only[Jz] at h;split at h
 ·rename_i vs hx;have hv:=r.ev hx;generalize hu:a.eval x=u at hv;cases hv with
  | tup h1 h2 =>
   rename_i cs;obtain⟨c,f1,f2⟩:=J9.get ⟨h1,h2⟩ h;simp only[Array.getElem?_toList] at f1;exact⟨c,by simp[execOp,ho,hu,Instr.extract,f1],f2⟩
 ·cases h
end
end Go.Ab
end
section
namespace Go.Ab
section
variable {P:Program} {g0:Gh} {h0:Hp} {w0:Wr} {σ:St} {g:Gh} {w:World} {a:Act} {o:Oper} {v:AV}
theorem Je2(r:Jae g0 h0 w0 σ g w a){x:Operand}{v:AV}(h:(ev σ x).map unw=some v):Rep g (a.eval x) v:=by
 cases hx:ev σ x with
 | none=>simp[hx] at h
 | some b =>
  simp only[hx,Option.map_some,Option.some.injEq] at h;subst h;exact(r.ev hx).unw
theorem JkE{x:Operand}{n:Int}(r:Jae g0 h0 w0 σ g w a)(h:(ev σ x).bind Jdc=some n):∃ k,a.eval x = .int k n:=by
 cases hx:ev σ x with
 | none=>simp[hx] at h
 | some b =>
  simp only[hx,Option.bind_some] at h;unfold Jdc at h;split at h
  ·rename_i k m;cases h;exact⟨k,(Rep.of_lit (r.ev hx)).1⟩
  ·cases h
theorem J1{t:TypeId}{ti:TI}(h:Jt P t=some ti):∃ d,(underlying t).run P w = .ok d w/\ti.kd=JcP d:=by
 obtain⟨i,d,_,e2,e3,_⟩:=JD h;exact⟨d,run_underlying e2 w,e3⟩
theorem J3{t:TypeId}{ti:TI}(h:Jt P t=some ti):(sizeOf t).run P w = .ok ti.size w:=by
 obtain⟨i,d,e1,_,_,e4,_⟩:=JD h;simp[sizeOf,typeInfo,e1,e4]
theorem Jgc{t:TypeId}{x i:Operand}(ho:o.op = .indexAddr t x i)(r:Jae g0 h0 w0 σ g w a)(h:Jz P σ (.indexAddr t x i)=some v):Jcy P o a w g v:=by
 simp only[Jz] at h;split at h
 ·rename_i ti xs full n ht hx hi;obtain⟨d,u1,u2⟩:=J1 (w:=w) ht;obtain⟨k,hk⟩:=JkE r hi;split at h
  ·rename_i e hkd;rw[u2] at hkd;have:=JbF hkd;subst this;split at h
   ·rename_i te hte;split at h
    ·rename_i hb;cases h;obtain⟨b1,b2,b3⟩:=hb;have hv:=Je2 r hx;generalize hu:a.eval x=u at hv;cases hv with
     | vecN=>simp at b2;omega
     | vecE _=>simp at b2;omega
     | @vec b off cap s _ _ f h1 h2 h3 h4 h5 =>
      have hn:n.toNat<xs.length:=by omega
      have hget:xs[n.toNat]? = some (xs.getD n.toNat []):=by rw[List.getD_eq_getElem?_getD,List.getElem?_eq_getElem hn];rfl
      have hs:te.size=s:=by rw[<- b3];exact h1 _ (List.mem_of_getElem? hget)
      refine⟨.pointer (some ⟨b,off+n.toNat * te.size+0,none⟩),?_,.pp (f n.toNat) (fun j c hc=>?_) (fun j c hc=>?_)⟩
      ·simp[execOp,ho,Instr.indexAt,hk,hu,asIntOf,u1,J3 hte,b1,b2,Addr.add_eq]
      ·rw[hs];exact h4 _ _ _ _ hget hc
      ·exact h5 _ _ _ _ hget hc
    ·cases h
   ·cases h
  ·cases h
 ·rename_i ti tk m n ht hx hi;obtain⟨d,u1,u2⟩:=J1 (w:=w) ht;obtain⟨k,hk⟩:=JkE r hi;split at h
  ·rename_i e kk hkd hlk;rw[u2] at hkd;have:=JbF hkd;subst this;split at h
   ·rename_i te hte;split at h
    ·rename_i hb;cases h;obtain⟨b1,b2,b3,b4⟩:=hb;have hv:=Je2 r hx;obtain⟨bb,c,vs,ty,f1,_⟩:=r.st.hp.tokS hlk (r.st.hp.tokO hlk hv);generalize hu:a.eval x=u at hv;cases hv with
     | own h1 h2 =>
      rename_i ad cap;have:=(h2 bb c _ f1).2.2 b3;obtain⟨rfl,rfl⟩:=this;refine⟨.pointer (some ⟨bb,n.toNat * te.size,none⟩),?_,.ep h1 (fun b' c' m' q=>⟨(h2 b' c' m' q).1,(h2 b' c' m' q).2.1,fun q'=>?_⟩)⟩
      ·simp[execOp,ho,Instr.indexAt,hk,hu,asIntOf,u1,J3 hte,b1,b2,Addr.add_eq]
      ·have:=(h2 b' c' m' q).2.2 q';simp only[Option.some.injEq,Addr.mk.injEq] at this;rw[b4,Nat.add_zero,this.1.1]
    ·cases h
   ·cases h
  ·cases h
 ·rename_i ti p n _ _ ht hx hi;obtain⟨d,u1,u2⟩:=J1 (w:=w) ht;obtain⟨k,hk⟩:=JkE r hi;split at h
  ·rename_i len e hkd;rw[u2] at hkd;have:=Jh5 hkd;subst this;split at h
   ·rename_i te hte;split at h
    ·rename_i hb;obtain⟨ad,q1,q2⟩:=Jf9 (Je2 r hx) h;exact⟨_,by simp[execOp,ho,Instr.indexAt,hk,q1,asIntOf,u1,J3 hte,hb.1,hb.2,Instr.sureAddr],q2⟩
    ·cases h
   ·cases h
  ·cases h
 ·cases h
theorem JkF{t:TypeId}{x i:Operand}(ho:o.op = .index t x i)(r:Jae g0 h0 w0 σ g w a)(h:Jz P σ (.index t x i)=some v):Jcy P o a w g v:=by
 simp only[Jz] at h;split at h
 ·rename_i ti s n ht hx hi;obtain⟨d,u1,u2⟩:=J1 (w:=w) ht;obtain⟨k,hk⟩:=JkE r hi;split at h
  ·rename_i hkd;rw[u2] at hkd;have:=JeG hkd;subst this;split at h
   ·rename_i hn;cases hb:s[n.toNat]? with
    | none=>simp[hb] at h
    | some b =>
     simp only[hb,Option.map_some,Option.some.injEq] at h;subst h;exact⟨_,by simp[execOp,ho,Instr.index,hk,(Rep.of_lit (r.ev hx)).1,asIntOf,u1,hn,hb],.lit rfl⟩
   ·cases h
  ·cases h
 ·rename_i ti cs n ht hx hi;obtain⟨d,u1,u2⟩:=J1 (w:=w) ht;obtain⟨k,hk⟩:=JkE r hi;obtain⟨vs,q1,q2,q3⟩:=J9.of_agg (r.ev hx);split at h
  ·rename_i len e hkd;rw[u2] at hkd;have:=Jh5 hkd;subst this;split at h
   ·rename_i te hte;split at h
    ·rename_i hb;obtain⟨u,k1,k2⟩:=Jlz (w:=w) hte q2 q3 h;exact⟨u,by simp[execOp,ho,Instr.index,hk,q1,asIntOf,u1,J3 hte,hb.1,hb.2,k1],k2⟩
    ·cases h
   ·cases h
  ·cases h
 ·cases h
theorem Jbr{x:Option Operand}{l:Option Int}(r:Jae g0 h0 w0 σ g w a)(h:(evO σ x).bind bound=some l):(x=none/\l=none)\/∃ y n k,x=some y/\l=some n/\a.eval y = .int k n:=by
 cases x with
 | none=>simp[evO,bound] at h;exact .inl ⟨rfl,h.symm⟩
 | some y =>
  simp only[evO] at h;cases hy:ev σ y with
  | none=>simp[hy] at h
  | some b =>
   simp only[hy,Option.map_some,Option.bind_some] at h;unfold bound at h;split at h
   ·rename_i q;cases q
   ·rename_i k n q;cases q;cases h;exact .inr ⟨y,n,k,rfl,rfl,(Rep.of_lit (r.ev hy)).1⟩
   ·cases h
theorem JdI{k:IntKind}{n:Int}{y:Nat}{c:BoundsCode}(h0:0<=n)(h1:n<=y):(Instr.sliceBound (.int k n) y c).run P w = .ok n.toNat w:=by
 simp[Instr.sliceBound,asIntOf,h0,h1]
theorem Jsq{xs:List (List AV)}{b off s:Nat}(f:Nat->Nat->Value)(h1:∀ x∈xs,x.length=s)
  (h4:∀ (i:Nat) (x:List AV) (j:Nat) (a:AV),xs[i]? = some x->x[j]? = some a->g.mem b (off+i * s+j)=some (f i j))
  (h5:∀ (i:Nat) (x:List AV) (j:Nat) (a:AV),xs[i]? = some x->x[j]? = some a->Rep g (f i j) a) (l n cap':Nat) (hn:l+n<=xs.length) {full:Bool} (hf:full=true->cap'=n) (hc:n<=cap') :
  Rep g (.slice (some ⟨b,off+l * s,none⟩) n cap') (.vec ((xs.drop l).take n) full):=by
 have hlen:((xs.drop l).take n).length=n:=by simp;omega
 have hget:∀ i x,((xs.drop l).take n)[i]? = some x->xs[l+i]? = some x:=fun i x e=>by
  rw[List.getElem?_take] at e;split at e
  ·rwa [List.getElem?_drop] at e
  ·cases e
 have:=Rep.vec (g:=g) (b:=b) (off:=off+l * s) (cap:=cap') (s:=s) (xs:=(xs.drop l).take n) (full:=full) (fun i j=>f (l+i) j)
  (fun x hx=>h1 x (List.mem_of_mem_drop (List.mem_of_mem_take hx))) (fun q=>by rw[hf q,hlen]) (by rw[hlen];exact hc)
  (fun i x j a e1 e2=>by
   have:=h4 _ _ _ _ (hget i x e1) e2;rw[<- this];congr 1;rw[Nat.add_mul];omega) (fun i x j a e1 e2=>h5 _ _ _ _ (hget i x e1) e2)
 rwa [hlen] at this
theorem Jjf{t:TypeId}{x:Operand}{lo hi mx:Option Operand}(ho:o.op = .slice t x lo hi mx)(r:Jae g0 h0 w0 σ g w a)(h:slP P σ t x lo hi mx=some v):Jcy P o a w g v:=by
  simp only[slP] at h;split at h
  · rename_i ti xs full l hh m ht hx hl hhi hm
    obtain⟨d,u1,u2⟩:=J1 (w:=w) ht;split at h
    · rename_i e hkd
      rw[u2] at hkd;have:=JbF hkd;subst this;split at h
      · rename_i te hte
        simp only[Jfk] at h;split at h
        · rename_i hb
          cases h;obtain⟨b0,b1,b2,b3,b4,b5⟩:=hb;have hv:=Je2 r hx;generalize hu:a.eval x=u at hv;have hrun:∀ cap,xs.length<=cap->(Instr.sliceBounds true xs.length cap (lo.map a.eval) (hi.map a.eval) (mx.map a.eval)).run P w = .ok ((l.getD 0).toNat,(hh.getD xs.length).toNat,(m.map Int.toNat).getD cap) w:=by
            intro cap hcap;rcases Jbr r hl with ⟨rfl,rfl⟩ | ⟨y1,n1,k1,rfl,rfl,e1⟩ <;> rcases Jbr r hhi with ⟨rfl,rfl⟩ | ⟨y2,n2,k2,rfl,rfl,e2⟩ <;> rcases Jbr r hm with ⟨rfl,rfl⟩ | ⟨y3,n3,k3,rfl,rfl,e3⟩ <;>
              simp only[Option.getD_none,Option.getD_some,Option.isSome_none,Option.isSome_some,Bool.false_eq_true,implies_true,forall_const] at b0 b1 b2 b3 b4 <;>
              first
                | (simp only[Instr.sliceBounds,Option.map_none,Option.map_some,Sem.run_bind,Sem.run_pure,Result.andThen_ok, *]
                   repeat (rw[JdI (by omega) (by omega)];simp only[Result.andThen_ok])
                   simp;done)
                | (simp only[Instr.sliceBounds,Option.map_none,Option.map_some,Sem.run_bind,Sem.run_pure,Result.andThen_ok, *]
                   simp;done)
          cases hv with
          | vecN =>
            have hr:=hrun 0 (by simp);simp only[List.length_nil] at b0 b1 b2 b3 hr;have z1:(l.getD 0).toNat=0:=by simp at b1 b2 b3;omega
            have z2:(hh.getD (0:Nat)).toNat=0:=by simp at b1 b2 b3 ⊢;omega
            have z3:(m.map Int.toNat).getD 0=0:=by
              cases m with
              | none=>rfl
              | some m=>simp at b2 b3 ⊢;omega
            refine⟨.slice none 0 0,?_,?_⟩
            · simp only[execOp,ho,Sem.run_bind,Instr.sliceAt,u1,hu,Result.andThen_ok,Instr.slice,hr,J3 hte,z1,z3]
              simp at z2 ⊢;exact z2
            · simp only[List.drop_nil,List.take_nil]
              exact .vecN
          | @vecE ad cap _ hf =>
            have hr:=hrun cap (Nat.zero_le _);simp only[List.length_nil] at b0 b1 b2 b3 hr;have z1:(l.getD 0).toNat=0:=by simp at b1 b2 b3;omega
            have z2:(hh.getD (0:Nat)).toNat=0:=by simp at b1 b2 b3 ⊢;omega
            refine⟨_,by simp only[execOp,ho,Sem.run_bind,Instr.sliceAt,u1,hu,Result.andThen_ok,Instr.slice,hr,J3 hte,Sem.run_pure];rfl,?_⟩;simp only[List.drop_nil,List.take_nil];have e0:(hh.getD (0:Nat)).toNat - (l.getD 0).toNat=0:=by omega
            rw[e0];have hE:∀ ad' c',(Jdw m (hh.getD (([]:List (List AV)).length:Nat)) full ([]:List (List AV)).length=true->c'=0)->Rep g (.slice (some ad') 0 c') (.vec [] (Jdw m (hh.getD (([]:List (List AV)).length:Nat)) full ([]:List (List AV)).length)):=fun ad' c' h=>.vecE h
            split;all_goals
              refine hE _ _ (fun q=>?_);rw[z1];cases m with
              | none =>
                simp only[Jdw,Bool.and_eq_true] at q;have:=hf q.1;simp[this]
              | some m=>simp only[Jdw,decide_eq_true_eq] at q;simp at b2 b3 ⊢;omega
          | @vec b off cap s _ _ f h1 h2 h3 h4 h5 =>
            have hr:=hrun cap h3;have e1:(hh.getD xs.length).toNat<=xs.length:=by omega
            have e2:(l.getD 0).toNat<=(hh.getD xs.length).toNat:=by omega
            have e3:(hh.getD xs.length).toNat<=(m.map Int.toNat).getD cap:=by
              cases m with
              | none=>simp;omega
              | some m=>simp at b2 b3 ⊢;omega
            by_cases hz:(hh.getD xs.length).toNat - (l.getD 0).toNat=0
            ·
              refine⟨_,by simp only[execOp,ho,Sem.run_bind,Instr.sliceAt,u1,hu,Result.andThen_ok,Instr.slice,hr,J3 hte,Sem.run_pure];rfl,?_⟩;rw[hz,List.take_zero];have hnil:∀ (ad:Addr),ad.spot=none->∀ (c':Nat) (fl:Bool),(fl=true->c'=0)->Rep g (.slice (some ad) 0 c') (.vec [] fl):=fun ad hs c' fl hf=>by
                obtain⟨b',o',sp⟩:=ad;simp only at hs;subst hs;exact .vec (s:=0) (xs:=[]) (fun _ _=>undef) (by simp) (by simpa using hf) (by simp) (by simp) (by simp)
              have hfull:Jdw m (hh.getD xs.length) full xs.length=true->(m.map Int.toNat).getD cap - (l.getD 0).toNat=0:=by
                cases m with
                | none =>
                  simp only[Jdw,Bool.and_eq_true,decide_eq_true_eq,Option.map_none,Option.getD_none];rintro⟨q1,q2⟩;have:=h2 q1;omega
                | some m =>
                  simp only[Jdw,decide_eq_true_eq,Option.map_some,Option.getD_some];intro q;subst q;omega
              split
              · exact hnil _ rfl _ _ hfull
              · exact hnil _ (by simp only[Addr.add_eq]) _ _ hfull
            · have hne:¬ (m.map Int.toNat).getD cap=(l.getD 0).toNat:=by omega
              have hex:∃ x0,xs[(l.getD 0).toNat]? = some x0:=⟨xs[(l.getD 0).toNat]'(by omega),List.getElem?_eq_getElem (by omega)⟩;have hsz:te.size=s:=by
                obtain⟨x0,hx0⟩:=hex;rw[<- b5 x0 (List.mem_of_getElem? hx0)];exact h1 x0 (List.mem_of_getElem? hx0)
              refine⟨_,by simp only[execOp,ho,Sem.run_bind,Instr.sliceAt,u1,hu,Result.andThen_ok,Instr.slice,hr,J3 hte,Sem.run_pure,if_neg hne,Option.map_some,Addr.add_eq,hsz];rfl,?_⟩;refine Jsq f h1 h4 h5 _ _ _ (by omega) (fun q=>?_) (by omega);cases m with
              | none =>
                simp only[Jdw,Bool.and_eq_true,decide_eq_true_eq] at q;have:=h2 q.1;simp only[Option.map_none,Option.getD_none];omega
              | some m =>
                simp only[Jdw,decide_eq_true_eq] at q;subst q;simp
        · cases h
      · cases h
    · cases h
  · rename_i ti s l hh ht hx hl hhi hm
    obtain⟨d,u1,u2⟩:=J1 (w:=w) ht;split at h
    · rename_i hkd
      rw[u2] at hkd;have:=JeG hkd;subst this;split at h
      · rename_i hb
        cases h;obtain⟨b0,b1,b2⟩:=hb;have hmx:mx=none:=by
          rcases Jbr r hm with ⟨q,_⟩ | ⟨_,_,_,_,q,_⟩
          · exact q
          · cases q
        subst hmx;have hrun:(Instr.sliceBounds false s.size s.size (lo.map a.eval) (hi.map a.eval) none).run P w = .ok ((l.getD 0).toNat,(hh.getD s.size).toNat,s.size) w:=by
          rcases Jbr r hl with ⟨rfl,rfl⟩ | ⟨y1,n1,k1,rfl,rfl,e1⟩ <;> rcases Jbr r hhi with ⟨rfl,rfl⟩ | ⟨y2,n2,k2,rfl,rfl,e2⟩ <;>
            simp only[Option.getD_none,Option.getD_some] at b0 b1 b2 <;>
            first
              | (simp only[Instr.sliceBounds,Option.map_none,Option.map_some,Sem.run_bind,Sem.run_pure,Result.andThen_ok, *]
                 repeat (rw[JdI (by omega) (by omega)];simp only[Result.andThen_ok])
                 simp;done)
              | (simp only[Instr.sliceBounds,Option.map_none,Option.map_some,Sem.run_bind,Sem.run_pure,Result.andThen_ok, *]
                 simp;done)
        exact⟨_,by simp[execOp,ho,Instr.sliceAt,u1,(Rep.of_lit (Je2 r hx)).1,Instr.slice,hrun],.lit rfl⟩
      · cases h
    · cases h
  · rename_i ti cs l hh ht hx hl hhi hm
    obtain⟨d,u1,u2⟩:=J1 (w:=w) ht;split at h
    · rename_i n e hkd
      rw[u2] at hkd;have:=Jh5 hkd;subst this;split at h
      · rename_i te hte
        split at h
        · rename_i hb
          cases h;obtain⟨b1,b2,b3,b4,b5⟩:=hb;have hv:=Je2 r hx;generalize hu:a.eval x=u at hv;rcases Jbr r hl with ⟨rfl,q⟩ | ⟨y1,n1,k1,rfl,q1,e1⟩
          · cases q
          rcases Jbr r hhi with ⟨rfl,q⟩ | ⟨y2,n2,k2,rfl,q2,e2⟩
          · cases q
          rcases Jbr r hm with ⟨rfl,q⟩ | ⟨y3,n3,k3,rfl,q3,e3⟩
          case inr=>cases q3
          cases q1;cases q2;cases hv with
          | np f h0 h1 h2 =>
            have hne:¬ n=l.toNat:=by omega
            have hbd:(Instr.sliceBounds false n n (some (a.eval y1)) (some (a.eval y2)) none).run P w = .ok (l.toNat,hh.toNat,n) w:=by
              simp only[Instr.sliceBounds,Sem.run_bind,Sem.run_pure,Result.andThen_ok,e1,e2];rw[JdI (by omega) (by omega)];simp only[Result.andThen_ok];rw[JdI (by omega) (by omega)];simp
            refine⟨_,by simp only[execOp,ho,Sem.run_bind,Instr.sliceAt,u1,hu,Result.andThen_ok,Instr.sureAddr,Sem.run_pure,Option.map_none,Option.map_some,hbd,J3 hte,if_neg hne,b1,Nat.mul_one,Addr.add_eq];rfl,?_⟩;have hl:(((cs.drop l.toNat).take (hh.toNat - l.toNat)).map fun c=>[c]).length=hh.toNat - l.toNat:=by simp;omega
            have hv:=Rep.vec (g:=g) (b:=(by assumption:Nat)) (off:=0+l.toNat) (cap:=n - l.toNat) (s:=1) (xs:=((cs.drop l.toNat).take (hh.toNat - l.toNat)).map fun c=>[c]) (full:=false) (fun i _=>f (l.toNat+i)) (fun x hx=>by obtain⟨c,_,rfl⟩:=List.mem_map.1 hx;rfl) (by simp) (by rw[hl];omega) (fun i x j a' e1 e2=>?_) (fun i x j a' e1 e2=>?_)
            · rw[hl] at hv;exact hv
            all_goals
              have hx:x=[a']/\j=0/\(cs.drop l.toNat)[i]? = some a':=by
                rw[List.getElem?_map] at e1;obtain⟨c,hc,rfl⟩:=Option.map_eq_some_iff.1 e1;rw[List.getElem?_take] at hc;split at hc
                · match j with
                  | 0=>simp at e2;subst e2;exact⟨rfl,rfl,hc⟩
                  | j+1=>simp at e2
                · cases hc
              obtain⟨rfl,rfl,hc⟩:=hx;rw[List.getElem?_drop] at hc
            · have:=h1 _ _ hc
              rw[show 0+l.toNat+i * 1+0=l.toNat+i by omega];exact this
            · exact h2 _ _ hc
        · cases h
      · cases h
    · cases h
  · cases h
theorem Jdd{x:Operand}{l:List Operand}{as:List AV}(h:evL σ (x :: l)=some as):∃ b bs,as=b :: bs/\ev σ x=some b/\evL σ l=some bs:=by
 unfold evL at h;split at h
 ·rename_i b bs h1 h2;cases h;exact⟨b,bs,rfl,h1,h2⟩
 ·cases h
theorem JnI{as:List AV}(h:evL σ []=some as):as=[]:=by cases h;rfl
theorem JkG{xs:Array Operand}{b c:AV}(h:evL σ xs.toList=some [b,c]):∃ x y,xs = #[x,y]/\ev σ x=some b/\ev σ y=some c:=by
 match hx:xs.toList,h with
 | [],h=>simp[evL] at h
 | [x],h =>
  obtain⟨_,_,e1,_,e3⟩:=Jdd h;have:=JnI e3;subst this;cases e1
 | [x,y],h =>
  obtain⟨b1,bs,e1,e2,e3⟩:=Jdd h;obtain⟨c1,cs,f1,f2,f3⟩:=Jdd e3;have:=JnI f3;subst this;subst f1;cases e1;exact⟨x,y,by rw[<- Array.toArray_toList (xs:=xs),hx],e2,f2⟩
 | x :: y :: z :: l,h =>
  obtain⟨b1,bs,e1,e2,e3⟩:=Jdd h;obtain⟨c1,cs,f1,f2,f3⟩:=Jdd e3;obtain⟨d1,ds,g1,g2,g3⟩:=Jdd f3;subst g1;subst f1;cases e1
theorem JkH{t:TypeId}{x:Operand}{lo hi mx:Option Operand}(ho:o.op = .slice t x lo hi mx)(r:Jae g0 h0 w0 σ g w a)(h:Jz P σ (.slice t x lo hi mx)=some v):Jcy P o a w g v:=by
 simp only[Jz] at h;cases h0:slP P σ t x lo hi mx with
 | none=>simp[h0] at h
 | some v0 =>
  simp only[h0,Option.map_some,Option.some.injEq] at h;obtain⟨u,e1,e2⟩:=Jjf ho r h0;refine⟨u,e1,?_⟩;subst h;unfold Jp4;split
  ·rename_i L b xs f hx;have hb:=r.ev hx;generalize a.eval x=ux at hb;cases hb with
   | wit h1 h2 =>
    cases e2 with
    | vecN=>exact .wit h1 .vecN
    | vecE q=>exact .wit h1 (.vecE q)
    | vec f q1 q2 q3 q4 q5=>exact .wit h1 (.vec f q1 q2 q3 q4 q5)
  ·exact e2
theorem JnK{c:Call}(hc:c.callee = .builtin .len)(ho:o.op = .call c)(r:Jae g0 h0 w0 σ g w a)(h:Jz P σ (.call c)=some v):Jcy P o a w g v:=by
 simp only[Jz,hc] at h;split at h
 ·rename_i t ts b bs hat hev;have hargs:∃ x l,c.args.toList=x :: l/\ev σ x=some b:=by
   match hx:c.args.toList,hev with
   | [],h=>simp[evL] at h
   | x :: l,h =>
    obtain⟨b1,bs1,e1,e2,e3⟩:=Jdd h;cases e1;exact⟨x,l,rfl,e2⟩
  obtain⟨x,l,hx,hb⟩:=hargs;have ha0:c.argTypes[0]? = some t:=by rw[<- Array.getElem?_toList,hat];rfl
  have hx0:(c.args.map a.eval)[0]? = some (a.eval x):=by rw[Array.getElem?_map,<- Array.getElem?_toList,hx];rfl
  have hrun:∀ u,(Builtin.len_ c.argTypes o.type (c.args.map a.eval)).run P w = .ok u w->(execOp a.eval o).run P w = .ok (.value u) w:=fun u hu=>by
   simp[execOp,ho,resolve,hc,invoke,builtin,hu]
  have hv:=(r.ev hb).unw;generalize hbb:unw b=b1 at hv h;split at h
  ·rename_i ti xs full ht;obtain⟨d,u1,u2⟩:=J1 (w:=w) ht;split at h
   ·rename_i e hkd;cases h;rw[u2] at hkd;have:=JbF hkd;subst this;generalize hu:a.eval x=u at hv hx0;cases hv with
    | vecN=>exact⟨_,hrun _ (by simp[Builtin.len_,ha0,hx0,u1,goInt]),.lit rfl⟩
    | vecE _=>exact⟨_,hrun _ (by simp[Builtin.len_,ha0,hx0,u1,goInt]),.lit rfl⟩
    | vec f h1 h2 h3 h4 h5=>exact⟨_,hrun _ (by simp[Builtin.len_,ha0,hx0,u1,goInt]),.lit rfl⟩
   ·cases h
  ·rename_i ti tk n ht;obtain⟨d,u1,u2⟩:=J1 (w:=w) ht;split at h
   ·rename_i e hkd;cases h;rw[u2] at hkd;have:=JbF hkd;subst this;generalize hu:a.eval x=u at hv hx0;cases hv with
    | own h1 h2=>exact⟨_,hrun _ (by simp[Builtin.len_,ha0,hx0,u1,goInt]),.lit rfl⟩
   ·cases h
  ·rename_i ti s ht;obtain⟨d,u1,u2⟩:=J1 (w:=w) ht;split at h
   ·rename_i hkd;cases h;rw[u2] at hkd;have:=JeG hkd;subst this;have hs:=(Rep.of_lit hv).1;rw[hs] at hx0;exact⟨_,hrun _ (by simp[Builtin.len_,ha0,hx0,u1,goInt]),.lit rfl⟩
   ·cases h
  ·cases h
 ·cases h
theorem JnL{c:Call}(hc:c.callee = .builtin .min)(ho:o.op = .call c)(r:Jae g0 h0 w0 σ g w a)(h:Jz P σ (.call c)=some v):Jcy P o a w g v:=by
 simp only[Jz,hc] at h;split at h
 ·rename_i k p k' q hev;cases h;obtain⟨x,y,hx,e1,e2⟩:=JkG hev;have h1:=(Rep.of_lit (r.ev e1)).1;have h2:=(Rep.of_lit (r.ev e2)).1;exact⟨_,by simp[execOp,ho,resolve,hc,hx,invoke,builtin,Builtin.min_,Builtin.min2,h1,h2],.lit rfl⟩
 ·cases h
theorem JnM{c:Call}(hc:c.callee = .builtin .max)(ho:o.op = .call c)(r:Jae g0 h0 w0 σ g w a)(h:Jz P σ (.call c)=some v):Jcy P o a w g v:=by
 simp only[Jz,hc] at h;split at h
 ·rename_i k p k' q hev;cases h;obtain⟨x,y,hx,e1,e2⟩:=JkG hev;have h1:=(Rep.of_lit (r.ev e1)).1;have h2:=(Rep.of_lit (r.ev e2)).1;exact⟨_,by simp[execOp,ho,resolve,hc,hx,invoke,builtin,Builtin.max_,Builtin.max2,h1,h2],.lit rfl⟩
 ·cases h
theorem Jhk{x:Operand}(ho:o.op = .move x\/o.op = .assign x)(r:Jae g0 h0 w0 σ g w a)(h:ev σ x=some v):Jcy P o a w g v:=by
 rcases ho with ho | ho <;> exact⟨_,by simp[execOp,ho],r.ev h⟩
theorem JlA{x y:Value}{p q:AV}(h:Rep g x p)(k:Rep g y q):Rep g (.tuple #[x,y]) (.tup [p,q]) :=
 .tup rfl (fun i c a e1 e2=>(J9.cons h (J9.cons k J9.nil)).2 i c a e1 e2)
theorem Jfm{et:TypeId}{z:AV}(h:JdH P et=some z):∃ i zv,P.info? et=some i/\i.zero=some zv/\∀ g,Rep g zv z:=by
 unfold JdH at h;obtain⟨zv,h1,h2⟩:=Option.bind_eq_some_iff.1 h;obtain⟨i,h3,h4⟩:=Option.bind_eq_some_iff.1 h1;refine⟨i,zv,h3,h4,fun g=>?_⟩;unfold cellAV at h2;split at h2
 ·cases h2;exact .vecN
 ·split at h2
  ·rename_i hp;cases h2;exact .lit hp
  ·cases h2
theorem Jhl{kt et:TypeId}{ok:Bool}{t:TypeId}{a:AV}{u m:Value}{es:Array MapEntry}{rs:List (List AV)}{v:AV}(hm:P.underlying t=some (.map kt et))(hu:Rep g u a)(hr:MR g es.toList rs)(h:Jns P kt et ok a rs=some v)
  (hes:(m = .map none/\es = #[])\/∃ b n,m = .map (some b)/\w.heap[b]? = some (.map es n)):∃ x,(Instr.lookup t m u ok).run P w = .ok x w/\Rep g x v:=by
 unfold Jns at h;split at h
 ·rename_i q r hk hf;have htk:∃ ti,Jt P kt=some ti:=by
   unfold Jcf at hk;split at hk
   ·rename_i ti ht;exact⟨ti,ht⟩
   ·cases hk
  obtain⟨ti,htk⟩:=htk;obtain⟨p,f1,f2⟩:=Jdb (w:=w) htk hu hr hf;have ck:=Jem (w:=w) hk hu es.isEmpty;cases r with
  | none =>
   have hp:p=none:=f2;subst hp;cases ok with
   | true =>
    obtain⟨z,hz,rfl⟩:=Option.map_eq_some_iff.1 (show (JdH P et).map (fun z=>AV.tup [z,.lit (.bool false)])=some v from h);obtain⟨i,zv,h1,h2,h3⟩:=Jfm hz;refine⟨.tuple #[zv,.bool false],?_,JlA (h3 g) (.lit rfl)⟩;rcases hes with ⟨rfl,rfl⟩ | ⟨b,n,rfl,hb⟩
    ·simp at ck f1;simp[Instr.lookup,run_underlying hm,ck,f1,zeroValue,typeInfo,h1,h2]
    ·simp[Instr.lookup,run_underlying hm,Go.MapKept.run_getObj_map hb,ck,f1,zeroValue,typeInfo,h1,h2]
   | false =>
    obtain⟨i,zv,h1,h2,h3⟩:=Jfm (show JdH P et=some v from h);refine⟨zv,?_,h3 g⟩;rcases hes with ⟨rfl,rfl⟩ | ⟨b,n,rfl,hb⟩
    ·simp at ck f1;simp[Instr.lookup,run_underlying hm,ck,f1,zeroValue,typeInfo,h1,h2]
    ·simp[Instr.lookup,run_underlying hm,Go.MapKept.run_getObj_map hb,ck,f1,zeroValue,typeInfo,h1,h2]
  | some jv =>
   obtain⟨j,va⟩:=jv;obtain⟨e,h1,hp,h3⟩:=f2;subst hp;cases ok with
   | true =>
    cases (show some (AV.tup [va,.lit (.bool true)])=some v from h);refine⟨.tuple #[e.val,.bool true],?_,JlA h3 (.lit rfl)⟩;rcases hes with ⟨rfl,rfl⟩ | ⟨b,n,rfl,hb⟩
    ·simp at h1
    ·simp[Instr.lookup,run_underlying hm,Go.MapKept.run_getObj_map hb,ck,f1]
   | false =>
    cases (show some va=some v from h);refine⟨e.val,?_,h3⟩;rcases hes with ⟨rfl,rfl⟩ | ⟨b,n,rfl,hb⟩
    ·simp at h1
    ·simp[Instr.lookup,run_underlying hm,Go.MapKept.run_getObj_map hb,ck,f1]
 ·cases h
theorem Jjg{t:TypeId}{x y:Operand}{ok:Bool}(ho:o.op = .lookup t x y ok)(r:Jae g0 h0 w0 σ g w a)(h:Jz P σ (.lookup t x y ok)=some v):Jcy P o a w g v:=by
 simp only[Jz] at h;split at h
 ·rename_i ti id ka ht hx hy;split at h
  ·rename_i kt et k hkd hk;obtain⟨i,d,_,e2,e3,_⟩:=JD ht;rw[e3] at hkd;have hd:d = .map kt et:=by cases d <;> simp[JcP] at hkd;rw[hkd.1,hkd.2]
   subst hd;obtain⟨hs,hv⟩:=Rep.om_map r.st.hp hk (r.ev hx);obtain⟨b,es,n,f1,f2,f3,_⟩:=r.st.hp.tokM hk hs;obtain⟨u,g1,g2⟩:=Jhl (w:=w) (m:=a.eval x) e2 (r.ev hy) f3 h (.inr ⟨b,n,hv _ _ _ f1,f2⟩);exact⟨u,by simp[execOp,ho,g1],g2⟩
  ·cases h
 ·rename_i ti ka ht hx hy;split at h
  ·rename_i kt et hkd;obtain⟨i,d,_,e2,e3,_⟩:=JD ht;rw[e3] at hkd;have hd:d = .map kt et:=by cases d <;> simp[JcP] at hkd;rw[hkd.1,hkd.2]
   subst hd;obtain⟨u,g1,g2⟩:=Jhl (w:=w) (m:=a.eval x) (es := #[]) e2 (r.ev hy) (show MR g (#[]:Array MapEntry).toList [] from trivial) h (.inl ⟨(Rep.of_lit (r.ev hx)).1,rfl⟩);exact⟨u,by simp[execOp,ho,g1],g2⟩
  ·cases h
 ·cases h
theorem Je3(r:Jae g0 h0 w0 σ g w a)(h:Jz P σ o.op=some v):Jcy P o a w g v:=by
 cases ho:o.op with
 | move x=>rw[ho] at h;exact Jhk (.inl ho) r h
 | assign x=>rw[ho] at h;exact Jhk (.inr ho) r h
 | build t p=>rw[ho] at h;exact JkB ho r h
 | load t x=>rw[ho] at h;exact Jmn ho r h
 | nilCheck x=>rw[ho] at h;exact Jg9 ho r h
 | binOp op t x y t'=>rw[ho] at h;exact JkC ho r h
 | unOp op t x=>rw[ho] at h;exact Jmo ho r h
 | convert s d x=>rw[ho] at h;exact Jh6 ho r h
 | makeFunc f x y=>rw[ho] at h;exact Jha ho r h
 | fieldAddr s x f=>rw[ho] at h;exact Jgb ho r h
 | field s x f=>rw[ho] at h;exact JkD ho r h
 | indexAddr t x i=>rw[ho] at h;exact Jgc ho r h
 | index t x i=>rw[ho] at h;exact JkF ho r h
 | slice t x lo hi mx=>rw[ho] at h;exact JkH ho r h
 | extract x i=>rw[ho] at h;exact Jh7 ho r h
 | lookup t x y ok=>rw[ho] at h;exact Jjg ho r h
 | call c =>
  rw[ho] at h;cases hc:c.callee with
  | builtin b =>
   cases b with
   | len=>exact JnK hc ho r h
   | min=>exact JnL hc ho r h
   | max=>exact JnM hc ho r h
   | _=>simp[Jz,hc] at h
  | _=>simp[Jz,hc] at h
 | _=>rw[ho] at h;simp[Jz] at h
end
end Go.Ab
end
section
namespace Go.Ab
def Jbs(s:Nat)(rows:List (List AV)):List (Nat × AV)->Option (List (List AV))
 | []=>some rows
 | (i,v) :: rest=>match v.cells with
  | some cs=>if i<rows.length/\cs.length=s then Jbs s (rows.set i cs) rest else none
  | none=>none
def Jhb (h:Hp):AV->Option (List (List AV))
 | .vec ys _=>some ys
 | .own t n=>match lk h.toks t with
  | some k=>if n=k.xs.length then some k.xs else none
  | none=>none
 | _=>none
def Jh8(h:Hp)(a:AV):Option (List (List AV)):=Jhb h (unw a)
def Ja7 (n bytes:Nat):Prop:=n<=maxLen/\n * bytes<=140737488355328
instance (n bytes:Nat):Decidable (Ja7 n bytes):=by unfold Ja7;infer_instance
def JrC (P:Program)(kt:TypeId)(a v:AV)(rs:List (List AV)):Option (List (List AV)) :=
 match Jcf P kt a a,JcQ P kt a rs with
 | some _,some none=>some (rs++[[a,v]])
 | some _,some (some p)=>some (rs.set p.1 [a,v])
 | _,_=>none
def Jaf(P:Program)(σ:St):Op->Option (Option AV × Hp)
 | .alloc t=>match Jt P t with
  | some ti=>match ti.zero with
   | some z=>some (some (.ptr σ.hp.nx 0),{σ.hp with boxes:=σ.hp.boxes++[(σ.hp.nx,z)],nx:=σ.hp.nx+1})
   | none=>none
  | none=>none
 | .box _ x=>match (ev σ x).bind AV.cells with
  | some cs=>some (some (.ptr σ.hp.nx 0),{σ.hp with boxes:=σ.hp.boxes++[(σ.hp.nx,cs)],nx:=σ.hp.nx+1})
  | none=>none
 | .buildSlice t len parts=>match Jt P t,evP σ parts.toList with
  | some ti,some ps=>match ti.kd with
   | .sl e=>match Jt P e with
    | some te=>match te.zero with
     | some z=>if z.length=te.size/\len * te.size<=2 ^ 24 then
       match Jbs te.size (List.replicate len z) ps with
       | some rows=>some (some (.vec rows true),σ.hp)
       | none=>none
      else none
     | none=>none
    | none=>none
   | _=>none
  | _,_=>none
 | .store t x y=>match Jt P t,ev σ x,(ev σ y).bind AV.cells with
  | some ti,some (.ptr id off),some cs=>match lk σ.hp.boxes id with
   | some row=>if cs.length=ti.size/\off+cs.length<=row.length then some (none,{σ.hp with boxes:=up σ.hp.boxes id (JdF row off cs)}) else none
   | none=>none
  | some ti,some (.ep tk n s i off),some cs=>match lk σ.hp.toks tk with
   | some k=>match k.xs[i]? with
    | some row=>if cs.length=ti.size/\off+cs.length<=row.length/\n=k.xs.length/\s=k.s/\k.fz<=i then some (none,{σ.hp with toks:=up σ.hp.toks tk ⟨k.xs.set i (JdF row off cs),k.fz,k.s⟩}) else none
    | none=>none
   | none=>none
  | _,_,_=>none
 | .makeMap _ none=>some (some (.om σ.hp.nx),{σ.hp with toks:=σ.hp.toks++[(σ.hp.nx,⟨[],0,0⟩)],nx:=σ.hp.nx+1})
 | .mapUpdate t m x y=>match Jt P t,ev σ m,ev σ x,ev σ y with
  | some ti,some (.om id),some ka,some va=>match ti.kd,lk σ.hp.toks id with
   | .map kt _,some k=>match JrC P kt ka va k.xs with
    | some xs=>some (none,{σ.hp with toks:=up σ.hp.toks id ⟨xs,k.fz,k.s⟩})
    | none=>none
   | _,_=>none
  | _,_,_,_=>none
 | .makeSlice t l c=>match Jt P t,(ev σ l).bind Jdc,(ev σ c).bind Jdc with
  | some ti,some n,some m=>match ti.kd with
   | .sl e=>match Jt P e with
    | some te=>match te.zero with
     | some z=>if 0<=n/\n<=m/\m<=9223372036854775807/\te.bytes * m<=281474976710656/\z.length=te.size/\te.size≠0 then
       some (some (.own σ.hp.nx n.toNat),{σ.hp with toks:=σ.hp.toks++[(σ.hp.nx,⟨List.replicate n.toNat z,0,te.size⟩)],nx:=σ.hp.nx+1})
      else none
     | none=>none
    | none=>none
   | _=>none
  | _,_,_=>none
 | .call c=>match c.callee,c.argTypes.toList,evL σ c.args.toList with
  | .builtin .append,[t,t'],some [x,y]=>match Jt P t,Jh8 σ.hp y with
   | some ti,some ys=>match ti.kd with
    | .sl e=>match Jt P e with
     | some te=>match te.zero with
      | some z=>if t=t'/\z.length=te.size/\te.size≠0/\(∀ q∈ys,q.length=te.size) then
        match x with
        | .vec xs true=>if (∀ q∈xs,q.length=te.size)/\Ja7 (xs.length+ys.length) te.bytes then
          (if ys.length=0 then some (some (.vec xs true),σ.hp)
          else some (some (.own σ.hp.nx (xs.length+ys.length)),{σ.hp with toks:=σ.hp.toks++[(σ.hp.nx,⟨xs++ys,0,te.size⟩)],nx:=σ.hp.nx+1}))
         else none
        | .own tk n=>match lk σ.hp.toks tk with
         | some k=>if n=k.xs.length/\k.s=te.size/\Ja7 (n+ys.length) te.bytes then
           some (some (.own tk (n+ys.length)),{σ.hp with toks:=up σ.hp.toks tk ⟨k.xs++ys,k.fz,k.s⟩})
          else none
         | none=>none
        | _=>none
       else none
      | none=>none
     | none=>none
    | _=>none
   | _,_=>none
  | _,_,_=>none
 | _=>none
def Jh9(P:Program)(o:Oper)(a:Act)(g:Gh)(h:Hp)(w:World)(v:Option AV)(h':Hp):Prop :=
 ∃ g' w',JW g h w g' h' w'/\match v with
  | some av=>∃ u,(execOp a.eval o).run P w = .ok (.value u) w'/\Rep g' u av
  | none=>(execOp a.eval o).run P w = .ok .skip w'
section
variable {P:Program} {g0:Gh} {h0:Hp} {w0:Wr} {σ:St} {g:Gh} {w:World} {a:Act} {o:Oper}
theorem JW.newBox(r:JZ g σ.hp w)(vs:Array Value)(ty:TypeId)(cs:List AV)(hc:J9 g vs.toList cs)(h1:∀ v∈vs.toList,v.oneCell'=true) :
  JW g σ.hp w (g.addBox w.heap.size) {σ.hp with boxes:=σ.hp.boxes++[(σ.hp.nx,cs)],nx:=σ.hp.nx+1} (w.alloc (.cells vs ty))/\Rep (g.addBox w.heap.size) (.pointer (some ⟨w.heap.size,0,none⟩)) (.ptr σ.hp.nx 0) :=
 ⟨⟨r.addBox vs ty cs hc h1,Ext.addBox _ _,Jai.alloc _ _ _,fun b l=>Ja2.addBox r l,fun b o v e=>.inl e⟩,
  .ptr (by simp[Gh.addBox,r.nx]) (fun b hb=>by simp[Gh.addBox,r.nx] at hb;rw[hb])⟩
theorem JkI{t:TypeId}(ho:o.op = .alloc t)(r:Jae g0 h0 w0 σ g w a){v:Option AV}{h':Hp}(h:Jaf P σ (.alloc t)=some (v,h')):Jh9 P o a g σ.hp w v h':=by
 simp only[Jaf] at h;split at h
 ·rename_i ti ht;split at h
  ·rename_i z hz;cases h;obtain⟨i,d,e1,e2,e3,e4,e5,e6⟩:=JD ht;obtain⟨zv,z1,z2⟩:=e6 z hz;obtain⟨z3,z4⟩:=J9.cellsAV (g:=g) z2;obtain⟨k1,k2⟩:=JW.newBox r.st.hp zv.cells t z z3 z4;exact⟨_,_,k1,_,by simp[execOp,ho,Instr.alloc,zeroValue,typeInfo,e1,z1,newVar,newRow],k2⟩
  ·cases h
 ·cases h
theorem Jia{t:TypeId}(ho:o.op = .makeMap t none)(r:Jae g0 h0 w0 σ g w a){v:Option AV}{h':Hp}(h:Jaf P σ (.makeMap t none)=some (v,h')):Jh9 P o a g σ.hp w v h':=by
 simp only[Jaf] at h;cases h;obtain⟨s,q⟩:=r.st.hp.addOm;exact⟨_,_,s,_,by simp[execOp,ho,Instr.makeMap],q⟩
theorem Jmp{kt et:TypeId}{t:TypeId}{ka va:AV}{u x m:Value}{es:Array MapEntry}{n b:Nat}{rs rs':List (List AV)}(hm:P.underlying t=some (.map kt et))(hu:Rep g u ka)(hx:Rep g x va)(hr:MR g es.toList rs)(h:JrC P kt ka va rs=some rs')
  (hmv:m = .map (some b)) (hb:w.heap[b]? = some (.map es n)):∃ es' n',(Instr.mapUpdate t m u x).run P w = .ok () {w with heap:=w.heap.setIfInBounds b (.map es' n')}/\MR g es'.toList rs'/\rs.length<=rs'.length:=by
 subst hmv;have htk:∀ {q},Jcf P kt ka ka=some q->∃ ti,Jt P kt=some ti:=fun {q} hk=>by
  unfold Jcf at hk;split at hk
  ·rename_i ti ht;exact⟨ti,ht⟩
  ·cases hk
 unfold JrC at h;split at h
 ·rename_i q hk hf;cases h;obtain⟨ti,htk⟩:=htk hk;obtain⟨p,f1,f2⟩:=Jdb (w:=w) htk hu hr hf;have ck:=Jem (w:=w) hk hu false;have f2:p=none:=f2;subst f2;refine⟨es.push {key:=u,val:=x,born:=n},n+1,by simp[Instr.mapUpdate,run_underlying hm,Go.MapKept.run_getObj_map hb,ck,f1,Go.MapKept.run_setObj_map _ hb],?_,by simp⟩;rw[Array.toList_push];exact MR.push hu hx hr
 ·rename_i q p' hk hf;cases h;obtain⟨j,va'⟩:=p';obtain⟨ti,htk⟩:=htk hk;obtain⟨p,f1,f2⟩:=Jdb (w:=w) htk hu hr hf;have ck:=Jem (w:=w) hk hu false;obtain⟨e,h1,hp,h3⟩:=f2;subst hp;obtain⟨kb,k1,k2⟩:=Jje hf;obtain⟨ka',va'',m1,m2,m3⟩:=hr.get h1;rw[k1] at m1;cases m1;obtain⟨e1,e2⟩:=Jmm k2 hu m2;have hj:es[j]? = some e:=by simpa using h1
  refine⟨es.modify j fun e=>{e with key:=u,val:=x},n,by simp[Instr.mapUpdate,run_underlying hm,Go.MapKept.run_getObj_map hb,ck,f1,Go.MapKept.run_setObj_map _ hb,hj,Instr.keyThatStays,e1,e2],?_,by simp⟩;have hset:(es.modify j fun e=>{e with key:=u,val:=x}).toList=es.toList.set j {e with key:=u,val:=x}:=by
   apply List.ext_getElem?;intro i;rw[Array.getElem?_toList,Array.getElem?_modify,List.getElem?_set,Array.getElem?_toList];by_cases hi:j=i
   ·subst hi;have:j<es.toList.length:=by have:=(Array.getElem?_eq_some_iff.1 hj).1;simpa using this
    rw[if_pos rfl,if_pos rfl,if_pos this,hj];rfl
   ·rw[if_neg hi,if_neg hi]
  rw[hset];exact MR.set hu hx j hr
 ·cases h
theorem Jgd{t:TypeId}{m x y:Operand}(ho:o.op = .mapUpdate t m x y)(r:Jae g0 h0 w0 σ g w a){v:Option AV}{h':Hp}(h:Jaf P σ (.mapUpdate t m x y)=some (v,h')):Jh9 P o a g σ.hp w v h':=by
 simp only[Jaf] at h;split at h
 ·rename_i ti id ka va ht hm hx hy;split at h
  ·rename_i kt et k hkd hk;split at h
   ·rename_i xs hp;cases h;obtain⟨i,d,_,e2,e3,_⟩:=JD ht;rw[e3] at hkd;have hd:d = .map kt et:=by cases d <;> simp[JcP] at hkd;rw[hkd.1,hkd.2]
    subst hd;obtain⟨hs,hv⟩:=Rep.om_map r.st.hp hk (r.ev hm);obtain⟨b,es,n,f1,f2,f3,_⟩:=r.st.hp.tokM hk hs;obtain⟨es',n',g1,g2,g3⟩:=Jmp (w:=w) (m:=a.eval m) e2 (r.ev hx) (r.ev hy) f3 hp (hv _ _ _ f1) f2;exact⟨_,_,r.st.hp.setOm hk hs f1 f2 es' n' xs g2 g3,by simp[execOp,ho,g1]⟩
   ·cases h
  ·cases h
 ·cases h
theorem JnN{t:TypeId}{x:Operand}(ho:o.op = .box t x)(r:Jae g0 h0 w0 σ g w a){v:Option AV}{h':Hp}(h:Jaf P σ (.box t x)=some (v,h')):Jh9 P o a g σ.hp w v h':=by
 simp only[Jaf] at h;split at h
 ·rename_i cs hcs;cases h;cases hx:ev σ x with
  | none=>simp[hx] at hcs
  | some b =>
   simp only[hx,Option.bind_some] at hcs;obtain⟨c1,c2⟩:=(r.ev hx).cells hcs;obtain⟨k1,k2⟩:=JW.newBox r.st.hp (a.eval x).cells t cs c1 c2;exact⟨_,_,k1,_,by simp[execOp,ho,Instr.box,newVar,newRow],k2⟩
 ·cases h
theorem JeW.set{vs:Array Value}{rows:List (List AV)}{s:Nat}(h:JeW g vs rows s)(hs:rows.length * s<=vs.size){i:Nat}(hi:i<rows.length){us:List Value}{cs:List AV}(hc:J9 g us cs)(hl:cs.length=s) :
  JeW g (vs.toList.take (i * s)++us++vs.toList.drop (i * s+us.length)).toArray (rows.set i cs) s/\(vs.toList.take (i * s)++us++vs.toList.drop (i * s+us.length)).toArray.size=vs.size:=by
 have hul:us.length=s:=by rw[hc.1,hl]
 have hle:i * s+s<=vs.size:=by
  calc i * s+s=(i+1) * s:=by rw[Nat.add_mul,Nat.one_mul]
   _<=rows.length * s:=Nat.mul_le_mul_right _ hi
   _<=vs.size:=hs
 refine⟨⟨fun x hx=>?_,fun k x j b e1 e2=>?_⟩,by simp;omega⟩
 ·rcases List.mem_or_eq_of_mem_set hx with hx | hx
  ·exact h.1 x hx
  ·rw[hx];exact hl
 ·rw[List.getElem?_set] at e1;have ht:(vs.toList.take (i * s)).length=i * s:=by simp;omega
  by_cases hk:i=k
  ·subst hk;rw[if_pos rfl,if_pos hi] at e1;cases e1;obtain⟨u,f1,f2⟩:=hc.get e2;refine⟨u,?_,f2⟩;have hj:j<us.length:=(List.getElem?_eq_some_iff.1 f1).1;simp only[List.getElem?_toArray,List.append_assoc];rw[List.getElem?_append_right (by rw[ht];omega),ht,Nat.add_sub_cancel_left,List.getElem?_append_left hj,f1]
  ·rw[if_neg hk] at e1;obtain⟨u,f1,f2⟩:=h.2 k x j b e1 e2;refine⟨u,?_,f2⟩;have hj:j<s:=by rw[<- h.1 x (List.mem_of_getElem? e1)];exact(List.getElem?_eq_some_iff.1 e2).1
   simp only[List.getElem?_toArray,List.append_assoc];rcases Nat.lt_or_gt_of_ne hk with hlt | hlt
   ·have:(i+1) * s<=k * s:=Nat.mul_le_mul_right _ hlt;rw[Nat.add_mul,Nat.one_mul] at this;rw[List.getElem?_append_right (by rw[ht];omega),ht,List.getElem?_append_right (by omega),List.getElem?_drop];rw[Array.getElem?_toList,<- f1];congr 1;omega
   ·have:(k+1) * s<=i * s:=Nat.mul_le_mul_right _ hlt;rw[Nat.add_mul,Nat.one_mul] at this;rw[List.getElem?_append_left (by rw[ht];omega),List.getElem?_take,if_pos (by omega),Array.getElem?_toList,f1]
theorem JbM{s:Nat}:∀ {ps:List (Nat × AV)} {qs:List (Nat × Value)} {cells:Array Value} {rows out:List (List AV)},JeW g cells rows s->cells.size=rows.length * s->(∀ v∈cells.toList,v.oneCell'=true) ->
  ps.map (·.1)=qs.map (·.1)->J9 g (qs.map (·.2)) (ps.map (·.2))->Jbs s rows ps=some out ->
  ∃ c,Instr.fill (fun i=>some (i * s,s)) cells qs=some c/\JeW g c out s/\c.size=out.length * s/\(∀ v∈c.toList,v.oneCell'=true)/\out.length=rows.length
 | [],[],cells,rows,out,h,hs,h1,_,_,e=>by
  simp only[Jbs,Option.some.injEq] at e;subst e;exact⟨cells,rfl,h,hs,h1,rfl⟩
 | [],q :: qs,_,_,_,_,_,_,e,_,_=>by simp at e
 | p :: ps,[],_,_,_,_,_,_,e,_,_=>by simp at e
 | (i,b) :: ps,(i',v) :: qs,cells,rows,out,h,hs,h1,hi,hv,e=>by
  simp only[List.map_cons,List.cons.injEq] at hi hv;obtain⟨rfl,hi⟩:=hi;unfold Jbs at e;cases hc:b.cells with
  | none=>simp[hc] at e
  | some cs =>
   simp only[hc] at e;split at e
   ·rename_i hb;obtain⟨b1,b2⟩:=hb;obtain⟨g1,g2⟩:=hv.head.cells hc;obtain⟨l1,l2⟩:=h.set (Nat.le_of_eq hs.symm) b1 g1 b2;have hlen:v.cells.size=s:=by have:=g1.1;simp at this;omega
    have hle:i * s+s<=cells.size:=by
     rw[hs]
     calc i * s+s=(i+1) * s:=by rw[Nat.add_mul,Nat.one_mul]
      _<=rows.length * s:=Nat.mul_le_mul_right _ b1
    have hf:=Jh4 v.cells.toList cells (i * s) 0 (by simp;omega);have harr:v.cells.zipIdx.foldl (fun cs (p:Value × Nat)=>cs.setIfInBounds (i * s+p.2) p.1) cells=(cells.toList.take (i * s)++v.cells.toList++cells.toList.drop (i * s+v.cells.toList.length)).toArray:=by
     apply Array.ext';rw[<- Array.foldl_toList,Array.toList_zipIdx,hf];simp
    obtain⟨c,k1,k2,k3,k4,k5⟩:=JbM (qs:=qs) (out:=out) l1 (by rw[l2,hs];simp) (fun x hx=>by
     simp only[List.mem_append] at hx;rcases hx with (hx | hx) | hx
     ·exact h1 x (List.mem_of_mem_take hx)
     ·exact g2 x hx
     ·exact h1 x (List.mem_of_mem_drop hx)) hi hv.tail e
    refine⟨c,?_,k2,k3,k4,by rw[k5];simp⟩;unfold Instr.fill;simp only[];rw[if_neg (by simp;omega),harr];exact k1
   ·cases e
theorem JdZ{z:List AV}{zv:Array Value}(hz:J9 g zv.toList z)(h1:∀ v∈zv.toList,v.oneCell'=true)(n s:Nat)(hs:z.length=s) :
  JeW g ((Array.range (n * s)).map (zv[· % zv.size]!)) (List.replicate n z) s/\((Array.range (n * s)).map (zv[· % zv.size]!)).size=n * s/\∀ v∈((Array.range (n * s)).map (zv[· % zv.size]!)).toList,v.oneCell'=true:=by
 have hsz:zv.size=s:=by have:=hz.1;simp at this;omega
 refine⟨⟨fun x hx=>by rw[(List.mem_replicate.1 hx).2];exact hs,fun i x j b e1 e2=>?_⟩,by simp,fun v hv=>?_⟩
 ·rw[List.getElem?_replicate] at e1;split at e1
  ·rename_i hi;cases e1;obtain⟨u,f1,f2⟩:=hz.get e2;refine⟨u,?_,f2⟩;have hj:j<s:=by rw[<- hs];exact(List.getElem?_eq_some_iff.1 e2).1
   have hlt:i * s+j<n * s:=by
    calc i * s+j<i * s+s:=by omega
     _=(i+1) * s:=by rw[Nat.add_mul,Nat.one_mul]
     _<=n * s:=Nat.mul_le_mul_right _ hi
   have hm:(i * s+j) % s=j:=by rw[Nat.mul_comm,Nat.mul_add_mod];exact Nat.mod_eq_of_lt hj
   rw[Array.getElem?_map,Array.getElem?_range,if_pos hlt];simp only[Option.map_some,hsz,hm];have hjz:j<zv.size:=by omega
   rw[getElem!_pos zv j hjz];rw[Array.getElem?_toList,Array.getElem?_eq_getElem hjz] at f1;exact f1
  ·cases e1
 ·simp only[Array.toList_map,List.mem_map,Array.toList_range,List.mem_range] at hv;obtain⟨k,hk,rfl⟩:=hv;have hs0:0<s:=by
   rcases Nat.eq_zero_or_pos s with h0 | h0
   ·subst h0;simp at hk
   ·exact h0
  have hlt:k % zv.size<zv.size:=Nat.mod_lt _ (by omega);rw[getElem!_pos zv _ hlt];exact h1 _ (by simp)
theorem Rep.vec_row{vs:Array Value}{xs:List (List AV)}{s n b:Nat}{full:Bool}{gm:Gh}(hl:JeW gm vs xs s)(hn:xs.length=n)(hm:∀ o v,vs[o]? = some v->gm.mem b o=some v):Rep gm (.slice (some ⟨b,0,none⟩) n n) (.vec xs full):=by
 subst hn;refine .vec (s:=s) (fun i j=>vs.getD (i * s+j) undef) hl.1 (fun _=>rfl) (Nat.le_refl _) (fun i x j b e1 e2=>?_) (fun i x j b e1 e2=>?_)
 ·obtain⟨v,f1,f2⟩:=hl.2 i x j b e1 e2;rw[Array.getD_eq_getD_getElem?,f1,Nat.zero_add];exact hm _ _ f1
 ·obtain⟨v,f1,f2⟩:=hl.2 i x j b e1 e2;rw[Array.getD_eq_getD_getElem?,f1];exact f2
theorem JW.newRow(r:JZ g σ.hp w)(vs:Array Value)(ty:TypeId)(h1:∀ v∈vs.toList,v.oneCell'=true):JW g σ.hp w (g.addRow w.heap.size vs) σ.hp (w.alloc (.cells vs ty)) :=
 ⟨r.addRow vs ty h1,r.ext_row vs,Jai.alloc _ _ _,fun b l=>.inl l,fun b o v e=>by
  simp only[Gh.addRow] at e;split at e
  ·exact .inr (.inr (by omega))
  ·exact .inl e⟩
theorem JfL{t:TypeId}{len:Nat}{parts:Array (Nat × Operand)}(ho:o.op = .buildSlice t len parts)(r:Jae g0 h0 w0 σ g w a){v:Option AV}{h':Hp}(h:Jaf P σ (.buildSlice t len parts)=some (v,h')):Jh9 P o a g σ.hp w v h':=by
 simp only[Jaf] at h;split at h
 ·rename_i ti ps ht hps;obtain⟨d,u1,u2⟩:=J1 (w:=w) ht;obtain⟨q1,q2⟩:=r.evP hps;split at h
  ·rename_i e hkd;rw[u2] at hkd;have:=JbF hkd;subst this;split at h
   ·rename_i te hte;obtain⟨ie,de,e1,e2,e3,e4,e5,e6⟩:=JD hte;split at h
    ·rename_i z hz;obtain⟨zv,z1,z2⟩:=e6 z hz;obtain⟨z3,z4⟩:=J9.cellsAV (g:=g) z2;split at h
     ·rename_i hb;split at h
      ·rename_i rows hrows;cases h;obtain⟨c1,c2,c3⟩:=JdZ z3 z4 len te.size hb.1;obtain⟨cells,k1,k2,k3,k4,k5⟩:=JbM (qs:=parts.toList.map fun(p:Nat × Operand)=>(p.1,a.eval p.2)) c1 (by rw[c2];simp) c3 q1 q2 hrows;have st:=JW.newRow (σ:=σ) r.st.hp cells e k4;refine⟨_,_,st,.slice (some ⟨w.heap.size,0,none⟩) len len,?_,?_⟩
       ·have hparts:(parts.map fun(p:Nat × Operand)=>(p.1,a.eval p.2)).toList=parts.toList.map fun(p:Nat × Operand)=>(p.1,a.eval p.2):=by simp
        have hsz:¬ len * te.size > 2 ^ 24:=by omega
        by_cases hz0:len * te.size=0
        ·have hk1:Instr.fill (fun i=>some (i * te.size,te.size)) ((Array.range (len * te.size)).map (fun i=>(#[]:Array Value)[i % (#[]:Array Value).size]!)) (parts.toList.map fun(p:Nat × Operand)=>(p.1,a.eval p.2))=some cells:=by
          rw[<- k1];congr 1;rw[hz0];simp
         simp only[execOp,ho,Sem.run_bind,Instr.buildSlice,u1,Result.andThen_ok,J3 hte,Sem.run_ite,if_neg hsz,if_pos hz0,Sem.run_pure,hparts,hk1,newRow,run_newObj,World.alloc_eq]
        ·simp only[execOp,ho,Sem.run_bind,Instr.buildSlice,u1,Result.andThen_ok,J3 hte,Sem.run_ite,if_neg hsz,if_neg hz0,Sem.run_pure,zeroValue,typeInfo,run_program,e1,z1,hparts,k1,newRow,run_newObj,World.alloc_eq]
       ·exact Rep.vec_row (k2.mono st.ext) (by rw[k5];simp) (fun o v hv=>by simp[Gh.addRow,hv])
      ·cases h
     ·cases h
    ·cases h
   ·cases h
  ·cases h
 ·cases h
end
end Go.Ab
end
