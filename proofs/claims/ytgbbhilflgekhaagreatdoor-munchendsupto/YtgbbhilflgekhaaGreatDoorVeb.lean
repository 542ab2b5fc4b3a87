/- Parts of the proof, laid together. -/
import Derived.Test.YtgbbhilflgekhaaGreatDoorVea
import Derived.Deep.LoopGhost
import Derived.Orders
import Derived.Laws.Cover3
set_option linter.unusedVariables false
set_option linter.unusedSimpArgs false
set_option maxRecDepth 20000
set_option maxHeartbeats 16000000
section
namespace Go.Ab
section
variable {P:Program} {g0:Gh} {h0:Hp} {w0:Wr} {σ:St} {g:Gh} {w:World} {a:Act} {o:Oper}
theorem Jge{b off:Nat}{vs:Array Value}{ty:TypeId}(hb:w.heap[b]? = some (.cells vs ty (0,0))){us:List Value}(hu:∀ v∈us,v.oneCell'=true)(hl:off+us.length<=vs.size) :
  (storeCells ⟨b,off,none⟩ us).run P w = .ok () (w.setRow b (vs.toList.take off++us++vs.toList.drop (off+us.length)).toArray):=by
 have:=run_storeCells_at P b off ty us 0 vs w hb (by simpa using hl) hu;simpa using this
theorem JdK{t:TypeId}{ti:TI}(ht:Jt P t=some ti){b off:Nat}{vs:Array Value}{ty:TypeId}(hb:w.heap[b]? = some (.cells vs ty (0,0))){v:Value}(hu:∀ c∈v.cells.toList,c.oneCell'=true)
  (hs:v.cells.size=ti.size) (hl:off+v.cells.size<=vs.size) :
  (Instr.storeAt t (.pointer (some ⟨b,off,none⟩)) v).run P w = .ok () (w.setRow b (vs.toList.take off++v.cells.toList++vs.toList.drop (off+v.cells.toList.length)).toArray):=by
 have:=Jge (P:=P) hb hu (by simpa using hl);simp only[Instr.storeAt,Instr.sureAddr,Sem.run_bind,Sem.run_pure,Result.andThen_ok,storeVar,J3 ht];rw[if_neg (by omega)];exact this
theorem Jcg{vs us:List Value}(h1:∀ v∈vs,v.oneCell'=true)(h2:∀ v∈us,v.oneCell'=true)(off k:Nat):∀ v∈vs.take off++us++vs.drop k,v.oneCell'=true:=by
 intro v hv;simp only[List.mem_append] at hv;rcases hv with (hv | hv) | hv
 ·exact h1 v (List.mem_of_mem_take hv)
 ·exact h2 v hv
 ·exact h1 v (List.mem_of_mem_drop hv)
theorem JkK{t:TypeId}{x y:Operand}(ho:o.op = .store t x y)(r:Jae g0 h0 w0 σ g w a){v:Option AV}{h':Hp}(h:Jaf P σ (.store t x y)=some (v,h')):Jh9 P o a g σ.hp w v h':=by
 simp only[Jaf] at h;split at h
 ·rename_i ti id off cs ht hx hy;split at h
  ·rename_i row hrow;split at h
   ·rename_i hb;cases h;cases hy':ev σ y with
    | none=>simp[hy'] at hy
    | some b =>
     simp only[hy',Option.bind_some] at hy;obtain⟨c1,c2⟩:=(r.ev hy').cells hy;obtain⟨bk,vs,ty,f1,f2,f3,f4,f5⟩:=r.st.hp.box id row hrow;have hv:=r.ev hx;generalize hu:a.eval x=u at hv;cases hv with
     | ptr p1 p2 =>
      have:=p2 bk f1;subst this;have hcs:(a.eval y).cells.size=cs.length:=by have:=c1.1;simpa using this
      have hrl:vs.size=row.length:=by have:=f3.1;simpa using this
      have hsound:=r.st.hp.setBox hrow f1 (vs.toList.take off++(a.eval y).cells.toList++vs.toList.drop (off+(a.eval y).cells.toList.length)).toArray (cs':=JdF row off cs) (by simpa using f3.set c1 off) (by simpa using Jcg f4 c2 off _);exact⟨g,_,⟨hsound,.refl _,Jai.setRow w _ (.inl ⟨id,row,hrow,f1⟩),fun b' l=>.inl (Ja2.setBox l),fun _ _ _ e=>.inl e⟩,by
       have:=JdK (P:=P) (w:=w) ht f2 c2 (by omega) (off:=off) (by omega);simp only[execOp,ho,hu,Sem.run_bind,this,Result.andThen_ok,Sem.run_pure]⟩
   ·cases h
  ·cases h
 ·rename_i ti tk n s i off cs ht hx hy;split at h
  ·rename_i k hk;split at h
   ·rename_i row hrow;split at h
    ·rename_i hb;cases h;obtain⟨b1,b2,b3,b4,b5⟩:=hb;cases hy':ev σ y with
     | none=>simp[hy'] at hy
     | some b =>
      simp only[hy',Option.bind_some] at hy;obtain⟨c1,c2⟩:=(r.ev hy').cells hy;have hv:=r.ev hx;have hs0:=r.st.hp.tokE hk hv;obtain⟨bk,c,vs,ty,f1,f2,f3,f4,f5,f6,f7,f8,f9⟩:=r.st.hp.tokS hk hs0;generalize hu:a.eval x=u at hv;cases hv with
      | ep p1 p2 =>
       have:=(p2 bk c _ f1).2.2 b3;subst this;subst b4;have hcs:(a.eval y).cells.size=cs.length:=by have:=c1.1;simpa using this
       have hi:i<k.xs.length:=(List.getElem?_eq_some_iff.1 hrow).1;have hrl:row.length=k.s:=f6 row (List.mem_of_getElem? hrow);have hle:i * k.s+k.s<=k.xs.length * k.s:=by
        calc i * k.s+k.s=(i+1) * k.s:=by rw[Nat.add_mul,Nat.one_mul]
         _<=k.xs.length * k.s:=Nat.mul_le_mul_right _ hi
       have hle2:k.xs.length * k.s<=vs.size:=by rw[f3];exact Nat.mul_le_mul_right _ f4
       have hrowR:J9 g ((vs.toList.drop (i * k.s)).take k.s) row:=⟨by simp;omega,fun j x a e1 e2=>by
        obtain⟨v,q1,q2⟩:=f7 i row j a hrow e2;have hj:j<k.s:=by rw[<- hrl];exact(List.getElem?_eq_some_iff.1 e2).1
        rw[List.getElem?_take,if_pos hj,List.getElem?_drop,Array.getElem?_toList,q1] at e1;cases e1;exact q2⟩
       have hsp:=hrowR.set c1 off;have hspl:(JdF row off cs).length=k.s:=by unfold JdF;simp;omega
       have harr:vs.toList.take (i * k.s+off)++(a.eval y).cells.toList++vs.toList.drop (i * k.s+off+(a.eval y).cells.toList.length)
         = vs.toList.take (i * k.s)++(((vs.toList.drop (i * k.s)).take k.s).take off++(a.eval y).cells.toList++((vs.toList.drop (i * k.s)).take k.s).drop (off+(a.eval y).cells.toList.length))++vs.toList.drop (i * k.s+(((vs.toList.drop (i * k.s)).take k.s).take off++(a.eval y).cells.toList++((vs.toList.drop (i * k.s)).take k.s).drop (off+(a.eval y).cells.toList.length)).length):=by
        have hlen:(((vs.toList.drop (i * k.s)).take k.s).take off++(a.eval y).cells.toList++((vs.toList.drop (i * k.s)).take k.s).drop (off+(a.eval y).cells.toList.length)).length=k.s:=by simp;omega
        rw[hlen,List.take_take,Nat.min_eq_left (by omega),List.drop_take,List.drop_drop];have h1:vs.toList.take (i * k.s+off)=vs.toList.take (i * k.s)++(vs.toList.drop (i * k.s)).take off:=by rw[List.take_add]
        have h2:vs.toList.drop (i * k.s+off+(a.eval y).cells.toList.length)=(vs.toList.drop (i * k.s+(off+(a.eval y).cells.toList.length))).take (k.s - (off+(a.eval y).cells.toList.length))++vs.toList.drop (i * k.s+k.s):=by
         have hk':k.s - (off+(a.eval y).cells.toList.length)+(off+(a.eval y).cells.toList.length)=k.s:=by simp;omega
         rw[<- Nat.add_assoc];conv=>lhs;rw[<- List.take_append_drop (k.s - (off+(a.eval y).cells.toList.length)) (vs.toList.drop (i * k.s+off+(a.eval y).cells.toList.length))]
         rw[List.drop_drop];congr 2
         simp;omega
        rw[h1,h2];simp[List.append_assoc]
       obtain⟨l1,l2⟩:=JeW.set (g:=g) (vs:=vs) (rows:=k.xs) (s:=k.s) ⟨f6,f7⟩ (by omega) hi hsp hspl;rw[<- harr] at l1 l2;have hone:∀ v∈(vs.toList.take (i * k.s+off)++(a.eval y).cells.toList++vs.toList.drop (i * k.s+off+(a.eval y).cells.toList.length)).toArray.toList,v.oneCell'=true:=by simpa using Jcg f8 c2 (i * k.s+off) _
       have hmem:∀ o v,g.mem bk o=some v->(vs.toList.take (i * k.s+off)++(a.eval y).cells.toList++vs.toList.drop (i * k.s+off+(a.eval y).cells.toList.length)).toArray[o]? = some v:=fun o v e=>by
        have ho:o<k.fz * k.s:=by
         rcases Nat.lt_or_ge o (k.fz * k.s) with q | q
         ·exact q
         ·rw[f9 o q] at e;cases e
        have ho2:k.fz * k.s<=i * k.s:=Nat.mul_le_mul_right _ b5;have:=(r.st.hp.mem bk o v e).1;rw[Jaj f2] at this;simp only[List.getElem?_toArray,List.append_assoc];rw[List.getElem?_append_left (by simp;omega),List.getElem?_take,if_pos (by omega),Array.getElem?_toList];exact this
       obtain⟨s1,s2⟩:=r.st.hp.setTok hk f1 _ _ k.fz hs0 l1 hone (by rw[l2];exact f3) (by simp) (by simpa using f4) (Nat.le_refl _) (by simpa using f5) hmem;refine⟨_,_,⟨s1,s2,Jai.setRow w _ (.inr (.inl ⟨tk,k,c,_,hk,f1⟩)),fun b' l=>.inl (Ja2.setTok hk f1 l),fun _ _ _ e=>.inl e⟩,?_⟩;have hst:=JdK (P:=P) (w:=w) ht f2 c2 (by omega) (off:=i * k.s+off) (by omega);simp only[execOp,ho,hu,Sem.run_bind,hst,Result.andThen_ok,Sem.run_pure]
    ·cases h
   ·cases h
  ·cases h
 ·cases h
end
end Go.Ab
end
section
namespace Go.Ab
section
variable {P:Program} {g0:Gh} {h0:Hp} {w0:Wr} {σ:St} {g:Gh} {w:World} {a:Act} {o:Oper}
theorem Jmq{h:Hp}(r:JZ g h w){v:Value}{y:AV}(hv:Rep g v y){ys:List (List AV)}(e:Jhb h y=some ys){s:Nat}(hs:s≠0)(hl:∀ q∈ys,q.length=s) :
  ∃ news:List Value,news.length=ys.length * s/\(∀ u∈news,u.oneCell'=true)/\JeW g news.toArray ys s /\
   ((v = .slice none 0 0/\ys=[])\/∃ ad c,v = .slice (some ad) ys.length c/\ys.length<=c/\∀ j u,news[j]? = some u->w.cell? (ad.add j)=some u):=by
 cases hv with
 | vecN =>
  simp only[Jhb,Option.some.injEq] at e;subst e;exact⟨[],by simp,by simp,⟨by simp,by simp⟩,.inl ⟨rfl,rfl⟩⟩
 | @vecE ad cap _ hf =>
  simp only[Jhb,Option.some.injEq] at e;subst e;exact⟨[],by simp,by simp,⟨by simp,by simp⟩,.inr ⟨ad,cap,rfl,Nat.zero_le _,by simp⟩⟩
 | @vec b off cap s' zs _ f h1 h2 h3 h4 h5 =>
  simp only[Jhb,Option.some.injEq] at e;subst e;have hget:∀ k,k<zs.length * s->∃ x a,zs[k / s]? = some x/\x[k % s]? = some a/\s'=s:=fun k hk=>by
   have hi:k / s<zs.length:=Nat.div_lt_of_lt_mul (by rw[Nat.mul_comm];exact hk);have hx:zs[k / s]? = some zs[k / s]:=List.getElem?_eq_getElem hi;have hxl:=hl _ (List.mem_of_getElem? hx);have hj:k % s<(zs[k / s]).length:=by rw[hxl];exact Nat.mod_lt _ (Nat.pos_of_ne_zero hs)
   exact⟨_,_,hx,List.getElem?_eq_getElem hj,by rw[<- hxl];exact(h1 _ (List.mem_of_getElem? hx)).symm⟩
  have hcell:∀ k,k<zs.length * s->w.cell? ⟨b,off+k,none⟩=some (f (k / s) (k % s))/\(f (k / s) (k % s)).oneCell'=true:=fun k hk=>by
   obtain⟨x,a,e1,e2,e3⟩:=hget k hk;have:=r.mem _ _ _ (h4 _ _ _ _ e1 e2);rw[e3] at this;have hdm:off+k / s * s+k % s=off+k:=by rw[Nat.mul_comm];have:=Nat.div_add_mod k s;omega
   rwa [hdm] at this
  refine⟨(List.range (zs.length * s)).map fun k=>f (k / s) (k % s),by simp,fun u hu=>?_,⟨hl,fun i x j a e1 e2=>?_⟩,.inr ⟨⟨b,off,none⟩,cap,rfl,h3,fun j u hu=>?_⟩⟩
  ·simp only[List.mem_map,List.mem_range] at hu;obtain⟨k,hk,rfl⟩:=hu;exact(hcell k hk).2
  ·have hi:i<zs.length:=(List.getElem?_eq_some_iff.1 e1).1;have hj:j<s:=by rw[<- hl x (List.mem_of_getElem? e1)];exact(List.getElem?_eq_some_iff.1 e2).1
   have hlt:i * s+j<zs.length * s:=by
    calc i * s+j<i * s+s:=by omega
     _=(i+1) * s:=by rw[Nat.add_mul,Nat.one_mul]
     _<=zs.length * s:=Nat.mul_le_mul_right _ hi
   have hd:(i * s+j) / s=i:=by rw[Nat.mul_comm,Nat.mul_add_div (Nat.pos_of_ne_zero hs),Nat.div_eq_of_lt hj,Nat.add_zero]
   have hm:(i * s+j) % s=j:=by rw[Nat.mul_comm,Nat.mul_add_mod];exact Nat.mod_eq_of_lt hj
   refine⟨f i j,?_,h5 _ _ _ _ e1 e2⟩;simp only[List.getElem?_toArray,List.getElem?_map,List.getElem?_range hlt,Option.map_some,hd,hm]
  ·have hk:j<zs.length * s:=by have:=(List.getElem?_eq_some_iff.1 hu).1;simpa using this
   simp only[List.getElem?_map,List.getElem?_range hk,Option.map_some,Option.some.injEq] at hu;subst hu;rw[Addr.add_eq];exact(hcell j hk).1
 | own p1 p2 =>
  rename_i ad n cap t;simp only[Jhb] at e;cases hk:lk h.toks t with
  | none=>simp[hk] at e
  | some k =>
   simp only[hk] at e;split at e
   ·rename_i hn;cases e;obtain⟨b,c,vs,ty,f1,f2,f3,f4,f5,f6,f7,f8,f9⟩:=r.tokS hk (r.tokO hk (Rep.own p1 p2));obtain⟨rfl,rfl⟩:=(p2 b c _ f1).2.2 hn;subst hn;have hle:k.xs.length * k.s<=vs.size:=by rw[f3];exact Nat.mul_le_mul_right _ f4
    by_cases hz:k.xs=[]
    ·refine⟨[],by simp[hz],by simp,⟨by simp[hz],by simp[hz]⟩,.inr ⟨_,_,rfl,f4,by simp⟩⟩
    ·have hks:k.s=s:=by
      obtain⟨x,l,hxl⟩:=List.exists_cons_of_ne_nil hz;rw[<- f6 x (by simp[hxl]),hl x (by simp[hxl])]
     refine⟨vs.toList.take (k.xs.length * k.s),by simp;rw[<- hks];omega,fun u hu=>f8 u (List.mem_of_mem_take hu),⟨hl,fun i x j a e1 e2=>?_⟩,.inr ⟨_,_,rfl,f4,fun j u hu=>?_⟩⟩
     ·obtain⟨v,q1,q2⟩:=f7 i x j a e1 e2;have hi:i<k.xs.length:=(List.getElem?_eq_some_iff.1 e1).1;have hj:j<k.s:=by rw[<- f6 x (List.mem_of_getElem? e1)];exact(List.getElem?_eq_some_iff.1 e2).1
      have hlt:i * k.s+j<k.xs.length * k.s:=by
       calc i * k.s+j<i * k.s+k.s:=by omega
        _=(i+1) * k.s:=by rw[Nat.add_mul,Nat.one_mul]
        _<=k.xs.length * k.s:=Nat.mul_le_mul_right _ hi
      refine⟨v,?_,q2⟩;rw[<- hks];simp only[List.getElem?_toArray,List.getElem?_take,if_pos hlt,Array.getElem?_toList];exact q1
     ·rw[Addr.add_eq,Nat.zero_add,Jaj f2];rw[List.getElem?_take] at hu;split at hu
      ·simpa using hu
      ·cases hu
   ·cases e
 | lit h1=>simp[Jhb] at e
 | agg h0 h1 h2=>simp[Jhb] at e
 | tup h1 h2=>simp[Jhb] at e
 | pp f h1 h2=>simp[Jhb] at e
 | ptr h1 h2=>simp[Jhb] at e
 | ep h1 h2=>simp[Jhb] at e
 | fn h1 h2 h3 h4=>simp[Jhb] at e
 | ifc h1=>simp[Jhb] at e
 | mp h1=>simp[Jhb] at e
 | om h1 h2=>simp[Jhb] at e
 | wit h1 h2=>simp[Jhb] at e
 | yl h1 h2=>simp[Jhb] at e
 | np f h0 h1 h2=>simp[Jhb] at e
theorem Jjh{h:Hp}(r:JZ g h w){v:Value}{y:AV}(hv:Rep g v y){ys:List (List AV)}(e:Jh8 h y=some ys){s:Nat}(hs:s≠0)(hl:∀ q∈ys,q.length=s) :
  ∃ news:List Value,news.length=ys.length * s/\(∀ u∈news,u.oneCell'=true)/\JeW g news.toArray ys s /\
   ((v = .slice none 0 0/\ys=[])\/∃ ad c,v = .slice (some ad) ys.length c/\ys.length<=c/\∀ j u,news[j]? = some u->w.cell? (ad.add j)=some u):=Jmq r hv.unw e hs hl
theorem JeW.append{vs us:List Value}{xs ys:List (List AV)}{s:Nat}(h:JeW g vs.toArray xs s)(k:JeW g us.toArray ys s)(hv:vs.length=xs.length * s)(tail:List Value):JeW g (vs++us++tail).toArray (xs++ys) s:=by
 refine⟨fun x hx=>?_,fun i x j a e1 e2=>?_⟩
 ·rcases List.mem_append.1 hx with hx | hx
  ·exact h.1 x hx
  ·exact k.1 x hx
 ·by_cases hi:i<xs.length
  ·rw[List.getElem?_append_left hi] at e1;obtain⟨v,f1,f2⟩:=h.2 i x j a e1 e2;refine⟨v,?_,f2⟩;simp only[List.getElem?_toArray] at f1 ⊢;have hlt:i * s+j<vs.length:=(List.getElem?_eq_some_iff.1 f1).1;rw[List.append_assoc,List.getElem?_append_left hlt,f1]
  ·rw[List.getElem?_append_right (by omega)] at e1;obtain⟨v,f1,f2⟩:=k.2 _ x j a e1 e2;refine⟨v,?_,f2⟩;simp only[List.getElem?_toArray] at f1 ⊢;have hlt:=(List.getElem?_eq_some_iff.1 f1).1;have hmul:i * s=xs.length * s+(i - xs.length) * s:=by rw[<- Nat.add_mul];congr 1;omega
   rw[List.append_assoc,List.getElem?_append_right (by omega),List.getElem?_append_left (by omega),<- f1];congr 1;omega
theorem Jb8{z:List AV}{zv:Array Value}(h1:∀ v∈zv.toList,v.oneCell'=true)(n:Nat):∀ v∈(Builtin.zeroCells zv n).toList,v.oneCell'=true:=by
 intro v hv;simp only[Builtin.zeroCells,Array.toList_map,List.mem_map,Array.toList_range,List.mem_range] at hv;obtain⟨k,hk,rfl⟩:=hv;have hs0:0<zv.size:=by
  rcases Nat.eq_zero_or_pos zv.size with h0 | h0
  ·rw[h0] at hk;simp at hk
  ·exact h0
 have hlt:k % zv.size<zv.size:=Nat.mod_lt _ hs0;rw[getElem!_pos zv _ hlt];exact h1 _ (by simp)
theorem Jai.drewAlloc(F:Nat->Prop)(w:World)(x:Obj):Jai F w (w.drew.alloc x):=(Jai.drew F w).trans (Jai.alloc F w.drew x) (fun _ h=>.inl h)
theorem Jbt{t e ty:TypeId}{i:TypeInfo}(ht:P.underlying t=some (.slice e))(hi:P.info? e=some i){base:Option Addr}{n cap:Nat}(hc:n<=cap){yv:Value}(hy:yv = .slice none 0 0\/∃ ad c,yv = .slice (some ad) 0 c) :
  (Builtin.append_ #[t,t] ty #[.slice base n cap,yv]).run P w = .ok (.slice base n cap) w:=by
 rcases hy with rfl | ⟨ad,c,rfl⟩ <;> cases base <;>
  simp[Builtin.append_,run_underlying ht,sizeOf,typeInfo,hi,Builtin.lenOf,hc,Builtin.firstCells,loadCells,loadCellsFrom,storeCells]
theorem Rep.full_cap{v:Value}{xs:List (List AV)}(h:Rep g v (.vec xs true)):∀ ad n cap,v = .slice (some ad) n cap->cap=xs.length:=by
 intro ad n cap e;cases h with
 | vecN=>cases e
 | vecE h=>cases e;exact h rfl
 | vec f h1 h2 h3 h4 h5=>cases e;exact h2 rfl
theorem JfM{t e ty':TypeId}(ty:TypeId){i:TypeInfo}(ht:P.underlying t=some (.slice e))(hi:P.info? e=some i)
  (b sLen sCap:Nat) (cur:Array Value) (hg:w.heap[b]? = some (.cells cur ty' (0,0)))
  (a:Addr) (m c:Nat) (news:List Value) (hl:news.length=m * i.size) (hnews:∀ j u,news[j]? = some u->w.cell? (a.add j)=some u) (h1:∀ u∈news,u.oneCell'=true)
  (hroom:sLen+m<=sCap) (hfit:sLen * i.size+news.length<=cur.size) :
  (Builtin.append_ #[t,t] ty #[.slice (some ⟨b,0,none⟩) sLen sCap,.slice (some a) m c]).run P w =
   .ok (.slice (some ⟨b,0,none⟩) (sLen+m) sCap) (w.setRow b (cur.toList.take (sLen * i.size)++news++cur.toList.drop (sLen * i.size+news.length)).toArray):=by
 have hf:=run_firstCells_some (P:=P) w i.size m a m c news hl hnews;have hst:=run_storeCells_at P b (sLen * i.size) ty' news 0 cur w hg (by simpa using hfit) h1;simp only[Nat.add_zero] at hst;simp[Builtin.append_,run_underlying ht,sizeOf,typeInfo,hi,Builtin.lenOf,hroom,hf,Addr.add_lit,hst]
theorem Jp5{xs:Array Operand}{b c:AV}(h:evL σ xs.toList=some [b,c]):∃ x y,xs = #[x,y]/\ev σ x=some b/\ev σ y=some c:=JkG h
theorem Jji{c:Call}(hc:c.callee = .builtin .append)(ho:o.op = .call c)(r:Jae g0 h0 w0 σ g w a){v:Option AV}{h':Hp}(h:Jaf P σ (.call c)=some (v,h')):Jh9 P o a g σ.hp w v h':=by
 simp only[Jaf,hc] at h;split at h
 ·rename_i t t' x y _ hat hargs;obtain⟨px,py,hpq,ex,ey⟩:=Jp5 hargs;have hat':c.argTypes = #[t,t']:=by rw[<- Array.toArray_toList (xs:=c.argTypes),hat]
  split at h
  ·rename_i ti ys ht hys;obtain⟨it,dt,q1,q2,q3,_⟩:=JD ht;split at h
   ·rename_i e hkd;rw[q3] at hkd;have:=JbF hkd;subst this;split at h
    ·rename_i te hte;obtain⟨ie,de,e1,e2,e3,e4,e5,e6⟩:=JD hte;split at h
     ·rename_i z hz;obtain⟨zv,z1,z2⟩:=e6 z hz;obtain⟨z3,z4⟩:=J9.cellsAV (g:=g) z2;split at h
      ·rename_i hb;obtain⟨rfl,hzl,hne,hyl⟩:=hb;have hzs:zv.cells.size=te.size:=by have:=z3.1;simp at this;omega
       obtain⟨news,n1,n2,n3,n4⟩:=Jjh r.st.hp (r.ev ey) hys hne hyl;have hrun:∀ u w',(Builtin.append_ #[t,t] o.type #[a.eval px,a.eval py]).run P w = .ok u w'->(execOp a.eval o).run P w = .ok (.value u) w':=fun u w' hu=>by
        simp only[execOp,ho,Sem.run_bind,resolve,hc,Sem.run_pure,Result.andThen_ok,invoke,builtin,hpq,List.map_toArray,List.map_cons,List.map_nil,hat',hu]
       have hy0:ys.length=0->a.eval py = .slice none 0 0\/∃ ad c,a.eval py = .slice (some ad) 0 c:=fun q=>by
        rcases n4 with ⟨k1,_⟩ | ⟨ad,c,k1,_⟩
        ·exact .inl k1
        ·rw[q] at k1;exact .inr ⟨ad,c,k1⟩
       split at h
       ·rename_i xs;split at h
        ·rename_i hfit;obtain⟨hxl,hf1,hf2⟩:=hfit;have hx:=r.ev ex;obtain⟨olds,o1,o2,o3,o4⟩:=Jjh r.st.hp hx (ys:=xs) rfl hne hxl;split at h
         ·rename_i hm;cases h;refine⟨g,w,.refl r.st.hp,a.eval px,hrun _ _ ?_,hx⟩;generalize hu:a.eval px=u at hx;cases hx with
          | vecN=>exact Jbt q2 e1 (Nat.le_refl _) (hy0 hm)
          | vecE _=>exact Jbt q2 e1 (Nat.zero_le _) (hy0 hm)
          | vec f h1 h2 h3 h4 h5=>exact Jbt q2 e1 h3 (hy0 hm)
         ·rename_i hm;cases h;rcases n4 with ⟨_,k2⟩ | ⟨ad,c',k1,_,k3⟩
          ·exact absurd (by rw[k2];rfl) hm
          ·
           have fin:∀ (cap:Nat) (vs:Array Value),vs=(olds++news++(Builtin.zeroCells zv.cells (cap - (xs.length+ys.length))).toList).toArray->xs.length+ys.length<=cap ->
             JW g σ.hp w (g.addTok w.drew.heap.size cap (xs++ys).length) {σ.hp with toks:=σ.hp.toks++[(σ.hp.nx,⟨xs++ys,0,te.size⟩)],nx:=σ.hp.nx+1} (w.drew.alloc (.cells vs e)) /\
             Rep (g.addTok w.drew.heap.size cap (xs++ys).length) (.slice (some ⟨w.heap.size,0,none⟩) (xs.length+ys.length) cap) (.own σ.hp.nx (xs.length+ys.length)):=by
            intro cap vs hvs hcap;have hl:=o3.append n3 o1 (Builtin.zeroCells zv.cells (cap - (xs.length+ys.length))).toList;rw[<- hvs] at hl;have hone:∀ v∈vs.toList,v.oneCell'=true:=by
             subst hvs;intro v hv;simp only[List.mem_append] at hv;rcases hv with (hv | hv) | hv
             ·exact o2 v hv
             ·exact n2 v hv
             ·exact Jb8 (z:=z) z4 _ v hv
            have hsz:vs.size=cap * te.size:=by
             subst hvs;simp only[List.size_toArray,List.length_append,o1,n1,Array.length_toList,size_zeroCells,hzs,<- Nat.add_mul];congr 1;omega
            refine⟨⟨r.st.hp.drew.addTok vs e (xs++ys) te.size cap hl hone hsz (by simpa using hcap) hne,Ext.addTok _ _ _ _,Jai.drewAlloc _ _ _,fun b l=>Ja2.addTok r.st.hp.drew l,fun b o v q=>.inl q⟩,?_⟩;refine .own (by simp[Gh.addTok,r.st.hp.nx]) (fun b c n q=>?_);simp only[Gh.addTok,r.st.hp.nx,if_true,Option.some.injEq,Prod.mk.injEq] at q;obtain⟨rfl,rfl,rfl⟩:=q;exact⟨by simpa using hcap,by simp⟩
           have hpos:0<ys.length:=Nat.pos_of_ne_zero hm;have h63:((xs.length+ys.length:Nat):Int)<=9223372036854775807:=by have:=hf1;unfold maxLen at this;omega
           rw[e5] at hf2;rw[e4] at n1 o1;rcases o4 with ⟨k4,k5⟩ | ⟨ad',c'',k4,k6,k5⟩
           ·have hx0:xs.length=0:=by rw[k5];rfl
            have hol:olds=[]:=List.eq_nil_of_length_eq_zero (by rw[o1,hx0];simp);have hr:=run_append_nil (P:=P) w t o.type e ie zv q2 e1 z1 ad ys.length c' news n1 k3 hpos (by omega) (by rw[hx0] at hf2;simp at hf2;omega);rw[<- k4,<- k1] at hr;have harr:news.toArray++Builtin.zeroCells zv.cells (grownCap w ys.length 0 e - ys.length)=(olds++news++(Builtin.zeroCells zv.cells (grownCap w ys.length 0 e - (xs.length+ys.length))).toList).toArray:=by apply Array.ext';simp[hol,hx0]
            rw[harr] at hr;obtain⟨s1,s2⟩:=fin (grownCap w ys.length 0 e) _ rfl (by rw[hx0,Nat.zero_add];exact grownCap_ge w _ _ _);refine⟨_,_,s1,_,hrun _ _ hr,?_⟩;have:xs.length+ys.length=ys.length:=by omega
            rw[this] at s2 ⊢;exact s2
           ·have hcap:c''=xs.length:=Rep.full_cap hx _ _ _ k4;subst hcap;have hr:=run_append_grow (P:=P) w t o.type e ie zv q2 e1 z1 ad' xs.length xs.length olds o1 k5 ad ys.length c' news n1 k3 (by omega) h63 (growslice_fits (by omega) hf2);rw[<- k4,<- k1] at hr;have harr:olds.toArray++news.toArray++Builtin.zeroCells zv.cells (grownCap w (xs.length+ys.length) xs.length e - (xs.length+ys.length))=(olds++news++(Builtin.zeroCells zv.cells (grownCap w (xs.length+ys.length) xs.length e - (xs.length+ys.length))).toList).toArray:=by apply Array.ext';simp
            rw[harr] at hr;obtain⟨s1,s2⟩:=fin (grownCap w (xs.length+ys.length) xs.length e) _ rfl (grownCap_ge w _ _ _);exact⟨_,_,s1,_,hrun _ _ hr,s2⟩
        ·cases h
       ·rename_i tk n;split at h
        ·rename_i k hk;split at h
         ·rename_i hfit;cases h;obtain⟨rfl,hks,hf1,hf2⟩:=hfit;have hx:=r.ev ex;have hs0:=r.st.hp.tokO hk hx;obtain⟨b,cc,vs,ty,f1,f2,f3,f4,f5,f6,f7,f8,f9⟩:=r.st.hp.tokS hk hs0;generalize hu:a.eval px=u at hx;cases hx with
          | own p1 p2 =>
           rename_i ao cap;obtain⟨rfl,rfl⟩:=(p2 b cc _ f1).2.2 rfl;by_cases hm:ys.length=0
           ·have hnil:ys=[]:=List.eq_nil_of_length_eq_zero hm;subst hnil;have hkk:∀ i c,lk (up σ.hp.toks tk ⟨k.xs++[],k.fz,k.s⟩) i=some c->lk σ.hp.toks i=some c:=fun i c q=>by
             rw[JH] at q;split at q
             ·rename_i hi;subst hi;rw[hk] at q ⊢;simpa using q
             ·exact q
            refine⟨g,w,⟨r.st.hp.less rfl (fun _ _ q=>q) hkk,.refl _,.refl _ _,fun b' l=>.inl (Ja2.less (h:=σ.hp) (h':={σ.hp with toks:=up σ.hp.toks tk ⟨k.xs++[],k.fz,k.s⟩}) (fun _ _ q=>q) hkk l),fun _ _ _ q=>.inl q⟩,.slice (some ⟨b,0,none⟩) k.xs.length cap,hrun _ _ ?_,?_⟩
            ·rw[hu];exact Jbt q2 e1 f4 (hy0 hm)
            ·simpa using Rep.own p1 p2
           ·rcases n4 with ⟨_,k2⟩ | ⟨ad,c',k1,_,k3⟩
            ·exact absurd (by rw[k2];rfl) hm
            ·have hpos:0<ys.length:=Nat.pos_of_ne_zero hm;have h63:((k.xs.length+ys.length:Nat):Int)<=9223372036854775807:=by have:=hf1;unfold maxLen at this;omega
             have hle:k.xs.length * k.s<=vs.size:=by rw[f3];exact Nat.mul_le_mul_right _ f4
             have holds:(vs.toList.take (k.xs.length * k.s)).length=k.xs.length * k.s:=by simp;omega
             have hold2:JeW g (vs.toList.take (k.xs.length * k.s)).toArray k.xs k.s:=⟨f6,fun i x j a e1 e2=>by
              obtain⟨v,q1,q2⟩:=f7 i x j a e1 e2;have hi:i<k.xs.length:=(List.getElem?_eq_some_iff.1 e1).1;have hj:j<k.s:=by rw[<- f6 x (List.mem_of_getElem? e1)];exact(List.getElem?_eq_some_iff.1 e2).1
              have hlt:i * k.s+j<k.xs.length * k.s:=by
               calc i * k.s+j<i * k.s+k.s:=by omega
                _=(i+1) * k.s:=by rw[Nat.add_mul,Nat.one_mul]
                _<=k.xs.length * k.s:=Nat.mul_le_mul_right _ hi
              exact⟨v,by simp only[List.getElem?_toArray,List.getElem?_take,if_pos hlt,Array.getElem?_toList];exact q1,q2⟩⟩
             have n3':JeW g news.toArray ys k.s:=by rw[hks];exact n3
             have n1':news.length=ys.length * k.s:=by rw[hks];exact n1
             by_cases hroom:k.xs.length+ys.length<=cap
             ·
              have hl:=hold2.append n3' holds (vs.toList.drop (k.xs.length * k.s+news.length));have hfit:k.xs.length * k.s+news.length<=vs.size:=by rw[n1',f3,<- Nat.add_mul];exact Nat.mul_le_mul_right _ hroom
              have hone:∀ v∈(vs.toList.take (k.xs.length * k.s)++news++vs.toList.drop (k.xs.length * k.s+news.length)).toArray.toList,v.oneCell'=true:=by simpa using Jcg f8 n2 (k.xs.length * k.s) _
              have hmem:∀ o v,g.mem b o=some v->(vs.toList.take (k.xs.length * k.s)++news++vs.toList.drop (k.xs.length * k.s+news.length)).toArray[o]? = some v:=fun o v q=>by
               have ho:o<k.fz * k.s:=by
                rcases Nat.lt_or_ge o (k.fz * k.s) with q' | q'
                ·exact q'
                ·rw[f9 o q'] at q;cases q
               have ho2:k.fz * k.s<=k.xs.length * k.s:=Nat.mul_le_mul_right _ f5;have:=(r.st.hp.mem b o v q).1;rw[Jaj f2] at this;simp only[List.getElem?_toArray,List.append_assoc];rw[List.getElem?_append_left (by simp;omega),List.getElem?_take,if_pos (by omega),Array.getElem?_toList];exact this
              obtain⟨s1,s2⟩:=r.st.hp.setTok hk f1 _ _ k.fz hs0 hl hone (by simp only[List.size_toArray,List.length_append,List.length_take,List.length_drop,Array.length_toList];omega) (by simp) (by simpa using hroom) (Nat.le_refl _) (by simp;omega) hmem;have hks':k.s=ie.size:=by rw[hks,e4]
              have hr:=JfM (P:=P) (w:=w) o.type q2 e1 b k.xs.length cap vs f2 ad ys.length c' news (by rw[n1',hks']) k3 n2 hroom (by rw[<- hks'];exact hfit);rw[<- hks',<- hu,<- k1] at hr;refine⟨_,_,⟨s1,s2,Jai.setRow w _ (.inr (.inl ⟨tk,k,cap,_,hk,f1⟩)),fun b' l=>.inl (Ja2.setTok hk f1 l),fun _ _ _ q=>.inl q⟩,_,hrun _ _ hr,?_⟩;refine .own p1 (fun b' c2 m q=>?_);simp only[Gh.setTok,if_true,Option.some.injEq,Prod.mk.injEq] at q;obtain⟨rfl,rfl,rfl⟩:=q;exact⟨by simpa using hroom,by simp⟩
             ·have holdc:∀ j u,(vs.toList.take (k.xs.length * k.s))[j]? = some u->w.cell? ((⟨b,0,none⟩:Addr).add j)=some u:=fun j u q=>by
               rw[Addr.add_eq,Nat.zero_add,Jaj f2];rw[List.getElem?_take] at q;split at q
               ·simpa using q
               ·cases q
              have hks':k.s=ie.size:=by rw[hks,e4]
              rw[e5] at hf2;have hr:=run_append_grow (P:=P) w t o.type e ie zv q2 e1 z1 ⟨b,0,none⟩ k.xs.length cap (vs.toList.take (k.xs.length * k.s)) (by rw[holds,hks']) holdc ad ys.length c' news (by rw[n1',hks']) k3 (by omega) h63 (growslice_fits (by omega) hf2);rw[<- hu,<- k1] at hr;have hge:=grownCap_ge w (k.xs.length+ys.length) cap e;have hl:=hold2.append n3' holds (Builtin.zeroCells zv.cells (grownCap w (k.xs.length+ys.length) cap e - (k.xs.length+ys.length))).toList;have harr:(vs.toList.take (k.xs.length * k.s)).toArray++news.toArray++Builtin.zeroCells zv.cells (grownCap w (k.xs.length+ys.length) cap e - (k.xs.length+ys.length))=(vs.toList.take (k.xs.length * k.s)++news++(Builtin.zeroCells zv.cells (grownCap w (k.xs.length+ys.length) cap e - (k.xs.length+ys.length))).toList).toArray:=by apply Array.ext';simp
              rw[harr] at hr;have hone:∀ v∈(vs.toList.take (k.xs.length * k.s)++news++(Builtin.zeroCells zv.cells (grownCap w (k.xs.length+ys.length) cap e - (k.xs.length+ys.length))).toList).toArray.toList,v.oneCell'=true:=by
               intro v hv;simp only[List.mem_append] at hv;rcases hv with (hv | hv) | hv
               ·exact f8 v (List.mem_of_mem_take hv)
               ·exact n2 v hv
               ·exact Jb8 (z:=z) z4 _ v hv
              obtain⟨s1,s2⟩:=r.st.hp.drew.moveTok hk _ e (k.xs++ys) (grownCap w (k.xs.length+ys.length) cap e) hs0 hl hone (by
               simp only[List.size_toArray,List.length_append,holds,n1',Array.length_toList,size_zeroCells,hzs,<- hks,<- Nat.add_mul];congr 1;omega) (by simp;omega) (by simpa using hge)
              refine⟨_,_,⟨s1,s2,Jai.drewAlloc _ _ _,fun b' l=>Ja2.moveTok l,fun _ _ _ q=>.inl q⟩,_,hrun _ _ hr,?_⟩;refine .own p1 (fun b' c2 m q=>?_);simp only[Gh.setTok,if_true,Option.some.injEq,Prod.mk.injEq] at q;obtain⟨rfl,rfl,rfl⟩:=q;exact⟨by simpa using hge,by simp⟩
         ·cases h
        ·cases h
       ·cases h
      ·cases h
     ·cases h
    ·cases h
   ·cases h
  ·cases h
 ·cases h
end
end Go.Ab
end
section
namespace Go.Ab
section
variable {P:Program} {g0:Gh} {h0:Hp} {w0:Wr} {σ:St} {g:Gh} {w:World} {a:Act} {o:Oper}
theorem Jgf{t:TypeId}{l c:Operand}(ho:o.op = .makeSlice t l c)(r:Jae g0 h0 w0 σ g w a){v:Option AV}{h':Hp}(h:Jaf P σ (.makeSlice t l c)=some (v,h')):Jh9 P o a g σ.hp w v h':=by
 simp only[Jaf] at h;split at h
 ·rename_i ti n m ht hn hm;obtain⟨d,u1,u2⟩:=J1 (w:=w) ht;obtain⟨kn,en⟩:=JkE r hn;obtain⟨km,em⟩:=JkE r hm;split at h
  ·rename_i e hkd;rw[u2] at hkd;have:=JbF hkd;subst this;split at h
   ·rename_i te hte;obtain⟨ie,de,e1,e2,e3,e4,e5,e6⟩:=JD hte;split at h
    ·rename_i z hz;obtain⟨zv,z1,z2⟩:=e6 z hz;obtain⟨z3,z4⟩:=J9.cellsAV (g:=g) z2;split at h
     ·rename_i hb;cases h;obtain⟨b1,b2,b3,b4,b5,b6⟩:=hb;obtain⟨c1,c2,c3⟩:=JdZ z3 z4 m.toNat te.size b5;have hl:JeW g ((Array.range (m.toNat * te.size)).map (zv.cells[· % zv.cells.size]!)) (List.replicate n.toNat z) te.size:=by
       refine⟨fun x hx=>by rw[(List.mem_replicate.1 hx).2];exact b5,fun i x j a f1 f2=>c1.2 i x j a ?_ f2⟩;rw[List.getElem?_replicate] at f1 ⊢;split at f1
       ·rw[if_pos (by omega)];exact f1
       ·cases f1
      have hsound:=r.st.hp.addTok _ e (List.replicate n.toNat z) te.size m.toNat hl c3 c2 (by simp;omega) b6;rw[e5] at b4;have w1:IntKind.i64.wrap n=n:=IntWalk.i64_in n ⟨by omega,by omega⟩;have w2:IntKind.i64.wrap m=m:=IntWalk.i64_in m ⟨by omega,b3⟩;have hn0:¬ n<0:=by omega
      have hm0:¬ m<0:=by omega
      have hnm:¬ m<n:=by omega
      have hby:¬ (281474976710656:Int)<ie.bytes * m:=by omega
      refine⟨_,_,⟨hsound,Ext.addTok _ _ _ _,Jai.alloc _ _ _,fun b l=>Ja2.addTok r.st.hp l,fun _ _ _ q=>.inl q⟩,.slice (some ⟨w.heap.size,0,none⟩) n.toNat m.toNat,?_,?_⟩
      ·simp only[execOp,ho,Sem.run_bind,Instr.makeSlice,u1,Result.andThen_ok,en,em,asInt,asIntOf,Sem.run_pure,typeInfo,run_program,e1,w1,w2];rw[Sem.run_ite,if_neg (by simp;omega)];simp only[Sem.run_bind,run_askRoom,Result.andThen_ok,J3 hte,Sem.run_ite];by_cases hz0:m.toNat * te.size=0
       ·simp only[if_pos hz0,Sem.run_bind,Sem.run_pure,Result.andThen_ok,newRow,run_newObj,World.alloc_eq];rw[hz0];have hr0:Array.range 0 = #[]:=by simp
        simp[hr0]
       ·simp only[if_neg hz0,Sem.run_bind,Sem.run_pure,Result.andThen_ok,zeroValue,typeInfo,run_program,e1,z1,newRow,run_newObj,World.alloc_eq]
      ·refine .own (by simp[Gh.addTok,r.st.hp.nx]) (fun b c n' q=>?_);simp only[Gh.addTok,r.st.hp.nx,if_true,Option.some.injEq,Prod.mk.injEq,List.length_replicate] at q;obtain⟨rfl,rfl,rfl⟩:=q;exact⟨by omega,by simp⟩
     ·cases h
    ·cases h
   ·cases h
  ·cases h
 ·cases h
theorem JcR(r:Jae g0 h0 w0 σ g w a){v:Option AV}{h':Hp}(h:Jaf P σ o.op=some (v,h')):Jh9 P o a g σ.hp w v h':=by
 cases ho:o.op with
 | alloc t=>rw[ho] at h;exact JkI ho r h
 | box t x=>rw[ho] at h;exact JnN ho r h
 | buildSlice t n p=>rw[ho] at h;exact JfL ho r h
 | store t x y=>rw[ho] at h;exact JkK ho r h
 | makeSlice t l c=>rw[ho] at h;exact Jgf ho r h
 | makeMap t q =>
  rw[ho] at h;cases q with
  | none=>exact Jia ho r h
  | some _=>simp[Jaf] at h
 | mapUpdate t m x y=>rw[ho] at h;exact Jgd ho r h
 | call c =>
  rw[ho] at h;cases hc:c.callee with
  | builtin b =>
   cases b with
   | append=>exact Jji hc ho r h
   | _=>simp[Jaf,hc] at h
  | _=>simp[Jaf,hc] at h
 | _=>rw[ho] at h;simp[Jaf] at h
def St.put(σ:St)(d:Option Tmp)(v:AV):St :=
 match d with
 | some d=>if d<σ.nt then {σ with slots:=(d,v) :: σ.slots} else {σ with slots:=[]}
 | none=>σ
def St.drop(σ:St)(d:Option Tmp):St:=σ.put d (.tup [])
theorem Jae.heap{g':Gh}{h':Hp}{w':World}(r:Jae g0 h0 w0 σ g w a)(s:JW g σ.hp w g' h' w'):Jae g0 h0 w0 {σ with hp:=h'} g' w' a :=
 ⟨r.st.trans s,fun i v e=>let ⟨u,e1,e2⟩:=r.slots i v e;⟨u,e1,e2.mono s.ext⟩,r.nt,r.defers.step r.st.hp s⟩
theorem Jae.put(r:Jae g0 h0 w0 σ g w a)(d:Option Tmp){u:Value}{v:AV}(hv:Rep g u v):Jae g0 h0 w0 (σ.put d v) g w (a.put d u):=by
 cases d with
 | none=>exact r
 | some d =>
  simp only[St.put];split
  ·rename_i hd;refine⟨r.st,fun s v' e=>?_,by simp[Act.put,r.nt],r.defers⟩;simp only[lk] at e;by_cases hs:d=s
   ·subst hs;simp only[if_true,Option.some.injEq] at e;subst e;exact⟨u,by simp[Act.put,r.nt,hd],hv⟩
   ·rw[if_neg hs] at e;obtain⟨u',e1,e2⟩:=r.slots s v' e;exact⟨u',by simp only[Act.put,Array.getElem?_setIfInBounds_ne hs];exact e1,e2⟩
  ·exact⟨r.st,fun s v' e=>(nomatch e),by simp[Act.put,r.nt],r.defers⟩
theorem Jae.drop(r:Jae g0 h0 w0 σ g w a)(d:Option Tmp):Jae g0 h0 w0 (σ.drop d) g w (a.put d undef) :=
 r.put d (Rep.tup (cs := #[]) (as:=[]) rfl (by simp))
def JcS:AV->Option Bool
 | .lit (.bool b)=>some b
 | _=>none
theorem Jen{v:AV}{b:Bool}(h:JcS v=some b):v = .lit (.bool b):=by
 unfold JcS at h;split at h
 ·cases h;rfl
 ·cases h
def Jcz(P:Program)(f:FuncId)(args:List AV)(σ:St)(d:Option Tmp)(K:St->Prop):Prop :=
 (∃ fn,P.funcs[f]? = some fn/\fn.body.isNone=false/\(fn.name == "runtime.NumGoroutine")=false)/\JU P f args σ.hp (fun r h'=>K ({σ with hp:=h'}.put d r))
def JcA(x:Option AV)(d:Option Tmp)(K:St->Prop)(σ:St):Prop :=
 match x with
 | some v=>K (σ.put d v)
 | none=>False
theorem Xbp{v:AV}{d:Option Tmp}{K:St->Prop}{σ:St}:JcA (some v) d K σ=K (σ.put d v):=rfl
def Jfn(b:Bool)(x y:Operand)(d:Option Tmp)(K:St->Prop)(σ:St):Prop:=(b=true->JcA (ev σ x) d K σ)/\(b=false->JcA (ev σ y) d K σ)
theorem Xbl{x y:Operand}{d:Option Tmp}{K:St->Prop}{σ:St}:Jfn true x y d K σ=JcA (ev σ x) d K σ:=by simp[Jfn]
theorem Xbm{x y:Operand}{d:Option Tmp}{K:St->Prop}{σ:St}:Jfn false x y d K σ=JcA (ev σ y) d K σ:=by simp[Jfn]
def Jp6(c:Option Bool)(d:Option Tmp)(x y:Operand)(K:St->Prop)(σ:St):Prop :=
 match c with
 | some b=>Jfn b x y d K σ
 | none=>False
theorem Xbo{b:Bool}{d:Option Tmp}{x y:Operand}{K:St->Prop}{σ:St}:Jp6 (some b) d x y K σ=Jfn b x y d K σ:=rfl
theorem JcT{x:Option AV}{d:Option Tmp}{K:St->Prop}{σ:St}(h:JcA x d K σ):∃ v,x=some v/\K (σ.put d v):=by
 cases x with
 | none=>exact h.elim
 | some v=>exact⟨v,rfl,h⟩
def Jp7:AV->Option (FuncId × List AV × List AV)
 | .fn (.func id) a b=>some (id,a,b)
 | _=>none
theorem Jjj{v:AV}{id:FuncId}{a b:List AV}(h:Jp7 v=some (id,a,b)):v = .fn (.func id) a b:=by
 unfold Jp7 at h;split at h
 ·cases h;rfl
 ·cases h
def Jb6(P:Program)(σ:St)(op:Op):Option (Option AV × Hp) :=
 match Jz P σ op with
 | some v=>some (some v,σ.hp)
 | none=>Jaf P σ op
def JnO(P:Program)(o:Oper)(x:Option (Option AV × Hp))(K:St->Prop)(σ:St):Prop :=
 match x with
 | some (some v,h)=>K (St.put {σ with hp:=h} o.dst v)
 | some (none,h)=>K (St.drop {σ with hp:=h} o.dst)
 | none=>JeY P o K σ
theorem Xci{P:Program}{o:Oper}{v:AV}{h:Hp}{K:St->Prop}{σ:St}:JnO P o (some (some v,h)) K σ=K (St.put {σ with hp:=h} o.dst v):=rfl
theorem Xcj{P:Program}{o:Oper}{h:Hp}{K:St->Prop}{σ:St}:JnO P o (some (none,h)) K σ=K (St.drop {σ with hp:=h} o.dst):=rfl
def Jt5(P:Program)(o:Oper)(x:Option ((FuncId × List AV × List AV) × List AV))(K:St->Prop)(σ:St):Prop :=
 match x with
 | some (q,as)=>Jcz P q.1 (q.2.1++as++q.2.2) σ o.dst K
 | none=>JeY P o K σ
theorem Xck{P:Program}{o:Oper}{f:FuncId}{a as b:List AV}{K:St->Prop}{σ:St}:Jt5 P o (some ((f,a,b),as)) K σ=Jcz P f (a++as++b) σ o.dst K:=rfl
def JkL{α β:Type}:Option α->Option β->Option (α × β)
 | some a,some b=>some (a,b)
 | _,_=>none
def awo (P:Program)(o:Oper)(K:St->Prop)(σ:St):Prop :=
 match o.op with
 | .pick c x y=>Jp6 ((ev σ c).bind JcS) o.dst x y K σ
 | .call ⟨.value f,args,_⟩=>Jt5 P o (JkL ((ev σ f).bind Jp7) (evL σ args.toList)) K σ
 | _=>JnO P o (Jb6 P σ o.op) K σ
theorem Jjk{K:St->Prop}{v:AV}(h:Jz P σ o.op=some v)(hk:K (σ.put o.dst v)):JeY P o K σ:=by
 intro g0 h0 w0 g w a Q r;obtain⟨u,e1,e2⟩:=Je3 r h;unfold Oper.wp;rw[e1];exact⟨_,g,hk,r.put o.dst e2⟩
theorem JnP{K:St->Prop}{v:AV}{h':Hp}(h:Jaf P σ o.op=some (some v,h'))(hk:K ({σ with hp:=h'}.put o.dst v)):JeY P o K σ:=by
 intro g0 h0 w0 g w a Q r;obtain⟨g',w',s,u,e1,e2⟩:=JcR r h;unfold Oper.wp;rw[e1];exact⟨_,g',hk,(r.heap s).put o.dst e2⟩
theorem Jhc{K:St->Prop}{h':Hp}(h:Jaf P σ o.op=some (none,h'))(hk:K ({σ with hp:=h'}.drop o.dst)):JeY P o K σ:=by
 intro g0 h0 w0 g w a Q r;obtain⟨g',w',s,e1⟩:=JcR r h;unfold Oper.wp;simp only at e1;rw[e1];exact⟨_,g',hk,(r.heap s).drop o.dst⟩
theorem JnQ{K:St->Prop}{c x y:Operand}(ho:o.op = .pick c x y)(h:Jp6 ((ev σ c).bind JcS) o.dst x y K σ):JeY P o K σ:=by
 intro g0 h0 w0 g w a Q r;cases hb:(ev σ c).bind JcS with
 | none=>rw[hb] at h;exact h.elim
 | some b =>
  rw[hb] at h;have hs:Jfn b x y o.dst K σ:=h;obtain⟨cv,hc,hcv⟩:=Option.bind_eq_some_iff.1 hb;have:=Jen hcv;subst this;have hcv:=(Rep.of_lit (r.ev hc)).1;cases b with
  | true =>
   obtain⟨v,e1,e2⟩:=JcT (hs.1 rfl);unfold Oper.wp;simp only[execOp,ho,hcv,asBool,Sem.run_bind,Sem.run_pure,Result.andThen_ok,if_true];exact⟨_,g,e2,r.put o.dst (r.ev e1)⟩
  | false =>
   obtain⟨v,e1,e2⟩:=JcT (hs.2 rfl);unfold Oper.wp;simp only[execOp,ho,hcv,asBool,Sem.run_bind,Sem.run_pure,Result.andThen_ok];exact⟨_,g,e2,r.put o.dst (r.ev e1)⟩
theorem JnR{K:St->Prop}{f:Operand}{args:Array Operand}{tys:Array TypeId}(ho:o.op = .call ⟨.value f,args,tys⟩){id:FuncId}{first cap as:List AV}(hf:ev σ f=some (.fn (.func id) first cap))(ha:evL σ args.toList=some as)
  (h:Jcz P id (first++as++cap) σ o.dst K):JeY P o K σ:=by
 intro g0 h0 w0 g w a Q r;obtain⟨⟨fn,k1,k2,k3⟩,hc⟩:=h;have hv:=r.ev hf;have hl:=r.evL ha;generalize hu:a.eval f=u at hv;cases hv with
 | fn p1 p2 p3 p4 =>
  rename_i fs cs;have hargs:J9 g (fs++args.map a.eval++cs).toList (first++as++cap):=by
   simp only[Array.toList_append,Array.toList_map];exact(J9.append (J9.append ⟨p1,p2⟩ hl) ⟨p3,p4⟩)
  have hrun:(execOp a.eval o).run P w = .ok (.enter id (fs++args.map a.eval++cs)) w:=by
   simp only[execOp,ho,Sem.run_bind,resolve,hu,Deferred.ofValue,Sem.run_pure,Result.andThen_ok,invoke,callFunc,run_program,k1,k2,k3];simp
  unfold Oper.wp;rw[hrun];refine(hc g w _ r.st.hp hargs).mono fun e w' hh=>?_
  obtain⟨v,rr,h',g',he,hr,hs,hk⟩:=hh;subst he;exact⟨_,g',hk,(r.heap hs).put o.dst hr⟩
theorem JdL{K:St->Prop}(h:awo P o K σ):JeY P o K σ:=by
 unfold awo at h;split at h
 ·rename_i c x y ho;exact JnQ ho h
 ·rename_i f args tys ho;cases hf:(ev σ f).bind Jp7 with
  | none=>rw[hf] at h;exact h
  | some q =>
   rw[hf] at h;cases ha:evL σ args.toList with
   | none=>rw[ha] at h;exact h
   | some as =>
    rw[ha] at h;obtain⟨fv,h1,h2⟩:=Option.bind_eq_some_iff.1 hf;obtain⟨id,first,cap⟩:=q;have:=Jjj h2;subst this;exact JnR ho h1 ha h
 ·cases hv:Jz P σ o.op with
  | some v=>simp only[Jb6,hv] at h;exact Jjk hv h
  | none =>
   simp only[Jb6,hv] at h;cases hh:Jaf P σ o.op with
   | none=>rw[hh] at h;exact h
   | some q =>
    rw[hh] at h;obtain⟨v,h'⟩:=q;cases v with
    | some v=>exact JnP hh h
    | none=>exact Jhc hh h
def Jar(ops:Array Oper)(σ:St)(j:Nat)(want:Bool):Option Bool :=
 match (ops[j]?).bind (·.dst) with
 | some d=>match lk σ.slots d with
  | some (.lit (.bool b))=>some b
  | some (.tup [])=>some (!want)
  | _=>none
 | none=>none
def gwl (S:Oper->(St->Prop)->St->Prop)(ops:Array Oper):List Oper->(St->Prop)->St->Prop
 | [],K,σ=>K σ
 | o :: rest,K,σ=>match o.guard with
  | none=>S o (gwl S ops rest K) σ
  | some (j,want)=>match Jar ops σ j want with
   | some b=>(b=want->S o (gwl S ops rest K) σ)/\(b = !want->gwl S ops rest K (σ.drop o.dst))
   | none=>False
def awl (P:Program)(ops:Array Oper):List Oper->(St->Prop)->St->Prop:=gwl (awo P) ops
section
variable {S:Oper->(St->Prop)->St->Prop} {ops:Array Oper} {rest:List Oper} {K:St->Prop}
def Jfo(b:Bool)(S:Oper->(St->Prop)->St->Prop)(ops:Array Oper)(o:Oper)(rest:List Oper)(K:St->Prop)(σ:St):Prop :=
 (b=true->S o (gwl S ops rest K) σ)/\(b=false->gwl S ops rest K (σ.drop o.dst))
theorem Xbh:Jfo true S ops o rest K σ=S o (gwl S ops rest K) σ:=by simp[Jfo]
theorem Xbi:Jfo false S ops o rest K σ=gwl S ops rest K (σ.drop o.dst):=by simp[Jfo]
def JlB(x:Option Bool)(want:Bool)(S:Oper->(St->Prop)->St->Prop)(ops:Array Oper)(o:Oper)(rest:List Oper)(K:St->Prop)(σ:St):Prop :=
 match x with
 | some b=>Jfo (if want=true then b else !b) S ops o rest K σ
 | none=>False
theorem Xbf{b:Bool}:JlB (some b) true S ops o rest K σ=Jfo b S ops o rest K σ:=rfl
theorem Xbg{b:Bool}:JlB (some b) false S ops o rest K σ=Jfo (!b) S ops o rest K σ:=rfl
theorem Xbc:gwl S ops [] K σ=K σ:=rfl
theorem Xbd{d:Option Tmp}{op:Op}{t:TypeId}{pos:String}{af:Array Edge} :
  gwl S ops (⟨d,op,t,pos,af,none⟩ :: rest) K σ=S ⟨d,op,t,pos,af,none⟩ (gwl S ops rest K) σ:=rfl
theorem Xbe{d:Option Tmp}{op:Op}{t:TypeId}{pos:String}{af:Array Edge}{j:Nat}{want:Bool} :
  gwl S ops (⟨d,op,t,pos,af,some (j,want)⟩ :: rest) K σ=JlB (Jar ops σ j want) want S ops ⟨d,op,t,pos,af,some (j,want)⟩ rest K σ:=by
 simp only[gwl,JlB];cases Jar ops σ j want with
 | none=>rfl
 | some b=>cases b <;> cases want <;> simp[Jfo]
end
theorem Jde(r:Jae g0 h0 w0 σ g w a){ops:Array Oper}{j:Nat}{want b:Bool}(h:Jar ops σ j want=some b):(yielded ops a.tmps j==some want)=(b==want):=by
 unfold Jar at h;split at h
 ·rename_i d hd;split at h
  ·rename_i b' hl;cases h;obtain⟨u,e1,e2⟩:=r.slots d _ hl;have:=(Rep.of_lit e2).1;subst this;simp[yielded,hd,e1]
  ·rename_i hl;cases h;obtain⟨u,e1,e2⟩:=r.slots d _ hl;cases e2;simp[yielded,hd,e1]
  ·cases h
 ·cases h
theorem Jgg{ops:Array Oper}{Q:Exit->St->Prop}:∀ (l:List Oper) {σ:St} {g:Gh} {w:World} {a:Act},awl P ops l (Q .normal) σ->Jae g0 h0 w0 σ g w a->JbQ P ops (Jb5 g0 h0 w0 Q) l a w
 | [],σ,g,w,a,h,r=>⟨σ,g,h,r⟩
 | o :: rest,σ,g,w,a,h,r=>by
  simp only[awl,gwl] at h;unfold JbQ;have step:awo P o (gwl (awo P) ops rest (Q .normal)) σ->Oper.wp P o a w (JbQ P ops (Jb5 g0 h0 w0 Q) rest) (Jb5 g0 h0 w0 Q):=fun hh =>
   Oper.wp_mono (fun a' w' ⟨σ',g',k1,k2⟩=>Jgg rest k1 k2) (JdL hh g0 h0 w0 g w a (Jb5 g0 h0 w0 Q) r)
  cases hg:o.guard with
  | none =>
   simp only[hg] at h;simp only[Region.wanted,hg,if_true];exact .inl (step h)
  | some p =>
   obtain⟨j,want⟩:=p;cases hb:Jar ops σ j want with
   | none=>simp only[hg,hb] at h
   | some b =>
    have hy:=Jde r hb;simp only[hg,hb] at h;simp only[Region.wanted,hg,hy];by_cases hw:b=want
    ·subst hw;simp only[beq_self_eq_true,if_true];exact .inl (step (h.1 rfl))
    ·have:(b==want)=false:=by simp[hw]
     simp only[this];exact Jgg rest (h.2 (by cases b <;> cases want <;> simp_all)) (r.drop o.dst)
def JlC (K:St->Prop)(Q:Exit->St->Prop):Exit->St->Prop
 | .normal,σ=>K σ
 | e,σ=>Q e σ
def JeH(id:Nat)(Q:Exit->St->Prop):Exit->St->Prop
 | .exit i,σ=>if i=id then Q .normal σ else Q (.exit i) σ
 | e,σ=>Q e σ
def awp (P:Program):Code->(Exit->St->Prop)->St->Prop
 | .skip,Q,σ=>Q .normal σ
 | .region id ops draw,Q,σ=>if draw=true then Aw P (.region id ops draw) Q σ else awl P ops ops.toList (Q .normal) σ
 | .seq a b,Q,σ=>awp P a (JlC (awp P b Q) Q) σ
 | .cond c x y,Q,σ=>match (ev σ c).bind JcS with
  | some b=>(b=true->awp P x Q σ)/\(b=false->awp P y Q σ)
  | none=>False
 | .block id c,Q,σ=>awp P c (JeH id Q) σ
 | .exit id,Q,σ=>Q (.exit id) σ
 | .label _,Q,σ=>Q .normal σ
 | .goto l,Q,σ=>Q (.goto l) σ
 | .ret,Q,σ=>Q .ret σ
 | .loop c,Q,σ=>Aw P (.loop c) Q σ
 | .scope c,Q,σ=>Aw P (.scope c) Q σ
 | .rangeFunc f ps as b,Q,σ=>Aw P (.rangeFunc f ps as b) Q σ
 | .refuse _,_,_=>False
section
variable {Q:Exit->St->Prop} {K:St->Prop}
theorem Xaa:awp P .skip Q σ=Q .normal σ:=rfl
theorem Xab{id:Nat}{l:List Oper}:awp P (.region id l.toArray false) Q σ=awl P l.toArray l (Q .normal) σ:=by simp[awp]
theorem Xac{id:Nat}{ops:Array Oper}:awp P (.region id ops true) Q σ=Aw P (.region id ops true) Q σ:=by simp[awp]
theorem Xad{x y:Code}:awp P (.seq x y) Q σ=awp P x (JlC (awp P y Q) Q) σ:=rfl
def Jhm(b:Bool)(P:Program)(x y:Code)(Q:Exit->St->Prop)(σ:St):Prop:=(b=true->awp P x Q σ)/\(b=false->awp P y Q σ)
theorem Xbj{x y:Code}:Jhm true P x y Q σ=awp P x Q σ:=by simp[Jhm]
theorem Xbk{x y:Code}:Jhm false P x y Q σ=awp P y Q σ:=by simp[Jhm]
def Jsr(b:Option Bool)(P:Program)(x y:Code)(Q:Exit->St->Prop)(σ:St):Prop :=
 match b with
 | some b=>Jhm b P x y Q σ
 | none=>False
theorem Xbn{b:Bool}{x y:Code}:Jsr (some b) P x y Q σ=Jhm b P x y Q σ:=rfl
theorem Xae{c:Operand}{x y:Code}:awp P (.cond c x y) Q σ=Jsr ((ev σ c).bind JcS) P x y Q σ:=by
 simp only[awp,Jsr];cases (ev σ c).bind JcS <;> rfl
theorem Xaf{id:Nat}{c:Code}:awp P (.block id c) Q σ=awp P c (JeH id Q) σ:=rfl
theorem Xag{id:Nat}:awp P (.exit id) Q σ=Q (.exit id) σ:=rfl
theorem Xah{l:Nat}:awp P (.label l) Q σ=Q .normal σ:=rfl
theorem Xai{l:Nat}:awp P (.goto l) Q σ=Q (.goto l) σ:=rfl
theorem Xaj:awp P .ret Q σ=Q .ret σ:=rfl
theorem Xak{c:Code}:awp P (.loop c) Q σ=Aw P (.loop c) Q σ:=rfl
theorem Xal{c:Code}:awp P (.scope c) Q σ=Aw P (.scope c) Q σ:=rfl
theorem Xam:JlC K Q .normal σ=K σ:=rfl
theorem Xan:JlC K Q .ret σ=Q .ret σ:=rfl
theorem Xao{i:Nat}:JlC K Q (.exit i) σ=Q (.exit i) σ:=rfl
theorem Xap{i:Nat}:JlC K Q (.goto i) σ=Q (.goto i) σ:=rfl
theorem Xaq{i:Nat}:JeH i Q .normal σ=Q .normal σ:=rfl
theorem Xar{i:Nat}:JeH i Q .ret σ=Q .ret σ:=rfl
theorem Xas{i j:Nat}:JeH i Q (.goto j) σ=Q (.goto j) σ:=rfl
theorem Xat{i j:Nat}:JeH i Q (.exit j) σ=if j=i then Q .normal σ else Q (.exit j) σ:=rfl
end
theorem Jax:∀ (c:Code) {Q:Exit->St->Prop} {σ:St},awp P c Q σ->Aw P c Q σ
 | .skip,Q,σ,h=>fun g0 h0 w0 g w a r=>wpIn_skip ⟨σ,g,h,r⟩
 | .region id ops draw,Q,σ,h=>by
  unfold awp at h;split at h
  ·exact h
  ·rename_i hd;have:draw=false:=by cases draw <;> simp_all
   subst this;exact fun g0 h0 w0 g w a r=>JeX (Jgg _ h r)
 | .seq x y,Q,σ,h=>fun g0 h0 w0 g w a r=>wpIn_seq (wpIn_mono (Jax x h g0 h0 w0 g w a r) fun e a' w' hh=>by
   obtain⟨σ',g',k1,k2⟩:=hh;cases e with
   | normal=>exact Jax y k1 g0 h0 w0 g' w' a' k2
   | _=>exact⟨σ',g',k1,k2⟩)
 | .cond c x y,Q,σ,h=>fun g0 h0 w0 g w a r=>by
  unfold awp at h;split at h
  ·rename_i b hb;obtain⟨cv,hc,hcv⟩:=Option.bind_eq_some_iff.1 hb;have:=Jen hcv;subst this;exact wpIn_cond_split (Rep.of_lit (r.ev hc)).1 (fun q=>Jax x (h.1 q) g0 h0 w0 g w a r) (fun q=>Jax y (h.2 q) g0 h0 w0 g w a r)
  ·exact h.elim
 | .block id c,Q,σ,h=>fun g0 h0 w0 g w a r=>wpIn_block (wpIn_mono (Jax c h g0 h0 w0 g w a r) fun e a' w' hh=>by
   obtain⟨σ',g',k1,k2⟩:=hh;cases e with
   | exit i =>
    simp only[JeH] at k1;simp only[Exit.inBlock];split
    ·rename_i hi;rw[if_pos hi] at k1;exact⟨σ',g',k1,k2⟩
    ·rename_i hi;rw[if_neg hi] at k1;exact⟨σ',g',k1,k2⟩
   | _=>exact⟨σ',g',k1,k2⟩)
 | .exit id,Q,σ,h=>fun g0 h0 w0 g w a r=>wpIn_exit ⟨σ,g,h,r⟩
 | .label l,Q,σ,h=>fun g0 h0 w0 g w a r=>wpIn_label ⟨σ,g,h,r⟩
 | .goto l,Q,σ,h=>fun g0 h0 w0 g w a r=>wpIn_goto ⟨σ,g,h,r⟩
 | .ret,Q,σ,h=>fun g0 h0 w0 g w a r=>wpIn_ret ⟨σ,g,h,r⟩
 | .loop c,_,_,h=>h
 | .scope c,_,_,h=>h
 | .rangeFunc ..,_,_,h=>h
 | .refuse _,_,_,h=>h.elim
end
end Go.Ab
end
section
namespace Go.Ab
def St.le(σ σ':St):Prop:=(∀ p∈σ'.slots,lk σ.slots p.1=some p.2)/\(∀ p∈σ'.hp.boxes,lk σ.hp.boxes p.1=some p.2)/\(∀ p∈σ'.hp.toks,lk σ.hp.toks p.1=some p.2)/\σ'.hp.nx=σ.hp.nx/\σ'.nt=σ.nt
theorem JaD{α:Type}:∀ {l:List (Nat × α)} {i:Nat} {v:α},lk l i=some v->(i,v)∈l
 | (k,x) :: l,i,v,h=>by
  simp only[lk] at h;split at h
  ·rename_i hk;cases h;subst hk;simp
  ·exact List.mem_cons_of_mem _ (JaD h)
section
variable {P:Program} {g0:Gh} {h0:Hp} {w0:Wr} {σ σ':St} {g:Gh} {w:World} {a:Act}
theorem Jae.le(r:Jae g0 h0 w0 σ g w a)(h:St.le σ σ'):Jae g0 h0 w0 σ' g w a :=
 ⟨r.st.less h.2.2.2.1 (fun i c e=>h.2.1 _ (JaD e)) (fun i c e=>h.2.2.1 _ (JaD e)),fun s v e=>r.slots s v (h.1 _ (JaD e)),r.nt.trans h.2.2.2.2.symm,r.defers⟩
def St.wk(σ σ':St):Prop:=∀ g0 h0 w0 g w a,Jae g0 h0 w0 σ g w a->∃ g',Jae g0 h0 w0 σ' g' w a
theorem St.le.wk(h:St.le σ σ'):St.wk σ σ':=fun _ _ _ g _ _ r=>⟨g,r.le h⟩
theorem St.wk.refl(σ:St):St.wk σ σ:=fun _ _ _ g _ _ r=>⟨g,r⟩
theorem St.wk.trans{σ σ' σ'':St}(h:St.wk σ σ')(k:St.wk σ' σ''):St.wk σ σ'':=fun g0 h0 w0 g w a r=>let ⟨g',r'⟩:=h g0 h0 w0 g w a r;k g0 h0 w0 g' w a r'
theorem Ja8{c:Code}{Q:Exit->St->Prop}(h:St.wk σ σ')(k:Aw P c Q σ'):Aw P c Q σ:=fun g0 h0 w0 g w a r=>let ⟨g',r'⟩:=h g0 h0 w0 g w a r;k g0 h0 w0 g' w a r'
theorem Jss{o:Oper}{K:St->Prop}(h:St.wk σ σ')(k:JeY P o K σ'):JeY P o K σ:=fun g0 h0 w0 g w a Q r=>let ⟨g',r'⟩:=h g0 h0 w0 g w a r;k g0 h0 w0 g' w a Q r'
def Jib(l:Nat)(J:St->Prop)(Q:Exit->St->Prop):Exit->St->Prop
 | .goto i,σ=>i=l/\∃ σ',St.wk σ σ'/\J σ'
 | e,σ=>Q e σ
theorem Jjl{l:Nat}{J:St->Prop}{Q:Exit->St->Prop}{J':Act->World->Prop}(hJ:∀ a w,(∃ σ g,J σ/\Jae g0 h0 w0 σ g w a)->J' a w)(e:Exit)(a:Act)(w:World)(h:Jb5 g0 h0 w0 (Jib l J Q) e a w):Exit.jump l J' (Jb5 g0 h0 w0 Q) e a w:=by
 obtain⟨σ1,g1,q1,q2⟩:=h;cases e with
 | goto i =>
  obtain⟨rfl,σ2,l1,l2⟩:=q1;obtain⟨g2,q3⟩:=l1 g0 h0 w0 g1 w a q2;exact⟨rfl,hJ _ _ ⟨σ2,g2,l2,q3⟩⟩
 | _=>exact⟨σ1,g1,q1,q2⟩
def JnS(Q:Exit->St->Prop):Exit->St->Prop
 | .goto _,_=>False
 | e,σ=>Q e σ
theorem JcU{c:Code}{Q:Exit->St->Prop}(h:awp P c (JnS Q) σ):Aw P (.scope c) Q σ:=by
 intro g0 h0 w0 g w a r;refine Jce (wpIn_mono (Jax c h g0 h0 w0 g w a r) fun e a' w' hh=>?_);obtain⟨σ1,g1,q1,q2⟩:=hh;cases e with
 | goto l=>exact q1.elim
 | _=>exact⟨σ1,g1,q1,q2⟩
def Cv (g g':Gh)(a b:AV):Prop:=∀ v,Rep g v a->Rep g' v b
def CvL (g g':Gh)(as bs:List AV):Prop:=∀ vs,J9 g vs as->J9 g' vs bs
theorem JF{g g':Gh}(x:Ext g g')(a:AV):Cv g g' a a:=fun _ h=>h.mono x
theorem Jbe{g g':Gh}(x:Ext g g')(as:List AV):CvL g g' as as:=fun _ h=>h.mono x
theorem JaV{g g':Gh}:CvL g g' [] []:=fun vs h=>⟨h.1,fun i c a _ e=>by simp at e⟩
theorem Jv{g g':Gh}{a b:AV}{as bs:List AV}(h:Cv g g' a b)(k:CvL g g' as bs):CvL g g' (a :: as) (b :: bs):=fun vs hv=>by
 cases vs with
 | nil=>exact absurd hv.1 (by simp)
 | cons v vs=>exact .cons (h v hv.head) (k vs hv.tail)
theorem Jt6{g g':Gh}{as bs:List AV}(h:CvL g g' as bs):Cv g g' (.agg as) (.agg bs):=fun v hv=>by
 obtain⟨cs,rfl,h1,h2⟩:=J9.of_agg hv;exact J9.agg h2 (h _ h1)
theorem JbG{g g':Gh}(x:Ext g g')(xs:List (List AV))(f:Bool):Cv g g' (.vec xs f) (.vec xs false):=fun v hv=>by
 have:=hv.mono x;cases this with
 | vecN=>exact .vecN
 | vecE _=>exact .vecE (fun q=>by cases q)
 | vec f h1 h2 h3 h4 h5=>exact .vec f h1 (fun q=>by cases q) h3 h4 h5
inductive CvR (g g':Gh):List (List AV)->List (List AV)->Prop
 | nil:CvR g g' [] []
 | cons {x y:List AV} {xs ys:List (List AV)}:CvL g g' x y->x.length=y.length->CvR g g' xs ys->CvR g g' (x :: xs) (y :: ys)
theorem CvR.length{g g':Gh}{xs ys:List (List AV)}(h:CvR g g' xs ys):xs.length=ys.length:=by
 induction h with
 | nil=>rfl
 | cons _ _ _ ih=>simp[ih]
theorem CvR.lens{g g':Gh}{xs ys:List (List AV)}(h:CvR g g' xs ys):ys.map List.length=xs.map List.length:=by
 induction h with
 | nil=>rfl
 | cons _ h2 _ ih=>simp[ih,h2]
theorem CvR.get{g g':Gh}{xs ys:List (List AV)}(h:CvR g g' xs ys):∀ (i:Nat) (y:List AV),ys[i]? = some y->∃ x,xs[i]? = some x/\CvL g g' x y/\x.length=y.length:=by
 induction h with
 | nil=>intro i y e;simp at e
 | cons h1 h2 _ ih =>
  intro i y e;cases i with
  | zero=>simp at e;subst e;exact⟨_,rfl,h1,h2⟩
  | succ i=>simp at e;obtain⟨x,e1,e2⟩:=ih i y e;exact⟨x,by simpa using e1,e2⟩
theorem CvR.refl{g g':Gh}(x:Ext g g'):∀ (xs:List (List AV)),CvR g g' xs xs
 | []=>.nil
 | y :: ys=>.cons (Jbe x y) rfl (CvR.refl x ys)
theorem JrD{g g':Gh}(x:Ext g g'){xs ys:List (List AV)}{f:Bool}(h:CvR g g' xs ys):Cv g g' (.vec xs f) (.vec ys f):=fun v hv=>by
 cases hv with
 | vecN =>
  cases h;exact .vecN
 | vecE hf =>
  cases h;exact .vecE hf
 | @vec b off cap s _ _ F h1 h2 h3 h4 h5 =>
  rw[h.length];refine .vec (s:=s) F (fun y hy=>?_) (fun q=>by rw[<- h.length];exact h2 q) (by rw[<- h.length];exact h3) (fun i y j a e1 e2=>?_) (fun i y j a e1 e2=>?_)
  ·obtain⟨i,hi⟩:=List.getElem?_of_mem hy;obtain⟨x',q1,_,q3⟩:=h.get i y hi;rw[<- q3];exact h1 x' (List.mem_of_getElem? q1)
  ·obtain⟨x',q1,q2,q3⟩:=h.get i y e1;have hj:j<x'.length:=by rw[q3];exact(List.getElem?_eq_some_iff.1 e2).1
   exact x.mem _ _ _ (h4 i x' j x'[j] q1 (List.getElem?_eq_getElem hj))
  ·obtain⟨x',q1,q2,q3⟩:=h.get i y e1;have hj:j<x'.length:=by rw[q3];exact(List.getElem?_eq_some_iff.1 e2).1
   have row:J9 g ((List.range x'.length).map (F i)) x':=⟨by simp,fun k c a' f1 f2=>by
    have hk:k<x'.length:=(List.getElem?_eq_some_iff.1 f2).1;simp[List.getElem?_map,List.getElem?_range hk] at f1;subst f1;exact h5 i x' k a' q1 f2⟩
   exact(q2 _ row).2 j (F i j) a (by simp[List.getElem?_map,List.getElem?_range hj]) e2
structure Jks (g:Gh) (k k':Tk):Prop where
 fz:k'.fz=k.fz
 s:k'.s=k.s
 xs:CvR g g k.xs k'.xs
theorem Jks.refl(g:Gh)(k:Tk):Jks g k k:=⟨rfl,rfl,CvR.refl (.refl g) k.xs⟩
theorem Jae.conv{σ σ':St}{g g':Gh}{h':Hp}(r:Jae g0 h0 w0 σ g w a)(s:JW g σ.hp w g' h' w)(hn:σ'.hp.nx=h'.nx)(ht:σ'.nt=σ.nt)
  (h1:∀ p∈σ'.slots,∃ b,lk σ.slots p.1=some b/\Cv g g' b p.2) (h2:∀ p∈σ'.hp.boxes,∃ cs,lk h'.boxes p.1=some cs/\CvL g' g' cs p.2) (h3:∀ p∈σ'.hp.toks,∃ k,lk h'.toks p.1=some k/\Jks g' k p.2):Jae g0 h0 w0 σ' g' w a:=by
 have st:=r.st.trans s;have sb:∀ i,(lk σ'.hp.boxes i).isSome=true->(lk h'.boxes i).isSome=true:=fun i e=>by
  obtain⟨c,hc⟩:=Option.isSome_iff_exists.1 e;obtain⟨cs,k1,_⟩:=h2 _ (JaD hc);rw[k1];rfl
 have tt:∀ i c,lk σ'.hp.toks i=some c->∃ k,lk h'.toks i=some k/\Jks g' k c:=fun i c e=>h3 _ (JaD e)
 have stt:∀ i,(lk σ'.hp.toks i).isSome=true->(lk h'.toks i).isSome=true:=fun i e=>by
  obtain⟨c,hc⟩:=Option.isSome_iff_exists.1 e;obtain⟨k,hk,_⟩:=tt i c hc;rw[hk];rfl
 refine⟨⟨⟨st.hp.nx.trans hn.symm,st.hp.mem,fun id cs e=>?_,fun t k e=>?_,fun i j b e1 e2 e3 e4=>st.hp.bxbx i j b e1 e2 (sb i e3) (sb j e4),fun i j b c n c' n' e1 e2 e3 e4=>st.hp.tktk i j b c n c' n' e1 e2 (stt i e3) (stt j e4),
  fun i j b c n e1 e2 e3 e4=>st.hp.bxtk i j b c n e1 e2 (sb i e3) (stt j e4),fun i e=>st.hp.fresh i (hn ▸ e),st.hp.cch,st.hp.cel,fun t k b c n e hk q=>by
   obtain⟨k0,q1,q2,q3,q4⟩:=tt t k e;obtain⟨x,f1,f2,f3⟩:=st.hp.lpr t k0 b c n q1 ((Tk.lp_eq q4.lens q3).1 hk) q;exact⟨x,f1,by rw[<- q4.length];exact f2,f3⟩⟩,st.ext,st.keeps,fun b l=>st.live b ?_,st.memo⟩,fun s' v e=>?_,r.nt.trans ht.symm,r.defers⟩
 ·obtain⟨cs0,k1,k2⟩:=h2 _ (JaD e);obtain⟨b,vs,ty,e1,e2,e3,e4,e5⟩:=st.hp.box id cs0 k1;exact⟨b,vs,ty,e1,e2,k2 _ e3,e4,e5⟩
 ·obtain⟨k0,q1,q2,q3,q4⟩:=tt t k e;have hl:=q4.length;obtain⟨b,c,vs,o,e1,e2,e3,e5,e6,e7,e9,e10⟩:=st.hp.tok t k0 q1;have hst:k.st=k0.st:=Tk.st_eq q4.lens q3;refine⟨b,c,vs,o,by rw[Tk.tn_eq q4.lens q3];exact e1,e2,Tk.obj_eq q4.lens q3 e3,by rw[q2,<- hl];exact e5,fun x hx=>?_,fun i x j a f1 f2=>?_,fun o ho=>e9 o (by rw[<- q2,<- q3];exact ho),e10⟩
  ·obtain⟨i,hi⟩:=List.getElem?_of_mem hx;obtain⟨x0,p1,_,p3⟩:=q4.get i x hi;rw[hst,<- p3];exact e6 x0 (List.mem_of_getElem? p1)
  ·obtain⟨x0,p1,p2,p3⟩:=q4.get i x f1;have hj:j<x0.length:=by rw[p3];exact(List.getElem?_eq_some_iff.1 f2).1
   have row:J9 g' ((List.range x0.length).map fun j=>vs.getD (i * k0.st+j) undef) x0:=⟨by simp,fun k c a' g1 g2=>by
    have hk:k<x0.length:=(List.getElem?_eq_some_iff.1 g2).1;simp[List.getElem?_map,List.getElem?_range hk] at g1;obtain⟨v,m1,m2⟩:=e7 i x0 k a' p1 g2;rw[m1] at g1;simp at g1;subst g1;exact m2⟩
   obtain⟨v,m1,m2⟩:=e7 i x0 j x0[j] p1 (List.getElem?_eq_getElem hj);refine⟨v,by rw[hst];exact m1,?_⟩;have:=(p2 _ row).2 j v a (by simp[List.getElem?_map,List.getElem?_range hj,m1]) f2;exact this
 ·rcases l with ⟨id,cs,e1,e2⟩ | ⟨t,k,c,n,e1,e2⟩ | e1
  ·obtain⟨cs0,k1,_⟩:=h2 _ (JaD e1);exact .inl ⟨id,cs0,k1,e2⟩
  ·obtain⟨k0,q1,_⟩:=tt _ _ e1;exact .inr (.inl ⟨t,k0,c,n,q1,e2⟩)
  ·exact .inr (.inr e1)
 ·obtain⟨b,k1,k2⟩:=h1 _ (JaD e);obtain⟨u,e1,e2⟩:=r.slots s' b k1;exact⟨u,e1,k2 u e2⟩
theorem St.wk_conv{σ σ':St}(hn:σ'.hp.nx=σ.hp.nx)(ht:σ'.nt=σ.nt)(h1:∀ g g',Ext g g'->∀ p∈σ'.slots,∃ b,lk σ.slots p.1=some b/\Cv g g' b p.2)(h2:∀ g g',Ext g g'->∀ p∈σ'.hp.boxes,∃ cs,lk σ.hp.boxes p.1=some cs/\CvL g g' cs p.2)
  (h3:∀ g,∀ p∈σ'.hp.toks,∃ k,lk σ.hp.toks p.1=some k/\Jks g k p.2):St.wk σ σ':=fun _ _ _ g _ _ r =>
 ⟨g,r.conv (JW.refl r.st.hp) hn ht (h1 g g (.refl g)) (h2 g g (.refl g)) (h3 g)⟩
theorem JW.freeze{g:Gh}{h:Hp}{w:World}(r:JZ g h w){t:Nat}{k:Tk}(hk:lk h.toks t=some k):∃ g',JW g h w g' {h with toks:=up h.toks t ⟨k.xs,k.xs.length,k.s⟩} w/\Cv g g' (.own t k.xs.length) (.vec k.xs false)/\g'.tok=g.tok:=by
 obtain⟨g',r1,r2,r3,r4,r5,r6⟩:=r.freezeM hk;refine⟨g',⟨r1,r2,.refl _ _,fun b l=>.inl (Ja2.freeze hk r4 r5.1 r5.2 l),fun b o v e=>?_⟩,r3,r5.1⟩;rcases r6 b o v e with q | ⟨c,n,q⟩
 ·exact .inl q
 ·exact .inr (.inl (.inr (.inl ⟨t,k,c,n,hk,q⟩)))
theorem St.wk_freeze{σ σ':St}{t:Nat}{k:Tk}(hk:lk σ.hp.toks t=some k)(hn:σ'.hp.nx=σ.hp.nx)(ht:σ'.nt=σ.nt)
  (h1:∀ g g',Ext g g'->Cv g g' (.own t k.xs.length) (.vec k.xs false)->∀ p∈σ'.slots,∃ b,lk σ.slots p.1=some b/\Cv g g' b p.2)
  (h2:∀ g g',Ext g g'->Cv g g' (.own t k.xs.length) (.vec k.xs false)->∀ p∈σ'.hp.boxes,∃ cs,lk σ.hp.boxes p.1=some cs/\CvL g g' cs p.2)
  (h3:∀ g,∀ p∈σ'.hp.toks,∃ k',lk (up σ.hp.toks t ⟨k.xs,k.xs.length,k.s⟩) p.1=some k'/\Jks g k' p.2):St.wk σ σ':=by
 intro g0 h0 w0 g w a r;obtain⟨g',s,c,ht'⟩:=JW.freeze r.st.hp hk;have c':Cv g' g' (.own t k.xs.length) (.vec k.xs false):=fun v hv=>by
  refine c v ?_;cases hv with
  | own p1 p2 =>
   refine .own (r.st.hp.tok_lt hk |> fun q=>by rw[r.st.hp.nx];exact q) (fun b' c1 m e=>?_);exact p2 b' c1 m (by rw[ht'];exact e)
 refine⟨g',r.conv s hn ht (h1 g g' s.ext c) (fun p hp=>?_) (h3 g')⟩;obtain⟨cs,k1,k2⟩:=h2 g' g' (.refl g') c' p hp;exact⟨cs,k1,k2⟩
def JaQ(P:Program)(σ:St):List ResultVar->Option (List AV)
 | []=>some []
 | .tmp t :: l=>match lk σ.slots t,JaQ P σ l with
  | some v,some vs=>some (v :: vs)
  | _,_=>none
 | .cell t ty :: l=>match lk σ.slots t,Jt P ty,JaQ P σ l with
  | some p,some ti,some vs=>match Ja3 σ.hp p with
   | some (cs,off)=>match Jf1 ti cs off with
    | some v=>some (v :: vs)
    | none=>none
   | none=>none
  | _,_,_=>none
def Jp8:List AV->AV
 | [a]=>a
 | l=>.tup l
def Jfp (x:Option (List AV))(R:AV->Hp->Prop)(h:Hp):Prop :=
 match x with
 | some vs=>R (Jp8 vs) h
 | none=>False
theorem Xbq{vs:List AV}{R:AV->Hp->Prop}{h:Hp}:Jfp (some vs) R h=R (Jp8 vs) h:=rfl
theorem JdM{x:Option (List AV)}{R:AV->Hp->Prop}{h:Hp}(k:Jfp x R h):∃ vs,x=some vs/\R (Jp8 vs) h:=by
 cases x with
 | none=>exact k.elim
 | some v=>exact⟨v,rfl,k⟩
def Jt7 (P:Program)(rs:List ResultVar)(R:AV->Hp->Prop):Exit->St->Prop
 | .normal,σ=>Jfp (JaQ P σ rs) R σ.hp
 | .ret,σ=>Jfp (JaQ P σ rs) R σ.hp
 | _,_=>False
theorem Xba{rs:List ResultVar}{R:AV->Hp->Prop}:Jt7 P rs R .normal σ=Jfp (JaQ P σ rs) R σ.hp:=rfl
theorem Xbb{rs:List ResultVar}{R:AV->Hp->Prop}:Jt7 P rs R .ret σ=Jfp (JaQ P σ rs) R σ.hp:=rfl
theorem Xau{l:Nat}{J:St->Prop}{Q:Exit->St->Prop}:Jib l J Q .normal σ=Q .normal σ:=rfl
theorem Xav{l:Nat}{J:St->Prop}{Q:Exit->St->Prop}:Jib l J Q .ret σ=Q .ret σ:=rfl
theorem Xaw{l i:Nat}{J:St->Prop}{Q:Exit->St->Prop}:Jib l J Q (.exit i) σ=Q (.exit i) σ:=rfl
theorem Xch{l:Nat}{J:St->Prop}{Q:Exit->St->Prop}:Jib l J Q (.goto l) σ=∃ σ',St.wk σ σ'/\J σ':=by simp[Jib]
theorem Xax{Q:Exit->St->Prop}:JnS Q .normal σ=Q .normal σ:=rfl
theorem Xay{Q:Exit->St->Prop}:JnS Q .ret σ=Q .ret σ:=rfl
theorem Xaz{i:Nat}{Q:Exit->St->Prop}:JnS Q (.exit i) σ=Q (.exit i) σ:=rfl
theorem Jgh(r:Jae g0 h0 w0 σ g w a):∀ {l:List ResultVar} {vs:List AV},JaQ P σ l=some vs ->
  ∃ us,(l.mapM (m:=Sem) fun
   | .tmp t=>pure (a.tmps.getD t undef)
   | .cell b t=>do loadVar t (<- asAddr (a.tmps.getD b undef))).run P w = .ok us w/\J9 g us vs
 | [],vs,h=>by cases h;exact⟨[],rfl,.nil⟩
 | .tmp t :: l,vs,h=>by
  unfold JaQ at h;split at h
  ·rename_i v vs' h1 h2;cases h;obtain⟨us,k1,k2⟩:=Jgh r h2;obtain⟨u,e1,e2⟩:=r.slots t v h1;refine⟨u :: us,?_,.cons e2 k2⟩;rw[List.mapM_cons,Sem.run_bind];simp only[Sem.run_pure,Result.andThen_ok,Sem.run_bind];rw[k1];simp[Array.getD_eq_getD_getElem?,e1]
  ·cases h
 | .cell t ty :: l,vs,h=>by
  unfold JaQ at h;split at h
  ·rename_i p ti vs' h1 h2 h3;obtain⟨us,k1,k2⟩:=Jgh r h3;obtain⟨u,e1,e2⟩:=r.slots t p h1;split at h
   ·rename_i cs off hr;split at h
    ·rename_i v hv;cases h;obtain⟨b,base,rs,rfl,f1,f2,f3⟩:=Jf8 r.st.hp e2 hr;obtain⟨x,q1,q2⟩:=Jdv h2 f1 f2 f3 hv;refine⟨x :: us,?_,.cons q2 k2⟩;have hx:(asAddr (a.tmps.getD t undef)).run P w = .ok ⟨b,base+off,none⟩ w:=by simp[Array.getD_eq_getD_getElem?,e1,asAddr]
     rw[List.mapM_cons,Sem.run_bind];simp only[Sem.run_bind,hx,Result.andThen_ok,q1];rw[k1];rfl
    ·cases h
   ·cases h
  ·cases h
theorem Jbu(r:Jae g0 h0 w0 σ g w a){fn:Func}{vs:List AV}(h:JaQ P σ fn.results.toList=some vs):∃ u,(results fn a.tmps).run P w = .ok u w/\Rep g u (Jp8 vs):=by
 obtain⟨us,k1,k2⟩:=Jgh r h;have hm:=Jga (P:=P) (w:=w) _ fn.results k1;refine⟨if h:us.toArray.size=1 then us.toArray[0] else .tuple us.toArray,?_,?_⟩
 ·unfold results;rw[Sem.run_bind];exact congrArg (fun r:Result (Array Value)=>r.andThen fun a w'=>Sem.run P (pure (if h:a.size=1 then a[0] else Value.tuple a)) w') hm
 ·match us,vs,k2 with
  | [],[],_=>simpa [Jp8] using Rep.tup (g:=g) (cs := #[]) (as:=[]) rfl (by simp)
  | [u],[v],k=>simpa [Jp8] using k.head
  | u :: u' :: us,v :: v' :: vs,k =>
   simp only[List.size_toArray,List.length_cons,Jp8];rw[dif_neg (by omega)];exact .tup (by simpa using k.1) (fun i c b e1 e2=>k.2 i c b (by simpa using e1) e2)
  | [],v :: vs,k=>exact absurd k.1 (by simp)
  | u :: us,[],k=>exact absurd k.1 (by simp)
  | [u],v :: v' :: vs,k=>exact absurd k.1 (by simp)
  | u :: u' :: us,[v],k=>exact absurd k.1 (by simp)
def JdN:Nat->List AV->List (Nat × AV)
 | _,[]=>[]
 | n,a :: l=>(n,a) :: JdN (n+1) l
theorem Jhn:∀ {l:List AV} {n s:Nat} {v:AV},lk (JdN n l) s=some v->n<=s/\l[s - n]? = some v
 | [],_,_,_,h=>by cases h
 | a :: l,n,s,v,h=>by
  simp only[JdN,lk] at h;split at h
  ·rename_i hn;subst hn;cases h;simp
  ·rename_i hn;obtain⟨h1,h2⟩:=Jhn h;refine⟨by omega,?_⟩;have:s - n=(s - (n+1))+1:=by omega
   rw[this];simpa using h2
def entry(args:List AV)(h:Hp)(n:Nat):St:=⟨JdN 0 args,h,n⟩
theorem Jae.entry{h:Hp}{vals:Array Value}{args:List AV}(hr:JZ g h w)(hl:J9 g vals.toList args)(n:Nat)(hn:args.length<=n) :
  Jae g h (.top w) (entry args h n) g w {tmps:=vals++Array.replicate (n - vals.size) undef,defers:=[]}:=by
 have hs:vals.size=args.length:=by simpa using hl.1
 refine⟨.refl hr,fun s v e=>?_,by simp[Ab.entry];omega,.nil⟩;obtain⟨_,h2⟩:=Jhn e;rw[Nat.sub_zero] at h2;obtain⟨u,f1,f2⟩:=hl.get h2;have hlt:s<vals.size:=by have:=(List.getElem?_eq_some_iff.1 f1).1;simpa using this
 exact⟨u,by simp only[Array.getElem?_append_left hlt];simpa using f1,f2⟩
theorem JZ.same{h:Hp}{w':World}(r:JZ g h w)(hw:∀ (b:Nat) (o:Obj),w.heap[b]? = some o->(∀ ds,o≠.deferred ds)->w'.heap[b]? = some o):JZ g h w':=by
 refine⟨r.nx,fun b o v e=>?_,fun id cs e=>?_,fun t k e=>?_,r.bxbx,r.tktk,r.bxtk,r.fresh,fun b t e=>?_,fun b e=>?_,fun t k b c n e hk q=>?_⟩
 ·obtain⟨e1,e2⟩:=r.mem b o v e;have hlt:=World.block_lt_of_cell? w ⟨b,o,none⟩ e1;have hb:w.heap[b]? = some w.heap[b]:=Array.getElem?_eq_getElem hlt;have:=hw b _ hb (fun ds q=>by
   rw[q] at hb;simp[World.cell?,hb] at e1)
  exact⟨by rw[World.cell?_of_block (w:=w) (this.trans hb.symm)];exact e1,e2⟩
 ·obtain⟨b,vs,ty,e1,e2,e3⟩:=r.box id cs e;exact⟨b,vs,ty,e1,hw b _ e2 (fun _ q=>by cases q),e3⟩
 ·obtain⟨b,c,vs,o,e1,e2,e3⟩:=r.tok t k e;obtain⟨o',q1,q2⟩:=r.live_obj (.inr (.inl ⟨t,k,c,_,e,e1⟩));rw[e2] at q1;cases q1;exact⟨b,c,vs,o,e1,hw b _ e2 q2,e3⟩
 ·obtain⟨es,k,e1,e2⟩:=r.cch b t e;exact⟨es,k,hw b _ e1 (fun _ q=>by cases q),e2⟩
 ·obtain⟨vs,ty,e1⟩:=r.cel b e;exact⟨vs,ty,hw b _ e1 (fun _ q=>by cases q)⟩
 ·obtain⟨x,f1,f2,f3⟩:=r.lpr t k b c n e hk q;exact⟨x,f1,hw b _ f2 (fun _ q=>by cases q),f3⟩
theorem Jae.fin(P:Program){tm:Array Value}:∀ {ds:List Deferred} {w:World},Jae g0 h0 w0 σ g w ⟨tm,ds⟩->∃ w',JfK P ds w w'/\Jae g0 h0 w0 σ g w' ⟨tm,[]⟩
 | [],w,r=>⟨w,.nil,r⟩
 | d :: ds,w,r=>by
  obtain⟨D,rfl,e2,e3⟩:=r.defers.2 d (by simp);have hn:=List.nodup_cons.1 r.defers.1;have hlt:=(Array.getElem?_eq_some_iff.1 e3).1;have oth:∀ b,b≠D->(w.putObj D (.deferred none)).heap[b]? = w.heap[b]? := fun b hb=>World.putObj_heap_other hb
  have r1:Jae g0 h0 w0 σ g (w.putObj D (.deferred none)) ⟨tm,ds⟩:=by
   refine⟨⟨r.st.hp.same fun b o q hq=>?_,r.st.ext,⟨r.st.keeps.os,r.st.keeps.tape,r.st.keeps.output,r.st.keeps.drawn,?_,fun b hb hF=>?_,fun b x q=>?_⟩,r.st.live,r.st.memo⟩,r.slots,r.nt,hn.2,fun d hd=>?_⟩
   ·have:b≠D:=fun e=>by subst e;rw[e3] at q;cases q;exact hq _ rfl
    rw[oth b this];exact q
   ·simpa [World.putObj] using r.st.keeps.size
   ·rw[oth b (by omega)];exact r.st.keeps.block b hb hF
   ·obtain⟨x',q'⟩:=r.st.keeps.loop b x q;have:b≠D:=fun e=>by subst e;rw[e3] at q';cases q'
    exact⟨x',(oth b this).trans q'⟩
   ·obtain⟨D',rfl,f2,f3⟩:=r.defers.2 d (by simp[hd]);have:D'≠D:=fun e=>by subst e;exact hn.1 hd
    exact⟨D',rfl,f2,(oth D' this).trans f3⟩
  obtain⟨w',t1,t2⟩:=Jae.fin P r1;exact⟨w',.cons rfl (run_takeDeferred e3) t1,t2⟩
theorem JL{f:FuncId}{fn:Func}{c:Code}{args:List AV}{h:Hp}{Q:AV->Hp->Prop}(hf:P.funcs[f]? = some fn)(hb:fn.body=some c){n:Nat}(hnt:fn.ntmps=n){rs:List ResultVar}(hrs:fn.results.toList=rs)(hn:args.length<=n)
  (hw:awp P c (Jt7 P rs Q) (entry args h n)):JU P f args h Q:=by
 subst hnt;subst hrs;intro g w vals hr hl;have hs:vals.size=args.length:=by simpa using hl.1
 refine JbR hf hb (wpIn_mono (Jax c hw g h (.top w) g w _ (Jae.entry hr hl fn.ntmps hn)) fun e a' w' hh=>?_);obtain⟨σ,g',q1,q2⟩:=hh;have fin:Jfp (JaQ P σ fn.results.toList) Q σ.hp->∃ w'',JfK P a'.defers w' w''/\∃ v,(results fn a'.tmps).run P w'' = .ok v w''/\∃ v' r h' g',Ending.returned v = .returned v'/\Rep g' v' r/\JW g h w g' h' w''/\Q r h':=fun hb=>by
  obtain⟨vs,k1,k2⟩:=JdM hb;obtain⟨w'',t1,t2⟩:=q2.fin P;obtain⟨u,e1,e2⟩:=Jbu t2 k1;exact⟨w'',t1,u,e1,u,_,_,g',rfl,e2,t2.st,k2⟩
 cases e with
 | normal=>exact fin q1
 | ret=>exact fin q1
 | exit id=>exact q1.elim
 | goto l=>exact q1.elim
 | panic ch=>exact q1.elim
 | outgrown=>exact q1.elim
theorem JU.mono{f:FuncId}{args:List AV}{h:Hp}{Q Q':AV->Hp->Prop}(hc:JU P f args h Q)(hq:∀ r h',Q r h'->Q' r h'):JU P f args h Q' :=
 fun g w vals hr hl=>(hc g w vals hr hl).mono fun _ _ ⟨v,r,h',g',e1,e2,e3,e4⟩=>⟨v,r,h',g',e1,e2,e3,hq _ _ e4⟩
end
def Jjm(m:Nat->Nat->Option Value)(w:World):Prop:=∀ b o v,m b o=some v->w.cell? ⟨b,o,none⟩=some v/\v.oneCell'=true
def Jmr(m m':Nat->Nat->Option Value):Prop:=∀ b o v,m b o=some v->m' b o=some v
def Pure (a:AV):Prop:=∀ g g' v,Jmr g.mem g'.mem->Rep g v a->Rep g' v a
theorem Pure.lit(v:Value):Pure (.lit v):=fun g g' u _ h=>by cases h with | lit h=>exact .lit h
theorem Pure.agg{cs:List AV}(h:∀ c∈cs,Pure c):Pure (.agg cs):=fun g g' u hm hr=>by
 cases hr with
 | agg h0 h1 h2=>exact .agg h0 h1 fun i c a e1 e2=>h a (List.mem_of_getElem? e2) g g' c hm (h2 i c a e1 e2)
theorem Pure.tup{cs:List AV}(h:∀ c∈cs,Pure c):Pure (.tup cs):=fun g g' u hm hr=>by
 cases hr with
 | tup h1 h2=>exact .tup h1 fun i c a e1 e2=>h a (List.mem_of_getElem? e2) g g' c hm (h2 i c a e1 e2)
theorem Pure.vec{xs:List (List AV)}{full:Bool}(h:∀ x∈xs,∀ c∈x,Pure c):Pure (.vec xs full):=fun g g' u hm hr=>by
 cases hr with
 | vecN=>exact .vecN
 | vecE h=>exact .vecE h
 | vec f h1 h2 h3 h4 h5=>exact .vec f h1 h2 h3 (fun i x j a e1 e2=>hm _ _ _ (h4 i x j a e1 e2)) fun i x j a e1 e2=>h x (List.mem_of_getElem? e1) a (List.mem_of_getElem? e2) g g' _ hm (h5 i x j a e1 e2)
theorem Pure.pp{cs:List AV}{off:Nat}(h:∀ c∈cs,Pure c):Pure (.pp cs off):=fun g g' u hm hr=>by
 cases hr with
 | pp f h1 h2=>exact .pp f (fun j a e=>hm _ _ _ (h1 j a e)) fun j a e=>h a (List.mem_of_getElem? e) g g' _ hm (h2 j a e)
theorem Pure.fn{f:Fn}{as bs:List AV}(h:∀ c∈as,Pure c)(k:∀ c∈bs,Pure c):Pure (.fn f as bs):=fun g g' u hm hr=>by
 cases hr with
 | fn h1 h2 h3 h4=>exact .fn h1 (fun i c a e1 e2=>h a (List.mem_of_getElem? e2) g g' c hm (h2 i c a e1 e2)) h3 fun i c a e1 e2=>k a (List.mem_of_getElem? e2) g g' c hm (h4 i c a e1 e2)
def JR(P:Program)(f:FuncId)(args:List AV)(r:AV):Prop :=
 ∀ m w (vals:Array Value),Jjm m w->J9 (gm m) vals.toList args->Calls P f vals w fun e w'=>∃ v m',e = .returned v/\Rep (gm m') v r/\Jjm m' w'/\Jai (fun _=>False) w w'/\Jmr m m'/\∀ b o v,m' b o=some v->m b o=some v\/w.heap.size<=b
section
variable {P:Program}
theorem JZ.none{m:Nat->Nat->Option Value}{w:World}(h:Jjm m w):JZ (gm m) .none w :=
 ⟨rfl,h,fun _ _ e=>(nomatch e),fun _ _ e=>(nomatch e),fun _ _ _ e=>(nomatch e),fun _ _ _ _ _ _ _ e=>(nomatch e),fun _ _ _ _ _ e=>(nomatch e),fun _ _=>⟨rfl,rfl⟩,fun _ _ e=>(nomatch e),fun _ e=>(nomatch e),fun _ _ _ _ _ e=>(nomatch e)⟩
theorem JZ.frame{g:Gh}{h:Hp}{w w':World}(r:JZ g h w){m:Nat->Nat->Option Value}(hm:Jjm m w')(hk:Jai (fun _=>False) w w')(h1:Jmr g.mem m)(h2:∀ b o v,m b o=some v->g.mem b o=some v\/w.heap.size<=b) :
  JW g h w {g with mem:=m} h w':=by
 have hx:Ext g {g with mem:=m}:=⟨Nat.le_refl _,h1,fun _ _=>rfl,fun _ _=>Jas.refl _,fun _ _ h=>h,fun _ _=>rfl⟩;have blk:∀ b x,w.heap[b]? = some x->w'.heap[b]? = some x:=fun b x e=>(hk.block b (Jaq e) (fun q=>q)).trans e;have none:∀ b o,b<w.heap.size->g.mem b o=Option.none->m b o=Option.none:=fun b o hb e=>by
  cases hv:m b o with
  | none=>rfl
  | some v =>
   rcases h2 b o v hv with q | q
   ·rw[e] at q;cases q
   ·omega
 refine⟨⟨r.nx,hm,fun id cs e=>?_,fun t k e=>?_,r.bxbx,r.tktk,r.bxtk,r.fresh,r.cchUp hx rfl (fun b es k e=>blk b _ e),r.celUp rfl (fun b vs e q=>⟨vs,e,blk b _ q⟩),r.lprUp rfl (fun t k e _=>⟨e,rfl⟩) (fun b q e=>blk b _ e)⟩,hx,⟨hk.os,hk.tape,hk.output,hk.drawn,hk.size,fun b hb _=>hk.block b hb (fun q=>q),hk.loop⟩,fun b l=>.inl l,fun b o v e=>(h2 b o v e).imp id .inr⟩
 ·obtain⟨b,vs,ty,e1,e2,e3,e4,e5⟩:=r.box id cs e;exact⟨b,vs,ty,e1,blk _ _ e2,e3.mono hx,e4,fun o=>none b o (Jaq e2) (e5 o)⟩
 ·obtain⟨b,c,vs,ty,e1,e2,e3,e5,e6,e7,e9,e10⟩:=r.tok t k e;exact⟨b,c,vs,ty,e1,blk _ _ e2,e3,e5,e6,(JeW.mono hx ⟨e6,e7⟩).2,fun o ho=>none b o (Jaq e2) (e9 o ho),e10⟩
theorem Je4{f:FuncId}{args:List AV}{r:AV}(h:JR P f args r)(ha:∀ a∈args,Pure a)(hr:Pure r)(hp:Hp):JU P f args hp (fun r' h'=>r'=r/\h'=hp):=by
 intro g w vals rel hl;have hl':J9 (gm g.mem) vals.toList args:=⟨hl.1,fun i c a e1 e2=>ha a (List.mem_of_getElem? e2) g (gm g.mem) c (fun _ _ _ e=>e) (hl.2 i c a e1 e2)⟩;refine(h g.mem w vals rel.mem hl').mono fun e w' hh=>?_
 obtain⟨v,m,e1,e2,e3,e4,e5,e6⟩:=hh;exact⟨v,r,hp,{g with mem:=m},e1,hr (gm m) {g with mem:=m} v (fun _ _ _ e=>e) e2,rel.frame e3 e4 e5 e6,rfl,rfl⟩
def Jg(P:Program)(f:FuncId):Prop:=∃ fn,P.funcs[f]? = some fn/\fn.body.isNone=false/\(fn.name == "runtime.NumGoroutine")=false
theorem Je{f:FuncId}{args:List AV}{r:AV}{σ:St}{d:Option Tmp}{K:St->Prop}(hc:Jg P f)(h:JR P f args r)(ha:∀ a∈args,Pure a)(hr:Pure r)(hk:K (σ.put d r)):Jcz P f args σ d K :=
 ⟨hc,(Je4 h ha hr σ.hp).mono fun r' h' ⟨e1,e2⟩=>by subst e1;subst e2;exact hk⟩
def JcV (h:Hp)(r' r:AV):Prop :=
 ∀ g w v,JZ g h w->Rep g v r'->∃ m,Jmr g.mem m/\Jjm m w/\(∀ b o v,m b o=some v->g.mem b o=some v\/Ja2 g h b)/\Rep (gm m) v r
theorem Ja{h:Hp}{r:AV}(hr:Pure r):JcV h r r:=fun g w v rel hv=>⟨g.mem,fun _ _ _ e=>e,rel.mem,fun _ _ _ e=>.inl e,hr g _ v (fun _ _ _ e=>e) hv⟩
theorem Jbf{h:Hp}{t n:Nat}{k:Tk}(hk:lk h.toks t=some k)(hn:n=k.xs.length)(hp:∀ x∈k.xs,∀ c∈x,Pure c):JcV h (.own t n) (.vec k.xs false):=by
 intro g w v rel hv;subst hn;obtain⟨b,c,vs,ty,q1,q2,q3,q4,q5,q6,q7,q8,q9⟩:=rel.tokS hk (rel.tokO hk hv);obtain⟨g',r1,r2,r3,r4,r5⟩:=rel.freeze' hk q1 q2 q3;exact⟨g'.mem,r2,r1,fun b' o v' e=>(r3 b' o v' e).imp id fun q=>.inr (.inl ⟨t,k,c,_,hk,q ▸ q1⟩),(Pure.vec hp) g' _ v (fun _ _ _ e=>e) (r4 v hv)⟩
def JnT(h:Hp)(rs' rs:List AV):Prop :=
 ∀ g w vs,JZ g h w->J9 g vs rs'->∃ m,Jmr g.mem m/\Jjm m w/\(∀ b o v,m b o=some v->g.mem b o=some v\/Ja2 g h b)/\J9 (gm m) vs rs
theorem Jw{h:Hp}:JnT h [] []:=fun g w vs rel hv=>⟨g.mem,fun _ _ _ e=>e,rel.mem,fun _ _ _ e=>.inl e,hv.1,fun i c a e1 e2=>by simp at e2⟩
theorem Jf{h:Hp}{r' r:AV}{rs' rs:List AV}(k:JcV h r' r)(l:JnT h rs' rs):JnT h (r' :: rs') (r :: rs):=by
 intro g w vs rel hv;cases vs with
 | nil=>exact absurd hv.1 (by simp)
 | cons v vs =>
  obtain⟨m1,a1,a2,a3,a4⟩:=k g w v rel hv.head;obtain⟨m2,b1,b2,b3,b4⟩:=l g w vs rel hv.tail;have x1:Ext (gm m1) (gm fun b o=>(m1 b o).or (m2 b o)):=⟨Nat.le_refl _,fun b o v e=>by
   have e':m1 b o=some v:=e;simp[gm,e'],fun _ _=>rfl,fun _ _=>Jas.refl _,fun _ _ h=>h,fun _ _=>rfl⟩
  have x2:Ext (gm m2) (gm fun b o=>(m1 b o).or (m2 b o)):=⟨Nat.le_refl _,fun b o v e=>by
   have e':m2 b o=some v:=e;cases q:m1 b o with
   | none=>simp[gm,q,e']
   | some u =>
    have h1:=(a2 b o u q).1;have h2:=(b2 b o v e').1;rw[h1] at h2;cases h2;simp[gm,q],fun _ _=>rfl,fun _ _=>Jas.refl _,fun _ _ h=>h,fun _ _=>rfl⟩
  have split:∀ b o v,(m1 b o).or (m2 b o)=some v->m1 b o=some v\/m2 b o=some v:=fun b o v e=>by
   cases q:m1 b o with
   | none=>rw[q] at e;exact .inr (by simpa using e)
   | some u=>rw[q] at e;exact .inl (by simpa using e)
  exact⟨fun b o=>(m1 b o).or (m2 b o),fun b o v e=>by simp[a1 b o v e],fun b o v e=>(split b o v e).elim (a2 b o v) (b2 b o v),fun b o v e=>(split b o v e).elim (a3 b o v) (b3 b o v),.cons (a4.mono x1) (b4.mono x2)⟩
theorem JI{h:Hp}{rs' rs:List AV}(k:JnT h rs' rs):JcV h (.tup rs') (.tup rs):=by
 intro g w v rel hv;cases hv with
 | tup h1 h2 =>
  obtain⟨m,a1,a2,a3,a4⟩:=k g w _ rel ⟨h1,h2⟩;exact⟨m,a1,a2,a3,.tup a4.1 a4.2⟩
theorem Jp9{h:Hp}{rs' rs:List AV}(k:JnT h rs' rs):JcV h (.agg rs') (.agg rs):=by
 intro g w v rel hv;cases hv with
 | agg h0 h1 h2 =>
  obtain⟨m,a1,a2,a3,a4⟩:=k g w _ rel ⟨h1,h2⟩;exact⟨m,a1,a2,a3,.agg h0 a4.1 a4.2⟩
theorem JG{f:FuncId}{args:List AV}{r:AV}(h:JU P f args .none fun r' h'=>JcV h' r' r):JR P f args r:=by
 intro m w vals hm hl;refine(h (gm m) w vals (.none hm) hl).mono fun e w' hh=>?_
 obtain⟨v,r',h',g',e1,e2,e3,e4⟩:=hh;obtain⟨m',a1,a2,a3,a4⟩:=e4 g' w' v e3.hp e2;have live0:∀ b,Ja2 (gm m) .none b->False:=fun b l=>by
  rcases l with ⟨_,_,q,_⟩ | ⟨_,_,_,_,q,_⟩ | ⟨_,q⟩ <;> cases q
 refine⟨v,m',e1,a4,a2,⟨e3.keeps.os,e3.keeps.tape,e3.keeps.output,e3.keeps.drawn,e3.keeps.size,fun b hb _=>e3.keeps.block b hb (live0 b),e3.keeps.loop⟩,fun b o v e=>a1 b o v (e3.ext.mem b o v e),fun b o v e=>?_⟩;rcases a3 b o v e with q | q
 ·rcases e3.memo b o v q with q | q | q
  ·exact .inl q
  ·exact(live0 b q).elim
  ·exact .inr q
 ·rcases e3.live b q with q | q
  ·exact(live0 b q).elim
  ·exact .inr q
theorem Jn{f:FuncId}{fn:Func}{c:Code}{args:List AV}{r:AV}(hf:P.funcs[f]? = some fn)(hb:fn.body=some c){n:Nat}(hnt:fn.ntmps=n){rs:List ResultVar}(hrs:fn.results.toList=rs)(hn:args.length<=n)
  (hw:awp P c (Jt7 P rs fun r' h'=>JcV h' r' r) (entry args .none n)):JR P f args r:=JG (JL hf hb hnt hrs hn hw)
end
end Go.Ab
end
section
namespace Go.Ab
def JaM(P:Program)(f:FuncId)(args:List AV)(h:Hp)(v:AV):Prop:=JU P f args h fun r h'=>r=v/\h'=h
def qOp (P:Program)(σ:St)(op:Op):Option AV :=
 match Jz P σ op with
 | some v=>some v
 | none=>match op with
  | .buildSlice t n p=>match Jaf P σ (.buildSlice t n p) with
   | some (some v,_)=>some v
   | _=>none
  | .box _ x=>((ev σ x).bind AV.cells).map fun cs=>.pp cs 0
  | _=>none
def Ja0(P:Program)(σ:St)(o:Oper)(v:AV):Prop :=
 match o.op with
 | .pick c x y=>∃ b,(ev σ c).bind JcS=some b/\(bif b then ev σ x else ev σ y)=some v
 | .call ⟨.value f,args,_⟩=>∃ q as,JkL ((ev σ f).bind Jp7) (evL σ args.toList)=some (q,as)/\Jg P q.1/\JaM P q.1 (q.2.1++as++q.2.2) σ.hp v
 | op=>qOp P σ op=some v
theorem JcW{σ σ':St}:∀ {l:List Operand},(∀ x∈l,ev σ x=ev σ' x)->evL σ l=evL σ' l
 | [],_=>rfl
 | x :: l,h=>by simp only[evL,h x (by simp),JcW (l:=l) (fun y hy=>h y (by simp[hy]))]
theorem Jgi{σ σ':St}:∀ {l:List (Nat × Operand)},(∀ x∈l,ev σ x.2=ev σ' x.2)->evP σ l=evP σ' l
 | [],_=>rfl
 | (i,x) :: l,h=>by simp only[evP,h (i,x) (by simp),Jgi (l:=l) (fun y hy=>h y (by simp[hy]))]
theorem Jgj{σ σ':St}{x:Option Operand}(h:∀ y,x=some y->ev σ y=ev σ' y):evO σ x=evO σ' x:=by
 cases x with
 | none=>rfl
 | some y=>simp only[evO,h y rfl]
theorem JdO{P:Program}{σ σ':St}{op:Op}(hp:σ.hp=σ'.hp)(h:∀ x∈op.operands,ev σ x=ev σ' x):Jz P σ op=Jz P σ' op:=by
 cases op with
 | move x=>exact h x (by simp[Op.operands])
 | assign x=>exact h x (by simp[Op.operands])
 | build t ps =>
  have:evP σ ps.toList=evP σ' ps.toList:=Jgi fun p hp'=>h p.2 (by simp[Op.operands];exact⟨p.1,by simpa using hp'⟩)
  simp only[Jz,this]
 | load t x=>simp only[Jz,h x (by simp[Op.operands]),hp]
 | nilCheck x=>simp only[Jz,h x (by simp[Op.operands])]
 | binOp o t x y t'=>simp only[Jz,h x (by simp[Op.operands]),h y (by simp[Op.operands])]
 | unOp o t x=>simp only[Jz,h x (by simp[Op.operands])]
 | convert s d x=>simp only[Jz,h x (by simp[Op.operands])]
 | makeFunc f a b =>
  have h1:evL σ a.toList=evL σ' a.toList:=JcW fun y hy=>h y (by simp[Op.operands];exact .inl (by simpa using hy))
  have h2:evL σ b.toList=evL σ' b.toList:=JcW fun y hy=>h y (by simp[Op.operands];exact .inr (by simpa using hy))
  simp only[Jz,h1,h2]
 | fieldAddr s x f=>simp only[Jz,h x (by simp[Op.operands])]
 | field s x f=>simp only[Jz,h x (by simp[Op.operands])]
 | indexAddr t x i=>simp only[Jz,h x (by simp[Op.operands]),h i (by simp[Op.operands]),hp]
 | index t x i=>simp only[Jz,h x (by simp[Op.operands]),h i (by simp[Op.operands])]
 | slice t x lo hi mx =>
  have h1:evO σ lo=evO σ' lo:=Jgj fun y hy=>h y (by simp[Op.operands,hy])
  have h2:evO σ hi=evO σ' hi:=Jgj fun y hy=>h y (by simp[Op.operands,hy])
  have h3:evO σ mx=evO σ' mx:=Jgj fun y hy=>h y (by simp[Op.operands,hy])
  simp only[Jz,slP,h x (by simp[Op.operands]),h1,h2,h3]
 | extract x i=>simp only[Jz,h x (by simp[Op.operands])]
 | lookup t x y ok=>simp only[Jz,h x (by simp[Op.operands]),h y (by simp[Op.operands]),hp]
 | call c =>
  have h1:evL σ c.args.toList=evL σ' c.args.toList:=JcW fun y hy=>h y (by
   simp only[Op.operands,Call.operands,Array.mem_append];exact .inr (by simpa using hy))
  simp only[Jz,h1]
 | _=>rfl
theorem JnU{P:Program}{σ σ':St}{op:Op}(hp:σ.hp=σ'.hp)(h:∀ x∈op.operands,ev σ x=ev σ' x):qOp P σ op=qOp P σ' op:=by
 unfold qOp;rw[JdO hp h];cases Jz P σ' op with
 | some v=>rfl
 | none =>
  cases op with
  | buildSlice t n ps =>
   have:evP σ ps.toList=evP σ' ps.toList:=Jgi fun p hp'=>h p.2 (by simp[Op.operands];exact⟨p.1,by simpa using hp'⟩)
   simp only[Jaf,this,hp]
  | box t x=>simp only[h x (by simp[Op.operands])]
  | _=>rfl
theorem Jdf{P:Program}{σ σ':St}{o:Oper}{v:AV}(hp:σ.hp=σ'.hp)(h:∀ x∈o.op.operands,ev σ x=ev σ' x)(k:Ja0 P σ o v):Ja0 P σ' o v:=by
 unfold Ja0 at *;split at k
 ·rename_i c x y ho;rw[ho] at h;simp only[h c (by simp[Op.operands]),h x (by simp[Op.operands]),h y (by simp[Op.operands])] at k;exact k
 ·rename_i f args tys ho;rw[ho] at h;have h1:evL σ args.toList=evL σ' args.toList:=JcW fun y hy=>h y (by simp only[Op.operands,Call.operands,Array.mem_append];exact .inr (by simpa using hy))
  have h2:ev σ f=ev σ' f:=h f (by simp[Op.operands,Call.operands]);rw[h1,h2,hp] at k;exact k
 ·rw[JnU hp h] at k;exact k
section
variable {P:Program} {g0:Gh} {h0:Hp} {w0:Wr} {σ:St} {g:Gh} {w:World} {a:Act} {o:Oper}
theorem Jgk{t:TypeId}{n:Nat}{p:Array (Nat × Operand)}{v:Option AV}{h':Hp}(h:Jaf P σ (.buildSlice t n p)=some (v,h')):h'=σ.hp:=by
 simp only[Jaf] at h;repeat' (split at h)
 all_goals first | (cases h;done) | (cases h;rfl)
theorem Jdg(r:Jae g0 h0 w0 σ g w a){v:AV}(h:Ja0 P σ o v){next:Act->World->Prop}{Q:Exit->Act->World->Prop}
  (hn:∀ u g' w',Rep g' u v->JW g σ.hp w g' σ.hp w'->next (a.put o.dst u) w'):Oper.wp P o a w next Q:=by
 unfold Ja0 at h;split at h
 ·rename_i c x y ho;obtain⟨b,hb,hv⟩:=h;obtain⟨cv,hc,hcv⟩:=Option.bind_eq_some_iff.1 hb;have:=Jen hcv;subst this;have hcv:=(Rep.of_lit (r.ev hc)).1;unfold Oper.wp;cases b with
  | true =>
   simp only[execOp,ho,hcv,asBool,Sem.run_bind,Sem.run_pure,Result.andThen_ok,if_true];exact hn _ g w (r.ev hv) (.refl r.st.hp)
  | false =>
   simp only[execOp,ho,hcv,asBool,Sem.run_bind,Sem.run_pure,Result.andThen_ok];exact hn _ g w (r.ev hv) (.refl r.st.hp)
 ·rename_i f args tys ho;obtain⟨q,as,hpq,⟨fn,k1,k2,k3⟩,hc⟩:=h;unfold JkL at hpq;split at hpq
  ·rename_i q' as' hf ha;cases hpq;obtain⟨fv,h1,h2⟩:=Option.bind_eq_some_iff.1 hf;obtain⟨id,first,cap⟩:=q;have:=Jjj h2;subst this;have hv:=r.ev h1;have hl:=r.evL ha;generalize hu:a.eval f=u at hv;cases hv with
   | fn p1 p2 p3 p4 =>
    rename_i fs cs;have hargs:J9 g (fs++args.map a.eval++cs).toList (first++as++cap):=by
     simp only[Array.toList_append,Array.toList_map];exact(J9.append (J9.append ⟨p1,p2⟩ hl) ⟨p3,p4⟩)
    have hrun:(execOp a.eval o).run P w = .ok (.enter id (fs++args.map a.eval++cs)) w:=by
     simp only at k1 k2 k3;simp only[execOp,ho,Sem.run_bind,resolve,hu,Deferred.ofValue,Sem.run_pure,Result.andThen_ok,invoke,callFunc,run_program,k1,k2,k3];simp
    unfold Oper.wp;rw[hrun];refine(hc g w _ r.st.hp hargs).mono fun e w' hh=>?_
    obtain⟨v',rr,h',g',he,hr,hs,rfl,rfl⟩:=hh;subst he;exact hn _ g' w' hr hs
  ·cases hpq
 ·unfold qOp at h;split at h
  ·rename_i v' hv;cases h;obtain⟨u,e1,e2⟩:=Je3 r hv;unfold Oper.wp;rw[e1];exact hn u g w e2 (.refl r.st.hp)
  ·split at h
   ·rename_i t n p ho;split at h
    ·rename_i v' h' hh;cases h;have hsame:=Jgk hh;subst hsame;rw[<- ho] at hh;obtain⟨g',w',s,u,e1,e2⟩:=JcR r hh;unfold Oper.wp;rw[e1];exact hn u g' w' e2 s
    ·cases h
   ·rename_i t x ho;obtain⟨cs,hcs,rfl⟩:=Option.map_eq_some_iff.1 h;obtain⟨b,hx,hb⟩:=Option.bind_eq_some_iff.1 hcs;obtain⟨c1,c2⟩:=(r.ev hx).cells hb;have st:=JW.newRow r.st.hp (a.eval x).cells t c2;unfold Oper.wp;rw[show (execOp a.eval o).run P w = .ok (.value (.pointer (some ⟨w.heap.size,0,none⟩))) (w.alloc (.cells (a.eval x).cells t)) by simp[execOp,ho,Instr.box,newVar,newRow]];refine hn _ _ _ ?_ st;have key:Rep (g.addRow w.heap.size (a.eval x).cells) (.pointer (some ⟨w.heap.size,0+0,none⟩)) (.pp cs 0):=by
     refine .pp (fun j=>(a.eval x).cells.toList.getD j (.bool false)) (fun j c hj=>?_) (fun j c hj=>?_)
     ·have hlt:j<(a.eval x).cells.toList.length:=by rw[c1.1];exact(List.getElem?_eq_some_iff.1 hj).1
      have hlt2:j<(a.eval x).cells.size:=by simpa using hlt
      simp only[Gh.addRow,if_true,Nat.zero_add,List.getD_eq_getElem?_getD,Array.getElem?_toList];rw[Array.getElem?_eq_getElem hlt2];rfl
     ·have hlt:j<(a.eval x).cells.toList.length:=by rw[c1.1];exact(List.getElem?_eq_some_iff.1 hj).1
      have hv:(a.eval x).cells.toList[j]? = some ((a.eval x).cells.toList.getD j (.bool false)):=by rw[List.getD_eq_getElem?_getD,List.getElem?_eq_getElem hlt];rfl
      exact(c1.2 j _ c hv hj).mono st.ext
    exact key
   ·cases h
end
def JnV(P:Program)(f:FuncId)(args:List AV)(σ:St)(d:Option Tmp)(K:St->Prop):Prop:=Jg P f/\∃ v,JaM P f args σ.hp v/\K (σ.put d v)
theorem Jch{P:Program}{f:FuncId}{args:List AV}{σ:St}{d:Option Tmp}{K:St->Prop}{v:AV}(hc:Jg P f)(h:JaM P f args σ.hp v)(k:K (σ.put d v)):JnV P f args σ d K:=⟨hc,v,h,k⟩
theorem Jac{P:Program}{f:FuncId}{args:List AV}{σ:St}{d:Option Tmp}{K:St->Prop}{v:AV}(hc:Jg P f)(h:JR P f args v)(ha:∀ a∈args,Pure a)(hr:Pure v)(k:K (σ.put d v)):JnV P f args σ d K :=
 ⟨hc,v,Je4 h ha hr σ.hp,k⟩
def Jt8(P:Program)(o:Oper)(x:Option ((FuncId × List AV × List AV) × List AV))(K:St->Prop)(σ:St):Prop :=
 match x with
 | some (q,as)=>JnV P q.1 (q.2.1++as++q.2.2) σ o.dst K
 | none=>False
theorem Xbr{P:Program}{o:Oper}{f:FuncId}{a as b:List AV}{K:St->Prop}{σ:St}:Jt8 P o (some ((f,a,b),as)) K σ=JnV P f (a++as++b) σ o.dst K:=rfl
def qwo (P:Program)(o:Oper)(K:St->Prop)(σ:St):Prop :=
 match o.op with
 | .pick c x y=>Jp6 ((ev σ c).bind JcS) o.dst x y K σ
 | .call ⟨.value f,args,_⟩=>Jt8 P o (JkL ((ev σ f).bind Jp7) (evL σ args.toList)) K σ
 | op=>JcA (qOp P σ op) o.dst K σ
def qwl (P:Program)(ops:Array Oper):List Oper->(St->Prop)->St->Prop:=gwl (qwo P) ops
theorem JnW{P:Program}{o:Oper}{K:St->Prop}{σ:St}(h:qwo P o K σ):∃ v,Ja0 P σ o v/\K (σ.put o.dst v):=by
 unfold qwo at h;split at h
 ·rename_i c x y ho;cases hb:(ev σ c).bind JcS with
  | none=>rw[hb] at h;exact h.elim
  | some b =>
   rw[hb] at h;have hs:Jfn b x y o.dst K σ:=h;cases b with
   | true=>obtain⟨v,e1,e2⟩:=JcT (hs.1 rfl);exact⟨v,by unfold Ja0;rw[ho];exact⟨true,hb,e1⟩,e2⟩
   | false=>obtain⟨v,e1,e2⟩:=JcT (hs.2 rfl);exact⟨v,by unfold Ja0;rw[ho];exact⟨false,hb,e1⟩,e2⟩
 ·rename_i f args tys ho;cases hq:JkL ((ev σ f).bind Jp7) (evL σ args.toList) with
  | none=>rw[hq] at h;exact h.elim
  | some qa =>
   obtain⟨q,as⟩:=qa;rw[hq] at h;obtain⟨h1,v,h2,h3⟩:=h;exact⟨v,by unfold Ja0;rw[ho];exact⟨q,as,hq,h1,h2⟩,h3⟩
 ·rename_i h1 h2;obtain⟨v,e1,e2⟩:=JcT h;refine⟨v,?_,e2⟩;unfold Ja0;split
  ·rename_i c x y ho;exact(h1 c x y ho).elim
  ·rename_i f args tys ho;exact(h2 f args tys ho).elim
  ·exact e1
def looks(ops:Array Oper)(o:Oper):List Nat :=
 (o.op.operands.toList.filterMap fun | .tmp t=>some t | _=>none)++(match o.guard with
  | some (j,_)=>((ops[j]?).bind (·.dst)).toList
  | none=>[])
inductive Bef (ops:Array Oper):Nat->Nat->Prop
 | edge {j:Nat} {o:Oper} {e:Edge}:ops[j]? = some o->e∈o.after.toList->Region.binds .any e=true->Bef ops e.on j
 | trans {i j k:Nat}:Bef ops i j->Bef ops j k->Bef ops i k
def JnX(o:Oper)(acc:List (List Nat)):List Nat:=o.after.toList.flatMap fun e=>if Region.binds .any e=true then e.on :: acc.getD e.on [] else []
def Jqa:List Oper->List (List Nat)->List (List Nat)
 | [],acc=>acc
 | o :: l,acc=>Jqa l (acc++[(JnX o acc).eraseDups])
theorem JbH{ops:Array Oper}:∀ (l:List Oper) (acc:List (List Nat)),ops.toList=ops.toList.take acc.length++l->acc.length+l.length=ops.size->(∀ j i,i∈acc.getD j []->Bef ops i j)->∀ j i,i∈(Jqa l acc).getD j []->Bef ops i j
 | [],acc,_,_,h,j,i,hi=>h j i hi
 | o :: l,acc,hl,hn,h,j,i,hi=>by
  have ho:ops[acc.length]? = some o:=by
   have hlt:acc.length<ops.size:=by simp at hn;omega
   have hm:min acc.length ops.size=acc.length:=by omega
   have:ops.toList[acc.length]? = some o:=by rw[hl,List.getElem?_append_right (by simp;omega)];simp[hm]
   simpa using this
  refine JbH l _ ?_ (by simp at hn ⊢;omega) ?_ j i hi
  ·have hlt:acc.length<ops.toList.length:=by simp at hn ⊢;omega
   simp only[List.length_append,List.length_cons,List.length_nil,Nat.zero_add];rw[List.take_add_one];have h2:ops.toList[acc.length]? = some o:=by simpa using ho
   rw[h2];simpa using hl
  ·intro j i hi;by_cases hj:j<acc.length
   ·rw[List.getD_eq_getElem?_getD,List.getElem?_append_left hj,<- List.getD_eq_getElem?_getD] at hi;exact h j i hi
   ·by_cases hj':j=acc.length
    ·subst hj';rw[List.getD_eq_getElem?_getD,List.getElem?_append_right (Nat.le_refl _),Nat.sub_self] at hi;simp only[List.getElem?_cons_zero,Option.getD_some,List.mem_eraseDups] at hi;simp only[JnX,List.mem_flatMap] at hi;obtain⟨e,he,hi⟩:=hi;split at hi
     ·rename_i hb;simp only[List.mem_cons] at hi;rcases hi with rfl | hi
      ·exact .edge ho he hb
      ·exact .trans (h _ _ hi) (.edge ho he hb)
     ·cases hi
    ·rw[List.getD_eq_getElem?_getD,List.getElem?_eq_none (by simp;omega)] at hi;cases hi
def Jdh(ops:Array Oper)(nt p:Nat):Bool :=
 let B:=Jqa ops.toList []
 let n:=ops.size
 decide (p<=n) &&
 (List.range p).all fun j =>
  let o:=ops.getD j default
  (o.after.toList.all fun e => !Region.binds .any e || decide (e.on<j)) &&
  (match o.dst with | some d=>decide (d<nt) | none=>true) &&
  (List.range j).all fun i =>
   let q:=ops.getD i default
   (B.getD j []).contains i || !((match q.dst with | some d=>(looks ops o).contains d || o.dst==some d | none=>false) || (match o.dst with | some d=>(looks ops q).contains d | none=>false))
def Je5(ops:Array Oper)(p:Nat):Bool :=
 let B:=Jqa ops.toList []
 (List.range ops.size).all fun j=>decide (j<p) || (List.range p).all fun i=>(B.getD j []).contains i
section
variable {P:Program} {ops:Array Oper} {p:Nat} {σ:St}
structure Ji5 (ops:Array Oper) (nt p:Nat):Prop where
 le:p<=ops.size
 back:∀ j o e,j<p->ops[j]? = some o->e∈o.after.toList->Region.binds .any e=true->e.on<j
 bound:∀ j o d,j<p->ops[j]? = some o->o.dst=some d->d<nt
 sep:∀ i j q o,i<j->j<p->ops[i]? = some q->ops[j]? = some o->(∃ d,q.dst=some d/\(d∈looks ops o\/o.dst=some d))\/(∃ d,o.dst=some d/\d∈looks ops q)->Bef ops i j
theorem Ji5.of_B{nt:Nat}(h:Jdh ops nt p=true):Ji5 ops nt p:=by
 unfold Jdh at h;simp only[Bool.and_eq_true,decide_eq_true_eq,List.all_eq_true,List.mem_range,Bool.or_eq_true,Bool.not_eq_true'] at h;obtain⟨h0,h1⟩:=h;have getD:∀ j o,ops[j]? = some o->ops.getD j default=o:=fun j o e=>by rw[Array.getD_eq_getD_getElem?,e];rfl
 refine⟨h0,fun j o e hj ho he hb=>?_,fun j o d hj ho hd=>?_,fun i j q o hij hj hq ho hc=>?_⟩
 ·obtain⟨⟨h2,_⟩,_⟩:=h1 j hj;rw[getD j o ho] at h2;rcases h2 e he with h3 | h3
  ·rw[hb] at h3;cases h3
  ·exact h3
 ·obtain⟨⟨_,h2⟩,_⟩:=h1 j hj;rw[getD j o ho,hd] at h2;simpa using h2
 ·obtain⟨_,h2⟩:=h1 j hj;have h3:=h2 i hij;rw[getD j o ho,getD i q hq] at h3;have bef:(Jqa ops.toList []).getD j []=(Jqa ops.toList []).getD j []:=rfl;have sound:=JbH (ops:=ops) ops.toList [] (by simp) (by simp) (by simp);rcases h3 with h3 | h3
  ·exact sound j i (by simpa using h3)
  ·exfalso;simp only[Bool.or_eq_false_iff] at h3;rcases hc with ⟨d,e1,e2⟩ | ⟨d,e1,e2⟩
   ·rw[e1] at h3;rcases e2 with e2 | e2
    ·have:=h3.1;simp[e2] at this
    ·have:=h3.1;simp[e2] at this
   ·rw[e1] at h3;have:=h3.2;simp[e2] at this
theorem Jci(h:Je5 ops p=true){i j:Nat}(hi:i<p)(hj:p<=j)(hn:j<ops.size):Bef ops i j:=by
 unfold Je5 at h;simp only[List.all_eq_true,List.mem_range,Bool.or_eq_true,decide_eq_true_eq] at h;rcases h j hn with h1 | h1
 ·omega
 ·exact JbH (ops:=ops) ops.toList [] (by simp) (by simp) (by simp) j i (by simpa using h1 i hi)
def JaP (σ:St):List (Option Tmp × AV)->St
 | []=>σ
 | (d,w) :: l=>JaP (σ.put d w) l
theorem Jfq(σ:St)(d:Option Tmp)(w:AV):(σ.put d w).hp=σ.hp/\(σ.put d w).nt=σ.nt:=by
 cases d with
 | none=>exact⟨rfl,rfl⟩
 | some d=>simp only[St.put];split <;> exact⟨rfl,rfl⟩
theorem JaW:∀ (l:List (Option Tmp × AV)) (σ:St),(JaP σ l).hp=σ.hp/\(JaP σ l).nt=σ.nt
 | [],_=>⟨rfl,rfl⟩
 | (d,w) :: l,σ=>by
  obtain⟨h1,h2⟩:=JaW l (σ.put d w);obtain⟨h3,h4⟩:=Jfq σ d w;exact⟨h1.trans h3,h2.trans h4⟩
theorem Jdi{nt:Nat}:∀ (l:List (Option Tmp × AV)) (σ:St) (s:Nat) (v:AV),σ.nt=nt->(∀ (i:Nat) (d:Nat) (w:AV),l[i]? = some (some d,w)->d<nt)->lk (JaP σ l).slots s=some v ->
  (∃ j:Nat,l[j]? = some (some s,v)/\∀ (k:Nat) (d:Option Tmp) (w:AV),j<k->l[k]? = some (d,w)->d≠some s)\/((∀ (k:Nat) (d:Option Tmp) (w:AV),l[k]? = some (d,w)->d≠some s)/\lk σ.slots s=some v)
 | [],σ,s,v,_,_,h=>.inr ⟨fun k d w e=>by simp at e,h⟩
 | (d,w) :: l,σ,s,v,hnt,hb,h=>by
  obtain⟨_,h4⟩:=Jfq σ d w;rcases Jdi l (σ.put d w) s v (h4.trans hnt) (fun i d' w' e=>hb (i+1) d' w' (by simpa using e)) h with ⟨j,h1,h2⟩ | ⟨h1,h2⟩
  ·refine .inl ⟨j+1,by simpa using h1,fun k d' w' hk e=>?_⟩;match k,hk,e with
   | k+1,hk,e=>exact h2 k d' w' (by omega) (by simpa using e)
  ·cases d with
   | none =>
    refine .inr ⟨fun k d' w' e=>?_,h2⟩;match k,e with
    | 0,e=>simp at e;rw[<- e.1];simp
    | k+1,e=>exact h1 k d' w' (by simpa using e)
   | some d =>
    have hd:d<nt:=hb 0 d w rfl;simp only[St.put,hnt,hd,if_true,lk] at h2;by_cases hs:d=s
    ·subst hs;rw[if_pos rfl] at h2;cases h2;refine .inl ⟨0,rfl,fun k d' w' hk e=>?_⟩;match k,hk,e with
     | k+1,hk,e=>exact h1 k d' w' (by simpa using e)
    ·rw[if_neg hs] at h2;refine .inr ⟨fun k d' w' e=>?_,h2⟩;match k,e with
     | 0,e=>simp at e;rw[<- e.1];simp;exact hs
     | k+1,e=>exact h1 k d' w' (by simpa using e)
structure Jjn (P:Program) (ops:Array Oper) (l:List Oper) (σ:St) (ws:List AV):Prop where
 len:ws.length=l.length
 step:∀ i o w,l[i]? = some o->ws[i]? = some w->∃ b,(o.guard=none/\b=true\/∃ j want c,o.guard=some (j,want)/\Jar ops (JaP σ ((l.map (·.dst)).zip ws |>.take i)) j want=some c/\b=(c==want)) /\
  (b=true->Ja0 P (JaP σ ((l.map (·.dst)).zip ws |>.take i)) o w)/\(b=false->w = .tup [])
theorem Jcj{K:St->Prop}:∀ (l:List Oper) (σ:St),qwl P ops l K σ->∃ ws,Jjn P ops l σ ws/\K (JaP σ ((l.map (·.dst)).zip ws))
 | [],σ,h=>⟨[],⟨rfl,fun i o w e=>by simp at e⟩,h⟩
 | o :: l,σ,h=>by
  have cons:∀ (w:AV) (b:Bool),(o.guard=none/\b=true\/∃ j want c,o.guard=some (j,want)/\Jar ops σ j want=some c/\b=(c==want))->(b=true->Ja0 P σ o w)->(b=false->w = .tup [])->qwl P ops l K (σ.put o.dst w) ->
    ∃ ws,Jjn P ops (o :: l) σ ws/\K (JaP σ (((o :: l).map (·.dst)).zip ws)):=by
   intro w b hg hv hw hk;obtain⟨ws,t,hK⟩:=Jcj l _ hk;refine⟨w :: ws,⟨by simp[t.len],fun i o' w' e1 e2=>?_⟩,hK⟩;match i,e1,e2 with
   | 0,e1,e2 =>
    simp at e1 e2;subst e1;subst e2;exact⟨b,hg,hv,hw⟩
   | i+1,e1,e2=>exact t.step i o' w' (by simpa using e1) (by simpa using e2)
  simp only[qwl,gwl] at h;cases hg:o.guard with
  | none =>
   simp only[hg] at h;obtain⟨v,h1,h2⟩:=JnW h;exact cons v true (.inl ⟨hg,rfl⟩) (fun _=>h1) (fun q=>by cases q) h2
  | some jw =>
   obtain⟨j,want⟩:=jw;simp only[hg] at h;cases hb:Jar ops σ j want with
   | none=>simp only[hb] at h
   | some c =>
    simp only[hb] at h;by_cases hc:c=want
    ·obtain⟨v,h1,h2⟩:=JnW (h.1 hc);exact cons v true (.inr ⟨j,want,c,hg,hb,by simp[hc]⟩) (fun _=>h1) (fun q=>by cases q) h2
    ·have:=h.2 (by cases c <;> cases want <;> simp_all)
     exact cons (.tup []) false (.inr ⟨j,want,c,hg,hb,by simp[hc]⟩) (fun q=>by cases q) (fun _=>rfl) this
structure Ji6 (ops:Array Oper) (p:Nat) (σ:St) (ws:List AV) (g0:Gh) (h0:Hp) (w0:Wr) (L:Nat->Bool) (g:Gh) (w:World) (a:Act):Prop where
 st:JW g0 h0 w0.w g σ.hp w
 nt:a.tmps.size=σ.nt
 defers:Jcw w0.w w a.defers
 wrt:∀ (j:Nat) (o:Oper) (v:AV) (s:Nat),L j=true->ops[j]? = some o->ws[j]? = some v->o.dst=some s->(∀ (k:Nat) (q:Oper),j<k->L k=true->ops[k]? = some q->q.dst≠some s)->∃ u,a.tmps[s]? = some u/\Rep g u v
 old:∀ s v,(∀ (j:Nat) (o:Oper),L j=true->ops[j]? = some o->o.dst≠some s)->lk σ.slots s=some v->∃ u,a.tmps[s]? = some u/\Rep g u v
theorem Jjn.at{l:List Oper}{ws:List AV}(t:Jjn P ops l σ ws){i:Nat}{o:Oper}(h:l[i]? = some o):∃ w,ws[i]? = some w:=by
 have hi:i<ws.length:=by rw[t.len];exact(List.getElem?_eq_some_iff.1 h).1
 exact⟨ws[i],List.getElem?_eq_getElem hi⟩
theorem Jat{l:List Oper}{ws:List AV}{i m:Nat}{d:Option Tmp}{w:AV}(h:(((l.map (·.dst)).zip ws).take m)[i]? = some (d,w)):i<m/\∃ o,l[i]? = some o/\o.dst=d/\ws[i]? = some w:=by
 rw[List.getElem?_take] at h;split at h
 ·rename_i hi;rw[List.getElem?_zip_eq_some] at h;obtain⟨h1,h2⟩:=h;rw[List.getElem?_map,Option.map_eq_some_iff] at h1;obtain⟨o,h3,h4⟩:=h1;exact⟨hi,o,h3,h4,h2⟩
 ·cases h
theorem JaY{l:List Oper}{ws:List AV}{i m:Nat}{o:Oper}{w:AV}(hi:i<m)(ho:l[i]? = some o)(hw:ws[i]? = some w):(((l.map (·.dst)).zip ws).take m)[i]? = some (o.dst,w):=by
 rw[List.getElem?_take,if_pos hi,List.getElem?_zip_eq_some];exact⟨by rw[List.getElem?_map,ho];rfl,hw⟩
def JdP(ops:Array Oper)(L:Nat->Bool):Prop:=∀ i j,Bef ops i j->L j=true->L i=true
theorem JaB{i:Nat}{o:Oper}(h:(ops.toList.take p)[i]? = some o):i<p/\ops[i]? = some o:=by
 rw[List.getElem?_take] at h;split at h
 ·rename_i hi;exact⟨hi,by simpa using h⟩
 ·cases h
theorem JT{i:Nat}{o:Oper}(hi:i<p)(h:ops[i]? = some o):(ops.toList.take p)[i]? = some o:=by
 rw[List.getElem?_take,if_pos hi];simpa using h
variable {g0:Gh} {h0:Hp} {w0:Wr}
theorem Ji6.looks{ws:List AV}{L:Nat->Bool}{g:Gh}{w:World}{a:Act}(hs:Ji5 ops σ.nt p)(t:Jjn P ops (ops.toList.take p) σ ws)(hh:Ji6 ops p σ ws g0 h0 w0 L g w a)(hc:JdP ops L)(hlt:∀ j,L j=true->j<p)
  {i:Nat} {o:Oper} (hi:i<p) (ho:ops[i]? = some o) (hu:L i=false) (hr:∀ k,Bef ops k i->L k=true) {s:Nat} (hl:s∈looks ops o) {v:AV}
  (e:lk (JaP σ ((((ops.toList.take p).map (·.dst)).zip ws).take i)).slots s=some v):∃ u,a.tmps[s]? = some u/\Rep g u v:=by
 rcases Jdi (nt:=σ.nt) _ σ s v rfl (fun k d w' q=>by
  obtain⟨_,q1,q2,q3,_⟩:=Jat q;exact hs.bound k q1 d (JaB q2).1 (JaB q2).2 q3) e with ⟨j,h1,h2⟩ | ⟨h1,h2⟩
 ·obtain⟨hji,oj,q1,q2,q3⟩:=Jat h1;obtain⟨hjp,q1'⟩:=JaB q1;refine hh.wrt j oj v s (hr j (hs.sep j i oj o hji hi q1' ho (.inl ⟨s,q2,.inl hl⟩))) q1' q3 q2 (fun k q hjk hLk hk hd=>?_);rcases Nat.lt_trichotomy k i with hki | hki | hki
  ·obtain⟨wk,hwk⟩:=t.at (JT (by omega) hk);exact h2 k q.dst wk hjk (JaY hki (JT (by omega) hk) hwk) hd
  ·subst hki;rw[hu] at hLk;cases hLk
  ·have:=hc i k (hs.sep i k o q hki (hlt k hLk) ho hk (.inr ⟨s,hd,hl⟩)) hLk;rw[hu] at this;cases this
 ·refine hh.old s v (fun k q hLk hk hd=>?_) h2;rcases Nat.lt_trichotomy k i with hki | hki | hki
  ·obtain⟨wk,hwk⟩:=t.at (JT (by omega) hk);exact h1 k q.dst wk (JaY hki (JT (by omega) hk) hwk) hd
  ·subst hki;rw[hu] at hLk;cases hLk
  ·have:=hc i k (hs.sep i k o q hki (hlt k hLk) ho hk (.inr ⟨s,hd,hl⟩)) hLk;rw[hu] at this;cases this
theorem Ji6.put{ws:List AV}{L:Nat->Bool}{g g':Gh}{w w':World}{a:Act}(hs:Ji5 ops σ.nt p)(hh:Ji6 ops p σ ws g0 h0 w0 L g w a)(hc:JdP ops L)(hlt:∀ j,L j=true->j<p)
  {i:Nat} {o:Oper} (hi:i<p) (ho:ops[i]? = some o) (hu:L i=false) {v:AV} (hw:ws[i]? = some v) {u:Value} (hv:Rep g' u v) (st:JW g σ.hp w g' σ.hp w') :
  Ji6 ops p σ ws g0 h0 w0 (fun j=>if j=i then true else L j) g' w' (a.put o.dst u):=by
 have keep:∀ s,o.dst≠some s->(a.put o.dst u).tmps[s]? = a.tmps[s]? := fun s hs'=>by
  cases hd:o.dst with
  | none=>rfl
  | some d =>
   have:d≠s:=fun q=>hs' (by rw[hd,q])
   simp only[Act.put,Array.getElem?_setIfInBounds_ne this]
 refine⟨hh.st.trans st,by cases hd:o.dst <;> simp[Act.put,hh.nt],by rw[JdY];exact hh.defers.step hh.st.hp st,fun j oj vj s hL hj hwj hd hlast=>?_,fun s v' hno e=>?_⟩
 ·by_cases hji:j=i
  ·subst hji;rw[ho] at hj;cases hj;rw[hw] at hwj;cases hwj;refine⟨u,?_,hv⟩;rw[hd];have hlt':s<a.tmps.size:=by rw[hh.nt];exact hs.bound j o s hi ho hd
   simp[Act.put,hlt']
  ·simp only[if_neg hji] at hL;have hne:o.dst≠some s:=fun hod=>by
    rcases Nat.lt_or_gt_of_ne hji with hlt' | hgt
    ·exact hlast i o hlt' (by simp) ho hod
    ·have:=hc i j (hs.sep i j o oj hgt (hlt j hL) ho hj (.inl ⟨s,hod,.inr hd⟩)) hL;rw[hu] at this;cases this
   obtain⟨u',e1,e2⟩:=hh.wrt j oj vj s hL hj hwj hd (fun k q hk hLk hq hqd=>hlast k q hk (by by_cases hki:k=i <;> simp[hki,hLk]) hq hqd)
   exact⟨u',(keep s hne).trans e1,e2.mono st.ext⟩
 ·have hne:o.dst≠some s:=hno i o (by simp) ho;obtain⟨u',e1,e2⟩:=hh.old s v' (fun j oj hL hj=>hno j oj (by by_cases hji:j=i <;> simp[hji,hL]) hj) e
  exact⟨u',(keep s hne).trans e1,e2.mono st.ext⟩
theorem Jck{α:Type}{f f':α->Bool}:∀ {l:List α},(∀ x∈l,f' x=true->f x=true)->(∃ x∈l,f x=true/\f' x=false)->(l.filter f').length<(l.filter f).length
 | [],_,⟨x,hx,_⟩=>by simp at hx
 | y :: l,h,⟨x,hx,h1,h2⟩=>by
  have le:∀ l:List α,(∀ x∈l,f' x=true->f x=true)->(l.filter f').length<=(l.filter f).length:=by
   intro l hl;induction l with
   | nil=>simp
   | cons z l ih =>
    have:=ih (fun x hx=>hl x (by simp[hx]));have hz:=hl z (by simp);cases q:f' z with
    | true=>simp[List.filter_cons,q,hz q];exact this
    | false=>cases q2:f z <;> simp[List.filter_cons,q,q2] <;> omega
  simp only[List.mem_cons] at hx;rcases hx with rfl | hx
  ·have:=le l (fun x hx=>h x (by simp[hx]));simp[List.filter_cons,h1,h2];omega
  ·have ih:=Jck (l:=l) (fun x hx=>h x (by simp[hx])) ⟨x,hx,h1,h2⟩;have hy:=h y (by simp);cases q:f' y with
   | true=>simp[List.filter_cons,q,hy q];exact ih
   | false=>cases q2:f y <;> simp[List.filter_cons,q,q2] <;> omega
def Jah (listed:Array Bool)(j:Nat):Bool:=listed.getD j false
theorem Jba{listed:Array Bool}(hsz:listed.size=ops.size){i:Nat}:i∈Region.ready .any ops listed↔∃ o,ops[i]? = some o/\Jah listed i=false/\∀ e∈o.after.toList,Region.binds .any e=true->Jah listed e.on=true:=by
 unfold Region.ready Jah;simp only[List.mem_filter,List.mem_range,Bool.and_eq_true,Bool.not_eq_true'];constructor
 ·rintro⟨hi,h1,h2⟩;have ho:ops[i]? = some ops[i]:=Array.getElem?_eq_getElem hi;rw[ho] at h2;simp only[Option.map_some,Option.getD_some,Array.all_eq_true_iff_forall_mem,Bool.or_eq_true,Bool.not_eq_true'] at h2;refine⟨ops[i],ho,?_,fun e he hb=>?_⟩
  ·have hl:i<listed.size:=by omega
   simp only[Array.getD_eq_getD_getElem?,Array.getElem?_eq_getElem hl,Option.getD_some] at h1 ⊢;exact h1
  ·rcases h2 e (by simpa using he) with h3 | h3
   ·rw[hb] at h3;cases h3
   ·exact h3
 ·rintro⟨o,ho,h1,h2⟩;have hi:i<ops.size:=(Array.getElem?_eq_some_iff.1 ho).1;refine⟨hi,?_,?_⟩
  ·have hl:i<listed.size:=by omega
   simp only[Array.getD_eq_getD_getElem?,Array.getElem?_eq_getElem hl,Option.getD_some] at h1 ⊢;exact h1
  ·rw[ho];simp only[Option.map_some,Option.getD_some,Array.all_eq_true_iff_forall_mem,Bool.or_eq_true,Bool.not_eq_true'];intro e he;cases hb:Region.binds .any e with
   | false=>exact .inl rfl
   | true=>exact .inr (h2 e (by simpa using he) hb)
theorem JfQ{listed:Array Bool}{i:Nat}(hi:i<listed.size)(j:Nat):Jah (listed.setIfInBounds i true) j=if j=i then true else Jah listed j:=by
 unfold Jah;simp only[Array.getD_eq_getD_getElem?];by_cases hji:j=i
 ·subst hji;simp[hi]
 ·rw[Array.getElem?_setIfInBounds_ne (fun q=>hji q.symm),if_neg hji]
theorem JlD{L:Nat->Bool}{i:Nat}{o:Oper}(hc:JdP ops L)(ho:ops[i]? = some o)(h:∀ e∈o.after.toList,Region.binds .any e=true->L e.on=true):∀ k,Bef ops k i->L k=true:=by
 intro k hk;have key:∀ k j,Bef ops k j->j=i->L k=true:=by
  intro k j hb;induction hb with
  | edge h1 h2 h3=>intro q;subst q;rw[ho] at h1;cases h1;exact h _ h2 h3
  | trans h1 h2 ih1 ih2=>intro q;exact hc _ _ h1 (ih2 q)
 exact key k i hk rfl
theorem JnY{ws:List AV}{Q:Exit->Act->World->Prop}{rest:Nat}(hs:Ji5 ops σ.nt p)(ht:∀ i j,i<p->p<=j->j<ops.size->Bef ops i j)(t:Jjn P ops (ops.toList.take p) σ ws)
  (fin:∀ g w a listed fuel,listed.size=ops.size->(∀ j,Jah listed j=decide (j<p))->rest<=fuel->Jae g0 h0 w0 (JaP σ (((ops.toList.take p).map (·.dst)).zip ws)) g w a->Ja5 P .any ops Q fuel listed a w) :
  ∀ (m:Nat) (listed:Array Bool) (fuel:Nat) (g:Gh) (w:World) (a:Act),listed.size=ops.size->(∀ j,Jah listed j=true->j<p)->JdP ops (Jah listed) ->
   ((List.range p).filter fun j => !Jah listed j).length<=m->m+rest<=fuel->Ji6 ops p σ ws g0 h0 w0 (Jah listed) g w a->Ja5 P .any ops Q fuel listed a w:=by
 intro m;induction m with
 | zero =>
  intro listed fuel g w a hsz hlt hc hm hf hh;have hall:∀ j,j<p->Jah listed j=true:=fun j hj=>by
   cases q:Jah listed j with
   | true=>rfl
   | false =>
    have:j∈(List.range p).filter fun j => !Jah listed j:=by simp[hj,q]
    rw[List.eq_nil_of_length_eq_zero (Nat.le_zero.1 hm)] at this;cases this
  have hon:∀ j,Jah listed j=decide (j<p):=fun j=>by
   by_cases hj:j<p
   ·simp[hj,hall j hj]
   ·cases q:Jah listed j with
    | true=>exact absurd (hlt j q) hj
    | false=>simp[hj]
  refine fin g w a listed fuel hsz hon (by omega) ⟨?_,fun s v e=>?_,?_,hh.defers⟩
  ·rw[(JaW _ σ).1];exact hh.st
  ·rcases Jdi (nt:=σ.nt) _ σ s v rfl (fun k d w' q=>by
    have q':=Jat (i:=k) (m:=k+1) (by rw[List.getElem?_take,if_pos (by omega)];exact q);obtain⟨_,o1,q2,q3,_⟩:=q';exact hs.bound k o1 d (JaB q2).1 (JaB q2).2 q3) e with ⟨j,h1,h2⟩ | ⟨h1,h2⟩
   ·have q':=Jat (i:=j) (m:=j+1) (by rw[List.getElem?_take,if_pos (by omega)];exact h1);obtain⟨_,oj,q1,q2,q3⟩:=q';obtain⟨hjp,q1'⟩:=JaB q1;refine hh.wrt j oj v s (hall j hjp) q1' q3 q2 (fun k q hjk hLk hk hd=>?_);have hkp:=hlt k hLk;obtain⟨wk,hwk⟩:=t.at (JT hkp hk);have:=JaY (m:=k+1) (Nat.lt_succ_self k) (JT hkp hk) hwk;rw[List.getElem?_take,if_pos (by omega)] at this;exact h2 k q.dst wk hjk this hd
   ·refine hh.old s v (fun k q hLk hk hd=>?_) h2;have hkp:=hlt k hLk;obtain⟨wk,hwk⟩:=t.at (JT hkp hk);have:=JaY (m:=k+1) (Nat.lt_succ_self k) (JT hkp hk) hwk;rw[List.getElem?_take,if_pos (by omega)] at this;exact h1 k q.dst wk this hd
  ·rw[(JaW _ σ).2];exact hh.nt
 | succ m ih =>
  intro listed fuel g w a hsz hlt hc hm hf hh;by_cases hz:((List.range p).filter fun j => !Jah listed j).length<=m
  ·exact ih listed fuel g w a hsz hlt hc hz (by omega) hh
  ·
   obtain⟨fuel,rfl⟩:∃ f,fuel=f+1:=⟨fuel - 1,by omega⟩;have hex:∃ j,j<p/\Jah listed j=false:=by
    cases q:(List.range p).filter fun j => !Jah listed j with
    | nil=>rw[q] at hz;simp at hz
    | cons x l =>
     have:x∈(List.range p).filter fun j => !Jah listed j:=by rw[q];simp
     simp only[List.mem_filter,List.mem_range,Bool.not_eq_true'] at this;exact⟨x,this⟩
   refine⟨fun hnil=>?_,fun i hi=>?_⟩
   ·exfalso;have least:∀ n,∀ j,j<=n->j<p->Jah listed j=false->False:=by
     intro n;induction n using Nat.strongRecOn with
     | _ n ihn =>
      intro j hjn hj hoff;have hjs:j<ops.size:=Nat.lt_of_lt_of_le hj hs.le;have hready:j∈Region.ready .any ops listed:=(Jba hsz).2 ⟨ops[j],Array.getElem?_eq_getElem hjs,hoff,fun e he hb=>by
       have hb':=hs.back j _ e hj (Array.getElem?_eq_getElem hjs) he hb;cases q:Jah listed e.on with
       | true=>rfl
       | false=>exact(ihn (e.on) (by omega) e.on (Nat.le_refl _) (by omega) q).elim⟩
      rw[hnil] at hready;cases hready
    obtain⟨j,hj,hoff⟩:=hex;exact least j j (Nat.le_refl _) hj hoff
   ·obtain⟨o,ho,hoff,hedges⟩:=(Jba hsz).1 hi;have his:i<ops.size:=(Array.getElem?_eq_some_iff.1 ho).1;have hr:=JlD hc ho hedges;have hip:i<p:=by
     rcases Nat.lt_or_ge i p with h1 | h1
     ·exact h1
     ·obtain⟨j,hj,hjoff⟩:=hex;have:=hr j (ht j i hj h1 his);rw[hjoff] at this;cases this
    obtain⟨v,hv⟩:=t.at (JT hip ho);obtain⟨b,hguard,hval,hskip⟩:=t.step i o v (JT hip ho) hv;have look:∀ s∈Ab.looks ops o,∀ v,lk (JaP σ ((((ops.toList.take p).map (·.dst)).zip ws).take i)).slots s=some v->∃ u,a.tmps[s]? = some u/\Rep g u v :=
     fun s hs' v e=>hh.looks hs t hc hlt hip ho hoff hr hs' e
    have hwant:Region.wanted o (yielded ops a.tmps)=b:=by
     rcases hguard with ⟨hg,rfl⟩ | ⟨j,want,c,hg,hbit,rfl⟩
     ·simp[Region.wanted,hg]
     ·have:(yielded ops a.tmps j==some want)=(c==want):=by
       unfold Jar at hbit;split at hbit
       ·rename_i d hd;split at hbit
        ·rename_i b' hl;cases hbit;have hmem:d∈Ab.looks ops o:=by simp only[Ab.looks,hg,List.mem_append];exact .inr (by rw[hd];simp)
         obtain⟨u,e1,e2⟩:=look d hmem _ hl;have:=(Rep.of_lit e2).1;subst this;simp[yielded,hd,e1]
        ·rename_i hl;cases hbit;have hmem:d∈Ab.looks ops o:=by simp only[Ab.looks,hg,List.mem_append];exact .inr (by rw[hd];simp)
         obtain⟨u,e1,e2⟩:=look d hmem _ hl;cases e2;simp[yielded,hd,e1]
        ·cases hbit
       ·cases hbit
      simp[Region.wanted,hg,this]
    have next:∀ u g' w',Rep g' u v->JW g σ.hp w g' σ.hp w'->Ja5 P .any ops Q fuel (listed.setIfInBounds i true) (a.put o.dst u) w':=by
     intro u g' w' hu st;have hon:Jah (listed.setIfInBounds i true)=fun j=>if j=i then true else Jah listed j:=funext (JfQ (by omega))
     refine ih _ fuel g' w' _ (by simpa using hsz) (fun j hj=>?_) ?_ ?_ (by omega) ?_
     ·rw[hon] at hj;by_cases hji:j=i
      ·omega
      ·simp only[if_neg hji] at hj;exact hlt j hj
     ·rw[hon];intro k j hb hj;by_cases hki:k=i
      ·simp[hki]
      ·simp only[if_neg hki];by_cases hji:j=i
       ·subst hji;exact hr k hb
       ·simp only[if_neg hji] at hj;exact hc k j hb hj
     ·have:=Jck (f:=fun j => !Jah listed j) (f':=fun j => !Jah (listed.setIfInBounds i true) j) (l:=List.range p) (fun x _ hx=>by
       rw[hon] at hx;by_cases hxi:x=i
       ·simp[hxi] at hx
       ·simpa [hxi] using hx) ⟨i,by simp[hip],by simp[hoff],by rw[hon];simp⟩
      omega
     ·rw[hon];exact hh.put hs hc hlt hip ho hoff hv hu st
    unfold Jkx;simp only[ho];cases b with
    | true =>
     rw[if_pos hwant];refine .inl ?_;let ρ:St:=⟨((Ab.looks ops o).filterMap fun s=>(lk (JaP σ ((((ops.toList.take p).map (·.dst)).zip ws).take i)).slots s).map fun v=>(s,v)),σ.hp,σ.nt⟩
     have lkρ:∀ (l:List Nat) (f:Nat->Option AV) (s:Nat) (v:AV),lk (l.filterMap fun s=>(f s).map fun v=>(s,v)) s=some v->s∈l/\f s=some v:=by
      intro l f;induction l with
      | nil=>intro s v e;cases e
      | cons x l ih =>
       intro s v e;rw[List.filterMap_cons] at e;cases q:f x with
       | none=>simp only[q,Option.map_none] at e;obtain⟨h1,h2⟩:=ih s v e;exact⟨by simp[h1],h2⟩
       | some y =>
        simp only[q,Option.map_some,lk] at e;split at e
        ·rename_i hx;cases e;subst hx;exact⟨by simp,q⟩
        ·obtain⟨h1,h2⟩:=ih s v e;exact⟨by simp[h1],h2⟩
     have lkρ2:∀ (l:List Nat) (f:Nat->Option AV) (s:Nat),s∈l->lk (l.filterMap fun s=>(f s).map fun v=>(s,v)) s=f s:=by
      intro l f;induction l with
      | nil=>intro s h;cases h
      | cons x l ih =>
       intro s hmem;rw[List.filterMap_cons];by_cases hx:x=s
       ·subst hx;cases q:f x with
        | none =>
         simp only[Option.map_none];by_cases hm:x∈l
         ·rw[ih x hm,q]
         ·cases q2:lk (l.filterMap fun s=>(f s).map fun v=>(s,v)) x with
          | none=>rfl
          | some y=>exact absurd (lkρ l f x y q2).1 hm
        | some y=>simp[lk]
       ·have hm:s∈l:=by simp only[List.mem_cons] at hmem;rcases hmem with h1 | h1;exact absurd h1.symm hx;exact h1
        cases q:f x with
        | none=>simp only[Option.map_none];exact ih s hm
        | some y=>simp only[Option.map_some,lk,if_neg hx];exact ih s hm
     have fr:Jae g0 h0 w0 ρ g w a:=⟨hh.st,fun s v e=>by
      obtain⟨h1,h2⟩:=lkρ _ _ s v e;exact look s h1 v h2,hh.nt,hh.defers⟩
     have hv':Ja0 P ρ o v:=Jdf (σ:=JaP σ ((((ops.toList.take p).map (·.dst)).zip ws).take i)) (JaW _ σ).1 (fun x hx=>by
      cases x with
      | tmp s =>
       have hmem:s∈Ab.looks ops o:=by
        simp only[Ab.looks,List.mem_append,List.mem_filterMap];exact .inl ⟨.tmp s,by simpa using hx,rfl⟩
       exact(lkρ2 _ (fun s=>lk (JaP σ ((((ops.toList.take p).map (·.dst)).zip ws).take i)).slots s) s hmem).symm
      | const c=>rfl
      | «global» q=>rfl
      | func f=>rfl) (hval rfl)
     exact Jdg fr hv' next
    | false =>
     rw[if_neg (by rw[hwant];simp)];have:=hskip rfl;subst this;exact next undef g w (Rep.tup (cs := #[]) (as:=[]) rfl (by simp)) (.refl hh.st.hp)
theorem Jd0{Q:Exit->St->Prop}{rest:Nat}(hB:Jdh ops σ.nt p=true)(hT:Je5 ops p=true)(hm:P.follows .mixedOrders=true){id:Nat}{K:St->Prop}
  (h:qwl P ops (ops.toList.take p) K σ)
  (fin:∀ σ',K σ'->∀ g0 h0 w0 g w a listed fuel,listed.size=ops.size->(∀ j,Jah listed j=decide (j<p))->rest<=fuel->Jae g0 h0 w0 σ' g w a->Ja5 P .any ops (Jb5 g0 h0 w0 Q) fuel listed a w) (hrest:p+rest<=ops.size) :
  Aw P (.region id ops true) Q σ:=by
 intro g0 h0 w0 g w a r;obtain⟨ws,t,hK⟩:=Jcj _ σ h;have hs:=Ji5.of_B hB;refine JaT hm ?_;have off:∀ j,Jah (Array.replicate ops.size false) j=false:=fun j=>by
  unfold Jah;simp only[Array.getD_eq_getD_getElem?,Array.getElem?_replicate];split <;> rfl
 refine JnY (rest:=rest) hs (fun i j hi hj hn=>Jci hT hi hj hn) t (fun g w a listed fuel h1 h2 h3 fr=>fin _ hK g0 h0 w0 g w a listed fuel h1 h2 h3 fr) p _ _ g _ a (by simp) (fun j hj=>by rw[off] at hj;cases hj) (fun i j _ hj=>by rw[off] at hj;cases hj) (by
   refine Nat.le_trans (List.length_filter_le _ _) ?_;simp) hrest ⟨⟨r.st.hp.drew,r.st.ext,r.st.keeps.trans (Jai.drew (Ja2 g σ.hp) w) r.st.live,r.st.live,r.st.memo⟩,r.nt,r.defers,fun j o v s hL=>(by rw[off] at hL;cases hL),fun s v _ e=>r.slots s v e⟩
theorem Jqb{Q:Exit->St->Prop}{id:Nat}{l:List Oper}(hB:Jdh l.toArray σ.nt l.length=true)(hm:P.follows .mixedOrders=true)(h:qwl P l.toArray l (Q .normal) σ):Aw P (.region id l.toArray true) Q σ:=by
 have hT:Je5 l.toArray l.length=true:=by
  unfold Je5;simp only[List.all_eq_true,List.mem_range,Bool.or_eq_true,decide_eq_true_eq,List.size_toArray];intro j hj;exact .inl hj
 refine Jd0 (rest:=0) hB hT hm (K:=Q .normal) (by simpa using h) (fun σ' hK g0 h0 w0 g w a listed fuel hsz hon _ fr=>?_) (by simp);have hnil:Region.ready .any l.toArray listed=[]:=by
  cases q:Region.ready .any l.toArray listed with
  | nil=>rfl
  | cons i r =>
   have hi:i∈Region.ready .any l.toArray listed:=by rw[q];simp
   obtain⟨o,ho,hoff,_⟩:=(Jba hsz).1 hi;have:i<l.length:=by have:=(Array.getElem?_eq_some_iff.1 ho).1;simpa using this
   rw[hon] at hoff;simp[this] at hoff
 cases fuel with
 | zero=>exact⟨hnil,σ',g,hK,fr⟩
 | succ fuel=>exact⟨fun _=>⟨σ',g,hK,fr⟩,fun i hi=>by rw[hnil] at hi;cases hi⟩
end
end Go.Ab
end
section
namespace Go.Ab
inductive OT where
 | leaf
 | nil
 | alt (i:Nat) (t r:OT)
def OT.depth:OT->Nat
 | .leaf=>0
 | .nil=>0
 | .alt _ t r=>max (t.depth+1) r.depth
def okT (ops:Array Oper):OT->Array Bool->Option (List Nat)->Bool
 | .leaf,listed,none=>(Region.ready .any ops listed).isEmpty
 | .leaf,_,some _=>false
 | .nil,_,some []=>true
 | .nil,_,_=>false
 | .alt i t r,listed,rem=>match rem.getD (Region.ready .any ops listed) with
  | j :: js=>i==j && okT ops t (listed.setIfInBounds i true) none && okT ops r listed (some js)
  | []=>false
def Jst (P:Program)(ops:Array Oper)(i:Nat)(K:St->Prop)(σ:St):Prop :=
 match ops[i]? with
 | some o=>awl P ops [o] K σ
 | none=>False
def JbI(P:Program)(ops:Array Oper):OT->(St->Prop)->St->Prop
 | .leaf,K,σ=>K σ
 | .nil,_,_=>True
 | .alt i t r,K,σ=>Jst P ops i (JbI P ops t K) σ/\JbI P ops r K σ
section
variable {P:Program} {ops:Array Oper}
theorem Xbu{K:St->Prop}{σ:St}:JbI P ops .leaf K σ=K σ:=rfl
theorem Xbv{i:Nat}{t:OT}{K:St->Prop}{σ:St}:JbI P ops (.alt i t .nil) K σ=Jst P ops i (JbI P ops t K) σ:=by simp[JbI]
theorem Xbw{i j:Nat}{t u r:OT}{K:St->Prop}{σ:St}:JbI P ops (.alt i t (.alt j u r)) K σ=(Jst P ops i (JbI P ops t K) σ/\JbI P ops (.alt j u r) K σ):=rfl
theorem Jt9{K:St->Prop}{σ:St}{listed:Array Bool}:∀ (t:OT) (rem:List Nat),okT ops t listed (some rem)=true->JbI P ops t K σ->∀ i∈rem,∃ t',okT ops t' (listed.setIfInBounds i true) none=true/\Jst P ops i (JbI P ops t' K) σ/\t'.depth<t.depth
 | .leaf,rem,h,_,i,hi=>by simp[okT] at h
 | .nil,[],_,_,i,hi=>by cases hi
 | .nil,_ :: _,h,_,i,hi=>by simp[okT] at h
 | .alt j t r,[],h,_,i,hi=>by cases hi
 | .alt j t r,k :: ks,h,hw,i,hi=>by
  simp only[okT,Option.getD_some,Bool.and_eq_true,beq_iff_eq] at h;obtain⟨⟨rfl,h2⟩,h3⟩:=h;simp only[List.mem_cons] at hi;rcases hi with rfl | hi
  ·exact⟨t,h2,hw.1,by simp only[OT.depth];omega⟩
  ·obtain⟨t',e1,e2,e3⟩:=Jt9 r ks h3 hw.2 i hi;exact⟨t',e1,e2,by simp only[OT.depth];omega⟩
theorem Jdj{Q:Exit->St->Prop}{g0:Gh}{h0:Hp}{w0:Wr}:∀ (n:Nat) (t:OT) (listed:Array Bool) (σ:St) (g:Gh) (w:World) (a:Act) (fuel:Nat),t.depth<=n->okT ops t listed none=true->JbI P ops t (Q .normal) σ->Jae g0 h0 w0 σ g w a->t.depth<=fuel->Ja5 P .any ops (Jb5 g0 h0 w0 Q) fuel listed a w:=by
 intro n;induction n with
 | zero =>
  intro t listed σ g w a fuel hd hok hw r hf;have:t = .leaf:=by
   cases t with
   | leaf=>rfl
   | nil=>simp[okT] at hok
   | alt i t r=>simp only[OT.depth] at hd;omega
  subst this;have hnil:Region.ready .any ops listed=[]:=by simpa [okT] using hok
  cases fuel with
  | zero=>exact⟨hnil,σ,g,hw,r⟩
  | succ fuel=>exact⟨fun _=>⟨σ,g,hw,r⟩,fun i hi=>by rw[hnil] at hi;cases hi⟩
 | succ n ih =>
  intro t listed σ g w a fuel hd hok hw r hf;cases t with
  | leaf=>exact ih .leaf listed σ g w a fuel (Nat.zero_le _) hok hw r hf
  | nil=>simp[okT] at hok
  | alt j t u =>
   have hok':okT ops (.alt j t u) listed (some (Region.ready .any ops listed))=true:=by
    simp only[okT,Option.getD_some,Option.getD_none] at hok ⊢;exact hok
   obtain⟨fuel,rfl⟩:∃ f,fuel=f+1:=⟨fuel - 1,by simp only[OT.depth] at hf;omega⟩;refine⟨fun hnil=>?_,fun i hi=>?_⟩
   ·simp[okT,hnil] at hok
   ·obtain⟨t',e1,e2,e3⟩:=Jt9 _ _ hok' hw i hi;have hgo:∀ σ' g' w' a',JbI P ops t' (Q .normal) σ'->Jae g0 h0 w0 σ' g' w' a'->Ja5 P .any ops (Jb5 g0 h0 w0 Q) fuel (listed.setIfInBounds i true) a' w' :=
     fun σ' g' w' a' k1 k2=>ih t' _ σ' g' w' a' fuel (by omega) e1 k1 k2 (by omega)
    unfold Jst at e2;unfold Jkx;cases ho:ops[i]? with
    | none=>simp only[ho] at e2
    | some o =>
     simp only[ho] at e2;simp only[awl,gwl] at e2;have step:awo P o (fun σ=>JbI P ops t' (Q .normal) σ) σ->Oper.wp P o a w (Ja5 P .any ops (Jb5 g0 h0 w0 Q) fuel (listed.setIfInBounds i true)) (Jb5 g0 h0 w0 Q):=fun hh =>
      Oper.wp_mono (fun a' w' ⟨σ',g',k1,k2⟩=>hgo σ' g' w' a' k1 k2) (JdL hh g0 h0 w0 g w a (Jb5 g0 h0 w0 Q) r)
     cases hg:o.guard with
     | none =>
      simp only[hg] at e2;simp only[Region.wanted,hg,if_true];exact .inl (step e2)
     | some p =>
      obtain⟨k,want⟩:=p;simp only[hg] at e2;cases hb:Jar ops σ k want with
      | none=>simp only[hb] at e2
      | some b =>
       simp only[hb] at e2;have hy:=Jde r hb;simp only[Region.wanted,hg,hy];by_cases hw':b=want
       ·subst hw';simp only[beq_self_eq_true,if_true];exact .inl (step (e2.1 rfl))
       ·have:(b==want)=false:=by simp[hw']
        simp only[this];exact hgo _ g w _ (e2.2 (by cases b <;> cases want <;> simp_all)) (r.drop o.dst)
theorem Jcb{o:Oper}{a:Act}{w:World}{K K':Act->World->Prop}{Q Q':Exit->Act->World->Prop}(h:∀ a w,K a w->K' a w)(hq:∀ e a w,Q e a w->Q' e a w)(hh:Oper.wp P o a w K Q):Oper.wp P o a w K' Q':=Oper.wp_mono h hh
theorem Jsu{Q:Exit->St->Prop}{σ σ':St}{id:Nat}{l:List Oper}(p:Nat)(t:OT)(hB:Jdh l.toArray σ.nt p=true)(hT:Je5 l.toArray p=true)(hm:P.follows .mixedOrders=true)
  (hok:okT l.toArray t (Array.ofFn fun j:Fin l.length=>decide (j.val<p)) none=true) (hd:decide (p+t.depth<=l.length)=true)
  (h:qwl P l.toArray (l.take p) (JbI P l.toArray t fun σ1=>St.wk σ1 σ') σ) (k:Q .normal σ'):Aw P (.region id l.toArray true) Q σ:=by
 refine Jd0 (rest:=t.depth) hB hT hm (K:=JbI P l.toArray t fun σ1=>St.wk σ1 σ') (by simpa using h) (fun σ1 hK g0 h0 w0 g w a listed fuel hsz hon hf fr=>?_) (by simpa using hd);have hl:listed=Array.ofFn fun j:Fin l.length=>decide (j.val<p):=by
  apply Array.ext
  ·simpa using hsz
  ·intro j h1 h2;have:=hon j;unfold Jah at this;simp only[Array.getD_eq_getD_getElem?,Array.getElem?_eq_getElem h1,Option.getD_some] at this;simp[this]
 subst hl;have base:=Jdj (Q:=fun e σ1=>match e with | .normal=>St.wk σ1 σ' | _=>False) (g0:=g0) (h0:=h0) (w0:=w0) t.depth t _ σ1 g w a fuel (Nat.le_refl _) hok hK fr hf;have mono:∀ (n:Nat) (listed:Array Bool) (a:Act) (w:World),Ja5 P .any l.toArray (Jb5 g0 h0 w0 fun e σ1=>match e with | .normal=>St.wk σ1 σ' | _=>False) n listed a w->Ja5 P .any l.toArray (Jb5 g0 h0 w0 Q) n listed a w:=by
  have post:∀ e a w,Jb5 g0 h0 w0 (fun e σ1=>match e with | .normal=>St.wk σ1 σ' | _=>False) e a w->Jb5 g0 h0 w0 Q e a w:=fun e a w ⟨σ2,g2,k1,k2⟩=>by
   cases e with
   | normal=>obtain⟨g3,k3⟩:=k1 g0 h0 w0 g2 w a k2;exact⟨σ',g3,k,k3⟩
   | _=>exact k1.elim
  intro n;induction n with
  | zero=>intro listed a w h;exact⟨h.1,post _ _ _ h.2⟩
  | succ n ih =>
   intro listed a w h;refine⟨fun q=>post _ _ _ (h.1 q),fun i hi=>?_⟩;have:=h.2 i hi;unfold Jkx at this ⊢;split
   ·rename_i ho;rw[ho] at this;exact ih _ _ _ this
   ·rename_i o ho;rw[ho] at this;simp only at this;split
    ·rename_i hw;rw[if_pos hw] at this;rcases this with h1 | h1
     ·exact .inl (Jcb (fun a w=>ih _ a w) post h1)
     ·exact h1.elim
    ·rename_i hw;rw[if_neg hw] at this;exact ih _ _ _ this
 exact mono _ _ _ _ base
end
end Go.Ab
end
section
namespace Go.Ab
section
variable {P:Program} {g0:Gh} {h0:Hp} {w0:Wr} {σ:St} {g:Gh} {w:World} {a:Act} {o:Oper}
theorem JU.conv{f:FuncId}{args args1:List AV}{h h1:Hp}{Q:AV->Hp->Prop}(hs:∀ g w,JZ g h w->∃ g1,JW g h w g1 h1 w/\CvL g g1 args args1)(hc:JU P f args1 h1 Q):JU P f args h Q:=by
 intro g w vals r hv;obtain⟨g1,s,c⟩:=hs g w r;refine(hc g1 w vals s.hp (c _ hv)).mono fun e w' ⟨v,r',h',g',e1,e2,e3,e4⟩=>⟨v,r',h',g',e1,e2,s.trans e3,e4⟩
theorem JU.cv{f:FuncId}{args args1:List AV}{h:Hp}{Q:AV->Hp->Prop}(hs:∀ g,CvL g g args args1)(hc:JU P f args1 h Q):JU P f args h Q :=
 hc.conv fun g w r=>⟨g,.refl r,hs g⟩
theorem Jcz.cv{f:FuncId}{args args1:List AV}{d:Option Tmp}{K:St->Prop}(hs:∀ g,CvL g g args args1)(hc:Jcz P f args1 σ d K):Jcz P f args σ d K :=
 ⟨hc.1,hc.2.cv hs⟩
theorem Jcz.freeze{f:FuncId}{args args1:List AV}{d:Option Tmp}{K:St->Prop}{t:Nat}{k:Tk}(hk:lk σ.hp.toks t=some k)
  (hs:∀ g g',Ext g g'->Cv g g' (.own t k.xs.length) (.vec k.xs false)->CvL g g' args args1)
  (hc:Jcz P f args1 {σ with hp:={σ.hp with toks:=up σ.hp.toks t ⟨k.xs,k.xs.length,k.s⟩}} d K):Jcz P f args σ d K:=by
 refine⟨hc.1,JU.conv (fun g w r=>?_) hc.2⟩;obtain⟨g',s,c,_⟩:=JW.freeze r hk;exact⟨g',s,hs g g' s.ext c⟩
theorem JcV.cv{h:Hp}{r1 r2 r:AV}(hs:∀ g,Cv g g r1 r2)(k:JcV h r2 r):JcV h r1 r:=fun g w v rel hv=>k g w v rel (hs g v hv)
theorem Jag{h:Hp}{xs:List (List AV)}{f:Bool}(hp:∀ x∈xs,∀ c∈x,Pure c):JcV h (.vec xs f) (.vec xs false):=JcV.cv (fun g=>JbG (.refl g) xs f) (Ja (.vec hp))
def JzH (P:Program)(rs:List ResultVar)(R:AV->Hp->Prop):Exit->St->Prop
 | .normal,σ=>∃ σ',St.wk σ σ'/\Jfp (JaQ P σ' rs) R σ'.hp
 | .ret,σ=>∃ σ',St.wk σ σ'/\Jfp (JaQ P σ' rs) R σ'.hp
 | _,_=>False
theorem Xbx{rs:List ResultVar}{R:AV->Hp->Prop}:JzH P rs R .normal σ=∃ σ',St.wk σ σ'/\Jfp (JaQ P σ' rs) R σ'.hp:=rfl
theorem Xby{rs:List ResultVar}{R:AV->Hp->Prop}:JzH P rs R .ret σ=∃ σ',St.wk σ σ'/\Jfp (JaQ P σ' rs) R σ'.hp:=rfl
theorem Jfr{f:FuncId}{fn:Func}{c:Code}{args:List AV}{h:Hp}{Q:AV->Hp->Prop}(hf:P.funcs[f]? = some fn)(hb:fn.body=some c){n:Nat}(hnt:fn.ntmps=n){rs:List ResultVar}(hrs:fn.results.toList=rs)(hn:args.length<=n)
  (hw:awp P c (JzH P rs Q) (entry args h n)):JU P f args h Q:=by
 subst hnt;subst hrs;intro g w vals hr hl;have hs:vals.size=args.length:=by simpa using hl.1
 refine JbR hf hb (wpIn_mono (Jax c hw g h (.top w) g w _ (Jae.entry hr hl fn.ntmps hn)) fun e a' w' hh=>?_);obtain⟨σ,g',q1,q2⟩:=hh;have fin:(∃ σ',St.wk σ σ'/\Jfp (JaQ P σ' fn.results.toList) Q σ'.hp)->∃ w'',JfK P a'.defers w' w''/\∃ v,(results fn a'.tmps).run P w'' = .ok v w''/\∃ v' r h' g',Ending.returned v = .returned v'/\Rep g' v' r/\JW g h w g' h' w''/\Q r h':=fun⟨σ',hw',hb⟩=>by
  obtain⟨g2,q3⟩:=hw' g h (.top w) g' w' a' q2;obtain⟨vs,k1,k2⟩:=JdM hb;obtain⟨w'',t1,t2⟩:=q3.fin P;obtain⟨u,e1,e2⟩:=Jbu t2 k1;exact⟨w'',t1,u,e1,u,_,_,g2,rfl,e2,t2.st,k2⟩
 cases e with
 | normal=>exact fin q1
 | ret=>exact fin q1
 | exit id=>exact q1.elim
 | goto id=>exact q1.elim
 | panic v=>exact q1.elim
 | outgrown=>exact q1.elim
theorem Jx{Q:Exit->St->Prop}{id:Nat}{l:List Oper}{n:Nat}(hn:σ.nt=n)(hB:Jdh l.toArray n l.length=true)(hm:P.follows .mixedOrders=true)(h:qwl P l.toArray l (Q .normal) σ):Aw P (.region id l.toArray true) Q σ :=
 Jqb (by rw[hn];exact hB) hm h
theorem Jic{Q:Exit->St->Prop}{σ σ':St}{id:Nat}{l:List Oper}{n:Nat}(p:Nat)(t:OT)(hn:σ.nt=n)(hB:Jdh l.toArray n p=true)(hT:Je5 l.toArray p=true)(hm:P.follows .mixedOrders=true)
  (hok:okT l.toArray t (Array.ofFn fun j:Fin l.length=>decide (j.val<p)) none=true) (hd:decide (p+t.depth<=l.length)=true)
  (h:qwl P l.toArray (l.take p) (JbI P l.toArray t fun σ1=>St.wk σ1 σ') σ) (k:Q .normal σ'):Aw P (.region id l.toArray true) Q σ :=
 Jsu p t (by rw[hn];exact hB) hT hm hok hd h k
theorem JE{f:FuncId}{args:List AV}{d:Option Tmp}{K:St->Prop}{Q:AV->Hp->Prop}(hc:Jg P f)(h:JU P f args σ.hp Q)(hk:∀ r h',Q r h'->K ({σ with hp:=h'}.put d r)):Jcz P f args σ d K :=
 ⟨hc,h.mono hk⟩
end
end Go.Ab
end
section
namespace Go.Ab
section
variable {P:Program} {g:Gh} {w:World}
end
end Go.Ab
end
section
namespace Go.Ab
section
variable {P:Program} {σ:St}
def JAe (K:St->Prop)(R:Exit->St->Prop):Exit->St->Prop
 | .normal,σ=>K σ
 | e,σ=>R e σ
theorem Xcf{K:St->Prop}{R:Exit->St->Prop}:JAe K R .normal σ=K σ:=rfl
theorem Xcg{K:St->Prop}{R:Exit->St->Prop}:JAe K R .ret σ=R .ret σ:=rfl
end
end Go.Ab
end
section
namespace Go.Ab
section
variable {P:Program} {kt et:TypeId} {K V:Type} [DecidableEq K]
def Jqc (P:Program)(kt:TypeId)(ek:K->AV):Prop:=∀ a b:K,Jcf P kt (ek a) (ek b)=some (decide (a=b))
def Jdk(ek:K->AV)(ev:V->AV)(M:List (K × V)):List (List AV):=M.map fun p=>[ek p.1,ev p.2]
def Ja1(M:List (K × V))(k:K):Option V:=(M.find? fun p=>decide (k=p.1)).map (·.2)
def Jjo:List (K × V)->K->V->List (K × V)
 | [],k,v=>[(k,v)]
 | p :: M,k,v=>if k=p.1 then (k,v) :: M else p :: Jjo M k v
theorem Jd1{ek:K->AV}{ev:V->AV}{v:V}(hk:Jqc P kt ek)(k:K):∀ (M:List (K × V)),∃ r,JcQ P kt (ek k) (Jdk ek ev M)=some r/\r.map (·.2)=(Ja1 M k).map ev/\(match r with | none=>Jdk ek ev M++[[ek k,ev v]] | some p=>(Jdk ek ev M).set p.1 [ek k,ev v])=Jdk ek ev (Jjo M k v)
 | []=>⟨none,rfl,rfl,rfl⟩
 | p :: M=>by
  by_cases h:k=p.1
  ·refine⟨some (0,ev p.2),?_,?_,?_⟩
   ·simp only[Jdk,List.map_cons,JcQ,hk k p.1,decide_eq_true h]
   ·simp[Ja1,h]
   ·simp[Jdk,Jjo,h]
  ·obtain⟨r,h1,h2,h3⟩:=Jd1 hk k M;refine⟨r.map fun q=>(q.1+1,q.2),?_,?_,?_⟩
   ·simp only[Jdk,List.map_cons,JcQ,hk k p.1,decide_eq_false h];rw[show JcQ P kt (ek k) (M.map fun p=>[ek p.1,ev p.2])=some r from h1];rfl
   ·have:Ja1 (p :: M) k=Ja1 M k:=by simp[Ja1,h]
    rw[this,<- h2];cases r <;> rfl
   ·simp only[Jjo,if_neg h];rw[show Jdk ek ev (p :: Jjo M k v)=[ek p.1,ev p.2] :: Jdk ek ev (Jjo M k v) from rfl,<- h3];cases r <;> simp[Jdk]
theorem Jjp{ek:K->AV}{ev:V->AV}(hk:Jqc P kt ek)(k:K)(v:V)(M:List (K × V)):JrC P kt (ek k) (ev v) (Jdk ek ev M)=some (Jdk ek ev (Jjo M k v)):=by
 obtain⟨r,h1,h2,h3⟩:=Jd1 (ev:=ev) (v:=v) hk k M;unfold JrC;rw[hk k k,h1];cases r with
 | none=>exact congrArg some h3
 | some p=>exact congrArg some h3
theorem JnZ{ek:K->AV}{ev:V->AV}(hk:Jqc P kt ek)(k:K)(M:List (K × V)){z:AV}(hz:JdH P et=some z):Jns P kt et false (ek k) (Jdk ek ev M)=some (match Ja1 M k with | some v=>ev v | none=>z):=by
 cases hM:M with
 | nil =>
  unfold Jns;rw[hk k k];show Jp3 P et false none=_;simp[Jp3,hz,Ja1]
 | cons p M' =>
  rw[<- hM];obtain⟨r,h1,h2,_⟩:=Jd1 (ev:=ev) (v:=p.2) hk k M;unfold Jns;rw[hk k k,h1];cases r with
  | none =>
   have:Ja1 M k=none:=by cases q:Ja1 M k with | none=>rfl | some _=>rw[q] at h2;cases h2
   simp[Jp3,hz,this]
  | some q =>
   have:∃ v,Ja1 M k=some v/\q.2=ev v:=by cases q':Ja1 M k with | none=>rw[q'] at h2;cases h2 | some v=>rw[q'] at h2;exact⟨v,rfl,by simpa using h2⟩
   obtain⟨v,e1,e2⟩:=this;simp[Jp3,e1,e2]
theorem Jms{ek:K->AV}{ev:V->AV}(hk:Jqc P kt ek)(k:K)(M:List (K × V)){z:AV}(hz:JdH P et=some z):Jns P kt et true (ek k) (Jdk ek ev M)=some (match Ja1 M k with | some v=>.tup [ev v,.lit (.bool true)] | none=>.tup [z,.lit (.bool false)]):=by
 cases hM:M with
 | nil =>
  unfold Jns;rw[hk k k];show Jp3 P et true none=_;simp[Jp3,hz,Ja1]
 | cons p M' =>
  rw[<- hM];obtain⟨r,h1,h2,_⟩:=Jd1 (ev:=ev) (v:=p.2) hk k M;unfold Jns;rw[hk k k,h1];cases r with
  | none =>
   have:Ja1 M k=none:=by cases q:Ja1 M k with | none=>rfl | some _=>rw[q] at h2;cases h2
   simp[Jp3,hz,this]
  | some q =>
   have:∃ v,Ja1 M k=some v/\q.2=ev v:=by cases q':Ja1 M k with | none=>rw[q'] at h2;cases h2 | some v=>rw[q'] at h2;exact⟨v,rfl,by simpa using h2⟩
   obtain⟨v,e1,e2⟩:=this;simp[Jp3,e1,e2]
def Jeo(ek:K->AV)(S:List K):List (List AV):=S.map fun k=>[ek k,.lit (.bool true)]
def Jmt (S:List K)(k:K):List K:=if k∈S then S else S++[k]
omit [DecidableEq K] in
theorem JkM(ek:K->AV)(S:List K):Jeo ek S=Jdk ek (fun b:Bool=>.lit (.bool b)) (S.map fun k=>(k,true)):=by simp[Jeo,Jdk]
theorem JzI(S:List K)(k:K):Ja1 (S.map fun k=>(k,true)) k=if k∈S then some true else none:=by
 induction S with
 | nil=>rfl
 | cons a S ih =>
  by_cases h:k=a
  ·simp[Ja1,h]
  ·have:Ja1 ((a :: S).map fun k=>(k,true)) k=Ja1 (S.map fun k=>(k,true)) k:=by simp[Ja1,h]
   rw[this,ih];simp[h]
theorem JB0(S:List K)(k:K):Jjo (S.map fun k=>(k,true)) k true=(Jmt S k).map fun k=>(k,true):=by
 induction S with
 | nil=>rfl
 | cons a S ih =>
  by_cases h:k=a
  ·simp[Jjo,Jmt,h]
  ·simp only[List.map_cons,Jjo,if_neg h,ih,Jmt,List.mem_cons];by_cases hS:k∈S
   ·rw[if_pos hS,if_pos (.inr hS)];rfl
   ·rw[if_neg hS,if_neg (fun q=>q.elim h hS)];simp
theorem Jid{ek:K->AV}(hk:Jqc P kt ek)(k:K)(S:List K)(hz:JdH P et=some (.lit (.bool false))):Jns P kt et false (ek k) (Jeo ek S)=some (.lit (.bool (decide (k∈S)))):=by
 rw[JkM,JnZ hk k _ hz,JzI];by_cases h:k∈S <;> simp[h]
theorem Jie{ek:K->AV}(hk:Jqc P kt ek)(k:K)(S:List K):JrC P kt (ek k) (.lit (.bool true)) (Jeo ek S)=some (Jeo ek (Jmt S k)):=by
 rw[JkM,Jjp (ev:=fun b:Bool=>.lit (.bool b)) hk k true,JB0,JkM]
end
end Go.Ab
end
section
namespace Go.Ab
structure Sm (ρ:Nat->Nat) (n:Nat) (g gs:Gh):Prop where
 mem:gs.mem=g.mem
 nx:n<=gs.nx
 nm:∀ i,i<n->ρ i<g.nx/\gs.box i=g.box (ρ i)/\gs.tok i=g.tok (ρ i)
 cch:gs.cch=g.cch
 lrec:∀ i,i<n->gs.lrec i=g.lrec (ρ i)
structure Rn (ρ:Nat->Nat) (n:Nat) (a b:AV):Prop where
 dn:∀ g gs,Sm ρ n g gs->Cv g gs b a
 un:∀ g gs,Sm ρ n g gs->Cv gs g a b
structure RnL (ρ:Nat->Nat) (n:Nat) (av bs:List AV):Prop where
 dn:∀ g gs,Sm ρ n g gs->CvL g gs bs av
 un:∀ g gs,Sm ρ n g gs->CvL gs g av bs
structure RnR (ρ:Nat->Nat) (n:Nat) (xs ys:List (List AV)):Prop where
 dn:∀ g gs,Sm ρ n g gs->CvR g gs ys xs
 un:∀ g gs,Sm ρ n g gs->CvR gs g xs ys
section
variable {ρ:Nat->Nat} {n:Nat}
theorem Rn.pure{a:AV}(h:Pure a):Rn ρ n a a:=⟨fun g gs s v hv=>h g gs v (by rw[s.mem];exact fun _ _ _ e=>e) hv,fun g gs s v hv=>h gs g v (by rw[s.mem];exact fun _ _ _ e=>e) hv⟩
theorem Rn.ptr{i j off:Nat}(hi:i<n)(hj:ρ i=j):Rn ρ n (.ptr i off) (.ptr j off):=by
 subst hj;refine⟨fun g gs s v hv=>?_,fun g gs s v hv=>?_⟩
 ·cases hv with | ptr h1 h2=>exact .ptr (Nat.lt_of_lt_of_le hi s.nx) (fun b e=>h2 b (by rw[<- (s.nm i hi).2.1];exact e))
 ·cases hv with | ptr h1 h2=>exact .ptr (s.nm i hi).1 (fun b e=>h2 b (by rw[(s.nm i hi).2.1];exact e))
theorem Rn.own{i j m:Nat}(hi:i<n)(hj:ρ i=j):Rn ρ n (.own i m) (.own j m):=by
 subst hj;refine⟨fun g gs s v hv=>?_,fun g gs s v hv=>?_⟩
 ·cases hv with | own h1 h2=>exact .own (Nat.lt_of_lt_of_le hi s.nx) (fun b c k e=>h2 b c k (by rw[<- (s.nm i hi).2.2];exact e))
 ·cases hv with | own h1 h2=>exact .own (s.nm i hi).1 (fun b c k e=>h2 b c k (by rw[(s.nm i hi).2.2];exact e))
theorem Rn.om{i j:Nat}(hi:i<n)(hj:ρ i=j):Rn ρ n (.om i) (.om j):=by
 subst hj;refine⟨fun g gs s v hv=>?_,fun g gs s v hv=>?_⟩
 ·cases hv with | om h1 h2=>exact .om (Nat.lt_of_lt_of_le hi s.nx) (fun b c k e=>h2 b c k (by rw[<- (s.nm i hi).2.2];exact e))
 ·cases hv with | om h1 h2=>exact .om (s.nm i hi).1 (fun b c k e=>h2 b c k (by rw[(s.nm i hi).2.2];exact e))
theorem RnL.nil:RnL ρ n [] []:=⟨fun _ _ _=>JaV,fun _ _ _=>JaV⟩
theorem RnL.cons{a b:AV}{av bs:List AV}(h:Rn ρ n a b)(k:RnL ρ n av bs):RnL ρ n (a :: av) (b :: bs):=⟨fun g gs s=>Jv (h.dn g gs s) (k.dn g gs s),fun g gs s=>Jv (h.un g gs s) (k.un g gs s)⟩
theorem RnL.pure{av:List AV}(h:∀ a∈av,Pure a):RnL ρ n av av:=by
 induction av with
 | nil=>exact .nil
 | cons a av ih=>exact .cons (.pure (h a (by simp))) (ih fun b hb=>h b (by simp[hb]))
theorem Rn.fn{f:Fn}{av bs cs ds:List AV}(h:RnL ρ n av bs)(k:RnL ρ n cs ds):Rn ρ n (.fn f av cs) (.fn f bs ds):=by
 have key:∀ g g':Gh,∀ av bs cs ds,CvL g g' av bs->CvL g g' cs ds->Cv g g' (.fn f av cs) (.fn f bs ds):=fun g g' av bs cs ds h k v hv=>by
  cases hv with | fn h1 h2 h3 h4=>have p:=h _ ⟨h1,h2⟩;have q:=k _ ⟨h3,h4⟩;exact .fn p.1 p.2 q.1 q.2
 exact⟨fun g gs s=>key _ _ _ _ _ _ (h.dn g gs s) (k.dn g gs s),fun g gs s=>key _ _ _ _ _ _ (h.un g gs s) (k.un g gs s)⟩
theorem RnR.nil:RnR ρ n [] []:=⟨fun _ _ _=>.nil,fun _ _ _=>.nil⟩
theorem RnR.cons{x y:List AV}{xs ys:List (List AV)}(h:RnL ρ n x y)(hl:x.length=y.length)(k:RnR ρ n xs ys):RnR ρ n (x :: xs) (y :: ys) :=
 ⟨fun g gs s=>.cons (h.dn g gs s) hl.symm (k.dn g gs s),fun g gs s=>.cons (h.un g gs s) hl (k.un g gs s)⟩
theorem RnR.pure{xs:List (List AV)}(h:∀ x∈xs,∀ c∈x,Pure c):RnR ρ n xs xs:=by
 induction xs with
 | nil=>exact .nil
 | cons x xs ih=>exact .cons (.pure (h x (by simp))) rfl (ih fun b hb=>h b (by simp[hb]))
def ren (ρ:Nat->Nat)(n N:Nat)(i:Nat):Nat:=if i<n then ρ i else N+(i - n)
end
section
variable {P:Program}
theorem JZ.dn{g gs:Gh}{H hs:Hp}{w:World}{ρ:Nat->Nat}(rel:JZ g H w)(sm:Sm ρ hs.nx g gs)(hgn:gs.nx=hs.nx)(hfr:∀ i,hs.nx<=i->gs.box i=Option.none/\gs.tok i=Option.none)(hinj:∀ i j,i<hs.nx->j<hs.nx->ρ i=ρ j->i=j)
  (hb:∀ p∈hs.boxes,p.1<hs.nx/\∃ cs,lk H.boxes (ρ p.1)=some cs/\RnL ρ hs.nx p.2 cs)
  (ht:∀ p∈hs.toks,p.1<hs.nx/\∃ k,lk H.toks (ρ p.1)=some k/\k.fz=p.2.fz/\k.s=p.2.s/\RnR ρ hs.nx p.2.xs k.xs):JZ gs hs w/\∀ b,Ja2 gs hs b->Ja2 g H b:=by
 have gbx:∀ i b,gs.box i=some b->i<hs.nx/\g.box (ρ i)=some b:=fun i b e=>by
  rcases Nat.lt_or_ge i hs.nx with h | h
  ·exact⟨h,by rw[<- (sm.nm i h).2.1];exact e⟩
  ·rw[(hfr i h).1] at e;cases e
 have gtk:∀ i b,gs.tok i=some b->i<hs.nx/\g.tok (ρ i)=some b:=fun i b e=>by
  rcases Nat.lt_or_ge i hs.nx with h | h
  ·exact⟨h,by rw[<- (sm.nm i h).2.2];exact e⟩
  ·rw[(hfr i h).2] at e;cases e
 have bS:∀ i,(lk hs.boxes i).isSome=true->(lk H.boxes (ρ i)).isSome=true:=fun i e=>by
  obtain⟨c,hc⟩:=Option.isSome_iff_exists.1 e;obtain⟨_,cs,h1,_⟩:=hb _ (JaD hc);rw[h1];rfl
 have tS:∀ i,(lk hs.toks i).isSome=true->(lk H.toks (ρ i)).isSome=true:=fun i e=>by
  obtain⟨c,hc⟩:=Option.isSome_iff_exists.1 e;obtain⟨_,cs,h1,_⟩:=ht _ (JaD hc);rw[h1];rfl
 refine⟨?_,fun b l=>?_⟩
 ·refine⟨hgn,fun b o v e=>rel.mem b o v (by rw[<- sm.mem];exact e),fun id cs e=>?_,fun t k e=>?_,fun i j b e1 e2 e3 e4=>?_,fun i j b c n c' n' e1 e2 e3 e4=>?_,fun i j b c n e1 e2 e3 e4=>?_,fun i hi=>?_,fun r' t' e=>?_,fun b' e=>rel.cel b' (by rw[<- sm.cch];exact e),fun t k b c n e hk q=>?_⟩
  rotate_right
  ·obtain⟨hi,k',h1,h2,h3,h4⟩:=ht _ (JaD e);simp only at h2 h3;have hcr:CvR g gs k'.xs k.xs:=h4.dn g gs sm;rw[(sm.nm t hi).2.2] at q;obtain⟨x,f1,f2,f3⟩:=rel.lpr _ k' b c n h1 ((Tk.lp_eq hcr.lens h3.symm).1 hk) q;exact⟨x,by rw[sm.lrec t hi];exact f1,by rw[<- hcr.length];exact f2,f3⟩
  ·obtain⟨hi,cs',h1,h2⟩:=hb _ (JaD e);obtain⟨b,vs,ty,f1,f2,f3,f4,f5⟩:=rel.box _ _ h1;exact⟨b,vs,ty,by rw[(sm.nm id hi).2.1];exact f1,f2,h2.dn g gs sm _ f3,f4,fun o=>by rw[sm.mem];exact f5 o⟩
  ·obtain⟨hi,k',h1,h2,h3,h4⟩:=ht _ (JaD e);obtain⟨b,c,vs,ty,f1,f2,f3,f5,f6,f7,f9,f10⟩:=rel.tok _ _ h1;simp only at h2 h3;have hcr:CvR g gs k'.xs k.xs:=h4.dn g gs sm;have hst:k.st=k'.st:=Tk.st_eq hcr.lens h3.symm;have hlen:k.xs.length=k'.xs.length:=hcr.length.symm;refine⟨b,c,vs,ty,by rw[(sm.nm t hi).2.2,Tk.tn_eq hcr.lens h3.symm];exact f1,f2,Tk.obj_eq hcr.lens h3.symm f3,by rw[<- h2,hlen];exact f5,fun x hx=>?_,fun i x j a e1 e2=>?_,fun o ho=>by rw[sm.mem];exact f9 o (by rw[h2,h3];exact ho),fun r q=>f10 r (by rw[<- sm.cch];exact q)⟩
   ·obtain⟨i,hi'⟩:=List.getElem?_of_mem hx;obtain⟨y,y1,_,y3⟩:=hcr.get i x hi';rw[<- y3,hst];exact f6 y (List.mem_of_getElem? y1)
   ·obtain⟨y,y1,y2,y3⟩:=hcr.get i x e1;have hy:=f6 y (List.mem_of_getElem? y1);have hex:∀ j',j'<y.length->∃ v,vs[i * k'.st+j']? = some v:=fun j' hj'=>by
     obtain⟨v,hv1,_⟩:=f7 i y j' y[j'] y1 (by simp[hj']);exact⟨v,hv1⟩
    let row:List Value:=(List.range y.length).map fun j'=>(vs[i * k'.st+j']?).getD (.bool false)
    have hrow:J9 g row y:=by
     refine⟨by simp[row],fun j' c' a' q1 q2=>?_⟩;have hj':=(List.getElem?_eq_some_iff.1 q2).1;obtain⟨v,hv1,hv2⟩:=f7 i y j' a' y1 q2;have:c'=v:=by simpa [row,hj',hv1] using q1.symm
     rw[this];exact hv2
    have hr2:=y2 row hrow;have hj:j<y.length:=by rw[y3];exact(List.getElem?_eq_some_iff.1 e2).1
    obtain⟨v,hv1⟩:=hex j hj;refine⟨v,by rw[hst];exact hv1,hr2.2 j v a ?_ e2⟩;simp[row,hj,hv1]
  ·obtain⟨hi,f1⟩:=gbx i b e1;obtain⟨hj,f2⟩:=gbx j b e2;exact hinj i j hi hj (rel.bxbx _ _ b f1 f2 (bS i e3) (bS j e4))
  ·obtain⟨hi,f1⟩:=gtk i _ e1;obtain⟨hj,f2⟩:=gtk j _ e2;exact hinj i j hi hj (rel.tktk _ _ b c n c' n' f1 f2 (tS i e3) (tS j e4))
  ·obtain⟨hi,f1⟩:=gbx i b e1;obtain⟨hj,f2⟩:=gtk j _ e2;exact rel.bxtk _ _ b c n f1 f2 (bS i e3) (tS j e4)
  ·exact hfr i hi
  ·rw[sm.cch] at e;obtain⟨es,k,e1,e2⟩:=rel.cch r' t' e;exact⟨es,k,e1,e2.mono (fun b o v q=>by rw[sm.mem];exact q) (fun r t q=>by rw[sm.cch];exact q)⟩
 ·rcases l with ⟨i,c,e1,e2⟩ | ⟨t,k,c,n,e1,e2⟩ | ⟨t',e1⟩
  ·obtain⟨hi,f1⟩:=gbx i b e2;obtain⟨c',h1⟩:=Option.isSome_iff_exists.1 (bS i (by rw[e1];rfl));exact .inl ⟨_,c',h1,f1⟩
  ·obtain⟨hi,f1⟩:=gtk t _ e2;obtain⟨c',h1⟩:=Option.isSome_iff_exists.1 (tS t (by rw[e1];rfl));exact .inr (.inl ⟨_,c',c,n,h1,f1⟩)
  ·exact .inr (.inr ⟨t',by rw[<- sm.cch];exact e1⟩)
open Classical in
theorem JU.sub{f:FuncId}{av bs:List AV}{hs H:Hp}{Q Q':AV->Hp->Prop}(ρ:Nat->Nat)(hinj:∀ i j,i<hs.nx->j<hs.nx->ρ i=ρ j->i=j)(hρ:∀ i,i<hs.nx->ρ i<H.nx)
  (ha:RnL ρ hs.nx av bs) (hb:∀ p∈hs.boxes,p.1<hs.nx/\∃ cs,lk H.boxes (ρ p.1)=some cs/\RnL ρ hs.nx p.2 cs)
  (ht:∀ p∈hs.toks,p.1<hs.nx/\∃ k,lk H.toks (ρ p.1)=some k/\k.fz=p.2.fz/\k.s=p.2.s/\RnR ρ hs.nx p.2.xs k.xs)
  (hc:JU P f av hs Q)
  (hq:∀ r h',Q r h'->hs.nx<=h'.nx->∃ r' H' m,hs.nx+m<=h'.nx/\H'.nx=H.nx+m/\Rn (ren ρ hs.nx H.nx) (hs.nx+m) r r' /\
   (∀ id cs',lk H'.boxes id=some cs'->(∃ i cs,i<hs.nx+m/\ren ρ hs.nx H.nx i=id/\lk h'.boxes i=some cs/\RnL (ren ρ hs.nx H.nx) (hs.nx+m) cs cs')\/(lk H.boxes id=some cs'/\∀ i c,lk hs.boxes i=some c->ρ i≠id)) /\
   (∀ id k',lk H'.toks id=some k'->(∃ i k,i<hs.nx+m/\ren ρ hs.nx H.nx i=id/\lk h'.toks i=some k/\k'.fz=k.fz/\k'.s=k.s/\RnR (ren ρ hs.nx H.nx) (hs.nx+m) k.xs k'.xs)\/(lk H.toks id=some k'/\∀ i,i<hs.nx->ρ i≠id)) /\
   Q' r' H'):JU P f bs H Q':=by
 intro g w vals rel hv;let gs:Gh:=⟨g.mem,fun i=>if i<hs.nx then g.box (ρ i) else none,fun i=>if i<hs.nx then g.tok (ρ i) else none,hs.nx,g.cch,fun i=>if i<hs.nx then g.lrec (ρ i) else none⟩
 have sm:Sm ρ hs.nx g gs:=⟨rfl,Nat.le_refl _,fun i hi=>⟨by rw[rel.nx];exact hρ i hi,by simp[gs,hi],by simp[gs,hi]⟩,rfl,fun i hi=>by simp[gs,hi]⟩;have gbx:∀ i b,gs.box i=some b->i<hs.nx/\g.box (ρ i)=some b:=fun i b e=>by
  simp only[gs] at e;split at e
  ·rename_i h;exact⟨h,e⟩
  ·cases e
 have gtk:∀ i b,gs.tok i=some b->i<hs.nx/\g.tok (ρ i)=some b:=fun i b e=>by
  simp only[gs] at e;split at e
  ·rename_i h;exact⟨h,e⟩
  ·cases e
 have bS:∀ i,(lk hs.boxes i).isSome=true->(lk H.boxes (ρ i)).isSome=true:=fun i e=>by
  obtain⟨c,hc⟩:=Option.isSome_iff_exists.1 e;obtain⟨_,cs,h1,_⟩:=hb _ (JaD hc);rw[h1];rfl
 have tS:∀ i,(lk hs.toks i).isSome=true->(lk H.toks (ρ i)).isSome=true:=fun i e=>by
  obtain⟨c,hc⟩:=Option.isSome_iff_exists.1 e;obtain⟨_,cs,h1,_⟩:=ht _ (JaD hc);rw[h1];rfl
 have hfr:∀ i,hs.nx<=i->gs.box i=none/\gs.tok i=none:=fun i hi=>by
  have h1:¬ i<hs.nx:=by omega
  exact⟨if_neg h1,if_neg h1⟩
 have both:=rel.dn sm rfl hfr hinj hb ht;have rel0:JZ gs hs w:=both.1;have lift:=both.2;refine(hc gs w vals rel0 (ha.dn g gs sm _ hv)).mono fun e w' ⟨v,r,h',gs',e1,e2,s,e4⟩=>?_
 have hnx:hs.nx<=h'.nx:=by rw[<- s.hp.nx];exact s.ext.nx
 obtain⟨r',H',m,hm,hN,hr,hbx,htk,hQ'⟩:=hq r h' e4 hnx;let g':Gh:=⟨gs'.mem,fun i=>if i<H.nx then g.box i else if i<H.nx+m then gs'.box (hs.nx+(i - H.nx)) else none,
  fun t=>if t<H.nx then (if q:∃ i,i<hs.nx/\ρ i=t then gs'.tok q.choose else g.tok t) else if t<H.nx+m then gs'.tok (hs.nx+(t - H.nx)) else none,H.nx+m,gs'.cch,fun t=>if t<H.nx then g.lrec t else gs'.lrec (hs.nx+(t - H.nx))⟩
 have gtok:∀ i,i<hs.nx->g'.tok (ρ i)=gs'.tok i:=fun i hi=>by
  have q:∃ j,j<hs.nx/\ρ j=ρ i:=⟨i,hi,rfl⟩;have:q.choose=i:=hinj _ _ q.choose_spec.1 hi q.choose_spec.2;simp only[g',hρ i hi,if_true,dif_pos q,this]
 have sm':Sm (ren ρ hs.nx H.nx) (hs.nx+m) g' gs':=by
  refine⟨rfl,by rw[s.hp.nx];exact hm,fun i hi=>?_,rfl,fun i hi=>?_⟩;rotate_left
  ·by_cases h1:i<hs.nx
   ·have er:ren ρ hs.nx H.nx i=ρ i:=by simp[ren,h1]
    rw[er,s.ext.lrec i h1,sm.lrec i h1];simp[g',hρ i h1]
   ·have er:ren ρ hs.nx H.nx i=H.nx+(i - hs.nx):=by simp[ren,h1]
    have a1:¬ H.nx+(i - hs.nx)<H.nx:=by omega
    have a3:hs.nx+(H.nx+(i - hs.nx) - H.nx)=i:=by omega
    rw[er];simp only[g',if_neg a1,a3]
  by_cases h1:i<hs.nx
  ·have er:ren ρ hs.nx H.nx i=ρ i:=by simp[ren,h1]
   rw[er];have:=hρ i h1;refine⟨by simp only[g'];omega,?_,(gtok i h1).symm⟩;rw[s.ext.box i h1,(sm.nm i h1).2.1];simp[g',this]
  ·have er:ren ρ hs.nx H.nx i=H.nx+(i - hs.nx):=by simp[ren,h1]
   rw[er];have a1:¬ H.nx+(i - hs.nx)<H.nx:=by omega
   have a2:H.nx+(i - hs.nx)<H.nx+m:=by omega
   have a3:hs.nx+(H.nx+(i - hs.nx) - H.nx)=i:=by omega
   refine⟨by simp only[g'];omega,?_,?_⟩
   ·simp only[g',if_neg a1,if_pos a2,a3]
   ·simp only[g',if_neg a1,if_pos a2,a3]
 have hext:Ext g g':=by
  refine⟨by rw[rel.nx];exact Nat.le_add_right _ _,fun b o v e=>s.ext.mem b o v e,fun id hi=>?_,fun t h1=>?_,fun r' t' e=>s.ext.cch r' t' e,fun t h1=>by rw[rel.nx] at h1;simp[g',h1]⟩
  ·rw[rel.nx] at hi;simp[g',hi]
  ·rw[rel.nx] at h1;simp only[g',h1,if_true];by_cases q:∃ i,i<hs.nx/\ρ i=t
   ·rw[dif_pos q];have:=s.ext.tok q.choose q.choose_spec.1;rw[(sm.nm _ q.choose_spec.1).2.2,q.choose_spec.2] at this;exact this
   ·rw[dif_neg q];exact Jas.refl _
 have deadB:∀ id cs b,lk H.boxes id=some cs->(∀ i c,lk hs.boxes i=some c->ρ i≠id)->g.box id=some b->¬ Ja2 gs hs b:=by
  intro id cs b e1 e2 e3 l;rcases l with ⟨j,c',f1,f2⟩ | ⟨t,k,c',n,f1,f2⟩ | ⟨t,f1⟩
  case inr.inr =>
   obtain⟨b',vs,ty,q1,q2,_⟩:=rel.box id cs e1;obtain⟨es,k,q3,_⟩:=rel.cch b t f1;rw[e3] at q1;cases q1;rw[q2] at q3;cases q3
  ·obtain⟨hj,f3⟩:=gbx j b f2;exact e2 j c' f1 (rel.bxbx _ _ b f3 e3 (bS j (by rw[f1];rfl)) (by rw[e1];rfl))
  ·obtain⟨hj,f3⟩:=gtk t _ f2;exact rel.bxtk _ _ b c' n e3 f3 (by rw[e1];rfl) (tS t (by rw[f1];rfl))
 have deadT:∀ id k b c n,lk H.toks id=some k->(∀ i,i<hs.nx->ρ i≠id)->g.tok id=some (b,c,n)->¬ Ja2 gs hs b:=by
  intro id k b c n e1 e2 e3 l;rcases l with ⟨j,c',f1,f2⟩ | ⟨t,k',c',n',f1,f2⟩ | ⟨t,f1⟩
  case inr.inr =>
   exact rel.tok_cch e1 e3 t f1
  ·obtain⟨hj,f3⟩:=gbx j b f2;exact rel.bxtk _ _ b c n f3 e3 (bS j (by rw[f1];rfl)) (by rw[e1];rfl)
  ·obtain⟨hj,f3⟩:=gtk t _ f2;exact e2 t hj (rel.tktk _ _ b c' n' c n f3 e3 (tS t (by rw[f1];rfl)) (by rw[e1];rfl))
 have memn:∀ b o,b<w.heap.size->¬ Ja2 gs hs b->g.mem b o=none->g'.mem b o=none:=fun b o hb hd e=>by
  cases q:g'.mem b o with
  | none=>rfl
  | some v =>
   rcases s.memo b o v q with q1 | q1 | q1
   ·have q1:g.mem b o=some v:=q1;rw[e] at q1;cases q1
   ·exact(hd q1).elim
   ·omega
 have kindB:∀ id cs,lk H'.boxes id=some cs->(∃ i c b vs ty,i<hs.nx+m/\ren ρ hs.nx H.nx i=id/\lk h'.boxes i=some c/\g'.box id=some b/\gs'.box i=some b/\w'.heap[b]? = some (.cells vs ty (0,0))/\J9 g' vs.toList cs/\(∀ v∈vs.toList,v.oneCell'=true)/\(∀ o,g'.mem b o=none)/\(Ja2 gs hs b\/w.heap.size<=b)) \/
   (∃ b vs ty,lk H.boxes id=some cs/\(∀ i c,lk hs.boxes i=some c->ρ i≠id)/\g'.box id=some b/\g.box id=some b/\b<w.heap.size/\¬ Ja2 gs hs b/\w'.heap[b]? = some (.cells vs ty (0,0))/\J9 g' vs.toList cs/\(∀ v∈vs.toList,v.oneCell'=true)/\∀ o,g'.mem b o=none):=by
  intro id cs e;rcases hbx _ _ e with ⟨i,c,h1,h2,h3,h4⟩ | ⟨h1,h2⟩
  ·obtain⟨b,vs,ty,f1,f2,f3,f4,f5⟩:=s.hp.box i c h3;have hb':g'.box id=some b:=by rw[<- (show ren ρ hs.nx H.nx i=id from h2),<- (sm'.nm i h1).2.1];exact f1
   exact .inl ⟨i,c,b,vs,ty,h1,h2,h3,hb',f1,f2,h4.un g' gs' sm' _ f3,f4,f5,s.live b (.inl ⟨i,c,h3,f1⟩)⟩
  ·obtain⟨b,vs,ty,f1,f2,f3,f4,f5⟩:=rel.box id cs h1;have hid:=rel.box_lt h1;have hd:=deadB id cs b h1 h2 f1;have hlt:=Jaq f2;exact .inr ⟨b,vs,ty,h1,h2,by simp only[g',hid,if_true];exact f1,f1,hlt,hd,by rw[s.keeps.block b hlt hd];exact f2,f3.mono hext,f4,fun o=>memn b o hlt hd (f5 o)⟩
 have kindT:∀ id k,lk H'.toks id=some k->(∃ i k0 b c n,i<hs.nx+m/\ren ρ hs.nx H.nx i=id/\lk h'.toks i=some k0/\g'.tok id=some (b,c,n)/\gs'.tok i=some (b,c,n)/\(Ja2 gs hs b\/w.heap.size<=b)/\k.fz=k0.fz/\k.s=k0.s/\RnR (ren ρ hs.nx H.nx) (hs.nx+m) k0.xs k.xs) \/
   (∃ b c n,lk H.toks id=some k/\(∀ i,i<hs.nx->ρ i≠id)/\g'.tok id=some (b,c,n)/\g.tok id=some (b,c,n)/\b<w.heap.size/\¬ Ja2 gs hs b):=by
  intro id k e;rcases htk _ _ e with ⟨i,k0,h1,h2,h3,h4,h5,h6⟩ | ⟨h1,h2⟩
  ·obtain⟨b,c,vs,ty,f1,_⟩:=s.hp.tok i k0 h3;have ht':g'.tok id=some (b,c,k0.tn):=by rw[<- (show ren ρ hs.nx H.nx i=id from h2),<- (sm'.nm i h1).2.2];exact f1
   exact .inl ⟨i,k0,b,c,_,h1,h2,h3,ht',f1,s.live b (.inr (.inl ⟨i,k0,c,_,h3,f1⟩)),h4,h5,h6⟩
  ·obtain⟨b,c,vs,ty,f1,f2,_⟩:=rel.tok id k h1;have hid:=rel.tok_lt h1;have hd:=deadT id k b c _ h1 h2 f1;have:¬ ∃ i,i<hs.nx/\ρ i=id:=fun⟨i,q1,q2⟩=>h2 i q1 q2
   exact .inr ⟨b,c,_,h1,h2,by simp only[g',hid,if_true,dif_neg this];exact f1,f1,Jaq f2,hd⟩
 have hp':JZ g' H' w':=by
  refine⟨hN.symm,s.hp.mem,fun id cs e=>?_,fun t k e=>?_,fun i j b e1 e2 e3 e4=>?_,fun i j b c n c' n' e1 e2 e3 e4=>?_,fun i j b c n e1 e2 e3 e4=>?_,fun i hi=>?_,s.hp.cch,s.hp.cel,fun t k b c n e hk q=>?_⟩
  rotate_right
  ·rcases kindT t k e with ⟨i,k0,b0,c0,n0,h1,h2,h3,q1,q2,_,h4,h5,h6⟩ | ⟨b0,c0,n0,h1,h2,q1,q2,hlt,hd⟩
   ·have hcr:CvR gs' g' k0.xs k.xs:=h6.un g' gs' sm';rw[q1] at q;cases q;obtain⟨x,f1,f2,f3⟩:=s.hp.lpr i k0 b c n h3 ((Tk.lp_eq hcr.lens h5).1 hk) q2;exact⟨x,by rw[<- (show ren ρ hs.nx H.nx i=t from h2),<- sm'.lrec i h1];exact f1,by rw[<- hcr.length];exact f2,f3⟩
   ·rw[q1] at q;cases q;obtain⟨x,f1,f2,f3⟩:=rel.lpr t k b c n h1 hk q2;exact⟨x,(hext.lrec t (by rw[rel.nx];exact rel.tok_lt h1)).trans f1,by rw[s.keeps.block b hlt hd];exact f2,f3⟩
  ·rcases kindB id cs e with ⟨i,c,b,vs,ty,_,_,_,q1,_,q2,q3,q4,q5,_⟩ | ⟨b,vs,ty,_,_,q1,_,_,_,q2,q3,q4,q5⟩
   ·exact⟨b,vs,ty,q1,q2,q3,q4,q5⟩
   ·exact⟨b,vs,ty,q1,q2,q3,q4,q5⟩
  ·rcases kindT t k e with ⟨i,k0,b,c,n,h1,h2,h3,q1,q2,_,h4,h5,h6⟩ | ⟨b,c,n,h1,h2,q1,q2,hlt,hd⟩
   ·obtain⟨b',c',vs,ty,f1,f2,f3,f5,f6,f7,f9,f10⟩:=s.hp.tok i k0 h3;have hcr:CvR gs' g' k0.xs k.xs:=h6.un g' gs' sm';have hst:k.st=k0.st:=Tk.st_eq hcr.lens h5;have hlen:k0.xs.length=k.xs.length:=hcr.length;rw[q2] at f1;cases f1;refine⟨b,c,vs,ty,by rw[q1,Tk.tn_eq hcr.lens h5],f2,Tk.obj_eq hcr.lens h5 f3,by rw[h4,<- hlen];exact f5,fun x hx=>?_,fun i' x j a e1 e2=>?_,fun o ho=>f9 o (by rw[<- h4,<- h5];exact ho),f10⟩
    ·obtain⟨i',hi'⟩:=List.getElem?_of_mem hx;obtain⟨y,y1,_,y3⟩:=hcr.get i' x hi';rw[<- y3,hst];exact f6 y (List.mem_of_getElem? y1)
    ·obtain⟨y,y1,y2,y3⟩:=hcr.get i' x e1;let row:List Value:=(List.range y.length).map fun j'=>(vs[i' * k0.st+j']?).getD (.bool false)
     have hrow:J9 gs' row y:=by
      refine⟨by simp[row],fun j' c' a' q1 q2=>?_⟩;have hj':=(List.getElem?_eq_some_iff.1 q2).1;obtain⟨v,hv1,hv2⟩:=f7 i' y j' a' y1 q2;have:c'=v:=by simpa [row,hj',hv1] using q1.symm
      rw[this];exact hv2
     have hr2:=y2 row hrow;have hj:j<y.length:=by rw[y3];exact(List.getElem?_eq_some_iff.1 e2).1
     obtain⟨v,hv1,_⟩:=f7 i' y j y[j] y1 (by simp[hj]);refine⟨v,by rw[hst];exact hv1,hr2.2 j v a ?_ e2⟩;simp[row,hj,hv1]
   ·obtain⟨b',c',vs,ty,f1,f2,f3,f5,f6,f7,f9,f10⟩:=rel.tok t k h1;rw[q2] at f1;cases f1;refine⟨b,c,vs,ty,q1,by rw[s.keeps.block b hlt hd];exact f2,f3,f5,f6,fun i x j a e1 e2=>?_,fun o ho=>memn b o hlt hd (f9 o ho),fun r q=>(s.live b (.inr (.inr ⟨r,q⟩))).elim hd (fun q=>by omega)⟩;obtain⟨v,y1,y2⟩:=f7 i x j a e1 e2;exact⟨v,y1,y2.mono hext⟩
  ·obtain⟨ci,hi⟩:=Option.isSome_iff_exists.1 e3;obtain⟨cj,hj⟩:=Option.isSome_iff_exists.1 e4;rcases kindB i ci hi with ⟨i0,c0,b0,_,_,a1,a2,a3,a4,a5,_,_,_,_,a6⟩ | ⟨b0,_,_,a1,a2,a3,a4,a5,a6,_⟩ <;>
   rcases kindB j cj hj with ⟨j0,d0,b1,_,_,k1,k2,k3,k4,k5,_,_,_,_,k6⟩ | ⟨b1,_,_,k1,k2,k3,k4,k5,k6,_⟩
   ·rw[e1] at a4;cases a4;rw[e2] at k4;cases k4;have:=s.hp.bxbx i0 j0 b a5 k5 (by rw[a3];rfl) (by rw[k3];rfl);rw[<- a2,<- k2,this]
   ·rw[e1] at a4;cases a4;rw[e2] at k3;cases k3;rcases a6 with q | q
    ·exact(k6 q).elim
    ·omega
   ·rw[e1] at a3;cases a3;rw[e2] at k4;cases k4;rcases k6 with q | q
    ·exact(a6 q).elim
    ·omega
   ·rw[e1] at a3;cases a3;rw[e2] at k3;cases k3;exact rel.bxbx i j b a4 k4 (by rw[a1];rfl) (by rw[k1];rfl)
  ·obtain⟨ci,hi⟩:=Option.isSome_iff_exists.1 e3;obtain⟨cj,hj⟩:=Option.isSome_iff_exists.1 e4;rcases kindT i ci hi with ⟨i0,c0,b0,c1,n1,a1,a2,a3,a4,a5,a6,_⟩ | ⟨b0,c1,n1,a1,a2,a3,a4,a5,a6⟩ <;>
   rcases kindT j cj hj with ⟨j0,d0,b1,c2,n2,k1,k2,k3,k4,k5,k6,_⟩ | ⟨b1,c2,n2,k1,k2,k3,k4,k5,k6⟩
   ·rw[e1] at a4;cases a4;rw[e2] at k4;cases k4;have:=s.hp.tktk i0 j0 _ _ _ _ _ a5 k5 (by rw[a3];rfl) (by rw[k3];rfl);rw[<- a2,<- k2,this]
   ·rw[e1] at a4;cases a4;rw[e2] at k3;cases k3;rcases a6 with q | q
    ·exact(k6 q).elim
    ·omega
   ·rw[e1] at a3;cases a3;rw[e2] at k4;cases k4;rcases k6 with q | q
    ·exact(a6 q).elim
    ·omega
   ·rw[e1] at a3;cases a3;rw[e2] at k3;cases k3;exact rel.tktk i j _ _ _ _ _ a4 k4 (by rw[a1];rfl) (by rw[k1];rfl)
  ·obtain⟨ci,hi⟩:=Option.isSome_iff_exists.1 e3;obtain⟨cj,hj⟩:=Option.isSome_iff_exists.1 e4;rcases kindB i ci hi with ⟨i0,c0,b0,_,_,a1,a2,a3,a4,a5,_,_,_,_,a6⟩ | ⟨b0,_,_,a1,a2,a3,a4,a5,a6,_⟩ <;>
   rcases kindT j cj hj with ⟨j0,d0,b1,c2,n2,k1,k2,k3,k4,k5,k6,_⟩ | ⟨b1,c2,n2,k1,k2,k3,k4,k5,k6⟩
   ·rw[e1] at a4;cases a4;rw[e2] at k4;cases k4;exact s.hp.bxtk i0 j0 _ _ _ a5 k5 (by rw[a3];rfl) (by rw[k3];rfl)
   ·rw[e1] at a4;cases a4;rw[e2] at k3;cases k3;rcases a6 with q | q
    ·exact(k6 q).elim
    ·omega
   ·rw[e1] at a3;cases a3;rw[e2] at k4;cases k4;rcases k6 with q | q
    ·exact(a6 q).elim
    ·omega
   ·rw[e1] at a3;cases a3;rw[e2] at k3;cases k3;exact rel.bxtk i j _ _ _ a4 k4 (by rw[a1];rfl) (by rw[k1];rfl)
  ·rw[hN] at hi;have a1:¬ i<H.nx:=by omega
   have a2:¬ i<H.nx+m:=by omega
   exact⟨by simp only[g',if_neg a1,if_neg a2],by simp only[g',if_neg a1,if_neg a2]⟩
 refine⟨v,r',H',g',e1,hr.un g' gs' sm' _ e2,⟨hp',hext,⟨s.keeps.os,s.keeps.tape,s.keeps.output,s.keeps.drawn,s.keeps.size,fun b hb' hF=>s.keeps.block b hb' (fun l=>hF (lift b l)),s.keeps.loop⟩,fun b l=>?_,fun b o v e=>(s.memo b o v e).imp id (fun q=>q.imp (lift b) id)⟩,hQ'⟩;rcases l with ⟨i,c,f1,f2⟩ | ⟨t,k,c,n,f1,f2⟩ | f1
 ·rcases kindB i c f1 with ⟨i0,c0,b0,_,_,a1,a2,a3,a4,a5,_,_,_,_,a6⟩ | ⟨b0,_,_,a1,a2,a3,a4,a5,a6,_⟩
  ·rw[f2] at a4;cases a4;exact a6.imp (lift _) id
  ·rw[f2] at a3;cases a3;exact .inl (.inl ⟨i,c,a1,a4⟩)
 ·rcases kindT t k f1 with ⟨i0,c0,b0,c1,n1,a1,a2,a3,a4,a5,a6,_⟩ | ⟨b0,c1,n1,a1,a2,a3,a4,a5,a6⟩
  ·rw[f2] at a4;cases a4;exact a6.imp (lift _) id
  ·rw[f2] at a3;cases a3;exact .inl (.inr (.inl ⟨t,k,c,n,a1,a4⟩))
 ·exact(s.live b (.inr (.inr f1))).imp (fun q=>lift b q) id
theorem St.wk_slots{sl sl':List (Nat × AV)}{h:Hp}{n:Nat}(hs:∀ p∈sl',lk sl p.1=some p.2):St.wk ⟨sl,h,n⟩ ⟨sl',h,n⟩ :=
 fun _ _ _ g _ _ r=>⟨g,⟨r.st,fun s v e=>r.slots s v (hs _ (JaD e)),r.nt,r.defers⟩⟩
def rho (l:List Nat)(i:Nat):Nat:=l.getD i 0
theorem Jsv{l:List Nat}(h:l.Nodup)(i j:Nat)(hi:i<l.length)(hj:j<l.length)(e:rho l i=rho l j):i=j:=by
 simp only[rho,List.getD_eq_getElem?_getD,List.getElem?_eq_getElem hi,List.getElem?_eq_getElem hj,Option.getD_some] at e;exact(List.getElem_inj h).1 e
theorem Jua{l:List Nat}{N:Nat}(h:∀ x∈l,x<N)(i:Nat)(hi:i<l.length):rho l i<N:=by
 simp only[rho,List.getD_eq_getElem?_getD,List.getElem?_eq_getElem hi,Option.getD_some];exact h _ (List.getElem_mem _)
def ro (h:Hp)(r0:AV)(r:AV)(h':Hp):Prop:=r=r0/\h'.boxes=h.boxes/\h'.toks=h.toks
theorem JaM.sub{f:FuncId}{av bs:List AV}{hs H:Hp}{r0 r1:AV}(l:List Nat)(hl:hs.nx=l.length)(hnd:l.Nodup)(hlt:∀ x∈l,x<H.nx)
  (ha:RnL (rho l) hs.nx av bs) (hb:∀ p∈hs.boxes,p.1<hs.nx/\∃ cs,lk H.boxes (rho l p.1)=some cs/\RnL (rho l) hs.nx p.2 cs)
  (ht:∀ p∈hs.toks,p.1<hs.nx/\∃ k,lk H.toks (rho l p.1)=some k/\k.fz=p.2.fz/\k.s=p.2.s/\RnR (rho l) hs.nx p.2.xs k.xs)
  (hA:∀ i,i<hs.nx->lk hs.toks i=none->lk H.toks (rho l i)=none)
  (hc0:JaM P f av hs r0) (hr:Rn (rho l) hs.nx r0 r1):JaM P f bs H r1:=by
 have hc:JU P f av hs (ro hs r0):=hc0.mono fun r h' e=>⟨e.1,by rw[e.2],by rw[e.2]⟩;have hi:=Jsv hnd;have ii:∀ i,i<hs.nx->ren (rho l) hs.nx H.nx i=rho l i:=fun i h=>by simp[ren,h]
 have sm:∀ g gs,Sm (ren (rho l) hs.nx H.nx) (hs.nx+0) g gs->Sm (rho l) hs.nx g gs:=fun g gs s=>⟨s.mem,s.nx,fun i h=>by have:=s.nm i h;rwa [ii i h] at this,s.cch,fun i h=>by have:=s.lrec i h;rwa [ii i h] at this⟩;refine JU.sub (rho l) (fun i j h1 h2=>hi i j (hl ▸ h1) (hl ▸ h2)) (fun i h1=>Jua hlt i (hl ▸ h1)) ha hb ht hc ?_;rintro r h' ⟨rfl,hbx,htk⟩ hnx;refine⟨r1,H,0,hnx,rfl,⟨fun g gs s=>hr.dn g gs (sm g gs s),fun g gs s=>hr.un g gs (sm g gs s)⟩,fun id cs' e=>?_,fun id k' e=>?_,rfl,rfl⟩
 ·by_cases q:∃ i c,lk hs.boxes i=some c/\rho l i=id
  ·obtain⟨i,c,q1,q2⟩:=q;obtain⟨hin,cs,h1,h2⟩:=hb _ (JaD q1);simp only at hin h1 h2;rw[q2,e] at h1;cases h1;exact .inl ⟨i,c,hin,by rw[ii i hin];exact q2,by rw[hbx];exact q1,⟨fun g gs s=>h2.dn g gs (sm g gs s),fun g gs s=>h2.un g gs (sm g gs s)⟩⟩
  ·exact .inr ⟨e,fun i c h1 h2=>q ⟨i,c,h1,h2⟩⟩
 ·by_cases q:∃ i,i<hs.nx/\rho l i=id
  ·obtain⟨i,q1,q2⟩:=q;cases hk:lk hs.toks i with
   | none=>have:=hA i q1 hk;rw[q2,e] at this;cases this
   | some k =>
    obtain⟨hin,k2,h1,h2,h3,h4⟩:=ht _ (JaD hk);simp only at hin h1 h2 h3 h4;rw[q2,e] at h1;cases h1;exact .inl ⟨i,k,hin,by rw[ii i hin];exact q2,by rw[htk];exact hk,h2,h3,⟨fun g gs s=>h4.dn g gs (sm g gs s),fun g gs s=>h4.un g gs (sm g gs s)⟩⟩
  ·exact .inr ⟨e,fun i h1 h2=>q ⟨i,h1,h2⟩⟩
end
end Go.Ab
end
section
namespace Go.Ab
section
variable {P:Program} {σ:St} {o:Oper}
theorem JeI(w:World)(t e:TypeId)(a:Option Addr)(l c:Nat)(h:P.underlying t=some (.slice e)):(binOp .eql t (.slice a l c) (.slice none 0 0)).run P w = .ok (.bool a.isNone) w:=by
 simp only[binOp];simp[run_equal_slice_nil w t e a l c h]
theorem JeK{K:St->Prop}{d:Option Tmp}{t t' t2:TypeId}{x:Operand}{pos:String}{af:Array Edge}{gu:Option (Nat × Bool)}{xs:List (List AV)}{f:Bool}{ti:TI}{e:TypeId}
  (hx:ev σ x=some (.vec xs f)) (ht:Jt P t=some ti) (hk:ti.kd = .sl e) (h:∀ b:Bool,(b=true->xs=[])->K (σ.put d (.lit (.bool b)))) :
  JnO P ⟨d,.binOp .eql t x (.const (.slice none 0 0)) t',t2,pos,af,gu⟩ none K σ:=by
 intro g0 h0 w0 g w a Q r;obtain⟨i,dd,e1,e2,e3,_⟩:=JD ht;rw[e3] at hk;have:=JbF hk;subst this;have hv:=r.ev hx;have fin:∀ (ad:Option Addr) (l c:Nat),a.eval x = .slice ad l c->(ad=none->xs=[])->∃ b:Bool,(b=true->xs=[])/\Jcy P ⟨d,.binOp .eql t x (.const (.slice none 0 0)) t',t2,pos,af,gu⟩ a w g (.lit (.bool b)):=by
  intro ad l c hu hn;have k:=JeI (P:=P) w t e ad l c e2;have hc:a.eval (.const (.slice none 0 0)) = .slice none 0 0:=rfl;exact⟨ad.isNone,fun q=>hn (by simpa using q),.bool ad.isNone,by simp[execOp,hu,hc,k,eqGuard],.lit rfl⟩
 have got:∃ b:Bool,(b=true->xs=[])/\Jcy P ⟨d,.binOp .eql t x (.const (.slice none 0 0)) t',t2,pos,af,gu⟩ a w g (.lit (.bool b)):=by
  generalize hu:a.eval x=u at hv;cases hv with
  | vecN=>exact fin _ _ _ hu (fun _=>rfl)
  | vecE _=>exact fin _ _ _ hu (fun _=>rfl)
  | vec=>exact fin _ _ _ hu (fun q=>by cases q)
 obtain⟨b,hb,u,q1,q2⟩:=got;unfold Oper.wp;rw[q1];exact⟨_,g,h b hb,r.put d q2⟩
end
end Go.Ab
end
section
namespace Go.Ab
theorem Jb{α:Type}{p:α->Prop}{a:α}{l:List α}(h:p a)(k:∀ x∈l,p x):∀ x∈a :: l,p x:=List.forall_mem_cons.2 ⟨h,k⟩
theorem Jl{α:Type}{p:α->Prop}:∀ x∈([]:List α),p x:=fun x h=>by cases h
def St.cp(N:Nat)(σ σ':St):Prop:=∀ g0 h0 w0 g w a,g0.nx<=N->Jae g0 h0 w0 σ g w a->∃ g',Jae g0 h0 w0 σ' g' w a
theorem St.wk.cp{N:Nat}{σ σ':St}(h:St.wk σ σ'):St.cp N σ σ':=fun g0 h0 w0 g w a _ r=>h g0 h0 w0 g w a r
theorem St.cp.mono{N M:Nat}{σ σ':St}(h:St.cp N σ σ')(k:M<=N):St.cp M σ σ':=fun g0 h0 w0 g w a q r=>h g0 h0 w0 g w a (Nat.le_trans q k) r
def cpn (N:Nat)(l:List Nat)(i:Nat):Nat:=if i<N then i else l.getD (i - N) 0
theorem St.cp_of{σ σ':St}(N:Nat)(l:List Nat)(hN:N<=σ.hp.nx)(hnx:σ'.hp.nx=N+l.length)(hnt:σ'.nt=σ.nt)(hnd:l.Nodup)(hl:∀ x∈l,N<=x/\x<σ.hp.nx)
  (hs:∀ p∈σ'.slots,∃ b,lk σ.slots p.1=some b/\Rn (cpn N l) σ'.hp.nx p.2 b)
  (hb:∀ p∈σ'.hp.boxes,p.1<σ'.hp.nx/\∃ cs,lk σ.hp.boxes (cpn N l p.1)=some cs/\RnL (cpn N l) σ'.hp.nx p.2 cs)
  (ht:∀ p∈σ'.hp.toks,p.1<σ'.hp.nx/\∃ k,lk σ.hp.toks (cpn N l p.1)=some k/\k.fz=p.2.fz/\k.s=p.2.s/\RnR (cpn N l) σ'.hp.nx p.2.xs k.xs):St.cp N σ σ':=by
 intro g0 h0 w0 g w a h0N r;have hget:∀ i,N<=i->i<N+l.length->cpn N l i∈l:=fun i h1 h2=>by
  have:¬ i<N:=by omega
  have h3:i - N<l.length:=by omega
  simp only[cpn,if_neg this,List.getD_eq_getElem?_getD,List.getElem?_eq_getElem h3,Option.getD_some];exact List.getElem_mem _
 have hlo:∀ i,i<N->cpn N l i=i:=fun i h=>by simp[cpn,h]
 have hinj:∀ i j,i<σ'.hp.nx->j<σ'.hp.nx->cpn N l i=cpn N l j->i=j:=by
  intro i j hi hj e;rw[hnx] at hi hj;rcases Nat.lt_or_ge i N with h1 | h1 <;> rcases Nat.lt_or_ge j N with h2 | h2
  ·rw[hlo i h1,hlo j h2] at e;exact e
  ·have:=(hl _ (hget j h2 hj)).1;rw[<- e,hlo i h1] at this;omega
  ·have:=(hl _ (hget i h1 hi)).1;rw[e,hlo j h2] at this;omega
  ·have n1:¬ i<N:=by omega
   have n2:¬ j<N:=by omega
   have b1:i - N<l.length:=by omega
   have b2:j - N<l.length:=by omega
   simp only[cpn,if_neg n1,if_neg n2,List.getD_eq_getElem?_getD,List.getElem?_eq_getElem b1,List.getElem?_eq_getElem b2,Option.getD_some] at e;have:=(List.getElem_inj hnd).1 e;omega
 have hlt:∀ i,i<σ'.hp.nx->cpn N l i<σ.hp.nx:=by
  intro i hi;rw[hnx] at hi;rcases Nat.lt_or_ge i N with h1 | h1
  ·rw[hlo i h1];omega
  ·exact(hl _ (hget i h1 hi)).2
 let g':Gh:=⟨g.mem,fun i=>if i<σ'.hp.nx then g.box (cpn N l i) else none,fun i=>if i<σ'.hp.nx then g.tok (cpn N l i) else none,σ'.hp.nx,g.cch,fun i=>if i<σ'.hp.nx then g.lrec (cpn N l i) else none⟩
 have sm:Sm (cpn N l) σ'.hp.nx g g':=⟨rfl,Nat.le_refl _,fun i hi=>⟨by rw[r.st.hp.nx];exact hlt i hi,by simp[g',hi],by simp[g',hi]⟩,rfl,fun i hi=>by simp[g',hi]⟩;have hfr:∀ i,σ'.hp.nx<=i->g'.box i=none/\g'.tok i=none:=fun i hi=>by
  have h1:¬ i<σ'.hp.nx:=by omega
  exact⟨if_neg h1,if_neg h1⟩
 obtain⟨rel,lift⟩:=r.st.hp.dn sm rfl hfr hinj hb ht;refine⟨g',⟨rel,?_,⟨r.st.keeps.os,r.st.keeps.tape,r.st.keeps.output,r.st.keeps.drawn,r.st.keeps.size,r.st.keeps.block,r.st.keeps.loop⟩,fun b q=>r.st.live b (lift b q),r.st.memo⟩,fun s v e=>?_,r.nt.trans hnt.symm,r.defers⟩
 ·have e0:∀ id,id<g0.nx->id<N/\id<σ'.hp.nx:=fun id hi=>by omega
  refine⟨?_,r.st.ext.mem,fun id hi=>?_,fun t h1=>?_,r.st.ext.cch,fun id hi=>by
   obtain⟨q1,q2⟩:=e0 id hi;have:=r.st.ext.lrec id hi;simp only[g',q2,if_true,hlo id q1];exact this⟩
  ·show g0.nx<=σ'.hp.nx;omega
  ·obtain⟨q1,q2⟩:=e0 id hi;have:=r.st.ext.box id hi;simp only[g',q2,if_true,hlo id q1];exact this
  ·obtain⟨q1,q2⟩:=e0 t h1;have:=r.st.ext.tok t h1;simp only[g',q2,if_true,hlo t q1];exact this
 ·obtain⟨b,e1,e2⟩:=hs _ (JaD e);obtain⟨u,f1,f2⟩:=r.slots s b e1;exact⟨u,f1,e2.dn g g' sm _ f2⟩
section
variable {P:Program} {σ:St}
theorem Jb7{c:Code}{Q:Exit->St->Prop}{A:Type}(n N:Nat)(S:Nat->A->St)(Inv:Nat->A->Prop)(hN:∀ i a,(S i a).hp.nx=N)(a0:A)(hw:St.wk σ (S 0 a0))(h0:Inv 0 a0)
  (round:∀ i a,i<n->Inv i a->awp P c (JlC (fun σ1=>∃ a',Inv (i+1) a'/\St.cp N σ1 (S (i+1) a')) Q) (S i a))
  (last:∀ a,Inv n a->awp P c (JlC (fun _=>False) Q) (S n a)):Aw P (.loop c) Q σ:=by
 intro g0 h0' w0 g w a r;refine wpIn_loop_ghost (fun m a w=>∃ i x g,i<=n/\m=n - i/\Inv i x/\Jae g0 h0' w0 (S i x) g w a) n (let ⟨g',r'⟩:=hw g0 h0' w0 g w a r;⟨0,a0,g',Nat.zero_le _,rfl,h0,r'⟩) (fun m a w ⟨i,x,g,hi,hm,hI,k2⟩=>?_);have hg:g0.nx<=N:=by
  have h1:g0.nx<=g.nx:=k2.st.ext.nx;rw[k2.st.hp.nx,hN] at h1;exact h1
 rcases Nat.lt_or_ge i n with hlt | hge
 ·refine wpIn_mono (Jax c (round i x hlt hI) g0 h0' w0 g w a k2) fun e a' w' hh=>?_
  obtain⟨σ1,g1,q1,q2⟩:=hh;cases e with
  | normal =>
   obtain⟨x',l1,l2⟩:=q1;obtain⟨g2,q3⟩:=l2 g0 h0' w0 g1 w' a' hg q2;exact⟨n - (i+1),by omega,i+1,x',g2,hlt,rfl,l1,q3⟩
  | _=>exact⟨σ1,g1,q1,q2⟩
 ·have:i=n:=by omega
  subst this;refine wpIn_mono (Jax c (last x hI) g0 h0' w0 g w a k2) fun e a' w' hh=>?_
  obtain⟨σ1,g1,q1,q2⟩:=hh;cases e with
  | normal=>exact q1.elim
  | _=>exact⟨σ1,g1,q1,q2⟩
def Jn0(l N:Nat)(J:St->Prop)(Q:Exit->St->Prop):Exit->St->Prop
 | .goto i,σ=>i=l/\∃ σ',St.cp N σ σ'/\J σ'
 | e,σ=>Q e σ
theorem Xcb{l N:Nat}{J:St->Prop}{Q:Exit->St->Prop}:Jn0 l N J Q .normal σ=Q .normal σ:=rfl
theorem Xcc{l N:Nat}{J:St->Prop}{Q:Exit->St->Prop}:Jn0 l N J Q .ret σ=Q .ret σ:=rfl
theorem Xcd{l N i:Nat}{J:St->Prop}{Q:Exit->St->Prop}:Jn0 l N J Q (.exit i) σ=Q (.exit i) σ:=rfl
theorem Xce{l N:Nat}{J:St->Prop}{Q:Exit->St->Prop}:Jn0 l N J Q (.goto l) σ=∃ σ',St.cp N σ σ'/\J σ':=by simp[Jn0]
def Jzm (P:Program)(N:Nat)(rs:List ResultVar)(R:AV->Hp->Prop):Exit->St->Prop
 | .normal,σ=>∃ σ',St.cp N σ σ'/\Jfp (JaQ P σ' rs) R σ'.hp
 | .ret,σ=>∃ σ',St.cp N σ σ'/\Jfp (JaQ P σ' rs) R σ'.hp
 | _,_=>False
theorem Xbz{N:Nat}{rs:List ResultVar}{R:AV->Hp->Prop}:Jzm P N rs R .normal σ=∃ σ',St.cp N σ σ'/\Jfp (JaQ P σ' rs) R σ'.hp:=rfl
theorem Xca{N:Nat}{rs:List ResultVar}{R:AV->Hp->Prop}:Jzm P N rs R .ret σ=∃ σ',St.cp N σ σ'/\Jfp (JaQ P σ' rs) R σ'.hp:=rfl
theorem Jan{f:FuncId}{fn:Func}{c:Code}{args:List AV}{h:Hp}{Q:AV->Hp->Prop}(hf:P.funcs[f]? = some fn)(hb:fn.body=some c){n:Nat}(hnt:fn.ntmps=n){rs:List ResultVar}(hrs:fn.results.toList=rs)(hn:args.length<=n){N:Nat}(hN:h.nx=N)
  (hw:awp P c (Jzm P N rs Q) (entry args h n)):JU P f args h Q:=by
 subst hnt;subst hrs;subst hN;intro g w vals hr hl;have hs:vals.size=args.length:=by simpa using hl.1
 refine JbR hf hb (wpIn_mono (Jax c hw g h (.top w) g w _ (Jae.entry hr hl fn.ntmps hn)) fun e a' w' hh=>?_);obtain⟨σ,g',q1,q2⟩:=hh;have fin:(∃ σ',St.cp h.nx σ σ'/\Jfp (JaQ P σ' fn.results.toList) Q σ'.hp)->∃ w'',JfK P a'.defers w' w''/\∃ v,(results fn a'.tmps).run P w'' = .ok v w''/\∃ v' r h' g',Ending.returned v = .returned v'/\Rep g' v' r/\JW g h w g' h' w''/\Q r h':=fun⟨σ',hw',hb⟩=>by
  obtain⟨g2,q3⟩:=hw' g h (.top w) g' w' a' (by rw[hr.nx];exact Nat.le_refl _) q2;obtain⟨vs,k1,k2⟩:=JdM hb;obtain⟨w'',t1,t2⟩:=q3.fin P;obtain⟨u,e1,e2⟩:=Jbu t2 k1;exact⟨w'',t1,u,e1,u,_,_,g2,rfl,e2,t2.st,k2⟩
 cases e with
 | normal=>exact fin q1
 | ret=>exact fin q1
 | exit id=>exact q1.elim
 | goto id=>exact q1.elim
 | panic v=>exact q1.elim
 | outgrown=>exact q1.elim
theorem St.cp_drop{σ σ':St}(hnx:σ'.hp.nx<=σ.hp.nx)(hnt:σ'.nt=σ.nt)(hs:∀ p∈σ'.slots,lk σ.slots p.1=some p.2/\Rn id σ'.hp.nx p.2 p.2)
  (hb:∀ p∈σ'.hp.boxes,p.1<σ'.hp.nx/\lk σ.hp.boxes p.1=some p.2/\RnL id σ'.hp.nx p.2 p.2)
  (ht:∀ p∈σ'.hp.toks,p.1<σ'.hp.nx/\lk σ.hp.toks p.1=some p.2/\RnR id σ'.hp.nx p.2.xs p.2.xs):St.cp σ'.hp.nx σ σ':=by
 have e:∀ n i,i<n->cpn n [] i=i:=fun n i h=>by simp[cpn,h]
 have sm:∀ g gs,Sm (cpn σ'.hp.nx []) σ'.hp.nx g gs->Sm id σ'.hp.nx g gs:=fun g gs s=>⟨s.mem,s.nx,fun i h=>by have:=s.nm i h;rwa [e _ i h] at this,s.cch,fun i h=>by have:=s.lrec i h;rwa [e _ i h] at this⟩;refine St.cp_of σ'.hp.nx [] hnx (by simp) hnt List.nodup_nil (fun x h=>by cases h) (fun p hp=>?_) (fun p hp=>?_) (fun p hp=>?_)
 ·obtain⟨h1,h2⟩:=hs p hp;exact⟨_,h1,fun g gs s=>h2.dn g gs (sm g gs s),fun g gs s=>h2.un g gs (sm g gs s)⟩
 ·obtain⟨h0,h1,h2⟩:=hb p hp;exact⟨h0,_,by rw[e _ _ h0];exact h1,fun g gs s=>h2.dn g gs (sm g gs s),fun g gs s=>h2.un g gs (sm g gs s)⟩
 ·obtain⟨h0,h1,h2⟩:=ht p hp;exact⟨h0,_,by rw[e _ _ h0];exact h1,rfl,rfl,fun g gs s=>h2.dn g gs (sm g gs s),fun g gs s=>h2.un g gs (sm g gs s)⟩
theorem Jbg{Q:Exit->St->Prop}{σ σ':St}{n:Nat}(N:Nat){id:Nat}{l:List Oper}(p:Nat)(t:OT)(hn:σ.nt=n)(hB:Jdh l.toArray n p=true)(hT:Je5 l.toArray p=true)(hm:P.follows .mixedOrders=true)
  (hok:okT l.toArray t (Array.ofFn fun j:Fin l.length=>decide (j.val<p)) none=true) (hd:decide (p+t.depth<=l.length)=true)
  (h:qwl P l.toArray (l.take p) (fun σ1=>σ1.hp.nx<=N/\JbI P l.toArray t (fun σ2=>St.cp N σ2 σ') σ1) σ) (k:Q .normal σ'):Aw P (.region id l.toArray true) Q σ:=by
 refine Jd0 (rest:=t.depth) (by rw[hn];exact hB) hT hm (K:=fun σ1=>σ1.hp.nx<=N/\JbI P l.toArray t (fun σ2=>St.cp N σ2 σ') σ1) (by simpa using h) (fun σ1 hK0 g0 h0 w0 g w a listed fuel hsz hon hf fr=>?_) (by simpa using hd);obtain⟨hNN,hK⟩:=hK0;have hg:g0.nx<=N:=by
  have h1:g0.nx<=g.nx:=fr.st.ext.nx;rw[fr.st.hp.nx] at h1;omega
 have hl:listed=Array.ofFn fun j:Fin l.length=>decide (j.val<p):=by
  apply Array.ext
  ·simpa using hsz
  ·intro j h1 h2;have:=hon j;unfold Jah at this;simp only[Array.getD_eq_getD_getElem?,Array.getElem?_eq_getElem h1,Option.getD_some] at this;simp[this]
 subst hl;have base:=Jdj (Q:=fun e σ1=>match e with | .normal=>St.cp N σ1 σ' | _=>False) (g0:=g0) (h0:=h0) (w0:=w0) t.depth t _ σ1 g w a fuel (Nat.le_refl _) hok hK fr hf;have mono:∀ (n:Nat) (listed:Array Bool) (a:Act) (w:World),Ja5 P .any l.toArray (Jb5 g0 h0 w0 fun e σ1=>match e with | .normal=>St.cp N σ1 σ' | _=>False) n listed a w->Ja5 P .any l.toArray (Jb5 g0 h0 w0 Q) n listed a w:=by
  have post:∀ e a w,Jb5 g0 h0 w0 (fun e σ1=>match e with | .normal=>St.cp N σ1 σ' | _=>False) e a w->Jb5 g0 h0 w0 Q e a w:=fun e a w ⟨σ2,g2,k1,k2⟩=>by
   cases e with
   | normal=>obtain⟨g3,k3⟩:=k1 g0 h0 w0 g2 w a hg k2;exact⟨σ',g3,k,k3⟩
   | _=>exact k1.elim
  intro n;induction n with
  | zero=>intro listed a w h;exact⟨h.1,post _ _ _ h.2⟩
  | succ n ih =>
   intro listed a w h;refine⟨fun q=>post _ _ _ (h.1 q),fun i hi=>?_⟩;have:=h.2 i hi;unfold Jkx at this ⊢;split
   ·rename_i ho;rw[ho] at this;exact ih _ _ _ this
   ·rename_i o ho;rw[ho] at this;simp only at this;split
    ·rename_i hw;rw[if_pos hw] at this;rcases this with h1 | h1
     ·exact .inl (Jcb (fun a w=>ih _ a w) post h1)
     ·exact h1.elim
    ·rename_i hw;rw[if_neg hw] at this;exact ih _ _ _ this
 exact mono _ _ _ _ base
structure Own (h:Hp):Prop where
 bx:∀ p∈h.boxes,p.1<h.nx/\RnL id h.nx p.2 p.2
 tk:∀ p∈h.toks,p.1<h.nx/\RnR id h.nx p.2.xs p.2.xs
theorem Jsw{σ:St}{sl:List (Nat × AV)}{h:Hp}{n:Nat}(ho:Own h)(hle:h.nx<=σ.hp.nx)(hnt:n=σ.nt)(hs:∀ p∈sl,lk σ.slots p.1=some p.2)(hn:∀ p∈sl,Rn id h.nx p.2 p.2)
  (hb:∀ p∈h.boxes,lk σ.hp.boxes p.1=some p.2) (ht:∀ p∈h.toks,lk σ.hp.toks p.1=some p.2):St.cp h.nx σ ⟨sl,h,n⟩:=by
 subst hnt;exact St.cp_drop (σ':=⟨sl,h,σ.nt⟩) hle rfl (fun p hp=>⟨hs p hp,hn p hp⟩) (fun p hp=>⟨(ho.bx p hp).1,hb p hp,(ho.bx p hp).2⟩) (fun p hp=>⟨(ho.tk p hp).1,ht p hp,(ho.tk p hp).2⟩)
theorem Jqd{σ:St}{h:Hp}{v:AV}{N:Nat}(t:Nat)(ho:Own h)(hN:h.nx=N)(hle:N<=σ.hp.nx)(hv:lk σ.slots t=some v)(hp:Rn id N v v)(hb:∀ p∈h.boxes,lk σ.hp.boxes p.1=some p.2)(ht:∀ p∈h.toks,lk σ.hp.toks p.1=some p.2) :
  ∃ σ',St.cp N σ σ'/\Jfp (JaQ P σ' [.tmp t]) (fun r h'=>r=v/\h'=h) σ'.hp:=by
 subst hN;refine⟨⟨[(t,v)],h,σ.nt⟩,Jsw ho hle rfl (by simpa using hv) (by simpa using hp) hb ht,?_⟩;have:JaQ P ⟨[(t,v)],h,σ.nt⟩ [.tmp t]=some [v]:=by simp[JaQ,lk]
 rw[this];exact⟨rfl,rfl⟩
end
end Go.Ab
end
