/- MunchEvery answers true for any net, bytes, mode and rule that are read of bulk at most 1048576, and these read as they did, where the library's tables read as its text lays them: the given statement; and its card, in which the tables are tied to the text. Conditions: none. -/
import Derived.Test.YtgbbhilflgekhaaGreatDoorVyr
import Derived.Test.YtgbbhilflgekhaaGreatDoorCards
import Derived.Test.YtgbbhilflgekhaaGreatDoorTie
import Derived.Deep.DeepHandedRow
import Derived.Deep.DeepWitnessRowRef
import Derived.Lib.LaidIn
set_option linter.unusedVariables false
set_option linter.unusedSimpArgs false
set_option maxRecDepth 20000
set_option maxHeartbeats 16000000
section
namespace Go.Proofs.YtgbbhilflgekhaaGreatDoor
open Go.Proofs.Y
open Go Go.Ab Go.RowKit Go.ChangeShapes
open Go.Proofs.Tryz renaming prog->Pg
theorem JiB(H:Type)(en:TypeId × Value->H)(W:World)(base:Nat)(args:Array Value)(ds gs:List (DataW H))(before:List MemPlace)
  (hval:∀ (j:Nat) t v,Tryz.f4.params[j]? = some t->args[j]? = some v->Value.okWide Pg W .any base t v)
  (hW:DataW.Whole en Pg Tryz.f4.params.toList Rows.munchEverySpec.vars false W args.toList ds gs before) (hk:Rows.uptoSmall H (ds++gs)=true) (hT:Lib.Utf8Tabs 0 1 W) :
  Calls Pg 4 args W fun e W'=>∃ v,e = .returned v/\Rows.munchEverySpec.post en Pg Tryz.f4 false true false false W args v W':=by
 have hW':=hW;obtain⟨p,q,hA,hV,rfl,hfz,hnd⟩:=hW;have hA:DataW.TrodAll en Pg W 0 (fun _=>true) true Tryz.f4.params.toList args.toList ds p:=hA;rw[Tryz.params4] at hA;obtain⟨v0,vs0,d0,ds0,p0,q0,hargs,rfl,rfl,⟨n0,h0⟩,r0⟩:=trodAll_cons hA;obtain⟨v1,vs1,d1,ds1,p1,q1,rfl,rfl,rfl,⟨n1,h1⟩,r1⟩:=trodAll_cons r0;obtain⟨v2,vs2,d2,ds2,p2,q2,rfl,rfl,rfl,⟨n2,h2⟩,r2⟩:=trodAll_cons r1;obtain⟨v3,vs3,d3,ds3,p3,q3,rfl,rfl,rfl,⟨n3,h3⟩,r3⟩:=trodAll_cons r2;obtain⟨rfl,rfl,rfl⟩:=trodAll_nil r3;obtain rfl:args = #[v0,v1,v2,v3]:=Array.toList_inj.1 hargs;obtain⟨rfl,rfl⟩:=trodVars_none hV;obtain⟨k0,av0,l0,t,rfl,b0,c0'⟩:=Jzr n0 _ _ _ h0;obtain⟨k1,av1,l1,x,rfl,b1⟩:=JqO n1 _ _ _ h1;obtain⟨sa,sl,sc,rfl⟩:=Go.WideShapes.okWide_slice (e:=5) (by kernel_rfl) (hval 1 27 v1 (by kernel_rfl) rfl);obtain⟨k2,av2,l2,z2,rfl,w2⟩:=JrG n2 _ _ _ h2;obtain⟨k3,av3,l3,z3,rfl,w3⟩:=JrG n3 _ _ _ h3;obtain⟨y2,rfl⟩:=Go.WideShapes.okWide_int (k:=.i64) (by kernel_rfl) (hval 2 3 v2 (by kernel_rfl) rfl);obtain⟨y3,rfl⟩:=Go.WideShapes.okWide_int (k:=.i64) (by kernel_rfl) (hval 3 3 v3 (by kernel_rfl) rfl);have hr2:Rep (gm (JdW W)) (.int .i64 y2) (.lit (.int .i64 z2)):=l2.2 0 _ _ rfl rfl;have hr3:Rep (gm (JdW W)) (.int .i64 y3) (.lit (.int .i64 z3)):=l3.2 0 _ _ rfl rfl;have hrep1:Rep (gm (JdW W)) (.slice sa sl sc) (.vec (x.map Jbb) false):=l1.2 0 _ _ rfl rfl;have hrepW:Rep (gm (JdW W)) (.slice sa sl sc) (inV Jm7 x false):=.wit (Jyz hT) hrep1;have h:Rows.uptoBulkAll [d0,d1,d2,d3]<=1048576:=of_decide_eq_true hk;simp only[Rows.uptoBulkAll] at h;have ok:JbU t:=Js6 (by omega) c0';have ha:=Js7 (n:=t) (M:=1048576) (by omega);have e0:(Jh t).length=5:=rfl;have g0:=l0.1;rw[e0] at g0;obtain⟨cs0,rfl⟩:∃ cs,v0 = .agg cs:=by
  cases v0 <;> simp[Value.cells] at g0
  exact⟨_,rfl⟩
 have hrep0:Rep (gm (JdW W)) (.agg cs0) (.agg (Jh t)):=.agg k0 l0.1 l0.2;have hc:=Jpl Jm7 t x (.inl rfl) z2 z3 ok (by omega) ha w2;refine(hc (JdW W) W #[.agg cs0,.slice sa sl sc,.int .i64 y2,.int .i64 y3] (JpQ W) (.cons hrep0 (.cons hrepW (.cons hr2 (.cons hr3 .nil))))).mono fun e W' hh=>?_
 obtain⟨v,m',rfl,hv,_,hkeep,_,_⟩:=hh;cases hv;exact⟨_,rfl,JqP hW' rfl rfl (by kernel_rfl) (by kernel_rfl) (by kernel_rfl) (tb:=4) (by kernel_rfl) hkeep⟩
theorem JqS:ownKnob Tryz.prog.godebug=none:=by kernel_rfl
noncomputable def Je2(os:Os):World :=
 let w0:=World.holding Pg os ⟨#[],#[],[]⟩
 let put (h:Array Obj) (g:Nat) (cs:Array Value):Array Obj:=h.modify g fun
  | .cells _ t frozen=>.cells cs t frozen
  | o=>o
 let h1:=put w0.heap 0 (Lib.firstTab.map fun z=>Value.int .u8 z).toArray
 let h2:=put h1 1 ((List.range 16).flatMap fun i=>[Value.int .u8 (Lib.accLo i),Value.int .u8 (Lib.accHi i)]).toArray
 {w0 with heap:=h2}
theorem JqT(os:Os)(args:Array Value):laidMet Pg Rows.munchEveryUptoRow.laid ((Je2 os).forCall (fun _ _=>0) ⟨#[],args,[]⟩).memory :=
 (LaidIn.of_run (l:=Rows.munchEveryUptoRow.laid) [0,1] 8 (by kernel_rfl) (by kernel_rfl) (by kernel_rfl) (by kernel_rfl)).met
noncomputable def Jzt:Array Value := #[.agg #[.slice none 0 0,.slice none 0 0,.slice none 0 0,.slice none 0 0,.slice none 0 0],.slice none 0 0,.int .i64 0,.int .i64 0]
theorem JyA(os:Os){H:Type}(en:TypeId × Value->H):∃ Jc9,DataW.whole en Pg ((Je2 os).forCall (fun _ _=>0) ⟨#[],Jzt,[]⟩).memory Tryz.f4.params.toList Rows.munchEverySpec.vars false Jzt.toList 8=some ([.agg [.nil,.nil,.nil,.nil,.nil],.nil,.lit (.int .i64 0),.lit (.int .i64 0)],[],Jc9) :=
 ⟨[],by kernel_rfl⟩
set_option maxRecDepth 100000 in
theorem Jk1(os:Os)(started:os.Started)(H:Type)(en:TypeId × Value->H)(F:Stop.Interp) :
  ReturnsInHanded {} Tryz.checked os 4 .any ((Rows.OpenSpec.upto Rows.munchEverySpec).preRow en Pg Tryz.f4 Rows.munchEveryUptoRow.domain false Rows.munchEveryUptoRow.laid) (((Rows.OpenSpec.upto Rows.munchEverySpec).at F).post en Pg Tryz.f4 false true false false):=by
 obtain⟨Jc9,hx⟩:=JyA os en;refine returnsInHanded_of_row (C:=Tryz.checked) (s:=Rows.OpenSpec.upto Rows.munchEverySpec) JqS started (by kernel_rfl) Tryz.func4
  (witness_row_atRef (enc:=en) (C:=Tryz.checked) false (Je2 os) Jzt rfl (by kernel_rfl) (by kernel_rfl) (by kernel_rfl)
   (OpenSpec.preRow_of_cond 8 hx (by kernel_rfl) (fun k hk=>by cases hk;kernel_rfl) (by kernel_rfl) (JqT os _))) ?_
 intro W base args ds gs before hval hW _ hcond _ hL _ _;exact JiB H en W base args ds gs before hval hW (hcond _ rfl) (Js8 hL)
theorem JgT:Rows.MunchEveryUptoSaid :=
 OpenClaim.holds_of_cond 4 Tryz.f4 rfl rfl rfl rfl rfl rfl rfl ⟨rfl,rfl,rfl,rfl,rfl⟩ rfl rfl rfl rfl rfl (by kernel_rfl) Tryz.func4 (by kernel_rfl)
  (of_decide_eq_true (by kernel_rfl)) (by unfold Func.isWrapper;first | (rw[if_pos (by decide +kernel)];kernel_rfl) | (rw[if_neg (by decide +kernel)];exact⟨rfl,rfl⟩))
  (fun os started H en _ F=>by rw[OpenClaim.pre_eq_preRow];exact Jk1 os started H en F)
theorem Jm1(f:FuncId)(fn:Func)(hf:Tryz.pinned.checked.prog.funcNamed "pollard/pollardlaw16.MunchEvery" = some f)(hfn:Tryz.pinned.checked.prog.funcs[f]? = some fn) :
  false=Tryz.pinned.checked.prog.looks []/\∀ (j:Nat) t,fn.params[j]? = some t->Tryz.pinned.checked.prog.wantsStandIn t=false:=by
 obtain rfl:f=4:=Option.some.inj ((show Tryz.prog.funcNamed "pollard/pollardlaw16.MunchEvery" = some 4 by kernel_rfl).symm.trans hf) |>.symm
 obtain rfl:fn=Tryz.f4:=(Option.some.inj (Tryz.func4.symm.trans hfn)).symm;refine⟨by kernel_rfl,fun j t ht=>?_⟩;have hm:=Array.mem_of_getElem? ht;have key:Tryz.f4.params.toList.all (fun t => !(Tryz.pinned.checked.prog.wantsStandIn t))=true:=by kernel_rfl
 have:=List.all_eq_true.1 key t (by simpa using hm);simpa using this
theorem munchEvery_proved:Rows.MunchEveryUptoCardSaid :=
 Claim7.holds_tied_plain_at .later [] _ _ _ _ JgT (fun _ h=>by cases h) (by kernel_rfl) (fun _ h=>by cases h) munchEveryUpto_row_tie rfl ⟨rfl,rfl⟩ (by kernel_rfl) rfl Jm1 (by kernel_rfl)
#print axioms munchEvery_proved
end Go.Proofs.YtgbbhilflgekhaaGreatDoor
end
