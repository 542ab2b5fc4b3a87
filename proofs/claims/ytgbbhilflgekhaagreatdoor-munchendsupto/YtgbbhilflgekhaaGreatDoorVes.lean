/- MunchEnds answers true for any net, bytes, oracles, place, mode, rule and count read of bulk at most 1048576, where the library's tables read as its text lays them; and its card. Conditions: none. -/
import Derived.Test.YtgbbhilflgekhaaGreatDoorVer
import Derived.Test.YtgbbhilflgekhaaGreatDoorCards
import Derived.Test.YtgbbhilflgekhaaGreatDoorTie
import Derived.Deep.DeepHandedRow
import Derived.Deep.DeepWitnessRowRef
import Derived.Lib.LaidIn
set_option linter.unusedVariables false
set_option linter.unusedSimpArgs false
set_option maxRecDepth 20000
set_option maxHeartbeats 16000000
section
namespace Go.Proofs.YtgbbhilflgekhaaGreatDoor
open Go.Proofs.Y
open Go Go.Ab Go.RowKit Go.ChangeShapes
open Go.Proofs.Tryz renaming prog->Pg
theorem Jkr(H:Type)(en:TypeId × Value->H)(W:World)(base:Nat)(args:Array Value)(ds gs:List (DataW H))(before:List MemPlace)
  (hval:∀ (j:Nat) t v,Tryz.f5.params[j]? = some t->args[j]? = some v->Value.okWide Pg W .any base t v)
  (hW:DataW.Whole en Pg Tryz.f5.params.toList Rows.munchEndsSpec.vars false W args.toList ds gs before) (hk:Rows.uptoSmall H (ds++gs)=true) (hT:Lib.Utf8Tabs 0 1 W) :
  Calls Pg 5 args W fun e W'=>∃ v,e = .returned v/\Rows.munchEndsSpec.post en Pg Tryz.f5 false true false false W args v W':=by
 have hW':=hW;obtain⟨p,q,hA,hV,rfl,hfz,hnd⟩:=hW;have hA:DataW.TrodAll en Pg W 0 (fun _=>true) true Tryz.f5.params.toList args.toList ds p:=hA;rw[Tryz.params5] at hA;obtain⟨v0,vs0,d0,ds0,p0,q0,hargs,rfl,rfl,⟨n0,h0⟩,r0⟩:=trodAll_cons hA;obtain⟨v1,vs1,d1,ds1,p1,q1,rfl,rfl,rfl,⟨n1,h1⟩,r1⟩:=trodAll_cons r0;obtain⟨v2,vs2,d2,ds2,p2,q2,rfl,rfl,rfl,⟨n2,h2⟩,r2⟩:=trodAll_cons r1;obtain⟨v3,vs3,d3,ds3,p3,q3,rfl,rfl,rfl,⟨n3,h3⟩,r3⟩:=trodAll_cons r2;obtain⟨v4,vs4,d4,ds4,p4,q4,rfl,rfl,rfl,⟨n4,h4⟩,r4⟩:=trodAll_cons r3;obtain⟨v5,vs5,d5,ds5,p5,q5,rfl,rfl,rfl,⟨n5,h5⟩,r5⟩:=trodAll_cons r4;obtain⟨v6,vs6,d6,ds6,p6,q6,rfl,rfl,rfl,⟨n6,h6⟩,r6⟩:=trodAll_cons r5;obtain⟨rfl,rfl,rfl⟩:=trodAll_nil r6;obtain rfl:args = #[v0,v1,v2,v3,v4,v5,v6]:=Array.toList_inj.1 hargs;obtain⟨rfl,rfl⟩:=trodVars_none hV;obtain⟨k0,av0,l0,t,rfl,b0,c0'⟩:=JAb n0 _ _ _ h0;obtain⟨k1,av1,l1,x,rfl,b1⟩:=Jrv n1 _ _ _ h1;obtain⟨k2,av2,l2,o,rfl,b2⟩:=JtP n2 _ _ _ h2;obtain⟨sa,sl,sc,rfl⟩:=Go.WideShapes.okWide_slice (e:=5) (by kernel_rfl) (hval 1 27 v1 (by kernel_rfl) rfl);obtain⟨oa,ol,oc,rfl⟩:=Go.WideShapes.okWide_slice (e:=201) (by kernel_rfl) (hval 2 28 v2 (by kernel_rfl) rfl);obtain⟨k3,av3,l3,z3,rfl,w3⟩:=Jmj n3 _ _ _ h3;obtain⟨k4,av4,l4,z4,rfl,w4⟩:=Jmj n4 _ _ _ h4;obtain⟨k5,av5,l5,z5,rfl,w5⟩:=Jmj n5 _ _ _ h5;obtain⟨k6,av6,l6,z6,rfl,w6⟩:=Jmj n6 _ _ _ h6;obtain⟨y3,rfl⟩:=Go.WideShapes.okWide_int (k:=.i64) (by kernel_rfl) (hval 3 3 v3 (by kernel_rfl) rfl);obtain⟨y4,rfl⟩:=Go.WideShapes.okWide_int (k:=.i64) (by kernel_rfl) (hval 4 3 v4 (by kernel_rfl) rfl);obtain⟨y5,rfl⟩:=Go.WideShapes.okWide_int (k:=.i64) (by kernel_rfl) (hval 5 3 v5 (by kernel_rfl) rfl);obtain⟨y6,rfl⟩:=Go.WideShapes.okWide_int (k:=.i64) (by kernel_rfl) (hval 6 3 v6 (by kernel_rfl) rfl);have hr3:Rep (gm (Jdm W)) (.int .i64 y3) (.lit (.int .i64 z3)):=l3.2 0 _ _ rfl rfl;have hr4:Rep (gm (Jdm W)) (.int .i64 y4) (.lit (.int .i64 z4)):=l4.2 0 _ _ rfl rfl;have hr5:Rep (gm (Jdm W)) (.int .i64 y5) (.lit (.int .i64 z5)):=l5.2 0 _ _ rfl rfl;have hr6:Rep (gm (Jdm W)) (.int .i64 y6) (.lit (.int .i64 z6)):=l6.2 0 _ _ rfl rfl;have hrep1:Rep (gm (Jdm W)) (.slice sa sl sc) (.vec (x.map JaO) false):=l1.2 0 _ _ rfl rfl;have hrep2:Rep (gm (Jdm W)) (.slice oa ol oc) (.vec (o.map Jb9) false):=l2.2 0 _ _ rfl rfl;have hrepW:Rep (gm (Jdm W)) (.slice sa sl sc) (inV JnA x false):=.wit (Jzk hT) hrep1;have h:Rows.uptoBulkAll [d0,d1,d2,d3,d4,d5,d6]<=1048576:=of_decide_eq_true hk;simp only[Rows.uptoBulkAll] at h;have ok:JcL t:=JtO (by omega) c0';have ha:=JtQ (n:=t) (M:=1048576) (by omega);have e0:(Jh t).length=5:=rfl;have g0:=l0.1;rw[e0] at g0;obtain⟨cs0,rfl⟩:∃ cs,v0 = .agg cs:=by
  cases v0 <;> simp[Value.cells] at g0
  exact⟨_,rfl⟩
 have hrep0:Rep (gm (Jdm W)) (.agg cs0) (.agg (Jh t)):=.agg k0 l0.1 l0.2;have hc:=Jrt JnA t o x (.inl rfl) z3 z4 z5 z6 ok (by omega) (by omega) ha w3 w4;refine(hc (Jdm W) W #[.agg cs0,.slice sa sl sc,.slice oa ol oc,.int .i64 y3,.int .i64 y4,.int .i64 y5,.int .i64 y6] (Jqr W) (.cons hrep0 (.cons hrepW (.cons hrep2 (.cons hr3 (.cons hr4 (.cons hr5 (.cons hr6 .nil)))))))).mono fun e W' hh=>?_
 obtain⟨v,m',rfl,hv,_,hkeep,_,_⟩:=hh;cases hv;exact⟨_,rfl,Jrw hW' rfl rfl (by kernel_rfl) (by kernel_rfl) (by kernel_rfl) (tb:=4) (by kernel_rfl) hkeep⟩
theorem JtS:ownKnob Tryz.prog.godebug=none:=by kernel_rfl
noncomputable def Jfi(os:Os):World :=
 let w0:=World.holding Pg os ⟨#[],#[],[]⟩
 let put (h:Array Obj) (g:Nat) (cs:Array Value):Array Obj:=h.modify g fun
  | .cells _ t frozen=>.cells cs t frozen
  | o=>o
 let h1:=put w0.heap 0 (Lib.firstTab.map fun z=>Value.int .u8 z).toArray
 let h2:=put h1 1 ((List.range 16).flatMap fun i=>[Value.int .u8 (Lib.accLo i),Value.int .u8 (Lib.accHi i)]).toArray
 {w0 with heap:=h2}
theorem Jrz(os:Os)(args:Array Value):laidMet Pg Rows.munchEndsUptoRow.laid ((Jfi os).forCall (fun _ _=>0) ⟨#[],args,[]⟩).memory :=
 (LaidIn.of_run (l:=Rows.munchEndsUptoRow.laid) [0,1] 8 (by kernel_rfl) (by kernel_rfl) (by kernel_rfl) (by kernel_rfl)).met
noncomputable def JAd:Array Value := #[.agg #[.slice none 0 0,.slice none 0 0,.slice none 0 0,.slice none 0 0,.slice none 0 0],.slice none 0 0,.slice none 0 0,.int .i64 0,.int .i64 0,.int .i64 0,.int .i64 0]
theorem Jzl(os:Os){H:Type}(en:TypeId × Value->H):∃ Jds,DataW.whole en Pg ((Jfi os).forCall (fun _ _=>0) ⟨#[],JAd,[]⟩).memory Tryz.f5.params.toList Rows.munchEndsSpec.vars false JAd.toList 8=some ([.agg [.nil,.nil,.nil,.nil,.nil],.nil,.nil,.lit (.int .i64 0),.lit (.int .i64 0),.lit (.int .i64 0),.lit (.int .i64 0)],[],Jds) :=
 ⟨[],by kernel_rfl⟩
set_option maxRecDepth 100000 in
theorem Jnq(os:Os)(started:os.Started)(H:Type)(en:TypeId × Value->H)(F:Stop.Interp) :
  ReturnsInHanded {} Tryz.checked os 5 .any ((Rows.OpenSpec.upto Rows.munchEndsSpec).preRow en Pg Tryz.f5 Rows.munchEndsUptoRow.domain false Rows.munchEndsUptoRow.laid) (((Rows.OpenSpec.upto Rows.munchEndsSpec).at F).post en Pg Tryz.f5 false true false false):=by
 obtain⟨Jds,hx⟩:=Jzl os en;refine returnsInHanded_of_row (C:=Tryz.checked) (s:=Rows.OpenSpec.upto Rows.munchEndsSpec) JtS started (by kernel_rfl) Tryz.func5
  (witness_row_atRef (enc:=en) (C:=Tryz.checked) false (Jfi os) JAd rfl (by kernel_rfl) (by kernel_rfl) (by kernel_rfl)
   (OpenSpec.preRow_of_cond 8 hx (by kernel_rfl) (fun k hk=>by cases hk;kernel_rfl) (by kernel_rfl) (Jrz os _))) ?_
 intro W base args ds gs before hval hW _ hcond _ hL _ _;exact Jkr H en W base args ds gs before hval hW (hcond _ rfl) (JtR hL)
theorem Ji4:Rows.MunchEndsUptoSaid :=
 OpenClaim.holds_of_cond 5 Tryz.f5 rfl rfl rfl rfl rfl rfl rfl ⟨rfl,rfl,rfl,rfl,rfl⟩ rfl rfl rfl rfl rfl (by kernel_rfl) Tryz.func5 (by kernel_rfl)
  (of_decide_eq_true (by kernel_rfl)) (by unfold Func.isWrapper;first | (rw[if_pos (by decide +kernel)];kernel_rfl) | (rw[if_neg (by decide +kernel)];exact⟨rfl,rfl⟩))
  (fun os started H en _ F=>by rw[OpenClaim.pre_eq_preRow];exact Jnq os started H en F)
theorem JpX(f:FuncId)(fn:Func)(hf:Tryz.pinned.checked.prog.funcNamed "pollard/pollardlaw16.MunchEnds" = some f)(hfn:Tryz.pinned.checked.prog.funcs[f]? = some fn) :
  false=Tryz.pinned.checked.prog.looks []/\∀ (j:Nat) t,fn.params[j]? = some t->Tryz.pinned.checked.prog.wantsStandIn t=false:=by
 obtain rfl:f=5:=Option.some.inj ((show Tryz.prog.funcNamed "pollard/pollardlaw16.MunchEnds" = some 5 by kernel_rfl).symm.trans hf) |>.symm
 obtain rfl:fn=Tryz.f5:=(Option.some.inj (Tryz.func5.symm.trans hfn)).symm;refine⟨by kernel_rfl,fun j t ht=>?_⟩;have hm:=Array.mem_of_getElem? ht;have key:Tryz.f5.params.toList.all (fun t => !(Tryz.pinned.checked.prog.wantsStandIn t))=true:=by kernel_rfl
 have:=List.all_eq_true.1 key t (by simpa using hm);simpa using this
theorem munchEnds_proved:Rows.MunchEndsUptoCardSaid :=
 Claim7.holds_tied_plain_at .later [] _ _ _ _ Ji4 (fun _ h=>by cases h) (by kernel_rfl) (fun _ h=>by cases h) munchEndsUpto_row_tie rfl ⟨rfl,rfl⟩ (by kernel_rfl) rfl JpX (by kernel_rfl)
#print axioms munchEnds_proved
end Go.Proofs.YtgbbhilflgekhaaGreatDoor
end
