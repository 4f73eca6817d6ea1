/- The law, its row and its card. -/
import Derived.Test.YtoddhldofgfdmaaGreatDoorCards
import Derived.Test.YtoddhldofgfdmaaGreatDoorTie
import Derived.Test.YtoddhldofgfdmaaGreatDoorQ05
import Derived.Test.YtoddhldofgfdmaaGreatDoorQ02
set_option linter.all false
namespace Go.Proofs.YtoddhldofgfdmaaGreatDoor.ah1
open Go Go.Lift Go.RowKit Go.ChangeShapes Go.WideShapes Go.ChangeAt
set_option maxRecDepth 100000 in
theorem BC(H:Type)(V:TypeId×Value→H)(a:World)(o:Nat)(args:Array Value)(d p:List (DataW H))(q:List MemPlace)
 (c:∀(e:Nat) f b,Tryz.f3.params[e]? =some f→args[e]? =some b→Value.okWide Tryz.prog a .any o f b)
 (g:DataW.Whole V Tryz.prog Tryz.f3.params.toList Rows.topRisesSpec.vars false a args.toList d p q)(h:laidMetH Tryz.prog Rows.topRisesRow.laid a):
 Calls Tryz.prog 3 args a fun i j=>∃b,i= .returned b∧Rows.topRisesSpec.post V Tryz.prog Tryz.f3 false true false false a args b j:=by
 have r:=g;obtain⟨s,K,t,L,rfl,M,O⟩:=g;have k:DataW.TrodAll V Tryz.prog a 0 (fun _=>true) true Tryz.f3.params.toList args.toList d s:=t;rw[Tryz.params3]at k c;obtain⟨l,P,Q,R,S,U,W,rfl,rfl,u,v⟩:=trodAll_cons k;obtain⟨m,ab,ae,ag,ah,ai,rfl,rfl,rfl,w,x⟩:=trodAll_cons v;obtain⟨n,aj,ak,am,an,ap,rfl,rfl,rfl,y,z⟩:=trodAll_cons x;obtain⟨rfl,rfl,rfl⟩:=trodAll_nil z;obtain rfl:args= #[l,m,n]:=by cases args;simp_all
 obtain⟨aq,rfl,ar,au,rfl⟩:=Gi (e:=23) (by kernel_rfl) (c 0 23 l rfl rfl) bB.LM u;obtain⟨av,A,B⟩:=Lu (k:=6) (RM:=aY.lC) Ea xb (by decide) (c 1 24 m rfl rfl) (fun C D E F _=>bB.LL C D E F) w;obtain⟨az,rfl,rfl,rfl,_⟩:=open_int Tryz.underlying3 (c 2 3 n rfl rfl) y;refine J2 (args:=[_,_,_]) Tryz.func3 (by kernel_rfl) (by rfl) (aY.amm (bB.zm h).1 (bB.zm h).2 A B) ?_;rintro b j ⟨G,rfl⟩;exact⟨_,rfl,LC bB.zy rfl Tryz.underlying4 (by kernel_rfl) rfl rfl r G⟩
theorem Cp(a:Os):laidMet Tryz.prog Rows.topRisesRow.laid ((bB.ug a).forCall (fun _ _=>0) ⟨#[],#[.agg #[.string ⟨#[]⟩,.int .i64 0],Value.slice none 0 0,Value.int .i64 0],[]⟩).memory:=
 laidMet_of_run' 8 (by kernel_rfl) (by kernel_rfl)
theorem CI(a:Os){H:Type}(V:TypeId×Value→H):∃b,DataW.whole V Tryz.prog ((bB.ug a).forCall (fun _ _=>0) ⟨#[],#[.agg #[.string ⟨#[]⟩,.int .i64 0],Value.slice none 0 0,Value.int .i64 0],[]⟩).memory Tryz.f3.params.toList Rows.topRisesSpec.vars false #[.agg #[.string ⟨#[]⟩,.int .i64 0],Value.slice none 0 0,Value.int .i64 0].toList 8=some ([.agg [.lit (.string []),.lit (.int .i64 0)],.nil,.lit (.int .i64 0)],[],b):=
 ⟨[],by kernel_rfl⟩
set_option maxRecDepth 100000 in
theorem DQ(a:Os)(b:a.Started)(H:Type)(V:TypeId×Value→H)(c:Stop.Interp):
 ReturnsInHanded {} Tryz.checked a 3 .any ((OpenSpec.ofChange Rows.topRisesSpec).preRow V Tryz.prog Tryz.f3 Rows.topRisesRow.domain false Rows.topRisesRow.laid) (((OpenSpec.ofChange Rows.topRisesSpec).at c).post V Tryz.prog Tryz.f3 false true false false):=by
 obtain⟨p,d⟩:=CI a V;refine returnsInHanded_of_row (C:=Tryz.checked) (s:=OpenSpec.ofChange Rows.topRisesSpec) bB.fQ b (by kernel_rfl) Tryz.func3
  (witness_row_at (enc:=V) (C:=Tryz.checked) false (bB.ug a) #[.agg #[.string ⟨#[]⟩,.int .i64 0],Value.slice none 0 0,Value.int .i64 0] rfl (by kernel_rfl) (by kernel_rfl) (by kernel_rfl)
   (OpenSpec.preRow_of_cond 8 d (by kernel_rfl) (fun r f=>by cases f) (by kernel_rfl) (Cp a))) ?_
 intro g h i j k l m n _ _ _ o _ _;exact BC H V g h i j k l m n o
theorem Ci:(Rows.topRisesRow.wf (OpenSpec.ofChange Rows.topRisesSpec))=true:=by kernel_rfl
theorem Cc:(Tryz.f3.params.all (Tryz.prog.readableRec ·))=true:=by kernel_rfl
theorem B9:(namedTie Tryz.prog Rows.topRisesRow.named Rows.topRisesSpec.vars)=true:=by kernel_rfl
theorem B0:(Rows.topRisesRow.inPlace==Tryz.prog.inPlace 3)=true:=by kernel_rfl
theorem Ce:(Rows.topRisesRow.unfollowed==Tryz.prog.unfollowed 3)=true:=by kernel_rfl
theorem Cb:(Rows.topRisesRow.recurses==Tryz.prog.recurses 3)=true:=by kernel_rfl
theorem B8:(Rows.topRisesRow.named==Tryz.prog.varsNamed 3)=true:=by kernel_rfl
theorem B7:(Rows.topRisesRow.maps==(Tryz.f3.params.toList++Rows.topRisesSpec.plain.varTypes Tryz.prog).any (Tryz.prog.mapsRec ·))=true:=by kernel_rfl
theorem BY:(Rows.topRisesRow.ifaces==(Tryz.f3.params.toList++Rows.topRisesSpec.plain.varTypes Tryz.prog).any (Tryz.prog.ifacesRec ·))=true:=by kernel_rfl
theorem B6:(Rows.topRisesRow.mapsOut==Tryz.prog.mapsAmong Tryz.f3.resultTypes.toList)=true:=by kernel_rfl
theorem B4:(Rows.topRisesRow.loops==(Tryz.f3.params.toList++Rows.topRisesSpec.plain.varTypes Tryz.prog).any (Tryz.prog.loopsFrom ·))=true:=by kernel_rfl
theorem Cj:(Rows.topRisesRow.wideKeys==(Tryz.f3.params.toList++Rows.topRisesSpec.plain.varTypes Tryz.prog++Tryz.f3.resultTypes.toList).any (Tryz.prog.wideKeysFrom ·))=true:=by kernel_rfl
theorem Ch:(Rows.topRisesSpec.vars.all (Tryz.prog.varReadable ·))=true:=by kernel_rfl
theorem Cd:(Tryz.f3.resultTypes.all (fun a=>Tryz.prog.readableRec a&&decide (a<Tryz.prog.types.size)))=true:=by kernel_rfl
theorem BZ:(Rows.topRisesRow.ifacesOut==Tryz.f3.resultTypes.toList.any (Tryz.prog.ifacesRec ·))=true:=by kernel_rfl
theorem B3:(Rows.topRisesRow.loopsOut==Tryz.f3.resultTypes.toList.any (Tryz.prog.loopsFrom ·))=true:=by kernel_rfl
theorem Ca:(Rows.topRisesRow.plainKeys==Tryz.prog.plainKeys)=true:=by kernel_rfl
theorem B2:(Rows.topRisesRow.lifted==Tryz.prog.liftsFinal)=true:=by kernel_rfl
theorem B5:(Tryz.prog.make==some Rows.topRisesRow.make)=true:=by kernel_rfl
theorem B1:(Rows.topRisesRow.kinds==(if Rows.topRisesRow.domain.isEmpty then []else Tryz.f3.params.toList.map fun a=>match Tryz.prog.underlying a with|some (.int b)=>some b|_=>none))=true:=by kernel_rfl
theorem B_:(Rows.topRisesRow.pinned==Rows.topRisesRow.pinnedBy)=true:=by kernel_rfl
theorem Cf:(Rows.topRisesRow.veiled==(Tryz.f3.params.toList++Rows.topRisesSpec.plain.varTypes Tryz.prog++Tryz.f3.resultTypes.toList).any (Tryz.prog.veiledRec ·))=true:=by kernel_rfl
theorem Cg:(Rows.topRisesRow.veiledFits Tryz.prog Tryz.f3.params.toList (Tryz.f3.params.toList++Rows.topRisesSpec.plain.varTypes Tryz.prog++Tryz.f3.resultTypes.toList))=true:=by kernel_rfl
set_option maxRecDepth 100000 in
theorem BX:joinedFacts Tryz.prog 3 Tryz.f3 Rows.topRisesSpec Rows.topRisesRow=true:=by unfold joinedFacts;exact(bB.cR (bB.cR (bB.cR (bB.cR (bB.cR (bB.cR (bB.cR (bB.cR (bB.cR (bB.cR (bB.cR (bB.cR (bB.cR (bB.cR (bB.cR (bB.cR (bB.cR (bB.cR (bB.cR (bB.cR (bB.cR (bB.cR (bB.cR (bB.cR (bB.cR (bB.cR (bB.cR (bB.cR (bB.cR (bB.cR (bB.cR Ci bB.zy) bB.LX) Cc) B9) rfl) (by kernel_rfl)) rfl) (by kernel_rfl)) B0) Ce) Cb) B8) B7) BY) B6) B4) Cj) Ch) Cd) BZ) B3) Ca) rfl) bB.KE) bB.Kr) B2) B5) B1) B_) Cf) Cg)
theorem wL:Tryz.pinned.checked.prog.funcNamed "bodkin/bodkintop.TopRises"=some 3:=by kernel_rfl
theorem BU:decide (Tryz.f3.isInstance Tryz.pinned.checked.prog Rows.topRisesRow.origin Rows.topRisesRow.targs)=true:=by kernel_rfl
theorem DP:false=Rows.topRisesRow.goesBy Tryz.pinned.checked.prog:=bB.KB bB.Ll rfl
theorem De:Rows.topRisesRow.wfByText (OpenSpec.ofChange Rows.topRisesSpec)=true:=by kernel_rfl
set_option maxRecDepth 100000 in
theorem CZ:Rows.TopRisesSaid:=
 OpenClaim.holds_of_cond 3 Tryz.f3 rfl rfl rfl rfl rfl rfl rfl ⟨rfl,rfl,rfl,rfl,rfl⟩ rfl rfl rfl rfl rfl wL Tryz.func3 BX
  (of_decide_eq_true BU) (by unfold Func.isWrapper;first|(rw[if_pos (by decide+kernel)];kernel_rfl)|(rw[if_neg (by decide+kernel)];exact⟨rfl,rfl⟩))
  (fun a b H V _ c=>by rw[OpenClaim.pre_eq_preRow];exact DQ a b H V c)
theorem DR(b:FuncId)(c:Func)(e:Tryz.pinned.checked.prog.funcNamed "bodkin/bodkintop.TopRises"=some b)(f:Tryz.pinned.checked.prog.funcs[b]? =some c):
 true=Tryz.pinned.checked.prog.looks []∧∀(d:Nat) a,c.params[d]? =some a→Tryz.pinned.checked.prog.wantsStandIn a=false:=by
 obtain rfl:b=3:=Option.some.inj (wL.symm.trans e)|>.symm;obtain rfl:c=Tryz.f3:=(Option.some.inj (Tryz.func3.symm.trans f)).symm;refine⟨bB.K2,fun d a g=>?_⟩;have h:Tryz.f3.params.toList.all (fun a=>!Tryz.prog.wantsStandIn a)=true:=by kernel_rfl
 have i:a∈Tryz.f3.params.toList:=by simpa using Array.mem_of_getElem? g
 show Tryz.prog.wantsStandIn a=false
 simpa using List.all_eq_true.1 h a i
theorem Bz:Rows.TopRisesCardSaid:=
 Claim7.holds_tied_plain_at .later [] _ _ _ _ CZ (fun _ a=>by cases a) De (fun _ a=>by cases a) topRises_row_tie rfl ⟨rfl,rfl⟩ bB.K5 rfl DR DP
#print axioms Bz
end Go.Proofs.YtoddhldofgfdmaaGreatDoor.ah1
