/- The law, its row and its card. -/
import Derived.Test.YtoddhldofgfdmaaGreatDoorCards
import Derived.Test.YtoddhldofgfdmaaGreatDoorTie
import Derived.Test.YtoddhldofgfdmaaGreatDoorP05
import Derived.Test.YtoddhldofgfdmaaGreatDoorP02
set_option linter.all false
namespace Go.Proofs.YtoddhldofgfdmaaGreatDoor.ah0
open Go Go.Lift Go.RowKit Go.ChangeShapes Go.WideShapes Go.ChangeAt
set_option maxRecDepth 100000 in
theorem BC(H:Type)(V:TypeId×Value→H)(a:World)(n:Nat)(args:Array Value)(d o:List (DataW H))(p:List MemPlace)
 (c:∀(e:Nat) f b,Tryz.f4.params[e]? =some f→args[e]? =some b→Value.okWide Tryz.prog a .any n f b)
 (g:DataW.Whole V Tryz.prog Tryz.f4.params.toList Rows.topPatchesSpec.vars false a args.toList d o p)(h:laidMetH Tryz.prog Rows.topPatchesRow.laid a):
 Calls Tryz.prog 4 args a fun i j=>∃b,i= .returned b∧Rows.topPatchesSpec.post V Tryz.prog Tryz.f4 false true false false a args b j:=by
 have q:=g;obtain⟨r,E,s,F,rfl,G,K⟩:=g;have k:DataW.TrodAll V Tryz.prog a 0 (fun _=>true) true Tryz.f4.params.toList args.toList d r:=s;rw[Tryz.params4]at k c;obtain⟨l,L,M,O,P,Q,R,rfl,rfl,t,u⟩:=trodAll_cons k;obtain⟨m,S,U,W,ab,ae,rfl,rfl,rfl,v,w⟩:=trodAll_cons u;obtain⟨rfl,rfl,rfl⟩:=trodAll_nil w;obtain rfl:args= #[l,m]:=by cases args;simp_all
 obtain⟨ag,rfl,ah,ai,rfl⟩:=Gi (e:=23) (by kernel_rfl) (c 0 23 l rfl rfl) bB.LM t;obtain⟨aj,x,y⟩:=Lu (k:=6) (RM:=aY.lC) Ea xb (by decide) (c 1 24 m rfl rfl) (fun z A B C _=>bB.LL z A B C) v;refine J2 (args:=[_,_]) Tryz.func4 (by kernel_rfl) (by rfl) (aY.aml (bB.zm h).1 (bB.zm h).2 x y) ?_;rintro b j ⟨D,rfl⟩;exact⟨_,rfl,LC bB.zy rfl Tryz.underlying4 (by kernel_rfl) rfl rfl q D⟩
theorem Cp(a:Os):laidMet Tryz.prog Rows.topPatchesRow.laid ((bB.ug a).forCall (fun _ _=>0) ⟨#[],#[.agg #[.string ⟨#[]⟩,.int .i64 0],Value.slice none 0 0],[]⟩).memory:=
 laidMet_of_run' 8 (by kernel_rfl) (by kernel_rfl)
theorem CI(a:Os){H:Type}(V:TypeId×Value→H):∃b,DataW.whole V Tryz.prog ((bB.ug a).forCall (fun _ _=>0) ⟨#[],#[.agg #[.string ⟨#[]⟩,.int .i64 0],Value.slice none 0 0],[]⟩).memory Tryz.f4.params.toList Rows.topPatchesSpec.vars false #[.agg #[.string ⟨#[]⟩,.int .i64 0],Value.slice none 0 0].toList 8=some ([.agg [.lit (.string []),.lit (.int .i64 0)],.nil],[],b):=
 ⟨[],by kernel_rfl⟩
set_option maxRecDepth 100000 in
theorem DQ(a:Os)(b:a.Started)(H:Type)(V:TypeId×Value→H)(c:Stop.Interp):
 ReturnsInHanded {} Tryz.checked a 4 .any ((OpenSpec.ofChange Rows.topPatchesSpec).preRow V Tryz.prog Tryz.f4 Rows.topPatchesRow.domain false Rows.topPatchesRow.laid) (((OpenSpec.ofChange Rows.topPatchesSpec).at c).post V Tryz.prog Tryz.f4 false true false false):=by
 obtain⟨p,d⟩:=CI a V;refine returnsInHanded_of_row (C:=Tryz.checked) (s:=OpenSpec.ofChange Rows.topPatchesSpec) bB.fQ b (by kernel_rfl) Tryz.func4
  (witness_row_at (enc:=V) (C:=Tryz.checked) false (bB.ug a) #[.agg #[.string ⟨#[]⟩,.int .i64 0],Value.slice none 0 0] rfl (by kernel_rfl) (by kernel_rfl) (by kernel_rfl)
   (OpenSpec.preRow_of_cond 8 d (by kernel_rfl) (fun r f=>by cases f) (by kernel_rfl) (Cp a))) ?_
 intro g h i j k l m n _ _ _ o _ _;exact BC H V g h i j k l m n o
theorem Ci:(Rows.topPatchesRow.wf (OpenSpec.ofChange Rows.topPatchesSpec))=true:=by kernel_rfl
theorem Cc:(Tryz.f4.params.all (Tryz.prog.readableRec ·))=true:=by kernel_rfl
theorem B9:(namedTie Tryz.prog Rows.topPatchesRow.named Rows.topPatchesSpec.vars)=true:=by kernel_rfl
theorem B0:(Rows.topPatchesRow.inPlace==Tryz.prog.inPlace 4)=true:=by kernel_rfl
theorem Ce:(Rows.topPatchesRow.unfollowed==Tryz.prog.unfollowed 4)=true:=by kernel_rfl
theorem Cb:(Rows.topPatchesRow.recurses==Tryz.prog.recurses 4)=true:=by kernel_rfl
theorem B8:(Rows.topPatchesRow.named==Tryz.prog.varsNamed 4)=true:=by kernel_rfl
theorem B7:(Rows.topPatchesRow.maps==(Tryz.f4.params.toList++Rows.topPatchesSpec.plain.varTypes Tryz.prog).any (Tryz.prog.mapsRec ·))=true:=by kernel_rfl
theorem BY:(Rows.topPatchesRow.ifaces==(Tryz.f4.params.toList++Rows.topPatchesSpec.plain.varTypes Tryz.prog).any (Tryz.prog.ifacesRec ·))=true:=by kernel_rfl
theorem B6:(Rows.topPatchesRow.mapsOut==Tryz.prog.mapsAmong Tryz.f4.resultTypes.toList)=true:=by kernel_rfl
theorem B4:(Rows.topPatchesRow.loops==(Tryz.f4.params.toList++Rows.topPatchesSpec.plain.varTypes Tryz.prog).any (Tryz.prog.loopsFrom ·))=true:=by kernel_rfl
theorem Cj:(Rows.topPatchesRow.wideKeys==(Tryz.f4.params.toList++Rows.topPatchesSpec.plain.varTypes Tryz.prog++Tryz.f4.resultTypes.toList).any (Tryz.prog.wideKeysFrom ·))=true:=by kernel_rfl
theorem Ch:(Rows.topPatchesSpec.vars.all (Tryz.prog.varReadable ·))=true:=by kernel_rfl
theorem Cd:(Tryz.f4.resultTypes.all (fun a=>Tryz.prog.readableRec a&&decide (a<Tryz.prog.types.size)))=true:=by kernel_rfl
theorem BZ:(Rows.topPatchesRow.ifacesOut==Tryz.f4.resultTypes.toList.any (Tryz.prog.ifacesRec ·))=true:=by kernel_rfl
theorem B3:(Rows.topPatchesRow.loopsOut==Tryz.f4.resultTypes.toList.any (Tryz.prog.loopsFrom ·))=true:=by kernel_rfl
theorem Ca:(Rows.topPatchesRow.plainKeys==Tryz.prog.plainKeys)=true:=by kernel_rfl
theorem B2:(Rows.topPatchesRow.lifted==Tryz.prog.liftsFinal)=true:=by kernel_rfl
theorem B5:(Tryz.prog.make==some Rows.topPatchesRow.make)=true:=by kernel_rfl
theorem B1:(Rows.topPatchesRow.kinds==(if Rows.topPatchesRow.domain.isEmpty then []else Tryz.f4.params.toList.map fun a=>match Tryz.prog.underlying a with|some (.int b)=>some b|_=>none))=true:=by kernel_rfl
theorem B_:(Rows.topPatchesRow.pinned==Rows.topPatchesRow.pinnedBy)=true:=by kernel_rfl
theorem Cf:(Rows.topPatchesRow.veiled==(Tryz.f4.params.toList++Rows.topPatchesSpec.plain.varTypes Tryz.prog++Tryz.f4.resultTypes.toList).any (Tryz.prog.veiledRec ·))=true:=by kernel_rfl
theorem Cg:(Rows.topPatchesRow.veiledFits Tryz.prog Tryz.f4.params.toList (Tryz.f4.params.toList++Rows.topPatchesSpec.plain.varTypes Tryz.prog++Tryz.f4.resultTypes.toList))=true:=by kernel_rfl
set_option maxRecDepth 100000 in
theorem BX:joinedFacts Tryz.prog 4 Tryz.f4 Rows.topPatchesSpec Rows.topPatchesRow=true:=by unfold joinedFacts;exact(bB.cR (bB.cR (bB.cR (bB.cR (bB.cR (bB.cR (bB.cR (bB.cR (bB.cR (bB.cR (bB.cR (bB.cR (bB.cR (bB.cR (bB.cR (bB.cR (bB.cR (bB.cR (bB.cR (bB.cR (bB.cR (bB.cR (bB.cR (bB.cR (bB.cR (bB.cR (bB.cR (bB.cR (bB.cR (bB.cR (bB.cR Ci bB.zy) bB.LX) Cc) B9) rfl) (by kernel_rfl)) rfl) (by kernel_rfl)) B0) Ce) Cb) B8) B7) BY) B6) B4) Cj) Ch) Cd) BZ) B3) Ca) rfl) bB.KE) bB.Kr) B2) B5) B1) B_) Cf) Cg)
theorem wL:Tryz.pinned.checked.prog.funcNamed "bodkin/bodkintop.TopPatches"=some 4:=by kernel_rfl
theorem BU:decide (Tryz.f4.isInstance Tryz.pinned.checked.prog Rows.topPatchesRow.origin Rows.topPatchesRow.targs)=true:=by kernel_rfl
theorem DP:false=Rows.topPatchesRow.goesBy Tryz.pinned.checked.prog:=bB.KB bB.Ll rfl
theorem De:Rows.topPatchesRow.wfByText (OpenSpec.ofChange Rows.topPatchesSpec)=true:=by kernel_rfl
set_option maxRecDepth 100000 in
theorem CZ:Rows.TopPatchesSaid:=
 OpenClaim.holds_of_cond 4 Tryz.f4 rfl rfl rfl rfl rfl rfl rfl ⟨rfl,rfl,rfl,rfl,rfl⟩ rfl rfl rfl rfl rfl wL Tryz.func4 BX
  (of_decide_eq_true BU) (by unfold Func.isWrapper;first|(rw[if_pos (by decide+kernel)];kernel_rfl)|(rw[if_neg (by decide+kernel)];exact⟨rfl,rfl⟩))
  (fun a b H V _ c=>by rw[OpenClaim.pre_eq_preRow];exact DQ a b H V c)
theorem DR(b:FuncId)(c:Func)(e:Tryz.pinned.checked.prog.funcNamed "bodkin/bodkintop.TopPatches"=some b)(f:Tryz.pinned.checked.prog.funcs[b]? =some c):
 true=Tryz.pinned.checked.prog.looks []∧∀(d:Nat) a,c.params[d]? =some a→Tryz.pinned.checked.prog.wantsStandIn a=false:=by
 obtain rfl:b=4:=Option.some.inj (wL.symm.trans e)|>.symm;obtain rfl:c=Tryz.f4:=(Option.some.inj (Tryz.func4.symm.trans f)).symm;refine⟨bB.K2,fun d a g=>?_⟩;have h:Tryz.f4.params.toList.all (fun a=>!Tryz.prog.wantsStandIn a)=true:=by kernel_rfl
 have i:a∈Tryz.f4.params.toList:=by simpa using Array.mem_of_getElem? g
 show Tryz.prog.wantsStandIn a=false
 simpa using List.all_eq_true.1 h a i
theorem Bz:Rows.TopPatchesCardSaid:=
 Claim7.holds_tied_plain_at .later [] _ _ _ _ CZ (fun _ a=>by cases a) De (fun _ a=>by cases a) topPatches_row_tie rfl ⟨rfl,rfl⟩ bB.K5 rfl DR DP
#print axioms Bz
end Go.Proofs.YtoddhldofgfdmaaGreatDoor.ah0
