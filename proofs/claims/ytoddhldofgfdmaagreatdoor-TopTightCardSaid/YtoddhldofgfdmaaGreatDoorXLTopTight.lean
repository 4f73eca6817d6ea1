/- The law, its row and its card. -/
import Derived.Test.YtoddhldofgfdmaaGreatDoorCards
import Derived.Test.YtoddhldofgfdmaaGreatDoorTie
import Derived.Test.YtoddhldofgfdmaaGreatDoorX05
import Derived.Test.YtoddhldofgfdmaaGreatDoorX06
import Derived.Test.YtoddhldofgfdmaaGreatDoorX02
set_option linter.all false
namespace Go.Proofs.YtoddhldofgfdmaaGreatDoor.ah2
open Go Go.Lift Go.RowKit Go.ChangeShapes Go.WideShapes Go.ChangeAt
set_option maxRecDepth 100000 in
theorem BC(H:Type)(V:TypeId×Value→H)(a:World)(o:Nat)(args:Array Value)(e p:List (DataW H))(q:List MemPlace)
 (c:∀(f:Nat) g b,Tryz.f5.params[f]? =some g→args[f]? =some b→Value.okWide Tryz.prog a .any o g b)
 (h:DataW.Whole V Tryz.prog Tryz.f5.params.toList Rows.topTightSpec.vars false a args.toList e p q)(i:laidMetH Tryz.prog Rows.topTightRow.laid a):
 Calls Tryz.prog 5 args a fun d j=>∃b,d= .returned b∧Rows.topTightSpec.post V Tryz.prog Tryz.f5 false true false false a args b j:=by
 have r:=h;obtain⟨s,K,t,L,rfl,M,O⟩:=h;have k:DataW.TrodAll V Tryz.prog a 0 (fun _=>true) true Tryz.f5.params.toList args.toList e s:=t;rw[Tryz.params5]at k c;obtain⟨l,P,Q,R,S,U,W,rfl,rfl,u,v⟩:=trodAll_cons k;obtain⟨m,ab,ae,ag,ah,ai,rfl,rfl,rfl,w,x⟩:=trodAll_cons v;obtain⟨n,aj,ak,am,an,ap,rfl,rfl,rfl,y,z⟩:=trodAll_cons x;obtain⟨rfl,rfl,rfl⟩:=trodAll_nil z;obtain rfl:args= #[l,m,n]:=by cases args;simp_all
 obtain⟨aq,rfl,ar,au,rfl⟩:=Gi (e:=23) (by kernel_rfl) (c 0 23 l rfl rfl) bB.LM u;obtain⟨av,A,B⟩:=Lu (k:=6) (RM:=aY.lC) Ea xb (by decide) (c 1 24 m rfl rfl) (fun C D E F _=>bB.LL C D E F) w;obtain⟨az,rfl,a0,rfl,_⟩:=Gi (e:=70) (by kernel_rfl) (c 2 70 n rfl rfl) bB.Uo y;refine J2 (args:=[_,_,_]) Tryz.func5 (by kernel_rfl) (by rfl) (aY.amn (bB.zm i).1 (bB.zm i).2 A B) ?_;rintro b j ⟨G,rfl⟩;exact⟨_,rfl,LC bB.zy rfl Tryz.underlying4 (by kernel_rfl) rfl rfl r G⟩
theorem Cp(a:Os):laidMet Tryz.prog Rows.topTightRow.laid ((bB.ug a).forCall (fun _ _=>0) ⟨#[],#[.agg #[.string ⟨#[]⟩,.int .i64 0],Value.slice none 0 0,.agg #[.int .i64 0,.int .i64 0,.string ⟨#[]⟩]],[]⟩).memory:=
 laidMet_of_run' 8 (by kernel_rfl) (by kernel_rfl)
theorem CI(a:Os){H:Type}(V:TypeId×Value→H):∃b,DataW.whole V Tryz.prog ((bB.ug a).forCall (fun _ _=>0) ⟨#[],#[.agg #[.string ⟨#[]⟩,.int .i64 0],Value.slice none 0 0,.agg #[.int .i64 0,.int .i64 0,.string ⟨#[]⟩]],[]⟩).memory Tryz.f5.params.toList Rows.topTightSpec.vars false #[.agg #[.string ⟨#[]⟩,.int .i64 0],Value.slice none 0 0,.agg #[.int .i64 0,.int .i64 0,.string ⟨#[]⟩]].toList 8=some ([.agg [.lit (.string []),.lit (.int .i64 0)],.nil,.agg [.lit (.int .i64 0),.lit (.int .i64 0),.lit (.string [])]],[],b):=
 ⟨[],by kernel_rfl⟩
set_option maxRecDepth 100000 in
theorem DQ(a:Os)(b:a.Started)(H:Type)(V:TypeId×Value→H)(c:Stop.Interp):
 ReturnsInHanded {} Tryz.checked a 5 .any ((OpenSpec.ofChange Rows.topTightSpec).preRow V Tryz.prog Tryz.f5 Rows.topTightRow.domain false Rows.topTightRow.laid) (((OpenSpec.ofChange Rows.topTightSpec).at c).post V Tryz.prog Tryz.f5 false true false false):=by
 obtain⟨p,d⟩:=CI a V;refine returnsInHanded_of_row (C:=Tryz.checked) (s:=OpenSpec.ofChange Rows.topTightSpec) bB.fQ b (by kernel_rfl) Tryz.func5
  (witness_row_at (enc:=V) (C:=Tryz.checked) false (bB.ug a) #[.agg #[.string ⟨#[]⟩,.int .i64 0],Value.slice none 0 0,.agg #[.int .i64 0,.int .i64 0,.string ⟨#[]⟩]] rfl (by kernel_rfl) (by kernel_rfl) (by kernel_rfl)
   (OpenSpec.preRow_of_cond 8 d (by kernel_rfl) (fun r f=>by cases f) (by kernel_rfl) (Cp a))) ?_
 intro g h i j k l m n _ _ _ o _ _;exact BC H V g h i j k l m n o
theorem Ci:(Rows.topTightRow.wf (OpenSpec.ofChange Rows.topTightSpec))=true:=by kernel_rfl
theorem Cc:(Tryz.f5.params.all (Tryz.prog.readableRec ·))=true:=by kernel_rfl
theorem B9:(namedTie Tryz.prog Rows.topTightRow.named Rows.topTightSpec.vars)=true:=by kernel_rfl
theorem B0:(Rows.topTightRow.inPlace==Tryz.prog.inPlace 5)=true:=by kernel_rfl
theorem Ce:(Rows.topTightRow.unfollowed==Tryz.prog.unfollowed 5)=true:=by kernel_rfl
theorem Cb:(Rows.topTightRow.recurses==Tryz.prog.recurses 5)=true:=by kernel_rfl
theorem B8:(Rows.topTightRow.named==Tryz.prog.varsNamed 5)=true:=by kernel_rfl
theorem B7:(Rows.topTightRow.maps==(Tryz.f5.params.toList++Rows.topTightSpec.plain.varTypes Tryz.prog).any (Tryz.prog.mapsRec ·))=true:=by kernel_rfl
theorem BY:(Rows.topTightRow.ifaces==(Tryz.f5.params.toList++Rows.topTightSpec.plain.varTypes Tryz.prog).any (Tryz.prog.ifacesRec ·))=true:=by kernel_rfl
theorem B6:(Rows.topTightRow.mapsOut==Tryz.prog.mapsAmong Tryz.f5.resultTypes.toList)=true:=by kernel_rfl
theorem B4:(Rows.topTightRow.loops==(Tryz.f5.params.toList++Rows.topTightSpec.plain.varTypes Tryz.prog).any (Tryz.prog.loopsFrom ·))=true:=by kernel_rfl
theorem Cj:(Rows.topTightRow.wideKeys==(Tryz.f5.params.toList++Rows.topTightSpec.plain.varTypes Tryz.prog++Tryz.f5.resultTypes.toList).any (Tryz.prog.wideKeysFrom ·))=true:=by kernel_rfl
theorem Ch:(Rows.topTightSpec.vars.all (Tryz.prog.varReadable ·))=true:=by kernel_rfl
theorem Cd:(Tryz.f5.resultTypes.all (fun a=>Tryz.prog.readableRec a&&decide (a<Tryz.prog.types.size)))=true:=by kernel_rfl
theorem BZ:(Rows.topTightRow.ifacesOut==Tryz.f5.resultTypes.toList.any (Tryz.prog.ifacesRec ·))=true:=by kernel_rfl
theorem B3:(Rows.topTightRow.loopsOut==Tryz.f5.resultTypes.toList.any (Tryz.prog.loopsFrom ·))=true:=by kernel_rfl
theorem Ca:(Rows.topTightRow.plainKeys==Tryz.prog.plainKeys)=true:=by kernel_rfl
theorem B2:(Rows.topTightRow.lifted==Tryz.prog.liftsFinal)=true:=by kernel_rfl
theorem B5:(Tryz.prog.make==some Rows.topTightRow.make)=true:=by kernel_rfl
theorem B1:(Rows.topTightRow.kinds==(if Rows.topTightRow.domain.isEmpty then []else Tryz.f5.params.toList.map fun a=>match Tryz.prog.underlying a with|some (.int b)=>some b|_=>none))=true:=by kernel_rfl
theorem B_:(Rows.topTightRow.pinned==Rows.topTightRow.pinnedBy)=true:=by kernel_rfl
theorem Cf:(Rows.topTightRow.veiled==(Tryz.f5.params.toList++Rows.topTightSpec.plain.varTypes Tryz.prog++Tryz.f5.resultTypes.toList).any (Tryz.prog.veiledRec ·))=true:=by kernel_rfl
theorem Cg:(Rows.topTightRow.veiledFits Tryz.prog Tryz.f5.params.toList (Tryz.f5.params.toList++Rows.topTightSpec.plain.varTypes Tryz.prog++Tryz.f5.resultTypes.toList))=true:=by kernel_rfl
set_option maxRecDepth 100000 in
theorem BX:joinedFacts Tryz.prog 5 Tryz.f5 Rows.topTightSpec Rows.topTightRow=true:=by unfold joinedFacts;exact(bB.cR (bB.cR (bB.cR (bB.cR (bB.cR (bB.cR (bB.cR (bB.cR (bB.cR (bB.cR (bB.cR (bB.cR (bB.cR (bB.cR (bB.cR (bB.cR (bB.cR (bB.cR (bB.cR (bB.cR (bB.cR (bB.cR (bB.cR (bB.cR (bB.cR (bB.cR (bB.cR (bB.cR (bB.cR (bB.cR (bB.cR Ci bB.zy) bB.LX) Cc) B9) rfl) (by kernel_rfl)) rfl) (by kernel_rfl)) B0) Ce) Cb) B8) B7) BY) B6) B4) Cj) Ch) Cd) BZ) B3) Ca) rfl) bB.KE) bB.Kr) B2) B5) B1) B_) Cf) Cg)
theorem wL:Tryz.pinned.checked.prog.funcNamed "bodkin/bodkintop.TopTight"=some 5:=by kernel_rfl
theorem BU:decide (Tryz.f5.isInstance Tryz.pinned.checked.prog Rows.topTightRow.origin Rows.topTightRow.targs)=true:=by kernel_rfl
theorem DP:false=Rows.topTightRow.goesBy Tryz.pinned.checked.prog:=bB.KB bB.Ll rfl
theorem De:Rows.topTightRow.wfByText (OpenSpec.ofChange Rows.topTightSpec)=true:=by kernel_rfl
set_option maxRecDepth 100000 in
theorem CZ:Rows.TopTightSaid:=
 OpenClaim.holds_of_cond 5 Tryz.f5 rfl rfl rfl rfl rfl rfl rfl ⟨rfl,rfl,rfl,rfl,rfl⟩ rfl rfl rfl rfl rfl wL Tryz.func5 BX
  (of_decide_eq_true BU) (by unfold Func.isWrapper;first|(rw[if_pos (by decide+kernel)];kernel_rfl)|(rw[if_neg (by decide+kernel)];exact⟨rfl,rfl⟩))
  (fun a b H V _ c=>by rw[OpenClaim.pre_eq_preRow];exact DQ a b H V c)
theorem DR(b:FuncId)(c:Func)(e:Tryz.pinned.checked.prog.funcNamed "bodkin/bodkintop.TopTight"=some b)(f:Tryz.pinned.checked.prog.funcs[b]? =some c):
 true=Tryz.pinned.checked.prog.looks []∧∀(d:Nat) a,c.params[d]? =some a→Tryz.pinned.checked.prog.wantsStandIn a=false:=by
 obtain rfl:b=5:=Option.some.inj (wL.symm.trans e)|>.symm;obtain rfl:c=Tryz.f5:=(Option.some.inj (Tryz.func5.symm.trans f)).symm;refine⟨bB.K2,fun d a g=>?_⟩;have h:Tryz.f5.params.toList.all (fun a=>!Tryz.prog.wantsStandIn a)=true:=by kernel_rfl
 have i:a∈Tryz.f5.params.toList:=by simpa using Array.mem_of_getElem? g
 show Tryz.prog.wantsStandIn a=false
 simpa using List.all_eq_true.1 h a i
theorem Bz:Rows.TopTightCardSaid:=
 Claim7.holds_tied_plain_at .later [] _ _ _ _ CZ (fun _ a=>by cases a) De (fun _ a=>by cases a) topTight_row_tie rfl ⟨rfl,rfl⟩ bB.K5 rfl DR DP
#print axioms Bz
end Go.Proofs.YtoddhldofgfdmaaGreatDoor.ah2
