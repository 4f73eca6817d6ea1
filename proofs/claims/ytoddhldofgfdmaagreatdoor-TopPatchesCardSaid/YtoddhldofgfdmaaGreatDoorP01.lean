/- A part of the proof; no conditions of its own. -/
import Derived.WalkKit
import Derived.Still
import Derived.KernelRfl
import Derived.OrdersIn
import Derived.RangeFuncRecord
import Derived.Below
import Derived.ChangeKeysEq
import Derived.Laws.OwnMore
import Derived.Laws.RangeString
import Derived.Laws.Runes
import Derived.Laws.Strings2
import Derived.Laws.Slices
import Derived.Laws.Concat
import Derived.Laws.BytesArg
import Derived.Lib.AppendStr
import Derived.Test.YtoddhldofgfdmaaGreatDoorRows
set_option linter.all false
open Array renaming length_toList->AB,replicate->AM,getD_eq_getD_getElem?->Au,getElem?_toList->Du,map->M5,getElem?_eq_getElem->Nk,getElem?_setIfInBounds_ne->WR,getElem?_replicate->WS,getElem?_eq_none->WT,range->WZ,getElem?_eq_some_iff->iz,ext'->rb
open Bool renaming false_ne_true->M_,not_eq_true->W7,true->af,false->ao,and_eq_true->fb,eq_iff_iff->g0,false_eq_true->j1,not_eq_true'->sb,or_eq_true->sc,false_or->yd,false_and->yp
open ByteArray renaming ext->W6
open Classical renaming choose_spec->Xc
open Go renaming mem_ready->AR,wpOpIn_mono->AT,Field->Ay,goInt->Dk,storeCells->Dl,wpOpsIn->Dp,asIntOf->HK,sliced->HL,resolve->HX,RoundIn->M4,loadVar->M8,run_loadCells_list->Na,run_equalIn_bool->W4,ResultVar->W8,madeCells->W9,loadCells->WX,callsIn_wide->WY,execOp_put->XF,getD_set_ne->XG,ready_mono->XI,Value->Z,World->aa,run_equalIn_int->anp,run_equalIn_string->anq,run_equalIn_struct->anr,Program->bq,TypeId->cv,Oper->dN,maxLen->e0,run_underlying->eJ,IntKind->hF,Addr->hr,sizeOf->j3,eqGuard->jK,undef->jc,typeInfo->kO,Code->lj,Exit->ll,heap_alloc_new->mE,wpIn_mono->mF,FuncId->nA,grownCap->pq,yielded->ps,Operand->pt,binOp->pv,results->qh,zeroValue->qi,setRow_heap->qj,wpOpIn->rj,execOp->rk,part->sd,run_storeCells_at->uM,setRow_other->uN,newRow->wy,asAddr->ya,callFunc->yb
open Go.Act renaming put_comm->Ax,put->HC
open Go.Addr renaming add->HN
open Go.BinOp renaming eql->gZ,add->iA,neq->mb,lss->n3,sub->po
open Go.Builtin renaming copy_->AX,firstCells->Av,min_->DO,len_->X0,append->fT,len->j7,append_->pw,lenOf->tm
open Go.ByteArray renaming toList_eq->W5,extract_mk->Xb
open Go.Callee renaming builtin->IA
open Go.Calls renaming mono->Iz
open Go.Code renaming block->tw,scope->uS,region->wE
open Go.Deferred renaming ofValue->anc
open Go.Departure renaming mixedOrders->wx
open Go.Ending renaming returned->oJ
open Go.Exit renaming normal->hX
open Go.Fence renaming wide->M7
open Go.Fn renaming func->hE
open Go.Instr renaming box->AW,alloc->Iv,field->Iw,next->Ix,fill->Nd,build->Oa,loadAt->Ob,indexAt->Oc,index->Od,makeInterface->XY,mapUpdate->XZ,storeAt->qt,sureAddr->rh,buildSlice->wI,sliceAt->wJ,typeAssert->wK
open Go.IntKind renaming i64->X,i32->cc
open Go.IntWalk renaming i64_in->HI
open Go.Obj renaming cells->eW
open Go.Op renaming eqFields->AG,intCmp->Aw,maxDepth->Az,intDiv->HJ,intArith->Nb,eqItems->Xa,equal->qk,equalIn->uO
open Go.Operand renaming const->h7,tmp->hZ
open Go.Program renaming fieldsOf->ano
open Go.Proofs.Tryz renaming prog->Y
open Go.Region renaming binds->IC,free_spec->Xq,noSelect_spec->Xt,noSelect->anX,ready->n_,wanted->wu
open Go.Result renaming andThen_ok->jI
open Go.RoundIn renaming mono->WW
open Go.Sem renaming run->As,run_bind->fN,run_pure->oa
open Go.TypeDesc renaming struct->ql,string->sh
open Go.Utf8 renaming encode->Nl,valid->Nm
open Go.Value renaming int->I,tuple->a1,slice->aQ,pointer->ad,agg->al,bool->ax,func->fq,nilIface->gA,string->lO,iface->n2,ownBlock->to
open Go.World renaming cell?->yf
open Int renaming add_assoc->Dy,toNat_natCast->kq,toNat_of_nonneg->lQ
open List renaming take->Dq,take_length_add_append->Dr,length_replicate->Dt,drop_eq_getElem_cons->Dw,range'_succ->HE,mem_filterMap->IB,map->M6,drop_length_add_append->Nh,getElem?_eq_getElem->aX,not_mem_nil->anB,range_eq_range'->anf,mapM_cons->anh,extract_eq_take_drop->ani,mem_append->b9,length_map->b_,length_append->bf,length_take->bt,take_length->cI,mem_singleton->cL,length_drop->cO,append_nil->cT,append_assoc->cX,mem_of_getElem?->cl,length_cons->d1,map_append->dJ,getElem?_eq_some_iff->dS,take_of_length_le->d_,mem_cons->df,mem_cons_self->dv,map_cons->eB,mem_map->eP,mem_cons_of_mem->ey,nil_append->fc,take_append_drop->fi,mem_of_mem_take->fy,length->gB,getElem?_map->h5,flatMap_append->hG,mem_append_left->hY,range'->hs,flatMap_cons->iB,eq_nil_of_length_eq_zero->ig,getElem?_eq_none->j2,drop_drop->jF,mem_of_mem_drop->jH,getElem?_drop->kQ,replicate->kR,take_zero->kp,getElem?_take->lN,drop_of_length_le->lR,range->lS,length_nil->lk,mem_append_right->lo,size_toArray->mG,take_take->n9,mem_flatMap->nv,take_append_of_le_length->nx,getElem?_append_right->oI,length_singleton->oK,getElem?_cons_succ->pk,getElem?_cons_zero->qm,drop_append_of_le_length->rf,drop_take->si,flatMap_singleton->sj,take_left->tq,drop_left->uQ,take_append->uR,map_singleton->uT,getElem?_append_left->wA,all_eq_true->wv,ext_getElem?->wz
open Nat renaming div_lt_iff_lt_mul->AD,one_mul->Dm,ble->HD,sub_zero->M9,strongRecOn->Xd,le_refl->a6,le_of_not_lt->anz,le_trans->eQ,zero_le->ec,lt_or_ge->fx,zero_add->hW,add_assoc->j4,add_mul->jb,beq->kS,min_eq_left->lP,mul_comm->n4,add_zero->nw,mul_le_mul_right->ny,eq_zero_or_pos->nz,eq_of_beq_eq_true->oc,sub_self->pn,div_add_mod->qn,mod_lt->se,zero_mul->uP,lt_of_lt_of_le->wC,add_sub_cancel_left->wD
open Option renaming some->J,none->ac,map_eq_some_iff->sg
open Option.some renaming injEq->kP
open Pure renaming pure->pj
open UInt8 renaming ofNat->jG
def an:=@if_neg
def au:=@if_pos
def aL:=@absurd
def ck:=@congrArg
def dF:=@decide_eq_true_eq
def db:=@decide_eq_false
def eK:=@decide_eq_true
def F{α:Sort _}{a:α}:a=a:=rfl
def G{p:Prop}(h:p:=by omega):p:=h
def g{p:Prop}(h:p:=by decide):p:=h
def D{p:Prop}(a:p:=by kernel_rfl):p:=a
def ae{p:Prop}(h:p:=by simp):p:=h
namespace Go.Lift
open Go
abbrev c_:=List (Nat×Z)
def b3:c_->Nat->Z
 |[],_=>jc
 |(b,c)::r,a=>bif kS b a then c else b3 r a
def put(bR:c_)(dst:Option Nat)(v:Z):c_:=
 match dst with
 |some a=>(a,v)::bR
 |none=>bR
def fA(bR:c_):pt->Z
 |hZ a=>b3 bR a
 |h7 b=>b
 | .global c=>ad (J ⟨c,0,ac⟩)
 | .func d=>fq (hE d) #[] #[]
def BP(b:Nat)(d:Z)(r:c_)(a:Nat):b3 ((b,d)::r) a=if b=a then d else b3 r a:=by
 by_cases c:b=a
 ·subst c;simp[b3]
 ·have e:kS b a=false:=by
   cases f:kS b a with
   |true=>exact aL (oc f) c
   |false=>rfl
  simp[b3,c,e]
def bM(P:bq){α:Type}(a:Sem α)(w:aa)(b:α->aa->Prop):Prop:=
 match a.run P w with
 | .ok c d=>b c d
 | .halt _ _=>False
def pz(P:bq)(a:nA)(args:List Z)(b:aa)(c:Z->aa->Prop):Prop:=
 Calls P a args.toArray b λd e=>match d with|oJ f=>c f e|_=>False
def pz.o{P:bq}{f:nA}{args:List Z}{w:aa}{K b:Z->aa->Prop}(h:pz P f args w K)(g:∀c a,K c a->b c a):pz P f args w b:=
 Iz h λe a d=>by cases e<;>first|exact g _ _ d|exact d
abbrev aU:=Z->aa->Prop
def iD(r:Option Nat):Fence:={M7 with round:=r}
variable{x:nA}
def Q3{r:Option Nat}{n:Nat}{P:bq}{args:Array Z}{a:aa}{b:Ending->aa->Prop}(c:Calls P x args a b):CallsIn (iD r) n P x args a b:=by
 cases r with
 |none=>exact WY.2 c
 |some d=>exact⟨trivial,((WY (n:=n)).2 c).2⟩
def aky{r:Option Nat}{a:Nat}{P:bq}{b:Nat}{tmps:Array Z}{assign body:lj}{c:aa}{d:Ending->aa->Prop}(e:M4 M7 a P b x tmps assign body c d):M4 (iD r) a P b x tmps assign body c d:=by
 cases r with
 |none=>exact e
 |some f=>exact e
def lJ(P:bq)(K:aU):Result Next->Prop
 | .ok (.value b) a=>K b a
 | .ok .skip a=>K jc a
 | .ok (.enter c args) a=>pz P c args.toList a K
 | .ok (.round d c tmps assign body) a=>M4 M7 0 P d c tmps assign body a λe f=>match e with|oJ b=>K b f|_=>False
 |_=>False
def CB(P:bq)(a:dN)(ρ:pt->Z)(b:aa)(c:aU):Prop:=lJ P c ((rk ρ a).run P b)
def gM(P:bq)(a:cv)(w:aa)(K:aU):Prop:=bM P (Iv a af (a1 #[])) w K
def qb(P:bq)(a:cv)(b:Z)(w:aa)(K:aU):Prop:=bM P (AW a b) w K
def fo(P:bq)(t:cv)(a:List (Nat×Z))(w:aa)(K:aU):Prop:=bM P (Oa t a.toArray) w K
def fR(P:bq)(t:cv)(n:Nat)(a:List (Nat×Z))(w:aa)(K:aU):Prop:=bM P (wI t n a.toArray) w K
def bU(P:bq)(t:cv)(p:Z)(w:aa)(K:aU):Prop:=bM P (Ob t p) w K
def c4(P:bq)(t:cv)(p x:Z)(w:aa)(K:aa->Prop):Prop:=bM P (qt t p x) w λ_ a=>K a
def z_(d:Z)(a:aa)(b:aU):Prop:=
 match d with
 |ad (J c)=>b (ad (J c)) a
 |n2 e f=>b (n2 e f) a
 |fq (hE g) c h=>b (fq (hE g) c h) a
 |_=>False
def b7(P:bq)(op:BinOp)(c:cv)(dX ev:Bool)(a b:Z)(w:aa)(d:aU):Prop:=
 bM P (do jK op c (bif dX then h7 a else hZ 0) (bif ev then h7 b else hZ 0) a b;pv op c a b) w d
def Ab(P:bq)(op:UnOp)(a:Z)(b:aa)(c:aU):Prop:=bM P (Op.unary op a) b c
def nW(P:bq)(a b:cv)(c:Z)(d:aa)(e:aU):Prop:=bM P (convert a b c) d e
def L9(P:bq)(a:cv)(b:Z)(c:aa)(d:aU):Prop:=bM P (XY a b) c d
def CU(P:bq)(a:Fn)(b c:List Z)(d:aa)(e:aU):Prop:=bM P (Instr.makeFunc a b.toArray c.toArray) d e
def CW(P:bq)(a:cv)(b c:Z)(d:aa)(e:aU):Prop:=bM P (Instr.makeSlice a b c) d e
def le(P:bq)(t:cv)(a:Z)(aw b c:Option Z)(w:aa)(d:aU):Prop:=bM P (wJ t a aw b c) w d
def dK(P:bq)(t:cv)(a:Z)(f:Nat)(w:aa)(K:aU):Prop:=bM P (Instr.fieldAt t a f) w K
def xZ(P:bq)(a:cv)(b:Z)(c:Nat)(w:aa)(d:aU):Prop:=bM P (Iw a b c) w d
def fh(P:bq)(a:cv)(x i:Z)(b:aa)(K:aU):Prop:=bM P (Oc a x i) b K
def Ma(P:bq)(a:cv)(b:aa)(c:aU):Prop:=bM P (Instr.makeMap a ac) b c
def L_(P:bq)(a:cv)(b c:Z)(ok:Bool)(d:aa)(e:aU):Prop:=bM P (Instr.lookup a b c ok) d e
def GR(P:bq)(a:cv)(b c d:Z)(e:aa)(f:aa->Prop):Prop:=bM P (XZ a b c d) e λ_ g=>f g
def th(P:bq)(a:cv)(b i:Z)(w:aa)(c:aU):Prop:=bM P (Od a b i) w c
def GV(P:bq)(a:cv)(b:Z)(c:aa)(d:aU):Prop:=bM P (Instr.range a b) c d
def x0(P:bq)(a:Z)(b:Bool)(c:cv)(d:aa)(e:aU):Prop:=bM P (Ix a b c) d e
def q7(P:bq)(a:Z)(b c:cv)(ok:Bool)(d:aa)(e:aU):Prop:=bM P (wK a b c ok) d e
def e7(x:Z)(i:Nat)(a:aa)(b:aU):Prop:=
 match x with
 |a1 c=>match c.toList[i]? with|some d=>b d a|none=>False
 |_=>False
def ak(P:bq)(f:nA)(args:List Z)(w:aa)(K:aU):Prop:=
 match(yb f args.toArray).run P w with
 | .ok (.enter f args) a=>pz P f args.toList a K
 | .ok (.value b) a=>K b a
 |_=>False
def iU(P:bq)(c:Z)(args:List Z)(a:aa)(b:aU):Prop:=
 match c with
 |fq (hE d) first e=>ak P d (first.toList++args++e.toList) a b
 |fq (.yield f) first _=>lJ P b ((Instr.yield f (first.toList++args).toArray).run P a)
 |_=>False
def cz(P:bq)(b:Builtin)(a:List cv)(de:cv)(args:List Z)(w:aa)(K:aU):Prop:=
 match b with
 |fT=>bM P (pw a.toArray de args.toArray) w K
 | .cap=>bM P (Builtin.cap_ a.toArray de args.toArray) w K
 | .copy=>bM P (AX a.toArray de args.toArray) w K
 |j7=>bM P (X0 a.toArray de args.toArray) w K
 | .max=>bM P (Builtin.max_ a.toArray de args.toArray) w K
 | .min=>bM P (DO a.toArray de args.toArray) w K
 | .clear=>bM P (Builtin.clear_ a.toArray de args.toArray) w K
 | .delete=>bM P (Builtin.delete_ a.toArray de args.toArray) w K
 |_=>False
def x2(a b c:Z)(d:aa)(e:aU):Prop:=
 let _:=(@cz,@iU,@b7,@nW,@le,@x0,@q7)
 match a with
 |ax f=>e (bif f then b else c) d
 |_=>False
def b6(c:Z)(A B:Prop):Prop:=
 let _:=@x2
 match c with
 |ax a=>bif a then A else B
 |_=>False
def xD(a:Bool)(c:Z)(b:Prop):Prop:=
 let _:=@x2
 match c with
 |ax d=>bif d then(bif a then b else False)else(bif a then False else b)
 |_=>False
def BT:pt->Bool
 |h7 _=>af
 |_=>ao
def hN(P:bq)(k:dN)(ρ:pt->Z)(c:aa)(d:aU):Prop:=
 match k.op with
 | .move a=>d (ρ a) c
 | .assign a=>d (ρ a) c
 | .pick e f g=>x2 (ρ e) (ρ f) (ρ g) c d
 | .alloc l=>gM P l c d
 | .box l a=>qb P l (ρ a) c d
 | .build b m=>fo P b (m.toList.map λi=>(i.1,ρ i.2)) c d
 | .buildSlice b o m=>fR P b o (m.toList.map λi=>(i.1,ρ i.2)) c d
 | .load b f=>bU P b (ρ f) c d
 | .store b f a=>c4 P b (ρ f) (ρ a) c (d jc)
 | .nilCheck a=>z_ (ρ a) c d
 | .binOp op b a n _=>b7 P op b (BT a) (BT n) (ρ a) (ρ n) c d
 | .unOp op _ a=>Ab P op (ρ a) c d
 | .convert p q a=>nW P p q (ρ a) c d
 | .makeInterface b a=>L9 P b (ρ a) c d
 | .makeFunc s f g=>CU P s (f.toList.map ρ) (g.toList.map ρ) c d
 | .makeSlice b t e=>CW P b (ρ t) (ρ e) c d
 | .slice b a aw u v=>le P b (ρ a) (aw.map ρ) (u.map ρ) (v.map ρ) c d
 | .fieldAddr b a j=>dK P b (ρ a) j c d
 | .field b a j=>xZ P b (ρ a) j c d
 | .indexAddr b a h=>fh P b (ρ a) (ρ h) c d
 | .index b a h=>th P b (ρ a) (ρ h) c d
 | .makeMap b r=>match r with|none=>Ma P b c d|some _=>False
 | .lookup b a h e=>L_ P b (ρ a) (ρ h) e c d
 | .mapUpdate b w x y=>GR P b (ρ w) (ρ x) (ρ y) c (d jc)
 | .range b a=>GV P b (ρ a) c d
 | .next z g=>x0 P (ρ z) g k.type c d
 | .typeAssert a b f ok=>q7 P (ρ a) b f ok c d
 | .extract b h=>e7 (ρ b) h c d
 | .call e=>
  match e.callee with
  | .value (.func j)=>ak P j (e.args.toList.map ρ) c d
  | .value a=>iU P (ρ a) (e.args.toList.map ρ) c d
  |IA g=>cz P g e.argTypes.toList k.type (e.args.toList.map ρ) c d
  | .invoke _ _=>False
 |_=>False
variable{K:aU}
def Qw{P:bq}{b:Sem Z}{c:aa}(a:bM P b c K):
 lJ P K ((b.run P c).andThen λf d=> .ok (.value f) d):=by
 unfold bM at a;cases e:b.run P c with
 |ok g d=>rw[e]at a;exact a
 |halt h d=>rw[e]at a;exact a.elim
def JO{P:bq}{a:Sem Z}{b:aa}(c:bM P a b K):
 lJ P K ((do pj (Next.value (<-a)):Sem Next).run P b):=by
 simp only [fN,oa];exact Qw c
variable{bR:c_}
def s4{P:bq}{k:dN}{w:aa}(a:hN P k (fA bR) w K):CB P k (fA bR) w K:=by
 generalize y:fA bR=ρ at a⊢;obtain⟨dst,op,type,pos,z,guard⟩:=k;cases op<;>unfold hN at a<;>unfold CB rk<;>dsimp only at a⊢<;>try exact a.elim
 case move b=>simpa [lJ]using a
 case assign b=>simpa [lJ]using a
 case pick q s t=>
  unfold x2 at a;split at a
  ·rename_i d A;rw[A];cases d<;>simpa [asBool,lJ]using a
  ·exact a.elim
 case store d s b=>
  unfold c4 bM at a;simp only [fN];cases e:(qt d (ρ s) (ρ b)).run P w with
  |ok f l=>rw[e]at a;exact a
  |halt b l=>rw[e]at a;exact a.elim
 case mapUpdate d u B f=>
  unfold GR bM at a;simp only [fN];cases e:(XZ d (ρ u) (ρ B) (ρ f)).run P w with
  |ok f l=>rw[e]at a;exact a
  |halt b l=>rw[e]at a;exact a.elim
 case makeMap d r=>
  cases r with
  |none=>exact JO a
  |some r=>exact a.elim
 case nilCheck b=>
  unfold z_ at a;split at a
  ·rename_i i;rw[i];exact a
  ·rename_i i;rw[i];exact a
  ·rename_i i;rw[i];exact a
  ·exact a.elim
 case extract d D=>
  unfold e7 at a;split at a
  ·rename_i E G
   split at a
   ·rename_i f j
    rw[G];have H:E[D]? =J f:=by simpa using j
    simpa [Instr.extract,H,lJ]using a
   ·exact a.elim
  ·exact a.elim
 case binOp op d b h R=>
  unfold b7 at a;apply JO;have L:jK op d (bif BT b then h7 (ρ b)else hZ 0) (bif BT h then h7 (ρ h)else hZ 0) (ρ b) (ρ h)=jK op d b h (ρ b) (ρ h):=by cases b<;>cases h<;>rfl
  rw[L]at a;exact a
 case call q=>
  obtain⟨callee,args,m⟩:=q;cases callee with
  |invoke r u=>exact a.elim
  |builtin t=>
   dsimp only at a
   have M:(args.toList.map ρ).toArray=args.map ρ:=by apply rb;simp
   have O:m.toList.toArray=m:=by apply rb;simp
   unfold cz at a;rw[M,O]at a;cases t<;>first|exact a.elim|(simp only [HX,invoke,builtin,fN,oa,jI];exact Qw a)
  |value b=>
   have v:∀f,iU P f (args.toList.map ρ) w K->ρ b=f->CB P ⟨dst,.call ⟨.value b,args,m⟩,type,pos,z,guard⟩ ρ w K:=by
    intro f hd j;unfold iU at hd;split at hd
    ·rename_i x first n
     unfold ak at hd;unfold CB rk;simp only [HX,j,anc];simp only [fN,oa,jI,invoke];have o:(first.toList++args.toList.map ρ++n.toList).toArray=first++args.map ρ++n:=by apply rb;simp
     rw[o]at hd;split at hd
     ·rename_i e;rw[e];exact hd
     ·rename_i e;rw[e];exact hd
     ·exact hd.elim
    ·rename_i g first n
     unfold CB rk;simp only [HX,j,anc];simp only [fN,oa,jI,invoke];have o:(first.toList++args.toList.map ρ).toArray=first++args.map ρ:=by apply rb;simp
     rw[o]at hd;exact hd
    ·exact hd.elim
   cases b<;>try exact v _ a F
   rename_i x
   refine v (fq (hE x) #[] #[]) ?_ (by rw[<-y];rfl);unfold iU
   simpa using a
 all_goals
  apply JO
  first
   |exact a
   |(have c:=a;unfold fo at c;rw[show(M6 (λp:Nat×pt=>(p.1,ρ p.2)) _).toArray=M5 (λp:Nat×pt=>(p.1,ρ p.2)) _ from by apply rb;simp;rfl]at c;exact c)
   |(have c:=a;unfold fR at c;rw[show(M6 (λp:Nat×pt=>(p.1,ρ p.2)) _).toArray=M5 (λp:Nat×pt=>(p.1,ρ p.2)) _ from by apply rb;simp;rfl]at c;exact c)
   |(have c:=a;unfold CU at c;rw[show∀g:Array pt,(M6 ρ g.toList).toArray=M5 ρ g from λg=>by apply rb;simp,show∀g:Array pt,(M6 ρ g.toList).toArray=M5 ρ g from λg=>by apply rb;simp]at c;exact c)
inductive fr where
 |j
 |op (k:Nat) (s:fr)
 |skip (k:Nat) (s:fr)
 |q (eX:Nat) (a b:fr)
 |b8 (eX:Nat) (b:Bool) (s:fr)
 |en (i:Nat) (a:fr) (eX:Nat) (b:fr)
 |pY (i:Nat) (a:fr) (eX:Nat) (b:fr) (k:Nat) (c:fr)
 |bj (k:Nat) (s:fr)
 |s5 (k:Nat) (s:fr)
 |oE (s:fr)
def up:Nat->Nat->fr->fr
 |0,_,a=>a
 |c+1,b,a=> .op b (up c (b+1) a)
def ol:List Nat->fr->fr
 |[],a=>a
 |b::c,a=> .op b (ol c a)
def fr.bl:fr->Nat
 | .j=>0
 | .op _ a=>a.bl+1
 | .skip _ a=>a.bl+1
 | .q _ b _=>b.bl
 | .b8 _ _ a=>a.bl
 | .en _ b _ _=>b.bl+1
 | .pY _ b _ _ _ _=>b.bl+1
 | .bj _ a=>a.bl+1
 | .s5 _ a=>a.bl+1
 | .oE a=>a.bl
def fr.bC:fr->Bool
 | .j=>af
 | .bj _ a=>a.bC
 | .q _ b c=>b.bC&&c.bC
 | .b8 _ _ a=>a.bC
 | .oE _=>af
 |_=>ao
def fr.aR:fr->List Nat
 | .j=>[]
 | .op b a=>b::a.aR
 | .skip b a=>b::a.aR
 | .b8 _ _ a=>a.aR
 | .q _ c d=>c.aR++d.aR
 | .en e c f d=>e::f::(c.aR++d.aR)
 | .pY e c f d b g=>e::f::b::(c.aR++d.aR++g.aR)
 | .bj b a=>b::a.aR
 | .s5 b a=>b::a.aR
 | .oE a=>a.aR
def fr.aW:fr->List Nat
 | .j=>[]
 | .op _ a=>a.aW
 | .skip _ a=>a.aW
 | .b8 _ _ a=>a.aW
 | .q _ b c=>b.aW++c.aW
 | .en _ b _ c=>b.aW++c.aW
 | .pY _ b _ c _ d=>b.aW++c.aW++d.aW
 | .bj e a=>e::a.aW
 | .s5 _ a=>a.aW
 | .oE a=>a.aR
inductive pH where
 |rX
 |np (s:fr)
 |BG (s:fr)
 |seq (a b:pH)
 |join (S iy:List Nat) (a b:pH)
 |cond (a b:pH)
 |sub (a:pH)
 |loop (S iy:List Nat) (a:pH)
def qd(b:Array dN)(a:Nat):Option Nat:=(b[a]?).bind (·.dst)
def r0(P:bq)(b:Array dN):fr->c_->aa->(c_->aa->Prop)->Prop
 | .j,a,c,d=>d a c
 | .op h e,a,c,d=>match b[h]? with|none=>False|some g=>hN P g (fA a) c λk c=>r0 P b e (put a g.dst k) c d
 | .skip h e,a,c,d=>match b[h]? with|none=>False|some g=>r0 P b e (put a g.dst jc) c d
 | .q i l j,a,c,d=>match qd b i with|none=>False|some f=>b6 (b3 a f) (r0 P b l ((f,ax true)::a) c d) (r0 P b j ((f,ax false)::a) c d)
 | .b8 i j e,a,c,d=>match qd b i with|none=>False|some f=>xD j (b3 a f) (r0 P b e a c d)
 | .en _ _ _ _,_,_,_=>False
 | .pY _ _ _ _ _ _,_,_,_=>False
 | .bj _ _,_,_,_=>False
 | .s5 _ _,_,_,_=>False
 | .oE _,_,_,_=>False
def cW(bN:aa->Prop)(w:aa)(E:aa->aU->Prop)(e:Z->Prop):Prop:=
 ∃a,E w (λb c=>b=a/\c=w)/\(∀d,bN d->E d (λb c=>b=a/\c=d))/\e a
def ni(a:dN):Bool:=
 match a.op with
 | .call b=>match b.callee with|IA j7|IA .cap|IA .min|IA .max=>true|_=>false
 | .store .. | .alloc .. | .box .. | .buildSlice .. | .makeSlice .. | .makeMap .. | .mapUpdate .. | .next .. | .range .. | .go .. | .defer .. | .panic .. | .convert .. | .select .. =>ao
 |_=>af
def sS(a:dN):Bool:=match a.op with| .move _| .assign _| .pick .. | .extract .. | .nilCheck _=>true|_=>false
def FK(a:dN):Bool:=match a.op with| .move _| .assign _| .extract .. =>true|_=>false
def ahP{b:dN}(a:FK b=af):sS b=true:=by unfold FK at a;unfold sS;split at a<;>first|(rename_i c;rw[c])|cases a
def T0{P:bq}{b:dN}{ρ:pt->Z}{d:aa}(i:sS b=af)(a:hN P b ρ d K):∃e,K e d/\∀f,hN P b ρ f λj k=>j=e/\k=f:=by
 obtain⟨dst,op,type,pos,q,guard⟩:=b;cases op<;>first|(cases i;done)|skip
 case move g=>exact⟨_,a,λ_=>⟨F,F⟩⟩
 case assign g=>exact⟨_,a,λ_=>⟨F,F⟩⟩
 case pick l s t=>
  unfold hN x2 at*
  dsimp only at*
  cases c:ρ l<;>rw[c]at a<;>first|exact a.elim|exact⟨_,a,λ_=>⟨F,F⟩⟩
 case extract m n=>
  unfold hN e7 at*
  dsimp only at*
  cases c:ρ m<;>rw[c]at a<;>first|exact a.elim|skip
  rename_i o
  dsimp only at a⊢
  cases p:o.toList[n]? <;>rw[p]at a<;>first|exact a.elim|exact⟨_,a,λ_=>⟨F,F⟩⟩
 case nilCheck g=>
  unfold hN z_ at*
  dsimp only at*
  split at a
  ·rename_i h;exact⟨_,a,λ_=>⟨F,F⟩⟩
  ·rename_i h;exact⟨_,a,λ_=>⟨F,F⟩⟩
  ·rename_i h;exact⟨_,a,λ_=>⟨F,F⟩⟩
  ·exact a.elim
def uH(P:bq)(b:Array dN)(bN:aa->Prop)(f:Nat)(d:c_)(a:aa)(N:c_->aa->Prop):Prop:=
 match b[f]? with
 |none=>False
 |some c=>
  bif sS c then hN P c (fA d) a λe a=>N (put d c.dst e) a
  else bif ni c then cW bN a (λa f=>hN P c (fA d) a f) (λe=>N (put d c.dst e) a)
   else hN P c (fA d) a λe a=>bN a/\N (put d c.dst e) a
def D3(bN:aa->Prop)(a:aa)(c:(aa->Prop)->Prop):Prop:=∃b:aa->Prop,(∀a,b a->bN a)/\b a/\c b
def u2(b:aa)(c:(aa->Prop)->Prop):Prop:=∃a:aa->Prop,a b/\c a
def u2.y{w:aa}{A:(aa->Prop)->Prop}(a:aa->Prop)(b:a w)(c:A a):u2 w A:=⟨a,b,c⟩
def hT(P:bq)(b:Array dN)(bN:aa->Prop):fr->c_->aa->(c_->aa->Prop)->Prop
 | .j,c,a,d=>d c a
 | .en l j g h,c,a,d=>uH P b bN l c a (λc a=>hT P b bN j c a d)/\uH P b bN g c a (λc a=>hT P b bN h c a d)
 | .pY l j g h f n,c,a,d=>uH P b bN l c a (λc a=>hT P b bN j c a d)/\uH P b bN g c a (λc a=>hT P b bN h c a d)/\uH P b bN f c a (λc a=>hT P b bN n c a d)
 | .op f e,c,a,d=>uH P b bN f c a (λc a=>hT P b bN e c a d)
 | .skip f e,c,a,d=>match b[f]? with|none=>False|some i=>hT P b bN e (put c i.dst jc) a d
 | .q g j h,c,a,d=>match qd b g with|none=>False|some k=>b6 (b3 c k) (hT P b bN j ((k,ax true)::c) a d) (hT P b bN h ((k,ax false)::c) a d)
 | .b8 g h e,c,a,d=>match qd b g with|none=>False|some k=>xD h (b3 c k) (hT P b bN e c a d)
 | .bj f e,c,a,d=>match b[f]? with|none=>False|some i=>hN P i (fA c) a λm a=>hT P b bN e (put c i.dst m) a d
 | .s5 f e,c,a,d=>match b[f]? with|none=>False|some i=>hN P i (fA c) a λm a=>D3 bN a λbN=>hT P b bN e (put c i.dst m) a d
 | .oE e,c,a,d=>u2 a λbN=>hT P b bN e c a d
def xm:Nat->(List Z->Prop)->Prop
 |0,a=>a []
 |b+1,a=>∀c:Z,xm b λd=>a (c::d)
def E2(a:Nat):∀(b:List Z->Prop),(∀c,c.length=a->b c)->xm a b:=by
 induction a with
 |zero=>intro b d;exact d [] F
 |succ a ih=>intro b d e;exact ih _ λc f=>d (e::c) (by simp[f])
def E1(b:Nat):∀(c:List Z->Prop),xm b c->∀a,a.length=b->c a:=by
 induction b with
 |zero=>intro c e a d;rw[ig d];exact e
 |succ b ih=>
  intro c e a d;cases a with
  |nil=>simp at d
  |cons f g=>exact ih _ (e f) g (by simpa using d)
def av:List Z->Z
 |a::_=>a
 |[]=>jc
def bA:List Z->List Z
 |_::r=>r
 |[]=>[]
def sU:List Nat->List Z->c_->c_
 |[],_,a=>a
 |c::d,b,a=>(c,av b)::sU d (bA b) a
def ba(e:List Z)(n k:Nat)(w:aa)(B:List Z->List Z->aa->(List Z->aa->Prop)->Prop):Prop:=
 ∃(a:List Z->aa->Prop) (m:List Z->aa->Nat),a e w/\xm n λb=>xm k λf=>∀w,a b w->B b f w (λc d=>a c d/\m c d<m b w)
def bG(n k:Nat)(A:(List Z->aa->Prop)->Prop)(B:List Z->List Z->aa->Prop):Prop:=
 ∃a:List Z->aa->Prop,A a/\xm n λb=>xm k λd=>∀c,a b c->B b d c
def bE(w:aa)(A:(aa->Prop)->aa->Prop):Prop:=∃bN:aa->Prop,bN w.drew/\A bN w.drew
def ba.y{x:List Z}{n k:Nat}{w:aa}{B:List Z->List Z->aa->(List Z->aa->Prop)->Prop}(b:List Z->aa->Prop)(m:List Z->aa->Nat)(f:b x w)
 (h:∀a c w,b a w->B a c w (λd e=>b d e/\m d e<m a w)):ba x n k w B:=
 ⟨b,m,f,E2 _ _ λa _=>E2 _ _ λc _ w g=>h a c w g⟩
def bG.y{n k:Nat}{A:(List Z->aa->Prop)->Prop}{B:List Z->List Z->aa->Prop}(M:List Z->aa->Prop)(c:A M)(h:∀a b w,M a w->B a b w):bG n k A B:=
 ⟨M,c,E2 _ _ λa _=>E2 _ _ λb _ w d=>h a b w d⟩
def bG.dE{d e:Nat}{b:(List Z->aa->Prop)->Prop}{c:List Z->List Z->aa->Prop}(f:b λg h=>∀a,c g a h):bG d e b c:=
 bG.y _ f λ_ a _ i=>i a
def bE.y{w:aa}{A:(aa->Prop)->aa->Prop}(bN:aa->Prop)(a:bN w.drew)(h:A bN w.drew):bE w A:=⟨bN,a,h⟩
def vX(d:c_->aa->Prop)(Q:ll->c_->aa->Prop)(a:ll)(b:c_)(c:aa):Prop:=
 let _:=@hN
 match a with
 |hX=>d b c
 |a=>Q a b c
def zI(e:Nat)(Q:ll->c_->aa->Prop)(a:ll)(b:c_)(c:aa):Prop:=
 let _:=@hN
 match a with
 | .exit d=>bif kS d e then Q hX b c else Q (.exit d) b c
 |a=>Q a b c
def Gc(Q:ll->c_->aa->Prop)(a:ll)(b:c_)(c:aa):Prop:=
 let _:=@hN
 match a with
 | .goto _=>False
 |a=>Q a b c
def nJ(P:bq):pH->lj->c_->aa->(ll->c_->aa->Prop)->Prop
 | .np k,d,c,a,Q=>
  match d with
  |wE _ b _=>r0 P b k c a (Q hX)
  |_=>False
 | .rX,d,c,a,Q=>
  match d with
  | .skip=>Q hX c a
  | .exit l=>Q (.exit l) c a
  | .label _=>Q hX c a
  | .ret=>Q .ret c a
  |_=>False
 | .BG k,d,c,a,Q=>
  match d with
  |wE _ b _=>bE a λbN a=>hT P b bN k c a (Q hX)
  |_=>False
 | .seq f h,d,c,a,Q=>
  match d with
  | .seq e i=>nJ P f e c a (vX (λc a=>nJ P h i c a Q) Q)
  |_=>False
 | .join g j f h,d,c,a,Q=>
  match d with
  | .seq e i=>bG g.length j.length (λo=>nJ P f e c a (vX (λc a=>o (g.map (b3 c)) a) Q)) (λm n a=>nJ P h i (sU g m (sU j n c)) a Q)
  |_=>False
 | .cond f h,d,c,a,Q=>
  match d with
  | .cond p e i=>b6 (fA c p) (nJ P f e c a Q) (nJ P h i c a Q)
  |_=>False
 | .sub f,d,c,a,Q=>
  match d with
  |tw l e=>nJ P f e c a (zI l Q)
  |uS e=>nJ P f e c a (Gc Q)
  |_=>False
 | .loop g j f,d,c,a,Q=>
  match d with
  | .loop e=>ba (g.map (b3 c)) g.length j.length a λm n a q=>nJ P f e (sU g m (sU j n c)) a (vX (λc a=>q (g.map (b3 c)) a) Q)
  |_=>False
def Gk(a:List dN):List Nat:=a.filterMap (·.dst)
def mn:lj->List Nat
 |wE _ b _=>Gk b.toList
 | .seq a c=>mn a++mn c
 | .cond _ a c=>mn a++mn c
 |tw _ a=>mn a
 | .loop a=>mn a
 |uS a=>mn a
 |_=>[]
def vV(a:Nat)(b:List dN):Bool:=b.all λc=>match c.dst with|some d=>Nat.blt d a|none=>true
abbrev lT:=List (Nat×Option Bool)
def lT.b3(a:lT)(b:Nat)(c:Option Bool):Bool:=a.contains (b,c)
def o6(a:lT)(b:dN):Bool:=match b.guard with|none=>true|some (c,d)=>a.b3 c (some d)
def FA(env:lT)(b:dN):Bool:=match b.guard with|none=>false|some (a,c)=>env.b3 a (some !c)||env.b3 a none
def nM(b:Array dN)(a:lT)(c:dN):Bool:=match c.dst with|none=>true|some d=>a.all λe=>qd b e.1 !=some d
def rZ(b:Array dN):fr->Nat->lT->Bool
 | .j,a,_=>kS a b.size
 | .op d e,a,c=>match b[d]? with|none=>false|some f=>kS d a&&o6 c f&&nM b c f&&rZ b e (a+1) c
 | .skip d e,a,c=>match b[d]? with|none=>false|some f=>kS d a&&FA c f&&nM b c f&&rZ b e (a+1) ((d,none)::c)
 | .q d h g,a,c=>rZ b h a ((d,J af)::c)&&rZ b g a ((d,J ao)::c)
 | .b8 d g e,a,c=>rZ b e a ((d,J g)::c)
 | .en _ _ _ _,_,_=>ao
 | .pY _ _ _ _ _ _,_,_=>ao
 | .bj _ _,_,_=>ao
 | .s5 _ _,_,_=>ao
 | .oE _,_,_=>ao
def TZ(a:dN):List Nat:=(a.after.toList.filter (IC .any ·)).map (·.on)
def Gz(b:Array dN):List Nat->List Nat->List Nat
 |[],a=>a
 |c::r,a=>Gz b r (bif a.contains c then(match b[c]? with|some d=>TZ d++a|none=>a)else a)
def oD(b:Array dN)(a:Nat):Bool:=match b[a]? with|some c=>ni c|none=>false
def s8(b:Array dN)(c:List Nat):List (Nat×List Nat):=(c.filter λa=>!oD b a).map λa=>(a,Gz b (lS b.size).reverse [a])
def Ff(c:List (Nat×List Nat))(a:Nat):Bool:=c.all λb=>kS b.1 a||b.2.contains a
def zr(a:List (Nat×List Nat))(b:Nat):Bool:=a.any λc=>kS c.1 b
def jB(b:Array dN):fr->List (Nat×List Nat)->Array Bool->lT->Bool
 | .j,f,d,_=>(n_ .any b d).isEmpty
 | .op e h,f,d,a=>
  match b[e]? with
  |none=>ao
  |some c=>
   (bif ni c then(n_ .any b d).contains e&&Region.free .any b d e&&(FK c||Ff f e)else n_ .any b d==[e])&&
    o6 a c&&nM b a c&&jB b h f (d.setIfInBounds e af) a
 | .skip e h,f,d,a=>
  match b[e]? with
  |none=>ao
  |some c=>(n_ .any b d).contains e&&Region.free .any b d e&&Ff f e&&FA a c&&nM b a c&&jB b h f (d.setIfInBounds e af) ((e,ac)::a)
 | .b8 g i h,f,d,a=>jB b h f d ((g,J i)::a)
 | .q g j i,f,d,a=>kS j.bl i.bl&&jB b j f d ((g,J af)::a)&&jB b i f d ((g,J ao)::a)
 | .en k j g i,f,d,a=>
  kS j.bl i.bl&&n_ .any b d==[k,g]&&
   (match b[k]? with|none=>false|some c=>!ni c&&o6 a c&&nM b a c)&&(match b[g]? with|none=>false|some c=>!ni c&&o6 a c&&nM b a c)&&
   jB b j f (d.setIfInBounds k af) a&&jB b i f (d.setIfInBounds g af) a
 | .pY k j g i e l,f,d,a=>
  kS j.bl i.bl&&kS j.bl l.bl&&n_ .any b d==[k,g,e]&&
   (match b[k]? with|none=>false|some c=>!ni c&&o6 a c&&nM b a c)&&(match b[g]? with|none=>false|some c=>!ni c&&o6 a c&&nM b a c)&&(match b[e]? with|none=>false|some c=>!ni c&&o6 a c&&nM b a c)&&
   jB b j f (d.setIfInBounds k af) a&&jB b i f (d.setIfInBounds g af) a&&jB b l f (d.setIfInBounds e af) a
 | .bj e h,f,d,a=>
  match b[e]? with
  |none=>ao
  |some c=>n_ .any b d==[e]&&!ni c&&zr f e&&h.bC&&o6 a c&&nM b a c&&jB b h f (d.setIfInBounds e af) a
 | .s5 e h,f,d,a=>
  match b[e]? with
  |none=>ao
  |some c=>n_ .any b d==[e]&&!ni c&&o6 a c&&nM b a c&&jB b h f (d.setIfInBounds e af) a
 | .oE h,f,d,a=>(lS d.size).all (λg=>d.getD g af||oD b g||zr f g)&&jB b h (s8 b h.aW) d a
def jX(n:Nat):pH->lj->Bool
 | .rX,.skip=>af
 | .np e,wE _ b d=>!d&&vV n b.toList&&rZ b e 0 []
 | .rX,.exit _=>af
 | .rX,.label _=>af
 | .rX,.ret=>af
 | .rX,.refuse _=>af
 | .BG e,wE _ b d=>d&&vV n b.toList&&anX b&&kS e.bl b.size&&jB b e (s8 b e.aW) (AM b.size ao) []
 | .seq c f,.seq a g=>jX n c a&&jX n f g
 | .join h i c f,.seq a g=>(mn a).all (λd=>(h++i).contains d)&&jX n c a&&jX n f g
 | .cond c f,.cond _ a g=>jX n c a&&jX n f g
 | .sub c,tw _ a=>jX n c a
 | .sub c,uS a=>jX n c a
 | .loop h i c,.loop a=>(mn a).all (λd=>(h++i).contains d)&&jX n c a
 |_,_=>ao
inductive uZ where
 |g
 |F (s:fr)
 |E (s:fr)
 |l (a b:uZ)
 |J (S:List Nat) (a b:uZ)
 |ac (a b:uZ)
 |A (a:uZ)
 |aw (S:List Nat) (a:uZ)
def bc(S a:List Nat):List Nat:=a.filter λb=>!S.contains b
def xo:lj->pH
 |wE _ b _=> .np (up b.size 0 .j)
 | .seq a c=> .seq (xo a) (xo c)
 | .cond _ a c=> .cond (xo a) (xo c)
 |tw _ a=> .sub (xo a)
 |uS a=> .sub (xo a)
 |_=> .rX
def p6:uZ->lj->pH
 | .g,g=>xo g
 | .F f,_=> .np f
 | .E f,_=> .BG f
 | .l b c,.seq a d=> .seq (p6 b a) (p6 c d)
 | .J e b c,.seq a d=> .join e (bc e (mn a)) (p6 b a) (p6 c d)
 | .ac b c,.cond _ a d=> .cond (p6 b a) (p6 c d)
 | .A b,tw _ a=> .sub (p6 b a)
 | .A b,uS a=> .sub (p6 b a)
 | .aw e b,.loop a=> .loop e (bc e (mn a)) (p6 b a)
 |_,_=> .rX
def hy(n:Nat)(a:Act)(bR:c_):Prop:=a.defers=[]/\a.tmps.size=n/\∀b,a.tmps.getD b jc=b3 bR b
def hy.cb{n:Nat}{b:Act}(c:hy n b bR)(a:pt):b.eval a=fA bR a:=by
 cases a with
 |tmp d=>exact c.2.2 d
 |_=>rfl
variable{x:c_}
def hy.bP{b:Nat}{a:Act}(c:hy b a x):a.eval=fA x:=funext c.cb
def hy.put{n:Nat}{a:Act}{bR:c_}(c:hy n a bR)(dst:Option Nat)(v:Z)(hd:∀b,dst=J b->b<n):hy n (a.put dst v) (put bR dst v):=by
 cases dst with
 |none=>exact c
 |some b=>
  have f:=hd b F;refine⟨c.1,by simp[HC,c.2.1],λd=>?_⟩;show(a.tmps.setIfInBounds b v).getD d jc=b3 ((b,v)::bR) d;rw[BP];by_cases e:b=d
  ·subst e;simp[Au,c.2.1,f]
  ·rw[an e,<-c.2.2 d];simp[Au,WR e]
def hy.bW{e:c_}{c:Nat}{d:Act}(b:hy c d x)(f:∀a,b3 e a=b3 x a):hy c d e:=⟨b.1,b.2.1,λa=>(b.2.2 a).trans (f a).symm⟩
def amv(a:Bool):jc≠ax a:=by unfold jc;intro b;cases b
def Vo{x:Z}{b c:Prop}(a:b6 x b c):(x=ax af/\b)\/(x=ax ao/\c):=by
 unfold b6 at a;split at a
 ·rename_i d
  cases d
  ·exact .inr ⟨F,a⟩
  ·exact .inl ⟨F,a⟩
 ·exact a.elim
def Sw{e:Z}{a:Nat}(d:b3 x a=e)(b:Nat):b3 ((a,e)::x) b=b3 x b:=by
 rw[BP];by_cases c:a=b
 ·subst c;rw[au F,d]
 ·rw[an c]
def lp(b:Array dN)(d:Act)(e:lT):Prop:=∀a c,(a,c)∈e->ps b d.tmps a=c
def lp.nil(b:Array dN)(a:Act):lp b a []:=λ_ _ c=>by cases c
variable{x:lT}
def lp.bH{b:Array dN}{a:Act}(e:lp b a x){c:Nat}{d:Option Bool}(f:ps b a.tmps c=d):lp b a ((c,d)::x):=by
 intro g h hk;rcases df.1 hk with i|hk
 ·cases i;exact f
 ·exact e g h hk
def lp.put{b:Array dN}{a:Act}{c:lT}(j:lp b a c){d:dN}(v:Z)(e:nM b c d=af):lp b (a.put d.dst v) c:=by
 intro f h i;rw[<-j f h i];unfold nM at e;cases hd:d.dst with
 |none=>rfl
 |some k=>
  rw[hd]at e;have g:=wv.1 e (f,h) i;simp only [bne_iff_ne,ne_eq]at g;unfold qd at g;unfold ps;cases l:(b[f]?).bind (·.dst)with
  |none=>rfl
  |some m=>have n:k≠m:=λo=>g (by rw[l,o]);simp[HC,WR n]
def K_{a:Nat}{b:Option Bool}(c:x.b3 a b=af):(a,b)∈x:=by simpa [lT.b3]using c
def zl{b:Array dN}{d:Act}(e:lp b d x){a:dN}(c:o6 x a=af):wu a (ps b d.tmps)=true:=by
 unfold o6 at c;unfold wu;cases f:a.guard with
 |none=>rfl
 |some g=>obtain⟨h,i⟩:=g;rw[f]at c;simp[e h (J i) (K_ c)]
def Sv{b:Array dN}{e:Act}(f:lp b e x){c:dN}(a:FA x c=af):wu c (ps b e.tmps)=false:=by
 unfold FA at a;unfold wu;cases g:c.guard with
 |none=>rw[g]at a;cases a
 |some i=>
  obtain⟨h,d⟩:=i;rw[g]at a;rw[sc]at a;rcases a with a|a
  ·have:=f h (J !d) (K_ a);simp only [this];cases d<;>rfl
  ·have:=f h ac (K_ a);simp only [this];cases d<;>rfl
def WC{b:Array dN}{e:Act}{d:Nat}{a:dN}(f:b[d]? =J a):ps b (e.put a.dst jc).tmps d=none:=by
 unfold ps;rw[f];cases hd:a.dst with
 |none=>simp[hd]
 |some g=>
  simp only [Option.bind_some,hd,HC];rw[Array.getElem?_setIfInBounds];simp only [if_true];split
  ·rename_i c;split at c
   ·cases c
   ·cases c
  ·rfl
variable{x:c_}
def Hz{e:Bool}{h:Nat}{d:Act}{b:Array dN}{g c:Nat}(i:hy h d x)(hd:qd b g=J c)(j:b3 x c=ax e):ps b d.tmps g=J e:=by
 unfold ps;unfold qd at hd;rw[hd];have a:=i.2.2 c;rw[j]at a;cases f:d.tmps[c]? with
 |none=>simp[Au,f]at a;exact aL a (amv e)
 |some k=>simp[Au,f]at a;subst a;simp[f]
def V3{k:Nat}{e:Act}{b:Array dN}{f d:Nat}{h i:Prop}(j:hy k e x)(hd:qd b f=J d)(l:b6 (b3 x d) h i):
 (ps b e.tmps f=J af/\h/\∀a,b3 ((d,ax af)::x) a=b3 x a)\/(ps b e.tmps f=J ao/\i/\∀a,b3 ((d,ax ao)::x) a=b3 x a):=by
 rcases Vo l with⟨c,g⟩|⟨c,g⟩
 ·exact .inl ⟨Hz j hd c,g,Sw c⟩
 ·exact .inr ⟨Hz j hd c,g,Sw c⟩
variable{v:Z}
def SS{x:Bool}{b:Prop}(a:xD x v b):v=ax x/\b:=by
 unfold xD at a;cases v<;>first|exact a.elim|skip
 rename_i c
 cases c<;>cases x<;>first|exact⟨F,a⟩|exact(a:False).elim
def zK{x:aU}{P:bq}(c:∀d b,K d b->x d b){r:Result Next}(a:lJ P K r):lJ P x r:=by
 cases r with
 |ok f b=>cases f<;>simp only [lJ]at a⊢<;>first|exact c _ _ a|exact a.o c|exact WW a (λg h e=>by cases g<;>first|exact c _ _ e|exact e)
 |halt i b=>exact a
def An{P:bq}{r:Option Nat}{d:dN}{e:Act}{b:aa}{next:Act->aa->Prop}{Q:ll->Act->aa->Prop}
 (a:lJ P (λi b=>next (e.put d.dst i) b) ((rk e.eval d).run P b)):d.wpIn (iD r) 0 P e b next Q:=by
 refine⟨λ_ _=>trivial,?_⟩;have k:∀f,d.op≠ .defer f:=λf l=>by
  unfold rk at a;rw[l]at a;simp only [fN]at a;cases j:(HX e.eval f d.type).run P b with
  |ok p g=>rw[j]at a;simp[lJ]at a
  |halt m g=>rw[j]at a;simp[lJ]at a
 rw[Oper.semAt_eq _ _ _ k];generalize(rk e.eval d).run P b=c at*;cases c with
 |ok n b=>
  cases n<;>simp only [lJ]at a<;>first|exact a.elim|skip
  case value i=>exact a
  case skip=>exact a
  case enter o args=>refine⟨λa=>(by cases a),?_⟩;unfold pz at a;rw[Array.toArray_toList]at a;exact Q3 (Iz a λh g c=>by cases h<;>first|exact c|exact c.elim)
  case round q o tmps assign body=>refine⟨λa=>(by cases a),aky (WW a λh g c=>by cases h<;>first|exact c|exact c.elim)⟩
 |halt m b=>exact a.elim
def iW(cV:List Nat)(b c:c_):Prop:=∀a,a∉cV->b3 c a=b3 b a
def iW.p(cV:List Nat)(bR:c_):iW cV bR bR:=λ_ _=>F
def iW.a{c:c_}{cV f es:List Nat}{a b:c_}(h:iW cV a b)(i:iW f b c)(e:∀d,d∉es->d∉cV/\d∉f):iW es a c:=
 λd g=>(i d (e d g).2).trans (h d (e d g).1)
def vZ(b:c_)(dst:Option Nat)(v:Z)(c:List Nat)(e:∀a,dst=J a->a∈c):iW c b (put b dst v):=by
 intro d f;cases dst with
 |none=>rfl
 |some a=>show b3 ((a,v)::b) d=b3 b d;rw[BP,an];intro g;exact f (g▸e a F)
def pG(b:Nat)(c:c_)(d:List Nat)(e:c_->aa->Prop):ll->Act->aa->Prop:=λf g h=>f=hX/\∃a,hy b g a/\iW d c a/\e a h
def vW{c:Nat}{d:List dN}(e:vV c d=af){a:dN}(f:a∈d):∀b,a.dst=J b->b<c:=by intro b hd;have:=wv.1 e a f;rw[hd]at this;rwa[Nat.blt_eq]at this
def nR{b:Array dN}{c:Nat}{a:dN}(d:b[c]? =J a):a∈b.toList:=by simpa using Array.mem_of_getElem? d
def Uj{b:Array dN}{a:Nat}{c:dN}(d:b[a]? =J c):hs a (b.size-a)=a::hs (a+1) (b.size-(a+1)):=by have e:a<b.size:=(iz.1 d).1;have:b.size-a=(b.size-(a+1))+1:=G;rw[this,HE]
variable{iZ:c_}
def ajk{P:bq}{r:Option Nat}{b:Array dN}{w:Nat}{H:c_->aa->Prop}{cV:List Nat}(K:vV w b.toList=af)(L:∀p∈b.toList,∀v,p.dst=J v->v∈cV):
 ∀(n:fr) (d:Nat) (i:lT) (e:c_) (f:Act) (g:aa),rZ b n d i=af->lp b f i->hy w f e->iW cV iZ e->r0 P b n e g H->
  Dp (iD r) 0 P b (pG w iZ cV H) (hs d (b.size-d)) f g:=by
 intro n
 induction n with
 |j=>intro d i e f g a k j m c;have O:d=b.size:=oc a;subst O;rw[pn];exact⟨F,e,j,m,c⟩
 |op l n ih=>
  intro d i e f g a k j m c;unfold rZ at a;unfold r0 at c;cases h:b[l]? with
  |none=>rw[h]at a;cases a
  |some p=>rw[h]at a c;simp only [fb]at a;obtain⟨⟨⟨x,y⟩,z⟩,a⟩:=a;obtain rfl:l=d:=oc x;rw[Uj h];unfold Dp;simp only [h];rw[au (zl k y)];refine An (zK ?_ (by rw[j.bP];exact s4 c));intro A S R;exact ih _ i _ _ _ a (k.put A z) (j.put _ A (vW K (nR h))) (m.a (vZ e p.dst A cV (L p (nR h))) (λq o=>⟨o,o⟩)) R
 |skip l n ih=>
  intro d i e f g a k j m c;unfold rZ at a;unfold r0 at c;cases h:b[l]? with
  |none=>rw[h]at a;cases a
  |some p=>rw[h]at a c;simp only [fb]at a;obtain⟨⟨⟨x,y⟩,z⟩,a⟩:=a;obtain rfl:l=d:=oc x;rw[Uj h];unfold Dp;simp only [h];rw[an (by rw[Sv k y];exact M_)];refine⟨λ_ _=>trivial,?_⟩;exact ih _ _ _ _ _ a ((k.put _ z).bH (WC h)) (j.put _ _ (vW K (nR h))) (m.a (vZ e p.dst _ cV (L p (nR h))) (λq o=>⟨o,o⟩)) c
 |q l B M D E=>
  intro d i e f g a k j m c;unfold rZ at a;unfold r0 at c;rw[fb]at a;cases hd:qd b l with
  |none=>rw[hd]at c;exact c.elim
  |some v=>
   rw[hd]at c;rcases V3 j hd c with⟨s,t,u⟩|⟨s,t,u⟩
   ·exact D d _ _ f g a.1 (k.bH s) (j.bW u) (λq o=>(u q).trans (m q o)) t
   ·exact E d _ _ f g a.2 (k.bH s) (j.bW u) (λq o=>(u q).trans (m q o)) t
 |b8 l U B ih=>
  intro d i e f g a k j m c;unfold rZ at a;unfold r0 at c;cases hd:qd b l with
  |none=>rw[hd]at c;exact c.elim
  |some v=>rw[hd]at c;obtain⟨s,t⟩:=SS c;exact ih d _ e f g a (k.bH (Hz j hd s)) j m t
 |en G B l M D E=>intro d i e f g a;cases a
 |pY G B l M d V D E W=>intro d i e f g a;cases a
 |bj G n ih=>intro d i e f g a;cases a
 |s5 G n ih=>intro d i e f g a;cases a
 |oE n ih=>intro d i e f g a;cases a
section agI
variable{P:bq} {r:Option Nat} {b:Array dN} {bN:aa->Prop} {Q:ll->Act->aa->Prop}
def qO(P:bq)(b:Array dN)(bN:aa->Prop)(a:dN)(e:Z)(c:Act):Prop:=
 (wu a (ps b c.tmps)=af/\∀d,bN d->lJ P (λf g=>f=e/\g=d) ((rk c.eval a).run P d))\/
 (wu a (ps b c.tmps)=ao/\e=jc)
variable{x:Z}
def qO.db{f:Nat}{c:dN}{d:Act}(i:b[f]? =J c)(j:qO P b bN c x d){g:Act->aa->Prop}{a:aa}(k:bN a)(h:g (d.put c.dst x) a):rj (iD r) 0 P b Q f g d a:=by
 unfold rj;simp only [i];rcases j with⟨e,l⟩|⟨e,rfl⟩
 ·rw[au e];exact An (zK (λo p ⟨m,n⟩=>by subst m;subst n;exact h) (l a k))
 ·rw[an (by rw[e];exact M_)];exact⟨λ_ _=>trivial,h⟩
def qO.cZ{a:dN}{c d:Act}(e:qO P b bN a x c)(f:rk d.eval a=rk c.eval a)
 (g:wu a (ps b d.tmps)=wu a (ps b c.tmps)):qO P b bN a x d:=by
 unfold qO at*;rw[f,g];exact e
def afc{o:Nat}{e f:dN}(E:b[o]? =J f)(G:e.apart b f=af)
 (H:∀p q,e.op≠ .select p q)(w:∀p q,f.op≠ .select p q)
 (s:∀m a i,¬Q (.panic m) a i)(ab:∀a i,¬Q .outgrown a i){y:Act->aa->Prop}{a:Act}{i:aa}
 (g:qO P b bN e x a)(c:rj (iD r) 0 P b Q o y (a.put e.dst x) i):
 rj (iD r) 0 P b Q o (λz t=>qO P b bN e x z/\y (z.put e.dst x) t) a i:=by
 obtain⟨n,j,A⟩:=Oper.apart_spec G;have k:∀(a:Act),qO P b bN e x a->∀d,qO P b bN e x (a.put f.dst d):=λa g d=>g.cZ (XF e H a f.dst d A) (wanted_put e a f.dst d A)
 have K:∀l,qO P b bN e x {a with defers:=l::a.defers}:=λl=>g.cZ F F;unfold rj at*;simp only [E]at*;rw[wanted_put f a e.dst x n]at c;split
 ·rename_i u
  simp only [u,if_true]at c;unfold Oper.wpIn at*;refine⟨λ_ _=>trivial,?_⟩;have c:=c.2;have L:(f.semAt (iD r).round (a.put e.dst x).eval)=f.semAt (iD r).round a.eval:=by
   unfold Oper.semAt;cases M:f.op with
   |defer m=>
    cases(iD r).round with
    |none=>dsimp only;exact XF f w a e.dst x n
    |some O=>
     dsimp only
     rw[resolve_congr (ρ:=(a.put e.dst x).eval) (ρ' :=a.eval) m f.type (λB R=>Act.eval_put λl hd S=>n l hd (by subst S;exact hY _ (IB.2 ⟨hZ l,by rw[M];simpa [Op.operands]using R,F⟩)))]
   |_=>cases(iD r).round<;>exact XF f w a e.dst x n
  rw[L]at c;generalize(f.semAt (iD r).round a.eval).run P i=U at*;cases U with
  |ok V t=>
   cases V<;>simp only [Oper.uponIn]at c⊢
   case value d=>exact⟨k a g d,by rw[<-Ax a x d j];exact c⟩
   case skip=>exact⟨k a g _,by rw[<-Ax a x jc j];exact c⟩
   case defer l=>refine⟨k _ (K l) _,?_⟩;rw[<-Ax _ x jc j,<-Act.put_defers];exact c
   case enter W args=>
    refine⟨c.1,CallsIn.mono c.2 λv D h=>?_⟩;cases v with
    |returned d=>exact⟨k a g d,by rw[<-Ax a x d j];exact h⟩
    |panicked m=>exact aL h (s _ _ _)
    |outgrown=>exact h
   case row row args=>exact⟨c.1,RowsIn.mono c.2 λd D h=>⟨k a g d,by rw[<-Ax a x d j];exact h⟩⟩
   case round O W tmps assign body=>
    refine⟨c.1,WW c.2 λv D h=>?_⟩;cases v with
    |returned d=>exact⟨k a g d,by rw[<-Ax a x d j];exact h⟩
    |panicked m=>exact aL h (s _ _ _)
    |outgrown=>exact h
  |halt B t=>
   cases B<;>simp only [Oper.uponIn]at c⊢
   case panic d=>exact aL c (s _ _ _)
 ·rename_i u
  simp only [u]at c;exact⟨λ_ _=>trivial,k a g _,by rw[<-Ax a x jc j];exact c.2⟩
def n0(r:Option Nat)(P:bq)(b:Array dN)(Q:ll->Act->aa->Prop)(bN:aa->Prop)(g:Nat->Bool):Nat->Array Bool->Act->aa->Prop
 |0,c,a,d=>n_ .any b c=[]/\Q hX a d
 |fuel+1,c,a,d=>
  (n_ .any b c=[]->Q hX a d)/\
  ∀e∈n_ .any b c,rj (iD r) 0 P b Q e (λa f=>(g e=ao->bN f)/\(oD b e=af->f=d)/\n0 r P b Q bN g fuel (c.setIfInBounds e af) a f) a d
def y5(b:Array dN)(c:List (Nat×List Nat))(a:Nat):Bool:=zr c a||oD b a
def Wq{j n:Nat->Bool}{o:aa->Prop}:∀(fuel:Nat) (e:Array Bool) (a:Act) (c:aa),(∀d,e.getD d af=ao->j d=af)->n0 r P b Q o n fuel e a c->n0 r P b Q bN j fuel e a c
 |0,_,_,_,_,f=>f
 |fuel+1,e,a,c,h,f=>⟨f.1,λg i=>AT (λa c k=>⟨λl=>(by
  have:=h g (AR.1 i).1;rw[this]at l;cases l),k.2.1,Wq fuel _ a c (λd p=>by
  by_cases m:g=d
  ·subst m;exact h g (AR.1 i).1
  ·exact h d (by rwa[XG af m]at p)) k.2.2⟩) (f.2 g i)⟩
def Wr{f:Nat->Bool}{g:aa->Prop}(h:∀a,g a->bN a):∀(fuel:Nat) (i:Array Bool) (c:Act) (a:aa),n0 r P b Q g f fuel i c a->n0 r P b Q bN f fuel i c a
 |0,_,_,_,d=>d
 |fuel+1,_,_,_,d=>⟨d.1,λj k=>AT (λc a e=>⟨λl=>h _ (e.1 l),e.2.1,Wr h fuel _ c a e.2.2⟩) (d.2 j k)⟩
def Ws{f:Nat->Bool}:∀(fuel:Nat) (e:Array Bool) (a:Act) (c:aa),n0 r P b Q bN f fuel e a c->wpAnyIn (iD r) 0 P .any b Q fuel e a c
 |0,_,_,_,d=>d
 |fuel+1,_,_,_,d=>⟨d.1,λg h=>AT (λa c i=>Ws fuel _ a c i.2.2) (d.2 g h)⟩
def sr(b:Array dN)(a:Array Bool):Prop:=∀(c:Nat) (d:dN),b[c]? =J d->a.getD c ao=af->∀e∈d.after,IC .any e=af->a.getD e.on ao=af
def sr.ax{a:Array Bool}{c:Nat}(l:sr b a)(m:c∈n_ .any b a):sr b (a.setIfInBounds c af):=by
 intro d n e f g h i;apply getD_set_true;by_cases j:c=d
 ·subst j;obtain⟨_,p,k,o⟩:=AR.1 m;rw[e]at k;cases k;exact o g h i
 ·rw[XG ao j]at f;exact l d n e f g h i
def GA{f:Array Bool}{i:Nat}(p:sr b f)(q:i∈n_ .any b f):∀(j e:List Nat),(∀a∈e,a=i\/f.getD a ao=af)->∀a∈Gz b j e,a=i\/f.getD a ao=true:=by
 intro j
 induction j with
 |nil=>intro e c a hm;exact c a hm
 |cons g r ih=>
  intro e c a hm;unfold Gz at hm;refine ih _ ?_ a hm;intro a hm;cases k:e.contains g with
  |false=>rw[k]at hm;exact c a hm
  |true=>
   rw[k,cond_true]at hm;cases h:b[g]? with
   |none=>rw[h]at hm;exact c a hm
   |some m=>
    rw[h]at hm;rcases b9.1 hm with hm|hm
    ·unfold TZ at hm;obtain⟨l,d,rfl⟩:=eP.1 hm;obtain⟨d,n⟩:=List.mem_filter.1 d;have d:l∈m.after:=by simpa using d
     rcases c g (by simpa using k)with rfl|s
     ·obtain⟨_,u,o,t⟩:=AR.1 q;rw[h]at o;cases o;exact .inr (t l d n)
     ·exact .inr (p g m h s l d n)
    ·exact c a hm
def agB{g:List Nat}{a c:Nat}{d:Array Bool}(hd:Ff (s8 b g) a=af)(j:sr b d)(k:c∈n_ .any b d)(h:zr (s8 b g) c=af)(i:c≠a):d.getD a ao=true:=by
 unfold zr at h;obtain⟨l,e,m⟩:=List.any_eq_true.1 h;obtain rfl:=oc m;have:=wv.1 hd l e;unfold s8 at e;obtain⟨n,_,rfl⟩:=eP.1 e;rw[sc]at this;rcases this with h1|h1
 ·exact aL (oc h1) i
 ·rcases GA j k _ [n] ae a (by simpa using h1)with f|f
  ·exact aL f.symm i
  ·exact f
def WQ{d:List Nat}{e a:Nat}{f:Array Bool}(hd:Ff (s8 b d) e=af)(h:sr b f)(i:a∈n_ .any b f)(j:a≠e){bN:aa->Prop}:
 f.getD e ao=af\/(∀c,bN c)\/oD b a=af\/(y5 b (s8 b d) a=ao/\∀c,bN c->bN c):=by
 cases k:oD b a with
 |true=>exact .inr (.inr (.inl F))
 |false=>
  cases g:zr (s8 b d) a with
  |true=>exact .inl (agB hd h i g j)
  |false=>exact .inr (.inr (.inr ⟨by unfold y5;rw[g,k];rfl,λc l=>l⟩))
def MX{s:Nat->Bool}{D:aa->Prop}{d:Nat}{n:dN}(G:b[d]? =J n)(R:∀(a:Nat) (S:dN) z A,b[a]? =J S->S.op≠ .select z A)
 (ag:∀ah i c,¬Q (.panic ah) i c)(ai:∀i c,¬Q .outgrown i c)(U:s d=ao->∀c,D c->bN c):
 ∀(t:Nat) (e:Array Bool) (i:Act) (c:aa),D c->sr b e->(∀(e:Array Bool) (a:Nat),sr b e->a∈n_ .any b e->a≠d->e.getD d ao=af\/(∀c,D c)\/oD b a=af\/(s a=ao/\∀c,bN c->D c))->
  (∀a o,b[a]? =J o->a≠d->e.getD a af=ao->(∀j∈o.after,IC .any j=af->j.on≠d)->n.apart b o=af)->
  d∈n_ .any b e->qO P b D n v i->
  n0 r P b Q bN s t (e.setIfInBounds d af) (i.put n.dst v) c->n0 r P b Q bN s (t+1) e i c:=by
 intro t
 induction t with
 |zero=>
  intro e i c u K L _ m E H;refine⟨λM=>(by rw[M]at m;cases m),λa w=>?_⟩;by_cases k:a=d
  ·subst k;exact E.db G u ⟨λl=>U l c u,λ_=>F,H⟩
  ·have:=XI w k;rw[H.1]at this;cases this
 |succ t ih=>
  intro e i c u K L V m E H;refine⟨λM=>(by rw[M]at m;cases m),λa w=>?_⟩;by_cases k:a=d
  ·subst k;exact E.db G u ⟨λl=>U l c u,λ_=>F,H⟩
  ·have g:=H.2 a (XI w k);obtain⟨W,o,O,aj⟩:=AR.1 w;have ak:∀j∈o.after,IC .any j=af->j.on≠d:=λj am an ap=>by
    have g:=aj j am an;have l:=(AR.1 m).1;rw[ap]at g;rcases fx d e.size with p|p
    ·simp[p]at l g;rw[l]at g;cases g
    ·simp[WT p]at g
   have g:rj (iD r) 0 P b Q a (λx h=>D h/\(s a=ao->bN h)/\(oD b a=af->h=c)/\n0 r P b Q bN s t ((e.setIfInBounds d af).setIfInBounds a af) x h) (i.put n.dst v) c:=by
    rcases L e a K w k with f|f|f|f
    ·have l:=(AR.1 m).1;rcases fx d e.size with p|p
     ·simp[p]at l f;rw[l]at f;cases f
     ·simp[WT p]at f
    ·exact AT (λx h q=>⟨f h,q⟩) g
    ·exact AT (λx h q=>⟨by rw[q.2.1 f];exact u,q⟩) g
    ·exact AT (λx h q=>⟨f.2 h (q.1 f.1),q⟩) g
   have f:=afc O (V a o O k W ak) (λz A=>R d n z A G) (λz A=>R a o z A O) ag ai E g;have aq:∀y ok,b[y]? =J ok->y≠d->(e.setIfInBounds a af).getD y af=ao->
    (∀j∈ok.after,IC .any j=af->j.on≠d)->n.apart b ok=true:=λy ok ar au ab av=>by
    refine V y ok ar au ?_ av;by_cases ae:a=y
    ·subst ae;exact W
    ·rw[XG af ae]at ab;exact ab
   refine AT (λx h B=>⟨B.2.2.1,B.2.2.2.1,ih (e.setIfInBounds a af) x h B.2.1 (K.ax w) L aq (XI m (Ne.symm k)) B.1 ?_⟩) f;rw[Array.setIfInBounds_comm _ _ k];exact B.2.2.2.2
variable{x e:c_}{c:lT}
def zg{i:Nat}{j:c_->aa->Prop}{g:Nat}{l:fr}{h:List Nat}{f:Act}{a:aa}{d:dN}{v:Array Bool}{s:Nat->Bool}
 (B:vV i b.toList=af)(D:∀d∈b.toList,∀w,d.dst=J w->w∈h)
 (ih:∀(e:c_) (f:Act) (a:aa),bN a->lp b f c->hy i f e->iW h x e->hT P b bN l e a j->n0 r P b (pG i x h j) bN s l.bl (v.setIfInBounds g af) f a)
 (m:b[g]? =J d)(t:ni d=ao)(E:o6 c d=af)(F:nM b c d=af)(y:lp b f c)(z:hy i f e)(G:iW h x e)
 (k:uH P b bN g e a (λe a=>hT P b bN l e a j)):
 rj (iD r) 0 P b (pG i x h j) g (λf p=>(s g=ao->bN p)/\(oD b g=af->p=a)/\n0 r P b (pG i x h j) bN s l.bl (v.setIfInBounds g af) f p) f a:=by
 have k:hN P d (fA e) a λn a=>bN a/\hT P b bN l (put e d.dst n) a j:=by
  have q:sS d=false:=by
   cases q:sS d with
   |false=>rfl
   |true=>unfold sS at q;unfold ni at t;split at q<;>simp_all
  unfold uH at k;rw[m]at k;simp only [q,t,cond_false]at k;exact k
 unfold rj;simp only [m];rw[au (zl y E)];refine An (zK ?_ (by rw[z.bP];exact s4 k));intro n p u;exact⟨λ_=>u.1,λo=>(by unfold oD at o;rw[m]at o;dsimp only at o;rw[t]at o;cases o),ih _ _ _ u.1 (y.put n F) (z.put _ n (vW B (nR m))) (G.a (vZ e d.dst n h (D d (nR m))) (λH A=>⟨A,A⟩)) u.2⟩
def agG{i:Nat}{j:c_->aa->Prop}{g:Nat}{m:fr}{h:List Nat}{d:Act}{f:aa}{a:dN}{s:Array Bool}{n:Nat->Bool}
 (y:vV i b.toList=af)(z:∀a∈b.toList,∀t,a.dst=J t->t∈h)(A:n g=af)
 (ih:∀(e:c_) (d:Act) (f:aa),lp b d c->hy i d e->iW h x e->hT P b bN m e f j->n0 r P b (pG i x h j) bN n m.bl (s.setIfInBounds g af) d f)
 (o:b[g]? =J a)(B:ni a=ao)(D:o6 c a=af)(E:nM b c a=af)(u:lp b d c)(v:hy i d e)(F:iW h x e)
 (p:hN P a (fA e) f λk f=>hT P b bN m (put e a.dst k) f j):
 rj (iD r) 0 P b (pG i x h j) g (λd q=>(n g=ao->bN q)/\(oD b g=af->q=f)/\n0 r P b (pG i x h j) bN n m.bl (s.setIfInBounds g af) d q) d f:=by
 unfold rj;simp only [o];rw[au (zl u D)];refine An (zK ?_ (by rw[v.bP];exact s4 p));intro k q G;exact⟨λp=>(by rw[A]at p;cases p),λl=>(by unfold oD at l;rw[o]at l;dsimp only at l;rw[B]at l;cases l),ih _ _ _ (u.put k E) (v.put _ k (vW y (nR o))) (F.a (vZ e a.dst k h (z a (nR o))) (λH w=>⟨w,w⟩)) G⟩
def agH{h:Nat}{j:c_->aa->Prop}{i:Nat}{m:fr}{g:List Nat}{f:Act}{a:aa}{d:dN}{q:Array Bool}{p:Nat->Bool}
 (z:vV h b.toList=af)(A:∀d∈b.toList,∀s,d.dst=J s->s∈g)
 (ih:∀(bN:aa->Prop) (e:c_) (f:Act) (a:aa),bN a->lp b f c->hy h f e->iW g x e->hT P b bN m e a j->n0 r P b (pG h x g j) bN p m.bl (q.setIfInBounds i af) f a)
 (n:b[i]? =J d)(B:ni d=ao)(D:o6 c d=af)(E:nM b c d=af)(t:lp b f c)(u:hy h f e)(F:iW g x e)
 (G:hN P d (fA e) a λk a=>D3 bN a λbN=>hT P b bN m (put e d.dst k) a j):
 rj (iD r) 0 P b (pG h x g j) i (λf o=>(p i=ao->bN o)/\(oD b i=af->o=a)/\n0 r P b (pG h x g j) bN p m.bl (q.setIfInBounds i af) f o) f a:=by
 unfold rj;simp only [n];rw[au (zl t D)];refine An (zK ?_ (by rw[u.bP];exact s4 G));rintro k o ⟨H,v,w,K⟩;exact⟨λ_=>v _ w,λl=>(by unfold oD at l;rw[n]at l;dsimp only at l;rw[B]at l;cases l),Wr v _ _ _ _ (ih H _ _ _ w (t.put k E) (u.put _ k (vW z (nR n))) (F.a (vZ e d.dst k g (A d (nR n))) (λL y=>⟨y,y⟩)) K)⟩
def agF{aq:Nat}{ab:c_->aa->Prop}{cV:List Nat}(a3:anX b=af)(G:vV aq b.toList=af)
 (H:∀p∈b.toList,∀az,p.dst=J az->az∈cV):∀(t:fr) (k:List Nat) (bN:aa->Prop) (o:Array Bool) (n:lT) (e:c_) (f:Act) (a:aa),jB b t (s8 b k) o n=af->(t.bC=ao->bN a)->sr b o->lp b f n->hy aq f e->iW cV iZ e->
  hT P b bN t e a ab->n0 r P b (pG aq iZ cV ab) bN (y5 b (s8 b k)) t.bl o f a:=by
 have a4:∀aJ f a,¬pG aq iZ cV ab (.panic aJ) f a:=λaJ f a a5=>by cases a5.1
 have a7:∀f a,¬pG aq iZ cV ab .outgrown f a:=λf a a5=>by cases a5.1
 intro t
 induction t with
 |j=>intro k bN o n e f a c q i j h l d;exact⟨by simpa [jB]using c,F,e,h,l,d⟩
 |op y t ih=>
  intro k bN o n e f a c q i j h l d;unfold jB at c;cases g:b[y]? with
  |none=>rw[g]at c;cases c
  |some p=>
   rw[g]at c;simp only [fb]at c;obtain⟨⟨⟨m,M⟩,O⟩,R⟩:=c;cases S:ni p with
   |true=>
    rw[S]at m;simp only [cond_true,fb]at m;have d:∃v,(∀A,bN A->hN P p (fA e) A λa8 a9=>a8=v/\a9=A)/\hT P b bN t (put e p.dst v) a ab:=by
     unfold hT uH at d;rw[g]at d
     dsimp only at d
     cases aA:sS p with
     |true=>simp only [aA,cond_true]at d;obtain⟨v,aP,ak⟩:=T0 aA d;exact⟨v,λA _=>ak A,aP⟩
     |false=>simp only [aA,S,cond_false,cond_true]at d;obtain⟨v,_,ak,a0⟩:=d;exact⟨v,ak,a0⟩
    obtain⟨v,ak,a0⟩:=d;cases aK:FK p with
    |true=>
     have aB:∀A,hN P p (fA e) A λa8 a9=>a8=v/\a9=A:=by obtain⟨bg,aR,aB⟩:=T0 (ahP aK) (ak a (q F));obtain⟨rfl,_⟩:=aR;exact aB
     refine MX (D:=λ_=>True) g (Xt a3) a4 a7 (λs=>?_) t.bl o f a trivial i (λaL u ae am an=> .inr (.inl λ_=>trivial)) (Xq g m.1.2) (by simpa using m.1.1) (v:=v) (.inl ⟨zl j M,λA ae=>?_⟩) ?_
     ·exfalso;unfold y5 oD at s;rw[g]at s;simp only [S,Bool.or_true]at s;cases s
     ·rw[h.bP];exact s4 (aB A)
     ·exact ih k bN _ n _ _ _ R (λ_=>q F) (i.ax (by simpa using m.1.1)) (j.put v O) (h.put _ v (vW G (nR g))) (l.a (vZ e p.dst v cV (H p (nR g))) (λV B=>⟨B,B⟩)) a0
    |false=>
    rw[aK,yd]at m;refine MX (D:=bN) g (Xt a3) a4 a7 (λ_ a d=>d) t.bl o f a (q F) i (λaL u ae am an=>WQ m.2 ae am an) (Xq g m.1.2) (by simpa using m.1.1) (v:=v) (.inl ⟨zl j M,λA ae=>?_⟩) ?_
    ·rw[h.bP];exact s4 (ak A ae)
    ·exact ih k bN _ n _ _ _ R (λ_=>q F) (i.ax (by simpa using m.1.1)) (j.put v O) (h.put _ v (vW G (nR g))) (l.a (vZ e p.dst v cV (H p (nR g))) (λV B=>⟨B,B⟩)) a0
   |false=>
    rw[S]at m;simp only [cond_false,beq_iff_eq]at m;refine⟨λs=>(by rw[m]at s;cases s),λU W=>?_⟩;rw[m]at W;obtain rfl:U=y:=by simpa using W
    exact zg G H (λe f a z=>ih k bN _ n e f a R (λ_=>z) (i.ax (by rw[m];exact cL.2 F))) g S M O j h l d
 |skip y t ih=>
  intro k bN o n e f a c q i j h l d;unfold jB at c;cases g:b[y]? with
  |none=>rw[g]at c;cases c
  |some p=>rw[g]at c;simp only [fb]at c;obtain⟨⟨⟨⟨⟨aM,m⟩,hd⟩,M⟩,O⟩,R⟩:=c;simp only [hT,g]at d;refine MX (D:=bN) g (Xt a3) a4 a7 (λ_ a d=>d) t.bl o f a (q F) i (λaL u ae am an=>WQ hd ae am an) (Xq g m) (by simpa using aM) (v:=jc) (.inr ⟨Sv j M,F⟩) ?_;exact ih k bN _ _ _ _ _ R (λ_=>q F) (i.ax (by simpa using aM)) ((j.put _ O).bH (WC g)) (h.put _ _ (vW G (nR g))) (l.a (vZ e p.dst _ cV (H p (nR g))) (λV B=>⟨B,B⟩)) d
 |q u ap a2 ar au=>
  intro k bN o n e f a c q i j h l d;unfold jB at c;simp only [fb]at c;unfold hT at d;cases hd:qd b u with
  |none=>rw[hd]at d;exact d.elim
  |some az=>
   rw[hd]at d;rcases V3 h hd d with⟨av,aw,ay⟩|⟨av,aw,ay⟩
   ·exact ar k bN o _ _ f a c.1.2 (λE=>q (by unfold fr.bC;rw[E,yp])) i (j.bH av) (h.bW ay) (λV B=>(ay V).trans (l V B)) aw
   ·have:=au k bN o _ _ f a c.2 (λE=>q (by unfold fr.bC;rw[E,Bool.and_false])) i (j.bH av) (h.bW ay) (λV B=>(ay V).trans (l V B)) aw;rw[<-oc c.1.1]at this;exact this
 |b8 u bh ap ih=>
  intro k bN o n e f a c q i j h l d;unfold jB at c;unfold hT at d;cases hd:qd b u with
  |none=>rw[hd]at d;exact d.elim
  |some az=>rw[hd]at d;obtain⟨av,aw⟩:=SS d;exact ih k bN o _ e f a c (λE=>q E) i (j.bH (Hz h hd av)) h l aw
 |en U ap u a2 ar au=>
  intro k bN o n e f a c q i j h l d;unfold jB at c;simp only [fb,beq_iff_eq]at c;obtain⟨⟨⟨⟨⟨aC,L⟩,w⟩,x⟩,E⟩,aD⟩:=c;have aE:ap.bl=a2.bl:=oc aC;cases ag:b[U]? with
  |none=>rw[ag]at w;cases w
  |some aS=>
  cases ah:b[u]? with
  |none=>rw[ah]at x;cases x
  |some aT=>
   rw[ag]at w;rw[ah]at x;simp only [fb,sb]at w x;obtain⟨aF,aG⟩:=d;refine⟨λs=>(by rw[L]at s;cases s),λy K=>?_⟩;rw[L]at K;rcases df.1 K with rfl|K
   ·exact zg G H (λe f a z=>ar k bN _ n e f a E (λ_=>z) (i.ax (by rw[L];exact dv))) ag w.1.1 w.1.2 w.2 j h l aF
   ·obtain rfl:y=u:=by simpa using K
    have:=zg G H (λe f a z=>au k bN _ n e f a aD (λ_=>z) (i.ax (by rw[L];exact ey _ (cL.2 F)))) ah x.1.1 x.1.2 x.2 j h l aG;rw[<-aE]at this;exact this
 |pY U ap u a2 aN aU ar au aV=>
  intro k bN o n e f a c q i j h l d;unfold jB at c;simp only [fb,beq_iff_eq]at c;obtain⟨⟨⟨⟨⟨⟨⟨⟨aC,aY⟩,L⟩,w⟩,x⟩,ai⟩,E⟩,aD⟩,aZ⟩:=c;have aE:ap.bl=a2.bl:=oc aC;have ba:ap.bl=aU.bl:=oc aY;cases ag:b[U]? with
  |none=>rw[ag]at w;cases w
  |some aS=>
  cases ah:b[u]? with
  |none=>rw[ah]at x;cases x
  |some aT=>
  cases aH:b[aN]? with
  |none=>rw[aH]at ai;cases ai
  |some ok=>
   rw[ag]at w;rw[ah]at x;rw[aH]at ai;simp only [fb,sb]at w x ai;obtain⟨aF,aG,bb⟩:=d;refine⟨λs=>(by rw[L]at s;cases s),λy K=>?_⟩;rw[L]at K;rcases df.1 K with rfl|K
   ·exact zg G H (λe f a z=>ar k bN _ n e f a E (λ_=>z) (i.ax (by rw[L];exact dv))) ag w.1.1 w.1.2 w.2 j h l aF
   ·rcases df.1 K with rfl|K
    ·have:=zg G H (λe f a z=>au k bN _ n e f a aD (λ_=>z) (i.ax (by rw[L];exact ey _ dv))) ah x.1.1 x.1.2 x.2 j h l aG;rw[<-aE]at this;exact this
    ·obtain rfl:y=aN:=by simpa using K
     have:=zg G H (λe f a z=>aV k bN _ n e f a aZ (λ_=>z) (i.ax (by rw[L];exact ey _ (ey _ (cL.2 F))))) aH ai.1.1 ai.1.2 ai.2 j h l bb;rw[<-ba]at this;exact this
 |bj y t ih=>
  intro k bN o n e f a c q i j h l d;unfold jB at c;cases g:b[y]? with
  |none=>rw[g]at c;cases c
  |some p=>
   rw[g]at c;simp only [fb,beq_iff_eq]at c;obtain⟨⟨⟨⟨⟨⟨m,S⟩,bc⟩,bd⟩,M⟩,O⟩,R⟩:=c;have aj:hN P p (fA e) a λv a=>hT P b bN t (put e p.dst v) a ab:=by simp only [hT,g]at d;exact d
   clear q;refine⟨λs=>(by rw[m]at s;cases s),λU W=>?_⟩;rw[m]at W;obtain rfl:U=y:=by simpa using W
   exact agG G H (by unfold y5;rw[bc];rfl) (λe f a=>ih k bN _ n e f a R (λE=>by rw[bd]at E;cases E) (i.ax (by rw[m];exact cL.2 F))) g (by simpa using S) M O j h l aj
 |s5 y t ih=>
  intro k bN o n e f a c q i j h l d;unfold jB at c;cases g:b[y]? with
  |none=>rw[g]at c;cases c
  |some p=>
   rw[g]at c;simp only [fb,beq_iff_eq]at c;obtain⟨⟨⟨⟨m,S⟩,M⟩,O⟩,R⟩:=c;have aj:hN P p (fA e) a λv a=>D3 bN a λbN=>hT P b bN t (put e p.dst v) a ab:=by simp only [hT,g]at d;exact d
   refine⟨λs=>(by rw[m]at s;cases s),λU W=>?_⟩;rw[m]at W;obtain rfl:U=y:=by simpa using W
   exact agH G H (λaI e f a z=>ih k aI _ n e f a R (λ_=>z) (i.ax (by rw[m];exact cL.2 F))) g (by simpa using S) M O j h l aj
 |oE t ih=>
  intro k bN o n e f a c q i j h l d;unfold jB at c;rw[fb]at c;obtain⟨aI,am,an⟩:=d;refine Wq _ _ _ _ (λu aO=>?_) (ih t.aW aI o n e f a c.2 (λ_=>am) i j h l an);have be:u<o.size:=by
   rcases fx u o.size with aj|aj
   ·exact aj
   ·simp[WT aj]at aO
  have:=wv.1 c.1 u (List.mem_range.2 be);rw[aO,yd]at this;unfold y5;rw[Bool.or_comm];exact this
end agI
def KV(c:Nat->Z)(d:c_)(a:Nat):∀(b:List Nat),b3 (sU b (b.map c) d) a=if a∈b then c a else b3 d a
 |[]=>by simp[sU]
 |f::b=>by
  simp only [eB,sU,av,bA];rw[BP,KV c d a b];by_cases e:f=a
  ·subst e;simp
  ·have g:a≠f:=λh=>e h.symm;simp[e,g]
def S9{e:c_}{b c:List Nat}{cV:List Nat}(h:iW cV x e)(i:cV.all (λj=>(b++c).contains j)=af)(a:Nat):
 b3 (sU b (b.map (b3 e)) (sU c (c.map (b3 e)) x)) a=b3 e a:=by
 rw[KV,KV];by_cases d:a∈b
 ·rw[au d]
 ·rw[an d];by_cases f:a∈c
  ·rw[au f]
  ·rw[an f];refine(h a λk=>?_).symm;have:=wv.1 i a k;simp only [List.contains_eq_mem,b9,dF]at this;rcases this with g|g
   ·exact d g
   ·exact f g
def yu(b:Nat)(c:c_)(cV:List Nat)(Q:ll->c_->aa->Prop):ll->Act->aa->Prop:=λd e f=>∃a,hy b e a/\iW cV c a/\Q d a f
def yu.o{n:Nat}{cV b:List Nat}{Q:ll->c_->aa->Prop}{e:ll}{a:Act}{w:aa}(h:yu n bR cV Q e a w)(hd:∀d,d∈cV->d∈b):yu n bR b Q e a w:=
 let⟨f,g,i,j⟩:=h
 ⟨f,g,λc k=>i c λl=>k (hd c l),j⟩
def Tu{b:List dN}:∀a∈b,∀c,a.dst=J c->c∈Gk b:=λa d _ hd=>IB.2 ⟨a,d,hd⟩
variable{x:lj}
def Ag{P:bq}{a:Frame}{b:Act}{c:List Item}{d:List Frame}{e:aa}:step P (lone (a.atR b (.code (uS x)::c)) d e)= .next (lone (a.atR b (.code x:: .inScope x::c)) d e):=
 step_lone_go (by simp[stepG,stepG.exec,Frame.atR])
def alU{P:bq}{a:Frame}{b:Act}{c:List Item}{d:List Frame}{e:aa}:step P (lone (a.atR b (.inScope x::c)) d e)= .next (lone (a.atR b c) d e):=
 step_lone_go (by simp[stepG,stepG.exec,Frame.atR])
def amX{g:Fence}{n:Nat}{P:bq}{Q:ll->Act->aa->Prop}{h:Act}{i:aa}(s:x.wpIn g n P (Exit.noGoto Q) h i):(uS x).wpIn g n P Q h i:=by
 intro o f p t j k;have a:(lone (o.atR h (.code (uS x)::f)) p i).fenced P g:=fenced_calm j k F;obtain⟨u,d,e,b,c⟩:=s o (.inScope x::f) p t j k;cases u with
 |normal=>exact⟨hX,d,e,b,.head a Ag (StepsIn.trans c (.one (fenced_calm j k F) alU))⟩
 |exit l=>
  have q:exitTo l (.inScope x::f)=exitTo l f:=by simp[exitTo]
  exact⟨.exit l,d,e,b,λv m=> .head a Ag (c.1 v (by rw[q];exact m)),λw m=>let⟨k₁,y,z⟩:=c.2 w (by rw[q];exact m);⟨k₁,y,.head a Ag z⟩⟩
 |goto A=>exact b.elim
 |ret=>exact⟨_,d,e,b,.of_steps (.one a Ag) c⟩
 |panic B=>exact⟨_,d,e,b,.of_steps (.one a Ag) c⟩
 |outgrown=>exact⟨_,d,e,b,.of_steps (.one a Ag) c⟩
def tW{P:bq}{r:Option Nat}{n:Nat}(am:P.follows wx=af):∀(G:pH) (c:lj) (bR:c_) (d:Act) (w:aa) (Q:ll->c_->aa->Prop),
 jX n G c=af->hy n d bR->nJ P G c bR w Q->c.wpIn (iD r) 0 P (yu n bR (mn c) Q) d w:=by
 intro G
 induction G with
 |rX=>
  intro c bR d w Q a e g;cases c<;>simp only [jX,j1]at a
  case skip=>exact wpIn_skip ⟨bR,e,iW.p _ _,g⟩
  case exit id=>exact wpIn_exit ⟨bR,e,iW.p _ _,g⟩
  case label aD=>exact wpIn_label ⟨bR,e,iW.p _ _,g⟩
  case ret=>exact wpIn_ret ⟨bR,e,iW.p _ _,g⟩
  case refuse=>exact g.elim
 |np H=>
  intro c bR d w Q a e g;cases c<;>simp only [jX,j1]at a
  case region id b K=>
   simp only [fb]at a;have hd:K=false:=by simpa using a.1.1
   subst hd;have:=ajk (r:=r) (iZ:=bR) (cV:=Gk b.toList) a.1.2 Tu H 0 [] bR d w a.2 (lp.nil _ _) e (iW.p _ _) g;rw[M9,<-anf]at this;refine mF (wpIn_region this) ?_;rintro l q o ⟨rfl,h,j,i,k⟩;exact⟨h,j,i,k⟩
 |BG H=>
  intro c bR d w Q a e g;cases c<;>simp only [jX,j1]at a
  case region id b K=>
   simp only [fb]at a;obtain⟨⟨⟨⟨hd,ap⟩,aq⟩,ar⟩,av⟩:=a;subst hd;obtain⟨bN,aw,s⟩:=g;have ay:sr b (AM b.size ao):=λaE aF _ O=>by rw[Au,WS]at O;split at O<;>cases O
   have:=agF (r:=r) (iZ:=bR) (cV:=Gk b.toList) aq ap Tu H H.aW bN (AM b.size ao) [] bR d w.drew av (λ_=>aw) ay (lp.nil _ _) e (iW.p _ _) s;rw[oc ar]at this;refine mF (wpIn_region_any am (Ws _ _ _ _ this)) ?_;rintro l q o ⟨rfl,h,j,i,k⟩;exact⟨h,j,i,k⟩
 |seq L W A B=>
  intro c bR d w Q a e g;cases c<;>simp only [jX,j1]at a
  case seq m z=>
   rw[fb]at a;refine wpIn_seq (mF (A m bR d w _ a.1 e g) ?_);rintro l q o ⟨h,j,i,k⟩;cases l with
   |normal=>refine mF (B z h q o Q a.2 j k) ?_;rintro az R ab ⟨t,u,D,v⟩;exact⟨t,u,i.a D (λf p=>by simpa [mn]using p),v⟩
   |_=>exact⟨h,j,λf p=>i f (λs=>p (hY _ s)),k⟩
 |join x S L W A B=>
  intro c bR d w Q a e g;cases c<;>simp only [jX,j1]at a
  case seq m z=>
   simp only [fb]at a;obtain⟨⟨a0,a2⟩,a3⟩:=a;obtain⟨aG,a4,a5⟩:=g;refine wpIn_seq (mF (A m bR d w _ a2 e a4) ?_);rintro l q o ⟨h,j,i,k⟩;cases l with
   |normal=>
    have a7:=E1 _ _ (E1 _ _ a5 (x.map (b3 h)) ae) (S.map (b3 h)) ae o k;have E:=S9 i a0;refine mF (B z _ q o Q a3 (j.bW E) a7) ?_;rintro az R ab ⟨t,u,D,v⟩;refine⟨t,u,λf p=>?_,v⟩;have ag:f∉mn m/\f∉mn z:=by simpa [mn]using p
    exact(D f ag.2).trans ((E f).trans (i f ag.1))
   |_=>exact⟨h,j,λf p=>i f (λs=>p (hY _ s)),k⟩
 |cond L W A B=>
  intro c bR d w Q a e g;cases c<;>simp only [jX,j1]at a
  case cond f m z=>
   rw[fb]at a;rcases Vo g with⟨y,s⟩|⟨y,s⟩
   ·refine wpIn_cond_true ((e.cb f).trans y) (mF (A m bR d w Q a.1 e s) ?_);exact λl q o U=>yu.o U (λK hd=>hY _ hd)
   ·refine wpIn_cond_false ((e.cb f).trans y) (mF (B z bR d w Q a.2 e s) ?_);exact λl q o U=>yu.o U (λK hd=>lo _ hd)
 |sub L ih=>
  intro c bR d w Q a e g;cases c<;>simp only [jX,j1]at a
  case block id m=>
   refine wpIn_block (mF (ih m bR d w _ a e g) ?_);rintro l q o ⟨h,j,i,k⟩;cases l with
   |exit M=>
    show(if M=id then _ else _);by_cases l:M=id
    ·subst l;rw[au F];refine⟨h,j,i,?_⟩
     simpa [zI]using k
    ·rw[an l];refine⟨h,j,i,?_⟩;have y:kS M id=false:=by
      cases a8:kS M id with
      |true=>exact aL (oc a8) l
      |false=>rfl
     simpa [zI,y]using k
   |_=>exact⟨h,j,i,k⟩
  case scope m=>
   refine amX (mF (ih m bR d w _ a e g) ?_)
   ·rintro l q o ⟨h,j,i,k⟩;cases l<;>first|exact(k:False).elim|exact⟨h,j,i,k⟩
 |loop x S L ih=>
  intro c bR d w Q a e g;cases c<;>simp only [jX,j1]at a
  case loop m=>
   rw[fb]at a;obtain⟨a9,aA,aB,aC⟩:=g;have ah:∀(d:Act) (bR:c_),hy n d bR->x.map (λf=>d.tmps.getD f jc)=x.map (b3 bR):=λd bR e=>List.map_congr_left λf _=>e.2.2 f;refine wpIn_loop (λd w=>∃h,hy n d h/\iW (mn m) bR h/\a9 (x.map (b3 h)) w) (λd w=>aA (x.map (λf=>d.tmps.getD f jc)) w) ⟨bR,e,iW.p _ _,aB⟩ ?_;rintro ai aj ⟨V,j,i,k⟩;have y:=E1 _ _ (E1 _ _ aC (x.map (b3 V)) ae) (S.map (b3 V)) ae aj k;have E:=S9 i a.1;refine mF (ih m _ ai aj _ a.2 (j.bW E) y) ?_;rintro l R ab ⟨t,u,D,v⟩;have ak:iW (mn m) bR t:=λf p=>(D f p).trans ((E f).trans (i f p));cases l with
   |normal=>exact⟨⟨t,u,ak,v.1⟩,by rw[ah R t u,ah ai V j];exact v.2⟩
   |_=>exact⟨t,u,ak,v⟩
def m0:Nat->List Z->c_
 |_,[]=>[]
 |a,b::c=>(a,b)::m0 (a+1) c
def CJ(P:bq)(j:List W8)(b:c_)(a:aa)(h:aU):Prop:=
 let _:=@hN
 match j with
 |[]=>h (a1 #[]) a
 |[.tmp c]=>h (b3 b c) a
 |[.cell g c]=>bU P c (b3 b g) a λd e=>e=a/\h d a
 |[.tmp c,.tmp f]=>h (a1 #[b3 b c,b3 b f]) a
 |[.cell g c,.tmp f]=>bU P c (b3 b g) a λd e=>e=a/\h (a1 #[d,b3 b f]) a
 |[.tmp c,.tmp f,.tmp d]=>h (a1 #[b3 b c,b3 b f,b3 b d]) a
 |[.cell g c,.tmp f,.tmp i]=>bU P c (b3 b g) a λd e=>e=a/\h (a1 #[d,b3 b f,b3 b i]) a
 |[.tmp f,.cell g c]=>bU P c (b3 b g) a λd e=>e=a/\h (a1 #[b3 b f,d]) a
 |[.tmp f,.cell g c,.tmp i]=>bU P c (b3 b g) a λd e=>e=a/\h (a1 #[b3 b f,d,b3 b i]) a
 |[.tmp f,.tmp i,.cell g c]=>bU P c (b3 b g) a λd e=>e=a/\h (a1 #[b3 b f,b3 b i,d]) a
 |[.tmp f,.tmp i,.cell g c,.tmp k]=>bU P c (b3 b g) a λd e=>e=a/\h (a1 #[b3 b f,b3 b i,d,b3 b k]) a
 |[.cell g c,.cell l m]=>bU P c (b3 b g) a λd e=>e=a/\bU P m (b3 b l) a λf e=>e=a/\h (a1 #[d,f]) a
 |_=>False
def zU(P:bq)(a:List W8)(b:aU)(e:ll)(c:c_)(d:aa):Prop:=
 let _:=@hN
 match e with
 |hX=>CJ P a c d b
 | .ret=>CJ P a c d b
 |_=>False
def lu(fn:Func):Code:=match fn.body with|some a=>a|none=> .skip
def KD:∀(args:List Z) (a b:Nat),b3 (m0 a args) b=if a<=b then(args[b-a]?).getD jc else jc
 |[],a,b=>by simp[m0,b3]
 |f::e,a,b=>by
  simp only [m0];rw[BP,KD e (a+1) b];by_cases c:a=b
  ·subst c;simp
  ·rw[an c];by_cases d:a<=b
   ·rw[au G,au d];have:b-a=(b-(a+1))+1:=G;rw[this,pk]
   ·rw[an G,an d]
def uA{x:cv}{e:Z}{P:bq}{c:aa}{h:Z->Prop}(a:bU P x e c λb f=>f=c/\h b):
 ∃d b,e=ad (J d)/\(M8 x d).run P c= .ok b c/\h b:=by
 unfold bU bM Ob at a;cases e with
 |pointer i=>
  cases i with
  |none=>simp[rh,stuck]at a
  |some d=>
   simp only [rh,fN,oa,jI]at a;cases g:(M8 x d).run P c with
   |ok b f=>rw[g]at a;obtain⟨rfl,j⟩:=a;exact⟨d,b,F,g,j⟩
   |halt i f=>rw[g]at a;exact a.elim
 |_=>simp[rh,stuck]at a
def GB{fn:Func}{P:bq}{j:Act}{w:aa}{n:Nat}(m:hy n j bR)(a:CJ P fn.results.toList bR w K):
 ∃f,(qh fn j.tmps).run P w= .ok f w/\K f w:=by
 obtain⟨k,e⟩:∃k,fn.results=Array.mk k:=⟨fn.results.toList,ae⟩;have o:fn.results.toList=k:=by rw[e]
 rw[o]at a;have g:∀i,j.tmps.getD i jc=b3 bR i:=m.2.2;unfold CJ at a;split at a
 ·exact⟨_,by simp[qh,e],a⟩
 ·exact⟨_,by simp[qh,e,g],a⟩
 ·rename_i l i
  obtain⟨h,f,b,c,d⟩:=uA a;exact⟨f,by simp[qh,e,g,b,ya,c],d⟩
 ·exact⟨_,by simp[qh,e,g],a⟩
 ·rename_i l i p
  obtain⟨h,f,b,c,d⟩:=uA a;exact⟨_,by simp[qh,e,g,b,ya,c],d⟩
 ·exact⟨_,by simp[qh,e,g],a⟩
 ·rename_i l i p u
  obtain⟨h,f,b,c,d⟩:=uA a;exact⟨_,by simp[qh,e,g,b,ya,c],d⟩
 ·obtain⟨h,f,b,c,d⟩:=uA a;exact⟨_,by simp[qh,e,g,b,ya,c],d⟩
 ·obtain⟨h,f,b,c,d⟩:=uA a;exact⟨_,by simp[qh,e,g,b,ya,c],d⟩
 ·obtain⟨h,f,b,c,d⟩:=uA a;exact⟨_,by simp[qh,e,g,b,ya,c],d⟩
 ·obtain⟨h,f,b,c,d⟩:=uA a;exact⟨_,by simp[qh,e,g,b,ya,c],d⟩
 ·obtain⟨h,f,b,c,d⟩:=uA a;obtain⟨v,x,q,s,t⟩:=uA d;exact⟨_,by simp[qh,e,g,b,q,ya,c,s],t⟩
 ·exact a.elim
variable{x:nA}{e:Func}{c:lj}
def afX{d:pH}{P:bq}{args:List Z}{b:aa}(l:P.follows wx=af)
 (m:P.funcs[x]? =J e)(n:e.body=J c)(o:HD args.length e.ntmps=af)(p:jX e.ntmps d c=af)
 (q:nJ P d c (m0 0 args) b (zU P e.results.toList K)):pz P x args b K:=by
 unfold pz;refine calls_of_wp m n (wp_mono (wpIn_wide.1 (tW (r:=ac) (n:=e.ntmps) l d c (m0 0 args) _ b _ p ⟨F,?_,?_⟩ q)) ?_)
 ·have:=Nat.le_of_ble_eq_true o;simp;omega
 ·intro j;rw[KD,au (ec _)];simp only [M9,Au];rw[Array.getElem?_append];by_cases k:j<args.length
  ·simp[k]
  ·rw[an (by simpa using k)];have:args[j]? =none:=j2 G;rw[this];rw[WS];split<;>rfl
 ·rintro s u v ⟨w,a,_,f⟩;cases s<;>first|exact f.elim|skip
  case normal=>obtain⟨g,h,i⟩:=GB a f;exact⟨a.1,g,h,i⟩
  case ret=>obtain⟨g,h,i⟩:=GB a f;exact⟨a.1,g,h,i⟩
def L8{P:bq}{args:List Z}{a:aa}(b:P.funcs[x]? =J e)(d:(e.name== "runtime.NumGoroutine")=ao)(f:e.body=J c)
 (g:pz P x args a K):ak P x args a K:=by
 have h:e.name≠ "runtime.NumGoroutine":=by simpa using d
 unfold ak yb;simp[b,h,f,program,As];exact g
def ak.o{P:bq}{f:nA}{args:List Z}{w:aa}{K a:aU}(h:ak P f args w K)(b:∀c d,K c d->a c d):ak P f args w a:=by
 unfold ak at*;split at h
 ·exact h.o b
 ·exact b _ _ h
 ·exact h.elim
def Vj{c:pH}{P:bq}{args:List Z}{a:aa}{S:Prop}(FB:P.follows wx=af)
 (xB:P.funcs[x]? =J e)(d:(e.name== "runtime.NumGoroutine")=ao)(b:e.body=J (lu e))(f:HD args.length e.ntmps=af)(g:jX e.ntmps c (lu e)=af)
 (h:S=nJ P c (lu e) (m0 0 args) a (zU P e.results.toList K))(i:S):ak P x args a K:=
 L8 xB d b (afX FB xB b f g (h▸i))
def h_{P:bq}{args:List Z}{a:aa}{S:Prop}
 (c:P.funcs[x]? =J e)(b:uZ)(d:S)(f:P.follows wx=true:=by kernel_rfl)(g:(e.name== "runtime.NumGoroutine")=false:=by kernel_rfl)(h:e.body=J (lu e):=by rfl)(i:HD args.length e.ntmps=true:=by rfl)
 (j:jX e.ntmps (p6 b (lu e)) (lu e)=true:=by kernel_rfl)(k:S=nJ P (p6 b (lu e)) (lu e) (m0 0 args) a (zU P e.results.toList K):=by kernel_rfl):ak P x args a K:=
 Vj f c g h i j k d
def ak4{P:bq}{args:List Z}{a:aa}{aq:aa}(b:(yb x args.toArray).run P a= .ok (.value v) aq)(c:K v aq):ak P x args a K:=by unfold ak;rw[b];exact c
def z7{P:bq}{args:List Z}{f:aa}{g:Ending->aa->Prop}(h:P.funcs[x]? =J e)(i:(e.name== "runtime.NumGoroutine")=ao)(j:e.body=J c)
 (k:Calls P x args.toArray f g)(l:∀a b,g a b->∃d,a=oJ d/\K d b):ak P x args f K:=by
 refine L8 h i j ?_;unfold pz;refine Iz k λa b m=>?_;obtain⟨d,rfl,n⟩:=l a b m;exact n
attribute [irreducible] ak bM
end Go.Lift
namespace Go.Lift
open Go Go.RowKit
def sG(P:bq)(T:cv):Bool:=match P.underlying T with|some (ql _)=>true|some (.array _ _)=>true|_=>false
def cg(P:bq)(T:cv):Nat:=match P.info? T with|some a=>a.size|none=>0
def fI(P:bq)(T:cv):Nat:=match P.info? T with|some a=>a.bytes|none=>0
def cM(P:bq)(T:cv):Option (List Z):=match P.info? T with|some a=>a.zero.map λb=>b.cells.toList|none=>none
def ew(P:bq)(T:cv):Option Nat:=match P.underlying T with|some (.slice e)=>some e|_=>none
def eu(P:bq)(T:cv):Bool:=match P.underlying T with|some (ql _)=>false|some (.array _ _)=>false|some _=>true|none=>false
def ed(P:bq)(T:cv):Option Nat:=match P.underlying T with|some (ql _)=>(P.info? T).map (·.size)|some (.array _ _)=>(P.info? T).map (·.size)|_=>none
def bg(P:bq)(T:cv)(b:Nat):Option Nat:=match P.underlying T with|some (ql c)=>(match c[b]? with|some a=>(match P.info? a.type with|some d=>if d.size=0 then none else some a.offset|none=>none)|none=>none)|_=>none
def qQ(P:bq)(T:cv):Option (Nat×Nat):=match P.underlying T with|some (.array a e)=>some (a,e)|_=>none
section
variable{P:bq} {T:cv} {dX ev:Bool} {w:aa} {K:aU} {k:hF}
def nS(op:BinOp)(k:hF)(a b:Int):Sem Value:=
 match op with
 |iA|po| .mul=>Nb op k a b
 | .quo| .rem=>HJ op k a b
 | .and| .or| .xor| .andNot=>Op.intBits op k a b
 |_=>Aw op a b
def qa(op:BinOp)(a b:Int)(c:op≠ .shl)(d:op≠ .shr):b7 P op T dX ev (I k a) (I k b) w K=bM P (nS op k a b) w K:=by
 have f:pv op T (I k a) (I k b)=nS op k a b:=by cases op<;>first|exact aL F c|exact aL F d|simp[pv,nS]
 have g:(jK op T (bif dX then h7 (I k a)else hZ 0) (bif ev then h7 (I k b)else hZ 0) (I k a) (I k b)).run P w= .ok () w:=by unfold jK;cases op<;>simp
 unfold b7 bM;rw[fN,g,jI,f]
def aR(a b:Int):b7 P n3 T dX ev (I k a) (I k b) w K=K (ax (decide (a<b))) w:=by rw[qa _ _ _ g g];simp[bM,nS,Aw]
def fg(a b:Int):b7 P .leq T dX ev (I k a) (I k b) w K=K (ax (decide (a<=b))) w:=by rw[qa _ _ _ g g];simp[bM,nS,Aw]
def cb(a b:Int):b7 P .gtr T dX ev (I k a) (I k b) w K=K (ax (decide (b<a))) w:=by rw[qa _ _ _ g g];simp[bM,nS,Aw]
def eE(a b:Int):b7 P .geq T dX ev (I k a) (I k b) w K=K (ax (decide (b<=a))) w:=by rw[qa _ _ _ g g];simp[bM,nS,Aw]
def bm(a b:Int):b7 P gZ T dX ev (I k a) (I k b) w K=K (ax (decide (a=b))) w:=by rw[qa _ _ _ g g];simp[bM,nS,Aw];rfl
def bs(a b:Int):b7 P mb T dX ev (I k a) (I k b) w K=K (ax (!decide (a=b))) w:=by rw[qa _ _ _ g g];simp[bM,nS,Aw,bne];rfl
def CR(a b:Int):b7 P iA T dX ev (I k a) (I k b) w K=K (I k (k.wrap (a+b))) w:=by rw[qa _ _ _ g g];simp[bM,nS,Nb]
def Vg(a b:Int):b7 P po T dX ev (I k a) (I k b) w K=K (I k (k.wrap (a-b))) w:=by rw[qa _ _ _ g g];simp[bM,nS,Nb]
def Va(a b:Int):b7 P .mul T dX ev (I k a) (I k b) w K=K (I k (k.wrap (a*b))) w:=by rw[qa _ _ _ g g];simp[bM,nS,Nb]
abbrev pA(a:Int):Prop:=-9223372036854775808<=a/\a<=9223372036854775807
def tf(a b:Int)(c:pA (a+b)):b7 P iA T dX ev (I X a) (I X b) w K=K (I X (a+b)) w:=by rw[CR,HI _ c]
def aD{a b:Int}(h:pA (a+b):=by exact⟨by omega,by omega⟩):b7 P iA T dX ev (I X a) (I X b) w K=K (I X (a+b)) w:=tf a b h
def Vf(a b:Int)(c:pA (a-b)):b7 P po T dX ev (I X a) (I X b) w K=K (I X (a-b)) w:=by rw[Vg,HI _ c]
def cd{a b:Int}(h:pA (a-b):=by exact⟨by omega,by omega⟩):b7 P po T dX ev (I X a) (I X b) w K=K (I X (a-b)) w:=Vf a b h
def ak0(a b:Int)(c:pA (a*b)):b7 P .mul T dX ev (I X a) (I X b) w K=K (I X (a*b)) w:=by rw[Va,HI _ c]
def CS(a b:Int)(c:0<=a)(h:0<b)(i:a<=9223372036854775807):b7 P .quo T dX ev (I X a) (I X b) w K=K (I X (a/b)) w:=by
 rw[qa _ _ _ g g];have d:a.tdiv b=a/b:=by rw[Int.tdiv_eq_ediv_of_nonneg c]
 have j:a/b<=a:=Int.ediv_le_self b c;have l:0<=a/b:=Int.ediv_nonneg c G;have f:b≠0:=G;simp[bM,nS,HJ,f,d,HI (a/b) ⟨G,G⟩]
def L6(a b:Int)(c:0<=a)(d:0<b)(i:b<=9223372036854775807):b7 P .rem T dX ev (I X a) (I X b) w K=K (I X (a%b)) w:=by
 rw[qa _ _ _ g g];have f:a.tmod b=a%b:=by rw[Int.tmod_eq_emod_of_nonneg c]
 have j:a%b<b:=Int.emod_lt_of_pos a d;have l:0<=a%b:=Int.emod_nonneg a G;have h:b≠0:=G;simp[bM,nS,HJ,h,f]
def dD(b:Bool):Ab P .not (ax b) w K=K (ax (!b)) w:=by simp[Ab,bM,Op.unary]
def hV{a B:Prop}:b6 (ax af) a B=a:=rfl
def cw{A B:Prop}:b6 (ax ao) A B=B:=rfl
def ai{p:Prop}[Decidable p]{A B:Prop}:b6 (ax (decide p)) A B=((p->A)/\(¬p->B)):=by by_cases a:p<;>simp[a,hV,cw]
def bu{p:Prop}[Decidable p]{A B:Prop}:b6 (ax (!decide p)) A B=((¬p->A)/\(p->B)):=by by_cases a:p<;>simp[a,hV,cw]
def h4{p:Prop}[Decidable p]{a b:Prop}(c:p):b6 (ax (decide p)) a b=a:=by simp[c,hV]
def du{p:Prop}[Decidable p]{A B:Prop}(a:¬p):b6 (ax (decide p)) A B=B:=by simp[a,cw]
def dQ{a:Bool}{A B:Prop}:b6 (ax a) A B=((a=af->A)/\(a=ao->B)):=by cases a<;>simp[hV,cw]
def bn(a:hr):z_ (ad (J a)) w K=K (ad (J a)) w:=rfl
def aN{a:Z}{r:List Z}:e7 (a1 ⟨a::r⟩) 0 w K=K a w:=rfl
def aO{a b:Z}{r:List Z}:e7 (a1 ⟨a::b::r⟩) 1 w K=K b w:=rfl
def pc{a b c:Z}{d:List Z}:e7 (a1 ⟨a::b::c::d⟩) 2 w K=K c w:=rfl
end
abbrev O(w a:aa):Prop:=Below w.heap.size w a
def O.p(w:aa):O w w:=Below.refl _ _
def O.a{a b c:aa}(h:O a b)(k:O b c):O a c:=Below.trans h (k.mono h.size)
def O.C{a b:aa}(h:O a b):O a b.drew:=Below.drew h
def O.a1{a b:aa}(c:O a b)(d:Obj):O a (b.alloc d):=Below.alloc c c.size d
def cA(w:aa)(b y:Nat)(S:List Z):Prop:=∀a v,S[a]? =J v->w.cell? ⟨b,y+a,ac⟩=J v
variable{x:hr}
def Q4{w:aa}{v:Z}(a:w.cell? x=J v):x.block<w.heap.size:=World.block_lt_of_cell? w x a
def O.dg{w a:aa}(c:O w a){v:Z}(b:w.cell? x=J v):a.cell? x=J v:=(Below.cell c (Q4 b)).trans b
def cA.h{w a:aa}{b y:Nat}{S:List Z}(h:cA w b y S)(e:O w a):cA a b y S:=λc v bD=>e.dg (h c v bD)
def cA.f{w:aa}{b y:Nat}{S:List Z}(h:cA w b y S)(i:Nat){v:Z}(bD:S[i]? =J v):w.cell? ⟨b,y+i,ac⟩=J v:=h i v bD
def cA.U{w:aa}{b y:Nat}{S:List Z}(h:cA w b y S){v:Z}(bD:S[0]? =J v):w.cell? ⟨b,y,ac⟩=J v:=h 0 v bD
def cA.sub{w:aa}{b c:Nat}{S:List Z}(h:cA w b c S)(i n:Nat):cA w b (c+i) ((S.drop i).take n):=by
 intro d v a;rw[lN]at a;split at a
 ·rw[kQ]at a;have:=h _ v a;rwa[j4]
 ·cases a
def ag(w:aa)(b:Nat)(S:List Z):Prop:=∃T,w.heap[b]? =J (eW S.toArray T (0,0))
def ag.D{w:aa}{b:Nat}{S:List Z}(h:ag w b S):b<w.heap.size:=let⟨_,h⟩:=h;(iz.1 h).1
def ag.b{w:aa}{b:Nat}{S:List Z}(h:ag w b S):cA w b 0 S:=by obtain⟨T,h⟩:=h;intro a v bD;simp[yf,h,bD]
def ag.h{w a:aa}{b:Nat}{S:List Z}(h:ag w b S)(e:O w a):ag a b S:=by obtain⟨T,c⟩:=h;exact⟨T,(e.block b (ag.D ⟨T,c⟩)).trans c⟩
def ag.fl(w:aa)(S:List Z)(T:cv):ag (w.alloc (eW S.toArray T)) w.heap.size S:=⟨T,mE w _⟩
def O.fl(w:aa)(a:Obj):O w (w.alloc a):=(O.p w).a1 a
abbrev qN(a:Nat)(w b:aa):Prop:=w.grownBy b (J a)
def ag.ab{w a:aa}{row:Option Nat}{b:Nat}{S:List Z}(h:ag w b S)(g:w.grownBy a row)(d:J b≠row):ag a b S:=by obtain⟨T,c⟩:=h;exact⟨T,(g.block b (ag.D ⟨T,c⟩) d).trans c⟩
def O.ab{b1 w a:aa}{row:Option Nat}(h:O b1 w)(g:w.grownBy a row)(c:∀b,row=J b->b1.heap.size<=b):O b1 a:=Below.grown h g h.size c
def cA.ab{w a:aa}{row:Option Nat}{b y:Nat}{S:List Z}(h:cA w b y S)(g:w.grownBy a row)(c:J b≠row):cA a b y S:=λd v bD=>g.cell (h d v bD) c
def eb{w a:aa}(e:O w a)(row:Option Nat):w.grownBy a row:=⟨e.os,e.tape,e.output,e.size,λk b _=>e.block k b⟩
variable{P:bq}{T:cv}{w:aa}{K:aU}
def zX(a:eu P T=af):(isAgg T).run P w= .ok ao w:=by
 unfold eu at a;cases hu:P.underlying T with
 |none=>rw[hu]at a;cases a
 |some b=>rw[hu]at a;cases b<;>first|(cases a;done)|simp[isAgg,eJ hu]
def GI{b:Nat}(a:ed P T=J b):(isAgg T).run P w= .ok af w/\(j3 T).run P w= .ok b w:=by
 unfold ed at a;cases hu:P.underlying T with
 |none=>rw[hu]at a;cases a
 |some c=>
  rw[hu]at a;cases c<;>first|(cases a;done)|skip
  all_goals
   simp only [sg]at a;obtain⟨d,bD,rfl⟩:=a;exact⟨by simp[isAgg,eJ hu],by simp[j3,kO,bD]⟩
def aM{a:hr}{v:Z}(b:eu P T=af)(h:w.cell? a=J v):bU P T (ad (J a)) w K=K v w:=by simp[bU,bM,Ob,rh,M8,zX b,h]
def aF{b y n:Nat}{S:List Z}(a:ed P T=J n)(h:cA w b y S)(c:S.length=n):bU P T (ad (J ⟨b,y,ac⟩)) w K=K (al S.toArray) w:=by
 obtain⟨d,f⟩:=GI (w:=w) a;have g:(WX ⟨b,y,ac⟩ n).run P w= .ok S.toArray w:=by
  rw[<-c];refine Na w _ S λi v j=>?_;have:=h i v j;unfold HN;split
  ·subst_vars;simpa using this
  ·exact this
 simp[bU,bM,Ob,rh,M8,d,f,g]
def jf(a b k:Nat):(⟨a,b,ac⟩:hr).add k=⟨a,b+k,ac⟩:=by
 unfold HN;split
 ·subst_vars;rfl
 ·rfl
def aj{b y f d:Nat}(a:bg P T f=J d):dK P T (ad (J ⟨b,y,ac⟩)) f w K=K (ad (J ⟨b,y+d,ac⟩)) w:=by
 unfold bg at a;cases hu:P.underlying T with
 |none=>rw[hu]at a;cases a
 |some g=>
  rw[hu]at a;cases g<;>first|(cases a;done)|skip
  rename_i h
  dsimp only at a
  cases c:h[f]? with
  |none=>rw[c]at a;cases a
  |some i=>
   rw[c]at a
   dsimp only at a
   cases bD:P.info? i.type with
   |none=>rw[bD]at a;cases a
   |some l=>
    rw[bD]at a
    dsimp only at a
    split at a
    ·cases a
    ·rename_i j
     cases a;simp[dK,bM,Instr.fieldAt,eJ hu,c,rh,fieldPlace,j3,kO,bD,j,jf]
def aC{α:Type}(w:aa)(v:Z)(k:Nat)(V:α->List Z)(L:List α):Prop:=
 ∃b a,v=aQ b L.length a/\L.length<=a/\a<=e0/\∀c d,L[c]? =J d->∃f g,b=J ⟨f,g,ac⟩/\cA w f (g+c*k) (V d)
def aC.h{α:Type}{w c:aa}{v:Z}{k:Nat}{V:α->List Z}{L:List α}(h:aC w v k V L)(e:O w c):aC c v k V L:=by obtain⟨a,d,f,g,i,j⟩:=h;exact⟨a,d,f,g,i,λl x m=>let⟨b,y,n,o⟩:=j l x m;⟨b,y,n,o.h e⟩⟩
def aC.nil{α:Type}(w:aa)(k:Nat)(V:α->List Z):aC w (aQ ac 0 0) k V []:=⟨ac,0,F,a6 _,ec _,λb c a=>by simp at a⟩
def aC.aD{α:Type}{w:aa}{v:Z}{k:Nat}{V:α->List Z}{L:List α}(a:aC w v k V L):L.length<=9223372036854775807:=by obtain⟨b,c,d,f,g,h⟩:=a;have:e0=9223372036854775807:=rfl;omega
def qT(v:Z)(k a:Nat):Addr:=match v with|aQ (some b) _ _=>b.add (a*k)|_=>default
def aC.m{α:Type}{w:aa}{v:Z}{k:Nat}{V:α->List Z}{L:List α}(h:aC w v k V L){i:Nat}{x:α}(c:L[i]? =J x):∃a b,qT v k i=⟨a,b,ac⟩/\cA w a b (V x):=by obtain⟨g,j,rfl,l,m,d⟩:=h;obtain⟨a,b,rfl,f⟩:=d i x c;exact⟨a,b+i*k,by simp only [qT];rw[jf],f⟩
def hf{e:Nat}(a:ew P T=J e):P.underlying T=J (.slice e):=by
 unfold ew at a;cases hu:P.underlying T with
 |none=>rw[hu]at a;cases a
 |some b=>rw[hu]at a;cases b<;>first|(cases a;done)|(cases a;rfl)
def aS{α:Type}{v:Z}{k:Nat}{V:α->List Z}{L:List α}{e de:Nat}(a:ew P T=J e)(h:aC w v k V L):cz P j7 [T] de [v] w K=K (I X L.length) w:=by obtain⟨b,c,rfl,_⟩:=h;simp[cz,bM,X0,eJ (hf a),Dk]
def l_{e k:Nat}(a:cg P e=k)(b:0<k):(j3 e).run P w= .ok k w:=by
 unfold cg at a;cases bD:P.info? e with
 |none=>rw[bD]at a;dsimp only at a;omega
 |some c=>rw[bD]at a;dsimp only at a;simp[j3,kO,bD,a]
def cr{α:Type}{v:Z}{k:Nat}{V:α->List Z}{L:List α}{e:Nat}{k6:hF}{z:Int}{i:Nat}{x:α}(b:ew P T=J e)(c:cg P e=k)(d:0<k)(h:aC w v k V L)(a:L[i]? =J x)(f:z=i):
 fh P T v (I k6 z) w K=K (ad (J (qT v k i))) w:=by
 obtain⟨l,m,rfl,n,o,g⟩:=h;obtain⟨p,q,rfl,r⟩:=g i x a;subst f;have j:i<L.length:=(dS.1 a).1;have s:(0:Int)<=i/\(i:Int)<L.length:=⟨G,G⟩;simp[fh,bM,Oc,HK,eJ (hf b),j,l_ c d,qT,jf]
def dE(S:List Z)(a:Nat)(cS:List Z):List Value:=S.take a++cS++S.drop (a+cS.length)
def Af{a b:List Z}{c:Nat}(d:c+b.length<=a.length):(dE a c b).length=a.length:=by unfold dE;simp only [bf,bt,cO];omega
def bo{da:List Z}(a:cM P T=J da)(g:∀b c,b=w.heap.size->c.heap.size=b+1->O w c->ag c b da->K (ad (J ⟨b,0,ac⟩)) c):gM P T w K:=by
 unfold cM at a;cases bD:P.info? T with
 |none=>rw[bD]at a;cases a
 |some h=>
  rw[bD]at a
  dsimp only at a
  cases d:h.zero with
  |none=>rw[d]at a;cases a
  |some f=>
   rw[d]at a;simp only [Option.map_some,kP]at a;subst a;have:=g w.heap.size (w.alloc (eW f.cells T)) F ae (O.fl w _) (by simpa using ag.fl w f.cells.toList T);have i:(Iv T af (a1 #[])).run P w= .ok (ad (J ⟨w.heap.size,0,ac⟩)) (w.alloc (eW f.cells T)):=by simp[Iv,qi,kO,bD,d,newVar,wy]
   unfold gM bM;rw[i];exact this
def bd{v:Z}{S:List Z}(c:v.cells=S.toArray)(h:∀a b,a=w.heap.size->b.heap.size=a+1->O w b->ag b a S->K (ad (J ⟨a,0,ac⟩)) b):qb P T v w K:=by
 have:=h w.heap.size (w.alloc (eW S.toArray T)) F ae (O.fl w _) (ag.fl w S T);have d:(AW T v).run P w= .ok (ad (J ⟨w.heap.size,0,ac⟩)) (w.alloc (eW S.toArray T)):=by simp[AW,newVar,wy,c]
 unfold qb bM;rw[d];exact this
def aZ{b y n:Nat}{S cS:List Z}{v:Z}{K:aa->Prop}(g:cg P T=n)(h:0<n)(i:ag w b S)(j:v.cells=cS.toArray)(l:cS.length=n)(s:y+n<=S.length)(m:∀o∈cS,o.oneCell' =af)
 (p:∀a,a.heap.size=w.heap.size->qN b w a->ag a b (dE S y cS)->K a):c4 P T (ad (J ⟨b,y,ac⟩)) v w K:=by
 obtain⟨c,d⟩:=i;subst l;have f:=uM P b y c cS 0 S.toArray w d (by simp;omega) m;have:=p (w.setRow b (dE S y cS).toArray) ae ⟨F,F,F,ae,λk _ q=>uN w b k _ (λe=>q (by rw[e]))⟩ ⟨c,qj w b _ _ c _ d⟩;unfold dE at this;simp only [nw]at f;have r:(qt T (ad (J ⟨b,y,ac⟩)) v).run P w= .ok () (w.setRow b (S.take y++cS++S.drop (y+cS.length)).toArray):=by
  simp[qt,rh,storeVar,l_ g h,j]
  simpa using f
 unfold c4 bM;rw[r];exact this
def cj{b cS:List Z}{v:Z}{K:Z->aa->Prop}(g:cM P T=J b)(h:cg P T=b.length)(i:0<b.length)(j:v.cells=cS.toArray)(d:cS.length=b.length)(l:∀m∈cS,m.oneCell' =af)
 (n:∀a c,a=w.heap.size->c.heap.size=a+1->O w c->ag c a cS->K (ad (J ⟨a,0,ac⟩)) c):gM P T w λf w=>c4 P T f v w λw=>K f w:=by
 refine bo g λa u o x p q=>?_;refine aZ h i q j d G l λr y s t=>?_;refine n a r o G (p.ab s (by rintro _ ⟨rfl⟩;omega)) ?_;have:dE b 0 cS=cS:=by unfold dE;simp[d]
 rwa[this]at t
def ef(P:bq)(T:cv):Option (List (Nat×Nat)):=
 match P.underlying T with
 |some (ql c)=>c.toList.mapM λb=>(P.info? b.type).map λa=>(b.offset,a.size)
 |some (.array d e)=>(P.info? e).map λa=>(lS d).map λk=>(k*a.size,a.size)
 |_=>ac
def jg(a:Nat->Option (Nat×Nat)):List Z->List (Nat×List Z)->Option (List Z)
 |S,[]=>J S
 |S,(f,b)::g=>
  match a f with
  |none=>ac
  |some (c,d)=>if b.length=d/\c+d<=S.length then jg a (dE S c b) g else ac
def Sq(c:Nat):∀(b:List Z) (a:Nat) (cells:Array Z),c+a+b.length<=cells.size->
 ((b.zipIdx a).foldl (λg (d:Z×Nat)=>g.setIfInBounds (c+d.2) d.1) cells).toList=dE cells.toList (c+a) b
 |[],a,cells,_=>by simp[dE]
 |v::b,a,cells,f=>by
  simp only [List.zipIdx_cons,List.foldl_cons];rw[Sq c b (a+1) _ (by simp at f⊢;omega)];simp only [dE,Array.toList_setIfInBounds,d1];have e:=list_seg_step cells.toList (c+a) v b (by simp at f⊢;omega)
  simpa [j4]using e
def zk{place:Nat->Option (Nat×Nat)}:∀(d:List (Nat×Z)) (f:List (Nat×List Z)) (cells:Array Z) (b:List Z),
 d.map (λc=>(c.1,c.2.cells))=f.map (λc=>(c.1,c.2.toArray))->jg place cells.toList f=J b->Nd place cells d=J b.toArray
 |[],[],cells,b,_,a=>by simp only [jg,kP]at a;subst a;simp[Nd]
 |[],_::_,_,_,a,_=>by simp at a
 |_::_,[],_,_,a,_=>by simp at a
 |(j,v)::d,(p,l)::f,cells,b,g,a=>by
  simp only [eB,List.cons.injEq,Prod.mk.injEq]at g;obtain⟨⟨rfl,m⟩,g⟩:=g;unfold jg at a;unfold Nd;cases h:place j with
  |none=>rw[h]at a;cases a
  |some os=>
   obtain⟨n,q⟩:=os;rw[h]at a
   dsimp only at a⊢
   split at a
   ·rename_i o
    obtain⟨r,i⟩:=o;rw[m,an (by simp at i⊢;omega)];refine zk d f _ b g ?_;have:=Sq n l 0 cells (by simp at i⊢;omega);rw[<-a];congr 1;rw[<-Array.foldl_toList]
    simpa [Array.toList_zipIdx]using this
   ·cases a
def QV{d h:Nat->Option (Nat×Nat)}(i:∀b os,d b=J os->h b=J os):∀(j:List (Nat×List Z)) (f c:List Z),jg d f j=J c->jg h f j=J c
 |[],_,_,a=>a
 |(b,n)::l,f,c,a=>by
  unfold jg at a⊢;cases g:d b with
  |none=>rw[g]at a;cases a
  |some os=>
   rw[g]at a;rw[i b os g]
   dsimp only at a⊢
   split at a
   ·rename_i m;rw[au m];exact QV i l _ c a
   ·cases a
def aiu{b:List Ay}{d:List (Nat×Nat)}(c:b.mapM (λa=>(P.info? a.type).map λf=>(a.offset,f.size))=J d):
 (b.mapM λa=>do pj (a.offset,<-j3 a.type):Sem (List (Nat×Nat))).run P w= .ok d w:=by
 induction b generalizing d with
 |nil=>simp at c;subst c;simp
 |cons a b ih=>
  simp only [anh,Option.bind_eq_bind,Option.bind_eq_some_iff]at c;obtain⟨m,g,n,j,h⟩:=c;simp only [Option.pure_def,kP]at h;subst h;simp only [sg]at g;obtain⟨f,bD,rfl⟩:=g;have i:(do pj (a.offset,<-j3 a.type):Sem (Nat×Nat)).run P w= .ok (a.offset,f.size) w:=by simp[j3,kO,bD]
  simp only [anh,fN];simp only [fN]at i;rw[i];simp only [jI];have l:=ih j;rw[l]
  rfl
def bz{d:List (Nat×Z)}{da S:List Z}{pl:List (Nat×Nat)}{iR:List (Nat×List Z)}(c:cM P T=J da)(a:ef P T=J pl)
 (i:d.map (λf=>(f.1,f.2.cells))=iR.map (λf=>(f.1,f.2.toArray)))(j:jg (pl[·]?) da iR=J S):fo P T d w K=K (al S.toArray) w:=by
 have q:∃b,(qi T).run P w= .ok b w/\b.cells.toList=da/\(P.info? T).isSome:=by
  unfold cM at c;cases bD:P.info? T with
  |none=>rw[bD]at c;cases c
  |some g=>rw[bD]at c;simp only [sg]at c;obtain⟨b,r,rfl⟩:=c;exact⟨b,by simp[qi,kO,bD,r],F,F⟩
 obtain⟨b,l,rfl,_⟩:=q;have s:(Oa T d.toArray).run P w= .ok (al S.toArray) w:=by
  unfold ef at a;cases hu:P.underlying T with
  |none=>rw[hu]at a;cases a
  |some t=>
   rw[hu]at a;cases t<;>first|(cases a;done)|skip
   case struct u=>
    have x:=aiu (w:=w) a;have y:(u.mapM λm=>do pj (m.offset,<-j3 m.type):Sem (Array (Nat×Nat))).run P w= .ok pl.toArray w:=by
     rw[Array.mapM_eq_mapM_toList,Sem.run_map,x]
     rfl
    have h:=zk (place:=(pl.toArray[·]?)) d iR b.cells S i (by simpa using j);simp only [Oa,fN,l,jI,eJ hu,y,h];simp
   case array B e=>
    simp only [sg]at a;obtain⟨g,bD,rfl⟩:=a;have h:=zk (place:=λn=>J (n*g.size,g.size)) d iR b.cells S i (QV (λn os o=>by
     simp only [h5,sg]at o;obtain⟨C,A,rfl⟩:=o;have:=(dS.1 A);obtain⟨D,p⟩:=this;simp at p;subst p
     rfl) iR _ S j)
    simp[Oa,l,eJ hu,j3,kO,bD,h]
 unfold fo bM;rw[s]
def dp(v:Z)(k aw bD ds:Nat):Value:=match v with|aQ a _ _=>aQ (if ds=aw then a else a.map (·.add (aw*k))) (bD-aw) (ds-aw)|b=>b
def cC(v:Z):Nat:=match v with|aQ _ _ a=>a|_=>0
def aC.ag{α:Type}{v:Z}{k:Nat}{V:α->List Z}{L:List α}(h:aC w v k V L){aw bD ds:Nat}(l:aw<=bD)(m:bD<=L.length)(n:bD<=ds)(b:ds<=cC v):aC w (dp v k aw bD ds) k V ((L.take bD).drop aw):=by
 obtain⟨o,p,rfl,q,r,c⟩:=h;have d:((L.take bD).drop aw).length=bD-aw:=by simp;omega
 simp only [cC]at b;refine⟨_,ds-aw,by rw[d];rfl,G,G,λs f a=>?_⟩;rw[kQ,lN]at a;split at a
 ·rename_i t
  obtain⟨g,i,rfl,j⟩:=c _ f a;rw[an G];refine⟨g,i+aw*k,by simp[jf],?_⟩;rw[j4,<-jb];exact j
 ·cases a
def BJ{e:Nat}(b:ew P T=J e):P.underlying T=J (.slice (P.elem T))/\P.elem T=e:=by
 have a:=hf b;have:P.elem T=e:=by simp[Program.elem,a]
 exact⟨by rw[this];exact a,this⟩
section
variable{α:Type} {v:Z} {k:Nat} {V:α->List Z} {L:List α} {e:Nat} {oz uf S0:hF} {ko oG WO:Int} {aw bD ds:Nat}
def CY(d:ew P T=J e)(f:cg P e=k)(g:0<k)(h:aC w v k V L)(i:ko=aw)(j:oG=bD)(n:aw<=bD)(o:bD<=L.length):
 le P T v (J (I oz ko)) (J (I uf oG)) ac w K=K (dp v k aw bD (cC v)) w:=by
 obtain⟨a,b,rfl,p,q,r⟩:=h;obtain⟨c,l⟩:=BJ d;subst i j;have m:=run_slice_lh (P:=P) (w:=w) (t:=T) (a:=a) (len:=L.length) (cap:=b) c oz uf aw bD G G G;simp[le,bM,wJ,eJ c,m,l,l_ f g,dp,cC,HL];exact Iff.rfl
def oA(d:ew P T=J e)(f:cg P e=k)(g:0<k)(h:aC w v k V L)(i:oG=bD)(m:bD<=L.length):
 le P T v ac (J (I uf oG)) ac w K=K (dp v k 0 bD (cC v)) w:=by
 obtain⟨a,b,rfl,n,o,p⟩:=h;obtain⟨c,j⟩:=BJ d;subst i;have l:=run_slice_h (P:=P) (w:=w) (t:=T) (a:=a) (len:=L.length) (cap:=b) c uf bD G G;simp[le,bM,wJ,eJ c,l,j,l_ f g,dp,cC,HL]
def pe(d:ew P T=J e)(f:cg P e=k)(g:0<k)(h:aC w v k V L)(i:ko=aw)(m:aw<=L.length):
 le P T v (J (I oz ko)) ac ac w K=K (dp v k aw L.length (cC v)) w:=by
 obtain⟨a,b,rfl,n,o,p⟩:=h;obtain⟨c,j⟩:=BJ d;subst i;have l:=run_slice_l (P:=P) (w:=w) (t:=T) (a:=a) (len:=L.length) (cap:=b) c oz aw G G;simp[le,bM,wJ,eJ c,l,j,l_ f g,dp,cC,HL];exact Iff.rfl
def GX(d:ew P T=J e)(f:cg P e=k)(g:0<k)(h:aC w v k V L)(i:oG=bD)(j:WO=ds)(o:bD<=ds)(l:ds<=cC v):
 le P T v ac (J (I uf oG)) (J (I S0 WO)) w K=K (dp v k 0 bD ds) w:=by
 obtain⟨a,b,rfl,p,q,r⟩:=h;obtain⟨c,m⟩:=BJ d;subst i j;simp only [cC]at l;have n:=run_slice_hm (P:=P) (w:=w) (t:=T) (a:=a) (len:=L.length) (cap:=b) c uf S0 bD ds G G G;simp[le,bM,wJ,eJ c,n,m,l_ f g,dp,HL]
end
structure eR {α:Type} (V:α->List Z) (k:Nat):Prop where
 bl:∀x,(V x).length=k
 B:∀x,∀u∈V x,u.oneCell' =af
def eR.aA{α:Type}{V:α->List Z}{k:Nat}(a:eR V k)(L:List α):(L.flatMap V).length=L.length*k:=by
 induction L with
 |nil=>simp
 |cons b L ih=>simp only [iB,bf,a.bl,ih,d1,jb,Dm];omega
def eR.aY{α:Type}{V:α->List Z}{k:Nat}(h:eR V k):∀(L:List α) (b:Nat) (d:α),L[b]? =J d->∀a f,(V d)[a]? =J f->(L.flatMap V)[b*k+a]? =J f
 |[],b,d,c,_,_,_=>by simp at c
 |i::j,0,d,c,a,f,g=>by simp only [qm,kP]at c;subst c;have l:a<(V i).length:=(dS.1 g).1;simp only [iB,uP,hW];rw[wA l];exact g
 |i::j,b+1,d,c,a,f,g=>by
  simp only [pk]at c;have ih:=h.aY j b d c a f g;simp only [iB];rw[oI (by rw[h.bl,jb];omega),h.bl];have:(b+1)*k+a-k=b*k+a:=by rw[jb];omega
  rw[this];exact ih
def fH{α:Type}(w:aa)(A e k:Nat)(v:Z)(V:α->List Z)(L:List α):Prop:=w.ownsRow A e k v L.length (L.flatMap V)
def fH.nil{α:Type}(w:aa)(A e k:Nat)(V:α->List Z):fH w A e k (aQ ac 0 0) V []:=World.ownsRow_nil w A e k
def fH.aI{α:Type}{A e k:Nat}{v:Z}{V:α->List Z}{L:List α}(h:fH w A e k v V L)(b:eR V k):aC w v k V L:=by
 obtain⟨r,c⟩:=h;rcases c with⟨rfl,d⟩|⟨f,g,s,rfl,t,j,l,m,u,n⟩
 ·have:L=[]:=ig d;subst this;exact aC.nil w k V
 ·refine⟨_,g,F,l,m,λi x o=>⟨f,0,F,λeX p q=>?_⟩⟩;have a:=b.aY L i x o eX p q;rw[<-n,lN]at a;split at a
  ·simp only [yf,j]
   simpa [j4]using a
  ·cases a
def fH.ab{α:Type}{A e k:Nat}{v:Z}{V:α->List Z}{L:List α}{a:aa}{row:Option Nat}(h:fH w A e k v V L)(b:w.grownBy a row)(c:v.ownBlock=ac\/v.ownBlock≠row):fH a A e k v V L:=
 World.ownsRow.kept h b c
def fH.h{α:Type}{A e k:Nat}{v:Z}{V:α->List Z}{L:List α}{a:aa}(h:fH w A e k v V L)(b:O w a):fH a A e k v V L:=by
 cases c:v.ownBlock with
 |none=>exact h.ab (eb b ac) (.inl c)
 |some g=>exact h.ab (eb b ac) (.inr (by rw[c];simp))
def fH.D{α:Type}{A e k:Nat}{v:Z}{V:α->List Z}{L:List α}(h:fH w A e k v V L):∀a,v.ownBlock=J a->A<=a/\a<w.heap.size:=World.ownsRow.lt h
def oF{e:Nat}{d:List Z}(a:cM P e=J d):∃b c,P.info? e=J b/\b.zero=J c/\c.cells.toList=d/\b.size=cg P e/\b.bytes=fI P e:=by
 unfold cM at a;cases bD:P.info? e with
 |none=>rw[bD]at a;cases a
 |some b=>rw[bD]at a;simp only [sg]at a;obtain⟨c,f,rfl⟩:=a;exact⟨b,c,F,f,F,by simp[cg,bD],by simp[fI,bD]⟩
def xX{α:Type}{A e k:Nat}{v u:Z}{V:α->List Z}{L a:List α}{x:List Z}{o:Nat}(p:ew P T=J e)(E:cg P e=k)(q:0<k)(G:cM P e=J x)(H:x.length=k)(g:eR V k)
 (r:fH w A e k v V L)(M:A<=w.heap.size)(O:aC w u k V a)(Q:L.length+a.length<=e0)(R:(L.length+a.length)*fI P e<=140737488355328)
 (h:∀d i,fH i A e k d V (L++a)->w.grownBy i v.ownBlock->K d i):cz P fT [T,T] o [v,u] w K:=by
 obtain⟨S,y,bD,U,W,ab,ag⟩:=oF G;obtain⟨ah,z,rfl,a2,a3,B⟩:=O;have ai:y.cells.size=k:=by rw[<-AB,W,H]
 have aj:(L++a).flatMap V=L.flatMap V++a.flatMap V:=ae;have ak:(L++a).length=L.length+a.length:=ae;cases ah with
 |none=>
  have am:a=[]:=by
   cases a with
   |nil=>rfl
   |cons c a=>obtain⟨an,ap,l,_⟩:=B 0 c F;cases l
  subst am;have f:∃d,(pw #[T,T] o #[v,aQ ac 0 z]).run P w= .ok d w/\d=v:=by
   rcases r.2 with⟨rfl,a4⟩|⟨a5,a7,a8,rfl,l,a9,aq,aB,aD,aE⟩
   ·refine⟨_,?_,F⟩;simp[pw,eJ (hf p),j3,kO,bD,tm,Av]
   ·refine⟨_,?_,F⟩;simp[pw,eJ (hf p),j3,kO,bD,tm,Av,aq,Dl]
  obtain⟨d,f,rfl⟩:=f;have:=h d w (by simpa using r) ⟨F,F,F,a6 _,λ_ _ _=>F⟩;unfold cz bM;simp only [lk]at f⊢;rw[f];exact this
 |some C=>
  have ar:∀b j,(a.flatMap V)[b]? =J j->w.cell? (C.add b)=J j:=by
   intro b j m;have au:b<a.length*k:=by have:=(dS.1 m).1;rwa[g.aA]at this
   have av:b/k<a.length:=(AD q).2 au;obtain⟨c,n⟩:∃c,a[b/k]? =J c:=⟨a[b/k],aX av⟩;obtain⟨an,ap,l,aw⟩:=B _ c n;cases l;have ay:b%k<(V c).length:=by rw[g.bl];exact se _ q
   obtain⟨s,D⟩:∃s,(V c)[b%k]? =J s:=⟨(V c)[b%k],aX ay⟩;have t:=g.aY a _ c n _ s D;rw[show b/k*k+b%k=b from by rw[n4];exact qn b k]at t;rw[m]at t;cases t;have:=aw _ _ D;rw[jf];rw[j4,show b/k*k+b%k=b from by rw[n4];exact qn b k]at this;exact this
  obtain⟨d,i,f,az,a0,_⟩:=run_append_own (P:=P) w A T o e S y k (fI P e) (hf p) bD U (by rw[ab,E]) ag ai q v L.length (L.flatMap V) r C a.length z (a.flatMap V) (g.aA a) ar
   (λj m=>by obtain⟨c,_,n⟩:=nv.1 m;exact g.B c j n) Q R M
  have:=h d i (by unfold fH;rw[ak,aj];exact az) a0;unfold cz bM
  dsimp only
  rw[f];exact this
def L7{e k a:Nat}{d:List (Nat×Z)}{h S:List Z}{iR:List (Nat×List Z)}(l:ew P T=J e)(m:cg P e=k)(B:0<a*k)(n:cM P e=J h)(C:a*k<=16777216)
 (o:d.map (λb=>(b.1,b.2.cells))=iR.map (λb=>(b.1,b.2.toArray)))(p:jg (λc=>J (c*k,k)) ((lS (a*k)).map λi=>h.toArray[i%h.length]!) iR=J S)
 (q:∀f g,f=w.heap.size->g.heap.size=f+1->O w g->ag g f S->K (aQ (J ⟨f,0,ac⟩) a a) g):fR P T a d w K:=by
 obtain⟨c,j,bD,r,s,t,D⟩:=oF n;have u:c.size=k:=by rw[t,m]
 have x:=zk (place:=λc=>J (c*k,k)) d iR ((WZ (a*k)).map λi=>j.cells[i%j.cells.size]!) S o (by rw[<-p];congr 1;rw[<-s];simp)
 have y:(wI T a d.toArray).run P w= .ok (aQ (J ⟨w.heap.size,0,ac⟩) a a) (w.alloc (eW S.toArray e)):=by have z:a*k≠0:=G;have A:¬(16777216<a*k):=G;simp[wI,eJ (hf l),j3,kO,bD,u,qi,r,wy,z,A,x]
 unfold fR bM;rw[y];exact q _ _ F ae (O.fl w _) (ag.fl w S e)
def ag.aI{α:Type}{b k:Nat}{V:α->List Z}{L:List α}(h:ag w b (L.flatMap V))(a:eR V k)(c:L.length<=e0):aC w (aQ (J ⟨b,0,ac⟩) L.length L.length) k V L:=by refine⟨_,_,F,a6 _,c,λi x d=>⟨b,0,F,λeX f g=>?_⟩⟩;have:=h.b _ _ (a.aY L i x d eX f g);rw[hW]at this⊢;exact this
def aC.M{α:Type}{v:Z}{k:Nat}{V:α->List Z}{L:List α}(a:aC w v k V L):v.cells=[v].toArray/\v.oneCell' =true:=by obtain⟨b,c,rfl,_⟩:=a;exact⟨F,F⟩
def fH.M{α:Type}{A e k:Nat}{v:Z}{V:α->List Z}{L:List α}(a:fH w A e k v V L):v.cells=[v].toArray/\v.oneCell' =true:=by rcases a.2 with⟨rfl,_⟩|⟨b,c,d,rfl,_⟩<;>exact⟨F,F⟩
def r1(P:bq)(T:cv):Bool:=match P.underlying T with|some (.pointer _)=>true|_=>false
def ajV(a:r1 P T=af):∃e,P.underlying T=J (.pointer e):=by
 unfold r1 at a;cases hu:P.underlying T with
 |none=>rw[hu]at a;cases a
 |some b=>rw[hu]at a;cases b<;>first|(cases a;done)|exact⟨_,F⟩
def akQ{p:Option hr}(a:r1 P T=af)(b:Nat):(uO (b+1) T (ad p) (ad ac)).run P w= .ok p.isNone w:=by obtain⟨e,c⟩:=ajV a;unfold uO;rw[fN,eJ c];cases p<;>rfl
def fZ{dX ev:Bool}{p:Option hr}(a:r1 P T=af):b7 P gZ T dX ev (ad p) (ad ac) w K=K (ax p.isNone) w:=by
 have b:=akQ (w:=w) (p:=p) a 9999;have c:(do jK gZ T (bif dX then h7 (ad p)else hZ 0) (bif ev then h7 (ad ac)else hZ 0) (ad p) (ad ac);pv gZ T (ad p) (ad ac):Sem Z).run P w= .ok (ax p.isNone) w:=by have d:jK gZ T (bif dX then h7 (ad p)else hZ 0) (bif ev then h7 (ad ac)else hZ 0) (ad p) (ad ac)=pj ():=rfl;have f:pv gZ T (ad p) (ad ac)=(do pj (ax (<-qk T (ad p) (ad ac)))):=rfl;rw[d,f,fN,oa,jI,fN];unfold qk Az;rw[b];rfl
 unfold b7 bM;rw[c]
def Vm{b:Array Z}{c e k i:Nat}{f:hF}{d:Int}(a:qQ P T=J (c,e))(g:ed P e=J k)(bD:i<c)(h:d=i):th P T (al b) (I f d) w K=K (al (b.extract (i*k) (i*k+k))) w:=by
 unfold qQ at a;cases hu:P.underlying T with
 |none=>rw[hu]at a;cases a
 |some j=>
  rw[hu]at a;cases j<;>first|(cases a;done)|skip
  rename_i n o
  cases a;obtain⟨l,m⟩:=GI (w:=w) g;subst h;simp[th,bM,Od,HK,eJ hu,bD,l,m,sd]
def uz{S:Array Z}{n e i:Nat}{b:hF}{z:Int}{v:Z}(a:qQ P T=J (n,e))(c:eu P e=af)(d:cg P e=1)(bD:i<n)(f:z=i)(g:S[i]? =J v):th P T (al S) (I b z) w K=K v w:=by
 unfold qQ at a;cases hu:P.underlying T with
 |none=>rw[hu]at a;cases a
 |some h=>
  rw[hu]at a;cases h<;>first|(cases a;done)|skip
  rename_i j l
  cases a;subst f;simp[th,bM,Od,HK,eJ hu,bD,zX c,l_ d G,sd,g]
def eR.di{α:Type}{V:α->List Z}{k:Nat}(a:eR V k){L:List α}{i:Nat}{x:α}(c:L[i]? =J x):(L.flatMap V).toArray.extract (i*k) (i*k+k)=(V x).toArray:=by
 apply rb;simp only [Array.toList_extract,ani];apply wz;intro d;have bD:i<L.length:=(dS.1 c).1;rw[show i*k+k-i*k=k from G,lN];split
 ·rename_i f
  rw[kQ];obtain⟨b,g⟩:∃b,(V x)[d]? =J b:=⟨_,aX (by rw[a.bl];exact f)⟩;rw[a.aY L i x c d b g,g]
 ·rename_i f
  exact(j2 (by rw[a.bl];omega)).symm
section
variable{P:bq} {T:cv} {b1 w:aa} {k:Z->Prop}
def aK{E:aa->aU->Prop}{v:Z}(h:∀a,O b1 a->∀K:aU,E a K=K v a)(d:O b1 w):cW (O b1) w E k=k v:=by
 unfold cW;apply propext;constructor
 ·rintro⟨f,b,_,c⟩;rw[h w d]at b;obtain⟨rfl,_⟩:=b;exact c
 ·intro c;exact⟨v,by rw[h w d];exact⟨F,F⟩,λa b=>by rw[h a b];exact⟨F,F⟩,c⟩
def dR{a:hr}{v:Z}(b:eu P T=af)(h:b1.cell? a=J v)(c:O b1 w):cW (O b1) w (λw k=>bU P T (ad (J a)) w k) k=k v:=
 aK (E:=λw k=>bU P T (ad (J a)) w k) (λ_ d _=>aM b (d.dg h)) c
def gX{b y n:Nat}{S:List Z}(a:ed P T=J n)(h:cA b1 b y S)(c:S.length=n)(d:O b1 w):cW (O b1) w (λw k=>bU P T (ad (J ⟨b,y,ac⟩)) w k) k=k (al S.toArray):=
 aK (E:=λw k=>bU P T (ad (J ⟨b,y,ac⟩)) w k) (λ_ f _=>aF a (h.h f) c) d
def bE.h{A:(aa->Prop)->aa->Prop}(h:A (O w) w.drew):bE w A:=bE.y (O w) (O.p w).C h
end
section
variable{P:bq} {T:cv} {w:aa} {K:aU} {dX ev:Bool}
def Vd{x:Option hr}{a c e:Nat}(d:ew P T=J e):b7 P gZ T dX ev (aQ x a c) (aQ ac 0 0) w K=K (ax x.isNone) w:=by
 have f:(uO 10000 T (aQ x a c) (aQ ac 0 0)).run P w= .ok x.isNone w:=by unfold uO;rw[fN,eJ (hf d)];cases x<;>rfl
 have g:(do jK gZ T (bif dX then h7 (aQ x a c)else hZ 0) (bif ev then h7 (aQ ac 0 0)else hZ 0) (aQ x a c) (aQ ac 0 0);pv gZ T (aQ x a c) (aQ ac 0 0):Sem Z).run P w= .ok (ax x.isNone) w:=by
  have h:jK gZ T (bif dX then h7 (aQ x a c)else hZ 0) (bif ev then h7 (aQ ac 0 0)else hZ 0) (aQ x a c) (aQ ac 0 0)=pj ():=by rfl
  have i:pv gZ T (aQ x a c) (aQ ac 0 0)=(do pj (ax (<-qk T (aQ x a c) (aQ ac 0 0)))):=rfl;rw[h,i,fN,oa,jI,fN];unfold qk Az;rw[f];rfl
 unfold b7 bM;rw[g]
def Vi{α:Type}{e k:Nat}{c:List Z}{V:α->List Z}(d:ew P T=J e)(f:cM P e=J c)
 (g:∀v aq,fH aq w.heap.size e k v V []->O w aq->aq.heap.size=w.heap.size+1->K v aq):fR P T 0 [] w K:=by
 obtain⟨i,j,h,l,m,n,o⟩:=oF f;have a:(wI T 0 #[]).run P w= .ok (aQ (J ⟨w.heap.size,0,ac⟩) 0 0) (w.alloc (eW #[] e)):=by simp[wI,eJ (hf d),j3,kO,h,Nd,wy];congr 2;exact rb ae
 unfold fR bM;simp only [List.toArray]at a⊢;rw[a];refine g _ _ ⟨ae,.inr ⟨w.heap.size,0,#[],F,a6 _,mE w _,ae,ae,ae,ae⟩⟩ (O.fl w _) ae
def eR.ax{α:Type}{V:α->List Z}{k:Nat}(a:eR V k):∀(L:List α) (i:Nat) (x:α),i<L.length->(L.set i x).flatMap V=dE (L.flatMap V) (i*k) (V x)
 |[],_,_,c=>by simp at c
 |d::f,0,x,_=>by simp only [List.set_cons_zero,iB,dE,uP,kp,hW,a.bl,fc];rw[<-a.bl d,uQ]
 |d::f,i+1,x,c=>by
  have ih:=a.ax f i x (by simp at c;omega);simp only [List.set_cons_succ,iB,ih,dE,a.bl];have g:(i+1)*k=(V d).length+i*k:=by rw[a.bl,jb];omega
  rw[g,j4,Dr,Nh];simp[cX]
def Mv{c d:List Z}{a m:Nat}(i:a+d.length<=m)(j:m<=c.length):(dE c a d).take m=dE (c.take m) a d:=by
 unfold dE;rw[uR,uR,n9,si];simp only [bf,bt];have f:min a c.length=a:=G;have g:min m a=a:=G;rw[f,g,n9];have h:Dq (m-a) d=d:=d_ G;have l:Dq m (Dq a c)=Dq a c:=by rw[n9];congr 1
 simp[h,lP (show a<=m by omega)]
end
def ar{α:Type}(w:aa)(A e k:Nat)(v:Z)(V:α->List Z)(L:List α):Prop:=
 (v=aQ ac 0 0/\L=[])\/
 ∃c d a f,v=aQ (J ⟨c,d,ac⟩) L.length a/\A<=c/\w.heap[c]? =J (eW f e (0,0))/\L.length<=a/\a<=e0/\d+a*k<=f.size/\(f.toList.drop d).take (L.length*k)=L.flatMap V
section
variable{α:Type} {w aq:aa} {A e k:Nat} {v:Z} {V:α->List Z} {L:List α}
def ar.nil(w:aa)(A e k:Nat)(V:α->List Z):ar w A e k (aQ ac 0 0) V []:= .inl ⟨F,F⟩
def fH.row(a:fH w A e k v V L):ar w A e k v V L:=by
 obtain⟨o,c⟩:=a;rcases c with⟨rfl,d⟩|⟨f,g,h,rfl,i,j,l,m,p,n⟩
 ·exact .inl ⟨F,ig d⟩
 ·exact .inr ⟨f,0,g,h,F,i,j,l,m,G,by simpa using n⟩
def ar.D(h:ar w A e k v V L):∀a,v.ownBlock=J a->A<=a/\a<w.heap.size:=by
 intro a c;rcases h with⟨rfl,_⟩|⟨g,i,j,l,rfl,d,f,_⟩
 ·cases c
 ·cases c;exact⟨d,(iz.1 f).1⟩
def ar.ab{row:Option Nat}(h:ar w A e k v V L)(c:w.grownBy aq row)(d:v.ownBlock=ac\/v.ownBlock≠row):ar aq A e k v V L:=by
 rcases h with h|⟨g,y,f,i,rfl,j,a,bc⟩
 ·exact .inl h
 ·refine .inr ⟨g,y,f,i,F,j,?_,bc⟩;rw[c.block g (iz.1 a).1 (by simpa [to]using d)];exact a
def ar.h(h:ar w A e k v V L)(a:O w aq):ar aq A e k v V L:=by
 cases c:v.ownBlock with
 |none=>exact h.ab (eb a ac) (.inl c)
 |some g=>exact h.ab (eb a ac) (.inr (by rw[c];simp))
def ar.o{a:Nat}(h:ar w A e k v V L)(c:a<=A):ar w a e k v V L:=by
 rcases h with h|⟨d,f,g,i,j,l,m⟩
 ·exact .inl h
 ·exact .inr ⟨d,f,g,i,j,eQ c l,m⟩
def ar.M(a:ar w A e k v V L):v.cells=[v].toArray/\v.oneCell' =true:=by rcases a with⟨rfl,_⟩|⟨c,d,f,g,rfl,_⟩<;>exact⟨F,F⟩
def ar.f(h:ar w A e k v V L){g y l c:Nat}(d:v=aQ (J ⟨g,y,ac⟩) l c){eX:Nat}{f:Z}(a:(L.flatMap V)[eX]? =J f):w.cell? ⟨g,y+eX,ac⟩=J f:=by
 subst d;rcases h with⟨h,_⟩|⟨m,n,o,p,d,q,i,r,s,t,j⟩
 ·cases h
 ·cases d;rw[<-j,lN]at a;split at a
  ·rw[kQ]at a;simp only [yf,i]
   simpa using a
  ·cases a
def ar.aI(h:ar w A e k v V L)(a:eR V k):aC w v k V L:=by
 have o:=@ar.f;rcases id h with⟨rfl,rfl⟩|⟨c,d,f,p,rfl,q,r,g,j,s,t⟩
 ·exact aC.nil w k V
 ·refine⟨_,f,F,g,j,λi x l=>⟨c,d,F,λeX m n=>?_⟩⟩;have:=h.f rfl (a.aY L i x l eX m n);rwa[j4]
def ar.ag(h:ar w A e k v V L)(j:eR V k){aw bD:Nat}(S:aw<=bD)(z:bD<=L.length):ar w A e k (dp v k aw bD (cC v)) V ((L.take bD).drop aw):=by
 have f:((L.take bD).drop aw).length=bD-aw:=by simp;omega
 rcases h with⟨rfl,rfl⟩|⟨p,m,a,n,rfl,q,r,U,W,ab,B⟩
 ·obtain rfl:bD=0:=by simpa using z
  obtain rfl:aw=0:=G;exact .inl ⟨F,F⟩
 ·have D:(n.toList.drop (m+aw*k)).take ((bD-aw)*k)=((L.take bD).drop aw).flatMap V:=by
   apply wz;intro c;have E:=j.aA ((L.take bD).drop aw);rw[lN];split
   ·rename_i o
    rw[kQ];have s:0<k:=by rcases nz k with rfl|h;(·simp at o);exact h
    have H:c/k<bD-aw:=(AD s).2 o;obtain⟨d,g⟩:∃d,((L.take bD).drop aw)[c/k]? =J d:=⟨_,aX (by rw[f];exact H)⟩;have M:L[aw+c/k]? =J d:=by
     rw[kQ,lN]at g;split at g
     ·exact g
     ·cases g
    have O:c%k<(V d).length:=by rw[j.bl];exact se _ s
    obtain⟨l,t⟩:∃l,(V d)[c%k]? =J l:=⟨_,aX O⟩;have u:c/k*k+c%k=c:=by rw[n4];exact qn c k
    have x:=j.aY _ _ d g _ l t;have i:=j.aY _ _ d M _ l t;rw[u]at x;rw[x];rw[jb,j4,u,<-B,lN]at i;split at i
    ·rw[kQ,<-j4]at i;exact i
    ·cases i
   ·rename_i o
    exact(j2 (by rw[E,f];omega)).symm
  have ae:(a-aw)*k=a*k-aw*k:=Nat.sub_mul a aw k;have ah:aw*k<=a*k:=ny k G;simp only [dp,cC];by_cases y:a=aw
  ·subst y;have Q:bD-a=0:=G;refine .inr ⟨p,m,a-a,n,by rw[f];simp,q,r,G,G,by simp;omega,?_⟩;have R:(L.take bD).drop a=[]:=ig (by rw[f];exact Q);rw[R];simp
  ·refine .inr ⟨p,m+aw*k,a-aw,n,by rw[f];simp[y,jf],q,r,G,G,G,by rw[f];exact D⟩
end
def U6{P:bq}{T:cv}{w:aa}{K:aU}{α:Type}{A e k:Nat}{v ak:Z}{V:α->List Z}{L a:List α}{am:List Z}{y:Nat}(z:ew P T=J e)(n:cg P e=k)(Q:0<k)(an:cM P e=J am)(ap:am.length=k)(l:eR V k)
 (s:ar w A e k v V L)(au:A<=w.heap.size)(av:aC w ak k V a)(aw:L.length+a.length<=e0)(ay:(L.length+a.length)*fI P e<=140737488355328)
 (B:∀o aq,ar aq A e k o V (L++a)->w.grownBy aq v.ownBlock->(o.ownBlock=v.ownBlock\/∀f,o.ownBlock=J f->w.heap.size<=f)->ar aq A e k v V L->K o aq):cz P fT [T,T] y [v,ak] w K:=by
 rcases id s with⟨rfl,rfl⟩|⟨f,c,h,g,rfl,p,m,R,az,ba,aD⟩
 ·refine xX (A:=w.heap.size) z n Q an ap l (fH.nil w _ _ _ V) (a6 _) av aw ay λo aq a0 aE=>?_;exact B o aq (a0.row.o au) aE (.inr λf m=>(a0.D f m).1) (ar.nil ..)
 obtain⟨S,U,W,aF,aG,aH,aI⟩:=oF an;have t:S.size=k:=by rw[aH,n]
 obtain⟨aJ,D,rfl,bb,bc,a2⟩:=av;have u:(L++a).length=L.length+a.length:=ae;have ab:(L++a).flatMap V=L.flatMap V++a.flatMap V:=ae;have a3:=l.aA L;have x:=l.aA a;have bd:L.length*k<=h*k:=ny k R;cases aJ with
 |none=>
  have aK:a=[]:=by
   cases a with
   |nil=>rfl
   |cons i a=>obtain⟨b,c,p,_⟩:=a2 0 i F;cases p
  subst aK;have q:(pw #[T,T] y #[aQ (J ⟨f,c,ac⟩) L.length h,aQ ac 0 D]).run P w= .ok (aQ (J ⟨f,c,ac⟩) L.length h) w:=by simp[pw,eJ (hf z),j3,kO,W,tm,Av,R,Dl]
  have:=B _ w (by simpa using s) ⟨F,F,F,a6 _,λ_ _ _=>F⟩ (.inl F) s;unfold cz bM;simp only [lk]at q⊢;rw[q];exact this
 |some E=>
  have a4:∀d j,(a.flatMap V)[d]? =J j->w.cell? (E.add d)=J j:=by
   intro d j r;have aL:d<a.length*k:=by have:=(dS.1 r).1;rwa[l.aA]at this
   have aM:d/k<a.length:=(AD Q).2 aL;obtain⟨i,H⟩:∃i,a[d/k]? =J i:=⟨a[d/k],aX aM⟩;obtain⟨b,c,p,aN⟩:=a2 _ i H;cases p;have aO:d%k<(V i).length:=by rw[l.bl];exact se _ Q
   obtain⟨ag,a5⟩:∃ag,(V i)[d%k]? =J ag:=⟨(V i)[d%k],aX aO⟩;have ah:=l.aY a _ i H _ ag a5;rw[show d/k*k+d%k=d from by rw[n4];exact qn d k]at ah;rw[r]at ah;cases ah;have:=aN _ _ a5;rw[jf];rw[j4,show d/k*k+d%k=d from by rw[n4];exact qn d k]at this;exact this
  have aP:∀j∈a.flatMap V,j.oneCell' =true:=λj r=>by obtain⟨i,_,H⟩:=nv.1 r;exact l.B i j H
  by_cases a7:L.length+a.length<=h
  ·have be:L.length*k+a.length*k<=h*k:=by rw[<-jb];exact ny k a7
   have a8:=run_firstCells_some (P:=P) w S.size a.length E a.length D (a.flatMap V) (by rw[t];exact x) a4;have ai:=uM P f (c+L.length*k) e (a.flatMap V) 0 g w m G aP;simp only [nw]at ai;have q:(pw #[T,T] y #[aQ (J ⟨f,c,ac⟩) L.length h,aQ (J E) a.length D]).run P w=
    .ok (aQ (J ⟨f,c,ac⟩) (L.length+a.length) h) (w.setRow f (g.toList.take (c+L.length*k)++a.flatMap V++g.toList.drop (c+L.length*k+(a.flatMap V).length)).toArray):=by
    simp only [t]at a8;simp only [cX]at ai;simp[pw,eJ (hf z),j3,kO,W,t,tm,a7,a8,jf,ai]
   have M:g.toList.length=g.size:=ae;have a9:((g.toList.take (c+L.length*k)++a.flatMap V++g.toList.drop (c+L.length*k+(a.flatMap V).length)).drop c).take ((L.length+a.length)*k)=L.flatMap V++a.flatMap V:=by
    rw[<-aD];have aR:(g.toList.take (c+L.length*k)++a.flatMap V++g.toList.drop (c+L.length*k+(a.flatMap V).length)).drop c=(g.toList.drop c).take (L.length*k)++(a.flatMap V++g.toList.drop (c+L.length*k+(a.flatMap V).length)):=by rw[cX,rf (by rw[bt,M];omega),si];congr 2;omega
    have aj:((g.toList.drop c).take (L.length*k)).length=L.length*k:=by rw[bt,cO,M];omega
    rw[aR];generalize(g.toList.drop c).take (L.length*k)=aS at aj⊢;generalize g.toList.drop (c+L.length*k+(a.flatMap V).length)=bg;rw[uR,aj,d_ (l:=aS) (by rw[aj,jb];omega),uR,x,jb,wD,pn,kp,cT,d_ (by rw[x];omega)]
   have:=B (aQ (J ⟨f,c,ac⟩) (L.length+a.length) h) (w.setRow f (g.toList.take (c+L.length*k)++a.flatMap V++g.toList.drop (c+L.length*k+(a.flatMap V).length)).toArray)
    (.inr ⟨f,c,h,_,by rw[u],p,qj w f g _ e _ m,G,az,by simp only [mG,bf,bt,cO,M];omega,by rw[ab,u];exact a9⟩)
    ⟨F,F,F,ae,λb _ n=>uN w f b _ (λe=>n (by simp[to,e]))⟩ (.inl F)
    (.inr ⟨f,c,h,_,F,p,qj w f g _ e _ m,R,az,by simp only [mG,bf,bt,cO,M];omega,by have aB:=ck (Dq (L.length*k)) a9;rw[n9,lP (by rw[jb];omega),nx G,d_ (l:=L.flatMap V) G]at aB;exact aB⟩)
   unfold cz bM
   dsimp only
   rw[q];exact this
  ·have aV:∀d j,(L.flatMap V)[d]? =J j->w.cell? ((⟨f,c,ac⟩:hr).add d)=J j:=λd j r=>by rw[jf];exact s.f rfl r
   have bh:e0=9223372036854775807:=rfl;have q:=run_append_grow (P:=P) w T y e S U (hf z) W aF ⟨f,c,ac⟩ L.length h (L.flatMap V) (by rw[t];exact a3) aV E a.length D (a.flatMap V) (by rw[t];exact x) a4 G G (growslice_fits G (by rw[aI];exact ay));have bi:=grownCap_ge w (L.length+a.length) h e;have aW:pq w (L.length+a.length) h e<=maxLen:=grownCap_le_maxLen w _ h e aw;have aZ:U.cells.size=k:=by rw[<-AB,aG,ap]
   have:=B (aQ (J ⟨w.heap.size,0,ac⟩) (L.length+a.length) (pq w (L.length+a.length) h e))
    (w.drew.alloc (eW ((L.flatMap V).toArray++(a.flatMap V).toArray++Builtin.zeroCells U.cells (pq w (L.length+a.length) h e-(L.length+a.length))) e))
    (.inr ⟨w.heap.size,0,_,_,by rw[u],au,mE w.drew _,G,aW,by
     simp only [Array.size_append,mG,size_zeroCells,aZ,a3,x,hW,<-jb];exact Nat.le_of_eq (by congr 1;omega),by
     rw[ab,u,List.drop_zero];simp only [Array.toList_append,cX];rw[<-cX,<-ab,show(L.length+a.length)*k=((L++a).flatMap V).length from by rw[l.aA,u]];exact tq⟩)
    ⟨F,F,F,ae,λb n _=>(O.fl w.drew _).block b n⟩ (.inr λf m=>by cases m;exact a6 _) (s.h ((O.p w).C.a1 _))
   unfold cz bM
   dsimp only
   rw[q];exact this
def jC{P:bq}{T:cv}{w:aa}{K:aU}{α:Type}{A e k:Nat}{v d:Z}{V:α->List Z}{L c:List α}{f:List Z}{h:Nat}(i:ew P T=J e)(j:cg P e=k)(l:0<k)(m:cM P e=J f)(n:f.length=k)(o:eR V k)
 (p:ar w A e k v V L)(q:A<=w.heap.size)(r:aC w d k V c)(s:L.length+c.length<=e0)(t:(L.length+c.length)*fI P e<=140737488355328)
 (u:∀a aq,ar aq A e k a V (L++c)->w.grownBy aq v.ownBlock->(a.ownBlock=v.ownBlock\/∀g,a.ownBlock=J g->w.heap.size<=g)->K a aq):cz P fT [T,T] h [v,d] w K:=
 U6 i j l m n o p q r s t λa aq x y z _=>u a aq x y z
section
variable{bN:aa->Prop} {w:aa} {k:Z->Prop}
def bh{f:aa->aU->Prop}{v:Z}(c:∀hq,bN hq->∀K:aU,f hq K=K v hq)(g:bN w):cW bN w f k=k v:=by
 unfold cW;apply propext;constructor
 ·rintro⟨h,a,_,d⟩;rw[c w g]at a;obtain⟨rfl,_⟩:=a;exact d
 ·intro d;exact⟨v,by rw[c w g];exact⟨F,F⟩,λhq a=>by rw[c hq a];exact⟨F,F⟩,d⟩
end
def eO{x:hF}{P:bq}{T:cv}{w:aa}{K:aU}{n e k b c i:Nat}{z:Int}(a:qQ P T=J (n,e))(d:cg P e=k)(f:0<k)(bD:i<n)(g:z=i):fh P T (ad (J ⟨b,c,ac⟩)) (I x z) w K=K (ad (J ⟨b,c+i*k,ac⟩)) w:=by
 unfold qQ at a;cases hu:P.underlying T with
 |none=>rw[hu]at a;cases a
 |some h=>
  rw[hu]at a;cases h<;>first|(cases a;done)|skip
  rename_i j l
  cases a;subst g;simp[fh,bM,Oc,HK,eJ hu,bD,rh,l_ d f,jf]
def C4{v:Z}{k aw bD c:Nat}:(dp v k aw bD c).ownBlock=v.ownBlock:=by
 cases v<;>try rfl
 rename_i a g h
 cases a with
 |none=>simp[dp,to]
 |some a=>
  have f:(a.add (aw*k)).block=a.block:=by unfold HN;split<;>rfl
  by_cases d:c=aw
  ·simp[dp,d,to]
  ·simp[dp,d,to,f]
def wc(P:bq)(a:cv):Bool:=match P.underlying a with|some .bool=>true|some (.int _)=>true|some sh=>true|_=>false
def Fv(P:bq):Nat->List Ay->Option (List Nat)
 |_,[]=>J []
 |c,a::d=>if kS a.offset c&&(a.name != "_")&&wc P a.type&&kS (cg P a.type) 1 then(Fv P (c+1) d).map (a.type::·)else ac
def Fw(P:bq)(T:cv):Option (List Nat):=match P.underlying T with|some (ql a)=>if P.stoodInHeld T||P.eqGuardType P.depth T then none else Fv P 0 a.toList|_=>none
def hg(P:bq):List Nat->List Z->Bool
 |[],[]=>af
 |a::c,v::d=>(match P.underlying a,v with|some .bool,ax _=>true|some (.int k),I f _=>decide (k=f)|some sh,lO _=>true|_,_=>false)&&hg P c d
 |_,_=>ao
def QX{a c:ByteArray}:a.toList=c.toList↔a=c:=by
 constructor
 ·intro d;rw[W5,W5]at d;exact W6 (rb d)
 ·rintro rfl;rfl
def U1(j:Nat){L gi:Array Z}:∀(r:List Ay) (a:Nat) (n:List Nat),Fv P a r=J n->hg P n (L.toList.drop a)=af->hg P n (gi.toList.drop a)=af->
 ∃l:Bool,(l=af↔L.toList.drop a=gi.toList.drop a)/\(AG (j+1) L gi r).run P w= .ok l w
 |[],a,n,h,s,t=>by
  cases h;cases R:L.toList.drop a with
  |cons=>rw[R]at s;cases s
  |nil=>
   cases S:gi.toList.drop a with
   |cons=>rw[S]at t;cases t
   |nil=>exact⟨af,ae,F⟩
 |c::r,a,n,h,s,t=>by
  unfold Fv at h;split at h
  case isFalse=>cases h
  rename_i A
  simp only [fb]at A;obtain⟨⟨⟨u,U⟩,o⟩,x⟩:=A;have u:=oc u;have x:=oc x;simp only [sg]at h;obtain⟨z,V,rfl⟩:=h;have B:∀(d:Array Z),hg P (c.type::z) (d.toList.drop a)=af->∃v,d[a]? =J v/\d.toList.drop a=v::d.toList.drop (a+1)/\hg P [c.type] [v]=af/\hg P z (d.toList.drop (a+1))=true:=by
   intro d i;cases hd:d.toList.drop a with
   |nil=>rw[hd]at i;cases i
   |cons v l=>
    rw[hd]at i;unfold hg at i;rw[fb]at i;have W:d[a]? =J v:=by
     have:(d.toList.drop a)[0]? =J v:=by rw[hd];rfl
     rw[kQ]at this
     simpa using this
    have ab:d.toList.drop (a+1)=l:=by rw[<-jF,hd];rfl
    rw[ab];exact⟨v,W,F,by unfold hg;rw[i.1];rfl,i.2⟩
  obtain⟨p,ag,ah,q,ai⟩:=B L s;obtain⟨b,aj,ak,y,am⟩:=B gi t;have D:eu P c.type=true:=by
   unfold wc at o;unfold eu;cases hu:P.underlying c.type with
   |none=>rw[hu]at o;cases o
   |some m=>rw[hu]at o;cases m<;>first|(cases o;done)|rfl
  have E:(sd c.type L c.offset).run P w= .ok p w:=by simp[sd,u,zX D,l_ x G,ag]
  have H:(sd c.type gi c.offset).run P w= .ok b w:=by simp[sd,u,zX D,l_ x G,aj]
  have an:∃m:Bool,(m=af↔p=b)/\(uO (j+1) c.type p b).run P w= .ok m w:=by
   unfold hg at q y;cases hu:P.underlying c.type with
   |none=>simp[hu]at q
   |some ap=>
    cases ap<;>cases p<;>simp only [hu,yp,j1]at q<;>cases b<;>simp only [hu,yp,j1]at y
    case bool.bool.bool f g=>exact⟨f==g,ae,W4 w j _ f g hu⟩
    case int.int.int k au f av g=>simp[hg]at q y;subst q y;exact⟨f==g,ae,anp w j _ _ _ f g hu⟩
    case string.string.string f g=>exact⟨f.toList==g.toList,by rw[beq_iff_eq,QX];simp,anq w j _ f g hu⟩
  obtain⟨m,M,O⟩:=an;obtain⟨l,aq,ar⟩:=U1 j r (a+1) z V ai am;have Q:c.name≠ "_":=by simpa using U
  rw[ah,ak];cases m with
  |false=>
   refine⟨ao,?_,by simp[AG,Q,E,H,O]⟩;have:p≠b:=λe=>by have:=M.2 e;cases this
   simp[this]
  |true=>refine⟨l,?_,by simp[AG,Q,E,H,O,ar]⟩;rw[aq];simp[M.1 F]
def akR{g:List Nat}{c d:List Z}(a:Fw P T=J g)(n:hg P g c=af)(o:hg P g d=af):
 ∃f:Bool,(f=af↔c=d)/\∀w,(uO 10000 T (al c.toArray) (al d.toArray)).run P w= .ok f w/\∀op h i,(jK op T h i (al c.toArray) (al d.toArray)).run P w= .ok () w:=by
 unfold Fw at a;cases hu:P.underlying T with
 |none=>rw[hu]at a;cases a
 |some p=>
  rw[hu]at a;cases p<;>first|(cases a;done)|skip
  rename_i j
  dsimp only at a
  split at a
  ·cases a
  rename_i l
  rw[W7,Bool.or_eq_false_iff]at l;have m:P.fieldsOf T=j:=by simp[ano,hu]
  have q:∀w:aa,∃f:Bool,(f=af↔c=d)/\(AG 9999 c.toArray d.toArray j.toList).run P w= .ok f w:=λw=>by
   have:=U1 (P:=P) (w:=w) 9998 (L:=c.toArray) (gi:=d.toArray) j.toList 0 g a (by simpa using n) (by simpa using o)
   simpa using this
  refine⟨@decide (c=d) (Classical.propDecidable _),?_,λw=>⟨?_,λop h i=>run_eqGuard_agg w op T h i _ _ l.2⟩⟩
  ·simp
  ·rw[anr w 9999 T _ _ (by rw[m];exact hu) l.1,m];obtain⟨f,r,s⟩:=q w;rw[s];congr 1;rw[g0,r];simp
def L4{gN:List Nat}{S cV:List Z}{dX ev:Bool}(f:Fw P T=J gN)(c:hg P gN S=af)(d:hg P gN cV=af):
 ∃a:Bool,(a=af↔S=cV)/\(∀w K,b7 P gZ T dX ev (al S.toArray) (al cV.toArray) w K=K (ax a) w)/\∀w K,b7 P mb T dX ev (al S.toArray) (al cV.toArray) w K=K (ax (!a)) w:=by
 obtain⟨a,g,h⟩:=akR f c d;refine⟨a,g,λw K=>?_,λw K=>?_⟩<;>
 ·obtain⟨c,d⟩:=h w;unfold b7 bM;rw[fN,d];simp[run_eql_struct,run_neq_struct,c]
def eN{w hq mD:aa}{row:Option Nat}(a:w.grownBy hq row)(g:hq.grownBy mD row):w.grownBy mD row:=
 ⟨g.os.trans a.os,g.tape.trans a.tape,g.output.trans a.output,eQ a.size g.size,λk c d=>(g.block k (wC c a.size) d).trans (a.block k c d)⟩
def vF(w:aa)(row:Option Nat):w.grownBy w row:=eb (O.p w) row
def jz(w:aa)(row:Option Nat):w.grownBy w.drew row:=eb (O.p w).C row
def f0{P:bq}{T:cv}{w:aa}{K:aU}{α:Type}{e k n:Nat}{V:α->List Z}{L:List α}{d:List (Nat×Z)}{f:List Z}{iR:List (Nat×List Z)}(m:ew P T=J e)(o:cg P e=k)(j:L.length=n)(p:cM P e=J f)(q:0<n*k)(M:n*k<=16777216)(g:eR V k)
 (r:d.map (λa=>(a.1,a.2.cells))=iR.map (λa=>(a.1,a.2.toArray)))(s:jg (λc=>J (c*k,k)) ((lS (n*k)).map λh=>f.toArray[h%f.length]!) iR=J (L.flatMap V))
 (t:∀v aq,v=aQ (J ⟨w.heap.size,0,ac⟩) n n->fH aq w.heap.size e k v V L->O w aq->aq.heap.size=w.heap.size+1->K v aq):fR P T n d w K:=by
 obtain⟨c,l,u,x,y,z,Q⟩:=oF p;have A:c.size=k:=by rw[z,o]
 have B:=zk (place:=λc=>J (c*k,k)) d iR ((WZ (n*k)).map λh=>l.cells[h%l.cells.size]!) (L.flatMap V) r (by rw[<-s];congr 1;rw[<-y];simp)
 have D:(wI T n d.toArray).run P w= .ok (aQ (J ⟨w.heap.size,0,ac⟩) n n) (w.alloc (eW (L.flatMap V).toArray e)):=by have E:n*k≠0:=G;have H:¬(16777216<n*k):=G;simp[wI,eJ (hf m),j3,kO,u,A,qi,x,wy,E,H,B]
 unfold fR bM;rw[D];refine t _ _ F ⟨g.aA L,.inr ⟨_,n,_,by rw[j],a6 _,mE w _,G,?_,by rw[mG,g.aA,j],by rw[d_ (by rw[g.aA];exact a6 _)]⟩⟩ (O.fl w _) ae;have i:0<k:=by rcases nz k with rfl|i;(·simp at q);exact i
 have:n<=n*k:=Nat.le_mul_of_pos_right n i;simp only [e0];omega
abbrev bK:=Option hr×Nat×Nat
def ay(x:bK):Value:=aQ x.1 x.2.1 x.2.2
def aC.ay{α:Type}{w:aa}{v:Z}{k:Nat}{V:α->List Z}{L:List α}(h:aC w v k V L):∃x:bK,v=ay x:=by obtain⟨a,c,rfl,_⟩:=h;exact⟨(a,_,c),F⟩
def pW(w:aa)(e k:Nat):Prop:=∃a,w.heap[k]? =J (eW a e (0,0))
structure ht (e A b:Nat) (w aq:aa):Prop where
 bo:aq.os=w.os
 bs:aq.tape=w.tape
 br:aq.output=w.output
 Y:w.heap.size<=aq.heap.size
 H:∀k,k<w.heap.size->k≠b->(A<=k->¬pW w e k)->aq.heap[k]? =w.heap[k]?
section
variable{e A b:Nat} {w b1 hq mD:aa}
def ht.R(a:O w hq):ht e A b w hq:=⟨a.os,a.tape,a.output,a.size,λk c _ _=>a.block k c⟩
def ht.al{row:Option Nat}(a:w.grownBy hq row)(f:∀c,row=J c->c=b\/(A<=c/\pW w e c)):ht e A b w hq:=
 ⟨a.os,a.tape,a.output,a.size,λk g h i=>a.block k g λe=>by rcases f k e.symm with d|⟨d,j⟩;(·exact h d);exact i d j⟩
def ht.a(h:ht e A b w hq)(g:ht e A b hq mD):ht e A b w mD:=by refine⟨g.bo.trans h.bo,g.bs.trans h.bs,g.br.trans h.br,eQ h.Y g.Y,λk a d f=>?_⟩;have i:=h.H k a d f;refine(g.H k (wC a h.Y) d λj l=>?_).trans i;obtain⟨c,m⟩:=l;exact f j ⟨c,i▸m⟩
def ht.fQ{α:Type}{a c k:Nat}{v:Z}{V:α->List Z}{L:List α}(i:ht e A b w hq)(d:ar w a c k v V L)(j:c≠e)(q:b<a):ar hq a c k v V L:=by
 rcases d with d|⟨g,l,m,n,rfl,o,f,bc⟩
 ·exact .inl d
 ·refine .inr ⟨g,l,m,n,F,o,?_,bc⟩;rw[i.H g (iz.1 f).1 G λ_ p=>by obtain⟨r,h⟩:=p;rw[f]at h;cases h;exact j F];exact f
end
def ar.de{α:Type}{w:aa}{A e k a:Nat}{v:Z}{V:α->List Z}{L:List α}(d:ar w A e k v V L)(c:v.ownBlock=J a):A<=a/\pW w e a:=by
 rcases d with⟨rfl,_⟩|⟨i,j,l,f,rfl,g,h,bc⟩
 ·cases c
 ·cases c;exact⟨g,f,h⟩
def lb{a:List Z}(d:cM P T=J a)(f:∀b aq,b=w.heap.size->aq.heap.size=b+1->O w aq->aq.heap[b]? =J (eW a.toArray T (0,0))->K (ad (J ⟨b,0,ac⟩)) aq):gM P T w K:=by
 obtain⟨l,c,g,h,i,m,n⟩:=oF d;have:=f w.heap.size (w.alloc (eW c.cells T)) F ae (O.fl w _) (by rw[mE,<-i]);have j:(Iv T af (a1 #[])).run P w= .ok (ad (J ⟨w.heap.size,0,ac⟩)) (w.alloc (eW c.cells T)):=by simp[Iv,qi,kO,g,h,newVar,wy]
 unfold gM bM;rw[j];exact this
def gh{b a n c:Nat}{S cS:List Z}{v:Z}{K:aa->Prop}(g:cg P T=n)(h:0<n)(d:w.heap[b]? =J (eW S.toArray c (0,0)))(i:v.cells=cS.toArray)(j:cS.length=n)(r:a+n<=S.length)(l:∀m∈cS,m.oneCell' =af)
 (o:∀aq,aq.heap.size=w.heap.size->qN b w aq->aq.heap[b]? =J (eW (dE S a cS).toArray c (0,0))->K aq):c4 P T (ad (J ⟨b,a,ac⟩)) v w K:=by
 subst j;have f:=uM P b a c cS 0 S.toArray w d (by simp;omega) l;have:=o (w.setRow b (dE S a cS).toArray) ae ⟨F,F,F,ae,λk _ p=>uN w b k _ (λe=>p (by rw[e]))⟩ (qj w b _ _ c _ d);unfold dE at this;simp only [nw]at f;have q:(qt T (ad (J ⟨b,a,ac⟩)) v).run P w= .ok () (w.setRow b (S.take a++cS++S.drop (a+cS.length)).toArray):=by
  simp[qt,rh,storeVar,l_ g h,i]
  simpa using f
 unfold c4 bM;rw[q];exact this
def nX{a cS:List Z}{v:Z}{K:Z->aa->Prop}(f:cM P T=J a)(g:cg P T=a.length)(h:0<a.length)(i:v.cells=cS.toArray)(c:cS.length=a.length)(j:∀l∈cS,l.oneCell' =af)
 (m:∀b aq,b=w.heap.size->aq.heap.size=b+1->O w aq->aq.heap[b]? =J (eW cS.toArray T (0,0))->K (ad (J ⟨b,0,ac⟩)) aq):gM P T w λd w=>c4 P T d v w λw=>K d w:=by
 refine lb f λb hq n s o p=>?_;refine gh g h p i c G j λmD t q r=>?_;refine m b mD n G (o.ab q (by rintro _ ⟨rfl⟩;omega)) ?_;have:dE a 0 cS=cS:=by unfold dE;simp[c]
 rwa[this]at r
def jZ{P:bq}{c:Fn}{a b:List Z}{w:aa}{K:aU}:CU P c a b w K=K (fq c a.toArray b.toArray) w:=by simp[CU,bM,Instr.makeFunc]
def kL{P:bq}{n:Nat}{a b:Array Z}{c:List Z}{w:aa}{K:aU}:iU P (fq (hE n) a b) c w K=ak P n (a.toList++c++b.toList) w K:=rfl
def mz{P:bq}{c:Z}{d:List Z}{w:aa}{K f:aU}(g:∀v aq,K v aq->f v aq)(a:iU P c d w K):iU P c d w f:=by
 unfold iU at*;split at a
 ·exact a.o g
 ·exact zK g a
 ·exact a.elim
section
variable{P:bq} {T A:cv} {w:aa} {K:aU} {dX ev:Bool}
def oX(P:bq)(T:cv):Bool:=match P.underlying T with|some (.interface _)=>false|some _=>(cM P T).isSome|none=>false
def BR(P:bq)(T:cv):Bool:=match P.underlying T with|some (.interface a)=>a.isEmpty|_=>false
def Ro(a:oX P A=af):∃b,∀w,(qi A).run P w= .ok b w:=by
 have c:(cM P A).isSome=true:=by
  unfold oX at a;cases hu:P.underlying A with
  |none=>rw[hu]at a;cases a
  |some d=>rw[hu]at a;cases d<;>first|(cases a;done)|exact a
 obtain⟨g,c⟩:=Option.isSome_iff_exists.1 c;obtain⟨h,b,e,f,_⟩:=oF c;exact⟨b,λw=>by simp[qi,kO,e,f]⟩
variable{v:Z}
def pd(h:oX P T=af):L9 P T v w K=K (n2 T v) w:=by
 have a:(XY T v).run P w= .ok (n2 T v) w:=by
  unfold oX at h;cases hu:P.underlying T with
  |none=>rw[hu]at h;cases h
  |some b=>rw[hu]at h;cases b<;>first|(cases h;done)|simp[XY,eJ hu]
 unfold L9 bM;rw[a]
def te(h:oX P A=af):q7 P (n2 A v) T A af w K=K (a1 #[v,ax af]) w:=by
 have a:(wK (n2 A v) T A af).run P w= .ok (a1 #[v,ax af]) w:=by
  unfold oX at h;cases hu:P.underlying A with
  |none=>rw[hu]at h;cases h
  |some b=>rw[hu]at h;cases b<;>first|(cases h;done)|simp[wK,eJ hu]
 unfold q7 bM;rw[a]
def zZ(h:oX P A=af):q7 P (n2 A v) T A ao w K=K v w:=by
 have a:(wK (n2 A v) T A ao).run P w= .ok v w:=by
  unfold oX at h;cases hu:P.underlying A with
  |none=>rw[hu]at h;cases h
  |some b=>rw[hu]at h;cases b<;>first|(cases h;done)|simp[wK,eJ hu]
 unfold q7 bM;rw[a]
def z1{B:cv}(h:oX P A=af)(c:B≠A):∃a,∀w K,q7 P (n2 B v) T A af w K=K (a1 #[a,ax ao]) w:=by
 obtain⟨a,b⟩:=Ro h;refine⟨a,λw K=>?_⟩;have d:(wK (n2 B v) T A af).run P w= .ok (a1 #[a,ax ao]) w:=by
  have b:=b w;unfold oX at h;cases hu:P.underlying A with
  |none=>rw[hu]at h;cases h
  |some e=>rw[hu]at h;cases e<;>first|(cases h;done)|simp[wK,eJ hu,c,b]
 unfold q7 bM;rw[d]
def CQ(a:oX P A=af):∃b,∀w K,q7 P gA T A af w K=K (a1 #[b,ax ao]) w:=by
 obtain⟨b,c⟩:=Ro a;refine⟨b,λw K=>?_⟩;have d:(wK gA T A af).run P w= .ok (a1 #[b,ax ao]) w:=by
  have c:=c w;unfold oX at a;cases hu:P.underlying A with
  |none=>rw[hu]at a;cases a
  |some e=>rw[hu]at a;cases e<;>first|(cases a;done)|simp[wK,eJ hu,c]
 unfold q7 bM;rw[d]
def ub:Z->Bool
 |gA=>af
 |_=>ao
variable{x:Z}
def U0(a:BR P T=af)(c:x=gA\/∃A b,x=n2 A b):(uO 10000 T x gA).run P w= .ok (ub x) w:=by
 unfold BR at a;cases hu:P.underlying T with
 |none=>rw[hu]at a;cases a
 |some d=>
  rw[hu]at a;cases d<;>first|(cases a;done)|skip
  unfold uO;rcases c with rfl|⟨A,b,rfl⟩<;>simp[eJ hu,ub]
def Vb(h:BR P T=af)(a:x=gA\/∃A b,x=n2 A b):b7 P gZ T dX af x gA w K=K (ax (ub x)) w:=by
 have c:=U0 (w:=w) h a;have d:(do jK gZ T (bif dX then h7 x else hZ 0) (h7 gA) x gA;pv gZ T x gA:Sem Z).run P w= .ok (ax (ub x)) w:=by
  have e:(jK gZ T (bif dX then h7 x else hZ 0) (h7 gA) x gA).run P w= .ok () w:=by unfold jK;rcases a with rfl|⟨A,b,rfl⟩<;>simp
  have f:pv gZ T x gA=(do pj (ax (<-qk T x gA))):=by rcases a with rfl|⟨A,b,rfl⟩<;>rfl
  rw[fN,e,jI,f,fN];unfold qk Az;rw[c];rfl
 unfold b7 bM;simp only [cond_true];rw[d]
def Vc(c:BR P T=af)(a:v=gA\/∃A b,v=n2 A b):b7 P mb T dX af v gA w K=K (ax (!ub v)) w:=by
 have d:=U0 (w:=w) c a;have e:(do jK mb T (bif dX then h7 v else hZ 0) (h7 gA) v gA;pv mb T v gA:Sem Z).run P w= .ok (ax (!ub v)) w:=by
  have f:(jK mb T (bif dX then h7 v else hZ 0) (h7 gA) v gA).run P w= .ok () w:=by unfold jK;rcases a with rfl|⟨A,b,rfl⟩<;>simp
  have g:pv mb T v gA=(do pj (ax (!(<-qk T v gA)))):=by rcases a with rfl|⟨A,b,rfl⟩<;>rfl
  rw[fN,f,jI,g,fN];unfold qk Az;rw[d];rfl
 unfold b7 bM;simp only [cond_true];rw[e]
def o4(P:bq)(T b:Nat):Option (Nat×Nat):=match P.underlying T with|some (ql c)=>(c[b]?).map λa=>(a.type,a.offset)|_=>none
variable{S:List Z}{n k:Nat}
def i0{f:Nat}(a:o4 P T f=J (n,k))(b:eu P n=af)(c:S[k]? =J v):xZ P T (al S.toArray) f w K=K v w:=by
 have d:(Iw T (al S.toArray) f).run P w= .ok v w:=by
  unfold o4 at a;cases hu:P.underlying T with
  |none=>rw[hu]at a;cases a
  |some e=>
   rw[hu]at a;cases e<;>first|(cases a;done)|skip
   rename_i i
   simp only [sg]at a;obtain⟨j,g,h⟩:=a;cases h;simp[Iw,eJ hu,g,asAgg,sd,zX b,c]
 unfold xZ bM;rw[d]
variable{i:Nat}
def uy{t:Nat}(a:o4 P T k=J (i,t))(b:ed P i=J n):xZ P T (al S.toArray) k w K=K (al ((S.drop t).take n).toArray) w:=by
 have c:(Iw T (al S.toArray) k).run P w= .ok (al ((S.drop t).take n).toArray) w:=by
  unfold o4 at a;cases hu:P.underlying T with
  |none=>rw[hu]at a;cases a
  |some d=>
   rw[hu]at a;cases d<;>first|(cases a;done)|skip
   rename_i j
   simp only [sg]at a;obtain⟨l,e,f⟩:=a;cases f;obtain⟨g,h⟩:=GI (w:=w) b;simp[Iw,eJ hu,e,asAgg,sd,g,h]
 unfold xZ bM;rw[c]
def alg{x:hF}{c:List cv}{d:cv}(a b:Int):cz P .min c d [I x a,I x b] w K=K (I x (if b<a then b else a)) w:=by simp[cz,bM,DO,Builtin.min2]
variable{x:List Z}{e:hF}
def Vp{c:Nat}{d:hF}{α:Type}{z:Int}{V:α->List Z}(f:ew P T=J n)(g:cg P n=k)(i:cM P n=J x)(j:z=c)(l:fI P n*c<=281474976710656)(m:c<=e0)
 (h:∀b a,fH a w.heap.size n k b V []->O w a->K b a):CW P T (I e 0) (I d z) w K:=by
 obtain⟨o,p,q,r,C,s,t⟩:=oF i;subst j;obtain⟨a,u,v,y⟩:=run_make_own (P:=P) w w.heap.size T n o p k (hf f) q r (by rw[s,g]) e d c (by rw[t];exact l) m (a6 _);unfold CW bM;rw[u];exact h _ a v ((O.p w).ab y (λD B=>by cases B))
def ait{α:Type}{V:α->List Z}(e:eR V n)(g:0<n)(d:α)(b:Array Z)(h:b.toList=V d)(c:Nat):(W9 b (c*n)).toList=(kR c d).flatMap V:=by
 have i:b.size=n:=by rw[<-AB,h,e.bl]
 apply wz;intro a;have o:(W9 b (c*n)).toList.length=c*n:=by simp[size_madeCells]
 by_cases j:a<c*n
 ·have p:a/n<c:=(AD g).2 j;have k:a%n<n:=se _ g;obtain⟨f,l⟩:∃f,(V d)[a%n]? =J f:=⟨_,aX (by rw[e.bl];exact k)⟩;have q:a/n*n+a%n=a:=by rw[n4];exact qn a n
  have:=e.aY (kR c d) (a/n) d (by simp[p]) _ f l;rw[q]at this;rw[this];have r:b[a%n]? =J f:=by rw[<-l,<-h];simp
  have m:a%n<b.size:=by rw[i];exact k
  unfold W9;simp only [Du,Array.getElem?_map,Array.getElem?_range,j,i];simp[getElem!_pos b (a%n) m];have:=Nk m;rw[r]at this;exact(Option.some.inj this).symm
 ·rw[j2 (by rw[o];omega),j2 (by rw[e.aA,Dt];omega)]
def ald{t:Int}{c:hF}{α:Type}{gv:Int}{V:α->List Z}(b:α)(g:ew P T=J n)(h:cg P n=k)(j:0<k)(l:cM P n=J x)(m:eR V k)(o:x=V b)(p:t=i)(q:gv=i)(r:fI P n*i<=281474976710656)(s:i<=e0)
 (u:∀d a,ar a w.heap.size n k d V (kR i b)->O w a->K d a):CW P T (I e t) (I c gv) w K:=by
 obtain⟨v,f,y,z,B,C,D⟩:=oF l;subst p q;obtain⟨a,E,F,G⟩:=run_make_full (P:=P) w w.heap.size T n v f k (hf g) y z (by rw[C,h]) e c i (by rw[D];exact r) s (a6 _);unfold CW bM;rw[E];have H:=ait m j b f.cells (by rw[B,o]) i;refine u _ a (fH.row (L:=kR i b) ?_) ((O.p w).ab G (λQ L=>by cases L));unfold fH;rw[Dt,<-H];exact F
def ak9{t:Nat}{x e:Z}{α:Type}{V:α->List Z}{a b:List α}{s:cv}(B:ew P T=J k)(C:cg P k=i)(o:0<i)(p:eR V i)(am:ar w n k i x V a)(an:aC w e i V b)(U:a.length<=b.length)
 (D:∀u,u.heap.size=w.heap.size->w.grownBy u x.ownBlock->ar u n k i x V (b.take a.length)->K (I X a.length) u):cz P .copy [T,s] t [x,e] w K:=by
 obtain⟨E,H,rfl,a8,a9,W⟩:=an;have ap:Nat.min b.length a.length=a.length:=Nat.min_eq_right U;have q:(b.take a.length).length=a.length:=by simp;omega
 rcases am with⟨rfl,rfl⟩|⟨g,f,r,h,rfl,l,L,M,ab,aq,aB⟩
 ·have v:∀(e:hr),(WX e 0).run P w= .ok #[] w:=λe=>by simpa using Na (P:=P) w e [] ae
  have m:(AX #[T,s] t #[aQ ac 0 0,aQ E b.length H]).run P w= .ok (I X 0) w:=by cases E<;>simp[AX,eJ (hf B),tm,Av,l_ C o,v,Dk]
  have:=D w F (vF w _) (.inl ⟨F,ae⟩);unfold cz bM
  dsimp only
  rw[m];exact this
 ·cases E with
  |none=>
   have av:b=[]:=by
    cases b with
    |nil=>rfl
    |cons d b=>obtain⟨O,f,l,_⟩:=W 0 d F;cases l
   subst av;have aw:a=[]:=ig (by simpa using U);subst aw;have m:(AX #[T,s] t #[aQ (J ⟨g,f,ac⟩) 0 r,aQ ac 0 H]).run P w= .ok (I X 0) w:=by simp[AX,eJ (hf B),tm,Av,l_ C o,Dl,Dk]
   have:=D w F (vF w _) (.inr ⟨g,f,r,h,F,l,L,M,ab,aq,ae⟩);unfold cz bM;simp only [lk]at m this⊢;rw[m];exact this
  |some Q=>
   have ay:∀c j,((b.take a.length).flatMap V)[c]? =J j->w.cell? (Q.add c)=J j:=by
    intro c j y;have az:c<a.length*i:=by have:=(dS.1 y).1;rwa[p.aA,q]at this
    have a0:c/i<a.length:=(AD o).2 az;obtain⟨d,z⟩:∃d,b[c/i]? =J d:=⟨b[c/i]'G,aX G⟩;have a2:(b.take a.length)[c/i]? =J d:=by rw[lN,au a0,z]
    obtain⟨O,f,l,a3⟩:=W _ d z;cases l;have a4:c%i<(V d).length:=by rw[p.bl];exact se _ o
    obtain⟨R,ag⟩:∃R,(V d)[c%i]? =J R:=⟨(V d)[c%i],aX a4⟩;have ah:c/i*i+c%i=c:=by rw[n4];exact qn c i
    have ai:=p.aY _ _ d a2 _ R ag;rw[ah,y]at ai;cases ai;have:=a3 _ _ ag;rw[jf];rw[j4,ah]at this;exact this
   have S:((b.take a.length).flatMap V).length=a.length*i:=by rw[p.aA,q]
   have aD:a.length*i<=r*i:=ny i M;have a5:∀j∈(b.take a.length).flatMap V,j.oneCell' =true:=λj y=>by obtain⟨d,_,z⟩:=nv.1 y;exact p.B d j z
   have v:=Na (P:=P) w Q _ ay;have aj:=uM P g f k ((b.take a.length).flatMap V) 0 h w L G a5;simp only [nw]at aj;rw[S]at v;have m:(AX #[T,s] t #[aQ (J ⟨g,f,ac⟩) a.length r,aQ (J Q) b.length H]).run P w=
    .ok (I X a.length) (w.setRow g (h.toList.take f++(b.take a.length).flatMap V++h.toList.drop (f+((b.take a.length).flatMap V).length)).toArray):=by
    simp only [AX,fN,eJ (hf B),jI,tm,Av,l_ C o,oa,List.getElem?_toArray,qm,pk,ap,v];simp[aj,Dk]
   have ak:h.toList.length=h.size:=ae;have:=D (w.setRow g (h.toList.take f++(b.take a.length).flatMap V++h.toList.drop (f+((b.take a.length).flatMap V).length)).toArray) ae ⟨F,F,F,ae,λO _ a7=>uN w g O _ (λk=>a7 (by simp[to,k]))⟩
    (.inr ⟨g,f,r,_,by rw[q],l,qj w g h _ k _ L,by rw[q];exact M,ab,by
     simp only [mG,bf,bt,cO,ak,S];omega,by
     rw[q];simp only [cX];rw[rf (by rw[bt,ak];omega),si,pn,kp,fc,<-S];exact tq⟩)
   unfold cz bM
   dsimp only
   rw[m];exact this
end
def Fe(P:bq)(c:Nat->Option (List Nat)):Nat->List Ay->Option (List Nat)
 |_,[]=>J []
 |d,a::e=>match c a.type with
  |some b=>if kS a.offset d&&(a.name != "_")&&kS (cg P a.type) b.length&&!b.isEmpty then(Fe P c (d+b.length) e).map (b++·)else ac
  |none=>ac
def oY(P:bq):Nat->Nat->Option (List Nat)
 |0,_=>ac
 |b+1,T=>match P.underlying T with
  |some (ql d)=>if P.stoodInHeld T then ac else Fe P (oY P b) 0 d.toList
  |some (.array e c)=>match oY P b c with
   |some a=>if kS (cg P c) a.length&&!a.isEmpty then J (kR e a).flatten else ac
   |none=>ac
  |_=>if wc P T&&kS (cg P T) 1 then J [T]else ac
def IJ(P:bq)(T:Nat)(a:Z)(b:List Z):Prop:=(sG P T=af/\a=al b.toArray)\/(eu P T=af/\b=[a])
variable{d:List Nat}
def Fs{e:List Nat}:∀{a:List Z},hg P (d++e) a=af->hg P d (a.take d.length)=af/\hg P e (a.drop d.length)=true:=by
 induction d with
 |nil=>intro a b;exact⟨by simp[hg],by simpa using b⟩
 |cons g d ih=>
  intro a b;cases a with
  |nil=>simp[hg]at b
  |cons h a=>simp only [List.cons_append,hg,fb]at b;obtain⟨c,f⟩:=ih b.2;refine⟨?_,by simpa using f⟩;simp only [d1,List.take_succ_cons,hg,fb];exact⟨b.1,c⟩
def vA:∀{a:List Z},hg P d a=af->a.length=d.length:=by
 induction d with
 |nil=>intro a b;cases a with|nil=>rfl|cons=>simp[hg]at b
 |cons c d ih=>
  intro a b;cases a with
  |nil=>simp[hg]at b
  |cons e a=>simp only [hg,fb]at b;simp[ih b.2]
variable{n:Nat}
def ahO{T:Nat}(a:oY P n T=J d):sG P T=af\/(eu P T=af/\d=[T]):=by
 cases n with
 |zero=>cases a
 |succ n=>
  unfold oY at a;unfold sG eu;cases hu:P.underlying T with
  |none=>rw[hu]at a;simp[wc,hu]at a
  |some b=>rw[hu]at a;cases b<;>first|(exact .inl F)|(refine .inr ⟨F,?_⟩;dsimp only at a;split at a<;>first|(cases a;done)|(cases a;rfl))
def afj{T:Nat}(b:sG P T=af)(a:cg P T=n)(e:0<n):ed P T=J n:=by
 unfold sG at b;unfold ed;unfold cg at a;cases c:P.info? T with
 |none=>rw[c]at a;dsimp only at a;omega
 |some f=>
  rw[c]at a;dsimp only at a;cases hu:P.underlying T with
  |none=>rw[hu]at b;cases b
  |some d=>rw[hu]at b;cases d<;>first|(cases b;done)|(simp[a])
def GJ{L:Array Z}{off:Nat}{T:Nat}(h:oY P n T=J d)(c:cg P T=d.length)(i:0<d.length)(j:off+d.length<=L.size):
 ∃a,(∀b,(sd T L off).run P b= .ok a b)/\IJ P T a ((L.toList.drop off).take d.length):=by
 rcases ahO h with e|⟨f,rfl⟩
 ·refine⟨al ((L.toList.drop off).take d.length).toArray,λb=>?_,.inl ⟨e,F⟩⟩;obtain⟨k,l⟩:=GI (w:=b) (afj e c i);simp only [sd,fN,k,l,jI,if_true,oa];congr 2;apply rb;simp[ani]
 ·simp only [oK]at j c⊢;obtain⟨a,g⟩:∃a,L[off]? =J a:=⟨_,Nk G⟩;refine⟨a,λb=>by simp[sd,zX f,g],.inr ⟨f,?_⟩⟩;have:L.toList[off]? =J a:=by simpa using g
  obtain⟨m,o⟩:=dS.1 this;rw[Dw m,o];rfl
abbrev yt(P:bq)(h T:Nat)(c:List Nat):Prop:=∀a b d e,hg P c a=af->hg P c b=af->IJ P T d a->IJ P T e b->∃f:Bool,(f=af↔a=b)/\∀g,(uO h T d e).run P g= .ok f g
def ag6{T:Nat}(d:wc P T=af):yt P (n+1) T [T]:=by
 intro q r k l e g m o;have h:eu P T=true:=by
  unfold wc at d;unfold eu;cases hu:P.underlying T with
  |none=>rw[hu]at d;cases d
  |some i=>rw[hu]at d;cases i<;>first|(cases d;done)|rfl
 have j:sG P T≠true:=by
  intro a;unfold sG at a;unfold eu at h;cases hu:P.underlying T with
  |none=>rw[hu]at a;cases a
  |some i=>rw[hu]at a h;cases i<;>first|(cases a;done)|(cases h;done)
 rcases m with⟨a,_⟩|⟨_,rfl⟩
 ·exact aL a j
 rcases o with⟨a,_⟩|⟨_,rfl⟩
 ·exact aL a j
 unfold hg at e g;cases hu:P.underlying T with
 |none=>simp[hu]at e
 |some p=>
  cases p<;>cases k<;>simp only [hu,yp,j1]at e<;>cases l<;>simp only [hu,yp,j1]at g
  case bool.bool.bool b c=>exact⟨b==c,ae,λf=>W4 f n _ b c hu⟩
  case int.int.int s t b u c=>simp[hg]at e g;subst e g;exact⟨b==c,ae,λf=>anp f n _ _ _ b c hu⟩
  case string.string.string b c=>exact⟨b.toList==c.toList,by rw[beq_iff_eq,QX];simp,λf=>anq f n _ b c hu⟩
def RV{r q:Nat}(ih:∀T d,oY P q T=J d->yt P r T d):∀(i:List Ay) (a:Nat) (d:List Nat) (L c:Array Z),Fe P (oY P q) a i=J d->hg P d (L.toList.drop a)=af->hg P d (c.toList.drop a)=af->
 ∃j:Bool,(j=af↔L.toList.drop a=c.toList.drop a)/\∀f,(AG r L c i).run P f= .ok j f
 |[],a,d,L,c,b,k,l=>by cases b;have m:=vA k;have C:=vA l;exact⟨af,by rw[ig m,ig C];simp,λf=>F⟩
 |s::i,a,d,L,c,b,k,l=>by
  unfold Fe at b;cases g:oY P q s.type with
  |none=>rw[g]at b;cases b
  |some e=>
   rw[g]at b
   dsimp only at b
   split at b
   case isFalse=>cases b
   rename_i t
   simp only [fb]at t;obtain⟨⟨⟨n,D⟩,o⟩,E⟩:=t;have n:=oc n;have o:=oc o;have u:0<e.length:=by cases e with|nil=>simp at E|cons=>simp
   simp only [sg]at b;obtain⟨H,K,rfl⟩:=b;obtain⟨M,v⟩:=Fs k;obtain⟨O,w⟩:=Fs l;have Q:=vA k;have R:=vA l;simp only [cO,bf,AB]at Q R;rw[jF]at v w;obtain⟨S,x,U⟩:=GJ g o u (L:=L) (off:=a) G;obtain⟨V,y,W⟩:=GJ g o u (L:=c) (off:=a) G;obtain⟨ab,z,A⟩:=ih _ _ g _ _ S V M O U W;obtain⟨j,ae,ag⟩:=RV ih i (a+e.length) H L c K v w;have B:s.name≠ "_":=by simpa using D
   have m:∀p:List Z,p.drop a=(p.drop a).take e.length++p.drop (a+e.length):=λp=>by rw[<-jF,fi]
   have ah:((L.toList.drop a).take e.length).length=((c.toList.drop a).take e.length).length:=by simp;omega
   cases ab with
   |false=>refine⟨ao,?_,λf=>by simp[AG,B,n,x,y,A]⟩;simp only [j1,false_iff];intro h;have:=z.2 (by rw[h]);cases this
   |true=>
    refine⟨j,?_,λf=>by simp[AG,B,n,x,y,A,ag]⟩;rw[ae];constructor
    ·intro h;rw[m L.toList,m c.toList,z.1 F,h]
    ·intro h;have:=ck (List.drop e.length) h
     simpa [jF]using this
def RW{p w c:Nat}{a:List Nat}(ih:yt P p c a)(l:oY P w c=J a)(m:cg P c=a.length)(n:0<a.length)(L d:Array Z):∀(e b:Nat),hg P (kR e a).flatten (L.toList.drop (b*a.length))=af->hg P (kR e a).flatten (d.toList.drop (b*a.length))=af->
 ∃i:Bool,(i=af↔L.toList.drop (b*a.length)=d.toList.drop (b*a.length))/\∀f,(Xa p c a.length L d (hs b e)).run P f= .ok i f
 |0,b,g,h=>by have j:=vA g;have x:=vA h;exact⟨af,by rw[ig j,ig x];simp,λf=>F⟩
 |e+1,b,g,h=>by
  rw[List.replicate_succ,List.flatten_cons]at g h;obtain⟨y,q⟩:=Fs g;obtain⟨z,r⟩:=Fs h;have A:=vA g;have B:=vA h;simp only [cO,bf,AB]at A B;have o:b*a.length+a.length=(b+1)*a.length:=by rw[jb,Dm]
  rw[jF,o]at q r;obtain⟨C,s,D⟩:=GJ l m n (L:=L) (off:=b*a.length) G;obtain⟨E,t,H⟩:=GJ l m n (L:=d) (off:=b*a.length) G;obtain⟨K,u,v⟩:=ih _ _ C E y z D H;obtain⟨i,M,O⟩:=RW ih l m n L d e (b+1) q r;have j:∀k:List Z,k.drop (b*a.length)=(k.drop (b*a.length)).take a.length++k.drop ((b+1)*a.length):=λk=>by rw[<-o,<-jF,fi]
  rw[HE];cases K with
  |false=>refine⟨ao,?_,λf=>by simp[Xa,s,t,v]⟩;simp only [j1,false_iff];intro c;have:=u.2 (by rw[c]);cases this
  |true=>
   refine⟨i,?_,λf=>by simp[Xa,s,t,v,O]⟩;rw[M];constructor
   ·intro c;rw[j L.toList,j d.toList,u.1 F,c]
   ·intro c;have:=ck (List.drop a.length) c
    simpa [jF,o]using this
def RU:∀(e T d:Nat) (c:List Nat),e<=d->oY P e T=J c->yt P d T c
 |0,_,_,_,_,a=>by cases a
 |e+1,T,0,_,z,_=>G
 |e+1,T,d+1,c,z,a=>by
  have ih:∀T c,oY P e T=J c->yt P d T c:=λT c a=>RU e T d c G a;unfold oY at a;cases hu:P.underlying T with
  |none=>rw[hu]at a;simp[wc,hu]at a
  |some A=>
   rw[hu]at a;have B:(if(wc P T&&kS (cg P T) 1)=af then J [T]else ac)=J c->yt P (d+1) T c:=by
    intro a;split at a
    ·rename_i b
     rw[fb]at b;cases a;exact ag6 b.1
    ·cases a
   cases A<;>first|exact B a|skip
   case struct w=>
    dsimp only at a
    split at a
    ·cases a
    rename_i x
    rw[W7]at x;intro j k C D o p q r;have h:¬eu P T=true:=by unfold eu;rw[hu];exact M_
    rcases q with⟨_,rfl⟩|⟨b,_⟩
    case inr=>exact aL b h
    rcases r with⟨_,rfl⟩|⟨b,_⟩
    case inr=>exact aL b h
    have y:P.fieldsOf T=w:=by simp[ano,hu]
    obtain⟨s,t,u⟩:=RV ih w.toList 0 c j.toArray k.toArray a (by simpa using o) (by simpa using p);refine⟨s,by simpa using t,λi=>?_⟩;rw[anr i d T _ _ (by rw[y];exact hu) x,y];exact u i
   case array E l=>
    dsimp only at a
    cases m:oY P e l with
    |none=>rw[m]at a;cases a
    |some v=>
     rw[m]at a
     dsimp only at a
     split at a
     case isFalse=>cases a
     rename_i b
     rw[fb]at b;have g:=oc b.1;have H:0<v.length:=by cases v with|nil=>simp at b|cons=>simp
     cases a;intro j k C D o p q r;have h:¬eu P T=true:=by unfold eu;rw[hu];exact M_
     rcases q with⟨_,rfl⟩|⟨b,_⟩
     case inr=>exact aL b h
     rcases r with⟨_,rfl⟩|⟨b,_⟩
     case inr=>exact aL b h
     obtain⟨s,t,u⟩:=RW (ih _ _ m) m g H j.toArray k.toArray E 0 (by simpa using o) (by simpa using p);refine⟨s,by simpa using t,λi=>?_⟩;have f:∃n,P.info? l=J n/\P.cellsOf l=v.length:=by
      unfold cg at g;cases f:P.info? l with
      |none=>rw[f]at g;dsimp only at g;omega
      |some n=>rw[f]at g;exact⟨n,F,by simp[Program.cellsOf,f];exact g⟩
     obtain⟨n,f,K⟩:=f;rw[run_equalIn_array i d j.toArray k.toArray hu f,K,anf];exact u i
end Go.Lift
namespace Go.Lift
open Go
def KW{c:Nat->Prop}:∀b,c b->∃f,c f/\∀a,a<f->¬c a:=by
 intro b
 induction b using Xd with
 |ind b ih=>
  intro h;by_cases g:∃a,a<b/\c a
  ·obtain⟨a,d,e⟩:=g;exact ih a d e
  ·exact⟨b,h,λa d e=>g ⟨a,d,e⟩⟩
open Classical in
noncomputable def vL(a:Nat->Prop):Nat:=if b:∃c,a c then Classical.choose (KW _ b.choose_spec)else 0
def Tb{a:Nat->Prop}(b:∃c,a c):a (vL a):=by unfold vL;rw[dif_pos b];exact(Xc (KW _ b.choose_spec)).1
variable{n:Nat}
def ah8{a:Nat->Prop}(b:a n):vL a<=n:=by have c:∃n,a n:=⟨n,b⟩;unfold vL;rw[dif_pos c];refine anz λd=>(Xc (KW _ c.choose_spec)).2 n d b
def ba.bJ{x:List Z}{k:Nat}{w:aa}{B:List Z->List Z->aa->(List Z->aa->Prop)->Prop}(b:Nat->List Z->aa->Prop)(j:∃a,b a x w)
 (l:∀a c h w,b a c w->B c h w (λd e=>∃f,f<a/\b f d e)):ba x n k w B:=by
 refine ba.y (λc w=>∃a,b a c w) (λc w=>vL λa=>b a c w) j ?_;intro c h w m;have o:(λd e=>(∃a,b a d e)/\(vL λa=>b a d e)<vL λa=>b a c w)=λd e=>∃f,f<(vL λa=>b a c w)/\b f d e:=by
  funext d e;apply propext;constructor
  ·rintro⟨i,g⟩;exact⟨_,g,Tb i⟩
  ·rintro⟨f,i,g⟩;exact⟨⟨f,g⟩,Nat.lt_of_le_of_lt (ah8 g) i⟩
 rw[o];exact l _ c h w (Tb m)
end Go.Lift
namespace Go.Lift
open Go Go.RowKit
def ag.f{w:aa}{b:Nat}{S:List Z}(h:ag w b S)(i:Nat){v:Z}(bD:S[i]? =J v):w.cell? ⟨b,0+i,ac⟩=J v:=h.b.f i bD
def ag.U{w:aa}{b:Nat}{S:List Z}(h:ag w b S){v:Z}(bD:S[0]? =J v):w.cell? ⟨b,0,ac⟩=J v:=h.b.U bD
def UZ{P:bq}{T:cv}{w:aa}(c:P.underlying T=J .bool)(a b:Bool):(uO 10000 T (ax a) (ax b)).run P w= .ok (a==b) w:=W4 w 9999 T a b c
variable{x e:Bool}
def U9{P:bq}{T:cv}{w:aa}{K:aU}(c:P.underlying T=J .bool)(a b:Bool):b7 P gZ T x e (ax a) (ax b) w K=K (ax (a==b)) w:=by
 have d:(do jK gZ T (bif x then h7 (ax a)else hZ 0) (bif e then h7 (ax b)else hZ 0) (ax a) (ax b);pv gZ T (ax a) (ax b):Sem Z).run P w= .ok (ax (a==b)) w:=by
  have f:jK gZ T (bif x then h7 (ax a)else hZ 0) (bif e then h7 (ax b)else hZ 0) (ax a) (ax b)=pj ():=rfl;have g:pv gZ T (ax a) (ax b)=(do pj (ax (<-qk T (ax a) (ax b)))):=rfl;rw[f,g,fN,oa,jI,fN];unfold qk Az;rw[UZ c]
  rfl
 unfold b7 bM;rw[d]
def U_{P:bq}{T:cv}{w:aa}{K:aU}(c:P.underlying T=J .bool)(a b:Bool):b7 P mb T x e (ax a) (ax b) w K=K (ax (!(a==b))) w:=by
 have d:(do jK mb T (bif x then h7 (ax a)else hZ 0) (bif e then h7 (ax b)else hZ 0) (ax a) (ax b);pv mb T (ax a) (ax b):Sem Z).run P w= .ok (ax (!(a==b))) w:=by
  have f:jK mb T (bif x then h7 (ax a)else hZ 0) (bif e then h7 (ax b)else hZ 0) (ax a) (ax b)=pj ():=rfl;have g:pv mb T (ax a) (ax b)=(do pj (ax (!(<-qk T (ax a) (ax b))))):=rfl;rw[f,g,fN,oa,jI,fN];unfold qk Az;rw[UZ c]
  rfl
 unfold b7 bM;rw[d]
end Go.Lift
namespace Go.bW
open Go
def ej(a:List UInt8)(b:Nat):Nat:=(a[b]?.getD 0).toNat
def p1(a:List UInt8)(b:Nat):ej a b<256:=UInt8.toNat_lt _
def nb(a:List UInt8)(b:Nat):Prop:=b<a.length/\ej a b/64=2
instance(aV:List UInt8)(k:Nat):Decidable (nb aV k):=by unfold nb;infer_instance
def dP(r:Int):Prop:=(0<=r/\r<55296)\/(57344<=r/\r<=1114111)
instance(r:Int):Decidable (dP r):=by unfold dP;infer_instance
def cF(aV:List UInt8):Nat×Nat:=
 let b:=ej aV 0
 if b<128 then(b,1)
 else if b/32=6/\nb aV 1 then
  let a:=(b%32)*64+ej aV 1%64
  if 128<=a then(a,2)else(65533,1)
 else if b/16=14/\nb aV 1/\nb aV 2 then
  let a:=(b%16)*4096+(ej aV 1%64)*64+ej aV 2%64
  if 2048<=a/\dP a then(a,3)else(65533,1)
 else if b/8=30/\nb aV 1/\nb aV 2/\nb aV 3 then
  let a:=(b%8)*262144+(ej aV 1%64)*4096+(ej aV 2%64)*64+ej aV 3%64
  if 65536<=a/\dP a then(a,4)else(65533,1)
 else(65533,1)
def MS(a:Int):Nm a=af↔dP a:=by unfold Nm dP;simp only [sc,fb,dF]
def ahw(a:ByteArray)(b c:Nat):(a.get! (b+c)).toNat=ej (a.data.toList.drop b) c:=by unfold ej;rw[kQ,Du];have:a.get! (b+c)=a.data[b+c]!:=rfl;rw[this,getElem!_def];cases a.data[b+c]? <;>rfl
def agu(a:ByteArray)(b:Nat):Utf8.decode a b=cF (a.data.toList.drop b):=by
 have e:∀c,(b+c<a.size/\ej (a.data.toList.drop b) c/64=2)=nb (a.data.toList.drop b) c:=by intro c;have f:a.size=a.data.toList.length:=rfl;apply propext;simp only [nb,cO,f];omega
 have g:∀d:Nat,Nm d=decide (dP d):=λd=>by rw[g0,dF];exact MS d
 unfold Utf8.decode cF;simp only [ahw,g,Utf8.runeError,fb,dF,beq_iff_eq,ge_iff_le];simp only [e,and_assoc]
def sK(a:List UInt8)(d:a≠[]):1<=(cF a).2/\(cF a).2<=a.length/\(cF a).2<=4:=by
 have b:1<=a.length:=by cases a with|nil=>exact aL F d|cons _ _=>simp
 unfold cF
 dsimp only
 split
 ·exact⟨ae,b,ae⟩
 split
 ·rename_i c
  have:=c.2.1;split
  ·exact⟨ae,by dsimp only;omega,ae⟩
  ·exact⟨ae,b,ae⟩
 split
 ·rename_i c
  have:=c.2.2.1;split
  ·exact⟨ae,by dsimp only;omega,ae⟩
  ·exact⟨ae,b,ae⟩
 split
 ·rename_i c
  have:=c.2.2.2.1;split
  ·exact⟨ae,by dsimp only;omega,ae⟩
  ·exact⟨ae,b,ae⟩
 ·exact⟨ae,b,ae⟩
def RG(a:List UInt8):dP (cF a).1:=by
 have c:=p1 a 0;have d:=p1 a 1;unfold cF
 dsimp only
 split
 ·left;dsimp only;omega
 split
 ·split
  ·left;dsimp only;omega
  ·right;decide
 split
 ·split
  ·rename_i b;exact b.2
  ·right;decide
 split
 ·split
  ·rename_i b;exact b.2
  ·right;decide
 ·right;decide
def bY(a:List UInt8):List Int:=if afd:a=[]then []else((cF a).1:Int)::bY (a.drop (cF a).2)
termination_by a.length
decreasing_by
 have b:=sK a ‹_›;rw[cO];omega
def ta:bY []=[]:=by rw[bY];rfl
def wa{x:List UInt8}(a:x≠[]):bY x=((cF x).1:Int)::bY (x.drop (cF x).2):=by rw[bY,dif_neg a]
def wb(a:List UInt8):∀c∈bY a,dP c:=by
 induction e:a.length using Xd generalizing a with
 |ind f ih=>
  intro c b;by_cases d:a=[]
  ·subst d;rw[ta]at b;cases b
  ·rw[wa d]at b;have g:=sK a d;rcases df.1 b with rfl|b
   ·exact RG a
   ·exact ih _ (by rw[cO];omega) _ F c b
def nr(a:List UInt8):(bY a).length<=a.length:=by
 induction c:a.length using Xd generalizing a with
 |ind d ih=>
  by_cases b:a=[]
  ·subst b;rw[ta];simp
  ·rw[wa b];have e:=sK a b;have:=ih _ (by rw[cO];omega) (a.drop (cF a).2) F;rw[cO]at this;rw[d1];omega
def V(r:Int):List UInt8:=(Nl r).data.toList
def uo(r:Int):Int:=if dP r then r else 65533
def ajh(a:Int):dP (uo a):=by unfold uo;split;assumption;right;decide
def Fk(r:Int):V (uo r)=V r:=by
 unfold uo;split
 ·rfl
 ·rename_i a
  have b:Nm r=false:=by rw[<-W7,MS];exact a
  unfold V Nl;rw[b]
  rfl
def bk(r:Int):Nat:=(V r).length
variable{t:Int}
def sO(a:dP t):(t<128/\V t=[jG t.toNat])\/(128<=t/\t<2048/\V t=[jG (192+t.toNat/64),jG (128+t.toNat%64)])\/
 (2048<=t/\t<65536/\V t=[jG (224+t.toNat/4096),jG (128+t.toNat/64%64),jG (128+t.toNat%64)])\/
 (65536<=t/\V t=[jG (240+t.toNat/262144),jG (128+t.toNat/4096%64),jG (128+t.toNat/64%64),jG (128+t.toNat%64)]):=by
 have b:=(MS t).2 a;have f:0<=t:=by unfold dP at a;omega
 unfold V Nl;rw[b]
 dsimp only
 simp only [if_true];by_cases c:t<128
 ·left;rw[au G];exact⟨c,F⟩
 right
 rw[an G];by_cases d:t<2048
 ·left;rw[au G];exact⟨G,d,F⟩
 right
 rw[an G];by_cases e:t<65536
 ·left;rw[au G];exact⟨G,e,F⟩
 right
 rw[an G];exact⟨G,F⟩
def sP(r:Int):1<=bk r/\bk r<=4:=by have:=sO (ajh r);unfold bk;rw[<-Fk r];rcases this with⟨_,a⟩|⟨_,_,a⟩|⟨_,_,a⟩|⟨_,a⟩<;>rw[a]<;>simp
def kr{n:Nat}(a:n<256):(jG n).toNat=n:=by rw[UInt8.toNat_ofNat'];omega
def Kg(g:dP t)(a:List UInt8):cF (V t++a)=(t.toNat,bk t):=by
 have m:=g;unfold dP at m;unfold bk;rcases sO g with⟨h,b⟩|⟨h,n,b⟩|⟨h,n,b⟩|⟨h,b⟩
 ·have d:ej (V t++a) 0=t.toNat:=by rw[b];exact kr G
  unfold cF
  dsimp only
  rw[d,au G,b]
  rfl
 ·have d:ej (V t++a) 0=192+t.toNat/64:=by rw[b];exact kr G
  have c:ej (V t++a) 1=128+t.toNat%64:=by rw[b];exact kr G
  have k:(V t++a).length=2+a.length:=by rw[b];simp;omega
  have e:nb (V t++a) 1:=⟨G,by rw[c];omega⟩;unfold cF
  dsimp only
  rw[d,c,an G,au ⟨G,e⟩,au G,b];exact Prod.ext (by dsimp only;omega) F
 ·have d:ej (V t++a) 0=224+t.toNat/4096:=by rw[b];exact kr G
  have c:ej (V t++a) 1=128+t.toNat/64%64:=by rw[b];exact kr G
  have f:ej (V t++a) 2=128+t.toNat%64:=by rw[b];exact kr G
  have k:(V t++a).length=3+a.length:=by rw[b];simp;omega
  have e:nb (V t++a) 1:=⟨G,by rw[c];omega⟩;have i:nb (V t++a) 2:=⟨G,by rw[f];omega⟩;unfold cF
  dsimp only
  have j:(224+t.toNat/4096)%16*4096+(128+t.toNat/64%64)%64*64+(128+t.toNat%64)%64=t.toNat:=G;rw[d,c,f,an G,an G,au ⟨G,e,i⟩,j,au ⟨G,by rw[lQ G];exact g⟩,b]
  rfl
 ·have d:ej (V t++a) 0=240+t.toNat/262144:=by rw[b];exact kr G
  have c:ej (V t++a) 1=128+t.toNat/4096%64:=by rw[b];exact kr G
  have f:ej (V t++a) 2=128+t.toNat/64%64:=by rw[b];exact kr G
  have l:ej (V t++a) 3=128+t.toNat%64:=by rw[b];exact kr G
  have k:(V t++a).length=4+a.length:=by rw[b];simp;omega
  have e:nb (V t++a) 1:=⟨G,by rw[c];omega⟩;have i:nb (V t++a) 2:=⟨G,by rw[f];omega⟩;have o:nb (V t++a) 3:=⟨G,by rw[l];omega⟩;unfold cF
  dsimp only
  have j:(240+t.toNat/262144)%8*262144+(128+t.toNat/4096%64)%64*4096+(128+t.toNat/64%64)%64*64+(128+t.toNat%64)%64=t.toNat:=G;rw[d,c,f,l,an G,an G,an G,au ⟨G,e,i,o⟩,j,au ⟨G,by rw[lQ G];exact g⟩,b]
  rfl
def a8(l:List Int):List UInt8:=l.flatMap V
def uK:a8 []=[]:=rfl
def r7(r:Int)(a:List Int):a8 (r::a)=V r++a8 a:=rfl
def kM(a b:List Int):a8 (a++b)=a8 a++a8 b:=hG ..
def ag0(a:Int):V a≠[]:=λb=>by have:=(sP a).1;unfold bk at this;rw[b]at this;simp at this
def akU{x:List Int}(b:∀a∈x,dP a)(c:List UInt8):bY (a8 x++c)=x++bY c:=by
 induction x with
 |nil=>rfl
 |cons a x ih=>
  have d:=b a (dv ..);rw[r7,cX,wa (by simp[ag0]),Kg d]
  dsimp only
  unfold bk;rw[uQ,ih (λe f=>b e (ey _ f)),lQ (by unfold dP at d;omega)]
  rfl
def xW{l:List Int}(a:∀b∈l,dP b):bY (a8 l)=l:=by have:=akU a [];rwa[cT,ta,cT]at this
end Go.bW
namespace Go.Lift
open Go Go.RowKit Go.bW Go.Lib
abbrev co(l:List UInt8):Value:=lO ⟨l.toArray⟩
def Hl(a:ByteArray):lO a=co a.data.toList:=by cases a;rfl
def qc(a:List UInt8):(⟨a.toArray⟩:ByteArray).size=a.length:=by simp[ByteArray.size]
variable{P:bq}{T:cv}{w:aa}{K:aU}
variable{n:Nat}
def mA{l:List UInt8}(a:P.underlying T=J sh):cz P j7 [T] n [co l] w K=K (I X l.length) w:=by simp[cz,bM,X0,eJ a,Dk,qc]
variable{e:hF}{i:Nat}
def Vn{x:List UInt8}{z:Int}{a:UInt8}(b:P.underlying T=J sh)(c:x[i]? =J a)(d:z=i):th P T (co x) (I e z) w K=K (I .u8 a.toNat) w:=by
 subst d;obtain⟨h,f⟩:=dS.1 c;have g:(Od T (co x) (I e i)).run P w= .ok (I .u8 a.toNat) w:=by rw[run_index_string w T _ e i b,dif_pos ⟨G,by rw[qc];omega⟩];congr 3;rw[<-f];show(x.toArray[(i:Int).toNat]'_).toNat=_;simp
 unfold th bM;rw[g]
variable{t:Int}
def Vq{x:hF}{s:Int}{bD:Nat}{l:List UInt8}{aw:Nat}(a:P.underlying T=J sh)(b:t=aw)(c:s=bD)(f:aw<=bD)(g:bD<=l.length):
 le P T (co l) (J (I x t)) (J (I e s)) ac w K=K (co ((l.drop aw).take (bD-aw))) w:=by
 subst b c;have d:=run_slice_string (P:=P) w T ⟨l.toArray⟩ x e aw bD a G G (by rw[qc];omega);simp[le,bM,wJ,eJ a,d,Xb]
variable{x:List UInt8}
def alj(a:P.underlying T=J sh)(b:t=n)(d:n<=x.length):le P T (co x) ac (J (I e t)) ac w K=K (co (x.take n)) w:=by subst b;have c:=run_slice_string_h (P:=P) w T ⟨x.toArray⟩ a e n G (by rw[qc];omega);simp[le,bM,wJ,eJ a,c,Xb]
def alk{aw:Nat}(a:P.underlying T=J sh)(b:t=aw)(f:aw<=x.length):le P T (co x) (J (I e t)) ac ac w K=K (co (x.drop aw)) w:=by
 subst b;have c:=run_slice_string_l (P:=P) w T ⟨x.toArray⟩ a e aw G (by rw[qc];omega);have d:(x.drop aw).take ((⟨x.toArray⟩:ByteArray).size-aw)=x.drop aw:=by rw[qc];exact d_ (by rw[cO];exact a6 _)
 simp only [le,bM,wJ,fN,eJ a,c,jI,Xb,kq,d]
variable{x e:Bool}
def GL{a b:List UInt8}(g:a.length+b.length<=9223372036854775807):b7 P iA T x e (co a) (co b) w K=K (co (a++b)) w:=by
 have c:=run_string_add_sum (P:=P) (w:=w) ⟨a.toArray⟩ ⟨b.toArray⟩ (by rw[qc,qc];exact g);have h:(⟨a.toArray⟩++⟨b.toArray⟩:ByteArray)=⟨(a++b).toArray⟩:=by apply W6;simp[ByteArray.data_append]
 rw[h]at c;have i:∀d f:pt,(jK iA T d f (co a) (co b)).run P w= .ok () w:=λd f=>by simp[jK]
 unfold b7 bM;rw[fN,i,jI,binOp_string_add,c]
def V7(a:List UInt8):(⟨a.toArray⟩:ByteArray).toList=a:=by rw[W5]
def Ve{c d:List UInt8}:b7 P gZ T x e (co c) (co d) w K=K (ax (decide (c=d))) w:=by
 have f:∀a b:pt,(jK gZ T a b (co c) (co d)).run P w= .ok () w:=λa b=>by simp[jK]
 unfold b7 bM;rw[fN,f,jI,binOp_string_eql,oa,V7,V7]
 dsimp only
 congr 2;rw[g0,beq_iff_eq,dF]
def ak7{x:hF}{a b:cv}(c:(P.underlying a).isSome=af)(hd:P.underlying b=J sh):nW P a b (I x t) w K=K (co (V t)) w:=by have d:(lO (Nl t))=co (V t):=Hl _;unfold nW bM;rw[run_convert_int_string w a b x t c hd,d]
abbrev iw(a:UInt8):List Value:=[I .u8 a.toNat]
def nK:eR iw 1:=⟨λ_=>F,λb c a=>by simp at a;subst a;rfl⟩
variable{v:Z}{x:List UInt8}
def CT{c d e:cv}(f:P.underlying c=J (.slice e))(g:P.underlying e=J (.int .u8))(hd:P.underlying d=J sh)(p:aC w v 1 iw x):nW P c d v w K=K (co x) w:=by
 obtain⟨q,k,rfl,C,D,h⟩:=p;unfold nW bM;cases q with
 |none=>
  have a:x=[]:=by
   cases x with
   |nil=>rfl
   |cons i r=>obtain⟨l,m,a,_⟩:=h 0 i F;cases a
  subst a;rw[run_convert_bytes_nil w c e f g _ _ d hd]
  rfl
 |some j=>
  cases a:x with
  |nil=>
   subst a;have s:(WX j 0).run P w= .ok #[] w:=by simpa using Na (P:=P) w j [] ae
   rw[run_convert_bytes_string w c d e _ _ _ f g hd];have:=run_bytesToString (P:=P) w j 0 k [] (by simpa using s);rw[lk,this]
   rfl
  |cons i r=>
   obtain⟨l,m,t,_⟩:=h 0 i (by rw[a];rfl);cases t;have u:=run_convert_bytes_arg (P:=P) w c e f g l m x.length k (x.map λb=>(b.toNat:Int)) ae (λn y=>by obtain⟨b,o⟩:∃b,x[n]? =J b:=⟨_,aX y⟩;obtain⟨E,G,z,A⟩:=h n b o;cases z;have:=A 0 _ F;simp only [Nat.mul_one,nw]at this;rw[this];simp[List.getD,o]) d hd
   rw[<-a,u];have B:strOfNums (x.map λb=>(b.toNat:Int))=⟨x.toArray⟩:=by unfold strOfNums;apply W6;simp[Function.comp_def]
   rw[B]
variable{k:Nat}
def U8{e:List UInt8}{c:cv}(j:ew P T=J k)(l:P.underlying c=J sh)(m:cg P k=1)(o:cM P k=J [I .u8 0])(d:(P.info? k).map (·.zero)=J (J (I .u8 0)))(p:fI P k=1)
 (q:fH w n k 1 v iw x)(r:n<=w.heap.size)(C:x.length+e.length<=140737488355328)
 (s:∀b a,fH a n k 1 b iw (x++e)->w.grownBy a v.ownBlock->K b a):cz P fT [T,c] i [v,co e] w K:=by
 obtain⟨f,D,g,_,_,t,u⟩:=oF o;rw[g]at d;have y:f.zero=J (I .u8 0):=by simpa using d
 have E:e0=9223372036854775807:=rfl;have z:strCells ⟨e.toArray⟩=e.flatMap iw:=by unfold strCells;rw[List.map_eq_flatMap]
 obtain⟨b,a,A,h,B,_⟩:=run_append_own_string (P:=P) w n T c i k f (hf j) l g y (by rw[t,m]) (by rw[u,p]) v x.length (x.flatMap iw) q ⟨e.toArray⟩ (by rw[qc];omega) (by rw[qc];omega) r;have:=s b a (by unfold fH;rw[bf,hG,<-z];rw[qc]at h;exact h) B
 unfold cz bM
 dsimp only
 rw[A];exact this
def jt(w:aa)(a:Nat)(b:List UInt8)(pos:Nat):Prop:=w.heap[a]? =J (.stringIter ⟨b.toArray⟩ pos)
def jt.D{w:aa}{b:Nat}{l:List UInt8}{pos:Nat}(h:jt w b l pos):b<w.heap.size:=by unfold jt at h;exact(iz.1 h).1
def jt.h{w a:aa}{b:Nat}{l:List UInt8}{pos:Nat}(h:jt w b l pos)(e:O w a):jt a b l pos:=by have c:=h.D;unfold jt at*;rw[e.block b c];exact h
def jt.ab{w a:aa}{row:Option Nat}{b:Nat}{l:List UInt8}{pos:Nat}(h:jt w b l pos)(g:w.grownBy a row)(c:J b≠row):jt a b l pos:=by have d:=h.D;unfold jt at*;rw[g.block b d c];exact h
def Aa(c:P.underlying T=J sh)(d:∀a b,a=w.heap.size->b.heap.size=a+1->O w b->jt b a x 0->K (ad (J ⟨a,0,ac⟩)) b):GV P T (co x) w K:=by have:=d w.heap.size (w.iter ⟨x.toArray⟩ 0) F (by simp[World.iter]) ((Below.refl _ _).alloc (a6 _) _) (World.iter_heap w _ _);unfold GV bM;rw[run_range_string w T _ c];exact this
def x1{pos:Nat}(b:jt w k x pos)(c:pos<x.length)
 (d:∀a,a.heap.size=w.heap.size->qN k w a->jt a k x (pos+(cF (x.drop pos)).2)->K (a1 ⟨[ax af,I X pos,I cc (cF (x.drop pos)).1]⟩) a):x0 P (ad (J ⟨k,0,ac⟩)) af n w K:=by
 have e:=b.D;unfold jt at b;have hd:=agu ⟨x.toArray⟩ pos;have f:(⟨x.toArray⟩:ByteArray).data.toList=x:=rfl;rw[f]at hd;have g:pos<(⟨x.toArray⟩:ByteArray).size:=by rw[qc];exact c
 have h:(Ix (ad (some ⟨k,0,none⟩)) true n).run P w= .ok (a1 ⟨[ax true,I X pos,I cc (cF (x.drop pos)).1]⟩) {w with heap:=w.heap.setIfInBounds k (.stringIter ⟨x.toArray⟩ (pos+(cF (x.drop pos)).2))}:=by simp only [Ix,getObj,setObj,fN,As,b,Result.andThen,g,if_true,hd];simp[Dk]
 have:=d {w with heap:=w.heap.setIfInBounds k (.stringIter ⟨x.toArray⟩ (pos+(cF (x.drop pos)).2))} ae ⟨F,F,F,ae,λi m j=>by
  show(w.heap.setIfInBounds k _)[i]? =_;rw[WR (λl=>j (by rw[l]))]⟩ (by
  unfold jt;show(w.heap.setIfInBounds k _)[k]? =_;rw[Array.getElem?_setIfInBounds_self_of_lt e])
 unfold x0 bM;rw[h];exact this
def CX{pos:Nat}(a:jt w k x pos)(b:¬pos<x.length):x0 P (ad (J ⟨k,0,ac⟩)) af n w K=K (a1 ⟨[ax ao]⟩) w:=by
 unfold jt at a;have c:¬pos<(⟨x.toArray⟩:ByteArray).size:=by rw[qc];exact b
 have d:(Ix (ad (J ⟨k,0,ac⟩)) af n).run P w= .ok (a1 ⟨[ax ao]⟩) w:=by simp[Ix,getObj,As,a,c]
 unfold x0 bM;rw[d]
end Go.Lift
namespace Go.Lift
open Go
inductive qv where
 |g
 |F (s:fr)
 |E (s:fr)
 |l (a b:qv)
 |J (S:List Nat) (k:Nat) (a b:qv)
 |ac (a b:qv)
 |A (a:qv)
 |aw (S:List Nat) (k:Nat) (a:qv)
def bJ:List dN->Nat->dN
 |a::_,0=>a
 |_::b,n+1=>bJ b n
 |[],_=>⟨ac,.move (hZ 0),0,"",#[],ac⟩
def aI(a:List dN)(eX:Nat):Nat:=match(bJ a eX).dst with|some b=>b|none=>0
def K4(d:bq):List dN->c_->aa->(c_->aa->Prop)->Prop
 |[],b,a,c=>c b a
 |e::f,b,a,c=>hN d e (fA b) a λg a=>K4 d f (put b e.dst g) a c
def xO(e:bq)(b:List dN):fr->c_->aa->(c_->aa->Prop)->Prop
 | .j,a,c,d=>d a c
 | .op h f,a,c,d=>hN e (bJ b h) (fA a) c λj c=>xO e b f (put a (bJ b h).dst j) c d
 | .skip h f,a,c,d=>xO e b f (put a (bJ b h).dst jc) c d
 | .q g k i,a,c,d=>b6 (b3 a (aI b g)) (xO e b k ((aI b g,ax af)::a) c d) (xO e b i ((aI b g,ax ao)::a) c d)
 | .b8 g i f,a,c,d=>xD i (b3 a (aI b g)) (xO e b f a c d)
 |_,_,_,_=>False
def x6(e:bq)(b:dN)(f:aa->Prop)(c:c_)(a:aa)(N:c_->aa->Prop):Prop:=
 bif sS b then hN e b (fA c) a λd a=>N (put c b.dst d) a
 else bif ni b then cW f a (λa g=>hN e b (fA c) a g) (λd=>N (put c b.dst d) a)
  else hN e b (fA c) a λd a=>f a/\N (put c b.dst d) a
def ot(f:bq)(c:List dN)(e:aa->Prop):fr->c_->aa->(c_->aa->Prop)->Prop
 | .j,b,a,d=>d b a
 | .en l k i j,b,a,d=>x6 f (bJ c l) e b a (λb a=>ot f c e k b a d)/\x6 f (bJ c i) e b a (λb a=>ot f c e j b a d)
 | .pY l k i j g n,b,a,d=>x6 f (bJ c l) e b a (λb a=>ot f c e k b a d)/\x6 f (bJ c i) e b a (λb a=>ot f c e j b a d)/\x6 f (bJ c g) e b a (λb a=>ot f c e n b a d)
 | .op g h,b,a,d=>x6 f (bJ c g) e b a (λb a=>ot f c e h b a d)
 | .skip g h,b,a,d=>ot f c e h (put b (bJ c g).dst jc) a d
 | .q i k j,b,a,d=>b6 (b3 b (aI c i)) (ot f c e k ((aI c i,ax af)::b) a d) (ot f c e j ((aI c i,ax ao)::b) a d)
 | .b8 i j h,b,a,d=>xD j (b3 b (aI c i)) (ot f c e h b a d)
 | .bj g h,b,a,d=>hN f (bJ c g) (fA b) a λm a=>ot f c e h (put b (bJ c g).dst m) a d
 | .s5 g h,b,a,d=>hN f (bJ c g) (fA b) a λm a=>D3 e a λe=>ot f c e h (put b (bJ c g).dst m) a d
 | .oE h,b,a,d=>u2 a λe=>ot f c e h b a d
def bl:List Nat->Nat
 |[]=>0
 |_::a=>(bl a).succ
def FQ:List Nat->List Z->c_->c_
 |[],_,a=>a
 |c::d,b,a=>(c,av b)::FQ d (bA b) a
def vq(d:bq):lj->c_->aa->(ll->c_->aa->Prop)->Prop
 |wE _ h _,a,b,c=>K4 d h.toList a b (c hX)
 | .seq e f,a,b,c=>vq d e a b (vX (λa b=>vq d f a b c) c)
 | .cond i e f,a,b,c=>b6 (fA a i) (vq d e a b c) (vq d f a b c)
 |tw g e,a,b,c=>vq d e a b (zI g c)
 |uS e,a,b,c=>vq d e a b (Gc c)
 | .skip,a,b,c=>c hX a b
 | .exit g,a,b,c=>c (.exit g) a b
 | .label _,a,b,c=>c hX a b
 | .ret,a,b,c=>c .ret a b
 |_,_,_,_=>False
def rJ(d:bq):qv->lj->c_->aa->(ll->c_->aa->Prop)->Prop
 | .g,n,b,a,c=>vq d n b a c
 | .F j,wE _ k _,b,a,c=>xO d k.toList j b a (c hX)
 | .E j,wE _ k _,b,a,c=>bE a λo a=>ot d k.toList o j b a (c hX)
 | .l e h,.seq f i,b,a,c=>rJ d e f b a (vX (λb a=>rJ d h i b a c) c)
 | .J g l e h,.seq f i,b,a,c=>bG g.length l (λp=>rJ d e f b a (vX (λb a=>p (g.map (b3 b)) a) c)) (λm _ a=>rJ d h i (FQ g m b) a c)
 | .ac e h,.cond q f i,b,a,c=>b6 (fA b q) (rJ d e f b a c) (rJ d h i b a c)
 | .A e,tw r f,b,a,c=>rJ d e f b a (zI r c)
 | .A e,uS f,b,a,c=>rJ d e f b a (Gc c)
 | .aw g l e,.loop f,b,a,c=>ba (g.map (b3 b)) g.length l a λm _ a s=>rJ d e f (FQ g m b) a (vX (λb a=>s (g.map (b3 b)) a) c)
 |_,_,_,_,_=>False
def sR:qv->uZ
 | .g=> .g
 | .F c=> .F c
 | .E c=> .E c
 | .l a b=> .l (sR a) (sR b)
 | .J d _ a b=> .J d (sR a) (sR b)
 | .ac a b=> .ac (sR a) (sR b)
 | .A a=> .A (sR a)
 | .aw d _ a=> .aw d (sR a)
variable{x e:Prop}
def alc:b6 (ax af) x e=x:=rfl
def alb:b6 (ax ao) x e=e:=rfl
variable{x e:Z}{c:aa}{K:aU}
def ajK:x2 (ax af) x e c K=K x c:=rfl
def ajJ:x2 (ax ao) x e c K=K e c:=rfl
def aA:Nat->Nat->fr->fr
 |0,_,a=>a
 |c+1,b,a=> .skip b (aA c (b+1) a)
def f(a:qv):qv:= .l .g a
def cf(a b:qv):qv:= .l .g (.l (.l .g (.A a)) b)
def az{x:bq}{e:nA}{c:Func}{d:lj}{b:List W8}(g:aU)(h:aa)(a:List Z)(xB:x.funcs[e]? =J c)(j:c.body=J d)(k:c.results=b.toArray)(i:qv){S:Prop}(FB:x.follows wx=true:=by kernel_rfl)
 (_:rJ x i d (m0 0 a) h (zU x b g)=S:=by dsimp only [↓rJ,↓vq,↓xO,↓K4,↓ot,↓x6,↓bJ,↓aI,↓FQ,↓fA,↓b3,↓put,↓vX,↓zI,↓Gc,↓zU,↓CJ,↓m0,↓hN,↓up,↓ol,↓aA,↓f,↓cf,List.map,List.toList_toArray,↓cond,↓Nat.beq,↓BT,↓sS,↓ni,↓alc,↓alb,↓ajK,↓ajJ,↓xD,Option.map,Function.comp,List.length_cons,List.length_nil,Nat.reduceAdd,id])
 (l:(c.name== "runtime.NumGoroutine")=false:=by kernel_rfl)(m:HD a.length c.ntmps=true:=by rfl)
 (n:jX c.ntmps (p6 (sR i) d) d=true:=by kernel_rfl)(o:S=nJ x (p6 (sR i) d) d (m0 0 a) h (zU x b g):=by kernel_rfl)(p:S):ak x e a h g:=by
 obtain⟨q,r,s,t,u,v,w,y⟩:=c;cases j;cases k;exact Vj (FB:=FB) (xB:=xB) l F m n o p
end Go.Lift
namespace Go.Proofs.YtoddhldofgfdmaaGreatDoor
open Go.Lift
section
open _root_.Go.Proofs.Tryz
section
set_option maxRecDepth 10000
abbrev dl:=Z
abbrev eS:=aa
abbrev gk:=List Z->aa->Prop
def aou:Y.follows wx=true:=D
def E:eu Y 3=true:=D
def bw:cg Y 3=1:=D
def D8:fI Y 3=8:=D
def mY:cM Y 3=J [I X 0]:=D
def ry:eu Y 4=true:=D
def Bm:cg Y 4=1:=D
def acR:fI Y 4=1:=D
def Qm:cM Y 4=J [ax ao]:=D
def y1:cg Y 5=1:=D
def O3:fI Y 5=1:=D
def y4:cM Y 5=J [I .u8 0]:=D
def ga:eu Y 9=true:=D
def Qj:cg Y 9=1:=D
def iG:eu Y 21=true:=D
def gm:cg Y 21=1:=D
def rt:fI Y 21=4:=D
def mZ:cM Y 21=J [I cc 0]:=D
def wR:ed Y 23=J 2:=D
def Jc:bg Y 23 0=J 0:=D
def Er:bg Y 23 1=J 1:=D
def Ea:ew Y 24=J 57:=D
def ju:ed Y 32=J 2:=D
def pT:cg Y 32=2:=D
def acL:fI Y 32=16:=D
def mX:cM Y 32=J [I X 0,I X 0]:=D
def wY:bg Y 32 0=J 0:=D
def Ej:bg Y 32 1=J 1:=D
def yX:ef Y 32=J [(0,1),(1,1)]:=D
def iF:eu Y 33=true:=D
def aej:cg Y 33=1:=D
def di:ew Y 33=J 21:=D
def qD:eu Y 34=true:=D
def aef:cg Y 34=1:=D
def O7:ew Y 34=J 125:=D
def pJ:ed Y 36=J 3:=D
def qJ:cg Y 36=3:=D
def xd:cM Y 36=J [I X 0,aQ ac 0 0,I X 0]:=D
def Jb:bg Y 36 0=J 0:=D
def Ja:bg Y 36 1=J 1:=D
def Pb:bg Y 36 2=J 2:=D
def PL:ef Y 36=J [(0,1),(1,1),(2,1)]:=D
def kb:eu Y 37=true:=D
def aeh:cg Y 37=1:=D
def I7:ew Y 37=J 49:=D
def mg:ed Y 39=J 3:=D
def oS:cg Y 39=3:=D
def xe:cM Y 39=J [I X 0,aQ ac 0 0,I X 0]:=D
def Bg:bg Y 39 0=J 0:=D
def yO:bg Y 39 1=J 1:=D
def Pc:bg Y 39 2=J 2:=D
def PM:ef Y 39=J [(0,1),(1,1),(2,1)]:=D
def Ba:eu Y 40=true:=D
def aei:cg Y 40=1:=D
def sy:ew Y 40=J 201:=D
def aeq:cM Y 42=J [aQ ac 0 0,I X 0,aQ ac 0 0,I X 0,I X 0,aQ ac 0 0,I X 0,aQ ac 0 0,I X 0,I X 0,I X 0,I X 0]:=D
def oR:bg Y 42 0=J 0:=D
def w1:bg Y 42 1=J 1:=D
def sA:bg Y 42 2=J 4:=D
def yR:bg Y 42 3=J 7:=D
def qH:bg Y 42 4=J 8:=D
def yS:bg Y 42 5=J 9:=D
def Pd:bg Y 42 6=J 10:=D
def Pe:bg Y 42 7=J 11:=D
def adF:ef Y 42=J [(0,1),(1,3),(4,3),(7,1),(8,1),(9,1),(10,1),(11,1)]:=D
def I6:eu Y 45=true:=D
def cP:ed Y 49=J 2:=D
def dj:cg Y 49=2:=D
def acN:fI Y 49=16:=D
def dg:cM Y 49=J [I X 0,I X 0]:=D
def ce:bg Y 49 0=J 0:=D
def bP:bg Y 49 1=J 1:=D
def jO:ef Y 49=J [(0,1),(1,1)]:=D
def ac6:o4 Y 49 1=J (3,1):=D
def ru:eu Y 54=true:=D
def hA:ew Y 54=J 70:=D
def vc:eu Y 55=true:=D
def Qe:cg Y 55=1:=D
def Ql:cM Y 55=J [aQ ac 0 0]:=D
def fW:ew Y 55=J 3:=D
def mR:ed Y 57=J 6:=D
def xb:cg Y 57=6:=D
def acK:fI Y 57=96:=D
def y3:cM Y 57=J [I X 0,I X 0,I X 0,aQ ac 0 0,aQ ac 0 0,aQ ac 0 0]:=D
def wX:bg Y 57 0=J 0:=D
def tI:bg Y 57 1=J 1:=D
def I8:bg Y 57 2=J 2:=D
def Bd:bg Y 57 3=J 3:=D
def Ei:bg Y 57 4=J 4:=D
def yL:bg Y 57 5=J 5:=D
def PH:ef Y 57=J [(0,1),(1,1),(2,1),(3,1),(4,1),(5,1)]:=D
def yG:eu Y 58=true:=D
def Eb:ew Y 58=J 114:=D
def u7:ed Y 61=J 4:=D
def rA:cg Y 61=4:=D
def pV:cM Y 61=J [I X 0,I X 0,I X 0,I X 0]:=D
def yN:bg Y 61 0=J 0:=D
def wZ:bg Y 61 1=J 1:=D
def I_:bg Y 61 2=J 2:=D
def yM:bg Y 61 3=J 3:=D
def Js:ef Y 61=J [(0,1),(1,1),(2,1),(3,1)]:=D
def D5:ed Y 63=J 6:=D
def xc:cg Y 63=6:=D
def rB:cM Y 63=J [I X 0,I X 0,I X 0,I X 0,I X 0,I X 0]:=D
def I9:bg Y 63 0=J 0:=D
def O_:bg Y 63 2=J 2:=D
def Jr:ef Y 63=J [(0,1),(1,1),(2,4)]:=D
def IV:ed Y 66=J 2:=D
def JH:cg Y 66=2:=D
def Br:cM Y 66=J [I X 0,I X 0]:=D
def Jt:ef Y 66=J [(0,1),(1,1)]:=D
def O9:o4 Y 66 0=J (3,0):=D
def rs:ed Y 70=J 3:=D
def ir:cg Y 70=3:=D
def D7:fI Y 70=32:=D
def kx:cM Y 70=J [I X 0,I X 0,lO ⟨#[]⟩]:=D
def iq:bg Y 70 0=J 0:=D
def ku:bg Y 70 1=J 1:=D
def mT:bg Y 70 2=J 2:=D
def Bl:ef Y 70=J [(0,1),(1,1),(2,1)]:=D
def qC:ed Y 73=J 5:=D
def Qg:cg Y 73=5:=D
def ES:cM Y 73=J [aQ ac 0 0,I X 0,aQ ac 0 0,I X 0,aQ ac 0 0]:=D
def yQ:bg Y 73 0=J 0:=D
def adh:bg Y 73 1=J 1:=D
def adg:bg Y 73 2=J 4:=D
def PQ:ef Y 73=J [(0,1),(1,3),(4,1)]:=D
def ac0:eu Y 74=true:=D
def A9:ed Y 76=J 8:=D
def Qh:cg Y 76=8:=D
def JN:cM Y 76=J [aQ ac 0 0,I X 0,aQ ac 0 0,I X 0,aQ ac 0 0,ad ac,I X 0,I X 0]:=D
def Eo:bg Y 76 0=J 0:=D
def adj:bg Y 76 1=J 5:=D
def adi:bg Y 76 2=J 6:=D
def adk:bg Y 76 3=J 7:=D
def adE:ef Y 76=J [(0,5),(5,1),(6,1),(7,1)]:=D
def acY:eu Y 78=true:=D
def wV:ew Y 78=J 312:=D
def u9:ed Y 80=J 3:=D
def tO:cg Y 80=3:=D
def acQ:fI Y 80=40:=D
def sD:cM Y 80=J [aQ ac 0 0,I X 0,I X 0]:=D
def adf:bg Y 80 0=J 0:=D
def yP:bg Y 80 1=J 1:=D
def vh:bg Y 80 2=J 2:=D
def PO:ef Y 80=J [(0,1),(1,1),(2,1)]:=D
def nG:eu Y 94=true:=D
def EK:cg Y 94=1:=D
def gl:eu Y 96=true:=D
def ael:cg Y 96=1:=D
def EG:r1 Y 96=true:=D
def pL:eu Y 97=true:=D
def JE:cg Y 97=1:=D
def oP:eu Y 98=true:=D
def EJ:cg Y 98=1:=D
def ka:ed Y 100=J 5:=D
def tQ:cg Y 100=5:=D
def sE:cM Y 100=J [ad ac,ad ac,ad ac,I X 0,I X 0]:=D
def mW:bg Y 100 0=J 0:=D
def pQ:bg Y 100 1=J 1:=D
def mV:bg Y 100 2=J 2:=D
def vi:bg Y 100 3=J 3:=D
def vj:bg Y 100 4=J 4:=D
def adV:ef Y 100=J [(0,1),(1,1),(2,1),(3,1),(4,1)]:=D
def Eh:o4 Y 100 0=J (96,0):=D
def mS:eu Y 112=true:=D
def vk:cg Y 112=1:=D
def acI:fI Y 112=24:=D
def Qk:cM Y 112=J [aQ ac 0 0]:=D
def oQ:ew Y 112=J 206:=D
def A7:ed Y 114=J 7:=D
def tN:cg Y 114=7:=D
def acM:fI Y 114=64:=D
def vm:cM Y 114=J [aQ ac 0 0,I X 0,I X 0,I X 0,ax ao,ax ao,I X 0]:=D
def vg:bg Y 114 0=J 0:=D
def Be:bg Y 114 1=J 1:=D
def Ek:bg Y 114 2=J 2:=D
def Pa:bg Y 114 3=J 3:=D
def Bf:bg Y 114 4=J 4:=D
def w0:bg Y 114 5=J 5:=D
def El:bg Y 114 6=J 6:=D
def PI:ef Y 114=J [(0,1),(1,1),(2,1),(3,1),(4,1),(5,1),(6,1)]:=D
def ac2:ew Y 115=J 208:=D
def vd:ew Y 118=J 80:=D
def OV:ed Y 122=J 2:=D
def JF:cg Y 122=2:=D
def EO:cM Y 122=J [I cc 0,I X 0]:=D
def ac9:bg Y 122 0=J 0:=D
def ac8:bg Y 122 1=J 1:=D
def PJ:ef Y 122=J [(0,1),(1,1)]:=D
def mQ:ed Y 125=J 5:=D
def EL:cg Y 125=5:=D
def acJ:fI Y 125=48:=D
def JM:cM Y 125=J [I X 0,I X 0,I X 0,I X 0,lO ⟨#[]⟩]:=D
def oi:bg Y 125 0=J 0:=D
def h2:bg Y 125 1=J 1:=D
def yJ:bg Y 125 2=J 2:=D
def yK:bg Y 125 3=J 3:=D
def pM:bg Y 125 4=J 4:=D
def I3:eu Y 134=true:=D
def P4:r1 Y 134=true:=D
def D9:eu Y 136=true:=D
def JD:cg Y 136=1:=D
def Bb:ew Y 136=J 190:=D
def aer:cM Y 138=J [ad ac,ad ac,aQ ac 0 0,I X 0]:=D
def sB:bg Y 138 0=J 0:=D
def Jd:bg Y 138 1=J 1:=D
def w2:bg Y 138 2=J 2:=D
def Et:bg Y 138 3=J 3:=D
def adJ:ef Y 138=J [(0,1),(1,1),(2,1),(3,1)]:=D
def u_:ed Y 141=J 4:=D
def tP:cg Y 141=4:=D
def acU:fI Y 141=32:=D
def tR:cM Y 141=J [I X 0,I X 0,I X 0,I X 0]:=D
def Ev:bg Y 141 0=J 0:=D
def Eu:bg Y 141 1=J 1:=D
def Pn:bg Y 141 2=J 2:=D
def ads:bg Y 141 3=J 3:=D
def PS:ef Y 141=J [(0,1),(1,1),(2,1),(3,1)]:=D
def Eg:o4 Y 141 2=J (3,2):=D
def I5:eu Y 142=true:=D
def O5:eu Y 143=true:=D
def rv:eu Y 144=true:=D
def adY:r1 Y 144=true:=D
def I0:ed Y 146=J 3:=D
def Qi:cg Y 146=3:=D
def EW:cM Y 146=J [ad ac,ad ac,ad ac]:=D
def Jj:bg Y 146 0=J 0:=D
def PC:bg Y 146 1=J 1:=D
def Ji:bg Y 146 2=J 2:=D
def PX:ef Y 146=J [(0,1),(1,1),(2,1)]:=D
def ve:o4 Y 146 2=J (144,2):=D
def Qr:cM Y 150=J [ad ac,ad ac,ad ac,I X 0,I X 0]:=D
def PE:bg Y 150 0=J 0:=D
def P0:ef Y 150=J [(0,5)]:=D
def Qq:cM Y 152=J [ad ac,ad ac,ad ac]:=D
def Jl:bg Y 152 0=J 0:=D
def PZ:ef Y 152=J [(0,3)]:=D
def Qp:cM Y 154=J [ad ac,ad ac,ad ac,I X 0,I X 0,ad ac,ad ac,ad ac]:=D
def PD:bg Y 154 0=J 0:=D
def Jk:bg Y 154 1=J 5:=D
def PY:ef Y 154=J [(0,5),(5,3)]:=D
def u6:ed Y 155=J 3:=D
def aen:cM Y 155=J [I X 0,I X 0,I X 0]:=D
def adB:ef Y 155=J [(0,1),(1,1),(2,1)]:=D
def eT:qQ Y 155=J (3,3):=D
def jN:ed Y 157=J 6:=D
def k1:cg Y 157=6:=D
def kc:cM Y 157=J [I X 0,I X 0,I X 0,I X 0,I X 0,I X 0]:=D
def w4:bg Y 157 0=J 0:=D
def gQ:bg Y 157 1=J 1:=D
def yT:bg Y 157 2=J 4:=D
def Jg:bg Y 157 3=J 5:=D
def Jw:ef Y 157=J [(0,1),(1,3),(4,1),(5,1)]:=D
def wW:o4 Y 157 0=J (3,0):=D
def yI:o4 Y 157 1=J (155,1):=D
def lr:ed Y 159=J 7:=D
def fs:cg Y 159=7:=D
def wT:fI Y 159=64:=D
def fP:cM Y 159=J [I X 0,I X 0,I X 0,I X 0,I X 0,I X 0,lO ⟨#[]⟩]:=D
def Pt:bg Y 159 0=J 0:=D
def tJ:bg Y 159 2=J 2:=D
def Ps:bg Y 159 3=J 5:=D
def tK:bg Y 159 4=J 6:=D
def xa:ef Y 159=J [(0,1),(1,1),(2,3),(5,1),(6,1)]:=D
def A_:ed Y 161=J 14:=D
def mi:cg Y 161=14:=D
def l0:cM Y 161=J [I X 0,I X 0,I X 0,I X 0,I X 0,I X 0,I X 0,I X 0,I X 0,I X 0,I X 0,I X 0,lO ⟨#[]⟩,I X 0]:=D
def w6:bg Y 161 0=J 0:=D
def w7:bg Y 161 1=J 6:=D
def yV:bg Y 161 2=J 13:=D
def Jx:ef Y 161=J [(0,6),(6,7),(13,1)]:=D
def Jy:r1 Y 162=true:=D
def pK:ed Y 166=J 5:=D
def lY:cg Y 166=5:=D
def lZ:cM Y 166=J [I X 0,I X 0,I X 0,I X 0,I X 0]:=D
def Je:bg Y 166 0=J 0:=D
def Pp:bg Y 166 1=J 1:=D
def Ew:bg Y 166 2=J 2:=D
def Po:bg Y 166 4=J 4:=D
def PT:ef Y 166=J [(0,1),(1,1),(2,1),(3,1),(4,1)]:=D
def IX:ed Y 170=J 1:=D
def JJ:cg Y 170=1:=D
def ET:cM Y 170=J [I X 0]:=D
def Pl:bg Y 170 0=J 0:=D
def adI:ef Y 170=J [(0,1)]:=D
def yD:ed Y 182=J 2:=D
def pU:cg Y 182=2:=D
def O2:fI Y 182=48:=D
def rC:cM Y 182=J [aQ ac 0 0,aQ ac 0 0]:=D
def Pq:bg Y 182 0=J 0:=D
def Pr:bg Y 182 1=J 1:=D
def Jv:ef Y 182=J [(0,1),(1,1)]:=D
def h8:ed Y 184=J 8:=D
def is:cg Y 184=8:=D
def it:cM Y 184=J [ad ac,I X 0,I X 0,I X 0,I X 0,I X 0,aQ ac 0 0,aQ ac 0 0]:=D
def Bj:bg Y 184 0=J 0:=D
def Pw:bg Y 184 1=J 1:=D
def Pv:bg Y 184 2=J 5:=D
def Px:bg Y 184 3=J 6:=D
def pR:ef Y 184=J [(0,1),(1,4),(5,1),(6,2)]:=D
def aes:cM Y 188=J [ad ac,ad ac]:=D
def adq:bg Y 188 0=J 0:=D
def adp:bg Y 188 1=J 1:=D
def adL:ef Y 188=J [(0,1),(1,1)]:=D
def OY:ed Y 190=J 3:=D
def Bn:cg Y 190=3:=D
def acT:fI Y 190=24:=D
def EU:cM Y 190=J [ad ac,ad ac,I X 0]:=D
def Pm:bg Y 190 0=J 0:=D
def ado:bg Y 190 1=J 2:=D
def adK:ef Y 190=J [(0,2),(2,1)]:=D
def IW:ed Y 201=J 9:=D
def sC:cg Y 201=9:=D
def O1:fI Y 201=136:=D
def xf:cM Y 201=J [aQ ac 0 0,aQ ac 0 0,I X 0,aQ ac 0 0,I X 0,I X 0,aQ ac 0 0,I X 0,I X 0]:=D
def adl:bg Y 201 0=J 0:=D
def adm:bg Y 201 1=J 1:=D
def Pg:bg Y 201 2=J 2:=D
def Pf:bg Y 201 3=J 5:=D
def Ph:bg Y 201 4=J 8:=D
def adG:ef Y 201=J [(0,1),(1,1),(2,3),(5,3),(8,1)]:=D
def oh:ed Y 206=J 4:=D
def pS:cg Y 206=4:=D
def O0:fI Y 206=32:=D
def qK:cM Y 206=J [I cc 0,I X 0,I X 0,I X 0]:=D
def vf:bg Y 206 0=J 0:=D
def tH:bg Y 206 1=J 1:=D
def nH:bg Y 206 2=J 2:=D
def qG:bg Y 206 3=J 3:=D
def EF:ef Y 206=J [(0,1),(1,1),(2,1),(3,1)]:=D
def acE:ed Y 208=J 4:=D
def JG:cg Y 208=4:=D
def acO:fI Y 208=32:=D
def ER:cM Y 208=J [I X 0,I X 0,I X 0,I X 0]:=D
def mU:bg Y 208 0=J 0:=D
def pN:bg Y 208 1=J 2:=D
def PK:ef Y 208=J [(0,2),(2,2)]:=D
def acD:ed Y 210=J 2:=D
def EM:cg Y 210=2:=D
def EP:cM Y 210=J [I cc 0,I cc 0]:=D
def ac_:bg Y 210 0=J 0:=D
def ada:bg Y 210 1=J 1:=D
def adC:ef Y 210=J [(0,1),(1,1)]:=D
def O4:eu Y 211=true:=D
def Ec:ew Y 211=J 210:=D
def aep:cM Y 213=J [aQ ac 0 0,aQ ac 0 0]:=D
def ade:bg Y 213 0=J 0:=D
def adb:bg Y 213 1=J 1:=D
def adD:ef Y 213=J [(0,1),(1,1)]:=D
def rz:ew Y 215=J 112:=D
def wU:eu Y 222=true:=D
def EH:r1 Y 222=true:=D
def tG:eu Y 225=true:=D
def h9:ew Y 225=J 159:=D
def Qo:cM Y 228=J [ad ac]:=D
def Py:bg Y 228 0=J 0:=D
def PV:ef Y 228=J [(0,1)]:=D
def aew:cM Y 230=J [I X 0,aQ ac 0 0]:=D
def adu:bg Y 230 0=J 0:=D
def Ex:bg Y 230 1=J 1:=D
def adP:ef Y 230=J [(0,1),(1,1)]:=D
def aeu:cM Y 243=J [I X 0,aQ ac 0 0,aQ ac 0 0]:=D
def adt:bg Y 243 0=J 0:=D
def Jf:bg Y 243 1=J 1:=D
def w3:bg Y 243 2=J 2:=D
def adN:ef Y 243=J [(0,1),(1,1),(2,1)]:=D
def Ef:ew Y 250=J 141:=D
def kZ:ed Y 254=J 3:=D
def Bo:cg Y 254=3:=D
def xi:cM Y 254=J [ad ac,ad ac,aQ ac 0 0]:=D
def oj:bg Y 254 0=J 0:=D
def PB:bg Y 254 1=J 1:=D
def w_:bg Y 254 2=J 2:=D
def PW:ef Y 254=J [(0,1),(1,1),(2,1)]:=D
def O6:eu Y 255=true:=D
def adZ:r1 Y 255=true:=D
def wS:ed Y 257=J 6:=D
def EN:cg Y 257=6:=D
def Bt:cM Y 257=J [ad ac,ad ac,aQ ac 0 0,ad ac,I X 0,I X 0]:=D
def yU:bg Y 257 0=J 0:=D
def Pu:bg Y 257 1=J 3:=D
def Ey:bg Y 257 2=J 4:=D
def Ez:bg Y 257 3=J 5:=D
def adQ:ef Y 257=J [(0,3),(3,1),(4,1),(5,1)]:=D
def ac7:o4 Y 257 0=J (254,0):=D
def vb:eu Y 261=true:=D
def vl:cg Y 261=1:=D
def sz:ew Y 261=J 182:=D
def I1:qQ Y 262=J (2,261):=D
def aev:cM Y 264=J [aQ ac 0 0,aQ ac 0 0]:=D
def pO:bg Y 264 0=J 0:=D
def adO:ef Y 264=J [(0,2)]:=D
def va:eu Y 276=true:=D
def EI:cg Y 276=1:=D
def aeo:cM Y 276=J [aQ ac 0 0]:=D
def Ee:ew Y 276=J 463:=D
def tF:ed Y 278=J 3:=D
def y0:cg Y 278=3:=D
def xh:cM Y 278=J [aQ ac 0 0,I X 0,I X 0]:=D
def w8:bg Y 278 0=J 0:=D
def PA:bg Y 278 1=J 1:=D
def w9:bg Y 278 2=J 2:=D
def adU:ef Y 278=J [(0,1),(1,1),(2,1)]:=D
def IZ:ed Y 284=J 4:=D
def JL:cg Y 284=4:=D
def acW:fI Y 284=32:=D
def Bu:cM Y 284=J [I X 0,I X 0,I X 0,I X 0]:=D
def Jh:bg Y 284 0=J 0:=D
def adv:bg Y 284 1=J 2:=D
def EA:bg Y 284 2=J 3:=D
def PU:ef Y 284=J [(0,2),(2,1),(3,1)]:=D
def ac4:ew Y 285=J 284:=D
def ac3:ew Y 294=J 297:=D
def IY:ed Y 297=J 4:=D
def JK:cg Y 297=4:=D
def acV:fI Y 297=32:=D
def EV:cM Y 297=J [I X 0,I X 0,I X 0,I X 0]:=D
def mh:bg Y 297 0=J 0:=D
def pP:bg Y 297 1=J 2:=D
def adR:ef Y 297=J [(0,2),(2,2)]:=D
def acA:ed Y 306=J 2:=D
def Qd:cg Y 306=2:=D
def Bp:cM Y 306=J [I X 0,I X 0]:=D
def Jq:ef Y 306=J [(0,1),(1,1)]:=D
def yF:qQ Y 306=J (2,3):=D
def A8:ed Y 312=J 3:=D
def yY:cg Y 312=3:=D
def acP:fI Y 312=40:=D
def Bq:cM Y 312=J [I X 0,I X 0,aQ ac 0 0]:=D
def Bh:bg Y 312 0=J 0:=D
def Em:bg Y 312 1=J 1:=D
def En:bg Y 312 2=J 2:=D
def PN:ef Y 312=J [(0,1),(1,1),(2,1)]:=D
def acZ:eu Y 318=true:=D
def aek:cg Y 318=1:=D
def yH:ew Y 318=J 5:=D
def qF:eu Y 319=true:=D
def kv:cg Y 319=1:=D
def I2:fI Y 319=16:=D
def xj:cM Y 319=J [gA]:=D
def EE:BR Y 319=true:=D
def kt:oX Y 322=true:=D
def Qs:cM Y 325=J [gA]:=D
def Jm:bg Y 325 0=J 0:=D
def P2:ef Y 325=J [(0,1)]:=D
def Qt:cM Y 338=J [ad ac]:=D
def ady:bg Y 338 0=J 0:=D
def P3:ef Y 338=J [(0,1)]:=D
def Qn:cM Y 344=J [ad ac]:=D
def adn:bg Y 344 0=J 0:=D
def PR:ef Y 344=J [(0,1)]:=D
def aet:cM Y 354=J [ad ac]:=D
def adr:bg Y 354 0=J 0:=D
def adM:ef Y 354=J [(0,1)]:=D
def yE:ed Y 358=J 8:=D
def mj:cg Y 358=8:=D
def ml:cM Y 358=J [I X 0,I X 0,I X 0,I X 0,I X 0,I X 0,I X 0,I X 0]:=D
def tL:bg Y 358 0=J 0:=D
def k0:bg Y 358 1=J 1:=D
def PG:bg Y 358 2=J 7:=D
def P1:ef Y 358=J [(0,1),(1,6),(7,1)]:=D
def aey:cM Y 360=J [ad ac,I X 0,I X 0,I X 0,I X 0,I X 0,I X 0,I X 0,I X 0]:=D
def Pz:bg Y 360 0=J 0:=D
def yW:bg Y 360 1=J 1:=D
def adT:ef Y 360=J [(0,1),(1,8)]:=D
def OZ:ed Y 384=J 10:=D
def aex:cM Y 384=J [ad ac,ad ac,ad ac,ad ac,I X 0,I X 0,I X 0,I X 0,I X 0,I X 0]:=D
def Bk:bg Y 384 0=J 0:=D
def w5:bg Y 384 1=J 1:=D
def EC:bg Y 384 2=J 6:=D
def EB:bg Y 384 3=J 8:=D
def adS:ef Y 384=J [(0,1),(1,5),(6,2),(8,2)]:=D
def qE:eu Y 403=true:=D
def hK:ew Y 403=J 319:=D
def lX:oX Y 405=true:=D
def aeB:cM Y 409=J [aQ ac 0 0,I X 0,I X 0,I X 0,I X 0,I X 0,I X 0]:=D
def tM:bg Y 409 0=J 0:=D
def adx:bg Y 409 1=J 1:=D
def adX:ef Y 409=J [(0,1),(1,6)]:=D
def D_:eu Y 438=true:=D
def Qf:cg Y 438=1:=D
def Bc:ew Y 438=J 441:=D
def aeC:cM Y 440=J [aQ ac 0 0,aQ ac 0 0]:=D
def Jp:bg Y 440 0=J 0:=D
def Jo:bg Y 440 1=J 1:=D
def D6:ed Y 441=J 2:=D
def y2:cg Y 441=2:=D
def acX:fI Y 441=8:=D
def EX:cM Y 441=J [I cc 0,I cc 0]:=D
def adz:bg Y 441 0=J 0:=D
def adA:bg Y 441 1=J 1:=D
def acB:ed Y 442=J 6:=D
def acF:qQ Y 442=J (3,441):=D
def acC:ed Y 443=J 16:=D
def acH:qQ Y 443=J (8,441):=D
def aeA:cM Y 449=J [aQ ac 0 0,I X 0,I X 0,I X 0,I X 0,I X 0,I X 0,I X 0]:=D
def qI:bg Y 449 0=J 0:=D
def adw:bg Y 449 1=J 1:=D
def Jn:bg Y 449 2=J 2:=D
def adW:ef Y 449=J [(0,1),(1,1),(2,6)]:=D
def OX:ed Y 463=J 3:=D
def JI:cg Y 463=3:=D
def acS:fI Y 463=40:=D
def Bs:cM Y 463=J [I X 0,I X 0,aQ ac 0 0]:=D
def Es:bg Y 463 0=J 0:=D
def Pj:bg Y 463 1=J 1:=D
def Pk:bg Y 463 2=J 2:=D
def Ju:ef Y 463=J [(0,1),(1,1),(2,1)]:=D
def ac1:ew Y 468=J 32:=D
def Ed:ew Y 469=J 4:=D
def I4:eu Y 473=true:=D
def aem:cg Y 473=1:=D
def P5:r1 Y 473=true:=D
def aez:cM Y 475=J [ad ac,aQ ac 0 0]:=D
def ED:bg Y 475 0=J 0:=D
def PF:bg Y 475 1=J 1:=D
def acG:qQ Y 505=J (4,21):=D
variable{K:aU}{w:eS}{a:dl}{b:dl}{c:dl}{d:dl}{e:dl}
def Zn:=az K w [a,b] func4 F F (f (f (f (cf (.aw [24] 30 (f (f (.l (.A (f (f (f (f (.l (.E (up 4 0 (.q 3 (aA 7 4 (.op 11 .j)) (ol [4,5,7,8,6,9,10,11] .j)))) .g)))))) .g)))) .g))))
def Zs:=az K w [a,b] func6 F F (f (.l (.F (up 5 0 (.q 4 (aA 3 5 (up 2 8 (.b8 9 true (aA 3 10 (up 2 13 (.b8 14 true (aA 2 15 (up 2 17 .j)))))))) (up 5 5 (.q 9 (aA 3 10 (up 2 13 (.b8 14 true (aA 2 15 (up 2 17 .j))))) (up 5 10 (.q 14 (aA 2 15 (up 2 17 .j)) (up 4 15 .j)))))))) .g))
def Zu:=az K w [] func7 F F (f (f (f (f (f (.l (.F (up 3 0 (.q 2 (up 5 3 (.q 7 (up 4 8 (.q 11 (up 4 12 (.q 15 (up 4 16 (.q 19 (up 5 20 (.q 24 (up 5 25 .j) (aA 3 25 (up 2 28 .j)))) (aA 3 20 (up 2 23 (.b8 24 false (aA 3 25 (up 2 28 .j))))))) (aA 2 16 (up 2 18 (.b8 19 false (aA 3 20 (up 2 23 (.b8 24 false (aA 3 25 (up 2 28 .j)))))))))) (aA 2 12 (up 2 14 (.b8 15 false (aA 2 16 (up 2 18 (.b8 19 false (aA 3 20 (up 2 23 (.b8 24 false (aA 3 25 (up 2 28 .j))))))))))))) (aA 2 8 (up 2 10 (.b8 11 false (aA 2 12 (up 2 14 (.b8 15 false (aA 2 16 (up 2 18 (.b8 19 false (aA 3 20 (up 2 23 (.b8 24 false (aA 3 25 (up 2 28 .j)))))))))))))))) (aA 3 3 (up 2 6 (.b8 7 false (aA 2 8 (up 2 10 (.b8 11 false (aA 2 12 (up 2 14 (.b8 15 false (aA 2 16 (up 2 18 (.b8 19 false (aA 3 20 (up 2 23 (.b8 24 false (aA 3 25 (up 2 28 .j)))))))))))))))))))) .g))))))
def aeL:=az K w [a,b,c] func10 F F .g
def Zq:=az K w [a] func13 F F .g
def Zb:=az K w [a] func14 F F .g
def aab:=az K w [a,b] func15 F F .g
def Za:=az K w [a,b] func16 F F (cf (f (.ac .g (.J [13] 2 .g .g))) .g)
def Y9:=az K w [a,b,c] func17 F F (f (cf (.aw [7] 17 (f (.l (.A (.l (.E (up 10 0 .j)) .g)) .g))) (.l (f (.A (.aw [8] 23 (f (.l (.A (.l (.E (up 16 0 .j)) .g)) .g))))) .g)))
def Yo:=az K w [a,b] func18 F F (f (f (.J [6] 33 (f (.A (.aw [6,11] 29 (f (f (.l (.A (f (f (f (f (.l (.F (up 4 0 (.q 3 (up 3 4 .j) (aA 2 4 (.op 6 .j))))) .g)))))) .g)))))) .g)))
def Zc:=az K w [a] func20 F F (f (.J [3] 14 (.E (up 12 0 (.en 12 (up 2 13 (.bj 15 .j)) 14 (up 2 12 (.bj 15 .j))))) (.l (.E (ol [0,2,3,4,5,6,7,8,9,1,10] (.bj 11 .j))) .g)))
def Ya:=az K w [a] func23 F F (f (f (f (.l (.A (.aw [3,4] 17 .g)) .g))))
def Y_:=az K w [a,b] func24 F F (f (f (cf (.aw [5,18] 64 (f (f (.l (.A (f (.l (.l (.F (up 5 0 (.q 4 (aA 4 5 (up 2 9 (.b8 10 true (aA 4 11 (.op 15 .j))))) (up 6 5 (.q 10 (aA 4 11 (.op 15 .j)) (up 5 11 .j)))))) .g) (.l (f (.A (.aw [5,41] 16 .g))) (f (.A (.aw [5,59] 16 .g))))))) .g)))) .g)))
def aah:=az K w [a,b,c] func25 F F .g
def aeK:=az K w [a,b] func26 F F .g
def aeJ:=az K w [a] func27 F F .g
def Yc:=az K w [a] func28 F F .g
def aac:=az K w [a] func29 F F .g
def acm:=az K w [a] func30 F F .g
def abG:=az K w [a,b] func31 F F (f (f (f (cf (.aw [9] 26 .g) .g))))
def ZL:=az K w [a,b,c] func32 F F (f (f (f (.l (.J [30] 6 (.F (up 3 0 (.q 2 (aA 3 3 (.op 6 .j)) (up 4 3 .j)))) .g) .g))))
def YF:=az K w [a] func33 F F (f (f (cf (.aw [4,3] 65 (f (.A (.l (.l (.E (up 11 0 .j)) .g) (f (.J [5] 14 .g .g)))))) .g)))
def Zk:=az K w [a,b,c] func34 F F .g
def Y4:=az K w [a] func35 F F (f (cf (.aw [3,10] 10 .g) .g))
def aag:=az K w [a] func36 F F (f (f (f (f (f (f (.l (.E (up 19 0 (.bj 19 .j))) .g)))))))
def aae:=az K w [a] func37 F F (f (f (f (f (f (f (f (.J [4] 18 (.J [61] 10 (.E (up 3 0 (.q 2 (up 8 3 .j) (aA 7 3 (.op 10 .j))))) .g) .g))))))))
end
section
set_option maxRecDepth 10000
variable{K:aU}{w:eS}{a:dl}{b:dl}{c:dl}{d:dl}{e:dl}
def aaf:=az K w [a,b] func38 F F (f (.J [5,6] 9 (.E (up 5 0 (.en 5 (up 6 6 .j) 9 (ol [5,6,7,8,10,11] .j)))) (f (f (.J [] 27 (f (.A (f (.ac (.l (.E (up 6 0 (.bj 6 .j))) .g) (.J [40] 3 .g .g))))) .g)))))
def Ze:=az K w [a,b] func39 F F (f (f (f (f (f (f (.J [9] 5 .g (f (.l (.E (up 13 0 .j)) .g)))))))))
def Zf:=az K w [a,b] func40 F F (f (.l (.E (up 12 0 .j)) (f (.l (.E (up 12 0 .j)) (f (f (f (.J [9] 23 (f (.ac .g (f (.E (up 11 0 .j))))) .g))))))))
def Zi:=az K w [a,b] func41 F F (f (f (cf (.aw [5,18] 27 (f (f (.l (.A (f (.l (.E (up 12 0 .j)) .g))) .g)))) (.J [10] 8 (.E (up 7 0 (.en 7 (.op 8 (.bj 9 .j)) 8 (.bj 7 (.bj 9 .j))))) .g))))
def YW:=az K w [a] func42 F F (f (.l (.F (up 3 0 (.q 2 (up 4 3 .j) (aA 2 3 (up 2 5 .j))))) .g))
def YK:=az K w [a] func43 F F (f (.l (.F (up 3 0 (.q 2 (up 4 3 .j) (aA 2 3 (up 2 5 .j))))) .g))
def Zj:=az K w [a] func44 F F (f (f (f (.l (.E (up 11 0 (.bj 11 .j))) (f (f (f (.l (.E (up 10 0 (.bj 10 .j))) .g))))))))
def Zh:=az K w [a] func45 F F (f (.l (.l (.E (up 10 0 .j)) .g) (.l (.E (up 11 0 (.bj 11 .j))) (f (f (.l (.l (.E (up 7 0 .j)) .g) .g))))))
def Y7:=az K w [a,b,c] func46 F F (f (.l (.l (.F (up 4 0 (.q 3 (aA 5 4 (up 2 9 (.b8 10 true (aA 4 11 (.op 15 .j))))) (up 7 4 (.q 10 (aA 4 11 (.op 15 .j)) (up 5 11 .j)))))) .g) (.l (.F (up 6 0 (.q 5 (up 7 6 (.q 12 (up 6 13 (.q 18 (up 11 19 .j) (aA 9 19 (up 2 28 .j)))) (aA 4 13 (up 2 17 (.b8 18 false (aA 9 19 (up 2 28 .j))))))) (aA 5 6 (up 2 11 (.b8 12 false (aA 4 13 (up 2 17 (.b8 18 false (aA 9 19 (up 2 28 .j))))))))))) .g)))
def Y8:=az K w [a,b] func47 F F (f (.l (.l (.F (up 8 0 (.q 7 (aA 5 8 (up 2 13 (.b8 14 true (aA 5 15 (up 2 20 (.b8 21 true (aA 5 22 (.op 27 .j)))))))) (up 7 8 (.q 14 (aA 5 15 (up 2 20 (.b8 21 true (aA 5 22 (.op 27 .j))))) (up 7 15 (.q 21 (aA 5 22 (.op 27 .j)) (up 6 22 .j)))))))) .g) (.l (f (.A (.aw [39] 33 (f (f (.l (.A (f (f (.l (.F (up 6 0 (.q 5 (aA 5 6 (up 2 11 (.b8 12 true (aA 5 13 (.op 18 .j))))) (up 7 6 (.q 12 (aA 5 13 (.op 18 .j)) (up 6 13 .j)))))) .g)))) .g)))))) .g)))
def Yu:=az K w [a] func48 F F (f (cf (.aw [3,13] 94 (f (f (.l (.A (f (cf (.aw [6,24] 17 (f (f (.l (.A (f (.E (ol [0,1,2,6,7,8,9,10,3,4,5,11,12] .j)))) .g)))) (f (.J [] 9 (.l (.F (up 3 0 (.q 2 (up 6 3 .j) (aA 5 3 (.op 8 .j))))) .g) (f (.J [69] 12 (.E (up 3 0 (.q 2 (up 10 3 .j) (aA 9 3 (.op 12 .j))))) .g))))))) .g)))) .g))
def Yh:=az K w [] func49 F F .g
def YY:=az K w [a] func50 F F (f (f (.l (.A (.aw [3] 24 (.l (.l (.E (up 11 0 .j)) .g) (.A (.E (up 14 0 .j)))))) .g)))
def OF(g:gk)(h f:dl)(w:eS):Prop:=
 dK Y 114 f 5 w λi w=>
 bU Y 4 i w λj w=>
 b6 j (
 dK Y 114 f 5 w λk w=>
 c4 Y 4 k (ax af) w λw=>
 g [] w) (
 dK Y 206 h 1 w λl w=>
 bU Y 3 l w λm w=>
 b7 Y gZ 3 ao af m (I X 3) w λn w=>
 dK Y 114 f 5 w λo w=>
 c4 Y 4 o n w λw=>
 g [] w)
def OE(f:gk)(g:dl)(w:eS):Prop:=
 b7 Y po 3 ao af g (I X 1) w λh w=>
 f [h] w
def IQ(f:gk)(g h i:dl)(w:eS):Prop:=
 bU Y 114 i w λj w=>
 fR Y 58 1 [(0,j)] w λk w=>
 cz Y fT [58,58] 58 [k,h] w λl w=>
 b7 Y po 3 ao af g (I X 1) w λm w=>
 f [l,m] w
def IS(n:gk)(o:gk)(j h f p q:dl)(i:dl)(w:eS):Prop:=
 b7 Y .geq 3 ao af i (I X 0) w λr w=>
 b6 r (
 bG 0 22 (λs=>
 fh Y 215 q j w λt w=>
 bU Y 112 t w λu w=>
 fh Y 112 u i w λv w=>
 bU Y 206 v w λx w=>
 gM Y 206 w λg w=>
 c4 Y 206 g x w λw=>
 bG 0 6 (λk=>
 dK Y 206 g 1 w λy w=>
 bU Y 3 y w λz w=>
 b7 Y mb 3 ao af z (I X 5) w λA w=>
 b6 A (
 dK Y 206 g 3 w λB w=>
 bU Y 3 B w λC w=>
 dK Y 114 f 1 w λD w=>
 c4 Y 3 D C w λw=>
 k [] w) (
 k [] w)) λl _ w=>
 OF s g f w) λl _ w=>
 OE o i w) (
 dK Y 76 p 0 w λE w=>
 dK Y 73 E 0 w λF w=>
 bU Y 33 F w λG w=>
 dK Y 114 f 1 w λH w=>
 bU Y 3 H w λL w=>
 ak Y 93 [G,L] w λM w=>
 dK Y 114 f 3 w λO w=>
 c4 Y 3 O M w λw=>
 bG 0 8 (λm=>
 cz Y j7 [58] 3 [h] w λP w=>
 b7 Y .gtr 3 ao af P (I X 0) w λQ w=>
 b6 Q (
 fh Y 58 h (I X 0) w λR w=>
 dK Y 114 R 1 w λS w=>
 bU Y 3 S w λU w=>
 dK Y 114 f 2 w λV w=>
 c4 Y 3 V U w λw=>
 m [] w) (
 m [] w)) λl _ w=>
 IQ n j h f w)
def OD(h:gk)(f i j g:dl)(k:dl)(w:eS):Prop:=
 fh Y 215 g f w λl w=>
 bU Y 112 l w λm w=>
 cz Y j7 [112] 3 [m] w λn w=>
 b7 Y po 3 ao af n (I X 1) w λo w=>
 ba [o] 1 26 w λp _ w q=>
 IS h q f i k j g (av p) w
def OG(K:aU)(t:gk)(j u i:dl)(k h:dl)(w:eS):Prop:=
 b7 Y .geq 3 ao af h (I X 0) w λv w=>
 b6 v (
 bG 1 16 (λl=>
 bE w λg w=>
 cW g w (λw f=>fh Y 215 i h w f) λx=>
 cW g w (λw f=>bU Y 112 x w f) λm=>
 cW g w (λw f=>dK Y 80 j 1 w f) λy=>
 cW g w (λw f=>bU Y 3 y w f) λn=>
 cW g w (λw f=>dK Y 80 j 2 w f) λz=>
 cW g w (λw f=>bU Y 3 z w f) λo=>
 cW g w (λw f=>b7 Y .gtr 3 ao af h (I X 0) w f) λp=>
 cW g w (λw f=>fh Y 215 i h w f) λA=>
 cW g w (λw f=>bU Y 112 A w f) λq=>
 (
 ak Y 92 [q] w λB w=>g w/\
 cW g w (λw f=>fo Y 114 [(0,m),(1,n),(2,o),(4,p),(6,B)] w f) λC=>
 gM Y 114 w λr w=>g w/\
 c4 Y 114 r C w λw=>
 l [r] w)/\(
 gM Y 114 w λs w=>g w/\
 ak Y 92 [q] w λD w=>g w/\
 cW g w (λw f=>fo Y 114 [(0,m),(1,n),(2,o),(4,p),(6,D)] w f) λE=>
 c4 Y 114 s E w λw=>
 l [s] w)) λF _ w=>
 OD t h k u i (av F) w) (
 K k w)
def OC(K:aU)(l m:dl)(w:eS):Prop:=
 qb Y 76 l w λh w=>
 qb Y 80 m w λi w=>
 bE w λg w=>
 cW g w (λw f=>dK Y 76 h 1 w f) λn=>
 cW g w (λw f=>bU Y 74 n w f) λo=>
 cW g w (λw f=>dK Y 80 i 0 w f) λp=>
 cW g w (λw f=>bU Y 78 p w f) λq=>
 cW g w (λw f=>dK Y 76 h 2 w f) λr=>
 cW g w (λw f=>bU Y 3 r w f) λs=>
 cW g w (λw f=>dK Y 76 h 3 w f) λt=>
 cW g w (λw f=>bU Y 3 t w f) λu=>
 ak Y 91 [o,q,s] w λv w=>g w/\
 ak Y 90 [v,u] w λj w=>g w/\
 cz Y j7 [215] 3 [j] w λx w=>
 b7 Y po 3 ao af x (I X 1) w λy w=>
 ba [aQ ac 0 0,y] 2 78 w λk _ w z=>
 OG K z i h j (av k) (av (bA k)) w
def Y3{K:aU}{f g:dl}{w:eS}(h:OC K f g w):ak Y 51 [f,g] w K:=h_ func51 (.l .g (.l .g (.l (.E (ol [0,1,2,3,4,5,7,8,6,9,10] .j)) (.l (.l .g (.A (.aw [5,7] (.l .g (.l (.A (.J [8] (.E (up 14 0 (.en 14 (up 2 15 (.bj 17 .j)) 16 (up 2 14 (.bj 17 .j))))) (.l (.l .g (.A (.aw [9] (.l .g (.J [] (.A (.l .g (.J [] .g (.F (up 3 0 (.q 2 (.skip 3 (.skip 4 (.skip 5 (up 3 6 .j)))) (up 6 3 .j))))))) .g))))) (.l .g (.J [] .g .g))))) .g))))) .g)))) h
def Yd:=az K w [a,b] func52 F F (f (.l (.l (.F (up 3 0 (.q 2 (aA 4 3 (.op 7 .j)) (up 5 3 .j)))) .g) (.l (f (.A (.aw [5] 36 (.l (.l (.F (up 3 0 (.q 2 (up 7 3 .j) (aA 6 3 (.op 9 .j))))) .g) (.l (.A (f (f (.J [47] 10 (.F (up 5 0 (.q 4 (up 6 5 .j) (aA 5 5 (.op 10 .j))))) .g)))) .g))))) .g)))
def abz:=az K w [a] func53 F F .g
def aaM:=az K w [a,b] func54 F F (f (.l (.A (.J [13] 6 (.F (up 3 0 (.q 2 (aA 2 3 (up 2 5 .j)) (up 4 3 .j)))) .g)) (f (cf (.aw [30] 44 (f (f (.l (.A (f (f (f (f (f (.E (up 10 0 (.bj 10 .j))))))))) .g)))) .g))))
def abH:=az K w [a] func55 F F .g
def aax:=az K w [a,b] func56 F F (f (.l (.A (.J [15] 6 (.F (up 3 0 (.q 2 (aA 2 3 (up 2 5 .j)) (up 4 3 .j)))) .g)) (cf (.aw [29] 34 (f (f (.l (.A (f (.l (.l (.F (up 5 0 (.q 4 (aA 7 5 (.op 12 .j)) (up 8 5 .j)))) .g) .g))) .g)))) (f (cf (.aw [72] 55 (f (f (.l (.A (f (f (.l (.J [96] 14 (.E (up 3 0 (.q 2 (up 12 3 .j) (aA 11 3 (.op 14 .j))))) (.ac (.l (.E (up 18 0 (.bj 18 .j))) .g) .g)) (.E (up 10 0 (.bj 10 .j))))))) .g)))) .g)))))
def acj:=az K w [a] func57 F F (f (f (f (f (f (.l (.E (ol [0,2,3,1,4,5,6,7,8,9,10] .j)) .g))))))
def aaL:=az K w [] func58 F F .g
def ZK:=az K w [a,b] func59 F F (f (f (.J [6,7] 9 (.E (ol [0,3,4] (.en 1 (.op 2 (.en 5 (up 6 6 .j) 9 (ol [5,6,7,8,10,11] .j))) 9 (ol [1,2,5,6,7,8,10,11] .j)))) .g)))
def abD:=az K w [a,b] func60 F F .g
def ack:=az K w [a] func61 F F .g
def aao:=az K w [a] func62 F F .g
def Yg:=az K w [a] func63 F F (f (.J [] 15 (.l (.F (up 3 0 (.q 2 (aA 2 3 (up 2 5 (.b8 6 true (aA 6 7 (.op 13 .j))))) (up 4 3 (.q 6 (aA 6 7 (.op 13 .j)) (up 3 7 (.q 9 (up 4 10 .j) (aA 2 10 (up 2 12 .j))))))))) .g) .g))
def abJ:=az K w [a,b,c,d] func64 F F (f (f (f (f (.l (.E (ol [0,2,4,1,3,5,6,7] .j)) .g)))))
def abE:=az K w [a] func65 F F .g
def aaj:=az K w [a,b] func66 F F .g
def ZM:=az K w [a] func67 F F (f (.l (.F (up 3 0 (.q 2 (aA 2 3 (up 2 5 .j)) (up 4 3 .j)))) .g))
def ZN:=az K w [a,b] func68 F F (f (f (f (f (.l (.E (up 5 0 (.bj 5 .j))) .g)))))
def abl:=az K w [a,b,c] func69 F F (f (.l (.A (f (.ac .g (.J [18] 18 (.F (up 4 0 (.q 3 (aA 2 4 (up 2 6 (.b8 7 true (aA 9 8 (up 2 17 .j))))) (up 4 4 (.q 7 (aA 9 8 (up 2 17 .j)) (up 11 8 .j)))))) .g)))) (f (cf (.aw [10,41] 24 (f (f (.l (.A (f (.A (f (.ac .g (f (.ac (.J [62] 7 (.F (up 5 0 (.q 4 (up 3 5 .j) (aA 2 5 (.op 7 .j))))) .g) .g))))))) .g)))) (.l (.J [75] 10 (.F (up 3 0 (.q 2 (up 3 3 (.q 5 (up 5 6 .j) (aA 4 6 (.op 10 .j)))) (.skip 3 (up 2 4 (.b8 5 false (aA 4 6 (.op 10 .j)))))))) .g) .g)))))
def ZQ:=az K w [a,b,c] func70 F F .g
def ZP:=az K w [a,b] func71 F F .g
def YJ:=az K w [a,b] func72 F F (f (.l (.F (up 6 0 (.q 5 (up 7 6 .j) (aA 5 6 (up 2 11 .j))))) .g))
def Yw:=az K w [a,b] func73 F F (f (.l (.l (.F (up 3 0 (.q 2 (aA 2 3 (.op 5 .j)) (up 3 3 .j)))) .g) (f (cf (.aw [5,26] 60 (f (f (.l (.A (f (.l (.E (up 7 0 .j)) (f (f (f (cf (.aw [9,10,48] 20 (f (f (.l (.A (f (.J [9,10] 11 (.J [58] 6 (.F (up 3 0 (.q 2 (up 4 3 .j) (aA 3 3 (.op 6 .j))))) .g) .g))) .g)))) .g))))))) .g)))) .g))))
def YD:=az K w [a,b] func74 F F (f (.l (.l (.F (up 3 0 (.q 2 (aA 2 3 (.op 5 .j)) (up 3 3 .j)))) .g) (f (cf (.aw [5,27] 92 (f (f (.l (.A (f (.l (.l (.F (up 4 0 (.q 3 (aA 5 4 (up 2 9 (.b8 10 true (aA 4 11 (.op 15 .j))))) (up 7 4 (.q 10 (aA 4 11 (.op 15 .j)) (up 5 11 .j)))))) .g) (.l (f (.A (.aw [53] 9 .g))) (f (cf (.aw [10,11,64] 36 (f (f (.l (.A (f (.J [10,11] 27 (.J [90] 22 (.F (up 3 0 (.q 2 (up 6 3 (.q 8 (aA 12 9 (up 2 21 .j)) (up 6 9 (.q 14 (up 8 15 .j) (aA 5 15 (up 3 20 .j)))))) (aA 19 3 (.op 22 .j))))) .g) .g))) .g)))) .g)))))) .g)))) .g))))
def aaJ:=az K w [a] func75 F F .g
def aa6:=az K w [a,b] func76 F F (f (f (f (f (f (f (.J [10,11] 11 (.E (ol [0,1,4,5,7] (.pY 2 (.op 3 (.pY 6 (.pY 8 (up 2 9 (.en 11 (up 2 12 (.bj 14 .j)) 12 (ol [11,13] (.bj 14 .j)))) 11 (.en 8 (ol [9,10,12,13] (.bj 14 .j)) 12 (ol [8,9,10,13] (.bj 14 .j))) 12 (.en 8 (ol [9,10,11,13] (.bj 14 .j)) 11 (ol [8,9,10,13] (.bj 14 .j)))) 11 (.en 6 (.en 8 (ol [9,10,12,13] (.bj 14 .j)) 12 (ol [8,9,10,13] (.bj 14 .j))) 12 (ol [6,8,9,10,13] (.bj 14 .j))) 12 (.en 6 (.en 8 (ol [9,10,11,13] (.bj 14 .j)) 11 (ol [8,9,10,13] (.bj 14 .j))) 11 (ol [6,8,9,10,13] (.bj 14 .j))))) 11 (.en 2 (.op 3 (.en 6 (.en 8 (ol [9,10,12,13] (.bj 14 .j)) 12 (ol [8,9,10,13] (.bj 14 .j))) 12 (ol [6,8,9,10,13] (.bj 14 .j)))) 12 (ol [2,3,6,8,9,10,13] (.bj 14 .j))) 12 (.en 2 (.op 3 (.en 6 (.en 8 (ol [9,10,11,13] (.bj 14 .j)) 11 (ol [8,9,10,13] (.bj 14 .j))) 11 (ol [6,8,9,10,13] (.bj 14 .j)))) 11 (ol [2,3,6,8,9,10,13] (.bj 14 .j)))))) (.J [] 31 (f (f (.ac (.l (.E (up 13 0 (.bj 13 .j))) (.E (up 13 0 (.bj 13 .j)))) .g))) .g))))))))
def aai:=az K w [a,b] func77 F F .g
def aaI:=az K w [a] func78 F F .g
def aad:=az K w [a,b,c] func79 F F (f (f (.l (.E (up 9 0 (.bj 9 .j))) (f (.l (.E (ol [0,1,2,3,4,5,6,7,8,13,14,9,10,11,12,15,16,17,18,19,20,21,22,23,24,25,26] .j)) .g)))))
def aa7:=az K w [a,b] func80 F F (f (cf (f (.ac .g (f (.ac .g (f (.ac .g (f (.ac .g (.J [39] 2 .g .g))))))))) .g))
def aaH:=az K w [a,b] func81 F F (f (f (f (.l (.E (ol [0,1,2,3,4,5,6,7,9,10,15,16,8,11,12,13,14,17] (.bj 18 .j))) (.l (f (f (.ac (.E (up 11 0 (.bj 11 .j))) .g))) .g)))))
def Zg:=az K w [a,b] func82 F F (f (f (cf (.aw [6,18] 47 (f (f (.l (.A (f (.l (.E (up 12 0 .j)) (f (.l (.E (up 12 0 .j)) .g))))) .g)))) .g)))
def Yp:=az K w [a,b] func83 F F (f (f (f (f (cf (.aw [7,8] 23 (f (.l (.A (.E (up 20 0 .j))) .g))) .g)))))
def Yr:=az K w [a,b] func84 F F (f (cf (.aw [5,13] 52 (f (f (.l (.A (f (cf (.aw [8,24] 17 (f (f (.l (.A (f (.E (ol [0,1,2,6,7,8,9,10,3,4,5,11,12] .j)))) .g)))) (.E (ol [0,1,2,3,4,8,9,10,11,12,13,5,6,7,14,15,16,17,18] .j))))) .g)))) .g))
def Zd:=az K w [a,b] func85 F F .g
def YE:=az K w [a,b] func86 F F .g
def YH:=az K w [a,b] func87 F F (f (.l (.l (.F (up 4 0 (.q 3 (aA 5 4 (up 2 9 (.b8 10 true (aA 5 11 (.op 16 .j))))) (up 7 4 (.q 10 (aA 5 11 (.op 16 .j)) (up 6 11 .j)))))) .g) (cf (.aw [5,29] 21 (f (f (.l (.A (f (.J [44] 11 (.F (up 6 0 (.q 5 (aA 5 6 (.op 11 .j)) (up 6 6 .j)))) .g))) .g)))) .g)))
def Yy:=az K w [a,b,c] func88 F F (f (f (cf (.aw [7,8,15] 20 (f (f (.l (.A (f (f (.J [7] 6 .g .g)))) .g)))) .g)))
def YZ:=az K w [a,b] func89 F F (f (f (f (.A (.aw [5,6] 59 (.A (.l (f (.A (.aw [5,17] 13 .g))) (.l (.J [39] 9 (.F (up 6 0 (.q 5 (aA 3 6 (.op 9 .j)) (up 4 6 .j)))) .g) .g))))))))
def IP(g:gk)(i:gk)(j k l m:dl)(f h:dl)(w:eS):Prop:=
 b7 Y .gtr 3 ao af m (I X 0) w λn w=>
 b6 n (
 b7 Y n3 3 ao ao h l w λo w=>
 b6 o (
 fh Y 112 k j w λp w=>
 dK Y 206 p 3 w λq w=>
 bU Y 3 q w λr w=>
 fo Y 206 [(0,(I cc 32)),(1,(I X 5)),(2,(I X 1)),(3,r)] w λs w=>
 fR Y 112 1 [(0,s)] w λt w=>
 cz Y fT [112,112] 112 [f,t] w λu w=>
 b7 Y iA 3 ao af h (I X 1) w λv w=>
 i [u,v] w) (
 g [f] w)) (
 g [f] w)
def OA(h:gk)(f i j k g:dl)(l:dl)(w:eS):Prop:=
 b7 Y iA 3 ao ao f g w λm w=>
 le Y 112 i (J f) (J m) ac w λn w=>
 cz Y fT [112,112] 112 [l,n] w λo w=>
 fR Y 215 1 [(0,o)] w λp w=>
 cz Y fT [215,215] 215 [j,p] w λq w=>
 b7 Y iA 3 ao ao f g w λr w=>
 b7 Y iA 3 ao af k (I X 1) w λs w=>
 h [q,r,s] w
def OB(K:aU)(k:gk)(h l m n:dl)(i j f:dl)(w:eS):Prop:=
 b7 Y n3 3 ao ao f n w λo w=>
 b6 o (
 fh Y 55 l f w λp w=>
 bU Y 3 p w λq w=>
 bG 1 20 (λr=>
 ba [aQ ac 0 0,I X 0] 2 18 w λg _ w s=>
 IP r s j h m f (av g) (av (bA g)) w) λg _ w=>
 OA k j h i f q (av g) w) (
 K i w)
def Oz(K:aU)(h i:dl)(g:dl)(w:eS):Prop:=
 cz Y j7 [55] 3 [g] w λj w=>
 ba [aQ ac 0 0,I X 0,I X 0] 3 45 w λf _ w k=>
 OB K k h g i j (av f) (av (bA f)) (av (bA (bA f))) w
def Oy(K:aU)(f g:dl)(w:eS):Prop:=
 cz Y j7 [112] 3 [f] w λj w=>
 fR Y 55 1 [(0,j)] w λk w=>
 ak Y 160 [f,g] w λh w=>
 bG 1 9 (λi=>
 b7 Y .gtr 3 ao af g (I X 0) w λl w=>
 b6 l (
 b7 Y po 3 ao ao g h w λm w=>
 fo Y 306 [(0,g),(1,m)] w λn w=>
 ak Y 161 [f,n] w λo w=>
 i [o] w) (
 i [k] w)) λp _ w=>
 Oz K f h (av p) w
def YX{K:aU}{f g:dl}{w:eS}(h:Oy K f g w):ak Y 90 [f,g] w K:=h_ func90 (.l .g (.l .g (.l .g (.J [5] .g (.l .g (.l .g (.l (.l .g (.A (.aw [7,8,30] (.l .g (.l .g (.l (.A (.l .g (.l .g (.J [11] (.l .g (.A (.aw [11,12] (.l (.l (.F (up 3 0 (.q 2 (up 4 3 .j) (.skip 3 (.skip 4 (.skip 5 (.op 6 .j))))))) .g) .g)))) .g)))) .g)))))) .g))))))) h
def Ow(i:gk)(j:gk)(k f l m:dl)(g h:dl)(w:eS):Prop:=
 fh Y 55 l f w λn w=>
 bU Y 3 n w λo w=>
 b7 Y n3 3 ao ao h o w λp w=>
 b6 p (
 dK Y 206 k 3 w λq w=>
 bU Y 3 q w λr w=>
 fo Y 206 [(0,(I cc 32)),(1,(I X 4)),(2,(I X 1)),(3,r)] w λs w=>
 fR Y 112 1 [(0,s)] w λt w=>
 cz Y fT [112,112] 112 [g,t] w λu w=>
 b7 Y iA 3 ao af h (I X 1) w λv w=>
 j [u,v] w) (
 b7 Y iA 3 ao af f (I X 1) w λx w=>
 b7 Y iA 3 ao af m (I X 1) w λy w=>
 i [g,x,y] w)
def IM(h:gk)(f i j k l:dl)(w:eS):Prop:=
 bU Y 206 f w λm w=>
 fR Y 112 1 [(0,m)] w λn w=>
 cz Y fT [112,112] 112 [j,n] w λo w=>
 dK Y 206 f 2 w λp w=>
 bU Y 3 p w λq w=>
 ba [o,q] 2 14 w λg _ w r=>
 Ow h r f i k l (av g) (av (bA g)) w
def Ot(h:gk)(f i j k l m:dl)(w:eS):Prop:=
 bG 0 3 (λg=>
 b7 Y gZ 21 ao af m (I cc 9) w λn w=>
 b6 n (
 dK Y 206 f 2 w λo w=>
 c4 Y 3 o (I X 1) w λw=>
 g [] w) (
 g [] w)) λp _ w=>
 IM h f i j k l w
def IN(p:gk)(q:gk)(h l r s t:dl)(m j i:dl)(w:eS):Prop:=
 b7 Y n3 3 ao ao i t w λu w=>
 b6 u (
 fh Y 33 s i w λv w=>
 bU Y 21 v w λn w=>
 bE w λg w=>
 cW g w (λw f=>dK Y 312 h 0 w f) λx=>
 cW g w (λw f=>bU Y 3 x w f) λy=>
 cW g w (λw f=>fh Y 55 l j w f) λz=>
 cW g w (λw f=>bU Y 3 z w f) λA=>
 cW g w (λw f=>dK Y 312 h 1 w f) λB=>
 cW g w (λw f=>bU Y 3 B w f) λC=>
 cW g w (λw f=>fo Y 206 [(0,n),(1,y),(2,A),(3,C)] w f) λD=>
 gM Y 206 w λk w=>g w/\
 c4 Y 206 k D w λw=>
 bG 0 8 (λo=>
 dK Y 312 h 0 w λE w=>
 bU Y 3 E w λF w=>
 b7 Y gZ 3 ao af F (I X 1) w λG w=>
 b6 G (
 dK Y 312 h 1 w λH w=>
 bU Y 3 H w λL w=>
 b7 Y iA 3 ao ao L i w λM w=>
 dK Y 206 k 3 w λO w=>
 c4 Y 3 O M w λw=>
 o [] w) (
 o [] w)) λQ _ w=>
 Ot q k j m l i n w) (
 b7 Y iA 3 ao af r (I X 1) w λP w=>
 p [m,j,P] w)
def Ov(K:aU)(k:gk)(l m n:dl)(i o f:dl)(w:eS):Prop:=
 b7 Y n3 3 ao ao f n w λp w=>
 b6 p (
 fh Y 78 l f w λq w=>
 bU Y 312 q w λr w=>
 gM Y 312 w λg w=>
 c4 Y 312 g r w λw=>
 bU Y 312 g w λs w=>
 ak Y 162 [s] w λj w=>
 cz Y j7 [33] 3 [j] w λt w=>
 ba [i,o,I X 0] 3 53 w λh _ w u=>
 IN k u g m f j t (av h) (av (bA h)) (av (bA (bA h))) w) (
 K i w)
def Ou(K:aU)(k:gk)(f l m n:dl)(i g:dl)(w:eS):Prop:=
 b7 Y n3 3 ao ao g n w λo w=>
 b6 o (
 fh Y 78 f g w λp w=>
 bU Y 312 p w λq w=>
 gM Y 312 w λj w=>
 c4 Y 312 j q w λw=>
 bU Y 312 j w λr w=>
 ak Y 162 [r] w λs w=>
 cz Y fT [33,33] 33 [i,s] w λt w=>
 b7 Y iA 3 ao af g (I X 1) w λu w=>
 k [t,u] w) (
 ak Y 163 [l,i,m] w λv w=>
 cz Y j7 [78] 3 [f] w λx w=>
 ba [aQ ac 0 0,I X 0,I X 0] 3 63 w λh _ w y=>
 Ov K y f v x (av h) (av (bA h)) (av (bA (bA h))) w)
def Oq(K:aU)(h f i:dl)(w:eS):Prop:=
 cz Y j7 [78] 3 [f] w λj w=>
 ba [aQ ac 0 0,I X 0] 2 9 w λg _ w k=>
 Ou K k f h i j (av g) (av (bA g)) w
def YM{K:aU}{f g h:dl}{w:eS}(i:Oq K f g h w):ak Y 91 [f,g,h] w K:=h_ func91 (.l .g (.l .g (.l (.l .g (.A (.aw [7,21] .g))) (.l .g (.l .g (.l .g (.l (.l .g (.A (.aw [11,12,36] (.l .g (.l .g (.l (.A (.l .g (.l .g (.A (.aw [11,12,43] (.l .g (.l .g (.l (.A (.l .g (.l (.E (up 11 0 (.bj 11 .j))) (.J [] .g (.J [] .g (.l .g (.l (.l .g (.A (.aw [11,18] .g))) .g))))))) .g)))))))) .g)))))) .g))))))) i
def YR:=az K w [a] func92 F F (f (cf (.aw [3,8] 9 .g) .g))
def Y5:=az K w [a,b] func93 F F (f (cf (.aw [5,12] 9 .g) .g))
def D4(K:aU)(i:gk)(g:dl)(h f:dl)(w:eS):Prop:=
 cz Y j7 [9] 3 [g] w λj w=>
 b7 Y n3 3 ao ao f j w λk w=>
 b6 k (
 b7 Y .mul 21 af ao (I cc 64) h w λl w=>
 th Y 9 g f w λm w=>
 nW Y 5 21 m w λn w=>
 b7 Y iA 21 ao ao l n w λo w=>
 b7 Y po 21 ao af o (I cc 128) w λp w=>
 b7 Y iA 3 ao af f (I X 1) w λq w=>
 i [p,q] w) (
 K h w)
def Oo(K:aU)(g:dl)(h:dl)(w:eS):Prop:=
 ba [h,I X 1] 2 14 w λf _ w i=>
 D4 K i g (av f) (av (bA f)) w
def On(K:aU)(g:dl)(w:eS):Prop:=
 th Y 9 g (I X 0) w λj w=>
 nW Y 5 21 j w λf w=>
 bG 1 16 (λh=>
 cz Y j7 [9] 3 [g] w λi w=>
 b7 Y gZ 3 ao af i (I X 1) w λk w=>
 b6 k (
 K f w) (
 b7 Y gZ 3 ao af i (I X 2) w λl w=>
 b6 l (
 b7 Y po 21 ao af f (I cc 192) w λm w=>
 h [m] w) (
 b7 Y gZ 3 ao af i (I X 3) w λn w=>
 b6 n (
 b7 Y po 21 ao af f (I cc 224) w λo w=>
 h [o] w) (
 b7 Y po 21 ao af f (I cc 240) w λp w=>
 h [p] w)))) λq _ w=>
 Oo K g (av q) w
def Ye{K:aU}{f:dl}{w:eS}(g:On K f w):ak Y 94 [f] w K:=h_ func94 (.l .g (.l .g (.J [3] .g (.l (.l .g (.A (.aw [3,4] .g))) .g)))) g
def Yf:=az K w [a,b] func95 F F .g
def aeF:=az K w [a] func96 F F (f (cf (.aw [3] 8 .g) .g))
def ad0:=az K w [a] func97 F F (f (f (cf (.aw [4,14] 35 .g) .g)))
def abM:=az K w [a] func98 F F (f (cf (.aw [3,0,4] 19 .g) .g))
def aaU:=az K w [a,b] func99 F F (f (.l (.A (.J [5] 24 (.F (up 4 0 (.q 3 (aA 3 4 (up 2 7 (.b8 8 true (aA 4 9 (up 2 13 (.b8 14 true (aA 8 15 (up 2 23 .j)))))))) (up 5 4 (.q 8 (aA 4 9 (up 2 13 (.b8 14 true (aA 8 15 (up 2 23 .j))))) (up 6 9 (.q 14 (aA 8 15 (up 2 23 .j)) (up 4 15 (.q 18 (up 6 19 .j) (aA 3 19 (up 3 22 .j))))))))))) (.ac .g (f (.ac .g (.l (.F (up 4 0 (.q 3 (aA 3 4 (up 2 7 .j)) (up 5 4 .j)))) .g)))))) .g))
def aeD:=az K w [a] func100 F F .g
def aaT:=az K w [a,b] func102 F F (f (.l (.E (ol [0,1,2,3,5,6,7,8,10,11,12,13,4,9,14,15,16,17] .j)) .g))
def abL:=az K w [a,b] func103 F F .g
def aaF:=az K w [a,b] func104 F F (f (.l (.F (up 4 0 (.q 3 (up 7 4 (.q 10 (up 6 11 .j) (aA 4 11 (up 2 15 .j)))) (aA 5 4 (up 2 9 (.b8 10 false (aA 4 11 (up 2 15 .j)))))))) .g))
def abV:=az K w [a] func105 F F .g
def aaG:=az K w [a,b] func107 F F (f (.l (.E (ol [0,1,2,3,5,6,7,8,4,9,10,11,12] .j)) .g))
def OT:=az K w [a] func108 F F (f (f (.l (.A (.J [7] 12 (.F (up 6 0 (.q 5 (aA 5 6 (up 2 11 .j)) (up 7 6 .j)))) (.ac .g (.l (.F (up 4 0 (.q 3 (aA 3 4 (up 2 7 (.b8 8 true (aA 3 9 (up 2 12 (.b8 13 true (aA 3 14 (up 2 17 .j)))))))) (up 5 4 (.q 8 (aA 3 9 (up 2 12 (.b8 13 true (aA 3 14 (up 2 17 .j))))) (up 5 9 (.q 13 (aA 3 14 (up 2 17 .j)) (up 5 14 .j)))))))) .g)))) .g)))
def aeM:=az K w [a] func109 F F .g
def ZV:=az K w [a,b] func110 F F .g
def aaA:=az K w [a] func111 F F .g
def acq:=az K w [a,b,c] func112 F F (f (f (.A (.aw [8,1] 35 (.A (f (.l (.l (.F (up 3 0 (.q 2 (aA 4 3 (.op 7 .j)) (up 5 3 .j)))) .g) .g)))))))
def acs:=az K w [a] func113 F F (f (.J [3] 8 (.E (up 6 0 (.en 6 (up 2 7 (.bj 9 .j)) 8 (up 2 6 (.bj 9 .j))))) (.l (.E (ol [0,2,3,4,5,1,6] (.bj 7 .j))) .g)))
def aas:=az K w [a] func114 F F .g
def aal:=az K w [a,b] func115 F F .g
def abk:=az K w [a,b] func116 F F .g
def ZO:=az K w [a,b] func117 F F .g
end
section
set_option maxRecDepth 10000
variable{K:aU}{w:eS}{a:dl}{b:dl}{c:dl}{d:dl}{e:dl}
def abK:=az K w [a,b] func118 F F (f (f (f (f (f (.J [] 16 (f (.A (.aw [9] 11 .g))) .g))))))
def aar:=az K w [a] func119 F F .g
def ad5:=az K w [a] func120 F F .g
def abT:=az K w [a] func121 F F .g
def OR:=az K w [a] func122 F F .g
def abS:=az K w [a,b,c,d] func123 F F .g
def abP:=az K w [a] func124 F F (f (f (.J [4,5] 13 (.E (up 9 0 (.en 9 (up 6 10 .j) 13 (ol [9,10,11,12,14,15] .j)))) .g)))
def abR:=az K w [a] func125 F F .g
def aaq:=az K w [a,b,c] func126 F F .g
def aco:=az K w [a] func127 F F .g
def ab7:=az K w [a,b] func128 F F .g
def aa1:=az K w [a,b] func129 F F .g
def abm:=az K w [a] func130 F F (f (.l (.F (up 3 0 (.q 2 (aA 2 3 (up 2 5 .j)) (up 4 3 .j)))) .g))
def abq:=az K w [a] func131 F F (f (cf (.aw [3,4] 36 (f (.A (f (.J [5] 17 (.A (.aw [5] 17 (.l (.l (.F (up 7 0 (.q 6 (up 8 7 .j) (aA 7 7 (.op 14 .j))))) .g) .g))) .g))))) .g))
def YC:=az K w [a,b,c] func132 F F (f (.J [] 25 (.l (.F (up 4 0 (.q 3 (aA 3 4 (up 2 7 (.b8 8 true (aA 4 9 (up 2 13 (.b8 14 true (aA 8 15 (.op 23 .j)))))))) (up 5 4 (.q 8 (aA 4 9 (up 2 13 (.b8 14 true (aA 8 15 (.op 23 .j))))) (up 6 9 (.q 14 (aA 8 15 (.op 23 .j)) (up 4 15 (.q 18 (up 5 19 .j) (aA 3 19 (up 2 22 .j))))))))))) .g) (f (f (cf (.aw [47] 8 .g) (.l (f (.A (.aw [56] 11 .g))) .g))))))
def Yb:=az K w [a] func133 F F (f (cf (.aw [3,9] 18 .g) .g))
def YA:=az K w [a,b] func134 F F .g
def aaK:=az K w [a,b] func135 F F (f (.l (.J [19] 11 (.F (up 3 0 (.q 2 (aA 8 3 (.op 11 .j)) (up 9 3 .j)))) .g) (f (f (.l (.E (up 13 0 (.bj 13 .j))) (.l (.E (ol [0,1,2,3,4,5,6,7,8,9,10,13,14,11,12,15] (.bj 16 .j))) .g))))))
def OS:=az K w [a] func136 F F .g
def X8:=az K w [a,b] func137 F F (f (f (f (cf (.aw [7,8,22] 44 .g) .g))))
def abh:=az K w [a] func138 F F (f (f (cf (.aw [4,3,12] 84 (f (f (.l (.A (f (f (f (f (f (.A (.l (.E (ol [0,1,3,4,2,5,6,7,8] .j)) (.ac .g (.J [61] 14 (.E (up 3 0 (.q 2 (up 12 3 .j) (aA 10 3 (up 2 13 .j))))) (.ac (.E (up 17 0 (.bj 17 .j))) .g))))))))))) .g)))) .g)))
def abe:=az K w [a] func139 F F (f (cf (.aw [3,8] 14 (f (f (.l (.A (f (.E (ol [0,1,2,4,5,3,6,7,8,9] .j)))) .g)))) .g))
def X6:=az K w [a,b] func140 F F (f (f (f (f (f (cf (.aw [9,10,34] 18 (f (f (.l (.A (f (.l (.E (ol [0,1,2,3,4,6,7,5,8,9,10,11] .j)) .g))) .g)))) .g))))))
def aaP:=az K w [a,b] func141 F F (f (f (.J [] 31 (.A (f (.ac .g (.l (.F (up 4 0 (.q 3 (up 12 4 (.q 15 (aA 5 16 (up 2 21 .j)) (up 7 16 .j))) (aA 10 4 (up 2 14 (.b8 15 false (up 7 16 .j))))))) .g)))) (cf (.aw [42] 23 (f (f (.l (.A (f (.E (up 19 0 (.bj 19 .j))))) .g)))) .g))))
def aaE:=az K w [a,b] func142 F F (f (f (.J [] 31 (.A (f (.ac .g (.l (.F (up 4 0 (.q 3 (up 12 4 (.q 15 (aA 5 16 (up 2 21 .j)) (up 7 16 .j))) (aA 10 4 (up 2 14 (.b8 15 false (up 7 16 .j))))))) .g)))) (f (cf (.aw [8,46] 44 (f (f (.l (.A (f (f (f (.l (f (.l (.F (up 2 0 (.q 1 (aA 5 2 (.op 7 .j)) (up 6 2 .j)))) .g)) .g))))) .g)))) .g)))))
def OM:=az K w [a,b,c,d] func143 F F .g
def ON:=az K w [a,b,c,d] func144 F F (f (f (f (f (.l (.E (ol [0,1,3,4,2,5,6,7] .j)) (f (.J [] 16 (.J [57] 11 (.F (up 6 0 (.q 5 (aA 5 6 (.op 11 .j)) (up 6 6 .j)))) .g) (.l (.E (ol [0,1,2,3,5,6,4,7,8,9,10,11] (.bj 12 (.bj 13 .j)))) (f (f (f (f (.J [21] 11 (.E (ol [0,1,2,3,5,6,7,8] (.en 4 (.en 9 (.en 10 (.op 11 (.bj 12 .j)) 11 (.bj 10 (.bj 12 .j))) 11 (.bj 9 (.bj 10 (.bj 12 .j)))) 11 (.op 4 (.bj 9 (.bj 10 (.bj 12 .j))))))) (.l (.E (up 21 0 .j)) .g))))))))))))))
def aa8:=az K w [a,b] func145 F F (f (f (f (cf (.aw [7,24] 34 (f (f (.l (.A (f (f (f (.E (up 13 0 .j)))))) .g)))) .g))))
def aa9:=az K w [a,b] func146 F F (f (f (f (f (.l (.E (up 8 0 (.bj 8 .j))) .g)))))
def abd:=az K w [a,b] func147 F F (f (f (f (f (.l (.E (up 8 0 (.bj 8 .j))) .g)))))
def abb:=az K w [a,b] func148 F F (f (f (f (f (cf (.aw [7,8,28] 38 .g) (.l (f (.A (.aw [8,67] 18 .g))) .g))))))
def aba:=az K w [a,b] func149 F F (f (f (.J [] 9 .g .g)))
def Yq:=az K w [a,b] func150 F F (f (f (cf (.aw [5,13] 20 .g) .g)))
def Yn:=az K w [a,b,c] func151 F F .g
def Ym:=az K w [] func152 F F .g
def Yx:=az K w [a,b] func153 F F (f (f (f (cf (.aw [5,6,20] 25 .g) (.l (.l (.F (up 5 0 (.q 4 (aA 2 5 (.op 7 .j)) (up 3 5 .j)))) .g) (cf (.aw [9,57] 16 .g) .g))))))
def YI:=az K w [a,b] func154 F F (f (f (f (cf (.aw [5,6,24] 25 .g) (.l (.l (.F (up 5 0 (.q 4 (aA 2 5 (.op 7 .j)) (up 3 5 .j)))) .g) (cf (.aw [9,61] 43 (f (f (.l (.A (f (.J [12] 9 (.E (ol [0,1,2,4,5,6] (.en 3 (.en 7 (up 2 8 (.bj 10 .j)) 9 (up 2 7 (.bj 10 .j))) 9 (ol [3,7,8] (.bj 10 .j))))) (cf (.aw [13,81] 11 (f (f (.l (.A (f (.F (up 2 0 (.q 1 (aA 3 2 (up 2 5 .j)) (up 5 2 .j)))))) .g)))) .g)))) .g)))) .g))))))
def YB:=az K w [a,b] func155 F F (f (cf (.aw [5,10] 10 .g) .g))
def Yz:=az K w [a,b,c] func156 F F (f (cf (.aw [7,13] 19 (f (f (.l (.A (f (.J [26] 9 (.F (up 5 0 (.q 4 (up 5 5 .j) (aA 4 5 (.op 9 .j))))) .g))) .g)))) .g))
def Y1:=az K w [a,b] func157 F F (f (.l (.F (up 3 0 (.q 2 (up 7 3 (.q 9 (up 8 10 (.q 17 (up 7 18 .j) (aA 5 18 (up 2 23 .j)))) (aA 6 10 (up 2 16 (.b8 17 false (aA 5 18 (up 2 23 .j))))))) (aA 5 3 (up 2 8 (.b8 9 false (aA 6 10 (up 2 16 (.b8 17 false (aA 5 18 (up 2 23 .j))))))))))) .g))
def Y0:=az K w [a,b] func158 F F (cf (.aw [10] 16 (f (f (.l (.A (f (.l (.F (up 5 0 (.q 4 (up 5 5 .j) (aA 4 5 (.op 9 .j))))) .g))) .g)))) .g)
def Y2:=az K w [a,b,c] func159 F F (f (f (f (.l (.J [38] 25 (.E (up 3 0 (.q 2 (up 8 3 (.q 10 (up 15 11 .j) (aA 14 11 (.op 25 .j)))) (aA 6 3 (up 2 9 (.b8 10 false (aA 14 11 (.op 25 .j)))))))) .g) .g))))
def YV:=az K w [a,b] func160 F F (f (f (.l (.l (.F (up 4 0 (.q 3 (aA 4 4 (.op 8 .j)) (up 5 4 .j)))) .g) .g)))
def YN:=az K w [a,b] func161 F F (f (f (f (.l (.A (.aw [5,6] 18 (f (.A (.l (.E (up 7 0 .j)) .g))))) .g))))
def Ox:=az K w [a] func162 F F .g
def YL:=az K w [a,b,c] func163 F F (f (f (cf (.aw [7,8,14] 32 (f (f (.l (.A (f (f (.J [11] 14 (f (.ac (f (.A (.aw [11] 12 (.l (.l (.F (up 3 0 (.q 2 (up 7 3 .j) (aA 6 3 (.op 9 .j))))) .g) .g)))) .g)) .g)))) .g)))) .g)))
def aaX:=az K w [a] func164 F F (f (cf (.aw [3,11] 9 (f (f (.l (.A (f (.F (up 2 0 (.q 1 (up 4 2 .j) (aA 2 2 (up 2 4 .j))))))) .g)))) .g))
def ad8:=az K w [a,b] func165 F F .g
def ad9:=az K w [a] func166 F F .g
def abN:=az K w [a] func167 F F (f (f (cf (.aw [20] 13 .g) .g)))
def aeE:=az K w [a] func168 F F (f (cf (.aw [3] 4 .g) .g))
def aeG:=az K w [a] func170 F F (f (cf (.aw [3,8] 13 (f (f (.l (.A (f (.J [5] 3 .g .g))) .g)))) .g))
def ZI:=az K w [a] func173 F F (f (cf (.aw [8] 10 .g) .g))
def ZH:=az K w [a,b] func174 F F .g
def aaO:=az K w [a] func176 F F .g
def aaB:=az K w [a] func177 F F .g
def aeT:=az K w [a,b,c] func178 F F (f (cf (.aw [7,0,12] 24 (f (f (.l (.A (f (.J [7,0] 14 .g .g))) .g)))) .g))
def aaN:=az K w [a] func179 F F .g
def Z1:=az K w [a,b] func180 F F (f (f (cf (.aw [7,17] 25 (f (f (.l (.A (f (.l (.l (.F (up 5 0 (.q 4 (aA 5 5 (up 2 10 (.b8 11 true (aA 4 12 (.op 16 .j))))) (up 7 5 (.q 11 (aA 4 12 (.op 16 .j)) (up 5 12 .j)))))) .g) .g))) .g)))) .g)))
def aeO:=az K w [a] func181 F F (f (f (.l (.E (up 8 0 .j)) .g)))
def Z2:=az K w [a,b,c] func182 F F (f (cf (.aw [7,0,12] 28 (f (f (.l (.A (f (.J [7] 12 .g .g))) .g)))) .g))
def ZZ:=az K w [a,b] func183 F F (f (cf (.aw [5,14] 29 .g) .g))
def acr:=az K w [a,b] func184 F F (f (f (f (.J [10] 10 (.E (ol [0,2,3,4,5,6,7,8] (.en 1 (up 2 9 (.bj 11 .j)) 10 (ol [1,9] (.bj 11 .j))))) (.l (.l (.E (up 7 0 .j)) .g) .g)))))
def aeV:=az K w [] func185 F F (f (cf (.aw [7] 10 .g) (.l (f (.A (.aw [18] 10 .g))) .g)))
def aav:=az K w [a] func186 F F (f (f (cf (.aw [5,4,10] 16 (f (f (.l (.A (f (.J [5] 6 (.F (up 2 0 (.q 1 (up 5 2 .j) (aA 3 2 (up 2 5 .j))))) .g))) .g)))) .g)))
def OL:=az K w [a,b,c] func187 F F .g
def aat:=az K w [a,b,c] func188 F F (f (f (f (f (.J [10] 9 .g .g)))))
def P9(g:gk)(h:gk)(i j k l m n:dl)(f:dl)(w:eS):Prop:=
 bU Y 157 f w λo w=>
 ak Y 269 [o,i] w λp w=>
 iU Y l [p] w λq w=>
 b6 q (
 g [n] w) (
 bU Y 157 f w λr w=>
 dK Y 358 k 1 w λs w=>
 c4 Y 157 s r w λw=>
 b7 Y iA 3 ao af m (I X 1) w λt w=>
 h [j,t] w)
def Qb(l:gk)(s:gk)(t m u v x:dl)(n g:dl)(w:eS):Prop:=
 b7 Y n3 3 ao ao g x w λy w=>
 b6 y (
 fh Y 403 v g w λz w=>
 bU Y 319 z w λh w=>
 bG 1 5 (λi=>
 bE w λf w=>
 cW f w (λw j=>dK Y 358 m 1 w j) λA=>
 cW f w (λw j=>bU Y 157 A w j) λk=>
 (
 ak Y 191 [h] w λo w=>f w/\
 (
 ak Y 271 [k,o] w λB w=>f w/\
 gM Y 157 w λp w=>f w/\
 c4 Y 157 p B w λw=>
 i [p] w)/\(
 gM Y 157 w λq w=>f w/\
 ak Y 271 [k,o] w λC w=>
 c4 Y 157 q C w λw=>
 i [q] w))/\(
 gM Y 157 w λr w=>f w/\
 ak Y 191 [h] w λD w=>f w/\
 ak Y 271 [k,D] w λE w=>
 c4 Y 157 r E w λw=>
 i [r] w)) λF _ w=>
 P9 l s t n m u g h (av F) w) (
 l [n] w)
def Jz(h:gk)(l:gk)(m g n:dl)(f:dl)(w:eS):Prop:=
 b7 Y mb 319 ao af f gA w λo w=>
 b6 o (
 dK Y 358 g 2 w λp w=>
 bU Y 3 p w λq w=>
 b7 Y iA 3 ao af q (I X 1) w λr w=>
 dK Y 358 g 2 w λs w=>
 c4 Y 3 s r w λw=>
 q7 Y f 319 405 af w λi w=>
 e7 i 0 w λt w=>
 e7 i 1 w λu w=>
 Ab Y .not u w λv w=>
 b6 v (
 h [f] w) (
 z_ t w λx w=>
 dK Y 449 x 0 w λy w=>
 bU Y 403 y w λj w=>
 cz Y j7 [403] 3 [j] w λz w=>
 ba [gA,I X 0] 2 19 w λk _ w A=>
 Qb l A m g n j z (av k) (av (bA k)) w)) (
 h [f] w)
def Qa(g:gk)(h:gk)(i j k l:dl)(f:dl)(w:eS):Prop:=
 bU Y 157 f w λm w=>
 ak Y 269 [m,i] w λn w=>
 iU Y l [n] w λo w=>
 b6 o (
 g [] w) (
 bU Y 157 f w λp w=>
 dK Y 358 j 1 w λq w=>
 c4 Y 157 q p w λw=>
 b7 Y iA 3 ao af k (I X 1) w λr w=>
 h [r] w)
def JA(k:gk)(s:gk)(t l u v x:dl)(h:dl)(w:eS):Prop:=
 b7 Y n3 3 ao ao h v w λy w=>
 b6 y (
 fh Y 225 u h w λz w=>
 bU Y 159 z w λA w=>
 gM Y 159 w λm w=>
 c4 Y 159 m A w λw=>
 bG 1 5 (λi=>
 bE w λf w=>
 cW f w (λw g=>dK Y 358 l 1 w g) λB=>
 cW f w (λw g=>bU Y 157 B w g) λj=>
 cW f w (λw g=>bU Y 159 m w g) λn=>
 (
 ak Y 272 [n] w λo w=>f w/\
 (
 ak Y 271 [j,o] w λC w=>f w/\
 gM Y 157 w λp w=>f w/\
 c4 Y 157 p C w λw=>
 i [p] w)/\(
 gM Y 157 w λq w=>f w/\
 ak Y 271 [j,o] w λD w=>
 c4 Y 157 q D w λw=>
 i [q] w))/\(
 gM Y 157 w λr w=>f w/\
 ak Y 272 [n] w λE w=>f w/\
 ak Y 271 [j,E] w λF w=>
 c4 Y 157 r F w λw=>
 i [r] w)) λG _ w=>
 Qa k s t l h x (av G) w) (
 k [] w)
def P_(K:aU)(f g:dl)(w:eS):Prop:=
 dK Y 358 f 1 w λh w=>
 dK Y 157 h 0 w λi w=>
 bU Y 3 i w λj w=>
 dK Y 358 f 0 w λk w=>
 c4 Y 3 k j w λw=>
 bU Y 358 f w λl w=>
 c4 Y 358 g l w λw=>
 bU Y 358 g w λm n=>n=w/\K (a1 #[m,I X 0]) w
def P8(K:aU)(k f l m:dl)(n:dl)(w:eS):Prop:=
 bG 0 33 (λg=>
 q7 Y n 319 322 af w λh w=>
 e7 h 0 w λo w=>
 e7 h 1 w λp w=>
 b6 p (
 z_ o w λq w=>
 dK Y 409 q 0 w λr w=>
 bU Y 225 r w λi w=>
 cz Y j7 [225] 3 [i] w λs w=>
 ba [I X 0] 1 18 w λj _ w t=>
 JA g t k f i s l (av j) w) (
 g [] w)) λj _ w=>
 P_ K f m w
def P7(K:aU)(k i l m f:dl)(n:dl)(w:eS):Prop:=
 b6 n (
 fo Y 358 [] w λo w=>
 c4 Y 358 f o w λw=>
 bU Y 358 f w λp q=>q=w/\K (a1 #[p,I X 1]) w) (
 CU Y (hE 270) [] [m,k] w λj w=>
 fo Y 358 [] w λr w=>
 gM Y 358 w λg w=>
 c4 Y 358 g r w λw=>
 ak Y 192 [l] w λs w=>
 bG 1 41 (λt=>
 ba [s] 1 41 w λh _ w u=>
 Jz t u i g j (av h) w) λh _ w=>
 P8 K i g j f (av h) w)
def P6(K:aU)(l i n o:dl)(w:eS):Prop:=
 qb Y 3 n w λj w=>
 qb Y 3 o w λk w=>
 gM Y 358 w λp w=>
 ak Y 120 [l] w λq w=>
 gM Y 157 w λm w=>
 c4 Y 157 m q w λw=>
 bG 1 24 (λh=>
 bE w λg w=>
 cW g w (λw f=>b7 Y n3 3 ao af i (I X 0) w f) λr=>
 b6 r (
 h [ax af] w) (
 cW g w (λw f=>b7 Y .gtr 3 ao af i (I X 3) w f) λs=>
 b6 s (
 h [ax af] w) (
 cW g w (λw f=>bU Y 3 j w f) λt=>
 cW g w (λw f=>b7 Y n3 3 ao af t (I X 0) w f) λu=>
 b6 u (
 h [ax af] w) (
 cW g w (λw f=>bU Y 3 j w f) λv=>
 cW g w (λw f=>bU Y 157 m w f) λx=>
 ak Y 269 [x,i] w λy w=>g w/\
 cW g w (λw f=>b7 Y .gtr 3 ao ao v y w f) λz=>
 b6 z (
 h [ax af] w) (
 cW g w (λw f=>bU Y 3 k w f) λA=>
 cW g w (λw f=>b7 Y mb 3 ao af A (I X 0) w f) λB=>
 b6 B (
 cW g w (λw f=>bU Y 3 k w f) λC=>
 cW g w (λw f=>b7 Y mb 3 ao af C (I X 1) w f) λD=>
 h [D] w) (
 h [ax ao] w)))))) λE _ w=>
 P7 K k i l j p (av E) w
def ad3{K:aU}{f g h i:dl}{w:eS}(j:P6 K f g h i w):ak Y 189 [f,g,h,i] w K:=h_ func189 (.l .g (.l .g (.l (.J [50] (.E (up 3 0 (.q 2 (.skip 3 (.skip 4 (up 2 5 (.b8 6 af (.skip 7 (.skip 8 (up 2 9 (.b8 10 af (.skip 11 (.skip 12 (.skip 13 (.skip 14 (.skip 15 (up 2 16 (.b8 17 af (.skip 18 (.skip 19 (.skip 20 (.skip 21 (.skip 22 (.skip 23 (.op 24 .j)))))))))))))))))))))) (up 4 3 (.q 6 (.skip 7 (.skip 8 (up 2 9 (.b8 10 af (.skip 11 (.skip 12 (.skip 13 (.skip 14 (.skip 15 (up 2 16 (.b8 17 af (.skip 18 (.skip 19 (.skip 20 (.skip 21 (.skip 22 (.skip 23 (.op 24 .j)))))))))))))))))) (up 4 7 (.q 10 (.skip 11 (.skip 12 (.skip 13 (.skip 14 (.skip 15 (up 2 16 (.b8 17 af (.skip 18 (.skip 19 (.skip 20 (.skip 21 (.skip 22 (.skip 23 (.op 24 .j)))))))))))))) (up 7 11 (.q 17 (.skip 18 (.skip 19 (.skip 20 (.skip 21 (.skip 22 (.skip 23 (.op 24 .j))))))) (up 3 18 (.q 20 (up 4 21 .j) (.skip 21 (.skip 22 (up 2 23 .j)))))))))))))) .g) (.l .g (.l .g (.l .g (.J [13] (.A (.aw [13] (.l .g (.A (.l .g (.l .g (.l .g (.l .g (.l .g (.A (.aw [13,74] (.l .g (.l .g (.l (.A (.l .g (.J [18] (.E (up 3 0 (.en 3 (.en 4 (.op 5 (.bj 6 .j)) 5 (.bj 4 (.bj 6 .j))) 5 (.op 3 (.bj 4 (.bj 6 .j)))))) .g))) .g)))))))))))))) (.J [] (.l .g (.l .g (.ac (.l .g (.A (.aw [103] (.l .g (.l .g (.l (.A (.l .g (.J [23] (.E (up 3 0 (.en 3 (.en 4 (.op 5 (.bj 6 .j)) 5 (.bj 4 (.bj 6 .j))) 5 (.op 3 (.bj 4 (.bj 6 .j)))))) .g))) .g)))))) .g))) .g)))))))) j
def abo:=az K w [a,b] func190 F F .g
def Qc:=az K w [a] func191 F F .g
def JB:=az K w [a] func192 F F .g
def ad1:=az K w [a,b] func193 F F (f (.A (.l (.J [20] 8 (.F (up 3 0 (.q 2 (aA 5 3 (.op 8 .j)) (up 6 3 .j)))) .g) (f (f (.l (.A (.aw [1,6] 32 (.A (f (f (f (.A (.aw [1,6,36] 16 .g)))))))) .g))))))
def aam:=az K w [a] func194 F F .g
def aap:=az K w [a,b,c,d,e] func195 F F (f (.l (f (.J [24] 7 (.F (up 3 0 (.q 2 (up 5 3 .j) (aA 4 3 (.op 7 .j))))) (.ac (f (f (.l (.E (up 11 0 .j)) .g))) .g))) .g))
def ab8:=az K w [a] func196 F F (f (f (cf (.aw [4,13] 25 (f (f (.l (.A (f (.l (.l (.F (up 5 0 (.q 4 (aA 5 5 (up 2 10 (.b8 11 true (aA 4 12 (.op 16 .j))))) (up 7 5 (.q 11 (aA 4 12 (.op 16 .j)) (up 5 12 .j)))))) .g) .g))) .g)))) .g)))
def aca:=az K w [a,b] func197 F F (f (.l (.J [15] 8 (.E (up 3 0 (.q 2 (aA 5 3 (.op 8 .j)) (up 6 3 .j)))) .g) (f (.l (.F (up 3 0 (.q 2 (up 7 3 .j) (aA 5 3 (up 2 8 .j))))) .g))))
def aa0:=az K w [a] func199 F F (f (f (.l (.l (.F (up 4 0 (.q 3 (aA 3 4 (up 2 7 (.b8 8 true (aA 3 9 (up 2 12 (.b8 13 true (aA 3 14 (.op 17 .j)))))))) (up 5 4 (.q 8 (aA 3 9 (up 2 12 (.b8 13 true (aA 3 14 (.op 17 .j))))) (up 5 9 (.q 13 (aA 3 14 (.op 17 .j)) (up 4 14 .j)))))))) .g) .g)))
def aa4:=az K w [a,b] func200 F F (f (f (f (cf (.aw [9,32] 44 (f (f (.l (.A (f (.J [12] 13 (.E (ol [0,1,2,4,5,6,7,8,10] (.en 3 (.en 9 (.en 11 (up 2 12 (.bj 14 .j)) 13 (up 2 11 (.bj 14 .j))) 13 (ol [9,11,12] (.bj 14 .j))) 13 (ol [3,9,11,12] (.bj 14 .j))))) (f (.J [] 9 .g .g))))) .g)))) .g))))
def abp:=az K w [a,b] func201 F F (f (f (cf (.aw [5,6,17] 34 (f (f (.l (.A (f (f (.A (.aw [5,6,25] 22 .g))))) .g)))) (cf (.aw [11,50] 26 (f (f (.l (.A (f (f (.ac (.E (up 19 0 .j)) .g)))) .g)))) .g))))
def X_:=az K w [a,b] func202 F F .g
def abI:=az K w [a,b,c] func203 F F (f (f (.l (.l (.F (up 3 0 (.q 2 (aA 3 3 (.op 6 .j)) (up 4 3 .j)))) .g) (f (f (f (f (f (.l (.A (.aw [] 17 .g)) .g)))))))))
def abi:=az K w [a] func204 F F .g
def abF:=az K w [a,b,c,d] func205 F F (f (.l (.l (.F (up 3 0 (.q 2 (aA 3 3 (up 2 6 (.b8 7 true (aA 4 8 (.op 12 .j))))) (up 5 3 (.q 7 (aA 4 8 (.op 12 .j)) (up 5 8 .j)))))) .g) (f (f (f (f (.l (.A (.aw [] 8 .g)) (f (f (.J [16,17,14,15] 44 (.A (.aw [16,17,14,15] 44 (.J [] 20 (.l (.F (up 12 0 (.q 11 (up 3 12 (.q 14 (aA 3 15 (up 2 18 .j)) (up 5 15 .j))) (aA 7 12 (.op 19 .j))))) .g) .g))) .g))))))))))
def X5:=az K w [a,b,c] func206 F F .g
def abg:=az K w [a] func207 F F (f (cf (.aw [9] 59 (f (f (.l (.A (f (.l (.l (.E (up 5 0 (.q 4 (aA 4 5 (up 2 9 (.b8 10 true (aA 8 11 (.op 19 .j))))) (up 6 5 (.q 10 (aA 8 11 (.op 19 .j)) (ol [11,12,14,15,13,16,17,18,19] .j)))))) .g) (f (.l (.l (.F (up 10 0 (.q 9 (aA 2 10 (up 2 12 (.b8 13 true (aA 6 14 (.op 20 .j))))) (up 4 10 (.q 13 (aA 6 14 (.op 20 .j)) (up 3 14 (.q 16 (up 4 17 .j) (aA 2 17 (up 2 19 .j))))))))) .g) .g))))) .g)))) .g))
def abf:=az K w [a,b,c] func208 F F (f (.J [] 23 (.A (f (.ac .g (.l (.F (up 3 0 (.q 2 (aA 2 3 (up 2 5 (.b8 6 true (aA 6 7 (up 2 13 .j))))) (up 4 3 (.q 6 (aA 6 7 (up 2 13 .j)) (up 3 7 (.q 9 (up 5 10 .j) (aA 2 10 (up 3 12 .j))))))))) .g)))) (cf (.aw [8,32] 49 (f (f (.l (.A (f (.l (.A (f (.ac .g (.J [45] 9 (.F (up 6 0 (.q 5 (up 4 6 .j) (aA 2 6 (up 2 8 .j))))) .g)))) .g))) .g)))) .g)))
def aaz:=az K w [a] func209 F F .g
end
section
set_option maxRecDepth 10000
variable{K:aU}{w:eS}{a:dl}{b:dl}{c:dl}{d:dl}{e:dl}
def aeZ:=az K w [a,b,c,d] func210 F F (f (.l (.F (up 4 0 (.q 3 (up 5 4 (.q 8 (up 7 9 (.q 15 (up 11 16 .j) (aA 9 16 (up 2 25 .j)))) (aA 5 9 (up 2 14 (.b8 15 false (aA 9 16 (up 2 25 .j))))))) (aA 3 4 (up 2 7 (.b8 8 false (aA 5 9 (up 2 14 (.b8 15 false (aA 9 16 (up 2 25 .j))))))))))) .g))
def ae1:=az K w [a,b,c,d] func211 F F (f (.A (f (.l (.A (.aw [] 44 (.A (f (.J [10,11] 10 .g (f (.l (.E (up 4 0 (.oE (up 7 4 (.bj 11 .j))))) (.E (up 4 0 (.oE (up 7 4 (.bj 11 .j)))))))))))) (.l (.E (.op 0 (.oE (up 2 1 (.bj 3 .j))))) .g)))))
def abx:=az K w [a] func212 F F (f (f (.l (f (.ac (.l (.E (up 6 0 .j)) .g) .g)) (f (f (.l (f (.ac (.l (.E (up 6 0 .j)) .g) .g)) (f (.l (f (.ac (.l (.E (up 6 0 .j)) .g) .g)) .g))))))))
def abt:=az K w [a,b,c] func213 F F .g
def acn:=az K w [a,b,c] func214 F F (f (.l (.A (f (.ac .g (.l (.F (up 3 0 (.q 2 (aA 3 3 (up 2 6 (.b8 7 true (aA 10 8 (up 2 18 .j))))) (up 5 3 (.q 7 (aA 10 8 (up 2 18 .j)) (up 12 8 .j)))))) .g)))) (f (cf (.aw [8,10] 64 .g) .g))))
def abu:=az K w [a,b] func215 F F .g
def Z8:=az K w [a,b] func216 F F .g
def aa_:=az K w [a,b] func217 F F (f (cf (.aw [6,13] 22 .g) .g))
def aay:=az K w [a,b] func218 F F (f (.l (.E (ol [0,2,4] (.en 1 (.en 3 (up 7 5 .j) 5 (ol [3,6,7,8,9,10,11] .j)) 5 (ol [1,3,6,7,8,9,10,11] .j)))) .g))
def aaD:=az K w [a,b] func219 F F (f (.l (.l (.E (up 5 0 .j)) .g) .g))
def ab0:=az K w [a,b] func220 F F (f (f (cf (.aw [5,6] 21 (f (.J [5] 15 .g .g))) .g)))
def abc:=az K w [a,b] func221 F F (f (.l (.F (up 6 0 (.q 5 (aA 5 6 (up 2 11 .j)) (up 7 6 .j)))) .g))
def abr:=az K w [a] func222 F F (f (cf (.aw [8] 26 (f (f (.l (.A (f (.J [] 3 .g (.E (up 9 0 (.oE (up 8 9 (.bj 17 .j)))))))) .g)))) .g))
def abY:=az K w [a,b] func223 F F .g
def aaQ:=az K w [a,b,c] func224 F F (f (cf (.aw [24] 9 .g) (.l (f (.A (.aw [35] 19 .g))) (cf (.aw [15,53] 19 .g) .g))))
def Yl:=az K w [a,b,c] func225 F F (f (.l (.F (up 3 0 (.q 2 (up 5 3 (.q 7 (up 5 8 .j) (aA 3 8 (up 2 11 .j)))) (aA 3 3 (up 2 6 (.b8 7 false (aA 3 8 (up 2 11 .j)))))))) .g))
def Yt:=az K w [a] func226 F F (cf (.aw [9] 75 (f (f (.l (.A (f (.J [] 29 (.l (.F (up 5 0 (.q 4 (aA 4 5 (up 2 9 (.b8 10 true (aA 16 11 (.op 27 .j))))) (up 6 5 (.q 10 (aA 16 11 (.op 27 .j)) (up 8 11 (.q 18 (up 9 19 .j) (aA 7 19 (up 2 26 .j))))))))) .g) (f (.J [] 7 .g (f (.l (.F (up 3 0 (.q 2 (aA 9 3 (up 2 12 (.b8 13 true (aA 6 14 (.op 20 .j))))) (up 11 3 (.q 13 (aA 6 14 (.op 20 .j)) (up 3 14 (.q 16 (up 4 17 .j) (aA 2 17 (up 2 19 .j))))))))) .g))))))) .g)))) .g)
def Ys:=az K w [a,b,c] func227 F F (f (cf (.aw [7,12] 39 (f (f (.l (.A (f (.l (.J [27] 11 (.F (up 6 0 (.q 5 (up 6 6 .j) (aA 5 6 (.op 11 .j))))) .g) .g))) .g)))) .g))
def YP:=az K w [a] func228 F F (f (f (.J [3] 13 (.A (.aw [3] 13 (.l (.l (.F (up 5 0 (.q 4 (up 6 5 .j) (aA 5 5 (.op 10 .j))))) .g) .g))) .g)))
def YU:=az K w [a,b] func229 F F (f (f (cf (.aw [17] 10 .g) .g)))
def YQ:=az K w [a,b] func230 F F (f (f (f (f (cf (.aw [6,7] 9 (f (.J [6] 4 .g .g))) .g)))))
def Yi:=az K w [a,b] func231 F F .g
def aaZ:=az K w [a] func232 F F (f (.l (.F (up 3 0 (.q 2 (up 4 3 .j) (aA 2 3 (up 2 5 .j))))) .g))
def ad_:=az K w [a,b] func233 F F (f (f (.l (.A (f (.ac (f (f (.l (.E (up 18 0 .j)) .g))) (f (.ac (f (.l (.E (ol [0,1,2,3,4,5,6,8,9,10,11,12,7,13,14,15] .j)) .g)) .g))))) (.l (f (f (.ac (f (.l (.E (up 13 0 .j)) .g)) .g))) (.l (.E (up 13 0 .j)) .g)))))
def ad7:=az K w [a] func234 F F (f (cf (.aw [16] 15 (f (f (.l (.A (f (.E (up 10 0 (.bj 10 .j))))) .g)))) .g))
def aaW:=az K w [a] func235 F F (f (cf (.aw [8] 9 (f (f (.l (.A (f (.E (up 3 0 (.bj 3 (.bj 4 .j)))))) .g)))) .g))
def aeI:=az K w [a] func237 F F (f (.l (.F (up 3 0 (.q 2 (up 6 3 (.q 8 (up 3 9 (.q 11 (aA 2 12 (up 3 14 .j)) (up 5 12 .j))) (aA 6 9 (up 2 15 .j)))) (aA 4 3 (up 2 7 (.b8 8 false (aA 6 9 (up 2 15 .j)))))))) .g))
def ZJ:=az K w [a] func248 F F .g
def aeS:=az K w [a] func257 F F .g
def aeU:=az K w [a] func258 F F (f (.l (.E (up 7 0 (.bj 7 .j))) .g))
def abU:=az K w [a] func259 F F .g
def aeQ:=az K w [a] func260 F F .g
def Z0:=az K w [a] func261 F F .g
def ZY:=az K w [a] func262 F F .g
def aeN:=az K w [a,b,c] func263 F F .g
def OK(h:gk)(i:gk)(j k l:dl)(f g:dl)(w:eS):Prop:=
 b7 Y n3 3 ao ao g l w λm w=>
 b6 m (
 dK Y 206 j 3 w λn w=>
 bU Y 3 n w λo w=>
 fo Y 206 [(0,(I cc 32)),(1,(I X 4)),(2,(I X 1)),(3,o)] w λp w=>
 fR Y 112 1 [(0,p)] w λq w=>
 cz Y fT [112,112] 112 [f,q] w λr w=>
 b7 Y iA 3 ao af g (I X 1) w λs w=>
 i [r,s] w) (
 b7 Y iA 3 ao af k (I X 1) w λt w=>
 h [f,t] w)
def OI(k:gk)(h l m i:dl)(w:eS):Prop:=
 bU Y 206 h w λn w=>
 fR Y 112 1 [(0,n)] w λo w=>
 cz Y fT [112,112] 112 [l,o] w λp w=>
 bE w λg w=>
 cW g w (λw f=>fh Y 55 m i w f) λq=>
 cW g w (λw f=>bU Y 3 q w f) λr=>
 cW g w (λw f=>dK Y 206 h 2 w f) λs=>
 cW g w (λw f=>bU Y 3 s w f) λt=>
 cW g w (λw f=>b7 Y po 3 ao ao r t w f) λu=>
 ba [p,I X 0] 2 8 w λj _ w v=>
 OK k v h i u (av j) (av (bA j)) w
def IT(K:aU)(k:gk)(l h m:dl)(i g:dl)(w:eS):Prop:=
 b7 Y n3 3 ao ao g m w λn w=>
 b6 n (
 fh Y 112 l g w λo w=>
 bU Y 206 o w λp w=>
 gM Y 206 w λf w=>
 c4 Y 206 f p w λw=>
 fh Y 55 h g w λq w=>
 bU Y 3 q w λr w=>
 dK Y 206 f 2 w λs w=>
 c4 Y 3 s r w λw=>
 bG 0 4 (λj=>
 dK Y 206 f 0 w λt w=>
 bU Y 21 t w λu w=>
 b7 Y gZ 21 ao af u (I cc 9) w λv w=>
 b6 v (
 dK Y 206 f 2 w λx w=>
 c4 Y 3 x (I X 1) w λw=>
 j [] w) (
 j [] w)) λy _ w=>
 OI k f i h g w) (
 K (a1 #[i,I X 0]) w)
def OJ(K:aU)(m:gk)(n o f p q:dl)(h g:dl)(w:eS):Prop:=
 b7 Y n3 3 ao ao g q w λr w=>
 b6 r (
 fh Y 112 f g w λs w=>
 bU Y 206 s w λt w=>
 gM Y 206 w λi w=>
 c4 Y 206 i t w λw=>
 dK Y 206 i 0 w λu w=>
 bU Y 21 u w λv w=>
 fR Y 33 1 [(0,v)] w λx w=>
 cz Y fT [33,33] 33 [h,x] w λy w=>
 b7 Y iA 3 ao af g (I X 1) w λz w=>
 m [y,z] w) (
 ak Y 331 [n,h,o] w λj w=>
 e7 j 0 w λA w=>
 e7 j 1 w λk w=>
 b7 Y mb 45 ao af k (I X 0) w λB w=>
 b6 B (
 K (a1 #[aQ ac 0 0,k]) w) (
 Ab Y .not p w λC w=>
 b6 C (
 K (a1 #[aQ ac 0 0,I X 4]) w) (
 cz Y j7 [112] 3 [f] w λD w=>
 ba [aQ ac 0 0,I X 0] 2 37 w λl _ w E=>
 IT K E f A D (av l) (av (bA l)) w)))
def OH(K:aU)(i j k:dl)(w:eS):Prop:=
 ak Y 330 [j] w λf w=>
 e7 f 0 w λg w=>
 e7 f 1 w λl w=>
 cz Y j7 [112] 3 [g] w λm w=>
 ba [aQ ac 0 0,I X 0] 2 10 w λh _ w n=>
 OJ K n i k g l m (av h) (av (bA h)) w
def ZD{K:aU}{f g h:dl}{w:eS}(i:OH K f g h w):ak Y 264 [f,g,h] w K:=h_ func264 (.l .g (.l .g (.l .g (.l (.l .g (.A (.aw [10,25] .g))) (.l .g (.l .g (.l .g (.l (.l .g (.A (.aw [15,51] (.l .g (.l .g (.l (.A (.l .g (.l .g (.J [] .g (.l .g (.l (.E (up 8 0 .j)) (.A (.aw [15,76] .g)))))))) .g)))))) .g)))))))) i
def ae7:=az K w [a,b] func265 F F (f (f (cf (.aw [9,20] 9 .g) .g)))
def ab9:=az K w [a] func266 F F (f (cf (.aw [3,9] 15 .g) .g))
def aau:=az K w [a] func267 F F .g
def aaw:=az K w [a,b] func268 F F .g
def aed:=az K w [a,b] func269 F F .g
def ad2:=az K w [a,b,c] func270 F F (f (.l (.F (up 4 0 (.q 3 (aA 7 4 (up 2 11 .j)) (up 3 4 (.q 6 (up 6 7 .j) (aA 3 7 (up 3 10 .j))))))) .g))
def aaV:=az K w [a,b] func271 F F (f (cf (.aw [17] 16 (f (f (.l (.A (f (.E (up 12 0 (.bj 12 .j))))) .g)))) (.l (.J [47] 14 (.F (up 4 0 (.q 3 (up 4 4 (.q 7 (aA 5 8 (up 2 13 .j)) (up 7 8 .j))) (aA 10 4 (.op 14 .j))))) (.ac (.E (up 10 0 (.bj 10 .j))) .g)) .g)))
def aaY:=az K w [a] func272 F F .g
def ab5:=az K w [a,b] func273 F F (cf (.aw [8] 12 .g) .g)
def abn:=az K w [a,b] func274 F F .g
def abB:=az K w [a,b] func275 F F (f (f (.l (.l (.F (up 3 0 (.q 2 (aA 7 3 (.op 10 .j)) (up 8 3 .j)))) .g) .g)))
def abX:=az K w [a,b] func276 F F .g
def ab_:=az K w [a,b] func277 F F (f (.l (.F (up 5 0 (.q 4 (up 6 5 .j) (aA 4 5 (up 2 9 .j))))) .g))
def acd:=az K w [a,b] func278 F F (f (.A (.aw [1] 41 .g)))
def acf:=az K w [a,b,c] func279 F F .g
def ach:=az K w [a,b] func280 F F (f (f (cf (.aw [18] 18 (f (f (.l (.A (f (f (.E (up 8 0 (.bj 8 (.bj 9 .j))))))) .g)))) .g)))
def ae9:=az K w [a,b] func281 F F (f (f (f (cf (.aw [6,0,21] 23 (f (f (.l (.A (f (f (.J [10] 2 .g .g)))) .g)))) .g))))
def aa5:=az K w [a,b] func282 F F (cf (.aw [9] 11 .g) .g)
def aa3:=az K w [a] func283 F F .g
def ZF:=az K w [a] func284 F F (f (cf (.aw [3,8] 9 .g) .g))
def abA:=az K w [a,b] func285 F F (f (f (f (.l (.E (up 14 0 .j)) .g))))
def ZE:=az K w [a] func286 F F (f (cf (.aw [3,9] 35 (f (f (.l (.A (f (f (.J [6] 21 (f (.A (.J [16] 2 .g (.ac .g (f (.ac (.E (up 3 0 (.q 2 (aA 9 3 (up 2 12 .j)) (up 11 3 .j)))) .g)))))) .g)))) .g)))) .g))
def X7:=az K w [a,b] func287 F F (f (f (cf (.aw [5,13] 31 (f (f (.l (.A (f (.l (.A (.J [17] 16 (.F (up 4 0 (.q 3 (aA 5 4 (up 2 9 (.b8 10 true (aA 4 11 (up 2 15 .j))))) (up 7 4 (.q 10 (aA 4 11 (up 2 15 .j)) (up 6 11 .j)))))) .g)) .g))) .g)))) .g)))
def X9:=az K w [a] func288 F F (f (cf (.aw [3,8] 16 (f (f (.l (.A (f (.E (ol [0,1,2,4,5,6,7,8,3,9,10,11] .j)))) .g)))) .g))
def acy:=az K w [a,b] func290 F F .g
def abQ:=az K w [a] func291 F F .g
def abO:=az K w [a] func293 F F (f (f (f (.l (.E (ol [0,2,1] (.bj 3 (.bj 4 (.bj 5 .j))))) .g))))
def ad4:=az K w [a,b,c,d] func294 F F (f (f (.l (.l (.F (up 3 0 (.q 2 (aA 3 3 (up 2 6 (.b8 7 true (aA 3 8 (.op 11 .j))))) (up 5 3 (.q 7 (aA 3 8 (.op 11 .j)) (up 4 8 .j)))))) .g) .g)))
def abj:=az K w [a] func295 F F (f (.l (.F (up 4 0 (.q 3 (up 7 4 (.q 10 (up 5 11 .j) (aA 3 11 (up 2 14 .j)))) (aA 5 4 (up 2 9 (.b8 10 false (aA 3 11 (up 2 14 .j)))))))) .g))
def ae2:=az K w [a,b] func296 F F (f (.l (.F (up 4 0 (.q 3 (up 7 4 (.q 10 (up 6 11 .j) (aA 4 11 (up 2 15 .j)))) (aA 5 4 (up 2 9 (.b8 10 false (aA 4 11 (up 2 15 .j)))))))) .g))
def ae5:=az K w [a,b] func297 F F (cf (.aw [12] 53 (f (f (.l (.A (f (f (.J [8] 17 (.J [27] 11 (.F (up 6 0 (.q 5 (up 6 6 .j) (aA 5 6 (.op 11 .j))))) .g) (.J [9] 17 (.J [44] 11 (.F (up 6 0 (.q 5 (up 6 6 .j) (aA 5 6 (.op 11 .j))))) .g) (.J [55] 5 (.F (up 3 0 (.q 2 (aA 2 3 (.op 5 .j)) (up 3 3 .j)))) .g)))))) .g)))) .g)
def abv:=az K w [a] func298 F F (f (f (f (f (.l (.E (ol [0,1,2,3,4,5,7,8,9,11,12,13,14,6,10,15,16,17,18,19,20,21] .j)) .g)))))
def abw:=az K w [a] func299 F F (f (f (.J [6] 11 (.E (up 9 0 (.en 9 (up 2 10 (.bj 12 .j)) 11 (up 2 9 (.bj 12 .j))))) (f (f (f (f (f (f (.l (.E (up 8 0 (.bj 8 .j))) .g))))))))))
def aci:=az K w [a,b,c] func300 F F .g
def aan:=az K w [a,b,c,d] func301 F F .g
def acp:=az K w [a,b] func302 F F (f (f (f (f (f (.l (.l (.F (up 6 0 (.q 5 (aA 3 6 (up 2 9 (.b8 10 true (aA 4 11 (up 2 15 (.b8 16 true (aA 4 17 (.op 21 .j)))))))) (up 5 6 (.q 10 (aA 4 11 (up 2 15 (.b8 16 true (aA 4 17 (.op 21 .j))))) (up 6 11 (.q 16 (aA 4 17 (.op 21 .j)) (up 5 17 .j)))))))) .g) .g))))))
def aak:=az K w [a,b] func303 F F .g
def Z5:=az K w [a] func304 F F .g
def Z4:=az K w [a,b] func305 F F .g
def Z7:=az K w [a] func306 F F .g
def Z6:=az K w [a,b] func307 F F .g
def aaa:=az K w [a,b,c] func308 F F (f (f (.l (.A (.aw [7] 14 (.l (.l (.F (up 4 0 (.q 3 (up 8 4 .j) (aA 7 4 (.op 11 .j))))) .g) .g))) .g)))
def aaC:=az K w [a,b] func309 F F (f (.l (.F (up 6 0 (.q 5 (up 7 6 .j) (aA 5 6 (up 2 11 .j))))) .g))
def ab4:=az K w [a,b] func310 F F (cf (.aw [8] 12 .g) .g)
def ab6:=az K w [a,b] func311 F F (cf (.aw [8] 12 .g) .g)
def Yv:=az K w [a] func312 F F (f (.l (.F (up 4 0 (.q 3 (up 7 4 (.q 10 (up 5 11 .j) (aA 3 11 (up 2 14 .j)))) (aA 5 4 (up 2 9 (.b8 10 false (aA 3 11 (up 2 14 .j)))))))) .g))
def YS:=az K w [a] func313 F F (f (.l (.F (up 4 0 (.q 3 (aA 3 4 (up 2 7 .j)) (up 5 4 .j)))) .g))
def YT:=az K w [a,b] func314 F F (f (f (.J [5] 15 (.A (.aw [5] 15 (.l (.l (.F (up 5 0 (.q 4 (up 8 5 .j) (aA 7 5 (.op 12 .j))))) .g) .g))) (.l (f (.ac (f (.A (.aw [5] 14 (.l (.l (.F (up 5 0 (.q 4 (up 7 5 .j) (aA 6 5 (.op 11 .j))))) .g) .g)))) .g)) .g))))
def YO:=az K w [a,b] func315 F F (f (.l (.F (up 3 0 (.q 2 (up 6 3 (.q 8 (up 8 9 (.q 16 (up 8 17 (.q 24 (up 8 25 .j) (aA 6 25 (up 2 31 .j)))) (aA 6 17 (up 2 23 (.b8 24 false (aA 6 25 (up 2 31 .j))))))) (aA 6 9 (up 2 15 (.b8 16 false (aA 6 17 (up 2 23 (.b8 24 false (aA 6 25 (up 2 31 .j)))))))))) (aA 4 3 (up 2 7 (.b8 8 false (aA 6 9 (up 2 15 (.b8 16 false (aA 6 17 (up 2 23 (.b8 24 false (aA 6 25 (up 2 31 .j)))))))))))))) .g))
def Yj:=az K w [a,b] func316 F F (cf (.aw [9] 16 (f (f (.l (.A (f (.l (.F (up 5 0 (.q 4 (up 5 5 .j) (aA 4 5 (.op 9 .j))))) .g))) .g)))) .g)
def ad6:=az K w [a] func317 F F .g
def aeb:=az K w [a] func318 F F (f (f (f (.l (.E (ol [0,1,2,3,6,7,8,4,5,9,10,11,12] .j)) .g))))
def aea:=az K w [a,b] func319 F F .g
def aee:=az K w [a] func320 F F (f (f (f (.l (.E (ol [0,1,2,3,6,7,8,4,5,9,10,11,12] .j)) .g))))
def ZG:=az K w [a] func330 F F (f (cf (.aw [4,12] 50 (f (f (.l (.A (f (f (f (.A (.l (.A (.l (.A (.J [7] 6 .g (.l (f (.A (.aw [4,27] 20 .g))) .g))) .g)) .g)))))) .g)))) .g))
def acu:=az K w [a,b,c] func331 F F .g
def aeH:=az K w [a,b] func332 F F (f (.l (.l (.F (up 3 0 (.q 2 (aA 4 3 (.op 7 .j)) (up 5 3 .j)))) .g) (cf (.aw [6] 13 .g) .g)))
def IU(h:gk)(i:gk)(j f:dl)(g:dl)(w:eS):Prop:=
 b7 Y gZ 3 ao ao g j w λk w=>
 b6 k (
 h [f] w) (
 i [f,g] w)
def OQ(f:gk)(k:gk)(l m:dl)(g h:dl)(w:eS):Prop:=
 x0 Y m af 0 w λi w=>
 e7 i 0 w λn w=>
 b6 n (
 e7 i 2 w λo w=>
 b7 Y iA 3 ao af g (I X 1) w λp w=>
 bG 1 4 (λj=>
 b7 Y gZ 21 ao af o (I cc 10) w λq w=>
 b6 q (
 b7 Y iA 3 ao af h (I X 1) w λr w=>
 j [r] w) (
 j [h] w)) λs _ w=>
 IU f k l p (av s) w) (
 f [g] w)
def OP(K:aU)(f:dl)(w:eS):Prop:=
 K (a1 #[f,I X 0]) w
def OO(K:aU)(m j:dl)(w:eS):Prop:=
 b7 Y gZ 3 ao af j (I X 0) w λn w=>
 b6 n (
 K (a1 #[I X 0,I X 0]) w) (
 ak Y 64 [m,I X 2,j,I X 0] w λk w=>
 e7 k 0 w λo w=>
 e7 k 1 w λF w=>
 e7 k 2 w λl w=>
 gM Y 161 w λh w=>
 c4 Y 161 h o w λw=>
 b7 Y mb 45 ao af l (I X 0) w λp w=>
 b6 p (
 K (a1 #[I X 0,l]) w) (
 bE w λg w=>
 cW g w (λw f=>dK Y 161 h 0 w f) λq=>
 cW g w (λw f=>dK Y 157 q 1 w f) λr=>
 cW g w (λw f=>fh Y 155 r (I X 1) w f) λs=>
 cW g w (λw f=>bU Y 3 s w f) λt=>
 cW g w (λw f=>dK Y 161 h 0 w f) λu=>
 cW g w (λw f=>dK Y 157 u 1 w f) λv=>
 cW g w (λw f=>fh Y 155 v (I X 2) w f) λx=>
 cW g w (λw f=>bU Y 3 x w f) λy=>
 bG 1 18 (λz=>
 dK Y 161 h 1 w λA w=>
 dK Y 159 A 4 w λB w=>
 bU Y 9 B w λC w=>
 GV Y 9 C w λD w=>
 ba [t,y] 2 13 w λi _ w E=>
 OQ z E j D (av i) (av (bA i)) w) λi _ w=>
 OP K (av i) w))
def abC{K:aU}{f g:dl}{w:eS}(h:OO K f g w):ak Y 333 [f,g] w K:=h_ func333 (.l .g (.l .g (.l .g (.l .g (.l (.E (up 10 0 .j)) (.J [9] (.l .g (.A (.aw [9,10] (.l .g (.l .g (.A (.l .g (.l .g (.J [10] .g .g))))))))) .g)))))) h
def acb:=az K w [a,b] func334 F F (f (.l (.F (up 5 0 (.q 4 (up 6 5 .j) (aA 4 5 (up 2 9 .j))))) .g))
def ace:=az K w [a,b,c,d] func335 F F (.l (f (.A (.aw [10] 30 (f (f (.l (.A (f (.l (.l (.F (up 5 0 (.q 4 (aA 4 5 (.op 9 .j)) (up 5 5 .j)))) .g) (.l (.l (.F (up 8 0 (.q 7 (aA 4 8 (.op 12 .j)) (up 5 8 .j)))) .g) .g)))) .g)))))) .g)
def acg:=az K w [a,b,c,d] func336 F F (f (.ac (f (.l (.E (up 7 0 (.bj 7 (.bj 8 .j)))) .g)) .g))
def aaS:=az K w [a,b,c] func337 F F .g
def afa:=az K w [a] func338 F F (f (.l (.F (up 3 0 (.q 2 (up 4 3 .j) (aA 2 3 (up 2 5 .j))))) .g))
def ae8:=az K w [a,b] func339 F F (f (f (.l (.l (.F (up 4 0 (.q 3 (aA 4 4 (.op 8 .j)) (up 5 4 .j)))) .g) .g)))
def afb:=az K w [a,b] func340 F F .g
def ae_:=az K w [a,b] func341 F F (f (cf (.aw [5,7] 10 .g) .g))
def abW:=az K w [a,b] func342 F F .g
def aa2:=az K w [a] func343 F F .g
def acz:=az K w [a] func345 F F .g
def JC:=az K w [a,b] func346 F F (cf (f (.ac (f (f (.l (.E (ol [0,1,2,3,4,5,6,9,10,11,12,13,14,7,8,15,16,17,18] .j)) .g))) (f (.ac (cf (.aw [1,57] 47 (f (f (.l (.A (f (f (.l (f (.ac (f (.l (.E (ol [0,1,2,3,4,5,6,8,10,11,12,13,14,15,16,17,7,9,18,19,20,21] .j)) .g)) .g)) .g)))) .g)))) .g) .g)))) .g)
def aeP:=az K w [a,b,c,d] func347 F F (f (f (.l (.l (.E (up 5 0 (.q 4 (aA 5 5 (up 2 10 (.b8 11 true (aA 5 12 (up 2 17 (.b8 18 true (aA 10 19 (.op 29 .j)))))))) (up 7 5 (.q 11 (aA 5 12 (up 2 17 (.b8 18 true (aA 10 19 (.op 29 .j))))) (up 7 12 (.q 18 (aA 10 19 (.op 29 .j)) (ol [19,20,21,22,23,25,26,24,27,28,29] .j)))))))) .g) (.J [12] 9 (.E (ol [0,2,3] (.en 1 (.en 4 (up 6 5 .j) 8 (ol [4,5,6,7,9,10] .j)) 8 (ol [1,4,5,6,7,9,10] .j)))) (.J [14] 9 (.E (ol [0,2,3] (.en 1 (.en 4 (up 6 5 .j) 8 (ol [4,5,6,7,9,10] .j)) 8 (ol [1,4,5,6,7,9,10] .j)))) (.l (.E (up 6 0 .j)) (.l (.E (up 8 0 .j)) (.J [17,19] 26 .g (.l (.E (ol [0,2,3,4,5,6,7,8,9,10,11,12,1,13,14,15,16,17,18,19,20] .j)) .g)))))))))
def ZS:=az K w [a,b,c,d,e] func348 F F (f (f (f (.l (.l (.F (up 5 0 (.q 4 (aA 4 5 (up 2 9 (.b8 10 true (aA 4 11 (up 2 15 (.b8 16 true (aA 5 17 (up 2 22 (.b8 23 true (aA 9 24 (.op 33 .j))))))))))) (up 6 5 (.q 10 (aA 4 11 (up 2 15 (.b8 16 true (aA 5 17 (up 2 22 (.b8 23 true (aA 9 24 (.op 33 .j)))))))) (up 6 11 (.q 16 (aA 5 17 (up 2 22 (.b8 23 true (aA 9 24 (.op 33 .j))))) (up 7 17 (.q 23 (aA 9 24 (.op 33 .j)) (up 10 24 .j)))))))))) .g) (.l (.E (ol [0,1,3,2,4,5,6,7,8,9] .j)) (f (.l (.l (.F (up 3 0 (.q 2 (aA 2 3 (.op 5 .j)) (up 3 3 .j)))) .g) (.l (.E (ol [0,2,3,4,5,6,7,8,1,9,10,11,12,13,14,15] .j)) .g))))))))
def aby:=az K w [a,b] func349 F F .g
def ae0:=az K w [a,b] func350 F F (f (f (.A (.aw [1] 37 .g))))
def aeY:=az K w [a,b] func351 F F (f (f (.A (.aw [1] 42 .g))))
def ZR:=az K w [a] func352 F F (f (f (.l (.E (up 8 0 .j)) .g)))
def Z9:=az K w [a,b] func353 F F (f (.l (.F (up 6 0 (.q 5 (up 7 6 (.q 12 (up 7 13 (.q 19 (up 7 20 .j) (aA 5 20 (up 2 25 .j)))) (aA 5 13 (up 2 18 (.b8 19 false (aA 5 20 (up 2 25 .j))))))) (aA 5 6 (up 2 11 (.b8 12 false (aA 5 13 (up 2 18 (.b8 19 false (aA 5 20 (up 2 25 .j))))))))))) .g))
def acw:=az K w [a] func360 F F (f (.l (.F (up 3 0 (.q 2 (up 4 3 .j) (aA 2 3 (up 2 5 .j))))) .g))
def acv:=az K w [a,b,c,d] func361 F F (cf (.aw [8,14] 22 .g) .g)
def OU:=az K w [a,b,c,d,e] func362 F F .g
end
section
set_option maxRecDepth 10000
variable{K:aU}{w:eS}{a:dl}{b:dl}{c:dl}{d:dl}{e:dl}
def abZ:=az K w [a,b] func363 F F (f (f (cf (.aw [5,6] 21 (f (.J [5] 15 .g .g))) .g)))
def aaR:=az K w [a,b,c] func364 F F (f (.l (.F (up 5 0 (.q 4 (aA 4 5 (up 2 9 .j)) (up 6 5 .j)))) .g))
def Zv:=az K w [a] func365 F F (f (f (.J [3] 20 (f (.A (.aw [3,8] 16 (f (f (.l (.A (f (.l (.l (.F (up 4 0 (.q 3 (aA 2 4 (.op 6 .j)) (up 3 4 .j)))) .g) .g))) .g)))))) .g)))
def ab2:=az K w [a,b] func367 F F (cf (.aw [8] 12 .g) .g)
def aec:=az K w [a] func371 F F .g
def aeR:=az K w [a,b] func372 F F (f (.l (.F (up 4 0 (.q 3 (up 7 4 (.q 10 (up 6 11 .j) (aA 4 11 (up 2 15 .j)))) (aA 5 4 (up 2 9 (.b8 10 false (aA 4 11 (up 2 15 .j)))))))) .g))
def ZX:=az K w [a,b] func373 F F (f (.l (.F (up 4 0 (.q 3 (up 7 4 (.q 10 (up 6 11 .j) (aA 4 11 (up 2 15 .j)))) (aA 5 4 (up 2 9 (.b8 10 false (aA 4 11 (up 2 15 .j)))))))) .g))
def Z3:=az K w [a,b] func374 F F (f (cf (.aw [6,11] 33 (f (f (.l (.A (f (.l (.l (.F (up 5 0 (.q 4 (aA 4 5 (.op 9 .j)) (up 5 5 .j)))) .g) (.J [36] 11 (.F (up 6 0 (.q 5 (up 6 6 .j) (aA 5 6 (.op 11 .j))))) .g)))) .g)))) .g))
def ZT:=az K w [a,b,c] func375 F F (f (f (.J [10] 9 (.E (ol [0,2,3] (.en 1 (.en 4 (up 6 5 .j) 8 (ol [4,5,6,7,9,10] .j)) 8 (ol [1,4,5,6,7,9,10] .j)))) (f (.J [6,7,9] 46 (f (f (.ac (f (.A (f (.ac .g (f (.ac (.l (.E (up 5 0 .j)) .g) .g)))))) .g))) (.J [15] 9 (.E (ol [0,2,3] (.en 1 (.en 4 (up 6 5 .j) 8 (ol [4,5,6,7,9,10] .j)) 8 (ol [1,4,5,6,7,9,10] .j)))) (f (.J [7,6,9] 46 (f (f (.ac (f (.A (f (.ac .g (f (.ac (.l (.E (up 5 0 .j)) .g) .g)))))) .g))) (.l (.E (up 9 0 .j)) .g)))))))))
def ZU:=az K w [a] func376 F F .g
def ae6:=az K w [a,b] func377 F F (f (f (.l (.l (.F (up 3 0 (.q 2 (aA 5 3 (.op 8 .j)) (up 6 3 .j)))) .g) .g)))
def ae4:=az K w [a,b] func378 F F .g
def ab1:=az K w [a,b,c] func379 F F (f (cf (.aw [17] 18 .g) .g))
def Z_:=az K w [a,b] func380 F F .g
def acx:=az K w [a,b,c,d] func383 F F .g
def ab3:=az K w [a,b] func384 F F (cf (.aw [8] 12 .g) .g)
def ZC:=az K w [a] func385 F F (f (.l (.F (up 4 0 (.q 3 (aA 3 4 (up 2 7 .j)) (up 5 4 .j)))) .g))
def ZA:=az K w [a,b,c] func386 F F .g
def ZW:=az K w [a,b] func387 F F (f (.l (.F (up 5 0 (.q 4 (up 6 5 .j) (aA 4 5 (up 2 9 .j))))) .g))
def ae3:=az K w [a,b] func388 F F (f (.l (.F (up 5 0 (.q 4 (up 6 5 .j) (aA 4 5 (up 2 9 .j))))) .g))
def aeW:=az K w [a,b] func389 F F .g
def Zz:=az K w [a,b,c,d] func390 F F (f (.A (.aw [5] 12 .g)))
def ZB:=az K w [a,b] func391 F F (f (cf (.aw [15] 10 .g) .g))
def Zw:=az K w [a,b] func392 F F (f (f (f (cf (.aw [6] 9 .g) .g))))
def aeX:=az K w [a,b] func393 F F (f (.A (f (f (f (.l (.A (.aw [6,5,7] 27 .g)) .g))))))
def Zy:=az K w [a,b] func394 F F (f (f (.J [5] 25 (.A (.aw [6,5] 24 (.l (.l (.F (up 5 0 (.q 4 (up 10 5 .j) (aA 9 5 (.op 14 .j))))) .g) .g))) (f (f (.l (.A (.aw [5] 14 (.l (.l (.F (up 5 0 (.q 4 (up 7 5 .j) (aA 6 5 (.op 11 .j))))) .g) .g))) .g))))))
def Zx:=az K w [a,b] func395 F F (f (.l (.F (up 3 0 (.q 2 (up 6 3 (.q 8 (up 8 9 (.q 16 (up 8 17 (.q 24 (up 8 25 .j) (aA 6 25 (up 2 31 .j)))) (aA 6 17 (up 2 23 (.b8 24 false (aA 6 25 (up 2 31 .j))))))) (aA 6 9 (up 2 15 (.b8 16 false (aA 6 17 (up 2 23 (.b8 24 false (aA 6 25 (up 2 31 .j)))))))))) (aA 4 3 (up 2 7 (.b8 8 false (aA 6 9 (up 2 15 (.b8 16 false (aA 6 17 (up 2 23 (.b8 24 false (aA 6 25 (up 2 31 .j)))))))))))))) .g))
end
end
section
open Go.RowKit
variable{i:Nat}
def gp{α:Type}{l:List α}{x:α}(h:l[i]? =J x):l.take (i+1)=l.take i++[x]:=by rw[List.take_add_one,h];rfl
def jw{α:Type}{a:List α}{x:α}(h:a[i]? =J x):a.drop i=x::a.drop (i+1):=by obtain⟨b,c⟩:=dS.1 h;rw[Dw b,c]
def Ae{α:Type}{a:List α->Prop}(dd:a [])(h1:∀L b,a L->a (L++[b]))(L:List α):a L:=by
 rw[<-List.reverse_reverse L]
 induction L.reverse with
 |nil=>exact dd
 |cons b c ih=>rw[List.reverse_cons];exact h1 _ b ih
structure bT where
 cG:Int
 G:Int
 bH:Int
 dC:Int
 dY:Int
 ds:Int
 c5:ByteArray
def cq(x:bT):List Value:=[I X x.cG,I X x.G,I X x.bH,I X x.dC,I X x.dY,I X x.ds,lO x.c5]
def fe:eR cq 7:=⟨λ_=>F,λb c a=>by simp[cq]at a;rcases a with rfl|rfl|rfl|rfl|rfl|rfl|rfl<;>rfl⟩
structure gP where
 z:Int
 bH:Int
 dC:Int
 dY:Int
 ds:Int
 C:Int
def br(a:gP):List Value:=[I X a.z,I X a.bH,I X a.dC,I X a.dY,I X a.ds,I X a.C]
def kD(c:gP):∀a∈br c,a.oneCell' =true:=λa b=>by simp[br]at b;rcases b with rfl|rfl|rfl|rfl|rfl|rfl<;>rfl
abbrev hx(n:Int):Prop:=0<=n/\n<=1099511627776
abbrev fz(a:bT):Prop:=hx a.bH/\hx a.dC/\hx a.dY/\hx a.ds
def fY(a:bT):gP:=⟨1,a.bH,a.dC,a.dY,a.ds,0⟩
abbrev st(a b:gP):Prop:=0<b.z/\(a.z=0\/a.ds<b.ds)
abbrev ab(n:Int):Int:=X.wrap n
def Ao(a:Int):ab a=if a%18446744073709551616>=9223372036854775808 then a%18446744073709551616-18446744073709551616 else a%18446744073709551616:=by have b:X.bits=64:=rfl;have c:X.signed=true:=rfl;unfold ab IntKind.wrap;rw[b,c];simp
variable{t:Int}
def tk(a:pA t):ab t=t:=HI _ a
def Hs(a b:Int):ab (ab a+b)=ab (a+b):=by rw[Ao,Ao,Ao];split<;>split<;>split<;>omega
def MY(a b:Int):ab (a+ab b)=ab (a+b):=by rw[Ao,Ao,Ao];split<;>split<;>split<;>omega
def MZ(a:Int):ab (ab a)=ab a:=by have:=Hs a 0;simpa using this
def eM(a b:gP):gP:=⟨a.z+b.z,ab (a.bH+b.bH),ab (a.dC+b.dC),ab (a.dY+b.dY),if st a b then b.ds else a.ds,if st a b then a.z+b.C else a.C⟩
def eZ:gP:=⟨0,0,0,0,0,0⟩
def aT(L:List bT):gP:=L.foldl (λa b=>eM a (fY b)) eZ
def afp:aT []=eZ:=rfl
def qP(L:List bT)(a:bT):aT (L++[a])=eM (aT L) (fY a):=by simp[aT]
def pZ(a:List bT):(aT a).z=a.length:=by
 induction a using Ae with
 |dd=>rfl
 |h1 a b ih=>rw[qP];simp[eM,fY,ih]
def gP.h{p q:gP}(a:p.z=q.z)(b:p.bH=q.bH)(c:p.dC=q.dC)(d:p.dY=q.dY)(e:p.ds=q.ds)(f:p.C=q.C):p=q:=by cases p;cases q;simp at a b c d e f;rw[a,b,c,d,e,f]
def aff(a b c:gP)(d:0<=a.z)(e:0<=b.z)(f:0<c.z):eM (eM a b) c=eM a (eM b c):=by
 apply gP.h<;>simp only [eM,st]
 ·omega
 ·rw[Hs,MY,Dy]
 ·rw[Hs,MY,Dy]
 ·rw[Hs,MY,Dy]
 ·repeat' split
  all_goals omega
 ·repeat' split
  all_goals omega
structure IL (s:gP):Prop where
 bH:ab s.bH=s.bH
 dC:ab s.dC=s.dC
 dY:ab s.dY=s.dY
def afh(a b:gP):IL (eM a b):=⟨MZ _,MZ _,MZ _⟩
def afq(a:List bT):IL (aT a):=by
 induction a using Ae with
 |dd=>exact⟨F,F,F⟩
 |h1 a b ih=>rw[qP];exact afh _ _
def afi{x:gP}(a:IL x):eM x eZ=x:=by
 apply gP.h<;>simp[eM,eZ,st]
 ·exact a.bH
 ·exact a.dC
 ·exact a.dY
def QB(b a:List bT):aT (b++a)=eM (aT b) (aT a):=by
 induction a using Ae with
 |dd=>rw[cT,afp,afi (afq b)]
 |h1 a c ih=>
  rw[<-cX,qP,qP,ih,aff]
  ·rw[pZ];omega
  ·rw[pZ];omega
  ·simp[fY]
def afg(a b:gP):(eM a b).ds=b.ds\/(eM a b).ds=a.ds:=by unfold eM;dsimp only;split<;>simp
def Qv(a b:gP):(eM a b).C=a.z+b.C\/(eM a b).C=a.C:=by unfold eM;dsimp only;split<;>simp
structure IK (s:gP) (m:Nat):Prop where
 z:s.z=m
 bH:0<=s.bH/\s.bH<=1099511627776*m
 dC:0<=s.dC/\s.dC<=1099511627776*m
 dY:0<=s.dY/\s.dY<=1099511627776*m
 ds:hx s.ds
 C:0<=s.C/\s.C<=m
variable{L:List bT}
def Bw(f:L.length<=1000000)(e:∀a∈L,fz a):IK (aT L) L.length:=by
 induction L using Ae with
 |dd=>exact⟨F,by simp[aT,eZ],by simp[aT,eZ],by simp[aT,eZ],⟨by simp[aT,eZ],by simp[aT,eZ]⟩,by simp[aT,eZ]⟩
 |h1 L a ih=>
  rw[bf,oK]at f;have b:=ih G λg h=>e g (by simp[h]);obtain⟨dd,h1,k,i⟩:=e a ae;have l:=b.z;have m:=b.bH;have n:=b.dC;have o:=b.dY;have j:=b.ds;have p:=b.C;rw[qP];have c:(L++[a]).length=L.length+1:=ae;refine⟨?_,?_,?_,?_,?_,?_⟩
  ·simp only [eM,fY,c];omega
  ·simp only [eM,fY,c];rw[tk ⟨G,G⟩];omega
  ·simp only [eM,fY,c];rw[tk ⟨G,G⟩];omega
  ·simp only [eM,fY,c];rw[tk ⟨G,G⟩];omega
  ·rcases afg (aT L) (fY a)with d|d<;>rw[d]
   ·exact i
   ·exact j
  ·rcases Qv (aT L) (fY a)with d|d<;>rw[d,c]
   ·simp only [fY];omega
   ·omega
structure qu (a b:gP):Prop where
 z:pA (a.z+b.z)
 C:pA (a.z+b.C)
def afn(a:List bT):0<=(aT a).C/\(aT a).C<=a.length:=by
 induction a using Ae with
 |dd=>simp[aT,eZ]
 |h1 a c ih=>
  have:=pZ a;rw[qP,bf,oK];rcases Qv (aT a) (fY c)with b|b<;>rw[b]
  ·simp only [fY];omega
  ·omega
def qu.aR{x e:List bT}(a:x.length<=2000000)(b:e.length<=2000000):qu (aT x) (aT e):=by have c:=pZ x;have d:=pZ e;have f:=afn e;exact⟨⟨G,G⟩,⟨G,G⟩⟩
def qu.B(a:L.length<=2000000)(y:bT):qu (aT L) (fY y):=by have b:=pZ L;have c:(fY y).z=1:=rfl;have d:(fY y).C=0:=rfl;exact⟨⟨G,G⟩,⟨G,G⟩⟩
variable{x:aa}
def Wo(a:Int):ak Y 232 [I X a] x λc d=>d=x/\c=ax (decide (hx a)):=by
 apply aaZ;rw[eE,ai];refine⟨λb=>?_,λb=>⟨F,?_⟩⟩
 ·rw[fg];exact⟨F,by simp[b]⟩
 ·have:¬hx a:=λe=>b e.1;simp[this]
def af5(a:bT):ak Y 164 [al (cq a).toArray] x λk t=>O x t/\∃l:Int,k=I X l/\((fz a/\l=0)\/(¬fz a/\l=1)):=by
 apply aaX;refine bd (S:=cq a) F λe A B C v o=>?_;rw[aj Ps,aM E (o.b.f 5 F)];refine(Wo a.ds).o ?_;rintro k D ⟨rfl,rfl⟩;rw[aj tJ,aF (S:=[I X a.bH,I X a.dC,I X a.dY]) u6 (o.b.sub 2 3) F];refine ba.y (λf p=>O x p/\∃(i:Nat) (h:Bool),f=[ax h,I X i]/\i<=3/\(h=af↔hx a.ds/\(0<i->hx a.bH)/\(1<i->hx a.dC)/\(2<i->hx a.dY)))
  (λf _=>match f with|[_,I _ d]=>(3-d).toNat|_=>0) ⟨v,0,_,F,G,ae⟩ ?_
 rintro f H p ⟨j,i,h,rfl,K,m⟩;rw[av,bA,av,aR,ai];refine⟨λq=>?_,λL=>?_⟩
 ·obtain⟨c,w,r⟩:∃c:Int,[a.bH,a.dC,a.dY][i]? =J c/\((hx a.ds/\(0<i+1->hx a.bH)/\(1<i+1->hx a.dC)/\(2<i+1->hx a.dY))↔(hx a.ds/\(0<i->hx a.bH)/\(1<i->hx a.dC)/\(2<i->hx a.dY))/\hx c):=by
   match i,q with
   |0,_=>exact⟨a.bH,F,ae⟩
   |1,_=>exact⟨a.dC,F,by simp[and_assoc]⟩
   |2,_=>exact⟨a.dY,F,by simp[and_assoc]⟩
  have y:(#[I X a.bH,I X a.dC,I X a.dY])[i]? =J (I X c):=by
   match i,q,w with
   |0,_,b=>cases b;rfl
   |1,_,b=>cases b;rfl
   |2,_,b=>cases b;rfl
  rw[uz eT E bw G F y,dQ];refine⟨λb=>?_,λb=>?_⟩
  ·refine(Wo c).o ?_;rintro k M ⟨rfl,rfl⟩;rw[aD];refine⟨⟨j,i+1,decide (hx c),F,G,?_⟩,by simp only [];omega⟩;rw[r,<-m,b,dF];simp
  ·rw[aD];refine⟨⟨j,i+1,ao,F,G,?_⟩,by simp only [];omega⟩;rw[r,<-m,b];simp
 ·obtain rfl:i=3:=G;have s:h=af↔fz a:=by rw[m];exact⟨λ⟨d,e,n,c⟩=>⟨e g,n g,c g,d⟩,λ⟨d,e,n,c⟩=>⟨c,λ_=>d,λ_=>e,λ_=>n⟩⟩
  rw[dD,dQ];refine⟨λb=>⟨j,1,F,.inr ⟨λz=>?_,F⟩⟩,λb=>⟨j,0,F,.inl ⟨s.1 ?_,F⟩⟩⟩
  ·rw[s.2 z]at b;cases b
  ·simpa using b
def zH(a:bT):ak Y 272 [al (cq a).toArray] x λf h=>O x h/\f=al (br (fY a)).toArray:=by
 apply aaY;refine bd (S:=cq a) F λm n o p c i=>?_;refine bo kc λq r s t d j=>?_;have e:=i.h d;rw[aj tJ,aF (S:=[I X a.bH,I X a.dC,I X a.dY]) u6 (e.b.sub 2 3) F,aj Ps,aM E (e.b.f 5 F),
  bz (S:=br (fY a)) (iR:=[(0,[I X 1]),(1,[I X a.bH,I X a.dC,I X a.dY]),(2,[I X a.ds])]) kc Jw F F]
 refine aZ k1 g j (cS:=br (fY a)) F F ae (kD _) λw y k l=>?_;rw[aF (S:=br (fY a)) jN l.b F];exact⟨F,(c.a d).ab k (by rintro _ ⟨⟩;have:=c.size;omega),F⟩
def tU{e c:gP}(a0:qu e c):ak Y 271 [al (br e).toArray,al (br c).toArray] x λaB w=>O x w/\aB=al (br (eM e c)).toArray:=by
 apply aaV;refine bd (S:=br e) F λy d be bg a2 aC=>?_;refine bd (S:=br c) F λz S bi bj a3 aE=>?_;refine bo kc λp bk bl bn W aG=>?_;have aH:=(a2.a a3).a W;have l:=(aC.h a3).h W;have m:=aE.h W;rw[aj w4,aM E (l.b.f 0 F),aj w4,aM E (m.b.f 0 F),tf _ _ a0.z,
  aj yT,aM E (l.b.f 4 F),aj Jg,aM E (l.b.f 5 F),
  bz (S:=br ⟨e.z+c.z,0,0,0,e.ds,e.C⟩) (iR:=[(0,[I X (e.z+c.z)]),(2,[I X e.ds]),(3,[I X e.C])]) kc Jw F F]
 refine cj (cS:=br ⟨e.z+c.z,0,0,0,e.ds,e.C⟩) kc k1 g F F (kD _) λk bs bu bv U aI=>?_;have bx:=a2.size;refine ba.y (λr j=>O x j/\ag j y (br e)/\ag j z (br c)/\ag j p (br eZ)/\∃i:Nat,r=[I X i]/\i<=3/\
  ag j k (br ⟨e.z+c.z,if 0<i then ab (e.bH+c.bH)else 0,if 1<i then ab (e.dC+c.dC)else 0,if 2<i then ab (e.dY+c.dY)else 0,e.ds,e.C⟩))
  (λr _=>match r with|[I _ e]=>(3-e).toNat|_=>0) ⟨aH.a U,l.h U,m.h U,aG.h U,0,F,G,aI⟩ ?_
 rintro r q j ⟨ah,l,m,A,i,rfl,aJ,B⟩;rw[av,aR,ai];refine⟨λaL=>?_,λb0=>?_⟩
 ·apply bE.h;have f:O j j.drew:=(O.p j).C;have am:∀a,O x a->ag a y (br e)->ag a z (br c)->ag a p (br eZ)->
   ag a k (br ⟨e.z+c.z,if 0<i+1 then ab (e.bH+c.bH)else 0,if 1<i+1 then ab (e.dC+c.dC)else 0,if 2<i+1 then ab (e.dY+c.dY)else 0,e.ds,e.C⟩)->
   ((O x a/\ag a y (br e)/\ag a z (br c)/\ag a p (br eZ)/\∃D:Nat,[I X ((i:Int)+1)]=[I X D]/\D<=3/\
    ag a k (br ⟨e.z+c.z,if 0<D then ab (e.bH+c.bH)else 0,if 1<D then ab (e.dC+c.dC)else 0,if 2<D then ab (e.dY+c.dY)else 0,e.ds,e.C⟩))/\(3-((i:Int)+1)).toNat<(3-(i:Int)).toNat):=
   λa b H aN aO aP=>⟨⟨b,H,aN,aO,i+1,ae,G,aP⟩,G⟩
  have ap:∀a,a.heap.size=j.drew.heap.size->qN k j.drew a->O x a/\ag a y (br e)/\ag a z (br c)/\ag a p (br eZ):=λa a4 V=>⟨(ah.a f).ab V (by rintro _ ⟨⟩;omega),(l.h f).ab V (by intro n;cases n;omega),(m.h f).ab V (by intro n;cases n;omega),(A.h f).ab V (by intro n;cases n;omega)⟩
  rw[aK (λd b h=>aj gQ) f,aK (λd b h=>eO (i:=i) eT bw G G F) f]
  match i,aJ,aL with
  |0,_,_=>
   rw[dR E (l.b.f 1 F) f,aK (λd b h=>aj gQ) f,aK (λd b h=>eO (i:=0) eT bw G G F) f,dR E (m.b.f 1 F) f,
    aK (λd b h=>CR _ _) f,aK (λd b h=>aj gQ) f,aK (λd b h=>eO (i:=0) eT bw G G F) f]
   refine aZ (cS:=[I X (ab (e.bH+c.bH))]) bw g (B.h f) F F (by simp[br]) (by simp;rfl) λa u s t=>?_;rw[aD];obtain⟨K,L,M,P⟩:=ap a u s;exact am a K L M P t
  |1,_,_=>
   rw[dR E (l.b.f 2 F) f,aK (λd b h=>aj gQ) f,aK (λd b h=>eO (i:=1) eT bw G G F) f,dR E (m.b.f 2 F) f,
    aK (λd b h=>CR _ _) f,aK (λd b h=>aj gQ) f,aK (λd b h=>eO (i:=1) eT bw G G F) f]
   refine aZ (cS:=[I X (ab (e.dC+c.dC))]) bw g (B.h f) F F (by simp[br]) (by simp;rfl) λa u s t=>?_;rw[aD];obtain⟨K,L,M,P⟩:=ap a u s;exact am a K L M P t
  |2,_,_=>
   rw[dR E (l.b.f 3 F) f,aK (λd b h=>aj gQ) f,aK (λd b h=>eO (i:=2) eT bw G G F) f,dR E (m.b.f 3 F) f,
    aK (λd b h=>CR _ _) f,aK (λd b h=>aj gQ) f,aK (λd b h=>eO (i:=2) eT bw G G F) f]
   refine aZ (cS:=[I X (ab (e.dY+c.dY))]) bw g (B.h f) F F (by simp[br]) (by simp;rfl) λa u s t=>?_;rw[aD];obtain⟨K,L,M,P⟩:=ap a u s;exact am a K L M P t
 ·obtain rfl:i=3:=G;refine bG.y (λr w=>w=j/\∃aq:Bool,r=[ax aq]/\(aq=af↔st e c)) ?_ ?_
  ·rw[aj w4,aM E (m.b.f 0 F),cb,ai];refine⟨λb=>?_,λb=>⟨F,ao,F,by simp;omega⟩⟩;rw[aj w4,aM E (l.b.f 0 F),bm,ai];refine⟨λH=>⟨F,af,F,by simp[st,b,H]⟩,λH=>?_⟩;rw[aj yT,aM E (m.b.f 4 F),aj yT,aM E (l.b.f 4 F),cb];exact⟨F,_,F,by simp[st,b,H]⟩
  rintro r q j ⟨rfl,aq,rfl,a5⟩;have a7:∀(v:gP) a,O x a->ag a p (br eZ)->ag a k (br v)->eM e c=v->
   bU Y 157 (ad (J ⟨k,0,ac⟩)) a λaS d=>c4 Y 157 (ad (J ⟨p,0,ac⟩)) aS d λS=>bU Y 157 (ad (J ⟨p,0,ac⟩)) S λaT w=>w=S/\(O x S/\aT=al (br (eM e c)).toArray):=by
   intro v a aU A aV a4;rw[aF (S:=br v) jN aV.b F];refine aZ k1 g A (cS:=br v) F F (by simp[br]) (kD _) λar aW aw ay=>?_;rw[aF (S:=br v) jN ay.b F,a4];exact⟨F,aU.ab aw (by rintro _ ⟨⟩;omega),F⟩
  rw[av,dQ];refine⟨λb=>?_,λa8=>?_⟩
  ·have Q:=a5.1 b;have o:qN k j j.drew:=jz _ _;have aY:J y≠J k:=by intro n;cases n;omega
   have a9:J z≠J k:=by intro n;cases n;omega
   have bb:J p≠J k:=by intro n;cases n;omega
   refine bE.y (λd=>qN k j d) o ?_;rw[bh (λd b h=>aj yT) o,bh (λd b h=>aM E ((m.b.ab b a9).f 4 F)) o,
    bh (λd b h=>aj w4) o,bh (λd b h=>aM E ((l.b.ab b aY).f 0 F)) o,
    bh (λd b h=>aj Jg) o,bh (λd b h=>aM E ((m.b.ab b a9).f 5 F)) o,
    bh (λd b h=>tf _ _ a0.C) o,bh (λd b h=>aj yT) o]
   refine aZ (cS:=[I X c.ds]) bw g (B.h (O.p j).C) F F (by simp[br]) (by simp;rfl) λa u s t=>?_;have az:qN k j a:=eN o s;refine⟨az,?_⟩;rw[bh (λd b h=>aj Jg) az];refine aZ (cS:=[I X (e.z+c.C)]) bw g t F F (by simp[br,dE]) (by simp;rfl) λar aW aw ay=>?_;have aA:qN k j ar:=eN az aw;refine a7 (eM e c) ar (ah.ab aA (by rintro _ ⟨⟩;omega)) (A.ab aA bb) ?_ F;have:eM e c=⟨e.z+c.z,ab (e.bH+c.bH),ab (e.dC+c.dC),ab (e.dY+c.dY),c.ds,e.z+c.C⟩:=by unfold eM;rw[au Q,au Q]
   rw[this];exact ay
  ·have Q:¬st e c:=λbc=>by rw[a5.2 bc]at a8;cases a8
   refine a7 _ j ah A B ?_;unfold eM;rw[an Q,an Q];rfl
variable{w:aa}
def JR{x:Z}(j:aC w x 7 cq L)(V:L.length<=1000000):ak Y 235 [x] w λk y=>O w y/\k=al (br (aT L)).toArray:=by
 apply aaW;refine bo kc λz W ah aj p A=>?_;refine bo kc λB am an ap q C=>?_;have r:=p.a q;have aq:=p.size;rw[aS h9 (j.h r)];refine ba.y (λd e=>O w e/\ag e z (br eZ)/\∃a:Nat,d=[I X a]/\a<=L.length/\ag e B (br (aT (L.take a))))
  (λd _=>match d with|[I _ D]=>(L.length-D).toNat|_=>0) ⟨r,A.h q,0,F,G,C⟩ ?_
 rintro d s e ⟨c,t,a,rfl,ar,f⟩;rw[av,aR,ai];refine⟨λau=>?_,λaw=>?_⟩
 ·obtain⟨b,l⟩:∃b,L[a]? =J b:=⟨_,aX G⟩;obtain⟨ay,az,E,H⟩:=(j.h c).m l;rw[cr h9 fs G (j.h c) l F,E,aF lr H F];refine cj fP fs g F F (fe.B b) λa0 m a2 a3 u K=>?_;apply bE.h;have n:O m m.drew:=(O.p m).C;rw[gX (S:=br (aT (L.take a))) jN (f.h u).b F n,gX (S:=cq b) lr K.b F n];refine(zH b).o ?_;rintro k a4 ⟨M,rfl⟩;have v:=n.a M;refine⟨v,?_⟩;have a5:(L.take a).length=a:=by rw[bt];omega
  refine(tU (qu.B G b)).o ?_;rintro k a7 ⟨P,rfl⟩;have h:=(u.a v).a P;refine aZ k1 g (f.h h) (cS:=br (eM (aT (L.take a)) (fY b))) F F (by simp[br]) (kD _) λQ R i o=>?_;rw[aD];have a8:=(c.a h).size;refine⟨⟨(c.a h).ab i (by rintro _ ⟨⟩;omega),(t.h h).ab i (by intro U;cases U;omega),a+1,ae,G,?_⟩,by simp only [];omega⟩;rw[gp l,qP];exact o
 ·obtain rfl:a=L.length:=G;rw[cI]at f;rw[aF (S:=br (aT L)) jN f.b F];refine aZ k1 g t (cS:=br (aT L)) F F (by simp[br]) (kD _) λQ R i o=>?_;rw[aF (S:=br (aT L)) jN o.b F];exact⟨F,c.ab i (by rintro _ ⟨⟩;omega),F⟩
abbrev kV:=Bool×Nat
abbrev Cr(a:Nat):Value:=n2 322 (ad (J ⟨a,0,ac⟩))
abbrev zs(a:Nat):Value:=n2 405 (ad (J ⟨a,0,ac⟩))
def k8(a:kV):Value:=bif a.1 then Cr a.2 else zs a.2
def vT(a:Nat):k8 (af,a)=Cr a:=rfl
def um(a:Nat):k8 (ao,a)=zs a:=rfl
def jx(a:kV):List Value:=[k8 a]
def rM:eR jx 1:=⟨λ_=>F,λb d a=>by obtain⟨c,e⟩:=b;simp[jx]at a;subst a;cases c<;>rfl⟩
def TO(a:kV):k8 a=gA\/∃b c,k8 a=n2 b c:=by obtain⟨d,e⟩:=a;cases d<;>exact .inr ⟨_,_,F⟩
def TL(a:kV):ub (k8 a)=false:=by obtain⟨b,c⟩:=a;cases b<;>rfl
abbrev me:=kV×Nat×List bT
def f_(w:aa):Nat->kV->Nat->List bT->Prop
 |0,c,a,b=>c.1=af/\a=b.length/\1<=a/\a<=8/\∃d:bK,cA w c.2 0 (ay d::br (aT b))/\aC w (ay d) 7 cq b
 |h+1,c,a,b=>c.1=ao/\2<=a/\a<=8/\∃(d:bK) (e:List me),cA w c.2 0 (ay d::I X ((h:Int)+2)::br (aT b))/\aC w (ay d) 1 jx (e.map (·.1))/\e.length=a/\b=e.flatMap (·.2.2)/\
  ∀f∈e,4<=f.2.1/\f_ w h f.1 f.2.1 f.2.2
def f_.h{w j:aa}(e:O w j):∀{h:Nat} {k:kV} {c:Nat} {L:List bT},f_ w h k c L->f_ j h k c L
 |0,_,_,_,h=>by obtain⟨a,p,b,d,f,g,i⟩:=h;exact⟨a,p,b,d,f,g.h e,i.h e⟩
 |n+1,_,_,_,h=>by obtain⟨a,b,d,f,q,g,i,r,s,l⟩:=h;exact⟨a,b,d,f,q,g.h e,i.h e,r,s,λm o=>⟨(l m o).1,f_.h e (l m o).2⟩⟩
def Sc{α β:Type}(b:α->List β)(c:Nat):∀(a:List α),(∀d∈a,c<=(b d).length)->a.length*c<=(a.flatMap b).length
 |[],_=>ae
 |f::a,e=>by have:=Sc b c a λd g=>e d (ey _ g);have:=e f (dv ..);simp only [d1,iB,bf,jb,Dm];omega
def f_.cY{j:aa}:∀{a:Nat} {k:kV} {c:Nat} {d:List bT},f_ j a k c d->c*4^a<=d.length
 |0,_,_,_,a=>by obtain⟨e,rfl,l,m,_⟩:=a;simp
 |f+1,_,_,_,a=>by
  obtain⟨e,l,m,o,g,p,q,rfl,rfl,h⟩:=a;have n:∀b∈g,4^(f+1)<=b.2.2.length:=λb i=>by have e:=f_.cY (h b i).2;have r:=ny (4^f) (h b i).1;rw[Nat.pow_succ];omega
  exact Sc (λb:me=>b.2.2) _ g n
variable{n:Nat}
def f_.dR{e:kV}{k:Nat}{c:List bT}(hd:f_ x n e k c):1<=k/\k<=8:=by
 cases n with
 |zero=>exact⟨hd.2.2.1,hd.2.2.2.1⟩
 |succ n=>have:=hd.2.1;exact⟨G,hd.2.2.1⟩
def f_.zp{x:kV}{c:Nat}{e:List bT}{h:Nat}(hd:f_ w h x c e)(d:e.length<=1000000):h<=10:=by
 have f:=hd.cY;have a:=hd.dR;have i:4^h<=1000000:=by have:=ny (4^h) a.1;omega
 refine anz λb=>?_;have:=Nat.pow_le_pow_right (n:=4) g (show 11<=h from b);have:(4:Nat)^11=4194304:=g;omega
structure ez (L:List bT):Prop where
 z:L.length<=1000000
def ez.sub{x:List bT}(h:ez L)(aov:∀a∈x,a∈L)(b:x.length<=L.length):ez x:=⟨eQ b h.z⟩
def ez.aQ(h:ez L)(n:Nat):ez (L.take n):=h.sub (λb a=>fy a) (by rw[bt];omega)
def ez.bj(h:ez L)(a:Nat):ez (L.drop a):=h.sub (λc b=>jH b) (by rw[cO];omega)
variable{x:List me}
def Kx{b:me}(a:b∈x):b.2.2.length<=(x.flatMap (·.2.2)).length:=by
 induction x with
 |nil=>cases a
 |cons c x ih=>
  rw[iB,bf];rcases df.1 a with rfl|a
  ·omega
  ·have:=ih a;omega
def ez.cz{a:me}(h:ez (x.flatMap (·.2.2)))(b:a∈x):ez a.2.2:=h.sub (λ_ c=>nv.2 ⟨a,b,c⟩) (Kx b)
variable{v:Z}
def lf{α:Type}{V:α->List Z}{L:List α}(h:aC w v n V L):L.length<=cC v:=by obtain⟨b,c,rfl,a,_⟩:=h;exact a
variable{x:aa}
def Ah{e:kV}{c:List bT}{h:Nat}(hd:f_ x h e n c):ak Y 191 [k8 e] x λk l=>O x l/\k=al (br (aT c)).toArray:=by
 apply Qc;refine bo kc λt u v w a j=>?_;obtain⟨y,m⟩:=e;cases h with
 |zero=>obtain⟨rfl,_,_,_,o,b,z⟩:=hd.h a;rw[vT,te kt,aO,aN,hV,bn,aj adx,aF (S:=br (aT c)) jN (b.sub 1 6) F];refine aZ k1 g j (cS:=br (aT c)) F F ae (kD _) λq r f i=>?_;rw[aF (S:=br (aT c)) jN i.b F];exact⟨F,a.ab f (by rintro _ ⟨⟩;omega),F⟩
 |succ h=>obtain⟨rfl,_,_,o,A,b,_⟩:=hd.h a;obtain⟨B,s⟩:=z1 (P:=Y) (T:=319) (v:=ad (J ⟨m,0,ac⟩)) (B:=405) kt g;rw[um,s,aO,aN,cw,te lX,aO,aN,hV,bn,aj Jn,aF (S:=br (aT c)) jN (b.sub 2 6) F];refine aZ k1 g j (cS:=br (aT c)) F F ae (kD _) λq r f i=>?_;rw[aF (S:=br (aT c)) jN i.b F];exact⟨F,a.ab f (by rintro _ ⟨⟩;omega),F⟩
def al3:ak Y 191 [gA] x λa b=>O x b/\a=al (br eZ).toArray:=by apply Qc;refine bo kc λl m n o c d=>?_;obtain⟨p,e⟩:=CQ (P:=Y) (T:=319) kt;obtain⟨gv,h⟩:=CQ (P:=Y) (T:=319) lX;rw[e,aO,aN,cw,h,aO,aN,cw,bz (S:=br eZ) (iR:=[]) kc Jw F F];refine aZ k1 g d (cS:=br eZ) F F ae (kD _) λs t j k=>?_;rw[aF (S:=br eZ) jN k.b F];exact⟨F,c.ab j (by rintro _ ⟨⟩;omega),F⟩
def KF{x:kV}{c:Nat}{e:List bT}{h:Nat}(hd:f_ w h x c e):ak Y 317 [k8 x] w λa b=>b=w/\a=I X ((h:Int)+1):=by
 apply ad6;obtain⟨j,d⟩:=x;cases h with
 |zero=>obtain⟨rfl,_⟩:=hd;rw[vT,te kt,aO,aN,hV];exact⟨F,F⟩
 |succ h=>obtain⟨rfl,_,_,k,l,f,_⟩:=hd;obtain⟨m,i⟩:=z1 (P:=Y) (T:=319) (v:=ad (J ⟨d,0,ac⟩)) (B:=405) kt g;rw[um,i,aO,aN,cw,te lX,aO,aN,hV,bn,aj adw,aM E (f.f 1 F)];exact⟨F,F⟩
variable{e:Z}
def zz(c:aC x e 7 cq L)(i:ez L)(j:1<=L.length)(k:L.length<=8):
 ak Y 166 [e] x λd f=>O x f/\∃a,d=ad (J ⟨a,0,ac⟩)/\f_ f 0 (af,a) L.length L:=by
 apply ad9;refine(JR c i.z).o ?_;rintro d n ⟨g,rfl⟩;obtain⟨b,rfl⟩:=c.ay;rw[bz (S:=ay b::br (aT L)) (iR:=[(0,[ay b]),(1,br (aT L))]) aeB adX F F];refine bd (S:=ay b::br (aT L)) F λa p q r h m=>?_;exact⟨g.a h,a,F,F,F,j,k,b,m.b,c.h (g.a h)⟩
def o_{x:List me}{a:me}(h:x[i]? =J a):(x.map (·.1))[i]? =J a.1:=by rw[h5,h];rfl
def BS{c:List me}{h:Nat}(f:aC x e 1 jx (c.map (·.1)))(n:∀a∈c,4<=a.2.1/\f_ x h a.1 a.2.1 a.2.2)(t:ez (c.flatMap (·.2.2)))(u:2<=c.length)(E:c.length<=8):
 ak Y 234 [e] x λo y=>O x y/\∃k,o=ad (J ⟨k,0,ac⟩)/\f_ y (h+1) (ao,k) c.length (c.flatMap (·.2.2)):=by
 apply ad7;obtain⟨H,p⟩:∃a,c[0]? =J a:=⟨_,aX G⟩;have z:=n H (cl p);have az:=z.2.zp (t.cz (cl p)).z;obtain⟨a0,a2,K,L⟩:=f.m (o_ p);rw[cr (i:=0) (z:=0) hK kv G f (o_ p) F,K,aM qF (L.U F)];refine(KF z.2).o ?_;rintro o v ⟨rfl,rfl⟩;obtain⟨l,rfl⟩:=f.ay;have M:(h:Int)+1+1=(h:Int)+2:=G;rw[aD,M,bz (S:=ay l::I X ((h:Int)+2)::br eZ) (iR:=[(0,[ay l]),(1,[I X ((h:Int)+2)])]) aeA adW F F];refine bd (S:=ay l::I X ((h:Int)+2)::br eZ) F λk a5 a7 a8 B P=>?_;rw[aS hK (f.h B),b_];refine ba.y (λq j=>O v j/\∃b:Nat,q=[I X b]/\b<=c.length/\ag j k (ay l::I X ((h:Int)+2)::br (aT ((c.take b).flatMap (·.2.2)))))
  (λq _=>match q with|[I _ Q]=>(c.length-Q).toNat|_=>0) ⟨B,0,F,G,P⟩ ?_
 rintro q R j ⟨d,b,rfl,a9,r⟩;rw[av,aR,ai];refine⟨λaA=>?_,λaB=>?_⟩
 ·obtain⟨a,i⟩:∃a,c[b]? =J a:=⟨_,aX G⟩;have C:=cl i;have S:=n a C;obtain⟨aE,aF,U,V⟩:=(f.h d).m (o_ i);rw[cr hK kv G (f.h d) (o_ i) F,U,aM qF (V.U F)];apply bE.h;have s:O j j.drew:=(O.p j).C;rw[bn,aK (λv u W=>aj Jn) s,gX (S:=br (aT ((c.take b).flatMap (·.2.2)))) jN (r.b.sub 2 6) F s];refine(Ah ((S.2.h d).h s)).o ?_;rintro o aG ⟨ah,rfl⟩;have D:=s.a ah;refine⟨D,?_⟩;have am:=t.cz C;have an:ez ((c.take b).flatMap (·.2.2)):=t.sub (λaH w=>by
   obtain⟨ap,aq,w⟩:=nv.1 w;exact nv.2 ⟨ap,fy aq,w⟩) (by
   have:=ck (λe:List me=>(e.flatMap (·.2.2)).length) (fi b c);simp only [hG,bf]at this;omega)
  refine(tU (qu.aR (by have:=an.z;omega) (by have:=am.z;omega))).o ?_;rintro o aI ⟨ar,rfl⟩;have m:=D.a ar;refine⟨m,?_⟩;rw[bn,aK (λv u W=>aj Jn) m];refine aZ k1 g (r.h m) (cS:=br (eM (aT ((c.take b).flatMap (·.2.2))) (aT a.2.2))) F F (by simp[br]) (kD _) λaJ aL au aw=>?_;rw[aD];have aN:=(d.a m).size;refine⟨⟨(d.a m).ab au (by rintro _ ⟨⟩;omega),b+1,ae,G,?_⟩,by simp only [];omega⟩;rw[gp i,hG,sj,QB];exact aw
 ·obtain rfl:b=c.length:=G;rw[cI]at r;exact⟨d,k,F,F,u,E,l,c,r.b,f.h d,F,F,λa i=>⟨(n a i).1,(n a i).2.h d⟩⟩
variable{x:Z}
def LF{a b:List kV}(j:aC w x 1 jx a)(k:aC w e 1 jx b)(h:a.length+b.length<=1000):
 ak Y 319 [x,e] w λo l=>O w l/\aC l o 1 jx (a++b):=by
 apply aea;have v:e0=9223372036854775807:=rfl;rw[aS hK j,aS hK k,aD];refine Vp (V:=jx) (c:=a.length+b.length) hK kv xj G (by rw[I2];omega) G λz A m c=>?_;refine xX hK kv g xj F rM m c.size (j.h c) (by simp;omega) (by rw[I2];simp;omega) λB p n q=>?_;have d:O w p:=c.ab q λf i=>(m.D f i).1;refine xX hK kv g xj F rM n d.size (k.h d) (by simp;omega) (by rw[I2];simp;omega) λC r s t=>?_;have u:O w r:=d.ab t λf i=>(n.D f i).1;exact⟨u,by simpa using s.aI rM⟩
def kd(w:aa)(h:Nat)(d:Z)(e:Nat)(L:List bT):Prop:=
 ∃b:List me,aC w d 1 jx (b.map (·.1))/\b.flatMap (·.2.2)=L/\(∀a∈b,f_ w h a.1 a.2.1 a.2.2)/\((∃a,b=[a]/\e<=a.2.1)\/∃a c:me,b=[a,c]/\4<=a.2.1/\4<=c.2.1)
def alF(a:aC w x 7 cq L)(k:ez L)(b:1<=L.length)(Q:L.length<=16):
 ak Y 320 [x] w λh r=>O w r/\kd r 0 h L.length L:=by
 apply aee;rw[aS h9 a,fg,ai];refine⟨λu=>?_,λu=>?_⟩
 ·refine(zz a k b G).o ?_;rintro h e ⟨l,c,rfl,hd⟩;rw[pd kt];refine f0 (V:=jx) (L:=[(af,c)]) (iR:=[(0,[Cr c])]) hK kv F xj g g rM F F λy z A m d B=>?_;exact⟨l.a d,[((af,c),L.length,L)],m.aI rM,ae,λC f=>by simp at f;subst f;exact hd.h d,.inl ⟨_,F,a6 _⟩⟩
 ·have R:=lf a;rw[aS h9 a,CS _ _ G G G];apply bE.h;have i:O w w.drew:=(O.p w).C;have n:((L.length:Int)/2)=((L.length/2:Nat):Int):=G;rw[aK (λe b o=>GX h9 fs G (a.h b) n n G G) i,
   aK (λe b o=>pe h9 fs G (a.h b) n G) i]
  have D:aC w (dp x 7 0 (L.length/2) (L.length/2)) 7 cq (L.take (L.length/2)):=by simpa using a.ag (aw:=0) (bD:=L.length/2) (ds:=L.length/2) G G G G
  have K:aC w (dp x 7 (L.length/2) L.length (cC x)) 7 cq (L.drop (L.length/2)):=by simpa using a.ag (aw:=L.length/2) (bD:=L.length) (ds:=cC x) G G G G
  have S:(L.take (L.length/2)).length=L.length/2:=by rw[bt];omega
  have U:(L.drop (L.length/2)).length=L.length-L.length/2:=by rw[cO]
  refine(zz (D.h i) (k.aQ _) G G).o ?_;rintro h e ⟨l,c,rfl,M⟩;have j:=i.a l;refine⟨j,?_⟩;rw[aK (λe b o=>pd kt) j];refine(zz (K.h j) (k.bj _) G G).o ?_;rintro h z ⟨s,p,rfl,P⟩;have q:=j.a s;refine⟨q,?_⟩;rw[aK (λe b o=>pd kt) q];refine f0 (V:=jx) (L:=[(af,c),(af,p)]) (iR:=[(0,[Cr c]),(1,[Cr p])]) hK kv F xj g g rM F F λy W A m d B=>?_;have t:=q.a d;refine⟨t,t,[((af,c),(L.take (L.length/2)).length,L.take (L.length/2)),((af,p),(L.drop (L.length/2)).length,L.drop (L.length/2))],m.aI rM,ae,λC f=>?_,.inr ⟨_,_,F,by dsimp only;omega,by dsimp only;omega⟩⟩;simp only [df,anB,or_false]at f;rcases f with rfl|rfl
  ·exact(M.h s).h d
  ·exact P.h d
def zv{x:List me}{bD ds:Nat}(a:aC w v 1 jx (x.map (·.1))){aw:Nat}(b:aw<=bD)(c:bD<=x.length)(d:bD<=ds)(e:ds<=cC v):aC w (dp v 1 aw bD ds) 1 jx (((x.take bD).drop aw).map (·.1)):=by have:=a.ag (aw:=aw) (bD:=bD) (ds:=ds) b (by simpa using c) d e;rwa[<-List.map_take,<-List.map_drop]at this
def LG{e:List me}{h:Nat}(c:aC w x 1 jx (e.map (·.1)))(j:∀a∈e,4<=a.2.1/\f_ w h a.1 a.2.1 a.2.2)(p:ez (e.flatMap (·.2.2)))(d:2<=e.length)(an:e.length<=16):
 ak Y 318 [x] w λn z=>O w z/\kd z (h+1) n e.length (e.flatMap (·.2.2)):=by
 apply aeb;rw[aS hK c,b_,fg,ai];refine⟨λC=>?_,λC=>?_⟩
 ·refine(BS c j p d G).o ?_;rintro n k ⟨q,f,rfl,hd⟩;rw[pd lX];refine f0 (V:=jx) (L:=[(ao,f)]) (iR:=[(0,[zs f])]) hK kv F xj g g rM F F λH K L r i M=>?_;exact⟨q.a i,[((ao,f),e.length,e.flatMap (·.2.2))],r.aI rM,ae,λa b=>by simp at b;subst b;exact hd.h i,.inl ⟨_,F,a6 _⟩⟩
 ·have P:=lf c;rw[b_]at P;rw[aS hK c,b_,CS _ _ G G G];apply bE.h;have l:O w w.drew:=(O.p w).C;have s:((e.length:Int)/2)=((e.length/2:Nat):Int):=G;rw[aK (λk d t=>GX hK kv G (c.h d) s s G G) l,
   aK (λk d t=>pe hK kv G (c.h d) s (by rw[b_];omega)) l,b_]
  have Q:aC w (dp x 1 0 (e.length/2) (e.length/2)) 1 jx ((e.take (e.length/2)).map (·.1)):=by simpa using zv c (aw:=0) (bD:=e.length/2) (ds:=e.length/2) G G G G
  have U:aC w (dp x 1 (e.length/2) e.length (cC x)) 1 jx ((e.drop (e.length/2)).map (·.1)):=by have:=zv c (aw:=e.length/2) (bD:=e.length) (ds:=cC x) G G G G;rwa[cI]at this
  have ap:(e.take (e.length/2)).length=e.length/2:=by rw[bt];omega
  have aq:(e.drop (e.length/2)).length=e.length-e.length/2:=by rw[cO]
  have o:(e.take (e.length/2)).flatMap (·.2.2)++(e.drop (e.length/2)).flatMap (·.2.2)=e.flatMap (·.2.2):=by rw[<-hG,fi]
  have W:=ck gB o;rw[bf]at W;have ab:ez ((e.take (e.length/2)).flatMap (·.2.2)):=p.sub (λag u=>by rw[<-o];exact hY _ u) G;have ah:ez ((e.drop (e.length/2)).flatMap (·.2.2)):=p.sub (λag u=>by rw[<-o];exact lo _ u) G;refine(BS (Q.h l) (λa b=>⟨(j a (fy b)).1,(j a (fy b)).2.h l⟩) ab G G).o ?_;rintro n k ⟨q,f,rfl,aj⟩;have m:=l.a q;refine⟨m,?_⟩;rw[aK (λk d t=>pd lX) m];refine(BS (U.h m) (λa b=>⟨(j a (jH b)).1,(j a (jH b)).2.h m⟩) ah G G).o ?_;rintro n K ⟨A,v,rfl,am⟩;have y:=m.a A;refine⟨y,?_⟩;rw[aK (λk d t=>pd lX) y];refine f0 (V:=jx) (L:=[(ao,f),(ao,v)]) (iR:=[(0,[zs f]),(1,[zs v])]) hK kv F xj g g rM F F λH ar L r i M=>?_;have B:=y.a i;refine⟨B,B,[((ao,f),(e.take (e.length/2)).length,(e.take (e.length/2)).flatMap (·.2.2)),((ao,v),(e.drop (e.length/2)).length,(e.drop (e.length/2)).flatMap (·.2.2))],r.aI rM,by simpa using o,λa b=>?_,.inr ⟨_,_,F,by dsimp only;omega,by dsimp only;omega⟩⟩;simp only [df,anB,or_false]at b;rcases b with rfl|rfl
  ·exact(aj.h A).h i
  ·exact am.h i
variable{e:List bT}
def kd.cN{h:Nat}(a:kd w h x n e)(o:4<=n):∃b:List me,aC w x 1 jx (b.map (·.1))/\b.flatMap (·.2.2)=e/\(∀c∈b,4<=c.2.1/\f_ w h c.1 c.2.1 c.2.2)/\1<=b.length/\b.length<=2:=by
 obtain⟨b,i,j,k,g⟩:=a;refine⟨b,i,j,λc a=>⟨?_,k c a⟩,?_⟩
 ·rcases g with⟨d,rfl,f⟩|⟨d,l,rfl,f,m⟩
  ·simp at a;subst a;omega
  ·simp at a;rcases a with rfl|rfl<;>omega
 ·rcases g with⟨d,rfl,f⟩|⟨d,l,rfl,f,m⟩<;>simp
variable{x:kV}{c:Nat}
def xK{h:Nat}(hd:f_ w (h+1) x c e):∃(d:Nat) (f:bK) (a:List me),x=(ao,d)/\2<=a.length/\a.length<=8/\a.length=c/\cA w d 0 (ay f::I X ((h:Int)+2)::br (aT e))/\aC w (ay f) 1 jx (a.map (·.1))/\e=a.flatMap (·.2.2)/\∀b∈a,4<=b.2.1/\f_ w h b.1 b.2.1 b.2.2:=by obtain⟨g,n,o,f,a,i,j,k,l,m⟩:=hd;obtain⟨b,d⟩:=x;obtain rfl:b=false:=g;exact⟨d,f,a,F,G,G,k,i,j,l,m⟩
def zF(hd:f_ w 0 x c e):∃(a:Nat) (b:bK),x=(af,a)/\1<=e.length/\e.length<=8/\e.length=c/\cA w a 0 (ay b::br (aT e))/\aC w (ay b) 7 cq e:=by obtain⟨d,f,j,k,b,g,h⟩:=hd;obtain⟨i,a⟩:=x;obtain rfl:i=true:=d;exact⟨a,b,F,G,G,f.symm,g,h⟩
def aiC:∀(aq:Nat) {w:aa} {n o:Nat} {ar au:kV} {av az:Nat} {y A:List bT},n+o<aq->f_ w n ar av y->f_ w o au az A->ez (y++A)->
 ak Y 233 [k8 ar,k8 au] w λp aP=>O w aP/\∃U,kd aP (max n o) p U (y++A)/\(o<=n->av<=U)/\(n<=o->az<=U):=by
 intro aq
 induction aq with
 |zero=>intro w n o ar au av az y A aZ;omega
 |succ aq ih=>
  intro w n o ar au av az y A aZ Q R q;have ba:ez y:=q.sub (λa5 K=>hY _ K) ae;have bb:ez A:=q.sub (λa5 K=>lo _ K) ae;have bz:=Q.zp ba.z;have b0:=R.zp bb.z;apply ad_;refine(KF Q).o ?_;rintro p w ⟨rfl,rfl⟩;refine(KF R).o ?_;rintro p w ⟨rfl,rfl⟩;rw[cb,ai];refine⟨λbc=>?_,λb1=>?_⟩
  ·obtain⟨h,rfl⟩:∃h,n=h+1:=⟨n-1,G⟩;obtain⟨a0,C,b,rfl,aT,a7,rfl,s,j,rfl,u⟩:=xK Q;have a8:=lf j;rw[b_]at a8;rw[um,zZ lX,bn,aj qI,aM qE (s.U F),aS hK j,b_,cd];obtain⟨t,D⟩:∃t,b[b.length-1]? =J t:=⟨_,aX G⟩;obtain⟨bd,a9⟩:=u t (cl D);have aU:((b.length:Int)-1)=((b.length-1:Nat):Int):=G;obtain⟨be,bg,aA,aB⟩:=j.m (o_ D);apply bE.h;have a:O w w.drew:=(O.p w).C;rw[bn,aK (λf e l=>aj qI) a,dR qE (s.U F) a,
    aK (λf e l=>oA hK kv G (j.h e) aU (by rw[b_];omega)) a,
    bn,aK (λf e l=>aj qI) a,dR qE (s.U F) a,
    aK (λf e l=>cr hK kv G (j.h e) (o_ D) aU) a,aA,dR qF (aB.U F) a]
   have aE:aC w (dp (ay C) 1 0 (b.length-1) (cC (ay C))) 1 jx ((b.take (b.length-1)).map (·.1)):=by simpa using zv j (aw:=0) (bD:=b.length-1) (ds:=cC (ay C)) G G G G
   have aF:b=b.take (b.length-1)++[t]:=by rw[<-gp D,Nat.sub_add_cancel G,cI]
   have L:(b.take (b.length-1)).flatMap (·.2.2)++t.2.2=b.flatMap (·.2.2):=by
    conv=>rhs;rw[aF]
    rw[hG,sj]
   refine(ih (w:=w.drew) G (a9.h a) (R.h a) (q.sub (λa5 K=>?_) ?_)).o ?_
   ·rw[<-L,cX];exact lo _ K
   ·rw[<-L];simp
   rintro p f ⟨S,U,W,aG,_⟩;have r:=a.a S;refine⟨r,?_⟩;rw[show max h o=h from G]at W;obtain⟨ag,aH,aJ,ah,bh,bi⟩:=W.cN (by have:=aG G;omega);have bj:(b.take (b.length-1)).length=b.length-1:=by rw[bt];omega
   refine(LF (aE.h r) aH (by rw[b_,b_];omega)).o ?_;rintro p a2 ⟨M,E⟩;have k:=r.a M;refine⟨k,?_⟩;rw[<-dJ]at E;have am:(b.take (b.length-1)++ag).flatMap (·.2.2)=b.flatMap (·.2.2)++A:=by rw[hG,aJ,<-L,cX]
   refine(LG (h:=h) E (λm d=>?_) (by rw[am];exact q) (by rw[bf];omega) (by rw[bf];omega)).o ?_
   ·rcases b9.1 d with d|d
    ·exact⟨(u m (fy d)).1,(u m (fy d)).2.h k⟩
    ·exact⟨(ah m d).1,(ah m d).2.h M⟩
   rintro p an ⟨ap,H⟩;have x:=k.a ap;refine⟨x,x,(b.take (b.length-1)++ag).length,?_,λ_=>?_,λbk=>G⟩
   ·rw[show max (h+1) o=h+1 from G,<-am];exact H
   ·rw[bf];omega
  rw[aR,ai];refine⟨λbc=>?_,λb2=>?_⟩
  ·obtain⟨h,rfl⟩:∃h,o=h+1:=⟨o-1,G⟩;obtain⟨a0,C,b,rfl,aT,a7,rfl,s,j,rfl,u⟩:=xK R;have a8:=lf j;rw[b_]at a8;rw[um,zZ lX];obtain⟨t,D⟩:∃t,b[0]? =J t:=⟨_,aX G⟩;obtain⟨bd,a9⟩:=u t (cl D);obtain⟨be,bg,aA,aB⟩:=j.m (o_ D);apply bE.h;have a:O w w.drew:=(O.p w).C;rw[bn,aK (λf e l=>aj qI) a,dR qE (s.U F) a,
    aK (λf e l=>cr (i:=0) (z:=0) hK kv G (j.h e) (o_ D) F) a,aA,dR qF (aB.U F) a,
    bn,aK (λf e l=>aj qI) a,dR qE (s.U F) a,
    aK (λf e l=>pe (aw:=1) (ko:=1) hK kv G (j.h e) F (by rw[b_];omega)) a,b_]
   have aE:aC w (dp (ay C) 1 1 b.length (cC (ay C))) 1 jx ((b.drop 1).map (·.1)):=by have:=zv j (aw:=1) (bD:=b.length) (ds:=cC (ay C)) G G G G;rwa[cI]at this
   have aF:b=t::b.drop 1:=by
    have:=jw D
    simpa using this
   have L:t.2.2++(b.drop 1).flatMap (·.2.2)=b.flatMap (·.2.2):=by
    conv=>rhs;rw[aF]
    rw[iB]
   refine(ih (w:=w.drew) G (Q.h a) (a9.h a) (q.sub (λa5 K=>?_) ?_)).o ?_
   ·rw[<-L,<-cX];exact hY _ K
   ·rw[<-L];simp
   rintro p f ⟨S,U,W,_,aG⟩;have r:=a.a S;refine⟨r,?_⟩;rw[show max n h=h from G]at W;obtain⟨ag,aH,aJ,ah,bh,bi⟩:=W.cN (by have:=aG G;omega);have bj:(b.drop 1).length=b.length-1:=by rw[cO]
   refine(LF aH (aE.h r) (by rw[b_,b_];omega)).o ?_;rintro p a2 ⟨M,E⟩;have k:=r.a M;refine⟨k,?_⟩;rw[<-dJ]at E;have am:(ag++b.drop 1).flatMap (·.2.2)=y++b.flatMap (·.2.2):=by rw[hG,aJ,<-L,cX]
   refine(LG (h:=h) E (λm d=>?_) (by rw[am];exact q) (by rw[bf];omega) (by rw[bf];omega)).o ?_
   ·rcases b9.1 d with d|d
    ·exact⟨(ah m d).1,(ah m d).2.h M⟩
    ·exact⟨(u m (jH d)).1,(u m (jH d)).2.h k⟩
   rintro p an ⟨ap,H⟩;have x:=k.a ap;refine⟨x,x,(ag++b.drop 1).length,?_,λbk=>G,λ_=>?_⟩
   ·rw[show max n (h+1)=h+1 from G,<-am];exact H
   ·rw[bf];omega
  obtain rfl:n=o:=G;rw[Nat.max_self];cases n with
  |zero=>
   obtain⟨a0,C,rfl,b3,a7,rfl,s,j⟩:=zF Q;obtain⟨bl,bm,rfl,b4,bo,rfl,a3,a4⟩:=zF R;have b5:e0=9223372036854775807:=rfl;rw[vT,vT,te kt,aN,aO,hV,zZ kt];apply bE.h;have a:O w w.drew:=(O.p w).C;rw[bn,aK (λf e l=>aj tM) a,dR tG (s.U F) a,aK (λf e l=>aS h9 (j.h e)) a,
    bn,aK (λf e l=>aj tM) a,dR tG (a3.U F) a,aK (λf e l=>aS h9 (a4.h e)) a,
    aK (λf e l=>aD) a]
   refine Vp (V:=cq) (c:=y.length+A.length) h9 fs fP G (by rw[wT];omega) G λv f aV S=>?_;have r:=a.a S;refine⟨r,?_⟩;rw[bn,aj tM,aM tG ((s.h r).U F)];refine xX h9 fs g fP F fe aV S.size (j.h r) (by simp;omega) (by rw[wT];simp;omega) λb6 a2 aW bp=>?_;have k:O w a2:=r.ab bp λaL q=>(aV.D aL q).1;rw[bn,aj tM,aM tG ((a3.h k).U F)];refine xX h9 fs g fP F fe aW k.size (a4.h k) (by simp;omega) (by rw[wT];simp;omega) λbr an bs bu=>?_;have x:O w an:=k.ab bu λaL q=>(aW.D aL q).1;have bv:aC an br 7 cq (y++A):=by simpa using bs.aI fe
   refine(alF bv q (by rw[bf];omega) (by rw[bf];omega)).o ?_;rintro p b7 ⟨bw,H⟩;exact⟨x.a bw,_,H,λ_=>by rw[bf];omega,λ_=>by rw[bf];omega⟩
  |succ h=>
   obtain⟨a0,C,b,rfl,aT,a7,rfl,s,j,rfl,u⟩:=xK Q;obtain⟨bl,bm,b8,rfl,bA,bo,rfl,a3,a4,rfl,aY⟩:=xK R;obtain⟨z,bx⟩:=z1 (P:=Y) (T:=319) (v:=ad (J ⟨a0,0,ac⟩)) (B:=405) kt g;rw[um,um,bx,aN,aO,cw];apply bE.h;have a:O w w.drew:=(O.p w).C;rw[aK (λf e l=>zZ lX) a,bn,aK (λf e l=>aj qI) a,dR qE (s.U F) a,
    aK (λf e l=>zZ lX) a,bn,aK (λf e l=>aj qI) a,dR qE (a3.U F) a]
   refine(LF (j.h a) (a4.h a) (by rw[b_,b_];omega)).o ?_;rintro p a2 ⟨M,E⟩;have k:=a.a M;refine⟨k,?_⟩;rw[<-dJ]at E;refine(LG (h:=h) E (λm d=>?_) (by rw[hG];exact q) (by rw[bf];omega) (by rw[bf];omega)).o ?_
   ·rcases b9.1 d with d|d
    ·exact⟨(u m d).1,(u m d).2.h k⟩
    ·exact⟨(aY m d).1,(aY m d).2.h k⟩
   rintro p an ⟨ap,H⟩;have x:=k.a ap;rw[hG,bf]at H;exact⟨x,x,_,H,λ_=>G,λ_=>G⟩
def gG(c:aa)(v:Z)(a:List bT):Prop:=(v=gA/\a=[])\/∃d b e,v=k8 b/\f_ c d b e a
def gG.h{w a:aa}{v:Z}{L:List bT}(h:gG w v L)(e:O w a):gG a v L:=by
 rcases h with h|⟨h,k,c,rfl,hd⟩
 ·exact .inl h
 ·exact .inr ⟨h,k,c,F,hd.h e⟩
def gG.nil(w:aa):gG w gA []:= .inl ⟨F,F⟩
variable{e:Z}{c:List bT}
def gG.dn{x:aa}(h:gG x e c):e=gA\/∃a b,e=n2 a b:=by
 rcases h with⟨h,_⟩|⟨h,d,f,rfl,hd⟩
 ·exact .inl h
 ·exact TO d
def gG.l7{x:List bT}(h:gG w v x)(b:ub v=ao):∃h a c,v=k8 a/\f_ w h a c x:=by
 rcases h with⟨rfl,_⟩|h
 ·cases b
 ·exact h
variable{x:aa}
def gG.cW(h:gG x e c)(a:ub e=af):e=gA/\c=[]:=by
 rcases h with h|⟨h,b,d,rfl,hd⟩
 ·exact h
 ·rw[TL]at a;cases a
def gG.M(a:gG w v L):v.cells=[v].toArray/\v.oneCell' =true:=by
 rcases a with⟨rfl,_⟩|⟨a,b,c,rfl,hd⟩
 ·exact⟨F,F⟩
 ·obtain⟨t,d⟩:=b;cases t<;>exact⟨F,F⟩
def BW{c:Z}{d s:List bT}(b:gG x e d)(f:gG x c s)(p:ez (d++s)):
 ak Y 165 [e,c] x λk q=>O x q/\gG q k (d++s):=by
 apply ad8;rw[Vb EE b.dn,dQ];refine⟨λl=>?_,λl=>?_⟩
 ·obtain⟨rfl,rfl⟩:=b.cW l;exact⟨O.p x,f⟩
 rw[Vb EE f.dn,dQ];refine⟨λm=>?_,λm=>?_⟩
 ·obtain⟨rfl,rfl⟩:=f.cW m;rw[cT];exact⟨O.p x,b⟩
 obtain⟨g,K,L,rfl,hd⟩:=b.l7 l;obtain⟨y,M,P,rfl,z⟩:=f.l7 m;refine(aiC _ (Nat.lt_succ_self _) hd z p).o ?_;rintro k Q ⟨r,R,⟨t,h,i,u,v⟩,_,_⟩;rw[aS hK h,b_,bm,ai];refine⟨λn=>?_,λn=>?_⟩
 ·obtain⟨a,rfl⟩:∃a,t=[a]:=by
   rcases v with⟨a,rfl,_⟩|⟨a,j,rfl,_⟩
   ·exact⟨a,F⟩
   ·simp at n
  obtain⟨S,U,A,B⟩:=h.m (i:=0) (x:=a.1) F;rw[cr (i:=0) (z:=0) (x:=a.1) hK kv G h F F,A,aM qF (B.U F)];rw[sj]at i;rw[<-i];exact⟨r,.inr ⟨_,a.1,a.2.1,F,u a ae⟩⟩
 ·obtain⟨a,j,rfl,W,ab⟩:∃a j:me,t=[a,j]/\4<=a.2.1/\4<=j.2.1:=by
   rcases v with⟨a,rfl,_⟩|g
   ·simp at n
   ·exact g
  refine(BS (h:=max g y) h (λE o=>⟨?_,u E o⟩) (by rw[i];exact p) ae ae).o ?_
  ·simp at o;rcases o with rfl|rfl<;>assumption
  rintro k ag ⟨H,c,rfl,w⟩;rw[pd lX];rw[i]at w;exact⟨r.a H,.inr ⟨_,(ao,c),_,F,w⟩⟩
def UJ{c:List me}{h:Nat}(b:aC x e 1 jx (c.map (·.1)))(d:∀a∈c,4<=a.2.1/\f_ x h a.1 a.2.1 a.2.2)(j:ez (c.flatMap (·.2.2)))(k:c.length<=8):
 ak Y 371 [e] x λf g=>O x g/\gG g f (c.flatMap (·.2.2)):=by
 apply aec;rw[aS hK b,b_,bm,ai];refine⟨λl=>?_,λl=>?_⟩
 ·obtain rfl:c=[]:=ig G;exact⟨O.p x,gG.nil x⟩
 rw[bm,ai];refine⟨λi=>?_,λi=>?_⟩
 ·obtain⟨a,rfl⟩:∃a,c=[a]:=by
   match c,i with
   |[a],_=>exact⟨a,F⟩
  obtain⟨t,u,m,n⟩:=b.m (i:=0) (x:=a.1) F;rw[cr (i:=0) (z:=0) (x:=a.1) hK kv G b F F,m,aM qF (n.U F),sj];exact⟨O.p x,.inr ⟨_,a.1,a.2.1,F,(d a ae).2⟩⟩
 ·refine(BS b d j G k).o ?_;rintro f w ⟨q,r,rfl,s⟩;rw[pd lX];exact⟨q,.inr ⟨_,(ao,r),_,F,s⟩⟩
def alE:∀(h:Nat) {e:aa} {K:kV} {W:Nat} {k:List bT} {d:Int},f_ e h K W k->ez k->pA d->
 ak Y 346 [k8 K,I X d] e λp ab=>O e ab/\∃w n,p=a1 #[w,n]/\gG ab w (k.take d.toNat)/\gG ab n (k.drop d.toNat):=by
 intro h
 induction h with
 |zero=>
  intro e K W k d hd t aP;apply JC;have L:=hd;obtain⟨n,q,rfl,bs,aU,rfl,u,m⟩:=zF hd;have a2:=lf m;rw[vT,te kt,aO,aN,hV,fg,ai];refine⟨λr=>?_,λr=>?_⟩
  ·rw[pd kt,show d.toNat=0 from G];exact⟨O.p e,_,_,F,gG.nil e,.inr ⟨0,(af,n),_,F,L⟩⟩
  rw[bn,aj tM,aM tG (u.U F),aS h9 m,eE,ai];refine⟨λf=>?_,λf=>?_⟩
  ·rw[pd kt,d_ G,lR G];exact⟨O.p e,_,_,F,.inr ⟨0,(af,n),_,F,L⟩,gG.nil e⟩
  obtain⟨j,rfl⟩:∃j:Nat,d=j:=⟨d.toNat,G⟩;rw[kq];apply bE.h;have c:O e e.drew:=(O.p e).C;rw[bn,aK (λi f o=>aj tM) c,dR tG (u.U F) c,
   aK (λi f o=>GX h9 fs G (m.h f) F F G G) c,
   bn,aK (λi f o=>aj tM) c,dR tG (u.U F) c,
   aK (λi f o=>pe h9 fs G (m.h f) F G) c]
  have ah:aC e (dp (ay q) 7 0 j j) 7 cq (k.take j):=by simpa using m.ag (aw:=0) (bD:=j) (ds:=j) G G G G
  have am:aC e (dp (ay q) 7 j k.length (cC (ay q))) 7 cq (k.drop j):=by simpa using m.ag (aw:=j) (bD:=k.length) (ds:=cC (ay q)) G G G G
  have bu:(k.take j).length=j:=by rw[bt];omega
  have bv:(k.drop j).length=k.length-j:=by rw[cO]
  refine(zz (ah.h c) (t.aQ _) G G).o ?_;rintro p i ⟨s,n,rfl,aV⟩;have M:=c.a s;refine⟨M,?_⟩;rw[aK (λi f o=>pd kt) M];refine(zz (am.h M) (t.bj _) G G).o ?_;rintro p aW ⟨Q,a3,rfl,aY⟩;have an:=M.a Q;refine⟨an,?_⟩;rw[aK (λi f o=>pd kt) an];exact⟨an,_,_,F,.inr ⟨0,(af,n),_,F,aV.h Q⟩,.inr ⟨0,(af,a3),_,F,aY⟩⟩
 |succ h ih=>
  intro e K W k d hd t aP;apply JC;have L:=hd;obtain⟨n,q,b,rfl,bw,aU,rfl,u,m,rfl,x⟩:=xK hd;have a2:=lf m;rw[b_]at a2;obtain⟨bx,aZ⟩:=z1 (P:=Y) (T:=319) (v:=ad (J ⟨n,0,ac⟩)) (B:=405) kt g;rw[um,aZ,aO,aN,cw,te lX,aO,aN,hV,bn,aj qI,aM qE (u.U F),aS hK m,b_];refine ba.y (λR i=>O e i/\∃a:Nat,R=[I X (d-((b.take a).flatMap (·.2.2)).length),I X a]/\a<=b.length/\(0<a->((b.take a).flatMap (·.2.2)).length<d))
   (λR _=>match R with|[_,I _ w]=>(b.length-w).toNat|_=>0) ⟨O.p e,0,ae,G,G⟩ ?_
  rintro R bz i ⟨s,a,rfl,bD,S⟩;rw[av,bA,av,aR,ai];refine⟨λb0=>?_,λb1=>?_⟩
  ·obtain⟨l,y⟩:∃l,b[a]? =J l:=⟨_,aX G⟩;have a4:=cl y;obtain⟨b2,a5⟩:=x l a4;have bb:=t.cz a4;have b3:=t.z;have ap:(b.take a).flatMap (·.2.2)++(l.2.2++(b.drop (a+1)).flatMap (·.2.2))=b.flatMap (·.2.2):=by
    conv=>rhs;rw[<-fi a b,jw y]
    rw[hG,iB]
   have bc:=ck gB ap;rw[bf,bf]at bc;have b4:(((b.take a).flatMap (·.2.2)).length:Int)<d\/((b.take a).flatMap (·.2.2)).length=0:=by
    rcases nz a with r|r
    ·subst r;exact .inr F
    ·exact .inl (S r)
   obtain⟨b5,b6,bd,be⟩:=(m.h s).m (o_ y);rw[cr hK kv G (m.h s) (o_ y) F,bd,aM qF (be.U F)];refine(Ah (a5.h s)).o ?_;rintro p aW ⟨Q,rfl⟩;have aq:=s.a Q;have bg:(aT l.2.2).z=l.2.2.length:=pZ _;rw[i0 wW E (v:=I X l.2.2.length) (by rw[<-bg];rfl),fg,ai];refine⟨λb7=>?_,λb8=>?_⟩
   ·refine(ih (a5.h aq) bb ⟨G,G⟩).o ?_;rintro p z ⟨bh,w,a3,rfl,a7,a8⟩;have A:=aq.a bh;rw[aN,aO];apply bE.h;have c:O z z.drew:=(O.p z).C;have a9:=u.h A;have U:=m.h A;rw[bn,aK (λi f o=>aj qI) c,dR qE (a9.U F) c,
     aK (λi f o=>GX (bD:=a) (ds:=a) hK kv G (U.h f) F F G G) c,
     bn,aK (λi f o=>aj qI) c,dR qE (a9.U F) c,
     aK (λi f o=>aD) c,
     aK (λi f o=>pe (aw:=a+1) hK kv G (U.h f) G (by rw[b_];omega)) c,b_]
    have ah:aC z (dp (ay q) 1 0 a a) 1 jx ((b.take a).map (·.1)):=by simpa using zv U (aw:=0) (bD:=a) (ds:=a) G G G G
    have am:aC z (dp (ay q) 1 (a+1) b.length (cC (ay q))) 1 jx ((b.drop (a+1)).map (·.1)):=by have:=zv U (aw:=a+1) (bD:=b.length) (ds:=cC (ay q)) G G G G;rwa[cI]at this
    have ar:d.toNat=((b.take a).flatMap (·.2.2)).length+(d-((b.take a).flatMap (·.2.2)).length).toNat:=by
     rcases nz a with r|r
     ·subst r;simp
     ·have:=S r;omega
    generalize bB:(d-((b.take a).flatMap (·.2.2)).length).toNat=C at a7 a8 ar;have aA:C<=l.2.2.length:=G;have aB:(b.flatMap (·.2.2)).take d.toNat=(b.take a).flatMap (·.2.2)++l.2.2.take C:=by rw[ar,<-ap,Dr,nx aA]
    have aE:(b.flatMap (·.2.2)).drop d.toNat=l.2.2.drop C++(b.drop (a+1)).flatMap (·.2.2):=by rw[ar,<-ap,Nh,rf aA]
    have aF:ez ((b.take a).flatMap (·.2.2)++l.2.2.take C):=by rw[<-aB];exact t.aQ _
    have aG:ez (l.2.2.drop C++(b.drop (a+1)).flatMap (·.2.2)):=by rw[<-aE];exact t.bj _
    refine(UJ (h:=h) (ah.h c) (λD H=>⟨(x D (fy H)).1,(x D (fy H)).2.h (A.a c)⟩) (aF.sub (λbi au=>hY _ au) ae) (by rw[bt];omega)).o ?_;rintro p bC ⟨bk,bl⟩;have az:=c.a bk;refine⟨az,?_⟩;refine(BW bl (a7.h az) aF).o ?_;rintro p bF ⟨bm,bo⟩;have V:=az.a bm;refine⟨V,?_⟩;refine(UJ (h:=h) (am.h V) (λD H=>⟨(x D (jH H)).1,(x D (jH H)).2.h (A.a V)⟩) (aG.sub (λbi au=>lo _ au) ae) (by rw[cO];omega)).o ?_;rintro p bG ⟨aH,bp⟩;have a0:=V.a aH;refine⟨a0,?_⟩;refine(BW (a8.h a0) bp aG).o ?_;rintro p bH ⟨aI,br⟩;have aJ:=a0.a aI;refine⟨aJ,A.a aJ,_,_,F,?_,?_⟩
    ·rw[aB];exact(bo.h aH).h aI
    ·rw[aE];exact br
   ·rw[cd,aD];have aL:((b.take (a+1)).flatMap (·.2.2)).length=((b.take a).flatMap (·.2.2)).length+l.2.2.length:=by rw[gp y,hG,sj,bf]
    refine⟨⟨aq,a+1,by rw[aL];simp;omega,G,λ_=>by rw[aL];omega⟩,by simp only [];omega⟩
  ·obtain rfl:a=b.length:=G;rw[cI]at S;have:=S G;rw[pd lX];refine⟨s,_,_,F,?_,?_⟩
   ·rw[d_ G];exact .inr ⟨_,(ao,n),_,F,L.h s⟩
   ·rw[lR G];exact gG.nil i
def VK(f:gG x e c)(g:ez c)(h:pA t):
 ak Y 346 [e,I X t] x λi a=>O x a/\∃b d,i=a1 #[b,d]/\gG a b (c.take t.toNat)/\gG a d (c.drop t.toNat):=by
 rcases f with⟨rfl,rfl⟩|⟨j,n,o,rfl,hd⟩
 ·apply JC;obtain⟨p,k⟩:=CQ (P:=Y) (T:=319) kt;obtain⟨gv,m⟩:=CQ (P:=Y) (T:=319) lX;rw[k,aO,aN,cw,m,aO,aN,cw,List.take_nil,List.drop_nil];exact⟨O.p x,_,_,F,gG.nil x,gG.nil x⟩
 ·exact alE j hd g h
def eF(a:aa)(v:Z)(L:List bT):Prop:=(v=ad ac/\L=[])\/∃b c,v=ad (J ⟨b,0,ac⟩)/\cA a b 0 [c]/\gG a c L
def eF.h{w a:aa}{v:Z}{L:List bT}(h:eF w v L)(e:O w a):eF a v L:=by
 rcases h with h|⟨b,r,c,d,f⟩
 ·exact .inl h
 ·exact .inr ⟨b,r,c,d.h e,f.h e⟩
def eF.nil(w:aa):eF w (ad ac) []:= .inl ⟨F,F⟩
def eF.M(a:eF w v L):v.cells=[v].toArray/\v.oneCell' =true:=by rcases a with⟨rfl,_⟩|⟨b,c,rfl,_⟩<;>exact⟨F,F⟩
def eF.bL{e:List bT}(a:eF x v e):∃p,v=ad p:=by rcases a with⟨rfl,_⟩|⟨b,c,rfl,_⟩<;>exact⟨_,F⟩
def MR(a:eF x e c):ak Y 192 [e] x λb d=>d=x/\gG x b c:=by
 apply JB;rcases a with⟨rfl,rfl⟩|⟨h,i,rfl,f,g⟩
 ·rw[fZ EH];exact⟨F,gG.nil x⟩
 ·rw[fZ EH,Option.isNone_some,cw,bn,aj Jm,aM qF (f.U F)];exact⟨F,g⟩
def al5(a:gG x e c):ak Y 191 [e] x λb d=>O x d/\b=al (br (aT c)).toArray:=by
 rcases a with⟨rfl,rfl⟩|⟨f,g,h,rfl,hd⟩
 ·exact al3
 ·exact Ah hd
def uJ(f:eF x e c):ak Y 120 [e] x λb h=>O x h/\b=al (br (aT c)).toArray:=by apply ad5;refine bo kc λm n o p d i=>?_;refine(MR (f.h d)).o ?_;rintro q r ⟨rfl,j⟩;refine(al5 j).o ?_;rintro b s ⟨a,rfl⟩;have t:=a.size;refine aZ k1 g (i.h a) (cS:=br (aT c)) F F ae (kD _) λv w k l=>?_;rw[aF (S:=br (aT c)) jN l.b F];exact⟨F,(d.a a).ab k (by rintro _ ⟨⟩;omega),F⟩
def uL(i:Nat):Nat:=8*((i+7)/8)
def amA(a:i%8=0):uL i=i/\uL (i+1)=i+8:=by unfold uL;omega
def amB(a:i%8≠0):uL (i+1)=uL i:=by unfold uL;omega
def amz(i:Nat):i<=uL i:=by unfold uL;omega
def hD:bT:=⟨0,0,0,0,0,0,⟨#[]⟩⟩
variable{e:List bT}
def xL{l:Z}(d:aC x l 7 cq e):
 ak Y 97 [l] x λf s=>O x s/\((30000<e.length/\f=a1 #[ad ac,I X 5])\/(e.length<=30000/\¬(∀a∈e,fz a)/\f=a1 #[ad ac,I X 1])\/
  (e.length<=30000/\(∀a∈e,fz a)/\∃k b,f=a1 #[ad (J ⟨k,0,ac⟩),I X 0]/\cA s k 0 [b]/\gG s b e)):=by
 apply ad0;have aH:e0=9223372036854775807:=rfl;rw[aS h9 d,cb,ai];refine⟨λj=>⟨O.p x,.inl ⟨G,F⟩⟩,λt=>?_⟩;have t:e.length<=30000:=G;rw[aS h9 d];refine ba.y (λo u=>O x u/\∃(i:Nat) (b:Z),o=[b,I X i]/\i<=e.length/\(∀a∈e.take i,fz a)/\gG u b (e.take (uL i)))
  (λo _=>match o with|[_,I _ V]=>(e.length-V).toNat|_=>0) ⟨O.p x,0,_,F,G,ae,gG.nil x⟩ ?_
 rintro o aJ u ⟨p,i,b,rfl,W,v,q⟩;rw[av,bA,av,aR,ai];refine⟨λaK=>?_,λaM=>?_⟩
 ·obtain⟨a,r⟩:∃a,e[i]? =J a:=⟨_,aX G⟩;obtain⟨k,aN,ah,aj⟩:=(d.h p).m r;rw[cr h9 fs G (d.h p) r F,ah,aF lr aj F];refine cj fP fs g F F (fe.B a) λaO am aP an m w=>?_;have ap:=p.a m;rw[aF lr w.b F];refine(af5 a).o ?_;rintro f aq ⟨H,ar,rfl,K⟩;have n:=ap.a H;have y:=(q.h m).h H;rw[bs,bu];refine⟨λau=>?_,λay=>?_⟩
  ·obtain⟨z,rfl⟩:¬fz a/\ar=1:=by
    rcases K with⟨_,rfl⟩|j
    ·exact aL F au
    ·exact j
   exact⟨n,.inr (.inl ⟨t,λj=>z (j a (cl r)),F⟩)⟩
  have z:fz a:=by
   rcases K with⟨j,_⟩|⟨_,rfl⟩
   ·exact j
   ·cases ay
  have L:∀A∈e.take (i+1),fz A:=by
   intro A h;rw[gp r]at h;rcases b9.1 h with h|h
   ·exact v A h
   ·simp at h;subst h;exact z
  rw[L6 _ _ G G G,bm,ai];refine⟨λaz=>?_,λaz=>?_⟩
  ·obtain⟨a0,a2⟩:=amA (i:=i) G;rw[aS h9 (d.h n),cd,alg];obtain⟨c,a3,aT,aU,aV⟩:∃c:Nat,(if(e.length:Int)-i<8 then(e.length:Int)-i else 8)=c/\1<=c/\c<=8/\c=min 8 (e.length-i):=by refine⟨min 8 (e.length-i),?_,G,G,F⟩;split<;>omega
   rw[a3];refine ald hD h9 fs g fP fe F F F (by rw[wT];omega) G λaW a4 B M=>?_;have C:=n.a M;have a5:(kR c hD).length=c:=ae;have aY:(e.drop i).length=e.length-i:=ae;rw[pe (aw:=i) h9 fs G (d.h C) F G];have a7:aC a4 (dp l 7 i e.length (cC l)) 7 cq (e.drop i):=by simpa using(d.h C).ag (aw:=i) (bD:=e.length) (ds:=cC l) G G (lf d) (a6 _)
   refine ak9 h9 fs g fe B a7 G λP bb Q R=>?_;have a8:O x P:=C.ab Q λD E=>by have:=(B.D D E).1;have:=n.size;omega
   have a9:O aq P:=M.ab Q λD E=>(B.D D E).1;rw[a5]at R;have bc:((e.drop i).take c).length=c:=by simp;omega
   refine(zz (R.aI fe) ⟨G⟩ G G).o ?_;rintro f be ⟨S,eD,rfl,aA⟩;rw[pd kt];rw[a0]at y;have U:e.take i++(e.drop i).take c=e.take (i+8):=by
    rw[List.take_add];congr 1;by_cases bg:e.length-i<8
    ·rw[d_ G,d_ G]
    ·rw[show c=8 by omega]
   refine(BW ((y.h a9).h S) (.inr ⟨0,(af,eD),_,F,aA⟩) ⟨by rw[U,bt];omega⟩).o ?_;rintro f bh ⟨aB,aE⟩;rw[aD];refine⟨⟨(a8.a S).a aB,i+1,f,ae,G,L,?_⟩,by simp only [];omega⟩;rw[a2,<-U];exact aE
  ·rw[aD];refine⟨⟨n,i+1,b,ae,G,L,?_⟩,by simp only [];omega⟩;rw[amB G];exact y
 ·obtain rfl:i=e.length:=G;rw[d_ (amz _)]at q;rw[cI]at v;rw[bz (S:=[b]) (iR:=[(0,[b])]) Qs P2 (by rw[uT,uT,q.M.1]) F];refine bd (S:=[b]) F λk am bj an m w=>?_;exact⟨p.a m,.inr (.inr ⟨t,v,k,b,F,w.b,q.h m⟩)⟩
def Bv(a:aa)(v:Z)(d:List bT):Prop:=∃b c,v=ad (J ⟨b,0,ac⟩)/\cA a b 0 [c]/\gG a c d
def Bv.Hi(a:Bv x v e):eF x v e:= .inr a
variable{K:aU}
def amp{e:Z}(b:gG x e c)(g:∀d a,O x a->Bv a d c->K d a):
 fo Y 325 [(0,e)] x λh x=>qb Y 325 h x K:=by
 rw[bz (S:=[e]) (iR:=[(0,[e])]) Qs P2 (by rw[uT,uT,b.M.1]) F];refine bd (S:=[e]) F λj k n o f l=>?_;exact g _ k f ⟨j,e,F,l.b,b.h f⟩
def He:xZ Y 157 (al (br (aT e)).toArray) 0 x K=K (I X e.length) x:=by have a:(aT e).z=e.length:=pZ _;rw[i0 wW E (v:=I X e.length) (by rw[<-a];rfl)]
abbrev rm(L:List bT)(a b:Int):Prop:=0<=a/\a<=b/\b<=L.length
variable{t:Z}
def Hk{l:Z}{a b:Int}(o:eF x t L)(R:L.length<=30000)(p:aC x l 7 cq e):
 ak Y 294 [t,I X a,I X b,l] x λc q=>O x q/\((¬rm L a b/\c=a1 #[ad ac,I X 1])\/
  (rm L a b/\30000<e.length/\c=a1 #[ad ac,I X 5])\/
  (rm L a b/\e.length<=30000/\¬(∀f∈e,fz f)/\c=a1 #[ad ac,I X 1])\/
  (rm L a b/\e.length<=30000/\(∀f∈e,fz f)/\30000<L.length-(b-a)+e.length/\c=a1 #[ad ac,I X 5])\/
  (rm L a b/\e.length<=30000/\(∀f∈e,fz f)/\L.length-(b-a)+e.length<=30000/\∃j,c=a1 #[j,I X 0]/\Bv q j (L.take a.toNat++e++L.drop b.toNat))):=by
 apply ad4;have r:ez L:=⟨G⟩;refine(uJ o).o ?_;rintro c S ⟨i,rfl⟩;rw[He,aR,ai];refine⟨λd=>⟨i,.inl ⟨G,F⟩⟩,λU=>?_⟩;rw[aR,ai];refine⟨λd=>⟨i,.inl ⟨G,F⟩⟩,λV=>?_⟩;rw[cb,ai];refine⟨λd=>⟨i,.inl ⟨G,F⟩⟩,λW=>?_⟩;have k:rm L a b:=⟨G,G,G⟩;refine(xL (p.h i)).o ?_;rintro c ab ⟨w,y⟩;have g:=i.a w;rcases y with⟨h,rfl⟩|⟨h,m,rfl⟩|⟨h,m,ae,ag,rfl,z,A⟩
 ·rw[aN,aO,bs,bu];exact⟨λ_=>⟨g,.inr (.inl ⟨k,h,F⟩)⟩,λd=>by cases d⟩
 ·rw[aN,aO,bs,bu];exact⟨λ_=>⟨g,.inr (.inr (.inl ⟨k,h,m,F⟩))⟩,λd=>by cases d⟩
 rw[aN,aO,bs,bu];refine⟨λd=>aL F d,λ_=>?_⟩;rw[cd,cd,aS h9 (p.h g),aD,cb,ai];refine⟨λd=>⟨g,.inr (.inr (.inr (.inl ⟨k,h,m,G,F⟩)))⟩,λah=>?_⟩;refine(MR (o.h g)).o ?_;rintro am x ⟨rfl,B⟩;refine(VK B r ⟨G,G⟩).o ?_;rintro c an ⟨C,ap,f,rfl,D,E⟩;rw[aN,aO,cd];refine(VK E (r.bj _) ⟨G,G⟩).o ?_;rintro c aq ⟨s,ar,au,rfl,av,u⟩;have n:=C.a s;rw[aN,aO,bn,aj Jm,aM qF ((z.h n).U F)];have hd:(L.drop a.toNat).drop (b-a).toNat=L.drop b.toNat:=by rw[jF];congr 1;omega
 rw[hd]at u;have aw:(L.take a.toNat).length=a.toNat:=by rw[bt];omega
 have ay:(L.drop b.toNat).length=L.length-b.toNat:=by rw[cO]
 refine(BW (D.h s) (A.h n) ⟨by rw[bf];omega⟩).o ?_;rintro c az ⟨v,H⟩;refine(BW H (u.h v) ⟨by rw[bf,bf];omega⟩).o ?_;rintro c a0 ⟨K,M⟩;refine amp M λj a2 P Q=>?_;exact⟨((((g.a n).a v).a K).a P),.inr (.inr (.inr (.inr ⟨k,h,m,G,j,F,Q⟩)))⟩
def C_{i:Int}(P:eF x t L)(ar:ez L):
 ak Y 193 [t,I X i] x λs r=>O x r/\((¬(0<=i/\i<L.length)/\s=a1 #[al (cq hD).toArray,I X 1])\/
  (0<=i/\∃b,L[i.toNat]? =J b/\s=a1 #[al (cq b).toArray,I X 0])):=by
 apply ad1;have au:=ar.z;refine bo fP λQ aw aV aW w ay=>?_;refine bG.y (λe r=>O aw r/\∃y:Bool,e=[ax y]/\(y=af↔¬(0<=i/\i<L.length))) ?_ ?_
 ·rw[aR,ai];refine⟨λa=>⟨O.p _,af,F,by simp;omega⟩,λa=>?_⟩;refine(uJ (P.h w)).o ?_;rintro s z ⟨u,rfl⟩;rw[He,eE];exact⟨u,_,F,by rw[dF];omega⟩
 rintro e A z ⟨u,y,rfl,R⟩;have S:=w.a u;have az:=ay.h u;have bj:∀(b:bT) (n:Nat) k,O z k->((n=1/\b=hD/\¬(0<=i/\i<L.length))\/(n=0/\0<=i/\L[i.toNat]? =J b))->
  c4 Y 159 (ad (J ⟨Q,0,ac⟩)) (al (cq b).toArray) k λf=>bU Y 159 (ad (J ⟨Q,0,ac⟩)) f λB r=>r=f/\(O x f/\
   ((¬(0<=i/\i<L.length)/\(a1 #[B,I X n]:Z)=a1 #[al (cq hD).toArray,I X 1])\/
   (0<=i/\∃b,L[i.toNat]? =J b/\(a1 #[B,I X n]:Z)=a1 #[al (cq b).toArray,I X 0]))):=by
  intro b n k U a0;refine aZ fs g (az.h U) (cS:=cq b) F F ae (fe.B b) λf aY a2 a3=>?_;rw[aF (S:=cq b) lr a3.b F];have bb:=w.size;refine⟨F,(S.a U).ab a2 (by rintro _ ⟨⟩;omega),?_⟩;rcases a0 with⟨rfl,rfl,a⟩|⟨rfl,a5,a⟩
  ·exact .inl ⟨a,F⟩
  ·exact .inr ⟨a5,b,a,F⟩
 rw[av,dQ];refine⟨λa7=>?_,λV=>?_⟩
 ·rw[bz (S:=cq hD) (iR:=[]) fP xa F F];exact bj hD 1 z (O.p _) (.inl ⟨F,F,R.1 a7⟩)
 have C:0<=i/\i<L.length:=Classical.byContradiction λa=>by rw[R.2 a]at V;cases V
 refine(MR (P.h S)).o ?_;rintro a8 k ⟨rfl,a9⟩;obtain⟨a,h,l,rfl,hd⟩:∃a h l,a8=k8 h/\f_ k a h l L:=by
  rcases a9 with⟨_,a⟩|a
  ·subst a;simp at C;omega
  ·exact a
 refine ba.bJ (λn e f=>O k f/\∃(a j:Nat) (h:kV) (l:Nat) (m:List bT),n=a+1/\e=[I X j,k8 h]/\f_ f a h l m/\m.length<=1000000/\j<m.length/\m[j]? =L[i.toNat]?)
  ⟨_,O.p _,a,i.toNat,h,l,L,F,by rw[lQ C.1],hd,au,G,F⟩ ?_
 rintro n e A f ⟨W,a,j,h,l,m,rfl,rfl,hd,bd,ag,ah⟩;rw[av,bA,av];cases a with
 |zero=>
  obtain⟨D,aA,rfl,be,aB,rfl,E,o⟩:=zF hd;obtain⟨bg,aC⟩:=z1 (P:=Y) (T:=319) (v:=ad (J ⟨D,0,ac⟩)) (B:=322) lX g;obtain⟨b,H⟩:∃b,m[j]? =J b:=⟨_,aX ag⟩;obtain⟨aE,aG,aH,K⟩:=o.m H;rw[vT,aC,aN,aO,dD,Bool.not_false,hV,zZ kt,bn,aj tM,aM tG (E.U F),
   cr h9 fs G o H F,aH,aF lr K F]
  exact bj b 0 f W (.inr ⟨F,C.1,by rw[<-ah,H]⟩)
 |succ a=>
  obtain⟨D,aA,d,rfl,bk,aB,rfl,E,o,rfl,aI⟩:=xK hd;rw[um,te lX,aN,aO,dD,Bool.not_true,cw,bn,aj qI,aM qE (E.U F),aS hK o,b_];refine ba.y (λe am=>O f am/\∃c p:Nat,e=[I X p,zs D,I X c]/\c<=d.length/\j=((d.take c).flatMap (·.2.2)).length+p/\p<((d.drop c).flatMap (·.2.2)).length)
   (λe _=>match e with|[_,_,I _ aJ]=>(d.length-aJ).toNat|_=>0) ⟨O.p _,0,j,F,G,ae,by simpa using ag⟩ ?_
  rintro e A am ⟨v,c,p,rfl,bl,aK,an⟩;rw[av,bA,av,bA,av,aR,ai];refine⟨λbm=>?_,λaL=>?_⟩
  ·obtain⟨t,q⟩:∃t,d[c]? =J t:=⟨_,aX G⟩;have ap:=cl q;obtain⟨bp,aq⟩:=aI t ap;have br:=Kx ap;obtain⟨aE,aG,aP,K⟩:=(o.h v).m (o_ q);rw[cr hK kv G (o.h v) (o_ q) F,aP,aM qF (K.U F)];refine(Ah (aq.h v)).o ?_;rintro s bs ⟨aT,rfl⟩;have M:=v.a aT;have aU:(d.take c).flatMap (·.2.2)++(t.2.2++(d.drop (c+1)).flatMap (·.2.2))=d.flatMap (·.2.2):=by
    conv=>rhs;rw[<-fi c d,jw q]
    rw[hG,iB]
   have bu:((d.drop c).flatMap (·.2.2)).length=t.2.2.length+((d.drop (c+1)).flatMap (·.2.2)).length:=by rw[jw q,iB,bf]
   rw[He,eE,ai];refine⟨λaL=>?_,λbv=>?_⟩
   ·rw[cd,aD];refine⟨⟨M,c+1,p-t.2.2.length,?_,G,?_,G⟩,by simp only [];omega⟩
    ·simp;omega
    ·rw[gp q,hG,sj,bf];omega
   ·refine⟨a+1,G,W.a M,a,p,t.1,t.2.1,t.2.2,F,F,aq.h M,G,G,?_⟩;rw[<-ah,<-aU,aK,oI G,wD,wA G]
  ·obtain rfl:c=d.length:=G;rw[List.drop_length]at an;simp at an
end
end Go.Proofs.YtoddhldofgfdmaaGreatDoor
