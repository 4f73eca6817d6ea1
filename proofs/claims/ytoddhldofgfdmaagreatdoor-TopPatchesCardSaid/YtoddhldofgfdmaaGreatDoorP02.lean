/- A part of the proof; no conditions of its own. -/
import Derived.Test.YtoddhldofgfdmaaGreatDoorP01
import Derived.WalkKit
import Derived.ProofKit
import Derived.OpenShut
import Derived.Deep.DeepHandedRow
import Derived.Lib.LaidTab
import Derived.MapKept
import Derived.Shelf.SlSortCmp.NoneTotal
import Derived.Test.YtoddhldofgfdmaaGreatDoorProg
import Derived.Shelf.Strings.Builder1
import Derived.Shelf.Strings.OnBuilder
import Derived.Shelf.Strings.Count
set_option linter.all false
open Array renaming replicate->AM,getElem?_toList->Du,getElem?_eq_getElem->Nk,eraseIdxIfInBounds->anT,toList_eraseIdx->anU,getElem?_eq_some_iff->iz
open Bool renaming not_false->DB,not_true->HU,and_false->N6,true->af,false->ao,and_eq_true->fb,eq_iff_iff->g0,false_eq_true->j1,not_eq_true'->sb,or_eq_true->sc,false_or->yd,false_and->yp
open Go renaming wpOpsIn->Dp,Value->Z,World->aa,trodAll_cons_mk->anD,Program->bq,TypeId->cv,maxLen->e0,run_underlying->eJ,IntKind->hF,heap_alloc_new->mE,wpIn_mono->mF,FuncId->nA,zeroValue->qi,setRow_heap->qj,Calls->qo,DataW->qq,wpIn_seq->sl,MemPlace->sm,run_storeCells_at->uM,setRow_other->uN,LoopState->uV,callFunc->yb
open Go.Addr.mk renaming injEq->Xw
open Go.Builtin renaming clear_->AY,append->fT,zeroCells->n5
open Go.Code renaming rangeFunc->H2
open Go.DataW renaming trod_int->Np,Trod->Xk,trod_array->anG,LaidVars->uU,trod->wF
open Go.DataW.lit renaming injEq->anH
open Go.Ending renaming returned->oJ
open Go.Exit renaming normal->hX
open Go.Fn renaming func->hE,yield->rc
open Go.Instr renaming checkKey->HZ,findAsking->Nx,findKey->Xr,findNow->Xs,storeAt->qt,sureAddr->rh
open Go.IntKind renaming i64->X,i32->cc
open Go.Lib renaming BuilderAt->Ii,countByte->NQ,IsBuilder->XH,byteCells_length->an3,mapM_length->anF,byteCells->so
open Go.Lit renaming int->Xj
open Go.LoopState renaming exhausted->AN,ready->g_
open Go.MapKept renaming run_getObj_map->Xo,run_setObj_map->Xp
open Go.Obj renaming deferred->j6
open Go.Proofs renaming sortWorldK->XD
open Go.Proofs.SlLaysF0 renaming n6->an1
open Go.Proofs.Tryz renaming isAgg3->AQ,sizeOf3->DH,zeroValue3->DI,isAgg0->H5,sizeOf0->H6,underlying0->H7,zeroValue0->H8,isAgg5->H9,isAgg9->H_,sizeOf5->Ia,sizeOf9->Ib,underlying5->Ic,underlying9->Ie,zeroValue5->Ig,zeroValue9->Ih,f366->NA,isAgg4->ND,sizeOf4->NF,underlying4->NG,zeroValue4->NH,isAgg421->NI,sizeOf421->NJ,underlying421->NK,zeroValue421->NL,isAgg331->NM,sizeOf331->NN,underlying331->NO,zeroValue331->NP,prog->Y,underlying3->yl
open Go.Result renaming andThen_ok->jI
open Go.RowKit renaming Below->oH
open Go.RowKit.Below renaming mono->ts
open Go.Sem renaming run_bind->fN,run_pure->oa
open Go.Shelf renaming Ren->DN
open Go.Sort renaming putCells->H4,ahead->NC
open Go.Target renaming collected->AO
open Go.TypeDesc renaming struct->ql
open Go.Value renaming int->I,okWide->Xl,tuple->a1,slice->aQ,pointer->ad,agg->al,bool->ax,func->fq,nilIface->gA,string->lO
open Go.Value.slice renaming injEq->Xx
open Go.World renaming putObj_heap_other->Xz,var?_cell->anE
open Iff renaming rfl->AA
open Int renaming emod_nonneg->HQ,natCast_add->NB,emod_lt_of_pos->Nf,sub_zero->anY,le_refl->gw,lt_or_le->j5
open List renaming map_drop->AH,any_cons->AJ,flatMap_map->AK,getElem?_eq_none_iff->AL,filter_congr->AP,take_length_add_append->Dr,drop_eq_getElem_cons->Dw,take_add_one->Dz,map_flatMap->HY,flatten_nil->Ij,toArray->Nj,getElem?_append->Nq,replicate_succ'->Ns,singleton_append->Nt,takeWhile_cons->Nw,takeWhile_sublist->Nz,drop_succ_cons->XA,drop_append->XB,count_nil->XJ,count_cons->XK,take_add->Xh,any_append->Xn,getElem?_eq_getElem->aX,mem_flatten->an4,append_cons->anL,getElem?_zipIdx->anM,getElem?_zip_eq_some->anO,any_map->anP,range'_eq_map_range->anQ,eraseIdx_sublist->anS,drop_left'->anZ,mem_append->b9,length_map->b_,length_append->bf,length_take->bt,take_length->cI,mem_singleton->cL,length_drop->cO,append_nil->cT,append_assoc->cX,mem_of_getElem?->cl,length_cons->d1,map_append->dJ,getElem?_eq_some_iff->dS,take_of_length_le->d_,mem_cons->df,mem_cons_self->dv,map_cons->eB,mem_map->eP,mem_cons_of_mem->ey,nil_append->fc,take_append_drop->fi,mem_of_mem_take->fy,length->gB,cons_append->gO,getElem?_map->h5,drop_zero->h6,flatMap_append->hG,mem_append_left->hY,range'->hs,flatMap_cons->iB,eq_nil_of_length_eq_zero->ig,getElem?_eq_none->j2,drop_drop->jF,mem_of_mem_drop->jH,sum_cons->jJ,filter_append->jd,getElem?_drop->kQ,replicate->kR,take_zero->kp,getElem?_take->lN,drop_of_length_le->lR,range->lS,length_nil->lk,mem_append_right->lo,size_toArray->mG,drop_length->mc,take_take->n9,take_append_of_le_length->nx,getElem?_append_right->oI,length_singleton->oK,map_nil->ob,getElem?_cons_succ->pk,map_map->pr,getElem?_cons_zero->qm,map_take->qp,drop_append_of_le_length->rf,filter_cons->ri,drop_take->si,flatMap_singleton->sj,flatten_append->sq,take_left->tq,getElem?_of_mem->tr,filter_eq_self->tt,drop_eq_nil_of_le->tu,drop_left->uQ,take_append->uR,map_singleton->uT,getElem?_append_left->wA,length_set->wB,all_eq_true->wv,ext_getElem?->wz,flatten_cons->yg,sum_append->yh,getD_eq_getElem?_getD->yi,take_left'->yk
open List.cons renaming injEq->HO
open Nat renaming sub_add_cancel->DA,mul_le_mul->DF,one_mul->Dm,mul_one->Dx,lt_trichotomy->HW,mul_add->NS,mul_le_mul_left->NT,succ_mul->Ni,le_refl->a6,div_lt_of_lt_mul->an2,div_le_self->an5,add_comm->anW,le_trans->eQ,zero_le->ec,lt_or_ge->fx,zero_add->hW,add_assoc->j4,add_mul->jb,min_eq_left->lP,mul_comm->n4,add_zero->nw,mul_le_mul_right->ny,eq_zero_or_pos->nz,sub_self->pn,div_add_mod->qn,mod_lt->se,zero_mul->uP,add_sub_cancel_left->wD
open Option renaming isSome_iff_exists->Dv,map_some->HP,some->J,bind_eq_some_iff->W1,isNone_none->Xm,none->ac,map_eq_some_iff->sg,isNone_some->sk
open Option.some renaming injEq->kP,inj->rg
open Prod renaming fst->Nr
open Prod.mk renaming injEq->tn
open UInt8 renaming ofNat->jG
namespace Go.Proofs.YtoddhldofgfdmaaGreatDoor
section
open Go.Lift Go.RowKit
abbrev iE(v aJ a:Int):Prop:=v<a\/(aJ=0/\a=v)
def qe(a:gP)(bx:Int):Int:=if bx=3 then a.z else if bx=0 then a.bH else if bx=1 then a.dC else a.dY
def fp(L:List bT)(bx:Int)(n:Nat):Int:=qe (aT (L.take n)) bx
structure ha (L:List bT) (bx v aJ:Int) (n:Nat):Prop where
 dU:n<=L.length
 dh:∀m,m<n->¬iE v aJ (fp L bx (m+1))
 Ar:n<L.length->iE v aJ (fp L bx (n+1))
abbrev ij(L:List bT)(bx v aJ:Int):Prop:=0<=bx/\bx<=3/\0<=v/\v<=qe (aT L) bx/\(aJ=0\/aJ=1)
def al_{L:List bT}(d:∀b∈L,fz b)(g:L.length<=1000000)(bx:Int)(a:Nat):fp L bx a<=fp L bx (a+1):=by
 cases hm:L[a]? with
 |none=>
  have:L.length<=a:=by simpa using hm
  unfold fp;rw[d_ this,d_ G];exact gw _
 |some b=>
  obtain⟨h,i,j,k⟩:=d b (cl hm);have c:=Bw (L:=L.take a) (by rw[bt];omega) λe f=>d e (fy f);have l:(L.take a).length<=1000000:=by rw[bt];omega
  have m:=c.bH;have n:=c.dC;have o:=c.dY;unfold fp;rw[gp hm,qP];unfold qe eM fY
  dsimp only
  rw[tk ⟨G,G⟩,tk ⟨G,G⟩,tk ⟨G,G⟩];split
  ·omega
  ·split
   ·omega
   ·split<;>omega
def al9{L:List bT}(c:∀d∈L,fz d)(e:L.length<=1000000)(bx:Int){b a:Nat}(g:b<=a):fp L bx b<=fp L bx a:=by
 induction a with
 |zero=>obtain rfl:b=0:=G;exact gw _
 |succ a ih=>
  by_cases f:b=a+1
  ·subst f;exact gw _
  ·exact Int.le_trans (ih G) (al_ c e bx a)
def iE.up{v aJ b a:Int}(c:iE v aJ b)(f:b<=a):iE v aJ a:=by
 rcases c with c|⟨d,g⟩
 ·exact .inl G
 ·by_cases e:a=v
  ·exact .inr ⟨d,e⟩
  ·exact .inl G
def e4(i:Int)(a:gP)(b:Int):List Value:=I X i::(br a++[I X b])
def mq(i:Int)(c:gP)(d:Int):∀a∈e4 i c d,a.oneCell' =true:=λa b=>by simp[e4,br]at b;rcases b with rfl|rfl|rfl|rfl|rfl|rfl|rfl|rfl<;>rfl
def vn(b:aa)(v:Z)(L:List bT)(H:Nat):Prop:=
 (v=ad ac/\L=[]/\H=0)\/∃c a,v=ad (J ⟨c,0,ac⟩)/\cA b c 0 [a]/\((a=gA/\L=[]/\H=0)\/∃d e f,a=k8 e/\f_ b d e f L/\H=d+1)
def eF.cI{b:aa}{v:Z}{L:List bT}(a:eF b v L):∃H,vn b v L H:=by
 rcases a with⟨rfl,rfl⟩|⟨c,g,rfl,d,⟨rfl,rfl⟩|⟨a,e,f,rfl,hd⟩⟩
 ·exact⟨0,.inl ⟨F,F,F⟩⟩
 ·exact⟨0,.inr ⟨c,_,F,d,.inl ⟨F,F,F⟩⟩⟩
 ·exact⟨_,.inr ⟨c,_,F,d,.inr ⟨a,e,f,F,hd,F⟩⟩⟩
def vn.Hi{a:aa}{v:Z}{L:List bT}{H:Nat}(b:vn a v L H):eF a v L:=by
 rcases b with⟨rfl,rfl,rfl⟩|⟨c,g,rfl,d,⟨rfl,rfl,rfl⟩|⟨b,e,f,rfl,hd,rfl⟩⟩
 ·exact eF.nil a
 ·exact .inr ⟨c,_,F,d,.inl ⟨F,F⟩⟩
 ·exact .inr ⟨c,_,F,d,.inr ⟨b,e,f,F,hd⟩⟩
def vn.h{w a:aa}{v:Z}{L:List bT}{H:Nat}(h:vn w v L H)(e:O w a):vn a v L H:=by
 rcases h with⟨rfl,rfl,rfl⟩|⟨b,r,rfl,d,⟨rfl,rfl,rfl⟩|⟨h,k,c,rfl,hd,rfl⟩⟩
 ·exact .inl ⟨F,F,F⟩
 ·exact .inr ⟨b,_,F,d.h e,.inl ⟨F,F,F⟩⟩
 ·exact .inr ⟨b,_,F,d.h e,.inr ⟨h,k,c,F,hd.h e,F⟩⟩
def C3{f:aa}(d:gP){bx:Int}(i:0<=bx)(j:bx<=3):ak Y 269 [al (br d).toArray,I X bx] f λg h=>O f h/\g=I X (qe d bx):=by
 apply aed;refine bd (S:=br d) F λl m n o b c=>?_;rw[bm,ai];refine⟨λe=>?_,λe=>?_⟩
 ·rw[aj w4,aM E (c.b.f 0 F)];exact⟨b,by unfold qe;rw[au e]⟩
 ·obtain⟨a,rfl⟩:∃a:Nat,bx=a:=⟨bx.toNat,G⟩;rw[aj gQ,eO (i:=a) eT bw G G F];unfold qe;rw[an e];rcases(by omega:a=0\/a=1\/a=2)with rfl|rfl|rfl
  ·rw[aM E (c.b.f 1 F)];exact⟨b,F⟩
  ·rw[aM E (c.b.f 2 F)];exact⟨b,F⟩
  ·rw[aM E (c.b.f 3 F)];exact⟨b,F⟩
def Un{a:aa}{v aJ:Int}{bv h3:Nat}(c:ag a bv [I X v])(g:ag a h3 [I X aJ])(d:Int):
 iU Y (fq (hE 270) #[] #[ad (J ⟨bv,0,ac⟩),ad (J ⟨h3,0,ac⟩)]) [I X d] a λh i=>i=a/\∃e:Bool,h=ax e/\(e=af↔iE v aJ d):=by
 rw[kL];apply ad2;rw[aM E (c.b.U F),cb,ai];refine⟨λf=>⟨F,af,F,by simp[iE,f]⟩,λf=>?_⟩;rw[aM E (g.b.U F),bm,ai];refine⟨λb=>?_,λb=>⟨F,ao,F,by simp[iE,b];omega⟩⟩;rw[aM E (c.b.U F),bm];exact⟨F,_,F,by simp[iE,b];omega⟩
def ama{L a bc:List bT}{b:Nat}(d:L.drop b=a++bc)(c:Nat)(e:c<=a.length):L.take (b+c)=L.take b++a.take c:=by rw[Xh,d,nx e]
section
variable{bx v aJ:Int} {L:List bT} {bv h3 gH:Nat} {b1:aa}
structure oe (L:List bT) (bx v aJ:Int) (bv h3 gH:Nat) (b1 w:aa) (m:Nat) (r9:Nat):Prop where
 N:O b1 w
 Cn:ag w bv [I X v]
 Ck:ag w h3 [I X aJ]
 sT:ag w gH (e4 0 (aT (L.take m)) r9)
 fk:bv≠gH/\h3≠gH/\b1.heap.size<=gH
 dU:m<=L.length
 dh:∀eX,eX<m->¬iE v aJ (fp L bx (eX+1))
def oe.h{w a:aa}{m b:Nat}(h:oe L bx v aJ bv h3 gH b1 w m b)(e:O w a):oe L bx v aJ bv h3 gH b1 a m b:=⟨h.N.a e,h.Cn.h e,h.Ck.h e,h.sT.h e,h.fk,h.dU,h.dh⟩
def oe.dk{x:gP}{f:aa}{a i:Nat}{j:aa->Prop}(b:oe L bx v aJ bv h3 gH b1 f a i)(m:∀n∈L,fz n)(o:L.length<=1000000)(c:Nat)(p:x=aT (L.take (a+c)))(q:a+c<=L.length)(r:¬iE v aJ (fp L bx (a+c)))
 (s:∀d,oe L bx v aJ bv h3 gH b1 d (a+c) i->f.grownBy d (J gH)->j d):c4 Y 157 (ad (J ⟨gH,0+1,ac⟩)) (al (br x).toArray) f j:=by
 subst p;have t:=b.sT;refine aZ (cS:=br (aT (L.take (a+c)))) k1 g t F F (by simp[e4,br]) (kD _) λd z e u=>?_;have fk:=b.fk;refine s d ⟨b.N.ab e (by rintro _ ⟨⟩;exact fk.2.2),b.Cn.ab e (by intro h;cases h;exact fk.1 F),b.Ck.ab e (by intro h;cases h;exact fk.2.1 F),u,fk,q,λk A l=>?_⟩ e;by_cases w:k<a
 ·exact b.dh k w l
 ·exact r (l.up (al9 m o bx G))
end
section
variable{bx v aJ:Int} {L:List bT} {bv h3 gH H:Nat} {b1:aa}
def Of(L:List bT)(bx v aJ:Int)(bv h3 gH H:Nat)(b1:aa)(c:List Z)(f:aa):Prop:=
 ∃a d,oe L bx v aJ bv h3 gH b1 f a d/\d<=H/\((c=[gA]/\a=L.length)\/∃e g b bc,c=[k8 e]/\f_ b1 0 e g b/\L.drop a=b++bc/\(bc=[]\/iE v aJ (fp L bx (a+b.length))))
def IH(L:List bT)(bx v aJ:Int)(bv h3 gH H:Nat)(b1:aa)(e:Nat)(f:List Z)(h:aa):Prop:=
 ∃a b,oe L bx v aJ bv h3 gH b1 h a b/\((f=[gA]/\e=0/\a=L.length/\b<=H)\/
  ∃c g i d bc,f=[k8 g]/\e=c+1/\f_ b1 c g i d/\L.drop a=d++bc/\(bc=[]\/iE v aJ (fp L bx (a+d.length)))/\b+(c+1)<=H)
def agD{x:Z}{aG:Nat}(aH:∀aI∈L,fz aI)(aP:L.length<=1000000)(aU:0<=bx)(aV:bx<=3)(bK:H<=1000){n:aa}{aW:Nat}(aY:IH L bx v aJ bv h3 gH H b1 aW [x] n){ar:List Z->aa->Prop}(au:∀e n,Of L bx v aJ bv h3 gH H b1 e n->ar e n):
 ba [x] 1 aG n λe _ n bd=>Jz ar bd (I X bx) (ad (J ⟨gH,0,ac⟩)) (fq (hE 270) #[] #[ad (J ⟨bv,0,ac⟩),ad (J ⟨h3,0,ac⟩)]) (av e) n:=by
 refine ba.bJ (IH L bx v aJ bv h3 gH H b1) ⟨_,aY⟩ ?_;rintro bL e A n ⟨o,t,j,be⟩;unfold Jz;rcases be with⟨rfl,rfl,bg,aw⟩|⟨B,bh,bM,ay,bc,rfl,rfl,hd,Q,az,aw⟩
 ·rw[av,Vc EE (.inl F)];exact au _ _ ⟨o,t,j,aw,.inl ⟨F,bg⟩⟩
 have bi:=j.N;rw[av,Vc EE (TO bh),TL,DB,hV,aj PG,aM E (j.sT.b.f 7 F),aD,aj PG];have bj:=j.sT;have fk:=j.fk;refine aZ (cS:=[I X ((t:Int)+1)]) bw g bj F F (by simp[e4,br]) (by simp;rfl) λa0 bN R bk=>?_;have S:oe L bx v aJ bv h3 gH b1 a0 o (t+1):=⟨bi.ab R (by rintro _ ⟨⟩;exact fk.2.2),j.Cn.ab R (by intro U;cases U;exact fk.1 F),j.Ck.ab R (by intro U;cases U;exact fk.2.1 F),bk,fk,j.dU,j.dh⟩;have bl:o+(ay.length+bc.length)=L.length:=by have:=ck gB Q;rw[cO,bf]at this;have:=j.dU;omega
 cases B with
 |zero=>obtain⟨V,bm,rfl,bO,bs,rfl,a2,C⟩:=zF hd;obtain⟨bP,bu⟩:=z1 (P:=Y) (T:=319) (v:=ad (J ⟨V,0,ac⟩)) (B:=322) lX g;rw[vT,bu,aN,aO,dD,DB,hV];exact au _ _ ⟨o,t+1,S,G,.inr ⟨(af,V),_,ay,bc,F,hd,Q,az⟩⟩
 |succ B=>
  obtain⟨V,bm,d,rfl,bS,bs,rfl,a2,C,rfl,bz⟩:=xK hd;have a3:=S.N;rw[um,te lX,aN,aO,dD,HU,cw,bn,aj qI,aM qE ((a2.h a3).U F),aS hK (C.h a3),b_];refine ba.y (λe p=>∃b:Nat,e=[gA,I X b]/\b<=d.length/\oe L bx v aJ bv h3 gH b1 p (o+((d.take b).flatMap (·.2.2)).length) (t+1)/\(0<b->¬iE v aJ (fp L bx (o+((d.take b).flatMap (·.2.2)).length))))
   (λe _=>match e with|[_,I _ b0]=>(d.length-b0).toNat|_=>0) ⟨0,F,G,by simpa using S,G⟩ ?_
  rintro e A p ⟨b,rfl,bT,q,W⟩;unfold Qb;have D:=q.N;rw[av,bA,av,aR,ai];refine⟨λbU=>?_,λbV=>?_⟩
  ·obtain⟨a,y⟩:∃a,d[b]? =J a:=⟨_,aX G⟩;have a4:=cl y;obtain⟨bW,ah⟩:=bz a a4;have bX:=Kx a4;have a5:(d.take b).flatMap (·.2.2)++(a.2.2++(d.drop (b+1)).flatMap (·.2.2))=d.flatMap (·.2.2):=by
    conv=>rhs;rw[<-fi b d,jw y]
    rw[hG,iB]
   have b2:=ck gB a5;rw[bf,bf]at b2;have a7:((d.take (b+1)).flatMap (·.2.2)).length=((d.take b).flatMap (·.2.2)).length+a.2.2.length:=by rw[gp y,hG,sj,bf]
   have ak:L.drop (o+((d.take b).flatMap (·.2.2)).length)=a.2.2++((d.drop (b+1)).flatMap (·.2.2)++bc):=by rw[<-jF,Q,<-a5,cX,cX,uQ]
   obtain⟨bY,bZ,b3,b4⟩:=(C.h D).m (o_ y);rw[cr hK kv G (C.h D) (o_ y) F,b3,aM qF (b4.U F)];generalize a8:o+((d.take b).flatMap (·.2.2)).length=f at q W ak;have b5:eM (aT (L.take f)) (aT a.2.2)=aT (L.take (f+a.2.2.length)):=by rw[ama ak _ (a6 _),cI,QB]
   have ca:=q.dU;have am:qu (aT (L.take f)) (aT a.2.2):=qu.aR (by rw[bt];omega) G;refine bG.y (λe u=>O p u/\∃c,e=[ad (J ⟨c,0,ac⟩)]/\ag u c (br (aT (L.take (f+a.2.2.length))))/\c≠gH) ?_ ?_
   ·have cb:=q.sT.D;apply bE.h;have r:O p p.drew:=(O.p p).C;have an:∀(c:Nat) s i,O p s->c=s.heap.size->O s i->ag i c (br eZ)->
     c4 Y 157 (ad (J ⟨c,0,ac⟩)) (al (br (eM (aT (L.take f)) (aT a.2.2))).toArray) i λu=>O p u/\∃ap,[ad (J ⟨c,0,ac⟩)]=[ad (J ⟨ap,0,ac⟩)]/\ag u ap (br (aT (L.take (f+a.2.2.length))))/\ap≠gH:=by
     intro c s i k m h b6;have:=k.size;refine aZ (cS:=br (eM (aT (L.take f)) (aT a.2.2))) k1 g b6 F F (by simp[br]) (kD _) λu cd b7 b8=>?_;exact⟨(k.a h).ab b7 (by rintro _ ⟨⟩;omega),c,F,by rw[<-b5];exact b8,G⟩
    rw[aK (λa0 ce cf=>aj k0) r,gX (S:=br (aT (L.take f))) jN (q.sT.b.sub 1 6) F r];refine⟨?_,?_⟩
    ·refine(Ah ((ah.h D).h r)).o ?_;rintro w s ⟨k,rfl⟩;have K:=r.a k;refine⟨K,?_,?_⟩
     ·refine(tU am).o ?_;rintro w i ⟨h,rfl⟩;have aq:=K.a h;refine⟨aq,?_⟩;refine bo kc λc M m aA l z=>⟨aq.a l,?_⟩;exact an c i M aq m l z
     ·refine bo kc λc M m aA l z=>⟨K.a l,?_⟩;refine(tU am).o ?_;rintro w i ⟨h,rfl⟩;exact an c s i K m (l.a h) (z.h h)
    ·refine bo kc λc M m aA l z=>⟨r.a l,?_⟩;refine(Ah (((ah.h D).h r).h l)).o ?_;rintro w s ⟨k,rfl⟩;refine⟨(r.a l).a k,?_⟩;refine(tU am).o ?_;rintro w i ⟨h,rfl⟩;exact an c _ i r m ((l.a k).a h) ((z.h k).h h)
   rintro e A s ⟨k,c,rfl,m,cg⟩;unfold P9;have bB:=q.h k;rw[av,aF (S:=br (aT (L.take (f+a.2.2.length)))) jN m.b F];refine(C3 _ aU aV).o ?_;rintro w i ⟨h,rfl⟩;have P:=bB.h h;refine mz (λw M bC=>?_) (Un P.Cn P.Ck _);obtain⟨rfl,ch,rfl,aB⟩:=bC;rw[dQ];refine⟨λbD=>?_,λaC=>?_⟩
   ·exact⟨B+1,G,f,t+1,P,.inr ⟨B,a.1,a.2.1,a.2.2,_,F,F,ah,ak,.inr (aB.1 bD),G⟩⟩
   ·have aE:¬iE v aJ (fp L bx (f+a.2.2.length)):=λbF=>by rw[aB.2 bF]at aC;cases aC
    rw[aF (S:=br (aT (L.take (f+a.2.2.length)))) jN ((m.h h).b) F,aj k0];refine P.dk aH aP a.2.2.length F G aE λci bH _=>?_;rw[aD];refine⟨⟨b+1,ae,G,?_,λ_=>?_⟩,by simp only [];omega⟩
    ·rw[a7,<-j4,a8];exact bH
    ·rw[a7,<-j4,a8];exact aE
  ·obtain rfl:b=d.length:=G;rw[cI]at q W;refine⟨0,G,_,t+1,q,.inl ⟨F,F,?_,G⟩⟩;rcases az with rfl|bI
   ·rw[lk]at bl;omega
   ·exact aL bI (W G)
end
section
variable{bx v aJ:Int} {L:List bT} {bv h3 gH H:Nat} {b1:aa}
def ah7{x:Z}{ar:Nat}(au:∀d∈L,fz d)(aw:L.length<=1000000)(ay:0<=bx)(az:bx<=3){u:aa}{b z:Nat}{f bc:List bT}(Q:oe L bx v aJ bv h3 gH b1 u b z)(R:aC b1 x 7 cq f)(aU:1<=f.length)(S:L.drop b=f++bc)(a0:bc=[]\/iE v aJ (fp L bx (b+f.length))){U:List Z->aa->Prop}
 (V:∀W j,oe L bx v aJ bv h3 gH b1 j W z->ha L bx v aJ W->U [] j):
 ba [I X 0] 1 ar u λk _ u a2=>JA U a2 (I X bx) (ad (J ⟨gH,0,ac⟩)) x (I X f.length) (fq (hE 270) #[] #[ad (J ⟨bv,0,ac⟩),ad (J ⟨h3,0,ac⟩)]) (av k) u:=by
 have a3:b+(f.length+bc.length)=L.length:=by have:=ck gB S;rw[cO,bf]at this;have:=Q.dU;omega
 refine ba.y (λk A=>∃a:Nat,k=[I X a]/\a<=f.length/\oe L bx v aJ bv h3 gH b1 A (b+a) z/\(0<a->¬iE v aJ (fp L bx (b+a))))
  (λk _=>match k with|[I _ x]=>(f.length-x).toNat|_=>0) ⟨0,F,G,Q,G⟩ ?_
 rintro k ah A ⟨a,rfl,aV,s,a4⟩;unfold JA;have ak:=s.N;rw[av,aR,ai];refine⟨λaW=>?_,λaY=>?_⟩
 ·obtain⟨d,B⟩:∃d,f[a]? =J d:=⟨_,aX G⟩;obtain⟨bd,be,a5,a7⟩:=(R.h ak).m B;have a8:L[b+a]? =J d:=by
   have:(L.drop b)[a]? =J d:=by rw[S,wA G,B]
   rwa[kQ]at this
  rw[cr h9 fs G (R.h ak) B F,a5,aF lr a7 F];refine cj fP fs g F F (fe.B d) λbg p bh bi a9 aA=>?_;have C:=s.h a9;have aB:eM (aT (L.take (b+a))) (fY d)=aT (L.take (b+a+1)):=by rw[gp a8,qP]
  have D:qu (aT (L.take (b+a))) (fY d):=qu.B (by rw[bt];omega) d;refine bG.y (λk j=>O p j/\∃c,k=[ad (J ⟨c,0,ac⟩)]/\ag j c (br (aT (L.take (b+a+1))))/\c≠gH) ?_ ?_
  ·have bj:=C.sT.D;apply bE.h;have o:O p p.drew:=(O.p p).C;have E:∀(c:Nat) n h,O p n->c=n.heap.size->O n h->ag h c (br eZ)->
    c4 Y 157 (ad (J ⟨c,0,ac⟩)) (al (br (eM (aT (L.take (b+a))) (fY d))).toArray) h λj=>O p j/\∃K,[ad (J ⟨c,0,ac⟩)]=[ad (J ⟨K,0,ac⟩)]/\ag j K (br (aT (L.take (b+a+1))))/\K≠gH:=by
    intro c n h i l e aE;have:=i.size;refine aZ (cS:=br (eM (aT (L.take (b+a))) (fY d))) k1 g aE F F (by simp[br]) (kD _) λj bk aG aH=>?_;exact⟨(i.a e).ab aG (by rintro _ ⟨⟩;omega),c,F,by rw[<-aB];exact aH,G⟩
   rw[aK (λA bl bm=>aj k0) o,gX (S:=br (aT (L.take (b+a)))) jN (C.sT.b.sub 1 6) F o,gX (S:=cq d) lr aA.b F o];refine⟨?_,?_⟩
   ·refine(zH d).o ?_;rintro q n ⟨i,rfl⟩;have w:=o.a i;refine⟨w,?_,?_⟩
    ·refine(tU D).o ?_;rintro q h ⟨e,rfl⟩;have P:=w.a e;refine⟨P,?_⟩;refine bo kc λc y l am m t=>⟨P.a m,?_⟩;exact E c h y P l m t
    ·refine bo kc λc y l am m t=>⟨w.a m,?_⟩;refine(tU D).o ?_;rintro q h ⟨e,rfl⟩;exact E c n h w l (m.a e) (t.h e)
   ·refine bo kc λc y l am m t=>⟨o.a m,?_⟩;refine(zH d).o ?_;rintro q n ⟨i,rfl⟩;refine⟨(o.a m).a i,?_⟩;refine(tU D).o ?_;rintro q h ⟨e,rfl⟩;exact E c _ h o l ((m.a i).a e) ((t.h i).h e)
  rintro k ah n ⟨i,c,rfl,l,bn⟩;unfold Qa;have aI:=C.h i;rw[av,aF (S:=br (aT (L.take (b+a+1)))) jN l.b F];refine(C3 _ ay az).o ?_;rintro q h ⟨e,rfl⟩;have r:=aI.h e;refine mz (λq y aM=>?_) (Un r.Cn r.Ck _);obtain⟨rfl,bs,rfl,an⟩:=aM;rw[dQ];refine⟨λaN=>?_,λap=>?_⟩
  ·exact V (b+a) _ r ⟨r.dU,r.dh,λ_=>an.1 aN⟩
  ·have aq:¬iE v aJ (fp L bx (b+a+1)):=λaO=>by rw[an.2 aO]at ap;cases ap
   rw[aF (S:=br (aT (L.take (b+a+1)))) jN ((l.h e).b) F,aj k0];refine r.dk au aw 1 F G aq λbu aP _=>?_;rw[aD];exact⟨⟨a+1,ae,G,aP,λ_=>aq⟩,by simp only [];omega⟩
 ·obtain rfl:a=f.length:=G;have bw:b+f.length=L.length:=by
   rcases a0 with rfl|aS
   ·rw[lk]at a3;omega
   ·exact aL aS (a4 G)
  exact V _ _ s ⟨s.dU,s.dh,λbz=>G⟩
end
variable{x:Z}
def amk{c:aa}{L:List bT}{H:Nat}(g:vn c x L H):∃a,((a=gA/\L=[]/\H=0)\/∃d e h,a=k8 e/\f_ c d e h L/\H=d+1)/\∀b,O c b->ak Y 192 [x] b λi j=>j=b/\i=a:=by
 rcases g with⟨rfl,rfl,rfl⟩|⟨m,a,rfl,k,l⟩
 ·refine⟨gA,.inl ⟨F,F,F⟩,λb f=>JB ?_⟩;rw[fZ EH];exact⟨F,F⟩
 ·refine⟨a,l,λb f=>JB ?_⟩;rw[fZ EH,sk,cw,bn,aj Jm,aM qF ((k.h f).U F)];exact⟨F,F⟩
def MN{p:aa}{L:List bT}{H:Nat}{bx v aJ:Int}(C:vn p x L H)(ah:∀a8∈L,fz a8)(D:L.length<=1000000):
 ak Y 189 [x,I X bx,I X v,I X aJ] p λl m=>O p m/\((¬ij L bx v aJ/\l=a1 #[al (e4 0 eZ 0).toArray,I X 1])\/
  (ij L bx v aJ/\∃a e:Nat,ha L bx v aJ a/\e<=H/\l=a1 #[al (e4 a (aT (L.take a)) e).toArray,I X 0])):=by
 apply ad3;unfold P6;have a9:H<=1000:=by
  rcases C with⟨_,_,rfl⟩|⟨b7,aA,_,_,⟨_,_,rfl⟩|⟨b,K,M,_,hd,rfl⟩⟩
  ·omega
  ·omega
  ·have:=hd.zp D;omega
 refine bd (S:=[I X v]) F λbv n b8 bA u aB=>?_;refine bd (S:=[I X aJ]) F λh3 bB bC bD w aC=>?_;refine bo ml λbF bH bI bJ P aD=>?_;have am:=(u.a w).a P;refine(uJ (C.Hi.h am)).o ?_;rintro l bK ⟨q,rfl⟩;refine cj (cS:=br (aT L)) kc k1 g F F (kD _) λbL y bM bN z aE=>?_;have bO:=q.size;have aG:=(am.a q).a z;have Q:=((((aB.h w).h P).h q).h z);have R:=(((aC.h P).h q).h z);have an:=((aD.h q).h z);refine bG.y (λo m=>O y m/\∃S:Bool,o=[ax S]/\(S=af↔¬ij L bx v aJ)) ?_ ?_
 ·apply bE.h;have d:O y y.drew:=(O.p y).C;rw[aK (λn h r=>aR _ _) d,ai];refine⟨λb=>⟨d,af,F,by simp[ij];omega⟩,λh=>?_⟩;rw[aK (λn h r=>cb _ _) d,ai];refine⟨λb=>⟨d,af,F,by simp[ij];omega⟩,λap=>?_⟩;rw[dR E (Q.b.U F) d,aK (λn h r=>aR _ _) d,ai];refine⟨λb=>⟨d,af,F,by simp[ij];omega⟩,λbP=>?_⟩;rw[dR E (Q.b.U F) d,gX (S:=br (aT L)) jN aE.b F d];refine(C3 _ G G).o ?_;rintro l s ⟨i,rfl⟩;have f:=d.a i;refine⟨f,?_⟩;rw[aK (λn h r=>cb _ _) f,ai];refine⟨λb=>⟨f,af,F,by simp[ij];omega⟩,λbQ=>?_⟩;rw[dR E (R.b.U F) f,aK (λn h r=>bs _ _) f,bu];refine⟨λaH=>?_,λaH=>⟨f,ao,F,by simp[ij];omega⟩⟩;rw[dR E (R.b.U F) f,aK (λn h r=>bs _ _) f];exact⟨f,_,F,by simp[ij];omega⟩
 rintro o k s ⟨i,S,rfl,aq⟩;unfold P7;have A:=aG.a i;rw[av,dQ];refine⟨λaI=>?_,λar=>?_⟩
 ·rw[bz (S:=e4 0 eZ 0) (iR:=[]) ml P1 F F];refine aZ mj g (an.h i) (cS:=e4 0 eZ 0) F F ae (mq _ _ _) λau aP aU aV=>?_;rw[aF (S:=e4 0 eZ 0) yE aV.b F];have aW:=(u.a w).size;exact⟨F,A.ab aU (by rintro _ ⟨⟩;omega),.inl ⟨aq.1 aI,F⟩⟩
 have t:ij L bx v aJ:=Classical.byContradiction λb=>by rw[aq.2 b]at ar;cases ar
 rw[jZ,bz (S:=e4 0 eZ 0) (iR:=[]) ml P1 F F];refine cj (cS:=e4 0 eZ 0) ml mj g F F (mq _ _ _) λgH au bR aP B U=>?_;have bS:=i.size;have bU:=u.size;obtain⟨aA,aY,ba⟩:=amk (C.h A);refine(ba au B).o ?_;rintro l aw ⟨rfl,rfl⟩;have ay:oe L bx v aJ bv h3 gH s aw 0 0:=⟨B,(Q.h i).h B,(R.h i).h B,U,⟨G,G,G⟩,G,λbV bW=>G⟩;refine bG.y (Of L bx v aJ bv h3 gH H s) ?_ ?_
 ·have V:∃az,IH L bx v aJ bv h3 gH H s az [l] aw:=by
   rcases aY with⟨rfl,be,rfl⟩|⟨b,K,M,rfl,hd,rfl⟩
   ·exact⟨0,0,0,ay,.inl ⟨F,F,by rw[be];rfl,G⟩⟩
   ·exact⟨b+1,0,0,ay,.inr ⟨b,K,M,L,[],F,F,hd,ae,.inl F,G⟩⟩
  obtain⟨az,V⟩:=V;exact agD ah D t.1 t.2.1 a9 V λo p b=>b
 rintro o k bX ⟨bg,e,c,bh,bi⟩;unfold P8;refine bG.y (λo m=>∃a:Nat,oe L bx v aJ bv h3 gH s m a e/\ha L bx v aJ a) ?_ ?_
 ·rcases bi with⟨rfl,bY⟩|⟨K,M,bZ,bc,rfl,hd,bj,bk⟩
  ·obtain⟨ca,bl⟩:=CQ (P:=Y) (T:=319) kt;rw[av,bl,aN,aO,cw];exact⟨bg,c,c.dU,c.dh,λb=>G⟩
  ·obtain⟨ce,cf,rfl,bm,a0,rfl,b0,a2⟩:=zF hd;have a3:=c.N;rw[av,vT,te kt,aN,aO,hV,bn,aj tM,aM tG ((b0.h a3).U F),aS h9 (a2.h a3)];exact ah7 ah D t.1 t.2.1 c a2 bm bj bk λa m h ap=>⟨a,h,ap⟩
 rintro o k cg ⟨a,c,b1⟩;unfold P_;have a4:=c.N;have fk:=c.fk;have b2:(aT (L.take a)).z=a:=by rw[pZ,bt];have:=c.dU;omega
 rw[aj k0,aj w4,aM E (c.sT.b.f 1 F),aj tL];have U:=c.sT;refine aZ (cS:=[I X (aT (L.take a)).z]) bw g U F F (by simp[e4,br]) (by simp;rfl) λa5 ch a7 W=>?_;have W:ag a5 gH (e4 (aT (L.take a)).z (aT (L.take a)) e):=W;rw[aF (S:=e4 (aT (L.take a)).z (aT (L.take a)) e) yE W.b F];have a0:=((an.h i).h a4).ab a7 (by intro b3;cases b3;omega);have b4:O p a5:=(A.a a4).ab a7 (by rintro _ ⟨⟩;have:=A.size;omega);refine aZ mj g a0 (cS:=e4 (aT (L.take a)).z (aT (L.take a)) e) F F ae (mq _ _ _) λci ck b5 b6=>?_;rw[aF (S:=e4 (aT (L.take a)).z (aT (L.take a)) e) yE b6.b F,b2];have aW:=(u.a w).size;exact⟨F,b4.ab b5 (by rintro _ ⟨⟩;omega),.inr ⟨t,a,e,b1,bh,F⟩⟩
end
section
open Go.Lift Go.RowKit Go.bW
def gy:Y.underlying 9=J .string:=D
def Da:Y.underlying 318=J (.slice 5):=D
def Al:Y.underlying 5=J (.int .u8):=D
def V4:(Y.underlying 21).isSome=true:=D
def V8:(Y.info? 5).map (·.zero)=J (J (I .u8 0)):=D
abbrev gI(r:Int):List Value:=[I cc r]
def ix:eR gI 1:=⟨λ_=>F,λb c a=>by simp at a;subst a;rfl⟩
def hJ(w:aa):Prop:=cA w 2 0 [I cc 127,I cc 2047,I cc 65535,I cc 1114111]
def hJ.h{w a:aa}(h:hJ w)(e:O w a):hJ a:=cA.h h e
variable{x:aa}
def amC(b:hJ x)(a:Int):ak Y 237 [I cc a] x λc d=>d=x/\c=ax (decide (dP a)):=by apply aeI;rw[eE,ai];refine⟨λe=>?_,λe=>⟨F,by rw[db];unfold dP;omega⟩⟩;have f:x.cell? ⟨2,0+3*1,ac⟩=J (I cc 1114111):=cA.f b 3 F;rw[eO (i:=3) (z:=3) acG gm G G F,aM iG f,fg,ai];refine⟨λg=>?_,λg=>⟨F,by rw[db];unfold dP;omega⟩⟩;rw[aR,ai];refine⟨λh=>⟨F,by rw[eK];unfold dP;omega⟩,λh=>?_⟩;rw[cb];refine⟨F,?_⟩;congr 1;apply decide_eq_decide.2;unfold dP;omega
def x9(l:List UInt8)(Q:l.length<=10000000):ak Y 96 [co l] x λs j=>O x j/\ar j x.heap.size 21 1 s gI (bY l):=by
 apply aeF;have R:e0=9223372036854775807:=rfl;refine Aa gy λa S U W t u=>?_;refine ba.bJ (λk m c=>O x c/\a<c.heap.size/\∃(pos:Nat) (v:Z) (b:List Int),k=l.length-pos/\m=[v]/\pos<=l.length/\jt c a l pos/\ar c (a+1) 21 1 v gI b/\bY l=b++bY (l.drop pos))
  ⟨l.length-0,t,G,0,_,[],F,F,G,u,ar.nil _ _ _ _ _,ae⟩ ?_
 rintro k m ag c ⟨n,ah,pos,v,b,rfl,rfl,ai,o,d,e⟩;rw[av];have aj:b.length<=10000000:=by have w:=nr l;rw[e,bf]at w;omega
 by_cases y:pos<l.length
 ·refine x1 o y λz am p A=>?_;have q:l.drop pos≠[]:=λB=>by have:=ck gB B;rw[cO]at this;simp at this;omega
  have C:=sK _ q;rw[cO]at C;rw[aN,hV,pc];refine f0 (n:=1) (V:=gI) (L:=[((cF (l.drop pos)).1:Int)]) (iR:=[(0,gI (cF (l.drop pos)).1)]) di gm F mZ g g ix F F λau aw ay D f az=>?_;have E:ar z (a+1) 21 1 v gI b:=d.ab p (by
   cases H:v.ownBlock with
   |none=>exact .inl F
   |some r=>exact .inr (by intro h;cases h;have:=d.D a H;omega))
  have a0:=f.size;refine jC di gm g mZ F ix (E.h f) G (D.aI ix) (by simp;omega) (by rw[rt];simp;omega) λK a2 L i _=>?_;have M:J a≠v.ownBlock:=λh=>by have:=d.D a h.symm;omega
  refine⟨l.length-(pos+(cF (l.drop pos)).2),G,((n.ab p (by rintro _ ⟨⟩;omega)).a f).ab i (λr P=>by have:=d.D r P;omega),by have:=i.size;omega,pos+(cF (l.drop pos)).2,K,b++[((cF (l.drop pos)).1:Int)],F,F,G,(A.h f).ab i M,L,?_⟩;rw[e,wa q,jF,cX]
  rfl
 ·obtain rfl:pos=l.length:=G;rw[CX o G,aN,cw];rw[mc,ta,cT]at e;rw[e];exact⟨n,d.o G⟩
variable{v:Z}
def Wa{e:List Int}(o:hJ x)(g:aC x v 1 gI e)(C:e.length<=10000000):ak Y 170 [v] x λm h=>O x h/\m=co (a8 e):=by
 apply aeG;rw[aS di g];refine ba.y (λa d=>O x d/\∃(i:Nat) (j:Z),a=[j,I X i]/\i<=e.length/\fH d x.heap.size 5 1 j iw (a8 (e.take i))/\(a8 (e.take i)).length<=4*i)
  (λa _=>match a with|[_,I _ p]=>(e.length-p).toNat|_=>0) ⟨O.p x,0,_,F,ec _,fH.nil _ _ _ _ _,by simp[a8]⟩ ?_
 rintro a q d ⟨c,i,j,rfl,D,f,E⟩;rw[av,bA,av,aR,ai];refine⟨λH=>?_,λK=>?_⟩
 ·obtain⟨b,k⟩:∃b,e[i]? =J b:=⟨_,aX G⟩;obtain⟨L,M,r,s⟩:=(g.h c).m k;rw[cr di gm G (g.h c) k F,r,aM (v:=I cc b) iG (s.U F)];refine bG.y (λa h=>h=d/\a=[I cc (uo b)]) ?_ ?_
  ·refine(amC (o.h c) b).o ?_;rintro m t ⟨rfl,rfl⟩;rw[dD,bu];exact⟨λl=>⟨F,by unfold uo;rw[an l]⟩,λl=>⟨F,by unfold uo;rw[au l]⟩⟩
  rintro a q d ⟨rfl,rfl⟩;have u:=sP b;unfold bk at u;rw[av,ak7 V4 gy,Fk];refine U8 yH gy y1 y4 V8 O3 f c.size G λw t y z=>?_;rw[aD];have n:a8 (e.take (i+1))=a8 (e.take i)++V b:=by rw[gp k,kM,r7,uK,cT]
  refine⟨⟨c.ab z (λA B=>(f.D A B).1),i+1,w,ae,G,by rw[n];exact y,by rw[n,bf];omega⟩,by simp only [];omega⟩
 ·obtain rfl:i=e.length:=G;rw[cI]at f;rw[CT Da Al gy (f.aI nK)];exact⟨c,F⟩
def amD{e:List UInt8}{n:Nat}(u:n<e.length)(v:e.length<=10000000):ak Y 332 [co e,I X n] x λm o=>O x o/\m=a1 ⟨[I cc (cF (e.drop n)).1,I X (cF (e.drop n)).2]⟩:=by
 apply aeH;rw[aR,du G,mA gy,eE,du G,alk gy F G];have p:e.drop n≠[]:=λb=>by have:=ck gB b;rw[cO]at this;simp at this;omega
 have w:=sK _ p;have y:(e.drop n).length=e.length-n:=cO ..;generalize z:e.drop n=a at*;refine Aa gy λf A B C q r=>?_;refine ba.bJ (λg h c=>O x c/\f<c.heap.size/\((g=1/\jt c f a 0/\h=[I cc 0])\/(g=0/\jt c f a (cF a).2/\h=[I cc (cF a).1]))) ⟨1,q,G,.inl ⟨F,r,F⟩⟩ ?_;rintro g h D c ⟨i,E,b|b⟩
 ·obtain⟨rfl,d,rfl⟩:=b;refine x1 d G λs t j k=>?_;rw[av,aN,hV,aO,pc,cb,du G];rw[h6,hW]at k;exact⟨0,G,i.ab j (by rintro _ ⟨⟩;omega),G,.inr ⟨F,k,by rw[h6]⟩⟩
 ·obtain⟨rfl,d,rfl⟩:=b;by_cases l:(cF a).2<a.length
  ·refine x1 d l λs t j k=>?_;rw[av,aN,hV,aO,pc,cb,h4 G];exact⟨i.ab j (by rintro _ ⟨⟩;omega),F⟩
  ·rw[av,CX d l,aN,cw,mA gy,cd];refine⟨i,?_⟩;have:(e.length:Int)-n=((cF a).2:Nat):=G;rw[this]
def cK(l:List Int):Nat:=l.countP (·==10)
def sZ(a b:List Int):cK (a++b)=cK a+cK b:=List.countP_append ..
def dL(l:List Int):bT:=⟨0,0,(a8 l).length,l.length,cK l,0,⟨(a8 l).toArray⟩⟩
def kN(l:List Int):l.length<=(a8 l).length/\(a8 l).length<=4*l.length:=by
 induction l with
 |nil=>simp[a8]
 |cons a l ih=>have:=sP a;unfold bk at this;rw[r7,bf,d1];omega
def xM(a:List Int):cK a<=a.length:=List.countP_le_length
def ajL{e:List Int}(K:hJ x)(d:aC x v 1 gI e)(au:e.length<=1000000):ak Y 167 [v] x λt L=>O x L/\t=al (cq (dL e)).toArray:=by
 apply abN;refine bo fP λu aw ay az j M=>?_;refine(Wa (K.h j) (d.h j) G).o ?_;rintro t a0 ⟨n,rfl⟩;have P:=j.a n;have a2:=kN e;rw[bz (S:=cq ⟨0,0,0,0,0,0,⟨(a8 e).toArray⟩⟩) (iR:=[(4,[co (a8 e)])]) fP xa F F];refine cj (cS:=cq ⟨0,0,0,0,0,0,⟨(a8 e).toArray⟩⟩) fP fs g F F (fe.B _) λQ a4 a5 a7 y z=>?_;have A:=P.a y;have a9:=j.size;have aA:=n.size;rw[aj tK,aM (v:=co (a8 e)) ga (z.b.f 6 F),mA gy,aS di (d.h A),aj tJ,eO (i:=0) (z:=0) eT bw G G F];refine aZ (cS:=[I X (a8 e).length]) bw g z F F (by simp[cq]) (by simp;rfl) λaB aE R S=>?_;rw[aj tJ,eO (i:=1) (z:=1) eT bw G G F];refine aZ (cS:=[I X e.length]) bw g S F F (by simp[cq,dE]) (by simp;rfl) λB aG U V=>?_;have C:=eN R U;have D:O x B:=A.ab C (by rintro _ ⟨⟩;omega);have h:ag B u (cq hD):=((M.h n).h y).ab C (by intro p;cases p;omega);rw[aS di (d.h D)];refine ba.y (λk l=>O x l/\ag l u (cq hD)/\∃a:Nat,k=[I X a]/\a<=e.length/\ag l Q (cq ⟨0,0,(a8 e).length,e.length,cK (e.take a),0,⟨(a8 e).toArray⟩⟩))
  (λk _=>match k with|[I _ W]=>(e.length-W).toNat|_=>0) ⟨D,h,0,F,ec _,V⟩ ?_
 rintro k f l ⟨i,h,a,rfl,aH,b⟩;rw[av,aR,ai];refine⟨λaI=>?_,λaJ=>?_⟩
 ·obtain⟨c,q⟩:∃c,e[a]? =J c:=⟨_,aX G⟩;obtain⟨aK,aL,ah,am⟩:=(d.h i).m q;have H:cK (e.take (a+1))=cK (e.take a)+cK [c]:=by rw[gp q,sZ]
  have ap:=xM (e.take a);rw[bt]at ap;rw[cr di gm G (d.h i) q F,ah,aM (v:=I cc c) iG (am.U F),bm,ai];refine⟨λr=>?_,λr=>?_⟩
  ·rw[aj tJ,eO (i:=2) (z:=2) eT bw G G F,aM (v:=I X (cK (e.take a):Nat)) E (b.b.f 4 F),aD,aj tJ,eO (i:=2) (z:=2) eT bw G G F];refine aZ (cS:=[I X ((cK (e.take a):Nat)+1)]) bw g b F F (by simp[cq]) (by simp;rfl) λaq ar m s=>?_;have aN:=b.D;rw[aD];refine⟨⟨i.ab m (by rintro _ ⟨⟩;omega),h.ab m (by intro p;cases p;omega),a+1,ae,G,?_⟩,by simp only [];omega⟩;rw[H,show cK [c]=1 by rw[r];rfl];exact s
  ·rw[aD];refine⟨⟨i,h,a+1,ae,G,?_⟩,by simp only [];omega⟩;rw[H,show cK [c]=0 by unfold cK;rw[List.countP_singleton];rw[an (by simpa using r)]];exact b
 ·obtain rfl:a=e.length:=G;rw[cI]at b;rw[aF (S:=cq (dL e)) lr b.b F];refine aZ fs g h (cS:=cq (dL e)) F F (by simp[cq]) (fe.B _) λaq ar m s=>?_;rw[aF (S:=cq (dL e)) lr s.b F];exact⟨F,i.ab m (by rintro _ ⟨⟩;omega),F⟩
end
end Go.Proofs.YtoddhldofgfdmaaGreatDoor
namespace Go.Lift
open Go Go.RowKit Go.ChangeShapes Go.WideShapes Go.ChangeAt
section
variable{H:Type} {V:cv×Z->H} {P:bq}
def VM{d l:aa}(m:laidOutB P=af)(n:O d l):∀(a:List cv) (e:List Z) (f:List (qq H)) (b:List sm),a.all (λh=>P.readableRec h&&Nat.blt h P.types.size)=af->
 DataW.TrodAll V P d 0 (λ_=>af) af a e f b->(∀c∈b,c.block<d.heap.size)->DataW.TrodAll V P l 0 (λi=>decide (i<d.heap.size)) af a e f b
 |[],e,f,b,_,j,_=>by obtain⟨rfl,rfl,rfl⟩:=trodAll_nil j;exact trodAll_mk0
 |h::a,e,f,b,g,j,o=>by obtain⟨t,p,u,q,v,i,rfl,rfl,rfl,r,s⟩:=trodAll_cons j;rw[List.all_cons,fb,fb,Nat.blt_eq]at g;exact anD (Below.trod m g.1.1 g.1.2 r n λc k=>o c (hY _ k)) (VM m n a p q i g.2 s λc k=>o c (lo _ k))
variable{n:Nat}
def LC{x:Func}{e c:aa}{d:List sm}{a:ChangeSpec}{args:Array Z}{b l:List (qq H)}(m:laidOutB P=af)(o:x.resultTypes= #[n])(p:P.underlying n=J .bool)
 (q:x.params.toList.all (λh=>P.readableRec h&&Nat.blt h P.types.size)=af)(i:a.vars=[])(f:a.fn H b={results:=[.lit (.bool af)],args:=b})
 (g:DataW.Whole V P x.params.toList a.vars ao e args.toList b l d)(j:O e c):a.post V P x ao af ao ao e args (ax af) c:=by
 have r:=g.lt;have s:=g;obtain⟨t,z,u,k,rfl,A,B⟩:=g;rw[i]at k;obtain⟨rfl,rfl⟩:=trodVars_none k;refine⟨b,[],_,[],t,[],s,?_,?_,?_,j.frame _,λv=>by cases v⟩
 ·rw[cT,f,o];exact anD (shut_bool p _) trodAll_mk0
 ·rw[cT,f];exact VM m j _ _ _ _ q u λw y=>r w (by simpa using y)
 ·rw[cT,f,i]
  rfl
variable{x:aa}
def af1{e:Addr}{c:List Z}(b:x.cells? 0 e n=J c):c.length=n/\∀a d,c[a]? =J d->x.cell? (e.add a)=J d:=by
 unfold World.cells? at b;rw[au (ec _)]at b;have f:=anF b;refine⟨by simpa using f,λa d g=>?_⟩;have i:a<n:=by
  have:=(dS.1 g).1;rw[f]at this
  simpa using this
 obtain⟨k,h,j⟩:=Lib.mapM_at b a a (by simp[i]);rw[g]at h;cases h;exact j
variable{k i:Nat}
def T1{e:Option Addr}{t:Nat}{j:List sm}{c:Nat->Bool}{α:Type}{T:Nat}{d:qq H}{hd:Bool}{m:α->List Z}{z:α->Prop}(ag:ew P T=J n)(v:cg P n=k)(a8:0<k)
 (ah:∀w y o,wF V P x 0 c hd w n y=J o->y.length=k->∃b,y=m b/\z b)(ai:Xk V P x 0 c hd T (aQ e i t) d j):
 ∃g:List α,aC x (aQ e i t) k m g/\∀o∈g,z o:=by
 have L:=hf ag;have aj:P.cellsOf n=k:=by
  unfold cg at v;unfold Program.cellsOf;cases f:P.info? n with
  |none=>rw[f]at v;dsimp only at v;omega
  |some a=>rw[f]at v;simpa using v
 obtain⟨w,p⟩:=ai;cases w with
 |zero=>simp[wF]at p
 |succ w=>
  cases e with
  |none=>
   have l:i=0/\t=0:=by cases i<;>cases t<;>simp[wF,L,Value.cells]at p⊢
   obtain⟨rfl,rfl⟩:=l;exact⟨[],aC.nil x k m,ae⟩
  |some q=>
   simp only [Value.cells,wF,L]at p;split at p
   ·rename_i M
    obtain⟨a9,aA,ak⟩:=M;simp only [W1]at p;obtain⟨am,O,_⟩:=p;have aB:am.length=i:=by simpa using anF O
    have Q:∀a:Nat,a<i->∃b:α,(∀r h,(m b)[r]? =J h->x.cell? ((q.add (a*k)).add r)=J h)/\(m b).length=k/\z b:=by intro a f;obtain⟨an,M,ap⟩:=Lib.mapM_at O a a (by simp[f]);obtain⟨y,R,aq⟩:=W1.1 ap;rw[aj]at R;obtain⟨S,ar⟩:=af1 R;obtain⟨b,rfl,D⟩:=ah w y an aq S;exact⟨b,ar,S,D⟩
    obtain⟨A,B⟩:∃A:Nat->Option α,∀a,a<i->∃b,A a=J b/\(∀r h,(m b)[r]? =J h->x.cell? ((q.add (a*k)).add r)=J h)/\(m b).length=k/\z b:=by refine⟨λa=>if f:a<i then J (Classical.choose (Q a f))else ac,λa f=>⟨_,dif_pos f,Classical.choose_spec (Q a f)⟩⟩
    have au:∃g:List α,g.length=i/\∀a b,g[a]? =J b->A a=J b:=by
     have:∀s,s<=i->∃g:List α,g.length=s/\∀a b,g[a]? =J b->A a=J b:=by
      intro s
      induction s with
      |zero=>intro _;exact⟨[],F,ae⟩
      |succ s ih=>
       intro aD;obtain⟨g,U,av⟩:=ih G;obtain⟨b,u,_⟩:=B s G;refine⟨g++[b],by simp[U],λa aw l=>?_⟩;rw[Nq]at l;split at l
       ·exact av a aw l
       ·rename_i aE
        have:a=s:=by have:=(dS.1 l).1;simp at this;omega
        subst this;rw[U,pn]at l;simp at l;rw[<-l];exact u
     exact this i (a6 _)
    obtain⟨g,E,W⟩:=au;refine⟨g,⟨J q,t,by rw[E],G,ak,λa o C=>?_⟩,λo C=>?_⟩
    ·have f:a<i:=by rw[<-E];exact(dS.1 C).1
     obtain⟨b,u,ay,aF,_⟩:=B a f;rw[W a o C]at u;cases u;have ab:q.spot=none:=by
      obtain⟨az,_,a0,aG,_⟩:=B 0 G;obtain⟨h,K⟩:∃h,(m az)[0]? =J h:=⟨_,aX G⟩;have:=a0 0 h K;simp only [uP]at this;have a2:(q.add 0).add 0=q:=by simp[Addr.add]
      rw[a2]at this;unfold World.cell? at this;split at this
      ·split at this
       ·cases this
       ·rename_i a3;simpa using a3
      ·cases this
     obtain⟨a4,a5,aH⟩:=q
     dsimp only at ab
     subst ab;refine⟨a4,a5,F,λr h K=>?_⟩;have:=ay r h K;rw[jf,jf]at this;exact this
    ·obtain⟨a,f⟩:=tr C;have a7:a<i:=by rw[<-E];exact(dS.1 f).1
     obtain⟨b,u,_,_,D⟩:=B a a7;rw[W a o f]at u;cases u;exact D
   ·cases p
def Lu{e:Nat}{c:List sm}{d:Nat->Bool}{α:Type}{l:Reach}{T:Nat}{a:Z}{m:qq H}{hd:Bool}{RM:α->List Z}{g:α->Prop}(h:ew P T=J e)(o:cg P e=k)(p:0<k)
 (q:Xl P x l n T a)(r:∀s b f,wF V P x 0 d hd s e b=J f->b.length=k->∃i,b=RM i/\g i)(t:Xk V P x 0 d hd T a m c):
 ∃j:List α,aC x a k RM j/\∀f∈j,g f:=by
 obtain⟨u,v,w,rfl⟩:=okWide_slice (hf h) q;exact T1 h o p r t
def Rf{α:Type}{e:α->List Z}{k:Nat}(i:∀a,(e a).length=k):∀(d:List α) (b:List Z),b.length=d.length*k->(∀c a,d[c]? =J a->(b.drop (c*k)).take k=e a)->b=d.flatMap e
 |[],b,f,_=>by simpa using f
 |j::d,b,f,g=>by
  have h:=g 0 j F;simp only [uP,h6]at h;have ih:=Rf i d (b.drop k) (by simp only [cO,f,d1,jb];omega) λc a l=>by have:=g (c+1) a (by simpa using l);rw[jF];rwa[show k+c*k=(c+1)*k from by rw[jb];omega]
  rw[iB,<-ih,<-h,fi]
variable{c d:Field}
def aka{e:Nat->Bool}{s t:hF}{hd:Bool}{f:List Z}{g:qq H×List sm}(p:P.underlying i=J (ql #[c,d]))(q:c.offset=0)(r:d.offset=1)
 (u:P.underlying c.type=J (.int s))(v:P.underlying d.type=J (.int t))(w:P.cellsOf c.type=1)(y:P.cellsOf d.type=1)(z:P.cellsOf i=2)(A:wF V P x n e hd k i f=J g):
 ∃a b,f=[I s a,I t b]/\g.1= .agg [.lit (.int s a),.lit (.int t b)]/\(Xj s a).wf=af/\(Xj t b).wf=true:=by
 obtain⟨D,E,G,rfl,h,j,l⟩:=trod_struct2 p A;rw[z]at h
 match f,h with
 |[K,L],_=>rw[q,w]at j;rw[r,y]at l;obtain⟨a,m,rfl,B⟩:=Np u j;obtain⟨b,o,rfl,C⟩:=Np v l;simp at m o;subst m o;exact⟨a,b,F,F,B,C⟩
def S3{nN:hF}{t:Nat}{e:List sm}{l:String}{da:List (Int×Int)}{bc:List (String×qq Unit)}(m:P.globalNamed l=J n)(v:(P.globals[n]?).map (·.type)=J k)(w:P.underlying k=J (.array t i))
 (y:P.cellsOf k=t*2)(z:P.underlying i=J (ql #[c,d]))(A:c.offset=0)(B:d.offset=1)(C:P.underlying c.type=J (.int nN))(D:P.underlying d.type=J (.int nN))(E:P.cellsOf c.type=1)(K:P.cellsOf d.type=1)(o:P.cellsOf i=2)
 (L:uU P x ((l,.agg (da.map λa=> .agg [.lit (.int nN a.1),.lit (.int nN a.2)]))::bc) e):
 cA x n 0 (da.flatMap λa=>[I nN a.1,I nN a.2])/\∃M,uU P x bc M:=by
 obtain⟨ai,aj,p,ak,am,O,Q,R,S,hd,U,_⟩:=L;obtain rfl:=rg (m.symm.trans Q);obtain rfl:=rg (v.symm.trans R);refine⟨?_,O,U⟩;obtain⟨g,an,_,V,W,ap,ab⟩:=anG w hd;have q:g.map (·.1)=da.map λa=>(DataW.agg [.lit (.int nN a.1),.lit (.int nN a.2)]:qq Unit):=by
  have:=ck Nr V
  simpa using this.symm
 have r:da.length=t:=by have:=ck gB q;simp at this;omega
 have ae:p.toList=da.flatMap λa=>[I nN a.1,I nN a.2]:=by
  refine Rf (k:=2) (λ_=>F) da p.toList (by rw[W,y,r]) λb ar s=>?_;have h:b<t:=by rw[<-r];exact(dS.1 s).1
  have j:=ab b h;rw[o]at j;have u:g[b]? =J g[b]:=aX G;rw[u]at j;obtain⟨au,av,ag,ah,_,_⟩:=aka z A B C D E K o j;have f:(g.map (·.1))[b]? =J (g[b]).1:=by simp[u]
  rw[q,h5,s]at f;simp only [HP,kP]at f;rw[ah]at f;simp only [DataW.agg.injEq,HO,anH,Lit.int.injEq,true_and,and_true]at f;rw[ag,f.1,f.2]
 intro b aw h;have:=anE m S b;rw[hW,this,<-Du,ae];exact h
end
abbrev sw{H:Type}(V:cv×Z->H)(P:bq)(w:aa)(sp:Nat->Bool)(hd:Bool)(e:Nat)(b:List Z->Prop):Prop:=∀c a d,wF V P w 0 sp hd c e a=J d->b a
def RY(P:bq)(T b:Nat):Option (Nat×Nat×Nat):=match P.underlying T with|some (ql c)=>(c[b]?).map λa=>(a.offset,P.cellsOf a.type,a.type)|_=>none
section
variable{H:Type} {V:cv×Z->H} {P:bq} {w:aa} {sp:Nat->Bool} {hd:Bool} {e:Nat}
def r3{k6:hF}(b:P.underlying e=J (.int k6)):sw V P w sp hd e λc=>∃a:Int,c=[I k6 a]/\(Xj k6 a).wf=true:=λ_ _ _ d=>by obtain⟨a,f,_,g⟩:=Np b d;exact⟨a,f,g⟩
def LO(b:P.underlying e=J .string):sw V P w sp hd e λc=>∃a:ByteArray,c=[lO a]/\a.size<=maxLen:=λ_ _ _ d=>by obtain⟨a,f,_,g⟩:=DataW.trod_string b d;exact⟨a,f,g⟩
def LN{α:Type}{T g:Nat}{k:α->List Z}{l:α->Prop}(m:ew P T=J e)(p:cg P e=g)(q:0<g)(r:sw V P w sp hd e λa=>∃n,a=k n/\l n):
 sw V P w sp hd T λa=>∃o:bK,a=[ay o]/\∃c:List α,aC w (ay o) g k c/\∀b∈c,l b:=λh a b d=>by
 have s:∃f i j,a=[aQ f i j]:=by
  rcases DataW.trod_slice (hf m) d with⟨rfl,_⟩|⟨f,v,x,_,_,_,_,rfl,_⟩
  ·exact⟨_,_,_,F⟩
  ·exact⟨_,_,_,F⟩
 obtain⟨f,i,j,rfl⟩:=s;obtain⟨c,t,u⟩:=T1 (d:=b.1) (j:=b.2) m p q (λh a b d _=>r h a b d) ⟨h,d⟩;exact⟨(f,i,j),F,c,t,u⟩
def nU{i off bk de g:Nat}{b:List Z}{h:qq H×List sm}(a:RY P e i=J (off,bk,de))(j:wF V P w 0 sp hd g e b=J h):b.length=P.cellsOf e/\∃c k,wF V P w 0 sp hd c de ((b.drop off).take bk)=J k:=by
 unfold RY at a;cases hu:P.underlying e with
 |none=>rw[hu]at a;cases a
 |some l=>
  rw[hu]at a;cases l<;>first|(cases a;done)|skip
  rename_i s
  simp only [sg]at a;obtain⟨m,d,n⟩:=a;cases n;obtain⟨f,c,_,_,o,p,q⟩:=DataW.trod_struct hu j;refine⟨o,c,?_⟩;have r:i<f.length:=by rw[p];exact(iz.1 d).1
  exact⟨f[i],by rw[q i m d];exact aX r⟩
def Gi{x:List sm}{g:List Z->Prop}{h:Reach}{i:Nat}{c:Z}{j:qq H}(b:sG P e=af)(d:Xl P w h i e c)(k:sw V P w sp hd e g)(f:Xk V P w 0 sp hd e c j x):∃a:List Z,c=al a.toArray/\g a:=by
 have l:∃a,c=al a:=by
  unfold sG at b;unfold Xl at d;cases hu:P.underlying e with
  |none=>rw[hu]at b;cases b
  |some m=>rw[hu]at b d;cases m<;>first|(cases b;done)|(obtain⟨a,f,_⟩:=d;exact⟨a,f⟩)
 obtain⟨a,rfl⟩:=l;obtain⟨n,o⟩:=f;exact⟨a.toList,ae,k n a.toList _ o⟩
end
def ahX{x:bq}{c:aa}{da:List Int}{nN:hF}{k t e n:Nat}{d:List sm}{j:String}{bc:List (String×qq Unit)}(l:x.globalNamed j=J k)(r:(x.globals[k]?).map (·.type)=J t)(s:x.underlying t=J (.array n e))
 (u:x.cellsOf t=n)(v:x.underlying e=J (.int nN))(w:x.cellsOf e=1)
 (y:uU x c ((j,.agg (da.map λa=> .lit (.int nN a)))::bc) d):
 cA c k 0 (da.map λa=>I nN a)/\∃z,uU x c bc z:=by
 obtain⟨R,S,A,U,V,B,C,D,E,hd,F,_⟩:=y;obtain rfl:=rg (l.symm.trans C);obtain rfl:=rg (r.symm.trans D);refine⟨?_,B,F⟩;obtain⟨f,W,_,H,K,ab,L⟩:=anG s hd;have m:f.map (·.1)=da.map λa=>(DataW.lit (.int nN a):qq Unit):=by
  have:=ck Nr H
  simpa using this.symm
 have ae:da.length=n:=by have:=ck gB m;simp at this;omega
 have M:A.toList=da.map λa=>I nN a:=by
  refine wz λb=>?_;rcases fx b n with g|g
  ·have i:=L b g;rw[w]at i;have o:f[b]? =J f[b]:=aX G;rw[o]at i;obtain⟨ag,O,P,_⟩:=Np v i;obtain⟨a,p⟩:∃a,da[b]? =J a:=⟨_,aX G⟩;have h:(f.map (·.1))[b]? =J (f[b]).1:=by simp[o]
   rw[m,h5,p]at h;simp only [HP,kP]at h;rw[P]at h;simp only [anH,Lit.int.injEq,true_and]at h;rw[h5,p,h];have q:=ck (λ(Q:List Z)=>Q[0]?) O;simp only [lN,kQ,qm]at q
   simpa using q
  ·rw[j2 (by rw[K,u];exact g),j2 (by rw[b_];omega)]
 intro b ah g;have:=anE l E b;rw[hW,this,<-Du,M];exact g
end Go.Lift
namespace Go.Proofs.YtoddhldofgfdmaaGreatDoor
section
namespace bB
open Go Go.Lift Go.RowKit Go.ChangeShapes Go.WideShapes Go.ChangeAt
def fQ:ownKnob Y.godebug=none:=D
def zy:laidOutB Y=true:=D
def ahp:Y.globalNamed "bodkin/utf.most"=J 2:=D
def ahq:(Y.globals[2]?).map (·.type)=J 505:=D
def aiP{x:aa}{e:List sm}{bc:List (String×qq Unit)}(a:uU Y x (("bodkin/utf.most",Rows.laid_bodkin_utf_most)::bc) e):hJ x/\∃b,uU Y x bc b:=
 ahX (da:=[127,2047,65535,1114111]) (nN:=cc) (t:=505) (e:=21) (n:=4) ahp ahq D D D D a
def KJ(a:List Z):Obj->Obj
 | .cells _ b c=> .cells a.toArray b c
 |d=>d
end bB
end
end Go.Proofs.YtoddhldofgfdmaaGreatDoor
namespace Go.cB
open Go
def fw(b:Nat->Bool):Nat->Nat
 |0=>0
 |a+1=>if b a then a+1 else fw b a
def fL(b:Nat->Bool):Nat->Nat->Nat
 |0,a=>a
 |c+1,a=>if b a then a else fL b c (a+1)
def cQ(b:Nat->Bool):Nat->Nat->Nat->List (Nat×Nat)
 |0,c,a=>[(c,a)]
 |d+1,c,a=>if b a then(c,a)::cQ b d (a+1) (a+1)else cQ b d c (a+1)
def ui(b:Nat->Bool)(n:Nat):List (Nat×Nat):=cQ b n 0 0
def zC(b:Nat->Bool):∀a,fw b a<=a
 |0=>a6 _
 |a+1=>by
  unfold fw;split
  ·exact a6 _
  ·have:=zC b a;omega
def xH(b:Nat->Bool):∀a,fw b a=0\/(0<fw b a/\b (fw b a-1)=af)
 |0=> .inl F
 |a+1=>by
  unfold fw;split
  ·rename_i c;exact .inr ⟨G,by simpa using c⟩
  ·exact xH b a
def Cu(c:Nat->Bool):∀b a,fw c b<=a->a<b->c a=ao
 |0,a,_,e=>G
 |b+1,a,d,g=>by
  unfold fw at d;split at d
  ·omega
  ·rename_i e
   rcases fx a b with f|f
   ·exact Cu c b a d f
   ·obtain rfl:a=b:=G
    simpa using e
def sW(b:Nat->Bool):∀c a,a<=fL b c a/\fL b c a<=a+c
 |0,a=>⟨a6 _,a6 _⟩
 |c+1,a=>by
  unfold fL;split
  ·omega
  ·have:=sW b c (a+1);omega
def sV(b:Nat->Bool):∀c a,fL b c a=a+c\/(fL b c a<a+c/\b (fL b c a)=af)
 |0,a=> .inl F
 |c+1,a=>by
  unfold fL;split
  ·rename_i d;exact .inr ⟨G,d⟩
  ·rcases sV b c (a+1)with d|d
   ·left;omega
   ·right;exact⟨G,d.2⟩
def vK(b:Nat->Bool):∀e c a,c<=a->a<fL b e c->b a=ao
 |0,c,a,g,d=>by unfold fL at d;omega
 |e+1,c,a,g,d=>by
  unfold fL at d;split at d
  ·omega
  ·rename_i h
   rcases fx c a with f|f
   ·exact vK b e (c+1) a f d
   ·obtain rfl:a=c:=G
    simpa using h
variable{x:Nat->Bool}{n k:Nat}
def FR{i:Nat}(e:k<=i)(h:i<=k+n)(f:∀c,k<=c->c<i->x c=ao)(a:i=k+n\/x i=af):fL x n k=i:=by
 have g:=sW x n k;rcases HW (fL x n k) i with b|b|b
 ·rcases sV x n k with d|d
  ·omega
  ·have:=f _ g.1 b;rw[this]at d;cases d.2
 ·exact b
 ·have:=vK x n k i e b;rcases a with a|a
  ·omega
  ·rw[this]at a;cases a
def K3(f:k<=n)(a:k=0\/x (k-1)=af)(e:∀b,k<=b->b<n->x b=ao):fw x n=k:=by
 have g:=zC x n;rcases HW (fw x n) k with c|c|c
 ·rcases a with a|a
  ·omega
  ·have:=Cu x n (k-1) G G;rw[this]at a;cases a
 ·exact c
 ·rcases xH x n with d|d
  ·omega
  ·have:=e (fw x n-1) G G;rw[this]at d;cases d.2
def wd{b:Nat->Bool}:∀{k s p:Nat},(∀a,p<=a->a<p+k->b a=ao)->cQ b k s p=[(s,p+k)]
 |0,s,p,_=>F
 |k+1,s,p,c=>by unfold cQ;rw[an (by rw[c p (a6 _) G];decide),wd λa d e=>c a G G];congr 2;omega
def x4{b:Nat->Bool}:∀{i k s p:Nat},b (p+i)=af->cQ b (i+1+k) s p=cQ b i s p++cQ b k (p+i+1) (p+i+1)
 |0,k,s,p,a=>by rw[show 0+1+k=k+1 from G];show(if b p then(s,p)::cQ b k (p+1) (p+1)else cQ b k s (p+1))=_;rw[au (by simpa using a)];rfl
 |i+1,k,s,p,a=>by
  rw[show i+1+1+k=(i+1+k)+1 from G,cQ,cQ];have c:b (p+1+i)=true:=by rw[show p+1+i=p+(i+1)from G];exact a
  have d:p+1+i+1=p+(i+1)+1:=G;split
  ·rw[x4 c,d,gO]
  ·rw[x4 c,d]
def GZ{b kA:Nat->Bool}:∀{k s p:Nat},(∀a,p<=a->a<p+k->b a=kA a)->cQ b k s p=cQ kA k s p
 |0,s,p,_=>F
 |k+1,s,p,c=>by unfold cQ;rw[c p (a6 _) G,GZ λa d e=>c a G G,GZ λa d e=>c a G G]
def Mg{b:Nat->Bool}(a:Nat):∀{k s q:Nat},cQ b k (a+s) (a+q)=(cQ (λf=>b (a+f)) k s q).map λc=>(a+c.1,a+c.2)
 |0,s,q=>F
 |k+1,s,q=>by
  unfold cQ;have d:=Mg (b:=b) a (k:=k) (s:=q+1) (q:=q+1);have e:=Mg (b:=b) a (k:=k) (s:=s) (q:=q+1);rw[<-j4]at d e;split
  ·rw[d];rfl
  ·rw[e]
def Vu{b:Nat->Bool}(k p:Nat):cQ b k p p=(cQ (λc=>b (p+c)) k 0 0).map λa=>(p+a.1,p+a.2):=Mg (b:=b) p (k:=k) (s:=0) (q:=0)
def ti{b:Nat->Bool}:∀{k s p:Nat} {a:Nat×Nat},s<=p->(∀c,s<=c->c<p->b c=ao)->a∈cQ b k s p->(s<=a.1/\a.1<=a.2/\p<=a.2/\a.2<=p+k)/\(a.2=p+k\/b a.2=af)/\(a.1=s\/(p<a.1/\b (a.1-1)=af))/\∀c,a.1<=c->c<a.2->b c=ao
 |0,s,p,a,j,g,e=>by unfold cQ at e;obtain rfl:=cL.1 e;exact⟨⟨a6 _,j,a6 _,a6 _⟩,.inl F,.inl F,g⟩
 |k+1,s,p,a,j,g,e=>by
  unfold cQ at e;split at e
  ·rename_i h
   rcases df.1 e with rfl|e
   ·exact⟨⟨a6 _,j,a6 _,ae⟩,.inr h,.inl F,g⟩
   ·obtain⟨i,f,d,l⟩:=ti (a6 _) (λc _ _=>G) e;refine⟨⟨G,i.2.1,G,G⟩,?_,?_,l⟩
    ·rcases f with f|f
     ·left;omega
     ·exact .inr f
    ·right
     rcases d with d|d
     ·rw[d];exact⟨G,by simpa using h⟩
     ·exact⟨G,d.2⟩
  ·rename_i h
   obtain⟨i,f,d,l⟩:=ti (s:=s) (p:=p+1) G (λc n o=>by
    rcases fx c p with m|m
    ·exact g c n m
    ·obtain rfl:c=p:=G
     simpa using h) e
   refine⟨⟨i.1,i.2.1,G,G⟩,?_,?_,l⟩
   ·rcases f with f|f
    ·left;omega
    ·exact .inr f
   ·rcases d with d|d
    ·exact .inl d
    ·exact .inr ⟨G,d.2⟩
def gn(b:Nat->Bool)(s:Nat):List (Nat×Nat):=if s=0 then []else cQ b (s-1) 0 0
def q4(b:Nat->Bool)(n e:Nat):List (Nat×Nat):=if e<n then cQ b (n-e-1) (e+1) (e+1)else []
def FY{s e:Nat}{b:Nat->Bool}(h:s=0\/b (s-1)=af)(o:s<=e)(p:e<=n)(i:e=n\/b e=af):ui b n=gn b s++(cQ b (e-s) s s++q4 b n e):=by
 have j:∀a,s<=a->cQ b a 0 0=gn b s++cQ b (a-s) s s:=by
  intro a q;unfold gn;by_cases d:s=0
  ·subst d;simp
  ·rw[an d];have f:b (0+(s-1))=true:=by rw[hW];rcases h with c|c;exact aL c d;exact c
   have:=x4 (i:=s-1) (k:=a-s) (s:=0) (p:=0) f;rw[show s-1+1+(a-s)=a from G,show 0+(s-1)+1=s from G]at this;exact this
 unfold ui;rw[j n G];congr 1;unfold q4;by_cases g:e<n
 ·rw[au g];have f:b (s+(e-s))=true:=by rw[show s+(e-s)=e from G];rcases i with c|c;omega;exact c
  have:=x4 (i:=e-s) (k:=n-e-1) (s:=s) (p:=s) f;rw[show e-s+1+(n-e-1)=n-s from G,show s+(e-s)+1=e+1 from G]at this;exact this
 ·rw[an g,cT,show e=n from G]
def aik(a:k<=n):ui x n=gn x (fw x k)++((fw x k,fL x (n-k) k)::q4 x n (fL x (n-k) k)):=by
 have g:=zC x k;have h:=sW x (n-k) k;have d:fw x k=0\/x (fw x k-1)=true:=by rcases xH x k with a|a;exact .inl a;exact .inr a.2
 have e:fL x (n-k) k=n\/x (fL x (n-k) k)=true:=by
  rcases sV x (n-k) k with a|a
  ·left;omega
  ·exact .inr a.2
 rw[FY d G G e,wd]
 ·rw[show fw x k+(fL x (n-k) k-fw x k)=fL x (n-k) k from G];rfl
 ·intro b f i;rcases fx b k with c|c
  ·exact Cu x k b f c
  ·exact vK x (n-k) k b c G
def Vv(d:Nat->Bool):∀a b c,cQ d a b c≠[]
 |0,_,_=>by simp[cQ]
 |a+1,b,c=>by
  unfold cQ;split
  ·simp
  ·exact Vv d a b (c+1)
def C0(c:Nat->Bool):∀a d b,(cQ c a d b).length<=a+1
 |0,_,_=>by simp[cQ]
 |a+1,d,b=>by
  unfold cQ;split
  ·have:=C0 c a (b+1) (b+1);simp;omega
  ·have:=C0 c a d (b+1);omega
abbrev aB:=Int×Int
def dB(n:Int):Int->List aB->Prop
 |_,[]=>True
 |b,a::c=>b<=a.1/\a.1<a.2/\a.2<=n/\dB n a.2 c
def e5(b:List aB)(p:Int):Bool:=b.any λa=>decide (a.1<=p/\p<a.2)
def bX(b:List aB)(p:Int):Bool:=b.any λa=>decide (a.1<p/\p<a.2)
def kg(a:List aB)(b:Int):Bool:=a.any λc=>decide (c.1=b)
variable{x:List aB}{t:Int}
def oy:e5 x t=af↔∃a∈x,a.1<=t/\t<a.2:=by simp[e5]
def gS{p:Int}:bX x p=af↔∃a∈x,a.1<p/\p<a.2:=by simp[bX]
def xC:kg x t=af↔∃a∈x,a.1=t:=by simp[kg]
def dB.Q{n:Int}:∀{a:Int} {l:List aB} {x:aB},dB n a l->x∈l->a<=x.1/\x.1<x.2/\x.2<=n
 |a,h::l,x,c,b=>by
  obtain⟨d,e,f,g⟩:=c;rcases df.1 b with rfl|b
  ·exact⟨d,e,f⟩
  ·have:=g.Q b;exact⟨G,this.2⟩
def dB.o{n:Int}{a:Int}{l:List aB}(h:dB n a l)(b:t<=a):dB n t l:=by
 cases l with
 |nil=>trivial
 |cons c l=>exact⟨by have:=h.1;omega,h.2⟩
def dB.ah{n:Int}:∀{a:Int} {l b:List aB},dB n a (l++b)->dB n a l/\dB n a b
 |a,[],b,c=>⟨trivial,c⟩
 |a,h::l,b,c=>by obtain⟨d,e,f,g⟩:=c;have:=dB.ah g;exact⟨⟨d,e,f,this.1⟩,this.2.o G⟩
def dB.b_{h:Int}:∀{a:Int} {c:List aB} {x b:aB},dB h a c->x∈c->b∈c->x=b\/x.2<=b.1\/b.2<=x.1
 |a,l::c,x,b,i,j,k=>by
  obtain⟨m,n,o,d⟩:=i;rcases df.1 j with e|f<;>rcases df.1 k with g|ee
  ·exact .inl (e.trans g.symm)
  ·subst e;exact .inr (.inl (d.Q ee).1)
  ·subst g;exact .inr (.inr (d.Q f).1)
  ·exact d.b_ f ee
def Ml{o p:Int}:∀{a m:Int} {d e:List aB},dB o a d->dB p m e->(∀c,c∈d↔c∈e)->d=e
 |_,_,[],[],_,_,_=>F
 |_,_,[],k::e,_,_,b=>by have:=(b k).2 (dv ..);cases this
 |_,_,c::d,[],_,_,b=>by have:=(b c).1 (dv ..);cases this
 |a,m,c::d,k::e,f,g,b=>by
  have h:=(b c).1 (dv ..);have i:=(b k).2 (dv ..);have q:c=k:=by
   rcases df.1 h with h|h
   ·exact h
   ·rcases df.1 i with i|i
    ·exact i.symm
    ·have r:=f.2.2.2.Q i;have s:=g.2.2.2.Q h;have:=f.2.1;have:=g.2.1;omega
  subst q;refine ck _ (Ml f.2.2.2 g.2.2.2 λn=>?_);constructor
  ·intro j;rcases df.1 ((b n).1 (ey _ j))with rfl|l
   ·have:=f.2.2.2.Q j;have:=f.2.1;omega
   ·exact l
  ·intro j;rcases df.1 ((b n).2 (ey _ j))with rfl|l
   ·have:=g.2.2.2.Q j;have:=g.2.1;omega
   ·exact l
def dB.rS{e:aB}{a:Int}(g:dB t a x):e∈x↔e.1<e.2/\e5 x e.1=af/\bX x e.1=ao/\bX x e.2=ao/\∀b,e.1<b->b<e.2->bX x b=true:=by
 constructor
 ·intro h;have j:=g.Q h;have dh:∀b,(b=e.1\/b=e.2)->bX x b=false:=λb o=>by
   cases p:bX x b with
   |false=>rfl
   |true=>obtain⟨d,f,q,k⟩:=gS.1 p;have:=g.Q f;rcases g.b_ h f with rfl|c|c<;>rcases o with rfl|rfl<;>omega
  exact⟨j.2.1,oy.2 ⟨e,h,G,j.2.1⟩,dh _ (.inl F),dh _ (.inr F),λb l i=>gS.2 ⟨e,h,l,i⟩⟩
 ·rintro⟨l,i,m,n,r⟩;obtain⟨d,f,q,k⟩:=oy.1 i;have s:d.1=e.1:=by
   rcases j5 d.1 e.1 with c|c
   ·have:bX x e.1=true:=gS.2 ⟨d,f,c,k⟩;rw[this]at m;cases m
   ·omega
  have u:d.2=e.2:=by
   rcases Int.lt_trichotomy d.2 e.2 with c|c|c
   ·have:=r d.2 G c;obtain⟨w,v,y,z⟩:=gS.1 this;rcases g.b_ f v with rfl|b|b<;>omega
   ·exact c
   ·have:bX x e.2=true:=gS.2 ⟨d,f,G,c⟩;rw[this]at n;cases n
  have:d=e:=Prod.ext s u;exact this▸f
def dB.jj{n:Int}:∀{a:Int} {d:List aB} (b:Int),dB n a d->bX d b=ao->∃g h,d=g++h/\(∀c∈g,c.2<=b)/\(∀c∈h,b<=c.1)/\dB n a g/\dB n a h
 |a,[],b,_,_=>⟨[],[],F,(λ_ f=>by cases f),(λ_ f=>by cases f),trivial,trivial⟩
 |a,c::d,b,f,i=>by
  have m:=f;obtain⟨o,p,q,l⟩:=f;by_cases r:b<=c.1
  ·refine⟨[],c::d,F,(λ_ f=>by cases f),λj e=>?_,trivial,m⟩;rcases df.1 e with rfl|e
   ·exact r
   ·have:=l.Q e;omega
  ·have s:c.2<=b:=by
    rcases j5 b c.2 with k|k
    ·have:bX (c::d) b=true:=gS.2 ⟨c,dv ..,G,k⟩;rw[this]at i;cases i
    ·exact k
   have t:bX d b=false:=by
    cases u:bX d b with
    |false=>rfl
    |true=>obtain⟨j,e,v⟩:=gS.1 u;have:bX (c::d) b=true:=gS.2 ⟨j,ey _ e,v⟩;rw[this]at i;cases i
   obtain⟨g,h,w,x,y,gL,z⟩:=l.jj b t;refine⟨c::g,h,by rw[w];rfl,λj e=>?_,y,⟨o,p,q,gL⟩,z.o G⟩;rcases df.1 e with rfl|e
   ·exact s
   ·exact x j e
def mw:aB->List aB->List aB
 |a,[]=>[a]
 |a,b::c=>if b.1<a.2 then mw (a.1,max a.2 b.2) c else a::mw b c
def l3:List aB->List aB
 |[]=>[]
 |a::b=>mw a b
def oN(n:Int):List aB->Prop
 |[]=>True
 |a::b=>0<=a.1/\a.1<a.2/\a.2<=n/\(∀c∈b,a.1<=c.1)/\oN n b
def Lh{e:Int}:∀{b:List aB} {a:aB} {c:Int},c<=a.1->a.1<a.2->a.2<=e->(∀f∈b,a.1<=f.1)->oN e b->dB e c (mw a b)
 |[],a,c,d,g,h,_,_=>⟨d,g,h,trivial⟩
 |k::b,a,c,d,g,h,i,l=>by
  unfold mw;have q:=i k (dv ..);obtain⟨r,m,n,o,j⟩:=l;split
  ·exact Lh d (by dsimp only;omega) (by dsimp only;omega) (λf p=>i f (ey _ p)) j
  ·exact⟨d,g,h,Lh G m n o j⟩
def ahz(a:oN t x):dB t 0 (l3 x):=by
 cases x with
 |nil=>trivial
 |cons b x=>exact Lh a.1 a.2.1 a.2.2.1 a.2.2.2.1 a.2.2.2.2
def Le{n:Int}:∀{l:List aB} {c:aB} {q:Int},c.1<c.2->(∀b∈l,c.1<=b.1)->oN n l->(bX (mw c l) q=af↔bX (c::l) q=af)
 |[],c,q,_,_,_=>AA
 |d::l,c,q,m,e,h=>by
  unfold mw;have o:=e d (dv ..);obtain⟨p,i,r,j,f⟩:=h;split
  ·rename_i s
   have ih:=Le (n:=n) (l:=l) (c:=(c.1,max c.2 d.2)) (q:=q) (by dsimp only;omega) (λb k=>e b (ey _ k)) f;rw[ih];simp only [bX,AJ,sc,dF];constructor
   ·rintro(a|a)
    ·rcases j5 q c.2 with g|g
     ·exact .inl ⟨a.1,g⟩
     ·exact .inr (.inl ⟨G,G⟩)
    ·exact .inr (.inr a)
   ·rintro(a|a|a)
    ·exact .inl ⟨a.1,G⟩
    ·exact .inl ⟨G,G⟩
    ·exact .inr a
  ·simp only [bX,AJ,sc,dF];have:=Le (n:=n) (l:=l) (c:=d) (q:=q) i j f;simp only [bX,AJ,sc,dF]at this;rw[this]
def Lg{n:Int}:∀{l:List aB} {c:aB} {q:Int},c.1<c.2->(∀b∈l,c.1<=b.1)->oN n l->(e5 (mw c l) q=af↔e5 (c::l) q=af)
 |[],c,q,_,_,_=>AA
 |d::l,c,q,m,e,h=>by
  unfold mw;have o:=e d (dv ..);obtain⟨p,i,r,j,f⟩:=h;split
  ·rename_i s
   have ih:=Lg (n:=n) (l:=l) (c:=(c.1,max c.2 d.2)) (q:=q) (by dsimp only;omega) (λb k=>e b (ey _ k)) f;rw[ih];simp only [e5,AJ,sc,dF];constructor
   ·rintro(a|a)
    ·rcases j5 q c.2 with g|g
     ·exact .inl ⟨a.1,g⟩
     ·exact .inr (.inl ⟨G,G⟩)
    ·exact .inr (.inr a)
   ·rintro(a|a|a)
    ·exact .inl ⟨a.1,G⟩
    ·exact .inl ⟨G,G⟩
    ·exact .inr a
  ·simp only [e5,AJ,sc,dF];have:=Lg (n:=n) (l:=l) (c:=d) (q:=q) i j f;simp only [e5,AJ,sc,dF]at this;rw[this]
def ahx(a:oN t x)(b:Int):bX (l3 x) b=bX x b:=by
 rw[g0];cases x with
 |nil=>exact AA
 |cons c x=>exact Le a.2.1 a.2.2.2.1 a.2.2.2.2
def ahy(a:oN t x)(b:Int):e5 (l3 x) b=e5 x b:=by
 rw[g0];cases x with
 |nil=>exact AA
 |cons c x=>exact Lg a.2.1 a.2.2.2.1 a.2.2.2.2
end Go.cB
namespace Go.Proofs.YtoddhldofgfdmaaGreatDoor
namespace b0
open Go.Lift Go.RowKit
abbrev im:=Int×Int
def fK(x:im):List Value:=[I cc x.1,I cc x.2]
def rO:eR fK 2:=⟨λ_=>F,λb c a=>by simp[fK]at a;rcases a with rfl|rfl<;>rfl⟩
def vH(c:List im)(a:Int):Prop:=∃b∈c,b.1<=a/\a<=b.2
instance(L:List im)(r:Int):Decidable (vH L r):=inferInstanceAs(Decidable (∃x∈L,x.1<=r/\r<=x.2))
def oN(c:List im):Prop:=(∀(b:Nat) (a:im),c[b]? =J a->a.1<=a.2)/\∀(b d:Nat) (a e:im),c[b]? =J a->c[d]? =J e->b<d->a.2<e.1
variable{x:aa}{e:Z}{c:List im}
def SJ(h:aC x e 2 fK c)(j:oN c)(B:c.length<=1000000)(k:Int):ak Y 393 [e,I cc k] x λw y=>y=x/\w=ax (decide (vH c k)):=by
 apply aeX;rw[aS Bc h];refine ba.y (λl q=>q=x/\∃aw b:Nat,l=[I X b,I X aw,ax ao]/\aw<=b/\b<=c.length/\(∀(d:Nat) (a:im),c[d]? =J a->d<aw->a.2<k)/\(∀(d:Nat) (a:im),c[d]? =J a->b<=d->k<a.1))
  (λl _=>match l with|[I _ z,I _ r,_]=>(z-r).toNat|_=>0) ⟨F,0,c.length,F,ec _,a6 _,λd a _ b=>aL b G,λd a f b=>?_⟩ ?_
 ·have:=(dS.1 f).1;omega
 rintro l C q ⟨rfl,aw,b,rfl,D,E,s,t⟩;have H:=h.aD;simp only [av,bA,aR,ai];refine⟨λK=>?_,λL=>?_⟩
 ·obtain⟨a,f⟩:∃a,c[(aw+b)/2]? =J a:=⟨_,aX G⟩;obtain⟨r,M,u,v⟩:=h.m f;rw[aD,CS _ _ G G G,cr Bc y2 G h f G,u,aj adz,
   aM iG (v.f 0 F),aR,ai,cr Bc y2 G h f G,u,aj adA,aM iG (v.f 1 F),cb,ai,aD]
  have A:((aw:Int)+b)/2=(((aw+b)/2:Nat):Int):=G;rw[A];refine⟨λn=>⟨⟨F,aw,(aw+b)/2,F,G,G,s,λd o g m=>?_⟩,by simp;omega⟩,λn=>⟨λp=>⟨⟨F,(aw+b)/2+1,b,ae,G,G,λd o g m=>?_,t⟩,by simp;omega⟩,λp=>⟨F,?_⟩⟩⟩
  ·by_cases i:d=(aw+b)/2
   ·subst i;rw[f]at g;cases g;exact n
   ·have:=j.2 _ _ a o f g G;have:=j.1 _ a f;omega
  ·by_cases i:d=(aw+b)/2
   ·subst i;rw[f]at g;cases g;exact p
   ·have:=j.2 _ _ o a g f G;have:=j.1 _ a f;omega
  ·congr 1;symm;rw[dF];exact⟨a,cl f,G,G⟩
 ·refine⟨by trivial,?_⟩;congr 1;symm;rw[decide_eq_false_iff_not];rintro⟨a,f,n,p⟩;obtain⟨d,m⟩:=tr f;by_cases i:d<aw
  ·have:=s d a m i;omega
  ·have:=t d a m G;omega
def Up(l:aC x e 2 fK c)(K:c.length<=1000000)(f:Int):ak Y 316 [e,I cc f] x λv w=>O x w/\v=ax (decide (vH c f)):=by
 apply Yj;rw[aS Ec l];refine ba.y (λk q=>O x q/\∃d:Nat,k=[I X d]/\d<=c.length/\(∀(b:Nat) (a:im),c[b]? =J a->b<d->¬(a.1<=f/\f<=a.2)))
  (λk _=>match k with|[I _ y]=>(c.length-y).toNat|_=>0) ⟨O.p x,0,F,ec _,λb a _ i=>aL i G⟩ ?_
 rintro k L q ⟨j,d,rfl,M,r⟩;rw[av,aR,ai];refine⟨λP=>?_,λQ=>⟨j,?_⟩⟩
 ·obtain⟨a,h⟩:∃a,c[d]? =J a:=⟨_,aX G⟩;obtain⟨R,S,z,A⟩:=(l.h j).m h;rw[cr Ec EM G (l.h j) h F,z,aF acD A F];refine cj EP EM g F F (rO.B a) λU B _ _ s C=>?_;have t:=C.b;rw[aj ac_,aM iG (t.f 0 F),eE,ai,aj ada,aM iG (t.f 1 F),fg,ai,aD];have u:¬(a.1<=f/\f<=a.2)->(O x B/\∃m:Nat,[I X ((d:Int)+1)]=[I X m]/\m<=c.length/\(∀(b:Nat) (a:im),c[b]? =J a->b<m->¬(a.1<=f/\f<=a.2)))/\(c.length-((d:Int)+1)).toNat<(c.length-(d:Int)).toNat:=by
   intro D;refine⟨⟨j.a s,d+1,ae,G,λb E n i=>?_⟩,G⟩;by_cases H:b=d
   ·subst H;rw[h]at n;cases n;exact D
   ·exact r b E n G
  refine⟨λo=>⟨λp=>⟨j.a s,?_⟩,λp=>u G⟩,λo=>u G⟩;congr 1;symm;rw[dF];exact⟨a,cl h,G,G⟩
 ·congr 1;symm;rw[decide_eq_false_iff_not];rintro⟨a,h,o,p⟩;obtain⟨b,i⟩:=tr h;have:=(dS.1 i).1;exact r b a i G ⟨o,p⟩
def oT(a:aa)(p:Z)(f g:List im):Prop:=∃b c d e,p=ad (J ⟨b,c,ac⟩)/\cA a b c [d,e]/\aC a d 2 fK f/\aC a e 2 fK g
def oT.h{w a:aa}{p:Z}{da c:List im}(h:oT w p da c)(e:O w a):oT a p da c:=by obtain⟨b,y,d,v,f,g,i,j⟩:=h;exact⟨b,y,d,v,f,g.h e,i.h e,j.h e⟩
def gU(a b:List im)(r:Int):Int:=if vH a r then 0 else if vH b r then 2 else 1
def CA(a b:List im)(r:Int):0<=gU a b r/\gU a b r<=2:=by unfold gU;split<;>(try split)<;>omega
structure II (da ws:List im):Prop where
 cr:oN da
 eu:oN ws
 TU:da.length<=1000000
 TT:ws.length<=1000000
variable{d:List im}
def zH(k:oT x e c d)(a:II c d)(b:Int):ak Y 389 [e,I cc b] x λg h=>h=x/\g=I X (gU c d b):=by obtain⟨n,o,p,q,rfl,j,l,m⟩:=k;apply aeW;rw[fZ adZ,sk,cw,bn,aj Jp,aM D_ (j.f 0 F)];refine(SJ l a.cr a.TU b).o ?_;rintro g h ⟨rfl,rfl⟩;rw[ai];refine⟨λf=>⟨F,by simp[gU,f]⟩,λf=>?_⟩;rw[bn,aj Jo,aM D_ (j.f 1 F)];refine(SJ m a.eu a.TT b).o ?_;rintro g h ⟨rfl,rfl⟩;rw[ai];exact⟨λi=>⟨F,by simp[gU,f,i]⟩,λi=>⟨F,by simp[gU,f,i]⟩⟩
def akf(j:oT x e c d)(k:c.length<=1000000)(l:d.length<=1000000)(r:Int):ak Y 231 [e,I cc r] x λf m=>O x m/\f=I X (gU c d r):=by obtain⟨p,q,s,t,rfl,h,n,o⟩:=j;apply Yi;rw[bn,aj ade,aM O4 (h.f 0 F)];refine(Up n k r).o ?_;rintro f u ⟨a,rfl⟩;rw[ai];refine⟨λb=>⟨a,by simp[gU,b]⟩,λb=>?_⟩;rw[bn,aj adb,aM O4 ((h.h a).f 1 F)];refine(Up (o.h a) l r).o ?_;rintro f v ⟨i,rfl⟩;rw[ai];exact⟨λg=>⟨a.a i,by simp[gU,b,g]⟩,λg=>⟨a.a i,by simp[gU,b,g]⟩⟩
def bC(k:hF)(x:Int):List Value:=[I k x]
def d0(b:hF):eR (bC b) 1:=⟨λ_=>F,λc d a=>by simp[bC]at a;rw[a];rfl⟩
variable{i:Nat}
def gp{α:Type}{l:List α}{x:α}(h:l[i]? =J x):l.take (i+1)=l.take i++[x]:=by rw[Dz,h];rfl
def ie:List im:=[(768,879),(8203,8207),(65024,65039)]
def iV:List im:=[(4352,4447),(11904,12350),(12353,19903),(19968,40959),(44032,55203),(63744,64255),(65280,65376),(127744,128591)]
def Uu(b:List im)(f:(∀a,a<b.length->(b.getD a (0,0)).1<=(b.getD a (0,0)).2)/\∀a,a<b.length->∀c,c<b.length->a<c->(b.getD a (0,0)).2<(b.getD c (0,0)).1):oN b:=by
 refine⟨λa h d=>?_,λa c h k d g i=>?_⟩
 ·have e:=(dS.1 d).1;have:=f.1 a e;rw[yi,d]at this;exact this
 ·have e:=(dS.1 d).1;have j:=(dS.1 g).1;have:=f.2 a e c j i;rw[yi,yi,d,g]at this;exact this
def Fr:II ie iV:=
 ⟨Uu _ g,Uu _ g,g,g⟩
def fV(w:aa):Prop:=cA w 0 0 (ie.flatMap fK)/\cA w 1 0 (iV.flatMap fK)
def fV.h{w a:aa}(h:fV w)(e:O w a):fV a:=⟨h.1.h e,h.2.h e⟩
variable{w b1:aa}{K:aU}
def Gw{e:bq}{c:Z}{L:List im}{A:Nat}{x:im}(j:e=Y)(h:fH w A 441 2 c fK L)(z:A<=w.heap.size)(k:O b1 w)(B:b1.heap.size<=A)(C:L.length<=1000)
 (l:∀d f,fH f A 441 2 d fK (L++[x])->O b1 f->w.grownBy f c.ownBlock->K d f):
 fR e 438 1 [(0,al (fK x).toArray)] w λm w=>cz e fT [438,438] 438 [c,m] w K:=by
 subst j;refine L7 (iR:=[(0,fK x)]) (S:=fK x) Bc y2 g EX g F F λn o G H a p=>?_;have q:aC o (aQ (J ⟨n,0,ac⟩) 1 1) 2 fK [x]:=ag.aI (L:=[x]) (by simpa using p) rO (by simp[e0]);refine xX Bc y2 g EX F rO (h.h a) (by have:=a.size;omega) q (by have:e0=9223372036854775807:=rfl;simp;omega) (by rw[acX];simp;omega) λd r s b=>?_;refine l d r s ((k.a a).ab b λt u=>?_) ?_
 ·have:=h.D t u;omega
 ·exact⟨b.os.trans a.os,b.tape.trans a.tape,b.output.trans a.output,eQ a.size b.size,λi v y=>(b.block i (by have:=a.size;omega) y).trans (a.block i v)⟩
def ajN(H:fV x):ak Y 185 [] x λW K=>O x K/\oT K W ie iV:=by
 apply aeV;refine bo aeC λe m a3 a4 L ah=>?_;rw[aF acB (H.1.h L) F];refine ba.y (λh i=>∃a:Nat,h=[I X a]/\a<=3/\O x i/\∃b,ag i e [b,aQ ac 0 0]/\fH i m.heap.size 441 2 b fK (ie.take a)/\m.heap.size<=i.heap.size)
  (λh _=>match h with|[I _ y]=>(3-y).toNat|_=>0) ⟨0,F,G,L,aQ none 0 0,ah,fH.nil _ _ _ _ _,a6 _⟩ ?_
 rintro h am i ⟨a,rfl,an,s,b,z,A,a5⟩;rw[av,aR,ai];refine⟨λap=>?_,λaq=>?_⟩
 ·obtain⟨c,o⟩:∃c,ie[a]? =J c:=⟨_,aX (by simp[ie];omega)⟩;rw[Vm acF D6 (i:=a) G F,rO.di o];refine cj EX y2 g F F (rO.B c) λa7 k a8 ar j t=>?_;have M:=z.h j;rw[aj Jp,aM D_ (M.b.f 0 F),aF D6 t.b F];refine Gw (b1:=x) (A:=m.heap.size) (x:=c) F (A.h j) (by have:=j.size;omega) (s.a j) G (by rw[bt];omega) λp P u f Q=>?_;have B:ag P e [b,aQ ac 0 0]:=M.ab Q (λd=>by have:=(A.h j).D e d.symm;omega);rw[aj Jp];refine aZ Qf g B u.M.1 F ae (by simpa using u.M.2) λC a9 n D=>?_;rw[aD];refine⟨⟨a+1,ae,G,f.ab n (by rintro _ ⟨rfl⟩;omega),p,D,?_,?_⟩,by simp only [];omega⟩
  ·rw[gp o];refine u.ab n ?_;cases l:p.ownBlock with
   |none=>exact .inl F
   |some q=>exact .inr (by intro d;cases d;have:=u.D e l;omega)
  ·have:=Q.size;have:=j.size;omega
 ·have ay:a=3:=G;subst ay;have R:fH i m.heap.size 441 2 b fK ie:=A;rw[aF acC (H.2.h s) F];refine ba.y (λh k=>∃a:Nat,h=[I X a]/\a<=8/\O x k/\∃r,ag k e [b,r]/\fH k m.heap.size 441 2 b fK ie/\fH k i.heap.size 441 2 r fK (iV.take a)/\i.heap.size<=k.heap.size)
   (λh _=>match h with|[I _ y]=>(8-y).toNat|_=>0) ⟨0,F,G,s,aQ none 0 0,z,R,fH.nil _ _ _ _ _,a6 _⟩ ?_
  rintro h am k ⟨a,rfl,an,j,r,t,S,v,ar⟩;have aA:=z.D;rw[av,aR,ai];refine⟨λap=>?_,λaq=>?_⟩
  ·obtain⟨c,o⟩:∃c,iV[a]? =J c:=⟨_,aX (by simp[iV];omega)⟩;rw[Vm acH D6 (i:=a) G F,rO.di o];refine cj EX y2 g F F (rO.B c) λaB P aC aE f B=>?_;have U:=t.h f;rw[aj Jo,aM D_ (U.b.f 1 F),aF D6 B.b F];refine Gw (b1:=x) (A:=i.heap.size) (x:=c) F (v.h f) (by have:=f.size;omega) (j.a f) (by have:=s.size;omega) (by rw[bt];omega) λp C w az n=>?_;have D:ag C e [b,r]:=U.ab n (λd=>by have:=(v.h f).D e d.symm;omega);have V:fH C m.heap.size 441 2 b fK ie:=by
    refine(S.h f).ab n ?_;cases l:b.ownBlock with
    |none=>exact .inl F
    |some q=>exact .inr (by intro d;have:=R.D q l;have:=(v.h f).D q d.symm;omega)
   rw[aj Jo];refine aZ Qf g D w.M.1 F ae (by simpa using w.M.2) λaG aH E a0=>?_;rw[aD];refine⟨⟨a+1,ae,G,az.ab E (by rintro _ ⟨rfl⟩;omega),p,a0,?_,?_,?_⟩,by simp only [];omega⟩
   ·refine V.ab E ?_;cases l:b.ownBlock with
    |none=>exact .inl F
    |some q=>exact .inr (by intro d;cases d;have:=V.D e l;omega)
   ·rw[gp o];refine w.ab E ?_;cases l:p.ownBlock with
    |none=>exact .inl F
    |some q=>exact .inr (by intro d;cases d;have:=w.D e l;omega)
   ·have:=n.size;have:=f.size;omega
  ·have a2:a=8:=G;subst a2;exact⟨j,e,0,b,r,F,t.b,S.aI rO,fH.aI (L:=iV) v rO⟩
def c8(b:Int->Int)(a r C:Int):Int:=if r=9 then(if 64<=C then 1 else a-C%a)else b r
def cN(f:Int->Int)(a:Int)(ls:List Int):Nat->Int
 |0=>0
 |b+1=>match ls[b]? with|some c=>cN f a ls b+c8 f a c (cN f a ls b)|none=>cN f a ls b
variable{x:Int->Int}{t:Int}{ls:List Int}{n:Nat}
def LB{r:Int}(a:ls[n]? =J r):cN x t ls (n+1)=cN x t ls n+c8 x t r (cN x t ls n):=by simp[cN,a]
structure tC (f:Int->Int) (aE:Int):Prop where
 xB:∀r,0<=f r/\f r<=2
 SD:1<=aE/\aE<=16
variable{C:Int}
def x5{r:Int}(a:tC x t):0<=c8 x t r C/\c8 x t r C<=16:=by
 have b:=a.SD;have c:=a.xB r;unfold c8;have d:=HQ C (show t≠0 by omega);have e:=Nf C (show 0<t by omega);split
 ·split<;>omega
 ·omega
def T9(c:tC x t)(a:Nat):0<=cN x t ls a/\cN x t ls a<=16*a:=by
 induction a with
 |zero=>simp[cN]
 |succ a ih=>
  cases b:ls[a]? with
  |none=>simp only [cN,b];omega
  |some r=>rw[LB b];have:=x5 (r:=r) (C:=cN x t ls a) c;omega
def lh(a:Int->Int)(b:Int)(ls:List Int)(d:Nat):List Int:=(lS d).map λc=>c8 a b (ls.getD c 0) (cN a b ls c)
def Hf{aE:Int}:(lh x aE ls n).length=n:=by simp[lh]
def VY{r:Int}(a:ls[n]? =J r):lh x t ls (n+1)=lh x t ls n++[c8 x t r (cN x t ls n)]:=by unfold lh;rw[List.range_succ,dJ];simp[a]
def rr(p:Z)(c:Int->Int)(d:aa):Prop:=∀a,O d a->∀b,ak Y 389 [p,I cc b] a λe f=>f=a/\e=I X (c b)
def rr.h{x:aa}{p:Z}{f:Int->Int}(h:rr p f w)(e:O w x):rr p f x:=λa b=>h a (e.a b)
def rr.aE{x e:List im}{p:Z}(h:oT w p x e)(a:II x e):rr p (gU x e) w:=λ_ b c=>zH (h.h b) a c
variable{x:aa}
def akt(a:Int):ak Y 360 [I X a] x λc d=>d=x/\∃b,c=ax b/\(b=af↔1<=a/\a<=16):=by
 apply acw;rw[eE,ai,fg];refine⟨λe=>⟨F,_,F,?_⟩,λe=>⟨F,_,F,?_⟩⟩
 ·rw[dF];omega
 ·simp;omega
def akg(a:Int):ak Y 43 [I X a] x λc d=>d=x/\∃b,c=ax b/\(b=af↔1<=a/\a<=16):=by
 apply YK;rw[eE,ai,fg];refine⟨λe=>⟨F,_,F,?_⟩,λe=>⟨F,_,F,?_⟩⟩
 ·rw[dF];omega
 ·simp;omega
def C3{c:Int->Int}{r:Int}(g:rr e c x)(h:tC c t)(i:0<=C):ak Y 383 [e,I cc r,I X t,I X C] x λd f=>f=x/\d=I X (c8 c t r C):=by
 apply acx;have j:=h.SD;have k:=HQ C (show t≠0 by omega);have l:=Nf C (show 0<t by omega);rw[bs,bu];refine⟨λa=>?_,λa=>?_⟩
 ·refine(g x (O.p x) r).o ?_;rintro d f ⟨rfl,rfl⟩;exact⟨F,by simp[c8,a]⟩
 ·rw[eE,ai,L6 _ _ i G G,cd];exact⟨λb=>⟨F,by simp[c8,a,b]⟩,λb=>⟨F,by simp[c8,a,b]⟩⟩
variable{c:Z}
def agT{d:Z}{s:Int->Int}(w:rr e s b1)(m:tC s t)(g:aC b1 c 1 (bC cc) ls)(Q:ls.length<=1000000)(f:Nat->aa->Prop)(n:aa->Prop)(u:∀a x,f a x->O b1 x)
 (y:∀(a:Nat) (r:Int) (x:aa),ls[a]? =J r->f a x->iU Y d [I X a,I X (cN s t ls a),I X (c8 s t r (cN s t ls a))] x λh b=>∃i,h=ax i/\(i=af->f (a+1) b)/\(i=ao->n b))
 (z:∀x,f ls.length x->iU Y d [I X ls.length,I X (cN s t ls ls.length),I X 0] x λ_ b=>n b)(v:f 0 x):
 ak Y 361 [e,c,I X t,d] x λ_ b=>n b:=by
 apply acv;rw[aS di (g.h (u 0 x v))];refine ba.y (λj o=>∃a:Nat,j=[I X (cN s t ls a),I X a]/\a<=ls.length/\f a o)
  (λj _=>match j with|[_,I _ A]=>(ls.length-A).toNat|_=>0) ⟨0,F,ec _,v⟩ ?_
 rintro j R o ⟨a,rfl,S,p⟩;have k:=u a o p;have B:=T9 (ls:=ls) m a;rw[av,bA,av,aR,ai];refine⟨λU=>?_,λV=>?_⟩
 ·obtain⟨r,l⟩:∃C,ls[a]? =J C:=⟨_,aX G⟩;obtain⟨i,W,D,E⟩:=(g.h k).m l;rw[cr di gm G (g.h k) l F,D,aM iG (E.U F)];refine(C3 (w.h k) m B.1).o ?_;rintro h b ⟨rfl,rfl⟩;have ab:=x5 (r:=r) (C:=cN s t ls a) m;refine mz ?_ (y a r _ l p);rintro h H ⟨ag,rfl,K,L⟩;rw[dD,dQ];refine⟨λq=>L (by simpa using q),λq=>?_⟩;rw[aD,aD];exact⟨⟨a+1,by rw[LB l];simp,G,K (by simpa using q)⟩,by simp only [];omega⟩
 ·have M:a=ls.length:=G;subst M;rw[aS di (g.h k)];refine mz ?_ (z _ p);exact λh H P=>P
abbrev u4(aE:Int):Prop:=1<=aE/\aE<=16
variable{k:Nat}
def s9{t:Nat}{α:Type}{V:α->List Z}{L:List α}(a:ar x n k i e V L)(c:t<n):e.ownBlock=ac\/e.ownBlock≠J t:=by
 cases b:e.ownBlock with
 |none=>exact .inl F
 |some d=>exact .inr (by intro k;cases k;have:=a.D t b;omega)
variable{L:List Int}
def Uc(f:ar x n 3 1 e (bC X) L)(m:n<=x.heap.size)(o:L.length<=2000000)
 (h:∀a b,ar b n 3 1 a (bC X) (L++[t])->x.grownBy b e.ownBlock->K a b):
 fR Y 55 1 [(0,I X t)] x λc x=>cz Y fT [55,55] 55 [e,c] x K:=by
 refine f0 (V:=bC X) (L:=[t]) (iR:=[(0,[I X t])]) fW bw F mY g g (d0 _) F F λc q r i d s=>?_;refine jC fW bw g mY F (d0 _) (f.h d) G (i.aI (d0 _)) (by have:e0=9223372036854775807:=rfl;simp;omega) (by rw[D8];simp;omega) λa j k l _=>?_;exact h a j k (eN (eb d _) l)
def alx{d:Int->Int}{s:List Int}{aE:Int}(M:rr e d x)(P:∀w,0<=d w/\d w<=2)(o:aC x c 1 (bC cc) s)(Q:s.length<=1000000):
 ak Y 331 [e,c,I X aE] x λp a=>O x a/\((¬u4 aE/\p=a1 #[aQ ac 0 0,I X 1])\/
  (u4 aE/\∃b,p=a1 #[b,I X 0]/\ar a x.heap.size 3 1 b (bC X) (lh d aE s s.length))):=by
 apply acu;refine bd (S:=[c]) o.M.1 λeD aq au av y R=>?_;refine(akt aE).o ?_;rintro p a ⟨rfl,aw,rfl,D⟩;rw[dD,dQ];refine⟨λf=>⟨y,.inl ⟨λq=>(by rw[D.2 q]at f;cases f),F⟩⟩,λf=>?_⟩;have q:u4 aE:=D.1 (by simpa using f);have S:tC d aE:=⟨P,q⟩;refine bo Ql λh ay az a0 E U=>?_;have V:=y.a E;have H:=R.h E;rw[aM iF (H.b.U F),jZ];refine(agT (b1:=x) M S o Q (λr a=>O x a/\ag a eD [c]/\h<a.heap.size/\∃b,ag a h [b]/\ar a (h+1) 3 1 b (bC X) (lh d aE s r))
  (λa=>O x a/\∃b,ag a h [b]/\ar a (h+1) 3 1 b (bC X) (lh d aE s s.length)) (λr a f=>f.1) ?_ ?_ ⟨V,H,G,_,U,ar.nil _ _ _ _ _⟩).o ?_
 ·rintro r w z K ⟨j,t,W,b,k,l⟩;have a3:r<s.length:=(dS.1 K).1;rw[kL];apply OU;rw[aM iF (t.b.U F),aS di (o.h j),aR,h4 G,aM vc (k.b.U F)];refine Uc l G (by rw[Hf];omega) λL ah u v=>?_;have A:∀i,b.ownBlock=J i->h+1<=i/\i<z.heap.size:=λi m=>l.D i m;have ai:O x ah:=j.ab v λi m=>by have:=A i m;have:=y.size;omega
  have aj:=t.ab v (λn=>by have:=A eD n.symm;omega);have am:=k.ab v (λn=>by have:=A h n.symm;omega);refine aZ Qe g am u.M.1 F ae (by simpa using u.M.2) λan a4 B C=>?_;have C:ag an h [L]:=C;refine⟨af,F,λ_=>⟨ai.ab B (λi m=>by cases m;omega),aj.ab B (by intro n;cases n;omega),by have:=v.size;omega,L,C,?_⟩,λf=>by cases f⟩;rw[VY K];exact u.ab B (s9 u G)
 ·rintro z ⟨j,t,W,b,k,l⟩;rw[kL];apply OU;rw[aM iF (t.b.U F),aS di (o.h j),aR,du G];exact⟨j,b,k,l⟩
 ·rintro p z ⟨j,b,k,l⟩;rw[aM vc (k.b.U F)];exact⟨j,.inr ⟨q,b,F,l.o G⟩⟩
def alZ{s:Int}{a:Int}(e:1<=t)(f:1<=s)(g:s<=t-a%t):(a+s)%t=0↔a%t+s=t:=by
 have h:=HQ a (show t≠0 by omega);have c:(a+s)%t=(a%t+s)%t:=by rw[Int.emod_add_emod]
 rw[c];constructor
 ·intro b;rcases j5 (a%t+s) t with d|i
  ·rw[Int.emod_eq_of_lt G d]at b;omega
  ·omega
 ·intro b;rw[b];exact Int.emod_self
def akh{c:List im}{p:Z}(s:oT x p c d)(B:c.length<=1000000)(C:d.length<=1000000)(u:u4 t)(n:aC x e 1 (bC cc) ls)(ah:ls.length<=1000000):
 ak Y 163 [p,e,I X t] x λw f=>O x f/\ar f x.heap.size 3 1 w (bC X) (lh (gU c d) t ls ls.length):=by
 have y:tC (gU c d) t:=⟨CA c d,u⟩;apply YL;rw[aS di n];refine ba.y (λa o=>O x o/\∃(i:Nat) (v:Z),a=[v,I X (cN (gU c d) t ls i),I X i]/\i<=ls.length/\ar o x.heap.size 3 1 v (bC X) (lh (gU c d) t ls i))
  (λa _=>match a with|[_,_,I _ h]=>(ls.length-h).toNat|_=>0) ⟨O.p x,0,_,F,ec _,ar.nil _ _ _ _ _⟩ ?_
 rintro a z o ⟨g,i,v,rfl,aj,q⟩;have am:=T9 (ls:=ls) y i;rw[av,bA,av,bA,av,aR,ai];refine⟨λan=>?_,λap=>⟨g,by obtain rfl:i=ls.length:=G;exact q⟩⟩
 obtain⟨j,k⟩:∃D,ls[i]? =J D:=⟨_,aX G⟩;obtain⟨aq,au,E,H⟩:=(n.h g).m k;rw[cr di gm G (n.h g) k F,E,aM iG (H.U F)];refine(akf (s.h g) B C j).o ?_;rintro w l ⟨m,rfl⟩;have aw:=x5 (r:=j) (C:=cN (gU c d) t ls i) y;refine bG.y (λa f=>f=l/\a=[I X (c8 (gU c d) t j (cN (gU c d) t ls i))]) ?_ ?_
 ·rw[bm,ai];refine⟨λr=>?_,λr=>⟨F,by simp[c8,r]⟩⟩;subst r;have az:=HQ (cN (gU c d) t ls i) (show t≠0 by omega);have a0:=Nf (cN (gU c d) t ls i) (show 0<t by omega);refine ba.y (λa f=>f=l/\∃b:Int,a=[I X b]/\1<=b/\b<=t-cN (gU c d) t ls i%t/\(64<=cN (gU c d) t ls i->b=1))
   (λa _=>match a with|[I _ h]=>(t-h).toNat|_=>0) ⟨F,1,F,G,G,λ_=>F⟩ ?_
  rintro a z l ⟨rfl,b,rfl,K,L,M⟩;rw[av,aR,ai];refine⟨λP=>?_,λP=>⟨F,by have:=M G;subst this;simp[c8,show(64:Int)<=cN (gU c d) t ls i by omega]⟩⟩;rw[aD,L6 _ _ G G G,bs,bu,aD];have A:=alZ (a:=cN (gU c d) t ls i) u.1 K L;refine⟨λQ=>?_,λR=>⟨F,?_⟩⟩
  ·have:cN (gU c d) t ls i%t+b≠t:=λS=>Q (A.2 S);exact⟨⟨F,b+1,F,G,G,λs=>G⟩,by simp only [];omega⟩
  ·have:=A.1 R;congr 2;simp only [c8,if_true,show¬(64:Int)<=cN (gU c d) t ls i by omega,if_false];omega
 rintro a z l ⟨rfl,rfl⟩;rw[av];refine Uc (q.h m) (g.a m).size (by rw[Hf];omega) λU a2 V W=>?_;rw[aD,aD];refine⟨⟨(g.a m).ab W λae ag=>((q.h m).D ae ag).1,i+1,U,by rw[LB k];simp,G,by rw[VY k];exact V⟩,by simp only [];omega⟩
variable{v:Z}
def ajW(h:ar w n 3 1 v (bC X) L)(p:n<=w.heap.size)(q:L.length<=2000000)
 (c:∀a d,ar d n 3 1 a (bC X) (L++[t])->w.grownBy d v.ownBlock->(a.ownBlock=v.ownBlock\/∀b,a.ownBlock=J b->w.heap.size<=b)->K a d):
 fR Y 55 1 [(0,I X t)] w λe w=>cz Y fT [55,55] 55 [v,e] w K:=by
 refine f0 (V:=bC X) (L:=[t]) (iR:=[(0,[I X t])]) fW bw F mY g g (d0 _) F F λe s u i f x=>?_;refine jC fW bw g mY F (d0 _) (h.h f) G (i.aI (d0 _)) (by have:e0=9223372036854775807:=rfl;simp;omega) (by rw[D8];simp;omega) λa j k l m=>?_;exact c a j k (eN (eb f _) l) (m.imp id λc b o=>by have:=c b o;omega)
def Ge(c:Int):∀a∈ [I X c],a.oneCell' =true:=by intro a b;simp at b;subst b;rfl
abbrev aP:=Int×Int×Int×Int
def bI(c:aP):List Value:=[I cc c.1,I X c.2.1,I X c.2.2.1,I X c.2.2.2]
def iK:eR bI 4:=⟨λ_=>F,λb c a=>by simp[bI]at a;rcases a with rfl|rfl|rfl|rfl<;>rfl⟩
def ahe:Fw Y 206=J [21,3,3,3]:=D
def R3(a:aP):hg Y [21,3,3,3] (bI a)=true:=D
def agY{x e:aP}(a:bI x=bI e):x=e:=by obtain⟨b,c,d,f⟩:=x;obtain⟨g,h,i,j⟩:=e;simp[bI]at a;simp[a]
def cZ(S:List aP):Int:=(S.map λa=>a.2.2.1).foldl (·+·) 0
def ahl(b:List Int):∀a:Int,b.foldl (·+·) a=a+b.foldl (·+·) 0:=by
 induction b with
 |nil=>intro a;simp
 |cons c b ih=>intro a;simp only [List.foldl_cons];rw[ih (a+c),ih (0+c)];omega
def Df(a b:List aP):cZ (a++b)=cZ a+cZ b:=by unfold cZ;rw[dJ,List.foldl_append,ahl]
variable{S:List aP}
def Wk(b:∀a∈S,0<=a.2.2.1/\a.2.2.1<=1099511627776):0<=cZ S/\cZ S<=1099511627776*S.length:=by
 induction S with
 |nil=>simp[cZ]
 |cons a S ih=>
  have e:=b a ae;have f:=ih λc d=>b c (by simp[d]);have:cZ (a::S)=a.2.2.1+cZ S:=by have:=Df [a] S;simp only [Nt]at this;rw[this];simp[cZ]
  rw[this,d1];omega
def Wm(i:aC x e 4 bI S)(k:∀b∈S,0<=b.2.2.1/\b.2.2.1<=1099511627776)(u:S.length<=1000000):
 ak Y 284 [e] x λm n=>O x n/\m=I X (cZ S):=by
 apply ZF;rw[aS oQ i];refine ba.y (λc l=>O x l/\∃a:Nat,c=[I X (cZ (S.take a)),I X a]/\a<=S.length)
  (λc _=>match c with|[_,I _ o]=>(S.length-o).toNat|_=>0) ⟨O.p x,0,F,ec _⟩ ?_
 rintro c v l ⟨d,a,rfl,w⟩;rw[av,bA,av,aR,ai];refine⟨λy=>?_,λz=>⟨d,by rw[d_ G]⟩⟩;obtain⟨f,h⟩:∃f,S[a]? =J f:=⟨_,aX G⟩;obtain⟨A,B,p,j⟩:=(i.h d).m h;rw[cr oQ pS G (i.h d) h F,p,aF oh j F];refine cj qK pS g F F (iK.B f) λC D H K q r=>?_;have s:=Wk (S:=S.take a) λb j=>k b (fy j);have L:=k f (cl h);have t:(S.take a).length=a:=by rw[bt];omega
 rw[t]at s;rw[aj nH,aM E (r.b.f 2 F),aD,aD];refine⟨⟨d.a q,a+1,?_,G⟩,by simp only [];omega⟩;rw[gp h,Df];simp[cZ]
def afL(a:aP):ak Y 385 [al (bI a).toArray] x λf g=>O x g/\∃b,f=ax b/\(b=af↔a.1=32\/a.1=9):=by apply ZC;refine bd (S:=bI a) F λi j k l c d=>?_;rw[aj vf,aM iG (d.b.f 0 F),bm,ai,aj vf,aM iG (d.b.f 0 F),bm];refine⟨λe=>⟨c,af,F,by simp[e]⟩,λe=>⟨c,_,F,?_⟩⟩;rw[dF];omega
def C8(d:List aP)(b:Nat)(a:aP):Prop:=a.2.1=1\/a.2.1=3\/(a.2.1=2/\(b=0\/∃c,d[b-1]? =J c/\c.2.2.2≠a.2.2.2))
def iw(a:Bool):List Value:=[ax a]
def nK:eR iw 1:=⟨λ_=>F,λb c a=>by simp[iw]at a;subst a;rfl⟩
def Qu(b:List aP)(e:List Bool):Prop:=∀(a:Nat) (c:aP) (d:Bool),b[a]? =J c->e[a]? =J d->(d=af↔C8 b a c)
def al0{l:Z}(o:aC x l 4 bI S)(a9:S.length<=1000000):
 ak Y 286 [l] x λU m=>O x m/\∃c,ar m x.heap.size 4 1 U iw c/\c.length=S.length/\Qu S c:=by
 apply ZE;rw[aS oQ o];refine ba.y (λd j=>O x j/\∃(i:Nat) (v:Z) (c:List Bool),d=[v,I X i]/\i<=S.length/\ar j x.heap.size 4 1 v iw c/\c.length=i/\Qu S c)
  (λd _=>match d with|[_,I _ W]=>(S.length-W).toNat|_=>0) ⟨O.p x,0,_,[],F,ec _,ar.nil _ _ _ _ _,F,λi k ag _ a=>by simp at a⟩ ?_
 rintro d C j ⟨q,i,v,c,rfl,aA,u,ah,D⟩;rw[av,bA,av,aR,ai];refine⟨λaB=>?_,λaE=>⟨q,c,u,G,D⟩⟩;obtain⟨k,w⟩:∃H,S[i]? =J H:=⟨_,aX G⟩;obtain⟨ag,aG,am,an⟩:=(o.h q).m w;rw[cr oQ pS G (o.h q) w F,am,aF oh an F];refine cj qK pS g F F (iK.B k) λaH n aJ aN K L=>?_;have y:=q.a K;refine bG.y (λd m=>O n m/\∃e:Bool,d=[ax e]/\(e=af↔C8 S i k)) ?_ ?_
 ·rw[aj tH,aM E (L.b.f 1 F)];refine bG.y (λd m=>m=n/\∃e:Bool,d=[ax e]/\(e=af↔k.2.1=1\/k.2.1=3)) ?_ ?_
  ·rw[bm,ai,bm];refine⟨λa=>⟨F,_,F,by simp[a]⟩,λa=>⟨F,_,F,?_⟩⟩;rw[dF];omega
  rintro d C n ⟨rfl,e,rfl,r⟩;rw[av,dQ];refine⟨λa=>⟨O.p _,af,F,?_⟩,λa=>?_⟩
  ·have:=r.1 a;simp only [true_iff];rcases this with a|a
   ·exact .inl a
   ·exact .inr (.inl a)
  have s:¬(k.2.1=1\/k.2.1=3):=λap=>by rw[r.2 ap]at a;cases a
  rw[bm,ai];refine⟨λb=>?_,λb=>⟨O.p _,ao,F,?_⟩⟩
  ·apply bE.h;have f:O n n.drew:=(O.p n).C;rw[aK (λj h p=>bm _ _) f,ai];refine⟨λaq=>⟨f,af,F,?_⟩,λaq=>?_⟩
   ·simp only [true_iff];exact .inr (.inr ⟨b,.inl G⟩)
   ·obtain⟨z,t⟩:∃z,S[i-1]? =J z:=⟨_,aX G⟩;obtain⟨aO,aP,au,aw⟩:=(o.h y).m t;rw[aK (λj h p=>cd) f,aK (λj h p=>cr oQ pS G ((o.h y).h h) t G) f,au,
     aK (λj h p=>aj qG) f,dR E (aw.f 3 F) f,aK (λj h p=>aj qG) f,dR E (L.b.f 3 F) f,aK (λj h p=>bs _ _) f]
    refine⟨f,_,F,?_⟩;simp only [sb,decide_eq_false_iff_not];constructor
    ·intro a;exact .inr (.inr ⟨b,.inr ⟨z,t,a⟩⟩)
    ·rintro(a|a|⟨_,a|⟨aT,M,a⟩⟩)
     ·exact aL (.inl a) s
     ·exact aL (.inr a) s
     ·omega
     ·rw[t]at M;cases M;exact a
  ·simp only [j1,false_iff];rintro(a|a|⟨a,_⟩)
   ·exact s (.inl a)
   ·exact s (.inr a)
   ·exact b a
 rintro d C aU ⟨P,e,rfl,r⟩;have Q:=y.a P;have ay:=(u.h K).h P;refine f0 (V:=iw) (L:=[e]) (iR:=[(0,[ax e])]) Ed Bm F Qm g g nK F F λH aY aZ az A bb=>?_;refine jC Ed Bm g Qm F nK (ay.h A) (Q.a A).size (az.aI nK) (by have:e0=9223372036854775807:=rfl;simp;omega) (by rw[acR];simp;omega) λa0 bc a2 a3 _=>?_;rw[aD];refine⟨⟨(Q.a A).ab a3 λa4 a5=>(u.D a4 a5).1,i+1,a0,c++[e],ae,G,a2,by simp[ah],λB a7 a8 h b=>?_⟩,by simp only [];omega⟩;rw[Nq]at b;split at b
 ·exact D B a7 a8 h b
 ·rename_i bd
  cases R:B-c.length with
  |zero=>rw[R]at b;cases b;obtain rfl:B=i:=G;rw[w]at h;cases h;exact r
  |succ be=>rw[R]at b;simp at b
abbrev dA:=Int×Int×List Int
abbrev kX:=Int×Int×bK
def ic(p:kX):List Value:=[I X p.1,I X p.2.1,ay p.2.2]
def qU:eR ic 3:=⟨λ_=>F,λb c a=>by simp[ic]at a;rcases a with rfl|rfl|rfl<;>rfl⟩
def kX.rS(c:aa)(a:kX)(b:dA):Prop:=a.1=b.1/\a.2.1=b.2.1/\aC c (ay a.2.2) 1 (bC cc) b.2.2
def A3(b:aa)(d:Z)(c:List dA):Prop:=∃a:List kX,aC b d 3 ic a/\a.length=c.length/\∀(i:Nat) (ff:kX) (p:dA),a[i]? =J ff->c[i]? =J p->kX.rS b ff p
def fU(p:dA):List Int:=if p.1=3 then [8230]else p.2.2
def lv(p:dA)(r:Int)(k:Nat):aP:=(r,p.1,0,if p.1=1 then p.2.1+k else p.2.1)
def oo(p:dA)(b:Nat):List aP:=((fU p).take b).zipIdx.map λa=>lv p a.1 a.2
def jv(p:dA):List aP:=oo p (fU p).length
def dT(a:List dA):List aP:=a.flatMap jv
def tB(b:List dA):Prop:=∀a∈b,1<=a.1/\a.1<=3
structure u5 (j:List dA):Prop where
 z:j.length<=20000
 C:∀p∈j,p.2.2.length<=20000/\0<=p.2.1/\p.2.1<=1099511627776
 ee:(dT j).length<=20000
def af2{p:dA}{r:Int}(a:(fU p)[k]? =J r):oo p (k+1)=oo p k++[lv p r k]:=by have b:=(dS.1 a).1;unfold oo;rw[Dz,a,List.zipIdx_append,dJ];have:min k (fU p).length=k:=G;simp[bt,this]
def J4{p:dA}(a:k<=(fU p).length):(oo p k).length=k:=by unfold oo;simp;omega
def U2{p:dA}(a:p.2.2.length<=20000):(fU p).length<=20000:=by
 unfold fU;split
 ·simp
 ·exact a
variable{x:List dA}
def vE{p:dA}(a:x[i]? =J p):dT (x.take (i+1))=dT (x.take i)++jv p:=by unfold dT;rw[gp a,hG];simp
def xw(a:u5 x)(i:Nat):(dT (x.take i)).length<=20000:=by
 have b:dT x=dT (x.take i)++dT (x.drop i):=by unfold dT;rw[<-hG,fi]
 have:=a.ee;rw[b,bf]at this;omega
def p8{e:aa}{L:List aP}{x:aP}{A:Nat}(i:ar e A 206 4 v bI L)(p:A<=e.heap.size)(q:L.length<=2000000)
 (c:∀a d,ar d A 206 4 a bI (L++[x])->e.grownBy d v.ownBlock->(a.ownBlock=v.ownBlock\/∀b,a.ownBlock=J b->e.heap.size<=b)->K a d):
 fR Y 112 1 [(0,al (bI x).toArray)] e λf e=>cz Y fT [112,112] 112 [v,f] e K:=by
 refine f0 (n:=1) (V:=bI) (L:=[x]) (iR:=[(0,bI x)]) oQ pS F qK g g iK F F λf t u j h w=>?_;refine jC oQ pS g qK F iK (i.h h) G (j.aI iK) (by have:e0=9223372036854775807:=rfl;simp;omega) (by rw[O0];simp;omega) λa k l m n=>?_;exact c a k l (eN (eb h _) m) (n.imp id λc b o=>by have:=c b o;omega)
variable{x:aa}
def QH(r k a:Int):fo Y 206 [(0,I cc r),(1,I X k),(3,I X a)] x K=K (al (bI (r,k,0,a)).toArray) x:=
 bz (iR:=[(0,[I cc r]),(1,[I X k]),(3,[I X a])]) qK EF F F
def ahg{c:List dA}(aA:A3 x e c)(D:u5 c):
 ak Y 330 [e] x λaw v=>O x v/\((tB c/\∃f,aw=a1 #[f,ax af]/\ar v x.heap.size 206 4 f bI (dT c))\/(¬tB c/\aw=a1 #[aQ ac 0 0,ax ao])):=by
 apply ZG;obtain⟨aB,H,aV,aC⟩:=aA;rw[aS Ee H];have aW:=D.z;refine ba.y (λh K=>O x K/\∃(b:Nat) (f:Z),h=[f,I X b]/\b<=c.length/\tB (c.take b)/\ar K x.heap.size 206 4 f bI (dT (c.take b)))
  (λh _=>match h with|[_,I _ L]=>(c.length-L).toNat|_=>0) ⟨O.p x,0,_,F,ec _,(λa l=>by simp at l),ar.nil _ _ _ _ _⟩ ?_
 rintro h ay K ⟨w,b,f,rfl,aY,y,p⟩;rw[av,bA,av,aR,ai];refine⟨λaZ=>?_,λbb=>⟨w,.inl (by obtain rfl:b=c.length:=G;rw[cI]at y p;exact⟨y,f,F,p⟩)⟩⟩
 obtain⟨a,l⟩:∃j,c[b]? =J j:=⟨_,aX G⟩;obtain⟨i,M⟩:∃j,aB[b]? =J j:=⟨_,aX G⟩;obtain⟨P,Q,R⟩:=aC b i a M l;obtain⟨bc,bd,be⟩:=D.C a (cl l);obtain⟨bg,bh,aE,aG⟩:=(H.h w).m M;have bi:=xw D b;have az:c.take (b+1)=c.take b++[a]:=gp l;rw[cr Ee JI G (H.h w) M F,aE,aF OX aG F];refine cj Bs JI g F F (qU.B i) λq a0 bj bk a2 z=>?_;have r:=w.a a2;have a3:=p.h a2;have a4:=z.b.f 0 F;rw[aj Es,aM E a4];refine bG.y (λh v=>v=a0/\∃m:Int,h=[I X m]/\((i.1=1/\m=1)\/(i.1=2/\m=0))) ?_ ?_
 ·rw[bm,ai];refine⟨λA=>⟨F,1,F,.inl ⟨A,F⟩⟩,λA=>?_⟩;rw[bm,ai];refine⟨λa5=>⟨F,0,F,.inr ⟨a5,F⟩⟩,λa5=>?_⟩;rw[bm,ai];refine⟨λaH=>?_,λaH=>⟨r,.inr ⟨λs=>?_,F⟩⟩⟩
  ·rw[aj Es,aM E a4,aj Pj,aM E (z.b.f 1 F),QH];refine p8 a3 r.size G λS n t aI _=>?_;rw[aD];have U:jv a=[(8230,i.1,0,i.2.1)]:=by have aJ:a.1=3:=G;unfold jv oo fU lv;simp[aJ,P,Q]
   refine⟨⟨r.ab aI λV W=>(p.D V W).1,b+1,S,ae,G,?_,by rw[vE l,U];exact t⟩,by simp only [];omega⟩;intro j d;rw[az]at d;rcases b9.1 d with d|d
   ·exact y j d
   ·simp at d;subst d;omega
  ·have:=s a (cl l);omega
 rintro h ay a0 ⟨rfl,m,rfl,ah⟩;have am:fU a=a.2.2:=by unfold fU;rw[an G]
 rw[av,aj Pk,aM iF (z.b.f 2 F),aS di (R.h r)];refine ba.y (λh n=>O x n/\ag n q (ic i)/\q<n.heap.size/\∃(k:Nat) (f:Z),h=[f,I X k]/\k<=a.2.2.length/\f.ownBlock≠J q/\ar n x.heap.size 206 4 f bI (dT (c.take b)++oo a k))
  (λh _=>match h with|[_,I _ L]=>(a.2.2.length-L).toNat|_=>0) ⟨r,z,G,0,f,F,ec _,(λo=>by have:=(p.D q o).2;omega),by unfold oo;simpa using a3⟩ ?_
 rintro h ay n ⟨u,a7,bl,k,aK,rfl,bn,a8,t⟩;rw[av,bA,av,aR,ai];refine⟨λbo=>?_,λbp=>?_⟩
 ·obtain⟨B,ap⟩:∃j,a.2.2[k]? =J j:=⟨_,aX G⟩;obtain⟨br,bs,aL,aN⟩:=(R.h u).m ap;have a9:=a7.b;have aO:pA (m*(k:Int)):=by rcases ah with⟨_,rfl⟩|⟨_,rfl⟩<;>exact⟨G,G⟩
  have aP:pA (i.2.1+m*(k:Int)):=by rcases ah with⟨_,rfl⟩|⟨_,rfl⟩<;>exact⟨G,G⟩
  rw[cr di gm G (R.h u) ap F,aL,aM iG (aN.U F),aj Es,aM E (a9.f 0 F),aj Pj,aM E (a9.f 1 F),ak0 _ _ aO,tf _ _ aP,QH];have U:=J4 (p:=a) (k:=k) (by rw[am];omega);refine p8 t u.size (by rw[bf,U];omega) λS bu aT aq aU=>?_;rw[aD];refine⟨⟨u.ab aq (λV W=>(t.D V W).1),a7.ab aq (λo=>a8 o.symm),by have:=aq.size;omega,k+1,S,ae,G,?_,?_⟩,by simp only [];omega⟩
  ·intro o;rcases aU with s|s
   ·exact a8 (s▸o)
   ·have:=s q o;omega
  ·rw[af2 (r:=B) (by rw[am];exact ap),<-cX];have:lv a B k=(B,i.1,0,i.2.1+m*(k:Int)):=by
    unfold lv;rcases ah with⟨A,rfl⟩|⟨A,rfl⟩
    ·rw[au G];simp[P,Q]
    ·rw[an G];simp[P,Q]
   rw[this];exact aT
 ·rw[aD];obtain rfl:k=a.2.2.length:=G;refine⟨⟨u,b+1,aK,ae,G,?_,?_⟩,by simp only [];omega⟩
  ·intro j d;rw[az]at d;rcases b9.1 d with d|d
   ·exact y j d
   ·simp at d;subst d;omega
  ·rw[vE l,jv,am];exact t
def gY(c:aP)(n:Int):Int:=if c.1=9 then 1 else n
def ng(a:aP)(n:Int):List aP:=(a.1,a.2.1,gY a n,a.2.2.2)::kR (n-gY a n).toNat (32,4,1,a.2.2.2)
def iT(S:List aP)(bk:List Int)(n:Nat):List aP:=((S.zip bk).take n).flatMap λa=>ng a.1 a.2
def jU(S:List aP):List Int:=S.map (·.1)
variable{c:aP}
def Lo{bk:List Int}(a:S[n]? =J c)(b:bk[n]? =J t):iT S bk (n+1)=iT S bk n++ng c t:=by
 have:(S.zip bk)[n]? =J (c,t):=by rw[anO];exact⟨a,b⟩
 unfold iT;rw[gp this,hG];simp
def ag8(a:0<=t)(b:t<=16):(ng c t).length<=17:=by unfold ng gY;rw[d1,List.length_replicate];split<;>omega
def TV{bk:List Int}(h:∀b∈bk,0<=b/\b<=16)(a:Nat):(iT S bk a).length<=17*a:=by
 induction a with
 |zero=>simp[iT]
 |succ a ih=>
  cases f:(S.zip bk)[a]? with
  |none=>unfold iT at*;rw[Dz,f];simp only [Option.toList_none,cT];omega
  |some i=>obtain⟨c,b⟩:=i;obtain⟨e,d⟩:=anO.1 f;have e:S[a]? =J c:=e;have d:bk[a]? =J b:=d;rw[Lo e d,bf];have g:=h b (cl d);have:=ag8 (c:=c) g.1 g.2;omega
variable{c:Z}
def Ud{e:aa}{x:Int}{A:Nat}(h:ar e A 21 1 c (bC cc) L)(n:A<=e.heap.size)(o:L.length<=2000000)
 (i:∀a b,ar b A 21 1 a (bC cc) (L++[x])->e.grownBy b c.ownBlock->K a b):
 fR Y 33 1 [(0,I cc x)] e λd e=>cz Y fT [33,33] 33 [c,d] e K:=by
 refine f0 (V:=bC cc) (L:=[x]) (iR:=[(0,[I cc x])]) di gm F mZ g g (d0 _) F F λd q r j f s=>?_;refine jC di gm g mZ F (d0 _) (h.h f) G (j.aI (d0 _)) (by have:e0=9223372036854775807:=rfl;simp;omega) (by rw[rt];simp;omega) λa k l m _=>?_;exact i a k l (eN (eb f _) m)
def JU(a b c d:Int):fo Y 206 [(0,I cc a),(1,I X b),(2,I X c),(3,I X d)] x K=K (al (bI (a,b,c,d)).toArray) x:=
 bz (iR:=[(0,[I cc a]),(1,[I X b]),(2,[I X c]),(3,[I X d])]) qK EF F F
def aje{bk:List Int}(ap:aC x e 4 bI S)(A:aC x c 1 (bC X) bk)(bg:S.length<=20000)(bh:bk.length=S.length)(aq:∀b∈bk,0<=b/\b<=16)
 (aG:∀i m,O x m->ar m x.heap.size 206 4 i bI (iT S bk S.length)->K (a1 #[i,I X 0]) m):
 ba [aQ ac 0 0,I X 0] 2 n x λf _ x aH=>IT K aH e c (I X S.length) (av f) (av (bA f)) x:=by
 refine ba.y (λf o=>O x o/\∃(k:Nat) (i:Z),f=[i,I X k]/\k<=S.length/\ar o x.heap.size 206 4 i bI (iT S bk k))
  (λf _=>match f with|[_,I _ C]=>(S.length-C).toNat|_=>0) ⟨O.p x,0,_,F,ec _,ar.nil _ _ _ _ _⟩ ?_
 rintro f B o ⟨w,k,i,rfl,bi,D⟩;unfold IT;rw[av,bA,av,aR,ai];refine⟨λbj=>?_,λbl=>aG i o w (by obtain rfl:k=S.length:=G;exact D)⟩
 obtain⟨a,H⟩:∃e,S[k]? =J e:=⟨_,aX G⟩;obtain⟨b,r⟩:∃e,bk[k]? =J e:=⟨_,aX G⟩;have bn:=aq b (cl r);have bo:=TV (S:=S) aq k;obtain⟨bp,br,aI,aJ⟩:=(ap.h w).m H;rw[cr oQ pS G (ap.h w) H F,aI,aF oh aJ F];refine cj qK pS g F F (iK.B a) λd bs bu bv aw aL=>?_;have L:=w.a aw;obtain⟨bx,bz,aN,aO⟩:=(A.h L).m r;rw[cr fW bw G (A.h L) r F,aN,aM E (aO.U F),aj nH];refine aZ (cS:=[I X b]) bw g aL F F (by simp[bI]) (Ge b) λM b0 ay y=>?_;have y:ag M d (bI (a.1,a.2.1,b,a.2.2.2)):=y;have P:∀j,i.ownBlock=J j->x.heap.size<=j/\j<o.heap.size:=λj l=>D.D j l;have az:x.heap.size<=d:=by have:=w.size;omega
 have a0:O x M:=L.ab ay λj l=>by cases l;exact az
 have a2:ar M x.heap.size 206 4 i bI (iT S bk k):=(D.h aw).ab ay (by
  cases Q:i.ownBlock with
  |none=>exact .inl F
  |some j=>exact .inr (by intro h;cases h;have:=P d Q;omega))
 refine bG.y (λf m=>f=[]/\O x m/\d<m.heap.size/\ag m d (bI (a.1,a.2.1,gY a b,a.2.2.2))/\ar m x.heap.size 206 4 i bI (iT S bk k)) ?_ ?_
 ·rw[aj vf,aM iG (y.b.f 0 F),bm,ai];refine⟨λR=>?_,λR=>⟨F,a0,G,by rw[show gY a b=b from an R];exact y,a2⟩⟩;rw[aj nH];refine aZ (cS:=[I X 1]) bw g y F F (by simp[bI]) (Ge 1) λa3 b1 a4 s=>?_;have s:ag a3 d (bI (a.1,a.2.1,1,a.2.2.2)):=s;refine⟨F,a0.ab a4 (λj l=>by cases l;exact az),G,by rw[show gY a b=1 from au R];exact s,a2.ab a4 (by
   cases Q:i.ownBlock with
   |none=>exact .inl F
   |some j=>exact .inr (by intro h;cases h;have:=P d Q;omega))⟩
 rintro f B a3 ⟨rfl,a5,b2,s,a7⟩;unfold OI;rw[aF oh s.b F];refine p8 a7 a5.size G λa8 t aP U aS=>?_;have a9:i.ownBlock≠J d:=λh=>by have:=P d h;omega
 have V:O x t:=a5.ab U λj l=>(a7.D j l).1;have aA:=s.ab U (λh=>a9 h.symm);have aT:a8.ownBlock≠J d:=λh=>by
  rcases aS with q|q
  ·exact a9 (q▸h)
  ·have:=q d h;omega
 have b3:0<=gY a b/\gY a b<=16:=by unfold gY;split<;>omega
 have aU:t.cell? ⟨d,0+2,ac⟩=J (I X (gY a b)):=aA.b.f 2 F;apply bE.h;have p:O t t.drew:=(O.p t).C;obtain⟨b4,b5,aV,aW⟩:=(A.h V).m r;rw[aK (λo W K=>cr fW bw G ((A.h V).h W) r F) p,aV,dR E (aW.U F) p,aK (λo W K=>aj nH) p,dR E aU p,aK (λo W K=>cd) p];refine ba.y (λf u=>O x u/\d<u.heap.size/\ag u d (bI (a.1,a.2.1,gY a b,a.2.2.2))/\∃(v:Nat) (z:Z),f=[z,I X v]/\v<=(b-gY a b).toNat/\z.ownBlock≠J d/\ar u x.heap.size 206 4 z bI (iT S bk k++[(a.1,a.2.1,gY a b,a.2.2.2)]++kR v (32,4,1,a.2.2.2)))
  (λf _=>match f with|[_,I _ C]=>(b-gY a b-C).toNat|_=>0) ⟨V.a p,(by have:=U.size;show d<t.heap.size;omega),aA.h p,0,a8,F,ec _,aT,by simpa using aP.h p⟩ ?_
 rintro f B u ⟨ah,b6,aB,v,z,rfl,b7,aE,ak⟩;unfold OK;rw[av,bA,av,aR,ai];refine⟨λb8=>?_,λbB=>?_⟩
 ·have aY:u.cell? ⟨d,0+3,ac⟩=J (I X a.2.2.2):=aB.b.f 3 F;rw[aj qG,aM E aY,JU];refine p8 ak ah.size (by simp;omega) λbb bD bc am bd=>?_;rw[aD];refine⟨⟨ah.ab am (λj l=>(ak.D j l).1),by have:=am.size;omega,aB.ab am (λh=>aE h.symm),v+1,bb,ae,G,?_,?_⟩,by simp only [];omega⟩
  ·intro h;rcases bd with q|q
   ·exact aE (q▸h)
   ·have:=q d h;omega
  ·rw[Ns,<-cX];exact bc
 ·rw[aD];have be:v=(b-gY a b).toNat:=G;subst be;refine⟨⟨ah,k+1,z,ae,G,?_⟩,by simp only [];omega⟩;rw[Lo H r,ng,anL];exact ak
def Aj{x:Int->Int}{aE:Int}(c:tC x aE):∀a∈lh x aE ls n,0<=a/\a<=16:=by intro a b;unfold lh at b;obtain⟨d,_,rfl⟩:=eP.1 b;exact x5 c
def s0(b:Int->Int)(aE:Int)(a:List dA):List aP:=iT (dT a) (lh b aE (jU (dT a)) (dT a).length) (dT a).length
def Ct:(jU S).length=S.length:=by simp[jU]
def aic{x:List aP}{e:aP}(a:x[n]? =J e):jU (x.take (n+1))=jU (x.take n)++[e.1]:=by unfold jU;rw[gp a,dJ];rfl
def TW{e:aa}{d:Int->Int}{s:List dA}{p:Z}{aE:Int}(K:rr p d e)(z:∀A,0<=d A/\d A<=2)(L:A3 e c s)(r:u5 s):
 ak Y 264 [p,c,I X aE] e λk B=>O e B/\∃(b:Z) (l:Int),k=a1 #[b,I X l]/\
  ((¬u4 aE/\l=1/\b=aQ ac 0 0)\/(u4 aE/\¬tB s/\l=4/\b=aQ ac 0 0)\/(u4 aE/\tB s/\l=0/\ar B e.heap.size 206 4 b bI (s0 d aE s))):=by
 apply ZD;unfold OH;refine(ahg L r).o ?_;rintro k t ⟨M,P⟩;have Q:=xw r s.length;rw[cI]at Q;have a7:=r.z;have R:∃(x:Z) (m:Bool) (S:List aP),k=a1 #[x,ax m]/\ar t e.heap.size 206 4 x bI S/\S.length<=20000/\(m=af->tB s/\S=dT s)/\(m=ao->¬tB s):=by
  rcases P with⟨a,b,rfl,h⟩|⟨a,rfl⟩
  ·exact⟨b,af,dT s,F,h,G,λ_=>⟨a,F⟩,λa=>by cases a⟩
  ·exact⟨_,ao,[],F,ar.nil _ _ _ _ _,ae,(λa=>by cases a),λ_=>a⟩
 obtain⟨x,m,S,rfl,U,a8,V,W⟩:=R;have n:=U.aI iK;rw[aN,aO,aS oQ n];refine ba.y (λo u=>O t u/\∃(f:Nat) (b:Z),o=[b,I X f]/\f<=S.length/\ar u t.heap.size 21 1 b (bC cc) (jU (S.take f)))
  (λo _=>match o with|[_,I _ ag]=>(S.length-ag).toNat|_=>0) ⟨O.p _,0,_,F,ec _,ar.nil _ _ _ _ _⟩ ?_
 rintro o a9 u ⟨i,f,b,rfl,aA,h⟩;unfold OJ;rw[av,bA,av,aR,ai];refine⟨λaB=>?_,λaC=>?_⟩
 ·obtain⟨ah,v⟩:∃x,S[f]? =J x:=⟨_,aX G⟩;obtain⟨aG,aH,am,an⟩:=(n.h i).m v;rw[cr oQ pS G (n.h i) v F,am,aF oh an F];refine cj qK pS g F F (iK.B ah) λaJ ap aK aT w aq=>?_;rw[aj vf,aM iG (aq.b.f 0 F)];refine Ud (h.h w) (i.a w).size (by rw[Ct,bt];omega) λau aw y ay=>?_;rw[aD];refine⟨⟨(i.a w).ab ay λaz a0=>(h.D az a0).1,f+1,au,ae,G,by rw[aic v];exact y⟩,by simp only [];omega⟩
 ·obtain rfl:f=S.length:=G;rw[cI]at h;have C:=M.a i;refine(alx (aE:=aE) (K.h C) z (h.aI (d0 _)) (by rw[Ct];omega)).o ?_;rintro k ap ⟨D,a2⟩;have q:=C.a D;rcases a2 with⟨j,rfl⟩|⟨j,aU,rfl,E⟩
  ·rw[aN,aO,bs,bu];exact⟨λ_=>⟨q,_,1,F,.inl ⟨j,F,F⟩⟩,λa=>aL a g⟩
  ·rw[aN,aO,bs,bu];refine⟨λa=>aL F a,λ_=>?_⟩;rw[dD,dQ];refine⟨λa=>⟨q,_,4,F,.inr (.inl ⟨j,W (by simpa using a),F,F⟩)⟩,λa=>?_⟩;obtain⟨a3,rfl⟩:=V (by simpa using a);have H:=(n.h i).h D;rw[aS oQ H];rw[Ct]at E;refine aje H (E.aI (d0 _)) G Hf (Aj ⟨z,j⟩) λa4 aw a5 y=>?_;exact⟨q.a a5,a4,0,F,.inr (.inr ⟨j,a3,F,y.o q.size⟩)⟩
variable{ff:kX}
def akS{p:dA}(a:kX.rS x ff p):ak Y 162 [al (ic ff).toArray] x λe c=>O x c/\aC c e 1 (bC cc) (fU p):=by
 apply Ox;obtain⟨j,k,f⟩:=a;refine bd (S:=ic ff) F λm n o q b d=>?_;rw[aj Bh,aM E (d.b.f 0 F),bm,ai];refine⟨λa=>?_,λa=>?_⟩
 ·refine f0 (V:=bC cc) (L:=[8230]) (iR:=[(0,[I cc 8230])]) di gm F mZ g g (d0 _) F F λt u _ h i _=>?_;refine⟨b.a i,?_⟩;rw[show fU p=[8230]from au G];exact h.aI (d0 _)
 ·rw[aj En,aM iF (d.b.f 2 F)];refine⟨b,?_⟩;rw[show fU p=p.2.2 from an G];exact f.h b
def tb(a:List dA):List Int:=a.flatMap fU
variable{x:List dA}
def akW{p:dA}(a:x[i]? =J p):tb (x.take (i+1))=tb (x.take i)++fU p:=by unfold tb;rw[gp a,hG];simp
def aie(a:dA):jU (jv a)=fU a:=by unfold jU jv oo lv;rw[cI,pr];apply wz;intro b;rw[h5,anM];cases(fU a)[b]? <;>simp
def KX(a:List dA):jU (dT a)=tb a:=by
 induction a with
 |nil=>rfl
 |cons p a ih=>
  have b:dT (p::a)=jv p++dT a:=by simp[dT]
  have c:tb (p::a)=fU p++tb a:=by simp[tb]
  rw[b,c,<-ih,<-aie p];simp[jU]
def akV(a:u5 x)(i:Nat):(tb (x.take i)).length<=20000:=by have:=xw a i;rwa[<-Ct,KX]at this
variable{x:aa}
def akc{c:aP}{d:Z}{D:List Z->aa->Prop}{bk:List Int}(W:S[k]? =J c)(w:bk[k]? =J t)(a7:0<=t/\t<=16)(a8:k<=20000)(a9:i<=20000)(H:O b1 x)(aA:n<x.heap.size)(K:ag x n (bI (c.1,c.2.1,gY c t,c.2.2.2)))(y:e.ownBlock≠J n)
 (L:ar x b1.heap.size 206 4 e bI (iT S bk k))(aB:(iT S bk k).length<=17*k)(M:aC b1 d 1 (bC X) bk)
 (ah:∀z j,O b1 j->(∀b,x.heap.size<=b\/e.ownBlock=J b\/z.ownBlock≠J b)->(∀f,f<x.heap.size->e.ownBlock≠J f->j.heap[f]? =x.heap[f]?)->x.heap.size<=j.heap.size->ar j b1.heap.size 206 4 z bI (iT S bk (k+1))->D [z,I X (k+1:Nat),I X (i+1:Nat)] j):
 IM D (ad (J ⟨n,0,ac⟩)) (I X k) e d (I X i) x:=by
 unfold IM;have aE:0<=gY c t/\gY c t<=16/\(gY c t<=t\/t=0):=by unfold gY;split<;>omega
 have ak:∀{j:aa},ag j n (bI (c.1,c.2.1,gY c t,c.2.2.2))->j.cell? ⟨n,0+2,ac⟩=J (I X (gY c t)):=λa=>a.b.f 2 F;rw[aF oh K.b F];refine p8 L H.size G λA am an q P=>?_;have Q:=K.ab q (λh=>y h.symm);have ap:O b1 am:=H.ab q λb g=>(L.D b g).1;have aq:=q.size;have aG:A.ownBlock≠J n:=λh=>by
  rcases P with a|a
  ·exact y (a▸h)
  ·have:=a n h;omega
 rw[aj nH,aM E (ak Q)];refine ba.y (λr l=>O b1 l/\ag l n (bI (c.1,c.2.1,gY c t,c.2.2.2))/\x.heap.size<=l.heap.size/\(∀f,f<x.heap.size->e.ownBlock≠J f->l.heap[f]? =x.heap[f]?)/\∃(m:Nat) (o:Z),r=[o,I X (gY c t+m)]/\m<=(t-gY c t).toNat/\(∀b,x.heap.size<=b\/e.ownBlock=J b\/o.ownBlock≠J b)/\ar l b1.heap.size 206 4 o bI (iT S bk k++[(c.1,c.2.1,gY c t,c.2.2.2)]++kR m (32,4,1,c.2.2.2)))
  (λr _=>match r with|[_,I _ au]=>(20-au).toNat|_=>0) ⟨ap,Q,aq,λf B s=>q.block f B (λh=>s h.symm),0,A,ae,ec _,λb=>?_,by simpa using an⟩ ?_
 ·rcases P with a|a
  ·by_cases g:e.ownBlock=J b
   ·exact .inr (.inl g)
   ·exact .inr (.inr (by rw[a];exact g))
  ·by_cases g:A.ownBlock=J b
   ·exact .inl (a b g)
   ·exact .inr (.inr g)
 rintro r aH l ⟨p,R,aw,U,m,o,rfl,aI,u,C⟩;unfold Ow;obtain⟨aJ,aK,ay,az⟩:=(M.h p).m w;rw[av,bA,av,cr fW bw G (M.h p) w F,ay,aM E (az.U F),aR,ai];refine⟨λaN=>?_,λaO=>?_⟩
 ·have a0:l.cell? ⟨n,0+3,ac⟩=J (I X c.2.2.2):=R.b.f 3 F;rw[aj qG,aM E a0,JU];refine p8 C p.size (by simp;omega) λV aP a2 v a3=>?_;have a4:o.ownBlock≠J n:=by
   rcases u n with a|a|a
   ·omega
   ·exact aL a y
   ·exact a
  have aS:=v.size;rw[aD];refine⟨⟨p.ab v (λb g=>(C.D b g).1),R.ab v (λh=>a4 h.symm),G,λf B s=>?_,m+1,V,by simp;omega,G,λb=>?_,?_⟩,by simp only [];omega⟩
  ·refine(v.block f G λh=>?_).trans (U f B s);rcases u f with a|a|a
   ·omega
   ·exact s a
   ·exact a h.symm
  ·rcases a3 with a|a
   ·rw[a];exact u b
   ·by_cases g:V.ownBlock=J b
    ·exact .inl (by have:=a b g;omega)
    ·exact .inr (.inr g)
  ·rw[Ns,<-cX];exact a2
 ·rw[aD,aD];have a5:m=(t-gY c t).toNat:=G;subst a5;refine ah o l p u U aw ?_;rw[Lo W w,ng,anL];exact C
def px(a d:aa)(e f:Z):Prop:=a.heap.size<=d.heap.size/\(∀b,b<a.heap.size->e.ownBlock≠J b->d.heap[b]? =a.heap[b]?)/\∀c,a.heap.size<=c\/e.ownBlock=J c\/f.ownBlock≠J c
def px.h(h:O w x)(v:Z):px w x v v:=⟨h.size,λb c _=>h.block b c,λg=>by
 by_cases a:v.ownBlock=J g
 ·exact .inr (.inl a)
 ·exact .inr (.inr a)⟩
variable{s:Z}
def px.a{c d:aa}{v1 t:Z}(h:px x c v1 s)(g:px c d s t):px x d v1 t:=by
 obtain⟨j,l,f⟩:=h;obtain⟨m,n,o⟩:=g;refine⟨eQ j m,λb p i=>?_,λk=>?_⟩
 ·refine(n b G λe=>?_).trans (l b p i);rcases f b with h|h|h
  ·omega
  ·exact i h
  ·exact h e
 ·rcases o k with h|h|h
  ·exact .inl G
  ·rcases f k with a|a|a
   ·exact .inl a
   ·exact .inr (.inl a)
   ·exact aL h a
  ·exact .inr (.inr h)
def px.H{q_:Z}{S:List Z}{b:Nat}(c:px w x v q_)(d:ag w b S)(e:v.ownBlock≠J b):ag x b S:=by obtain⟨T,a⟩:=d;exact⟨T,(c.2.1 b (iz.1 a).1 e).trans a⟩
def xl(b1 c:aa)(a:Z)(L:List Int)(d:Z):Prop:=aC b1 a 1 (bC cc) L\/∃e,ar c e 21 1 a (bC cc) L/\∀b,a.ownBlock=J b->d.ownBlock≠J b
def xl.aI{b1 w:aa}{a v:Z}{L:List Int}(h:xl b1 w a L v)(e:O b1 w):aC w a 1 (bC cc) L:=by
 rcases h with h|⟨b,h,_⟩
 ·exact h.h e
 ·exact h.aI (d0 _)
def xl.du{e:aa}{d:Z}{t:List Int}(a:xl b1 x c t d)(g:px x e d s):xl b1 e c t s:=by
 rcases a with a|⟨k,a,h⟩
 ·exact .inl a
 ·refine .inr ⟨k,?_,λb i l=>?_⟩
  ·rcases a with a|⟨b,m,n,o,rfl,p,j,bc⟩
   ·exact .inl a
   ·exact .inr ⟨b,m,n,o,F,p,(g.2.1 b (iz.1 j).1 (h b F)).trans j,bc⟩
  ·rcases g.2.2 b with f|f|f
   ·have:=(a.D b i).2;omega
   ·exact h b i f
   ·exact f l
def akT{p:dA}(b:kX.rS b1 ff p)(i:∀a,v.ownBlock=J a->a<x.heap.size):ak Y 162 [al (ic ff).toArray] x λd e=>O x e/\xl b1 e d (fU p) v:=by
 apply Ox;obtain⟨n,o,j⟩:=b;refine bd (S:=ic ff) F λr s t u c f=>?_;rw[aj Bh,aM E (f.b.f 0 F),bm,ai];refine⟨λb=>?_,λb=>?_⟩
 ·refine f0 (V:=bC cc) (L:=[8230]) (iR:=[(0,[I cc 8230])]) di gm F mZ g g (d0 _) F F λd z _ h k _=>?_;refine⟨c.a k,?_⟩;rw[show fU p=[8230]from au G];exact .inr ⟨_,h.row,λa l m=>by have:=(h.D a l).1;have:=i a m;have:=c.size;omega⟩
 ·rw[aj En,aM iF (f.b.f 2 F)];refine⟨c,?_⟩;rw[show fU p=p.2.2 from an G];exact .inl j
def af3{p:dA}(a:(fU p)[n]? =J t):(jv p)[n]? =J (lv p t n):=by unfold jv oo;rw[cI,h5,anM,a];simp
def akd{ah:List Z->aa->Prop}{p:dA}{bk:List Int}{M:Nat}(z:ff.1=p.1/\ff.2.1=p.2.1)(a3:p.2.2.length<=20000/\0<=p.2.1/\p.2.1<=1099511627776)(a4:O b1 x)(K:aC b1 e 1 (bC X) bk)(ak:∀h∈bk,0<=h/\h<=16)(bj:bk.length=S.length)(bl:S.length<=20000)
 (a5:ag x k (ic ff))(a7:v.ownBlock≠J k)(a8:xl b1 x c (fU p) v)(a9:∀a b,(fU p)[a]? =J b->S[M+a]? =J (lv p b a))(aA:ar x b1.heap.size 206 4 v bI (iT S bk M))(bn:i<=20000)
 (aB:∀s j,O b1 j->px x j v s->ar j b1.heap.size 206 4 s bI (iT S bk (M+(fU p).length))->ah [s,I X (M+(fU p).length:Nat),I X (i+1:Nat)] j):
 ba [v,I X M,I X 0] 3 n x λf _ x aE=>IN ah aE (ad (J ⟨k,0,ac⟩)) e (I X i) c (I X (fU p).length) (av f) (av (bA f)) (av (bA (bA f))) x:=by
 have bp:=U2 a3.1;refine ba.y (λf d=>O b1 d/\∃(a:Nat) (o:Z),f=[o,I X (M+a:Nat),I X a]/\a<=(fU p).length/\px x d v o/\ar d b1.heap.size 206 4 o bI (iT S bk (M+a)))
  (λf _=>match f with|[_,_,I _ aF]=>((fU p).length-aF).toNat|_=>0) ⟨a4,0,v,F,ec _,px.h (O.p _) v,aA⟩ ?_
 rintro f t d ⟨u,a,o,rfl,br,A,L⟩;unfold IN;rw[av,bA,av,bA,av,aR,ai];refine⟨λbs=>?_,λbu=>?_⟩
 ·obtain⟨b,P⟩:∃c,(fU p)[a]? =J c:=⟨_,aX G⟩;have am:=a9 a b P;have bv:M+a<S.length:=(dS.1 am).1;obtain⟨h,B⟩:∃c,bk[M+a]? =J c:=⟨_,aX G⟩;have aG:=ak h (cl B);have ap:=(a8.du A).aI u;obtain⟨bx,bz,aH,aJ⟩:=ap.m P;have C:=A.H a5 a7;rw[cr di gm G ap P F,aH,aM iG (aJ.U F)];apply bE.h;have m:O d d.drew:=(O.p d).C;obtain⟨b0,b2,aL,aN⟩:=(K.h u).m B;rw[aK (λQ q R=>aj Bh) m,dR E (C.b.f 0 F) m,aK (λQ q R=>cr fW bw G ((K.h u).h q) B F) m,aL,dR E (aN.U F) m,
   aK (λQ q R=>aj Em) m,dR E (C.b.f 1 F) m,aK (λQ q R=>JU b ff.1 h ff.2.1) m]
  refine bo qK λl aO b3 b4 aP aS=>?_;have aq:O d aO:=m.a aP;refine⟨aq,?_⟩;refine aZ (cS:=bI (b,ff.1,h,ff.2.1)) pS g aS F F ae (iK.B _) λaw b5 aT D=>?_;have D:ag aw l (bI (b,ff.1,h,ff.2.1)):=D;have U:d.heap.size<=l:=by have b6:d.drew.heap.size=d.heap.size:=rfl;omega
  have H:O d aw:=aq.ab aT λay w=>by cases w;exact U
  have b7:a<20001:=G;refine bG.y (λf j=>f=[]/\O d j/\l<j.heap.size/\ag j l (bI (b,p.1,h,(lv p b a).2.2.2))) ?_ ?_
  ·rw[aj Bh,aM E ((C.h H).b.f 0 F),bm,ai];refine⟨λq=>?_,λq=>⟨F,H,G,?_⟩⟩
   ·rw[aj Em,aM E ((C.h H).b.f 1 F),aD,aj qG];refine aZ (cS:=[I X (ff.2.1+a)]) bw g D F F (by simp[bI]) (Ge _) λaz b8 aU r=>?_;have r:ag az l (bI (b,ff.1,h,ff.2.1+a)):=r;refine⟨F,H.ab aU (λay w=>by cases w;exact U),G,?_⟩;have:(lv p b a).2.2.2=ff.2.1+a:=by unfold lv;rw[z.2];exact au G
    rw[this,<-z.1];exact r
   ·have:(lv p b a).2.2.2=ff.2.1:=by unfold lv;rw[z.2];exact an G
    rw[this,<-z.1];exact D
  rintro f t az ⟨rfl,a0,aV,r⟩;unfold Ot;refine bG.y (λf j=>f=[]/\O d j/\l<j.heap.size/\ag j l (bI (b,p.1,gY (lv p b a) h,(lv p b a).2.2.2))) ?_ ?_
  ·rw[bm,ai];refine⟨λV=>?_,λV=>⟨F,a0,aV,by rw[show gY (lv p b a) h=h from an V];exact r⟩⟩;rw[aj nH];refine aZ (cS:=[I X 1]) bw g r F F (by simp[bI]) (Ge 1) λa2 bB aW y=>?_;have y:ag a2 l (bI (b,p.1,1,(lv p b a).2.2.2)):=y;exact⟨F,a0.ab aW (λay w=>by cases w;exact U),G,by rw[show gY (lv p b a) h=1 from au V];exact y⟩
  rintro f t a2 ⟨rfl,W,aY,y⟩;refine akc (b1:=b1) (S:=S) (bk:=bk) (c:=lv p b a) am B aG G G (u.a W) aY y (λbb=>?_) (L.h W) (TV ak _) K λs bF bc bd be bg bh=>?_
  ·have:=(L.D l bb).2;omega
  refine⟨⟨bc,a+1,s,by rw[j4],G,(A.a (px.h W o)).a ⟨bg,be,bd⟩,bh⟩,by simp only [];omega⟩
 ·have bi:a=(fU p).length:=G;subst bi;rw[aD];exact aB o d u A L
def kX.cU{e:aa}{p:dA}(a:kX.rS x ff p)(b:O x e):kX.rS e ff p:=⟨a.1,a.2.1,a.2.2.h b⟩
def vD{x:List dA}{e:aP}{p:dA}(b:x[i]? =J p)(a:(jv p)[n]? =J e):(dT x)[(dT (x.take i)).length+n]? =J e:=by
 have c:dT x=dT (x.take (i+1))++dT (x.drop (i+1)):=by unfold dT;rw[<-hG,fi]
 have d:=(dS.1 a).1;rw[c,vE b,wA (by rw[bf];omega),oI G,wD];exact a
def ake{s:List im}{t:List dA}{aE:Int}(ap:oT x e d s)(aq:d.length<=1000000)(au:s.length<=1000000)(P:u4 aE)(aw:A3 x c t)(p:u5 t):
 ak Y 91 [e,c,I X aE] x λay Q=>O x Q/\ar Q x.heap.size 206 4 ay bI (s0 (gU d s) aE t):=by
 have az:tC (gU d s) aE:=⟨CA d s,P⟩;apply YM;unfold Oq;obtain⟨R,n,aU,S⟩:=aw;have aV:=p.z;rw[aS wV n];refine ba.y (λa D=>O x D/\∃(i:Nat) (v:Z),a=[v,I X i]/\i<=t.length/\ar D x.heap.size 21 1 v (bC cc) (tb (t.take i)))
  (λa _=>match a with|[_,I _ E]=>(t.length-E).toNat|_=>0) ⟨O.p x,0,_,F,ec _,ar.nil _ _ _ _ _⟩ ?_
 rintro a a0 D ⟨q,i,v,rfl,aW,z⟩;unfold Ou;have a2:=akV p i;rw[av,bA,av,aR,ai];refine⟨λa3=>?_,λaY=>?_⟩
 ·obtain⟨f,h⟩:∃b,t[i]? =J b:=⟨_,aX G⟩;obtain⟨l,m⟩:∃b,R[i]? =J b:=⟨_,aX G⟩;have r:=S i l f m h;have aZ:=U2 (p.C f (cl h)).1;obtain⟨a4,a5,H,K⟩:=(n.h q).m m;rw[cr wV yY G (n.h q) m F,H,aF A8 K F];refine cj Bq yY g F F (qU.B l) λbb u bc bd U a7=>?_;have j:=q.a U;rw[aF A8 a7.b F];refine(akS (kX.cU r j)).o ?_;rintro b w ⟨o,A⟩;refine jC di gm g mZ F (d0 _) ((z.h U).h o) (j.a o).size A (by have:e0=9223372036854775807:=rfl;omega) (by rw[rt];omega) λa8 a9 aA aB _=>?_;rw[aD];exact⟨⟨(j.a o).ab aB λk y=>(z.D k y).1,i+1,a8,ae,G,by rw[akW h];exact aA⟩,by simp only [];omega⟩
 ·obtain rfl:i=t.length:=G;rw[cI]at z a2;refine(akh (ap.h q) aq au P (z.aI (d0 _)) G).o ?_;rintro be u ⟨aC,V⟩;have j:=q.a aC;have aG:=xw p t.length;rw[cI]at aG;have aH:(tb t).length=(dT t).length:=by rw[<-KX,Ct]
  rw[aH,<-KX]at V;rw[aS wV (n.h j)];have aJ:=V.aI (d0 _);refine ba.y (λa w=>O u w/\∃(i:Nat) (v:Z),a=[v,I X (dT (t.take i)).length,I X i]/\i<=t.length/\ar w u.heap.size 206 4 v bI (iT (dT t) (lh (gU d s) aE (jU (dT t)) (dT t).length) (dT (t.take i)).length))
   (λa _=>match a with|[_,_,I _ E]=>(t.length-E).toNat|_=>0) ⟨O.p _,0,_,F,ec _,ar.nil _ _ _ _ _⟩ ?_
  rintro a a0 w ⟨o,i,W,rfl,bg,B⟩;unfold Ov;have L:=j.a o;rw[av,bA,av,bA,av,aR,ai];refine⟨λa3=>?_,λbh=>?_⟩
  ·obtain⟨f,h⟩:∃b,t[i]? =J b:=⟨_,aX G⟩;obtain⟨l,m⟩:∃b,R[i]? =J b:=⟨_,aX G⟩;have r:=S i l f m h;obtain⟨a4,a5,H,K⟩:=(n.h L).m m;rw[cr wV yY G (n.h L) m F,H,aF A8 K F];refine cj Bq yY g F F (qU.B l) λaK a9 bi bj ag ah=>?_;rw[aF A8 ah.b F];have aj:∀k,W.ownBlock=J k->k<w.heap.size:=λk y=>(B.D k y).2;refine(akT (b1:=u) (v:=W) (kX.cU r j) λk y=>by have:=aj k y;omega).o ?_;rintro b bk ⟨M,A⟩;have am:=(o.a ag).a M;rw[aS di (A.aI am)];refine akd (b1:=u) (ff:=l) (p:=f) (S:=dT t) (M:=(dT (t.take i)).length) (i:=i) ⟨r.1,r.2.1⟩ (p.C f (cl h)) am aJ (Aj az) Hf G (ah.h M) (λaM=>by have:=aj aK aM;omega) A
    (λbn bo aN=>vD h (af3 aN)) ((B.h ag).h M) G λaO bp aP _ an=>?_
   have aT:(dT (t.take i)).length+(fU f).length=(dT (t.take (i+1))).length:=by rw[vE h,bf];congr 1;exact(J4 (a6 _)).symm
   rw[aT]at an⊢;exact⟨⟨aP,i+1,aO,F,G,an⟩,by simp only [];omega⟩
  ·obtain rfl:i=t.length:=G;rw[cI]at B;exact⟨L,B.o j.size⟩
end b0
namespace aY
open Go.Lift Go.bW Go.cB Go.Proofs.YtoddhldofgfdmaaGreatDoor.b0
structure aG where
 G:Int
 C:Int
 aJ:Int
 an:Int
 c5:List UInt8
def kl(d:Int)(x:aB):aB:=(x.1+d,x.2+d)
def hR(d:Int)(x:aG):aG:={x with C:=x.C+d}
def cn(d:Int)(x:aP):aP:=(x.1,x.2.1,x.2.2.1,x.2.2.2+d)
def o8(d:Int)(x:aG):List aP:=(bY x.c5).map λe=>(e,2,0,d)
def gr(R:List aG)(p:Int):List aP:=(R.filter λd=>d.C==p).flatMap (o8 p)
def my(r:List Int)(h:List aB)(p:Nat):List aP:=
 if kg h p then [(8230,3,0,(p:Int))]else if bX h p then []else match r[p]? with|some c=>[(c,1,0,(p:Int))]|none=>[]
def dM(r:List Int)(h:List aB)(R:List aG)(p:Nat):List aP:=(if bX h p then []else gr R p)++my r h p
def eo(d:List Int)(e:List aB)(p:Nat):Bool:=(d[p]? ==J 10)&&!e5 e p
def c3(r:List Int)(e:List aB)(d:List aG)(x:Nat×Nat):List aP:=(hs x.1 (x.2-x.1)).flatMap (dM r e d)++gr d x.2
structure iC (dt d2:List Int) (dd h1:List aB) (fB iN:List aG) (a b c:Nat):Prop where
 aL:a<=b
 aX:a<=c
 qS:b<=dt.length
 oq:c<=d2.length
 l7:dt.length-b=d2.length-c
 b6:∀p,p<a->dt[p]? =d2[p]?
 b7:∀p,dt[b+p]? =d2[c+p]?
 c4:∀x∈dd,x.1<x.2
 c5:∀x∈h1,x.1<x.2
 KG:∃A fG eL B:List aB,dd=A++(fG++B)/\h1=A++(eL++B.map (kl ((c:Int)-b)))/\(∀x∈A,x.2<=(a:Int))/\(∀x∈fG,(a:Int)<=x.1/\x.2<=(b:Int))/\(∀x∈eL,(a:Int)<=x.1/\x.2<=(c:Int))/\∀x∈B,(b:Int)<=x.1
 aK:∃A fG eL B:List aG,fB=A++(fG++B)/\iN=A++(eL++B.map (hR ((c:Int)-b)))/\(∀x∈A,x.C<(a:Int))/\(∀x∈fG,(a:Int)<=x.C/\x.C<=(b:Int))/\(∀x∈eL,(a:Int)<=x.C/\x.C<=(c:Int))/\∀x∈B,(b:Int)<x.C
def gb{α:Type}{l:List α}{f:α->Bool}(e:∀d∈l,f d=ao):l.any f=false:=by rw[List.any_eq_false];intro d g;rw[e d g];decide
def QC{α β:Type}{l:List α}{d:α->β}{f:β->Bool}:(l.map d).any f=l.any λe=>f (d e):=by rw[anP];rfl
section
variable{dt d2:List Int} {dd h1:List aB} {fB iN:List aG} {a b c:Nat}
def iC.Sy(g:iC dt d2 dd h1 fB iN a b c){p:Nat}(w:p<a):e5 dd p=e5 h1 p/\bX dd p=bX h1 p/\kg dd p=kg h1 p:=by
 obtain⟨x,k,l,i,s,t,y,u,v,r⟩:=g.KG;have z:=g.aL;have A:=g.aX;have m:∀d∈k,¬d.1<=(p:Int):=λd e=>by have:=(u d e).1;omega
 have n:∀d∈l,¬d.1<=(p:Int):=λd e=>by have:=(v d e).1;omega
 have o:∀d∈i,¬d.1<=(p:Int):=λd e=>by have:=r d e;omega
 have q:∀d∈i,¬d.1+((c:Int)-b)<=(p:Int):=λd e=>by have:=r d e;omega
 refine⟨?_,?_,?_⟩<;>rw[s,t]<;>simp only [e5,bX,kg,Xn,QC,kl]
 ·rw[gb (l:=k) (f:=λd=>decide (d.1<=(p:Int)/\(p:Int)<d.2)),gb (l:=i) (f:=λd=>decide (d.1<=(p:Int)/\(p:Int)<d.2)),gb (l:=l) (f:=λd=>decide (d.1<=(p:Int)/\(p:Int)<d.2)),gb (l:=i)]
  ·intro d e;exact db λf=>q d e f.1
  ·intro d e;exact db λf=>n d e f.1
  ·intro d e;exact db λf=>o d e f.1
  ·intro d e;exact db λf=>m d e f.1
 ·rw[gb (l:=k) (f:=λd=>decide (d.1<(p:Int)/\(p:Int)<d.2)),gb (l:=i) (f:=λd=>decide (d.1<(p:Int)/\(p:Int)<d.2)),gb (l:=l) (f:=λd=>decide (d.1<(p:Int)/\(p:Int)<d.2)),gb (l:=i)]
  ·intro d e;exact db λf=>q d e G
  ·intro d e;exact db λf=>n d e G
  ·intro d e;exact db λf=>o d e G
  ·intro d e;exact db λf=>m d e G
 ·rw[gb (l:=k) (f:=λd=>decide (d.1=(p:Int))),gb (l:=i) (f:=λd=>decide (d.1=(p:Int))),gb (l:=l) (f:=λd=>decide (d.1=(p:Int))),gb (l:=i)]
  ·intro d e;exact db λf=>q d e G
  ·intro d e;exact db λf=>n d e G
  ·intro d e;exact db λf=>o d e G
  ·intro d e;exact db λf=>m d e G
def iC.rR(g:iC dt d2 dd h1 fB iN a b c)(i:Nat):e5 dd ((b+i:Nat):Int)=e5 h1 ((c+i:Nat):Int)/\bX dd ((b+i:Nat):Int)=bX h1 ((c+i:Nat):Int)/\kg dd ((b+i:Nat):Int)=kg h1 ((c+i:Nat):Int):=by
 obtain⟨j,l,m,w,n,q,s,t,u,x⟩:=g.KG;have y:=g.aL;have z:=g.aX;have r:=g.c4;have v:=g.c5;have k:∀d∈j,¬(((b+i:Nat):Int)<d.2)/\d.1≠((b+i:Nat):Int)/\¬(((c+i:Nat):Int)<d.2)/\d.1≠((c+i:Nat):Int):=λd e=>by have:=s d e;have:=r d (by rw[n];exact hY _ e);omega
 have o:∀d∈l,¬(((b+i:Nat):Int)<d.2)/\d.1≠((b+i:Nat):Int):=λd e=>by have:=t d e;have:=r d (by rw[n];exact lo _ (hY _ e));omega
 have p:∀d∈m,¬(((c+i:Nat):Int)<d.2)/\d.1≠((c+i:Nat):Int):=λd e=>by have:=u d e;have:=v d (by rw[q];exact lo _ (hY _ e));omega
 refine⟨?_,?_,?_⟩<;>rw[n,q]<;>simp only [e5,bX,kg,Xn,QC,kl]
 ·rw[gb (l:=j),gb (l:=j),gb (l:=l),gb (l:=m)]
  ·simp only [yd];congr 1;funext d;congr 1;apply propext;constructor<;>intro f<;>constructor<;>omega
  all_goals (intro d e;simp only [decide_eq_false_iff_not])
  ·exact λf=>(p d e).1 f.2
  ·exact λf=>(o d e).1 f.2
  ·exact λf=>(k d e).2.2.1 f.2
  ·exact λf=>(k d e).1 f.2
 ·rw[gb (l:=j),gb (l:=j),gb (l:=l),gb (l:=m)]
  ·simp only [yd];congr 1;funext d;congr 1;apply propext;constructor<;>intro f<;>constructor<;>omega
  all_goals (intro d e;simp only [decide_eq_false_iff_not])
  ·exact λf=>(p d e).1 f.2
  ·exact λf=>(o d e).1 f.2
  ·exact λf=>(k d e).2.2.1 f.2
  ·exact λf=>(k d e).1 f.2
 ·rw[gb (l:=j),gb (l:=j),gb (l:=l),gb (l:=m)]
  ·simp only [yd];congr 1;funext d;congr 1;apply propext;constructor<;>intro f<;>omega
  all_goals (intro d e;simp only [decide_eq_false_iff_not])
  ·exact(p d e).2
  ·exact(o d e).2
  ·exact(k d e).2.2.2
  ·exact(k d e).2.1
def lF{α:Type}{l:List α}{e:α->Bool}(f:∀d∈l,e d=ao):l.filter e=[]:=by rw[List.filter_eq_nil_iff];intro d g;rw[f d g];decide
def rH{d e:Int}(f:d≠e):(d==e)=false:=by simp[f]
def iC.dc(f:iC dt d2 dd h1 fB iN a b c){g:Nat}(s:g<a):gr fB g=gr iN g:=by
 obtain⟨t,k,l,i,m,n,u,o,p,j⟩:=f.aK;have v:=f.aL;have w:=f.aX;unfold gr;rw[m,n];simp only [jd,hG];rw[lF (l:=k),lF (l:=i),lF (l:=l),lF (l:=i.map _)]
 ·intro e d;obtain⟨q,r,rfl⟩:=eP.1 d;have:=j q r;exact rH (by simp only [hR];omega)
 ·intro e d;have:=p e d;exact rH G
 ·intro e d;have:=j e d;exact rH G
 ·intro e d;have:=o e d;exact rH G
def ahH(d e:Int)(f:aG):o8 (e+d) (hR d f)=(o8 e f).map (cn d):=by unfold o8 hR cn;simp
def iC.de(f:iC dt d2 dd h1 fB iN a b c){i:Nat}(q:1<=i):gr iN ((c+i:Nat):Int)=(gr fB ((b+i:Nat):Int)).map (cn ((c:Int)-b)):=by
 obtain⟨h,k,l,r,m,n,j,o,p,s⟩:=f.aK;have t:=f.aL;have u:=f.aX;unfold gr;rw[m,n];simp only [jd,hG];rw[lF (l:=h),lF (l:=h),lF (l:=k),lF (l:=l)]
 ·simp only [List.flatMap_nil,fc,List.filter_map,AK,HY];have:(((λd:aG=>d.C==((c+i:Nat):Int))∘hR ((c:Int)-b)))=λd=>d.C==((b+i:Nat):Int):=by funext d;simp only [Function.comp_apply,hR];rw[g0];simp only [beq_iff_eq];omega
  rw[this];congr 1;funext d;have:=ahH ((c:Int)-b) ((b+i:Nat):Int) d;rw[<-this];congr 1;omega
 ·intro d e;have:=p d e;exact rH G
 ·intro d e;have:=o d e;exact rH G
 ·intro d e;have:=j d e;exact rH G
 ·intro d e;have:=j d e;exact rH G
def iC.dV(e:iC dt d2 dd h1 fB iN a b c){d:Nat}(f:d<a):dM dt dd fB d=dM d2 h1 iN d:=by obtain⟨_,g,h⟩:=e.Sy f;unfold dM my;rw[g,h,e.dc f,e.b6 d f]
def iC.dZ(d:iC dt d2 dd h1 fB iN a b c){i:Nat}(f:1<=i):dM d2 h1 iN (c+i)=(dM dt dd fB (b+i)).map (cn ((c:Int)-b)):=by
 obtain⟨_,g,h⟩:=d.rR i;have e:(((b+i:Nat):Int)+((c:Int)-b))=((c+i:Nat):Int):=G;unfold dM my;rw[<-g,<-h,d.de f,<-d.b7 i];rw[dJ];congr 1
 ·split<;>rfl
 ·split
  ·simp only [eB,ob,cn];rw[e]
  ·split
   ·rfl
   ·cases dt[b+i]? with
    |none=>rfl
    |some c=>simp only [eB,ob,cn];rw[e]
def iC.QI(d:iC dt d2 dd h1 fB iN a b c){p:Nat}(e:p<a):eo dt dd p=eo d2 h1 p:=by unfold eo;rw[(d.Sy e).1,d.b6 p e]
def iC.QJ(d:iC dt d2 dd h1 fB iN a b c)(i:Nat):eo dt dd (b+i)=eo d2 h1 (c+i):=by unfold eo;rw[(d.rR i).1,d.b7 i]
def rQ{α β:Type}{l:List α}{e f:α->List β}(g:∀d∈l,e d=f d):l.flatMap e=l.flatMap f:=by
 induction l with
 |nil=>rfl
 |cons d l ih=>rw[iB,iB,g d (dv ..),ih λh i=>g h (ey _ i)]
def iC.dS(e:iC dt d2 dd h1 fB iN a b c){d:Nat×Nat}(f:d.2<a):c3 dt dd fB d=c3 d2 h1 iN d:=by unfold c3;rw[e.dc f];congr 1;refine rQ λh g=>e.dV ?_;rw[List.mem_range'_1]at g;omega
def iC.dT(d:iC dt d2 dd h1 fB iN a b c){i eX:Nat}(f:1<=i)(g:i<=eX):c3 d2 h1 iN (c+i,c+eX)=(c3 dt dd fB (b+i,b+eX)).map (cn ((c:Int)-b)):=by
 unfold c3
 dsimp only
 rw[dJ,<-d.de G];congr 1;rw[show c+eX-(c+i)=eX-i from G,show b+eX-(b+i)=eX-i from G,anQ,anQ,AK,AK,HY];refine rQ λe _=>?_;have:=d.dZ (i:=i+e) G;rw[<-j4,<-j4]at this;exact this
def To{b kA:Nat->Bool}:∀{p:Nat},(∀d,d<p->b d=kA d)->fw b p=fw kA p
 |0,_=>F
 |p+1,e=>by unfold fw;rw[e p G,To λd f=>e d G]
def S_{b kA:Nat->Bool}:∀{k p mx:Nat},(∀d,d<k->b (p+d)=kA (mx+d))->fL b k p+mx=fL kA k mx+p
 |0,p,mx,_=>by unfold fL;omega
 |k+1,p,mx,e=>by
  unfold fL;have dd:=e 0 G;simp only [nw]at dd;rw[dd];split
  ·omega
  ·have:=S_ (b:=b) (kA:=kA) (k:=k) (p:=p+1) (mx:=mx+1) λd f=>by have:=e (d+1) G;rw[show p+1+d=p+(d+1)from G,show mx+1+d=mx+(d+1)from G];exact this
   omega
def iC.dU(g:iC dt d2 dd h1 fB iN a b c):∃(s e f:Nat) (T:List (Nat×Nat)),
 s=fw (eo dt dd) a/\s=fw (eo d2 h1) a/\e=fL (eo dt dd) (dt.length-b) b/\f=fL (eo d2 h1) (d2.length-c) c/\e+c=f+b/\s<=a/\b<=e/\e<=dt.length/\c<=f/\f<=d2.length/\
 ui (eo dt dd) dt.length=gn (eo dt dd) s++(cQ (eo dt dd) (e-s) s s++T.map λd=>(e+1+d.1,e+1+d.2))/\
 ui (eo d2 h1) d2.length=gn (eo dt dd) s++(cQ (eo d2 h1) (f-s) s s++T.map λd=>(f+1+d.1,f+1+d.2))/\
 (∀d∈gn (eo dt dd) s,d.1<=d.2/\d.2<s/\c3 dt dd fB d=c3 d2 h1 iN d)/\
 (∀d∈T,d.1<=d.2/\e+1+d.2<=dt.length/\c3 d2 h1 iN (f+1+d.1,f+1+d.2)=(c3 dt dd fB (e+1+d.1,e+1+d.2)).map (cn ((c:Int)-b)))/\
 (s=0\/eo dt dd (s-1)=af)/\(s=0\/eo d2 h1 (s-1)=af)/\(e=dt.length\/eo dt dd e=af)/\(f=d2.length\/eo d2 h1 f=af):=by
 have S:=g.aL;have U:=g.aX;have V:=g.qS;have W:=g.oq;have l:=g.l7;have m:=To (b:=eo dt dd) (kA:=eo d2 h1) (p:=a) λi n=>g.QI n;have o:=S_ (b:=eo dt dd) (kA:=eo d2 h1) (k:=dt.length-b) (p:=b) (mx:=c) λk _=>g.QJ k;rw[l]at o;have ag:=zC (eo dt dd) a;have z:=sW (eo dt dd) (dt.length-b) b;have ah:=sW (eo d2 h1) (d2.length-c) c;have A:=xH (eo dt dd) a;have p:=xH (eo d2 h1) a;have q:=sV (eo dt dd) (dt.length-b) b;have B:=sV (eo d2 h1) (d2.length-c) c;rw[<-m]at p;rw[l]at z q;generalize ai:fw (eo dt dd) a=s at*;rw[l];generalize aj:fL (eo dt dd) (d2.length-c) b=e at*;generalize ak:fL (eo d2 h1) (d2.length-c) c=f at*;have r:s=0\/eo dt dd (s-1)=true:=A.imp id (λj=>j.2);have t:s=0\/eo d2 h1 (s-1)=true:=p.imp id (λj=>j.2);have u:e=dt.length\/eo dt dd e=true:=by
  rcases q with j|j
  ·left;omega
  ·exact .inr j.2
 have v:f=d2.length\/eo d2 h1 f=true:=by
  rcases B with j|j
  ·left;omega
  ·exact .inr j.2
 have C:=FY (b:=eo dt dd) (n:=dt.length) (s:=s) (e:=e) r G G u;have H:=FY (b:=eo d2 h1) (n:=d2.length) (s:=s) (e:=f) t G G v;have K:gn (eo d2 h1) s=gn (eo dt dd) s:=by
  unfold gn;split
  ·rfl
  ·exact GZ λi _ n=>(g.QI G).symm
 have L:∃T:List (Nat×Nat),q4 (eo dt dd) dt.length e=T.map (λd=>(e+1+d.1,e+1+d.2))/\q4 (eo d2 h1) d2.length f=T.map (λd=>(f+1+d.1,f+1+d.2))/\∀d∈T,d.1<=d.2/\e+1+d.2<=dt.length:=by
  unfold q4;by_cases w:e<dt.length
  ·refine⟨cQ (λk=>eo dt dd (e+1+k)) (dt.length-e-1) 0 0,?_,?_,?_⟩
   ·rw[au w,Vu]
   ·rw[au G,Vu,show d2.length-f-1=dt.length-e-1 from G];congr 1;refine GZ λi _ _=>?_;have:=g.QJ (e+1+i-b);rw[show b+(e+1+i-b)=e+1+i from G,show c+(e+1+i-b)=f+1+i from G]at this;exact this.symm
   ·intro d h;have:=(ti (a6 _) (λi _ _=>G) h).1;omega
  ·exact⟨[],by rw[an w];rfl,by rw[an G];rfl,λd h=>by cases h⟩
 obtain⟨T,M,O,P⟩:=L;refine⟨s,e,f,T,F,m,F,F,o,G,G,G,G,G,?_,?_,?_,?_,r,t,u,v⟩
 ·rw[C,M]
 ·rw[H,O,K]
 ·intro d h;unfold gn at h;split at h
  ·cases h
  ·have:=(ti (a6 _) (λi _ _=>G) h).1;exact⟨G,G,g.dS G⟩
 ·intro d h;obtain⟨Q,R⟩:=P d h;refine⟨Q,R,?_⟩;have:=g.dT (i:=e+1+d.1-b) (eX:=e+1+d.2-b) G G;rw[show c+(e+1+d.1-b)=f+1+d.1 from G,show c+(e+1+d.2-b)=f+1+d.2 from G,show b+(e+1+d.1-b)=e+1+d.1 from G,show b+(e+1+d.2-b)=e+1+d.2 from G]at this;exact this
end
def a7(f:Int->Int)(aE:Int)(S:List aP):List aP:=iT S (lh f aE (jU S) S.length) S.length
def eD(a:aP):Bool:=a.1==32||a.1==9
def bS(c:aP):Int:=c.2.2.1
def jS:List aP->Int->Nat
 |[],_=>0
 |a::c,b=>if bS a<=b then jS c (b-bS a)+1 else 0
def kn:List aP->Nat
 |[]=>0
 |a::b=>if bS a=0 then kn b+1 else 0
def hM(l:List aP)(a:Int):Nat:=if jS l a=0 then 1+kn (l.drop 1)else jS l a
def p0(l:List aP):Nat->Bool
 |0=>ao
 |a+1=>match l[a]?,l[a+1]? with
  |some c,J b=>eD c&&!eD b&&decide (0<bS b)
  |_,_=>ao
def kH(l:List aP):Nat->Nat
 |0=>0
 |a+1=>if p0 l (a+1)then a+1 else kH l a
def fM(l:List aP)(a:Int):Nat:=
 if l.length=0 then 0 else if hM l a=l.length then hM l a else if kH l (hM l a)=0 then hM l a else kH l (hM l a)
def ja(l:List aP)(a:Int):Nat:=if(l.take (fM l a)).all eD then(if fM l a=0 then 0 else hM l a)else fM l a
def k4(bc:Int):Nat->List aP->List Nat
 |0,_=>[]
 |b+1,a=>if a.length=0 then []else fM a bc::k4 bc b (a.drop (fM a bc))
def vp(l:List aP)(first bc:Int):List Nat:=ja l first::k4 bc l.length (l.drop (ja l first))
def qY(a:List aP):Int:=min 8 (cZ (a.takeWhile eD))
def nh(a:List aP)(b:Int):Int:=if b<qY a+2 then 0 else qY a
def gq(b:List aP)(a:Int):List Nat:=if a=0 then [b.length]else vp b a (a-nh b a)
def ke:List aP->Int
 |[]=>0
 |a::_=>a.2.2.2
def kk(b:Nat):Nat->List aP->List Nat->List (List aP)
 |_,_,[]=>[]
 |c,a,d::e=>((if c=0 then []else kR b (32,5,1,ke a))++a.take d)::kk b (c+1) (a.drop d) e
def jE(a:List aP)(b:Int):List (List aP):=kk (nh a b).toNat 0 a (gq a b)
structure dW where
 b:List aP
 cL:Int
 o3:Int
 dB:Int
 ba:Bool
 bm:Bool
 bl:Int
def eg(b:Int)(row:List aP):Int:=match row.find? (λa=>a.2.1 !=5)with|some a=>a.2.2.2|none=>b
def hh(row:List aP):Bool:=row.any λa=>a.2.1==3
def gg(r:List Int)(x:Nat×Nat):List (List aP)->Nat->List dW
 |[],_=>[]
 |row::bc,a=>⟨row,eg x.1 row,(match bc with|[]=>(x.2:Int)|b::_=>eg x.1 b),cK (r.take (eg x.1 row).toNat),decide (0<a),hh row,cZ row⟩::gg r x bc (a+1)
def xU(a:List Int)(c:List aB)(d:List aG)(f:Int->Int)(e g:Int)(b:Nat×Nat):List dW:=gg a b (jE (a7 f e (c3 a c d b)) g) 0
def aha(a:Int)(b:aP)(c:Int):ng (cn a b) c=(ng b c).map (cn a):=by unfold ng gY cn;simp
def aih(b:Int)(a:List aP):jU (a.map (cn b))=jU a:=by unfold jU;rw[pr];rfl
def WN(b:Int):∀(a:List aP) (bk:List Int),(a.map (cn b)).zip bk=(a.zip bk).map λc=>(cn b c.1,c.2)
 |[],bk=>ae
 |d::a,[]=>ae
 |d::a,e::bk=>by simp only [eB,List.zip_cons_cons];rw[WN b a bk]
def amQ(a:Int)(b:Int->Int)(c:Int)(d:List aP):a7 b c (d.map (cn a))=(a7 b c d).map (cn a):=by unfold a7;rw[aih,b_];unfold iT;rw[WN,<-qp,AK,HY];exact rQ λe _=>aha a e.1 e.2
def afK(b:Int)(a:aP):eD (cn b a)=eD a:=rfl
def R6(d:Int):∀(b:List aP) (a:Int),jS (b.map (cn d)) a=jS b a
 |[],_=>F
 |c::b,a=>by show(if bS c<=a then jS (b.map (cn d)) (a-bS c)+1 else 0)=(if bS c<=a then jS b (a-bS c)+1 else 0);rw[R6 d b]
def WI(b:Int):∀(a:List aP),kn (a.map (cn b))=kn a
 |[]=>F
 |c::a=>by show(if bS c=0 then kn (a.map (cn b))+1 else 0)=(if bS c=0 then kn a+1 else 0);rw[WI b a]
def R7(c:Int)(a:List aP)(b:Int):hM (a.map (cn c)) b=hM a b:=by unfold hM;rw[R6,<-AH,WI]
def afM(d:Int)(b:List aP)(a:Nat):p0 (b.map (cn d)) a=p0 b a:=by
 cases a with
 |zero=>rfl
 |succ a=>show(match(b.map (cn d))[a]?,(b.map (cn d))[a+1]? with|some e,some c=>eD e&&!eD c&&decide (0<bS c)|_,_=>false)=(match b[a]?,b[a+1]? with|some e,some c=>eD e&&!eD c&&decide (0<bS c)|_,_=>false);rw[h5,h5];cases b[a]? <;>cases b[a+1]? <;>rfl
def S5(c:Int)(b:List aP):∀a,kH (b.map (cn c)) a=kH b a
 |0=>F
 |a+1=>by unfold kH;rw[afM,S5 c b a]
def V0(c:Int)(a:List aP)(b:Int):fM (a.map (cn c)) b=fM a b:=by unfold fM;rw[b_,R7,S5]
def afr(b:Int)(a:List aP):(a.map (cn b)).all eD=a.all eD:=by rw[List.all_map];rfl
def alQ(c:Int)(a:List aP)(b:Int):ja (a.map (cn c)) b=ja a b:=by unfold ja;rw[V0,R7,<-qp,afr]
def Qz(c bc:Int):∀(a:Nat) (b:List aP),k4 bc a (b.map (cn c))=k4 bc a b
 |0,_=>F
 |a+1,b=>by unfold k4;rw[b_,V0,<-AH,Qz c bc a]
def V1(c:Int):∀a:List aP,(a.map (cn c)).takeWhile eD=(a.takeWhile eD).map (cn c)
 |[]=>F
 |d::a=>by
  rw[eB,Nw,Nw,afK];by_cases b:eD d=af
  ·rw[au b,au b,eB,V1 c a]
  ·rw[an b,an b];rfl
def amU(b:Int)(a:List aP):cZ (a.map (cn b))=cZ a:=by unfold cZ;rw[pr];rfl
def Sz(c:Int)(a:List aP)(b:Int):nh (a.map (cn c)) b=nh a b:=by unfold nh qY;rw[V1,amU]
def amf(c:Int)(a:List aP)(b:Int):gq (a.map (cn c)) b=gq a b:=by unfold gq vp;rw[b_,Sz,alQ,<-AH,Qz]
abbrev Oh:=List aP×Bool×Bool×Int
def dh(a:aP):aP:=(a.1,a.2.1,a.2.2.1,0)
def ee(a:dW):Oh:=(a.b.map dh,a.ba,a.bm,a.bl)
def zx:List (List aP)->Nat->List Oh
 |[],_=>[]
 |row::bc,a=>(row.map dh,decide (0<a),hh row,cZ row)::zx bc (a+1)
def Ld(b:List Int)(c:Nat×Nat):∀(d:List (List aP)) (a:Nat),(gg b c d a).map ee=zx d a
 |[],_=>F
 |row::bc,a=>by simp only [gg,zx,eB];rw[Ld b c bc];rfl
def vS(r:List Int)(x:Nat×Nat):∀(a:List (List aP)) (b:Nat),(gg r x a b).length=a.length
 |[],_=>F
 |row::bc,b=>by simp only [gg,d1];rw[vS r x bc]
def Sl(a:List aP):hh (a.map dh)=hh a:=by unfold hh;rw[anP];rfl
def Wl(a:List aP):cZ (a.map dh)=cZ a:=by unfold cZ;rw[pr];rfl
def ai9(b:Int)(a:List aP):(a.map (cn b)).map dh=a.map dh:=by rw[pr];rfl
def S1:∀(d e:List (List aP)) (b:Nat),d.map (λc=>c.map dh)=e.map (λc=>c.map dh)->zx d b=zx e b
 |[],[],_,_=>F
 |[],_::_,_,a=>by simp at a
 |_::_,[],_,a=>by simp at a
 |f::h,g::i,b,a=>by simp only [eB,HO]at a;unfold zx;rw[S1 h i (b+1) a.2,a.1,<-Sl f,<-Sl g,<-Wl f,<-Wl g,a.1]
def UO(f:Int)(b:Nat):∀(a:List Nat) (c:Nat) (d:List aP),(kk b c (d.map (cn f)) a).map (λe=>e.map dh)=(kk b c d a).map (λe=>e.map dh)
 |[],_,_=>F
 |g::a,c,d=>by
  simp only [kk,eB];rw[<-AH,UO f b a,dJ,dJ,<-qp,ai9];congr 2;split
  ·rfl
  ·simp only [List.map_replicate];rfl
def akE{x e:List Int}{c d:List aB}{s t:List aG}{u:Int->Int}{k i v:Int}{n:Nat×Nat}{a:Nat×Nat}(b:c3 e d t a=(c3 x c s n).map (cn v)):
 (xU e d t u k i a).map ee=(xU x c s u k i n).map ee:=by
 unfold xU;rw[Ld,Ld,b,amQ];refine S1 _ _ _ ?_;unfold jE;rw[Sz,amf];exact UO v _ _ _ _
def R5:∀(a:List aP) (b:Int),jS a b<=a.length
 |[],_=>a6 _
 |c::a,b=>by
  unfold jS;split
  ·have:=R5 a (b-bS c);simp only [d1];omega
  ·exact ec _
def WH:∀(a:List aP),kn a<=a.length
 |[]=>a6 _
 |b::a=>by
  unfold kn;split
  ·have:=WH a;simp only [d1];omega
  ·exact ec _
def Fu{l:List aP}(a:Int)(c:0<l.length):1<=hM l a/\hM l a<=l.length:=by unfold hM;have d:=R5 l a;have b:=WH (l.drop 1);rw[cO]at b;split<;>omega
def S4(b:List aP):∀a,kH b a<=a
 |0=>a6 _
 |a+1=>by unfold kH;split;exact a6 _;have:=S4 b a;omega
def x8{l:List aP}(a:Int)(b:0<l.length):1<=fM l a/\fM l a<=l.length:=by
 have c:=Fu a b;have d:=S4 l (hM l a);unfold fM;rw[an G];split
 ·omega
 ·split<;>omega
def MA{l:List aP}(a:Int)(b:0<l.length):1<=ja l a/\ja l a<=l.length:=by
 have c:=Fu a b;have d:=x8 a b;unfold ja;split
 ·rw[an G];exact c
 ·exact d
def alP(a:Int):ja [] a=0:=rfl
def QA(bc:Int):∀(b:Nat) (l:List aP),l.length<=b->(k4 bc b l).sum=l.length/\∀c∈k4 bc b l,1<=c
 |0,l,d=>⟨by simp[k4];omega,λc a=>by cases a⟩
 |b+1,l,d=>by
  unfold k4;split
  ·rename_i e;exact⟨e.symm,λc a=>by cases a⟩
  ·have f:=x8 (l:=l) bc G;have ih:=QA bc b (l.drop (fM l bc)) (by rw[cO];omega);rw[cO]at ih;refine⟨by rw[jJ];omega,λc a=>?_⟩;rcases df.1 a with rfl|a
   ·exact f.1
   ·exact ih.2 c a
def JQ(bc:Int):∀(a b:Nat) (l:List aP),l.length<=a->l.length<=b->k4 bc a l=k4 bc b l
 |0,0,_,_,_=>F
 |0,b+1,l,c,_=>by unfold k4;rw[au G]
 |a+1,0,l,_,c=>by unfold k4;rw[au G]
 |a+1,b+1,l,d,e=>by
  unfold k4;split
  ·rfl
  ·have f:=x8 (l:=l) bc G;rw[JQ bc a b (l.drop (fM l bc)) (by rw[cO];omega) (by rw[cO];omega)]
def C9(a:List aP)(b:Int):(gq a b).sum=a.length/\(∀d∈(gq a b).tail,1<=d)/\0<(gq a b).length:=by
 unfold gq;split
 ·simp
 ·unfold vp;rcases nz a.length with c|c
  ·have:a=[]:=ig c;subst this;simp[alP,k4]
  ·have e:=MA b c;have ih:=QA (b-nh a b) a.length (a.drop (ja a b)) (by rw[cO];omega);rw[cO]at ih;exact⟨by rw[jJ];omega,ih.2,ae⟩
def CN(b:Nat):∀(a:List Nat) (c:Nat) (d:List aP),(kk b c d a).length=a.length
 |[],_,_=>F
 |e::a,c,d=>by simp only [kk,d1];rw[CN b a]
def amZ(a:List aP)(b:Int):0<(jE a b).length:=by unfold jE;rw[CN];exact(C9 a b).2.2
end aY
end Go.Proofs.YtoddhldofgfdmaaGreatDoor
namespace Go.Lift
open Go Go.RowKit Go.MapKept
structure rn {α:Type} (P:bq) (hC:cv) (V:α->Z):Prop where
 mm:∀em w x,(HZ em 10000 hC (V x)).run P w= .ok () w
 cx:∀(x:α) (es:List MapEntry) (bb:List α) (w:aa),es.map (·.key)=bb.map V->
  ∃r,(Xr hC (V x) es).run P w= .ok r w/\((x∉bb/\r=ac)\/∃i e,r=J (i,e.val)/\es[i]? =J e/\bb[i]? =J x)
def rn.ep{P:bq}{hC:cv}(g:P.underlying hC=J (.int X)):rn P hC (λm:Int=>I X m):=by
 refine⟨λn w c=>run_checkKey g (by simp[IsKey]) n 9999,λc d bb w h=>?_⟩;have i:∀a∈d,IsKey (.int X) a.key:=λa j=>by have:a.key∈d.map (·.key):=eP.2 ⟨a,j,F⟩;rw[h]at this;obtain⟨o,_,i⟩:=eP.1 this;rw[<-i];simp[IsKey]
 rcases findNow_spec (d:= .int X) (k:=I X c) (by simp[IsKey]) d 0 i with⟨k,e⟩|⟨f,a,k,e,p⟩
 ·refine⟨ac,run_findKey g k,.inl ⟨λq=>?_,F⟩⟩;have:(I X c)∈d.map (·.key):=by rw[h];exact eP.2 ⟨c,q,F⟩
  obtain⟨a,j,r⟩:=eP.1 this;exact e a j r
 ·refine⟨J (0+f,a.val),run_findKey g k,.inr ⟨f,a,by rw[hW],e,?_⟩⟩;have:(d.map (·.key))[f]? =J (I X c):=by rw[h5,e];simp[p]
  rw[h,h5]at this;cases l:bb[f]? with
  |none=>rw[l]at this;simp at this
  |some t=>rw[l]at this;simp at this;rw[this]
def rn.ej{α:Type}{P:bq}{hC:cv}{V:α->List Z}(l:List Nat)(v:∃k,P.underlying hC=J (ql k))(x:oY P 20 hC=J l)(r:sG P hC=af)(s:∀a,hg P l (V a)=af)(y:∀a e,V a=V e->a=e)
 (z:∀A w a,(HZ A 10000 hC (al (V a).toArray)).run P w= .ok () w):rn P hC (λa=>al (V a).toArray):=by
 refine⟨z,λa c bb w g=>?_⟩;obtain⟨k,B⟩:=v;have C:∀e:α,∃d:Bool,(d=af↔a=e)/\(Op.equal hC (al (V a).toArray) (al (V e).toArray)).run P w= .ok d w:=λe=>by obtain⟨d,m,n⟩:=RU 20 hC 10000 l G x (V a) (V e) _ _ (s a) (s e) (.inl ⟨r,F⟩) (.inl ⟨r,F⟩);exact⟨d,m.trans ⟨y a e,λf=>by rw[f]⟩,by unfold Op.equal Op.maxDepth;exact n w⟩
 have D:∀(c:List MapEntry) (bb:List α) (h:Nat),c.map (·.key)=bb.map (λa=>al (V a).toArray)->
  ∃d,(Nx hC (al (V a).toArray) c h).run P w= .ok d w/\((a∉bb/\d=ac)\/∃i f,d=J (h+i,f.val)/\c[i]? =J f/\bb[i]? =J a):=by
  intro c
  induction c with
  |nil=>
   intro bb h g;have:bb=[]:=by have:=ck gB g;simp at this;exact ig this.symm
   subst this;exact⟨ac,F,.inl ⟨ae,F⟩⟩
  |cons f c ih=>
   intro bb h g;cases bb with
   |nil=>simp at g
   |cons e bb=>
    simp only [eB,HO]at g;obtain⟨d,t,o⟩:=C e;rw[<-g.1]at o;cases d with
    |true=>
     refine⟨J (h,f.val),?_,.inr ⟨0,f,F,F,?_⟩⟩
     ·unfold Nx;rw[fN,o];rfl
     ·rw[t.1 F];rfl
    |false=>
     obtain⟨E,H,K⟩:=ih bb (h+1) g.2;refine⟨E,?_,?_⟩
     ·unfold Nx;rw[fN,o];exact H
     ·rcases K with⟨p,q⟩|⟨i,L,p,q,M⟩
      ·refine .inl ⟨λj=>?_,q⟩;rcases df.1 j with j|j
       ·have:=t.2 j;cases this
       ·exact p j
      ·exact .inr ⟨i+1,L,by rw[p];congr 2;omega,by simpa using q,by simpa using M⟩
 have u:(Xr hC (al (V a).toArray) c).run P w=(match Xs (ql k) (al (V a).toArray) c 0 with|some d=>pure d|none=>Nx hC (al (V a).toArray) c:Sem _).run P w:=by unfold Xr;rw[fN,eJ B];rfl
 cases c with
 |nil=>
  have:bb=[]:=by have:=ck gB g;simp at this;exact ig this.symm
  subst this;exact⟨ac,u.trans F,.inl ⟨ae,F⟩⟩
 |cons f c=>
  obtain⟨d,m,n⟩:=D (f::c) bb 0 g;refine⟨d,?_,?_⟩
  ·rw[u];have:Xs (ql k) (al (V a).toArray) (f::c) 0=none:=by unfold Xs Instr.sameNow;cases f.key<;>rfl
   rw[this];exact m
  ·simpa using n
def K7{α β:Type}(d:α->β):∀(a:List α) (c:Nat),(a.eraseIdx c).map d=(a.map d).eraseIdx c
 |[],c=>ae
 |e::a,0=>F
 |e::a,c+1=>by simp only [List.eraseIdx_cons_succ,eB];rw[K7 d a c]
def vP(P:bq)(T:cv):Option (cv×cv):=match P.underlying T with|some (.map a c)=>some (a,c)|_=>none
def K6{P:bq}{T c d:cv}(a:vP P T=J (c,d)):P.underlying T=J (.map c d):=by
 unfold vP at a;cases hu:P.underlying T with
 |none=>rw[hu]at a;cases a
 |some e=>rw[hu]at a;cases e<;>first|(cases a;done)|(cases a;rfl)
def kU{α:Type}(w:aa)(V:α->Z)(Q:Z->Prop)(b:Nat)(bb:List α):Prop:=∃a h_,w.heap[b]? =J (.map a h_)/\a.toList.map (·.key)=bb.map V/\∀c∈a.toList,Q c.val
section
variable{α:Type} {P:bq} {T hC Fp:cv} {w aq:aa} {V:α->Z} {Q:Z->Prop} {b:Nat} {bb:List α}
def kU.D(h:kU w V Q b bb):b<w.heap.size:=by obtain⟨a,h_,h,_⟩:=h;exact(iz.1 h).1
def kU.h(h:kU w V Q b bb)(e:O w aq):kU aq V Q b bb:=by have a:=h.D;obtain⟨c,h_,d,f,g⟩:=h;exact⟨c,h_,(e.block b a).trans d,f,g⟩
def kU.ab{row:Option Nat}(h:kU w V Q b bb)(g:w.grownBy aq row)(a:J b≠row):kU aq V Q b bb:=by have c:=h.D;obtain⟨d,h_,e,f,i⟩:=h;exact⟨d,h_,(g.block b c a).trans e,f,i⟩
variable{K:aU}
def GQ(V:α->Z)(Q:Z->Prop)(a:∀b aq,b=w.heap.size->aq.heap.size=b+1->O w aq->kU aq V Q b []->K (.map (J b)) aq):Ma P T w K:=by have c:(Instr.makeMap T ac).run P w= .ok (.map (J w.heap.size)) (w.alloc (.map #[] 0)):=rfl;unfold Ma bM;rw[c];exact a _ _ F ae (O.fl w _) ⟨#[],0,mE w _,F,λe d=>by cases d⟩
def CV(k:vP P T=J (hC,Fp))(g:rn P hC V)(d:∃e,(∀w,(qi Fp).run P w= .ok e w)/\Q e)(a:kU w V Q b bb)(c:α)(h:∀i (f:Bool),Q i->(f=af↔c∈bb)->K (a1 #[i,ax f]) w):
 L_ P T (.map (J b)) (V c) af w K:=by
 obtain⟨j,h_,l,m,n⟩:=a;obtain⟨f,o,p⟩:=g.cx c j.toList bb w m;obtain⟨e,d,q⟩:=d;have r:=g.mm j.isEmpty w c;unfold L_ bM Instr.lookup;simp only [fN,eJ (K6 k),jI,Xo l,oa,r,o];rcases p with⟨s,rfl⟩|⟨x,t,rfl,u,v⟩
 ·simp only [fN,d,jI,oa];exact h _ ao q ⟨(λa=>by cases a),λa=>aL a s⟩
 ·simp only [fN,jI,oa];exact h _ af (n t (cl u)) ⟨λ_=>cl v,λ_=>F⟩
def KC{x e:Obj}{a:Nat}(afd:w.heap[a]? =some x):w.grownBy {w with heap:=w.heap.setIfInBounds a e} (some a):=
 ⟨F,F,F,ae,λc _ d=>by simp[show a≠c from λf=>d (by rw[f])]⟩
def GS{e:aa->Prop}{v:Z}(j:Q v)(k:vP P T=J (hC,Fp))(f:rn P hC V)(l:kU w V Q b bb){a:α}(m:a∉bb)(n:∀aq,w.grownBy aq (J b)->aq.heap.size=w.heap.size->kU aq V Q b (bb++[a])->e aq):
 GR P T (.map (J b)) (V a) v w e:=by
 obtain⟨g,h_,c,h,o⟩:=l;obtain⟨t,p,q⟩:=f.cx a g.toList bb w h;have r:=f.mm ao w a;rcases q with⟨u,rfl⟩|⟨x,i,rfl,y,s⟩
 ·unfold GR bM Instr.mapUpdate;simp only [fN,eJ (K6 k),jI,Xo c,r,p,Xp _ c];refine n _ (KC c) ae ⟨g.push {key:=V a,val:=v,born:=h_},h_+1,(heap_set c).1,by simp[h],λi d=>?_⟩;simp only [Array.toList_push,b9,cL]at d;rcases d with d|rfl
  ·exact o i d
  ·exact j
 ·exact aL (cl s) m
def ak_{v x:cv}(l:vP P T=J (hC,Fp))(o:rn P hC V)(y:kU w V Q b bb)(e:α)(p:∀aq m,w.grownBy aq (J b)->aq.heap.size=w.heap.size->kU aq V Q b m->(bb.Nodup->m.Nodup/\∀c,c∈m↔c∈bb/\c≠e)->K (a1 #[]) aq):
 cz P .delete [T,v] x [.map (J b),V e] w K:=by
 obtain⟨h,h_,g,n,q⟩:=y;obtain⟨M,z,A⟩:=o.cx e h.toList bb w n;have B:=o.mm h.isEmpty w e;unfold cz bM;simp only [Builtin.delete_];simp only [List.getElem?_toArray,qm,pk,fN,eJ (K6 l),jI,Xo g,B,z];rcases A with⟨C,rfl⟩|⟨a,f,rfl,D,E⟩
 ·simp only [fN,Xp _ g,jI,oa];refine p _ bb (KC g) ae ⟨h,h_,(heap_set g).1,n,q⟩ λi=>⟨i,λc=>⟨λj=>⟨j,λf=>C (f▸j)⟩,λj=>j.1⟩⟩
 ·simp only [fN,Xp _ g,jI,oa];have r:a<h.size:=by have:=(dS.1 D).1;simpa using this
  refine p _ (bb.eraseIdx a) (KC g) ae ⟨h.eraseIdxIfInBounds a,h_,(heap_set g).1,?_,?_⟩ λi=>⟨i.sublist (anS _ _),λc=>?_⟩
  ·unfold anT;rw[dif_pos r];simp only [anU];rw[K7,K7,n]
  ·intro f k;unfold anT at k;rw[dif_pos r]at k;simp only [anU]at k;exact q f ((anS _ _).subset k)
  ·obtain⟨O,F⟩:=dS.1 E;have s:bb=bb.take a++e::bb.drop (a+1):=by rw[<-F,List.getElem_cons_drop,fi]
   have G:bb.eraseIdx a=bb.take a++bb.drop (a+1):=List.eraseIdx_eq_take_drop_succ bb a;rw[G];have t:(bb.take a++e::bb.drop (a+1)).Nodup:=s▸i;rw[List.nodup_append]at t;obtain⟨R,u,H⟩:=t;rw[List.nodup_cons]at u;have l:c∈bb↔c∈bb.take a\/c=e\/c∈bb.drop (a+1):=by
    have:c∈bb↔c∈bb.take a++e::bb.drop (a+1):=by rw[<-s]
    rw[this,b9,df]
   rw[b9,l];constructor
   ·rintro(d|d)
    ·exact⟨.inl d,λf=>H c d e (dv ..) f⟩
    ·exact⟨.inr (.inr d),λf=>u.1 (f▸d)⟩
   ·rintro⟨d|d|d,L⟩
    ·exact .inl d
    ·exact aL d L
    ·exact .inr d
end
end Go.Lift
namespace Go.Lift
open Go Go.RowKit
variable{x e:List Z}{n k:Nat}
def G7(a:n+k+e.length<=x.length):(dE x (n+k) e).drop n=dE (x.drop n) k e:=by unfold dE;rw[rf (by rw[bf,bt];omega),rf (by rw[bt];omega),si,wD,jF];congr 2;omega
def alD(a:k<=n)(b:n<=x.length):(dE x n e).take k=x.take k:=by unfold dE;rw[cX,nx (by rw[bt];omega),n9,lP a]
variable{P:bq}{T:cv}{w:aa}
variable{i t:Nat}
def alm{e c:Z}{α:Type}{V:α->List Z}{b:List α}{x:α}{o:aa->Prop}(y:cg P T=i)(z:0<i)(j:eR V i)(A:ar w n k i e V b)(l:t<b.length)(B:c.cells=(V x).toArray)
 (C:∀h,h.heap.size=w.heap.size->w.grownBy h e.ownBlock->ar h n k i e V (b.set t x)->o h):c4 P T (ad (J (qT e i t))) c w o:=by
 rcases A with⟨rfl,rfl⟩|⟨f,a,p,d,rfl,D,q,r,E,G,H⟩
 ·simp at l
 ·have g:=j.bl x;have Q:t*i+i<=b.length*i:=by rw[<-Ni];exact ny i l
  have R:b.length*i<=p*i:=ny i r;have m:d.toList.length=d.size:=ae;have s:a+t*i+(V x).length<=d.toList.length:=by rw[g,m];omega
  have K:((dE d.toList (a+t*i) (V x)).drop a).take (b.length*i)=(b.set t x).flatMap V:=by rw[G7 s,Mv (m:=b.length*i) (by rw[g];omega) (by rw[cO,m];omega),H,j.ax b t x l]
  have u:=uM P f (a+t*i) k (V x) 0 d w q (by rw[g];omega) (j.B x);have v:=C (w.setRow f (dE d.toList (a+t*i) (V x)).toArray) ae ⟨F,F,F,ae,λL _ M=>uN w f L _ (λk=>M (by rw[k];rfl))⟩
   (.inr ⟨f,a,p,(dE d.toList (a+t*i) (V x)).toArray,by rw[wB],D,qj w f _ _ k _ q,by rw[wB];exact r,E,by
    rw[mG,Af s,m];exact G,by
    rw[wB];exact K⟩)
  unfold dE at v;simp only [nw]at u;have O:(qt T (ad (J ⟨f,a+t*i,ac⟩)) c).run P w= .ok () (w.setRow f (d.toList.take (a+t*i)++V x++d.toList.drop (a+t*i+(V x).length)).toArray):=by
   simp[qt,rh,storeVar,l_ y z,B,g]
   simpa [g]using u
  unfold c4 bM;simp only [qT,jf];rw[O];exact v
variable{K:aU}
def ak5{s:Nat}{x:Z}{α:Type}{V:α->List Z}{a:List α}(l:ew P T=J k)(Q:cM P k=J e)(R:e.length=i)(S:0<i)(U:∀j∈e,j.oneCell' =af)(v:eR V i)(y:ar w n k i x V a)(bD:t<=a.length)
 (m:∀o,w.grownBy o x.ownBlock->ar o n k i (dp x i 0 t (cC x)) V (a.take t)->K (a1 #[]) o):cz P .clear [T] s [dp x i t a.length (cC x)] w K:=by
 obtain⟨a9,f,W,ab,z,aB,aC⟩:=oF Q;have p:=y.ag v (aw:=0) (bD:=t) (ec _) bD;rw[h6]at p;rcases id y with⟨rfl,rfl⟩|⟨b,c,d,h,rfl,ah,A,ai,aj,ak,am⟩
 ·have g:(AY #[T] s #[dp (aQ ac 0 0) i t ([]:List α).length (cC (aQ ac 0 0))]).run P w= .ok (a1 #[]) w:=by
   have:dp (aQ ac 0 0) i t ([]:List α).length (cC (aQ ac 0 0))=aQ ac (0-t) (0-t):=by unfold dp cC;simp only [lk];split<;>rfl
   rw[this];simp[AY,eJ (hf l)]
  unfold cz bM;simp only [Nj]at g⊢;rw[g];exact m w (vF w _) p
 ·by_cases ap:t=a.length
  ·have g:(AY #[T] s #[dp (aQ (J ⟨b,c,ac⟩) a.length d) i t a.length (cC (aQ (J ⟨b,c,ac⟩) a.length d))]).run P w= .ok (a1 #[]) w:=by
    have:∃B C,dp (aQ (J ⟨b,c,ac⟩) a.length d) i t a.length (cC (aQ (J ⟨b,c,ac⟩) a.length d))=aQ (J B) 0 C:=by
     unfold dp cC
     dsimp only
     rw[ap,pn];split
     ·exact⟨_,_,F⟩
     ·exact⟨_,_,F⟩
    obtain⟨B,C,aq⟩:=this;rw[aq];simp[AY,eJ (hf l)]
   unfold cz bM;simp only [Nj]at g⊢;rw[g];exact m w (vF w _) p
  ·have aD:t<a.length:=G;have au:dp (aQ (J ⟨b,c,ac⟩) a.length d) i t a.length (cC (aQ (J ⟨b,c,ac⟩) a.length d))=aQ (J ⟨b,c+t*i,ac⟩) (a.length-t) (d-t):=by
    unfold dp cC
    dsimp only
    rw[an G];simp[jf]
   have aE:a.length*i<=d*i:=ny i ai;have aF:t*i+(a.length-t)*i=a.length*i:=by rw[<-jb];congr 1;omega
   have D:f.cells.size=i:=by rw[<-R,<-z];simp
   have E:(n5 f.cells (a.length-t)).toList.length=(a.length-t)*i:=by simp[n5,D]
   have av:∀j∈(n5 f.cells (a.length-t)).toList,j.oneCell' =true:=λj H=>by simp only [n5,Array.toList_map,eP]at H;obtain⟨ay,_,rfl⟩:=H;have az:ay%f.cells.size<f.cells.size:=se _ (by rw[D];exact S);rw[getElem!_pos f.cells _ az];refine U _ ?_;rw[<-z];simp
   have q:h.toList.length=h.size:=ae;have r:=uM P b (c+t*i) k (n5 f.cells (a.length-t)).toList 0 h w A (by rw[E];omega) av;simp only [nw]at r;have a0:(qi k).run P w= .ok f w:=by simp[qi,typeInfo,W,ab]
   obtain⟨L,a2⟩:∃L,a.length-t=L+1:=⟨a.length-t-1,G⟩;have g:(AY #[T] s #[aQ (J ⟨b,c+t*i,ac⟩) (a.length-t) (d-t)]).run P w= .ok (a1 #[]) (w.setRow b (dE h.toList (c+t*i) (n5 f.cells (a.length-t)).toList).toArray):=by unfold dE;rw[a2]at r⊢;simp[AY,eJ (hf l),a0];rw[r];simp[Result.andThen]
   rw[au];unfold cz bM;simp only [Nj]at g⊢;rw[g];have M:c+t*i+(n5 f.cells (a.length-t)).toList.length<=h.toList.length:=by rw[E,q];omega
   refine m _ ⟨F,F,F,ae,λa3 _ a4=>uN w b a3 _ (λk=>a4 (by rw[k];rfl))⟩ ?_;have u:(a.take t).length=t:=by rw[bt];omega
   have a5:dp (aQ (J ⟨b,c,ac⟩) a.length d) i 0 t (cC (aQ (J ⟨b,c,ac⟩) a.length d))=aQ (J ⟨b,c,ac⟩) t d:=by
    unfold dp cC
    dsimp only
    split
    ·simp
    ·simp[jf]
   rw[a5];refine .inr ⟨b,c,d,(dE h.toList (c+t*i) (n5 f.cells (a.length-t)).toList).toArray,by rw[u],ah,qj w b _ _ k _ A,G,aj,by rw[mG,Af M,q];exact ak,?_⟩;rw[u]
   dsimp only
   rw[G7 M,alD (a6 _) (by rw[cO,q];omega)];have O:=ck (List.take (t*i)) am;rw[n9,lP G]at O;rw[O];have a7:a=a.take t++a.drop t:=(fi t a).symm
   conv=>lhs;rw[a7]
   rw[hG];have a8:((a.take t).flatMap V).length=t*i:=by rw[v.aA,u]
   rw[<-a8,tq]
structure eh {α:Type} (P:bq) (T e k:Nat) (V:α->List Z) (dz:List Z):Prop where
 m:ew P T=J e
 bk:cg P e=k
 cN:0<k
 bc:cM P e=J dz
 ko:dz.length=k
 fv:eR V k
 bd:ed P e=J k
 ej:fI P e<=200
 am5:∀u∈dz,u.oneCell' =af
def c9{α:Type}{l:List α}{i:Nat}{x:α}(a:l[i]? =J x):l.take (i+1)=l.take i++[x]:=by rw[Dz,a];rfl
def fC{w:aa}{b e k a:Nat}{v:Z}{α:Type}{V:α->List Z}{L:List α}(c:ar w b e k v V L)(f:a<b):v.ownBlock=ac\/v.ownBlock≠J a:=by
 cases d:v.ownBlock with
 |none=>exact .inl F
 |some g=>exact .inr λe=>by cases e;have:=(c.D a d).1;omega
section
variable{α:Type} {P:bq} {T e k:Nat} {V:α->List Z} {dz:List Z} {w:aa} {K:aU}
def eh.push{A j:Nat}{v:Z}{L:List α}{x:α}(a:eh P T e k V dz)(l:ar w A e k v V L)(z:A<=w.heap.size)(B:L.length<=2000000)(C:k<=1000)
 (d:∀b f,ar f A e k b V (L++[x])->w.grownBy f v.ownBlock->(b.ownBlock=v.ownBlock\/∀c,b.ownBlock=J c->w.heap.size<=c)->K b f):
 fR P T 1 [(0,al (V x).toArray)] w λh w=>cz P fT [T,T] j [v,h] w K:=by
 have m:jg (λn=>J (n*k,k)) ((lS (1*k)).map λg=>dz.toArray[g%dz.length]!) [(0,V x)]=J ([x].flatMap V):=by have o:=a.fv.bl x;have D:((lS (1*k)).map λg=>dz.toArray[g%dz.length]!).length=k:=ae;unfold jg;simp only [uP];rw[au ⟨o,G⟩];unfold jg dE;simp only [kp,fc,hW];rw[lR G];simp
 refine f0 (n:=1) (V:=V) (L:=[x]) (iR:=[(0,V x)]) a.m a.bk F a.bc (by have:=a.cN;omega) G a.fv F m λh M O p i Q=>?_;have q:=a.ej;refine jC a.m a.bk a.cN a.bc a.ko a.fv (l.h i) G (p.aI a.fv) (by have:e0=9223372036854775807:=rfl;simp;omega) (by have:(L.length+[x].length)*fI P e<=2000001*200:=DF (by simp;omega) q;omega) λb r s t u=>?_
 exact d b r s (eN (eb i _) t) (u.imp id λd c y=>by have:=d c y;omega)
def eh.ah{A h:Nat}{v f:Z}{L b:List α}(a:eh P T e k V dz)(i:ar w A e k v V L)(j:A<=w.heap.size)(l:aC w f k V b)(m:L.length+b.length<=2000000)
 (n:∀c d,ar d A e k c V (L++b)->w.grownBy d v.ownBlock->(c.ownBlock=v.ownBlock\/∀g,c.ownBlock=J g->w.heap.size<=g)->K c d):cz P fT [T,T] h [v,f] w K:=by
 have o:=a.ej;exact jC a.m a.bk a.cN a.bc a.ko a.fv i j l (by have:e0=9223372036854775807:=rfl;omega) (by have:(L.length+b.length)*fI P e<=2000000*200:=DF m o;omega) n
def GW{t:Int}{x:hF}{g:aa}{a:Z}{b:List α}{bD:Nat}(h:ew P T=J e)(i:cg P e=k)(j:0<k)(l:aC g a k V b)(m:t=bD)(p:bD<=b.length):
 le P T a ac (J (I x t)) ac w K=K (dp a k 0 bD (cC a)) w:=by
 obtain⟨c,d,rfl,q,r,s⟩:=l;obtain⟨f,n⟩:=BJ h;subst m;have o:=run_slice_h (P:=P) (w:=w) (t:=T) (a:=c) (len:=b.length) (cap:=d) f x bD G G;simp[le,bM,Instr.sliceAt,eJ f,o,n,l_ i j,dp,cC,sliced]
def Rh(P:bq)(T:Nat)(K:aU)(a:Z)(w:aa):Prop:=
 b7 P .eql T ao af a (aQ ac 0 0) w λb w=>b6 b (K (aQ ac 0 0) w) (fR P T 0 [] w λc w=>cz P fT [T,T] T [c,a] w λd w=>K d w)
def eh.cu{g:Z}{a:List α}(b:eh P T e k V dz)(h:aC w g k V a)(t:a.length<=2000000)(i:∀j c,O w c->ar c w.heap.size e k j V a->K j c):Rh P T K g w:=by
 unfold Rh;obtain⟨u,v,rfl,x,y,m⟩:=id h;rw[Vd b.m,dQ];refine⟨λd=>?_,λd=>?_⟩
 ·have:a=[]:=by
   cases a with
   |nil=>rfl
   |cons n z=>obtain⟨A,B,o,_⟩:=m 0 n F;rw[o]at d;cases d
  subst this;exact i _ _ (O.p w) (ar.nil _ _ _ _ _)
 ·refine Vi (k:=k) (V:=V) b.m b.bc λC D l f E=>?_;refine b.ah l.row f.size (h.h f) (by simp;omega) λG H p q _=>?_;exact i _ _ (f.ab q λr s=>(l.D r s).1) p
def mO(P:bq)(c:Z)(V:α->List Z)(d:α->Bool)(f:List α)(g:Nat)(w:aa):Prop:=
 ∀b∈f,∀a,oH g w a->iU P c [al (V b).toArray] a λh i=>O a i/\h=ax (d b)
def SG(P:bq)(T e:Nat)(K:aU)(b:List Z->aa->Prop)(c d f a:Z)(w:aa):Prop:=
 b7 P .lss 3 ao ao a f w λg w=>b6 g (fh P T d a w λh w=>bU P e h w λi w=>iU P c [i] w λj w=>b6 j (K a w) (b7 P .add 3 ao af a (I X 1) w λl w=>b [l] w)) (K (I X (-1)) w)
def eh.cp{s t:Z}{d:List α}{j:α->Bool}{u B:Nat}{v:List Z->List Z->aa->(List Z->aa->Prop)->Prop}(l:eh P T e k V dz)(o:aC w s k V d)(C:mO P t V j d u w)(D:u<=w.heap.size)
 (E:∀g x w y,v g x w y=SG P T e K y t s (I X d.length) (av g) w)
 (z:∀p,O w p->(∀(a:Nat) (b:α),d[a]? =J b->j b=af->(∀(c:Nat) (f:α),c<a->d[c]? =J f->j f=ao)->K (I X a) p)/\((∀b∈d,j b=ao)->K (I X (-1)) p)):
 ba [I X 0] 1 B w v:=by
 have U:=o.aD;refine ba.y (λg m=>O w m/\∃a:Nat,g=[I X a]/\a<=d.length/\∀c f,c<a->d[c]? =J f->j f=ao)
  (λg _=>match g with|[I _ H]=>(d.length-H).toNat|_=>0) ⟨O.p w,0,F,ec _,λc f n=>G⟩ ?_
 rintro g x m ⟨i,a,rfl,W,q⟩;rw[E];unfold SG;rw[av,aR,ai];refine⟨λab=>?_,λag=>(z m i).2 λb h=>?_⟩
 ·obtain⟨b,h⟩:∃b,d[a]? =J b:=⟨_,aX G⟩;obtain⟨ah,aj,L,M⟩:=(o.h i).m h;rw[cr l.m l.bk l.cN (o.h i) h F,L,aF l.bd M (l.fv.bl b)];refine mz ?_ (C b (cl h) m (ts i D));rintro ak Q ⟨A,rfl⟩;rw[dQ];refine⟨λR=>(z Q (i.a A)).1 a b h R q,λS=>?_⟩;rw[aD];refine⟨⟨i.a A,a+1,ae,G,λc f n r=>?_⟩,by simp only [];omega⟩;rcases fx c a with h1|h1
  ·exact q c f h1 r
  ·obtain rfl:c=a:=G;rw[h]at r;cases r;exact S
 ·obtain⟨c,n⟩:=tr h;exact q c b (by have:=(dS.1 n).1;omega) n
def RC(P:bq)(a:List Z->aa->Prop)(b c:Z)(w:aa):Prop:=b7 P .add 3 ao af b (I X 1) w λd w=>a [c,d] w
def RB(P:bq)(T e g:Nat)(K:aU)(h:List Z->aa->Prop)(i a b c:Z)(w:aa):Prop:=
 cz P .len [T] 3 [a] w λj w=>b7 P .lss 3 ao ao c j w λl w=>b6 l (
  bG 1 g (λf=>fh P T a c w λm w=>bU P e m w λn w=>gM P e w λd w=>c4 P e d n w λw=>bU P e d w λo w=>iU P i [o] w λp w=>Ab P .not p w λq w=>b6 q (bU P e d w λr w=>fh P T a b w λs w=>c4 P e s r w λw=>b7 P .add 3 ao af b (I X 1) w λt w=>f [t] w) (f [b] w)) λu _ w=>RC P h c (av u) w)
 (le P T a (J b) ac ac w λv w=>cz P .clear [T] 0 [v] w λ_ w=>le P T a ac (J b) ac w λx w=>K x w)
def mO.bI{f:Z}{p:α->Bool}{b:List α}{a:Nat}{c:aa}(d:mO P f V p b a w)(e:oH a w c):mO P f V p b a c:=λg h i j=>d g h i (e.trans j)
def eh.dh{j ag:Z}{d:List α}{f:α->Bool}{g a9 aA m:Nat}{ah:List Z->List Z->aa->(List Z->aa->Prop)->Prop}(b:eh P T e k V dz)(aB:ar w g e k j V d)(aC:mO P ag V f d g w)(aE:g<=w.heap.size)(bj:d.length<=2000000)
 (aG:∀i v w aj,ah i v w aj=RB P T e aA K aj ag j (av i) (av (bA i)) w)(aH:∃a,d[m]? =J a/\f a=af)(aJ:∀c x,c<m->d[c]? =J x->f x=ao)
 (aK:∀y l,oH g w l->w.grownBy l j.ownBlock->y.ownBlock=j.ownBlock->ar l g e k y V (d.filter λa=>!f a)->K y l):
 ba [I X m,I X ((m:Int)+1)] 2 a9 w ah:=by
 obtain⟨bm,ak,aL⟩:=aH;have bn:=(dS.1 ak).1;have B:(d.take (m+1)).filter (λa=>!f a)=d.take m:=by
  rw[c9 ak,jd,tt.2,List.filter_cons_of_neg (by simp[aL]),List.filter_nil,cT];intro x n;obtain⟨c,q⟩:=tr n;rw[lN]at q;split at q
  ·rename_i am;rw[aJ c x am q];rfl
  ·cases q
 refine ba.y (λi r=>oH g w r/\w.grownBy r j.ownBlock/\∃(c:Nat) (h:List α),i=[I X ((d.take c).filter λa=>!f a).length,I X c]/\c<=d.length/\((d.take c).filter λa=>!f a).length<c/\h.length=d.length/\ar r g e k j V h/\h.take ((d.take c).filter λa=>!f a).length=(d.take c).filter (λa=>!f a)/\h.drop c=d.drop c)
  (λi _=>match i with|[_,I _ aM]=>(d.length-aM).toNat|_=>0) ⟨Below.refl _ _,vF _ _,m+1,d,by rw[B,bt,lP G];simp,G,by rw[B,bt];omega,F,aB,by rw[B,bt,lP G],F⟩ ?_
 rintro i v r ⟨C,an,c,h,rfl,q,bo,D,n,E,ap⟩;rw[aG];unfold RB;have s:=n.aI b.fv;have aq:∀z,j.ownBlock=J z->g<=z:=λz aN=>(n.D z aN).1;have H:g<=r.heap.size:=eQ aE C.size;rw[av,bA,av,aS b.m s,D,aR,ai];generalize L:((d.take c).filter λa=>!f a)=M at*;refine⟨λam=>?_,λbp=>?_⟩
 ·obtain⟨a,O⟩:∃a,d[c]? =J a:=⟨_,aX G⟩;have au:h[c]? =J a:=by
   have:(h.drop c)[0]? =(d.drop c)[0]? :=by rw[ap]
   simpa [kQ,O]using this
  have t:(d.take (c+1)).filter (λa=>!f a)=M++(if f a then []else [a]):=by rw[c9 O,jd,L,ri];cases f a<;>simp
  obtain⟨br,bs,aO,aP⟩:=s.m au;have aw:h.drop (c+1)=d.drop (c+1):=by rw[<-jF,<-jF,ap]
  refine bG.y (λi l=>oH g w l/\w.grownBy l j.ownBlock/\∃(o p:List α),i=[I X o.length]/\o=(d.take (c+1)).filter (λa=>!f a)/\o.length<c+1/\p.length=d.length/\ar l g e k j V p/\p.take o.length=o/\p.drop (c+1)=d.drop (c+1)) ?_ ?_
  ·rw[cr b.m b.bk b.cN s au F,aO,aF b.bd aP (b.fv.bl a)];refine cj (cS:=V a) b.bc (by rw[b.bk,b.ko]) (by rw[b.ko];exact b.cN) F (by rw[b.ko];exact b.fv.bl a) (b.fv.B a) λbu Q bv bw A ay=>?_;rw[aF b.bd ay.b (b.fv.bl a)];have az:oH g w Q:=C.trans (ts A H);refine mz ?_ (aC a (cl O) Q az);rintro y a0 ⟨u,rfl⟩;have a2:oH g w a0:=az.trans (ts u G);have R:=(n.h A).h u;have a3:w.grownBy a0 j.ownBlock:=eN (eN an (eb A _)) (eb u _);rw[dD,dQ];refine⟨λaT=>?_,λaU=>?_⟩
   ·have S:f a=false:=by simpa using aT
    rw[S]at t;have aV:(d.take (c+1)).filter (λa=>!f a)=M++[a]:=by simpa using t
    have U:M.length<h.length:=G;obtain⟨a4,aW⟩:∃a4,h[M.length]? =J a4:=⟨_,aX U⟩;rw[aF b.bd (ay.h u).b (b.fv.bl a),cr b.m b.bk b.cN (R.aI b.fv) aW F];refine alm b.bk b.cN b.fv R U F λaY bx a5 W=>?_;rw[aD];refine⟨Below.grown a2 a5 (eQ H (eQ A.size u.size)) aq,eN a3 a5,M++[a],h.set M.length a,ae,aV.symm,by simp;omega,by simp[D],W,?_,?_⟩
    ·rw[bf,oK,c9 (x:=a) (by rw[List.getElem?_set_self U]),List.take_set_of_le (a6 _),E]
    ·rw[List.drop_set_of_lt G,aw]
   ·have S:f a=true:=by simpa using aU
    rw[S]at t;simp only [if_true,cT]at t;exact⟨a2,a3,M,h,F,t.symm,G,D,R,E,aw⟩
  ·rintro i v aY ⟨aZ,bb,o,p,rfl,rfl,be,bg,W,bh,bi⟩;unfold RC;rw[av,aD];exact⟨⟨aZ,bb,c+1,p,ae,G,be,bg,W,bh,bi⟩,by simp only [];omega⟩
 ·obtain rfl:c=d.length:=G;rw[cI]at L;have ab:M.length<=h.length:=G;rw[pe b.m b.bk b.cN s F ab];refine ak5 b.m b.bc b.ko b.cN b.am5 b.fv n ab λQ a7 a8=>?_;rw[GW b.m b.bk b.cN s F ab];refine aK _ _ (Below.grown C a7 H aq) (eN an a7) C4 ?_;rw[E]at a8;rw[L];exact a8
end
section
variable{P:bq} {T ky:cv} {w:aa} {K:aU}
def M{b y f a:Nat}{v:Z}(c:bg P T f=J a)(d:eu P ky=af)(h:w.cell? ⟨b,y+a,ac⟩=J v):(dK P T (ad (J ⟨b,y,ac⟩)) f w λg w=>bU P ky g w K)=K v w:=by rw[aj c,aM d h]
def iL{b a f c n:Nat}{S:List Z}(d:bg P T f=J c)(g:ed P ky=J n)(h:cA w b (a+c) S)(i:S.length=n):(dK P T (ad (J ⟨b,a,ac⟩)) f w λj w=>bU P ky j w K)=K (al S.toArray) w:=by rw[aj d,aF g h i]
def b2{b1:aa}{k:Z->Prop}{b y f a:Nat}{v:Z}(d:bg P T f=J a)(g:eu P ky=af)(h:b1.cell? ⟨b,y+a,ac⟩=J v)(c:O b1 w):
 (cW (O b1) w (λw k=>dK P T (ad (J ⟨b,y,ac⟩)) f w k) λi=>cW (O b1) w (λw k=>bU P ky i w k) k)=k v:=by
 rw[aK (λj l K=>aj d) c,dR g h c]
def tj{a:aa}{k:Z->Prop}{b c d f g:Nat}{S:List Z}(i:bg P T d=J f)(j:ed P ky=J g)(l:cA a b (c+f) S)(m:S.length=g)(h:O a w):
 (cW (O a) w (λw k=>dK P T (ad (J ⟨b,c,ac⟩)) d w k) λn=>cW (O a) w (λw k=>bU P ky n w k) k)=k (al S.toArray):=by
 rw[aK (λo p K=>aj i) h,gX j l m h]
def cA.E{a y:Nat}{S:List Z}(c:cA w a y S)(i:Nat):cA w a (y+i) (S.drop i):=by intro f d b;rw[kQ]at b;have:=c _ d b;rwa[j4]
def cA.cG{b y:Nat}{S:List Z}(c:cA w b y S)(n:Nat):cA w b y (S.take n):=by
 intro d f a;rw[lN]at a;split at a
 ·exact c d f a
 ·cases a
end
section
variable{α:Type} {P:bq} {T e k:Nat} {V:α->List Z} {dz:List Z} {w:aa} {K:aU}
def eh.dO{k6:hF}{l:Z}{L:List α}{i:Nat}{z:Int}{x:α}(a:eh P T e k V dz)(d:aC w l k V L)(f:L[i]? =J x)(h:z=i)
 (j:∀b c,O w c->c.heap.size=w.heap.size+1->b=w.heap.size->ag c b (V x)->K (ad (J ⟨b,0,ac⟩)) c):
 fh P T l (I k6 z) w λm w=>bU P e m w λn w=>gM P e w λg w=>c4 P e g n w λw=>K g w:=by
 obtain⟨b,v,o,p⟩:=d.m f;rw[cr a.m a.bk a.cN d f h,o,aF a.bd p (a.fv.bl x)];exact cj (cS:=V x) a.bc (by rw[a.bk,a.ko]) (by rw[a.ko];exact a.cN) F (by rw[a.ko];exact a.fv.bl x) (a.fv.B x) λq r s A t u=>j q r t G s u
def eh.M{l:Z}{L:List α}{i f a:Nat}{ky:cv}{k6:hF}{z:Int}{x:α}{v:Z}(c:eh P T e k V dz)(h:aC w l k V L)(d:L[i]? =J x)(g:z=i)(j:bg P e f=J a)(m:eu P ky=af)(n:(V x)[a]? =J v):
 (fh P T l (I k6 z) w λo w=>dK P e o f w λp w=>bU P ky p w K)=K v w:=by
 obtain⟨b,y,q,r⟩:=h.m d;rw[cr c.m c.bk c.cN h d g,q,Go.Lift.M j m (r.f a n)]
def eh.bE{x:hF}{t:Int}{c:Z}{d:List α}{f:Nat}{b:α}(a:eh P T e k V dz)(g:aC w c k V d)(h:d[f]? =J b)(i:t=f):
 (fh P T c (I x t) w λj w=>bU P e j w K)=K (al (V b).toArray) w:=by
 obtain⟨n,o,l,m⟩:=g.m h;rw[cr a.m a.bk a.cN g h i,l,aF a.bd m (a.fv.bl b)]
end
def alC{d f b:List Z}{a c k:Nat}(h:(d.drop a).take k=f)(l:a+k<=d.length)(m:c+b.length<=k):dE d a (dE f c b)=dE d (a+c) b:=by
 subst h;have i:((d.drop a).take k).length=k:=by rw[bt,cO];omega
 have j:(dE ((d.drop a).take k) c b).length=k:=by rw[Af G,i]
 show d.take a++dE ((d.drop a).take k) c b++d.drop (a+(dE ((d.drop a).take k) c b).length)=_;rw[j];unfold dE;rw[n9,lP G,si,jF,Xh];simp only [cX];congr 3;have g:d.drop (a+c+b.length)=(d.drop (a+c+b.length)).take (k-(c+b.length))++(d.drop (a+c+b.length)).drop (k-(c+b.length)):=(fi ..).symm;rw[jF,show a+c+b.length+(k-(c+b.length))=a+k from G]at g;rw[g,show a+(c+b.length)=a+c+b.length from G]
def eY{x:Int}{k:hF}:∀a∈ [I k x],a.oneCell' =true:=λa b=>by rw[cL.1 b];rfl
section
variable{α:Type} {P:bq} {T e k:Nat} {V:α->List Z} {dz:List Z} {w:aa}
def eh.bL{j i:Nat}{v:Z}{B:List α}{x:α}(h:eh P T e k V dz)(q:ar w j e k v V B)(C:B[i]? =J x):
 ∃d l,qT v k i=⟨d,l,ac⟩/\v.ownBlock=J d/\j<=d/\d<w.heap.size/\cA w d l (V x)/\∀{b:aa} {ky m p:Nat} {n:Z} {cS:List Z} {a:List α} {nu y:α} {r:aa->Prop},cg P ky=m->0<m->p+m<=k->n.cells=cS.toArray->cS.length=m->(∀s∈cS,s.oneCell' =af)->
  ar b j e k v V a->a[i]? =J nu->V y=dE (V nu) p cS->(∀o,o.heap.size=b.heap.size->b.grownBy o (J d)->ar o j e k v V (a.set i y)->r o)->c4 P ky (ad (J ⟨d,l+p,ac⟩)) n b r:=by
 obtain⟨d,l,D,ah⟩:=(q.aI h.fv).m C;have ai:=(dS.1 C).1;have aj:=q;rcases q with⟨rfl,rfl⟩|⟨g,c,E,f,rfl,t,u,z,H,K,A⟩
 ·simp at ai
 simp only [qT,jf]at D;injection D with ak am a7;subst ak;subst am;refine⟨g,c+i*k,by simp[qT,jf],F,t,(aj.D g F).2,ah,?_⟩;intro b ky m p n cS a nu y r an ap a8 aq L au av M aw ay;rcases av with⟨az,_⟩|⟨a9,aA,aB,f,O,t,u,z,H,K,A⟩
 ·cases az
 simp only [Xx,kP,Xw]at O;obtain⟨⟨rfl,rfl,_⟩,a0,rfl⟩:=O;have Q:=(dS.1 M).1;have aC:=h.fv.bl nu;have aD:=h.fv.bl y;have aE:i*k+k<=a.length*k:=by rw[<-Ni];exact ny k Q
 have aF:a.length*k<=E*k:=ny k z;have R:f.toList.length=f.size:=ae;have aG:(a.flatMap V).length=a.length*k:=by rw[<-A,bt,cO];omega
 have S:c+(i*k+p)+cS.length<=f.toList.length:=G;have a2:((a.flatMap V).drop (i*k)).take k=V nu:=by
  apply wz;intro U;rw[lN];split
  ·rw[kQ];have:=h.fv.aY a i nu M U;cases W:(V nu)[U]? with
   |none=>have:=AL.1 W;omega
   |some s=>exact this s W
  ·rw[j2 G]
 have a3:((dE f.toList (c+(i*k+p)) cS).drop c).take (a.length*k)=(a.set i y).flatMap V:=by rw[G7 S,Mv (m:=a.length*k) G (by rw[cO,R];omega),A,h.fv.ax a i y Q,aw,alC a2 G G]
 have ab:=uM P g (c+(i*k+p)) e cS 0 f b u G au;have ag:=ay (b.setRow g (dE f.toList (c+(i*k+p)) cS).toArray) ae ⟨F,F,F,ae,λd _ a4=>uN b g d _ (λe=>a4 (by rw[e]))⟩
  (.inr ⟨g,c,E,(dE f.toList (c+(i*k+p)) cS).toArray,by rw[wB,a0],t,qj b g _ _ e _ u,by rw[wB];exact z,H,by
   rw[mG,Af S,R];exact K,by
   rw[wB];exact a3⟩)
 unfold dE at ag;simp only [nw]at ab;have a5:(qt ky (ad (J ⟨g,c+i*k+p,ac⟩)) n).run P b= .ok () (b.setRow g (f.toList.take (c+(i*k+p))++cS++f.toList.drop (c+(i*k+p)+cS.length)).toArray):=by
  simp[qt,rh,storeVar,l_ an ap,aq,L]
  simpa [L,j4]using ab
 unfold c4 bM;rw[a5];exact ag
def eh.p8{j:aa->Prop}{A m:Nat}{v:Z}{L:List α}{x:α}(a:eh P T e k V dz)(n:ar w A e k v V L)(D:A<=w.heap.size)(E:L.length<=2000000)(H:k<=1000)(o:∀d,O w d->j d)
 (f:∀b g,ar g A e k b V (L++[x])->w.grownBy g v.ownBlock->(b.ownBlock=v.ownBlock\/∀c,b.ownBlock=J c->w.heap.size<=c)->K b g):
 fR P T 1 [(0,al (V x).toArray)] w λl w=>j w/\cz P fT [T,T] m [v,l] w K:=by
 have p:jg (λq=>J (q*k,k)) ((lS (1*k)).map λh=>dz.toArray[h%dz.length]!) [(0,V x)]=J ([x].flatMap V):=by have r:=a.fv.bl x;have M:((lS (1*k)).map λh=>dz.toArray[h%dz.length]!).length=k:=ae;unfold jg;simp only [uP];rw[au ⟨r,G⟩];unfold jg dE;simp only [kp,fc,hW];rw[lR G];simp
 refine f0 (n:=1) (V:=V) (L:=[x]) (iR:=[(0,V x)]) a.m a.bk F a.bc (by have:=a.cN;omega) G a.fv F p λl d S s i U=>⟨o _ i,?_⟩;have t:=a.ej;refine jC a.m a.bk a.cN a.bc a.ko a.fv (n.h i) G (s.aI a.fv) (by have:e0=9223372036854775807:=rfl;simp;omega) (by have:(L.length+[x].length)*fI P e<=2000001*200:=DF (by simp;omega) t;omega) λb u y z B=>?_
 exact f b u y (eN (eb i _) z) (B.imp id λf c C=>by have:=f c C;omega)
variable{b1:aa} {ud:Z->Prop}
def eh.b2{l:Z}{L:List α}{i f a:Nat}{ky:cv}{j:hF}{z:Int}{x:α}{v:Z}(c:eh P T e k V dz)(h:aC b1 l k V L)(d:L[i]? =J x)(m:z=i)(n:bg P e f=J a)(o:eu P ky=af)(p:(V x)[a]? =J v)(g:O b1 w):
 cW (O b1) w (λw k=>fh P T l (I j z) w k) (λq=>cW (O b1) w (λw k=>dK P e q f w k) λr=>cW (O b1) w (λw k=>bU P ky r w k) ud)=ud v:=by
 obtain⟨b,y,s,t⟩:=h.m d;rw[aK (λA u B=>cr c.m c.bk c.cN (h.h u) d m) g,s,Go.Lift.b2 n o (t.f a p) g]
def eh.bQ{c d:cv}{s:hF}{t:Int}{h:Z}{j:List α}{i l a m b:Nat}{x:α}{v:Z}(f:eh P T e k V dz)(n:aC b1 h k V j)(o:j[i]? =J x)(q:t=i)(r:bg P e l=J a)(u:bg P c m=J b)(y:eu P d=af)(z:(V x)[a+b]? =J v)(g:O b1 w):
 cW (O b1) w (λw k=>fh P T h (I s t) w k) (λA=>cW (O b1) w (λw k=>dK P e A l w k) λB=>cW (O b1) w (λw k=>dK P c B m w k) λC=>cW (O b1) w (λw k=>bU P d C w k) ud)=ud v:=by
 obtain⟨H,K,D,E⟩:=n.m o;rw[aK (λF p G=>cr f.m f.bk f.cN (n.h p) o q) g,D,aK (λF p G=>aj r) g,Go.Lift.b2 u y (by rw[j4];exact E.f (a+b) z) g]
end
end Go.Lift
namespace Go.Proofs.YtoddhldofgfdmaaGreatDoor
namespace aY
open Go.Lift Go.RowKit Go.bW Go.cB Go.Proofs.YtoddhldofgfdmaaGreatDoor.b0
def WD:List Value:=[I cc 0,I X 0,I X 0,I X 0]
def cY:eh Y 112 206 4 bI WD:=⟨oQ,pS,g,qK,F,iK,oh,by rw[O0];decide,λb a=>by simp[WD]at a;rcases a with rfl|rfl|rfl|rfl<;>rfl⟩
def fj(l:List aP):Prop:=l.length<=60000/\∀a∈l,0<=bS a/\bS a<=1000
variable{x:List aP}
def fj.sub{e:List aP}(h:fj x)(b:e.length<=x.length)(c:∀a∈e,a∈x):fj e:=⟨eQ b h.1,λa d=>h.2 a (c a d)⟩
def fj.cG{l:List aP}(a:fj l)(n:Nat):fj (l.take n):=a.sub (by rw[bt];omega) λ_ b=>fy b
def fj.E{l:List aP}(a:fj l)(n:Nat):fj (l.drop n):=a.sub (by rw[cO];omega) λ_ b=>jH b
def fj.ch{l:List aP}(a:fj l):0<=cZ l/\cZ l<=70000000000000000:=by
 have:=Wk (S:=l) λb c=>by have:=a.2 b c;unfold bS at this;omega
 have:=a.1;omega
variable{n:Nat}{e:aP}
def Dg(a:x[n]? =J e):cZ (x.take (n+1))=cZ (x.take n)+bS e:=by rw[c9 a,Df];simp[cZ,bS]
def Hm(a:∀b∈x.take n,eD b=af):x.takeWhile eD=x.take n++(x.drop n).takeWhile eD:=by
 conv=>lhs;rw[<-fi n x]
 exact List.takeWhile_append_of_pos a
def E3(c:∀a∈x.take n,eD a=af)(d:x[n]? =J e)(f:eD e=af):∀a∈x.take (n+1),eD a=true:=by
 rw[c9 d];intro a b;rcases b9.1 b with b|b
 ·exact c a b
 ·rw[cL.1 b];exact f
def sL{α:Type}{a:List α}{b:α}(c:a[n]? =J b):a.drop n=b::a.drop (n+1):=by obtain⟨d,rfl⟩:=dS.1 c;exact Dw d
def Mb{x:bq}{K:aU}{k:hF}{e:List cv}{c:cv}{w:aa}(a b:Int):cz x .min e c [I k a,I k b] w K=K (I k (min a b)) w:=by have d:min a b=if b<a then b else a:=G;rw[d];simp[cz,bM,Builtin.min_,Builtin.min2]
def SK(c:∀a∈x.take n,eD a=af)(d:∀a,x[n]? =J a->eD a=ao):cZ (x.take n)=cZ (x.takeWhile eD):=by
 rw[Hm c];cases b:x[n]? with
 |none=>rw[tu (AL.1 b)];simp
 |some a=>rw[sL b,Nw,an (by rw[d a b];decide),cT]
def ahI(b:fj x)(c:∀a∈x.take n,eD a=af)(e:8<=cZ (x.take n)):qY x=8:=by unfold qY;rw[Hm c,Df];have:0<=cZ ((x.drop n).takeWhile eD):=(fj.ch ((b.E n).sub (Nz _).length_le λa d=>(Nz _).mem d)).1;omega
def QP{l:List aP}(a:l.length<=n+1):p0 l (n+1)=false:=by simp only [p0];rw[j2 (l:=l) (i:=n+1) a];cases l[n]? <;>rfl
variable{t:Int}
def R4(b:jS x t=n+jS (x.drop n) (t-cZ (x.take n)))(a:x[n]? =J e)(c:cZ (x.take n)+bS e<=t):jS x t=(n+1)+jS (x.drop (n+1)) (t-cZ (x.take (n+1))):=by
 rw[b,sL a,Dg a]
 conv=>lhs;unfold jS
 rw[au G,show t-cZ (x.take n)-bS e=t-(cZ (x.take n)+bS e)from G];omega
def Ft(c:jS x t=n+jS (x.drop n) (t-cZ (x.take n)))(d:∀a,x[n]? =J a->¬cZ (x.take n)+bS a<=t):jS x t=n:=by
 rw[c];cases b:x[n]? with
 |none=>rw[tu (AL.1 b)];rfl
 |some a=>rw[sL b];unfold jS;rw[an (by have:=d a b;omega)];rfl
def WG{k:Nat}{n:Nat}(a:kn (x.drop 1)+1=k+kn (x.drop k))(b:x[k]? =J e)(c:bS e=0):kn (x.drop 1)+1=k+1+kn (x.drop (k+1)):=by
 rw[a,sL b]
 conv=>lhs;unfold kn
 rw[au c];omega
def HB(c:kn (x.drop 1)+1=n+kn (x.drop n))(d:∀a,x[n]? =J a->bS a≠0):1+kn (x.drop 1)=n:=by
 rw[anW,c];cases b:x[n]? with
 |none=>rw[tu (AL.1 b)];rfl
 |some a=>rw[sL b];unfold kn;rw[an (d a b)];rfl
variable{w:aa}
def E7(a:aP):ak Y 385 [al (bI a).toArray] w λb c=>O w c/\b=ax (eD a):=
 (afL a).o λb c ⟨d,e,f,g⟩=>⟨d,by rw[f,show e=eD a from by unfold eD;rw[g0,g];simp]⟩
def Gy(a:aP):ak Y 313 [al (bI a).toArray] w λe f=>O w f/\e=ax (eD a):=by
 apply YS;refine bd (S:=bI a) F λh i j k c d=>?_;rw[aj vf,aM iG (d.b.f 0 F),bm,ai,aj vf,aM iG (d.b.f 0 F),bm];unfold eD;refine⟨λb=>⟨c,by simp[b]⟩,λb=>⟨c,?_⟩⟩;rw[show(a.1==32)=ao from by simp[b],yd]
 rfl
variable{x:Z}{S:List aP}
def GK(g:aC w x 4 bI S)(b:fj S):ak Y 92 [x] w λk l=>O w l/\k=I X (cZ S):=by apply YR;have o:=b.1;rw[aS cY.m g];refine ba.bJ (λc h i=>O w i/\∃a:Nat,a+c=S.length/\h=[I X (cZ (S.take a)),I X a]) ⟨S.length,O.p w,0,G,F⟩ ?_;rintro c h p i ⟨d,a,q,rfl⟩;simp only [av,bA];rw[aR,ai];refine⟨λr=>?_,λs=>⟨d,by rw[d_ G]⟩⟩;obtain⟨e,f⟩:∃e,S[a]? =J e:=⟨_,aX G⟩;refine cY.dO (g.h d) f F λt u m v y n=>?_;have z:=(b.cG a).ch;have j:=b.2 e (cl f);rw[M nH E (n.b.f 2 F),tf _ _ ⟨by unfold bS at j;omega,by unfold bS at j;omega⟩,aD];exact⟨c-1,G,d.a m,a+1,G,by rw[Dg f];rfl⟩
def ahJ{e:List aP}(r:aC w x 4 bI e)(f:fj e):ak Y 365 [x] w λs k=>O w k/\s=I X (qY e):=by
 apply Zv;have B:=f.1;refine bG.y (λb k=>O w k/\∃l:Int,b=[I X l]/\min 8 l=qY e) ?_ ?_
 ·rw[aS cY.m r];refine ba.bJ (λm b n=>O w n/\∃a:Nat,a+m=e.length/\b=[I X (cZ (e.take a)),I X a]/\∀o∈e.take a,eD o=af) ⟨e.length,O.p w,0,G,F,ae⟩ ?_;rintro m b y n ⟨c,a,C,rfl,g⟩;simp only [av,bA];rw[aR,ai];refine⟨λD=>?_,λH=>⟨c,_,F,by rw[SK g λo h=>by have:=(dS.1 h).1;omega];rfl⟩⟩;obtain⟨i,d⟩:∃i,e[a]? =J i:=⟨_,aX G⟩;refine cY.dO (r.h c) d F λK L p P Q t=>?_;have R:=(f.cG a).ch;have u:=f.2 i (cl d);rw[aF oh t.b F];refine(E7 i).o ?_;rintro s S ⟨j,rfl⟩;rw[dD,dQ];refine⟨λq=>⟨(c.a p).a j,_,F,by rw[SK g λo h=>by rw[d]at h;cases h;simpa using q];rfl⟩,λq=>?_⟩;rw[eE,ai];refine⟨λv=>⟨(c.a p).a j,_,F,by rw[ahI f g v];omega⟩,λv=>?_⟩;rw[M nH E ((t.h j).b.f 2 F),tf _ _ ⟨by unfold bS at u;omega,by unfold bS at u;omega⟩,aD];exact⟨m-1,G,(c.a p).a j,a+1,G,by rw[Dg d];rfl,E3 g d (by simpa using q)⟩
 ·rintro b y n ⟨z,l,rfl,A⟩;simp only [av];rw[Mb];exact⟨z,by rw[<-A,Int.min_comm]⟩
variable{x:List aP}
def afN{l:Z}(e:aC w l 4 bI x)(m:fj x)(a:Nat)(q:a<=60000):ak Y 395 [l,I X a] w λg n=>O w n/\g=ax (p0 x a):=by
 apply Zx;have r:=m.1;rw[cb,ai];refine⟨λo=>?_,λo=>⟨O.p _,by
  obtain rfl:a=0:=G
  rfl⟩⟩
 rw[aS cY.m e,aR,ai];obtain⟨a,rfl⟩:∃p,a=p+1:=⟨a-1,G⟩;refine⟨λs=>?_,λt=>⟨O.p _,by rw[QP G]⟩⟩;obtain⟨h,f⟩:∃h,x[a]? =J h:=⟨_,aX G⟩;obtain⟨b,c⟩:∃b,x[a+1]? =J b:=⟨_,aX G⟩;rw[cd,cY.bE e f G];refine(E7 h).o ?_;rintro g u ⟨d,rfl⟩;rw[dQ];refine⟨λi=>?_,λi=>⟨d,by simp[p0,f,c,i]⟩⟩;rw[cY.bE (e.h d) c F];refine(E7 b).o ?_;rintro g v ⟨j,rfl⟩;rw[dD,dQ];refine⟨λk=>?_,λk=>⟨d.a j,by simp only [p0,f,c];rw[k,N6,yp]⟩⟩;rw[cY.M (e.h (d.a j)) c F nH E (show(bI b)[2]? =J (I X (bS b))from F),cb];exact⟨d.a j,by simp only [p0,f,c];rw[i,k];rfl⟩
def aj5{l:Z}(e:aC w l 4 bI x)(m:fj x)(a:Nat)(q:a<=60000):ak Y 315 [l,I X a] w λg n=>O w n/\g=ax (p0 x a):=by
 apply YO;have r:=m.1;rw[cb,ai];refine⟨λo=>?_,λo=>⟨O.p _,by
  obtain rfl:a=0:=G
  rfl⟩⟩
 rw[aS cY.m e,aR,ai];obtain⟨a,rfl⟩:∃p,a=p+1:=⟨a-1,G⟩;refine⟨λs=>?_,λt=>⟨O.p _,by rw[QP G]⟩⟩;obtain⟨h,f⟩:∃h,x[a]? =J h:=⟨_,aX G⟩;obtain⟨b,c⟩:∃b,x[a+1]? =J b:=⟨_,aX G⟩;rw[cd,cY.bE e f G];refine(Gy h).o ?_;rintro g u ⟨d,rfl⟩;rw[dQ];refine⟨λi=>?_,λi=>⟨d,by simp[p0,f,c,i]⟩⟩;rw[cY.bE (e.h d) c F];refine(Gy b).o ?_;rintro g v ⟨j,rfl⟩;rw[dD,dQ];refine⟨λk=>?_,λk=>⟨d.a j,by simp only [p0,f,c];rw[k,N6,yp]⟩⟩;rw[cY.M (e.h (d.a j)) c F nH E (show(bI b)[2]? =J (I X (bS b))from F),cb];exact⟨d.a j,by simp only [p0,f,c];rw[i,k];rfl⟩
def R8{l:Z}(i:aC w l 4 bI x)(k:fj x)(g:Int):ak Y 394 [l,I X g] w λz m=>O w m/\z=I X (hM x g):=by
 apply Zy;have H:=k.1;refine bG.y (λe m=>O w m/\e=[I X (jS x g)]) ?_ ?_
 ·refine ba.bJ (λf e n=>O w n/\∃a:Nat,a+f=x.length/\e=[I X (cZ (x.take a)),I X a]/\jS x g=a+jS (x.drop a) (g-cZ (x.take a))) ⟨x.length,O.p w,0,G,F,by simp[cZ]⟩ ?_;rintro f e t n ⟨h,a,A,rfl,o⟩;simp only [av,bA];rw[aS cY.m (i.h h),aR,ai];refine⟨λB=>?_,λC=>⟨h,by rw[Ft o λp d=>by have:=(dS.1 d).1;omega]⟩⟩;obtain⟨b,c⟩:∃b,x[a]? =J b:=⟨_,aX G⟩;have K:=(k.cG a).ch;have L:=k.2 b (cl c);rw[cY.M (i.h h) c F nH E (show(bI b)[2]? =J (I X (bS b))from F),aD,fg,ai];refine⟨λq=>?_,λq=>⟨h,by rw[Ft o λp d=>by rw[c]at d;cases d;exact q]⟩⟩;rw[cY.M (i.h h) c F nH E (show(bI b)[2]? =J (I X (bS b))from F),aD,aD];exact⟨f-1,G,h,a+1,G,by rw[Dg c];rfl,R4 o c q⟩
 ·rintro e t n ⟨u,rfl⟩;simp only [av];rw[cb,ai];refine⟨λD=>⟨u,by unfold hM;rw[an G]⟩,λD=>?_⟩;refine ba.bJ (λf e v=>O w v/\∃a:Nat,a+f=x.length+1/\e=[I X a]/\kn (x.drop 1)+1=a+kn (x.drop a)) ⟨x.length,u,1,G,F,G⟩ ?_;rintro f e t v ⟨j,a,A,rfl,r⟩;simp only [av];have y:hM x g=1+kn (x.drop 1):=by unfold hM;rw[au G]
  rw[aS cY.m (i.h j),aR,ai];refine⟨λB=>?_,λC=>⟨j,by rw[y,HB r λp d=>by have:=(dS.1 d).1;omega]⟩⟩;obtain⟨b,c⟩:∃b,x[a]? =J b:=⟨_,aX G⟩;rw[cY.M (i.h j) c F nH E (show(bI b)[2]? =J (I X (bS b))from F),bm,ai];refine⟨λs=>?_,λs=>⟨j,by rw[y,HB r λp d=>by rw[c]at d;cases d;exact s]⟩⟩;rw[aD];exact⟨f-1,G,j,a+1,G,F,WG (n:=0) r c s⟩
def Us{l:Z}(h:aC w l 4 bI x)(t:fj x)(i:Int):ak Y 314 [l,I X i] w λu m=>O w m/\u=I X (hM x i):=by
 apply YT;have L:=t.1;refine bG.y (λc m=>O w m/\c=[I X (jS x i)]) ?_ ?_
 ·refine ba.bJ (λe c k=>O w k/\∃a:Nat,a+e=x.length/\c=[I X a]/\jS x i=a+jS (x.drop a) (i-cZ (x.take a))) ⟨x.length,O.p w,0,G,F,by simp[cZ]⟩ ?_;rintro e c v k ⟨j,a,A,rfl,n⟩;simp only [av];rw[aS cY.m (h.h j),aR,ai];refine⟨λB=>?_,λC=>⟨j,by rw[Ft n λo b=>by have:=(dS.1 b).1;omega]⟩⟩;obtain⟨f,g⟩:∃f,x[a]? =J f:=⟨_,aX G⟩;have P:=lf h;have D:aC k (dp l 4 0 (a+1) (cC l)) 4 bI (x.take (a+1)):=by have:=(h.h j).ag (aw:=0) (bD:=a+1) (ds:=cC l) G G G (a6 _);rwa[h6]at this
  rw[aD,oA cY.m cY.bk cY.cN (h.h j) (bD:=a+1) G G];refine(GK D (t.cG _)).o ?_;rintro u p ⟨d,rfl⟩;rw[fg,ai,Dg g];refine⟨λq=>?_,λq=>⟨j.a d,by rw[Ft n λo b=>by rw[g]at b;cases b;exact q]⟩⟩;rw[aD];exact⟨e-1,G,j.a d,a+1,G,F,R4 n g q⟩
 ·rintro c v k ⟨y,rfl⟩;simp only [av];rw[bm,ai];refine⟨λK=>?_,λK=>⟨y,by unfold hM;rw[an G]⟩⟩;refine ba.bJ (λe c p=>O w p/\∃a:Nat,a+e=x.length+1/\c=[I X a]/\kn (x.drop 1)+1=a+kn (x.drop a)) ⟨x.length,y,1,G,F,G⟩ ?_;rintro e c v p ⟨d,a,A,rfl,r⟩;simp only [av];have z:hM x i=1+kn (x.drop 1):=by unfold hM;rw[au G]
  rw[aS cY.m (h.h d),aR,ai];refine⟨λB=>?_,λC=>⟨d,by rw[z,HB r λo b=>by have:=(dS.1 b).1;omega]⟩⟩;obtain⟨f,g⟩:∃f,x[a]? =J f:=⟨_,aX G⟩;rw[cY.M (h.h d) g F nH E (show(bI f)[2]? =J (I X (bS f))from F),bm,ai];refine⟨λs=>?_,λs=>⟨d,by rw[z,HB r λo b=>by rw[g]at b;cases b;exact s]⟩⟩;rw[aD];exact⟨e-1,G,d,a+1,G,F,WG (n:=0) r g s⟩
def V2{l:Z}(d:aC w l 4 bI x)(f:fj x)(a:Int):ak Y 392 [l,I X a] w λg p=>O w p/\g=I X (fM x a):=by
 apply Zw;have u:=f.1;rw[aS cY.m d,bm,ai];refine⟨λq=>⟨O.p _,by unfold fM;rw[au G];rfl⟩,λq=>?_⟩;refine(R8 d f a).o ?_;rintro g v ⟨h,rfl⟩;have y:=Fu (l:=x) a G;rw[aS cY.m (d.h h),bm,ai];refine⟨λr=>⟨h,by unfold fM;rw[an G,au G]⟩,λr=>?_⟩;have k:fM x a=if kH x (hM x a)=0 then hM x a else kH x (hM x a):=by unfold fM;rw[an G,an G]
 refine ba.bJ (λb m n=>O w n/\m=[I X b]/\b<=hM x a/\kH x (hM x a)=kH x b) ⟨_,h,F,a6 _,F⟩ ?_;rintro b m z n ⟨e,rfl,A,i⟩;simp only [av];rw[cb,ai];refine⟨λs=>?_,λs=>⟨e,by obtain rfl:b=0:=G;rw[k,i];rfl⟩⟩
 refine(afN (d.h e) f b G).o ?_;rintro g B ⟨o,rfl⟩;obtain⟨c,rfl⟩:∃c,b=c+1:=⟨b-1,G⟩;rw[dQ];refine⟨λj=>⟨e.a o,by rw[k,i];unfold kH;rw[au j,an G]⟩,λj=>?_⟩;rw[cd];have t:kH x (c+1)=kH x c:=by simp only [kH];rw[an (by rw[j];decide)]
 exact⟨c,G,e.a o,ae,G,i.trans t⟩
def UY{l:Z}(d:aC w l 4 bI S)(f:fj S)(a:Int):ak Y 230 [l,I X a] w λg h=>O w h/\g=I X (fM S a):=by
 apply YQ;have v:=f.1;rw[aS cY.m d,bm,ai];refine⟨λp=>⟨O.p _,by unfold fM;rw[au G];rfl⟩,λp=>?_⟩;refine(Us d f a).o ?_;rintro g x ⟨j,rfl⟩;have y:=Fu (l:=S) a G;rw[aS cY.m (d.h j),bm,ai];refine⟨λq=>⟨j,by unfold fM;rw[an G,au G]⟩,λq=>?_⟩;have n:fM S a=if kH S (hM S a)=0 then hM S a else kH S (hM S a):=by unfold fM;rw[an G,an G]
 refine ba.bJ (λk b o=>O w o/\∃i:Nat,i+k=hM S a/\b=[I X (kH S i),I X ((i:Int)+1)]) ⟨_,j,0,hW _,F⟩ ?_;rintro k b r o ⟨c,i,z,rfl⟩;simp only [av,bA];rw[fg,ai];refine⟨λs=>?_,λs=>?_⟩
 ·refine bG.y (λb h=>O w h/\b=[I X (kH S (i+1))]) ?_ ?_
  ·refine(aj5 (d.h c) f (i+1) G).o ?_;rintro g t ⟨e,rfl⟩;rw[dQ];refine⟨λm=>⟨c.a e,by simp only [kH];rw[au m];rfl⟩,λm=>⟨c.a e,by simp only [kH];rw[an (by rw[m];decide)]⟩⟩
  rintro b r t ⟨e,rfl⟩;simp only [av];rw[aD];exact⟨k-1,G,e,i+1,G,ae⟩
 ·obtain rfl:i=hM S a:=G;rw[bm,ai];exact⟨λu=>⟨c,by rw[n,au G]⟩,λu=>⟨c,by rw[n,an G]⟩⟩
def alR{l:Z}(g:aC w l 4 bI x)(m:fj x)(a:Int):ak Y 391 [l,I X a] w λh A=>O w A/\h=I X (ja x a):=by
 apply ZB;have K:=m.1;refine(V2 g m a).o ?_;rintro h q ⟨d,rfl⟩;have r:fM x a<=x.length:=by
  rcases nz x.length with b|b
  ·unfold fM;rw[au b];omega
  ·exact(x8 a b).2
 have L:=lf g;have s:aC q (dp l 4 0 (fM x a) (cC l)) 4 bI (x.take (fM x a)):=by have:=(g.h d).ag (aw:=0) (bD:=fM x a) (ds:=cC l) G r G (a6 _);rwa[h6]at this
 rw[oA cY.m cY.bk cY.cN (g.h d) (bD:=fM x a) F r,aS cY.m s];generalize t:fM x a=c at*;have C:(x.take c).length=c:=by rw[bt];omega
 refine ba.bJ (λn u v=>O q v/\∃e:Nat,e+n=c/\u=[I X e]/\∀D∈(x.take c).take e,eD D=af) ⟨c,O.p _,0,G,F,ae⟩ ?_;rintro n u P v ⟨f,e,Q,rfl,o⟩;simp only [av];rw[aR,ai,C];refine⟨λR=>?_,λS=>?_⟩
 ·obtain⟨i,p⟩:∃i,(x.take c)[e]? =J i:=⟨_,aX G⟩;refine cY.dO (s.h f) p F λU E j V W H=>?_;rw[aF oh H.b F];refine(E7 i).o ?_;rintro h ab ⟨y,rfl⟩;rw[dD,dQ];refine⟨λk=>⟨((d.a f).a j).a y,?_⟩,λk=>?_⟩
  ·unfold ja;rw[t,an];intro b;rw[wv]at b;have:=b i (cl p);rw[this]at k;cases k
  ·rw[aD];exact⟨n-1,G,(f.a j).a y,e+1,G,ae,E3 o p (by simpa using k)⟩
 ·rw[d_ G]at o;have z:ja x a=if c=0 then 0 else hM x a:=by unfold ja;rw[t,au (wv.2 o)]
  rw[bm,ai];refine⟨λb=>⟨d.a f,by rw[z,au G];rfl⟩,λb=>?_⟩;refine(R8 (g.h (d.a f)) m a).o ?_;rintro h E ⟨j,rfl⟩;exact⟨(d.a f).a j,by rw[z,an G]⟩
def akM{l:Z}(f:aC w l 4 bI S)(m:fj S)(a:Int):ak Y 229 [l,I X a] w λh y=>O w y/\h=I X (ja S a):=by
 apply YU;have K:=m.1;refine(UY f m a).o ?_;rintro h r ⟨c,rfl⟩;have s:fM S a<=S.length:=by
  rcases nz S.length with d|d
  ·unfold fM;rw[au d];omega
  ·exact(x8 a d).2
 have L:=lf f;have t:aC r (dp l 4 0 (fM S a) (cC l)) 4 bI (S.take (fM S a)):=by have:=(f.h c).ag (aw:=0) (bD:=fM S a) (ds:=cC l) G s G (a6 _);rwa[h6]at this
 generalize n:fM S a=b at*;have A:(S.take b).length=b:=by rw[bt];omega
 rw[bm,ai];refine⟨λB=>⟨c,by obtain rfl:b=0:=G;unfold ja;rw[n];rfl⟩,λB=>?_⟩
 rw[oA cY.m cY.bk cY.cN (f.h c) (bD:=b) F s,aS cY.m t];refine ba.bJ (λo u v=>O r v/\∃e:Nat,e+o=b/\u=[I X e]/\∀C∈(S.take b).take e,eD C=af) ⟨b,O.p _,0,G,F,ae⟩ ?_;rintro o u P v ⟨g,e,Q,rfl,p⟩;simp only [av];rw[aR,ai,A];refine⟨λR=>?_,λU=>?_⟩
 ·obtain⟨i,q⟩:∃i,(S.take b)[e]? =J i:=⟨_,aX G⟩;refine cY.dO (t.h g) q F λV D j W ab E=>?_;rw[aF oh E.b F];refine(Gy i).o ?_;rintro h ah ⟨x,rfl⟩;rw[dD,dQ];refine⟨λk=>⟨((c.a g).a j).a x,?_⟩,λk=>?_⟩
  ·unfold ja;rw[n,an];intro d;rw[wv]at d;have:=d i (cl q);rw[this]at k;cases k
  ·rw[aD];exact⟨o-1,G,(g.a j).a x,e+1,G,ae,E3 p q (by simpa using k)⟩
 ·rw[d_ G]at p;have H:ja S a=if b=0 then 0 else hM S a:=by unfold ja;rw[n,au (wv.2 p)]
  refine(Us (f.h (c.a g)) m a).o ?_;rintro h D ⟨j,rfl⟩;exact⟨(c.a g).a j,by rw[H,an G]⟩
end aY
end Go.Proofs.YtoddhldofgfdmaaGreatDoor
namespace Go.Lift
open Go
structure gC where
 cq:nA
 dq:Array Z
 j:Array Tmp
 bX:Code
 ca:Code
 a8:Nat
def gC.iR(r:gC)(a:uV):Loop:={state:=a,pending:=ac,fn:=r.cq,tmps:=r.dq,params:=r.j,assign:=r.bX,body:=r.ca,defers:=r.a8}
def gC.f(r:gC)(a:uV):Obj:= .loop (r.iR a)
variable{P:bq}{w:aa}{K:aU}
variable{n:Nat}
def Vs{k:Nat}{bR:c_}{x3 Me:pH}{r:gC}{args:List Z}(e:P.follows .mixedOrders=af)(f:w.heap[k]? =J (r.f g_))(g:args.length=r.j.size)
 (h:hy n {tmps:=(r.j.zip args.toArray).foldl (λi (l,m)=>i.setIfInBounds l m) r.dq,defers:=[]} bR)(o:jX n x3 r.bX=af)(p:jX n Me r.ca=af)
 (q:nJ P x3 r.bX bR w λa b c=>a=hX/\c.heap[k]? =J (r.f g_)/\nJ P Me r.ca b (c.putObj k (r.f .busy)) λa _ d=>a=hX/\d.heap[k]? =J (r.f .busy)/\K (ax af) (d.putObj k (r.f g_))):
 iU P (fq (rc k) #[] #[]) args w K:=by
 unfold iU;show lJ P K ((Instr.yield k args.toArray).run P w);rw[run_yield (r:=r.iR g_) f (by simpa [gC.iR]using g)];show RoundIn Fence.wide 0 P k r.cq _ r.bX r.ca w _;refine roundIn_of_wpIn trivial ?_;refine mF (tW (r:=J k) e x3 r.bX bR _ w _ o h q) ?_;rintro a s c ⟨b,t,_,rfl,u,v⟩;refine⟨_,run_beginRound (r:=r.iR g_) u F,?_⟩;refine mF (tW (r:=J k) e Me r.ca b s _ _ p t v) ?_;rintro a z d ⟨A,B,_,rfl,x,y⟩;exact⟨_,_,run_endRound (r:=r.iR .busy) ac x,y⟩
variable{c:Code}
def Wt{x:Code}{e:Act}{xA:nA}{d:Func}{s:Array Z}{h:Operand}{a:Array Tmp}{body:Code}{i:Exit->Act->aa->Prop}(l:e.eval h=fq (hE xA) #[] s)
 (m:P.funcs[xA]? =J d)(n:(d.name== "runtime.NumGoroutine")=ao)(o:d.body=J c)
 (b:∀fn,ak P xA (fq (rc (w.heap.size+1)) #[] #[]::s.toList) ((w.alloc (j6 (J []))).alloc (gC.f ⟨fn,e.tmps,a,x,body,w.heap.size⟩ g_)) λ_ g=>g.heap[w.heap.size+1]? =some (gC.f ⟨fn,e.tmps,a,x,body,w.heap.size⟩ g_)/\i hX {e with defers:={target:=AO w.heap.size,args:= #[]}::e.defers} (g.putObj (w.heap.size+1) (gC.f ⟨fn,e.tmps,a,x,body,w.heap.size⟩ AN))):
 (H2 h a x body).wpIn (iD ac) 0 P i e w:=by
 have p:d.name≠ "runtime.NumGoroutine":=by simpa using n
 have j:∀(args:Array Z) (w:aa),(yb xA args).run P w= .ok (.enter xA args) w:=λargs w=>by unfold yb;simp[m,p,o,program,Sem.run]
 refine wpIn_rangeFunc λfn _=>?_;refine⟨w.heap.size+1,[{target:=AO w.heap.size,args:= #[]}],(w.alloc (j6 (J []))).alloc (gC.f ⟨fn,e.tmps,a,x,body,w.heap.size⟩ g_),{target:= .fn (hE xA) s,args:= #[fq (rc (w.heap.size+1)) #[] #[]]},(w.alloc (j6 (J []))).alloc (gC.f ⟨fn,e.tmps,a,x,body,w.heap.size⟩ g_),xA,
  #[fq (rc (w.heap.size+1)) #[] #[]]++s,(w.alloc (j6 (J []))).alloc (gC.f ⟨fn,e.tmps,a,x,body,w.heap.size⟩ g_),run_enterLoop_outer _ _ _ _ _,?_,λ_ _=>trivial,?_,λb=>(by cases b),?_⟩
 ·simp only [resolve,l];simp[go_sem]
 ·simp only [invoke];exact j _ _
 ·have f:=b fn;unfold ak at f;rw[j]at f;unfold pz at f;have q:(#[fq (rc (w.heap.size+1)) #[] #[]]++s:Array Z)=(fq (rc (w.heap.size+1)) #[] #[]::s.toList).toArray:=by apply Array.ext';simp
  rw[q];rw[show(((fq (rc (w.heap.size+1)) #[] #[]::s.toList).toArray.toList).toArray)=(fq (rc (w.heap.size+1)) #[] #[]::s.toList).toArray from F]at f;refine Q3 (r:=ac) (Calls.mono f ?_);intro t g k;cases t with
  |returned y=>obtain⟨u,v⟩:=k;exact⟨ac,_,run_endLoop (r:=gC.iR ⟨fn,e.tmps,a,x,body,w.heap.size⟩ g_) u (λb=>by cases b),v⟩
  |_=>exact k.elim
variable{fn:Func}
def Vk{f:nA}{args:List Z}(a:P.funcs[f]? =J fn)(d:(fn.name== "runtime.NumGoroutine")=ao)(b:fn.body=J c)
 (e:c.wpIn (iD none) 0 P (bodyPostM (iD none) 0 P fn λg h=>match g with|oJ i=>K i h|_=>False) {tmps:=args.toArray++AM (fn.ntmps-args.toArray.size) undef,defers:=[]} w):ak P f args w K:=by
 refine L8 a d b ?_;unfold pz;exact callsIn_wide.1 (callsIn_of_wp_marks (F:=iD ac) (n:=0) a b trivial e)
def Tc{v:Z}{tmps:Array Z}{a:Ending->aa->Prop}(b:w.heap[n]? =J (j6 (J [])))(c:(results fn tmps).run P (w.putObj n (j6 ac))= .ok v (w.putObj n (j6 ac)))(d:a (oJ v) (w.putObj n (j6 ac))):
 LeavesInM (iD ac) 0 P fn tmps a [{target:=AO n,args:= #[]}] .returning w:=
 ⟨ae,.inl ⟨_,_,F,run_takeDeferred b,v,c,d⟩⟩
def Gj{x:Act}{r:Option Nat}{b:Array Oper}{c:Exit->Act->aa->Prop}{bc:List Nat}{a:Oper}(d:b[n]? =J a)(e:a.guard=ac)
 (f:lJ P (λg w=>Dp (iD r) 0 P b c bc (x.put a.dst g) w) ((execOp x.eval a).run P w)):Dp (iD r) 0 P b c (n::bc) x w:=by
 unfold Dp;simp only [d];rw[au (by unfold Region.wanted;rw[e])];exact An f
def Uq{args:List Z}(c:Nat.ble args.length n=af):hy n {tmps:=args.toArray++AM (n-args.toArray.size) undef,defers:=[]} (m0 0 args):=by
 have d:=Nat.le_of_ble_eq_true c;refine⟨F,by simp;omega,λa=>?_⟩;rw[KD,au (ec _)];simp only [Nat.sub_zero,Array.getD_eq_getD_getElem?];rw[Array.getElem?_append];by_cases b:a<args.length
 ·simp[b]
 ·rw[an (by simpa using b)];have:args[a]? =none:=j2 G;rw[this];rw[Array.getElem?_replicate];split<;>rfl
def zn(a:aa)(b:Nat)(c:Obj):a.grownBy (a.putObj b c) (J b):=⟨F,F,F,ae,λf _ d=>Xz λe=>d (by rw[e])⟩
def Ue{x e:Obj}{a:aa}(b:a.heap[n]? =J x):(a.putObj n e).heap[n]? =J e:=World.putObj_heap_same (iz.1 b).1
end Go.Lift
namespace Go.Proofs.YtoddhldofgfdmaaGreatDoor
namespace aY
open Go.Lift Go.RowKit Go.bW Go.cB Go.Proofs.YtoddhldofgfdmaaGreatDoor.b0
def be{a b:Nat}(c:a≠b):J a≠J b:=λd=>c (rg d)
def o9(l:List Nat):List Int:=l.map λn:Nat=>(n:Int)
def SQ(l:List Nat)(n:Nat):o9 (l++[n])=o9 l++[(n:Int)]:=by simp[o9]
variable{w:aa}
structure nB (w W:aa) (ei:Nat) (bc:Int) (r:gC) (e3:uV) (ly:List Nat) (cur:List aP):Prop where
 h:O w W
 s6:∃CE,ag W ei [CE]/\ar W (ei+6) 3 1 CE (b0.bC X) (o9 ly)
 bY:∃v,ag W (ei+1) [v]/\aC w v 4 bI cur
 iy:ag W (ei+3) [I X bc]
 a8:W.heap[ei+4]? =J (j6 (J []))
 aO:W.heap[ei+5]? =J (r.f e3)
variable{ei:Nat}{d:List Nat}{x:List aP}
def nB.Y{a:aa}{bc:Int}{r:gC}{b:uV}(c:nB w a ei bc r b d x):ei+6<=a.heap.size:=by have:=(iz.1 c.aO).1;omega
variable{n:Nat}
def nB.bI{c e:aa}{bc:Int}{r:gC}{f:uV}(a:nB w c n bc r f d x)(b:O c e):nB w e n bc r f d x:=by obtain⟨g,h,i⟩:=a.s6;obtain⟨j,k,l⟩:=a.bY;have m:=a.Y;exact⟨a.h.a b,⟨g,h.h b,i.h b⟩,⟨j,k.h b,l⟩,a.iy.h b,(b.block _ G).trans a.a8,(b.block _ G).trans a.aO⟩
def nB.put{c:aa}{bc:Int}{r:gC}{g:uV}(m:w.heap.size<=ei)(a:nB w c ei bc r g d x)(e:uV):nB w (c.putObj (ei+5) (r.f e)) ei bc r e d x:=by obtain⟨h,i,f⟩:=a.s6;obtain⟨v,j,k⟩:=a.bY;have b:=zn c (ei+5) (r.f e);exact⟨a.h.ab b λn l=>by cases l;omega,⟨h,i.ab b (be G),f.ab b (fC f G)⟩,⟨v,j.ab b (be G),k⟩,a.iy.ab b (be G),(Xz G).trans a.a8,Ue a.aO⟩
def afR{K:aU}{r:gC}{v1:Z}{first bc:Int}{o:aa}(f:fj x)(au:w.heap.size<=ei)(h:nB w o ei bc r g_ [] x)(H:ag o (ei+2) [I X first])
 (L:∀(b:List Nat) (n:Nat) (a:List aP) (c:aa) (K:aU),nB w c ei bc r g_ b a->b.length<=70000->(∀v,nB w v ei bc r g_ (b++[n]) a->K (ax af) v)->iU Y (fq (rc (ei+5)) #[] #[]) [I X n] c K)
 (M:∀(c:aa) (a:List aP),nB w c ei bc r g_ (vp x first bc) a->K (a1 #[]) c):
 ak Y 390 [fq (rc (ei+5)) #[] #[],ad (J ⟨ei+1,0,ac⟩),ad (J ⟨ei+2,0,ac⟩),ad (J ⟨ei+3,0,ac⟩)] o K:=by
 apply Zz;obtain⟨ay,O,P⟩:=h.bY;have az:=f.1;rw[aM mS (O.b.f 0 F),aM E (H.b.f 0 F)];refine(alR (P.h h.h) f first).o ?_;rintro Q a0 ⟨R,rfl⟩;have S:ja x first<=x.length:=by
  rcases nz x.length with p|p
  ·rw[ig p];exact a6 _
  ·exact(MA first p).2
 refine ba.bJ (λi y c=>∃(b:List Nat) (n:Nat) (a:List aP),y=[I X n]/\n<=a.length/\(a.drop n).length=i/\i<=x.length/\b.length+i<=x.length/\vp x first bc=b++n::k4 bc x.length (a.drop n)/\fj a/\nB w c ei bc r g_ b a)
  ⟨_,[],ja x first,x,F,S,F,by rw[cO];omega,by rw[cO];simp,F,f,h.bI R⟩ ?_
 rintro i y U c ⟨b,n,a,rfl,z,V,a2,a3,A,B,W⟩;simp only [av];refine L b n a c _ W G λa4 d=>?_;rw[hV];obtain⟨j,C,q⟩:=d.bY;rw[aM mS (C.b.f 0 F),pe cY.m cY.bk cY.cN (q.h d.h) (aw:=n) F z];have a5:=lf q;have k:aC w (dp j 4 n a.length (cC j)) 4 bI (a.drop n):=by have:=q.ag (aw:=n) (bD:=a.length) (ds:=cC j) z (a6 _) G (a6 _);rwa[cI]at this
 generalize dp j 4 n a.length (cC j)=s at*;have aA:=d.Y;refine aZ (cS:=[s]) vk g C k.M.1 F ae (by simpa using k.M.2) λt aB e ah=>?_;have u:ag t (ei+1) [s]:=ah;have l:nB w t ei bc r g_ (b++[n]) (a.drop n):=by obtain⟨aj,am,D⟩:=d.s6;exact⟨d.h.ab e λaD f=>by cases f;omega,⟨aj,am.ab e (be G),D.ab e (fC D G)⟩,⟨s,u,k⟩,d.iy.ab e (be G),(e.block _ G (be G)).trans d.a8,(e.block _ G (be G)).trans d.aO⟩
 rw[aM mS (u.b.f 0 F),aS cY.m (k.h l.h),bm,ai];have aE:(a.drop n).length=i:=V;refine⟨λh=>?_,λh=>?_⟩
 ·refine M t (a.drop n) ?_;have:k4 bc x.length (a.drop n)=[]:=by rw[ig (by omega:(a.drop n).length=0)];cases x.length<;>rfl
  rw[A,this];exact l
 ·rw[aM mS (u.b.f 0 F),aM E (l.iy.b.f 0 F)];refine(V2 (k.h l.h) (B.E n) bc).o ?_;rintro Q aF ⟨ap,rfl⟩;have aq:=x8 (l:=a.drop n) bc G;have aH:0<x.length:=G;refine⟨((a.drop n).drop (fM (a.drop n) bc)).length,by rw[cO];omega,b++[n],fM (a.drop n) bc,a.drop n,F,aq.2,F,by rw[cO];omega,?_,?_,B.E n,l.bI ap⟩
  ·rw[bf,cO];simp only [d1,lk];omega
  ·rw[A,cX];congr 1;show n::_=n::_;congr 1;obtain⟨m,ar⟩:∃m,x.length=m+1:=⟨x.length-1,G⟩;rw[ar]
   conv=>lhs;unfold k4
   rw[an G];congr 1;exact JQ bc m (m+1) _ (by rw[cO];omega) (by rw[cO];omega)
variable{S:List aP}
def afQ{x:Z}{first bc:Int}(d:aC w x 4 bI S):ak Y 386 [x,I X first,I X bc] w λe a=>O w a/\a.heap.size=w.heap.size+3/\e=fq (hE 390) #[] #[ad (J ⟨w.heap.size,0,ac⟩),ad (J ⟨w.heap.size+1,0,ac⟩),ad (J ⟨w.heap.size+2,0,ac⟩)]/\ag a w.heap.size [x]/\ag a (w.heap.size+1) [I X first]/\ag a (w.heap.size+2) [I X bc]:=by apply ZA;refine bd (S:=[x]) d.M.1 λf n g o h i=>?_;refine bd (S:=[I X first]) F λj p q r c k=>?_;refine bd (S:=[I X bc]) F λl s t u b m=>?_;rw[jZ];obtain rfl:f=w.heap.size:=g;obtain rfl:j=w.heap.size+1:=G;obtain rfl:l=w.heap.size+2:=G;exact⟨(h.a c).a b,G,F,(i.h c).h b,k.h b,m⟩
def aki{x:Act}{bR:c_}{k:Nat}{v:Z}(b:hy n x bR)(c:k<n):hy n {tmps:=(#[k].zip [v].toArray).foldl (λa (k,v)=>a.setIfInBounds k v) x.tmps,defers:=[]} (put bR (J k) v):=by
 have d:=b.put (J k) v (λf hd=>by cases hd;exact c);have e:(#[k].zip [v].toArray).foldl (λa (k,v)=>a.setIfInBounds k v) x.tmps=(x.put (J k) v).tmps:=by simp[Act.put]
 rw[e];exact⟨F,d.2⟩
noncomputable def y6:Code:=match lu NA with| .seq _ (.seq _ (.seq (.seq _ (.block _ (H2 _ _ a _))) _))=>a|_=> .skip
noncomputable def y7:Code:=match lu NA with| .seq _ (.seq _ (.seq (.seq _ (.block _ (H2 _ _ _ a))) _))=>a|_=> .skip
def JR{x:Z}{first bc:Int}(aj:aC w x 4 bI S)(C:fj S):ak Y 366 [x,I X first,I X bc] w λq b=>O w b/\ar b w.heap.size 3 1 q (b0.bC X) (o9 (vp S first bc)):=by
 refine Vk (c:=lu NA) Tryz.func366 D F ?_;have E:Y.follows .mixedOrders=true:=D;have a5:hy 19 {tmps:=[x,I X first,I X bc].toArray++AM (19- [x,I X first,I X bc].toArray.size) undef,defers:=[]} (m0 0 [x,I X first,I X bc]):=Uq F;refine sl (mF (tW (r:=ac) (n:=19) E (.np (up 1 0 .j)) _ (m0 0 [x,I X first,I X bc]) _ w (λn j b=>n=hX/\b=w/\j=(6,aQ ac 0 0)::m0 0 [x,I X first,I X bc]) D a5 (show _/\_/\_ from⟨F,F,F⟩)) ?_);rintro _ bi a ⟨bj,a7,_,rfl,rfl,rfl⟩;refine sl (mF (tW (r:=ac) (n:=19) E (.np (up 1 0 .j)) _ _ _ a (λn j b=>n=hX/\O a b/\b.heap.size=a.heap.size+1/\ag b a.heap.size [aQ ac 0 0]/\j=(7,ad (J ⟨a.heap.size,0,ac⟩))::(6,aQ ac 0 0)::m0 0 [x,I X first,I X bc]) D a7 (show gM Y 55 a (λbk b=>_/\_/\_/\_/\_)from bo Ql λr d am an H P=>⟨F,H,G,am▸P,by rw[am];rfl⟩)) ?_);rintro _ bl d ⟨bm,a9,_,rfl,H,an,P,rfl⟩;refine sl (sl (mF (tW (r:=ac) (n:=19) E (.np (up 4 0 .j)) _ _ _ d (λn j b=>n=hX/\O d b/\b.heap.size=d.heap.size+3/\ag b d.heap.size [x]/\ag b (d.heap.size+1) [I X first]/\ag b (d.heap.size+2) [I X bc]/\
  b3 j 12=fq (hE 390) #[] #[ad (J ⟨d.heap.size,0,ac⟩),ad (J ⟨d.heap.size+1,0,ac⟩),ad (J ⟨d.heap.size+2,0,ac⟩)]/\b3 j 7=ad (J ⟨a.heap.size,0,ac⟩)) D a9 (show ak Y 386 [x,I X first,I X bc] d (λq b=>_/\_/\_/\_/\_/\_/\_/\_)from(afQ (aj.h H)).o λq b ⟨aA,aB,aD,aE,aF,aG⟩=>⟨F,aA,aB,aE,aF,aG,aD,F⟩)) ?_))
 rintro _ e f ⟨k,u,_,rfl,ap,bn,aq,au,av,aH,Q⟩;have R:d.heap.size=a.heap.size+1:=an;have U:f.heap.size=a.heap.size+4:=G;refine wpIn_block (Wt (xA:=390) (((u.cb (.tmp 12)).trans aH)) Tryz.func390 D F λo=>?_);rw[U,R];have aI:(f.alloc (j6 (J []))).heap.size=f.heap.size+1:=ae;obtain⟨i,aJ⟩:∃i:gC,i=⟨o,e.tmps,#[13],y6,y7,a.heap.size+4⟩:=⟨_,F⟩;have aK:nB a ((f.alloc (j6 (J []))).alloc (i.f g_)) a.heap.size bc i g_ [] S:=by
  rw[R]at aq av;refine⟨((H.a ap).a1 _).a1 _,⟨_,((P.h ap).h ((O.p f).a1 _)).h ((O.p _).a1 _),ar.nil ..⟩,⟨x,(aq.h ((O.p f).a1 _)).h ((O.p _).a1 _),aj⟩,(av.h ((O.p f).a1 _)).h ((O.p _).a1 _),?_,?_⟩
  ·rw[(O.fl (f.alloc (j6 (J []))) _).block _ G,<-U];exact mE f _
  ·have:=mE (f.alloc (j6 (J []))) (i.f g_);rw[aI,U]at this;exact this
 have aL:ag ((f.alloc (j6 (J []))).alloc (i.f g_)) (a.heap.size+2) [I X first]:=by rw[R]at au;exact(au.h ((O.p f).a1 _)).h ((O.p _).a1 _)
 subst aJ;refine afR (w:=a) (ei:=a.heap.size) (v1:=x) C (a6 _) aK aL ?_ ?_
 ·intro aN m aw V ay s bu aP;refine Vs (n:=19) (bR:=put k (J 13) (I X m)) (x3:= .np (up 1 0 .j)) (Me:= .sub (.np (up 5 0 .j))) E s.aO F (aki u g) D D ?_;refine⟨F,s.aO,?_⟩;have p:=s.put (a6 _) .busy;obtain⟨c,K,v⟩:=p.s6;have aR:=p.Y;show bU Y 55 (b3 k 7) _ _;rw[Q,aM vc (K.b.f 0 F)];show fR Y 55 1 [(0,I X m)] _ (λy w=>cz Y fT [55,55] 55 [c,y] w (λaz w=>c4 Y 55 (b3 k 7) az w (λw=>hX=hX/\w.heap[a.heap.size+5]? =J (gC.f ⟨o,e.tmps,#[13],y6,y7,a.heap.size+4⟩ .busy)/\ay (ax af) (w.putObj (a.heap.size+5) (gC.f ⟨o,e.tmps,#[13],y6,y7,a.heap.size+4⟩ g_)))));refine b0.ajW v aR (by unfold o9;rw[b_];omega) λW bx L l bz=>?_;rw[Q];have a0:∀h,c.ownBlock=J h->a.heap.size+6<=h:=λh z=>(v.D h z).1;have A:∀r,r<a.heap.size+6->J r≠c.ownBlock:=λr C n=>by have:=a0 r n.symm;omega
  refine aZ (cS:=[W]) Qe g (K.ab l (A _ G)) L.M.1 F ae (by simpa using L.M.2) λa2 b2 t aS=>?_;have aT:ag a2 a.heap.size [W]:=aS;obtain⟨aU,aV,aW⟩:=p.bY;have a3:nB a a2 a.heap.size bc ⟨o,e.tmps,#[13],y6,y7,a.heap.size+4⟩ .busy (aN++[m]) aw:=by
   refine⟨(p.h.ab l λh z=>by have:=a0 h z;omega).ab t λh z=>by cases z;omega,⟨W,aT,?_⟩,⟨aU,(aV.ab l (A _ G)).ab t (be G),aW⟩,(p.iy.ab l (A _ G)).ab t (be G),?_,?_⟩
   ·rw[SQ];exact L.ab t (fC L G)
   ·rw[t.block _ (by have:=l.size;omega) (be G),l.block _ G (A _ G)];exact p.a8
   ·rw[t.block _ (by have:=l.size;omega) (be G),l.block _ G (A _ G)];exact p.aO
  exact⟨F,a3.aO,aP _ (a3.put (a6 _) g_)⟩
 ·intro V aw s;refine⟨s.aO,?_⟩;have ah:=s.put (a6 _) AN;obtain⟨c,K,v⟩:=ah.s6;have aY:∀B,({tmps:=e.tmps,defers:=B}:Act).eval=fA k:=λB=>funext λai=>by
   cases ai with
   |tmp y=>exact u.2.2 y
   |_=>rfl
  have a4:=u.put (J 18) c (λba hd=>by cases hd;decide);have bb:∀B,(({tmps:=e.tmps,defers:=B}:Act).put (J 18) c).eval=fA (put k (J 18) c):=λB=>funext λai=>by
   cases ai with
   |tmp y=>exact a4.2.2 y
   |_=>rfl
  have bd:=a4.put (J 6) c (λba hd=>by cases hd;decide);change Exit.inBlock 0 _ hX _ (V.putObj (a.heap.size+5) (gC.f ⟨o,e.tmps,#[13],y6,y7,a.heap.size+4⟩ AN));generalize V.putObj (a.heap.size+5) (gC.f ⟨o,e.tmps,#[13],y6,y7,a.heap.size+4⟩ AN)=M at*;refine sl (wpIn_region ?_);refine Gj F F ?_;rw[aY];refine s4 (bR:=k) ?_;show bU Y 55 (b3 k 7) _ _;rw[Q,aM vc (K.b.f 0 F)];refine Gj F F ?_;change lJ _ _ (Sem.run _ (execOp (({tmps:=e.tmps,defers:={target:=AO (a.heap.size+4),args:= #[]}::e.defers}:Act).put (J 18) c).eval _) M);rw[bb];refine s4 (bR:=put k (J 18) c) ?_;apply wpIn_ret;change LeavesInM (iD ac) 0 _ _ ((e.put (J 18) c).put (J 6) c).tmps _ ({target:=AO (a.heap.size+4),args:= #[]}::e.defers) .returning M;rw[u.1];refine Tc (v:=c) ah.a8 ?_ ?_
  ·obtain⟨q,bg,rfl⟩:=GB (P:=Y) (fn:=NA) (w:=M.putObj (a.heap.size+4) (j6 ac)) (K:=λq _=>q=c) bd (show b3 _ 6=c from F);exact bg
  ·have h:=zn M (a.heap.size+4) (j6 ac);exact⟨ah.h.ab h λr C=>by cases C;omega,(v.ab h (fC v G)).o G⟩
end aY
end Go.Proofs.YtoddhldofgfdmaaGreatDoor
namespace Go.Lift
open Go Go.RowKit
def fF{α β:Type}(bV:β->α->Prop):List β->List α->Prop
 |[],[]=>True
 |a::b,c::d=>bV a c/\fF bV b d
 |_,_=>False
section
variable{α β:Type} {bV Oj:β->α->Prop}
def fF.bl:∀{a:List β} {L:List α},fF bV a L->a.length=L.length
 |[],[],_=>F
 |_::_,_::_,h=>by rw[d1,d1,h.2.bl]
 |[],_::_,h=>h.elim
 |_::_,[],h=>h.elim
def fF.f:∀{aV:List β} {L:List α},fF bV aV L->∀{i:Nat} {x:α},L[i]? =J x->∃b,aV[i]? =J b/\bV b x
 |[],[],_,i,x,a=>by simp at a
 |b::aV,d::L,h,0,x,a=>by simp at a;subst a;exact⟨b,F,h.1⟩
 |b::aV,d::L,h,i+1,x,a=>by rw[pk]at a;obtain⟨c,e,f⟩:=h.2.f a;exact⟨c,by rw[pk];exact e,f⟩
 |[],_::_,h,_,_,_=>h.elim
 |_::_,[],h,_,_,_=>h.elim
def fF.ah:∀{c:List β} {L:List α} {S:List β} {d:List α},fF bV c L->fF bV S d->fF bV (c++S) (L++d)
 |[],[],_,_,_,b=>b
 |_::_,_::_,_,_,a,b=>⟨a.1,a.2.ah b⟩
 |[],_::_,_,_,a,_=>a.elim
 |_::_,[],_,_,a,_=>a.elim
def fF.bk{a:List β}{L:List α}{b:β}{x:α}(c:fF bV a L)(d:bV b x):fF bV (a++[b]) (L++[x]):=c.ah (show fF bV [b] [x]from⟨d,trivial⟩)
def fF.o:∀{aV:List β} {L:List α},fF bV aV L->(∀b a,b∈aV->bV b a->Oj b a)->fF Oj aV L
 |[],[],_,_=>trivial
 |b::_,_::_,h,d=>⟨d _ _ (dv ..) h.1,h.2.o λc a e f=>d c a (ey _ e) f⟩
 |[],_::_,h,_=>h.elim
 |_::_,[],h,_=>h.elim
def fF.aQ:∀{a:List β} {L:List α} (n:Nat),fF bV a L->fF bV (a.take n) (L.take n)
 |_,_,0,_=>by simp[fF]
 |[],[],_+1,_=>by simp[fF]
 |_::_,_::_,n+1,h=>⟨h.1,h.2.aQ n⟩
 |[],_::_,_+1,h=>h.elim
 |_::_,[],_+1,h=>h.elim
def fF.bj:∀{b:List β} {L:List α} (a:Nat),fF bV b L->fF bV (b.drop a) (L.drop a)
 |_,_,0,h=>h
 |[],[],_+1,_=>trivial
 |_::_,_::_,a+1,h=>h.2.bj a
 |[],_::_,_+1,h=>h.elim
 |_::_,[],_+1,h=>h.elim
def fF.ax:∀{d:List β} {e:List α} (n:Nat) {b:β} {x:α},fF bV d e->bV b x->fF bV (d.set n b) (e.set n x)
 |[],[],_,_,_,_,_=>trivial
 |_::_,_::_,0,_,_,a,c=>⟨c,a.2⟩
 |_::_,_::_,n+1,_,_,a,c=>⟨a.1,a.2.ax n c⟩
 |[],_::_,_,_,_,a,_=>a.elim
 |_::_,[],_,_,_,a,_=>a.elim
end
variable{x:aa}{n k i t:Nat}{v:Z}
def ar.aN{s:Nat}{e:Z}{α β:Type}{A:Nat}{V:α->List Z}{b:β->List Z}{L:List α}{c:List β}(d:ar x n i s e b c)(f:ar x A k t v V L)(g:i≠k):e.ownBlock=ac\/e.ownBlock≠v.ownBlock:=by
 cases hu:e.ownBlock with
 |none=>exact .inl F
 |some l=>refine .inr λh=>?_;obtain⟨_,m,j⟩:=d.de hu;obtain⟨_,o,a⟩:=f.de h.symm;rw[j]at a;cases a;exact g F
def BK(a:bK):List Value:=[ay a]
def qV:eR BK 1:=⟨λ_=>F,λb c a=>by simp[BK]at a;subst a;rfl⟩
def ar.ay{α:Type}{w:aa}{A a b:Nat}{v:Z}{V:α->List Z}{L:List α}(h:ar w A a b v V L):∃x:bK,v=ay x:=by
 rcases h with⟨rfl,_⟩|⟨c,d,e,f,rfl,_⟩
 ·exact⟨(ac,0,0),F⟩
 ·exact⟨(J ⟨c,d,ac⟩,L.length,e),F⟩
def eh.c3{e:bq}{c:List Z}{d:aa}{K:aU}{α:Type}{T:Nat}{V:α->List Z}{bN:aa->Prop}{L:List α}{x:α}(a:eh e T n k V c)(p:ar d i n k v V L)(H:i<=d.heap.size)(M:L.length<=2000000)(P:k<=1000)(q:∀f,O d f->bN f)
 (j:∀b g,ar g i n k b V (L++[x])->d.grownBy g v.ownBlock->(b.ownBlock=v.ownBlock\/∀h,b.ownBlock=J h->d.heap.size<=h)->ar g i n k v V L->K b g):
 fR e T 1 [(0,al (V x).toArray)] d λo d=>bN d/\cz e fT [T,T] t [v,o] d K:=by
 have r:jg (λs=>J (s*k,k)) ((lS (1*k)).map λl=>c.toArray[l%c.length]!) [(0,V x)]=J ([x].flatMap V):=by have u:=a.fv.bl x;have Q:((lS (1*k)).map λl=>c.toArray[l%c.length]!).length=k:=ae;unfold jg;simp only [uP];rw[au ⟨u,G⟩];unfold jg dE;simp only [kp,fc,hW];rw[lR G];simp
 refine f0 (n:=1) (V:=V) (L:=[x]) (iR:=[(0,V x)]) a.m a.bk F a.bc (by have:=a.cN;omega) G a.fv F r λo f W w m ab=>⟨q f m,?_⟩;have y:=a.ej;refine U6 a.m a.bk a.cN a.bc a.ko a.fv (p.h m) G (w.aI a.fv) (by have:e0=9223372036854775807:=rfl;simp;omega) (by have:(L.length+[x].length)*fI e n<=2000001*200:=DF (by simp;omega) y;omega) λb z A B C D=>?_
 exact j b z A (eN (eb m _) B) (C.imp id λj h E=>by have:=j h E;omega) D
def aC.df{α:Type}{V:α->List Z}{a:List α}(b:aC x v n V a)(c:aa):aC c v n (λ_:α=>[]) a:=by obtain⟨d,e,rfl,f,g,h⟩:=b;refine⟨d,e,F,f,g,λi j k=>?_⟩;obtain⟨l,m,o,_⟩:=h i j k;exact⟨l,m,o,λq r p=>by simp at p⟩
end Go.Lift
namespace Go.Proofs.YtoddhldofgfdmaaGreatDoor
section
open Go.Lift Go.RowKit
variable{L:List bT}{n:Nat}
def afo{a:bT}(i:∀a∈L,fz a)(o:L.length<=1000000)(f:L[n]? =J a):
 aT (L.take (n+1))=⟨(n:Int)+1,(aT (L.take n)).bH+a.bH,(aT (L.take n)).dC+a.dC,(aT (L.take n)).dY+a.dY,if(aT (L.take n)).ds<a.ds then a.ds else(aT (L.take n)).ds,if(aT (L.take n)).ds<a.ds then n else(aT (L.take n)).C⟩/\IK (aT (L.take n)) n:=by
 have p:=(dS.1 f).1;have k:(L.take n).length=n:=by rw[bt];omega
 have c:=Bw (L:=L.take n) G λl m=>i l (fy m);rw[k]at c;refine⟨?_,c⟩;obtain⟨q,r,s,t⟩:=i a (cl f);have u:=c.bH;have v:=c.dC;have w:=c.dY;have x:=c.z;have y:=c.ds;have z:=c.C;rw[gp f,qP];have j:n=0->(aT (L.take n)).ds=0/\(aT (L.take n)).C=0:=by rintro rfl;exact⟨F,F⟩
 apply gP.h
 ·simp only [eM,fY];omega
 ·simp only [eM,fY];exact tk ⟨G,G⟩
 ·simp only [eM,fY];exact tk ⟨G,G⟩
 ·simp only [eM,fY];exact tk ⟨G,G⟩
 ·by_cases b:st (aT (L.take n)) (fY a)
  ·have d:(eM (aT (L.take n)) (fY a)).ds=a.ds:=by unfold eM;dsimp only;rw[au b];rfl
   rw[d]
   dsimp only
   split
   ·rfl
   ·rename_i g
    rcases b.2 with e|e
    ·have:=j G;omega
    ·exact aL e g
  ·have d:(eM (aT (L.take n)) (fY a)).ds=(aT (L.take n)).ds:=by unfold eM;dsimp only;rw[an b]
   rw[d]
   dsimp only
   rw[an (show¬(aT (L.take n)).ds<a.ds from λh=>b ⟨by simp[fY],.inr h⟩)]
 ·by_cases b:st (aT (L.take n)) (fY a)
  ·have d:(eM (aT (L.take n)) (fY a)).C=(aT (L.take n)).z+0:=by unfold eM;dsimp only;rw[au b];rfl
   rw[d]
   dsimp only
   split
   ·omega
   ·rename_i g
    rcases b.2 with e|e
    ·have:=j G;omega
    ·exact aL e g
  ·have d:(eM (aT (L.take n)) (fY a)).C=(aT (L.take n)).C:=by unfold eM;dsimp only;rw[an b]
   rw[d]
   dsimp only
   rw[an (show¬(aT (L.take n)).ds<a.ds from λh=>b ⟨by simp[fY],.inr h⟩)]
def ha.b8{t s x:Int}{k:Nat}(b:ha L t s x n)(a:ha L t s x k):n=k:=by have c:∀{n k:Nat},ha L t s x n->ha L t s x k->¬n<k:=λb a d=>a.dh _ d (b.Ar (by have:=a.dU;omega));have:=c b a;have:=c a b;omega
end
namespace aY
open Go.Lift Go.bW Go.cB Go.Proofs.YtoddhldofgfdmaaGreatDoor.b0
def dI(g:bT->Int)(L:List bT):Int:=(L.map g).sum
def ho(g:bT->Int):dI g []=0:=rfl
def hQ(g:bT->Int)(x:bT)(L:List bT):dI g (x::L)=g x+dI g L:=by unfold dI;rw[eB,jJ]
def ld(g:bT->Int)(L a:List bT):dI g (L++a)=dI g L+dI g a:=by unfold dI;rw[dJ,yh]
def z8{g:bT->Int}{m:Int}:∀{L:List bT},(∀a∈L,0<=g a/\g a<=m)->0<=dI g L/\dI g L<=m*L.length
 |[],_=>by simp[dI]
 |a::L,b=>by
  have e:=b a (dv ..);have f:=z8 (L:=L) λc d=>b c (ey _ d);rw[hQ,d1];have:m*((L.length+1:Nat):Int)=m*L.length+m:=by rw[NB,Int.mul_add];simp
  omega
variable{L:List bT}
def xY{g:bT->Int}{m:Int}(c:∀a∈L,0<=g a/\g a<=m)(i:Nat):0<=dI g (L.take i)/\dI g (L.take i)<=dI g L:=by
 have d:=z8 (L:=L.take i) λa b=>c a (fy b);have e:=z8 (L:=L.drop i) λa b=>c a (jH b);have f:dI g L=dI g (L.take i)+dI g (L.drop i):=by rw[<-ld,fi]
 omega
def sH(e:∀d∈L,fz d)(f:L.length<=1000000):(aT L).bH=dI (·.bH) L/\(aT L).dC=dI (·.dC) L/\(aT L).dY=dI (·.dY) L:=by
 induction L using Ae with
 |dd=>exact⟨F,F,F⟩
 |h1 L d ih=>have c:∀a∈L,fz a:=λa b=>e a (hY _ b);have h:=e d ae;rw[bf]at f;simp only [d1,lk]at f;obtain⟨h1,i,j⟩:=ih c G;have k:=z8 (g:=(·.bH)) (m:=1099511627776) (L:=L) λa b=>(c a b).1;have l:=z8 (g:=(·.dC)) (m:=1099511627776) (L:=L) λa b=>(c a b).2.1;have n:=z8 (g:=(·.dY)) (m:=1099511627776) (L:=L) λa b=>(c a b).2.2.1;rw[qP,ld,ld,ld,hQ,hQ,hQ,ho,ho,ho];obtain⟨o,p,q,_⟩:=h;simp only [eM,fY];rw[h1,i,j];refine⟨?_,?_,?_⟩<;>rw[Int.add_zero]<;>exact tk ⟨G,G⟩
def iM(bx:Int)(x:bT):Int:=if bx=0 then x.bH else if bx=1 then x.dC else x.dY
variable{t:Int}
def Ai(b:∀a∈L,fz a)(e:L.length<=1000000)(c:t=0\/t=1\/t=2)(m:Nat):fp L t m=dI (iM t) (L.take m):=by
 have:=sH (L:=L.take m) (λa d=>b a (fy d)) (by rw[bt];omega);unfold fp qe iM;rcases c with rfl|rfl|rfl
 ·rw[an g,au F,this.1];simp
 ·rw[an g,an g,au F,this.2.1];simp
 ·rw[an g,an g,an g,this.2.2];simp
def Su{a:bT}(b:fz a)(c:Int):0<=iM c a/\iM c a<=1099511627776:=by
 unfold iM;split
 ·exact b.1
 ·split
  ·exact b.2.1
  ·exact b.2.2.1
variable{s:Int}
def Ky{x e:List bT}(hd:t=0\/t=1\/t=2)(d:∀f∈x++e,fz f)(g:(x++e).length<=1000000)(h1:x=[]\/dI (iM t) x<s)(i:∀a b,e=a::b->s<=dI (iM t) x+iM t a):ha (x++e) t s 0 x.length:=by
 refine⟨by rw[bf];omega,λh j=>?_,λk=>?_⟩
 ·rw[Ai d g hd,nx G];have:=xY (g:=iM t) (m:=1099511627776) (L:=x) (λf l=>Su (d f (hY _ l)) t) (h+1);rcases h1 with h1|h1
  ·subst h1;simp at j
  ·intro c;rcases c with c|⟨_,c⟩<;>omega
 ·rw[Ai d g hd];cases e with
  |nil=>simp at k
  |cons a b=>
   have m:(x++a::b).take (x.length+1)=x++[a]:=by rw[uR];simp[d_]
   rw[m,ld,hQ,ho];have:=i a b F;by_cases c:s<dI (iM t) x+iM t a
   ·exact .inl G
   ·exact .inr ⟨F,G⟩
variable{P:List bT}{v:Int}
def qW{bx:Int}{Q:List bT}(hd:bx=0\/bx=1\/bx=2)(c:∀d∈P++Q,fz d)(f:(P++Q).length<=1000000)(l:dI (iM bx) P<=v)(h:∀a b,Q=a::b->v<dI (iM bx) P+iM bx a):ha (P++Q) bx v 1 P.length:=by
 refine⟨by rw[bf];omega,λg m=>?_,λi=>?_⟩
 ·rw[Ai c f hd,nx G];have:=xY (g:=iM bx) (m:=1099511627776) (L:=P) (λd j=>Su (c d (hY _ j)) bx) (g+1);intro e;rcases e with e|⟨e,_⟩<;>omega
 ·rw[Ai c f hd];cases Q with
  |nil=>simp at i
  |cons a b=>
   have k:(P++a::b).take (P.length+1)=P++[a]:=by rw[uR];simp[d_]
   rw[k,ld,hQ,ho];have:=h a b F;exact .inl G
def ia(x:aG):Int:=(bY x.c5).length
def dG(l:List aG):Int:=(l.map ia).sum
def Fa:dG []=0:=rfl
def oW(a:aG)(l:List aG):dG (a::l)=ia a+dG l:=by unfold dG;rw[eB,jJ]
def vr(a b:List aG):dG (a++b)=dG a+dG b:=by unfold dG;rw[dJ,yh]
def Rk(a:Int)(l:List aG):dG (l.map (hR a))=dG l:=by unfold dG;rw[pr];rfl
def Kb(a:aG):0<=ia a:=by unfold ia;omega
def Fb:∀a:List aG,0<=dG a
 |[]=>gw _
 |b::a=>by rw[oW];have:=Kb b;have:=Fb a;omega
def eI(a:Int):bT:=⟨0,0,a,a,0,0,⟨#[]⟩⟩
def pf(a:aG):bT:=⟨0,a.G,0,ia a,0,0,⟨#[]⟩⟩
def ca:Int->Int->List aG->List bT
 |a,c,[]=>if a<c then [eI (c-a)]else []
 |a,c,b::d=>(if a<b.C then [eI (b.C-a)]else [])++pf b::ca (if a<b.C then b.C else a) c d
def fm:Int->List aG->List bT
 |_,[]=>[]
 |b,a::c=>(if b<a.C then [eI (a.C-b)]else [])++pf a::fm (if b<a.C then a.C else b) c
def cE:Int->List aG->Int
 |a,[]=>a
 |a,b::c=>cE (if a<b.C then b.C else a) c
def hz(b:Int):Int->List aG->Prop
 |_,[]=>True
 |c,a::d=>c<=a.C/\a.C<=b/\hz b a.C d
variable{n:Int}
def hz.o{a:Int}{l:List aG}(h:hz n a l)(b:t<=a):hz n t l:=by
 cases l with
 |nil=>trivial
 |cons c l=>exact⟨by have:=h.1;omega,h.2⟩
def hz.Q{n:Int}:∀{a:Int} {l:List aG} {x:aG},hz n a l->x∈l->a<=x.C/\x.C<=n
 |a,i::l,x,b,c=>by
  obtain⟨d,e,f⟩:=b;rcases df.1 c with g|h
  ·subst g;exact⟨d,e⟩
  ·have:=f.Q h;omega
def hz.ah{n:Int}:∀{a:Int} {l b:List aG},hz n a (l++b)->hz n a l/\hz n (cE a l) b/\hz n a b
 |a,[],b,c=>⟨trivial,c,c⟩
 |a,d::l,b,c=>by
  obtain⟨e,f,g⟩:=c;have:=hz.ah g;unfold cE;have h:(if a<d.C then d.C else a)=d.C:=by split<;>omega
  rw[h];exact⟨⟨e,f,this.1⟩,this.2.1,this.2.2.o e⟩
def RQ{n:Int}:∀{a:Int} {l:List aG},hz n a l->a<=n->a<=cE a l/\cE a l<=n
 |a,[],_,b=>⟨gw _,b⟩
 |a,c::l,b,g=>by
  obtain⟨h,d,e⟩:=b;unfold cE;have f:(if a<c.C then c.C else a)=c.C:=by split<;>omega
  rw[f];have:=RQ e d;omega
def RR{c:Int}:∀{a:Int} {d:List aG},(∀e∈d,e.C<c)->a<c->cE a d<c
 |a,[],_,b=>b
 |a,e::d,b,h=>by unfold cE;refine RR (λf g=>b f (ey _ g)) ?_;have:=b e (dv ..);split<;>omega
def Fl{c:Int}:∀{a:Int} {d:List aG},(∀e∈d,e.C<=c)->a<=c->cE a d<=c
 |a,[],_,b=>b
 |a,e::d,b,h=>by unfold cE;refine Fl (λf g=>b f (ey _ g)) ?_;have:=b e (dv ..);split<;>omega
def xS:∀(A B:List aG) (a b:Int),ca a b (A++B)=fm a A++ca (cE a A) b B
 |[],B,a,b=>F
 |c::A,B,a,b=>by simp only [gO,ca,fm,cE,cX];rw[xS A B]
def LQ:∀(A B:List aG) (a:Int),fm a (A++B)=fm a A++fm (cE a A) B
 |[],B,a=>F
 |b::A,B,a=>by simp only [gO,fm,cE,cX];rw[LQ A B]
def Kq:∀(b a:List aG) (c:Int),cE c (b++a)=cE (cE c b) a
 |[],a,c=>F
 |d::b,a,c=>by simp only [gO,cE];rw[Kq b a]
def LU(a:Int):∀(f:List aG) (b c:Int),ca (b+a) (c+a) (f.map (hR a))=ca b c f
 |[],b,c=>by
  simp only [ob,ca];rw[show c+a-(b+a)=c-b from G];by_cases d:b<c
  ·rw[au d,au G]
  ·rw[an d,an G]
 |e::f,b,c=>by
  simp only [eB,ca];have g:(hR a e).C=e.C+a:=rfl;have h:pf (hR a e)=pf e:=rfl;rw[g,h,show e.C+a-(b+a)=e.C-b from G];by_cases d:b<e.C
  ·rw[au d,au G,au G,au d,LU a f]
  ·rw[an d,an G,an G,an d,LU a f]
def uv:∀(A:List aG) (a:Int),dI (·.bH) (fm a A)=cE a A-a/\dI (·.dC) (fm a A)=cE a A-a+dG A
 |[],a=>by simp[fm,cE,dI,dG]
 |c::A,a=>by
  obtain⟨d,e⟩:=uv A (if a<c.C then c.C else a);simp only [fm,cE];rw[ld,ld,hQ,hQ,d,e,oW];by_cases b:a<c.C
  ·rw[au b,au b,hQ,hQ,ho,ho];simp only [eI,pf];omega
  ·rw[an b,an b,ho,ho];simp only [pf];omega
def GF{b:Int}:∀(d:List aG) (a:Int),(∀e∈d,e.C<=b)->a<=b->dI (·.bH) (ca a b d)=b-a/\dI (·.dC) (ca a b d)=b-a+dG d
 |[],a,_,g=>by
  simp only [ca,Fa];by_cases c:a<b
  ·rw[au c,hQ,hQ,ho,ho];exact⟨by show b-a+0=b-a;omega,by show b-a+0=b-a+0;rfl⟩
  ·rw[an c,ho,ho];omega
 |e::d,a,f,g=>by
  have l:=f e (dv ..);obtain⟨h,i⟩:=GF d (if a<e.C then e.C else a) (λj k=>f j (ey _ k)) (by split<;>omega);simp only [ca];rw[ld,ld,hQ,hQ,h,i,oW];by_cases c:a<e.C
  ·rw[au c,au c,hQ,hQ,ho,ho];simp only [eI,pf];omega
  ·rw[an c,an c,ho,ho];simp only [pf];omega
structure k2 (n:Int) (l:List aG):Prop where
 jA:0<=n/\n<=1000000
 bl:l.length<=1000
 hp:hz n 0 l
 oq:∀x∈l,ia x<=1000
def Ux:∀(b:List aG) (a:Int),(fm a b).length<=2*b.length
 |[],_=>a6 _
 |c::b,a=>by simp only [fm,bf,d1];have:=Ux b (if a<c.C then c.C else a);generalize(if a<c.C then c.C else a)=d at*;split<;>simp<;>omega
def UH:∀(b:List aG) (a c:Int),(ca a c b).length<=2*b.length+1
 |[],a,c=>by simp only [ca];split<;>simp
 |d::b,a,c=>by simp only [ca,bf,d1];have:=UH b (if a<d.C then d.C else a) c;generalize(if a<d.C then d.C else a)=e at*;split<;>simp<;>omega
def UI{g:Int}(m:g<=1000000):∀{c:List aG} {d e:Int},0<=d->e<=g->(∀b∈c,b.C<=g)->(∀b∈c,aY.ia b<=1000)->∀f∈ca d e c,fz f
 |[],d,e,n,j,_,_,f,a=>by
  simp only [ca]at a;split at a
  ·rw[cL]at a;subst a;simp only [fz,hx,eI];omega
  ·cases a
 |b::c,d,e,n,j,k,l,f,a=>by
  have o:=k b (dv ..);have p:=l b (dv ..);have q:=Kb b;simp only [ca]at a;rcases b9.1 a with a|a
  ·split at a
   ·rw[cL]at a;subst a;simp only [fz,hx,eI];omega
   ·cases a
  ·rcases df.1 a with a|a
   ·subst a;simp only [fz,hx,pf];omega
   ·refine UI m ?_ j (λh i=>k h (ey _ i)) (λh i=>l h (ey _ i)) f a;split<;>omega
def k2.aI{l:List aG}(a:k2 n l):∀b∈ca 0 n l,fz b:=UI a.jA.2 (gw _) (gw _) (λ_ c=>(a.hp.Q c).2) a.oq
def k2.aM{l:List aG}(a:k2 n l):(ca 0 n l).length<=2001:=by have:=UH l 0 n;have:=a.bl;omega
def et(l:List aG)(C aJ:Int):Int:=C+dG (l.filter λa=>decide (a.C<C\/(a.C=C/\aJ=1)))
variable{x c d:List aG}
def RZ{e:aG->Bool}(b:x=c++d)(f:∀a∈c,e a=af)(g:∀a∈d,e a=ao):x.filter e=c:=by rw[b,jd,lF g,cT,tt];exact f
def hz.nc{n:Int}(d:Int):∀{h:Int} {e:List aG},hz n h e->∃f g,e=f++g/\(∀b∈f,b.C<d)/\∀b∈g,d<=b.C
 |h,[],_=>⟨[],[],F,(λ_ a=>by cases a),λ_ a=>by cases a⟩
 |h,b::e,a=>by
  by_cases j:b.C<d
  ·obtain⟨f,g,k,l,m⟩:=hz.nc d a.2.2;refine⟨b::f,g,by rw[k];rfl,λi c=>?_,m⟩;rcases df.1 c with rfl|c
   ·exact j
   ·exact l i c
  ·refine⟨[],b::e,F,(λ_ a=>by cases a),λi c=>?_⟩;rcases df.1 c with rfl|c
   ·omega
   ·have:=a.2.2.Q c;omega
def R0{A B:List aG}(c:k2 t x)(k:0<=v/\v<=t)(g:x=A++B)(d:∀a∈A,a.C<v)(l:∀a∈B,v<=a.C):
 ca 0 t x=fm 0 A++ca (cE 0 A) t B/\ha (ca 0 t x) 0 v 0 (fm 0 A).length/\cE 0 A<=v:=by
 have h:=c.hp;rw[g]at h;have e:=xS A B 0 t;rw[<-g]at e;have m:cE 0 A<=v:=Fl (λa n=>Int.le_of_lt (d a n)) k.1;have p:=(uv A 0).1;refine⟨e,?_,m⟩;have i:=c.aI;have o:=c.aM;rw[e]at i o⊢;have j:dI (iM 0) (fm 0 A)=cE 0 A:=by have:dI (iM 0) (fm 0 A)=dI (·.bH) (fm 0 A):=rfl;omega
 refine Ky (.inl F) i G ?_ ?_
 ·cases f:A with
  |nil=>exact .inl F
  |cons a q=>
   rw[<-f]
   right
   rw[j];refine RR d ?_;have:=d a (by rw[f];exact dv ..);have:=(h.ah.1.Q (x:=a) (by rw[f];exact dv ..)).1;omega
 ·intro r s b;rw[j];cases B with
  |nil=>
   simp only [ca]at b;split at b
   ·cases b;show v<=cE 0 A+(t-cE 0 A);omega
   ·cases b
  |cons a u=>
   have:=l a (dv ..);simp only [ca]at b;split at b
   ·cases b;show v<=cE 0 A+(a.C-cE 0 A);omega
   ·cases b;show v<=cE 0 A+0;omega
def R1{A B:List aG}(c:k2 t x)(m:0<=v/\v<=t)(f:x=A++B)(n:∀a∈A,a.C<=v)(o:∀a∈B,v<a.C):
 ca 0 t x=fm 0 A++ca (cE 0 A) t B/\cE 0 A<=v/\((ha (ca 0 t x) 0 v 1 (fm 0 A).length/\(v<t\/B≠[])/\cE 0 A<t)\/(ha (ca 0 t x) 0 v 1 (ca 0 t x).length/\v=t/\B=[])):=by
 have p:=c.hp;rw[f]at p;have e:=xS A B 0 t;rw[<-f]at e;have q:cE 0 A<=v:=Fl n m.1;have u:=(uv A 0).1;refine⟨e,q,?_⟩;have d:=c.aI;have g:=c.aM;have h:dI (iM 0) (fm 0 A)=cE 0 A:=by have:dI (iM 0) (fm 0 A)=dI (·.bH) (fm 0 A):=rfl;omega
 cases i:B with
 |nil=>
  subst i;by_cases r:v<t
  ·left
   rw[e]at d g⊢;refine⟨qW (.inl F) d G G ?_,.inl r,G⟩;intro j k b;simp only [ca]at b;rw[au G]at b;cases b;rw[h];show v<cE 0 A+(t-cE 0 A);omega
  ·right
   have s:v=t:=G;have w:=(GF x 0 (λa l=>(c.hp.Q l).2) c.jA.1).1;have:=qW (P:=ca 0 t x) (Q:=[]) (bx:=0) (v:=v) (.inl F) (by rw[cT];exact d) (by rw[cT];omega)
    (by have:dI (iM 0) (ca 0 t x)=dI (·.bH) (ca 0 t x):=rfl;omega) (λj k b=>by cases b)
   rw[cT]at this;exact⟨this,s,F⟩
 |cons a E=>
  subst i
  left
  have l:=o a (dv ..);have H:=(c.hp.Q (x:=a) (by rw[f];simp)).2;rw[e]at d g⊢;refine⟨qW (.inl F) d G G ?_,.inr ae,G⟩;intro j k b;simp only [ca]at b;rw[au G]at b;cases b;rw[h];show v<cE 0 A+(a.C-cE 0 A);omega
def hz.cR(d:Int)(f:hz t s x):∃b c,x=b++c/\(∀a∈b,a.C<=d)/\∀a∈c,d<a.C:=by obtain⟨b,c,g,h,i⟩:=f.nc (d+1);exact⟨b,c,g,λa e=>by have:=h a e;omega,λa e=>by have:=i a e;omega⟩
variable{n:Nat}
def ajs{aJ:Int}(c:k2 t x)(k:0<=v/\v<=t)(o:aJ=0\/aJ=1)(i:ha (ca 0 t x) 0 v aJ n):
 (aT ((ca 0 t x).take n)).dC+v-(aT ((ca 0 t x).take n)).bH=et x v aJ:=by
 have p:=c.aI;have u:=c.aM;have l:=sH (L:=(ca 0 t x).take n) (λb a=>p b (fy a)) (by rw[bt];omega);rw[l.1,l.2.1];rcases o with rfl|rfl
 ·obtain⟨e,q,d,g,h⟩:=c.hp.nc v;obtain⟨j,m,f⟩:=R0 c k d g h;rw[i.b8 m,j,yk F,(uv e 0).1,(uv e 0).2];unfold et;rw[RZ d (λb a=>by have:=g b a;simp[this]) (λb a=>by have:=h b a;simp;omega)];omega
 ·obtain⟨e,q,d,g,h⟩:=c.hp.cR v;obtain⟨j,m,f⟩:=R1 c k d g h;have r:et x v 1=v+dG e:=by unfold et;rw[RZ d (λb a=>by have:=g b a;simp;omega) (λb a=>by have:=h b a;simp;omega)]
  rw[r];rcases f with⟨f,_⟩|⟨f,y,s⟩
  ·rw[i.b8 f,j,yk F,(uv e 0).1,(uv e 0).2];omega
  ·subst s;rw[cT]at d;subst d;rw[i.b8 f,cI];have:=GF x 0 (λb a=>(c.hp.Q a).2) c.jA.1;omega
def amN{x:Int}{e u:List aG}{a b:Int}{A B:List aG}(i:k2 t e)(K:k2 s c)(o:e=A++(d++B))(r:c=A++(u++B.map (hR (x-b))))
 (v:∀f∈A,f.C<a)(w:∀f∈d,a<=f.C/\f.C<=b)(L:∀f∈u,a<=f.C/\f.C<=x)(p:∀f∈B,b<f.C)(M:0<=a/\a<=b)(ak:a<=x)(O:b<=t)(am:t-b=s-x):
 ∃(h m:Nat),ha (ca 0 t e) 0 a 0 h/\(aT ((ca 0 t e).take h)).bH=cE 0 A/\(ca 0 t e).take h=fm 0 A/\h<=m/\ha (ca 0 t e) 0 b 1 m/\
  ((∃y:bT,(ca 0 t e)[m]? =J y/\h<=m+1/\ca 0 s c=fm 0 A++ca (cE 0 A) (x+(aT ((ca 0 t e).take m)).bH+y.bH-b) u++(ca 0 t e).drop (m+1))\/
   (m=(ca 0 t e).length/\ca 0 s c=fm 0 A++ca (cE 0 A) x u)):=by
 have P:=i.hp;have Q:=K.hp;rw[o]at P;rw[r]at Q;have R:e=(A++d)++B:=by rw[o,cX]
 obtain⟨z,D,an⟩:=R0 (A:=A) (B:=d++B) i ⟨M.1,G⟩ o v (λf g=>by
  rcases b9.1 g with g|g
  ·exact(w f g).1
  ·have:=p f g;omega)
 obtain⟨j,ap,k⟩:=R1 (A:=A++d) (B:=B) i (v:=b) ⟨G,O⟩ R (λf g=>by
  rcases b9.1 g with g|g
  ·have:=v f g;omega
  ·exact(w f g).2) p
 have S:=i.aI;have ar:=i.aM;have uB:∀h,(aT ((ca 0 t e).take h)).bH=dI (·.bH) ((ca 0 t e).take h):=λh=>(sH (L:=(ca 0 t e).take h) (λf g=>S f (fy g)) (by rw[bt];omega)).1;have l:(ca 0 t e).take (fm 0 A).length=fm 0 A:=by rw[z,yk F]
 have aw:=(uv A 0).1;have U:=(uv (A++d) 0).1;have V:(fm 0 A).length<=(fm 0 (A++d)).length:=by rw[LQ,bf];omega
 have n:=xS A (u++B.map (hR (x-b))) 0 s;rw[<-r]at n;rcases k with⟨k,E,H⟩|⟨k,E,H⟩
 ·refine⟨(fm 0 A).length,(fm 0 (A++d)).length,D,by rw[uB,l];omega,l,V,k,.inl ?_⟩;have W:(ca 0 t e).take (fm 0 (A++d)).length=fm 0 (A++d):=by rw[j,yk F]
  rw[uB,W,U];cases B with
  |nil=>
   have ay:b<t:=by rcases E with q|q;exact q;exact aL F q
   refine⟨eI (t-cE 0 (A++d)),?_,G,?_⟩
   ·rw[j,oI (a6 _),pn];simp only [ca];rw[au G];rfl
   ·rw[n,j,XB];simp only [ca,ob,cT,eI];rw[au G,lR G,show(fm 0 (A++d)).length+1-(fm 0 (A++d)).length=1 from G];simp only [XA,h6,cT];rw[show x+(cE 0 (A++d)-0)+(t-cE 0 (A++d))-b=s from G]
  |cons f ab=>
   have g:=p f (dv ..);refine⟨eI (f.C-cE 0 (A++d)),?_,G,?_⟩
   ·rw[j,oI (a6 _),pn];simp only [ca];rw[au G];rfl
   ·rw[n,j,XB];simp only [ca];rw[au G,au G,lR G,show(fm 0 (A++d)).length+1-(fm 0 (A++d)).length=1 from G];simp only [fc,Nt,XA,h6,eI];rw[show x+(cE 0 (A++d)-0)+(f.C-cE 0 (A++d))-b=f.C+(x-b)from G];rw[cX];congr 1;have az:cE (cE 0 A) u<=x:=Fl (λae ag=>(L ae ag).2) G;rw[eB,xS u];have ah:(hR (x-b) f).C=f.C+(x-b):=rfl;have ai:ca (cE 0 A) (f.C+(x-b)) u=fm (cE 0 A) u++(if cE (cE 0 A) u<f.C+(x-b)then [eI (f.C+(x-b)-cE (cE 0 A) u)]else []):=by have:=xS u [] (cE 0 A) (f.C+(x-b));rw[cT]at this;rw[this];rfl
    rw[ai,cX];congr 1;simp only [ca];rw[ah,au G,au G];have aj:pf (hR (x-b) f)=pf f:=rfl;rw[aj];have:=LU (x-b) ab f.C t;rw[show t+(x-b)=s from G]at this;rw[this]
 ·subst H;refine⟨(fm 0 A).length,(ca 0 t e).length,D,by rw[uB,l];omega,l,by rw[z,bf];omega,k,.inr ⟨F,?_⟩⟩;rw[n,ob,cT,show s=x from G]
def lG(a:Int):bT:=⟨1,0,a,1,0,0,⟨#[]⟩⟩
def b4:Int->Int->List aB->List bT
 |a,c,[]=>if a<c then [eI (c-a)]else []
 |a,c,b::d=>(if a<b.1 then [eI (b.1-a)]else [])++lG (b.2-b.1)::b4 b.2 c d
def ek:Int->List aB->List bT
 |_,[]=>[]
 |b,a::c=>(if b<a.1 then [eI (a.1-b)]else [])++lG (a.2-a.1)::ek a.2 c
def cH:Int->List aB->Int
 |a,[]=>a
 |_,b::c=>cH b.2 c
def v8:∀(A B:List aB) (a b:Int),b4 a b (A++B)=ek a A++b4 (cH a A) b B
 |[],B,a,b=>F
 |c::A,B,a,b=>by simp only [gO,b4,ek,cH,cX];rw[v8 A B]
def GD:∀(A B:List aB) (a:Int),ek a (A++B)=ek a A++ek (cH a A) B
 |[],B,a=>F
 |b::A,B,a=>by simp only [gO,ek,cH,cX];rw[GD A B]
def Fm:∀(b a:List aB) (c:Int),cH c (b++a)=cH (cH c b) a
 |[],a,c=>F
 |d::b,a,c=>by simp only [gO,cH];rw[Fm b a]
def UC(a:Int):∀(f:List aB) (b c:Int),b4 (b+a) (c+a) (f.map (kl a))=b4 b c f
 |[],b,c=>by
  simp only [ob,b4];rw[show c+a-(b+a)=c-b from G];by_cases e:b<c
  ·rw[au e,au G]
  ·rw[an e,an G]
 |d::f,b,c=>by
  simp only [eB,b4,kl];rw[show d.1+a-(b+a)=d.1-b from G,show d.2+a-(d.1+a)=d.2-d.1 from G,UC a f];by_cases e:b<d.1
  ·rw[au e,au G]
  ·rw[an e,an G]
def xu{c:Int}:∀{a:Int} {d:List aB},(∀e∈d,e.2<=c)->a<=c->cH a d<=c
 |a,[],_,b=>b
 |a,e::d,b,h=>by unfold cH;exact xu (λf g=>b f (ey _ g)) (b e (dv ..))
def RS{d:Int}:∀{a:Int} {b:List aB},dB d a b->a<=cH a b
 |a,[],_=>gw _
 |a,e::b,c=>by unfold cH;have:=RS c.2.2.2;have:=c.1;have:=c.2.1;omega
def pa(b:List aB):Int:=(b.map λa=>a.2-a.1-1).sum
def ah9:pa []=0:=rfl
def Cq(a:aB)(b:List aB):pa (a::b)=(a.2-a.1-1)+pa b:=by unfold pa;rw[eB,jJ]
def LS{f:Int}:∀(b:List aB) (a:Int),dB f a b->dI (·.bH) (ek a b)=cH a b-a
 |[],a,_=>by simp[ek,cH,dI]
 |c::b,a,d=>by
  have g:=LS b c.2 d.2.2.2;have:=d.1;simp only [ek,cH];rw[ld,hQ,g];by_cases e:a<c.1
  ·rw[au e,hQ,ho];simp only [eI,lG];omega
  ·rw[an e,ho];simp only [lG];omega
def UD{b:Int}:∀(c:List aB) (a:Int),dB b a c->a<=b->dI (·.bH) (b4 a b c)=b-a/\dI (·.dC) (b4 a b c)=b-a-pa c
 |[],a,_,h=>by
  simp only [b4,ah9];by_cases d:a<b
  ·rw[au d,hQ,hQ,ho,ho];simp only [eI];omega
  ·rw[an d,ho,ho];omega
 |f::c,a,e,h=>by
  have g:=UD c f.2 e.2.2.2 e.2.2.1;have:=e.1;simp only [b4];rw[ld,ld,hQ,hQ,g.1,g.2,Cq];by_cases d:a<f.1
  ·rw[au d,hQ,hQ,ho,ho];simp only [eI,lG];omega
  ·rw[an d,ho,ho];simp only [lG];omega
def UA:∀(a:List aB) (c b:Int),(b4 c b a).length<=2*a.length+1
 |[],c,b=>by simp only [b4];split<;>simp
 |d::a,c,b=>by simp only [b4,bf,d1];have:=UA a d.2 b;split<;>simp<;>omega
def UB{e:Int}(g:e<=10000000):∀{f:List aB} {b:Int},0<=b->dB e b f->∀c∈b4 b e f,fz c
 |[],b,h,_,c,a=>by
  simp only [b4]at a;split at a
  ·rw[cL]at a;subst a;simp only [fz,hx,eI];omega
  ·cases a
 |i::f,b,h,d,c,a=>by
  have j:=d.1;have k:=d.2.1;have l:=d.2.2.1;simp only [b4]at a;rcases b9.1 a with a|a
  ·split at a
   ·rw[cL]at a;subst a;simp only [fz,hx,eI];omega
   ·cases a
  ·rcases df.1 a with a|a
   ·subst a;simp only [fz,hx,lG];omega
   ·exact UB g G d.2.2.2 c a
structure mJ (W:Int) (H:List aB):Prop where
 jA:0<=W/\W<=10000000
 bl:H.length<=1000
 ae:dB W 0 H
def mJ.aI{H:List aB}(a:mJ t H):∀b∈b4 0 t H,fz b:=UB a.jA.2 (gw _) a.ae
def mJ.aM{H:List aB}(a:mJ t H):(b4 0 t H).length<=2001:=by have:=UA H 0 t;have:=a.bl;omega
def gL(L:List bT)(a:Nat):Int:=dI (·.bH) (L.take a)
def tX(L:List bT)(a:Nat)(p:Int):Option (Nat×Int):=
 match L[a]? with
 |none=>J (a,p)
 |some b=>if b.cG=0 then J (a,gL L a)else if gL L a<p/\p<gL L a+b.bH then ac else if gL L a+b.bH=p then J (a+1,p)else J (a,p)
def oZ(L:List bT)(m:Nat)(q a:Int):Option (Nat×Int):=
 match L[m]? with
 |none=>J (m,a)
 |some b=>if b.cG=0 then J (m+1,a+(gL L m+b.bH-q))else if gL L m<q/\q<gL L m+b.bH then ac else J (m,a)
def za{Q:List bT}:(P++Q)[P.length]? =Q[0]? :=by rw[oI (a6 _),pn]
def zY{Q:List bT}:gL (P++Q) P.length=dI (·.bH) P:=by unfold gL;rw[yk F]
def agi{p:Int}{H A bV:List aB}(d:mJ t H)(q:H=A++bV)(B:∀x∈A,x.2<=p)(r:∀x∈bV,p<=x.1)(C:0<=p/\p<=t):
 ∃e,ha (b4 0 t H) 0 p 0 e/\tX (b4 0 t H) e p=J ((ek 0 A).length,cH 0 A):=by
 have n:=d.ae;rw[q]at n;have k:=n.ah.1;have s:=v8 A bV 0 t;rw[<-q]at s;have P:cH 0 A<=p:=xu B C.1;have u:=LS A 0 k;have h:=d.aI;have o:=d.aM;rw[s]at h o⊢;have v:dB t 0 bV:=n.ah.2;by_cases f:A=[]\/cH 0 A<p
 ·refine⟨(ek 0 A).length,Ky (.inl F) h G ?_ ?_,?_⟩
  ·rcases f with f|f
   ·subst f;exact .inl F
   ·right;show dI (·.bH) (ek 0 A)<p;omega
  ·intro w D c;show p<=dI (·.bH) (ek 0 A)+w.bH;cases bV with
   |nil=>
    simp only [b4]at c;split at c
    ·cases c;simp only [eI];omega
    ·cases c
   |cons x E=>
    have:=r x (dv ..);have:=v.2.1;simp only [b4]at c;split at c
    ·cases c;simp only [eI];omega
    ·cases c;simp only [lG];omega
  ·unfold tX;rw[za,zY,u];cases bV with
   |nil=>
    simp only [b4];by_cases i:cH 0 A<t
    ·rw[au i];show(if(0:Int)=0 then J ((ek 0 A).length,cH 0 A-0)else _)=_;rw[au F,anY]
    ·rw[an i];show J ((ek 0 A).length,p)=_;congr 2;omega
   |cons x E=>
    have:=r x (dv ..);have:=v.2.1;simp only [b4];by_cases i:cH 0 A<x.1
    ·rw[au i];show(if(0:Int)=0 then J ((ek 0 A).length,cH 0 A-0)else _)=_;rw[au F,anY]
    ·rw[an i];show(if(1:Int)=0 then J ((ek 0 A).length,cH 0 A-0)else if cH 0 A-0<p/\p<cH 0 A-0+(x.2-x.1)then ac else if cH 0 A-0+(x.2-x.1)=p then J ((ek 0 A).length+1,p)else J ((ek 0 A).length,p))=_;rw[an g,an G,an G];congr 2;omega
 ·have y:A≠[]:=λe=>f (.inl e);have K:cH 0 A=p:=by
   rcases j5 (cH 0 A) p with e|e
   ·exact aL (.inr e) f
   ·omega
  obtain⟨b,a,rfl⟩:∃b a,A=b++[a]:=⟨A.dropLast,A.getLast y,(List.dropLast_concat_getLast y).symm⟩;have Q:cH 0 (b++[a])=a.2:=by rw[Fm];rfl
  have L:=k.ah;have R:=L.2.2;have S:cH 0 b<=a.1:=by
   have M:∀{l:Int} {j:List aB},dB t l (j++[a])->cH l j<=a.1:=by
    intro l j
    induction j generalizing l with
    |nil=>intro d;exact d.1
    |cons U j ih=>intro d;exact ih d.2.2.2
   exact M k
  have V:a.1<a.2:=(k.Q (x:=a) ae).2.1;have z:ek 0 (b++[a])=(ek 0 b++(if cH 0 b<a.1 then [eI (a.1-cH 0 b)]else []))++[lG (a.2-a.1)]:=by rw[GD];simp only [ek,cX]
  generalize W:ek 0 b++(if cH 0 b<a.1 then [eI (a.1-cH 0 b)]else [])=m at*;have O:dI (·.bH) m=a.1:=by have:=u;rw[z,ld,hQ,ho]at this;simp only [lG]at this;omega
  rw[z]at h o⊢;rw[cX]at h o⊢;refine⟨m.length,Ky (.inl F) h G (.inr (by show dI (·.bH) m<p;omega)) ?_,?_⟩
  ·intro w D c;cases c;show p<=dI (·.bH) m+(a.2-a.1);omega
  ·unfold tX;rw[za,zY,O];simp only [Nt,qm,lG];rw[an g,an G,au G];simp[K]
def agj{q D:Int}{H bV B:List aB}(n:mJ t H)(r:H=bV++B)(x:∀a∈bV,a.2<=q)(y:∀a∈B,q<=a.1)(z:0<=q/\q<=t):
 ∃o i,ha (b4 0 t H) 0 q 1 o/\(ek 0 bV).length<=i/\i<=(b4 0 t H).length/\
  ((B=[]/\oZ (b4 0 t H) o q (q+D)=J (i,t+D)/\(b4 0 t H).drop i=[])\/
   ∃a c,B=a::c/\oZ (b4 0 t H) o q (q+D)=J (i,a.1+D)/\(b4 0 t H).drop i=lG (a.2-a.1)::b4 a.2 t c):=by
 have p:=n.ae;rw[r]at p;have A:=p.ah.1;have C:dB t 0 B:=p.ah.2;have s:=v8 bV B 0 t;rw[<-r]at s;have M:cH 0 bV<=q:=xu x z.1;have O:=LS bV 0 A;have d:=n.aI;have f:=n.aM;rw[s]at d f⊢;have P:∀b:List bT,(b++[]:List bT).drop b.length=[]:=λb=>by rw[cT,mc]
 have u:∀b j:List bT,(b++j).drop b.length=j:=λb j=>anZ F;cases v:B with
 |nil=>
  subst v;by_cases k:cH 0 bV<t
  ·have h:b4 (cH 0 bV) t []=[eI (t-cH 0 bV)]:=by simp only [b4];rw[au k]
   rw[h]at d f⊢;rw[bf]at f;by_cases Q:q<t
   ·refine⟨(ek 0 bV).length,(ek 0 bV).length+1,qW (.inl F) d (by rw[bf];omega) (by show dI (·.bH) (ek 0 bV)<=q;omega) ?_,G,ae,.inl ⟨F,?_,?_⟩⟩
    ·intro l m e;cases e;show q<dI (·.bH) (ek 0 bV)+(t-cH 0 bV);omega
    ·unfold oZ;rw[za,zY];simp only [qm,eI,if_true];congr 2;omega
    ·rw[lR ae]
   ·have:=qW (P:=ek 0 bV++[eI (t-cH 0 bV)]) (Q:=[]) (bx:=0) (v:=q) (.inl F) (by rw[cT];exact d) (by rw[cT,bf];omega)
     (by show dI (·.bH) _<=q;rw[ld,hQ,ho];simp only [eI];omega) (λl m e=>by cases e)
    rw[cT]at this;refine⟨_,(ek 0 bV++[eI (t-cH 0 bV)]).length,this,ae,a6 _,.inl ⟨F,?_,mc⟩⟩;unfold oZ;rw[j2 (a6 _)];simp only [kP,tn,true_and];omega
  ·have h:b4 (cH 0 bV) t []=[]:=by simp only [b4];rw[an k]
   rw[h,cT]at d f⊢;have:=qW (P:=ek 0 bV) (Q:=[]) (bx:=0) (v:=q) (.inl F) (by rw[cT];exact d) (by rw[cT];omega) (by show dI (·.bH) _<=q;omega) (λl m e=>by cases e);rw[cT]at this;refine⟨_,(ek 0 bV).length,this,a6 _,a6 _,.inl ⟨F,?_,mc⟩⟩;unfold oZ;rw[j2 (a6 _)];simp only [kP,tn,true_and];omega
 |cons a c=>
  subst v;have R:=y a (dv ..);have S:=C.2.1;by_cases k:cH 0 bV<a.1
  ·have h:b4 (cH 0 bV) t (a::c)=eI (a.1-cH 0 bV)::(lG (a.2-a.1)::b4 a.2 t c):=by simp only [b4];rw[au k];rfl
   rw[h]at d f⊢;have w:∀b:List bT,b++eI (a.1-cH 0 bV)::(lG (a.2-a.1)::b4 a.2 t c)=(b++[eI (a.1-cH 0 bV)])++(lG (a.2-a.1)::b4 a.2 t c):=λb=>ae;by_cases U:q<a.1
   ·refine⟨(ek 0 bV).length,(ek 0 bV).length+1,qW (.inl F) d G (by show dI (·.bH) (ek 0 bV)<=q;omega) ?_,G,ae,.inr ⟨a,c,F,?_,?_⟩⟩
    ·intro l m e;cases e;show q<dI (·.bH) (ek 0 bV)+(a.1-cH 0 bV);omega
    ·unfold oZ;rw[za,zY];simp only [qm,eI,if_true];congr 2;omega
    ·rw[w];exact anZ ae
   ·rw[w]at d f⊢;refine⟨(ek 0 bV++[eI (a.1-cH 0 bV)]).length,(ek 0 bV++[eI (a.1-cH 0 bV)]).length,qW (.inl F) d G (by show dI (·.bH) _<=q;rw[ld,hQ,ho];simp only [eI];omega) ?_,ae,by rw[@bf _ (ek 0 bV++_)];omega,.inr ⟨a,c,F,?_,u _ _⟩⟩
    ·intro l m e;cases e;show q<dI (·.bH) (ek 0 bV++[eI (a.1-cH 0 bV)])+(a.2-a.1);rw[ld,hQ,ho];simp only [eI];omega
    ·unfold oZ;have L:dI (·.bH) (ek 0 bV++[eI (a.1-cH 0 bV)])=a.1:=by rw[ld,hQ,ho];simp only [eI];omega
     rw[za,zY,L];show(if(1:Int)=0 then _ else if a.1<q/\q<a.1+(a.2-a.1)then ac else J ((ek 0 bV++[eI (a.1-cH 0 bV)]).length,q+D))=_;rw[an g,an G];simp only [kP,tn,true_and];omega
  ·have h:b4 (cH 0 bV) t (a::c)=lG (a.2-a.1)::b4 a.2 t c:=by simp only [b4];rw[an k];rfl
   rw[h]at d f⊢;refine⟨(ek 0 bV).length,(ek 0 bV).length,qW (.inl F) d G (by show dI (·.bH) (ek 0 bV)<=q;omega) ?_,a6 _,ae,.inr ⟨a,c,F,?_,u _ _⟩⟩
   ·intro l m e;cases e;show q<dI (·.bH) (ek 0 bV)+(a.2-a.1);omega
   ·unfold oZ;rw[za,zY];simp only [qm,lG];rw[an g,an G];simp only [kP,tn,true_and];omega
variable{c d:List aB}
def agl{x e:List aB}{p q D:Int}{A B:List aB}(k:mJ t x)(ag:mJ s e)(i:x=A++(c++B))(M:e=A++(d++B.map (kl D)))
 (l:∀a∈A,a.2<=p)(u:∀a∈c,p<=a.1/\a.2<=q)(O:∀a∈d,p<=a.1/\a.2<=q+D)(m:∀a∈B,q<=a.1)(v:0<=p/\p<=q)(ah:p<=q+D)(P:q<=t)(w:t+D=s):
 ∃g h first f y z,ha (b4 0 t x) 0 p 0 g/\ha (b4 0 t x) 0 q 1 h/\tX (b4 0 t x) g p=J (first,y)/\oZ (b4 0 t x) h q (q+D)=J (f,z)/\first<=f/\f<=(b4 0 t x).length/\
  b4 0 s e=(b4 0 t x).take first++b4 y z d++(b4 0 t x).drop f:=by
 have n:=k.ae;rw[i]at n;have ai:∀a∈c,a.1<a.2:=λa b=>(n.Q (by simp[b])).2.1;have aj:∀a∈B,a.1<a.2:=λa b=>(n.Q (by simp[b])).2.1;obtain⟨g,C,E⟩:=agi (p:=p) (A:=A) (bV:=c++B) k i l (λa b=>by
  rcases b9.1 b with b|b
  ·exact(u a b).1
  ·have:=m a b;omega) ⟨v.1,G⟩
 have R:x=(A++c)++B:=by rw[i,cX]
 obtain⟨h,f,H,ak,K,S⟩:=agj (q:=q) (D:=D) (bV:=A++c) (B:=B) k R (λa b=>by
  rcases b9.1 b with b|b
  ·have:=l a b;omega
  ·exact(u a b).2) m ⟨G,P⟩
 have am:(ek 0 A).length<=(ek 0 (A++c)).length:=by rw[GD,bf];omega
 have L:(b4 0 t x).take (ek 0 A).length=ek 0 A:=by rw[i,v8,yk F]
 have o:=v8 A (d++B.map (kl D)) 0 s;rw[<-M]at o;have an:cH 0 A<=p:=xu l v.1;have ap:cH (cH 0 A) d<=q+D:=xu (λU V=>(O U V).2) G;rcases S with⟨j,r,hd⟩|⟨a,W,j,r,hd⟩
 ·refine⟨g,h,_,f,_,t+D,C,H,E,r,G,K,?_⟩;rw[o,L,hd,cT,j,w];simp
 ·refine⟨g,h,_,f,_,a.1+D,C,H,E,r,G,K,?_⟩;rw[o,L,hd,j,cX];congr 1;have b:=m a (by rw[j];exact dv ..);rw[eB,v8 d];have ab:b4 (cH 0 A) (a.1+D) d=ek (cH 0 A) d++(if cH (cH 0 A) d<a.1+D then [eI (a.1+D-cH (cH 0 A) d)]else []):=by have:=v8 d [] (cH 0 A) (a.1+D);rw[cT]at this;rw[this];rfl
  rw[ab,cX];congr 1;simp only [b4,kl];have:=UC D W a.2 t;rw[w]at this;rw[this,show a.2+D-(a.1+D)=a.2-a.1 from G]
  rfl
def Fc{p q:aG->Bool}(d:∀a,p a=af->q a=af):∀b:List aG,dG (b.filter p)<=dG (b.filter q)
 |[]=>gw _
 |a::b=>by
  have ih:=Fc d b;have:=Kb a;have:=Fb (b.filter q);rw[ri,ri];by_cases c:p a=af
  ·rw[au c,au (d a c),oW,oW];omega
  ·rw[an c];split
   ·rw[oW];omega
   ·exact ih
def ra(c:List aG)(a:Int):et c a 0<=et c a 1:=by unfold et;have:=Fc (p:=λb:aG=>decide (b.C<a\/(b.C=a/\(0:Int)=1))) (q:=λb:aG=>decide (b.C<a\/(b.C=a/\(1:Int)=1))) (λb d=>by simp at d⊢;omega) c;omega
def Dd(b:List aG)(d:t<s):et b t 1+(s-t)<=et b s 0:=by unfold et;have:=Fc (p:=λa:aG=>decide (a.C<t\/(a.C=t/\(1:Int)=1))) (q:=λa:aG=>decide (a.C<s\/(a.C=s/\(0:Int)=1))) (λa c=>by simp at c⊢;omega) b;omega
def Wf(a:hz t 0 x):et x t 1=t+dG x:=by unfold et;rw[tt.2];intro c b;have:=a.Q b;simp;omega
def hP(l:List aG)(x:aB):aB:=(et l x.1 1,et l x.2 0)
def Ly{d:Int}{a:List aG}(g:hz d 0 a):∀{c:Int} {f:List aB},dB d c f->dB (d+dG a) (et a c 0) (f.map (hP a))
 |c,[],_=>trivial
 |c,b::f,h=>by
  obtain⟨k,i,l,j⟩:=h;refine⟨?_,?_,?_,Ly g j⟩
  ·show et a c 0<=et a b.1 1;rcases j5 c b.1 with e|e
   ·have:=Dd a e;have:=ra a c;have:=ra a b.1;omega
   ·obtain rfl:c=b.1:=G;exact ra a _
  ·show et a b.1 1<et a b.2 0;have:=Dd a i;omega
  ·show et a b.2 0<=d+dG a;rw[<-Wf g];rcases j5 b.2 d with e|e
   ·have:=Dd a e;have:=ra a b.2;have:=ra a d;omega
   ·obtain rfl:b.2=d:=G;exact ra a _
def amL(a:hz t 0 x):et x 0 0=0:=by
 unfold et;rw[lF]
 ·rfl
 ·intro c b;have:=a.Q b;simp;omega
variable{x:Int}
def Wg{e:List aG}(f:hz t 0 e){b:Int}(g:0<=x/\x<=t)(a:b=0\/b=1):0<=et e x b/\et e x b<=t+dG e:=by
 constructor
 ·unfold et;have:=Fb (e.filter λc=>decide (c.C<x\/(c.C=x/\b=1)));omega
 ·rw[<-Wf f];rcases j5 x t with d|d
  ·have:=Dd e d;have:=ra e x;have:=ra e t;rcases a with rfl|rfl<;>omega
  ·obtain rfl:x=t:=G;rcases a with rfl|rfl
   ·exact ra e _
   ·exact gw _
def dB.cn{n d:Int}:∀{a:Int} {l:List aB},dB n a l->dB (n+d) (a+d) (l.map (kl d))
 |a,[],_=>trivial
 |a,x::l,b=>⟨by show a+d<=x.1+d;have:=b.1;omega,by show x.1+d<x.2+d;have:=b.2.1;omega,by show x.2+d<=n+d;have:=b.2.2.1;omega,dB.cn (a:=x.2) b.2.2.2⟩
def ahA{e:Int}{a:Int}(K:dB t 0 c)(L:dB s 0 d)(aI:a<=x)(aJ:a<=e)(aK:t-x=s-e)
 (W:bX c a=ao)(ab:bX c x=ao)(ae:bX d a=ao)(ag:bX d e=ao)
 (q:∀g,g<a->bX c g=bX d g)(ah:∀g,g<a->e5 c g=e5 d g)(r:∀g,x<g->bX c g=bX d (g+(e-x)))(a3:∀g,x<=g->e5 c g=e5 d (g+(e-x))):
 ∃u D E M:List aB,c=u++(D++M)/\d=u++(E++M.map (kl (e-x)))/\(∀b∈u,b.2<=a)/\(∀b∈D,a<=b.1/\b.2<=x)/\(∀b∈E,a<=b.1/\b.2<=e)/\∀b∈M,x<=b.1:=by
 obtain⟨O,aL,F,P,ai,aj,ak⟩:=K.jj a W;obtain⟨am,aM,H,an,ap,aq,ar⟩:=L.jj a ae;have vH:∀{v u au:List aB} {g:Int},v=u++au->bX v g=ao->bX au g=false:=λj v=>by subst j;unfold bX at*;rw[Xn,Bool.or_eq_false_iff]at v;exact v.2
 obtain⟨D,w,Q,av,aw,a4,a5⟩:=ak.jj x (vH F ab);obtain⟨E,ay,R,az,a7,a8,a9⟩:=ar.jj e (vH H ag);have aA:∀b,b∈O↔b∈c/\b.2<=a:=λb=>by
  rw[F];constructor
  ·intro f;exact⟨hY _ f,P b f⟩
  ·rintro⟨f,S⟩;rcases b9.1 f with f|f
   ·exact f
   ·have:=ai b f;have:=(ak.Q f).2.1;omega
 have aC:∀b,b∈am↔b∈d/\b.2<=a:=λb=>by
  rw[H];constructor
  ·intro f;exact⟨hY _ f,an b f⟩
  ·rintro⟨f,S⟩;rcases b9.1 f with f|f
   ·exact f
   ·have:=ap b f;have:=(ar.Q f).2.1;omega
 have aD:∀b,b∈w↔b∈c/\x<=b.1:=λb=>by
  rw[F,Q];constructor
  ·intro f;exact⟨by simp[f],aw b f⟩
  ·rintro⟨f,S⟩;rcases b9.1 f with f|f
   ·have:=P b f;have:=(aj.Q f).2.1;omega
   ·rcases b9.1 f with f|f
    ·have:=av b f;have:=(a4.Q f).2.1;omega
    ·exact f
 have aE:∀b,b∈ay↔b∈d/\e<=b.1:=λb=>by
  rw[H,R];constructor
  ·intro f;exact⟨by simp[f],a7 b f⟩
  ·rintro⟨f,S⟩;rcases b9.1 f with f|f
   ·have:=an b f;have:=(aq.Q f).2.1;omega
   ·rcases b9.1 f with f|f
    ·have:=az b f;have:=(a8.Q f).2.1;omega
    ·exact f
 have aF:O=am:=by
  refine Ml aj aq λb=>?_;rw[aA,aC];have y:b.2<=a->(b∈c↔b∈d):=λf=>by
   rw[K.rS,L.rS];constructor
   ·rintro⟨z,k,l,m,n⟩;refine⟨z,by rw[<-ah _ G];exact k,by rw[<-q _ G];exact l,?_,λg A B=>by rw[<-q g G];exact n g A B⟩;rcases j5 b.2 a with o|o
    ·rw[<-q _ o];exact m
    ·rw[show b.2=a from G];exact ae
   ·rintro⟨z,k,l,m,n⟩;refine⟨z,by rw[ah _ G];exact k,by rw[q _ G];exact l,?_,λg A B=>by rw[q g G];exact n g A B⟩;rcases j5 b.2 a with o|o
    ·rw[q _ o];exact m
    ·rw[show b.2=a from G];exact W
  constructor
  ·rintro⟨p,h⟩;exact⟨(y h).1 p,h⟩
  ·rintro⟨p,h⟩;exact⟨(y h).2 p,h⟩
 have aG:ay=w.map (kl (e-x)):=by
  refine(Ml (dB.cn (d:=e-x) (a:=0) a5) a9 λb=>?_).symm;have aH:b∈w.map (kl (e-x))↔((b.1-(e-x),b.2-(e-x)):aB)∈w:=by
   rw[eP];constructor
   ·rintro⟨i,U,rfl⟩;have:((kl (e-x) i).1-(e-x),(kl (e-x) i).2-(e-x))=i:=by obtain⟨aO,aP⟩:=i;simp only [kl];congr 1<;>omega
    rw[this];exact U
   ·intro U;exact⟨_,U,by obtain⟨aR,aS⟩:=b;simp only [kl];congr 1<;>omega⟩
  rw[aH,aD,aE];have j:∀i:Int,i-(e-x)+(e-x)=i:=λi=>G;have y:e<=b.1->(((b.1-(e-x),b.2-(e-x)):aB)∈c↔b∈d):=λf=>by
   rw[K.rS,L.rS]
   dsimp only
   have V:=a3 (b.1-(e-x)) G;rw[j]at V;have a0:bX c (b.1-(e-x))=bX d b.1:=by
    rcases j5 e b.1 with o|o
    ·have:=r (b.1-(e-x)) G;rwa[j]at this
    ·rw[show b.1=e from G,show e-(e-x)=x from G,ab,ag]
   constructor
   ·rintro⟨z,k,l,m,n⟩;have C:=r (b.2-(e-x)) G;rw[j]at C;refine⟨G,by rw[<-V];exact k,by rw[<-a0];exact l,by rw[<-C];exact m,λg A B=>?_⟩;have:=r (g-(e-x)) G;rw[j]at this;rw[<-this];exact n _ G G
   ·rintro⟨z,k,l,m,n⟩;have C:=r (b.2-(e-x)) G;rw[j]at C;refine⟨G,by rw[V];exact k,by rw[a0];exact l,by rw[C];exact m,λg A B=>?_⟩;rw[r g G];exact n _ G G
  constructor
  ·rintro⟨p,h⟩;dsimp only at h;have a2:e<=b.1:=G;exact⟨(y a2).1 p,a2⟩
  ·rintro⟨p,h⟩;exact⟨(y h).2 p,by dsimp only;omega⟩
 refine⟨O,D,E,w,by rw[F,Q],by rw[H,R,aF,aG],P,λb f=>⟨ai b (by rw[Q];exact hY _ f),av b f⟩,λb f=>⟨ap b (by rw[R];exact hY _ f),az b f⟩,aw⟩
def na(a:List aB):Nat->Int
 |0=>0
 |b+1=>na a b+(if bX a b then 1 else 0)
def Q2(a:aB):∀b:Nat,na [a] b=max 0 (min (b:Int) a.2-max a.1 (-1)-1)\/¬(0<=a.1)
 |0=>by
  by_cases c:0<=a.1
  ·left;unfold na;omega
  ·exact .inr c
 |b+1=>by
  rcases Q2 a b with ih|ih
  ·by_cases d:0<=a.1
   ·left
    unfold na;have:bX [a] b=decide (a.1<(b:Int)/\(b:Int)<a.2):=by simp[bX]
    rw[this,ih];by_cases hd:a.1<(b:Int)/\(b:Int)<a.2
    ·rw[eK hd,au F];omega
    ·rw[db hd,an g];omega
   ·exact .inr d
  ·exact .inr ih
def Q0:∀a,na [] a=0
 |0=>F
 |a+1=>by unfold na;rw[Q0 a];simp[bX]
def QZ{h:Int}{b:aB}{c:List aB}{i:Int}(f:dB h i (b::c)):∀a:Nat,na (b::c) a=na [b] a+na c a
 |0=>by simp[na]
 |a+1=>by
  unfold na;rw[QZ f a];have j:=f.2.2.2;have k:bX (b::c) a=(bX [b] a||bX c a):=by simp[bX]
  have dh:¬(bX [b] a=af/\bX c a=af):=by rintro⟨d,e⟩;obtain⟨m,g,n⟩:=gS.1 d;obtain⟨o,l,p⟩:=gS.1 e;rw[cL]at g;subst g;have:=j.Q l;omega
  rw[k];cases d:bX [b] a<;>cases e:bX c a
  ·simp
  ·simp;omega
  ·simp;omega
  ·exact aL ⟨d,e⟩ dh
def QY{c:Nat}:∀{d:List aB} {a:Int},0<=a->dB c a d->na d c=pa d
 |[],_,_,_=>Q0 c
 |e::d,a,g,b=>by
  rw[QZ b,Cq,QY (by have:=b.1;have:=b.2.1;omega) b.2.2.2];have:=b.1;have:=b.2.1;have:=b.2.2.1;rcases Q2 e c with f|f
  ·omega
  ·omega
def xr{p q:aG->Bool}(c:∀a,¬(p a=af/\q a=af)):∀b:List aG,dG (b.filter λa=>p a||q a)=dG (b.filter p)+dG (b.filter q)
 |[]=>F
 |a::b=>by
  have ih:=xr c b;have d:=c a;rw[ri,ri,ri];cases e:p a<;>cases f:q a
  ·simpa using ih
  ·simp only [Bool.or_true,if_true,j1,if_false];rw[oW,oW,ih];omega
  ·simp only [Bool.or_false,if_true,j1,if_false];rw[oW,oW,ih];omega
  ·exact aL ⟨e,f⟩ d
def Ka{x:List aG}{p q:aG->Bool}(b:∀a∈x,p a=q a):dG (x.filter p)=dG (x.filter q):=by rw[AP b]
def Tf{n:Int}{d:List aG}:∀{e:List aB} {a:Int},dB n a e->pa (e.map (hP d))=pa e+dG (d.filter λb=>bX e b.C)
 |[],_,_=>by
  have:(d.filter λb=>bX [] b.C)=[]:=lF λb _=>by simp[bX]
  rw[this];rfl
 |b::e,a,g=>by
  rw[eB,Cq,Cq,Tf g.2.2.2];have o:(d.filter λc=>bX (b::e) c.C)=d.filter λc=>(bX [b] c.C||bX e c.C):=by refine AP λc _=>?_;simp[bX]
  rw[o,xr]
  ·have s:b.1<b.2:=g.2.1;have t:et d b.2 0-et d b.1 1=(b.2-b.1)+dG (d.filter λc=>bX [b] c.C):=by
    unfold et;have:=xr (p:=λc:aG=>decide (c.C<b.1\/(c.C=b.1/\(1:Int)=1))) (q:=λc:aG=>bX [b] c.C) (λc j=>by obtain⟨h,i⟩:=j;obtain⟨k,f,q⟩:=gS.1 i;rw[cL]at f;subst f;simp at h;omega) d
    rw[Ka (q:=λc:aG=>decide (c.C<b.2\/(c.C=b.2/\(0:Int)=1)))]at this
    ·omega
    ·intro c _;rw[g0];simp only [sc,dF,gS,cL];constructor
     ·rintro(l|⟨k,rfl,l⟩)
      ·left;omega
      ·left;omega
     ·intro l;by_cases j:c.C<=b.1
      ·left
       rcases j5 c.C b.1 with m|m
       ·exact .inl m
       ·exact .inr ⟨G,by trivial⟩
      ·right;exact⟨b,F,G,G⟩
   show et d b.2 0-et d b.1 1-1+_=_;omega
  ·rintro c ⟨h,i⟩;obtain⟨k,f,q⟩:=gS.1 h;obtain⟨v,r,w⟩:=gS.1 i;rw[cL]at f;subst f;have:=g.2.2.2.Q r;omega
def mB(r:List Int)(a:List aB)(R:List aG):Nat->Int
 |0=>0
 |b+1=>mB r a R b+(dM r a R b).length
def ahG(b:Int)(a:aG):((o8 b a).length:Int)=ia a:=by unfold o8 ia;rw[b_]
def Sb(b:Int):∀a:List aG,((a.flatMap (o8 b)).length:Int)=dG a
 |[]=>F
 |c::a=>by rw[iB,bf,oW,<-Sb b a,<-ahG b c];omega
def MU(a:List aG)(p:Int):((gr a p).length:Int)=dG (a.filter λb=>b.C==p):=Sb p _
def akO{x:List aB}{r:List Int}(c:dB t s x){q:Nat}(d:q<r.length):((my r x q).length:Int)=1-(if bX x q then 1 else 0):=by
 unfold my;by_cases b:kg x q=af
 ·rw[au b];have:bX x q=false:=by obtain⟨g,e,f⟩:=xC.1 b;have:=(c.rS.1 e).2.2.1;rwa[f]at this
  rw[this];simp
 ·rw[an b];by_cases a:bX x q=af
  ·rw[au a,au a];rfl
  ·rw[an a,an a,aX d];rfl
def Mp{r:List Int}{e:List aB}{f:List aG}{o a:Int}(i:dB o a e)(j:∀b∈f,0<=b.C):∀c:Nat,c<=r.length->mB r e f c=c-na e c+dG (f.filter λb=>decide (b.C<c)&&!bX e b.C)
 |0,_=>by
  rw[lF]
  ·rfl
  ·intro b d;have:=j b d;simp;omega
 |c+1,q=>by
  unfold mB na;rw[Mp i j c G];have k:=akO (r:=r) i (q:=c) G;unfold dM;rw[bf];have p:=MU f c;have m:=xr (p:=λb:aG=>decide (b.C<(c:Int))&&!bX e b.C) (q:=λb:aG=>(b.C==(c:Int))&&!bX e b.C) (λb d=>by simp only [fb,dF,beq_iff_eq]at d;omega) f
  rw[Ka (q:=λb:aG=>decide (b.C<((c+1:Nat):Int))&&!bX e b.C)]at m
  ·rw[m];by_cases g:bX e c=af
   ·rw[au g]at k⊢;rw[au g];have:(f.filter λb=>(b.C==(c:Int))&&!bX e b.C)=[]:=lF λb d=>by
     by_cases d:b.C=c
     ·rw[d,g];simp
     ·simp[d]
    rw[this,Fa];simp only [lk];omega
   ·rw[an g]at k⊢;rw[an g];have:dG (f.filter λb=>(b.C==(c:Int))&&!bX e b.C)=dG (f.filter λb=>b.C==(c:Int)):=Ka λb _=>by
     by_cases d:b.C=c
     ·rw[d];simp[g]
     ·simp[d]
    rw[this,<-p];omega
  ·intro b _;rw[g0];simp only [sc,fb,dF,beq_iff_eq];constructor
   ·rintro(⟨n,h⟩|⟨n,h⟩)<;>exact⟨G,h⟩
   ·rintro⟨n,h⟩;by_cases d:b.C<c
    ·exact .inl ⟨d,h⟩
    ·exact .inr ⟨G,h⟩
def Ul(a:List Int)(b:List aB)(c:List aG)(d:Nat):∀e:Nat,(((hs d e).flatMap (dM a b c)).length:Int)=mB a b c (d+e)-mB a b c d
 |0=>ae
 |e+1=>by rw[List.range'_concat,hG,bf,sj];have:=Ul a b c d e;simp only [Dm];rw[<-j4];show _=mB a b c (d+e)+(dM a b c (d+e)).length-_;omega
def KY{x:Nat×Nat}(a:List Int)(b:List aB)(R:List aG)(c:x.1<=x.2):((c3 a b R x).length:Int)=mB a b R x.2-mB a b R x.1+(gr R x.2).length:=by unfold c3;rw[bf];have:=Ul a b R x.1 (x.2-x.1);rw[show x.1+(x.2-x.1)=x.2 from G]at this;omega
variable{x:List Int}{e:List aB}
def afP{R:List aG}(a:eo x e n=af)(g:∀b∈e,b.1<b.2):(dM x e R n).length=(gr R n).length+1:=by
 unfold eo at a;simp only [fb,beq_iff_eq,sb]at a;have h:kg e n=false:=by
  cases d:kg e n with
  |false=>rfl
  |true=>obtain⟨b,c,f⟩:=xC.1 d;have:e5 e n=true:=oy.2 ⟨b,c,G,by have:=g b c;omega⟩;rw[this]at a;cases a.2
 have i:bX e n=false:=by
  cases d:bX e n with
  |false=>rfl
  |true=>obtain⟨b,c,f⟩:=gS.1 d;have:e5 e n=true:=oy.2 ⟨b,c,G,f.2⟩;rw[this]at a;cases a.2
 unfold dM my;rw[h,i,a.1];simp
def mv(a:Nat)(b:List Int)(c:List aB)(R:List aG)(x:Nat×Nat):Int:=(c3 b c R x).length+(if x.2<a then 1 else 0)
def Mj{a:List Int}{c:List aB}{R:List aG}(f:∀e∈c,e.1<e.2):∀(b d p:Nat),d<=p->p+b<=a.length->
 ((cQ (eo a c) b d p).map (mv a.length a c R)).sum=mB a c R (p+b)-mB a c R d+(gr R (p+b:Nat)).length+(if p+b<a.length then 1 else 0)
 |0,d,p,g,i=>by unfold cQ;simp only [eB,ob,jJ,List.sum_nil,nw,mv];rw[KY a c R (x:=(d,p)) g];simp
 |b+1,d,p,g,i=>by
  unfold cQ;by_cases h:eo a c p=af
  ·rw[au h,eB,jJ,Mj f b (p+1) (p+1) (a6 _) G];have j:=afP (R:=R) h f;unfold mv;rw[KY a c R (x:=(d,p)) g]
   dsimp only
   rw[au G,show p+1+b=p+(b+1)from G];have k:mB a c R (p+1)=mB a c R p+(dM a c R p).length:=rfl;omega
  ·rw[an h,Mj f b d (p+1) G G,show p+1+b=p+(b+1)from G]
def Th{c:List aG}(f:dB x.length 0 e)(h:hz x.length 0 c):
 ((ui (eo x e) x.length).map (mv x.length x e c)).sum=x.length+dG c-pa (e.map (hP c)):=by
 unfold ui;have j:∀a∈e,a.1<a.2:=λa b=>(f.Q b).2.1;rw[Mj j x.length 0 0 (a6 _) G];simp only [hW,Nat.lt_irrefl,if_false];rw[Mp f (λa b=>(h.Q b).1) x.length (a6 _),QY (gw _) f,Tf (a:=0) f,MU];have k:mB x e c 0=0:=rfl;rw[k];have dh:bX e x.length=false:=by
  cases l:bX e x.length with
  |false=>rfl
  |true=>obtain⟨a,b,q⟩:=gS.1 l;have:=(f.Q b).2.2;omega
 have r:=xr (p:=λa:aG=>decide (a.C<(x.length:Int))&&!bX e a.C) (q:=λa:aG=>a.C==(x.length:Int)) (λa b=>by simp only [fb,dF,beq_iff_eq]at b;omega) c
 have o:=xr (p:=λa:aG=>(decide (a.C<(x.length:Int))&&!bX e a.C)||(a.C==(x.length:Int))) (q:=λa:aG=>bX e a.C) (λa b=>by
  obtain⟨d,g⟩:=b;simp only [sc,fb,sb,beq_iff_eq]at d;rcases d with d|d
  ·rw[g]at d;cases d.2
  ·rw[d,dh]at g;cases g) c
 rw[tt.2]at o
 ·omega
 ·intro a b;have:=h.Q b;by_cases i:bX e a.C=af
  ·simp[i]
  ·by_cases g:a.C=x.length
   ·simp[g]
   ·have:a.C<(x.length:Int):=G;simp[this,i]
end aY
end Go.Proofs.YtoddhldofgfdmaaGreatDoor
namespace Go.Proofs
open Go.Shelf
def Tryz.c6:DN:=⟨fun|6=>101|15=>172|14=>171|28=>246|29=>247|20=>238|21=>239|22=>240|23=>241|24=>242|25=>243|26=>244|27=>245|46=>322|47=>323|48=>324|49=>325|50=>326|57=>358|a=>a,fun|22=>34|24=>125|25=>237|3=>3|39=>331|0=>0|53=>421|55=>423|4=>4|46=>414|45=>413|50=>418|5=>5|9=>9|66=>506|70=>510|76=>533|77=>43|a=>a,fun|a=>a⟩
def Tryz.ea:an1 Y Tryz.c6:={
 mixed:=D
 f6:=⟨Tryz.f101.name,g,Tryz.func101.trans (ck J D)⟩
 f14:=⟨Tryz.f171.name,g,Tryz.func171.trans (ck J D)⟩
 f15:=Tryz.func172.trans (ck J D)
 f20:=⟨Tryz.f238.name,g,Tryz.func238.trans (ck J D)⟩
 f21:=⟨Tryz.f239.name,g,Tryz.func239.trans (ck J D)⟩
 f22:=⟨Tryz.f240.name,g,Tryz.func240.trans (ck J D)⟩
 f23:=⟨Tryz.f241.name,g,Tryz.func241.trans (ck J D)⟩
 f24:=⟨Tryz.f242.name,g,Tryz.func242.trans (ck J D)⟩
 f25:=⟨Tryz.f243.name,g,Tryz.func243.trans (ck J D)⟩
 f26:=⟨Tryz.f244.name,g,Tryz.func244.trans (ck J D)⟩
 f27:=⟨Tryz.f245.name,g,Tryz.func245.trans (ck J D)⟩
 f28:=Tryz.func246.trans (ck J D)
 f29:=Tryz.func247.trans (ck J D)
 f46:=⟨Tryz.f322.name,g,Tryz.func322.trans (ck J D)⟩
 f47:=Tryz.func323.trans (ck J D)
 f48:=Tryz.func324.trans (ck J D)
 f49:=⟨Tryz.f325.name,g,Tryz.func325.trans (ck J D)⟩
 f50:=⟨Tryz.f326.name,g,Tryz.func326.trans (ck J D)⟩
 f57:=⟨Tryz.f358.name,g,Tryz.func358.trans (ck J D)⟩
 t0:=H7
 a0:=H5
 z0:=H6
 v0:=H8
 t3:=yl
 a3:=AQ
 z3:=DH
 v3:=DI
 t4:=NG
 a4:=ND
 z4:=NF
 v4:=NH
 t5:=Ic
 a5:=H9
 z5:=Ia
 v5:=Ig
 t9:=Ie
 a9:=H_
 z9:=Ib
 v9:=Ih
 t22:=Tryz.underlying34
 a22:=Tryz.isAgg34
 z22:=Tryz.sizeOf34
 v22:=Tryz.zeroValue34
 t25:=Tryz.underlying237
 a25:=Tryz.isAgg237
 z25:=Tryz.sizeOf237
 v25:=Tryz.zeroValue237
 t39:=NO
 a39:=NM
 z39:=NN
 v39:=NP
 t45:=Tryz.underlying413
 a45:=Tryz.isAgg413
 z45:=Tryz.sizeOf413
 v45:=Tryz.zeroValue413
 t46:=Tryz.underlying414
 a46:=Tryz.isAgg414
 z46:=Tryz.sizeOf414
 v46:=Tryz.zeroValue414
 t50:=Tryz.underlying418
 a50:=Tryz.isAgg418
 z50:=Tryz.sizeOf418
 v50:=Tryz.zeroValue418
 t53:=NK
 a53:=NI
 z53:=NJ
 v53:=NL
 t55:=Tryz.underlying423
 a55:=Tryz.isAgg423
 z55:=Tryz.sizeOf423
 v55:=Tryz.zeroValue423
 t66:=Tryz.underlying506
 a66:=Tryz.isAgg506
 z66:=Tryz.sizeOf506
 v66:=Tryz.zeroValue506
 t70:=Tryz.underlying510
 a70:=Tryz.isAgg510
 z70:=Tryz.sizeOf510
 v70:=Tryz.zeroValue510
 t76:=Tryz.underlying533
 a76:=Tryz.isAgg533
 z76:=Tryz.sizeOf533
 v76:=Tryz.zeroValue533
 t77:=Tryz.underlying43
 a77:=Tryz.isAgg43
 z77:=Tryz.sizeOf43
 v77:=Tryz.zeroValue43}
def Tryz.c7:DN:=⟨fun|6=>106|15=>172|14=>175|28=>246|29=>247|20=>249|21=>250|22=>251|23=>252|24=>253|25=>254|26=>255|27=>256|46=>327|47=>323|48=>324|49=>328|50=>329|57=>359|a=>a,fun|22=>37|24=>49|25=>245|3=>3|39=>331|0=>0|53=>421|55=>423|4=>4|46=>414|45=>413|50=>418|5=>5|9=>9|66=>506|70=>510|76=>533|77=>43|a=>a,fun|a=>a⟩
def Tryz.eb:an1 Y Tryz.c7:={
 mixed:=D
 f6:=⟨Tryz.f106.name,g,Tryz.func106.trans (ck J D)⟩
 f14:=⟨Tryz.f175.name,g,Tryz.func175.trans (ck J D)⟩
 f15:=Tryz.func172.trans (ck J D)
 f20:=⟨Tryz.f249.name,g,Tryz.func249.trans (ck J D)⟩
 f21:=⟨Tryz.f250.name,g,Tryz.func250.trans (ck J D)⟩
 f22:=⟨Tryz.f251.name,g,Tryz.func251.trans (ck J D)⟩
 f23:=⟨Tryz.f252.name,g,Tryz.func252.trans (ck J D)⟩
 f24:=⟨Tryz.f253.name,g,Tryz.func253.trans (ck J D)⟩
 f25:=⟨Tryz.f254.name,g,Tryz.func254.trans (ck J D)⟩
 f26:=⟨Tryz.f255.name,g,Tryz.func255.trans (ck J D)⟩
 f27:=⟨Tryz.f256.name,g,Tryz.func256.trans (ck J D)⟩
 f28:=Tryz.func246.trans (ck J D)
 f29:=Tryz.func247.trans (ck J D)
 f46:=⟨Tryz.f327.name,g,Tryz.func327.trans (ck J D)⟩
 f47:=Tryz.func323.trans (ck J D)
 f48:=Tryz.func324.trans (ck J D)
 f49:=⟨Tryz.f328.name,g,Tryz.func328.trans (ck J D)⟩
 f50:=⟨Tryz.f329.name,g,Tryz.func329.trans (ck J D)⟩
 f57:=⟨Tryz.f359.name,g,Tryz.func359.trans (ck J D)⟩
 t0:=H7
 a0:=H5
 z0:=H6
 v0:=H8
 t3:=yl
 a3:=AQ
 z3:=DH
 v3:=DI
 t4:=NG
 a4:=ND
 z4:=NF
 v4:=NH
 t5:=Ic
 a5:=H9
 z5:=Ia
 v5:=Ig
 t9:=Ie
 a9:=H_
 z9:=Ib
 v9:=Ih
 t22:=Tryz.underlying37
 a22:=Tryz.isAgg37
 z22:=Tryz.sizeOf37
 v22:=Tryz.zeroValue37
 t25:=Tryz.underlying245
 a25:=Tryz.isAgg245
 z25:=Tryz.sizeOf245
 v25:=Tryz.zeroValue245
 t39:=NO
 a39:=NM
 z39:=NN
 v39:=NP
 t45:=Tryz.underlying413
 a45:=Tryz.isAgg413
 z45:=Tryz.sizeOf413
 v45:=Tryz.zeroValue413
 t46:=Tryz.underlying414
 a46:=Tryz.isAgg414
 z46:=Tryz.sizeOf414
 v46:=Tryz.zeroValue414
 t50:=Tryz.underlying418
 a50:=Tryz.isAgg418
 z50:=Tryz.sizeOf418
 v50:=Tryz.zeroValue418
 t53:=NK
 a53:=NI
 z53:=NJ
 v53:=NL
 t55:=Tryz.underlying423
 a55:=Tryz.isAgg423
 z55:=Tryz.sizeOf423
 v55:=Tryz.zeroValue423
 t66:=Tryz.underlying506
 a66:=Tryz.isAgg506
 z66:=Tryz.sizeOf506
 v66:=Tryz.zeroValue506
 t70:=Tryz.underlying510
 a70:=Tryz.isAgg510
 z70:=Tryz.sizeOf510
 v70:=Tryz.zeroValue510
 t76:=Tryz.underlying533
 a76:=Tryz.isAgg533
 z76:=Tryz.sizeOf533
 v76:=Tryz.zeroValue533
 t77:=Tryz.underlying43
 a77:=Tryz.isAgg43
 z77:=Tryz.sizeOf43
 v77:=Tryz.zeroValue43}
end Go.Proofs
namespace Go.Lift
open Go Go.RowKit Go.Proofs Go.Shelf
section
open Go.Sort hiding Below
def VA{a:List Z}{b:Nat}(c:b<a.length):a[b]? =J a[b]!:=by rw[getElem!_pos a b c];exact aX c
def afY{x:nA}{P:bq}{args:List Z}{w:aa}{K:aU}(b:(yb x args.toArray).run P w= .ok (.enter x args.toArray) w)(a:ak P x args w K):qo P x args.toArray w λe c=>match e with|oJ v=>K v c|_=>False:=by unfold ak at a;rw[b]at a;unfold pz at a;exact a
def IG{α:Type}(P:bq)(c:Nat)(V:α->List Z)(xq:α->α->Int):Prop:=
 ∀(w:aa) (a b:α),ak P c [al (V a).toArray,al (V b).toArray] w λd f=>d=I X (xq a b)/\∃g h,f=grow (w.drewN g) h
section
variable{α:Type} [Inhabited α] {P:bq} {ρ:Ren} {T e k A:Nat} {V:α->List Z} {dz:List Z} {w:aa} {K:aU} {xq:α->α->Int} {L:List α} {v:Z}
def akD{f g l:Nat}(c:eh P T e k V dz)(b:ar w A e k (aQ (J ⟨g,f,ac⟩) L.length l) V L):HoldsK V k w g f L.toArray:=by
 intro a d;rw[size_flatK]at d;have m:=c.cN;have h:a/k<L.length:=by
  have:a<L.length*k:=by simpa using d
  exact an2 (by rw[n4];exact this)
 have r:a%k<k:=se _ m;have n:L[a/k]? =J L[a/k]!:=by rw[getElem!_pos L (a/k) h];exact aX h
 have s:=c.fv.bl (L[a/k]!);have o:(V L[a/k]!)[a%k]? =J (V L[a/k]!)[a%k]!:=VA G;have i:=c.fv.aY L (a/k) _ n _ _ o;have p:a/k*k+a%k=a:=by rw[n4];exact qn a k
 rw[p]at i;refine⟨?_,?_⟩
 ·rw[b.f rfl i,get_flatK _ _ _ _ d];simp
 ·rcases b with⟨b,_⟩|⟨t,u,x,y,j,z,q,_⟩
  ·cases b
  ·simp only [Xx,kP,Xw]at j;obtain⟨⟨rfl,rfl,_⟩,_,rfl⟩:=j;simp[World.frozen?,q]
def alB{c d i n:Nat}{os:Array Obj}{a:Array α}(j:eh P T e k V dz)(l:ar w A e k (aQ (J ⟨d,c,ac⟩) L.length i) V L)(hd:a.size=L.length):
 w.grownBy (XD V k w d c n a os) (J d)/\ar (XD V k w d c n a os) A e k (aQ (J ⟨d,c,ac⟩) L.length i) V a.toList:=by
 rcases l with⟨l,_⟩|⟨R,S,U,o,p,y,q,r,z,B,W⟩
 ·cases l
 simp only [Xx,kP,Xw]at p;obtain⟨⟨rfl,rfl,_⟩,_,rfl⟩:=p;have C:=(iz.1 q).1;unfold XD putRowK putRow mapBlock grow;have s:∀f,f<w.heap.size->((NC w n).heap.modify d (onCells (H4 id c (flatK V k a)))++os)[f]? =if d=f then(w.heap[f]?).map (onCells (H4 id c (flatK V k a)))else w.heap[f]? :=by intro f m;rw[Array.getElem?_append_left (by simpa [NC]using m),Array.getElem?_modify];simp[NC]
 refine⟨⟨F,F,F,by simp[NC],λf m D=>?_⟩,.inr ⟨d,c,i,H4 id c (flatK V k a) o,by simp[hd],y,?_,by simp[hd];exact r,z,by simpa [H4]using B,?_⟩⟩
 ·rw[s f m,an (λe=>D (by rw[e]))]
 ·rw[s d C,au F,q];rfl
 ·have E:=j.cN;have ab:L.length*k<=i*k:=ny k r;have ag:(a.toList.flatMap V).length=a.size*k:=by
   have:∀h:List α,(h.flatMap V).length=h.length*k:=by
    intro h
    induction h with
    |nil=>simp
    |cons ah h ih=>rw[iB,bf,ih,j.fv.bl,d1,Ni,anW]
   rw[this];simp
  apply wz;intro b;rw[lN];have t:a.toList.length=a.size:=ae;split
  ·rename_i g
   rw[t]at g;rw[kQ];have u:b/k<a.size:=an2 (by rw[n4];exact g);have ai:b%k<k:=se _ E;have H:a.toList[b/k]? =J a[b/k]!:=by rw[getElem!_pos a (b/k) u];simp[u]
   have aj:=j.fv.bl (a[b/k]!);have M:(V a[b/k]!)[b%k]? =J (V a[b/k]!)[b%k]!:=VA G;have x:=j.fv.aY a.toList (b/k) _ H _ _ M;have O:b/k*k+b%k=b:=by rw[n4];exact qn b k
   rw[O]at x;rw[x];have Q:c+b<o.size:=by rw[hd]at g;omega
   simp only [H4,Array.toList_mapIdx,List.getElem?_mapIdx,Du];rw[Nk Q];simp only [HP,id];rw[au ⟨G,by rw[size_flatK];omega⟩,show c+b-c=b from G,get_flatK _ _ _ _ g]
  ·rename_i g
   rw[t]at g;rw[j2 G]
def Vr(u:SlLaysF0.n6 P ρ)(j:eh P T e k V dz)(M:ρ.t 24=e)(O:∀w,(isAgg e).run P w= .ok af w)(Q:∀w,(Go.sizeOf e).run P w= .ok k w)(R:Go.Sort.SWO (ltOf xq)){b f:Nat}(S:IG P b V xq)(U:ρ.f 6=f)
 (x:∀args w,(yb b args).run P w= .ok (.enter b args) w)(z:∀{args:List Z} {w:aa} {K:aU} {B:Ending->aa->Prop},qo P f args.toArray w B->(∀e a,B e a->∃v,e=oJ v/\K v a)->ak P f args w K)
 (l:ar w A e k v V L)(am:L.length<=1000000)(C:∀m a,m.Perm L->(∀(g c:Nat) (d y:α),m[g]? =J d->m[c]? =J y->g<c->ltOf xq y d=ao)->ar a A e k v V m->w.grownBy a v.ownBlock->K (a1 #[]) a):ak P f [v,fq (hE b) #[] #[]] w K:=by
 subst U;subst M;rcases id l with⟨rfl,rfl⟩|⟨o,p,D,an,rfl,ap,W,aq,au,av,aw⟩
 ·refine z (AnyF.slices_SortFunc_none u ac 0 (fq (hE b) #[] #[]) w) ?_;rintro e a ⟨rfl,rfl⟩;exact⟨_,F,C [] a (List.Perm.refl _) (λg c d y i=>by simp at i) l (vF _ _)⟩
 ·have ab:=(iz.1 W).1;have ae:CmpLays P b #[] V k xq o p L.toArray.size w:=by intro ay q az _ d y;refine(afY (args:=[al (V d).toArray,al (V y).toArray]) (x _ _) (S _ d y)).mono λe a r=>?_;cases e<;>first|exact⟨by rw[r.1],r.2⟩|exact r.elim
  have:=AnyQ.slices_SortFunc u k O Q V j.fv.bl j.fv.B xq R b #[] o p D L.toArray w x ae (akD j l) ab (by simp;omega);refine z (args:=[aQ (J ⟨o,p,ac⟩) L.length D,fq (hE b) #[] #[]]) this ?_;rintro e a ⟨rfl,h,E,q,H,ag,rfl⟩;have hd:h.size=L.length:=by simpa using H.1
  obtain⟨ah,ai⟩:=alB (n:=E) (os:=q) j l hd;refine⟨_,F,C h.toList _ ?_ ?_ ?_ ah⟩
  ·have:=H.2.2;rw[Array.extract_eq_self_of_le (by simp[hd])]at this
   simpa using this
  ·intro g c d y i n aj;have s:c<h.size:=by have:=(dS.1 n).1;simpa using this
   have:=ag g c (ec _) aj (by rw[hd]at s;simpa using s);rw[getElem!_pos h c s,getElem!_pos h g G]at this;rw[Du,Nk G]at i n;simp only [kP]at i n;rw[i,n]at this;exact this
  ·have a0:h.toList.length=L.length:=by simp[hd]
   exact ai
end
end
end Go.Lift
namespace Go.Proofs
open Go.Shelf
def Tryz.dQ:DN:=⟨fun|170=>289|a=>a,fun|70=>473|3=>3|0=>0|72=>475|37=>318|5=>5|a=>a,fun|a=>a⟩
def Tryz.dP:Go.Proofs.Lays.n170 Y Tryz.dQ:={
 mixed:=D
 f170:=Tryz.func289.trans (ck J D)
 t0:=H7
 a0:=H5
 z0:=H6
 v0:=H8
 t3:=yl
 a3:=AQ
 z3:=DH
 v3:=DI
 t37:=Tryz.underlying318
 a37:=Tryz.isAgg318
 z37:=Tryz.sizeOf318
 v37:=Tryz.zeroValue318
 t70:=Tryz.underlying473
 a70:=Tryz.isAgg473
 z70:=Tryz.sizeOf473
 v70:=Tryz.zeroValue473
 t72:=Tryz.underlying475
 a72:=Tryz.isAgg475
 z72:=Tryz.sizeOf475
 v72:=Tryz.zeroValue475}
open Go.RowKit in
def Tryz.eg(d b:Nat)(c:List Z)(a:aa)(e:XH 475 5 d b c a):
 qo Y 289 #[ad (J ⟨b,0,ac⟩)] a λf g=>f=oJ (I X c.length)/\g=a:=Any.Builder_Len Tryz.dP d b c a e
def Tryz.cX:DN:=⟨fun|169=>292|a=>a,fun|70=>473|9=>9|0=>0|72=>475|37=>318|127=>524|3=>3|5=>5|a=>a,fun|a=>a⟩
def Tryz.dO:Go.Proofs.Lays.n169 Y Tryz.cX:={
 mixed:=D
 f169:=Tryz.func292.trans (ck J D)
 t0:=H7
 a0:=H5
 z0:=H6
 v0:=H8
 t3:=yl
 a3:=AQ
 z3:=DH
 v3:=DI
 t9:=Ie
 a9:=H_
 z9:=Ib
 v9:=Ih
 t37:=Tryz.underlying318
 a37:=Tryz.isAgg318
 z37:=Tryz.sizeOf318
 v37:=Tryz.zeroValue318
 t70:=Tryz.underlying473
 a70:=Tryz.isAgg473
 z70:=Tryz.sizeOf473
 v70:=Tryz.zeroValue473
 t72:=Tryz.underlying475
 a72:=Tryz.isAgg475
 z72:=Tryz.sizeOf475
 v72:=Tryz.zeroValue475
 t127:=Tryz.underlying524
 a127:=Tryz.isAgg524
 z127:=Tryz.sizeOf524
 v127:=Tryz.zeroValue524}
def Tryz.dr:Builder.Extra Y Tryz.cX:={
 sizeBuilder:=D
 liesBuilder:=D
 t5:=Ic
 a5:=H9
 z5:=Ia
 v5:=Ig
 infoByte:=D
 cellsByte:=D
 sizeByte:=D
 neB5:=by decide}
open Go.RowKit in
def Tryz.eh(b c:Nat)(d:List UInt8)(a:aa)(e:XH 475 5 b c (so d) a)(f:b<=a.heap.size):
 qo Y 292 #[ad (J ⟨c,0,ac⟩)] a λg h=>g=oJ (lO ⟨d.toArray⟩)/\oH b a h:=Any.Builder_String_any Tryz.dO Tryz.dr b c d a e f
def Tryz.dM:DN:=⟨fun|144=>169|143=>236|219=>321|217=>354|225=>355|224=>356|267=>357|266=>381|314=>382|a=>a,fun|9=>9|4=>4|3=>3|5=>5|46=>331|146=>553|51=>421|a=>a,fun|1=>3|a=>a⟩
def Tryz.dL:Go.Proofs.Lays.n144 Y Tryz.dM:={
 mixed:=D
 f143:=Tryz.func236.trans (ck J D)
 f144:=Tryz.func169.trans (ck J D)
 f217:=Tryz.func354.trans (ck J D)
 f219:=Tryz.func321.trans (ck J D)
 f224:=Tryz.func356.trans (ck J D)
 f225:=Tryz.func355.trans (ck J D)
 f266:=Tryz.func381.trans (ck J D)
 f267:=Tryz.func357.trans (ck J D)
 f314:=Tryz.func382.trans (ck J D)
 t3:=yl
 a3:=AQ
 z3:=DH
 v3:=DI
 t4:=NG
 a4:=ND
 z4:=NF
 v4:=NH
 t5:=Ic
 a5:=H9
 z5:=Ia
 v5:=Ig
 t9:=Ie
 a9:=H_
 z9:=Ib
 v9:=Ih
 t46:=NO
 a46:=NM
 z46:=NN
 v46:=NP
 t51:=NK
 a51:=NI
 z51:=NJ
 v51:=NL
 t146:=Tryz.underlying553
 a146:=Tryz.isAgg553
 z146:=Tryz.sizeOf553
 v146:=Tryz.zeroValue553
 g1:=by kernel_rfl}
open Go.RowKit Go.Lib in
def Tryz.er(a:ByteArray)(b:UInt8)(c:aa):
 qo Y 169 #[lO a,lO ⟨#[b]⟩] c λd e=>d=oJ (ax (decide (0<=Lib.indexByte a.data.toList b)))/\e=c:=Any.strings_Contains_one Tryz.dL a b c
def Tryz.dK:DN:=⟨fun|138=>344|195=>368|218=>369|143=>236|219=>321|217=>354|225=>355|224=>356|267=>357|266=>381|314=>382|a=>a,fun|9=>9|3=>3|4=>4|5=>5|0=>0|46=>331|146=>553|51=>421|a=>a,fun|1=>3|a=>a⟩
def Tryz.dJ:Go.Proofs.Lays.n138 Y Tryz.dK:={
 mixed:=D
 f138:=Tryz.func344.trans (ck J D)
 f143:=Tryz.func236.trans (ck J D)
 f195:=Tryz.func368.trans (ck J D)
 f217:=Tryz.func354.trans (ck J D)
 f218:=Tryz.func369.trans (ck J D)
 f219:=Tryz.func321.trans (ck J D)
 f224:=Tryz.func356.trans (ck J D)
 f225:=Tryz.func355.trans (ck J D)
 f266:=Tryz.func381.trans (ck J D)
 f267:=Tryz.func357.trans (ck J D)
 f314:=Tryz.func382.trans (ck J D)
 t0:=H7
 a0:=H5
 z0:=H6
 v0:=H8
 t3:=yl
 a3:=AQ
 z3:=DH
 v3:=DI
 t4:=NG
 a4:=ND
 z4:=NF
 v4:=NH
 t5:=Ic
 a5:=H9
 z5:=Ia
 v5:=Ig
 t9:=Ie
 a9:=H_
 z9:=Ib
 v9:=Ih
 t46:=NO
 a46:=NM
 z46:=NN
 v46:=NP
 t51:=NK
 a51:=NI
 z51:=NJ
 v51:=NL
 t146:=Tryz.underlying553
 a146:=Tryz.isAgg553
 z146:=Tryz.sizeOf553
 v146:=Tryz.zeroValue553
 g1:=by kernel_rfl}
open Go.RowKit Go.Lib in
def Tryz.et(a:ByteArray)(b:UInt8)(c:aa):
 qo Y 344 #[lO a,lO ⟨#[b]⟩] c λd e=>d=oJ (I X (NQ a.data.toList b))/\e=c:=Any.strings_Count_one Tryz.dJ a b c
end Go.Proofs
namespace Go.Proofs.YtoddhldofgfdmaaGreatDoor
section
namespace S
open Go Go.Lift
variable{K:aU}{x:Ending->aa->Prop}{e:aa}
def MB.bJ{args:List Z}(d:qo Y 289 args.toArray e x)(f:∀a b,x a b->∃c,a=oJ c/\K c b):ak Y 289 args e K:=z7 Tryz.func289 D (c:=lu Tryz.f289) F d f
abbrev MB.n:Nat:=289
def MC.bJ{args:List Z}(d:qo Y 292 args.toArray e x)(f:∀a b,x a b->∃c,a=oJ c/\K c b):ak Y 292 args e K:=z7 Tryz.func292 D (c:=lu Tryz.f292) F d f
abbrev MC.n:Nat:=292
def al2.bJ{args:List Z}(d:qo Y 344 args.toArray e x)(f:∀a b,x a b->∃c,a=oJ c/\K c b):ak Y 344 args e K:=z7 Tryz.func344 D (c:=lu Tryz.f344) F d f
def al1.bJ{args:List Z}(d:qo Y 169 args.toArray e x)(f:∀a b,x a b->∃c,a=oJ c/\K c b):ak Y 169 args e K:=z7 Tryz.func169 D (c:=lu Tryz.f169) F d f
def afe.ed{x:Z}(a:K x e):ak Y 370 [x] e K:=by
 refine ak4 (v:=x) (aq:=e) ?_ a;rw[run_callFunc_extern Tryz.func370 D D D (e:=Extern.AbiNoEscape.same) D,Lib.run_noEscape]
 rfl
end S
end
section
open Go.Lift Go.RowKit
def jQ(t:Z)(i:Int)(s:gP)(r9:Int):List Value:=t::e4 i s r9
section
variable{w:aa} {t:Z} {L:List bT} {l1 i:Nat} {s:gP} {r9:Int}
def alz(b:eF w t L):ak Y 121 [t] w λc a=>O w a/\∃l1,c=ad (J ⟨l1,0,ac⟩)/\w.heap.size<=l1/\ag a l1 (jQ t 0 eZ 0):=by apply abT;rw[bz (S:=jQ t 0 eZ 0) (iR:=[(0,[t])]) aey adT (by rw[uT,uT,b.M.1]) F];refine bd (S:=jQ t 0 eZ 0) F λe j k l f g=>?_;exact⟨f,e,F,G,g⟩
def G4(Q:ag w l1 (jQ t i s r9))(R:eF w t L)(z:L.length<=1000000):ak Y 124 [ad (J ⟨l1,0,ac⟩)] w λc j=>O w j/\
 ((L.length<=i/\c=a1 #[al (cq hD).toArray,ax ao])\/∃a,L[i]? =J a/\c=a1 #[al (cq a).toArray,ax af]):=by
 apply abP;refine bo fP λS f an ap x U=>?_;have A:=Q.h x;have B:=R.h x;rw[fZ Jy,sk,cw];refine bG.y (λC j=>O f j/\∃(h:Nat) (a:bT) (b:Int),C=[ad (J ⟨h,0,ac⟩),I X b]/\ag j h (cq a)/\h≠S/\((L.length<=i/\a=hD/\b=1)\/(L[i]? =J a/\b=0))) ?_ ?_
 ·apply bE.h;have d:O f f.drew:=(O.p f).C;have D:∀(j:aa) (c:Z),((¬(0<=(i:Int)/\(i:Int)<L.length)/\c=a1 #[al (cq hD).toArray,I X 1])\/(0<=(i:Int)/\∃a,L[(i:Int).toNat]? =J a/\c=a1 #[al (cq a).toArray,I X 0]))->O f j->
   ∃(a:bT) (b:Int),c=a1 #[al (cq a).toArray,I X b]/\((L.length<=i/\a=hD/\b=1)\/(L[i]? =J a/\b=0)):=by
   intro j c n _;rcases n with⟨aq,rfl⟩|⟨_,a,H,rfl⟩
   ·exact⟨_,_,F,.inl ⟨G,F,F⟩⟩
   ·rw[Int.toNat_natCast]at H;exact⟨a,0,F,.inr ⟨H,F⟩⟩
  rw[bn,aK (λf l K=>aj Pz) d,dR wU (A.b.f 0 F) d,bn,aK (λf l K=>aj yW) d,aK (λf l K=>aj tL) d,dR E (A.b.f 1 F) d];refine⟨?_,?_⟩
  ·refine(C_ (i:=i) (B.h d) ⟨z⟩).o ?_;rintro c v ⟨k,n⟩;have e:=d.a k;refine⟨e,?_⟩;obtain⟨a,b,rfl,o⟩:=D v c n e;rw[aN,aO];refine bo fP λh V W ah m p=>⟨e.a m,?_⟩;refine aZ fs g p (cS:=cq a) F F ae (fe.B a) λM P q r=>?_;have ai:=e.size;have u:=(e.a m).ab q (by rintro _ ⟨⟩;omega);exact⟨u,u,h,a,b,F,r,G,o⟩
  ·refine bo fP λh V W ah m p=>⟨d.a m,?_⟩;refine(C_ (i:=i) ((B.h d).h m) ⟨z⟩).o ?_;rintro c v ⟨k,n⟩;have e:=(d.a m).a k;refine⟨e,?_⟩;obtain⟨a,b,rfl,o⟩:=D v c n e;rw[aN,aO];have ai:=d.size;refine aZ fs g (p.h k) (cS:=cq a) F F ae (fe.B a) λM P q r=>?_;have u:=e.ab q (by rintro _ ⟨⟩;omega);exact⟨u,u,h,a,b,F,r,G,o⟩
 rintro C y v ⟨k,h,a,b,rfl,p,ar,o⟩;rw[av,bA,av,aF (S:=cq a) lr p.b F,bm];refine aZ fs g (U.h k) (cS:=cq a) F F ae (fe.B a) λM P q r=>?_;rw[aF (S:=cq a) lr r.b F];refine⟨F,(x.a k).ab q (by rintro _ ⟨⟩;omega),?_⟩;rcases o with⟨l,rfl,rfl⟩|⟨l,rfl⟩
 ·exact .inl ⟨l,F⟩
 ·exact .inr ⟨a,l,F⟩
def wi(b:ag w l1 (jQ t i s r9)):ak Y 125 [ad (J ⟨l1,0,ac⟩)] w λc d=>O w d/\c=al (br s).toArray:=by apply abR;refine bo kc λk l m n a e=>?_;rw[fZ Jy,sk,cw,bn,aj yW,aj k0,aF (S:=br s) jN ((b.h a).b.sub 2 6) F];refine aZ k1 g e (cS:=br s) F F ae (kD s) λp q h j=>?_;rw[aF (S:=br s) jN j.b F];exact⟨F,a.ab h (by rintro _ ⟨⟩;omega),F⟩
def Mk(j:ag w l1 (jQ t i (aT (L.take i)) r9))(v:eF w t L)(x:L.length<=1000000)(V:i<=L.length):ak Y 293 [ad (J ⟨l1,0,ac⟩)] w λa y=>O w y/\a=al (br (aT (L.take (i+1)))).toArray:=by
 apply abO;refine bo kc λW ah ai aj k n=>?_;refine(G4 (j.h k) (v.h k) x).o ?_;rintro a am ⟨e,z⟩;have o:=k.a e;have an:=e.size;rcases z with⟨A,rfl⟩|⟨b,B,rfl⟩
 ·rw[aN,aO];refine cj (cS:=cq hD) fP fs g F F (fe.B _) λC f D E c p=>?_;have d:=o.a c;rw[dD,DB,hV];refine(wi (j.h d)).o ?_;rintro a H ⟨h,rfl⟩;refine aZ k1 g (((n.h e).h c).h h) (cS:=br (aT (L.take i))) F F ae (kD _) λK ap M P=>?_;rw[aF (S:=br (aT (L.take i))) jN P.b F];refine⟨F,(d.a h).ab M (by rintro _ ⟨⟩;omega),?_⟩;rw[d_ A,d_ G]
 ·rw[aN,aO];refine cj (cS:=cq b) fP fs g F F (fe.B _) λC f D E c p=>?_;have d:=o.a c;rw[dD,HU,cw];apply bE.h;have m:O f f.drew:=(O.p f).C;rw[gX (S:=cq b) lr p.b F m];refine(wi ((j.h d).h m)).o ?_;rintro a H ⟨h,rfl⟩;have r:=m.a h;refine⟨r,?_⟩;refine(zH b).o ?_;rintro a K ⟨Q,rfl⟩;refine(tU (qu.B (L:=L.take i) (by rw[bt];omega) b)).o ?_;rintro a aq ⟨R,rfl⟩;have u:=(r.a Q).a R;refine aZ k1 g (((n.h e).h c).h u) (cS:=br (eM (aT (L.take i)) (fY b))) F F ae (kD _) λar au S U=>?_;rw[aF (S:=br (eM (aT (L.take i)) (fY b))) jN U.b F];refine⟨F,(d.a u).ab S (by rintro _ ⟨⟩;omega),?_⟩;rw[gp B,qP]
def VI(c:ag w l1 (jQ t i (aT (L.take i)) r9))(j:eF w t L)(k:L.length<=1000000)(n:i<=L.length):ak Y 291 [ad (J ⟨l1,0,ac⟩)] w λa d=>
 (i=L.length/\O w d/\a=ax ao)\/(i<L.length/\w.grownBy d (J l1)/\a=ax af/\ag d l1 (jQ t (i+1:Nat) (aT (L.take (i+1))) r9)):=by
 apply abQ;refine(G4 c j k).o ?_;rintro a K ⟨l,o⟩;rcases o with⟨M,rfl⟩|⟨p,q,rfl⟩
 ·rw[aN,aO];refine cj (cS:=cq hD) fP fs g F F (fe.B _) λr u v x f y=>?_;rw[dD,DB,hV];exact .inl ⟨G,l.a f,F⟩
 ·have z:=(dS.1 q).1;rw[aN,aO];refine cj (cS:=cq p) fP fs g F F (fe.B _) λr u v x f y=>?_;have h:=l.a f;rw[dD,HU,cw];refine(Mk (c.h h) (j.h h) k n).o ?_;rintro a P ⟨A,rfl⟩;have m:=h.a A;rw[bn,aj yW,aj k0];refine aZ k1 g (c.h m) (cS:=br (aT (L.take (i+1)))) F F (by simp[jQ,e4,br]) (kD _) λB Q C b=>?_;have b:ag B l1 (jQ t i (aT (L.take (i+1))) r9):=b;rw[bn,aj yW,aj tL,aM E (b.b.f 1 F),aD,bn,aj yW,aj tL];refine aZ bw g b (cS:=[I X ((i+1:Nat):Int)]) (by simp;rfl) F (by simp[jQ,e4,br]) (by simp;rfl) λR S D H=>?_;exact .inr ⟨z,eN (eN (eb m _) C) D,F,H⟩
def VO{bx v aJ:Int}(h:ag w l1 (jQ t i s r9))(n:eF w t L)(o:∀p∈L,fz p)(q:L.length<=1000000):ak Y 123 [ad (J ⟨l1,0,ac⟩),I X bx,I X v,I X aJ] w λc d=>
 (¬ij L bx v aJ/\O w d/\c=I X 1)\/(ij L bx v aJ/\w.grownBy d (J l1)/\c=I X 0/\∃a b:Nat,ha L bx v aJ a/\ag d l1 (jQ t a (aT (L.take a)) b)):=by
 apply abS;obtain⟨H,r⟩:=n.cI;rw[fZ Jy,sk,cw,bn,aj Pz,aM wU (h.b.f 0 F)];refine(MN (bx:=bx) (v:=v) (aJ:=aJ) r o q).o ?_;rintro c E ⟨j,u⟩;rcases u with⟨e,rfl⟩|⟨e,a,b,x,G,rfl⟩
 ·rw[aN,aO];refine cj (cS:=e4 0 eZ 0) ml mj g F F (mq _ _ _) λy z A B f l=>?_;rw[bm,du g];exact .inl ⟨e,j.a f,F⟩
 ·rw[aN,aO];refine cj (cS:=e4 a (aT (L.take a)) b) ml mj g F F (mq _ _ _) λy z A B f l=>?_;have m:=j.a f;rw[bm,h4 F,aF (S:=e4 a (aT (L.take a)) b) yE l.b F,bn,aj yW];refine aZ mj g (h.h m) (cS:=e4 a (aT (L.take a)) b) F F (by simp[jQ,e4,br]) (mq _ _ _) λM P C D=>?_;exact .inr ⟨e,eN (eb m _) C,F,a,b,x,D⟩
def VV{L:List bT}{a:Nat}(b:a<=L.length):fp L 3 a=a:=by unfold fp qe;rw[au F,pZ,bt];omega
def ahh{L:List bT}{n b:Nat}(a:n<=L.length)(c:ha L 3 n 1 b):b=n:=by
 refine c.b8 ⟨a,λe f=>?_,λg=>?_⟩
 ·rw[VV G];intro d;rcases d with a|⟨a,_⟩<;>omega
 ·rw[VV G];exact .inl G
def afu{L:List bT}{n:Nat}(a:n<=L.length):ij L 3 n 1:=by refine⟨G,G,G,?_,.inr F⟩;unfold qe;rw[au F,pZ];omega
end
end
section
open Go.Lift Go.RowKit Go.bW
variable{P:bq}{w:aa}{K:aU}
variable{x e t c:cv}{d:Addr}{n:Nat}
def ak8(g:P.underlying x=J (.pointer t))(hd:P.underlying e=J .unsafePointer)(a:(P.info? t).map (λb=>decide (b.size=0))=J ao)(h:w.shape? d.block=J (c,n))(i:d.off<n)
 (j:K (ad (J d)) w):nW P x e (ad (J d)) w K:=by
 cases f:P.info? t with
 |none=>rw[f]at a;cases a
 |some b=>
  rw[f]at a;have k:b.size≠0:=by simpa using a
  unfold nW bM;rw[Lib.run_to_unsafe w d g hd f k h i];exact j
def ak6(a:P.underlying x=J .unsafePointer)(hd:P.underlying e=J (.pointer t))(b:(P.info? t).isSome=af)(f:w.shape? d.block=J (c,n))(g:liesAt P P.depth c (n/P.cellsOf c) d.off t 1=af)
 (h:K (ad (J d)) w):nW P x e (ad (J d)) w K:=by
 obtain⟨j,i⟩:=Dv.1 b;unfold nW bM;rw[Lib.run_from_unsafe w d a hd i f g];exact h
def ak2{x:Addr}{T:cv}(a:P.underlying T=J (.pointer t))(b:(P.info? t).isSome=af)(c:K (ax ao) w):b7 P .neq T ao ao (ad (J x)) (ad (J x)) w K:=by
 obtain⟨f,d⟩:=Dv.1 b;have e:(eqGuard .neq T (.tmp 0) (.tmp 0) (ad (J x)) (ad (J x))).run P w= .ok () w:=by simp[eqGuard]
 unfold b7 bM;rw[fN];simp only [cond_false];rw[e,jI,Lib.run_neq_ptr_same w x a d];exact c
abbrev bQ:Nat:=475
abbrev vo:Nat:=5
def py(w:aa)(a b:Nat)(l:List UInt8):Prop:=XH bQ vo a b (so l) w
variable{v:Z}
def sI{w:aa}{l:List UInt8}:w.ownsRow n vo 1 v (so l).length (so l)↔fH w n vo 1 v iw l:=by
 have a:so l=l.flatMap iw:=by unfold so;rw[List.map_eq_flatMap]
 have b:(so l).length=l.length:=an3 l;unfold fH;rw[b,a]
def py.ab{w a:aa}{B b c:Nat}{l:List UInt8}(h:py w B b l)(g:w.grownBy a (J c))(o:c<B):py a B b l:=by
 have d:∀p,Ii bQ vo B b p (so l) w->Ii bQ vo B b p (so l) a:=by
  rintro p ⟨j,v,f,i,k⟩;have m:b<w.heap.size:=(iz.1 f).1;refine⟨j,v,(g.block b m (by intro e;cases e;omega)).trans f,sI.2 ((sI.1 i).ab g ?_),k⟩;cases n:v.ownBlock with
  |none=>exact .inl F
  |some q=>exact .inr (by intro e;cases e;have:=(sI.1 i).D c n;omega)
 exact h.elim (λx=> .inl (d _ x)) (λx=> .inr (d _ x))
def py.h{w a:aa}{B b:Nat}{l:List UInt8}(h:py w B b l)(e:O w a):py a B b l:=by
 have c:∀p,Ii bQ vo B b p (so l) w->Ii bQ vo B b p (so l) a:=by rintro p ⟨f,v,d,g,i⟩;have j:b<w.heap.size:=(iz.1 d).1;exact⟨f,v,(e.block b j).trans d,sI.2 ((sI.1 g).h e),i⟩
 exact h.elim (λx=> .inl (c _ x)) (λx=> .inr (c _ x))
variable{k:Nat}{x:List UInt8}
def agc{w:aa}(a:py w n k x):ak Y 345 [ad (J ⟨k,0,ac⟩)] w λo f=>o=a1 #[]/\qN k w f/\Ii bQ vo n k (ad (J ⟨k,0,ac⟩)) (so x) f:=by
 apply acz;rcases a with a|a
 ·have h:=a.shape;obtain⟨i,b,c,j,e⟩:=a;have d:ag w k [ad ac,b]:=⟨bQ,c⟩;rw[bn,aj ED,aM I4 (d.b.f 0 F),fZ P5,Xm,hV];refine ak8 (t:=bQ) D D D h (Nat.zero_lt_succ 1) ?_;apply S.afe.ed;refine ak6 (t:=bQ) D D D h D ?_;rw[bn,aj ED];refine gh (cS:=[ad (J ⟨k,0,ac⟩)]) (S:=[ad ac,b]) aem g c F F ae (by simp;rfl) λt u m p=>?_;refine⟨F,m,i,b,p,sI.2 ((sI.1 j).ab m ?_),e⟩;exact .inr e
 ·have q:=a;obtain⟨i,b,c,j,e⟩:=a;have d:ag w k [ad (J ⟨k,0,ac⟩),b]:=⟨bQ,c⟩;rw[bn,aj ED,aM I4 (d.b.f 0 F),fZ P5,sk,cw,bn,aj ED,aM I4 (d.b.f 0 F)];refine ak2 (t:=bQ) D D ?_;rw[cw];exact⟨F,vF _ _,q⟩
def afU{w:aa}{l:List UInt8}(v:py w n k l)(H:n<=w.heap.size)(L:l.length+x.length<=100000000):ak Y 290 [ad (J ⟨k,0,ac⟩),co x] w λ_ q=>oH n w q/\py q n k (l++x):=by
 apply acy;refine(agc v).o ?_;rintro M i ⟨rfl,d,y,j,m,f,z⟩;have r:ag i k [ad (J ⟨k,0,ac⟩),j]:=⟨bQ,m⟩;rw[bn,aj PF,aM acZ (r.b.f 1 F)];have f:=sI.1 f;have O:=d.size;refine U8 yH gy y1 y4 V8 O3 f G G λo s h b=>?_;have A:k<i.heap.size:=(iz.1 m).1;have t:s.heap[k]? =J (.cells ([ad (J ⟨k,0,ac⟩),j]:List Z).toArray bQ (0,0)):=(b.block k A (by intro a;exact z a.symm)).trans m;have u:o.ownBlock≠J k:=by intro a;obtain⟨_,Q,p⟩:=h.row.de a;rw[t]at p;simp only [kP,Obj.cells.injEq]at p;exact aL p.2.1 g
 rw[bn,aj PF];refine gh (cS:=[o]) (S:=[ad (J ⟨k,0,ac⟩),j]) aek g t h.M.1 F ae (by simp;exact h.M.2) λU V e B=>?_;rw[mA gy];have C:=h.ab e (.inr u);refine⟨?_,.inr ⟨y,o,B,sI.2 C,u⟩⟩;refine⟨e.os.trans (b.os.trans d.os),e.tape.trans (b.tape.trans d.tape),e.output.trans (b.output.trans d.output),by have:=b.size;omega,λc r=>?_⟩;have D:c<i.heap.size:=G;have E:c<s.heap.size:=by have:=b.size;omega
 rw[e.block c E (by intro a;cases a;omega),b.block c D (by intro a;have:=f.D c a.symm;omega),d.block c G (by intro a;cases a;omega)]
variable{i:Nat}
def QO{w:aa}{l:List UInt8}(b:py w k i l):ak Y S.MB.n [ad (J ⟨i,0,ac⟩)] w λc d=>d=w/\c=I X l.length:=
 S.MB.bJ (Tryz.eg k i _ w b) λ_ _ a=>⟨_,a.1,a.2,by rw[an3]⟩
def afT{w:aa}{l:List UInt8}(b:py w k i l)(c:k<=w.heap.size):ak Y S.MC.n [ad (J ⟨i,0,ac⟩)] w λd e=>oH k w e/\d=co l:=
 S.MC.bJ (Tryz.eh k i l w b c) λ_ _ a=>⟨_,a.1,a.2,F⟩
def nc:Nat->List Int->List (List Int)
 |0,_=>[]
 |b+1,a=>a.take (a.length/(b+1))::nc b (a.drop (a.length/(b+1)))
def Kc:∀(a:Nat) (b:List Int),(nc a b).length=a
 |0,_=>F
 |a+1,b=>by rw[nc,d1,Kc a]
def Rw:∀(b:Nat) (c:List Int),(0<b\/c=[])->(nc b c).flatten=c
 |0,c,a=>by rcases a with a|a;omega;rw[a];rfl
 |b+1,c,_=>by
  rw[nc,yg];rw[Rw b _ (by
   rcases nz b with rfl|a
   ·right;simp
   ·exact .inl a)]
  exact fi _ _
def Kd(aw:Nat):∀(a:Nat) (b:List Int),aw*a<=b.length->b.length<=16*a->∀f∈nc a b,aw<=f.length/\f.length<=16
 |0,_,_,_,f,e=>by simp[nc]at e
 |a+1,b,n,o,f,e=>by
  have i:(a+1)*(b.length/(a+1))+b.length%(a+1)=b.length:=qn ..;have p:b.length%(a+1)<a+1:=se _ G;generalize g:b.length/(a+1)=c at*;generalize b.length%(a+1)=j at*;have q:c<=b.length:=by rw[<-g];exact an5 _ _
  have r:a*c+c+j=b.length:=by rw[<-i,jb,Dm]
  have k:aw<=c:=by
   rcases fx c aw with d|d
   ·exfalso;have h:a*c<=a*(aw-1):=NT a G;have s:a*(aw-1)+a=a*aw:=by rw[<-Nat.mul_succ];congr 1;omega
    have l:aw*(a+1)=a*aw+aw:=by rw[NS,Dx,n4]
    omega
   ·exact d
  have t:c<=16:=by
   rcases fx 16 c with d|d
   ·exfalso;have h:a*17<=a*c:=NT a d;omega
   ·exact d
  rw[nc,g]at e;rcases df.1 e with rfl|e
  ·rw[bt];omega
  ·refine Kd aw a (b.drop c) ?_ ?_ f e
   ·rw[cO];have l:aw*(a+1)=aw*a+aw:=by rw[NS,Dx]
    have m:a*aw<=a*c:=NT a k;rw[n4 a aw]at m;omega
   ·rw[cO];rcases fx 15 c with d|d
    ·omega
    ·have h:a*c<=a*15:=NT a d;omega
def no(l:List Int):List (List Int):=nc ((l.length+15)/16) l
def Gq(l:List Int):(no l).flatten=l:=by
 refine Rw _ _ ?_;cases l with
 |nil=>exact .inr F
 |cons a b=>left;rw[d1];omega
structure wP (p:List Int):Prop where
 az:∀r∈p,dP r
 cN:1<=p.length
 dU:p.length<=16
def Gs{l:List Int}(e:∀b∈l,dP b):∀a∈no l,wP a:=λa c=>by have d:=Kd 1 _ l G G a c;refine⟨λb f=>e b ?_,d.1,d.2⟩;rw[<-Gq l];exact an4.2 ⟨a,c,f⟩
variable{x:List Int}
def T5(c:8<=x.length):∀a∈no x,8<=a.length:=λa b=>(Kd 8 _ x G G a b).1
def Gr(l:List Int):(no l).length=(l.length+15)/16:=Kc _ _
def ahS(a:wP x):fz (dL x):=by have b:=kN x;have c:=xM x;have d:=a.dU;exact⟨⟨by simp only [dL];omega,by simp only [dL];omega⟩,⟨by simp only [dL];omega,by simp only [dL];omega⟩,⟨by simp only [dL];omega,by simp only [dL];omega⟩,⟨by simp[dL],by simp[dL]⟩⟩
variable{x:List (List Int)}
def BV(c:∀a∈x,wP a):∀b∈x.map dL,fz b:=λb d=>by obtain⟨a,e,rfl⟩:=eP.1 d;exact ahS (c a e)
def fD(a:List (List Int)):gP:=⟨a.length,(a8 a.flatten).length,a.flatten.length,cK a.flatten,0,0⟩
def MF{a:List (List Int)}(d:∀c∈a,wP c)(e:a.length<=1000000):∀b,b<=a.length->aT ((a.map dL).take b)=fD (a.take b)
 |0,_=>F
 |b+1,h=>by obtain⟨c,f⟩:∃c,a[b]? =J c:=⟨_,aX G⟩;obtain⟨g,_⟩:=afo (BV d) (by rw[b_];exact e) (show(a.map dL)[b]? =J (dL c) by rw[h5,f];rfl);rw[g,MF d e b G,gp f];unfold fD;simp only [dL,sq,yg,Ij,cT,kM,sZ,bf,bt,oK];apply gP.h<;>simp<;>omega
def al4(a:∀b∈x,wP b)(c:x.length<=1000000):aT (x.map dL)=fD x:=by have:=MF a c x.length (a6 _);rwa[cI,d_ (by rw[b_];exact a6 _)]at this
def Rx{w:aa}{l:List Int}(C:hJ w)(q:aC w v 1 gI l)(ap:l.length<=1000000):ak Y 98 [v] w λr s=>O w s/\ar s w.heap.size 159 7 r cq ((no l).map dL):=by
 apply abM;have aq:e0=9223372036854775807:=rfl;rw[aS di q,aD,cd,CS _ _ G G G];have D:((l.length:Int)+16-1)/16=((l.length+15)/16:Nat):=G;rw[D];refine ba.y (λi j=>O w j/\∃(d:Nat) (c o:Z) (a:List Int) (h:List (List Int)),i=[o,c,I X d]/\aC w c 1 gI a/\a.length<=l.length/\ar j w.heap.size 159 7 o cq (h.map dL)/\no l=h++nc d a)
  (λi _=>match i with|[_,_,I _ E]=>E.toNat|_=>0) ⟨O.p w,_,v,_,l,[],F,q,a6 _,ar.nil _ _ _ _ _,F⟩ ?_
 rintro i au j ⟨k,d,c,o,a,h,rfl,e,ay,p,m⟩;have t:=e;have e:=e.h k;have az:h.length+d=(l.length+15)/16:=by have:=ck gB m;rw[Gr,bf,Kc]at this;omega
 rw[av,bA,av,bA,av,cb,ai];refine⟨λa0=>?_,λa2=>?_⟩
 ·obtain⟨f,rfl⟩:∃f,d=f+1:=⟨d-1,G⟩;have H:(a.length:Int)/((f+1:Nat):Int)=((a.length/(f+1):Nat):Int):=by rw[Int.natCast_ediv]
  have n:a.length/(f+1)<=a.length:=an5 _ _;have a3:=lf e;rw[aS di e,CS _ _ G G G,H];generalize L:a.length/(f+1)=b at*;rw[oA (bD:=b) di gm G e F n];have M:aC j (dp c 1 0 b (cC c)) 1 gI (a.take b):=by simpa using e.ag (aw:=0) (bD:=b) (ds:=cC c) G n G (a6 _)
  refine(ajL (C.h k) M (by rw[bt];omega)).o ?_;rintro r a4 ⟨x,rfl⟩;refine f0 (n:=1) (V:=cq) (L:=[dL (a.take b)]) (iR:=[(0,cq (dL (a.take b)))]) h9 fs F fP g g fe F F λa8 a9 aA R y aB=>?_;have z:=(k.a x).a y;refine jC h9 fs g fP F fe ((p.h x).h y) z.size (R.aI fe) (by simp;omega) (by rw[wT];simp;omega) λS A U W _=>?_;have B:O w A:=z.ab W λah aj=>(p.D ah aj).1;have am:aC A c 1 gI a:=t.h B;rw[pe (aw:=b) di gm G am F n,cd];have an:aC w (dp c 1 b a.length (cC c)) 1 gI (a.drop b):=by simpa using t.ag (aw:=b) (bD:=a.length) (ds:=cC c) n G G (a6 _)
  refine⟨⟨B,f,_,S,a.drop b,h++[a.take b],ae,an,by rw[cO];omega,by rw[dJ];exact U,?_⟩,by simp only [];omega⟩;rw[m,nc,L,cX]
  rfl
 ·obtain rfl:d=0:=G;rw[nc,cT]at m;rw[m];exact⟨k,p⟩
def gF(w:aa)(v:Z)(a:List (List Int)):Prop:=(v=ad ac/\a=[])\/∃b c,v=ad (J ⟨b,0,ac⟩)/\ag w b [c]/\eF w c (a.map dL)
def gF.h{w a:aa}{v:Z}{c:List (List Int)}(h:gF w v c)(e:O w a):gF a v c:=by
 rcases h with h|⟨b,d,f,g,i⟩
 ·exact .inl h
 ·exact .inr ⟨b,d,f,g.h e,i.h e⟩
structure fO (j:List (List Int)):Prop where
 az:∀p∈j,wP p
 dU:j.flatten.length<=20000
def xw(b:∀a∈x,wP a):x.length<=x.flatten.length:=by
 induction x with
 |nil=>simp
 |cons a e ih=>have f:=(b a (dv ..)).cN;have g:=ih λc d=>b c (ey _ d);rw[yg,bf,d1];omega
def fO.z(h:fO x):x.length<=20000:=eQ (xw h.az) h.dU
def fO.bY(b:fO x):∀a∈x.flatten,dP a:=λa c=>by obtain⟨d,e,f⟩:=an4.1 c;exact(b.az d e).az a f
def fO.ce(a:fO x):aT (x.map dL)=fD x:=al4 a.az (by have:=a.z;omega)
def fO.bh(a:fO x)(b:i<=x.length):aT ((x.map dL).take i)=fD (x.take i):=MF a.az (by have:=a.z;omega) i b
def fO.bl(h:fO x):(x.map dL).length<=1000000:=by have:=h.z;rw[b_];omega
def akN{w:aa}(a:gF w v x):ak Y 122 [v] w λb c=>c=w/\eF w b (x.map dL):=by
 apply OR;rcases a with⟨rfl,rfl⟩|⟨f,g,rfl,d,e⟩
 ·rw[fZ EG,Xm,hV];exact⟨F,eF.nil w⟩
 ·rw[fZ EG,sk,cw,bn,aj Py,aM wU (d.U F)];exact⟨F,e⟩
def L1{a w:aa}(b:gF a v x)(c:O a w):ak Y 122 [v] w λd e=>e=w/\eF a d (x.map dL):=by
 apply OR;rcases b with⟨rfl,rfl⟩|⟨h,i,rfl,f,g⟩
 ·rw[fZ EG,Xm,hV];exact⟨F,eF.nil a⟩
 ·rw[fZ EG,sk,cw,bn,aj Py,aM wU ((f.h c).U F)];exact⟨F,g⟩
variable{t:Int}
def UX{w:aa}(e:gF w v x)(f:fO x)(i:0<=t)(j:t<=2):ak Y 103 [v,I X t] w λb g=>O w g/\b=I X (qe (fD x) t):=by
 apply abL;refine(akN e).o ?_;rintro k l ⟨rfl,h⟩;refine(uJ h).o ?_;rintro b m ⟨a,rfl⟩;rw[f.ce,uy (n:=3) yI u6];unfold qe;rcases(by omega:t=0\/t=1\/t=2)with rfl|rfl|rfl
 ·rw[uz (i:=0) (z:=0) (v:=I X (fD x).bH) eT E bw G F F];exact⟨a,F⟩
 ·rw[uz (i:=1) (z:=1) (v:=I X (fD x).dC) eT E bw G F F];exact⟨a,F⟩
 ·rw[uz (i:=2) (z:=2) (v:=I X (fD x).dY) eT E bw G F F];exact⟨a,F⟩
def aj7{w:aa}(c:gF w v x)(d:fO x):ak Y 65 [v] w λa b=>O w b/\a=I X (a8 x.flatten).length:=by apply abE;exact(UX c d g g).o λa b e=>e
def kK{w:aa}(h:gF w v x)(c:fO x):ak Y 55 [v] w λa b=>O w b/\a=I X x.flatten.length:=by apply abH;exact(UX h c g g).o λa b d=>d
def akx{x:List UInt8}{w:aa}(i:hJ w)(C:x.length<=1000000):ak Y 53 [co x] w λb e=>O w e/\
 ((20000<(bY x).length/\b=a1 #[ad ac,I X 5])\/((bY x).length<=20000/\∃a,b=a1 #[ad (J ⟨a,0,ac⟩),I X 0]/\gF e (ad (J ⟨a,0,ac⟩)) (no (bY x)))):=by
 apply abz;refine(x9 x G).o ?_;rintro D E ⟨c,j⟩;have f:=j.aI ix;have H:=nr x;rw[aS di f,cb,ai];refine⟨λd=>⟨c,.inl ⟨G,F⟩⟩,λd=>?_⟩;refine(Rx (i.h c) f G).o ?_;rintro L M ⟨k,l⟩;have m:=c.a k;have n:=Gs (wb x);refine(xL (l.aI fe)).o ?_;rintro b o ⟨p,q⟩;have r:=m.a p;rcases q with⟨s,_⟩|⟨_,t,_⟩|⟨_,_,a,u,rfl,v,y⟩
 ·rw[b_,Gr]at s;omega
 ·exact aL (BV n) t
 ·rw[aN,aO,bs,bu];refine⟨λd=>aL F d,λ_=>?_⟩;have z:eF o (ad (J ⟨a,0,ac⟩)) ((no (bY x)).map dL):= .inr ⟨a,u,F,v,y⟩;rw[bz (S:=[ad (J ⟨a,0,ac⟩)]) (iR:=[(0,[ad (J ⟨a,0,ac⟩)])]) Qo PV F F];refine bd (S:=[ad (J ⟨a,0,ac⟩)]) F λg R S U h B=>?_;exact⟨r.a h,.inr ⟨G,g,F,.inr ⟨g,_,F,B,z.h h⟩⟩⟩
def gf(a:gP)(c:bT)(b:Int):List Value:=br a++(cq c++[I X b])
def ms(d:gP)(e:bT)(b:Int):∀c∈gf d e b,c.oneCell' =true:=λc f=>by
 rcases b9.1 f with a|a
 ·exact kD d c a
 ·rcases b9.1 a with a|a
  ·exact fe.B e c a
  ·simp at a;subst a;rfl
def b5(a:List (List Int))(n:Nat):List Int:=(a[n]?).getD []
variable{bx C:Int}
def CK{x:aa}{e:List (List Int)}{aJ:Int}(f:gF x v e)(m:fO e):ak Y 64 [v,I X bx,I X C,I X aJ] x λc o=>O x o/\
 ((¬ij (e.map dL) bx C aJ/\c=a1 #[al (gf eZ hD 0).toArray,ad ac,I X 1])\/
  (ij (e.map dL) bx C aJ/\∃(n h w:Nat) (p:Z),ha (e.map dL) bx C aJ n/\n<=e.length/\c=a1 #[al (gf (fD (e.take n)) (dL (b5 e n)) 0).toArray,ad (J ⟨h,0,ac⟩),I X 0]/\x.heap.size<=h/\ag o h (jQ p n (fD (e.take n)) w)/\eF x p (e.map dL))):=by
 apply abJ;refine bo l0 λq E aB aC i H=>?_;refine(L1 f i).o ?_;rintro p ai ⟨rfl,K⟩;have y:=K.h i;refine(alz y).o ?_;rintro aD aE ⟨d,h,rfl,aG,aj⟩;have am:=i.a d;have aH:=i.size;refine(VO (bx:=bx) (v:=C) (aJ:=aJ) aj (y.h d) (BV m.az) m.bl).o ?_;rintro c z A;rcases A with⟨an,j,rfl⟩|⟨ap,L,rfl,n,w,M,k⟩
 ·rw[bs,bu];refine⟨λ_=>?_,λf=>aL f g⟩;rw[bz (S:=gf eZ hD 0) (iR:=[]) l0 Jx F F];refine aZ mi g ((H.h d).h j) (cS:=gf eZ hD 0) F F ae (ms _ _ _) λau aI av aw=>?_;rw[aF (S:=gf eZ hD 0) A_ aw.b F];exact⟨F,(am.a j).ab av (by rintro _ ⟨⟩;omega),.inl ⟨an,F⟩⟩
 ·rw[bs,bu];refine⟨λf=>aL F f,λ_=>?_⟩;have aK:=d.size;have P:n<=e.length:=by have:=M.dU;rwa[b_]at this
  have j:O ai z:=d.ab L (by rintro _ ⟨⟩;omega);have ay:O x z:=i.a j;have a0:=y.h j;rw[m.bh P]at k;have Q:ag z q _:=(H.h d).ab L (by intro l;cases l;omega);refine(G4 k a0 m.bl).o ?_;rintro c au ⟨R,A⟩;obtain⟨a,S,s,rfl⟩:∃(a:bT) (S:Bool),a=dL (b5 e n)/\c=a1 #[al (cq a).toArray,ax S]:=by
   rcases A with⟨U,rfl⟩|⟨a,s,rfl⟩
   ·refine⟨_,_,?_,F⟩;rw[b_]at U;unfold b5;rw[j2 U]
    rfl
   ·refine⟨a,_,?_,F⟩;rw[h5]at s;obtain⟨aM,a2,rfl⟩:=sg.1 s;unfold b5;rw[a2]
    rfl
  rw[aN,aO];refine cj fP fs g F F (fe.B a) λaP b aR aS a3 a4=>?_;have t:=R.a a3;have aT:=R.size;have aU:=Q.D;have aV:=k.D;have V:qN q b b.drew:=jz b _;refine bE.y (λo=>qN q b o) V ?_;rw[bh (λE W a5=>aF (S:=cq a) lr (a4.b.ab W (by intro l;cases l;omega)) F) V];refine(wi ((k.h t).h (O.p b).C)).o ?_;rintro c ah ⟨u,rfl⟩;have B:qN q b ah:=eb ((O.p b).C.a u) _;refine⟨B,?_⟩;rw[bh (λE W a5=>bz (S:=gf (fD (e.take n)) a 0) (iR:=[(0,br (fD (e.take n))),(1,cq a)]) l0 Jx F F) B];refine aZ mi g ((Q.h t).h ((O.p b).C.a u)) (cS:=gf (fD (e.take n)) a 0) F F ae (ms _ _ _) λa7 aW D a8=>?_;refine⟨eN B D,?_⟩;rw[aF (S:=gf (fD (e.take n)) a 0) A_ a8.b F];have a9:O x ah:=(ay.a t).a ((O.p b).C.a u);have aA:O x a7:=a9.ab D (by rintro _ ⟨⟩;omega);refine⟨F,aA,.inr ⟨ap,n,h,w,p,M,P,by rw[s],G,?_,K⟩⟩;exact((k.h t).h ((O.p b).C.a u)).ab D (by intro l;cases l;omega)
def Hn{x:List Int}(d:∀t∈x,dP t)(a:x[n]? =J t):cF ((a8 x).drop (a8 (x.take n)).length)=(t.toNat,bk t)/\(a8 (x.take (n+1))).length=(a8 (x.take n)).length+bk t/\(a8 (x.take n)).length<(a8 x).length:=by
 have e:=(dS.1 a).1;have b:x=x.take n++(t::x.drop (n+1)):=by
  have:x.drop n=t::x.drop (n+1):=by rw[Dw e];congr 1;exact(dS.1 a).2
  rw[<-this,fi]
 have f:=sP t;refine⟨?_,?_,?_⟩
 ·have c:a8 x=a8 (x.take n)++(V t++a8 (x.drop (n+1))):=by
   conv=>lhs;rw[b]
   rw[kM,r7]
  rw[c,uQ];exact Kg (d t (cl a)) _
 ·rw[gp a,kM,bf];unfold bk;rw[r7,uK,cT]
 ·have c:(a8 x).length=(a8 (x.take n)).length+(bk t+(a8 (x.drop (n+1))).length):=by
   conv=>lhs;rw[b]
   rw[kM,r7,bf,bf];rfl
  omega
structure yz (j:List (List Int)) (C:Int) (n k:Nat):Prop where
 dU:n<=j.length
 b0:C=(j.take n).flatten.length+k
 oz:k<=(b5 j n).length
 D:n<j.length->k<(b5 j n).length
def zO{e:List Int}(a:x[n]? =J e):b5 x n=e:=by unfold b5;rw[a];rfl
def ajv:b5 x x.length=[]:=by unfold b5;rw[j2 (a6 _)];rfl
def zN(c:fO x)(b:Nat):∀d∈b5 x b,dP d:=by
 cases a:x[b]? with
 |none=>unfold b5;rw[a];simp
 |some e=>rw[zO a];exact(c.az e (cl a)).az
def zM(c:fO x)(b:Nat):(b5 x b).length<=16:=by
 cases a:x[b]? with
 |none=>unfold b5;rw[a];simp
 |some d=>rw[zO a];exact(c.az d (cl a)).dU
def vD(c:n<=x.length):x.flatten=(x.take n).flatten++(b5 x n++(x.drop (n+1)).flatten):=by
 rcases fx n x.length with a|d
 ·have b:x[n]? =J x[n]:=aX a;rw[zO b,<-yg,<-sq,<-Dw a,fi]
 ·obtain rfl:n=x.length:=G;rw[ajv,cI,tu G];simp
def yz.aQ(h:yz x t n k):0<=t/\t<=x.flatten.length/\x.flatten.take t.toNat=(x.take n).flatten++(b5 x n).take k/\(x.flatten[t.toNat]? =(b5 x n)[k]?):=by
 have f:=h.b0;have a:=vD h.dU;have c:=ck gB a;rw[bf,bf]at c;have d:=h.oz;have b:t.toNat=(x.take n).flatten.length+k:=G;refine⟨G,G,?_,?_⟩
 ·rw[b]
  conv=>lhs;rw[a]
  rw[Dr,nx d]
 ·rw[b]
  conv=>lhs;rw[a]
  rw[oI (Nat.le_add_right _ _),wD];rcases fx n x.length with e|g
  ·exact wA (h.D e)
  ·obtain rfl:n=x.length:=by have:=h.dU;omega
   rw[tu G,Ij,cT]
def Si(h:fO x)(i:0<=C)(o:C<=x.flatten.length)(c:ha (x.map dL) 1 C 1 n)(d:n<=x.length):∃j,yz x C n j:=by
 have e:∀a,a<=x.length->fp (x.map dL) 1 a=(x.take a).flatten.length:=λa k=>by unfold fp;rw[h.bh k];rfl
 have l:((x.take n).flatten.length:Int)<=C:=by
  rcases nz n with rfl|m
  ·simpa using i
  ·have:=c.dh (n-1) G;rw[DA m,e n d]at this;unfold iE at this;omega
 rcases fx n x.length with f|p
 ·have g:x[n]? =J x[n]:=aX f;have b:=c.Ar (by rw[b_];exact f);rw[e (n+1) G,gp g,sq,bf]at b;rw[<-zO g]at b;simp only [yg,Ij,cT]at b;unfold iE at b;exact⟨(C-(x.take n).flatten.length).toNat,d,G,G,λ_=>G⟩
 ·obtain rfl:n=x.length:=G;rw[cI]at l;exact⟨0,a6 _,by rw[cI];omega,G,λq=>G⟩
def y_{aJ:Int}(c:fO x)(d:aJ=0\/aJ=1):ij (x.map dL) 1 C aJ↔0<=C/\C<=x.flatten.length:=by
 unfold ij;rw[c.ce];have e:qe (fD x) 1=x.flatten.length:=rfl;rw[e];constructor
 ·rintro⟨_,_,a,b,_⟩;exact⟨a,b⟩
 ·rintro⟨a,b⟩;exact⟨g,g,a,b,d⟩
variable{e:List (List Int)}
def L0{x:aa}(d:gF x v e)(f:fO e):ak Y 118 [v,I X C] x λD l=>O x l/\
 ((¬(0<=C/\C<=e.flatten.length)/\D=a1 #[al (gf eZ hD 0).toArray,I X 1])\/∃a c:Nat,yz e C a c/\D=a1 #[al (gf (fD (e.take a)) (dL (b5 e a)) (a8 ((b5 e a).take c)).length).toArray,I X 0]):=by
 apply abK;refine bo l0 λq aV aW aY H r=>?_;refine(CK (bx:=1) (C:=C) (aJ:=1) (d.h H) f).o ?_;rintro D bd ⟨s,ar⟩;have R:=H.a s;have be:=H.size;have bg:=s.size;rcases ar with⟨au,rfl⟩|⟨aw,a,bh,bi,bj,ay,S,rfl,_,_,_⟩
 ·rw[aN,aO,pc];refine cj (cS:=gf eZ hD 0) l0 mi g F F (ms _ _ _) λm az a0 a2 n t=>?_;rw[bs,bu];refine⟨λ_=>?_,λd=>aL d g⟩;rw[bz (S:=gf eZ hD 0) (iR:=[]) l0 Jx F F];refine aZ mi g ((r.h s).h n) (cS:=gf eZ hD 0) F F ae (ms _ _ _) λu a3 w r=>?_;rw[aF (S:=gf eZ hD 0) A_ r.b F];exact⟨F,(R.a n).ab w (by rintro _ ⟨⟩;omega),.inl ⟨λd=>au ((y_ f (.inr F)).2 d),F⟩⟩
 ·obtain⟨a4,a5⟩:=(y_ f (.inr F)).1 aw;obtain⟨c,L⟩:=Si f a4 a5 ay S;have bl:=zM f a;have a7:=zN f a;have bn:=kN (b5 e a);have bp:=L.b0;have bv:=L.oz;have bx:=f.dU;have b1:(e.take a).flatten.length<=20000:=by have:=ck gB (vD S);rw[bf]at this;omega
  rw[aN,aO,pc];refine cj (cS:=gf (fD (e.take a)) (dL (b5 e a)) 0) l0 mi g F F (ms _ _ _) λm az a0 a2 n t=>?_;have a9:=R.a n;rw[bs,bu];refine⟨λd=>aL F d,λ_=>?_⟩;rw[aj w6,aj gQ,eO (i:=1) (z:=1) eT bw G G F,aM (v:=I X (e.take a).flatten.length) E (t.b.f 2 F),
   aj w7,aj tK,aM (v:=co (a8 (b5 e a))) ga (t.b.f 12 F),mA gy,aj yV]
  refine aZ (cS:=[I X (a8 (b5 e a)).length]) bw g t F F (by simp[gf,br,cq]) (by simp;rfl) λu a3 w aA=>?_;have i:ag u q _:=((r.h s).h n).ab w (by intro j;cases j;omega);have U:O x u:=a9.ab w (by rintro _ ⟨⟩;omega);have y:ag u m (gf (fD (e.take a)) (dL (b5 e a)) (a8 (b5 e a)).length):=aA;refine bG.y (λz l=>O x l/\ag l q (gf eZ hD 0)/\ag l m (gf (fD (e.take a)) (dL (b5 e a)) (a8 ((b5 e a).take c)).length)) ?_ ?_
  ·rw[aj w7,aj tK,aM (v:=co (a8 (b5 e a))) ga (y.b.f 12 F)];refine Aa gy λP b3 b4 b6 Q aB=>?_;refine ba.bJ (λM z k=>O x k/\ag k q (gf eZ hD 0)/\ag k m (gf (fD (e.take a)) (dL (b5 e a)) (a8 (b5 e a)).length)/\∃b:Nat,M=(b5 e a).length-b/\z=[I X ((e.take a).flatten.length+b:Nat)]/\b<=c/\jt k P (a8 (b5 e a)) (a8 ((b5 e a).take b)).length)
    ⟨_,U.a Q,i.h Q,y.h Q,0,F,F,G,aB⟩ ?_
   rintro M z h k ⟨A,i,o,b,rfl,rfl,b7,B⟩;have b8:=i.D;have bA:=o.D;have bB:=B.D;have bC:=U.size;rw[av];by_cases aC:b<(b5 e a).length
   ·obtain⟨V,aE⟩:∃V,(b5 e a)[b]? =J V:=⟨_,aX aC⟩;obtain⟨aG,aH,aI⟩:=Hn a7 aE;refine x1 B aI λW aJ p ah=>?_;have aK:J q≠J P:=by intro j;cases j;have:=y.D;omega
    have aP:J m≠J P:=by intro j;cases j;have:=y.D;omega
    have am:=i.ab p aK;have an:=o.ab p aP;have ap:O x W:=A.ab p (by rintro _ ⟨⟩;omega);rw[aN,hV,aO,bm,ai];refine⟨λbD=>?_,λbE=>?_⟩
    ·obtain rfl:b=c:=G;rw[aj yV];refine aZ (cS:=[I X (a8 ((b5 e a).take b)).length]) bw g an F F (by simp[gf,br,cq]) (by simp;rfl) λbF bH aq aR=>?_;exact⟨ap.ab aq (by rintro _ ⟨⟩;omega),am.ab aq (by intro j;cases j;omega),aR⟩
    ·rw[aD];rw[aG,<-aH]at ah;exact⟨(b5 e a).length-(b+1),G,ap,am,an,b+1,F,by simp;omega,G,ah⟩
   ·have aS:b=(b5 e a).length:=G;have aT:c=(b5 e a).length:=G;rw[aS,cI]at B;rw[CX B G,aN,cw];exact⟨A,i,by rw[aT,cI];exact o⟩
  rintro z h k ⟨A,i,o⟩;rw[aF (S:=gf (fD (e.take a)) (dL (b5 e a)) (a8 ((b5 e a).take c)).length) A_ o.b F];refine aZ mi g i (cS:=gf (fD (e.take a)) (dL (b5 e a)) (a8 ((b5 e a).take c)).length) F F (by simp[gf,br,cq]) (ms _ _ _) λW aJ p aU=>?_;rw[aF (S:=gf (fD (e.take a)) (dL (b5 e a)) (a8 ((b5 e a).take c)).length) A_ aU.b F];exact⟨F,A.ab p (by rintro _ ⟨⟩;omega),.inr ⟨a,c,L,F⟩⟩
def zR(a:fO x)(b:n<=x.length):(x.take n).flatten.length<=20000/\(a8 (x.take n).flatten).length<=80000/\cK (x.take n).flatten<=20000:=by have c:=ck gB (vD b);rw[bf]at c;have d:=a.dU;have e:=kN (x.take n).flatten;have f:=xM (x.take n).flatten;omega
variable{x:aa}
def LJ(b:gF x v e)(d:fO e):ak Y 60 [v,I X C] x λf l=>O x l/\
 ((¬(0<=C/\C<=e.flatten.length)/\f=a1 #[I X 0,I X 1])\/((0<=C/\C<=e.flatten.length)/\f=a1 #[I X (a8 (e.flatten.take C.toNat)).length,I X 0])):=by
 apply abD;refine(L0 b d).o ?_;rintro f y ⟨j,m⟩;rcases m with⟨n,rfl⟩|⟨a,c,k,rfl⟩
 ·rw[aN,aO];refine cj (cS:=gf eZ hD 0) l0 mi g F F (ms _ _ _) λp q r s h i=>?_;rw[bs,bu];exact⟨λ_=>⟨j.a h,.inl ⟨n,F⟩⟩,λb=>aL b g⟩
 ·rw[aN,aO];refine cj (cS:=gf (fD (e.take a)) (dL (b5 e a)) (a8 ((b5 e a).take c)).length) l0 mi g F F (ms _ _ _) λp q r s h i=>?_;rw[bs,bu];refine⟨λb=>aL F b,λ_=>?_⟩;obtain⟨t,u,w,z⟩:=k.aQ;obtain⟨A,B,D⟩:=zR d k.dU;have H:=kN ((b5 e a).take c);have K:=zM d a;have L:((b5 e a).take c).length<=16:=by rw[bt];omega
  rw[aj w6,aj gQ,eO (i:=0) (z:=0) eT bw G G F,aM (v:=I X (a8 (e.take a).flatten).length) E (i.b.f 1 F),
   aj yV,aM (v:=I X (a8 ((b5 e a).take c)).length) E (i.b.f 13 F),aD]
  refine⟨j.a h,.inr ⟨⟨t,u⟩,?_⟩⟩;rw[w,kM,bf,NB]
def aj4(b:gF x v e)(i:fO e):ak Y 275 [v,I X t] x λj q=>O x q/\
 ((¬(0<=t/\t<e.flatten.length)/\j=a1 #[I cc 0,I X 1])\/((0<=t/\t<e.flatten.length)/\∃c,e.flatten[t.toNat]? =J c/\j=a1 #[I cc c,I X 0])):=by
 apply abB;refine(L0 b i).o ?_;rintro j M ⟨n,r⟩;rcases r with⟨s,rfl⟩|⟨a,d,k,rfl⟩
 ·rw[aN,aO];refine cj (cS:=gf eZ hD 0) l0 mi g F F (ms _ _ _) λw y z A l f=>?_;rw[bs,bu];exact⟨λ_=>⟨n.a l,.inl ⟨λb=>s ⟨b.1,G⟩,F⟩⟩,λb=>aL b g⟩
 ·rw[aN,aO];refine cj (cS:=gf (fD (e.take a)) (dL (b5 e a)) (a8 ((b5 e a).take d)).length) l0 mi g F F (ms _ _ _) λw y z A l f=>?_;rw[bs,bu];refine⟨λb=>aL F b,λ_=>?_⟩;obtain⟨B,P,Q,h⟩:=k.aQ;have R:=kN (b5 e a);have S:=zM i a;have o:=n.a l;have oz:=k.oz;have U:=k.b0;rw[aj yV,aM (v:=I X (a8 ((b5 e a).take d)).length) E (f.b.f 13 F),aj w7,aj tK,aM (v:=co (a8 (b5 e a))) ga (f.b.f 12 F),mA gy,bm,ai];rcases fx d (b5 e a).length with C|V
  ·obtain⟨c,m⟩:∃c,(b5 e a)[d]? =J c:=⟨_,aX C⟩;obtain⟨D,W,H⟩:=Hn (zN i a) m;refine⟨λb=>G,λ_=>?_⟩;rw[aj w7,aj tK,aM (v:=co (a8 (b5 e a))) ga (f.b.f 12 F),aj yV,aM (v:=I X (a8 ((b5 e a).take d)).length) E (f.b.f 13 F)];refine(amD H G).o ?_;rintro j ab ⟨K,rfl⟩;rw[aN,aO,D];have L:=zN i a c (cl m);rw[m]at h;have ae:=(dS.1 h).1;refine⟨o.a K,.inr ⟨⟨B,G⟩,c,h,?_⟩⟩
   dsimp only
   rw[Int.toNat_of_nonneg (by unfold dP at L;omega)]
  ·have p:d=(b5 e a).length:=G;refine⟨λ_=>⟨o,.inl ⟨?_,F⟩⟩,λb=>aL (by rw[p,cI]) b⟩;intro ag;rw[p,j2 (a6 _)]at h;have:=AL.1 h;omega
def uI(c:128<=n)(a:n<256):(jG n==(10:UInt8))=false:=by rw[beq_eq_false_iff_ne];intro b;have:=ck UInt8.toNat b;rw[kr a]at this;simp at this;omega
def age(c:dP t):(V t).count 10=if t==10 then 1 else 0:=by
 have d:=c;unfold dP at d;rcases sO c with⟨b,a⟩|⟨b,e,a⟩|⟨b,e,a⟩|⟨b,a⟩
 ·rw[a,List.count_singleton];have:(jG t.toNat==(10:UInt8))=(t==10):=by
   rw[g0,beq_iff_eq,beq_iff_eq];constructor
   ·intro f;have:=ck UInt8.toNat f;rw[kr G]at this;simp at this;omega
   ·rintro rfl;rfl
  rw[this]
 ·rw[a,an (by simp;omega)];simp only [XK,XJ,uI (show 128<=192+t.toNat/64 by omega) G,uI (show 128<=128+t.toNat%64 by omega) G]
  rfl
 ·rw[a,an (by simp;omega)];simp only [XK,XJ,uI (show 128<=224+t.toNat/4096 by omega) G,uI (show 128<=128+t.toNat/64%64 by omega) G,uI (show 128<=128+t.toNat%64 by omega) G]
  rfl
 ·rw[a,an (by simp;omega)];simp only [XK,XJ,uI (show 128<=240+t.toNat/262144 by omega) G,uI (show 128<=128+t.toNat/4096%64 by omega) G,uI (show 128<=128+t.toNat/64%64 by omega) G,uI (show 128<=128+t.toNat%64 by omega) G]
  rfl
def agf{x:List Int}(b:∀a∈x,dP a):NQ (a8 x) 10=cK x:=by
 induction x with
 |nil=>rfl
 |cons a x ih=>have c:=b a (dv ..);have ih:=ih λd e=>b d (ey _ e);unfold NQ at ih⊢;rw[r7,List.count_append,ih,age c];unfold cK;rw[List.countP_cons];omega
def Ho(a:List Int)(b:Nat):(a8 a).take (a8 (a.take b)).length=a8 (a.take b):=by
 conv=>lhs;arg 2;rw[<-fi b a]
 rw[kM,tq]
def Gx(i:gF x v e)(k:fO e):ak Y 285 [v,I X t] x λm o=>O x o/\
 ((¬(0<=t/\t<=e.flatten.length)/\m=a1 #[I X 0,I X 1])\/((0<=t/\t<=e.flatten.length)/\m=a1 #[I X (cK (e.flatten.take t.toNat)),I X 0])):=by
 apply abA;refine(L0 i k).o ?_;rintro m c ⟨p,s⟩;rcases s with⟨u,rfl⟩|⟨a,d,q,rfl⟩
 ·rw[aN,aO];refine cj (cS:=gf eZ hD 0) l0 mi g F F (ms _ _ _) λy j z A n l=>?_;rw[bs,bu];exact⟨λ_=>⟨p.a n,.inl ⟨u,F⟩⟩,λi=>aL i g⟩
 ·rw[aN,aO];refine cj (cS:=gf (fD (e.take a)) (dL (b5 e a)) (a8 ((b5 e a).take d)).length) l0 mi g F F (ms _ _ _) λy j z A n l=>?_;rw[bs,bu];refine⟨λi=>aL F i,λ_=>?_⟩;obtain⟨B,C,D,Q⟩:=q.aQ;obtain⟨R,U,V⟩:=zR k q.dU;have W:=zM k a;have H:=xM ((b5 e a).take d);rw[bt]at H;have K:(a8 ((b5 e a).take d)).length<=(a8 (b5 e a)).length:=by have:=ck gB (Ho (b5 e a) d);rw[bt]at this;omega
  apply bE.h;have b:O j j.drew:=(O.p j).C;rw[aK (λc f h=>aj w6) b,aK (λc f h=>aj gQ) b,aK (λc f h=>eO (i:=2) (z:=2) eT bw G G F) b,dR (v:=I X (cK (e.take a).flatten)) E (l.b.f 3 F) b,
   aK (λc f h=>aj w7) b,aK (λc f h=>aj tK) b,dR (v:=co (a8 (b5 e a))) ga (l.b.f 12 F) b,aK (λc f h=>aj yV) b,dR (v:=I X (a8 ((b5 e a).take d)).length) E (l.b.f 13 F) b,
   aK (λc f h=>alj gy F K) b,Ho]
  refine S.al2.bJ (Tryz.et ⟨(a8 ((b5 e a).take d)).toArray⟩ 10 j.drew) λag o r=>⟨_,r.1,?_⟩;obtain⟨_,rfl⟩:=r;refine⟨b,?_⟩;have L:NQ (⟨(a8 ((b5 e a).take d)).toArray⟩:ByteArray).data.toList 10=cK ((b5 e a).take d):=agf λM P=>zN k a M (fy P);rw[L,aK (λc f h=>aD) b];refine⟨(p.a n).a b,.inr ⟨⟨B,C⟩,?_⟩⟩;rw[D,sZ,NB]
def r8(l:List Int)(a:n<=k):(a8 (l.take n)).length<=(a8 (l.take k)).length:=by
 have b:l.take n=(l.take k).take n:=by rw[n9,lP a]
 rw[b];have:=ck gB (Ho (l.take k) n);rw[bt]at this;omega
variable{x:List (List Int)}
def vE(a:n<=x.length)(b:k<=(b5 x n).length):x.flatten.take ((x.take n).flatten.length+k)=(x.take n).flatten++(b5 x n).take k:=by
 conv=>lhs;rw[vD a]
 rw[Dr,nx b]
def E4{v:Int}{aJ:Int}(c:fO x)(d:0<=bx)(b:bx<=2)(e:aJ=0\/aJ=1):ij (x.map dL) bx v aJ↔0<=v/\v<=qe (fD x) bx:=by
 unfold ij;rw[c.ce];constructor
 ·rintro⟨_,_,a,b,_⟩;exact⟨a,b⟩
 ·rintro⟨a,f⟩;exact⟨d,G,a,f,e⟩
def tE(a:List Int)(C:Int)(c d:Int):Prop:=
 (∃b:Nat,b<=a.length/\C=(a8 (a.take b)).length/\c=b/\d=0)\/
 (0<=C/\C<=(a8 a).length/\(∀b:Nat,b<=a.length->C≠(a8 (a.take b)).length)/\c=0/\d=70)\/
 (¬(0<=C/\C<=(a8 a).length)/\c=0/\d=1)
def UU{x:aa}(d:gF x v e)(f:fO e):ak Y 31 [v,I X C] x λm a4=>O x a4/\∃M i:Int,tE e.flatten C M i/\m=a1 #[I X M,I X i]:=by
 apply abG;refine(CK (bx:=0) (C:=C) (aJ:=1) d f).o ?_;rintro m bc ⟨P,a5⟩;rcases a5 with⟨a7,rfl⟩|⟨a9,a,bd,be,bg,Q,n,rfl,_,_,_⟩
 ·rw[aN,aO,pc];refine cj (cS:=gf eZ hD 0) l0 mi g F F (ms _ _ _) λS aA aB aC s j=>?_;rw[bs,bu];exact⟨λ_=>⟨P.a s,0,1,.inr (.inr ⟨λd=>a7 ((E4 f g g (.inr F)).2 d),F,F⟩),F⟩,λd=>aL d g⟩
 ·obtain⟨U,t⟩:=(E4 f g g (.inr F)).1 a9;have t:C<=(a8 e.flatten).length:=t;obtain⟨bi,bj,bk⟩:=zR f n;have bl:=zM f a;have aE:=zN f a;have bn:=kN (b5 e a);have bo:=f.dU;have bp:=kN e.flatten;have V:∀c,c<=e.length->fp (e.map dL) 0 c=(a8 (e.take c).flatten).length:=λc u=>by unfold fp;rw[f.bh u];rfl
  have aF:((a8 (e.take a).flatten).length:Int)<=C:=by
   rcases nz a with rfl|aG
   ·simpa [a8]using U
   ·have:=Q.dh (a-1) G;rw[DA aG,V a n]at this;unfold iE at this;omega
  have W:a<e.length->C<((a8 (e.take a).flatten).length+(a8 (b5 e a)).length:Nat):=λh=>by have ae:e[a]? =J e[a]:=aX h;have w:=Q.Ar (by rw[b_];exact h);rw[V (a+1) G,gp ae,sq,kM,bf,<-zO ae]at w;simp only [yg,Ij,cT]at w;unfold iE at w;omega
  have o:∀b,b<=(b5 e a).length->(a8 (e.flatten.take ((e.take a).flatten.length+b))).length=(a8 (e.take a).flatten).length+(a8 ((b5 e a).take b)).length:=λb k=>by rw[vE n k,kM,bf]
  have br:(e.take a).flatten.length+(b5 e a).length<=e.flatten.length:=by have:=ck gB (vD n);rw[bf,bf]at this;omega
  rw[aN,aO,pc];refine cj (cS:=gf (fD (e.take a)) (dL (b5 e a)) 0) l0 mi g F F (ms _ _ _) λS aA aB aC s j=>?_;have y:=P.a s;rw[bs,bu];refine⟨λd=>aL F d,λ_=>?_⟩;rw[aj w6,aj gQ,eO (i:=1) (z:=1) eT bw G G F,aM (v:=I X (e.take a).flatten.length) E (j.b.f 2 F),
   aj w7,aj tK,aM (v:=co (a8 (b5 e a))) ga (j.b.f 12 F)]
  refine Aa gy λaI bv bx bz z aJ=>?_;refine ba.bJ (λc ah l=>O x l/\gF l v e/\ag l S (gf (fD (e.take a)) (dL (b5 e a)) 0)/\∃b:Nat,c=(b5 e a).length-b/\ah=[I X ((e.take a).flatten.length+b:Nat)]/\b<=(b5 e a).length/\jt l aI (a8 (b5 e a)) (a8 ((b5 e a).take b)).length/\
   ∀c,c<b->((a8 (e.take a).flatten).length+(a8 ((b5 e a).take c)).length:Nat)<C)
   ⟨_,y.a z,d.h (y.a z),j.h z,0,F,F,G,aJ,λc u=>G⟩ ?_
  rintro c ah R l ⟨A,am,aK,b,rfl,rfl,k,an,ap⟩;have b0:=j.D;have b1:=y.size;have aq:∀(ar:b<=(b5 e a).length) (B:b<(b5 e a).length->C<((a8 (e.take a).flatten).length+(a8 ((b5 e a).take b)).length:Nat)) (D:b=(b5 e a).length->a<e.length),tE e.flatten C 0 70:=by
   intro ar B D;refine .inr (.inl ⟨U,t,λH b2 K=>?_,F,F⟩);rcases fx H ((e.take a).flatten.length+b)with h|aP
   ·rcases nz b with rfl|b3
    ·have:=r8 e.flatten (show H<=(e.take a).flatten.length+0 by omega);have p:=o 0 G;simp only [kp,uK,lk,nw]at p this;rcases fx 0 (b5 e a).length with au|au
     ·have:=B au;simp[uK]at this;omega
     ·have aR:=D G;have:=W aR;have:(a8 (b5 e a)).length=0:=by have:b5 e a=[]:=ig G;rw[this];rfl
      omega
    ·have:=r8 e.flatten (show H<=(e.take a).flatten.length+(b-1) by omega);rw[o (b-1) G]at this;have:=ap (b-1) G;omega
   ·have:=r8 e.flatten aP;rw[o b ar]at this;rcases fx b (b5 e a).length with h|b4
    ·have:=B h;omega
    ·have q:b=(b5 e a).length:=G;have b6:(a8 ((b5 e a).take b)).length=(a8 (b5 e a)).length:=by rw[q,cI]
     have:=W (D q);omega
  rw[av];by_cases h:b<(b5 e a).length
  ·obtain⟨aw,aS⟩:∃aw,(b5 e a)[b]? =J aw:=⟨_,aX h⟩;obtain⟨aT,aU,aV⟩:=Hn aE aS;refine x1 an aV λay b7 az a0=>?_;have a2:=aK.ab az (by intro i;cases i;omega);have r:O x ay:=A.ab az (by rintro _ ⟨⟩;omega);rw[aN,hV,aO,aj w6,aj gQ,eO (i:=0) (z:=0) eT bw G G F,aM (v:=I X (a8 (e.take a).flatten).length) E (a2.b.f 1 F),aD,bm,ai];refine⟨λK=>⟨r,_,0,.inl ⟨(e.take a).flatten.length+b,G,?_,F,F⟩,F⟩,λaW=>?_⟩
   ·rw[o b k];omega
   ·rw[cb,ai];refine⟨λb8=>⟨r,0,70,aq k (λ_=>G) (λd=>G),F⟩,λbA=>?_⟩;rw[aD];rw[aT,<-aU]at a0;refine⟨(b5 e a).length-(b+1),G,r,d.h r,a2,b+1,F,by simp;omega,G,a0,λc u=>?_⟩;by_cases i:c=b
    ·subst i;omega
    ·exact ap c G
  ·have q:b=(b5 e a).length:=G;have a3:=an;rw[q,cI]at a3;rw[CX a3 G,aN,cw];refine(aj7 am f).o ?_;rintro m ay ⟨L,rfl⟩;rw[bm,ai];refine⟨λK=>?_,λaW=>?_⟩
   ·refine(kK (am.h L) f).o ?_;rintro m bB ⟨aY,rfl⟩;refine⟨(A.a L).a aY,_,0,.inl ⟨e.flatten.length,a6 _,by rw[cI];exact K,F,F⟩,F⟩
   ·refine⟨A.a L,0,70,aq k (λd=>G) (λ_=>?_),F⟩;rcases fx a e.length with p|p
    ·exact p
    ·exfalso;obtain rfl:a=e.length:=G;rw[cI]at aF;omega
end
end Go.Proofs.YtoddhldofgfdmaaGreatDoor
