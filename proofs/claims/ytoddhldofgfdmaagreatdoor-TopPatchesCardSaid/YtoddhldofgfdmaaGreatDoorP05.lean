/- A part of the proof; no conditions of its own. -/
import Derived.Test.YtoddhldofgfdmaaGreatDoorP04
import Derived.Test.YtoddhldofgfdmaaGreatDoorP03
import Derived.Test.YtoddhldofgfdmaaGreatDoorP02
import Derived.Test.YtoddhldofgfdmaaGreatDoorCards
set_option linter.all false
open Array renaming size_append->AF,getElem?_eq_some_iff->iz,toList_append->tp
open Bool renaming true->af,false->ao,and_eq_true->fb,eq_iff_iff->g0,false_eq_true->j1
open Classical renaming em->XU
open Function renaming comp_apply->Nu
open Go renaming size_zeroCells->AE,grownCap_le_maxLen->HR,run_firstCells_some->Ng,Value->Z,World->aa,Program->bq,TypeId->cv,maxLen->e0,run_underlying->eJ,Addr->hr,sizeOf->j3,typeInfo->kO,heap_alloc_new->mE,grownCap->pq,setRow_heap->qj,run_storeCells_at->uM,setRow_other->uN
open Go.Builtin renaming min_->DO,max_->Iy,append->fT,zeroCells->n5,append_->pw,lenOf->tm
open Go.DataW renaming LaidVars->uU
open Go.Func renaming goes->XX
open Go.Instr renaming box->AW,storeAt->qt
open Go.IntKind renaming i64->X
open Go.Obj renaming cells->eW
open Go.Proofs.Tryz renaming underlying21->N_,prog->Y
open Go.Value renaming int->I,tuple->a1,slice->aQ,pointer->ad,agg->al,bool->ax,func->fq,ownBlock->to
open Go.World renaming holding->anJ
open Int renaming le_refl->gw,lt_or_le->j5,toNat_of_nonneg->lQ
open List renaming filter_congr->AP,filter_cons_of_neg->H0,dropLast_concat_getLast->H3,mem_range->HF,getLast?_eq_some_iff->Im,concat_eq_append->It,eq_nil_or_concat->Iu,append_inj'->N1,filter_cons_of_pos->N8,map_id->NR,getElem?_append->Nq,filter_map->Nv,nodup_cons->Ny,filter_filter->XQ,filter_nil->Xu,getElem?_eq_getElem->aX,filter_sublist->aop,zip_append->aos,mem_append->b9,length_map->b_,length_append->bf,length_take->bt,take_length->cI,mem_singleton->cL,length_drop->cO,append_nil->cT,append_assoc->cX,mem_of_getElem?->cl,map_append->dJ,getElem?_eq_some_iff->dS,take_of_length_le->d_,mem_cons->df,mem_cons_self->dv,map_cons->eB,mem_map->eP,mem_cons_of_mem->ey,mem_filter->fS,nil_append->fc,take_append_drop->fi,mem_of_mem_take->fy,length->gB,cons_append->gO,getElem?_map->h5,drop_zero->h6,flatMap_append->hG,mem_append_left->hY,flatMap_cons->iB,eq_nil_of_length_eq_zero->ig,mem_of_mem_drop->jH,sum_cons->jJ,filter_append->jd,getElem?_drop->kQ,range->lS,length_nil->lk,mem_nil_iff->ln,mem_append_right->lo,size_toArray->mG,length_filter_le->mH,mem_flatMap->nv,getElem?_append_right->oI,length_singleton->oK,map_nil->ob,map_take->qp,filter_cons->ri,foldl_cons->sf,take_left->tq,take_append->uR,getElem?_append_left->wA,length_set->wB,map_congr_left->yc,sum_append->yh,length_pos_iff->ym,getLast?_eq_getElem?->yn
open List.Perm renaming trans->aoq,of_eq->aor
open Nat renaming le_of_eq->Ds,dvd_mul_left->Is,le_one_iff_eq_zero_or_eq_one->N9,dvd_add->XW,le_refl->a6,le_trans->eQ,zero_le->ec,zero_add->hW,add_mul->jb,mul_comm->n4,add_zero->nw,mul_le_mul_right->ny,sub_self->pn,div_add_mod->qn,lt_of_lt_of_le->wC
open Option renaming isSome_iff_exists->Dv,some->J,or_none->XV,none->ac,isNone_some->sk
namespace Go.Proofs.YtoddhldofgfdmaaGreatDoor
namespace aY
open Go.Lift Go.RowKit Go.bW Go.cB Go.Proofs.YtoddhldofgfdmaaGreatDoor.b0
def ajl(d:List f1)(a:f1)(c:Int):nT (d++[a]) c=if a.2.2.2<=c/\a.2.2.1≠2 then J a else nT d c:=by
 unfold nT;rw[jd];by_cases b:a.2.2.2<=c/\a.2.2.1≠2
 ·rw[au b,N8 (by simp[b.1,b.2])];simp
 ·rw[an b,H0 (by simp only [fb,dF,bne_iff_ne];exact b)];simp
def amH(d:List f1)(a:f1)(c:Int):pg (d++[a]) c=(pg d c).or (if a.2.2.2=c/\a.2.2.1=2 then J a else ac):=by
 unfold pg;rw[List.find?_append];congr 1;by_cases b:a.2.2.2=c/\a.2.2.1=2
 ·rw[au b,List.find?_cons_of_pos (by simp[b.1,b.2])]
 ·rw[an b,List.find?_cons_of_neg (by simp only [fb,beq_iff_eq];exact b)];rfl
def Tr{L:List dW}{f:Int}:(gT L f).length<=(ft f L).length+1:=by
 unfold gT nQ;rw[bf];have a:((lS (ft f L).length).filterMap (vR (ft f L))).length<=(ft f L).length:=eQ (List.length_filterMap_le ..) ae;cases L.getLast? with
 |none=>dsimp only;rw[lk];omega
 |some b=>dsimp only;rw[oK];omega
structure DY (L:List dW):Prop where
 fk:L≠[]
 ab:∀(eX:Nat) (x:dW),L[eX]? =J x->0<eX->x.ba=af
 z:∀f,(ft f L).length<=1000000
 cc:L.length<=1000000
section
variable{w:aa} {la:Z} {L:List dW} {A:Nat}
def T8(b:iX w A la L)(e:DY L):ak Y 131 [la] w λm n=>O w n/\ar n w.heap.size 284 4 m lB (gT L 0):=by
 obtain⟨S,h,o,y⟩:=b.aI lD;have U:=e.cc;have V:1<=L.length:=ym.2 e.fk;apply abq;refine ba.bJ (λf c i=>O w i/\∃(g:Nat) (j:Z),g+f=L.length/\c=[j,I X g]/\((g=0/\j=aQ ac 0 0)\/(g=L.length/\ar i w.heap.size 284 4 j lB (gT L 0))))
  ⟨L.length,O.p _,0,_,G,F,.inl ⟨F,F⟩⟩ ?_
 rintro f c p i ⟨a,g,j,W,rfl,q⟩;simp only [av,bA];rw[aS fJ.m (h.h a),o,aR,ai];refine⟨λaj=>?_,λam=>?_⟩
 ·obtain⟨rfl,rfl⟩:g=0/\j=aQ ac 0 0:=by
   rcases q with b|⟨b,_⟩
   ·exact b
   ·omega
  refine bG.y (λc k=>k=i/\c=[I X L.length]) ?_ ?_
  ·refine ba.bJ (λf c k=>k=i/\∃d:Nat,d+f=L.length/\c=[I X d]/\1<=d) ⟨L.length-1,F,1,G,F,a6 _⟩ ?_;rintro f c p k ⟨rfl,d,an,rfl,ap⟩;simp only [av];rw[aD,aS fJ.m (h.h a),o,aR,ai];refine⟨λaq=>?_,λau=>?_⟩
   ·obtain⟨l,r⟩:∃l,L[d]? =J l:=⟨_,aX G⟩;obtain⟨s,t,rfl,ay⟩:=y d l r;obtain⟨az,a0,z,B⟩:=(h.h a).m t;have C:=e.ab d _ r G;rw[aD,cr fJ.m fJ.bk fJ.cN (h.h a) t G,z,M Bf ry (B.f 4 (show(eG s)[4]? =J (ax s.2.ba)from F)),C,hV,aD];exact⟨f-1,G,F,d+1,G,ae,G⟩
   ·exact⟨F,by congr 3;omega⟩
  rintro c p k ⟨rfl,rfl⟩;simp only [av];have D:=(b.h eV a);have u:=D.ag lD (aw:=0) (bD:=L.length) G (a6 _);rw[cI,h6]at u;rw[aD,CY (aw:=0) (bD:=L.length) fJ.m fJ.bk fJ.cN (h.h a) F G G G];refine(ajO (first:=((0:Nat):Int)) u e.fk ⟨G,G⟩ e.z e.cc).o ?_;rintro m a2 ⟨v,H⟩;have a3:=Tr (L:=L) (f:=0);have a5:=e.z 0;have K:=(a.a v).size;refine sM.ah (L:=[]) (A:=w.heap.size) (ar.nil ..) K (H.aI vv) (by simp;omega) λP a8 x Q _=>?_;rw[aD];refine⟨f-L.length,G,(a.a v).ab Q (λa9 R=>by cases R),L.length,P,G,ae,.inr ⟨F,?_⟩⟩;rw[fc]at x;exact x
 ·rcases q with⟨b,_⟩|⟨_,b⟩
  ·omega
  ·exact⟨a,b⟩
abbrev WE:f1:=(0,0,0,0)
variable{t:Int}
def ajy(c:t=0\/t=1):ak Y 130 [I X t] w λa b=>b=w/\a=ax true:=by apply abm;rw[bm,ai];refine⟨λ_=>⟨F,F⟩,λd=>?_⟩;rw[bm];exact⟨F,by rw[eK G]⟩
def ajU{x:f1}(B:iX w A la L)(C:DY L){aJ:Int}(aB:aJ=0\/aJ=1)(br:0<=t)(aC:∀e,L.getLast? =J e->t<=e.o3)(P:nT (gT L 0) t=J x):
 ak Y 69 [la,I X t,I X aJ] w λaw aE=>O w aE/\aw=a1 #[al (eU (lM (gT L 0) t aJ)).toArray,I X 0]:=by
 obtain⟨bs,D,ay,aG⟩:=B.aI lD;have bu:=C.cc;have bv:1<=L.length:=ym.2 C.fk;apply abl;refine bo mX λaH aK bw bx s aL=>?_;rw[aS fJ.m (D.h s),ay,bm,du G];refine bG.y (λi k=>k=aK/\i=[ax ao]) ?_ ?_
 ·refine(ajy aB).o ?_;rintro aw aM ⟨rfl,rfl⟩;rw[dD];show b6 (ax ao) _ _;rw[cw,aR,du G,aS fJ.m (D.h s),ay,cd];obtain⟨e,p⟩:∃e,L[L.length-1]? =J e:=⟨_,aX G⟩;obtain⟨Q,az,rfl,_⟩:=aG _ e p;obtain⟨bz,b0,aN,aO⟩:=(D.h s).m az;have:=aC Q.2 (by rw[yn];exact p);rw[cr fJ.m fJ.bk fJ.cN (D.h s) az G,aN,M Ek E (aO.f 2 (show(eG Q)[2]? =J (I X Q.2.o3)from F)),cb];exact⟨F,by rw[db G]⟩
 rintro i y k ⟨rfl,rfl⟩;simp only [av];rw[cw];refine bo Bu λa0 aM b1 b2 R aP=>?_;refine bo Bu λa2 aT b3 b4 S aU=>?_;have U:=(s.a R).a S;refine(T8 (B.h eV U) C).o ?_;rintro aV aW ⟨z,a3⟩;have b5:=Tr (L:=L) (f:=0);have b8:=C.z 0;generalize gT L 0=d at*;rw[aS sM.m (a3.aI vv)];have bB:=U.size;have bC:=s.size;have bD:=R.size;refine ba.bJ (λu i l=>O w l/\aW.heap.size<=l.heap.size/\∃c:Nat,c+u=d.length/\i=[ax (pg (d.take c) t).isSome,I X c]/\ar l aT.heap.size 284 4 aV lB d/\ag l a0 (lB ((nT (d.take c) t).getD WE))/\ag l a2 (lB ((pg (d.take c) t).getD WE))/\ag l aH (eU (0,0)))
  ⟨d.length,U.a z,a6 _,0,G,F,a3,(aP.h S).h z,aU.h z,((aL.h R).h S).h z⟩ ?_
 rintro u i y l ⟨V,bE,c,bF,rfl,q,j,m,v⟩;simp only [av,bA];have bH:=z.size;rw[aR,ai];refine⟨λbI=>?_,λbK=>?_⟩
 ·obtain⟨f,a4⟩:∃f,d[c]? =J f:=⟨_,aX G⟩;have o:=ajl (d.take c) f t;have h:=amH (d.take c) f t;rw[<-c9 a4]at o h;refine sM.dO (q.aI vv) a4 F λaY a5 a bL bM H=>?_;have K:=V.a a;have bN:=a.size;have a7:∀{k:aa},O a5 k->k.cell? ⟨aY,3,ac⟩=J (I X f.2.2.2):=λe=>(H.h e).b.f 3 F;rw[M EA E (a7 (O.p _)),cb,ai];refine⟨λbb=>?_,λbb=>?_⟩
  ·rw[aD];rw[an G]at o h;rw[XV]at h;exact⟨u-1,G,K,G,c+1,G,by rw[h];simp,q.h a,by rw[o];exact j.h a,by rw[h];exact m.h a,v.h a⟩
  rw[M adv E (H.b.f 2 (show(lB f)[2]? =J (I X f.2.2.1)from F)),bm,ai];refine⟨λW=>?_,λW=>?_⟩
  ·rw[an G]at o;refine bG.y (λi k=>k=a5/\i=[ax (decide (f.2.2.2=t)&&!(pg (d.take c) t).isSome)]) ?_ ?_
   ·rw[M EA E (a7 (O.p _)),bm,ai];refine⟨λah=>?_,λah=>⟨F,by simp[ah]⟩⟩;rw[dD];exact⟨F,by simp[ah]⟩
   rintro i y a8 ⟨rfl,rfl⟩;simp only [av];rw[dQ];refine⟨λb=>?_,λb=>?_⟩
   ·simp only [fb,dF,Bool.not_eq_true',Option.isSome_eq_false_iff,Option.isNone_iff_eq_none]at b;rw[b.2,au ⟨b.1,W⟩,Option.none_or]at h;rw[aF IZ H.b F];refine aZ (cS:=lB f) JL g (m.h a) F F ae (vv.B f) λbc bd n bg=>?_;rw[aD];exact⟨u-1,G,K.ab n λaj r=>by cases r;omega,G,c+1,G,by rw[h];simp,(q.h a).ab n (fC (q.h a) G),by rw[o];exact(j.h a).ab n (be G),by rw[h];exact bg,(v.h a).ab n (be G)⟩
   ·rw[aD];have a9:pg (d.take (c+1)) t=pg (d.take c) t:=by
     rw[h];simp only [Bool.and_eq_false_iff,decide_eq_false_iff_not,Bool.not_eq_false']at b;rcases b with b|b
     ·rw[an (λB=>b B.1),XV]
     ·obtain⟨bO,bh⟩:=Dv.1 b;rw[bh];rfl
    exact⟨u-1,G,K,G,c+1,G,by rw[a9];simp,q.h a,by rw[o];exact j.h a,by rw[a9];exact m.h a,v.h a⟩
  ·rw[an G,XV]at h;rw[au ⟨G,W⟩]at o;rw[aF IZ H.b F];refine aZ (cS:=lB f) JL g (j.h a) F F ae (vv.B f) λbc bd n bi=>?_;rw[aD];exact⟨u-1,G,K.ab n λaj r=>by cases r;omega,G,c+1,G,by rw[h];simp,(q.h a).ab n (fC (q.h a) G),by rw[o];exact bi,by rw[h];exact(m.h a).ab n (be G),(v.h a).ab n (be G)⟩
 ·rw[d_ G]at j m⊢;rw[P]at j;have j:ag l a0 (lB x):=j;refine bG.y (λi k=>k=l/\i=[ax (decide (aJ=0)&&((pg d t).isSome&&decide (x.2.2.2=t)))]) ?_ ?_
  ·rw[bm,ai];refine⟨λam=>?_,λam=>⟨F,by simp[am]⟩⟩;rw[dQ];refine⟨λap=>?_,λap=>⟨F,by simp[ap]⟩⟩;rw[M EA E (j.b.f 3 F),bm];exact⟨F,by simp[am,ap]⟩
  rintro i y a8 ⟨rfl,rfl⟩;simp only [av];rw[dQ];refine⟨λb=>?_,λb=>?_⟩
  ·simp only [fb,dF]at b;obtain⟨e,p⟩:=Dv.1 b.2.1;rw[p]at m;have m:ag a8 a2 (lB e):=m;rw[iL Jh ju (S:=eU (e.1,e.2.1)) (cA.cG m.b 2) F];refine er pT ju g v F F (o1.B _) λbl bn aq bp=>⟨V.ab aq λaj r=>by cases r;omega,?_⟩;unfold lM;rw[P,p]
   dsimp only
   rw[au ⟨b.1,b.2.2⟩]
  ·rw[iL Jh ju (S:=eU (x.1,x.2.1)) (cA.cG j.b 2) F];refine er pT ju g v F F (o1.B _) λbl bn aq bp=>⟨V.ab aq λaj r=>by cases r;omega,?_⟩;unfold lM;rw[P]
   dsimp only
   cases p:pg d t with
   |none=>rfl
   |some e=>
    dsimp only
    rw[an];intro aA;rw[p]at b;simp[aA.1,aA.2]at b
variable{x:Int×Int}
def ajI{h:Z}{c:List f1}(o:aC w h 4 lB c):ak Y 190 [h,al (eU x).toArray] w λd e=>O w e/\((∃(b:Nat) (a:f1),d=I X b/\c[b]? =J a/\k7 a=x)\/(d=I X (-1)/\∀a∈c,k7 a≠x)):=by
 apply abo;refine bd (S:=eU x) F λj k z A g p=>?_;rw[jZ];apply ab5;have l:=o.h g;rw[aS sM.m l];have q:mO Y (fq (.func 274) #[] #[ad (J ⟨j,0,ac⟩)]) lB (λa=>decide (k7 a=x)) c k.heap.size k:=by intro a f r s;apply abn;have t:ag r j (eU x):=ag.bA p s G;refine bd (S:=lB a) F λB C D E m u=>?_;rw[iL Jh ju (S:=eU (k7 a)) (cA.cG u.b 2) F,aF ju (t.h m).b F,L5];exact⟨m,F⟩
 exact sM.cp (K:=λd e=>O w e/\((∃(b:Nat) (a:f1),d=I X b/\c[b]? =J a/\k7 a=x)\/(d=I X (-1)/\∀a∈c,k7 a≠x))) l q (a6 _) (λ_ _ _ _=>F) λe n=>⟨λb a f v _=>⟨g.a n,.inl ⟨b,a,F,f,by simpa using v⟩⟩,λy=>⟨g.a n,.inr ⟨F,λa f=>by simpa using y a f⟩⟩⟩
def ajS{e:f1}(j:iX w A la L)(k:DY L)(l:e∈gT L 0)(m:k7 e=x)(n:∀a∈gT L 0,k7 a=x->a=e):
 ak Y 116 [la,al (eU x).toArray] w λc o=>O w o/\c=a1 #[I X e.2.2.2,I X 0]:=by
 apply abk;refine bd (S:=eU x) F λv y z B d p=>?_;refine(T8 (j.h eV d) k).o ?_;rintro C D ⟨f,g⟩;rw[aF ju (p.h f).b F];refine(ajI (g.aI vv)).o ?_;rintro c H ⟨h,⟨K,a,rfl,b,q⟩|⟨rfl,r⟩⟩
 ·obtain rfl:=n a (cl b) q;have i:=(g.h h).aI vv;obtain⟨P,Q,s,t⟩:=i.m b;rw[aR,du G,cr sM.m sM.bk sM.cN i b F,s,M EA E (t.f 3 (show(lB a)[3]? =J (I X a.2.2.2)from F))];exact⟨(d.a f).a h,F⟩
 ·exact aL m (r e l)
end
variable{x:bq}{K:aU}{e:IntKind}{c:List cv}{d:cv}
def alf{w:aa}(a b f:Int):cz x .min c d [I e a,I e b,I e f] w K=K (I e (min (min a b) f)) w:=by
 have g:min (min a b) f=if f<(if b<a then b else a)then f else(if b<a then b else a):=by split<;>split<;>omega
 rw[g];have h:(DO c.toArray d #[I e a,I e b,I e f]).run x w= .ok (I e (if f<(if b<a then b else a)then f else(if b<a then b else a))) w:=by simp[DO,Builtin.min2]
 unfold cz bM;show(match(DO c.toArray d #[I e a,I e b,I e f]).run x w with| .ok i j=>K i j|_=>False)=_;rw[h]
def ale{w:aa}(a b f:Int):cz x .max c d [I e a,I e b,I e f] w K=K (I e (max (max a b) f)) w:=by
 have g:max (max a b) f=if(if a<b then b else a)<f then f else(if a<b then b else a):=by split<;>split<;>omega
 rw[g];have h:(Iy c.toArray d #[I e a,I e b,I e f]).run x w= .ok (I e (if(if a<b then b else a)<f then f else(if a<b then b else a))) w:=by simp[Iy,Builtin.max2]
 unfold cz bM;show(match(Iy c.toArray d #[I e a,I e b,I e f]).run x w with| .ok i j=>K i j|_=>False)=_;rw[h]
variable{w:aa}
def Rp{v:Z}{n:Int}{l:List aB}(e:aC w v 2 ah l)(au:0<=n)(aw:∀c∈l,(0<=c.1/\c.1<=n)/\(0<=c.2/\c.2<=n)):ak Y 222 [v] w λay az=>O w az/\∃a b:Nat,ay=al (ah ((a:Int),(b:Int))).toArray/\a<=b/\(b:Int)<=n/\∀c∈l,(a:Int)<=c.1/\(a:Int)<=c.2/\c.1<=b/\c.2<=b:=by
 apply abr;refine bo dg λR aW aY bb a0 a2=>?_;refine bo dg λk a3 bc bd S a4=>?_;have U:=a0.a S;have bg:=e.aD;rw[aS cm.m (e.h U)];refine ba.bJ (λA q d=>O w d/\a3.heap.size<=d.heap.size/\∃j a b:Nat,j+A=l.length/\q=[I X j]/\ag d R (ah (0,0))/\ag d k (ah ((a:Int),(b:Int)))/\a<=b/\(b:Int)<=n/\∀c∈l.take j,(a:Int)<=c.1/\(a:Int)<=c.2/\c.1<=b/\c.2<=b)
  ⟨l.length,U,a6 _,0,0,0,G,F,a2.h S,a4,a6 _,au,ae⟩ ?_
 rintro A q B d ⟨C,bi,j,a,b,bj,rfl,D,H,a5,K,r⟩;simp only [av];rw[aR,ai];refine⟨λbk=>?_,λbl=>?_⟩
 ·obtain⟨c,L⟩:∃c,l[j]? =J c:=⟨_,aX G⟩;have V:=aw c (cl L);refine cm.dO (e.h C) L F λy a7 s bn bp M=>?_;have W:=C.a s;refine bG.y (λq i=>q=[]/\O w i/\a7.heap.size<=i.heap.size/\∃a b:Nat,ag i R (ah (0,0))/\ag i k (ah ((a:Int),(b:Int)))/\ag i y (ah c)/\(∀o∈l.take j,(a:Int)<=o.1/\(a:Int)<=o.2/\o.1<=b/\o.2<=b)/\(a:Int)<=n/\(b:Int)<=n) ?_ ?_
  ·rw[bm,ai];refine⟨λa8=>?_,λa8=>⟨F,W,a6 _,a,b,D.h s,H.h s,M,r,G,K⟩⟩;have a9:j=0:=G;subst a9;rw[aF cP M.b F];refine aZ (cS:=ah c) dj g (H.h s) F F ae (dk _) λam aA t an=>?_;have aE:ag am k (ah (((c.1.toNat:Nat):Int),((c.2.toNat:Nat):Int))):=by rw[lQ V.1.1,lQ V.2.1];exact an
   exact⟨F,W.ab t λP m=>by cases m;omega,G,c.1.toNat,c.2.toNat,(D.h s).ab t (be G),aE,M.ab t (be G),ae,G,G⟩
  rintro q br i ⟨rfl,aG,bs,a,b,aH,aI,aJ,r,bu,K⟩;have u:O i i.drew:=(O.p i).C;have bv:=u.size;have f:ag i.drew k (ah ((a:Int),(b:Int)))/\ag i.drew y (ah c):=⟨aI.h u,aJ.h u⟩;refine bE.y (λd=>ag d k (ah ((a:Int),(b:Int)))/\ag d y (ah c)) f ?_;rw[bh (λd e h=>aj ce) f,bh (v:=I X a) (λd e h=>aM E (e.1.b.f 0 F)) f,bh (λd e h=>aj ce) f,bh (v:=I X c.1) (λd e h=>aM E (e.2.b.f 0 F)) f,
   bh (λd e h=>aj bP) f,bh (v:=I X c.2) (λd e h=>aM E (e.2.b.f 1 F)) f,bh (λd e h=>alf _ _ _) f,bh (λd e h=>aj bP) f,bh (v:=I X b) (λd e h=>aM E (e.1.b.f 1 F)) f]
  refine u2.y (λd=>ag d y (ah c)) f.2 ?_;rw[bh (λd e h=>aj ce) f.2,bh (v:=I X c.1) (λd e h=>aM E (ag.f e 0 F)) f.2,bh (λd e h=>aj bP) f.2,bh (v:=I X c.2) (λd e h=>aM E (ag.f e 1 F)) f.2,bh (λd e h=>ale _ _ _) f.2,bh (λd e h=>aj ce) f.2];generalize bx:min (min (a:Int) c.1) c.2=x;generalize bz:max (max (b:Int) c.1) c.2=z;have aK:0<=x:=G;have aL:0<=z:=G;refine aZ (cS:=[I X x]) bw g f.1 F F ae eY λaN b0 Q aO=>?_;have aP:ag aN k (ah (x,(b:Int))):=aO;have ap:=f.2.ab Q (be G);refine⟨ap,?_⟩;rw[bh (λd e h=>aj bP) ap];refine aZ (cS:=[I X z]) bw g aP F F ae eY λaq b1 ar aT=>?_;have aU:ag aq k (ah (((x.toNat:Nat):Int),((z.toNat:Nat):Int))):=by rw[lQ aK,lQ aL];exact aT
  have aV:O w aq:=((aG.a u).ab Q λP m=>by cases m;omega).ab ar λP m=>by cases m;omega
  rw[aD];refine⟨A-1,G,aV,G,j+1,x.toNat,z.toNat,G,ae,((aH.h u).ab Q (be G)).ab ar (be G),aU,G,G,λo p=>?_⟩;rw[c9 L]at p;rcases b9.1 p with p|p
  ·have:=r o p;omega
  ·rw[cL.1 p];omega
 ·rw[d_ G]at r;rw[aF cP H.b F];refine er dj cP g D F F (dk _) λam aA t an=>?_;exact⟨C.ab t λP m=>by cases m;omega,a,b,F,a5,K,r⟩
def gd(a:Z)(b c d N n:Int)(e f:bK):List Value:=[a,I X b,I X c,I X d,I X N,I X n,ay e,ay f]
abbrev hS:List Value:=[ad ac,I X 0,I X 0,I X 0,I X 0,I X 0,aQ ac 0 0,aQ ac 0 0]
def ki:kW hS:=by
 refine⟨λg c=>?_,λb a=>?_,λb d e h i a=>?_,λf b d e a=>?_,λf b d e j k l a=>?_,λ_ m n o a=>?_⟩
 ·simp[hS]at c;rcases c with rfl|rfl|rfl<;>rfl
 all_goals simp[hS]at a
def ov{x:Z}(e:x.oneCell' =af)(f g h N n:Int)(a b:bK):∀c∈gd x f g h N n a b,c.oneCell' =true:=λc d=>by obtain⟨i,j,k⟩:=a;obtain⟨l,m,o⟩:=b;simp only [gd,df,ln,or_false]at d;rcases d with rfl|rfl|rfl|rfl|rfl|rfl|rfl|rfl<;>first|exact e|rfl
def CD{S:List Z}{e d:aH}{c:Nat}{p:Z}{a b:Nat}(D:e2 w p e)(q:hb w S d)(E:bL e)(G:bL d)(H:fV w)(r:mM e d a b c):
 ak Y 143 [p,al S.toArray,al (ah ((a:Int),(b:Int))).toArray,al (ah ((a:Int),(c:Int))).toArray] w λs t=>O w t/\∃(l:Z) (f k N:Nat),s=a1 #[al (gd l f k f N 0 (ac,0,0) (ac,0,0)).toArray,I X 0]/\e2 t l d/\oU e d a b c f k N:=by
 apply OM;have K:=q.B.1;refine bd (S:=S) F λau av aw ay L M=>?_;refine bd (S:=ah ((a:Int),(b:Int))) F λaz a0 a2 a3 u P=>?_;refine bd (S:=ah ((a:Int),(c:Int))) F λa4 a5 a7 a8 o v=>?_;refine lb it λQ R a9 aA m U=>?_;have V:bQ R Q hS 184:=U;have n:=((L.a u).a o).a m;rw[aF ka (((M.h u).h o).h m).b K,aF cP ((P.h o).h m).b F,aF cP (v.h m).b F];refine(V9 (D.h n) (q.h n) E G (H.h n) r).o ?_;rintro s aB ⟨W,l,f,k,N,rfl,y,ae⟩;have ag:∀{h:aa} {i:aU} {x j z:Z},e7 (a1 #[x,j,z]) 0 h i=i x h:=λ{h i x j z}=>F;have ai:∀{h:aa} {i:aU} {x j z:Z},e7 (a1 #[x,j,z]) 1 h i=i j h:=λ{h i x j z}=>F;have aj:∀{h:aa} {i:aU} {x j z:Z},e7 (a1 #[x,j,z]) 2 h i=i z h:=λ{h i x j z}=>F;rw[ag,ai,aj];refine cj (cS:=hL f k f N) pV rA g F F (rN _ _ _ _) λaD aE aG aH A am=>?_;rw[bs,bu];refine⟨λan=>aL F an,λ_=>?_⟩;have B:=(C6 y);rw[aF u7 am.b F,bz (S:=gd l f k f N 0 (ac,0,0) (ac,0,0)) (iR:=[(0,[l]),(1,hL f k f N)]) it pR (by simp only [eB,ob,B.1];rfl) F];have C:=W.a A;refine i1 is h8 g (V.h C) g ki F F (ov B.2 _ _ _ _ _ _ _) λaJ aK ap aq v=>?_;exact⟨(n.a C).ab ap λr ar=>by cases ar;omega,l,f,k,N,F,(y.h A).bp aq,ae⟩
end aY
namespace H
open Go.Lift Go.RowKit Go.bW
def br(a:bK×bK):List Value:=[ay a.1,ay a.2]
def lE:eR br 2:=⟨λ_=>F,λc d a=>by simp[br]at a;rcases a with rfl|rfl<;>rfl⟩
variable{x:Z}
def v_{α:Type}{w:aa}{A a c:Nat}{V:α->List Z}{L:List α}(d:ar w A a c x V L):iO x=true:=by rcases d with⟨rfl,_⟩|⟨e,f,g,h,rfl,_⟩<;>rfl
def RO(d:bK×bK):∀a∈br d,iO a=true:=λa c=>by simp[br]at c;rcases c with rfl|rfl<;>rfl
def Am{e:Z}(d:iO x=true)(f:iO e=true):∀a∈ [x,e],iO a=true:=λa c=>by simp at c;rcases c with rfl|rfl<;>assumption
def je(w:aa)(A:Nat)(cV:List (bK×bK))(D:List (List a_×List a_)):Prop:=
 cV.length=D.length/\∀(i:Nat) (a:bK×bK) (c:List a_×List a_),cV[i]? =J a->D[i]? =J c->ar w A 70 3 (ay a.1) cp c.1/\ar w A 70 3 (ay a.2) cp c.2
structure u0 (w:aa) (A b:Nat) (Hw nu:Z) (cV us:List (bK×bK)) (D c0:List (List a_×List a_)):Prop where
 hi:b<A
 H:ag w b [Hw,nu]
 dt:ar w A 182 2 Hw br cV
 d2:ar w A 182 2 nu br us
 fk:∀g,Hw.ownBlock=J g->nu.ownBlock≠J g
 tc:je w A cV D
 td:je w A us c0
 b9:j_ w Hw
 EZ:j_ w nu
def lV(w:aa)(A b:Nat)(D a:List (List a_×List a_)):Prop:=∃c d cV e,u0 w A b c d cV e D a
section
variable{w aq:aa} {A b:Nat} {cV:List (bK×bK)} {D:List (List a_×List a_)}
def je.b2(a:je w A cV D)(c:b<A)(d:ht 182 A b w aq):je aq A cV D:=
 ⟨a.1,λe f h i hd=>⟨d.fQ (a.2 e f h i hd).1 g c,d.fQ (a.2 e f h i hd).2 g c⟩⟩
def je.h(h:je w A cV D)(a:O w aq):je aq A cV D:=
 ⟨h.1,λc e d f hd=>⟨(h.2 c e d f hd).1.h a,(h.2 c e d f hd).2.h a⟩⟩
def je.push(c:je w A cV D){d:bK×bK}{e:List a_×List a_}(i:ar w A 70 3 (ay d.1) cp e.1)(j:ar w A 70 3 (ay d.2) cp e.2):je w A (cV++[d]) (D++[e]):=by
 refine⟨by simp[c.1],λg k l a hd=>?_⟩;rw[Nq]at a hd;rw[c.1]at a;split at a
 ·rename_i f
  rw[au f]at hd;exact c.2 g k l a hd
 ·rename_i f
  rw[an f]at hd;cases h:g-D.length with
  |zero=>rw[h]at a hd;cases a;cases hd;exact⟨i,j⟩
  |succ m=>rw[h]at a;simp at a
def je.bj(h:je w A cV D)(a:Nat):je w A (cV.drop a) (D.drop a):=by refine⟨by simp[h.1],λi d e c hd=>?_⟩;rw[kQ]at c hd;exact h.2 _ d e c hd
def je.aQ(h:je w A cV D)(n:Nat):je w A (cV.take n) (D.take n):=by
 refine⟨by simp[h.1],λf c d a hd=>?_⟩;rw[List.getElem?_take]at a hd;split at a
 ·rename_i e;rw[au e]at hd;exact h.2 _ c d a hd
 ·cases a
def u0.h{c nu:Z}{d:List (bK×bK)}{e:List (List a_×List a_)}(h:u0 w A b c nu cV d D e)(a:O w aq):u0 aq A b c nu cV d D e:=
 ⟨h.hi,h.H.h a,h.dt.h a,h.d2.h a,h.fk,h.tc.h a,h.td.h a,h.b9.h a,h.EZ.h a⟩
def lV.h{a:List (List a_×List a_)}(h:lV w A b D a)(c:O w aq):lV aq A b D a:=by obtain⟨d,nu,cV,e,h⟩:=h;exact⟨d,nu,cV,e,h.h c⟩
end
def ze{w:aa}{L:List a_}(d:aC w x 3 cp L)(o:L.length<=1000):ak Y 136 [x] w λf aq=>O w aq/\ar aq w.heap.size 70 3 f cp L:=by
 apply OS;obtain⟨p,q,rfl,r,s,h⟩:=id d;rw[Vd hA,dQ];refine⟨λa=>⟨O.p w,?_⟩,λa=>?_⟩
 ·have:L=[]:=by
   cases L with
   |nil=>rfl
   |cons i t=>obtain⟨b,u,j,_⟩:=h 0 i F;rw[j]at a;cases a
  subst this;exact ar.nil _ _ _ _ _
 ·refine Vi (k:=3) (V:=cp) hA kx λy z e c A=>?_;refine xX hA ir g kx F jR e c.size (d.h c) (by have:e0=9223372036854775807:=rfl;simp;omega) (by rw[D7];simp;omega) λB C k l=>?_;exact⟨c.ab l λm n=>(e.D m n).1,k.row⟩
variable{x:aa}{K:aU}{n:Nat}
def CL:fh Y 262 (ad (J ⟨n,0+0,ac⟩)) (I X 0) x K=K (ad (J ⟨n,0,ac⟩)) x:=
 eO (i:=0) I1 vl g g F
def akz:fh Y 262 (ad (J ⟨n,0+0,ac⟩)) (I X 1) x K=K (ad (J ⟨n,1,ac⟩)) x:=
 eO (i:=1) I1 vl g g F
def xL(a:aa):ak Y 58 [] a λc b=>c=ad (J ⟨a.heap.size,0,ac⟩)/\O a b/\b.heap.size=a.heap.size+1/\ag b a.heap.size [aQ ac 0 0,aQ ac 0 0]:=by apply aaL;rw[bz (iR:=[]) (S:=[aQ ac 0 0,aQ ac 0 0]) aev adO F F];refine bd F λj k d e f g=>?_;subst d;exact⟨F,f,e,g⟩
variable{k:Nat}
def ahC(a:k<n)(b:ag x k [aQ ac 0 0,aQ ac 0 0]):lV x n k [] []:=
 ⟨_,_,[],[],a,b,ar.nil _ _ _ _ _,ar.nil _ _ _ _ _,(by simp[to]),⟨F,ae⟩,⟨F,ae⟩,.nil,.nil⟩
def jj{α:Type}(a:List α):List α:=a.drop (a.length-100)
variable{w:aa}
def Gw{x e:List (List a_×List a_)}{bv Fz:bK}{aV kE:List a_}{A:Nat}(c:lV w A n x e)(b6:A<=w.heap.size)(b7:x.length<=100)
 (aU:∀s,ht 182 A n w s->aC s (ay bv) 3 cp aV)(aW:∀s,ht 182 A n w s->aC s (ay Fz) 3 cp kE)(aY:aV.length<=1000)(ba:kE.length<=1000):
 ak Y 81 [ad (J ⟨n,0,ac⟩),al #[ay bv,ay Fz]] w λam s=>am=I X 0/\ht 182 A n w s/\jM w s/\lV s A n (jj (x++[(aV,kE)])) []:=by
 obtain⟨k,b8,l,bA,c⟩:=c;apply aaH;refine bd (S:=[ay bv,ay Fz]) F λan h bB bC B bc=>?_;have be:ht 182 A n w h:= .R B;have a:=c.h B;rw[fZ P4,sk,cw,bn,aj pO,akz];refine aZ (cS:=[aQ ac 0 0]) vl g a.H F F ae (by intro am C;simp at C;subst C;rfl) λf bF D E=>?_;have E:ag f n [k,aQ ac 0 0]:=E;have a8:ht 182 A n w f:=be.a (.al D λd b=> .inl (by cases b;rfl));have bg:A<=f.heap.size:=by have:=B.size;omega
 have bG:n<w.heap.size:=c.H.D;have R:∀d,k.ownBlock=J d->A<=d/\d<w.heap.size:=λd b=>c.dt.D d b;have a9:ar f A 182 2 k br l:=a.dt.ab D (by
  cases u:k.ownBlock with
  |none=>exact .inl F
  |some d=>exact .inr (by intro j;cases j;have:=R n u;have:=c.hi;omega))
 have bi:k.ownBlock=ac\/k.ownBlock≠J n:=by
  cases u:k.ownBlock with
  |none=>exact .inl F
  |some d=>exact .inr (by intro j;cases j;have:=R n u;have:=c.hi;omega)
 have aA:j_ f k:=(c.b9.h B).ab D bi;have bk:jM w f:=(jM.R B).a (.al D λd b _=>by cases b;exact a.H.iO (Am (v_ a.dt) (v_ a.d2)));have aB:ag f an [ay bv,ay Fz]:=bc.ab D (by intro j;cases j;omega);have bH:je f A l x:=c.tc.b2 c.hi a8;have aD:J an≠k.ownBlock:=λj=>by have:=R an j.symm;omega
 have ap:J n≠k.ownBlock:=λj=>by have:=R n j.symm;have:=c.hi;omega
 refine bE.y (λs=>f.grownBy s k.ownBlock) (jz _ _) ?_;have h_:∀{z aq:aa},f.grownBy z k.ownBlock->O z aq->f.grownBy aq k.ownBlock:=λau j=>eN au (eb j _);have av:∀{z:aa},f.grownBy z k.ownBlock->ht 182 A n w z:=λau=>a8.a (.al au λd b=> .inr (a9.de b));have t:=jz f k.ownBlock;rw[bn,bh (λh a p=>aj pO) t,bh (λh a p=>CL) t,
  bh (λh (a:f.grownBy h _) p=>aM vb ((E.ab a ap).b.f 0 F)) t,
  bh (λh a p=>aj Pq) t,bh (λh (a:f.grownBy h _) p=>aM ru ((aB.ab a aD).b.f 0 F)) t,
  bh (λh a p=>aj Pr) t,bh (λh (a:f.grownBy h _) p=>aM ru ((aB.ab a aD).b.f 1 F)) t,
  bn,bh (λh a p=>aj pO) t]
 refine(ze (aU _ (av t)) aY).o ?_;rintro bI z ⟨S,aE⟩;have az:=h_ t S;refine⟨az,(ze (aW _ (av az)) ba).o ?_⟩;rintro bJ aq ⟨U,aF⟩;have a0:=h_ az U;refine⟨a0,?_⟩;obtain⟨m,rfl⟩:=(aE.aI jR).ay;obtain⟨o,rfl⟩:=(aF.aI jR).ay;rw[bh (λh a p=>bz (iR:=[(0,[ay m]),(1,[ay o])]) (S:=br (m,o)) rC Jv F F) a0];refine f0 (V:=br) (L:=[(m,o)]) (iR:=[(0,br (m,o))]) sz pU F rC g g lE F F λbK a2 bL bm H bM=>?_;have a3:=h_ a0 H;refine⟨a3,?_⟩;have bN:f.heap.size<=a2.heap.size:=a3.size;have bo:l.length=x.length:=c.tc.1;have aG:ar a2 A 182 2 k br l:=((((a9.h (O.p f).C).h S).h U).h H);refine U7 sz pU g rC F lE aG G (bm.aI lE) ae (by have:e0=9223372036854775807:=rfl;simp;omega) (by rw[O2];simp;omega) ((((aA.h (O.p f).C).h S).h U).h H) (λam C=>by simp at C;rcases C with rfl|rfl<;>rfl) RO λi aH K aJ bO bp=>?_;have v:=eN a3 aJ;refine⟨v,?_⟩;rw[bh (λh a p=>CL) v];refine aZ vl g (E.ab v ap) K.M.1 F ae (by simpa using K.M.2) λq bP W y=>?_;have y:ag q n [i,aQ ac 0 0]:=y;have bQ:A<=aH.heap.size:=by have:=v.size;omega
 have M:ar q A 182 2 i br (l++[(m,o)]):=K.ab W (by
  cases u:i.ownBlock with
  |none=>exact .inl F
  |some d=>exact .inr (by intro j;cases j;have:=K.D n u;have:=c.hi;omega))
 have aL:i.ownBlock=ac\/i.ownBlock≠J n:=by
  cases u:i.ownBlock with
  |none=>exact .inl F
  |some d=>exact .inr (by intro j;cases j;have:=K.D n u;have:=c.hi;omega)
 have aN:j_ q i:=bp.ab W aL;have aO:jM w q:=(bk.a (.al v λd b _=>aA d b)).a (.al W λd b _=>by cases b;exact(E.ab v ap).iO (Am (v_ c.dt) F));have aP:ht 182 A n aH q:= .al W λd b=> .inl (by cases b;rfl);have a4:ht 182 A n w q:=(av v).a aP;have bs:je q A l x:=c.tc.b2 c.hi a4;have aR:ht 182 A n a2 q:=(ht.al aJ λd b=> .inr (aG.de b)).a aP;have bu:A<=f.drew.heap.size:=bg;have bw:ar q A 70 3 (ay m) cp aV:=aR.fQ (((aE.h U).h H).o bu) g c.hi;have bx:ar q A 70 3 (ay o) cp kE:=aR.fQ ((aF.h H).o (by have:=S.size;omega)) g c.hi;have aT:je q A (l++[(m,o)]) (x++[(aV,kE)]):=bs.push bw bx;have b0:(l++[(m,o)]).length=x.length+1:=by simp[bo]
 rw[bn,aj pO,CL,aM vb (y.b.f 0 F),aS sz (M.aI lE),b0,cd,cb,ai];refine⟨λbR=>?_,λbS=>⟨F,a4,aO,i,_,l++[(m,o)],[],c.hi,y,M,ar.nil _ _ _ _ _,by simp[to],?_,⟨F,ae⟩,aN,.nil⟩⟩
 ·have a:x.length=100:=G;apply bE.h;have r:O q q.drew:=(O.p q).C;rw[bn,aK (λh a p=>aj pO) r,aK (λh a p=>CL) r,
   dR vb (y.b.f 0 F) r,aK (λh a p=>pe (aw:=1) sz pU g ((M.h a).aI lE) G G) r,
   bn,aK (λh a p=>aj pO) r,aK (λh a p=>CL) r]
  have P:=(M.h r).ag lE (aw:=1) (bD:=(l++[(m,o)]).length) G (a6 _);rw[cI]at P;refine aZ vl g (y.h r) P.M.1 F ae (by simpa using P.M.2) λah bU Q a5=>?_;have a5:ag ah n [dp i 2 1 (l++[(m,o)]).length (cC i),aQ ac 0 0]:=a5;have b1:ht 182 A n w ah:=(a4.a (.R r)).a (.al Q λd b=> .inl (by cases b;rfl));have b3:(dp i 2 1 (l++[(m,o)]).length (cC i)).ownBlock=ac\/(dp i 2 1 (l++[(m,o)]).length (cC i)).ownBlock≠J n:=by rw[C4];exact aL
  have b4:j_ ah (dp i 2 1 (l++[(m,o)]).length (cC i)):=j_.ab (λd b=>(aN.h r) d (by rw[C4]at b;exact b)) Q b3;have b5:jM w ah:=(aO.a (.R r)).a (.al Q λd b _=>by cases b;exact(y.h r).iO (Am (v_ M) F));refine⟨F,b1,b5,_,_,(l++[(m,o)]).drop 1,[],c.hi,a5,P.ab Q ?_,ar.nil _ _ _ _ _,by simp[to],?_,⟨F,ae⟩,b4,.nil⟩
  ·cases u:(dp i 2 1 (l++[(m,o)]).length (cC i)).ownBlock with
   |none=>exact .inl F
   |some d=>exact .inr (by intro j;cases j;have:=P.D n u;have:=c.hi;omega)
  ·have a7:jj (x++[(aV,kE)])=(x++[(aV,kE)]).drop 1:=by unfold jj;congr 1;simp;omega
   rw[a7];exact(aT.b2 c.hi ((ht.R r).a (.al Q λd b=> .inl (by cases b;rfl)))).bj 1
 ·have a7:jj (x++[(aV,kE)])=x++[(aV,kE)]:=by unfold jj;rw[show(x++[(aV,kE)]).length-100=0 from by simp;omega];rfl
  rw[a7];exact aT
def q0(f:Nat)(a c:Z):List Value:=if f=0 then [a,c]else [c,a]
structure qw (w:aa) (A b f:Nat) (Hx Hy:Z) (cV us:List (bK×bK)) (D c0:List (List a_×List a_)):Prop where
 hi:b<A
 H:ag w b (q0 f Hx Hy)
 r4:ar w A 182 2 Hx br cV
 bw:ar w A 182 2 Hy br us
 fk:∀g,Hx.ownBlock=J g->Hy.ownBlock≠J g
 C2:je w A cV D
 e3:je w A us c0
 cf:j_ w Hx
 cg:j_ w Hy
variable{e:List (bK×bK)}{d s:List (List a_×List a_)}
def u0.mu{c:List (bK×bK)}{h b:Nat}{i j:Z}(g:u0 x h b i j e c d s):qw x h b 0 i j e c d s:=
 ⟨g.hi,g.H,g.dt,g.d2,g.fk,g.tc,g.td,g.b9,g.EZ⟩
variable{x:List (bK×bK)}{c:List (List a_×List a_)}
def u0.p5{g h:Nat}{i j:Z}(b:u0 w g h i j x e c d):qw w g h 1 j i e x d c:=
 ⟨b.hi,b.H,b.d2,b.dt,λk l m=>b.fk k m l,b.td,b.tc,b.EZ,b.b9⟩
def qw.ke{g h:Nat}{i j:Z}(b:qw w g h 0 i j x e c d):lV w g h c d:=
 ⟨i,j,x,e,b.hi,b.H,b.r4,b.bw,b.fk,b.C2,b.e3,b.cf,b.cg⟩
variable{x:aa}
def qw.cO{c:List (bK×bK)}{g h:Nat}{i j:Z}(b:qw x g h 1 i j e c d s):lV x g h s d:=
 ⟨j,i,c,e,b.hi,b.H,b.bw,b.r4,λk l m=>b.fk k m l,b.e3,b.C2,b.cg,b.cf⟩
def qw.h{w e:aa}{A b f:Nat}{g i:Z}{j k:List (bK×bK)}{D l:List (List a_×List a_)}(h:qw w A b f g i j k D l)(d:O w e):qw e A b f g i j k D l:=
 ⟨h.hi,h.H.h d,h.r4.h d,h.bw.h d,h.fk,h.C2.h d,h.e3.h d,h.cf.h d,h.cg.h d⟩
section
variable{f:Nat} {a c sF om:Z}
def Tx:(q0 f a c).length=2:=by unfold q0;split<;>rfl
def F3(b:f<=1):(q0 f a c)[f]? =J a:=by rcases N9.1 b with rfl|rfl<;>rfl
def aiI(b:f<=1):(q0 f a c)[1-f]? =J c:=by rcases N9.1 b with rfl|rfl<;>rfl
def aiG(b:f<=1):dE (q0 f a c) f [sF]=q0 f sF c:=by rcases N9.1 b with rfl|rfl<;>rfl
def aiH(b:f<=1):dE (q0 f a c) (1-f) [om]=q0 f a om:=by rcases N9.1 b with rfl|rfl<;>rfl
end
def xT{t:Int}{b i:Nat}(bD:i<2)(d:t=i):fh Y 262 (ad (J ⟨b,0+0,ac⟩)) (I X t) x K=K (ad (J ⟨b,i,ac⟩)) x:=by rw[eO (i:=i) I1 vl g bD d];simp only [Nat.mul_one,hW]
def BA{b i:Nat}{S:List Z}{d:Z}(e:ag x b S)(bD:S[i]? =J d):x.cell? ⟨b,i,ac⟩=J d:=by have:=e.b.f i bD;rwa[hW]at this
def s9{g d h e:Nat}{b:Z}{α:Type}{V:α->List Z}{L:List α}(i:ar x g d h b V L)(k:e<g):b.ownBlock=ac\/b.ownBlock≠J e:=by
 cases j:b.ownBlock with
 |none=>exact .inl F
 |some l=>exact .inr (by intro d;cases d;have:=i.D e j;omega)
abbrev yx:bK×bK:=((ac,0,0),(ac,0,0))
def TD{d:List (bK×bK)}{t:List (List a_×List a_)}{p v f:Nat}{m C:Z}(h:qw x p v f m C e d s t)(R:f<=1)(cu:p<=x.heap.size)(b6:s.length<=1000)(cx:t.length<=1000):
 ak Y 135 [ad (J ⟨v,0,ac⟩),I X f] x λaz D=>ht 182 p v x D/\jM x D/\∃(l:bK×bK) (aA:Int),az=a1 #[al (br l).toArray,I X aA]/\
  ((s=[]/\aA=6/\l=yx/\qw D p v f m C e d s t)\/
   (∃k w b7 S y b8,s=k++[w]/\aA=0/\ar D p 70 3 (ay l.1) cp w.1/\ar D p 70 3 (ay l.2) cp w.2/\qw D p v f b7 S y b8 k (t++[w]))):=by
 apply aaK;refine bo rC λz q cy cz an aR=>?_;have i:=h.h an;have c0:v<x.heap.size:=h.H.D;have a0:e.length=s.length:=h.C2.1;have c1:d.length=t.length:=h.e3.1;refine bG.y (λaT D=>D=q/\∃a2:Bool,aT=[ax a2]/\(a2=af↔s=[])) ?_ ?_
 ·rw[fZ P4,sk,cw,bn,aj pO,xT (i:=f) G F,aM vb (BA i.H (F3 R)),aS sz (i.r4.aI lE),bm];refine⟨F,_,F,?_⟩;rw[dF,a0];constructor
  ·intro h;exact ig G
  ·rintro rfl;rfl
 rintro aT aU q ⟨rfl,a2,rfl,aB⟩;rw[av,dQ];refine⟨λa3=>?_,λa3=>?_⟩
 ·rw[bz (iR:=[]) (S:=br yx) rC Jv F F];refine aZ (cS:=br yx) pU g aR F F ae (lE.B yx) λH bB bC aC=>?_;have aC:ag H z (br yx):=aC;have K:O x H:=an.ab bC λb n=>by cases n;omega
  rw[aF yD aC.b F];exact⟨F,.R K,.R K,yx,6,F,.inl ⟨aB.1 a3,F,F,h.h K⟩⟩
 have bD:s≠[]:=λj=>by rw[aB.2 j]at a3;cases a3
 obtain⟨k,w,rfl⟩:∃k w,s=k++[w]:=⟨_,_,(H3 bD).symm⟩;have bF:e≠[]:=λj=>by rw[j]at a0;simp at a0
 obtain⟨y,l,rfl⟩:∃y l,e=y++[l]:=⟨_,_,(H3 bF).symm⟩;have aD:y.length=k.length:=by simpa using a0
 have bH:(y++[l]).length=k.length+1:=by simp[aD]
 have aE:(y++[l])[k.length]? =J l:=by rw[<-aD];simp
 have bI:(k++[w])[k.length]? =J w:=ae;obtain⟨c3,c4,bJ,bL⟩:=(i.r4.aI lE).m aE;have c5:k.length+1<=1000:=by simpa using b6
 rw[bn,aj pO,xT (i:=f) G F,aM vb (BA i.H (F3 R)),aS sz (i.r4.aI lE),bH,cd,
  bn,aj pO,xT (i:=f) G F,aM vb (BA i.H (F3 R)),cr sz pU g (i.r4.aI lE) aE G,bJ,aF yD bL F]
 refine cj rC pU g F F (lE.B l) λa4 H c6 bB ap bM=>?_;have K:=an.a ap;have u:=i.h ap;apply bE.h;have o:O H H.drew:=(O.p H).C;rw[bn,aK (λq i A=>aj pO) o,aK (λq i A=>xT (i:=f) G F) o,dR vb (BA u.H (F3 R)) o,
  aK (λq i A=>oA (bD:=k.length) sz pU g ((u.r4.h i).aI lE) G G) o,
  bn,aK (λq i A=>aj pO) o,aK (λq i A=>xT (i:=f) G F) o]
 have W:=(u.r4.h o).ag lE (aw:=0) (bD:=k.length) G G;have aV:(y++[l]).take k.length=y:=by rw[<-aD];simp
 rw[aV,h6]at W;refine aZ vl g (u.H.h o) W.M.1 F (by rw[Tx];omega) (by simpa using W.M.2) λr c7 L a5=>?_;rw[aiG R]at a5;have aW:ht 182 p v x r:=(ht.R (K.a o)).a (.al L λb n=> .inl (by cases n;rfl));have aY:∀{a c:Z},iO a=af->iO c=af->∀az∈q0 f a c,iO az=true:=λi u=>by unfold q0;split;exact Am i u;exact Am u i
 have bO:jM x r:=(jM.R (K.a o)).a (.al L λb n _=>by cases n;exact(u.H.h o).iO (aY (v_ u.r4) (v_ u.bw)));have ba:j_ r C:=(h.cg.h (K.a o)).ab L (s9 (u.bw.h o) h.hi);have bP:j_ r (dp m 2 0 k.length (cC m)):=j_.ab (λb n=>(h.cf.h (K.a o)) b (by rw[C4]at n;exact n)) L (s9 W h.hi);have bQ:=W.ab L (s9 W h.hi);have bb:=(u.bw.h o).ab L (s9 (u.bw.h o) h.hi);have bc:ag r a4 (br l):=(bM.h o).ab L (by intro j;cases j;omega);have bR:ag r z [aQ ac 0 0,aQ ac 0 0]:=((aR.h ap).h o).ab L (by intro j;cases j;omega);have c8:p<=r.heap.size:=by have:=aW.Y;omega
 have a7:∀b,C.ownBlock=J b->p<=b/\b<x.heap.size:=λb n=>h.bw.D b n;have aG:J v≠C.ownBlock:=λj=>by have:=a7 v j.symm;have:=h.hi;omega
 have bd:J a4≠C.ownBlock:=λj=>by have:=a7 a4 j.symm;have:=an.size;omega
 have bS:J z≠C.ownBlock:=λj=>by have:=a7 z j.symm;omega
 refine bE.y (λD=>r.grownBy D C.ownBlock) (jz _ _) ?_;have M:=jz r C.ownBlock;have be:(1:Int)-(f:Int)=((1-f:Nat):Int):=G;rw[bh (λq i A=>cd) M,bh (λq i A=>cd) M,bn,bh (λq i A=>aj pO) M,bh (λq i A=>xT (i:=1-f) G be) M,
  bh (λq (i:r.grownBy q _) A=>aM vb (BA (a5.ab i aG) (aiI R))) M,bh (λq (i:r.grownBy q _) A=>aF yD (bc.ab i bd).b F) M,
  bn,bh (λq i A=>aj pO) M]
 refine f0 (V:=br) (L:=[l]) (iR:=[(0,br l)]) sz pU F rC g g lE F F λa2 bg aB bT aH cA=>?_;have aq:=eN M (eb aH _);refine⟨aq,?_⟩;have bU:=(bb.h (O.p r).C).h aH;have bV:p<=bg.heap.size:=by have:=aq.size;omega
 refine U7 sz pU g rC F lE bU bV (bT.aI lE) ae (by have:e0=9223372036854775807:=rfl;simp;omega) (by rw[O2];simp;omega) ((ba.h (O.p r).C).h aH) (λaz bi=>by simp at bi;rcases bi with rfl|rfl<;>rfl) RO λS bj au bW bk bX=>?_;have E:=eN aq bW;refine⟨E,?_⟩;rw[bh (λq i A=>xT (i:=1-f) G be) E];refine aZ vl g (a5.ab E aG) au.M.1 F (by rw[Tx];omega) (by simpa using au.M.2) λa8 cB P bl=>?_;rw[aiH R]at bl;have bY:ag a8 a4 (br l):=(bc.ab E bd).ab P (by intro j;cases j;omega);have bp:ag a8 z [aQ ac 0 0,aQ ac 0 0]:=(bR.ab E bS).ab P (by intro j;cases j;omega);rw[aF yD bY.b F];refine aZ (cS:=br l) pU g bp F F ae (lE.B l) λah cD B aJ=>?_;have aJ:ag ah z (br l):=aJ;rw[aF yD aJ.b F];have bZ:ht 182 p v r a8:=(ht.al E λb n=> .inr (bb.de n)).a (.al P λb n=> .inl (by cases n;rfl));have ai:=aW.a bZ;have aL:ht 182 p v x ah:=by refine⟨B.os.trans ai.bo,B.tape.trans ai.bs,B.output.trans ai.br,eQ ai.Y B.size,λbu ca hi cb=>?_⟩;exact(B.block bu (by have:=ai.Y;omega) (by intro j;cases j;omega)).trans (ai.H bu ca hi cb)
 have bv:je ah p (y++[l]) (k++[w]):=h.C2.b2 h.hi aL;have ce:je ah p d t:=h.e3.b2 h.hi aL;obtain⟨bx,b0⟩:=bv.2 _ l w aE bI;have aN:(dp m 2 0 k.length (cC m)).ownBlock=m.ownBlock:=C4;have b1:∀b,m.ownBlock=J b->p<=b/\b<x.heap.size:=λb n=>h.r4.D b n;have b3:(dp m 2 0 k.length (cC m)).ownBlock=ac\/(dp m 2 0 k.length (cC m)).ownBlock≠C.ownBlock:=by
  rw[aN];cases am:m.ownBlock with
  |none=>exact .inl F
  |some b=>exact .inr λj=>h.fk b am j.symm
 have b4:(dp m 2 0 k.length (cC m)).ownBlock=ac\/(dp m 2 0 k.length (cC m)).ownBlock≠J z:=by
  rw[aN];cases am:m.ownBlock with
  |none=>exact .inl F
  |some b=>exact .inr (by intro j;cases j;have:=b1 z am;omega)
 have a9:ar bj p 182 2 (dp m 2 0 k.length (cC m)) br y:=bQ.ab E b3;have ch:=a9.ab P (s9 a9 h.hi);have ci:=ch.ab B b4;have ck:=((bP.ab E b3).ab P (s9 a9 h.hi)).ab B b4;have cE:z<bg.heap.size:=by have:=aq.size;have:=ap.size;have cF:H.drew.heap.size=H.heap.size:=rfl;omega
 have b5:S.ownBlock=ac\/S.ownBlock≠J z:=by
  cases am:S.ownBlock with
  |none=>exact .inl F
  |some b=>
   refine .inr ?_;intro j;cases j;rcases bk with Q|Q
   ·rw[am]at Q;have:=a7 z Q.symm;omega
   ·have:=Q z am;omega
 have cm:=(au.ab P (s9 au h.hi)).ab B b5;have cn:=(bX.ab P (s9 au h.hi)).ab B b5;have co:jM x bj:=bO.a (.al E λb n _=>ba b n);have cq:jM x a8:=co.a (.al P λb n _=>by cases n;exact(a5.ab E aG).iO (aY (v_ a9) (v_ (h.bw))));have cs:jM x ah:=cq.a (.al B λb n _=>by cases n;exact bp.iO (Am F F));have ct:ag ah v (q0 f (dp m 2 0 k.length (cC m)) S):=bl.ab B (by intro j;cases j;omega);refine⟨F,aL,cs,l,0,F,.inr ⟨k,w,_,S,y,d++[l],F,F,bx,b0,h.hi,ct,ci,cm,λb Q aO=>?_,?_,ce.push bx b0,ck,cn⟩⟩
 ·rw[aN]at Q;rcases bk with aP|aP
  ·rw[aP]at aO;exact h.fk b Q aO
  ·have:=aP b aO;have:=b1 b Q;have:=an.size;have:=ap.size;have:=aq.size;omega
 ·have:=bv.aQ k.length;rw[aV,List.take_left' F]at this;exact this
def D1(b:List (List a_×List a_)):Prop:=∀a∈b,a.1.length<=1000/\a.2.length<=1000
variable{x e:List (List a_×List a_)}
def amx(i:lV w n k x e)(r:n<=w.heap.size)(s:x.length<=1000)(t:e.length<=1000)(u:D1 x):
 ak Y 75 [ad (J ⟨k,0,ac⟩)] w λp d=>ht 182 n k w d/\jM w d/\∃(v:Z) (f:Int) (j:List a_),p=a1 #[v,I X f]/\ar d n 70 3 v cp j/\
  ((x=[]/\f=6/\j=[]/\lV d n k x e)\/(∃h a,x=h++[a]/\f=0/\j=a.1/\lV d n k h (e++[a]))):=by
 obtain⟨E,H,K,L,i⟩:=i;apply aaJ;refine(TD (f:=0) i.mu G r s t).o ?_;rintro p O ⟨l,q,y,f,rfl,z⟩;rw[aN,aO];have P:=l.Y;refine cj rC pU g F F (lE.B y) λQ A R S b B=>?_;rw[aj Pq,aM ru (B.b.f 0 F)];rcases z with⟨rfl,rfl,rfl,m⟩|⟨h,a,U,V,W,ab,rfl,rfl,C,ag,m⟩
 ·refine(ze (L:=[]) (aC.nil A 3 cp) ae).o ?_;rintro v D ⟨c,o⟩;exact⟨l.a (.R (b.a c)),q.a (.R (b.a c)),v,6,[],F,o.o G,.inl ⟨F,F,F,m.ke.h (b.a c)⟩⟩
 ·refine(ze ((C.h b).aI jR) (u a ae).1).o ?_;rintro v D ⟨c,o⟩;exact⟨l.a (.R (b.a c)),q.a (.R (b.a c)),v,0,a.1,F,o.o G,.inr ⟨h,a,F,F,F,m.ke.h (b.a c)⟩⟩
def akb(h:lV w n k x e)(r:n<=w.heap.size)(s:x.length<=1000)(t:e.length<=1000)(u:D1 e):
 ak Y 78 [ad (J ⟨k,0,ac⟩)] w λo d=>ht 182 n k w d/\jM w d/\∃(v:Z) (f:Int) (i:List a_),o=a1 #[v,I X f]/\ar d n 70 3 v cp i/\
  ((e=[]/\f=6/\i=[]/\lV d n k x e)\/(∃p a,e=p++[a]/\f=0/\i=a.2/\lV d n k (x++[a]) p)):=by
 obtain⟨H,K,L,M,h⟩:=h;apply aaI;refine(TD (f:=1) h.p5 G r t s).o ?_;rintro o P ⟨j,q,y,f,rfl,z⟩;rw[aN,aO];have Q:=j.Y;refine cj rC pU g F F (lE.B y) λR A S U b B=>?_;rw[aj Pr,aM ru (B.b.f 1 F)];rcases z with⟨rfl,rfl,rfl,l⟩|⟨C,a,V,W,ab,ag,rfl,rfl,ah,D,l⟩
 ·refine(ze (L:=[]) (aC.nil A 3 cp) ae).o ?_;rintro v E ⟨c,m⟩;exact⟨j.a (.R (b.a c)),q.a (.R (b.a c)),v,6,[],F,m.o G,.inl ⟨F,F,F,l.cO.h (b.a c)⟩⟩
 ·refine(ze ((D.h b).aI jR) (u a ae).2).o ?_;rintro v E ⟨c,m⟩;exact⟨j.a (.R (b.a c)),q.a (.R (b.a c)),v,0,a.2,F,m.o G,.inr ⟨C,a,F,F,F,l.cO.h (b.a c)⟩⟩
end H
namespace aY
open Go.Lift Go.bW Go.cB Go.Proofs.YtoddhldofgfdmaaGreatDoor.b0
def QG{x:List Int}{e:a_}{c:List a_}(d:e.2.1-e.1+c6 e=0)(f:0<=e.1/\e.1<=e.2.1):gR x (e::c)=gR x c:=by have a:c6 e=0:=G;have b:bY e.2.2=[]:=ig a;rw[y8,b,cT,show e.2.1=e.1 from G,fi]
def IE(c b:Int)(d:List a_):Prop:=∀a∈d,a.2.1-a.1+c6 a≠0->c<=a.1/\a.2.1<=b
def QF{r:List Int}{d b:Int}:∀{e:List a_},(∀a∈e,0<=a.1/\a.1<=a.2.1)->IE d b e->d<=r.length->∀c:Nat,(c:Int)<d->(gR r e)[c]? =r[c]?
 |[],_,_,_,_,_=>F
 |a::l,i,j,m,c,f=>by
  have n:=i a (dv ..);have ih:=QF (λg h=>i g (ey _ h)) (λg h=>j g (ey _ h)) m;by_cases k:a.2.1-a.1+c6 a=0
  ·rw[QG k n];exact ih c f
  ·have q:=j a (dv ..) k;have o:c<((gR r l).take a.1.toNat).length:=by have p:c<r.length:=G;have:=ih c f;rw[aX p]at this;have:=(dS.1 this).1;rw[bt];omega
   rw[y8,cX,wA o,List.getElem?_take_of_lt G];exact ih c f
def VE{f d:Int}:∀{c:List a_} {b:Int},e9 f b c->(∀a∈c,a.2.1-a.1+c6 a≠0->a.2.1<=d)->-(c8 c)<=max 0 (d-b)
 |[],b,_,_=>by rw[uE];omega
 |a::m,b,g,e=>by
  obtain⟨n,o,h⟩:=g;have ih:=VE h λi j=>e i (ey _ j);have k:=e a (dv ..);rw[oB];unfold iu;by_cases l:a.2.1-a.1+c6 a=0
  ·omega
  ·have:=k l;omega
def QE{r:List Int}{b:Int}(o:b<=r.length):∀{g:List a_} {i:Int},e9 r.length i g->0<=i->(∀a∈g,a.2.1-a.1+c6 a≠0->a.2.1<=b)->∀c d:Nat,b<=c->(d:Int)=c+c8 g->(gR r g)[d]? =r[c]?
 |[],_,_,_,_,c,d,_,h=>by
  rw[uE]at h;obtain rfl:d=c:=G
  rfl
 |a::e,i,p,v,k,c,d,l,h=>by
  obtain⟨q,w,j⟩:=p;have m:∀f∈e,f.2.1-f.1+c6 f≠0->f.2.1<=b:=λf s=>k f (ey _ s);have ih:=QE o j G m;rw[oB]at h;unfold iu at h;by_cases n:a.2.1-a.1+c6 a=0
  ·rw[QG n ⟨G,q.2.1⟩];exact ih c d l G
  ·have x:=k a (dv ..) n;have y:=VE j m;have z:((c:Int)+c8 e).toNat=c+c8 e:=G;have t:=ih c ((c:Int)+c8 e).toNat l G;have A:a.2.1.toNat<=(gR r e).length:=QD (by rw[lQ G];exact j) G;have u:((gR r e).take a.1.toNat++bY a.2.2).length=a.1.toNat+c6 a:=by rw[bf,bt];unfold c6;omega
   rw[y8,oI G,u,kQ,<-t];congr 1;omega
def alT{x:a_}{b:Int×List dx}(g:x.1<=x.2.1)(d:∀a∈b.2,a.1.1<=a.1.2):(∀a∈(km b x).2,a.1.1<=a.1.2)/\(∀a∈b.2,∃c∈(km b x).2,c.1.1<=a.1.1/\a.1.2<=c.1.2)/\(x.2.1-x.1+c6 x≠0->∃c∈(km b x).2,c.1.1<=x.1/\x.2.1<=c.1.2):=by
 unfold km
 dsimp only
 by_cases f:x.2.1-x.1+c6 x=0
 ·rw[au f];exact⟨d,λa hk=>⟨a,hk,gw _,gw _⟩,λk=>aL f k⟩
 ·rw[an f];cases h:b.2.getLast? with
  |none=>
   dsimp only
   have l:b.2=[]:=by simpa using h
   rw[l];exact⟨λa hk=>by rw[fc,cL]at hk;rw[hk];exact g,(λa hk=>by cases hk),λ_=>⟨_,cL.2 F,gw _,gw _⟩⟩
  |some i=>
   dsimp only
   obtain⟨m,e⟩:=Im.1 h;by_cases j:i.1.2=x.1
   ·rw[au j];have n:=d i (by rw[e];simp);have hd:b.2.dropLast=m:=by rw[e,List.dropLast_concat]
    rw[hd];refine⟨λa hk=>?_,λa hk=>?_,λ_=>⟨_,lo _ (cL.2 F),by dsimp only;omega,by dsimp only;omega⟩⟩
    ·rcases b9.1 hk with hk|hk
     ·exact d a (by rw[e];exact hY _ hk)
     ·rw[cL.1 hk];dsimp only;omega
    ·rw[e]at hk;rcases b9.1 hk with hk|hk
     ·exact⟨a,hY _ hk,gw _,gw _⟩
     ·rw[cL.1 hk];exact⟨_,lo _ (cL.2 F),by dsimp only;omega,by dsimp only;omega⟩
   ·rw[an j];refine⟨λa hk=>?_,λa hk=>⟨a,hY _ hk,gw _,gw _⟩,λ_=>⟨_,lo _ (cL.2 F),gw _,gw _⟩⟩;rcases b9.1 hk with hk|hk
    ·exact d a hk
    ·rw[cL.1 hk];exact g
def Sn:∀(e:List a_) (d:Int×List dx),(∀a∈e,a.1<=a.2.1)->(∀b∈d.2,b.1.1<=b.1.2)->
 (∀b∈d.2,∃c∈(e.foldl km d).2,c.1.1<=b.1.1/\b.1.2<=c.1.2)/\∀a∈e,a.2.1-a.1+c6 a≠0->∃c∈(e.foldl km d).2,c.1.1<=a.1/\a.2.1<=c.1.2
 |[],d,_,_=>⟨λb h=>⟨b,h,gw _,gw _⟩,λa g=>by cases g⟩
 |a::e,d,g,o=>by
  obtain⟨p,q,r⟩:=alT (x:=a) (g a (dv ..)) o;obtain⟨m,s⟩:=Sn e (km d a) (λi f=>g i (ey _ f)) p;rw[sf];refine⟨λb h=>?_,λi f n=>?_⟩
  ·obtain⟨c,j,t,u⟩:=q b h;obtain⟨k,l,v,w⟩:=m c j;exact⟨k,l,G,G⟩
  ·rcases df.1 f with rfl|f
   ·obtain⟨c,j,t,u⟩:=r n;obtain⟨k,l,v,w⟩:=m c j;exact⟨k,l,G,G⟩
   ·exact s i f n
variable{t s:Int}
def nF.dw{x:List dx}{e:dx}(c:nF t s x)(hk:e∈x):m_ t x<=e.1.1/\e.1.2<=l2 t x:=by
 cases x with
 |nil=>cases hk
 |cons d f=>
  have a:=c.ay;constructor
  ·unfold m_
   dsimp only
   rcases df.1 hk with rfl|hk
   ·exact gw _
   ·have:=e1.vO a.2.2.2.2.2.2.2.2 e hk;have:=a.2.2.2.1;omega
  ·unfold l2;cases b:(d::f).getLast? with
   |none=>simp at b
   |some g=>exact e1.nP a b e hk
variable{n:Nat}
def ajc{x:List a_}(b:e9 n 0 x)(c:nF n t (ct x)):IE (m_ n (ct x)) (l2 n (ct x)) x:=by intro d e f;obtain⟨_,g⟩:=Sn x (0,[]) (λh i=>(b.Q h i).2.1) (λj a=>by cases a);obtain⟨j,a,k,l⟩:=g d e f;have:=c.dw a;omega
def Lv{α:Type}{p:α->Bool}:∀{b:List α},b.Pairwise (λc a=>p a=af->p c=af)->b=b.filter p++b.filter (λc=>!p c)
 |[],_=>F
 |c::b,d=>by
  rw[List.pairwise_cons]at d;rw[ri,ri];cases f:p c with
  |true=>simp only [if_true,Bool.not_true,j1,if_false,gO];congr 1;exact Lv d.2
  |false=>
   simp only [j1,if_false,Bool.not_false,if_true];have g:∀a∈b,p a=false:=λa e=>by
    cases h:p a with
    |false=>rfl
    |true=>rw[d.1 a e h]at f;cases f
   rw[lF g,fc,Fq λa e=>by rw[g a e];rfl]
variable{x e:aG}
def Ta(a:iQ x e):x.C<=e.C:=by unfold iQ kh at a;rw[decide_eq_false_iff_not]at a;omega
def ah4(a:Int)(b:iQ x e):iQ (hR a x) (hR a e):=by
 unfold iQ kh hR at*;rw[decide_eq_false_iff_not]at*
 dsimp only
 omega
def Lj{α β:Type}{c:α->β}:∀{a:List α},(a.map c).Nodup->a.Nodup
 |[],_=>List.nodup_nil
 |e::a,b=>by rw[eB,Ny]at b;rw[Ny];exact⟨λd=>b.1 (List.mem_map_of_mem d),Lj b.2⟩
variable{x:List aG}
def F6(a:(x.map (·.G)).Nodup)(p:aG->Bool):((x.filter p).map (·.G)).Nodup:=a.sublist (List.Sublist.map _ aop)
def KK{e:List aG}{b:Int}(h:x.Pairwise iQ)(i:e.Pairwise iQ)(m:(e.map (·.G)).Nodup)(q:t<=b)(r:t<=s)
 (u:(x.filter λa=>decide (a.C<t)).Perm (e.filter λa=>decide (a.C<t)))(v:((x.filter λa=>decide (b<a.C)).map (hR (s-b))).Perm (e.filter λa=>decide (s<a.C))):
 ∃j n o k:List aG,x=j++(n++k)/\e=j++(o++k.map (hR (s-b)))/\(∀a∈j,a.C<t)/\(∀a∈n,t<=a.C/\a.C<=b)/\(∀a∈o,t<=a.C/\a.C<=s)/\∀a∈k,b<a.C:=by
 have jj:∀{c:List aG} {d:Int},c.Pairwise iQ->t<=d->c=(c.filter λa=>decide (a.C<t))++((c.filter λa=>decide (t<=a.C/\a.C<=d))++c.filter λa=>decide (d<a.C)):=by
  intro c d p H;have w:=Lv (p:=λa:aG=>decide (a.C<t)) (p.imp λ{a z} g A=>by have:=Ta g;simp only [dF]at*;omega);have B:(c.filter λa=>!decide (a.C<t)).Pairwise iQ:=p.filter _;have l:=Lv (p:=λa:aG=>decide (a.C<=d)) (B.imp λ{a z} g A=>by have:=Ta g;simp only [dF]at*;omega);rw[XQ,XQ]at l;have D:(c.filter λa=>decide (a.C<=d)&&!decide (a.C<t))=c.filter λa=>decide (t<=a.C/\a.C<=d):=AP λa _=>by rw[g0];simp;omega
  have E:(c.filter λa=>(!decide (a.C<=d))&&!decide (a.C<t))=c.filter λa=>decide (d<a.C):=AP λa _=>by rw[g0];simp;omega
  rw[D,E]at l;rw[<-l];exact w
 have F:(x.filter λa=>decide (a.C<t))=e.filter λa=>decide (a.C<t):=My u (h.filter _) (i.filter _) (F6 m _);have G:(x.filter λa=>decide (b<a.C)).map (hR (s-b))=e.filter λa=>decide (s<a.C):=by refine My v ?_ (i.filter _) (F6 m _);rw[List.pairwise_map];exact(h.filter _).imp λg=>ah4 _ g
 refine⟨_,_,e.filter λa=>decide (t<=a.C/\a.C<=s),x.filter λa=>decide (b<a.C),jj h q,?_,λa f=>?_,λa f=>?_,λa f=>?_,λa f=>?_⟩
 ·rw[G,F];exact jj i r
 ·simpa using(fS.1 f).2
 ·simpa using(fS.1 f).2
 ·simpa using(fS.1 f).2
 ·simpa using(fS.1 f).2
variable{v:aH}
def bL.sQ(b:bL v)(a:Int):bX v.r a=bX v.M a:=ahx b.M.cm a
def bL.rR(y:bL v)(q:Int):e5 v.r q=e5 v.M q:=ahy y.M.cm q
def Sp:∀(h:List aB) (f:List aB) (c:aB),(∀d∈f,d.1<d.2)->(c∈h.foldl q8 f↔c∈f\/(c∈h/\c.1<c.2))
 |[],f,c,_=>ae
 |j::h,f,c,k=>by
  have l:∀d∈q8 f j,d.1<d.2:=by
   intro d e;unfold q8 at e;split at e
   ·exact k d e
   ·rename_i m
    rcases b9.1 e with e|e
    ·exact k d e
    ·rw[cL.1 e];omega
  rw[sf,Sp h (q8 f j) c l];unfold q8;split
  ·rename_i i
   constructor
   ·rintro(a|⟨b,g⟩)
    ·exact .inl a
    ·exact .inr ⟨ey _ b,g⟩
   ·rintro(a|⟨b,g⟩)
    ·exact .inl a
    ·rcases df.1 b with rfl|b
     ·rcases i with i|i
      ·exact .inl i
      ·omega
     ·exact .inr ⟨b,g⟩
  ·rename_i m
   constructor
   ·rintro(a|⟨b,g⟩)
    ·rcases b9.1 a with a|a
     ·exact .inl a
     ·rw[cL.1 a];exact .inr ⟨dv ..,G⟩
    ·exact .inr ⟨ey _ b,g⟩
   ·rintro(a|⟨b,g⟩)
    ·exact .inl (hY _ a)
    ·rcases df.1 b with rfl|b
     ·exact .inl (lo _ (cL.2 F))
     ·exact .inr ⟨b,g⟩
def uC{x:List dx}{e:List aB}(a:aB):a∈fE (i_ x e)↔(∃b∈e,hl x b=a)/\a.1<a.2:=by rw[(wh _).mem_iff];unfold i_;rw[Sp _ _ _ (λd c=>by cases c)];simp
def aH.X(v:aH)(es:List a_):aH:={v with Q:=gR v.Q es,R:=jo (v.R.map (jV (ct es))),M:=fE (i_ (ct es) v.M)}
structure rl (v:aH) (es:List a_):Prop where
 aT:e9 v.Q.length 0 es
 bg:es.length<=64
 bt:nC es
 jD:jD es<=100000
def rl.bl{es:List a_}(h:rl v es):((v.X es).z:Int)=v.z+c8 es:=xn h.aT
variable{x:List a_}
def rl.kj(a:rl v x)(b:bL v)(d:(v.X x).z<=1300):nF v.z (v.X x).z (ct x):=by have c:=a.bl;have:=(ajd a.aT (by have:=b.z;have:v.z=v.Q.length:=rfl;omega) (by have:=a.bg;omega) a.bt a.jD (by have:=b.z;have:v.z=v.Q.length:=rfl;omega)).1;rw[c];exact this
def xt(a:bL v)(c:rl v x)(b:(v.X x).z<=1300):bL (v.X x):=by have kj:=c.kj a b;refine⟨b,JS a.aZ x,?_,zG (Mo a.M kj),a.aE,a.a7⟩;obtain⟨d,e⟩:=Mr a.R kj;have:=TP d;rw[e]at this;exact this
def agX(m:bL v)(o:rl v x)(H:(v.X x).z<=1300):
 ∃h b k:Nat,(h:Int)=m_ v.z (ct x)/\(b:Int)=l2 v.z (ct x)/\(k:Int)=b+((v.X x).z-v.z)/\mM v (v.X x) h b k:=by
 have kj:=o.kj m H;have w:=xt m o H;have jj:=kj.jj;have ag:=o.bl;have ah:v.z=v.Q.length:=rfl;have D:IE (m_ v.z (ct x)) (l2 v.z (ct x)) x:=ajc o.aT kj;obtain⟨h,y⟩:∃h:Nat,(h:Int)=m_ v.z (ct x):=⟨(m_ v.z (ct x)).toNat,by have:=jj.aL;omega⟩;obtain⟨b,z⟩:∃b:Nat,(b:Int)=l2 v.z (ct x):=⟨(l2 v.z (ct x)).toNat,by have:=jj.aL;omega⟩;have U:=jj.aL;have V:=jj.up;have K:=jj.vO;have L:=jj.zp;have O:=jj.dV;rw[<-y,<-z]at U O D;rw[<-y]at K;rw[<-z]at L;rw[<-y,<-z]at V;obtain⟨k,W⟩:∃k:Nat,(k:Int)=b+((v.X x).z-v.z):=⟨((b:Int)+((v.X x).z-v.z)).toNat,G⟩;refine⟨h,b,k,y,z,W,?_⟩;have ai:((k:Nat):Int)-b=(v.X x).z-v.z:=G;generalize P:ct x=g at*;have r:∀a aJ,(a:Int)<h->eC g 0 a aJ=a:=K;have s:∀a aJ,(b:Int)<a->eC g 0 a aJ=a+((k:Int)-b):=λa aJ d=>by rw[L a aJ d];omega
 have u:∀a aJ,(h:Int)<=a->a<=b->(h:Int)<=eC g 0 a aJ/\eC g 0 a aJ<=k:=λa aJ h1 e=>by have:=O a aJ h1 e;omega
 have n:∀a aJ c,c<(h:Int)->(eC g 0 a aJ<c↔a<c)/\(eC g 0 a aJ<=c↔a<=c):=by
  intro a aJ c f;rcases j5 a h with h1|h1
  ·rw[r a aJ h1];omega
  ·rcases j5 b a with e|e
   ·rw[s a aJ e];omega
   ·have:=u a aJ h1 e;omega
 have S:∀a aJ c,(b:Int)<c->(eC g 0 a aJ<c+((k:Int)-b)↔a<c):=by
  intro a aJ c f;rcases j5 a h with h1|h1
  ·rw[r a aJ h1];omega
  ·rcases j5 b a with e|e
   ·rw[s a aJ e];omega
   ·have:=u a aJ h1 e;omega
 have t:∀a aJ c,(b:Int)<=c->(eC g 0 a aJ<=c+((k:Int)-b)↔a<=c):=by
  intro a aJ c f;rcases j5 a h with h1|h1
  ·rw[r a aJ h1];omega
  ·rcases j5 b a with e|e
   ·rw[s a aJ e];omega
   ·have:=u a aJ h1 e;omega
 have A:(v.X x).M=fE (i_ g v.M):=by unfold aH.X;rw[P]
 have ab:(v.X x).R=jo (v.R.map (jV g)):=by unfold aH.X;rw[P]
 refine⟨G,G,G,G,G,λB aj=>?_,λB=>?_,λc f=>?_,λc f=>?_,λc f=>?_,λc f=>?_,?_⟩
 ·exact(QF (λa d=>⟨(o.aT.Q a d).1,(o.aT.Q a d).2.1⟩) D G B G).symm
 ·exact(QE (r:=v.Q) (b:=b) G o.aT (gw 0) (λa d ae=>(D a d ae).2) (b+B) (k+B) G G).symm
 ·rw[m.sQ,w.sQ,A,g0,gS,gS];constructor
  ·rintro⟨a,d,i,j⟩;have l:=(n a.1 1 c f).1;have p:=(n a.2 0 c f).2;exact⟨hl g a,(uC _).2 ⟨⟨a,d,F⟩,by unfold hl;dsimp only;omega⟩,by unfold hl;dsimp only;omega⟩
  ·rintro⟨E,q,i,j⟩;obtain⟨⟨a,d,rfl⟩,_⟩:=(uC _).1 q;unfold hl at i j
   dsimp only at i j
   have l:=(n a.1 1 c f).1;have p:=(n a.2 0 c f).2;exact⟨a,d,G,G⟩
 ·rw[m.rR,w.rR,A,g0,oy,oy];constructor
  ·rintro⟨a,d,i,j⟩;have l:=(n a.1 1 c f).2;have p:=(n a.2 0 c f).2;exact⟨hl g a,(uC _).2 ⟨⟨a,d,F⟩,by unfold hl;dsimp only;omega⟩,by unfold hl;dsimp only;omega⟩
  ·rintro⟨E,q,i,j⟩;obtain⟨⟨a,d,rfl⟩,_⟩:=(uC _).1 q;unfold hl at i j
   dsimp only at i j
   have l:=(n a.1 1 c f).2;have p:=(n a.2 0 c f).2;exact⟨a,d,G,G⟩
 ·rw[m.sQ,w.sQ,A,g0,gS,gS];constructor
  ·rintro⟨a,d,i,j⟩;have l:=S a.1 1 c f;have p:=t a.2 0 c G;exact⟨hl g a,(uC _).2 ⟨⟨a,d,F⟩,by unfold hl;dsimp only;omega⟩,by unfold hl;dsimp only;omega⟩
  ·rintro⟨E,q,i,j⟩;obtain⟨⟨a,d,rfl⟩,_⟩:=(uC _).1 q;unfold hl at i j
   dsimp only at i j
   have l:=S a.1 1 c f;have p:=t a.2 0 c G;exact⟨a,d,G,G⟩
 ·rw[m.rR,w.rR,A,g0,oy,oy];constructor
  ·rintro⟨a,d,i,j⟩;have l:=t a.1 1 c f;have p:=t a.2 0 c f;exact⟨hl g a,(uC _).2 ⟨⟨a,d,F⟩,by unfold hl;dsimp only;omega⟩,by unfold hl;dsimp only;omega⟩
  ·rintro⟨E,q,i,j⟩;obtain⟨⟨a,d,rfl⟩,_⟩:=(uC _).1 q;unfold hl at i j
   dsimp only at i j
   have l:=t a.1 1 c f;have p:=t a.2 0 c f;exact⟨a,d,G,G⟩
 ·rw[ab];refine KK m.R.hp (Mx _) ?_ G G ?_ ?_
  ·rw[((wg (v.R.map (jV g))).map (·.G)).nodup_iff,List.map_map];exact m.R.nl
  ·refine aoq ?_ ((wg (v.R.map (jV g))).symm.filter _);rw[Nv];have l:(v.R.filter ((λa=>decide (a.C<(h:Int)))∘jV g))=v.R.filter λa=>decide (a.C<(h:Int)):=AP λa _=>by
    simp only [Nu];unfold jV
    dsimp only
    rw[g0,dF,dF];rcases j5 a.C h with h1|h1
    ·rw[r _ _ h1]
    ·rcases j5 b a.C with e|e
     ·rw[s _ _ e];omega
     ·have:=u a.C a.aJ h1 e;omega
   rw[l];apply aor
   conv=>lhs;rw[<-NR (v.R.filter λa=>decide (a.C<(h:Int)))]
   refine yc λa d=>?_;have:=(fS.1 d).2;rw[dF]at this;unfold jV;rw[r _ _ this];rfl
  ·refine aoq ?_ ((wg (v.R.map (jV g))).symm.filter _);rw[Nv];have l:(v.R.filter ((λa=>decide ((k:Int)<a.C))∘jV g))=v.R.filter λa=>decide ((b:Int)<a.C):=AP λa _=>by
    simp only [Nu];unfold jV
    dsimp only
    rw[g0,dF,dF];rcases j5 a.C h with h1|h1
    ·rw[r _ _ h1];omega
    ·rcases j5 b a.C with e|e
     ·rw[s _ _ e];omega
     ·have:=u a.C a.aJ h1 e;omega
   rw[l];apply aor;refine yc λa d=>?_;have:=(fS.1 d).2;rw[dF]at this;unfold jV hR;rw[s _ _ this]
def aH.bf(v:aH)(M:List aB):aH:={v with M:=M}
def aH.aK(v:aH)(R:List aG):aH:={v with R:=R}
def SI{x:List aG}(d:x.Pairwise iQ)(h:(x.map (·.G)).Nodup)(e:t<=s):∃b f g c:List aG,x=b++(f++c)/\x=b++(g++c.map (hR (s-s)))/\(∀a∈b,a.C<t)/\(∀a∈f,t<=a.C/\a.C<=s)/\(∀a∈g,t<=a.C/\a.C<=s)/\∀a∈c,s<a.C:=by refine KK d d h e e (List.Perm.refl _) ?_;rw[show s-s=0 from G,show hR 0=id from by funext a;simp[hR],NR]
def Sm{M:List aB}{a b:Nat}(e:bL v)(r:od v.z M)(m:a<=b)(n:b<=v.z)(l:∀d:aB,(d∈v.M/\d∉M)\/(d∈M/\d∉v.M)->(a:Int)<=d.1/\d.2<=b):bL (v.bf M)/\mM v (v.bf M) a b b:=by
 have k:bL (v.bf M):=⟨e.z,e.aZ,e.R,r,e.aE,e.a7⟩;have o:∀c:Int,c<a\/(b:Int)<c->bX v.M c=bX M c:=by
  intro c g;rw[g0,gS,gS];constructor
  ·rintro⟨d,h,i,j⟩;by_cases f:d∈M
   ·exact⟨d,f,i,j⟩
   ·have:=l d (.inl ⟨h,f⟩);omega
  ·rintro⟨d,h,i,j⟩;by_cases f:d∈v.M
   ·exact⟨d,f,i,j⟩
   ·have:=l d (.inr ⟨h,f⟩);omega
 have p:∀c:Int,c<a\/(b:Int)<=c->e5 v.M c=e5 M c:=by
  intro c g;rw[g0,oy,oy];constructor
  ·rintro⟨d,h,i,j⟩;by_cases f:d∈M
   ·exact⟨d,f,i,j⟩
   ·have:=l d (.inl ⟨h,f⟩);omega
  ·rintro⟨d,h,i,j⟩;by_cases f:d∈v.M
   ·exact⟨d,f,i,j⟩
   ·have:=l d (.inr ⟨h,f⟩);omega
 have q:∀c:Int,c+((b:Int)-b)=c:=λc=>G;refine⟨k,m,m,n,n,F,λ_ _=>F,λ_=>F,λc g=>?_,λc g=>?_,λc g=>?_,λc g=>?_,SI e.R.hp e.R.nl G⟩
 ·rw[e.sQ,k.sQ];exact o c (.inl g)
 ·rw[e.rR,k.rR];exact p c (.inl g)
 ·rw[q,e.sQ,k.sQ];exact o c (.inr g)
 ·rw[q,e.rR,k.rR];exact p c (.inr g)
def ahK{x:aH}{R:List aG}{k:Nat}(b:bL x)(f:qx x.z R)(j:n<=k)(l:k<=x.z)(m:∀a:aG,a.C<n\/(k:Int)<a.C->(a∈x.R↔a∈R)):bL (x.aK R)/\mM x (x.aK R) n k k:=by
 have r:bL (x.aK R):=⟨b.z,b.aZ,f,b.M,b.aE,b.a7⟩;have o:∀c:Int,c+((k:Int)-k)=c:=λc=>G;have p:∀d:aG->Bool,(∀a,d a=af->a.C<n\/(k:Int)<a.C)->(x.R.filter d).Perm (R.filter d):=by
  intro d q;refine(List.perm_ext_iff_of_nodup ?_ ?_).2 λa=>?_
  ·exact Lj (F6 b.R.nl d)
  ·exact Lj (F6 f.nl d)
  ·rw[fS,fS];constructor
   ·rintro⟨g,e⟩;exact⟨(m a (q a e)).1 g,e⟩
   ·rintro⟨g,e⟩;exact⟨(m a (q a e)).2 g,e⟩
 refine⟨r,j,j,l,l,F,λ_ _=>F,λ_=>F,λc h=>F,λc h=>F,λc h=>by rw[o];rfl,λc h=>by rw[o];rfl,?_⟩;refine KK b.R.hp f.hp f.nl G G (p _ λa i=>?_) ?_
 ·left;simpa using i
 ·rw[show(k:Int)-k=0 from G,show hR 0=id from by funext a;simp[hR],NR];exact p _ λa i=>by right;simpa using i
end aY
namespace aY
open Go.Lift Go.RowKit Go.bW Go.cB Go.Proofs.YtoddhldofgfdmaaGreatDoor.b0
def TS:∀{b:List dx} {c d:Int} {e:Bool} {k:dx},e1 c d e b->b.getLast? =J k->k.2.2-k.1.2=d-c+cx b
 |[],_,_,_,_,_,a=>by simp at a
 |[g],c,d,e,k,f,a=>by
  have:g=k:=by simpa using a
  subst this;obtain⟨i,j,l,m,n,o,p,q,h⟩:=f;rw[BE,show cx []=0 from F];omega
 |g::r::b,c,d,e,k,f,a=>by obtain⟨i,j,l,m,n,o,p,q,h⟩:=f;rw[BE];have:=TS h (k:=k) (by simpa using a);omega
def zP(a b d:Option hr)(g h:Int):kW [ad a,ad b,ad d,I X g,I X h]:=by
 refine⟨λi e=>?_,λa c=>?_,λa f d i k c=>?_,λj a f d c=>?_,λj a f d l m n c=>?_,λc=>?_⟩
 ·simp at e;rcases e with rfl|rfl|rfl|rfl|rfl<;>rfl
 all_goals simp at c
def CF(d:Option hr)(i j k N n:Int)(e f:bK):kW (gd (ad d) i j k N n e f):=by
 obtain⟨b,p,c⟩:=e;obtain⟨l,q,m⟩:=f;refine⟨λo g=>?_,λb a=>?_,λb h c o r a=>?_,λn b h c a=>?_,λn b h c l s m a=>?_,λ_ t d u a=>?_⟩
 ·simp only [gd,df,ln,or_false]at g;rcases g with rfl|rfl|rfl|rfl|rfl|rfl|rfl|rfl<;>rfl
 all_goals simp[gd]at a
variable{v:Z}
def k_{n k:Nat}{S:List Z}{α:Type}{w a:aa}{A b T:Nat}{V:α->List Z}{L:List α}(c:ar w A n k v V L)(d:bQ w b S T)(f:T≠n)(g:w.grownBy a (J b)):ar a A n k v V L:=by
 refine c.ab g ?_;cases h:v.ownBlock with
 |none=>exact .inl F
 |some j=>refine .inr λi=>?_;cases i;obtain⟨_,l,e⟩:=c.de h;unfold bQ at d;rw[d]at e;cases e;exact f F
def uw{x:List (List Int)}{w:aa}(a:gF w v x):∃b,v=ad b:=by rcases a with⟨rfl,_⟩|⟨c,d,rfl,_⟩<;>exact⟨_,F⟩
variable{w:aa}
def agV{x:List a_}(c:aC w v 3 cp x)(d:x.length<=2000000):ak Y 136 [v] w λb a=>O w a/\ar a w.heap.size 70 3 b cp x:=by apply OS;have:=k5.cu (K:=λb a=>O w a/\ar a w.heap.size 70 3 b cp x) c d λb a e f=>⟨e,f⟩;exact this
def Ln{x e:Z}{v:aH}{es:List a_}(de:e2 w x v)(V:bL v)(hC:fV w)(eS:hJ w)(bS:aC w e 3 cp es)(eT:nC es)(hD:gu v.z es=0->rl v es/\(v.X es).z<=1300):
 ak Y 76 [x,e] w λb B=>O w B/\((gu v.z es≠0/\b=a1 #[al hS.toArray,I X (gu v.z es)])\/(gu v.z es=0/\∃(dh:Z) (r W N n q c:Nat) (eU eV:bK),b=a1 #[al (gd dh r W r N 0 eU eV).toArray,I X 0]/\e2 B dh (v.X es)/\
  (n:Int)=m_ v.z (ct es)/\(q:Int)=l2 v.z (ct es)/\(c:Int)=q+((v.X es).z-v.z)/\oU v (v.X es) n q c r W N/\ar B w.heap.size 70 3 (ay eU) cp (dw v.Q 0 es)/\ar B w.heap.size 70 3 (ay eV) cp es)):=by
 have hH:∃j,x=ad (J ⟨j,0,ac⟩):=by obtain⟨j,_,_,i,_⟩:=de;exact⟨j,i⟩
 obtain⟨j,rfl⟩:=hH;have mn:v.z=v.Q.length:=rfl;have mo:=V.z;apply aa6;refine lb it λeX hI mq mr eY hK=>?_;have hL:bQ hI eX hS 184:=hK;rw[fZ D];show b6 (ax ao) _ _;rw[cw];refine(q9 de eY).o ?_;rintro b ms ⟨di,mt,rfl,_,eZ⟩;have hM:=eZ.B.2;obtain⟨mu,mv,mw,mx,rfl,bT,dl,dm,fa,fd⟩:=eZ;have fe:=eY.a di;obtain⟨dn,rfl⟩:=uw bT;obtain⟨dp,_,rfl,_⟩:=id fa;obtain⟨bU,_,_,rfl,_⟩:=id fd;refine nX (cS:=[ad dn,ad (J ⟨dp,0,ac⟩),ad (J ⟨bU,0,ac⟩),I X v.aE,I X v.a7]) sE tQ g F F hM λbV hN my mz ff hO=>?_;have dq:bQ hN bV [ad dn,ad (J ⟨dp,0,ac⟩),ad (J ⟨bU,0,ac⟩),I X v.aE,I X v.a7] 100:=hO;have dr:=fe.a ff;rw[M mW gl (dq.H.b.f 0 F)];refine(afJ (bT.h dr) dl (bS.h dr) eT).o ?_;rintro b m0 ⟨aY,fg⟩;rw[dm]at fg;have ds:=dr.a aY;have fh:=((hL.h di).h ff).h aY;rcases fg with⟨dt,rfl⟩|⟨du,m1,rfl,fj⟩
 ·rw[aN,aO,bs,bu];refine⟨λ_=>?_,λi=>aL i dt⟩;rw[bz (S:=hS) (iR:=[]) it pR F F];refine i1 is h8 g fh g ki F F g λo m2 hQ m3 m4=>?_;exact⟨ds.ab hQ λf a=>by cases a;omega,.inl ⟨dt,F⟩⟩
 obtain⟨am,dy⟩:=hD du;have kj:=am.kj V dy;have hR:=xt V am dy;have m5:=kj.jA;have m6:=kj.b4;have fk:=kj.cF;have m7:=kj.bl;obtain⟨n,q,c,bX,bY,hT,hU⟩:=agX V am dy;rw[aN,aO,bs,bu];refine⟨λi=>aL F i,λ_=>?_⟩;refine(ajR (n:=v.z) (bS.h ds) G (by have:=am.bg;omega) (λt hV=>am.aT.Q t hV) am.bt).o ?_;rintro bZ o ⟨a0,ca⟩;have dz:=ds.a a0;have m9:=dz.size;have cf:=ca.aI lz;obtain⟨a2,rfl⟩:=fj.ay;refine bG.y (λba h=>O o h/\∃C a3:Nat,ba=[ad (J ⟨C,0,ac⟩),ad (J ⟨a3,0,ac⟩)]/\o.heap.size<=C/\o.heap.size<=a3/\C≠a3/\ag h C (ah (0,(v.z:Int)))/\ag h a3 (ah (0,(v.z:Int)+cx (ct es)))) ?_ ?_
 ·apply bE.h;have l:O o o.drew:=(O.p o).C;have ia:=l.size;have fl:=(dq.h aY).h a0;rw[b2 mW gl (fl.H.b.f 0 F) l,b2 mW gl (fl.H.b.f 0 F) l];have m:∀{h:aa},O o h->ak Y 55 [ad dn] h λb B=>O h B/\b=I X v.z:=λbb=>by have:=kK (bT.h (dz.a bb)) dl;rwa[dm]at this
  have cF:∀{h:aa},O o h->ak Y 139 [bZ] h λb B=>O h B/\b=I X (cx (ct es)):=λbb=>xQ (cf.h bb) kj.p2 G;have j:∀(N:Int) {h:aa} {d0:Z->Prop},O o h->cW (O o) h (λw k=>fo Y 49 [(1,I X N)] w k) d0=d0 (al (ah (0,N)).toArray):=λN {h d0} bb=>aK (λh i k=>bz (iR:=[(1,[I X N])]) dg jO F F) bb;refine⟨?_,?_,?_⟩
  ·refine(m l).o ?_;rintro b mA ⟨fm,rfl⟩;have u:=O.a l fm;have mB:=u.size;have mC:=fm.size;refine⟨u,?_⟩;rw[j (v.z:Int) u];refine⟨?_,?_,?_⟩
   ·refine(m u).o ?_;rintro b mD ⟨fn,rfl⟩;have H:=O.a u fn;have mI:=H.size;have mJ:=fn.size;refine⟨H,?_⟩;refine⟨?_,?_,?_⟩
    ·refine(cF H).o ?_;rintro b mK ⟨fp,rfl⟩;have K:=O.a H fp;have mL:=K.size;have mM:=fp.size;refine⟨K,?_⟩;rw[aK (λh i k=>aD) K];rw[j ((v.z:Int)+cx (ct es)) K];refine⟨?_,?_⟩
     ·refine bo dg λfr mN mO mP fs ib=>⟨O.a K fs,?_⟩;have d2:=O.a K fs;have mQ:=d2.size;refine bo dg λft mR mS mT d3 ic=>⟨O.a d2 d3,?_⟩;have fu:=O.a d2 d3;have mU:=fu.size;refine aZ (cS:=ah (0,(v.z:Int))) dj g (ib.h d3) F F ae (dk _) λie mX fv ii=>?_;have ij:ag ie fr (ah (0,(v.z:Int))):=ii;have d4:=O.ab fu fv (λf a=>by cases a;omega);have mY:=d4.size;refine⟨d4,?_⟩;refine aZ (cS:=ah (0,((v.z:Int)+cx (ct es)))) dj g (ic.ab fv (be G)) F F ae (dk _) λik mZ fw il=>?_;have im:ag ik ft (ah (0,((v.z:Int)+cx (ct es)))):=il;have fz:=O.ab d4 fw (λf a=>by cases a;omega);have na:=fz.size;exact⟨fz,fr,ft,F,G,G,G,(ij.ab fw (be G)),im⟩
     ·refine bo dg λf0 nb nc nd f1 io=>⟨O.a K f1,?_⟩;have d5:=O.a K f1;have ne:=d5.size;refine bo dg λf2 nf ng nh d6 ip=>⟨O.a d5 d6,?_⟩;have f3:=O.a d5 d6;have ni:=f3.size;refine aZ (cS:=ah (0,(v.z:Int))) dj g ip F F ae (dk _) λiq nj f4 ir=>?_;have iu:ag iq f2 (ah (0,(v.z:Int))):=ir;have d7:=O.ab f3 f4 (λf a=>by cases a;omega);have nk:=d7.size;refine⟨d7,?_⟩;refine aZ (cS:=ah (0,((v.z:Int)+cx (ct es)))) dj g ((io.h d6).ab f4 (be G)) F F ae (dk _) λiv nl f5 iw=>?_;have ix:ag iv f0 (ah (0,((v.z:Int)+cx (ct es)))):=iw;have f6:=O.ab d7 f5 (λf a=>by cases a;omega);have nm:=f6.size;exact⟨f6,f2,f0,F,G,G,G,(iu.ab f5 (be G)),ix⟩
    ·refine bo dg λcg nn no np f7 f8=>⟨O.a H f7,?_⟩;have bc:=O.a H f7;have nq:=bc.size;refine⟨?_,?_⟩
     ·refine(cF bc).o ?_;rintro b nr ⟨d8,rfl⟩;have a4:=O.a bc d8;have ns:=a4.size;have nt:=d8.size;refine⟨a4,?_⟩;rw[aK (λh i k=>aD) a4];rw[j ((v.z:Int)+cx (ct es)) a4];refine bo dg λf9 nu n0 n1 d9 iy=>⟨O.a a4 d9,?_⟩;have fA:=O.a a4 d9;have n6:=fA.size;refine aZ (cS:=ah (0,(v.z:Int))) dj g ((f8.h d8).h d9) F F ae (dk _) λi0 n7 fB i2=>?_;have i3:ag i0 cg (ah (0,(v.z:Int))):=i2;have dA:=O.ab fA fB (λf a=>by cases a;omega);have n8:=dA.size;refine⟨dA,?_⟩;refine aZ (cS:=ah (0,((v.z:Int)+cx (ct es)))) dj g (iy.ab fB (be G)) F F ae (dk _) λi4 nB fC i5=>?_;have i6:ag i4 f9 (ah (0,((v.z:Int)+cx (ct es)))):=i5;have fD:=O.ab dA fC (λf a=>by cases a;omega);have nD:=fD.size;exact⟨fD,cg,f9,F,G,G,G,(i3.ab fC (be G)),i6⟩
     ·refine bo dg λfE nE nF nG dB i7=>⟨O.a bc dB,?_⟩;have dC:=O.a bc dB;have nH:=dC.size;refine(cF dC).o ?_;rintro b nI ⟨ch,rfl⟩;have bd:=O.a dC ch;have nJ:=bd.size;have nK:=ch.size;refine⟨bd,?_⟩;rw[aK (λh i k=>aD) bd];rw[j ((v.z:Int)+cx (ct es)) bd];refine aZ (cS:=ah (0,(v.z:Int))) dj g ((f8.h dB).h ch) F F ae (dk _) λi8 nL fF i9=>?_;have iC:ag i8 cg (ah (0,(v.z:Int))):=i9;have dD:=O.ab bd fF (λf a=>by cases a;omega);have nM:=dD.size;refine⟨dD,?_⟩;refine aZ (cS:=ah (0,((v.z:Int)+cx (ct es)))) dj g ((i7.h ch).ab fF (be G)) F F ae (dk _) λiD nN fG iE=>?_;have iF:ag iD fE (ah (0,((v.z:Int)+cx (ct es)))):=iE;have fH:=O.ab dD fG (λf a=>by cases a;omega);have nO:=fH.size;exact⟨fH,cg,fE,F,G,G,G,(iC.ab fG (be G)),iF⟩
    ·refine bo dg λci nP nQ nR fI fJ=>⟨O.a H fI,?_⟩;have bh:=O.a H fI;have nS:=bh.size;refine⟨?_,?_⟩
     ·refine(cF bh).o ?_;rintro b nT ⟨dE,rfl⟩;have a5:=O.a bh dE;have nU:=a5.size;have nV:=dE.size;refine⟨a5,?_⟩;rw[aK (λh i k=>aD) a5];rw[j ((v.z:Int)+cx (ct es)) a5];refine bo dg λfK nW nY nZ dF iG=>⟨O.a a5 dF,?_⟩;have fL:=O.a a5 dF;have od:=fL.size;refine aZ (cS:=ah (0,(v.z:Int))) dj g iG F F ae (dk _) λiH oe fM iI=>?_;have iK:ag iH fK (ah (0,(v.z:Int))):=iI;have dG:=O.ab fL fM (λf a=>by cases a;omega);have of:=dG.size;refine⟨dG,?_⟩;refine aZ (cS:=ah (0,((v.z:Int)+cx (ct es)))) dj g (((fJ.h dE).h dF).ab fM (be G)) F F ae (dk _) λiL og fO iM=>?_;have iN:ag iL ci (ah (0,((v.z:Int)+cx (ct es)))):=iM;have fP:=O.ab dG fO (λf a=>by cases a;omega);have oh:=fP.size;exact⟨fP,fK,ci,F,G,G,G,(iK.ab fO (be G)),iN⟩
     ·refine bo dg λfQ oi oj ok dH iO=>⟨O.a bh dH,?_⟩;have dI:=O.a bh dH;have ol:=dI.size;refine(cF dI).o ?_;rintro b om ⟨cj,rfl⟩;have bi:=O.a dI cj;have on:=bi.size;have oo:=cj.size;refine⟨bi,?_⟩;rw[aK (λh i k=>aD) bi];rw[j ((v.z:Int)+cx (ct es)) bi];refine aZ (cS:=ah (0,(v.z:Int))) dj g (iO.h cj) F F ae (dk _) λiP op fR iQ=>?_;have iR:ag iP fQ (ah (0,(v.z:Int))):=iQ;have dK:=O.ab bi fR (λf a=>by cases a;omega);have oq:=dK.size;refine⟨dK,?_⟩;refine aZ (cS:=ah (0,((v.z:Int)+cx (ct es)))) dj g (((fJ.h dH).h cj).ab fR (be G)) F F ae (dk _) λiS or fU iT=>?_;have iU:ag iS ci (ah (0,((v.z:Int)+cx (ct es)))):=iT;have fW:=O.ab dK fU (λf a=>by cases a;omega);have os:=fW.size;exact⟨fW,fQ,ci,F,G,G,G,(iR.ab fU (be G)),iU⟩
   ·refine bo dg λa8 ot ou ow fX dL=>⟨O.a u fX,?_⟩;have bj:=O.a u fX;have ox:=bj.size;refine⟨?_,?_⟩
    ·refine(m bj).o ?_;rintro b oy ⟨ck,rfl⟩;have a9:=O.a bj ck;have oz:=a9.size;have o0:=ck.size;refine⟨a9,?_⟩;refine⟨?_,?_⟩
     ·refine(cF a9).o ?_;rintro b o1 ⟨dM,rfl⟩;have aA:=O.a a9 dM;have o2:=aA.size;have o3:=dM.size;refine⟨aA,?_⟩;rw[aK (λh i k=>aD) aA];rw[j ((v.z:Int)+cx (ct es)) aA];refine bo dg λfY o4 o5 o6 dO iV=>⟨O.a aA dO,?_⟩;have ga:=O.a aA dO;have o7:=ga.size;refine aZ (cS:=ah (0,(v.z:Int))) dj g (((dL.h ck).h dM).h dO) F F ae (dk _) λiW o8 gb iX=>?_;have iY:ag iW a8 (ah (0,(v.z:Int))):=iX;have dP:=O.ab ga gb (λf a=>by cases a;omega);have o9:=dP.size;refine⟨dP,?_⟩;refine aZ (cS:=ah (0,((v.z:Int)+cx (ct es)))) dj g (iV.ab gb (be G)) F F ae (dk _) λiZ oA gc ja=>?_;have je:ag iZ fY (ah (0,((v.z:Int)+cx (ct es)))):=ja;have ge:=O.ab dP gc (λf a=>by cases a;omega);have oB:=ge.size;exact⟨ge,a8,fY,F,G,G,G,(iY.ab gc (be G)),je⟩
     ·refine bo dg λgf oC oD oE dQ jf=>⟨O.a a9 dQ,?_⟩;have dR:=O.a a9 dQ;have oF:=dR.size;refine(cF dR).o ?_;rintro b oG ⟨cm,rfl⟩;have bk:=O.a dR cm;have oL:=bk.size;have oM:=cm.size;refine⟨bk,?_⟩;rw[aK (λh i k=>aD) bk];rw[j ((v.z:Int)+cx (ct es)) bk];refine aZ (cS:=ah (0,(v.z:Int))) dj g (((dL.h ck).h dQ).h cm) F F ae (dk _) λjg oN gg jh=>?_;have ji:ag jg a8 (ah (0,(v.z:Int))):=jh;have dT:=O.ab bk gg (λf a=>by cases a;omega);have oO:=dT.size;refine⟨dT,?_⟩;refine aZ (cS:=ah (0,((v.z:Int)+cx (ct es)))) dj g ((jf.h cm).ab gg (be G)) F F ae (dk _) λjj oQ gi jk=>?_;have jl:ag jj gf (ah (0,((v.z:Int)+cx (ct es)))):=jk;have gj:=O.ab dT gi (λf a=>by cases a;omega);have oR:=gj.size;exact⟨gj,a8,gf,F,G,G,G,(ji.ab gi (be G)),jl⟩
    ·refine bo dg λgk oS oT oV dU jm=>⟨O.a bj dU,?_⟩;have dV:=O.a bj dU;have oW:=dV.size;refine(m dV).o ?_;rintro b oX ⟨cn,rfl⟩;have co:=O.a dV cn;have oY:=co.size;have oZ:=cn.size;refine⟨co,?_⟩;refine(cF co).o ?_;rintro b pa ⟨cq,rfl⟩;have bm:=O.a co cq;have pb:=bm.size;have pc:=cq.size;refine⟨bm,?_⟩;rw[aK (λh i k=>aD) bm];rw[j ((v.z:Int)+cx (ct es)) bm];refine aZ (cS:=ah (0,(v.z:Int))) dj g (((dL.h dU).h cn).h cq) F F ae (dk _) λjn pd gm jo=>?_;have jp:ag jn a8 (ah (0,(v.z:Int))):=jo;have dW:=O.ab bm gm (λf a=>by cases a;omega);have pe:=dW.size;refine⟨dW,?_⟩;refine aZ (cS:=ah (0,((v.z:Int)+cx (ct es)))) dj g (((jm.h cn).h cq).ab gm (be G)) F F ae (dk _) λjq pf gn jr=>?_;have jt:ag jq gk (ah (0,((v.z:Int)+cx (ct es)))):=jr;have go:=O.ab dW gn (λf a=>by cases a;omega);have pg:=go.size;exact⟨go,a8,gk,F,G,G,G,(jp.ab gn (be G)),jt⟩
   ·refine bo dg λaB ph pi pl gp dX=>⟨O.a u gp,?_⟩;have bn:=O.a u gp;have pm:=bn.size;refine⟨?_,?_⟩
    ·refine(m bn).o ?_;rintro b pp ⟨cr,rfl⟩;have aG:=O.a bn cr;have pu:=aG.size;have px:=cr.size;refine⟨aG,?_⟩;refine⟨?_,?_⟩
     ·refine(cF aG).o ?_;rintro b py ⟨dY,rfl⟩;have aH:=O.a aG dY;have pz:=aH.size;have p0:=dY.size;refine⟨aH,?_⟩;rw[aK (λh i k=>aD) aH];rw[j ((v.z:Int)+cx (ct es)) aH];refine bo dg λgq p1 p3 p4 dZ ju=>⟨O.a aH dZ,?_⟩;have gr:=O.a aH dZ;have p5:=gr.size;refine aZ (cS:=ah (0,(v.z:Int))) dj g ju F F ae (dk _) λjv p6 gs jw=>?_;have jx:ag jv gq (ah (0,(v.z:Int))):=jw;have ea:=O.ab gr gs (λf a=>by cases a;omega);have p7:=ea.size;refine⟨ea,?_⟩;refine aZ (cS:=ah (0,((v.z:Int)+cx (ct es)))) dj g ((((dX.h cr).h dY).h dZ).ab gs (be G)) F F ae (dk _) λjy p8 gt jz=>?_;have j0:ag jy aB (ah (0,((v.z:Int)+cx (ct es)))):=jz;have gv:=O.ab ea gt (λf a=>by cases a;omega);have p9:=gv.size;exact⟨gv,gq,aB,F,G,G,G,(jx.ab gt (be G)),j0⟩
     ·refine bo dg λgy pA pB pC eb j9=>⟨O.a aG eb,?_⟩;have ed:=O.a aG eb;have pD:=ed.size;refine(cF ed).o ?_;rintro b pE ⟨cs,rfl⟩;have br:=O.a ed cs;have pF:=br.size;have pG:=cs.size;refine⟨br,?_⟩;rw[aK (λh i k=>aD) br];rw[j ((v.z:Int)+cx (ct es)) br];refine aZ (cS:=ah (0,(v.z:Int))) dj g (j9.h cs) F F ae (dk _) λjB pH gz jC=>?_;have jD:ag jB gy (ah (0,(v.z:Int))):=jC;have ee:=O.ab br gz (λf a=>by cases a;omega);have pI:=ee.size;refine⟨ee,?_⟩;refine aZ (cS:=ah (0,((v.z:Int)+cx (ct es)))) dj g ((((dX.h cr).h eb).h cs).ab gz (be G)) F F ae (dk _) λjE pJ g1 jL=>?_;have jM:ag jE aB (ah (0,((v.z:Int)+cx (ct es)))):=jL;have g2:=O.ab ee g1 (λf a=>by cases a;omega);have pK:=g2.size;exact⟨g2,gy,aB,F,G,G,G,(jD.ab g1 (be G)),jM⟩
    ·refine bo dg λg3 pM pN pO ef jN=>⟨O.a bn ef,?_⟩;have eg:=O.a bn ef;have pS:=eg.size;refine(m eg).o ?_;rintro b pT ⟨cu,rfl⟩;have cy:=O.a eg cu;have pV:=cy.size;have pW:=cu.size;refine⟨cy,?_⟩;refine(cF cy).o ?_;rintro b pX ⟨cz,rfl⟩;have bv:=O.a cy cz;have pY:=bv.size;have pZ:=cz.size;refine⟨bv,?_⟩;rw[aK (λh i k=>aD) bv];rw[j ((v.z:Int)+cx (ct es)) bv];refine aZ (cS:=ah (0,(v.z:Int))) dj g ((jN.h cu).h cz) F F ae (dk _) λjP qa g4 jQ=>?_;have jR:ag jP g3 (ah (0,(v.z:Int))):=jQ;have ei:=O.ab bv g4 (λf a=>by cases a;omega);have qb:=ei.size;refine⟨ei,?_⟩;refine aZ (cS:=ah (0,((v.z:Int)+cx (ct es)))) dj g ((((dX.h ef).h cu).h cz).ab g4 (be G)) F F ae (dk _) λjS qc g5 jT=>?_;have jU:ag jS aB (ah (0,((v.z:Int)+cx (ct es)))):=jT;have g6:=O.ab ei g5 (λf a=>by cases a;omega);have qd:=g6.size;exact⟨g6,g3,aB,F,G,G,G,(jR.ab g5 (be G)),jU⟩
  ·refine bo dg λL qe qf qg g7 c0=>⟨O.a l g7,?_⟩;have bw:=O.a l g7;have qr:=bw.size;refine⟨?_,?_⟩
   ·refine(m bw).o ?_;rintro b qu ⟨bx,rfl⟩;have an:=O.a bw bx;have qv:=an.size;have qw:=bx.size;refine⟨an,?_⟩;rw[j (v.z:Int) an];refine⟨?_,?_⟩
    ·refine(m an).o ?_;rintro b qx ⟨c1,rfl⟩;have aJ:=O.a an c1;have qy:=aJ.size;have qz:=c1.size;refine⟨aJ,?_⟩;refine⟨?_,?_⟩
     ·refine(cF aJ).o ?_;rintro b q0 ⟨ej,rfl⟩;have aM:=O.a aJ ej;have q1:=aM.size;have q2:=ej.size;refine⟨aM,?_⟩;rw[aK (λh i k=>aD) aM];rw[j ((v.z:Int)+cx (ct es)) aM];refine bo dg λg8 q3 q4 q5 ek jV=>⟨O.a aM ek,?_⟩;have g9:=O.a aM ek;have q6:=g9.size;refine aZ (cS:=ah (0,(v.z:Int))) dj g ((((c0.h bx).h c1).h ej).h ek) F F ae (dk _) λjW q7 gC jX=>?_;have jY:ag jW L (ah (0,(v.z:Int))):=jX;have el:=O.ab g9 gC (λf a=>by cases a;omega);have q8:=el.size;refine⟨el,?_⟩;refine aZ (cS:=ah (0,((v.z:Int)+cx (ct es)))) dj g (jV.ab gC (be G)) F F ae (dk _) λjZ qA gD kb=>?_;have kc:ag jZ g8 (ah (0,((v.z:Int)+cx (ct es)))):=kb;have gE:=O.ab el gD (λf a=>by cases a;omega);have qB:=gE.size;exact⟨gE,L,g8,F,G,G,G,(jY.ab gD (be G)),kc⟩
     ·refine bo dg λgG qC qD qE em kd=>⟨O.a aJ em,?_⟩;have en:=O.a aJ em;have qF:=en.size;refine(cF en).o ?_;rintro b qG ⟨c2,rfl⟩;have b0:=O.a en c2;have qH:=b0.size;have qI:=c2.size;refine⟨b0,?_⟩;rw[aK (λh i k=>aD) b0];rw[j ((v.z:Int)+cx (ct es)) b0];refine aZ (cS:=ah (0,(v.z:Int))) dj g ((((c0.h bx).h c1).h em).h c2) F F ae (dk _) λke qJ gH kf=>?_;have kg:ag ke L (ah (0,(v.z:Int))):=kf;have eo:=O.ab b0 gH (λf a=>by cases a;omega);have qK:=eo.size;refine⟨eo,?_⟩;refine aZ (cS:=ah (0,((v.z:Int)+cx (ct es)))) dj g ((kd.h c2).ab gH (be G)) F F ae (dk _) λkh qL gI kk=>?_;have kl:ag kh gG (ah (0,((v.z:Int)+cx (ct es)))):=kk;have gJ:=O.ab eo gI (λf a=>by cases a;omega);have qM:=gJ.size;exact⟨gJ,L,gG,F,G,G,G,(kg.ab gI (be G)),kl⟩
    ·refine bo dg λgK qN qO qP ep km=>⟨O.a an ep,?_⟩;have eq:=O.a an ep;have qQ:=eq.size;refine(m eq).o ?_;rintro b qR ⟨c3,rfl⟩;have c4:=O.a eq c3;have qS:=c4.size;have qT:=c3.size;refine⟨c4,?_⟩;refine(cF c4).o ?_;rintro b qU ⟨c5,rfl⟩;have b1:=O.a c4 c5;have qV:=b1.size;have qW:=c5.size;refine⟨b1,?_⟩;rw[aK (λh i k=>aD) b1];rw[j ((v.z:Int)+cx (ct es)) b1];refine aZ (cS:=ah (0,(v.z:Int))) dj g ((((c0.h bx).h ep).h c3).h c5) F F ae (dk _) λkn qX gL ko=>?_;have kr:ag kn L (ah (0,(v.z:Int))):=ko;have er:=O.ab b1 gL (λf a=>by cases a;omega);have qY:=er.size;refine⟨er,?_⟩;refine aZ (cS:=ah (0,((v.z:Int)+cx (ct es)))) dj g (((km.h c3).h c5).ab gL (be G)) F F ae (dk _) λks qZ gM kt=>?_;have ku:ag ks gK (ah (0,((v.z:Int)+cx (ct es)))):=kt;have gN:=O.ab er gM (λf a=>by cases a;omega);have ra:=gN.size;exact⟨gN,L,gK,F,G,G,G,(kr.ab gM (be G)),ku⟩
   ·refine bo dg λgP rd rm rn et kv=>⟨O.a bw et,?_⟩;have eu:=O.a bw et;have ro:=eu.size;refine(m eu).o ?_;rintro b rp ⟨c6,rfl⟩;have b3:=O.a eu c6;have rq:=b3.size;have rr:=c6.size;refine⟨b3,?_⟩;rw[j (v.z:Int) b3];refine(m b3).o ?_;rintro b rs ⟨c7,rfl⟩;have c8:=O.a b3 c7;have rt:=c8.size;have ru:=c7.size;refine⟨c8,?_⟩;refine(cF c8).o ?_;rintro b rv ⟨c9,rfl⟩;have b5:=O.a c8 c9;have rx:=b5.size;have ry:=c9.size;refine⟨b5,?_⟩;rw[aK (λh i k=>aD) b5];rw[j ((v.z:Int)+cx (ct es)) b5];refine aZ (cS:=ah (0,(v.z:Int))) dj g ((((c0.h et).h c6).h c7).h c9) F F ae (dk _) λkw rz gQ kx=>?_;have ky:ag kw L (ah (0,(v.z:Int))):=kx;have ev:=O.ab b5 gQ (λf a=>by cases a;omega);have r0:=ev.size;refine⟨ev,?_⟩;refine aZ (cS:=ah (0,((v.z:Int)+cx (ct es)))) dj g ((((kv.h c6).h c7).h c9).ab gQ (be G)) F F ae (dk _) λkz r1 gR k0=>?_;have k1:ag kz gP (ah (0,((v.z:Int)+cx (ct es)))):=k0;have gS:=O.ab ev gR (λf a=>by cases a;omega);have r2:=gS.size;exact⟨gS,L,gP,F,G,G,G,(ky.ab gR (be G)),k1⟩
  ·refine bo dg λP r3 r4 r5 gT cA=>⟨O.a l gT,?_⟩;have b7:=O.a l gT;have r6:=b7.size;refine⟨?_,?_⟩
   ·refine(m b7).o ?_;rintro b r7 ⟨b8,rfl⟩;have ap:=O.a b7 b8;have r8:=ap.size;have r9:=b8.size;refine⟨ap,?_⟩;rw[j (v.z:Int) ap];refine⟨?_,?_⟩
    ·refine(m ap).o ?_;rintro b rA ⟨cB,rfl⟩;have aP:=O.a ap cB;have rB:=aP.size;have rD:=cB.size;refine⟨aP,?_⟩;refine⟨?_,?_⟩
     ·refine(cF aP).o ?_;rintro b rE ⟨ew,rfl⟩;have aR:=O.a aP ew;have rF:=aR.size;have rG:=ew.size;refine⟨aR,?_⟩;rw[aK (λh i k=>aD) aR];rw[j ((v.z:Int)+cx (ct es)) aR];refine bo dg λgU rH rI rJ ex k2=>⟨O.a aR ex,?_⟩;have gV:=O.a aR ex;have rK:=gV.size;refine aZ (cS:=ah (0,(v.z:Int))) dj g k2 F F ae (dk _) λk3 rL gW k4=>?_;have k5:ag k3 gU (ah (0,(v.z:Int))):=k4;have ez:=O.ab gV gW (λf a=>by cases a;omega);have rM:=ez.size;refine⟨ez,?_⟩;refine aZ (cS:=ah (0,((v.z:Int)+cx (ct es)))) dj g (((((cA.h b8).h cB).h ew).h ex).ab gW (be G)) F F ae (dk _) λk6 rN gX k7=>?_;have k8:ag k6 P (ah (0,((v.z:Int)+cx (ct es)))):=k7;have gY:=O.ab ez gX (λf a=>by cases a;omega);have rO:=gY.size;exact⟨gY,gU,P,F,G,G,G,(k5.ab gX (be G)),k8⟩
     ·refine bo dg λha rP rQ rR e1 k9=>⟨O.a aP e1,?_⟩;have e3:=O.a aP e1;have rS:=e3.size;refine(cF e3).o ?_;rintro b rT ⟨cC,rfl⟩;have bB:=O.a e3 cC;have rU:=bB.size;have rV:=cC.size;refine⟨bB,?_⟩;rw[aK (λh i k=>aD) bB];rw[j ((v.z:Int)+cx (ct es)) bB];refine aZ (cS:=ah (0,(v.z:Int))) dj g (k9.h cC) F F ae (dk _) λkA rW hc kB=>?_;have kC:ag kA ha (ah (0,(v.z:Int))):=kB;have e4:=O.ab bB hc (λf a=>by cases a;omega);have rX:=e4.size;refine⟨e4,?_⟩;refine aZ (cS:=ah (0,((v.z:Int)+cx (ct es)))) dj g (((((cA.h b8).h cB).h e1).h cC).ab hc (be G)) F F ae (dk _) λkD rY he kE=>?_;have kF:ag kD P (ah (0,((v.z:Int)+cx (ct es)))):=kE;have hf:=O.ab e4 he (λf a=>by cases a;omega);have rZ:=hf.size;exact⟨hf,ha,P,F,G,G,G,(kC.ab he (be G)),kF⟩
    ·refine bo dg λhg sa sp sr e5 kG=>⟨O.a ap e5,?_⟩;have e6:=O.a ap e5;have ss:=e6.size;refine(m e6).o ?_;rintro b st ⟨cD,rfl⟩;have cE:=O.a e6 cD;have su:=cE.size;have sv:=cD.size;refine⟨cE,?_⟩;refine(cF cE).o ?_;rintro b sw ⟨cG,rfl⟩;have bC:=O.a cE cG;have sx:=bC.size;have sy:=cG.size;refine⟨bC,?_⟩;rw[aK (λh i k=>aD) bC];rw[j ((v.z:Int)+cx (ct es)) bC];refine aZ (cS:=ah (0,(v.z:Int))) dj g ((kG.h cD).h cG) F F ae (dk _) λkH sz hh kI=>?_;have kJ:ag kH hg (ah (0,(v.z:Int))):=kI;have e7:=O.ab bC hh (λf a=>by cases a;omega);have s0:=e7.size;refine⟨e7,?_⟩;refine aZ (cS:=ah (0,((v.z:Int)+cx (ct es)))) dj g (((((cA.h b8).h e5).h cD).h cG).ab hh (be G)) F F ae (dk _) λkL s1 hi kM=>?_;have kN:ag kL P (ah (0,((v.z:Int)+cx (ct es)))):=kM;have hj:=O.ab e7 hi (λf a=>by cases a;omega);have s2:=hj.size;exact⟨hj,hg,P,F,G,G,G,(kJ.ab hi (be G)),kN⟩
   ·refine bo dg λhk s3 s4 s5 e8 kU=>⟨O.a b7 e8,?_⟩;have e9:=O.a b7 e8;have s6:=e9.size;refine(m e9).o ?_;rintro b s7 ⟨cH,rfl⟩;have bD:=O.a e9 cH;have s8:=bD.size;have s9:=cH.size;refine⟨bD,?_⟩;rw[j (v.z:Int) bD];refine(m bD).o ?_;rintro b sA ⟨cJ,rfl⟩;have cK:=O.a bD cJ;have sB:=cK.size;have sC:=cJ.size;refine⟨cK,?_⟩;refine(cF cK).o ?_;rintro b sD ⟨cM,rfl⟩;have bF:=O.a cK cM;have sF:=bF.size;have sG:=cM.size;refine⟨bF,?_⟩;rw[aK (λh i k=>aD) bF];rw[j ((v.z:Int)+cx (ct es)) bF];refine aZ (cS:=ah (0,(v.z:Int))) dj g (((kU.h cH).h cJ).h cM) F F ae (dk _) λkV sH hl kW=>?_;have kX:ag kV hk (ah (0,(v.z:Int))):=kW;have eA:=O.ab bF hl (λf a=>by cases a;omega);have sI:=eA.size;refine⟨eA,?_⟩;refine aZ (cS:=ah (0,((v.z:Int)+cx (ct es)))) dj g (((((cA.h e8).h cH).h cJ).h cM).ab hl (be G)) F F ae (dk _) λkY sJ hm kZ=>?_;have la:ag kY P (ah (0,((v.z:Int)+cx (ct es)))):=kZ;have hn:=O.ab eA hm (λf a=>by cases a;omega);have sK:=hn.size;exact⟨hn,hk,P,F,G,G,G,(kX.ab hm (be G)),la⟩
 rintro ba d h ⟨aq,C,a3,rfl,lc,sL,dt,ho,cN⟩;simp only [av,bA];have sM:=aq.size;have ld:∀eC,o.heap.size<=eC->(bZ.ownBlock=ac\/bZ.ownBlock≠J eC):=λeC cQ=>by
  cases le:bZ.ownBlock with
  |none=>exact .inl F
  |some f=>exact .inr λi=>by cases i;have:=(ca.D _ le).2;omega
 refine bG.y (λba bH=>ba=[]/\O o bH/\h.heap.size<=bH.heap.size/\ag bH C (ah ((n:Int),(q:Int)))/\ag bH a3 (ah ((n:Int),(c:Int)))) ?_ ?_
 ·rw[aS iJ.m (cf.h aq),cb,ai];refine⟨λsN=>?_,λsO=>?_⟩
  ·obtain⟨y,s⟩:∃t,(ct es)[0]? =J t:=⟨_,aX G⟩;obtain⟨au,eD⟩:∃t,(ct es)[(ct es).length-1]? =J t:=⟨_,aX G⟩;have hp:(ct es).getLast? =J au:=by rw[yn];exact eD
   have cR:(n:Int)=y.1.1:=by
    rw[bX];cases bI:ct es with
    |nil=>rw[bI]at s;simp at s
    |cons t lf=>
     rw[bI]at s;have:t=y:=by simpa using s
     subst this;rfl
   have cQ:(q:Int)=au.1.2:=by rw[bY];unfold l2;rw[hp]
   have lg:y.2.1=y.1.1:=by
    have hq:=kj.ay;cases bI:ct es with
    |nil=>rw[bI]at s;simp at s
    |cons t lf=>
     rw[bI]at s hq;have:t=y:=by simpa using s
     subst this;obtain⟨_,_,ht,_⟩:=hq;omega
   have lh:au.2.2=(c:Int):=by have:=TS kj.ay hp;omega
   apply bE.h;have l:O h h.drew:=(O.p h).C;have ia:=l.size;rw[eh.bQ iJ (cf.h aq) s G mh ce E (show(gx y)[0+0]? =J (I X y.1.1)from F) l,aK (λh i k=>cd) l,
    eh.bQ iJ (cf.h aq) eD G mh bP E (show(gx au)[0+1]? =J (I X au.1.2)from F) l,<-cR,<-cQ,
    aK (v:=al (ah ((n:Int),(q:Int))).toArray) (λh i k=>bz (iR:=[(0,[I X n]),(1,[I X q])]) dg jO F F) l]
   refine aZ (cS:=ah ((n:Int),(q:Int))) dj g (ho.h l) F F ae (dk _) λbJ sP eE li=>?_;have lm:ag bJ C (ah ((n:Int),(q:Int))):=li;have hu:=((ca.h aq).h l).ab eE (ld C lc);have lp:O o bJ:=(aq.a l).ab eE λf a=>by cases a;omega
   apply bE.h;have S:O bJ bJ.drew:=(O.p bJ).C;have sQ:=S.size;rw[eh.bQ iJ (hu.aI lz) s G pP ce E (show(gx y)[2+0]? =J (I X y.2.1)from F) S,aK (λh i k=>cd) S,
    eh.bQ iJ (hu.aI lz) eD G pP bP E (show(gx au)[2+1]? =J (I X au.2.2)from F) S,lg,<-cR,lh,
    aK (v:=al (ah ((n:Int),(c:Int))).toArray) (λh i k=>bz (iR:=[(0,[I X n]),(1,[I X c])]) dg jO F F) S]
   refine aZ (cS:=ah ((n:Int),(c:Int))) dj g (((cN.h l).ab eE (be G)).h S) F F ae (dk _) λsR sS hv lq=>?_;exact⟨F,(lp.a S).ab hv λf a=>by cases a;omega,G,(lm.h S).ab hv (be G),lq⟩
  ·have lr:ct es=[]:=List.length_eq_zero_iff.1 G;rw[lr]at bX bY fk cN;have ls:cx ([]:List dx)=0:=rfl;have cR:(n:Int)=0:=bX;have cQ:(q:Int)=v.z:=bY;rw[ls]at fk cN;rw[show(c:Int)=v.z+0 from G,cR,cQ];exact⟨F,aq,a6 _,ho,cN⟩
 rintro ba d bH ⟨rfl,bM,sT,lt,lu⟩;have sU:=fe.size;have sV:=di.size;have sW:=aY.size;have sX:=a0.size;have hw:=((dq.h aY).h a0).h bM;have cS:=dz.a bM;rw[M mW gl (hw.H.b.f 0 F)];refine(afB (eS.h cS) (bT.h cS) dl (bS.h cS) eT).o ?_;rintro b lv ⟨U,p⟩;rw[dm]at p;rcases p with⟨lw,_⟩|⟨_,bN,lx,rfl,ly,l0,l1⟩
 ·exact aL du lw
 have l3:=cS.a U;rw[aN,aO,aj mW];have cU:=hw.h U;refine gh (cS:=[ad (J ⟨bN,0,ac⟩)]) ael g cU F F ae (by intro b p;simp at p;subst p;rfl) λeF sY aw l4=>?_;have hx:bQ eF bV [ad (J ⟨bN,0,ac⟩),ad (J ⟨dp,0,ac⟩),ad (J ⟨bU,0,ac⟩),I X v.aE,I X v.a7] 100:=l4;have l5:dc lv eF:= .af aw cU g (zP _ _ _ _ _);have eG:O w eF:=l3.ab aw λf a=>by cases a;omega
 have hy:=k_ ((ca.h bM).h U) cU g aw;have l6:=k_ (((fj.h a0).h bM).h U) cU g aw;rw[M pQ pL (hx.H.b.f 1 F)];refine(ahQ (eS.h eG) (fa.h eG) V.R (hy.aI lz) kj).o ?_;rintro b l7 ⟨z,sZ,rfl,hz⟩;obtain⟨cV,_,rfl,_⟩:=id hz;have l8:=eG.a z;rw[aN,aO,aj pQ];have cY:=hx.h z;refine gh (cS:=[ad (J ⟨cV,0,ac⟩)]) JE g cY F F ae (by intro b p;simp at p;subst p;rfl) λeH ta az l9=>?_;have h0:bQ eH bV [ad (J ⟨bN,0,ac⟩),ad (J ⟨cV,0,ac⟩),ad (J ⟨bU,0,ac⟩),I X v.aE,I X v.a7] 100:=l9;have h1:dc l7 eH:= .af az cY g (zP _ _ _ _ _);have h2:O w eH:=l8.ab az λf a=>by cases a;omega
 have lA:=k_ (hy.h z) cY g az;have lB:=k_ (l6.h z) cY g az;rw[M mV oP (h0.H.b.f 2 F)];refine(aho (fd.h h2) V.M (lA.aI lz) kj).o ?_;rintro b lC ⟨A,tb,rfl,h3⟩;obtain⟨eI,_,_,rfl,_⟩:=id h3;have lD:=h2.a A;rw[aN,aO,aj mV];have eK:=h0.h A;refine gh (cS:=[ad (J ⟨eI,0,ac⟩)]) EJ g eK F F ae (by intro b p;simp at p;subst p;rfl) λcZ tc aU lE=>?_;have lF:bQ cZ bV [ad (J ⟨bN,0,ac⟩),ad (J ⟨cV,0,ac⟩),ad (J ⟨eI,0,ac⟩),I X v.aE,I X v.a7] 100:=lE;have eL:dc lC cZ:= .af aU eK g (zP _ _ _ _ _);have eM:O w cZ:=lD.ab aU λf a=>by cases a;omega
 have lG:=k_ (lB.h A) eK g aU;have td:=U.size;have te:=z.size;have tf:=A.size;have lH:=((((((lt.h U).ab aw (be G)).h z).ab az (be G)).h A).ab aU (be G));have lI:=((((((lu.h U).ab aw (be G)).h z).ab az (be G)).h A).ab aU (be G));have lJ:hb cZ [ad (J ⟨bN,0,ac⟩),ad (J ⟨cV,0,ac⟩),ad (J ⟨eI,0,ac⟩),I X v.aE,I X v.a7] (v.X es):=
  ⟨_,_,_,lx,F,gF.bp ((gF.bp ((gF.bp ly l5).h z) h1).h A) eL,l0,l1,j8.bp ((j8.bp hz h1).h A) eL,kT.bp h3 eL⟩
 rw[aF ka lF.H.b F,aF cP lH.b F,aF cP lI.b F];refine(CD (de.h eM) lJ V hR (hC.h eM) hU).o ?_;rintro b tg ⟨da,dh,r,W,N,rfl,h4,lK⟩;obtain⟨eN,_,_,rfl,_⟩:=id h4;have lL:=eM.a da;rw[aN,aO];refine nX (cS:=gd (ad (J ⟨eN,0,ac⟩)) r W r N 0 (ac,0,0) (ac,0,0)) it is g F F (ov F _ _ _ _ _ _ _) λh9 lM th ti bO lT=>?_;have lU:bQ lM h9 (gd (ad (J ⟨eN,0,ac⟩)) r W r N 0 (ac,0,0) (ac,0,0)) 184:=lT;have hA:=lL.a bO;refine(agV (bS.h hA) (by have:=am.bg;omega)).o ?_;rintro tj lV ⟨aV,hB⟩;obtain⟨aW,rfl⟩:=hB.ay;have lW:=hA.a aV;have tk:=da.size;have tv:=bO.size;have tx:=aV.size;rw[bz (S:=[Go.Lift.ay a2,Go.Lift.ay aW]) (iR:=[(0,[Go.Lift.ay a2]),(1,[Go.Lift.ay aW])]) rC Jv F F,aj Px];have db:=lU.h aV;refine gh (cS:=[Go.Lift.ay a2,Go.Lift.ay aW]) pU g db F F (by simp[gd]) (by intro b p;obtain⟨ty,tz,t0⟩:=a2;obtain⟨t1,t2,t3⟩:=aW;simp at p;rcases p with rfl|rfl<;>rfl) λdd t4 bR lX=>?_
 have lY:bQ dd h9 (gd (ad (J ⟨eN,0,ac⟩)) r W r N 0 a2 aW) 184:=lX;have lZ:dc lV dd:= .af bR db g (CF _ _ _ _ _ _ _ _);have ma:O w dd:=lW.ab bR λf a=>by cases a;omega
 have md:=k_ (((lG.h da).h bO).h aV) db g bR;have me:=k_ hB db g bR;have mf:=e2.bp ((h4.h bO).h aV) lZ;rw[bs,bu];refine⟨λi=>aL F i,λ_=>?_⟩;rw[aF h8 lY.H.b F];have eO:bQ dd eX hS 184:=by have mg:=((fh.h a0).h bM).h U;have mi:=(mg.ab aw (be G)).h z;have ht:=(mi.ab az (be G)).h A;exact((((ht.ab aU (be G)).h da).h bO).h aV).ab bR (be G)
 refine i1 is h8 g eO g ki F F (ov F _ _ _ _ _ _ _) λt5 t6 eR mj t7=>?_;have ml:=k_ md eO g eR;have mm:=k_ me eO g eR;exact⟨ma.ab eR λf a=>by cases a;omega,.inr ⟨du,_,r,W,N,n,q,c,a2,aW,F,mf.bp mj,bX,bY,hT,lK,ml.o G,mm.o G⟩⟩
end aY
section
open Go.Lift Go.RowKit Go.bW
def A0.aow{x:List (List Int)}(a:A0 x)(d:8<=x.flatten.length):∀c∈x,8<=c.length:=by
 rcases a with a|a
 ·intro c b
  match x,a with
  |[],_=>cases b
  |[e],_=>
   simp only [cL]at b;subst b
   simpa using d
 ·exact a
def ai1{x:List UInt8}(a:(bY x).length<=20000):fO (no (bY x)):=⟨Gs (wb x),by rw[Gq];exact a⟩
def akw{x:aa}{e:List UInt8}(f:hJ x)(j:e.length<=20000):ak Y 53 [co e] x λc b=>O x b/\∃a,c=a1 #[ad (J ⟨a,0,ac⟩),I X 0]/\gF b (ad (J ⟨a,0,ac⟩)) (no (bY e))/\fO (no (bY e)):=by
 have k:=nr e;refine(akx f G).o ?_;rintro c b ⟨g,h⟩;rcases h with⟨d,_⟩|⟨d,a,rfl,i⟩
 ·omega
 ·exact⟨g,a,F,i,ai1 d⟩
variable{t:Int}
def tE.dD{x:List Int}{s e c d:Int}(f:tE x t s e)(m:tE x t c d):s=c/\e=d:=by
 have u:∀{a b:Nat},a<=x.length->b<=x.length->(a8 (x.take a)).length=(a8 (x.take b)).length->a=b:=by
  have p:∀{a b:Nat},a<b->b<=x.length->(a8 (x.take a)).length<(a8 (x.take b)).length:=by intro a b z q;have g:=r8 x (show a+1<=b by omega);obtain⟨n,v⟩:∃n,x[a]? =J n:=⟨_,aX G⟩;rw[gp v,kM,bf]at g;have:=(sP n).1;unfold bk at this;rw[r7,uK,cT]at g;omega
  intro a b w q k;rcases Nat.lt_trichotomy a b with f|f|f
  ·have:=p f q;omega
  ·exact f
  ·have:=p f w;omega
 rcases f with⟨r,o,rfl,rfl,rfl⟩|⟨h,g,i,rfl,rfl⟩|⟨h,rfl,rfl⟩
 ·rcases m with⟨l,j,k,rfl,rfl⟩|⟨_,_,i,_,_⟩|⟨h,_,_⟩
  ·have:=u o j G;subst this;exact⟨F,F⟩
  ·exact aL F (i r o)
  ·have:=r8 x (show r<=x.length from o);rw[cI]at this;exact aL ⟨G,G⟩ h
 ·rcases m with⟨l,j,k,rfl,rfl⟩|⟨_,_,_,rfl,rfl⟩|⟨y,_,_⟩
  ·exact aL k (i l j)
  ·exact⟨F,F⟩
  ·exact aL ⟨h,g⟩ y
 ·rcases m with⟨l,j,k,rfl,rfl⟩|⟨g,i,_,_,_⟩|⟨_,rfl,rfl⟩
  ·have:=r8 x (show l<=x.length from j);rw[cI]at this;exact aL ⟨G,G⟩ h
  ·exact aL ⟨g,i⟩ h
  ·exact⟨F,F⟩
def agK{x:aa}{v:Z}{e:List Int}(g:aC x v 1 gI e)(D:e.length<=1000000):ak Y 18 [v,I X t] x λn i=>O x i/\∃o p:Int,tE e t o p/\n=a1 #[I X o,I X p]:=by
 apply Yo;refine bG.y (λc i=>i=x/\∃f:Nat,c=[I X f]/\((f:Int)=t->f=(a8 e).length)/\((f:Int)≠t->¬(0<=t/\t<=(a8 e).length))) ?_ ?_
 ·rw[aS di g];refine ba.y (λc j=>j=x/\∃a:Nat,c=[I X (a8 (e.take a)).length,I X a]/\a<=e.length/\((t<0/\a=0)\/(0<=t/\((a8 (e.take a)).length:Int)<=t)))
   (λc _=>match c with|[_,I _ t]=>(e.length-t).toNat|_=>0) ⟨F,0,F,ec _,by
    rcases j5 t 0 with b|b
    ·exact .inl ⟨b,F⟩
    ·exact .inr ⟨b,b⟩⟩ ?_
  rintro c r j ⟨rfl,a,rfl,E,s⟩;have u:=kN (e.take a);rw[bt]at u;rw[av,bA,av,aR,ai];refine⟨λH=>?_,λK=>?_⟩
  ·obtain⟨d,k⟩:∃d,e[a]? =J d:=⟨_,aX G⟩;obtain⟨L,M,w,y⟩:=g.m k;have P:=sP d;have z:(a8 (e.take (a+1))).length=(a8 (e.take a)).length+bk d:=by rw[gp k,kM,bf,r7,uK,cT];rfl
   rw[cr di gm G g k F,w,aM (v:=I .i32 d) iG (y.U F),bm,ai];refine⟨λl=>⟨O.p _,_,0,.inl ⟨a,G,l.symm,F,F⟩,F⟩,λh=>?_⟩;rw[cb,ai];refine⟨λQ=>⟨F,_,F,λb=>aL b h,λ_ b=>G⟩,λR=>?_⟩;refine(Rz d).o ?_;rintro n S ⟨rfl,rfl⟩;rw[aD,cb,ai];refine⟨λU=>?_,λV=>?_⟩
   ·rw[eE,ai];have A:=r8 e (show a+1<=e.length by omega);rw[cI]at A;refine⟨λq=>⟨O.p _,0,70,.inr (.inl ⟨q,G,λm W=>?_,F,F⟩),F⟩,λq=>G⟩;rcases Nat.lt_or_ge a m with b|b
    ·have:=r8 e (show a+1<=m by omega);omega
    ·have:=r8 e (show m<=a by omega);omega
   ·rw[aD];exact⟨⟨F,a+1,by rw[z];simp,G,G⟩,by simp only [];omega⟩
  ·obtain rfl:a=e.length:=G;rw[cI]at s⊢;refine⟨F,_,F,λ_=>F,λh b=>?_⟩;omega
 ·rintro c r j ⟨rfl,f,rfl,B,C⟩;rw[av,bm,ai];refine⟨λl=>?_,λh=>⟨O.p _,0,1,.inr (.inr ⟨C h,F,F⟩),F⟩⟩;rw[aS di g];have:=B l;exact⟨O.p _,_,0,.inl ⟨e.length,a6 _,by rw[cI];omega,F,F⟩,F⟩
end
namespace aY
open Go.Lift Go.RowKit Go.bW Go.cB Go.Proofs.YtoddhldofgfdmaaGreatDoor.b0
def cu(l:List Int)(a:Int):Int×Int:=
 if 0<=a/\a<=(a8 l).length then match(lS (l.length+1)).find? λb=>decide (a=((a8 (l.take b)).length:Int))with|some b=>((b:Int),0)|none=>(0,70)
 else(0,1)
def Ug(a:List Int)(c:Int):tE a c (cu a c).1 (cu a c).2:=by
 unfold cu;split
 ·rename_i d
  cases e:(lS (a.length+1)).find? λb=>decide (c=((a8 (a.take b)).length:Int))with
  |some b=>have f:=List.find?_some e;have g:=List.mem_of_find?_eq_some e;rw[HF]at g;exact .inl ⟨b,G,by simpa using f,F,F⟩
  |none=>rw[List.find?_eq_none]at e;exact .inr (.inl ⟨d.1,d.2,λb i h=>e b (HF.2 G) (by simpa using h),F,F⟩)
 ·rename_i d
  exact .inr (.inr ⟨d,F,F⟩)
variable{t s:Int}
def CH{l:List Int}{a:Int}(b:tE l a t s):t=(cu l a).1/\s=(cu l a).2:=tE.dD b (Ug l a)
def s7{l:List Int}{a:Int}:0<=(cu l a).1/\(cu l a).1<=l.length:=by rcases Ug l a with⟨c,d,_,b,_⟩|⟨_,_,_,b,_⟩|⟨_,b,_⟩<;>omega
def dy(l:List Int):List Int->Int
 |[]=>0
 |a::b=>if(cu l a).2≠0 then(cu l a).2 else dy l b
def Fo{l:List Int}:∀{b:List Int} {i:Nat} {a:Int},(∀c∈b.take i,(cu l c).2=0)->b[i]? =J a->(cu l a).2≠0->dy l b=(cu l a).2
 |[],i,a,_,d,_=>by simp at d
 |c::b,0,a,_,d,e=>by
  have:c=a:=by simpa using d
  subst this;unfold dy;rw[au e]
 |c::b,i+1,a,f,d,e=>by unfold dy;rw[an (by rw[f c ae];decide)];exact Fo (i:=i) (λg h=>f g (by rw[List.take_succ_cons];exact ey _ h)) (by simpa using d) e
def vy{l:List Int}:∀{a:List Int},(∀b∈a,(cu l b).2=0)->dy l a=0
 |[],_=>F
 |b::a,c=>by unfold dy;rw[an (by rw[c b (dv ..)];decide)];exact vy λd e=>c d (ey _ e)
variable{w:aa}
def o2:eR iY 1:=⟨λ_=>F,λb c a=>by simp at a;subst a;rfl⟩
variable{K:aU}{n:Nat}{x:Z}
def ajZ{k:Nat}{L:List Int}(e:ar w n 3 1 x iY L)(m:n<=w.heap.size)(o:L.length<=1000)
 (f:∀a b,ar b n 3 1 a iY (L++[t])->w.grownBy b x.ownBlock->K a b):fR Y 55 1 [(0,I X t)] w λc w=>cz Y fT [55,55] k [x,c] w K:=by
 refine f0 (n:=1) (V:=iY) (L:=[t]) (iR:=[(0,[I X t])]) fW bw F mY g g o2 F F λc r s h d u=>?_;refine jC fW bw g mY F o2 (e.h d) G (h.aI o2) (by have:e0=9223372036854775807:=rfl;simp;omega) (by rw[D8];simp;omega) λa i j l v=>?_;exact f a i j (eN (eb d _) l)
abbrev akP(a:Z):Value:=fq (.func 31) #[a] #[]
def Gt{e:Z}{c:List (List Int)}{d:List Int}(v:gF w x c)(y:fO c)(o:aC w e 1 iY d)(Q:d.length<=1000):ak Y 217 [akP x,e] w λp s=>O w s/\
 ((dy c.flatten d≠0/\p=a1 #[aQ ac 0 0,I X (dy c.flatten d)])\/((∀a∈d,(cu c.flatten a).2=0)/\∃b,p=a1 #[b,I X 0]/\ar s w.heap.size 3 1 b iY (d.map λh=>(cu c.flatten h).1))):=by
 apply aa_;rw[aS fW o];refine ba.bJ (λq t r=>O w r/\∃(i:Nat) (b:Z),i+q=d.length/\t=[b,I X i]/\ar r w.heap.size 3 1 b iY ((d.take i).map λh=>(cu c.flatten h).1)/\∀a∈d.take i,(cu c.flatten a).2=0) ⟨d.length,O.p _,0,_,G,F,ar.nil ..,ae⟩ ?_;rintro q t R r ⟨f,i,b,S,rfl,m,n⟩;simp only [av,bA];rw[aR,ai];refine⟨λU=>?_,λV=>?_⟩
 ·obtain⟨a,k⟩:∃a,d[i]? =J a:=⟨_,aX G⟩;obtain⟨W,ag,z,A⟩:=(o.h f).m k;rw[cr fW bw g (o.h f) k F,z,aM E (A.U F),kL];refine(UU (C:=a) (v.h f) y).o ?_;rintro p aj ⟨l,am,an,B,rfl⟩;obtain⟨rfl,rfl⟩:=CH B;rw[aN,aO,bs,bu];refine⟨λu=>?_,λC=>?_⟩
  ·have:=Fo n k u;exact⟨f.a l,.inl ⟨by rw[this];exact u,by rw[this]⟩⟩
  ·have ap:=s7 (l:=c.flatten) (a:=a);have au:((d.take i).map λh=>(cu c.flatten h).1).length<=1000:=by rw[b_,bt];omega
   refine ajZ (m.h l) (eQ f.size l.size) G λD aw H K=>?_;rw[aD];refine⟨q-1,G,(f.a l).ab K λL M=>((m.h l).D L M).1,i+1,D,G,ae,?_,λP j=>?_⟩
   ·rw[c9 k,dJ];exact H
   ·rw[c9 k]at j;rcases b9.1 j with j|j
    ·exact n P j
    ·rw[cL.1 j];exact C
 ·rw[d_ G]at m n;exact⟨f,.inr ⟨n,b,F,m⟩⟩
def ep(k a b:Int)(e r bZ:bK):List Value:=[I X k,I X a,I X b,ay e,ay r,ay bZ]
def A1(h:aa)(i:Z)(v e:aH)(n:Int):Prop:=∃(f:Z) (d g N a b c:Nat) (j k:bK),i=a1 #[al (gd f d g d N n j k).toArray,I X 0]/\e2 h f e/\oU v e a b c d g N
def uX(b:Z)(a:Int):Prop:=a≠0/\b=a1 #[al hS.toArray,I X a]
def qg:∀a∈hS,a.oneCell' =true:=g
variable{x:aB}
def La{l:List aB}:x∈fE l↔x∈l:=(wh l).mem_iff
def ai0{l:List aB}(a:gK t l=0)(b:x∈l):nn t x:=(zG a).az x (La.2 b)
def KZ{a b:Int}(e:∀d c,ar c w.heap.size 3 1 d iY [a,b]->O w c->K d c):fR Y 55 2 [(0,I X a),(1,I X b)] w K:=
 f0 (n:=2) (V:=iY) (L:=[a,b]) (iR:=[(0,[I X a]),(1,[I X b])]) fW bw F mY g g o2 F F λd c l f h m=>e d c f.row h
variable{i:Nat}
def GY{v:Z}{e:List Int}{x:Int}{b:aa}{a:Z->Prop}{z:Int}(c:aC b v 1 iY e)(d:e[i]? =J x)(h:z=i)(f:O b w):
 cW (O b) w (λw a=>fh Y 55 v (I X z) w a) (λj=>cW (O b) w (λw a=>bU Y 3 j w a) a)=a (I X x):=by
 obtain⟨n,o,k,l⟩:=c.m d;rw[aK (λp m q=>cr fW bw g (c.h m) d h) f,k,dR E (l.U F) f]
variable{v:aH}{e:Int}{c d u:bK}
def ajg{x:Z}(ai:e2 w x v)(p:bL v)(bb:fV w):ak Y 146 [x,al (ep t s e c d u).toArray] w λh am=>O w am/\
 ((dy v.Q [s,e]≠0/\uX h (dy v.Q [s,e]))\/(dy v.Q [s,e]=0/\(uX h (gK v.z (v.M++[((cu v.Q s).1,(cu v.Q e).1)]))\/(gK v.z (v.M++[((cu v.Q s).1,(cu v.Q e).1)])=0/\A1 am h v (v.bf (fE (v.M++[((cu v.Q s).1,(cu v.Q e).1)]))) 0)))):=by
 have cj:v.z=v.Q.length:=rfl;have ck:=p.z;have cm:=p.M.bl;apply aa9;refine bd (S:=ep t s e c d u) F λcn co cp cq bc bg=>?_;refine lb it λbh bi cr cs ap bj=>?_;have bk:bQ bi bh hS 184:=bj;have q:=bc.a ap;refine(q9 ai q).o ?_;rintro h ct ⟨r,cw,rfl,_,aq⟩;have bm:=aq.B.2;obtain⟨cx,cy,cz,bn,rfl,P,ar,au,av,aw⟩:=aq;have ay:=q.a r;obtain⟨y,rfl⟩:=uw P;obtain⟨z,_,rfl,_⟩:=id av;obtain⟨az,_,_,rfl,_⟩:=id aw;refine nX (cS:=[ad y,ad (J ⟨z,0,ac⟩),ad (J ⟨az,0,ac⟩),I X v.aE,I X v.a7]) sE tQ g F F bm λa2 br c0 c1 R bv=>?_;have S:bQ br a2 [ad y,ad (J ⟨z,0,ac⟩),ad (J ⟨az,0,ac⟩),I X v.aE,I X v.a7] 100:=bv;have bw:=ay.a R;have a3:=(((bg.h ap).h r).h R).b;rw[M mW gl (S.H.b.f 0 F),jZ,M tI E (a3.f 1 (show(ep t s e c d u)[1]? =J (I X s)from F)),M I8 E (a3.f 2 (show(ep t s e c d u)[2]? =J (I X e)from F))];refine KZ λc2 c3 bx A=>?_;have a4:=bw.a A;refine(Gt (P.h a4) ar (bx.aI o2) ae).o ?_;rintro h l ⟨B,m⟩;rw[au]at m;have a5:=a4.a B;have a8:=(((bk.h r).h R).h A).h B;rcases m with⟨n,rfl⟩|⟨b0,b1,rfl,b2⟩
 ·rw[aN,aO,bs,bu];refine⟨λ_=>?_,λi=>aL i n⟩;rw[bz (S:=hS) (iR:=[]) it pR F F];refine i1 is h8 g a8 g ki F F qg λb3 b4 b5 c4 S=>?_;exact⟨a5.ab b5 λC f=>by have:=q.size;cases f;omega,.inl ⟨n,n,F⟩⟩
 have aA:=vy b0;rw[aN,aO,bs,bu];refine⟨λi=>aL F i,λ_=>?_⟩;have b6:=s7 (l:=v.Q) (a:=s);have b8:=s7 (l:=v.Q) (a:=e);generalize bA:(cu v.Q s).1=a at*;generalize bB:(cu v.Q e).1=b at*;have aD:aC l b1 1 iY [a,b]:=by have:=b2.aI o2;simp only [eB,ob,bA,bB]at this;exact this
 apply bE.h;have j:O l l.drew:=(O.p l).C;rw[GY (i:=0) (z:=0) aD F F j,GY (i:=1) (z:=1) aD F F j,aK (v:=al (ah (a,b)).toArray) (λc5 i c6=>bz (iR:=[(0,[I X a]),(1,[I X b])]) dg jO F F) j];refine bo dg λbF b3 c7 b4 aG bG=>⟨j.a aG,?_⟩;refine aZ (cS:=ah (a,b)) dj g bG F F ae (dk _) λaH c8 bH bI=>?_;have aJ:ag aH bF (ah (a,b)):=bI;have c9:=j.size;have D:O l aH:=(j.a aG).ab bH λC f=>by cases f;omega
 have aM:=a5.a D;have aP:=((S.h A).h B).h D;have bJ:=a8.h D;rw[M mV oP (aP.H.b.f 2 F),aF cP aJ.b F];refine(ahb (x:=(a,b)) ⟨G,G⟩ (aw.h aM) G).o ?_;rintro h bM ⟨o,bN,rfl,bO,aR⟩;have bP:=aM.a o;have bR:∃U,bN=ad U:=by
  rcases XU (gK v.z (v.M++[(a,b)])=0)with i|i
  ·obtain⟨bS,_,_,rfl,_⟩:=aR i;exact⟨_,F⟩
  ·exact⟨_,bO i⟩
 obtain⟨V,rfl⟩:=bR;rw[aN,aO,aj mV];have aS:=aP.h o;refine gh (cS:=[ad V]) EJ g aS F F ae (by intro h m;simp at m;subst m;rfl) λH cA K bT=>?_;have bU:bQ H a2 [ad y,ad (J ⟨z,0,ac⟩),ad V,I X v.aE,I X v.a7] 100:=bT;have bV:dc bM H:= .af K aS g (zP _ _ _ _ _);have cB:=q.size;have gv:=ay.size;have cC:=r.size;have cD:=A.size;have cE:=B.size;have cF:=D.size;have cG:=o.size;have k:O w H:=bP.ab K λC f=>by cases f;omega
 have aT:=(bJ.h o).ab K (be G);rw[bs,bu];refine⟨λn=>?_,λL=>?_⟩
 ·rw[bz (S:=hS) (iR:=[]) it pR F F];refine i1 is h8 g aT g ki F F qg λbW cH bX cJ cK=>?_;exact⟨k.ab bX λC f=>by cases f;omega,.inr ⟨aA,.inl ⟨n,F⟩⟩⟩
 have aU:=ai0 L (x:=(a,b)) ae;obtain⟨bY,bZ⟩:=Sm (M:=fE (v.M++[(a,b)])) (a:=a.toNat) (b:=b.toNat) p (zG L) (by have:=aU.2.1;simp only at this;omega) (by have:=aU.2.2;simp only at this;omega) (λcM aV=>by
  rw[La]at aV;rcases aV with⟨h1,W⟩|⟨h1,W⟩
  ·exact aL (hY _ h1) W
  ·rcases b9.1 h1 with h1|h1
   ·exact aL h1 W
   ·rw[cL.1 h1];simp only;omega)
 have aW:=(aJ.h o).ab K (be G);have ca:hb H [ad y,ad (J ⟨z,0,ac⟩),ad V,I X v.aE,I X v.a7] (v.bf (fE (v.M++[(a,b)]))):=⟨_,_,_,bn,F,P.h k,ar,au,av.h k,kT.bp (aR L) bV⟩;rw[aF ka bU.H.b F,aF cP aW.b F,aF cP aW.b F];have cb:ah (a,b)=ah (((a.toNat:Nat):Int),((b.toNat:Nat):Int)):=by rw[lQ b6.1,lQ b8.1]
 rw[cb];refine(CD (ai.h k) ca p bY (bb.h k) bZ).o ?_;rintro h bW ⟨aY,U,cd,ce,N,rfl,ba,cf⟩;rw[aN,aO];have cg:=C6 ba;refine i1 is h8 g (aT.h aY) g ki F F (ov cg.2 _ _ _ _ _ _ _) λcN cQ ch ci cR=>?_;exact⟨(k.a aY).ab ch λC f=>by cases f;omega,.inr ⟨aA,.inr ⟨L,U,cd,ce,N,_,_,_,_,_,F,ba.bp ci,cf⟩⟩⟩
def q6(v:aH)(x:aB):Int:=if 0<=x.1/\x.1<=x.2/\x.2<=v.z then gK v.z (gW v.M x)else 1
abbrev xN(x a:aB):Bool:=decide (x.2<a.1\/a.2<x.1)
def amy{b:Nat}{l:List aB}(g:ag w b (ah x))(h:b<n)(o:n<=w.heap.size):mO Y (fq (.func 221) #[] #[ad (J ⟨b,0,ac⟩)]) ah (xN x) l n w:=by intro a p i j;rw[kL];apply abc;have k:ag i b (ah x):=ag.bA g j h;refine bd (S:=ah a) F λej r s t c m=>?_;have d:=m.b;have e:=(k.h c).b;rw[M ce E (d.f 0 (show(ah a)[0]? =J (I X a.1)from F)),M bP E (e.f 1 (show(ah x)[1]? =J (I X x.2)from F)),cb,ai];refine⟨λf=>⟨c,by rw[show xN x a=af from eK (.inl f)]⟩,λf=>?_⟩;rw[M bP E (d.f 1 (show(ah a)[1]? =J (I X a.2)from F)),M ce E (e.f 0 (show(ah x)[0]? =J (I X x.1)from F)),aR];refine⟨c,?_⟩;congr 1;rw[g0];simp only [xN,dF];omega
def ajr{p:Z}(br:e2 w p v)(V:bL v)(bZ:fV w):ak Y 147 [p,al (ep t s e c d u).toArray] w λn bv=>O w bv/\
 ((dy v.Q [s,e]≠0/\uX n (dy v.Q [s,e]))\/(dy v.Q [s,e]=0/\(uX n (q6 v ((cu v.Q s).1,(cu v.Q e).1))\/(q6 v ((cu v.Q s).1,(cu v.Q e).1)=0/\A1 bv n v (v.bf (fE (gW v.M ((cu v.Q s).1,(cu v.Q e).1)))) ((v.M.length:Int)-(gW v.M ((cu v.Q s).1,(cu v.Q e).1)).length))))):=by
 have d3:v.z=v.Q.length:=rfl;have d4:=V.z;have d5:=V.M.bl;apply abd;refine bd (S:=ep t s e c d u) F λd6 d7 d8 d9 ca cb=>?_;refine lb it λcd ce dA dB bx cf=>?_;have cg:bQ ce cd hS 184:=cf;have a0:=ca.a bx;refine(q9 br a0).o ?_;rintro n dC ⟨a2,dD,rfl,_,b0⟩;have ch:=b0.B.2;obtain⟨dE,dF,dG,ci,rfl,aJ,b1,b2,b3,aM⟩:=b0;have b4:=a0.a a2;obtain⟨a3,rfl⟩:=uw aJ;obtain⟨a4,_,rfl,_⟩:=id b3;obtain⟨b5,_,_,rfl,_⟩:=id aM;refine nX (cS:=[ad a3,ad (J ⟨a4,0,ac⟩),ad (J ⟨b5,0,ac⟩),I X v.aE,I X v.a7]) sE tQ g F F ch λb6 cj dH dI aP ck=>?_;have aR:bQ cj b6 [ad a3,ad (J ⟨a4,0,ac⟩),ad (J ⟨b5,0,ac⟩),I X v.aE,I X v.a7] 100:=ck;have cn:=b4.a aP;have b7:=(((cb.h bx).h a2).h aP).b;rw[M mW gl (aR.H.b.f 0 F),jZ,M tI E (b7.f 1 (show(ep t s e c d u)[1]? =J (I X s)from F)),M I8 E (b7.f 2 (show(ep t s e c d u)[2]? =J (I X e)from F))];refine KZ λdK dL co a5=>?_;have b8:=cn.a a5;refine(Gt (aJ.h b8) b1 (co.aI o2) ae).o ?_;rintro n am ⟨a8,y⟩;rw[b2]at y;have bA:=b8.a a8;have bB:=(((cg.h a2).h aP).h a5).h a8;rcases y with⟨ap,rfl⟩|⟨cp,cq,rfl,cr⟩
 ·rw[aN,aO,bs,bu];refine⟨λ_=>?_,λq=>aL q ap⟩;rw[bz (S:=hS) (iR:=[]) it pR F F];refine i1 is h8 g bB g ki F F qg λcs ct cw dM aR=>?_;exact⟨bA.ab cw λj f=>by have:=a0.size;cases f;omega,.inl ⟨ap,ap,F⟩⟩
 have aT:=vy cp;rw[aN,aO,bs,bu];refine⟨λq=>aL F q,λ_=>?_⟩;have dO:=s7 (l:=v.Q) (a:=s);have dP:=s7 (l:=v.Q) (a:=e);generalize cy:(cu v.Q s).1=h at*;generalize cz:(cu v.Q e).1=i at*;have bC:aC am cq 1 iY [h,i]:=by have:=cr.aI o2;simp only [eB,ob,cy,cz]at this;exact this
 apply bE.h;have H:O am am.drew:=(O.p am).C;rw[GY (i:=0) (z:=0) bC F F H,GY (i:=1) (z:=1) bC F F H,aK (v:=al (ah (h,i)).toArray) (λl q K=>bz (iR:=[(0,[I X h]),(1,[I X i])]) dg jO F F) H];refine bo dg λbD cs dQ ct bF c1=>⟨H.a bF,?_⟩;refine aZ (cS:=ah (h,i)) dj g c1 F F ae (dk _) λaq dR c2 c3=>?_;have bG:ag aq bD (ah (h,i)):=c3;have dT:=H.size;have a9:O am aq:=(H.a bF).ab c2 λj f=>by cases f;omega
 have bH:=bA.a a9;have aV:=((aR.h a5).h a8).h a9;have c4:=bB.h a9;rw[M mV oP (aV.H.b.f 2 F)];refine(xv (aM.h bH) G).o ?_;rintro aW bI ⟨A,bJ⟩;have bK:=bH.a A;rw[M mV oP ((aV.h A).H.b.f 2 F),aF cP (bG.h A).b F];refine(ahm (x:=(h,i)) ⟨G,G⟩ (aM.h bK) G).o ?_;rintro n c5 ⟨L,y⟩;have aY:=bK.a L;have dU:=a0.size;have gv:=b4.size;have dV:=a2.size;have dW:=a5.size;have dX:=a8.size;have dY:=a9.size;have dZ:=A.size;have ea:=L.size;have bM:∀{l:aa} {K:aU} {x k z:Z},e7 (a1 #[x,k,z]) 0 l K=K x l:=λ{l K x k z}=>F;have bN:∀{l:aa} {K:aU} {x k z:Z},e7 (a1 #[x,k,z]) 1 l K=K k l:=λ{l K x k z}=>F;have bO:∀{l:aa} {K:aU} {x k z:Z},e7 (a1 #[x,k,z]) 2 l K=K z l:=λ{l K x k z}=>F;have ba:=(c4.h A).h L;rcases y with⟨bb,rfl⟩|⟨c6,eb,rfl,ed,c7⟩
 ·rw[bM,bN,bO,bs,bu];refine⟨λ_=>?_,λq=>aL q g⟩;rw[bz (S:=hS) (iR:=[]) it pR F F];refine i1 is h8 g ba g ki F F qg λB bP m c8 c9=>?_;have P:q6 v (h,i)=1:=by unfold q6;rw[an bb]
  exact⟨aY.ab m λj f=>by cases f;omega,.inr ⟨aT,.inl ⟨by rw[P];decide,by rw[P]⟩⟩⟩
 have P:q6 v (h,i)=gK v.z (gW v.M (h,i)):=by unfold q6;rw[au c6]
 rw[bM,bN,bO,bs,bu];refine⟨λap=>?_,λbc=>?_⟩
 ·rw[bz (S:=hS) (iR:=[]) it pR F F];refine i1 is h8 g ba g ki F F qg λB bP m c8 c9=>?_;exact⟨aY.ab m λj f=>by cases f;omega,.inr ⟨aT,.inl ⟨by rw[P];exact ap,by rw[P]⟩⟩⟩
 have bR:=c7 bc;obtain⟨aA,_,_,rfl,_⟩:=id bR;rw[aj mV];have bg:=(aV.h A).h L;refine gh (cS:=[ad (J ⟨aA,0,ac⟩)]) EJ g bg F F ae (by intro n y;simp at y;subst y;rfl) λB bP m cA=>?_;have cB:bQ B b6 [ad a3,ad (J ⟨a4,0,ac⟩),ad (J ⟨aA,0,ac⟩),I X v.aE,I X v.a7] 100:=cA;have ee:dc c5 B:= .af m bg g (zP _ _ _ _ _);have cC:O w B:=aY.ab m λj f=>by cases f;omega
 have cD:=ba.ab m (be G);have bS:=((bG.h A).h L).ab m (be G);have cE:oM B bI.heap.size (ad (J ⟨aA,0,ac⟩)) v.z (fE (gW v.M (h,i))):=bR.ab m λt r=>by cases r;omega
 have cF:ar B aq.heap.size 49 2 aW ah v.M:=k_ (bJ.h L) bg g m;have av:∀j,aW.ownBlock=J j->aq.heap.size<=j/\j<bI.heap.size:=λj f=>bJ.D j f;rw[jZ];refine(Vt (p:=xN (h,i)) cF (amy bS G G) G G).o ?_;rintro ef cG ⟨_,R,cH,cJ⟩;have eg:=R.size;have S:∀{t:Nat},t<aq.heap.size->J t≠aW.ownBlock:=λr q=>by have:=(av _ q.symm).1;omega
 have cK:O w cG:=cC.ab R λj f=>by have:=(av j f).1;omega
 have cM:=cD.ab R (S G);have cN:=cB.ab R (S G);have bT:=bS.ab R (S G);have cQ:=cE.ab R λt r=>(av t r).2;rw[aF cP bT.b F];have eh:(v.M.filter λx=>!xN (h,i) x).length<=v.M.length:=mH ..;refine cm.push (x:=(h,i)) cJ G G g λei cR cS C ej=>?_;rw[cH]at C;have ek:=C.size;have cU:O w cR:=cK.ab C λj f=>by have:=(av j f).1;omega
 have cV:=cM.ab C (S G);have cW:=cN.ab C (S G);have cY:=bT.ab C (S G);have cZ:=cQ.ab C λt r=>(av t r).2;refine(Rp (n:=v.z) (cS.aI e_) G (λk o=>?_)).o ?_
 ·rcases b9.1 o with o|o
  ·obtain⟨aw,aB,em⟩:=V.M.az k (fS.1 o).1;omega
  ·rw[cL.1 o];simp only;omega
 rintro n en ⟨U,a,b,rfl,da,eo,db⟩;have eq:=U.size;have dd:=cY.h U;refine aZ (cS:=ah ((a:Int),(b:Int))) dj g dd F F ae (dk _) λbh er aD de=>?_;have bU:ag bh bD (ah ((a:Int),(b:Int))):=de;have ay:O w bh:=(cU.a U).ab aD λj f=>by cases f;omega
 have dh:=(cV.h U).ab aD (be G);have di:=(cW.h U).ab aD (be G);have dl:=(cZ.h U).ab aD λt r=>by cases r;omega
 have dm:hb bh [ad a3,ad (J ⟨a4,0,ac⟩),ad (J ⟨aA,0,ac⟩),I X v.aE,I X v.a7] (v.bf (fE (gW v.M (h,i)))):=⟨_,_,_,ci,F,aJ.h ay,b1,b2,b3.h ay,dl.ai⟩;obtain⟨dn,dp⟩:=Sm (M:=fE (gW v.M (h,i))) (a:=a) (b:=b) V (zG bc) da G (λk o=>by
  rw[La]at o;unfold gW at o;rcases o with⟨aw,aB⟩|⟨aw,aB⟩
  ·have bb:xN (h,i) k=false:=by
    cases dq:xN (h,i) k with
    |false=>rfl
    |true=>exact aL (fS.2 ⟨aw,dq⟩) aB
   have:=db k (hY _ (fS.2 ⟨aw,by rw[bb];rfl⟩));omega
  ·exact aL (fS.1 aw).1 aB)
 rw[aF ka di.H.b F,aF cP bU.b F,aF cP bU.b F];refine(CD (br.h ay) dm V dn (bZ.h ay) dp).o ?_;rintro n es ⟨bi,et,D,aG,N,rfl,bV,dr⟩;obtain⟨bj,_,_,rfl,_⟩:=id bV;rw[aN,aO];refine nX (cS:=gd (ad (J ⟨bj,0,ac⟩)) D aG D N 0 (ac,0,0) (ac,0,0)) it is g F F (ov F _ _ _ _ _ _ _) λbW bX eu ev bk ds=>?_;have bY:bQ bX bW (gd (ad (J ⟨bj,0,ac⟩)) D aG D N 0 (ac,0,0) (ac,0,0)) 184:=ds;have ew:=bi.size;rw[aj Pv];refine gh (cS:=[I X ((v.M.length:Int)-(gW v.M (h,i)).length)]) bw g bY F F (by simp[gd]) eY λbm ex bn dt=>?_;have du:bQ bm bW (gd (ad (J ⟨bj,0,ac⟩)) D aG D N ((v.M.length:Int)-(gW v.M (h,i)).length) (ac,0,0) (ac,0,0)) 184:=dt;have dw:dc bX bm:= .af bn bY g (CF _ _ _ _ _ _ _ _);have dx:O w bm:=((ay.a bi).a bk).ab bn λj f=>by cases f;omega
 have dz:=((dh.h bi).h bk).ab bn (be G);rw[aF h8 du.H.b F];refine i1 is h8 g dz g ki F F (ov F _ _ _ _ _ _ _) λez e1 d0 d2 e3=>?_;exact⟨dx.ab d0 λj f=>by cases f;omega,.inr ⟨aT,.inr ⟨by rw[P];exact bc,_,D,aG,N,_,_,_,_,_,F,e2.bp (e2.bp (bV.h bk) dw) d2,dr⟩⟩⟩
abbrev tS(a:aH):Prop:=(1<=a.aE/\a.aE<=16)/\0<=a.a7/\a.a7<=200
def aH.Y(v:aH)(a A:Int):aH:=if a=5 then{v with a7:=A}else{v with aE:=A}
variable{x:aH}
def VG(a:bL x){A:Int}(f:tS (x.Y t A)):bL (x.Y t A)/\mM x (x.Y t A) 0 0 0:=by
 have d:(x.Y t A).Q=x.Q:=by unfold aH.Y;split<;>rfl
 have g:(x.Y t A).R=x.R:=by unfold aH.Y;split<;>rfl
 have h:(x.Y t A).M=x.M:=by unfold aH.Y;split<;>rfl
 have b:(x.Y t A).z=x.z:=by unfold aH.z;rw[d]
 have c:(x.Y t A).r=x.r:=by unfold aH.r;rw[h]
 refine⟨⟨by rw[b];exact a.z,by rw[d];exact a.aZ,by rw[b,g];exact a.R,by rw[b,h];exact a.M,f.1,f.2⟩,?_⟩;refine⟨a6 _,a6 _,ec _,ec _,by rw[b],λi j=>aL j (Nat.not_lt_zero _),λi=>by rw[d],λe _=>by rw[c],λe _=>by rw[c],λe _=>?_,λe _=>?_,?_⟩
 ·rw[c];congr 1;omega
 ·rw[c];congr 1;omega
 ·rw[g];exact SI a.R.hp a.R.nl (gw _)
variable{S:List Z}
def alS(h:hb w S x)(o:¬tS x):ak Y 108 [al S.toArray] w λb d=>O w d/\b=I X 1:=by
 obtain⟨e,f,g,z,rfl,p,q,r,s,t⟩:=h;apply OT;have u:x.Q.length=x.z:=rfl;refine bd (S:=[e,f,g,I X x.aE,I X x.a7]) F λA B C D i j=>?_;rw[M mW gl (j.b.f 0 F)];refine(kK (p.h i) q).o ?_;rintro b v ⟨k,rfl⟩;rw[r];have a:=i.a k;have c:=j.h k;refine bG.y (λl d=>d=v/\l=[ax ao]) ?_ ?_
 ·rw[M pQ pL (c.b.f 1 F)];refine(vG (s.h a)).o ?_;rintro b y ⟨rfl,rfl⟩;rw[bs,bu];refine⟨λh=>aL u.symm G,λ_=>?_⟩;rw[M mV oP (c.b.f 2 F)];refine(xx (t.h a)).o ?_;rintro b H ⟨rfl,rfl⟩;rw[bs];exact⟨F,by rw[eK G];rfl⟩
 rintro l K y ⟨rfl,rfl⟩;simp only [av];have m:=c.b.f 3 (show [e,f,g,I X x.aE,I X x.a7][3]? =J (I X x.aE)from F);have n:=c.b.f 4 (show [e,f,g,I X x.aE,I X x.a7][4]? =J (I X x.a7)from F);rw[cw,M vi E m,aR,ai];refine⟨λ_=>⟨a,by trivial⟩,λL=>?_⟩;rw[M vi E m,cb,ai];refine⟨λ_=>⟨a,by trivial⟩,λP=>?_⟩;rw[M vj E n,aR,ai];refine⟨λ_=>⟨a,by trivial⟩,λR=>?_⟩;rw[M vj E n,cb,ai];exact⟨λ_=>⟨a,by trivial⟩,λU=>aL ⟨⟨G,G⟩,G,G⟩ o⟩
variable{x:Z}{e c:List Z}{d s:aH}
def amq(l:e2 w x d)(a:hb w S s)(m:¬tS s)(y:e.length=2)(z:c.length=2):
 ak Y 144 [x,al S.toArray,al e.toArray,al c.toArray] w λb n=>O w n/\b=a1 #[ad ac,al (hL 0 0 0 0).toArray,I X 1]:=by
 obtain⟨A,B,C,rfl,_⟩:=l;have o:=a.B.1;apply ON;refine bd (S:=S) F λE G H K p q=>?_;refine bd (S:=e) F λL M P Q f R=>?_;refine bd (S:=c) F λU V W ae h ag=>?_;refine bo pV λah ai aj am i r=>?_;have j:=((p.a f).a h).a i;rw[fZ D];show b6 (ax ao) _ _;rw[cw,aF ka (((q.h f).h h).h i).b o];refine(alS (a.h j) m).o ?_;rintro b an ⟨k,rfl⟩;rw[bs,bu];refine⟨λ_=>?_,λt=>aL t g⟩;rw[bz (S:=hL 0 0 0 0) (iR:=[]) pV Js F F];refine er rA u7 g (r.h k) F F (rN _ _ _ _) λaq ar u au=>?_;exact⟨(j.a k).ab u λav v=>by cases v;omega,F⟩
def ajq(u:e2 w x d)(m:hb w S s)(v:¬tS s)(n:e.length=2)(o:c.length=2):
 ak Y 143 [x,al S.toArray,al e.toArray,al c.toArray] w λp y=>O w y/\p=a1 #[al hS.toArray,I X 1]:=by
 apply OM;have z:=m.B.1;refine bd (S:=S) F λQ R U V A B=>?_;refine bd (S:=e) F λW ae ag ah q C=>?_;refine bd (S:=c) F λai aj am an k D=>?_;refine bo it λap aq ar au j E=>?_;have l:=((A.a q).a k).a j;rw[aF ka (((B.h q).h k).h j).b z,aF cP ((C.h k).h j).b n,aF cP (D.h j).b o];refine(amq (u.h l) (m.h l) v n o).o ?_;rintro p av ⟨r,rfl⟩;have G:∀{a:aa} {b:aU} {f h i:Z},e7 (a1 #[f,h,i]) 0 a b=b f a:=λ{a b f h i}=>F;have H:∀{a:aa} {b:aU} {f h i:Z},e7 (a1 #[f,h,i]) 1 a b=b h a:=λ{a b f h i}=>F;have K:∀{a:aa} {b:aU} {f h i:Z},e7 (a1 #[f,h,i]) 2 a b=b i a:=λ{a b f h i}=>F;rw[G,H,K];refine cj (cS:=hL 0 0 0 0) pV rA g F F (rN _ _ _ _) λay az a0 a2 t a3=>?_;rw[bs,bu];refine⟨λ_=>?_,λL=>aL L g⟩;rw[bz (S:=hS) (iR:=[]) it pR F F];refine er is h8 g ((E.h r).h t) F F qg λa5 a7 M a8=>?_;exact⟨((l.a r).a t).ab M λa9 P=>by cases P;omega,F⟩
variable{s:Int}
def ajo{e:aH}{c:Int}{d k:bK}(q:e2 w x e)(K:bL e)(a4:fV w):ak Y 149 [x,al (ep t s c d u k).toArray] w λh L=>O w L/\
 ((¬tS (e.Y t s)/\uX h 1)\/(tS (e.Y t s)/\A1 L h e (e.Y t s) 0)):=by
 apply aba;refine bd (S:=ep t s c d u k) F λbn bo br bs a5 a8=>?_;refine lb it λS a9 bu bv U aA=>?_;have aB:bQ a9 S hS 184:=aA;have r:=a5.a U;refine(q9 q r).o ?_;rintro h bx ⟨m,b0,rfl,_,v⟩;have aC:=v.B.2;have b1:=v;obtain⟨n,o,p,aD,rfl,aG,aI,aJ,aK,aL⟩:=v;have V:=r.a m;refine cj (cS:=[n,o,p,I X e.aE,I X e.a7]) sE tQ g F F aC λaM aP b2 b3 z W=>?_;have am:=V.a z;have b4:=r.size;have gv:=V.size;have b5:=m.size;have A:=(((a8.h U).h m).h z).b;have ap:=(aB.h m).h z;refine bG.y (λaq f=>aq=[]/\O w f/\aP.heap.size<=f.heap.size/\bQ f S hS 184/\ag f aM [n,o,p,I X (e.Y t s).aE,I X (e.Y t s).a7]) ?_ ?_
 ·rw[M wX E (A.f 0 (show(ep t s c d u k)[0]? =J (I X t)from F)),bm,ai];refine⟨λB=>?_,λB=>?_⟩
  ·rw[M tI E (A.f 1 (show(ep t s c d u k)[1]? =J (I X s)from F)),aj vj];refine aZ (cS:=[I X s]) bw g W F F ae eY λaR aS i j=>?_;have C:e.Y t s={e with a7:=s}:=by unfold aH.Y;rw[au B]
   rw[C];exact⟨F,am.ab i λD b=>by cases b;omega,G,ap.ab i (be G),j⟩
  ·rw[M tI E (A.f 1 (show(ep t s c d u k)[1]? =J (I X s)from F)),aj vi];refine aZ (cS:=[I X s]) bw g W F F ae eY λaR aS i j=>?_;have C:e.Y t s={e with aE:=s}:=by unfold aH.Y;rw[an B]
   rw[C];exact⟨F,am.ab i λD b=>by cases b;omega,G,ap.ab i (be G),j⟩
 rintro aq y f ⟨rfl,a,b6,ar,aT⟩;have av:(e.Y t s).Q=e.Q:=by unfold aH.Y;split<;>rfl
 have aU:(e.Y t s).R=e.R:=by unfold aH.Y;split<;>rfl
 have aV:(e.Y t s).M=e.M:=by unfold aH.Y;split<;>rfl
 have aw:(e.Y t s).z=e.z:=by unfold aH.z;rw[av]
 have ay:hb f [n,o,p,I X (e.Y t s).aE,I X (e.Y t s).a7] (e.Y t s):=⟨n,o,p,aD,F,aG.h a,aI,by rw[av];exact aJ,by rw[aw,aU];exact aK.h a,by rw[aw,aV];exact aL.h a⟩;rw[aF ka aT.b F,bz (S:=ah (0,0)) (iR:=[]) dg jO F F,bz (S:=ah (0,0)) (iR:=[]) dg jO F F];rcases XU (tS (e.Y t s))with az|a0
 ·obtain⟨aY,ba⟩:=VG K az;refine(CD (a:=0) (b:=0) (c:=0) (q.h a) ay K aY (a4.h a) ba).o ?_;rintro h bb ⟨l,bc,bg,bh,N,rfl,a2,bi⟩;rw[aN,aO];have bj:=C6 a2;refine i1 is h8 g (ar.h l) g ki F F (ov bj.2 _ _ _ _ _ _ _) λbk bl H a3 j=>?_;exact⟨(a.a l).ab H λD b=>by cases b;omega,.inr ⟨az,bc,bg,bh,N,_,_,_,_,_,F,a2.bp a3,bi⟩⟩
 ·refine(ajq (q.h a) ay a0 F F).o ?_;rintro h bb ⟨l,rfl⟩;rw[aN,aO];refine i1 is h8 g (ar.h l) g ki F F qg λbk bl H a3 j=>?_;exact⟨(a.a l).ab H λD b=>by cases b;omega,.inl ⟨a0,g,F⟩⟩
def ana{e:List Int}(c:aC w x 1 iY e):ak Y 311 [x,I X t] w λj m=>O w m/\((∃a:Nat,j=I X a/\t∈e)\/(j=I X (-1)/\t∉e)):=by
 apply ab6;have p:=c.aD;rw[aS fW c];refine ba.bJ (λf k l=>O w l/\∃a:Nat,a+f=e.length/\k=[I X a]/\t∉e.take a) ⟨e.length,O.p _,0,G,F,ae⟩ ?_;rintro f k q l ⟨b,a,r,rfl,h⟩;simp only [av];rw[aR,ai];refine⟨λs=>?_,λu=>?_⟩
 ·obtain⟨i,d⟩:∃i,e[a]? =J i:=⟨_,aX G⟩;obtain⟨v,y,n,o⟩:=(c.h b).m d;rw[cr fW bw g (c.h b) d F,n,aM E (o.U F),bm,ai];refine⟨λz=>⟨b,.inl ⟨a,F,by rw[<-show i=t from G];exact cl d⟩⟩,λA=>?_⟩;rw[aD];refine⟨f-1,G,b,a+1,G,ae,λhm=>?_⟩;rw[c9 d]at hm;rcases b9.1 hm with hm|hm
  ·exact h hm
  ·have:=cL.1 hm;omega
 ·rw[d_ G]at h;exact⟨b,.inr ⟨by trivial,h⟩⟩
def am_{e:Z}{x:Int}{l:List Int}(d:aC w e 1 iY l):ak Y 223 [e,I X x] w λb f=>O w f/\b=ax (decide (x∈l)):=by
 apply abY;refine(ana d).o ?_;rintro b g ⟨c,⟨h,rfl,a⟩|⟨rfl,a⟩⟩
 ·rw[eE];exact⟨c,by rw[eK a,eK G]⟩
 ·rw[eE];exact⟨c,by rw[db a];rfl⟩
def jY(a:List Int)(x:aG):aG:={x with C:=(cu a x.C).1}
def q5(x:aG):aB:=(x.C,x.C)
def r6(v:aH)(rem:List Int)(A:List aG):List aG:=jo ((lH v.R rem++A.map (jY v.Q)).map hc)
def lg(v:aH)(rem:List Int)(A:List aG):Int:=if 60<A.length then 5 else if dy v.Q (A.map (·.C))≠0 then dy v.Q (A.map (·.C))else nZ v.z v.R rem (A.map (jY v.Q))
def aiD{x:List aG}{e:aG}:e∈jo x↔e∈x:=(wg x).mem_iff
variable{rem:List Int}
def VJ{x:aH}{A:List aG}{a b:Nat}(e:bL x)(d:nZ x.z x.R rem (A.map (jY x.Q))=0)(k:a<=b)(l:b<=x.z)
 (m:∀c∈A,(a:Int)<=(cu x.Q c.C).1/\(cu x.Q c.C).1<=b)(n:∀c∈x.R,c.G∈rem->(a:Int)<=c.C/\c.C<=b):
 bL (x.aK (r6 x rem A))/\mM x (x.aK (r6 x rem A)) a b b:=by
 have o:nm x.z (lH x.R rem++A.map (jY x.Q))=0:=by
  unfold nZ at d;split at d
  ·exact d
  ·exact aL d g
 refine ahK e (TP o) k l λc p=>?_;unfold r6;rw[aiD,dJ,b9];constructor
 ·intro hm;refine .inl (eP.2 ⟨c,fS.2 ⟨hm,?_⟩,e.R.h_ c hm⟩);rw[dF];intro q;have:=n c hm q;omega
 ·rintro(hm|hm)
  ·obtain⟨i,f,rfl⟩:=eP.1 hm;have j:=(fS.1 f).1;rw[e.R.h_ i j];exact j
  ·obtain⟨i,f,rfl⟩:=eP.1 hm;obtain⟨h,r,rfl⟩:=eP.1 f;have t:=m h r;have s:(hc (jY x.Q h)).C=(cu x.Q h.C).1:=rfl;rw[s]at p;omega
def aii{a:Int}(d:∀c b,ar b w.heap.size 3 1 c iY [a]->O w b->K c b):fR Y 55 1 [(0,I X a)] w K:=
 f0 (n:=1) (V:=iY) (L:=[a]) (iR:=[(0,[I X a])]) fW bw F mY g g o2 F F λc b k e f l=>d c b e.row f
variable{k:Nat}{v:Z}
def zW{α:Type}{w a:aa}{b:Nat}{V:α->List Z}{c:List α}(d:ar w n k i v V c)(e:w.grownBy a (J b))(f:v.ownBlock≠J b):ar a n k i v V c:=d.ab e (.inr f)
def vY{α:Type}{w:aa}{b:Nat}{V:α->List Z}{a:List α}(c:ar w n k i v V a)(e:w.heap.size<=b):v.ownBlock≠J b:=λd=>by have:=(c.D b d).2;omega
def ajp{e:Z}{c:aH}{d:Int}{k v:bK}{A:List aG}(bH:e2 w e c)(K:bL c)(c0:fV w)(c1:hJ w)(bk:aC w (Go.Lift.ay v) 5 bC A)(bI:aC w (Go.Lift.ay k) 1 iY rem)(c2:∀x∈A,x.c5.length<=10000000):
 ak Y 148 [e,al (ep t s d u k v).toArray] w λz bK=>O w bK/\((lg c rem A≠0/\uX z (lg c rem A))\/(lg c rem A=0/\A1 bK z c (c.aK (r6 c rem A)) 0)):=by
 have d9:c.z=c.Q.length:=rfl;have dA:=K.z;have dB:=K.R.bl;apply abb;refine bd (S:=ep t s d u k v) F λdC dD dE dF c3 c4=>?_;refine lb it λc6 c7 dG dH bM c8=>?_;have bN:bQ c7 c6 hS 184:=c8;have az:=c3.a bM;have dI:=az.size;have bO:=c4.h bM;rw[M yL qD (bO.b.f 5 (show(ep t s d u k v)[5]? =J (Go.Lift.ay v)from F)),aS dZ.m (bk.h az),cb,ai];refine⟨λcA=>?_,λcA=>?_⟩
 ·rw[bz (S:=hS) (iR:=[]) it pR F F];refine i1 is h8 g bN g ki F F qg λS cB U dK aH=>?_;have n:lg c rem A=5:=by unfold lg;rw[au G]
  exact⟨az.ab U λo l=>by cases l;omega,.inl ⟨by rw[n];decide,by rw[n];decide,by rw[n]⟩⟩
 refine(q9 bH az).o ?_;rintro z dL ⟨aJ,dM,rfl,_,bP⟩;have cC:=bP.B.2;obtain⟨dP,dQ,dR,cD,rfl,bm,bR,bS,bn,bT⟩:=bP;have bU:=az.a aJ;obtain⟨aP,rfl⟩:=uw bm;obtain⟨bV,_,rfl,_⟩:=id bn;obtain⟨aT,_,_,rfl,_⟩:=id bT;refine nX (cS:=[ad aP,ad (J ⟨bV,0,ac⟩),ad (J ⟨aT,0,ac⟩),I X c.aE,I X c.a7]) sE tQ g F F cC λbW r dT dU bo cE=>?_;have aH:bQ r bW [ad aP,ad (J ⟨bV,0,ac⟩),ad (J ⟨aT,0,ac⟩),I X c.aE,I X c.a7] 100:=cE;have aU:=bU.a bo;have br:=(bO.h aJ).h bo;have bv:=(bN.h aJ).h bo;have gv:=bU.size;have dV:=aJ.size;rw[M yL qD (br.b.f 5 (show(ep t s d u k v)[5]? =J (Go.Lift.ay v)from F)),aS dZ.m (bk.h aU)];refine ba.bJ (λB a2 aV=>O r aV/\∃(i:Nat) (aW co:Z),i+B=A.length/\a2=[aW,co,I X i]/\ar aV r.heap.size 125 5 aW bC ((A.take i).map (jY c.Q))/\ar aV r.heap.size 49 2 co ah ((A.take i).map λx=>q5 (jY c.Q x))/\∀x∈A.take i,(cu c.Q x.C).2=0)
  ⟨A.length,O.p _,0,_,_,G,F,ar.nil ..,ar.nil ..,ae⟩ ?_
 rintro B a2 a0 aV ⟨L,i,aW,co,dW,rfl,a3,aY,bb⟩;simp only [av,bA];have bx:=aU.a L;rw[aR,ai];refine⟨λcF=>?_,λcG=>?_⟩
 ·obtain⟨x,h⟩:∃x,A[i]? =J x:=⟨_,aX G⟩;refine dZ.dO (bk.h bx) h F λcH cJ y dX dY b0=>?_;have cK:=bx.a y;have cM:=L.size;rw[M mW gl (((aH.h L).h y).H.b.f 0 F),jZ,M h2 E (b0.b.f 1 (show(bC x)[1]? =J (I X x.C)from F))];refine aii λea b1 cN f=>?_;refine(Gt (bm.h (cK.a f)) bR (cN.aI o2) ae).o ?_;rintro z S ⟨m,a4⟩;rw[bS]at a4;have P:=((L.a y).a f).a m;have b2:=aU.a P;have eb:=(f.a m).size;rcases a4 with⟨D,rfl⟩|⟨cQ,ed,rfl,cR⟩
  ·rw[aN,aO,bs,bu];refine⟨λ_=>?_,λV=>aL V D⟩;rw[bz (S:=hS) (iR:=[]) it pR F F];refine i1 is h8 g (bv.h P) g ki F F qg λW bX p cS b3=>?_;have b4:dy c.Q [x.C]=(cu c.Q x.C).2:=by
    unfold dy;split
    ·rfl
    ·rename_i V;rw[show dy c.Q []=0 from F];omega
   have n:lg c rem A=dy c.Q [x.C]:=by
    have bY:dy c.Q (A.map (·.C))=(cu c.Q x.C).2:=Fo (i:=i) (a:=x.C) (λam j=>by rw[<-qp]at j;obtain⟨q,ap,rfl⟩:=eP.1 j;exact bb q ap) (by rw[h5,h];rfl) (by rw[<-b4];exact D)
    unfold lg;rw[an G,au (by rw[bY,<-b4];exact D),bY,b4]
   exact⟨b2.ab p λo l=>by cases l;omega,.inl ⟨by rw[n];exact D,by rw[n];exact D,by rw[n]⟩⟩
  ·have ee:=s7 (l:=c.Q) (a:=x.C);have cV:(cu c.Q x.C).2=0:=cQ _ (cL.2 F);rw[aN,aO,bs,bu];refine⟨λV=>aL F V,λ_=>?_⟩;have bZ:=cR.aI o2;obtain⟨ef,eg,cW,cY⟩:=bZ.m (i:=0) (x:=(cu c.Q x.C).1) F;rw[cr (z:=0) (i:=0) fW bw g bZ (x:=(cu c.Q x.C).1) F F,cW,aM E (cY.U F),aj h2];have cZ:=(b0.h f).h m;refine aZ (cS:=[I X (cu c.Q x.C).1]) bw g cZ F F (by simp[bC]) eY λW bX p b3=>?_;have ca:ag W cH (bC (jY c.Q x)):=b3;have cd:O r W:=P.ab p λo l=>by cases l;omega
   have b5:=zW (((a3.h y).h f).h m) p (vY a3 G);have ce:=zW (((aY.h y).h f).h m) p (vY aY G);have ei:((A.take i).map (jY c.Q)).length<=60:=by rw[b_,bt];omega
   have da:((A.take i).map λx=>q5 (jY c.Q x)).length<=60:=by rw[b_,bt];omega
   have ej:=cd.size;rw[aF mQ ca.b F];refine dZ.push (x:=jY c.Q x) b5 G G g λdb b6 cf b7 ek=>?_;have cg:O r b6:=cd.ab b7 λo l=>(b5.D o l).1;have b8:=ce.ab b7 (ce.aN b5 g);have dd:=ca.ab b7 (λV=>(vY a3 G) V.symm);have ch:=dd.b.f 1 (show(bC (jY c.Q x))[1]? =J (I X (cu c.Q x.C).1)from F);have el:=cg.size;rw[M h2 E ch,M h2 E ch,bz (S:=ah (q5 (jY c.Q x))) (iR:=[(0,[I X (cu c.Q x.C).1]),(1,[I X (cu c.Q x.C).1])]) dg jO F F];refine cm.push (x:=q5 (jY c.Q x)) b8 G G g λbB de dh ci em=>?_;have di:=cf.ab ci (cf.aN b8 g);rw[aD];refine⟨B-1,G,cg.ab ci λo l=>(b8.D o l).1,i+1,db,bB,G,ae,?_,?_,λam j=>?_⟩
   ·rw[c9 h,dJ];exact di
   ·rw[c9 h,dJ];exact dh
   ·rw[c9 h]at j;rcases b9.1 j with j|j
    ·exact bb am j
    ·rw[cL.1 j];exact cV
 ·rw[d_ G]at a3 aY bb;have dl:dy c.Q (A.map (·.C))=0:=vy λam j=>by obtain⟨q,ap,rfl⟩:=eP.1 j;exact bb q ap
  have n:lg c rem A=nZ c.z c.R rem (A.map (jY c.Q)):=by unfold lg;rw[an G,an (by rw[dl];decide)]
  have cM:=L.size;rw[M pQ pL ((aH.h L).H.b.f 1 F)];refine(zq (bn.h bx) G).o ?_;rintro dm cJ ⟨y,ck⟩;have en:=y.size;rw[aS dZ.m (ck.aI d0)];refine ba.bJ (λB a2 a5=>O r a5/\∃(i:Nat) (co:Z),i+B=c.R.length/\a2=[co,I X i]/\ar a5 r.heap.size 125 5 dm bC c.R/\ar a5 r.heap.size 125 5 aW bC (A.map (jY c.Q))/\ar a5 r.heap.size 49 2 co ah ((A.map λx=>q5 (jY c.Q x))++((c.R.take i).filter λx=>decide (x.G∈rem)).map q5))
   ⟨c.R.length,L.a y,0,co,G,F,ck.o G,a3.h y,by simpa using aY.h y⟩ ?_
  rintro B a2 a0 a5 ⟨H,a8,co,eo,rfl,bc,bg,bh⟩;simp only [av,bA];have a9:=aU.a H;have eq:=H.size;rw[aR,ai];refine⟨λcF=>?_,λcG=>?_⟩
  ·obtain⟨x,h⟩:∃x,c.R[a8]? =J x:=⟨_,aX G⟩;refine dZ.dO (bc.aI d0) h F λer b1 f es et cn=>?_;rw[M Ei vc (((br.h H).h f).b.f 4 (show(ep t s d u k v)[4]? =J (Go.Lift.ay k)from F)),M oi E (cn.b.f 0 (show(bC x)[0]? =J (I X x.G)from F))];refine(am_ (bI.h (a9.a f))).o ?_;rintro z S ⟨m,rfl⟩;have P:=(H.a f).a m;have eu:=P.size;have da:((A.map λx=>q5 (jY c.Q x))++((c.R.take a8).filter λx=>decide (x.G∈rem)).map q5).length<=120:=by rw[bf,b_,b_];have:=mH (λx:aG=>decide (x.G∈rem)) (c.R.take a8);rw[bt]at this;omega
   rw[ai];refine⟨λbD=>?_,λbD=>?_⟩
   ·have cp:=(cn.h m).b.f 1 (show(bC x)[1]? =J (I X x.C)from F);rw[M h2 E cp,M h2 E cp,bz (S:=ah (q5 x)) (iR:=[(0,[I X x.C]),(1,[I X x.C])]) dg jO F F];have aq:=(bh.h f).h m;refine cm.push (x:=q5 x) aq G G g λbB W dn p ev=>?_;rw[aD];refine⟨B-1,G,P.ab p λo l=>(aq.D o l).1,a8+1,bB,G,ae,((bc.h f).h m).ab p (((bc.h f).h m).aN aq g),((bg.h f).h m).ab p (((bg.h f).h m).aN aq g),?_⟩;rw[c9 h,jd,N8 (by simpa using bD),Xu,dJ,<-cX];exact dn
   ·rw[aD];refine⟨B-1,G,P,a8+1,co,G,ae,(bc.h f).h m,(bg.h f).h m,?_⟩;rw[c9 h,jd,H0 (by simpa using bD),Xu,cT];exact(bh.h f).h m
  ·rw[d_ G]at bh;have cq:=aH.h H;rw[M pQ pL (cq.H.b.f 1 F),M Ei vc ((br.h H).b.f 4 (show(ep t s d u k v)[4]? =J (Go.Lift.ay k)from F))];refine(ahR (c1.h a9) ⟨G,G⟩ (bn.h a9) G (bI.h a9) (bg.aI d0) (by rw[b_];omega) (λx h=>?_) K.R.nl).o ?_
   ·rcases b9.1 h with h|h
    ·have:=wo K.R x h;omega
    ·obtain⟨am,j,rfl⟩:=eP.1 h;exact c2 am j
   rintro z b1 ⟨f,ew,rfl,ex,dp⟩;have cs:=a9.a f;have ez:=f.size;rw[aN,aO,bs,bu];refine⟨λD=>?_,λbE=>?_⟩
   ·rw[bz (S:=hS) (iR:=[]) it pR F F];refine i1 is h8 g ((bv.h H).h f) g ki F F qg λW bX p cS b3=>?_;exact⟨cs.ab p λo l=>by cases l;omega,.inl ⟨by rw[n];exact D,by rw[n];exact D,by rw[n]⟩⟩
   have ct:=dp bE;obtain⟨bF,_,rfl,_⟩:=id ct;rw[aj pQ];have bG:=cq.h f;refine gh (cS:=[ad (J ⟨bF,0,ac⟩)]) JE g bG F F ae (by intro z a4;simp at a4;subst a4;rfl) λS cB U dq=>?_;have dr:bQ S bW [ad aP,ad (J ⟨bF,0,ac⟩),ad (J ⟨aT,0,ac⟩),I X c.aE,I X c.a7] 100:=dq;have ds:dc b1 S:= .af U bG g (zP _ _ _ _ _);have b2:O w S:=cs.ab U λo l=>by cases l;omega
   have aq:=k_ (bh.h f) bG g U;have dt:=((bv.h H).h f).ab U (be G);refine(Rp (n:=c.z) (aq.aI e_) G (λam j=>?_)).o ?_
   ·rcases b9.1 j with j|j
    ·obtain⟨q,ap,rfl⟩:=eP.1 j;have:=s7 (l:=c.Q) (a:=q.C);exact⟨⟨this.1,by show(cu c.Q q.C).1<=_;omega⟩,⟨this.1,by show(cu c.Q q.C).1<=_;omega⟩⟩
    ·obtain⟨q,ap,rfl⟩:=eP.1 j;have:=ma.1 (K.R.ab q (fS.1 ap).1);exact⟨⟨this.1.2.1,this.1.2.2.1⟩,⟨this.1.2.1,this.1.2.2.1⟩⟩
   rintro z W ⟨bi,a,b,rfl,du,e3,cw⟩;refine cj (cS:=ah ((a:Int),(b:Int))) dg dj g F F (dk _) λe4 b6 e5 e6 bj cx=>?_;have aA:=(b2.a bi).a bj;obtain⟨dw,dx⟩:=VJ (A:=A) (rem:=rem) (a:=a) (b:=b) K bE du G (λx h=>by
    have:=cw (q5 (jY c.Q x)) (hY _ (eP.2 ⟨x,h,F⟩));exact⟨this.1,this.2.2.1⟩) (λx h dz=>by
    have:=cw (q5 x) (lo _ (eP.2 ⟨x,fS.2 ⟨h,by simpa using dz⟩,F⟩));exact⟨this.1,this.2.2.1⟩)
   have d2:hb b6 [ad aP,ad (J ⟨bF,0,ac⟩),ad (J ⟨aT,0,ac⟩),I X c.aE,I X c.a7] (c.aK (r6 c rem A)):=⟨_,_,_,cD,F,bm.h aA,bR,bS,((j8.bp ct ds).h bi).h bj,bT.h aA⟩;rw[aF ka ((dr.h bi).h bj).H.b F,aF cP cx.b F,aF cP cx.b F];refine(CD (bH.h aA) d2 K dw (c0.h aA) dx).o ?_;rintro z de ⟨cy,q,d3,d4,N,rfl,cz,d5⟩;rw[aN,aO];have d6:=C6 cz;refine i1 is h8 g (((dt.h bi).h bj).h cy) g ki F F (ov d6.2 _ _ _ _ _ _ _) λe7 e8 d7 d8 b0=>?_;exact⟨(aA.a cy).ab d7 λo l=>by cases l;omega,.inr ⟨by rw[n];exact bE,q,d3,d4,N,_,_,_,_,_,F,cz.bp d8,d5⟩⟩
structure oO (c:Nat) (r:List Int) (es:List a_):Prop where
 aT:e9 r.length 0 es
 bg:es.length<=64
 bt:∀x∈es,x.2.2.length<=6000
 Hh:jD es<=100000
 aZ:∀x∈r,dP x
 dn:r.length<=c
 hU:(gR r es).length<=c
def oO.o{c om:Nat}{r:List Int}{es:List a_}(h:oO c r es)(a:c<=om):oO om r es:=⟨h.aT,h.bg,h.bt,h.Hh,h.aZ,eQ h.dn a,eQ h.hU a⟩
def ahM{r:List Int}(e:∀a∈r,dP a)(b:Int)(a:a_):c6 (nL r b a)<=r.length/\(nL r b a).2.2.length<=4*r.length:=by
 have f:bY (a8 ((r.drop a.1.toNat).take (a.2.1.toNat-a.1.toNat)))=(r.drop a.1.toNat).take (a.2.1.toNat-a.1.toNat):=xW λg h=>e g (jH (fy h));have i:((r.drop a.1.toNat).take (a.2.1.toNat-a.1.toNat)).length<=r.length:=by rw[bt,cO];omega
 have j:=(kN ((r.drop a.1.toNat).take (a.2.1.toNat-a.1.toNat))).2;refine⟨?_,?_⟩
 ·show(bY (a8 _)).length<=_;rw[f];exact i
 ·show(a8 _).length<=_;omega
def SR{r:List Int}(h:∀b∈r,dP b):∀(e:List a_) (a:Int),jD (dw r a e)<=e.length*r.length/\∀b∈dw r a e,b.2.2.length<=4*r.length
 |[],a=>⟨by show jD []<=_;unfold jD;simp,by intro b f;cases f⟩
 |g::e,a=>by
  obtain⟨l,i⟩:=SR h e (a+iu g);obtain⟨n,j⟩:=ahM h a g;refine⟨?_,λb f=>?_⟩
  ·show jD (nL r a g::dw r (a+iu g) e)<=_;rw[wm,List.length_cons,jb];omega
  ·rcases df.1 f with rfl|f
   ·exact j
   ·exact i b f
section
variable{c:Nat} {r:List Int} {es:List a_} {v:aH}
def oO.gu(a:oO c r es)(b:c<=1300):gu r.length es=0:=Ap.2 ⟨⟨a.bg,a.aT⟩,by have:=xn a.aT;have:=a.hU;omega⟩
def oO.nd(a:oO c v.Q es):rl v es/\(v.X es).z<=c:=⟨⟨a.aT,a.bg,λb e=>by have:=a.bt b e;omega,a.Hh⟩,a.hU⟩
def oO.ct(a:oO c r es)(n:c<=1300)(b:v.Q=gR r es):Go.Proofs.YtoddhldofgfdmaaGreatDoor.gu v.z (dw r 0 es)=0/\rl v (dw r 0 es)/\(v.X (dw r 0 es)).Q=r:=by
 obtain⟨e,f,o,p⟩:=amw a.aZ a.aT;obtain⟨q,g⟩:=SR a.aZ es 0;have s:=ua r es 0;have h:=a.bg;have t:=a.dn;have u:=a.hU;have w:=xn a.aT;have x:es.length*r.length<=64*1300:=Nat.mul_le_mul h G;have i:v.z=v.Q.length:=rfl;refine⟨?_,⟨?_,G,λj l=>?_,G⟩,?_⟩
 ·rw[i,b];exact Ap.2 ⟨⟨G,e⟩,G⟩
 ·rw[b];exact e
 ·have:=g j l;omega
 ·show gR v.Q _=_;rw[b];exact f
end
structure ik where
 z:Nat
 R:List aG
 M:List aB
 L:Int
structure DV (n:Nat) (k:ik):Prop where
 SC:k.z=n
 R:qx n k.R
 M:od n k.M
abbrev lq:=List a_×List a_
inductive oL (c:Nat):List Int->List lq->Prop
 |nil (r:List Int):oL c r []
 |push {r:List Int} {D:List lq} {es:List a_}:oL c r D->oO c r es->oL c (gR r es) (D++[(dw r 0 es,es)])
inductive nI (c:Nat):List Int->List lq->List ik->Prop
 |nil (r:List Int):nI c r [] []
 |push {r:List Int} {c0:List lq} {K:List ik} {es:List a_} {k:ik}:nI c (gR r es) c0 K->oO c r es->DV (gR r es).length k->nI c r (c0++[(dw r 0 es,es)]) (K++[k])
section
variable{c om:Nat} {r:List Int} {D c0:List lq} {K:List ik}
def oL.o(h:oL c r D)(a:c<=om):oL om r D:=by
 induction h with
 |nil r=>exact .nil r
 |push _ b ih=>exact .push ih (b.o a)
def nI.o(h:nI c r c0 K)(a:c<=om):nI om r c0 K:=by
 induction h with
 |nil r=>exact .nil r
 |push _ b e ih=>exact .push ih (b.o a) e
def nI.bl(h:nI c r c0 K):c0.length=K.length:=by
 induction h with
 |nil r=>rfl
 |push _ a b ih=>simp[ih]
def oL.bu{d:lq}(b:oL c r (D++[d])):∃a es,r=gR a es/\d=(dw a 0 es,es)/\oO c a es/\oL c a D:=by
 generalize e:D++[d]=h at b;cases b with
 |nil=>simp at e
 |push f g=>obtain⟨rfl,hd⟩:=N1 e F;exact⟨_,_,F,by simpa using hd,g,f⟩
def nI.bu{a:lq}{k:ik}(b:nI c r (c0++[a]) (K++[k])):∃es,a=(dw r 0 es,es)/\oO c r es/\DV (gR r es).length k/\nI c (gR r es) c0 K:=by
 generalize e:c0++[a]=l at b;generalize g:K++[k]=n at b;cases b with
 |nil=>simp at e
 |push h i j=>obtain⟨rfl,hd⟩:=N1 e F;obtain⟨rfl,f⟩:=N1 g F;simp only [List.cons.injEq,and_true]at f;subst f;exact⟨_,by simpa using hd,i,j,h⟩
def oL.cE(a:oL c r D)(f:c<=1300):Go.Proofs.YtoddhldofgfdmaaGreatDoor.H.D1 D:=by
 induction a with
 |nil r=>intro d hd;cases hd
 |push h b ih=>
  intro d hd;rcases b9.1 hd with hd|hd
  ·exact ih d hd
  ·rw[cL.1 hd];have e:=b.bg;exact⟨by show(dw _ 0 _).length<=_;rw[ua];omega,eQ e g⟩
def nI.cE(a:nI c r c0 K)(f:c<=1300):Go.Proofs.YtoddhldofgfdmaaGreatDoor.H.D1 c0:=by
 induction a with
 |nil r=>intro d hd;cases hd
 |push h b i ih=>
  intro d hd;rcases b9.1 hd with hd|hd
  ·exact ih d hd
  ·rw[cL.1 hd];have e:=b.bg;exact⟨by show(dw _ 0 _).length<=_;rw[ua];omega,eQ e g⟩
end
structure cD where
 l:aH
 ad:List lq
 c0:List lq
 aE:List ik
 L:Int
structure il (c d:Nat) (m:cD):Prop where
 l:bL m.l
 z:m.l.z<=c
 bB:oL c m.l.Q m.ad
 bn:nI c m.l.Q m.c0 m.aE
 ia:m.ad.length+m.c0.length<=d
 L:0<=m.L/\m.L<=d
structure gE where
 I:Int
 V:Int
 aW:Int
 N:List a_
 Q:List Int
 bZ:List aG
def fa(r:List Int)(x:a_):a_:=((cu r x.1).1,(cu r x.2.1).1,x.2.2)
def k9(es:List a_):List Int:=es.flatMap λa=>[a.1,a.2.1]
def ou(v:aH)(es:List a_):Int:=if 64<es.length then 2 else if dy v.Q (k9 es)≠0 then dy v.Q (k9 es)else gu v.z (es.map (fa v.Q))
def dH(v:aH)(a:gE):aH×Int×Int:=
 if a.I=1 then(v.X (a.N.map (fa v.Q)),ou v a.N,0)
 else if a.I=2 then(v.bf (fE (v.M++[((cu v.Q a.V).1,(cu v.Q a.aW).1)])),if dy v.Q [a.V,a.aW]≠0 then dy v.Q [a.V,a.aW]else gK v.z (v.M++[((cu v.Q a.V).1,(cu v.Q a.aW).1)]),0)
 else if a.I=3 then(v.bf (fE (gW v.M ((cu v.Q a.V).1,(cu v.Q a.aW).1))),if dy v.Q [a.V,a.aW]≠0 then dy v.Q [a.V,a.aW]else q6 v ((cu v.Q a.V).1,(cu v.Q a.aW).1),(v.M.length:Int)-(gW v.M ((cu v.Q a.V).1,(cu v.Q a.aW).1)).length)
 else if a.I=4 then(v.aK (r6 v a.Q a.bZ),lg v a.Q a.bZ,0)
 else if a.I=5\/a.I=6 then(v.Y a.I a.V,if tS (v.Y a.I a.V)then 0 else 1,0)
 else(v,4,0)
def cD.X(m:cD)(es:List a_):cD:=⟨m.l.X es,m.ad++[(dw m.l.Q 0 es,es)],[],[],m.L⟩
def cD.co(m:cD)(v:aH):cD:=⟨v,m.ad,m.c0,m.aE,m.L+1⟩
def cD.av(m:cD):cD×Int:=match m.ad.getLast? with
 |none=>(m,6)
 |some d=>(⟨m.l.X d.1,m.ad.dropLast,m.c0++[d],m.aE++[⟨m.l.z,m.l.R,m.l.M,m.L⟩],m.L⟩,0)
def hn(v:aH)(es:List a_)(k:ik)(a:Int):aH:=if k.L=a then{v.X es with R:=k.R,M:=k.M}else v.X es
def cD.ar(m:cD):cD×Int:=match m.c0.getLast?,m.aE.getLast? with
 |some a,J k=>(⟨hn m.l a.2 k m.L,m.ad++[a],m.c0.dropLast,m.aE.dropLast,m.L⟩,0)
 |_,_=>(m,6)
def cD.cU(m:cD)(y:gE):cD×Int×Int:=
 if y.I=7 then(m.av.1,m.av.2,0)
 else if y.I=8 then(m.ar.1,m.ar.2,0)
 else if(dH m.l y).2.1≠0 then(m,(dH m.l y).2.1,0)
 else(if y.I=1 then m.X (y.N.map (fa m.l.Q))else if y.I=5\/y.I=6 then{m with l:=(dH m.l y).1}else m.co (dH m.l y).1,0,(dH m.l y).2.2)
variable{x:gE}
def wk{m:cD}(a:x.I≠7)(b:x.I≠8)(e:(dH m.l x).2.1=0):m.cU x=(if x.I=1 then m.X (x.N.map (fa m.l.Q))else if x.I=5\/x.I=6 then{m with l:=(dH m.l x).1}else m.co (dH m.l x).1,0,(dH m.l x).2.2):=by unfold cD.cU;rw[an a,an b,an G]
def jh(es:List a_):Nat:=(es.map λa=>a.2.2.length).sum
def xp(a:a_)(es:List a_):jh (a::es)=a.2.2.length+jh es:=by unfold jh;rw[eB,jJ]
def J0{es:List a_}{x:a_}(a:x∈es):x.2.2.length<=jh es:=by
 induction es with
 |nil=>cases a
 |cons b es ih=>
  rw[xp];rcases df.1 a with rfl|a
  ·omega
  ·have:=ih a;omega
def J1(r:List Int)(es:List a_):jh (es.map (fa r))=jh es:=by
 induction es with
 |nil=>rfl
 |cons a es ih=>rw[eB,xp,xp,ih];rfl
def V5(es:List a_):jD es<=jh es:=by
 induction es with
 |nil=>exact a6 _
 |cons a es ih=>rw[xp,wm];have:c6 a<=a.2.2.length:=nr _;omega
def VF{e:Int}:∀{es:List a_} {a:Int},e9 e a es->c8 es<=jD es
 |[],_,_=>by rw[uE];exact Int.natCast_nonneg _
 |f::es,a,b=>by have:=VF b.2.2;have g:=b.1;rw[oB,wm];unfold iu;omega
def G8{c k:Nat}{v:aH}{es:List a_}(b:bL v)(h:v.z<=c)(i:jh es<=k)(j:k<=2000)(e:gu v.z es=0):oO (c+k) v.Q es:=by obtain⟨⟨f,a⟩,l⟩:=Ap.1 e;have n:=VF a;have o:=V5 es;have p:v.z=v.Q.length:=rfl;have q:=xn (r:=v.Q) a;exact⟨a,f,λs g=>by have:=J0 g;omega,G,b.aZ,G,G⟩
def RL{v:aH}{es:List a_}(a:ou v es=0):es.length<=64/\dy v.Q (k9 es)=0/\gu v.z (es.map (fa v.Q))=0:=by
 unfold ou at a;split at a
 ·omega
 ·split at a
  ·exact aL a (by assumption)
  ·rename_i b e
   exact⟨G,G,a⟩
def KU{α:Type}{a:List α}{b:α}(e:a.getLast? =J b):a=a.dropLast++[b]:=by obtain⟨f,rfl⟩:=Im.1 e;simp
def aj8{v:aH}{es:List a_}{k:ik}{e:Int}(a:bL (v.X es))(b:DV (v.X es).z k):bL (hn v es k e):=by
 unfold hn;split
 ·exact⟨a.z,a.aZ,b.R,b.M,a.aE,a.a7⟩
 ·exact a
def LK{v:aH}{es:List a_}{k:ik}{a:Int}:(hn v es k a).Q=gR v.Q es:=by unfold hn;split<;>rfl
variable{c:Nat}{d:Nat}{m:cD}
def il.o{om b:Nat}(h:il c d m)(a:c<=om)(hd:d<=b):il om b m:=⟨h.l,eQ h.z a,h.bB.o a,h.bn.o a,eQ h.ia hd,h.L.1,by have:=h.L.2;omega⟩
def il.X{es:List a_}(a:il c d m)(e:jh es<=k)(i:c+k<=1300)(f:gu m.l.z es=0):il (c+k) (d+1) (m.X es):=by have b:=G8 a.l a.z e G f;obtain⟨g,h⟩:=b.nd;have j:=a.ia;exact⟨xt a.l g G,h,.push (a.bB.o G) b,.nil _,by show(m.ad++[_]).length+0<=_;simp;omega,a.L.1,by have:=a.L.2;show m.L<=_;omega⟩
def il.av(a:il c d m)(j:c<=1300):il c d m.av.1:=by
 unfold cD.av;cases n:m.ad.getLast? with
 |none=>exact a
 |some t=>
  have h:=KU n;have i:=a.bB;rw[h]at i;obtain⟨b,es,e,rfl,f,o⟩:=i.bu;obtain⟨u,p,g⟩:=f.ct j e;have w:=f.dn;have x:(m.l.X (dw b 0 es)).z=b.length:=by unfold aH.z;rw[g]
  have y:=a.ia;have q:=ck gB h;rw[bf,oK]at q;have s:=xt a.l p G;refine⟨s,by show(m.l.X (dw b 0 es)).z<=_;omega,?_,?_,by simp only [bf,oK];omega,a.L⟩
  ·show oL c (m.l.X (dw b 0 es)).Q _;rw[g];exact o
  ·show nI c (m.l.X (dw b 0 es)).Q _ _;rw[g];refine .push (e▸a.bn) f ?_;rw[<-e];exact⟨F,a.l.R,a.l.M⟩
def il.ar(a:il c d m)(s:c<=1300):il c d m.ar.1:=by
 unfold cD.ar;cases g:m.c0.getLast? with
 |none=>exact a
 |some t=>
  cases hk:m.aE.getLast? with
  |none=>exact a
  |some k=>
   have b:=KU g;have h:=KU hk;have e:=a.bn;rw[b,h]at e;obtain⟨es,rfl,f,i,j⟩:=e.bu;obtain⟨n,o⟩:=f.nd;have u:=a.ia;have p:=ck gB b;rw[bf,oK]at p;have q:=xt a.l n G;refine⟨aj8 q i,?_,?_,?_,by simp only [bf,oK];omega,a.L⟩
   ·show(hn m.l es k m.L).Q.length<=_;rw[LK];exact o
   ·show oL c (hn m.l es k m.L).Q _;rw[LK];exact .push a.bB f
   ·show nI c (hn m.l es k m.L).Q _ _;rw[LK];exact j
def ajj{v:aH}(b:bL v)(j:x.I≠1)(a:(dH v x).2.1=0):bL (dH v x).1/\(dH v x).1.Q=v.Q:=by
 unfold dH at a⊢;rw[an j]at a⊢;by_cases f:x.I=2
 ·rw[au f]at a⊢
  dsimp only at a⊢
  split at a
  ·exact aL a (by assumption)
  ·exact⟨⟨b.z,b.aZ,b.R,zG a,b.aE,b.a7⟩,F⟩
 rw[an f]at a⊢;by_cases g:x.I=3
 ·rw[au g]at a⊢
  dsimp only at a⊢
  split at a
  ·exact aL a (by assumption)
  ·unfold q6 at a;split at a
   ·exact⟨⟨b.z,b.aZ,b.R,zG a,b.aE,b.a7⟩,F⟩
   ·omega
 rw[an g]at a⊢;by_cases h:x.I=4
 ·rw[au h]at a⊢
  dsimp only at a⊢
  unfold lg at a;split at a
  ·omega
  split at a
  ·exact aL a (by assumption)
  exact⟨(VJ (A:=x.bZ) (rem:=x.Q) (a:=0) (b:=v.z) b a G G (λe i=>by have:=s7 (l:=v.Q) (a:=e.C);exact⟨G,this.2⟩) (λe i _=>by have:=ma.1 (b.R.ab e i);exact⟨G,this.1.2.2.1⟩)).1,F⟩
 rw[an h]at a⊢;split at a
 ·rename_i n
  rw[au n]
  dsimp only at a⊢
  split at a
  ·rename_i o
   exact⟨(VG b o).1,by unfold aH.Y;split<;>rfl⟩
  ·omega
 ·dsimp only at a;omega
def il.cU{y:gE}(a:il c d m)(n:jh y.N<=k)(o:c+k<=1300):il (c+k) (d+1) (m.cU y).1:=by
 have b:il (c+k) (d+1) m:=a.o G G;unfold cD.cU;split
 ·exact(a.av G).o G G
 split
 ·exact(a.ar G).o G G
 split
 ·exact b
 rename_i p q e
 have e:(dH m.l y).2.1=0:=G;split
 ·rename_i f
  unfold dH at e;rw[au f]at e;exact a.X (by rw[J1];exact n) o (RL e).2.2
 ·rename_i f
  obtain⟨h,i⟩:=ajj a.l f e;have j:(dH m.l y).1.Q.length<=c+k:=by rw[i];exact b.z
  have hd:=b.bB;have g:=b.bn;rw[<-i]at hd g;split
  ·exact⟨h,j,hd,g,b.ia,b.L⟩
  ·exact⟨h,j,hd,g,b.ia,by have:=a.L.1;show 0<=m.L+1;omega,by have:=a.L.2;show m.L+1<=((d+1:Nat):Int);omega⟩
structure pD (w:aa) (y:gE) (e r bZ:bK):Prop where
 N:aC w (ay e) 3 cp y.N
 Q:aC w (ay r) 1 iY y.Q
 bZ:aC w (ay bZ) 5 bC y.bZ
 L:∀x∈y.bZ,x.c5.length<=2000000
def pD.h{w a:aa}{y:gE}{e r bZ:bK}(h:pD w y e r bZ)(x:O w a):pD a y e r bZ:=⟨h.N.h x,h.Q.h x,h.bZ.h x,h.L⟩
def lW(A:Nat)(b:aa)(f:Z)(v:aH)(a:gE):Prop:=
 ((dH v a).2.1≠0/\uX f (dH v a).2.1)\/((dH v a).2.1=0/\∃(g:Z) (d h N i e c:Nat) (j k:bK),f=a1 #[al (gd g d h d N (dH v a).2.2 j k).toArray,I X 0]/\e2 b g (dH v a).1/\oU v (dH v a).1 i e c d h N/\
  (a.I=1->(i:Int)=m_ v.z (ct (a.N.map (fa v.Q)))/\(e:Int)=l2 v.z (ct (a.N.map (fa v.Q)))/\(c:Int)=e+((v.X (a.N.map (fa v.Q))).z-v.z)/\ar b A 70 3 (ay j) cp (dw v.Q 0 (a.N.map (fa v.Q)))/\ar b A 70 3 (ay k) cp (a.N.map (fa v.Q))))
variable{v:aH}
def s3(a:x.I=1):dH v x=(v.X (x.N.map (fa v.Q)),ou v x.N,0):=by unfold dH;rw[au a]
variable{x:Z}{e:gE}
def lW.uq{b:aa}(c:e.I≠1)(a:((dH v e).2.1≠0/\uX x (dH v e).2.1)\/((dH v e).2.1=0/\A1 b x v (dH v e).1 (dH v e).2.2)):lW n b x v e:=by
 rcases a with a|⟨d,f,g,h,N,i,j,k,l,m,rfl,o,p⟩
 ·exact .inl a
 ·exact .inr ⟨d,f,g,h,N,i,j,k,l,m,F,o,p,λa=>aL a c⟩
def lW.dp{A:Nat}(q:lW k w x v e)(d:A<=k)(f:n<k)(h:bQ w n hS 184)(i:∀j a,w.grownBy a (J n)->lW A a j v e->K j a):
 e7 x 0 w λr w=>e7 x 1 w λs w=>c4 Y 184 (ad (J ⟨n,0,ac⟩)) r w λw=>bU Y 184 (ad (J ⟨n,0,ac⟩)) w λt a=>a=w/\K (a1 #[t,s]) w:=by
 rcases q with⟨c,u,rfl⟩|⟨c,y,z,B,N,C,D,E,G,H,rfl,l,L,M⟩
 ·rw[aN,aO];refine i1 is h8 g h g ki F F qg λO P b m Q=>?_;exact i _ _ b (.inl ⟨c,u,F⟩)
 ·rw[aN,aO];refine i1 is h8 g h g ki F F (ov (C6 l).2 _ _ _ _ _ _ _) λO P b m Q=>?_;refine i _ _ b (.inr ⟨c,y,z,B,N,C,D,E,G,H,F,l.bp m,L,λR=>?_⟩);obtain⟨S,U,V,o,p⟩:=M R;exact⟨S,U,V,(o.ab b (fC o f)).o d,(p.ab b (fC p f)).o d⟩
variable{x:List a_}{e:a_}{c:List Int}
def Ub(d:x[i]? =J e)(g:dy c (k9 (x.take i))=0)(h:dy c [e.1,e.2.1]≠0):dy c (k9 x)=dy c [e.1,e.2.1]:=by
 have j:∀{a f:List Int},dy c a=0->dy c (a++f)=dy c f:=by
  intro a f b
  induction a with
  |nil=>rfl
  |cons k a ih=>
   unfold dy at b;rw[gO]
   conv=>lhs;unfold dy
   split at b
   ·exact aL b (by assumption)
   ·rw[an (by assumption)];exact ih b
 have l:∀{a f:List Int},dy c a≠0->dy c (a++f)=dy c a:=by
  intro a f b
  induction a with
  |nil=>exact aL F b
  |cons k a ih=>
   unfold dy at b;rw[gO];unfold dy;split at b
   ·rename_i d;rw[au d,au d]
   ·rename_i d;rw[an d,an d];exact ih b
 have m:x=x.take i++e::x.drop (i+1):=by obtain⟨n,o⟩:=dS.1 d;rw[<-o,<-List.drop_eq_getElem_cons n,fi]
 have p:k9 x=k9 (x.take i)++([e.1,e.2.1]++k9 (x.drop (i+1))):=by
  conv=>lhs;rw[m]
  unfold k9;rw[hG,iB]
 rw[p,j g,l h]
def Ua(h:x[i]? =J e)(f:dy c (k9 (x.take i))=0)(j:∀g∈ [e.1,e.2.1],(cu c g).2=0):dy c (k9 (x.take (i+1)))=0:=by
 have:∀{a d:List Int},dy c a=0->dy c (a++d)=dy c d:=by
  intro a d b
  induction a with
  |nil=>rfl
  |cons g a ih=>
   unfold dy at b;rw[gO]
   conv=>lhs;unfold dy
   split at b
   ·exact aL b (by assumption)
   ·rw[an (by assumption)];exact ih b
 unfold k9 at f⊢;rw[c9 h,hG,this f];exact vy λk l=>j k (by simpa using l)
variable{d s:bK}
def ajb{x:Z}{e:gE}{c:bK}(a3:e2 w x v)(a4:bL v)(be:fV w)(bg:hJ w)(V:aC w (ay c) 3 cp e.N)(a5:e.I=1)(cg:v.z+jh e.N<=1300):
 ak Y 145 [x,al (ep e.I e.V e.aW c d s).toArray] w λy r=>O w r/\lW w.heap.size r y v e:=by
 have ch:v.z=v.Q.length:=rfl;apply aa8;refine bd (S:=ep e.I e.V e.aW c d s) F λbj ci cj ck bk bl=>?_;refine lb it λD j cm cn a7 bm=>?_;have W:bQ j D hS 184:=bm;have t:=bk.a a7;have cq:=t.size;have bn:=bl.h a7;have a8:∀{a:aa},O j a->a.cell? ⟨bj,3,ac⟩=J (ay c):=λb=>(bn.h b).b.f 3 (show(ep e.I e.V e.aW c d s)[3]? =J (ay c)from F);rw[M Bd ru (a8 (O.p _)),aS k5.m (V.h t),cb,ai];have a9:∀{a:aa} {b:Int},O w a->bQ a D hS 184->ou v e.N=b->b≠0->
  fo Y 184 [] a λbo j=>c4 Y 184 (ad (J ⟨D,0,ac⟩)) bo j λj=>bU Y 184 (ad (J ⟨D,0,ac⟩)) j λz r=>r=j/\(O w j/\lW w.heap.size j (a1 #[z,I X b]) v e):=by
  intro a b o bp m n;rw[bz (S:=hS) (iR:=[]) it pR F F];refine i1 (K:=λz j=>O w j/\lW w.heap.size j (a1 #[z,I X b]) v e) is h8 g bp g ki F F qg λh cs ag ct cw=>?_;exact⟨o.ab ag λah A=>by cases A;omega,.inl (by rw[s3 a5];exact⟨by rw[m];exact n,by rw[m];exact n,by rw[m]⟩)⟩
 refine⟨λbv=>?_,λbv=>?_⟩
 ·exact a9 t W (by unfold ou;rw[au G]) g
 refine(q9 a3 t).o ?_;rintro y cx ⟨am,cy,rfl,_,bx⟩;obtain⟨cz,c0,c1,c2,rfl,aA,b0,b1,c3,c5⟩:=bx;have b2:=t.a am;obtain⟨c6,rfl⟩:=uw aA;rw[i0 Eh gl F,jZ,M Bd ru (a8 am),aS k5.m (V.h b2)];refine ba.bJ (λap aB a=>O j a/\∃(i:Nat) (l:Z),i+ap=e.N.length/\aB=[l,I X i]/\ar a j.heap.size 70 3 l cp ((e.N.take i).map (fa v.Q))/\dy v.Q (k9 (e.N.take i))=0)
  ⟨e.N.length,am,0,_,G,F,ar.nil ..,F⟩ ?_
 rintro ap aB c7 a ⟨H,i,l,c8,rfl,B,K⟩;simp only [av,bA];have o:=t.a H;have cA:=H.size;rw[aR,ai];refine⟨λcB=>?_,λcC=>?_⟩
 ·obtain⟨b,m⟩:∃b,e.N[i]? =J b:=⟨_,aX G⟩;refine k5.dO (V.h o) m F λaE cD aq cE cF aw=>?_;have b3:=o.a aq;rw[M iq E (aw.b.f 0 (show(cp b)[0]? =J (I X b.1)from F)),M ku E (aw.b.f 1 (show(cp b)[1]? =J (I X b.2.1)from F))];refine KZ λcG aF b4 p=>?_;refine(Gt (aA.h (b3.a p)) b0 (b4.aI o2) ae).o ?_;rintro y h ⟨az,L⟩;rw[b1]at L;have P:=((H.a aq).a p).a az;have b5:=t.a P;rcases L with⟨n,rfl⟩|⟨b6,R,rfl,a0⟩
  ·rw[aN,aO,bs,bu];refine⟨λ_=>?_,λf=>aL f n⟩;exact a9 b5 (W.h P) (by unfold ou;rw[an G,Ub m K n,au n]) n
  rw[aN,aO,bs,bu];refine⟨λf=>aL F f,λ_=>?_⟩;have aG:aC h R 1 iY [(cu v.Q b.1).1,(cu v.Q b.2.1).1]:=a0.aI o2;have aH:=((B.h aq).h p).h az;have cH:=P.size;have b7:J aE≠l.ownBlock:=λf=>by have:=(B.D aE f.symm).2;omega
  have q:h.grownBy h.drew l.ownBlock:=jz _ _;have S:∀{a:aa},h.grownBy a l.ownBlock->aC a R 1 iY [(cu v.Q b.1).1,(cu v.Q b.2.1).1]:=λf=>(a0.ab f (a0.aN aH g)).aI o2;obtain⟨aJ,aK,aP,_⟩:=aG.m (i:=0) F;obtain⟨aT,aV,aY,_⟩:=aG.m (i:=1) F;have b8:∀{a:aa},h.grownBy a l.ownBlock->a.cell? ⟨aJ,aK,ac⟩=J (I X (cu v.Q b.1).1):=λf=>by obtain⟨bB,bC,u,C⟩:=(S f).m (i:=0) F;rw[aP]at u;cases u;exact C.U F
  have bD:∀{a:aa},h.grownBy a l.ownBlock->a.cell? ⟨aT,aV,ac⟩=J (I X (cu v.Q b.2.1).1):=λf=>by obtain⟨bB,bC,u,C⟩:=(S f).m (i:=1) F;rw[aY]at u;cases u;exact C.U F
  have bF:∀a,h.grownBy a l.ownBlock->∀k:aU,fh Y 55 R (I X 0) a k=k (ad (J ⟨aJ,aK,ac⟩)) a:=λa f k=>by rw[cr (z:=0) (i:=0) fW bw g (S f) F F,aP]
  have bG:∀a,h.grownBy a l.ownBlock->∀k:aU,fh Y 55 R (I X 1) a k=k (ad (J ⟨aT,aV,ac⟩)) a:=λa f k=>by rw[cr (z:=1) (i:=1) fW bw g (S f) F F,aY]
  refine bE.y (λa=>h.grownBy a l.ownBlock) q ?_;rw[bh bF q,bh (λa (f:h.grownBy a _) k=>aM E (b8 f)) q,bh bG q,bh (λa (f:h.grownBy a _) k=>aM E (bD f)) q,
   bh (λa f k=>aj mT) q,bh (λa (f:h.grownBy a _) k=>aM (v:=co b.2.2) ga (((aw.h (p.a az)).ab f b7).b.f 2 F)) q,
   bh (v:=al (cp (fa v.Q b)).toArray) (λa f k=>bz (iR:=[(0,[I X (cu v.Q b.1).1]),(1,[I X (cu v.Q b.2.1).1]),(2,[co b.2.2])]) kx Bl F F) q]
  refine k5.p8 (aH.h (O.p h).C) (by show j.heap.size<=h.drew.heap.size;have:=(O.p h).C.size;omega) (by rw[b_,bt];omega) g (λa f=>eb ((O.p h).C.a f) _) λbH bI bK bM cJ=>?_;have aZ:h.grownBy bI l.ownBlock:=eN (jz _ _) bM;refine⟨aZ,?_⟩;rw[aD];refine⟨ap-1,G,P.ab aZ λah A=>(B.D ah A).1,i+1,bH,G,ae,?_,Ua m K (by simpa using b6)⟩;rw[c9 m,dJ];exact bK
 ·rw[d_ G]at B K;have U:ou v e.N=gu v.z (e.N.map (fa v.Q)):=by unfold ou;rw[an G,an (by rw[K];decide)]
  have cK:jh (e.N.map (fa v.Q))=jh e.N:=J1 ..;refine(Ln (es:=e.N.map (fa v.Q)) (a3.h o) a4 (be.h o) (bg.h o) (B.aI jR) (λb m=>by have:=J0 m;omega) (λa2=>by obtain⟨bN,cN⟩:=(G8 (c:=v.z) a4 (a6 _) (a6 _) G a2).nd;exact⟨bN,G⟩)).o ?_
  rintro y aF ⟨p,L⟩;have cP:=p.size;have bO:lW a.heap.size aF y v e:=by
   unfold lW;rw[s3 a5];rcases L with⟨n,rfl⟩|⟨a2,bP,bR,bS,N,bT,bV,bb,bW,bX,rfl,u,C,bY,bZ,ca,cd,ce⟩
   ·exact .inl ⟨by rw[U];exact n,by rw[U];exact n,by rw[U]⟩
   ·exact .inr ⟨by rw[U];exact a2,bP,bR,bS,N,bT,bV,bb,bW,bX,F,u,ca,λ_=>⟨C,bY,bZ,cd,ce⟩⟩
  refine lW.dp (K:=λbc r=>O w r/\lW w.heap.size r bc v e) bO (A:=w.heap.size) G G ((W.h H).h p) λbc h ag cf=>⟨(o.a p).ab ag λah A=>by cases A;omega,cf⟩
variable{x:gE}
def zJ(a:x.I=2):dH v x=(v.bf (fE (v.M++[((cu v.Q x.V).1,(cu v.Q x.aW).1)])),if dy v.Q [x.V,x.aW]≠0 then dy v.Q [x.V,x.aW]else gK v.z (v.M++[((cu v.Q x.V).1,(cu v.Q x.aW).1)]),0):=by unfold dH;rw[an G,au a]
def Gh(a:x.I=3):dH v x=(v.bf (fE (gW v.M ((cu v.Q x.V).1,(cu v.Q x.aW).1))),if dy v.Q [x.V,x.aW]≠0 then dy v.Q [x.V,x.aW]else q6 v ((cu v.Q x.V).1,(cu v.Q x.aW).1),(v.M.length:Int)-(gW v.M ((cu v.Q x.V).1,(cu v.Q x.aW).1)).length):=by unfold dH;rw[an G,an G,au a]
def Lr(a:x.I=4):dH v x=(v.aK (r6 v x.Q x.bZ),lg v x.Q x.bZ,0):=by unfold dH;rw[an G,an G,an G,au a]
def Ls(a:x.I=5\/x.I=6):dH v x=(v.Y x.I x.V,if tS (v.Y x.I x.V)then 0 else 1,0):=by unfold dH;rw[an G,an G,an G,an G,au a]
def Lt(a:¬(1<=x.I/\x.I<=6)):dH v x=(v,4,0):=by unfold dH;rw[an G,an G,an G,an G,an G]
def aja{x:Z}{e:aH}{c:gE}{bZ:bK}(A:e2 w x e)(o:bL e)(p:fV w)(B:hJ w)(v:pD w c d s bZ)(U:e.z+jh c.N<=1300):
 ak Y 80 [x,al (ep c.I c.V c.aW d s bZ).toArray] w λi l=>O w l/\lW w.heap.size l i e c:=by
 have q:=A;obtain⟨aw,ay,az,rfl,_⟩:=A;apply aa7;refine bd (S:=ep c.I c.V c.aW d s bZ) F λa0 a2 a3 a4 W ae=>?_;refine lb it λag r a5 a7 C ah=>?_;have H:bQ r ag hS 184:=ah;have b:=W.a C;have aj:=b.size;have m:=(ae.h C).b;rw[fZ D];show b6 (ax ao) _ _;have t:(ep c.I c.V c.aW d s bZ).length=6:=rfl;have bj:∀{i:Z} {j:aa},O r j->lW r.heap.size j i e c->_:=λ{i j} (h:O r j) y=>lW.dp (K:=λi l=>O w l/\lW w.heap.size l i e c) y aj G (H.h h) λa9 l u f=>⟨(b.a h).ab u λam u=>by cases u;omega,f⟩;rw[cw,M wX E (m.f 0 (show(ep c.I c.V c.aW d s bZ)[0]? =J (I X c.I)from F)),bm,ai];refine⟨λn=>?_,λn=>?_⟩
 ·rw[aF mR m t];refine(ajb (q.h b) o (p.h b) (B.h b) (v.N.h b) n U).o ?_;rintro i j ⟨h,y⟩;exact bj h y
 rw[bm,ai];refine⟨λK=>?_,λK=>?_⟩
 ·rw[aF mR m t];refine(ajg (q.h b) o (p.h b)).o ?_;rintro i j ⟨h,a⟩;refine bj h (.uq n ?_);rw[zJ K]
  dsimp only
  rcases a with⟨f,a⟩|⟨f,a|⟨z,a⟩⟩
  ·rw[au f];exact .inl ⟨f,a⟩
  ·rw[an G];exact .inl ⟨a.1,a⟩
  ·rw[an G];exact .inr ⟨z,a⟩
 rw[bm,ai];refine⟨λL=>?_,λL=>?_⟩
 ·rw[aF mR m t];refine(ajr (q.h b) o (p.h b)).o ?_;rintro i j ⟨h,a⟩;refine bj h (.uq n ?_);rw[Gh L]
  dsimp only
  rcases a with⟨f,a⟩|⟨f,a|⟨z,a⟩⟩
  ·rw[au f];exact .inl ⟨f,a⟩
  ·rw[an G];exact .inl ⟨a.1,a⟩
  ·rw[an G];exact .inr ⟨z,a⟩
 rw[bm,ai];refine⟨λP=>?_,λP=>?_⟩
 ·rw[aF mR m t];refine(ajp (q.h b) o (p.h b) (B.h b) (v.bZ.h b) (v.Q.h b) λap aq=>by have:=v.L ap aq;omega).o ?_;rintro i j ⟨h,a⟩;refine bj h (.uq n ?_);rw[Lr P];exact a
 refine bG.y (λR S=>S=r/\R=[ax (decide (c.I=5\/c.I=6))]) ?_ ?_
 ·rw[bm,ai];refine⟨λk=>⟨F,by rw[eK k,eK (.inl k)]⟩,λk=>?_⟩;rw[bm];exact⟨F,by congr 2;simp[k]⟩
 rintro R aA S ⟨rfl,rfl⟩;simp only [av];rw[ai];refine⟨λk=>?_,λk=>?_⟩
 ·rw[aF mR m t];refine(ajo (q.h b) o (p.h b)).o ?_;rintro i j ⟨h,a⟩;refine bj h (.uq n ?_);rw[Ls k]
  dsimp only
  rcases a with⟨f,a⟩|⟨f,a⟩
  ·rw[an f];exact .inl ⟨g,a⟩
  ·rw[au f];exact .inr ⟨F,a⟩
 ·rw[bz (S:=hS) (iR:=[]) it pR F F];refine i1 is h8 g H g ki F F qg λaC aD ar aE aG=>?_;exact⟨b.ab ar λam u=>by cases u;omega,.inl (by rw[Lt G];exact⟨show(4:Int)≠0 by decide,show(4:Int)≠0 by decide,F⟩)⟩
end aY
end Go.Proofs.YtoddhldofgfdmaaGreatDoor
namespace Go.Lift
open Go Go.RowKit
def h0(q:Z->Bool)(d:Nat)(w:aa)(e:Z):Prop:=∀b c f g h,e=aQ (J ⟨b,c,f⟩) g h->c=0/\∃a T,w.heap[b]? =J (eW a T (0,0))/\(∀i∈a.toList,q i=af)/\d∣a.size
variable{n:Nat}{e:aa}{c:Z}
def h0.aS{x:aa}{q:Z->Bool}(b:h0 q n x c)(d:∀a,c.ownBlock=J a->e.heap[a]? =x.heap[a]?):h0 q n e c:=by rintro a f g h i rfl;obtain⟨j,k,T,l,m⟩:=b a f g h i F;exact⟨j,k,T,(d a F).trans l,m⟩
variable{k:Nat}
def h0.h{w d:aa}{v:Z}{q:Z->Bool}(h:h0 q k w v)(e:O w d):h0 q k d v:=by rintro g y x l c rfl;obtain⟨b,S,T,a,f⟩:=h g y x l c F;exact⟨b,S,T,(e.block g (iz.1 a).1).trans a,f⟩
def h0.nil(q:Z->Bool)(k:Nat)(w:aa):h0 q k w (aQ ac 0 0):=λb c d e f a=>by cases a
variable{i:Nat}
def L3{P:bq}{K:aU}{x:Z}{d:List Z}{q:Z->Bool}{T:cv}{α:Type}{A:Nat}{V:α->List Z}{L a:List α}(ab:ew P T=J n)(t:cg P n=k)(a2:0<k)(aK:cM P n=J d)(aL:d.length=k)(u:eR V k)
 (a3:ar e A n k c V L)(a4:A<=e.heap.size)(aM:aC e x k V a)(a5:0<a.length)(ag:L.length+a.length<=e0)(a7:(L.length+a.length)*fI P n<=140737488355328)
 (ah:h0 q k e c)(aN:∀b∈d,q b=af)(aO:∀m,∀b∈V m,q b=af)
 (ai:∀z Q,ar Q A n k z V (L++a)->e.grownBy Q c.ownBlock->(z.ownBlock=c.ownBlock\/∀j,z.ownBlock=J j->e.heap.size<=j)->h0 q k Q z->K z Q):cz P fT [T,T] i [c,x] e K:=by
 obtain⟨R,w,aj,a8,a9,ak,aB⟩:=oF aK;have y:R.size=k:=by rw[ak,t]
 have aD:∀aE,∀b∈(n5 w.cells aE).toList,q b=true:=λaE b hu=>aN b (by rw[<-a9];exact WK hu);have S:∀(l:List α),∀b∈l.flatMap V,q b=true:=λl b hu=>by obtain⟨m,_,s⟩:=nv.1 hu;exact aO m b s
 obtain⟨aP,B,rfl,bs,bu,aF⟩:=aM;have C:(L++a).length=L.length+a.length:=ae;have am:(L++a).flatMap V=L.flatMap V++a.flatMap V:=ae;have an:=u.aA L;have p:=u.aA a;have U:w.cells.size=k:=by rw[<-Array.length_toList,a9,aL]
 have bv:e0=9223372036854775807:=rfl;cases aP with
 |none=>obtain⟨m,s⟩:∃m,a[0]? =J m:=⟨_,aX a5⟩;obtain⟨v,f,D,_⟩:=aF 0 m s;cases D
 |some E=>
  have ap:∀h b,(a.flatMap V)[h]? =J b->e.cell? (E.add h)=J b:=by
   intro h b hu;have aR:h<a.length*k:=by have:=(dS.1 hu).1;rwa[u.aA]at this
   have aS:h/k<a.length:=(Nat.div_lt_iff_lt_mul a2).2 aR;obtain⟨m,s⟩:∃m,a[h/k]? =J m:=⟨a[h/k],aX aS⟩;obtain⟨v,f,D,aT⟩:=aF _ m s;cases D;have aU:h%k<(V m).length:=by rw[u.bl];exact Nat.mod_lt _ a2
   obtain⟨aq,aG⟩:∃aq,(V m)[h%k]? =J aq:=⟨(V m)[h%k],aX aU⟩;have au:=u.aY a _ m s _ aq aG;rw[show h/k*k+h%k=h from by rw[n4];exact qn h k]at au;rw[hu]at au;cases au;have:=aT _ _ aG;rw[jf];rw[Nat.add_assoc,show h/k*k+h%k=h from by rw[n4];exact qn h k]at this;exact this
  have aV:∀b∈a.flatMap V,b.oneCell' =true:=λb hu=>by obtain⟨m,_,s⟩:=nv.1 hu;exact u.B m b s
  rcases id a3 with⟨rfl,rfl⟩|⟨j,f,o,g,rfl,D,r,aW,aZ,bw,ba⟩
  ·have bx:a.length*fI P n<=140737488355328:=by simpa using a7
   have H:=run_append_nil (P:=P) e T i n R w (hf ab) aj a8 E a.length B (a.flatMap V) (by rw[y];exact p) ap a5 (by simp at ag;omega) (by rw[aB];omega);have bb:=grownCap_ge e a.length 0 n;have av:pq e a.length 0 n<=maxLen:=HR e _ 0 n (by simpa using ag);have:=ai (aQ (J ⟨e.heap.size,0,ac⟩) a.length (pq e a.length 0 n))
    (e.drew.alloc (eW ((a.flatMap V).toArray++n5 w.cells (pq e a.length 0 n-a.length)) n))
    (.inr ⟨e.heap.size,0,_,_,ae,a4,mE e.drew _,by simp;omega,av,by
     simp only [AF,mG,AE,U,p,hW,<-jb];exact Ds (by congr 1;omega),by
     rw[fc,h6];simp only [tp];rw[<-p];exact tq⟩)
    ⟨F,F,F,ae,λv t _=>(O.fl e.drew _).block v t⟩ (.inr λj r=>by cases r;exact a6 _)
    (λj f x l B r=>by
     cases r;refine⟨F,_,_,mE e.drew _,λb hu=>?_,?_⟩
     ·rw[tp,b9]at hu;rcases hu with hu|hu
      ·exact S a b hu
      ·exact aD _ b hu
     ·simp only [AF,mG,AE,U,p];exact XW (Is ..) (Is ..))
   unfold cz bM
   dsimp only [lk]
   rw[H];exact this
  have bz:L.length*k<=o*k:=ny k aW;have aH:∀b∈g.toList,q b=true:=by obtain⟨-,aw,bc,M,bd,-⟩:=ah j f ac _ _ F;rw[r]at M;cases M;exact bd
  have be:f=0:=(ah j f ac _ _ F).1;have bg:k∣g.size:=by obtain⟨-,aw,bc,M,-,bh⟩:=ah j f ac _ _ F;rw[r]at M;cases M;exact bh
  by_cases aI:L.length+a.length<=o
  ·have b0:L.length*k+a.length*k<=o*k:=by rw[<-jb];exact ny k aI
   have aJ:=Ng (P:=P) e R.size a.length E a.length B (a.flatMap V) (by rw[y];exact p) ap;have ay:=uM P j (f+L.length*k) n (a.flatMap V) 0 g e r G aV;simp only [nw]at ay;have H:(pw #[T,T] i #[aQ (J ⟨j,f,ac⟩) L.length o,aQ (J E) a.length B]).run P e=
    .ok (aQ (J ⟨j,f,ac⟩) (L.length+a.length) o) (e.setRow j (g.toList.take (f+L.length*k)++a.flatMap V++g.toList.drop (f+L.length*k+(a.flatMap V).length)).toArray):=by
    simp only [y]at aJ;simp only [cX]at ay;simp[pw,eJ (hf ab),j3,kO,aj,y,tm,aI,aJ,jf,ay]
   have W:g.toList.length=g.size:=ae;have bi:((g.toList.take (f+L.length*k)++a.flatMap V++g.toList.drop (f+L.length*k+(a.flatMap V).length)).drop f).take ((L.length+a.length)*k)=L.flatMap V++a.flatMap V:=by
    rw[<-ba];have bj:(g.toList.take (f+L.length*k)++a.flatMap V++g.toList.drop (f+L.length*k+(a.flatMap V).length)).drop f=(g.toList.drop f).take (L.length*k)++(a.flatMap V++g.toList.drop (f+L.length*k+(a.flatMap V).length)):=by rw[cX,List.drop_append_of_le_length (by rw[bt,W];omega),List.drop_take];congr 2;omega
    have az:((g.toList.drop f).take (L.length*k)).length=L.length*k:=by rw[bt,cO,W];omega
    rw[bj];generalize(g.toList.drop f).take (L.length*k)=bk at az⊢;generalize g.toList.drop (f+L.length*k+(a.flatMap V).length)=b1;rw[uR,az,d_ (l:=bk) (by rw[az,jb];omega),uR,p,jb,Nat.add_sub_cancel_left,pn,List.take_zero,cT,d_ (by rw[p];omega)]
   have:=ai (aQ (J ⟨j,f,ac⟩) (L.length+a.length) o) (e.setRow j (g.toList.take (f+L.length*k)++a.flatMap V++g.toList.drop (f+L.length*k+(a.flatMap V).length)).toArray)
    (.inr ⟨j,f,o,_,by rw[C],D,qj e j g _ n _ r,G,aZ,by simp only [mG,bf,bt,cO,W];omega,by rw[am,C];exact bi⟩)
    ⟨F,F,F,ae,λv _ t=>uN e j v _ (λn=>t (by simp[to,n]))⟩ (.inl F)
    (λbm bn bo bp aw a0=>by
     cases a0;refine⟨be,_,_,qj e j g _ n _ r,λb hu=>?_,?_⟩
     ·simp only [b9]at hu;rcases hu with(hu|hu)|hu
      ·exact aH b (fy hu)
      ·exact S a b hu
      ·exact aH b (jH hu)
     ·have ak:(g.toList.take (f+L.length*k)++a.flatMap V++g.toList.drop (f+L.length*k+(a.flatMap V).length)).toArray.size=g.size:=by simp only [mG,bf,bt,cO,W,p];omega
      rw[ak];exact bg)
   unfold cz bM
   dsimp only
   rw[H];exact this
  ·have br:∀h b,(L.flatMap V)[h]? =J b->e.cell? ((⟨j,f,ac⟩:hr).add h)=J b:=λh b hu=>by rw[jf];exact a3.f rfl hu
   have H:=run_append_grow (P:=P) e T i n R w (hf ab) aj a8 ⟨j,f,ac⟩ L.length o (L.flatMap V) (by rw[y];exact an) br E a.length B (a.flatMap V) (by rw[y];exact p) ap G G (growslice_fits G (by rw[aB];exact a7));have bb:=grownCap_ge e (L.length+a.length) o n;have av:pq e (L.length+a.length) o n<=maxLen:=HR e _ o n ag;have:=ai (aQ (J ⟨e.heap.size,0,ac⟩) (L.length+a.length) (pq e (L.length+a.length) o n))
    (e.drew.alloc (eW ((L.flatMap V).toArray++(a.flatMap V).toArray++n5 w.cells (pq e (L.length+a.length) o n-(L.length+a.length))) n))
    (.inr ⟨e.heap.size,0,_,_,by rw[C],a4,mE e.drew _,G,av,by
     simp only [AF,mG,AE,U,an,p,hW,<-jb];exact Ds (by congr 1;omega),by
     rw[am,C,h6];simp only [tp,cX];rw[<-cX,<-am,show(L.length+a.length)*k=((L++a).flatMap V).length from by rw[u.aA,C]];exact tq⟩)
    ⟨F,F,F,ae,λv t _=>(O.fl e.drew _).block v t⟩ (.inr λj r=>by cases r;exact a6 _)
    (λbm bn bo bp aw a0=>by
     cases a0;refine⟨F,_,_,mE e.drew _,λb hu=>?_,?_⟩
     ·rw[tp,tp,b9,b9]at hu;rcases hu with(hu|hu)|hu
      ·exact S L b hu
      ·exact S a b hu
      ·exact aD _ b hu
     ·simp only [AF,mG,AE,U,an,p];exact XW (XW (Is ..) (Is ..)) (Is ..))
   unfold cz bM
   dsimp only
   rw[H];exact this
def aln{e:bq}{c:aa}{d s:Z}{q:Z->Bool}{T:cv}{α:Type}{A:Nat}{V:α->List Z}{a:List α}{x:α}{r:aa->Prop}(B:cg e T=k)(C:0<k)(m:eR V k)(D:ar c A n k d V a)(o:i<a.length)(E:s.cells=(V x).toArray)(G:h0 q k c d)(H:∀K,∀s∈V K,q s=af)
 (L:∀g,g.heap.size=c.heap.size->c.grownBy g d.ownBlock->ar g A n k d V (a.set i x)->h0 q k g d->r g):c4 e T (ad (J (qT d k i))) s c r:=by
 rcases D with⟨rfl,rfl⟩|⟨b,M,t,f,rfl,O,j,u,P,Q,R⟩
 ·simp at o
 ·have h:=m.bl x;obtain⟨rfl,S,aj,v,w,U⟩:=G b M ac _ _ F;rw[j]at v;cases v;have ak:i*k+k<=a.length*k:=by rw[<-Nat.succ_mul];exact ny k o
  have am:a.length*k<=t*k:=ny k u;have l:f.toList.length=f.size:=ae;have p:0+i*k+(V x).length<=f.toList.length:=by rw[h,l];omega
  have W:((dE f.toList (0+i*k) (V x)).drop 0).take (a.length*k)=(a.set i x).flatMap V:=by rw[G7 p,Mv (m:=a.length*k) (by rw[h];omega) (by rw[cO,l];omega),R,m.ax a i x o]
  have y:=uM e b (0+i*k) n (V x) 0 f c j (by rw[h];omega) (m.B x);have z:=L (c.setRow b (dE f.toList (0+i*k) (V x)).toArray) ae ⟨F,F,F,ae,λab _ ag=>uN c b ab _ (λn=>ag (by rw[n];rfl))⟩
   (.inr ⟨b,0,t,(dE f.toList (0+i*k) (V x)).toArray,by rw[wB],O,qj c b _ _ n _ j,by rw[wB];exact u,P,by
    rw[mG,Af p,l];exact Q,by
    rw[wB];exact W⟩)
   (λap aq au av S ah=>by
    cases ah;refine⟨F,_,_,qj c b _ _ n _ j,λs hu=>?_,?_⟩
    ·unfold dE at hu;simp only [b9]at hu;rcases hu with(hu|hu)|hu
     ·exact w s (fy hu)
     ·exact H x s hu
     ·exact w s (jH hu)
    ·rw[mG,Af p,l];exact U)
  unfold dE at z;simp only [nw]at y;have ai:(qt T (ad (J ⟨b,0+i*k,ac⟩)) s).run e c= .ok () (c.setRow b (f.toList.take (0+i*k)++V x++f.toList.drop (0+i*k+(V x).length)).toArray):=by
   simp[qt,Instr.sureAddr,storeVar,l_ B C,E,h]
   simpa [h]using y
  unfold c4 bM;simp only [qT,jf];rw[ai];exact z
end Go.Lift
namespace Go.Proofs.YtoddhldofgfdmaaGreatDoor
namespace aY
open Go.Lift Go.RowKit Go.bW Go.cB Go.Proofs.YtoddhldofgfdmaaGreatDoor.b0
structure ea (A:Nat) (B E:List Nat) (w aq:aa):Prop where
 bo:aq.os=w.os
 bs:aq.tape=w.tape
 br:aq.output=w.output
 bp:dc w aq
 H:∀k,k<w.heap.size->k∉B->(A<=k->∀e∈E,¬pW w e k)->aq.heap[k]? =w.heap[k]?
section
variable{A:Nat} {B E:List Nat} {w b1 hq mD aq:aa}
def ea.Y(a:ea A B E w aq):w.heap.size<=aq.heap.size:=a.bp.1
def ea.R(a:O w aq):ea A B E w aq:=⟨a.os,a.tape,a.output,.R a,λb c _ _=>a.block b c⟩
def ea.p(w:aa):ea A B E w w:= .R (O.p w)
def ea.a(h:ea A B E w hq)(g:ea A B E hq mD):ea A B E w mD:=by refine⟨g.bo.trans h.bo,g.bs.trans h.bs,g.br.trans h.br,h.bp.a g.bp,λk a b d=>?_⟩;have f:=h.H k a b d;refine(g.H k (wC a h.Y) b λi e j l=>?_).trans f;obtain⟨c,n⟩:=l;exact d i e j ⟨c,f▸n⟩
def ea.cB{a d:Nat}(b:ht a A d w aq)(c:jM w aq)(e:d∈B)(f:a∈E):ea A B E w aq:=
 ⟨b.bo,b.bs,b.br,.b5 c,λc g h i=>b.H c g (λa=>h (a▸e)) λj=>i j a f⟩
def ea.al{row:Option Nat}(b:w.grownBy aq row)(f:∀a,row=J a->a∈B\/(A<=a/\∃c∈E,pW w c a))(g:∀a,row=J a->a<w.heap.size->qy w a):ea A B E w aq:=
 ⟨b.os,b.tape,b.output,.al b g,λe h i j=>b.block e h λc=>by
  rcases f e c.symm with d|⟨d,k,l,n⟩
  ·exact i d
  ·exact j d k l n⟩
def ea.h(h:ea A B E hq mD)(a:O b1 hq)(f:b1.heap.size<=A)(c:∀b∈B,b1.heap.size<=b):O b1 mD:=by have:=a.size;exact⟨h.bo.trans a.os,h.bs.trans a.tape,h.br.trans a.output,eQ a.size h.Y,λk d=>(h.H k G (λe=>by have:=c k e;omega) G).trans (a.block k d)⟩
def ea.row{v:Z}{α:Type}{d a k:Nat}{V:α->List Z}{L:List α}(f:ea A B E w aq)(r:ar w d a k v V L)(g:a∉E)(h:∀i∈B,v.ownBlock≠J i):ar aq d a k v V L:=by
 rcases r with r|⟨b,j,l,n,rfl,o,c,bc⟩
 ·exact .inl r
 ·refine .inr ⟨b,j,l,n,F,o,?_,bc⟩;rw[f.H b (iz.1 c).1 (λp=>h b p F) λ_ t q s=>by obtain⟨u,e⟩:=s;rw[c]at e;cases e;exact g q];exact c
def ea.cl{x:Z}{q:Z->Bool}{c:Nat}{α:Type}{g d h:Nat}{V:α->List Z}{L:List α}(i:ea A B E w aq)(e:ar w g d h x V L)(j:h0 q c w x)(k:d∉E)(l:∀n∈B,x.ownBlock≠J n):h0 q c aq x:=
 j.aS λa b=>i.H a (e.D a b).2 (λo=>l a o b) λ_ t p r=>by obtain⟨u,s⟩:=r;obtain⟨_,v,f⟩:=e.de b;rw[s]at f;cases f;exact k p
def ea.ak{a T:Nat}{S:List Z}(d:ea A B E w aq)(b:bQ w a S T)(e:T∉E)(f:a∉B):bQ aq a S T:=
 (d.H a b.D f λ_ i g h=>by obtain⟨j,c⟩:=h;rw[b]at c;cases c;exact e g).trans b
def ea.fQ{a T:Nat}{S:List Z}(c:w.grownBy aq (J a))(d:a∈B)(e:bQ w a S T)(f:T≠49)(g:kW S):ea A B E w aq:= .al c (λh b=> .inl (by cases b;exact d)) λh b _=>by cases b;exact .inr ⟨S,T,e,f,g⟩
def ea.sub{c d:List Nat}(h:ea A B E w aq)(f:∀b∈B,b∈c)(g:∀a∈E,a∈d):ea A c d w aq:=⟨h.bo,h.bs,h.br,h.bp,λe i j k=>h.H e i (λl=>j (f e l)) λn a o=>k n a (g a o)⟩
def ea.ab{b:Nat}(h:ea A B E w hq)(g:hq.grownBy mD (J b))(f:w.heap.size<=b):ea A B E w mD:=by
 have e:∀k,k<w.heap.size->mD.heap[k]? =hq.heap[k]? :=λk a=>g.block k (wC a h.Y) λe=>by cases e;omega
 exact⟨g.os.trans h.bo,g.tape.trans h.bs,g.output.trans h.br,⟨eQ h.Y g.size,λk a=>(h.bp.2 k a).imp (e k a).trans id⟩,λk a c d=>(e k a).trans (h.H k a c d)⟩
end
abbrev of:=Option hr×Option hr×Int
def ne(x:of):List Value:=[ad x.1,ad x.2.1,I X x.2.2]
def tY:eR ne 3:=⟨λ_=>F,λb c a=>by simp[ne]at a;rcases a with rfl|rfl|rfl<;>rfl⟩
def r2:Z->Bool
 |I X _=>af
 |ad _=>af
 |_=>ao
variable{x:Z}
def aj0(a:r2 x=af):xE x=true:=by
 unfold r2 at a;split at a
 ·rfl
 ·rfl
 ·cases a
def agZ(c:of):∀a∈ne c,r2 a=true:=λa b=>by simp[ne]at b;rcases b with rfl|rfl|rfl<;>rfl
def lK(f a:Option hr)(g:bK)(h:Int):kW [ad f,ad a,ay g,I X h]:=
 ⟨λj c=>by simp at c;rcases c with rfl|rfl|rfl|rfl<;>rfl,λb a=>by simp at a,λb d e k l a=>by simp at a,λi b d e a=>by simp at a,λi b d e n o p a=>by simp at a,λa=>by simp at a⟩
def ajw{b:List Z}(f:∀g∈b,r2 g=af)(hd:3∣b.length):kW b:=by
 refine⟨λg h=>aj0 (f g h),λc a=>?_,λc d e j k a=>?_,λi c d e a=>?_,λi c d e l n o a=>?_,λa=>?_⟩
 ·subst a;simp at hd
 ·have:aQ c d e∈b:=fy (i:=3) (a▸dv ..);have:=f _ this;simp[r2]at this
 ·subst a;simp at hd
 ·have:aQ c d e∈b:=a▸by simp
  have:=f _ this;simp[r2]at this
 ·omega
def wM(w:aa)(b:of)(a:ik):Prop:=j8 w (ad b.1) a.z a.R/\kT w (ad b.2.1) a.z a.M/\b.2.2=a.L
def wM.bp{w aq:aa}{x:of}{b:ik}(a:wM w x b)(c:dc w aq):wM aq x b:=⟨a.1.bp c,a.2.1.bp c,a.2.2⟩
def su(w:aa)(bb:List of)(K:List ik):Prop:=bb.length=K.length/\∀(a:Nat) (b:of) (c:ik),bb[a]? =J b->K[a]? =J c->wM w b c
def su.bp{w aq:aa}{bb:List of}{K:List ik}(a:su w bb K)(b:dc w aq):su aq bb K:=⟨a.1,λi x c d e=>(a.2 i x c d e).bp b⟩
def su.push{w:aa}{bb:List of}{K:List ik}(b:su w bb K){x:of}{y:ik}(f:wM w x y):su w (bb++[x]) (K++[y]):=by
 refine⟨by simp[b.1],λd g h a hd=>?_⟩;rw[Nq]at a hd;rw[b.1]at a;split at a
 ·rename_i c
  rw[au c]at hd;exact b.2 d g h a hd
 ·rename_i c
  rw[an c]at hd;cases e:d-K.length with
  |zero=>rw[e]at a hd;cases a;cases hd;exact f
  |succ i=>rw[e]at a;simp at a
def su.bu{w:aa}{bb:List of}{K:List ik}{c:ik}(d:su w bb (K++[c])):∃a b,bb=a++[b]/\su w a K/\wM w b c:=by
 have e:=d.1;rw[bf,oK]at e;rcases Iu bb with rfl|⟨a,b,rfl⟩
 ·simp at e
 ·rw[It]at*;rw[bf,oK]at e;refine⟨a,b,F,⟨G,λh i j f g=>?_⟩,?_⟩
  ·have k:=(dS.1 f).1;have l:=(dS.1 g).1;exact d.2 h i j (by rw[wA k];exact f) (by rw[wA l];exact g)
  ·exact d.2 K.length b c (by rw[oI G,show K.length-a.length=0 from G];rfl) (by rw[oI G,pn];rfl)
def KI{w aq:aa}{A f:Nat}{D c0:List (List a_×List a_)}(a:H.lV w A f D c0)(l:∀b,b<w.heap.size->(b=f\/(A<=b/\(pW w 182 b\/pW w 70 b)))->aq.heap[b]? =w.heap[b]?):H.lV aq A f D c0:=by
 obtain⟨z,C,g,us,a⟩:=a;have h:∀{α:Type} {T b:Nat} {v:Z} {V:α->List Z} {e:List α},(T=182\/T=70)->ar w A T b v V e->ar aq A T b v V e:=by
  intro α T b v V e i c;rcases c with c|⟨d,n,G,o,rfl,q,j,bc⟩
  ·exact .inl c
  ·refine .inr ⟨d,n,G,o,F,q,?_,bc⟩;rw[l d (iz.1 j).1 (.inr ⟨q,by rcases i with rfl|rfl;(·exact .inl ⟨o,j⟩);exact .inr ⟨o,j⟩⟩)];exact j
 have r:∀{g:List (bK×bK)} {D:List (List a_×List a_)},H.je w A g D->H.je aq A g D:=λp=>⟨p.1,λs t u x hd=>⟨h (.inr F) (p.2 s t u x hd).1,h (.inr F) (p.2 s t u x hd).2⟩⟩;have y:∀{v:Z} {e:List (bK×bK)},ar w A 182 2 v H.br e->j_ w v->j_ aq v:=λc n d k=>(n d k).aS (l d (c.D d k).2 (.inr ⟨(c.D d k).1,.inl (c.de k).2⟩));obtain⟨T,i⟩:=a.H;exact⟨z,C,g,us,a.hi,⟨T,(l f (iz.1 i).1 (.inl F)).trans i⟩,h (.inl F) a.dt,h (.inl F) a.d2,a.fk,r a.tc,r a.td,y a.dt a.b9,y a.d2 a.EZ⟩
structure mL (w:aa) (A ch cy:Nat) (D c0:List lq) (K:List ik) (us:bK) (bb:List of):Prop where
 be:ch<A
 a6:cy<A
 fk:ch≠cy
 ao:A<=w.heap.size
 r:H.lV w A cy D c0
 Q:ar w A 190 3 (ay us) ne bb
 y:h0 r2 3 w (ay us)
 I:su w bb K
def lA(a:Z)(cy:Nat)(us:bK)(b:Int):List Value:=[a,ad (J ⟨cy,0,ac⟩),ay us,I X b]
def hI(w:aa)(A ch cy:Nat)(m:cD):Prop:=∃a us bb,bQ w ch (lA (ad a) cy us m.L) 138/\e2 w (ad a) m.l/\mL w A ch cy m.ad m.c0 m.aE us bb
abbrev Oe:List Nat:=[182,190]
abbrev nD(A ch cy:Nat):aa->aa->Prop:=ea A [ch,cy] Oe
section
variable{w aq:aa} {A ch cy:Nat} {D c0:List lq} {K:List ik} {m:cD} {us:bK} {bb:List of}
def mL.jm(a:mL w A ch cy D c0 K us bb)(bp:dc w aq)(f:∀b,b<w.heap.size->b=cy\/(A<=b/\(pW w 182 b\/pW w 70 b\/pW w 190 b))->aq.heap[b]? =w.heap[b]?):mL aq A ch cy D c0 K us bb:=by
 have d:∀c,(ay us).ownBlock=J c->aq.heap[c]? =w.heap[c]? :=λc e=>f c (a.Q.D c e).2 (.inr ⟨(a.Q.D c e).1,.inr (.inr (a.Q.de e).2)⟩);refine⟨a.be,a.a6,a.fk,eQ a.ao bp.1,KI a.r λb d i=>f b d (i.imp id λg=>⟨g.1,g.2.imp id .inl⟩),?_,a.y.aS d,a.I.bp bp⟩;rcases a.Q with j|⟨c,y,k,l,h,n,o,bc⟩
 ·exact .inl j
 ·exact .inr ⟨c,y,k,l,h,n,(d c (by rw[h];rfl)).trans o,bc⟩
def mL.h(h:mL w A ch cy D c0 K us bb)(e:O w aq):mL aq A ch cy D c0 K us bb:=h.jm (.R e) λk a _=>e.block k a
def mL.ak{c T:Nat}{S:List Z}(g:mL w A ch cy D c0 K us bb)(d:w.grownBy aq (J c))(e:bQ w c S T)(h:kW S)(a:T≠182/\T≠70/\T≠190/\T≠49)(i:c≠cy):mL aq A ch cy D c0 K us bb:=by
 refine g.jm (.af d e a.2.2.2 h) λj k l=>d.block j k λn=>?_;cases n;rcases l with rfl|⟨_,⟨f,b⟩|⟨f,b⟩|⟨f,b⟩⟩
 ·exact i F
 all_goals rw[e]at b;cases b
 ·exact a.1 F
 ·exact a.2.1 F
 ·exact a.2.2.1 F
def hI.h(h:hI w A ch cy m)(e:O w aq):hI aq A ch cy m:=by obtain⟨p,us,bb,a,b,c⟩:=h;exact⟨p,us,bb,a.h e,b.h e,c.h e⟩
def hI.bS{j:Nat}{B E:List Nat}(a:hI w A ch cy m)(d:ea j B E w aq)(e:∀i∈B,i≠ch/\i≠cy/\∀b∈ [182,70,190],¬pW w b i)(g:∀b∈E,b≠138/\b≠182/\b≠190/\b≠70)(x:cy<j):hI aq A ch cy m:=by
 obtain⟨p,us,bb,k,q,r⟩:=a;refine⟨p,us,bb,d.ak k (λf=>(g _ f).1 F) (λc=>(e _ c).1 F),q.bp d.bp,r.jm d.bp λs l t=>?_⟩;rcases t with rfl|⟨_,n⟩
 ·exact d.H _ l (λc=>(e _ c).2.1 F) λk=>G
 ·refine d.H s l (λc=>?_) λ_ b f u=>?_
  ·rcases n with a|a|a
   ·exact(e _ c).2.2 _ ae a
   ·exact(e _ c).2.2 _ ae a
   ·exact(e _ c).2.2 _ ae a
  ·obtain⟨y,v⟩:=u;rcases n with⟨o,h⟩|⟨o,h⟩|⟨o,h⟩<;>rw[v]at h<;>cases h
   ·exact(g _ f).2.1 F
   ·exact(g _ f).2.2.2 F
   ·exact(g _ f).2.2.1 F
end
def mr(e a b c d N:Int):List Value:=[I X e,I X a,I X b,I X c,I X d,I X N]
abbrev x_:List Value:=mr 0 0 0 0 0 0
def vx(e c d f g N:Int):∀a∈mr e c d f g N,a.oneCell' =true:=λa b=>by simp only [mr,df,ln,or_false]at b;rcases b with rfl|rfl|rfl|rfl|rfl|rfl<;>rfl
def ur(a b c d e N:Int):kW (mr a b c d e N):=FJ [a,b,c,d,e,N]
def lL(e a b c d N:Int):Value:=al (if e≠0 then mr e 0 0 0 0 0 else mr 0 a b c d N).toArray
variable{w:aa}
variable{t s c:Int}
def Fg{e d:Int}{u k:bK}{N:Int}:ak Y 77 [al (gd x s e c N d u k).toArray,I X t] w λm n=>O w n/\m=lL t d s e c N:=by
 apply aai;refine bd (S:=gd x s e c N d u k) F λB C D H o p=>?_;refine bo rB λK L P Q i j=>?_;have b:=o.a i;have R:=b.size;have l:=(p.h i).b;rw[bs,bu];refine⟨λq=>?_,λS=>?_⟩
 ·rw[bz (S:=mr t 0 0 0 0 0) (iR:=[(0,[I X t])]) rB Jr F F];refine er xc D5 g j F F (vx _ _ _ _ _ _) λv y f z=>⟨b.ab f λA h=>by cases h;omega,?_⟩;unfold lL;rw[au q]
 ·rw[M Pv E (l.f 5 (show(gd x s e c N d u k)[5]? =J (I X d)from F)),iL Pw u7 (S:=[I X s,I X e,I X c,I X N]) (cA.cG (l.E 1) 4) F,
   bz (S:=mr 0 d s e c N) (iR:=[(1,[I X d]),(2,[I X s,I X e,I X c,I X N])]) rB Jr F F]
  refine er xc D5 g j F F (vx _ _ _ _ _ _) λv y f z=>⟨b.ab f λA h=>by cases h;omega,?_⟩;unfold lL;rw[an G]
def A2(e:Nat)(w:aa)(j:Option hr)(k l m N n:Int)(o p:bK)(a:aH)(b:gE):Prop:=(dH a b).2.1=0->n=(dH a b).2.2/\e2 w (ad j) (dH a b).1/\∃c f g h d i:Nat,(k=c/\l=f/\m=c/\N=g)/\oU a (dH a b).1 h d i c f g/\
 (b.I=1->((h:Int)=m_ a.z (ct (b.N.map (fa a.Q)))/\(d:Int)=l2 a.z (ct (b.N.map (fa a.Q)))/\(i:Int)=d+((a.X (b.N.map (fa a.Q))).z-a.z))/\ar w e 70 3 (ay o) cp (dw a.Q 0 (b.N.map (fa a.Q)))/\ar w e 70 3 (ay p) cp (b.N.map (fa a.Q)))
def lW.M{v:aH}{e:gE}{B:Nat}(c:lW B w x v e):∃(q:Option hr) (a b g N n:Int) (d t:bK),x=a1 #[al (gd (ad q) a b g N n d t).toArray,I X (dH v e).2.1]/\A2 B w q a b g N n d t v e:=by
 rcases c with⟨f,z,rfl⟩|⟨f,q,a,b,N,i,j,k,d,t,rfl,h,l,m⟩
 ·exact⟨ac,0,0,0,0,0,(ac,0,0),(ac,0,0),F,λc=>aL c f⟩
 ·obtain⟨A,_,_,rfl,_⟩:=id h;exact⟨_,_,_,_,_,_,_,_,by rw[f],λ_=>⟨F,h,a,b,N,i,j,k,⟨F,F,F,F⟩,l,λo=>by obtain⟨p,r,s,u,y⟩:=m o;exact⟨⟨p,r,s⟩,u,y⟩⟩⟩
def A2.ab{f d:aa}{B b:Nat}{q:Option hr}{j k m N n:Int}{s t:bK}{v:aH}{y:gE}(h:A2 B w q j k m N n s t v y)(e:O w f)(g:f.grownBy d (J b))(bp:dc f d)(a:b<B\/w.heap.size<=b):A2 B d q j k m N n s t v y:=by
 intro p;obtain⟨r,u,x,z,A,C,D,c,E,F,G⟩:=h p;refine⟨r,(u.h e).bp bp,x,z,A,C,D,c,E,F,λH=>?_⟩;obtain⟨K,L,M⟩:=G H;have o:∀{V:Z} {l:List a_},ar w B 70 3 V cp l->ar d B 70 3 V cp l:=λi=>(i.h e).ab g (by
  rcases a with a|a
  ·exact fC i a
  ·exact .inr (vY i a))
 exact⟨K,o L,o M⟩
def yC(h:Z)(a:cD)(b:gE):Prop:=∃c e N:Nat,h=lL (a.cU b).2.1 (a.cU b).2.2 c e c N/\
 ((a.cU b).2.1=0->∃f d g,oU a.l (a.cU b).1.l f d g c e N/\(b.I=1->(f:Int)=m_ a.l.z (ct (b.N.map (fa a.l.Q)))/\(d:Int)=l2 a.l.z (ct (b.N.map (fa a.l.Q)))/\(g:Int)=d+((a.l.X (b.N.map (fa a.l.Q))).z-a.l.z)))
def agp{α:Type}{a:List α}(b:a.length<=100):H.jj a=a:=by unfold H.jj;rw[Nat.sub_eq_zero_of_le b];rfl
variable{K:aU}{n:Nat}
def zV{x e:Int}{N:Int}(i:bQ w n x_ 63)(b:∀a,w.grownBy a (J n)->dc w a->K (lL t s x e c N) a):
 c4 Y 63 (ad (J ⟨n,0,ac⟩)) (lL t s x e c N) w λw=>bU Y 63 (ad (J ⟨n,0,ac⟩)) w λj a=>a=w/\K j w:=by
 unfold lL at b⊢;split
 ·rename_i d
  rw[au d]at b;exact i1 xc D5 g i g (ur ..) F F (vx _ _ _ _ _ _) λa _ f h _=>b a f h
 ·rename_i d
  rw[an d]at b;exact i1 xc D5 g i g (ur ..) F F (vx _ _ _ _ _ _) λa _ f h _=>b a f h
def hI.ak{e:aa}{f b c a T:Nat}{g:cD}{S:List Z}(l:hI w f b c g)(d:w.grownBy e (J a))(h:bQ w a S T)(i:kW S)(j:T≠182/\T≠70/\T≠190/\T≠49)(k:a≠c/\a≠b):hI e f b c g:=by obtain⟨m,n,o,p,q,r⟩:=l;exact⟨m,n,o,p.ab d (λs=>k.2 (by cases s;rfl)),q.bp (.af d h j.2.2.2 i),r.ak d h i j k.1⟩
variable{i:Nat}{e:bK}
def agO{k t s:Nat}{x:gE}{c d:bK}{a:cD}(bH:hI w n k i a)(aM:il t s a)(hd:s<=50)(cf:fV w)(cg:hJ w)(ch:pD w x e c d)(cG:t+jh x.N<=1300)(bI:x.I≠7)(bJ:x.I≠8):
 ak Y 38 [ad (J ⟨k,0,ac⟩),al (ep x.I x.V x.aW e c d).toArray] w λj ap=>nD n k i w ap/\hI ap n k i (a.cU x).1/\yC j a x:=by
 have cH:=aM.z;have cJ:=aM.ia;have ci:=bH;obtain⟨cj,a4,bL,aP,ck,r⟩:=bH;have cm:=r.be;have cn:=r.a6;have cK:=r.ao;apply aaf;refine bd (S:=ep x.I x.V x.aW e c d) F λcM cN cP cQ co cp=>?_;refine lb rB λbM A cR cS bh cq=>?_;have cr:bQ A bM x_ 63:=cq;have aq:=co.a bh;have cV:=aq.size;have cW:=bh.size;have bN:=cp.h bh;refine bG.y (λa4 u=>∃(B:Nat) (h:Option hr) (C D K N L:Int) (o p:bK),a4=[ad (J ⟨B,0,ac⟩),I X (dH a.l x).2.1]/\O A u/\A.heap.size<=B/\bQ u B (gd (ad h) C D K N L o p) 184/\A2 A.heap.size u h C D K N L o p a.l x) ?_ ?_
 ·apply bE.h;have b:O A A.drew:=(O.p A).C;have bO:=b.size;rw[bn,b2 sB nG ((aP.h aq).H.b.f 0 F) b,gX mR bN.b F b];have bP:∀{u:aa},O A u->ak Y 80 [ad cj,al (ep x.I x.V x.aW e c d).toArray] u λj ap=>O u ap/\lW u.heap.size ap j a.l x:=λ{u} q=>aja (ck.h (aq.a q)) aM.l (cf.h (aq.a q)) (cg.h (aq.a q)) (ch.h (aq.a q)) G;refine⟨?_,?_⟩
  ·refine(bP b).o ?_;rintro j v ⟨P,bi⟩;obtain⟨h,C,D,K,N,L,o,p,rfl,aA⟩:=bi.M;have cs:=P.size;refine⟨b.a P,?_⟩;rw[aN,aO];refine lb it λB aR ct cu R aS=>⟨(b.a P).a R,?_⟩;refine gh (cS:=gd (ad h) C D K N L o p) is g aS F F ae (ov F _ _ _ _ _ _ _) λV bj f aw=>?_;have aC:O A V:=((b.a P).a R).ab f λcw bk=>by cases bk;omega
   refine⟨aC,B,h,C,D,K,N,L,o,p,F,aC,G,aw,?_⟩;have:=aA.ab R f (.af f aS g ki) (.inr G);exact λy=>by obtain⟨bl,bo,br⟩:=this y;obtain⟨az,a5,a7,aG,aH,t,bv,bx,a0⟩:=br;exact⟨bl,bo,az,a5,a7,aG,aH,t,bv,bx,λm=>⟨(a0 m).1,(a0 m).2.1.o bO,(a0 m).2.2.o bO⟩⟩
  ·refine lb it λB aR ct cu R aS=>⟨b.a R,?_⟩;refine(bP (b.a R)).o ?_;rintro j v ⟨P,bi⟩;obtain⟨h,C,D,K,N,L,o,p,rfl,aA⟩:=bi.M;have cs:=P.size;have cY:=R.size;refine⟨(b.a R).a P,?_⟩;rw[aN,aO];have bR:bQ v B hS 184:=bQ.h aS P;refine gh (cS:=gd (ad h) C D K N L o p) is g bR F F ae (ov F _ _ _ _ _ _ _) λV bj f aw=>?_;have aC:O A V:=((b.a R).a P).ab f λcw bk=>by cases bk;omega
   refine⟨aC,B,h,C,D,K,N,L,o,p,F,aC,G,aw,?_⟩;have:=aA.ab (O.p _) f (.af f bR g ki) (.inl G);exact λy=>by obtain⟨bl,bo,br⟩:=this y;obtain⟨az,a5,a7,aG,aH,t,bv,bx,a0⟩:=br;exact⟨bl,bo,az,a5,a7,aG,aH,t,bv,bx,λm=>⟨(a0 m).1,(a0 m).2.1.o G,(a0 m).2.2.o G⟩⟩
 rintro a8 aB u ⟨B,h,C,D,K,N,L,o,p,rfl,aT,cZ,aw,aA⟩;simp only [av,bA];have aJ:=aq.a aT;have da:=aT.size;have bz:=cr.h aT;rw[bs,bu];refine⟨λaU=>?_,λy=>?_⟩
 ·have U:a.cU x=(a,(dH a.l x).2.1,0):=by unfold cD.cU;rw[an bI,an bJ,au aU]
  rw[aF h8 aw.H.b F];apply Fg.o;rintro j z ⟨aV,rfl⟩;refine zV (bz.h aV) λbS bT db=>⟨(ea.R (aJ.a aV)).ab bT G,?_,?_⟩
  ·rw[U];exact(ci.h (aJ.a aV)).ak bT (bz.h aV) (ur ..) g ⟨G,G⟩
  ·refine⟨0,0,0,?_,λa2=>aL a2 (by rw[U];exact aU)⟩;rw[U];unfold lL;rw[au aU,au aU]
 obtain⟨rfl,cx,az,a5,a7,aG,aH,cy,⟨rfl,rfl,rfl,rfl⟩,cz,bU⟩:=aA y;have U:=wk bI bJ y;have aY:=aP.h aJ;have eY:∀q:Option hr,∀j∈ [ad q],j.oneCell' =true:=λq j W=>by simp at W;subst W;rfl
 rw[M Bj nG (aw.H.b.f 0 F),bn,aj sB];refine gh (cS:=[ad h]) EK g aY F F (by simp[lA]) (eY h) λv dd ag c1=>?_;have ah:bQ v k (lA (ad h) i a4 a.L) 138:=c1;have aZ:=(r.h aJ).ak ag aY (lK ..) g r.fk;have b0:nD n k i w v:=(ea.R aJ).a (.fQ ag ae aY g (lK ..));have b1:=cx.bp (.af ag aY g (lK ..));have ba:=aw.ab ag (be G);have b3:=bz.ab ag (be G);have c2:=(bN.h aT).ab ag (be G);refine bG.y (λa8 z=>∃bb b4,a8=[]/\nD n k i w z/\bQ z k (lA (ad h) i bb (a.cU x).1.L) 138/\e2 z (ad h) (dH a.l x).1/\mL z n k i (a.cU x).1.ad (a.cU x).1.c0 (a.cU x).1.aE bb b4/\bQ z B (gd (ad h) az a5 az a7 (dH a.l x).2.2 o p) 184/\bQ z bM x_ 63) ?_ ?_
 ·rw[M wX E (c2.b.f 0 (show(ep x.I x.V x.aW e c d)[0]? =J (I X x.I)from F)),bm,ai];refine⟨λam=>?_,λam=>?_⟩
  ·obtain⟨_,bc,bg⟩:=bU am;have bc:=bc.ab ag (fC bc G);have bg:=bg.ab ag (fC bg G);have de:(x.N.map (fa a.l.Q)).length<=64:=by rw[s3 am]at y;have:=(RL y).1;rw[b_];exact this
   apply bE.h;have b:O v v.drew:=(O.p v).C;rw[bn,b2 Jd I3 (ah.H.b.f 1 F) b,aK (λu a2 dg=>aj Px) b,gX (S:=[ay o,ay p]) yD (ba.H.b.E 6) F b];refine(H.Gw (bv:=o) (Fz:=p) (aV:=dw a.l.Q 0 (x.N.map (fa a.l.Q))) (kE:=x.N.map (fa a.l.Q)) (aZ.r.h b) (eQ aZ.ao b.size) G (λap b6=>(b6.fQ (bc.h b) g G).aI jR) (λap b6=>(b6.fQ (bg.h b) g G).aI jR) (by rw[ua];omega) G).o ?_;rintro j aR ⟨rfl,bV,bW,bX⟩;have c3:dc v aR:=(dc.R b).a (.b5 bW);have bY:=(b0.a (ea.R b)).a (.cB bV bW ae ae);have b7:∀{a3 T:Nat} {S:List Z},bQ v a3 S T->a3≠i->T≠182->bQ aR a3 S T:=λ{a3 T S} q m aP=>(bV.H a3 (q.h b).D m λ_ r=>by obtain⟨t,bZ⟩:=r;rw[q.h b]at bZ;cases bZ;exact aP F).trans (q.h b);have b8:=b7 ah r.fk g;rw[bn,aj w2];refine gh (cS:=[aQ ac 0 0]) JD g b8 F F (by simp[lA]) (by intro j W;simp at W;subst W;rfl) λV bj f bB=>?_;have bC:bQ V k (lA (ad h) i (ac,0,0) a.L) 138:=bB;rw[U,au am];refine⟨_,[],F,bY.a (.fQ f ae b8 g (lK ..)),bC,(b1.bp c3).bp (.af f b8 g (lK ..)),?_,(b7 ba G g).ab f (be G),(b7 b3 G g).ab f (be G)⟩;have c4:H.lV V n i (a.X (x.N.map (fa a.l.Q))).ad []:=by
    rw[agp (by rw[bf,oK];omega)]at bX;refine KI bX λa3 m c5=>f.block a3 m λe=>?_;cases e;rcases c5 with a2|⟨a2,_⟩
    ·exact r.fk a2
    ·omega
   exact⟨cm,cn,r.fk,by have:=bY.Y;have:=f.size;omega,c4,ar.nil ..,h0.nil _ _ _,F,λdl q dm c6=>by cases c6⟩
  ·refine bG.y (λa8 z=>z=v/\a8=[ax (decide (x.I=2\/x.I=3\/x.I=4))]) ?_ ?_
   ·rw[bm,ai];refine⟨λbD=>⟨F,by simp[bD]⟩,λbD=>?_⟩;rw[bm,ai];refine⟨λbF=>⟨F,by simp[bF]⟩,λbF=>?_⟩;rw[bm];exact⟨F,by simp[bD,bF]⟩
   rintro a8 c7 z ⟨rfl,rfl⟩;simp only [av];have dn:=aM.L;rw[ai];refine⟨λc8=>?_,λc8=>?_⟩
   ·rw[bn,M Et E (ah.H.b.f 3 F),aD,bn,aj Et];refine gh (cS:=[I X (a.L+1)]) bw g ah F F (by simp[lA]) (by intro j W;simp at W;subst W;rfl) λV bj f bB=>?_;have bC:bQ V k (lA (ad h) i a4 (a.L+1)) 138:=bB;rw[U,an am,an G];exact⟨a4,bL,by trivial,b0.a (.fQ f ae ah g (lK ..)),bC,b1.bp (.af f ah g (lK ..)),aZ.ak f ah (lK ..) g r.fk,ba.ab f (be G),b3.ab f (be G)⟩
   ·have c9:x.I=5\/x.I=6:=by
     by_cases a2:1<=x.I/\x.I<=6
     ·omega
     ·rw[Lt a2]at y;exact aL y (show¬(4:Int)=0 by decide)
    rw[U,an am,au c9];exact⟨a4,bL,by trivial,b0,ah,b1,aZ,ba,b3⟩
 rintro a8 c7 z ⟨bb,b4,rfl,ca,cA,cC,cE,cF,cb⟩;rw[aF h8 cF.H.b F];apply Fg.o;rintro j bS ⟨a9,rfl⟩;have dp:=ca.Y;have cd:(a.cU x).1.l=(dH a.l x).1:=by
  rw[U]
  dsimp only
  split
  ·rename_i am;rw[s3 am];rfl
  ·split<;>rfl
 rw[y];refine zV (cb.h a9) λdq ce dr=>⟨(ca.a (ea.R a9)).ab ce G,?_,az,a5,a7,?_,λ_=>⟨aG,aH,cy,by rw[cd];exact cz,λm=>(bU m).1⟩⟩
 ·refine hI.ak (w:=bS) ?_ ce (cb.h a9) (ur ..) g ⟨G,G⟩;exact⟨h,bb,b4,cA.h a9,by rw[cd];exact cC.h a9,cE.h a9⟩
 ·rw[U]
section
variable{w aq:aa} {A ch cy:Nat} {D c0:List lq} {K:List ik} {us:bK} {bb:List of}
def ahV{v:Z}(h:ar w A 190 3 v ne bb)(i:h0 r2 3 w v):∀a,v.ownBlock=J a->qy w a:=by
 intro a b;rcases h with⟨rfl,_⟩|⟨j,k,p,l,rfl,q,e,_⟩
 ·cases b
 ·cases b;obtain⟨_,r,T,f,n,o⟩:=i j k ac _ _ F;rw[e]at f;cases f;exact .inr ⟨l.toList,190,by unfold bQ;simpa using e,g,ajw n (by simpa using o)⟩
def mL.cj{f h:List lq}(a:mL w A ch cy D c0 K us bb)(i:ht 182 A cy w aq)(j:jM w aq)(l:H.lV aq A cy f h):mL aq A ch cy f h K us bb:=by
 have q:=a.a6;have n:∀b,(ay us).ownBlock=J b->aq.heap[b]? =w.heap[b]? :=λb e=>i.H b (a.Q.D b e).2 (by have:=(a.Q.D b e).1;omega) λ_ o=>by obtain⟨c,p⟩:=o;obtain⟨_,r,k⟩:=a.Q.de e;rw[p]at k;cases k
 exact⟨a.be,a.a6,a.fk,eQ a.ao j.1,l,i.fQ a.Q g a.a6,a.y.aS n,a.I.bp (.b5 j)⟩
def Hg{a T:Nat}{S:List Z}(x:bQ w a S T)(e:ht 182 A cy w aq)(f:a≠cy)(g:T≠182):bQ aq a S T:=
 (e.H a x.D f λ_ h=>by obtain⟨c,b⟩:=h;rw[x]at b;cases b;exact g F).trans x
def Ur{K:aU}{a:Nat}(b:t≠0)(e:bQ w a x_ 63)(f:∀aq,w.grownBy aq (J a)->dc w aq->K (lL t 0 0 0 0 0) aq):
 fo Y 63 [(0,I X t)] w λg w=>c4 Y 63 (ad (J ⟨a,0,ac⟩)) g w λw=>bU Y 63 (ad (J ⟨a,0,ac⟩)) w λh aq=>aq=w/\K h w:=by
 rw[bz (S:=mr t 0 0 0 0 0) (iR:=[(0,[I X t])]) rB Jr F F];have:(al (mr t 0 0 0 0 0).toArray:Z)=lL t 0 0 0 0 0:=by unfold lL;rw[au b]
 rw[this];exact zV e f
def ajY{K:aU}{h:aa->Prop}{k:Nat}{b:of}(l:ar w A 190 3 (ay us) ne bb)(n:h0 r2 3 w (ay us))(v:A<=w.heap.size)(x:bb.length<=1000)(o:∀e,O w e->h e)
 (p:∀(f:bK) aq,ar aq A 190 3 (ay f) ne (bb++[b])->h0 r2 3 aq (ay f)->w.grownBy aq (ay us).ownBlock->K (ay f) aq):
 fR Y 136 1 [(0,al (ne b).toArray)] w λi w=>h w/\cz Y fT [136,136] k [ay us,i] w K:=by
 refine f0 (n:=1) (V:=ne) (L:=[b]) (iR:=[(0,ne b)]) Bb Bn F EU g g tY F F λi e C q a E=>⟨o e a,?_⟩;refine L3 (q:=r2) Bb Bn g EU F tY (l.h a) (by have:=a.size;omega) (q.aI tY) ae (by have:e0=9223372036854775807:=rfl;simp;omega) (by rw[acT];simp;omega) (n.h a) g agZ λf r j s H t=>?_;obtain⟨u,rfl⟩:=j.ay;exact p u r j t (eN (eb a _) s)
end
section
variable{dm w:aa} {A ch cy c d:Nat} {m:cD}
def ea.ke{aq:aa}(e:nD A ch cy w aq)(f:O dm w)(b:dm.heap.size<=ch/\dm.heap.size<=cy)(g:ch<A):O dm aq:=e.h f G λh a=>by
 rcases df.1 a with rfl|a
 ·exact b.1
 ·rw[cL.1 a];exact b.2
def agP(bL:hI w A ch cy m)(v:il c d m)(aU:c<=1300)(hd:d<=50)(bM:fV dm)(bN:hJ dm)(bO:O dm w)(bP:dm.heap.size<=ch/\dm.heap.size<=cy):
 ak Y 36 [ad (J ⟨ch,0,ac⟩)] w λr aq=>nD A ch cy w aq/\hI aq A ch cy m.av.1/\∃i x N:Nat,r=lL m.av.2 0 i x i N/\(m.av.2=0->∃a3 a4 c,oU m.l m.av.1.l a3 a4 c i x N):=by
 have cG:=v.z;have cH:=v.ia;obtain⟨aV,us,bb,aW,bR,h⟩:=bL;have aY:=h.be;have bS:=h.a6;have cJ:=h.ao;apply aag;refine lb rB λa5 bT cK cM n bU=>?_;have bV:bQ bT a5 x_ 63:=bU;have cN:=n.size;rw[bn,M Jd I3 ((aW.h n).H.b.f 1 F)];refine(H.amx (h.r.h n) G G G (v.bB.cE aU)).o ?_;rintro r a8 ⟨P,S,an,cP,cQ,rfl,bW,a9⟩;have aZ:nD A ch cy w a8:=(ea.R n).a (.cB P S ae ae);have aA:=(bR.h n).bp (.b5 S);have ap:=Hg (aW.h n) P h.fk g;have aB:=Hg bV P G g;have cR:=S.1;rw[aN,aO,bs,bu];rcases a9 with⟨bX,rfl,rfl,aC⟩|⟨ba,cS,bc,rfl,rfl,aC⟩
 ·refine⟨λ_=>?_,λa=>aL a g⟩;have j:m.av=(m,6):=by unfold cD.av;rw[bX];rfl
  refine Ur g aB λbY bg cU=>⟨aZ.ab bg G,?_,0,0,0,by rw[j];rfl,λa=>aL a (by rw[j];exact(show¬(6:Int)=0 by decide))⟩;rw[j];exact hI.ak (w:=a8) ⟨aV,us,bb,ap,aA,(h.h n).cj P S aC⟩ bg aB (ur ..) g ⟨G,G⟩
 refine⟨λa=>aL F a,λ_=>?_⟩;have bi:=v.bB;rw[bc]at bi;obtain⟨z,o,bZ,rfl,bj,_⟩:=bi.bu;obtain⟨ca,bk,cb⟩:=bj.ct aU bZ;have aD:=(h.h n).cj P S aC;have aG:m.av=(⟨m.l.X (dw z 0 o),ba,m.c0++[(dw z 0 o,o)],m.aE++[⟨m.l.z,m.l.R,m.l.M,m.L⟩],m.L⟩,0):=by unfold cD.av;rw[bc];simp
 rw[bn,M sB nG (ap.H.b.f 0 F)];refine(q9 aA (O.p a8)).o ?_;rintro r bY ⟨bm,cV,rfl,_,bo⟩;have cd:=bo.B.2;obtain⟨br,cW,cY,cZ,rfl,da,db,dd,bv,bw⟩:=bo;obtain⟨p,_,rfl,_⟩:=id bv;obtain⟨q,_,_,rfl,_⟩:=id bw;refine nX (cS:=[br,ad (J ⟨p,0,ac⟩),ad (J ⟨q,0,ac⟩),I X m.l.aE,I X m.l.a7]) sE tQ g F F cd λaK ce dg dh cf cg=>?_;have ci:bQ ce aK [br,ad (J ⟨p,0,ac⟩),ad (J ⟨q,0,ac⟩),I X m.l.aE,I X m.l.a7] 100:=cg;have B:=bm.a cf;have di:=B.size;have dj:=bm.size;rw[bn,M sB nG ((ap.h B).H.b.f 0 F)];have bx:=aZ.a (ea.R B);have b0:=bx.ke bO bP aY;refine(Ln (es:=dw z 0 o) (aA.h B) v.l (bM.h b0) (bN.h b0) ((bW.h B).aI jR) bk.bt (λ_=>⟨bk,by have:=bj.dn;have:(m.l.X (dw z 0 o)).z=z.length:=(by unfold aH.z;rw[cb]);omega⟩)).o ?_;rintro r dk ⟨b1,⟨ck,_⟩|⟨_,dl,i,x,N,a3,a4,cm,b2,b3,rfl,b4,_,_,_,cn,_,_⟩⟩
 ·exact aL ca ck
 obtain⟨V,_,_,rfl,_⟩:=id b4;rw[aN,aO];refine nX (cS:=gd (ad (J ⟨V,0,ac⟩)) i x i N 0 b2 b3) it is g F F (ov F _ _ _ _ _ _ _) λaP e dp dq b6 co=>?_;have cp:bQ e aP (gd (ad (J ⟨V,0,ac⟩)) i x i N 0 b2 b3) 184:=co;have ar:=b1.a b6;have C:=B.a ar;have dr:=C.size;have ds:=ar.size;rw[bs,bu];refine⟨λa=>aL F a,λ_=>?_⟩;have aR:=ap.h C;have s:=aD.h C;have b7:=ci.h ar;have t:=s.Q;have dt:=s.I.1;have du:=v.bn.bl;have f:e.grownBy e.drew (ay us).ownBlock:=jz _ _;have aS:J ch≠(ay us).ownBlock:=λa=>by have:=(t.D ch a.symm).1;omega
 have b8:J aK≠(ay us).ownBlock:=λa=>by have:=(aD.Q.D aK a.symm).2;omega
 have cq:J aP≠(ay us).ownBlock:=λa=>by have:=(aD.Q.D aP a.symm).2;have:=b1.size;omega
 have cr:J a5≠(ay us).ownBlock:=λa=>by have:=(h.Q.D a5 a.symm).2;omega
 refine bE.y (λb=>e.grownBy b (ay us).ownBlock) f ?_;rw[bn,bh (λb a K=>aj w2) f,bh (λb (a:e.grownBy b _) K=>aM (v:=ay us) D9 ((aR.ab a aS).H.b.f 2 F)) f,
  bh (λb a K=>aj pQ) f,bh (λb (a:e.grownBy b _) K=>aM pL ((b7.ab a b8).H.b.f 1 F)) f,
  bh (λb a K=>aj mV) f,bh (λb (a:e.grownBy b _) K=>aM oP ((b7.ab a b8).H.b.f 2 F)) f,
  bh (v:=al #[ad (J ⟨p,0,ac⟩),ad (J ⟨q,0,ac⟩)]) (λb a K=>bz (S:=[ad (J ⟨p,0,ac⟩),ad (J ⟨q,0,ac⟩)]) (iR:=[(0,[ad (J ⟨p,0,ac⟩)]),(1,[ad (J ⟨q,0,ac⟩)])]) aes adL F F) f,
  bn,bh (λb a K=>aj Et) f,bh (λb (a:e.grownBy b _) K=>aM (v:=I X m.L) E ((aR.ab a aS).H.b.f 3 F)) f,
  bh (v:=al (ne (J ⟨p,0,ac⟩,J ⟨q,0,ac⟩,m.L)).toArray) (λb a K=>bz (iR:=[(0,[ad (J ⟨p,0,ac⟩),ad (J ⟨q,0,ac⟩)]),(1,[I X m.L])]) EU adK F F) f]
 have au:O e e.drew:=(O.p e).C;refine ajY (t.h au) (s.y.h au) (eQ s.ao au.size) G (λb a=>eb (au.a a) _) λW ag cu cw cx=>?_;have k:e.grownBy ag (ay us).ownBlock:=eN f cx;have bA:∀u,(ay us).ownBlock=J u->u<e.heap.size->qy e u:=λu aw _=>ahV t s.y u aw;have az:dc e ag:= .al k bA;have cz:nD A ch cy w ag:=((bx.a (ea.R ar))).a (.al k (λu aw=> .inr ⟨(t.D u aw).1,_,ae,(t.de aw).2⟩) bA);have dy:=k.size;have a0:=aR.ab k aS;refine⟨k,?_⟩;rw[bn,bh (λb a K=>aj w2) k];refine gh (cS:=[ay W]) JD g a0 F F (by simp[lA]) (by intro r j;simp at j;subst j;rfl) λaT dz ah c1=>?_;have a2:bQ aT ch (lA (ad aV) cy W m.L) 138:=c1;have c2:dc ag aT:= .af ah a0 g (lK ..);have bC:=(cp.ab k cq).ab ah (be G);rw[M Bj nG (bC.H.b.f 0 F),bn,aj sB];refine gh (cS:=[ad (J ⟨V,0,ac⟩)]) EK g a2 F F (by simp[lA]) (by intro r j;simp at j;subst j;rfl) λbD d0 ai c3=>?_;have c4:bQ bD ch (lA (ad (J ⟨V,0,ac⟩)) cy W m.L) 138:=c3;have c5:dc aT bD:= .af ai a2 g (lK ..);have c6:=bC.ab ai (be G);have bF:=((((aB.h C).ab k cr).ab ah (be G)).ab ai (be G));have bG:=(cz.a (.fQ ah ae a0 g (lK ..))).a (.fQ ai ae a2 g (lK ..));have c7:=(az.a c2).a c5;have c8:mL ag A ch cy ba (m.c0++[(dw z 0 o,o)]) (m.aE++[⟨m.l.z,m.l.R,m.l.M,m.L⟩]) W (bb++[(J ⟨p,0,ac⟩,J ⟨q,0,ac⟩,m.L)]):=by
  refine⟨aY,bS,h.fk,G,KI s.r λbH c9 a9=>k.block bH c9 λbI=>?_,cu,cw,(s.I.bp az).push ⟨(bv.h C).bp az,(bw.h C).bp az,F⟩⟩;have d2:=(t.D bH bI.symm).1;obtain⟨_,d3,bJ⟩:=t.de bI.symm;rcases a9 with rfl|⟨_,⟨cA,am⟩|⟨cA,am⟩⟩
  ·omega
  ·rw[bJ]at am;cases am
  ·rw[bJ]at am;cases am
 have cC:=(c8.ak ah a0 (lK ..) g h.fk).ak ai a2 (lK ..) g h.fk;rw[aF h8 c6.H.b F];apply Fg.o;rintro r cF ⟨L,rfl⟩;have d4:=bG.Y;refine zV (bF.h L) λd5 bK d6=>⟨(bG.a (ea.R L)).ab bK G,?_,i,x,N,by rw[aG],λ_=>⟨a3,a4,cm,by rw[aG];exact cn⟩⟩;rw[aG];exact hI.ak (w:=cF) ⟨J ⟨V,0,ac⟩,W,_,c4.h L,((b4.h b6).bp c7).h L,cC.h L⟩ bK (bF.h L) (ur ..) g ⟨G,G⟩
end
variable{v:Z}{S:List Z}
def GO{x:bq}{T:cv}{w:aa}(c:v.cells=S.toArray)(d:∀a b,a=w.heap.size->b.heap.size=a+1->O w b->bQ b a S T->K (ad (J ⟨a,0,ac⟩)) b):qb x T v w K:=by
 have:=d w.heap.size (w.alloc (eW S.toArray T)) F ae (O.fl w _) (mE w _);have e:(AW T v).run x w= .ok (ad (J ⟨w.heap.size,0,ac⟩)) (w.alloc (eW S.toArray T)):=by simp[AW,newVar,newRow,c]
 unfold qb bM;rw[e];exact this
def Gv(x:Option hr):∀a∈ [ad x],a.oneCell' =true:=λa b=>by simp at b;subst b;rfl
section
variable{w:aa} {A ch cy:Nat} {us:bK} {Hh:Int}
def agr{e c:Option hr}{d s:aH}{am an ap N E:Int}{H K:bK}{x:of}{i:ik}(aq:bQ w ch (lA (ad e) cy us Hh) 138)(a8:e2 w (ad e) d)(bw:e2 w (ad c) s)(a9:bL d)(L:bL s)(bx:wM w x i)(ar:DV s.z i)(b0:fV w):
 ak Y 79 [ad (J ⟨ch,0,ac⟩),al (gd (ad c) am an ap N E H K).toArray,al (ne x).toArray] w λz aA=>O w aA/\∃(aB:Option hr) (m A B:Nat),
  z=a1 #[al (gd (ad aB) m A m B E H K).toArray,I X 0]/\e2 aA (ad aB) {s with R:=i.R,M:=i.M}/\oU d {s with R:=i.R,M:=i.M} 0 d.z s.z m A B:=by
 obtain⟨k,n,aC⟩:=x;obtain⟨b1,b2,cz⟩:=bx;have aD:=ar.SC;have aG:bL {s with R:=i.R,M:=i.M}:=⟨L.z,L.aZ,ar.R,ar.M,L.aE,L.a7⟩;apply aad;refine GO (S:=gd (ad c) am an ap N E H K) F λj c0 c1 c2 b3 b4=>?_;refine bd (S:=ne (k,n,aC)) F λaI c3 c4 c5 aJ aK=>?_;refine lb it λb5 b6 c6 c7 P b7=>?_;have b8:bQ b6 b5 hS 184:=b7;have av:=(b3.a aJ).a P;have aL:=(b4.h aJ).h P;rw[M Bj nG (aL.H.b.f 0 F)];refine(q9 bw av).o ?_;rintro z c8 ⟨aN,c9,rfl,_,aO⟩;have bA:=aO.B.2;obtain⟨cB,bB,aP,aR,rfl,aw,aS,aT,cC,cD⟩:=aO;obtain⟨v,rfl⟩:=uw aw;refine cj (cS:=[ad v,bB,aP,I X s.aE,I X s.a7]) sE tQ g F F bA λt o cE cF bC bD=>?_;have C:=aN.a bC;have bF:=av.a C;have cG:=av.size;have cH:=C.size;have cJ:=aN.size;have cK:=((aK.h P).h C).b;have bG:J aI≠J t:=be G;refine bE.y (λa=>o.grownBy a (J t)) (jz _ _) ?_;have u:=jz o (J t);have aV:∀{a:aa},o.grownBy a (J t)->cA a aI 0 (ne (k,n,aC)):=λb=>(((aK.h P).h C).ab b bG).b;rw[bh (λa b f=>aj Pm) u,bh (λa b f=>aj adq) u,bh (λa (b:o.grownBy a _) f=>aM (v:=ad k) pL ((aV b).f 0 F)) u,
  bh (λa b f=>aj Pm) u,bh (λa b f=>aj adp) u,bh (λa (b:o.grownBy a _) f=>aM (v:=ad n) oP ((aV b).f 1 F)) u,
  bh (λa b f=>aj pQ) u]
 have bH:O o o.drew:=(O.p o).C;refine aZ (cS:=[ad k]) JE g (bD.h bH) F F ae (Gv k) λaW cM bI bJ=>?_;have D:o.grownBy aW (J t):=eN u bI;have bM:ag aW t [ad v,ad k,aP,I X s.aE,I X s.a7]:=bJ;refine⟨D,?_⟩;rw[bh (λa b f=>aj mV) D];refine aZ (cS:=[ad n]) EJ g bM F F ae (Gv n) λh cN az bN=>?_;have bO:ag h t [ad v,ad k,ad n,I X s.aE,I X s.a7]:=bN;have cP:=D.size;have l:O w h:=(bF.ab D λS p=>by cases p;omega).ab az λS p=>by cases p;omega
 have bP:=((aL.h C).ab D (be G)).ab az (be G);have bR:=((b8.h C).ab D (be G)).ab az (be G);have cQ:=(aq.h l).H.b;have bS:hb h [ad v,ad k,ad n,I X s.aE,I X s.a7] {s with R:=i.R,M:=i.M}:=by
  have aY:({s with R:=i.R,M:=i.M}:aH).z=s.z:=rfl;refine⟨_,_,_,aR,F,aw.h l,aS,aT,?_,?_⟩
  ·rw[aY,<-aD];exact b1.h l
  ·rw[aY,<-aD];exact b2.h l
 refine bE.y (λa=>h.grownBy a (J j)) (jz _ _) ?_;have y:=jz h (J j);have ba:O h h.drew:=(O.p h).C;have bb:∀{a:aa},h.grownBy a (J j)->a.cell? ⟨ch,0,ac⟩=J (ad e):=λb=>((aq.h l).ab b (be (by have:=aq.D;omega))).H.b.f 0 F;have bc:∀{a:aa},h.grownBy a (J j)->cA a t 0 [ad v,ad k,ad n,I X s.aE,I X s.a7]:=λb=>(bO.ab b (be G)).b;rw[bn,bh (λa b f=>aj sB) y,bh (λa (b:h.grownBy a _) f=>aM nG (bb b)) y,bh (v:=al #[ad v,ad k,ad n,I X s.aE,I X s.a7]) (λa (b:h.grownBy a _) f=>aF ka (bc b) F) y,
  bn,bh (λa b f=>aj sB) y,bh (λa (b:h.grownBy a _) f=>aM nG (bb b)) y,
  bh (λa b f=>aj mW) y,bh (λa (b:h.grownBy a _) f=>aM (v:=ad v) gl ((bc b).f 0 F)) y]
 refine(q9 a8 (l.a ba)).o ?_;rintro z bT ⟨bU,cR,rfl,_,bV⟩;obtain⟨cS,cU,cV,bW,rfl,bg,bX,bY,cW,cY⟩:=bV;obtain⟨cZ,rfl⟩:=uw bg;have a0:=ba.a bU;have bi:h.grownBy bT (J j):=eb a0 _;refine⟨bi,?_⟩;rw[bh (λa b f=>i0 Eh gl F) bi];refine(kK (bg.h (l.a a0)) bX).o ?_;rintro z bZ ⟨ca,rfl⟩;have a2:=a0.a ca;have bj:h.grownBy bZ (J j):=eb a2 _;refine⟨bj,?_⟩;have cb:(bW.flatten.length:Int)=((d.z:Nat):Int):=by rw[bY];rfl
 have cd:(aR.flatten.length:Int)=((s.z:Nat):Int):=by rw[aT];rfl
 rw[cb,bh (λa b f=>bz (S:=ah (((0:Nat):Int),(d.z:Int))) (iR:=[(1,[I X d.z])]) dg jO F F) bj];refine(kK (aw.h (l.a a2)) aS).o ?_;rintro z cf ⟨cg,rfl⟩;have U:=a2.a cg;have bk:h.grownBy cf (J j):=eb U _;refine⟨bk,?_⟩;rw[cd,bh (λa b f=>bz (S:=ah (((0:Nat):Int),(s.z:Int))) (iR:=[(1,[I X s.z])]) dg jO F F) bk];have bl:=l.a U;refine(V9 (a:=0) (b:=d.z) (c:=s.z) (a8.h bl) (bS.h U) a9 aG (b0.h bl) (T_ d _ a9 aG)).o ?_;rintro z ci ⟨ck,dd,m,A,B,rfl,bm,cm⟩;obtain⟨a3,_,_,rfl,_⟩:=id bm;have V:=U.a ck;have a4:h.grownBy ci (J j):=eb V _;have bo:=l.a V;refine⟨a4,?_⟩;have cn:∀{a:aa} {f:aU} {x q r:Z},e7 (a1 #[x,q,r]) 0 a f=f x a:=λ{a f x q r}=>F;have co:∀{a:aa} {f:aU} {x q r:Z},e7 (a1 #[x,q,r]) 1 a f=f q a:=λ{a f x q r}=>F;have gv:∀{a:aa} {f:aU} {x q r:Z},e7 (a1 #[x,q,r]) 2 a f=f r a:=λ{a f x q r}=>F;rw[cn,co,gv,bh (λa b f=>aj Bj) a4];have br:=bP.h V;have de:=bo.size;refine gh (cS:=[ad (J ⟨a3,0,ac⟩)]) EK g br F F (by simp[gd]) (Gv _) λbs dh W cp=>?_;have bu:bQ bs j (gd (ad (J ⟨a3,0,ac⟩)) am an ap N E H K) 184:=cp;have a5:h.grownBy bs (J j):=eN a4 W;refine⟨a5,?_⟩;rw[bh (λa b f=>aj Pw) a5];refine gh (cS:=hL m A m B) rA g bu F F (by simp[gd,hL]) (rN _ _ _ _) λbv di ai cq=>?_;have cr:bQ bv j (gd (ad (J ⟨a3,0,ac⟩)) m A m B E H K) 184:=cq;refine⟨eN a5 ai,?_⟩;have cs:O w bv:=(bo.ab W λS p=>by cases p;omega).ab ai λS p=>by cases p;omega
 have ct:=(bm.bp (.af W br g (CF ..))).bp (.af ai bu g (CF ..));have cu:=((bR.h V).ab W (be G)).ab ai (be G);rw[aF h8 cr.H.b F];refine i1 is h8 g cu g ki F F (ov F _ _ _ _ _ _ _) λdj dk cw cx dl=>?_;exact⟨cs.ab cw λS p=>by cases p;omega,_,m,A,B,F,ct.bp cx,cm⟩
end
def aju{x:Z->Bool}{b bD:Nat}{w:aa}(h:h0 x b w v):h0 x b w (dp v b 0 bD (cC v)):=by
 intro o p q r c a;cases v with
 |slice e i j=>
  cases e with
  |none=>simp[dp]at a
  |some e=>
   obtain⟨f,k,g⟩:=e;have:=h f k g i j F;obtain⟨rfl,l⟩:=this;unfold dp at a;simp only [cC,Nat.zero_mul,Nat.sub_zero]at a;have n:(⟨f,0,g⟩:hr).add 0=⟨f,0,g⟩:=by unfold Addr.add;split<;>simp_all
   split at a<;>simp[n]at a<;>(obtain⟨⟨rfl,rfl,rfl⟩,rfl,rfl⟩:=a;exact⟨F,l⟩)
 |_=>simp[dp]at a
section
variable{dm w:aa} {A ch cy c d:Nat} {m:cD}
def agJ(bV:hI w A ch cy m)(t:il c d m)(bw:c<=1300)(hd:d<=50)(bx:fV dm)(bW:hJ dm)(bX:O dm w)(bY:dm.heap.size<=ch/\dm.heap.size<=cy):
 ak Y 37 [ad (J ⟨ch,0,ac⟩)] w λC bz=>nD A ch cy w bz/\hI bz A ch cy m.ar.1/\∃n D N:Nat,C=lL m.ar.2 0 n D n N/\(m.ar.2=0->∃aH aJ c,oU m.l m.ar.1.l aH aJ c n D N):=by
 have cY:=t.z;have b0:=t.ia;obtain⟨aM,bZ,ca,b1,cb,j⟩:=bV;have aP:=j.be;have ce:=j.a6;have cZ:=j.ao;apply aae;refine lb rB λcf cg da db q ci=>?_;have ck:bQ cg cf x_ 63:=ci;have dd:=q.size;rw[bn,M Jd I3 ((b1.h q).H.b.f 1 F)];refine(H.akb (j.r.h q) G G G (t.bn.cE bw)).o ?_;rintro C b3 ⟨W,ah,b4,de,dg,rfl,b6,cm⟩;have b7:nD A ch cy w b3:=(ea.R q).a (.cB W ah ae ae);have b8:=(cb.h q).bp (.b5 ah);have a3:=Hg (b1.h q) W j.fk g;have aR:=Hg ck W G g;have dh:=ah.1;rw[aN,aO,bs,bu];rcases cm with⟨cn,rfl,rfl,aT⟩|⟨aU,di,am,rfl,rfl,aT⟩
 ·refine⟨λ_=>?_,λb=>aL b g⟩;have K:m.ar=(m,6):=by unfold cD.ar;rw[cn];rfl
  refine Ur g aR λaV bA dj=>⟨b7.ab bA G,?_,0,0,0,by rw[K];rfl,λb=>aL b (by rw[K];exact(show¬(6:Int)=0 by decide))⟩;rw[K];exact hI.ak (w:=b3) ⟨aM,bZ,ca,a3,b8,(j.h q).cj W ah aT⟩ bA aR (ur ..) g ⟨G,G⟩
 refine⟨λb=>aL F b,λ_=>?_⟩;have aW:=t.bn;have a4:=aW.bl;obtain⟨u,e,a5⟩:∃u e,m.aE=u++[e]:=by
  rcases Iu m.aE with b|⟨u,e,b⟩
  ·rw[am,b]at a4;simp at a4
  ·exact⟨u,e,by rw[b,It]⟩
 rw[am,a5]at aW;obtain⟨a,rfl,bB,co,_⟩:=aW.bu;obtain⟨nd,dk⟩:=bB.nd;have aY:m.ar=(⟨hn m.l a e m.L,m.ad++[(dw m.l.Q 0 a,a)],aU,u,m.L⟩,0):=by unfold cD.ar;rw[am,a5];simp
 have r:=(j.h q).cj W ah aT;have ap:=r.I;rw[a5]at ap;obtain⟨h,o,rfl,ap,bC⟩:=ap.bu;have dl:h.length<=100:=by have:=ap.1;rw[am,a5]at a4;rw[am]at b0;simp at a4 b0;omega
 obtain⟨dn,dp,cq,cs⟩:=(r.Q.aI tY).m (i:=h.length) (x:=o) ae;have cu:(((h++[o]).length:Nat):Int)-1=((h.length:Nat):Int):=ae;rw[bn,M w2 D9 (a3.H.b.f 2 F),aS Bb (r.Q.aI tY),cd,cu,
  bn,M w2 D9 (a3.H.b.f 2 F),cr (i:=h.length) (x:=o) Bb Bn g (r.Q.aI tY) ae F,cq,aF OY cs F]
 refine cj (cS:=ne o) EU Bn g F F (tY.B o) λdq aV dr ds f cw=>?_;have aq:=a3.h f;rw[bn,M w2 D9 (aq.H.b.f 2 F),oA (bD:=h.length) Bb Bn g ((r.Q.h f).aI tY) F ae,bn,aj w2];have a7:=(r.Q.h f).ag tY (aw:=0) (bD:=h.length) G ae;have bF:=aju (bD:=h.length) (r.y.h f);rw[tq,h6]at a7;obtain⟨v,cx⟩:=a7.ay;rw[cx]at a7 bF⊢;refine gh (cS:=[ay v]) JD g aq F F (by simp[lA]) (by intro C K;simp at K;subst K;rfl) λP dt S cz=>?_;have a8:bQ P ch (lA (ad aM) cy v m.L) 138:=cz;have bH:dc aV P:= .af S aq g (lK ..);have bI:=(b8.h f).bp bH;have bJ:=r.h f;have c0:mL P A ch cy (m.ad++[(dw m.l.Q 0 a,a)]) aU u v h:=by have c1:mL aV A ch cy (m.ad++[(dw m.l.Q 0 a,a)]) aU u v h:=⟨aP,ce,j.fk,bJ.ao,bJ.r,a7,bF,ap.bp (.R f)⟩;exact c1.ak S aq (lK ..) g j.fk
 have aZ:nD A ch cy w P:=(b7.a (ea.R f)).a (.fQ S ae aq g (lK ..));have ba:=aZ.ke bX bY aP;have du:=aZ.Y;have c2:=cw.ab S (be G);have c3:=(aR.h f).ab S (be G);have c4:=(bC.bp (.R f)).bp bH;have c5:aC P b4 3 cp a:=((b6.h f).ab S (fC (b6.h f) aP)).aI jR;rw[bn,M sB nG (a8.H.b.f 0 F)];refine(Ln bI t.l (bx.h ba) (bW.h ba) c5 nd.bt (λ_=>⟨nd,G⟩)).o ?_;rintro C dx ⟨bK,⟨c6,_⟩|⟨_,dy,n,D,N,aH,aJ,c7,a9,aA,rfl,bb,_,_,_,c8,_,_⟩⟩
 ·exact aL (bB.gu bw) c6
 obtain⟨bL,_,_,rfl,_⟩:=id bb;rw[aN,aO];refine nX (cS:=gd (ad (J ⟨bL,0,ac⟩)) n D n N 0 a9 aA) it is g F F (ov F _ _ _ _ _ _ _) λbM az dz d0 bc c9=>?_;have cA:bQ az bM (gd (ad (J ⟨bL,0,ac⟩)) n D n N 0 a9 aA) 184:=c9;have aB:=bK.a bc;have d2:=aB.size;have d3:=bK.size;have cC:=a8.h aB;have bN:=c2.h aB;have cF:=xt t.l nd G;refine bG.y (λa0 k=>a0=[I X 0]/\∃(x:Option hr) (p z B bg bi bj:Nat),bQ k bM (gd (ad x) p z p B 0 a9 aA) 184/\e2 k (ad x) (hn m.l a e m.L)/\oU m.l (hn m.l a e m.L) bg bi bj p z B/\O P k) ?_ ?_
 ·refine bG.y (λa0 k=>a0=[ax (decide (e.L=m.L))]/\O az k) ?_ ?_
  ·apply bE.h;have a2:O az az.drew:=(O.p az).C;rw[aK (v:=ax af) (λk b cG=>by rw[bm];rfl) a2,hV,b2 ado E (bN.b.f 2 (show(ne o)[2]? =J (I X o.2.2)from F)) a2,
    bn,b2 Et E (cC.H.b.f 3 (show(lA (ad aM) cy v m.L)[3]? =J (I X m.L)from F)) a2,aK (λk b cG=>bm ..) a2,bC.2.2]
   exact⟨by trivial,a2⟩
  rintro a0 L k ⟨rfl,i⟩;simp only [av];have bk:=bQ.h cA i;have U:=aB.a i;rw[ai];refine⟨λbo=>?_,λbo=>?_⟩
  ·have br:hn m.l a e m.L={m.l.X a with R:=e.R,M:=e.M}:=by unfold hn;rw[au bo]
   rw[aF h8 bk.H.b F,aF OY (bN.h i).b F];refine(agr (a8.h U) (bI.h U) (bb.h (bc.a i)) t.l cF (c4.bp (.R U)) co (bx.h (ba.a U))).o ?_;rintro C d4 ⟨bO,bP,p,z,B,rfl,cH,cJ⟩;rw[aN,aO];have bR:=bk.h bO;refine gh (cS:=gd (ad bP) p z p B 0 a9 aA) is g bR F F (by simp[gd]) (ov F _ _ _ _ _ _ _) λaD cK s bv=>?_;rw[br];exact⟨by trivial,bP,p,z,B,_,_,_,bv,cH.bp (.af s bR g (CF ..)),cJ,(U.a bO).ab s λd5 cM=>by cases cM;omega⟩
  ·have br:hn m.l a e m.L=m.l.X a:=by unfold hn;rw[an bo]
   rw[br];exact⟨by trivial,_,n,D,N,aH,aJ,c7,bk,bb.h (bc.a i),c8,U⟩
 rintro a0 L k ⟨rfl,x,p,z,B,bg,bi,bj,bS,cN,cP,i⟩;simp only [av];rw[bs,bu];refine⟨λb=>aL F b,λ_=>?_⟩;have aG:=a8.h i;have d6:=i.size;rw[M Bj nG (bS.H.b.f 0 F),bn,aj sB];refine gh (cS:=[ad x]) EK g aG F F (by simp[lA]) (Gv x) λaD cK s cQ=>?_;have cR:bQ aD ch (lA (ad x) cy v m.L) 138:=cQ;have cS:dc k aD:= .af s aG g (lK ..);have cU:nD A ch cy w aD:=(aZ.a (ea.R i)).a (.fQ s ae aG g (lK ..));have bv:=bS.ab s (be G);have bT:=(c3.h i).ab s (be G);have cV:=(c0.h i).ak s aG (lK ..) g j.fk;rw[aF h8 bv.H.b F];apply Fg.o;rintro C cW ⟨V,rfl⟩;refine zV (bT.h V) λd7 bU d8=>⟨(cU.a (ea.R V)).ab bU G,?_,p,z,B,by rw[aY],λ_=>⟨bg,bi,bj,by rw[aY];exact cP⟩⟩;rw[aY];exact hI.ak (w:=cW) ⟨x,v,h,cR.h V,(cN.bp cS).h V,cV.h V⟩ bU (bT.h V) (ur ..) g ⟨G,G⟩
def Ry{bZ:bK}{y:gE}{r:bK}(L:hI w A ch cy m)(t:il c d m)(ah:c+jh y.N<=1300)(hd:d<=50)(u:fV dm)(v:hJ dm)(aj:O dm w)(P:dm.heap.size<=ch/\dm.heap.size<=cy)(am:pD w y e r bZ):
 ak Y 15 [ad (J ⟨ch,0,ac⟩),al (ep y.I y.V y.aW e r bZ).toArray] w λb h=>nD A ch cy w h/\hI h A ch cy (m.cU y).1/\yC b m y:=by
 have a0:ch<A/\cy<A/\A<=w.heap.size:=by obtain⟨_,_,_,_,_,a⟩:=L;exact⟨a.be,a.a6,a.ao⟩
 apply aab;refine bd (S:=ep y.I y.V y.aW e r bZ) F λa3 a4 a5 a7 Q ap=>?_;refine lb rB λx R a8 a9 S aq=>?_;have aw:bQ R x x_ 63:=aq;have n:=Q.a S;have aA:=Q.size;have U:=(ap.h S).b;have V:=U.f 0 (show(ep y.I y.V y.aW e r bZ)[0]? =J (I X y.I)from F);have z:=L.h n;have o:=aj.a n;have bj:∀{b:Z} {i:aa},nD A ch cy R i->hI i A ch cy (m.cU y).1->yC b m y->c4 Y 63 (ad (J ⟨x,0,ac⟩)) b i λl=>bU Y 63 (ad (J ⟨x,0,ac⟩)) l λay h=>h=l/\(nD A ch cy w l/\hI l A ch cy (m.cU y).1/\yC ay m y):=by intro b i f j r;obtain⟨p,q,N,rfl,W⟩:=id r;have ae:=f.ak aw g (by simp;omega);exact zV (K:=λb h=>nD A ch cy w h/\hI h A ch cy (m.cU y).1/\yC b m y) ae λl ag aC=>⟨((ea.R n).a f).ab ag G,j.ak ag ae (ur ..) g ⟨G,G⟩,r⟩
 rw[fZ D];show b6 (ax ao) _ _;rw[cw,M wX E V,bm,ai];refine⟨λs=>?_,λs=>?_⟩
 ·refine(agP z t G hd u v o P).o ?_;rintro b i ⟨f,j,p,q,N,rfl,B⟩;have k:m.cU y=(m.av.1,m.av.2,0):=by unfold cD.cU;rw[au s]
  exact bj f (by rw[k];exact j) ⟨p,q,N,by rw[k],λa=>by rw[k]at a⊢;obtain⟨C,H,c,a⟩:=B a;exact⟨C,H,c,a,λaz=>G⟩⟩
 rw[M wX E V,bm,ai];refine⟨λK=>?_,λK=>?_⟩
 ·refine(agJ z t G hd u v o P).o ?_;rintro b i ⟨f,j,p,q,N,rfl,B⟩;have k:m.cU y=(m.ar.1,m.ar.2,0):=by unfold cD.cU;rw[an s,au K]
  exact bj f (by rw[k];exact j) ⟨p,q,N,by rw[k],λa=>by rw[k]at a⊢;obtain⟨C,H,c,a⟩:=B a;exact⟨C,H,c,a,λaz=>G⟩⟩
 ·rw[aF mR U F];refine(agO z t hd (u.h o) (v.h o) (am.h n) ah s K).o ?_;rintro b i ⟨f,j,W⟩;exact bj f j W
def cD.fl(a:List UInt8)(bS:Int):cD:=⟨⟨bY a,[],[],4,bS⟩,[],[],[],0⟩
variable{s:List UInt8}
def F7{bS:Int}(b:s.length<=60)(a:0<=bS/\bS<=200):il 60 0 (cD.fl s bS):=by
 have e:=nr s;refine⟨⟨?_,wb s,⟨by simp[cD.fl],by simp[cD.fl],by simp[cD.fl],by simp[cD.fl],by simp[cD.fl]⟩,⟨by simp[cD.fl],by simp[cD.fl],by simp[cD.fl],by simp[cD.fl]⟩,⟨by show(1:Int)<=4;decide,by show(4:Int)<=16;decide⟩,a⟩,?_,.nil _,.nil _,a6 _,gw _,gw _⟩
 ·show(bY s).length<=_;omega
 ·show(bY s).length<=_;omega
def RF{bS:Int}(L:fV w)(y:hJ w)(M:s.length<=60)(P:0<=bS/\bS<=200):
 ak Y 25 [co s,I X 4,I X bS] w λa z=>O w z/\∃A ch cy:Nat,a=a1 #[ad (J ⟨ch,0,ac⟩),I X 0]/\w.heap.size<=ch/\w.heap.size<=cy/\hI z A ch cy (cD.fl s bS):=by
 have Q:=(F7 M P).l;have aj:=nr s;apply aah;refine(akw y G).o ?_;rintro a am ⟨B,i,rfl,j,k⟩;have n:=Gq (bY s);rw[aN,aO,bs,bu];refine⟨λo=>aL F o,λ_=>?_⟩;refine(kK j k).o ?_;rintro a an ⟨e,rfl⟩;rw[n];refine(KM (l:=[]) (y.h (B.a e)) ⟨G,G⟩ (aC.nil ..) ae).o ?_;rintro a ap ⟨p,aq,rfl,_,f⟩;rw[aN,aO];refine(kK (j.h (e.a p)) k).o ?_;rintro a au ⟨q,rfl⟩;rw[n];refine(BL (l:=[]) ⟨G,G⟩ (aC.nil ..)).o ?_;rintro a S ⟨r,av,rfl,_,g⟩;have f:=f F;have g:=g F;obtain⟨t,_,rfl,_⟩:=id f;obtain⟨u,_,_,rfl,_⟩:=id g;rw[aN,aO,bz (S:=[ad (J ⟨i,0,ac⟩),ad (J ⟨t,0,ac⟩),ad (J ⟨u,0,ac⟩),I X 4,I X bS]) (iR:=[(0,[ad (J ⟨i,0,ac⟩)]),(1,[ad (J ⟨t,0,ac⟩)]),(2,[ad (J ⟨u,0,ac⟩)]),(3,[I X 4]),(4,[I X bS])]) sE adV F F];have v:=(((B.a e).a p).a q).a r;have V:hb S [ad (J ⟨i,0,ac⟩),ad (J ⟨t,0,ac⟩),ad (J ⟨u,0,ac⟩),I X 4,I X bS] (cD.fl s bS).l:=⟨_,_,_,no (bY s),F,j.h (((e.a p).a q).a r),k,n,f.h (q.a r),g⟩;refine(alL V Q (L.h v)).o ?_;rintro a b ⟨D,aw,rfl,E⟩;obtain⟨h,_,_,rfl,_⟩:=id E;rw[aN,aO,bs,bu];refine⟨λo=>aL F o,λ_=>?_⟩;refine(H.xL b).o ?_;rintro a ay ⟨rfl,K,az,W⟩;rw[bz (S:=lA (ad (J ⟨h,0,ac⟩)) b.heap.size (ac,0,0) 0) (iR:=[(0,[ad (J ⟨h,0,ac⟩)]),(1,[ad (J ⟨b.heap.size,0,ac⟩)])]) aer adJ F F];refine GO (S:=lA (ad (J ⟨h,0,ac⟩)) b.heap.size (ac,0,0) 0) F λch ab a0 a2 x ag=>?_;have ah:=(v.a D).size;exact⟨((v.a D).a K).a x,ab.heap.size,ch,b.heap.size,F,G,ah,J ⟨h,0,ac⟩,(ac,0,0),[],ag,(E.h K).h x,G,G,G,a6 _,H.ahC G (W.h x),ar.nil ..,h0.nil _ _ _,F,λa3 a4 a5 ai=>by cases ai⟩
def Kl(a:hI w A ch cy m):ak Y 29 [ad (J ⟨ch,0,ac⟩)] w λb e=>e=w/\e2 w b m.l:=by obtain⟨h,i,j,f,g,k⟩:=a;apply aac;rw[fZ D];show b6 (ax ao) _ _;rw[cw,bn,M sB nG (f.H.b.f 0 F)];exact⟨F,g⟩
end
def TC(e:List Int)(x:Nat×Nat):∀(f:List (List aP)) (b c:Nat) (d:dW),(gg e x f b)[c]? =J d->d.ba=decide (0<b+c)
 |[],b,c,d,a=>by simp[gg]at a
 |row::bc,b,0,d,a=>by unfold gg at a;simp only [List.getElem?_cons_zero,Option.some.injEq]at a;subst a;simp
 |row::bc,b,c+1,d,a=>by unfold gg at a;rw[List.getElem?_cons_succ]at a;rw[TC e x bc (b+1) c d a,show b+1+c=b+(c+1)from G]
def TX{v:aH}{x:Nat×Nat}(a:bL v)(c:x.1<=x.2)(d:x.2<=v.z):DY (v.B x):=by
 have k:=xG a c d;have e:=Ga (S:=c3 v.Q v.r v.R x) (Aj (ls:=jU (c3 v.Q v.r v.R x)) (n:=(c3 v.Q v.r v.R x).length) (Gb a)) (c3 v.Q v.r v.R x).length;have o:(a7 l8 v.aE (c3 v.Q v.r v.R x)).length<=16*(c3 v.Q v.r v.R x).length:=e;have q:=Lq a x;refine⟨λf=>?_,λr s g t=>?_,λh=>?_,G⟩
 ·obtain⟨u,b,_⟩:=RT (v:=v) (x:=x) 0;rw[f]at b;simp[gT,nQ,ft]at b
 ·rw[TC _ _ _ _ _ _ g,eK G]
 ·have i:=ck gB (Gd v x h);rw[b_]at i;have y:=mH (λj:aP=>j.2.1 !=5) (a7 l8 v.aE (c3 v.Q v.r v.R x));omega
def Cs{v:aH}{p:Nat}(a:p<=v.z):v.S=gn v.aW (v.O p).1++v.O p::q4 v.aW v.z (v.O p).2:=aik a
section
variable{w:aa} {p:Z} {v:aH} {x:Nat×Nat}
def Rg{e:Int}(P:e2 w p v)(l:bL v)(Q:fV w)(q:jL v x):ak Y 68 [p,al (gJ t s e c x.1).toArray] w λi r=>O w r/\∃a,i=a1 #[a,al #[I X e]]/\iX r w.heap.size a (v.B x):=by apply ZN;refine bd (S:=gJ t s e c x.1) F λap aq ar au y z=>?_;refine bo ET λav aw ay az m R=>?_;have j:=y.a m;refine(Mz P j l (Q.h j)).o ?_;rintro i a0 ⟨b,A,rfl,S,B,_⟩;obtain⟨a,C,D,U,rfl,V,a2⟩:=id B;refine cj (cS:=[a,C,D,U,I X v.aE,I X v.a7]) Bt EN g F F S λa3 a4 a5 a8 d H=>?_;rw[iL yU kZ (S:=[a,C,D]) (cA.cG H.b 3) F,M Po E ((((z.h m).h b).h d).b.f 4 (show(gJ t s e c x.1)[4]? =J (I X x.1)from F))];refine(Md (V.h d) l q).o ?_;rintro i a9 ⟨k,K,rfl,W⟩;rw[aN,aO];refine cj (cS:=c7 K) xh y0 g F F (zj K) λaA aB aC aD f ae=>?_;rw[aF wS ((H.h k).h f).b F,aF tF ae.b F];refine(Tp (B.h ((d.a k).a f)) l q (W.h f)).o ?_;rintro i n ⟨ag,ah,rfl,ai⟩;have o:=((d.a k).a f).a ag;have aj:=(j.a b).a o;rw[aN,aO];have h:O n n.drew:=(O.p n).C;have am:=((z.h m).h b).h o;apply bE.h;rw[b2 Ew E (am.b.f 2 (show(gJ t s e c x.1)[2]? =J (I X e)from F)) h,aK (v:=al #[I X e]) (λaG aH aI=>bz (S:=[I X e]) (iR:=[(0,[I X e])]) ET adI F F) h];have aL:=y.size;have aM:=(((b.a d).a k).a f).size;refine er JJ IX g (((R.h b).h o).h h) F F eY λaP aR L aS=>?_;exact⟨(aj.a h).ab L λaT an=>by cases an;omega,ah,F,((ai.h eV h).ab eV L G).o eV (by have:=j.size;omega)⟩
def agn{f:Int}{q:Int×Int}(C:-1000000000<=f/\f<=1000000000/\-1000000000<=q.1/\q.1<=1000000000):ak Y 70 [fq (.func 71) #[al #[I X f]] #[],al (eU q).toArray,I X 0] w λl m=>O w m/\l=a1 #[al (eU (q.1+f,q.2)).toArray,I X 0]:=by apply ZQ;refine bd (S:=eU q) F λD H K L i n=>?_;refine bo mX λP Q R S d o=>?_;rw[bs,bu];refine⟨λr=>aL F r,λ_=>?_⟩;rw[aF ju (n.h d).b F,kL];apply ZP;refine bd (S:=[I X f]) F λU V W ae e s=>?_;refine bd (S:=eU q) F λag ah ai aj a t=>?_;refine bo mX λam an ap aq b u=>?_;have j:=(t.h b).b;rw[M wY E (j.f 0 F),M Pl E (((s.h a).h b).b.f 0 F),aD,M Ej E (j.f 1 F),bz (S:=eU (q.1+f,q.2)) (iR:=[(0,[I X (q.1+f)]),(1,[I X q.2])]) mX yX F F];have y:=((i.a d).a (e.a a)).a b;have au:=i.size;have av:=d.size;have aw:=(e.a a).size;refine er pT ju g u F F (o1.B _) λay az k a0=>?_;have z:=(o.h ((e.a a).a b)).ab k (be G);refine er pT ju g z F F (o1.B _) λa2 a3 A a4=>?_;exact⟨(y.ab k λB h=>by cases h;omega).ab A λB h=>by cases h;omega,F⟩
end
def Ss{v:aH}(a:bL v){p:Nat}(b:p<=v.z):v.U p<=70000:=by have:=LW (v:=v) (A:=[]) (M:=gn v.aW (v.O p).1) (B:=v.O p::q4 v.aW v.z (v.O p).2) a (by rw[fc];exact Cs b);have f:v.U p=(bF v (gn v.aW (v.O p).1)).length:=rfl;omega
section
variable{dm w:aa} {p:Z} {v:aH}
def afZ{aJ:Int}(c:aJ=0\/aJ=1):ak Y 67 [I X aJ] w λa b=>b=w/\a=ax true:=by apply ZM;rw[bm,ai];refine⟨λ_=>⟨F,F⟩,λd=>?_⟩;rw[bm];exact⟨F,by rw[eK G]⟩
def agm{q:Nat}{aJ:Int}(k:e2 w p v)(b:bL v)(H:fV w)(d:q<=v.z)(l:aJ=0\/aJ=1):ak Y 32 [p,I X q,I X aJ] w λa K=>O w K/\a=a1 #[al (eU (v.aC q aJ)).toArray,I X 0]:=by
 have m:=k;obtain⟨ar,_,_,rfl,_⟩:=k;have c:=zA b d;obtain⟨n,o,au⟩:=uh v d;apply ZL;refine bo mX λaw ay az a0 r L=>?_;rw[fZ D];show b6 (ax ao) _ _;rw[cw];refine(wj (m.h r)).o ?_;rintro a a2 ⟨s,a3,rfl,M⟩;obtain⟨a4,a5,P,rfl,_,_,t⟩:=id M;have Q:∃R,P=ad R:=by obtain⟨a7,_,rfl,_⟩:=id t;exact⟨_,F⟩
 obtain⟨a8,rfl⟩:=Q;rw[i0 ve rv F];refine(Ku b t (Cs d) n o).o ?_;rintro a a9 ⟨u,cn,rfl⟩;rw[aN,aO];refine cj (cS:=gJ _ _ _ cn (v.O q).1) lZ lY g F F (ox _ _ _ _ _) λaA S aB aD x U=>?_;refine bG.y (λy z=>z=S/\y=[ax ao]) ?_ ?_
 ·rw[bs,bu];refine⟨λV=>aL F V,λ_=>?_⟩;refine(afZ l).o ?_;rintro a W ⟨rfl,rfl⟩;rw[dD];exact⟨F,F⟩
 rintro y e z ⟨rfl,rfl⟩;simp only [av];have f:=((r.a s).a u).a x;rw[cw,aF pK U.b F];refine(Rg (m.h f) b (H.h f) c).o ?_;rintro a W ⟨A,aE,rfl,ag⟩;rw[aN,aO];refine cj (cS:=[I X (bF v (gn v.aW (v.O q).1)).length]) ET JJ g F F eY λaG aH aI aK h ah=>?_;obtain⟨aM,B⟩:=Gl (v:=v) b.ae c.z c.fB 0 n o;have C:=TX b c.dU c.z;refine(ajU (ag.h eV h) C l G (λaP ai=>by rw[Lp ai];omega) B).o ?_;rintro a aR ⟨i,rfl⟩;rw[aN,aO];refine cj (cS:=eU (lM (gT (v.B (v.O q)) 0) q aJ)) mX pT g F F (o1.B _) λaS aT aU aV j aj=>?_;rw[aF IX ((ah.h i).h j).b F,jZ,aF ju aj.b F];have aY:=G2 c.bM (aJ:=aJ) B;have aZ:=Ss b d;have ba:=C.cc;have bb:((bF v (gn v.aW (v.O q).1)).length:Int)=(v.U q:Int):=rfl;refine(agn (f:=((bF v (gn v.aW (v.O q).1)).length:Int)) (q:=lM (gT (v.B (v.O q)) 0) q aJ) ⟨G,G,G,G⟩).o ?_;rintro a bd ⟨E,rfl⟩;rw[aN,aO];have am:=(((f.a A).a (h.a i)).a j).a E;have an:=(((s.a u).a x).a (A.a (h.a i))).a (j.a E);refine er pT ju g (L.h an) F F (o1.B _) λbe bg ap bh=>?_;exact⟨am.ab ap λbi aq=>by cases aq;omega,F⟩
def af8{f:Int}{q:Int×Int}(o:-1000000000<=f/\f<=1000000000/\-1000000000<=q.1/\q.1<=1000000000):ak Y 117 [al #[I X f],al (eU q).toArray] w λh i=>O w i/\h=al (eU (q.1-f,q.2)).toArray:=by apply ZO;refine bd (S:=[I X f]) F λr s t u d j=>?_;refine bd (S:=eU q) F λx y z A a k=>?_;refine bo mX λB C D H b l=>?_;have e:=(k.h b).b;rw[M wY E (e.f 0 F),M Pl E (((j.h a).h b).b.f 0 F),cd,M Ej E (e.f 1 F),bz (S:=eU (q.1-f,q.2)) (iR:=[(0,[I X (q.1-f)]),(1,[I X q.2])]) mX yX F F];have L:=(d.a a).size;refine er pT ju g l F F (o1.B _) λP Q m R=>?_;exact⟨((d.a a).a b).ab m λS n=>by cases n;omega,F⟩
def agh{x:f1}{q:Nat}(aj:e2 w p v)(s:bL v)(aB:fV w)(Q:q<=v.z)(R:x∈gT (v.B (v.O q)) 0):ak Y 59 [p,al (eU (x.1+v.U q,x.2.1)).toArray] w λa m=>O w m/\a=a1 #[I X x.2.2.2,I X 0]:=by
 have am:=aj;obtain⟨aC,_,_,rfl,_⟩:=aj;have L:=zA s Q;have an:=TX s L.dU L.z;have aY:=K9 R;have ba:=Ss s Q;have bb:=an.cc;have aD:(bF v (gn v.aW (v.O q).1)).length=v.U q:=rfl;obtain⟨t,aE⟩:∃t:Nat,x.1=t:=⟨x.1.toNat,G⟩;apply ZK;refine bd (S:=eU (x.1+v.U q,x.2.1)) F λbc u be bg aq ar=>?_;rw[fZ D];show b6 (ax ao) _ _;rw[cw];refine bG.y (λau b=>∃(j:Nat) (c d cn:Int),au=[ad (J ⟨j,0,ac⟩),I X 0]/\O u b/\ag b j (gJ c d (v.U q) cn (v.O q).1)) ?_ ?_
 ·apply bE.h;have o:O u u.drew:=(O.p u).C;have bh:=o.size;rw[b2 wY E (ar.b.f 0 F) o];have aw:∀{b:aa},O u b->ak Y 61 [ad (J ⟨aC,0,ac⟩)] b λa m=>O b m/\∃y j e,a=al #[y,j,ad e]/\ks m (ad e) v.ey:=λaG=>(wj (am.h (aq.a aG))).o λa m ⟨S,bi,U,aH⟩=>by obtain⟨bj,bk,bl,rfl,_,_,k⟩:=aH;obtain⟨j,_,rfl,_⟩:=id k;exact⟨S,_,_,_,U,k⟩
  have aI:x.1+(v.U q:Int)=((bF v (gn v.aW (v.O q).1)).length:Int)+t:=by rw[aE,aD];omega
  have V:∀{b:aa} {e:Option hr},ks b (ad e) v.ey->ak Y 115 [ad e,I X (x.1+(v.U q:Int))] b λa m=>O b m/\∃c d cn:Int,a=a1 #[al (gJ c d (v.U q) cn (v.O q).1).toArray,I X 0]:=λk=>by rw[aI];exact(RX s k (Cs Q) (k:=t) G).o λa m ⟨S,cn,U⟩=>⟨S,_,_,cn,U⟩
  refine⟨(aw o).o ?_,?_⟩
  ·rintro a aJ ⟨M,y,j,e,rfl,k⟩;have f:=o.a M;refine⟨f,?_⟩;rw[aK (v:=ad e) (λb l aM=>i0 (S:=[y,j,ad e]) ve rv F) f];refine⟨(V k).o ?_,?_⟩
   ·rintro a ay ⟨r,c,d,cn,rfl⟩;have h:=f.a r;have bm:=h.size;refine⟨h,?_⟩;rw[aN,aO];refine bo lZ λz az a0 a2 i A=>⟨h.a i,?_⟩;refine aZ (cS:=gJ c d (v.U q) cn (v.O q).1) lY g A F F ae (ox _ _ _ _ _) λW a3 B C=>?_;have n:=(h.a i).ab B λa4 H=>by cases H;omega
    exact⟨n,z,c,d,cn,F,n,C⟩
   ·refine bo lZ λz az a0 a2 i A=>⟨f.a i,?_⟩;refine(V (k.h i)).o ?_;rintro a ay ⟨r,c,d,cn,rfl⟩;have h:=(f.a i).a r;have bn:=f.size;refine⟨h,?_⟩;rw[aN,aO];refine aZ (cS:=gJ c d (v.U q) cn (v.O q).1) lY g (A.h r) F F ae (ox _ _ _ _ _) λW a3 B C=>?_;have n:=h.ab B λa4 H=>by cases H;omega
    exact⟨n,z,c,d,cn,F,n,C⟩
  ·refine bo lZ λz az a0 a2 i A=>⟨o.a i,?_⟩;refine(aw (o.a i)).o ?_;rintro a aJ ⟨M,y,j,e,rfl,k⟩;have f:=(o.a i).a M;refine⟨f,?_⟩;rw[aK (v:=ad e) (λb l aM=>i0 (S:=[y,j,ad e]) ve rv F) f];refine(V k).o ?_;rintro a ay ⟨r,c,d,cn,rfl⟩;have h:=f.a r;refine⟨h,?_⟩;rw[aN,aO];refine aZ (cS:=gJ c d (v.U q) cn (v.O q).1) lY g ((A.h M).h r) F F ae (ox _ _ _ _ _) λW a3 B C=>?_;have n:=h.ab B λa4 H=>by cases H;omega
   exact⟨n,z,c,d,cn,F,n,C⟩
 rintro au P b ⟨bp,c,d,cn,rfl,a5,aP⟩;simp only [av,bA];have ah:=aq.a a5;rw[bs,bu];refine⟨λl=>aL F l,λ_=>?_⟩;rw[aF pK aP.b F];refine(Rg (am.h ah) s (aB.h ah) L).o ?_;rintro a W ⟨a7,br,rfl,aR⟩;rw[aN,aO];refine cj (cS:=[I X (v.U q)]) ET JJ g F F eY λbv bw bx bz ai aS=>?_;rw[aF IX aS.b F,aF ju (((ar.h a5).h a7).h ai).b F];refine(af8 (f:=(v.U q:Int)) (q:=(x.1+(v.U q:Int),x.2.1)) ⟨G,G,by dsimp only;omega,by dsimp only;omega⟩).o ?_;rintro a b1 ⟨a8,rfl⟩
 dsimp only
 have aT:(x.1+(v.U q:Int)-v.U q,x.2.1)=k7 x:=by rw[show x.1+(v.U q:Int)-v.U q=x.1 from G]
 rw[aT];refine(ajS (aR.h eV (ai.a a8)) an R F λa9 aU aA=>?_).o ?_
 ·rcases Gn L.bM aU R with l|l|l
  ·exact l
  ·have K:hj (k7 a9) (k7 x):=l.1;rw[aA]at K;exact aL K hj.ck
  ·have K:hj (k7 x) (k7 a9):=l.1;rw[aA]at K;exact aL K hj.ck
 rintro a b3 ⟨aV,rfl⟩;rw[aN,aO];exact⟨((ah.a a7).a (ai.a a8)).a aV,F⟩
end
section
variable{w:aa} {A ch cy:Nat} {m:cD}
def Wd{fu:Int}{aJ:Int}{q:Nat}(o:hI w A ch cy m)(y:bL m.l)(p:fV w)(r:q<=m.l.z)(s:cu m.l.Q fu=((q:Int),0))(t:aJ=0\/aJ=1):
 ak Y 10 [ad (J ⟨ch,0,ac⟩),I X fu,I X aJ] w λa u=>O w u/\a=a1 #[al (eU (m.l.aC q aJ)).toArray,I X 0]:=by
 apply aeL;refine bo mX λL M P R c v=>?_;refine(Kl (o.h c)).o ?_;rintro S x ⟨rfl,f⟩;have h:=f;obtain⟨U,_,_,rfl,_⟩:=f;rw[fZ D];show b6 (ax ao) _ _;rw[cw];refine(q9 h (O.p x)).o ?_;rintro a V ⟨i,W,rfl,_,z⟩;obtain⟨ae,ag,ah,ai,rfl,j,B,C,aj,am⟩:=z;obtain⟨an,rfl⟩:=uw j;rw[i0 Eh gl F];refine(UU (C:=fu) (j.h i) B).o ?_;rintro a aq ⟨E,ar,au,k,rfl⟩;rw[C]at k;obtain⟨d,e⟩:=CH k;rw[s]at d e
 dsimp only at d e
 subst d;subst e;rw[aN,aO,bs,bu];refine⟨λG=>aL F G,λ_=>?_⟩;have b:=i.a E;refine(agm (h.h b) y (p.h (c.a b)) r t).o ?_;rintro a av ⟨n,rfl⟩;rw[aN,aO];refine er pT ju g ((v.h b).h n) F F (o1.B _) λaw ay H az=>?_;exact⟨((c.a b).a n).ab H λa0 K=>by cases K;omega,F⟩
def amF{q:Nat}{mk:f1}(i:hI w A ch cy m)(y:bL m.l)(j:fV w)(k:q<=m.l.z)(n:mk∈gT (m.l.B (m.l.O q)) 0)(o:0<=mk.2.2.2/\mk.2.2.2<=m.l.z):
 ak Y 26 [ad (J ⟨ch,0,ac⟩),al (eU (mk.1+m.l.U q,mk.2.1)).toArray] w λa p=>O w p/\a=a1 #[I X (a8 (m.l.Q.take mk.2.2.2.toNat)).length,I X 0]:=by
 apply aeK;refine bd (S:=eU (mk.1+m.l.U q,mk.2.1)) F λx z B C c r=>?_;refine(Kl (i.h c)).o ?_;rintro D E ⟨rfl,e⟩;rw[aF ju r.b F];refine(agh e y (j.h c) k n).o ?_;rintro a G ⟨d,rfl⟩;rw[aN,aO,bs,bu];refine⟨λb=>aL F b,λ_=>?_⟩;refine(q9 e d).o ?_;rintro a H ⟨f,K,rfl,_,s⟩;obtain⟨L,M,P,R,rfl,g,t,h,S,U⟩:=s;obtain⟨V,rfl⟩:=uw g;rw[i0 Eh gl F];refine(LJ (C:=mk.2.2.2) (g.h (d.a f)) t).o ?_;rintro a ab ⟨u,⟨b,_⟩|⟨_,rfl⟩⟩
 ·rw[h]at b;exact aL o b
 rw[aN,aO,h];exact⟨((c.a d).a f).a u,F⟩
def amE(c:hI w A ch cy m)(y:bL m.l):ak Y 27 [ad (J ⟨ch,0,ac⟩)] w λa d=>O w d/\a=I X m.l.eq.length:=by
 apply aeJ;refine(Kl c).o ?_;rintro o p ⟨rfl,e⟩;refine(wj e).o ?_;rintro a q ⟨f,r,rfl,g⟩;obtain⟨s,t,h,rfl,_,_,b⟩:=id g;have i:∃j,h=ad j:=by obtain⟨u,_,rfl,_⟩:=id b;exact⟨_,F⟩
 obtain⟨v,rfl⟩:=i;rw[i0 ve rv F];refine(BM b).o ?_;rintro a x ⟨k,rfl⟩;rw[i0 (v:=I X m.l.eq.length) Eg E (by rw[<-(x7 (v:=m.l) y).2.2];rfl)];exact⟨f.a k,F⟩
end
structure qB where
 aW:bK
 aj:bK
 hU:Int
 eH:bK
 iv:Int
 Li:Int
 l4:bK
 zh:Int
 L:Int
def jk(x:qB):List Value:=[ay x.aW,ay x.aj,I X x.hU,ay x.eH,I X x.iv,I X x.Li,ay x.l4,I X x.zh,I X x.L]
def nf:eR jk 9:=⟨λ_=>F,λb c a=>by simp[jk]at a;rcases a with rfl|rfl|rfl|rfl|rfl|rfl|rfl|rfl|rfl<;>rfl⟩
def p9:Z->Bool
 |aQ _ _ _=>af
 |I X _=>af
 |_=>ao
def Kp(x:qB):∀a∈jk x,p9 a=true:=λa b=>by simp[jk]at b;rcases b with rfl|rfl|rfl|rfl|rfl|rfl|rfl|rfl|rfl<;>rfl
def aj1(a:p9 x=af):xE x=true:=by
 unfold p9 at a;split at a
 ·rfl
 ·rfl
 ·cases a
abbrev A6(w:aa)(a:bK)(b:List aG):Prop:=aC w (ay a) 5 bC b
abbrev A5(w:aa)(a:bK)(b:List aB):Prop:=mP w (ay a) b
def uF{w aq:aa}{es:List a_}(a:aC w x 3 cp es)(b:dc w aq):aC aq x 3 cp es:=aC.bp a b (λc=>⟨0,_,F,F⟩) (λc=>⟨2,_,F,F⟩)
def mC{w aq:aa}{l:List aG}(a:aC w v 5 bC l)(b:dc w aq):aC aq v 5 bC l:=aC.bp a b (λc=>⟨0,_,F,F⟩) (λc=>⟨4,_,F,F⟩)
def oC{w aq:aa}{l:List Int}(a:aC w v 1 gI l)(b:dc w aq):aC aq v 1 gI l:=aC.bp a b (λc=>⟨0,_,F,F⟩) (λc=>⟨0,_,F,F⟩)
def wQ(w:aa)(x:qB)(b:lq×Option ik):Prop:=aC w (ay x.aW) 3 cp b.1.1/\aC w (ay x.aj) 3 cp b.1.2/\∀a,b.2=J a->x.hU=a.z/\x.iv=0/\A6 w x.eH a.R/\x.Li=a.z/\x.zh=0/\A5 w x.l4 a.M/\x.L=a.L
def wQ.bp{w aq:aa}{x:qB}{c:lq×Option ik}(b:wQ w x c)(a:dc w aq):wQ aq x c:=
 ⟨uF b.1 a,uF b.2.1 a,λd e=>by obtain⟨f,g,h,i,j,k,l⟩:=b.2.2 d e;exact⟨f,g,mC h a,i,j,k.bp a,l⟩⟩
def cD.au(m:cD):List (lq×Option ik):=m.ad.map (λb=>(b,ac))++(m.c0.zip m.aE).reverse.map λa=>(a.1,J a.2)
def fX(iy:bK)(a:Int)(R:bK)(b:Int)(M jq:bK)(c d e a7:Int):List Value:=[ay iy,I X a,ay R,I X 0,I X b,ay M,I X 0,ay jq,I X c,I X d,I X e,I X a7]
def gV(a:bK)(i:Int)(e:bK)(f:Int)(c g:bK)(h l m n:Int):kW (fX a i e f c g h l m n):=
 ⟨λj d=>by simp[fX]at d;rcases d with rfl|rfl|rfl|rfl|rfl|rfl|rfl|rfl|rfl|rfl|rfl|rfl<;>rfl,λa b=>by simp[fX]at b,λa l c k o b=>by simp[fX,Go.Lift.ay]at b,λn a l c b=>by simp[fX]at b,λn a l c p q r b=>by simp[fX]at b,λb=>by simp[fX]at b⟩
def ajx{b:List Z}{x:qB}{r:List Z}(g:∀c∈b,p9 c=af)(hd:9∣b.length)(h:b=jk x++r):kW b:=by
 refine⟨λc i=>aj1 (g c i),λd a=>?_,λd e f k l a=>?_,λj d e f a=>?_,λj d e f n o p a=>?_,λa=>?_⟩
 ·subst a;simp at hd
 ·subst h;simp[jk,Go.Lift.ay]at a
 ·rw[a]at hd;simp at hd
 ·rw[a]at hd;simp at hd
 ·omega
structure tA (w:aa) (A bO:Nat) (m:cD) (iy R M jq:bK) (e3:List qB):Prop where
 a7:bO<A
 ao:A<=w.heap.size
 ab:bQ w bO (fX iy m.l.z R m.l.z M jq m.ad.length m.L m.l.aE m.l.a7) 42
 Q:aC w (ay iy) 1 gI m.l.Q
 aF:A6 w R m.l.R
 aj:A5 w M m.l.M
 ai:ar w A 201 9 (ay jq) jk e3
 y:h0 p9 9 w (ay jq)
 V:fF (wQ w) e3 m.au
def gD(w:aa)(A bO:Nat)(m:cD):Prop:=∃iy R M jq e3,tA w A bO m iy R M jq e3
abbrev Oi:List Nat:=[201]
abbrev lU(A bO:Nat):aa->aa->Prop:=ea A [bO] Oi
section
variable{w aq:aa} {A bO:Nat} {m:cD} {iy R M jq:bK} {e3:List qB}
def tA.h(h:tA w A bO m iy R M jq e3)(e:O w aq):tA aq A bO m iy R M jq e3:=
 ⟨h.a7,eQ h.ao e.size,h.ab.h e,h.Q.h e,h.aF.h e,h.aj.h e,h.ai.h e,h.y.h e,h.V.o λ_ _ _ q=>q.bp (.R e)⟩
def gD.h(h:gD w A bO m)(e:O w aq):gD aq A bO m:=by obtain⟨iy,R,M,jq,e3,h⟩:=h;exact⟨iy,R,M,jq,e3,h.h e⟩
def gD.bS{l:Nat}{e h:List Nat}(a:gD w A bO m)(b:ea l e h w aq)(i:∀c∈e,c<A/\c≠bO)(f:∀j∈h,j≠42/\j≠201):gD aq A bO m:=by
 obtain⟨iy,R,M,jq,e3,a⟩:=a;have k:∀c∈e,(ay jq).ownBlock≠J c:=λc g n=>by have:=(a.ai.D c n).1;have:=(i c g).1;omega
 exact⟨iy,R,M,jq,e3,a.a7,eQ a.ao b.Y,b.ak a.ab (λd=>(f _ d).1 F) (λg=>(i _ g).2 F),oC a.Q b.bp,mC a.aF b.bp,a.aj.bp b.bp,b.row a.ai (λd=>(f _ d).2 F) k,b.cl a.ai a.y (λd=>(f _ d).2 F) k,a.V.o λ_ _ _ o=>o.bp b.bp⟩
end
def UP{w aq:aa}{A l:Nat}{c f:List Nat}{g:List dW}(n:iX w A v g)(h:ea l c f w aq)(o:∀a∈c,a<A)(i:∀b∈f,b≠114/\b≠206):iX aq A v g:=by
 obtain⟨p,j,q⟩:=n;have k:∀{α:Type} {b r:Nat} {v:Z} {V:α->List Z} {s:List α},ar w A b r v V s->∀a∈c,v.ownBlock≠J a:=λt a u x=>by have:=(t.D a x).1;have:=o a u;omega
 exact⟨p,h.row j (λd=>(i _ d).1 F) (k j),q.o λ_ _ _ e=>⟨e.1,h.row e.2 (λd=>(i _ d).2 F) (k e.2)⟩⟩
def xR{w:aa}{v:Z}{l:List Int}{a:Int}(e:aC w v 1 gI l)(f:l.length<=1000000):ak Y 18 [v,I X a] w λb c=>O w c/\b=a1 #[I X (cu l a).1,I X (cu l a).2]:=
 (agK e f).o λb c ⟨g,i,j,d,h⟩=>⟨g,by rw[h,(CH d).1,(CH d).2]⟩
def MI(c:bK):∀a∈ [ay c],a.oneCell' =true:=λa b=>by simp at b;subst b;rfl
def uD(a:bK):qA (ay a):=⟨F,F⟩
section
variable{w:aa} {A bO:Nat} {v:aH} {iy R M jq:bK} {ly t:Int} {es:List a_} {iS:Z}
structure qz (w:aa) (bO:Nat) (v:aH) (iy R M jq:bK) (ly t:Int):Prop where
 ab:bQ w bO (fX iy v.z R v.z M jq ly t v.aE v.a7) 42
 Q:aC w (ay iy) 1 gI v.Q
 aF:A6 w R v.R
 aj:A5 w M v.M
def qz.h{a:aa}(h:qz w bO v iy R M jq ly t)(e:O w a):qz a bO v iy R M jq ly t:=⟨h.ab.h e,h.Q.h e,h.aF.h e,h.aj.h e⟩
def K8(V:qz w bO v iy R M jq ly t)(e:bL v)(q:aC w iS 3 cp es)(b:rl v es)(W:(v.X es).z<=1300)(ab:gu v.z es=0):
 ak Y 85 [ad (J ⟨bO,0,ac⟩),iS] w λag r=>ea A [bO] [] w r/\∃a c d,qz r bO (v.X es) a c d jq ly t:=by
 have aA:=e.z;have aB:v.z=v.Q.length:=rfl;have kj:=b.kj e W;obtain⟨s,ah,ai,am⟩:=V;apply Zd;refine(RI (n:=v.z) q G (by have:=b.bg;omega) (λan ap=>b.aT.Q an ap) b.bt).o ?_;rintro ag aF ⟨f,aq⟩;rw[bn,Go.Lift.M oR iF ((s.h f).H.b.f 0 F)];refine(RA (ah.h f) G (q.h f) b.bt b.jD).o ?_;rintro aG ar ⟨u,⟨au,_⟩|⟨_,aH,rfl,x⟩⟩
 ·exact aL ab au
 obtain⟨a,rfl⟩:=x.ay;have h:=f.a u;have i:=s.h h;rw[aN,aO,bn,aj oR];refine gh (cS:=[ay a]) aej g i F F (by simp[fX]) (MI a) λz aJ m av=>?_;have B:bQ z bO (fX a v.z R v.z M jq ly t v.aE v.a7) 42:=av;have C:dc ar z:= .af m i g (gV ..);have D:=k_ (aq.h u) i g m;rw[bn,iL w1 pJ (S:=dq v.z (ay R) 0) (cA.cG (B.H.b.E 1) 3) F];refine(agx ⟨_,F,uD R,mC (ai.h h) C⟩ e.R (D.aI lz) kj).o ?_;rintro aK az ⟨j,a0,rfl,a2,E⟩;obtain⟨c,rfl⟩:=E.ay;have k:=B.h j;rw[bn,aj w1];refine gh (cS:=dq (v.X es).z (ay c) 0) qJ g k F F (by simp[fX,dq]) (jl F) λH aM n a3=>?_;have K:bQ H bO (fX a (v.X es).z c v.z M jq ly t v.aE v.a7) 42:=a3;have L:dc az H:= .af n k g (gV ..);have a4:=k_ (D.h j) k g n;have O:=(C.a (.R j)).a L;rw[bn,iL sA mg (S:=dq v.z (ay M) 0) (cA.cG (K.H.b.E 4) 3) F];refine(akr ⟨_,F,uD M,((am.h h).bp O).1⟩ e.M (a4.aI lz) kj).o ?_;rintro aP a5 ⟨l,a0,rfl,a2,P⟩;obtain⟨d,rfl⟩:=P.1.ay;have o:=K.h l;rw[bn,aj sA];refine gh (cS:=dq (v.X es).z (ay d) 0) oS g o F F (by simp[fX,dq]) (jl F) λS aR U a8=>?_;have a9:bQ S bO (fX a (v.X es).z c (v.X es).z d jq ly t v.aE v.a7) 42:=a8;have p:dc a5 S:= .af U o g (gV ..);refine⟨(((((ea.R h).a (.fQ m ae i g (gV ..))).a (.R j)).a (.fQ n ae k g (gV ..))).a (.R l)).a (.fQ U ae o g (gV ..)),a,c,d,a9,?_,?_,P.bp p⟩
 ·exact oC x ((O.a (.R l)).a p)
 ·exact mC E ((L.a (.R l)).a p)
def aiS(f:qz w bO v iy R M jq ly t)(S:bL v)(q:aC w iS 3 cp es):
 ak Y 82 [ad (J ⟨bO,0,ac⟩),iS] w λh H=>O w H/\(((if 64<es.length then(2:Int)else dy v.Q (k9 es))≠0/\∃a,h=a1 #[a,I X (if 64<es.length then(2:Int)else dy v.Q (k9 es))])\/
  ((es.length<=64/\dy v.Q (k9 es)=0)/\∃a,h=a1 #[a,I X 0]/\ar H w.heap.size 70 3 a cp (es.map (fa v.Q)))):=by
 have ay:=S.z;have az:v.z=v.Q.length:=rfl;apply Zg;rw[aS k5.m q,cb,ai];refine⟨λU=>⟨O.p w,.inl ?_⟩,λU=>?_⟩
 ·rw[au G];exact⟨g,_,F⟩
 rw[an G,aS k5.m q];refine ba.bJ (λr K s=>O w s/\∃(b:Nat) (u:Z),b+r=es.length/\K=[u,I X b]/\ar s w.heap.size 70 3 u cp ((es.take b).map (fa v.Q))/\dy v.Q (k9 (es.take b))=0)
  ⟨es.length,O.p _,0,_,G,F,ar.nil ..,F⟩ ?_
 rintro r K a0 s ⟨x,b,u,a2,rfl,i,j⟩;simp only [av,bA];rw[aR,ai];refine⟨λa3=>?_,λa4=>?_⟩
 ·obtain⟨a,k⟩:∃a,es[b]? =J a:=⟨_,aX G⟩;refine k5.dO (q.h x) k F λa5 y L a7 a8 z=>?_;have A:=x.a L;have l:O y y.drew:=(O.p y).C;apply bE.h;rw[bn,b2 oR iF ((f.ab.h A).H.b.f 0 F) l,b2 iq E (z.b.f 0 (show(cp a)[0]? =J (I X a.1)from F)) l];refine(xR (f.Q.h (A.a l)) G).o ?_;rintro h B ⟨V,rfl⟩;have d:=l.a V;refine⟨d,?_⟩;have m:=A.a d;rw[aN,aO,bs,bu];have P:∀{e:Int},dy v.Q [a.1,a.2.1]=e->e≠0->dy v.Q (k9 es)=e:=λn C=>by rw[Ub k j (by rw[n];exact C),n]
  refine⟨λc=>⟨m,.inl ?_⟩,λn=>?_⟩
  ·have:=P (by unfold dy;rw[au c]) c;rw[this];exact⟨c,_,F⟩
  have o:O B B.drew:=(O.p B).C;apply bE.h;rw[bn,b2 oR iF ((f.ab.h m).H.b.f 0 F) o,b2 ku E ((z.h d).b.f 1 (show(cp a)[1]? =J (I X a.2.1)from F)) o];refine(xR (f.Q.h (m.a o)) G).o ?_;rintro h a9 ⟨W,rfl⟩;have p:=o.a W;refine⟨p,?_⟩;have D:=m.a p;rw[aN,aO,bs,bu];refine⟨λc=>⟨D,.inl ?_⟩,λC=>?_⟩
  ·have:=P (e:=(cu v.Q a.2.1).2) (by unfold dy;rw[an G];unfold dy;rw[au c]) c;rw[this];exact⟨c,_,F⟩
  rw[Go.Lift.M mT ga (((z.h d).h p).b.f 2 (show(cp a)[2]? =J (co a.2.2)from F)),bz (S:=cp (fa v.Q a)) (iR:=[(0,[I X (cu v.Q a.1).1]),(1,[I X (cu v.Q a.2.1).1]),(2,[co a.2.2])]) kx Bl F F];have ag:=(L.a d).a p;have ah:=i.h ag;refine k5.push ah D.size (by rw[b_,bt];omega) g λaj aE am ap aF=>?_;rw[aD];refine⟨r-1,G,D.ab ap λaq aw=>(i.D aq aw).1,b+1,aj,G,ae,?_,Ua k j (by simp[n,C])⟩;rw[c9 k,dJ];exact am
 ·rw[d_ G]at i j;exact⟨x,.inr ⟨⟨G,j⟩,_,F,i⟩⟩
end
abbrev HA:qB:=⟨(ac,0,0),(ac,0,0),0,(ac,0,0),0,0,(ac,0,0),0,0⟩
def akZ{P:bq}{T e:cv}{w:aa}{α:Type}{h a:Nat}{V:α->List Z}(b:ew P T=J e)(i:cM P e≠ac)(j:aC w x h V [])(k:K (aQ ac 0 0) w):cz P fT [T,T] a [aQ ac 0 0,x] w K:=by
 obtain⟨s,l⟩:=Option.ne_none_iff_exists'.1 i;obtain⟨n,t,f,u,v,y,z⟩:=oF l;obtain⟨g,c,rfl,_⟩:=j;have p:(pw #[T,T] a #[aQ ac 0 0,aQ g 0 c]).run P w= .ok (aQ ac 0 0) w:=by
  cases g with
  |none=>simp[pw,eJ (hf b),j3,kO,f,tm,Builtin.firstCells,storeCells]
  |some bZ=>have q:=Ng (P:=P) w n.size 0 bZ 0 c [] ae ae;simp[pw,eJ (hf b),j3,kO,f,tm,storeCells,q]
 unfold cz bM;simp only [lk];rw[p];exact k
section
variable{w:aa} {A bO c d:Nat} {m:cD} {y:gE} {e r bZ:bK}
def alX(m:cD):m.au.take m.ad.length=m.ad.map λd=>(d,ac):=by unfold cD.au;rw[List.take_append_of_le_length ae,d_ ae]
def agd{e:List qB}{l:Nat}(h:aC w x 9 jk e)(q:e.length<=1000)(i:∀(b:bK) a,ar a w.heap.size 201 9 (ay b) jk e->h0 p9 9 a (ay b)->O w a->K (ay b) a):
 cz Y fT [40,40] l [aQ ac 0 0,x] w K:=by
 by_cases j:e=[]
 ·subst j;exact akZ sy (by rw[xf];simp) h (i (ac,0,0) w (ar.nil ..) (h0.nil _ _ _) (O.p w))
 ·refine L3 (q:=p9) (L:=[]) (A:=w.heap.size) sy sC g xf F nf (ar.nil ..) (a6 _) h (ym.2 j) (by have:e0=9223372036854775807:=rfl;simp;omega) (by rw[O1];simp;omega) (h0.nil _ _ _) g Kp λu a k f _ n=>?_;obtain⟨p,rfl⟩:=k.ay;exact i p a k n ((O.p w).ab f λv f=>by cases f)
def aiB(aP:gD w A bO m)(ok:il c d m)(hd:d<=50)(b1:pD w y e r bZ)(cm:c+jh y.N<=1300)(U:y.I=1):
 ak Y 39 [ad (J ⟨bO,0,ac⟩),al (ep y.I y.V y.aW e r bZ).toArray] w λu aR=>lU A bO w aR/\gD aR A bO (m.cU y).1/\u=I X (m.cU y).2.1:=by
 have b3:=ok.z;have cn:=ok.ia;have co:m.l.z=m.l.Q.length:=rfl;have aU:=aP;obtain⟨W,ah,M,b4,aV,f⟩:=aP;have a:qz w bO m.l W ah M b4 m.ad.length m.L:=⟨f.ab,f.Q,f.aF,f.aj⟩;have b5:=f.a7;have cp:=f.ao;have aY:∀{x:Int},ou m.l y.N=x->x≠0->m.cU y=(m,x,0):=λv b6=>by unfold cD.cU;rw[an G,an G,s3 U];dsimp only;rw[v,au b6]
 apply Ze;refine bd (S:=ep y.I y.V y.aW e r bZ) F λcq cr cs ct z b8=>?_;rw[Go.Lift.M Bd ru (b8.b.f 3 (show(ep y.I y.V y.aW e r bZ)[3]? =J (ay e)from F))];refine(aiS (a.h z) ok.l (b1.N.h z)).o ?_;rintro u cu ⟨a4,⟨n,x,rfl⟩|⟨⟨cw,bA⟩,x,rfl,bB⟩⟩
 ·rw[aN,aO,bs,bu];refine⟨λ_=>?_,λb=>aL b n⟩;rw[aY (x:=if 64<y.N.length then(2:Int)else dy m.l.Q (k9 y.N)) (by unfold ou;split;(·rfl);rename_i b;rw[an b]at n;rw[au n]) n];exact⟨.R (z.a a4),aU.h (z.a a4),F⟩
 have a5:=z.a a4;have aZ:ou m.l y.N=gu m.l.z (y.N.map (fa m.l.Q)):=by unfold ou;rw[an G,an (by rw[bA];decide)]
 rw[aN,aO,bs,bu];refine⟨λb=>aL F b,λ_=>?_⟩;have bC:jh (y.N.map (fa m.l.Q))=jh y.N:=J1 ..;have ba:nC (y.N.map (fa m.l.Q)):=λcx bD=>by have:=J0 bD;omega
 have bF:jD (y.N.map (fa m.l.Q))<=100000:=by have:=V5 (y.N.map (fa m.l.Q));omega
 have B:=bB.aI jR;obtain⟨C,rfl⟩:=B.ay;rw[bn,Go.Lift.M oR iF ((a.ab.h a5).H.b.f 0 F)];refine(RA (a.Q.h a5) G B ba bF).o ?_;rintro u bH ⟨am,bI⟩;have j:=a5.a am;rcases bI with⟨n,rfl⟩|⟨D,a8,rfl,_⟩
 ·rw[aN,aO,bs,bu];refine⟨λ_=>?_,λb=>aL b n⟩;have bJ:gu m.l.z (y.N.map (fa m.l.Q))≠0:=n;rw[aY aZ bJ];exact⟨.R j,aU.h j,F⟩
 have D:gu m.l.z (y.N.map (fa m.l.Q))=0:=D;have bK:m.cU y=(m.X (y.N.map (fa m.l.Q)),0,0):=by rw[wk G G (by rw[s3 U];dsimp only;rw[aZ,D]),au U,s3 U]
 rw[bK];obtain⟨nd,cy⟩:=(G8 (c:=c) ok.l b3 (Ds bC) G D).nd;rw[aN,aO,bs,bu];refine⟨λb=>aL F b,λ_=>?_⟩;refine bG.y (λbb s=>s=bH/\bb=[I X 0]) ?_ ?_
 ·rw[bn,Go.Lift.M qH E ((a.ab.h j).H.b.f 8 F),bm,du G];exact⟨F,F⟩
 rintro bb bc s ⟨rfl,rfl⟩;simp only [av];have bh:=a.ab.h j;have bL:=f.V.bl;have bi:m.ad.length<=aV.length:=by rw[bL];unfold cD.au;simp
 apply bE.h;have h:O s s.drew:=(O.p s).C;rw[bn,b2 yR Ba (bh.H.b.f 7 F) h,bn,b2 qH E (bh.H.b.f 8 F) h,
  aK (λcz b c0=>CY (ko:=0) (aw:=0) (bD:=m.ad.length) sy sC g (((f.ai.h j).h b).aI nf) F F G bi) h]
 have bj:=((f.ai.h (j.a h)).ag nf (aw:=0) (bD:=m.ad.length) G bi).aI nf;rw[h6]at bj;refine agd bj (by rw[bt];omega) λc2 c3 ap bN H=>?_;have aq:=j.a (h.a H);refine⟨h.a H,?_⟩;rw[bn,Go.Lift.M oR iF ((a.ab.h aq).H.b.f 0 F)];have bP:=B.h ((am.a h).a H);refine(agw (a.Q.h aq) G bP ba nd.aT nd.bg).o ?_;rintro u c4 ⟨bR,a9⟩;obtain⟨K,rfl⟩:=a9.ay;rw[bz (S:=jk {HA with aW:=K,aj:=C}) (iR:=[(0,[ay K]),(1,[ay C])]) xf adG F F];refine f0 (n:=1) (V:=jk) (L:=[{HA with aW:=K,aj:=C}]) (iR:=[(0,jk {HA with aW:=K,aj:=C})]) sy sC F xf g g nf F F λc7 c8 c9 bT aA cA=>?_;have t:=bR.a aA;have cB:=aq.size;have cC:=(j.a h).size;refine L3 (q:=p9) sy sC g xf F nf (ap.h t) (by have:=(H.a t).size;omega) (bT.aI nf) ae (by have:e0=9223372036854775807:=rfl;simp;omega) (by rw[O1];simp;omega) (bN.h t) g Kp λcE aB L aC _ bU=>?_;obtain⟨k,rfl⟩:=L.ay;have p:O w aB:=((aq.a t)).ab aC λi q=>by have:=(ap.D i q).1;omega
 have bo:O s aB:=((h.a H).a t).ab aC λi q=>by have:=(ap.D i q).1;have:=h.size;omega
 have cF:=p.size;have ar:=a.ab.h p;rw[bn,aj yR];refine gh (cS:=[ay k]) aei g ar F F (by simp[fX]) (MI k) λaD cG az bV=>?_;have a0:bQ aD bO (fX W m.l.z ah m.l.z M k m.ad.length m.L m.l.aE m.l.a7) 42:=bV;have bW:dc aB aD:= .af az ar g (gV ..);have aG:=k_ L ar g az;rw[aS sy (aG.aI nf),bn,aj qH];have bX:((aV.take m.ad.length)++[{HA with aW:=K,aj:=C}]).length=m.ad.length+1:=by simp;omega
 rw[bX];refine gh (cS:=[I X ((m.ad.length+1:Nat):Int)]) bw g a0 F F (by simp[fX]) eY λP cH a2 bY=>?_;have ca:bQ P bO (fX W m.l.z ah m.l.z M k ((m.ad.length+1:Nat):Int) m.L m.l.aE m.l.a7) 42:=bY;have cb:dc aD P:= .af a2 a0 g (gV ..);have R:=bW.a cb;have br:=k_ aG a0 g a2;have cd:h0 p9 9 P (ay k):=bU.aS λi q=>by have v:=(L.D i q).1;exact(a2.block i (by have:=(aG.D i q).2;exact this) (be G)).trans (az.block i (L.D i q).2 (be G))
 have ce:qz P bO m.l W ah M k ((m.ad.length+1:Nat):Int) m.L:=⟨ca,oC (a.Q.h p) R,mC (a.aF.h p) R,(a.aj.h p).bp R⟩;have bv:lU A bO w P:=((ea.R p).a (.fQ az ae ar g (gV ..))).a (.fQ a2 ae a0 g (gV ..));refine(K8 (A:=A) ce ok.l (uF (B.h (am.a bo)) R) nd G D).o ?_;rintro u cJ ⟨S,cf,cg,ch,a3⟩;have aH:=R.a S.bp;have bx:∀aJ∈ [bO],(ay k).ownBlock≠J aJ:=λaJ aM b0=>by rw[cL.1 aM]at b0;have:=(L.D bO b0).1;omega
 refine⟨bv.a (S.sub (λaJ aM=>aM) (λx ci=>by cases ci)),⟨cf,cg,ch,k,_,b5,by have:=bv.Y;have:=S.Y;omega,?_,a3.Q,a3.aF,a3.aj,(S.row br ae bx).o G,S.cl br cd ae bx,?_⟩,by trivial⟩
 ·have:(m.X (y.N.map (fa m.l.Q))).ad.length=m.ad.length+1:=by show(m.ad++[_]).length=_;simp
  rw[this];exact a3.ab
 ·have cj:(m.X (y.N.map (fa m.l.Q))).au=(m.ad.map λd=>(d,ac))++[((dw m.l.Q 0 (y.N.map (fa m.l.Q)),y.N.map (fa m.l.Q)),ac)]:=by unfold cD.au cD.X;simp
  rw[cj];have v:=f.V.aQ m.ad.length;rw[alX]at v;refine fF.bk (v.o λ_ _ _ a8=>(a8.bp (.R p)).bp aH) ⟨?_,?_,λcK ck=>by cases ck⟩
  ·exact uF (((a9.h aA).ab aC ((a9.h aA).aN (ap.h t) g)).aI jR) aH
  ·exact uF (B.h (am.a bo)) aH
abbrev mo(e a:Int):List Value:=[I X e,I X a]
def Km(e f:Int):∀a∈mo e f,a.oneCell' =true:=λa b=>by simp at b;rcases b with rfl|rfl<;>rfl
def xP(e a:Int):kW (mo e a):=FJ [e,a]
def LP{b:Nat}{e:Int}(f:bQ w b (mo 0 0) 66)(h:∀a,w.grownBy a (J b)->dc w a->K (al (mo e t).toArray) a):
 fo Y 66 [(0,I X e),(1,I X t)] w λi w=>c4 Y 66 (ad (J ⟨b,0,ac⟩)) i w λw=>bU Y 66 (ad (J ⟨b,0,ac⟩)) w λj a=>a=w/\K j w:=by
 rw[bz (S:=mo e t) (iR:=[(0,[I X e]),(1,[I X t])]) Br Jt F F];exact i1 JH IV g f g (xP ..) F F (Km _ _) λa _ k l _=>h a k l
variable{x:List qB}
def tA.TI{b f M g:bK}(a:tA w A bO m b f M g x):qz w bO m.l b f M g m.ad.length m.L:=⟨a.ab,a.Q,a.aF,a.aj⟩
def tA.bU{q_:aH}{MJ:Int}{b:aa}{p q M i UW SH R_:bK}(a:tA w A bO m p q M i x)(k:bQ w bO S 42)(s:kW S)(f:w.grownBy b (J bO))
 (h:qz b bO q_ UW SH R_ i m.ad.length MJ):tA b A bO {m with l:=q_,L:=MJ} UW SH R_ i x:=by
 have bp:dc w b:= .af f k g s;have u:=a.a7;refine⟨a.a7,eQ a.ao f.size,h.ab,h.Q,h.aF,h.aj,k_ a.ai k g f,a.y.aS λj n=>f.block j (a.ai.D j n).2 (be (by have:=(a.ai.D j n).1;omega)),?_⟩;have:({m with l:=q_,L:=MJ}:cD).au=m.au:=rfl;rw[this];exact a.V.o λ_ _ _ t=>t.bp bp
def gD.ak{f:aa}{g T:Nat}(a:gD w A bO m)(b:w.grownBy f (J g))(h:bQ w g S T)(n:kW S)(i:T≠201/\T≠49)(p:g≠bO):gD f A bO m:=by obtain⟨q,s,M,t,u,a⟩:=a;have bp:dc w f:= .af b h i.2 n;refine⟨q,s,M,t,u,a.a7,eQ a.ao b.size,a.ab.ab b (be p.symm),oC a.Q bp,mC a.aF bp,a.aj.bp bp,k_ a.ai h i.1 b,a.y.aS λj k=>b.block j (a.ai.D j k).2 λe=>?_,a.V.o λ_ _ _ v=>v.bp bp⟩;cases e;obtain⟨_,c,l⟩:=a.ai.de k;rw[h]at l;cases l;exact i.1 F
def akv{e:List aB}{x:aB}(a:od t e):gK t (gW e x)=0:=by unfold gK;have g:(gW e x).length<=e.length:=mH _ _;rw[an (by have:=a.bl;omega)];refine E_ (λb f=>a.az b (fS.1 f).1) ?_;rw[fc];unfold gW;exact a.nl.sublist aop
def aiE(bC:gD w A bO m)(ok:il c d m)(hd:d<=50)(cF:c<=1300)(hk:y.I=2\/y.I=3):
 ak Y 40 [ad (J ⟨bO,0,ac⟩),al (ep y.I y.V y.aW e r bZ).toArray] w λK a2=>lU A bO w a2/\gD a2 A bO (m.cU y).1/\K=al (mo (m.cU y).2.1 (m.cU y).2.2).toArray:=by
 have cH:=ok.z;have cJ:=ok.L;have cK:m.l.z=m.l.Q.length:=rfl;have cM:=ok.l.M.bl;have cf:=bC;obtain⟨W,am,M,bg,cg,a3⟩:=bC;have u:=a3.TI;have cN:=a3.a7;have cP:=a3.ao;have ch:(dH m.l y).2.1≠0->m.cU y=(m,(dH m.l y).2.1,0):=λb=>by unfold cD.cU;rw[an G,an G,au b]
 have ci:(dH m.l y).2.1=0->m.cU y=(m.co (dH m.l y).1,0,(dH m.l y).2.2):=λb=>by rw[wk G G b,an G,an G]
 apply Zf;refine bd (S:=ep y.I y.V y.aW e r bZ) F λcQ cR cS cV bD bi=>?_;refine lb Br λbj ap cW cY bF ck=>?_;have bH:bQ ap bj (mo 0 0) 66:=ck;have L:=bD.a bF;have cZ:=bD.size;have bk:=bi.h bF;have bo:∀{f:aa} {x:Int},O ap f->(dH m.l y).2.1=x->x≠0->fo Y 66 [(0,I X x),(1,I X 0)] f λcm i=>c4 Y 66 (ad (J ⟨bj,0,ac⟩)) cm i λi=>bU Y 66 (ad (J ⟨bj,0,ac⟩)) i λa4 a2=>a2=i/\(lU A bO w i/\gD i A bO (m.cU y).1/\a4=al (mo (m.cU y).2.1 (m.cU y).2.2).toArray):=by
  intro f x P bI q;have bJ:=ch (by rw[bI];exact q);rw[bI]at bJ;have da:=P.size;refine LP (K:=λa4 i=>lU A bO w i/\gD i A bO (m.cU y).1/\a4=al (mo (m.cU y).2.1 (m.cU y).2.2).toArray) (bH.h P) λi C db=>?_;rw[bJ];have bK:=(L.a P).ab C λa5 C=>by cases C;omega
  exact⟨.R bK,cf.h bK,F⟩
 have a8:O ap ap.drew:=(O.p ap).C;apply bE.h;rw[bn,b2 oR iF ((u.ab.h L).H.b.f 0 F) a8,b2 tI E (bk.b.f 1 (show(ep y.I y.V y.aW e r bZ)[1]? =J (I X y.V)from F)) a8];refine(xR (u.Q.h (L.a a8)) G).o ?_;rintro K i ⟨cn,rfl⟩;have R:=a8.a cn;refine⟨R,?_⟩;have bL:∀{x:Int},dy m.l.Q [y.V,y.aW]=x->x≠0->(dH m.l y).2.1=x:=λa9 aA=>by
  rcases hk with hk|hk
  ·rw[zJ hk];dsimp only;rw[a9,au aA]
  ·rw[Gh hk];dsimp only;rw[a9,au aA]
 rw[aN,aO,bs,bu];refine⟨λq=>bo R (bL (by unfold dy;rw[au q]) q) q,λa9=>?_⟩;have aG:O i i.drew:=(O.p i).C;apply bE.h;rw[bn,b2 oR iF ((u.ab.h (L.a R)).H.b.f 0 F) aG,b2 I8 E ((bk.h R).b.f 2 (show(ep y.I y.V y.aW e r bZ)[2]? =J (I X y.aW)from F)) aG];refine(xR (u.Q.h ((L.a R).a aG)) G).o ?_;rintro K br ⟨cp,rfl⟩;have bM:=aG.a cp;refine⟨bM,?_⟩;have aw:=R.a bM;rw[aN,aO,bs,bu];refine⟨λq=>bo aw (bL (by unfold dy;rw[an G];unfold dy;rw[au q]) q) q,λaA=>?_⟩;have bN:dy m.l.Q [y.V,y.aW]=0:=vy (by simp[a9,aA]);generalize bv:(cu m.l.Q y.V).1=j at*;generalize bx:(cu m.l.Q y.aW).1=k at*;have aH:=L.a aw;rw[bn,iL sA mg (S:=dq m.l.z (ay M) 0) (cA.cG ((u.ab.h aH).H.b.E 4) 3) F];refine cj (cS:=dq m.l.z (ay M) 0) xe oS g F F (jl F) λb0 aJ dd de aM aP=>?_;have cq:=aH.a aM;have bP:=aw.a aM;have dh:=bP.size;have di:=aw.size;have bR:0<=(m.l.z:Int)/\(m.l.z:Int)<=1099511627776:=⟨G,G⟩;have bS:tD aJ (al (dq m.l.z (ay M) 0).toArray) m.l.z m.l.M:=⟨_,F,uD M,(u.aj.h cq).1⟩;have cr:=bk.h bP;refine bG.y (λbT f=>∃(b1 h n:Int) (a:Z),bT=[I X b1]/\O br f/\aJ.heap.size<=f.heap.size/\ag f b0 (dq h a n)/\(dH m.l y).2.1=n/\qA a/\(n=0->b1=(dH m.l y).2.2/\h=m.l.z/\mP f a (dH m.l y).1.M)) ?_ ?_
 ·rw[Go.Lift.M wX E (cr.b.f 0 (show(ep y.I y.V y.aW e r bZ)[0]? =J (I X y.I)from F)),bm,ai];refine⟨λb3=>?_,λb3=>?_⟩
  ·rw[aF mg aP.b F,bz (S:=ah (j,k)) (iR:=[(0,[I X j]),(1,[I X k])]) dg jO F F];refine(akn (x:=(j,k)) bR bS G).o ?_;rintro K aR ⟨s,h,a,rfl,v,D⟩;refine aZ (cS:=dq h a (gK m.l.z (m.l.M++[(j,k)]))) oS g (aP.h s) F F (by simp[dq]) (jl v.2) λp ct S aT=>?_;have aU:O br p:=(aM.a s).ab S λa5 C=>by cases C;omega
   have cw:=s.size;refine⟨0,h,_,a,F,aU,G,aT,by rw[zJ b3];dsimp only;rw[bN,an g,bv,bx],v,λU=>?_⟩;obtain⟨a0,z⟩:=D U;rw[zJ b3,bv,bx];exact⟨F,a0,ar.bz (z.ab S (fC z G))⟩
  ·have bi:y.I=3:=G;have b4:=Gh (v:=m.l) bi;rw[bN,an g,bv,bx]at b4;rw[aF mg aP.b F,bz (S:=ah (j,k)) (iR:=[(0,[I X j]),(1,[I X k])]) dg jO F F];refine(akq (x:=(j,k)) bR bS G).o ?_;rintro K aR cx;obtain⟨s,h,a,n,aV,rfl,v,cy,cz,D⟩:O aJ aR/\∃(h:Int) (a:Z) (n:Int) (aV:List aB),K=al (dq h a n).toArray/\qA a/\(∀p,aR.grownBy p (J b0)->aC p a 2 ah aV/\aV.length<=1000)/\q6 m.l (j,k)=n/\(n=0->h=m.l.z/\aV=fE (gW m.l.M (j,k))/\ar aR aJ.heap.size 49 2 a ah (fE (gW m.l.M (j,k)))):=by
    have c0:=akv (x:=(j,k)) ok.l.M;rcases cx with⟨b,s,rfl⟩|⟨b,s,h,a,rfl,v,D⟩
    ·exact⟨s,0,_,1,[],F,Ad,λ_ _=>⟨aC.nil ..,ae⟩,by unfold q6;rw[an b],λb=>aL b g⟩
    ·obtain⟨a0,z⟩:=D c0;exact⟨s,h,a,_,_,F,v,λp a5=>⟨(z.ab a5 (fC z G)).aI e_,by rw[(wh _).length_eq];have:(gW m.l.M (j,k)).length<=m.l.M.length:=mH _ _;omega⟩,by unfold q6;rw[au b],λ_=>⟨a0,F,z⟩⟩
   refine aZ (cS:=dq h a n) oS g (aP.h s) F F (by simp[dq]) (jl v.2) λp ct S c1=>?_;have aT:ag p b0 (dq h a n):=c1;have aU:O br p:=(aM.a s).ab S λa5 C=>by cases C;omega
   have cw:=s.size;obtain⟨c2,dj⟩:=cy p S;have bV:=aH.a aU;apply bE.h;have t:O p p.drew:=(O.p p).C;rw[bn,aK (λf b aq=>aj sA) t,aK (λf b aq=>aj yO) t,dR kb ((u.ab.h bV).H.b.f 5 F) t,aK (λf b aq=>aS I7 ((u.aj.h (bV.a b)).1)) t,
    b2 yO kb (aT.b.f 1 F) t,aK (λf b aq=>aS I7 (c2.h b)) t,aK (λf b aq=>cd) t]
   refine⟨_,h,n,a,F,aU.a t,by have:=t.size;omega,aT.h t,by rw[b4];exact cz,v,λU=>?_⟩;obtain⟨a0,z,bW⟩:=D U;rw[b4];subst z;exact⟨by rw[(wh _).length_eq],a0,ar.bz ((bW.ab S (fC bW G)).h t)⟩
 rintro bT az f ⟨b1,h,n,a,rfl,P,dk,b5,bX,v,D⟩;simp only [av];have bY:=aH.a P;have b6:=aw.a P;rw[Go.Lift.M Pc E (b5.b.f 2 F),bs,bu];refine⟨λq=>?_,λU=>?_⟩
 ·rw[Go.Lift.M Pc E (b5.b.f 2 F)];exact bo b6 bX q
 obtain⟨rfl,rfl,ca⟩:=D U;obtain⟨B,rfl⟩:=ca.1.ay;subst U;have b7:(dH m.l y).1=m.l.bf (dH m.l y).1.M:=by
  rcases hk with hk|hk
  ·rw[zJ hk];rfl
  ·rw[Gh hk];rfl
 have H:=a3.h bY;rw[aF mg b5.b F,bn,aj sA];refine gh (cS:=dq m.l.z (ay B) 0) oS g H.ab F F (by simp[fX,dq]) (jl F) λb8 dl aY c3=>?_;have V:bQ b8 bO (fX W m.l.z am m.l.z B bg m.ad.length m.L m.l.aE m.l.a7) 42:=c3;have bA:dc f b8:= .af aY H.ab g (gV ..);have ba:=H.bU (q_:=(dH m.l y).1) (MJ:=m.L) (UW:=W) (SH:=am) (R_:=B) H.ab (gV ..) aY (by rw[b7];exact⟨V,oC H.Q bA,mC H.aF bA,by rw[<-b7];exact ca.bp bA⟩)
 rw[bn,Go.Lift.M yS E (V.H.b.f 9 F),aD,bn,aj yS];refine gh (cS:=[I X (m.L+1)]) bw g V F F (by simp[fX]) eY λbb dm bc c9=>?_;have cB:bQ bb bO (fX W m.l.z am m.l.z B bg m.ad.length (m.L+1) m.l.aE m.l.a7) 42:=c9;have bB:dc b8 bb:= .af bc V g (gV ..);have cC:=ba.bU (q_:=(dH m.l y).1) (MJ:=m.L+1) (UW:=W) (SH:=am) (R_:=B) V (gV ..) bc (by refine⟨?_,oC ba.Q bB,mC ba.aF bB,ba.aj.bp bB⟩;rw[b7];exact cB)
 have cE:lU A bO w bb:=((ea.R bY).a (.fQ aY ae H.ab g (gV ..))).a (.fQ bc ae V g (gV ..));have cb:=((bH.h b6).ab aY (be G)).ab bc (be G);have dn:=b6.size;rw[ci bX];exact LP cb λdp ce dr=>⟨cE.ab ce G,gD.ak (w:=bb) ⟨W,am,B,bg,cg,cC⟩ ce cb (xP ..) g G,F⟩
def aiV(bv:gD w A bO m)(ok:il c d m)(hd:d<=50)(cw:c<=1300)(W:pD w y e r bZ)(bH:y.I=4):
 ak Y 41 [ad (J ⟨bO,0,ac⟩),al (ep y.I y.V y.aW e r bZ).toArray] w λa0 bx=>lU A bO w bx/\gD bx A bO (m.cU y).1/\a0=I X (m.cU y).2.1:=by
 have cx:=ok.z;have cy:=ok.L;have cz:m.l.z=m.l.Q.length:=rfl;have c0:=ok.l.R.bl;have bI:=bv;obtain⟨ah,R,M,aJ,bK,a2⟩:=bv;have a3:=a2.TI;have c1:=a2.a7;have c2:=a2.ao;have aL:=Lr (v:=m.l) bH;have bL:lg m.l y.Q y.bZ≠0->m.cU y=(m,lg m.l y.Q y.bZ,0):=λbz=>by unfold cD.cU;rw[an G,an G,aL,au bz]
 have aM:∀{f:aa} {x:Int},O w f->lg m.l y.Q y.bZ=x->x≠0->lU A bO w f/\gD f A bO (m.cU y).1/\I X x=I X (m.cU y).2.1:=λ{f x} s t u=>by rw[bL (by rw[t];exact u),t];exact⟨.R s,bI.h s,F⟩
 apply Zi;refine bd (S:=ep y.I y.V y.aW e r bZ) F λbN a4 c4 c5 a5 b0=>?_;have b1:∀{f:aa},O a4 f->f.cell? ⟨bN,5,ac⟩=J (ay bZ):=λx=>(b0.h x).b.f 5 (show(ep y.I y.V y.aW e r bZ)[5]? =J (ay bZ)from F);rw[Go.Lift.M yL qD (b1 (O.p _)),aS dZ.m (W.bZ.h a5),cb,ai];refine⟨λbP=>aM a5 (by unfold lg;rw[au G]) g,λbP=>?_⟩;rw[Go.Lift.M yL qD (b1 (O.p _)),aS dZ.m (W.bZ.h a5)];refine ba.bJ (λaP am f=>O a4 f/\∃(i:Nat) (a8:Z),i+aP=y.bZ.length/\am=[a8,I X i]/\ar f a4.heap.size 125 5 a8 bC ((y.bZ.take i).map (jY m.l.Q))/\∀x∈y.bZ.take i,(cu m.l.Q x.C).2=0)
  ⟨y.bZ.length,O.p _,0,_,G,F,ar.nil ..,ae⟩ ?_
 rintro aP am L f ⟨s,i,a8,c6,rfl,a9,P⟩;simp only [av,bA];have S:=a5.a s;have c7:=s.size;rw[aR,ai];refine⟨λc8=>?_,λcB=>?_⟩
 ·obtain⟨x,t⟩:∃x,y.bZ[i]? =J x:=⟨_,aX G⟩;refine dZ.dO (W.bZ.h S) t F λbR aT aU cC cE U=>?_;have aV:=S.a aU;have a:O aT aT.drew:=(O.p aT).C;apply bE.h;rw[bn,b2 oR iF ((a3.ab.h aV).H.b.f 0 F) a,b2 h2 E (U.b.f 1 (show(bC x)[1]? =J (I X x.C)from F)) a];refine(xR (a3.Q.h (aV.a a)) G).o ?_;rintro a0 b3 ⟨j,rfl⟩;have ap:=a.a j;refine⟨ap,?_⟩;have bS:=aV.a ap;rw[aN,aO,bs,bu];refine⟨λu=>aM bS ?_ u,λbT=>?_⟩
  ·have b4:dy m.l.Q (y.bZ.map (·.C))=(cu m.l.Q x.C).2:=Fo (i:=i) (a:=x.C) (λaq b=>by rw[<-qp]at b;obtain⟨aY,bb,rfl⟩:=eP.1 b;exact P aY bb) (by rw[h5,t];rfl) u
   unfold lg;rw[an G,au (by rw[b4];exact u),b4]
  rw[aj h2];refine aZ (cS:=[I X (cu m.l.Q x.C).1]) bw g (U.h ap) F F (by simp[bC]) eY λaA b5 b6 bV=>?_;have bW:ag aA bR (bC (jY m.l.Q x)):=bV;have b7:O a4 aA:=((s.a aU).a ap).ab b6 λaB v=>by cases v;omega
  have b8:=zW ((a9.h aU).h ap) b6 (vY a9 G);rw[aF mQ bW.b F];refine dZ.push (x:=jY m.l.Q x) b8 b7.size (by rw[b_,bt];omega) g λbX bB bY z _=>?_;rw[aD];refine⟨aP-1,G,b7.ab z λaB v=>(b8.D aB v).1,i+1,bX,G,ae,?_,λaq b=>?_⟩
  ·rw[c9 t,dJ];exact bY
  ·rw[c9 t]at b;rcases b9.1 b with b|b
   ·exact P aq b
   ·rw[cL.1 b];exact bT
 rw[d_ G]at a9 P;have ca:dy m.l.Q (y.bZ.map (·.C))=0:=vy λaq b=>by obtain⟨aY,bb,rfl⟩:=eP.1 b;exact P aY bb
 have aG:lg m.l y.Q y.bZ=nZ m.l.z m.l.R y.Q (y.bZ.map (jY m.l.Q)):=by unfold lg;rw[an G,an (by rw[ca];decide)]
 refine bG.y (λam h=>∃(B:Nat) (k:Int) (n:Z),am=[ad (J ⟨B,0,ac⟩)]/\O f h/\ag h B (dq k n (lg m.l y.Q y.bZ))/\(lg m.l y.Q y.bZ=0->k=m.l.z/\aC h n 5 bC (r6 m.l y.Q y.bZ))) ?_ ?_
 ·apply bE.h;have a:O f f.drew:=(O.p f).C;have cd:=a3.ab.h S;rw[bn,aK (λh bz cH=>aj w1) a,gX (S:=dq m.l.z (ay R) 0) pJ (cA.cG (cd.H.b.E 1) 3) F a,b2 Ei vc ((b0.h s).b.f 4 (show(ep y.I y.V y.aW e r bZ)[4]? =J (ay r)from F)) a];have run:∀{h:aa},O f h->ak Y 88 [al (dq m.l.z (ay R) 0).toArray,ay r,a8] h _:=λ{h} x=>agL (n:=m.l.z) (l:=m.l.R) (rem:=y.Q) (add:=y.bZ.map (jY m.l.Q)) ⟨G,G⟩ ⟨_,F,uD R,a3.aF.h (S.a x)⟩ G (W.Q.h (S.a x)) ((a9.h x).aI d0) (by rw[b_];omega) (λaq b=>by
   rcases b9.1 b with b|b
   ·have:=wo ok.l.R aq b;omega
   ·obtain⟨ce,P,rfl⟩:=eP.1 b;exact W.L ce P) ok.l.R.nl
  refine⟨(run a).o ?_,?_⟩
  ·rintro a0 b3 ⟨j,k,n,rfl,bc,aw⟩;refine⟨a.a j,?_⟩;refine bo xd λB aA cf b5 D p=>⟨(a.a j).a D,?_⟩;have cg:=(a.a j).size;refine aZ (cS:=dq k n _) qJ g p F F (by simp[dq]) (jl bc.2) λbB ch z U=>?_;exact⟨B,k,n,F,((a.a j).a D).ab z λaB v=>by cases v;omega,by rw[aG];exact U,λH=>by obtain⟨be,az⟩:=aw (by rw[<-aG];exact H);exact⟨be,(zW (az.h D) z (vY az G)).aI d0⟩⟩
  ·refine bo xd λB aA cf b5 D p=>⟨a.a D,?_⟩;refine(run (a.a D)).o ?_;rintro a0 b3 ⟨j,k,n,rfl,bc,aw⟩;have cg:=a.size;refine aZ (cS:=dq k n _) qJ g (p.h j) F F (by simp[dq]) (jl bc.2) λbB ch z U=>?_;exact⟨B,k,n,F,((a.a D).a j).ab z λaB v=>by cases v;omega,by rw[aG];exact U,λH=>by obtain⟨be,az⟩:=aw (by rw[<-aG];exact H);exact⟨be,(az.ab z (fC az G)).aI d0⟩⟩
 rintro am L h ⟨B,k,n,rfl,ci,p,aw⟩;simp only [av];have bg:=S.a ci;rw[Go.Lift.M Pb E (p.b.f 2 F),bs,bu];refine⟨λu=>?_,λH=>?_⟩
 ·rw[Go.Lift.M Pb E (p.b.f 2 F)];exact aM bg F u
 obtain⟨rfl,bD⟩:=aw H;obtain⟨q,rfl⟩:=bD.ay;rw[H]at p;have cj:m.cU y=(m.co (m.l.aK (r6 m.l y.Q y.bZ)),0,0):=by rw[wk G G (by rw[aL];exact H),an G,an G,aL]
 have K:=a2.h bg;rw[aF pJ p.b F,bn,aj w1];refine gh (cS:=dq m.l.z (ay q) 0) qJ g K.ab F F (by simp[fX,dq]) (jl F) λbh cP bi ck=>?_;have V:bQ bh bO (fX ah m.l.z q m.l.z M aJ m.ad.length m.L m.l.aE m.l.a7) 42:=ck;have bj:dc h bh:= .af bi K.ab g (gV ..);have aH:=K.bU (q_:=m.l.aK (r6 m.l y.Q y.bZ)) (MJ:=m.L) (UW:=ah) (SH:=q) (R_:=M) K.ab (gV ..) bi ⟨V,oC K.Q bj,mC bD bj,K.aj.bp bj⟩;rw[bn,Go.Lift.M yS E (V.H.b.f 9 F),aD,bn,aj yS];refine gh (cS:=[I X (m.L+1)]) bw g V F F (by simp[fX]) eY λbF cQ bk cr=>?_;have cs:bQ bF bO (fX ah m.l.z q m.l.z M aJ m.ad.length (m.L+1) m.l.aE m.l.a7) 42:=cr;have br:dc bh bF:= .af bk V g (gV ..);have ct:=aH.bU (q_:=m.l.aK (r6 m.l y.Q y.bZ)) (MJ:=m.L+1) (UW:=ah) (SH:=q) (R_:=M) V (gV ..) bk ⟨cs,oC aH.Q br,mC aH.aF br,aH.aj.bp br⟩;rw[cj];exact⟨((ea.R bg).a (.fQ bi ae K.ab g (gV ..))).a (.fQ bk ae V g (gV ..)),⟨ah,q,M,aJ,bK,ct⟩,F⟩
end
section
variable{w:aa} {A bO c d:Nat} {m:cD} {y:gE}
def alV{e:Z}{c:List qB}(r:ar w A 201 9 e jk c)(y:h0 p9 9 w e)(l:c≠[]):∀a,e.ownBlock=J a->qy w a:=by
 intro a h;rcases r with⟨rfl,_⟩|⟨n,p,t,b,rfl,u,i,v,z,B,j⟩
 ·cases h
 ·cases h;obtain⟨rfl,C,T,k,q,s⟩:=y n p ac _ _ F;rw[i]at k;cases k;obtain⟨x,f,rfl⟩:=List.exists_cons_of_ne_nil l;refine .inr ⟨b.toList,201,by unfold bQ;simpa using i,g,ajx (x:=x) (r:=f.flatMap jk++b.toList.drop ((x::f).length*9)) q (by simpa using s) ?_⟩;rw[h6]at j
  conv=>lhs;rw[<-fi ((x::f).length*9) b.toList,j]
  rw[iB,cX]
def alY{m:cD}{a:List lq}{b:lq}(f:m.ad=a++[b])(g:m.c0.length=m.aE.length)(e:ik):(⟨m.l,a,m.c0++[b],m.aE++[e],m.L⟩:cD).au=m.au.set a.length (b,J e):=by unfold cD.au;rw[f,aos g];simp
def alW{m:cD}{b:List lq}{e:List ik}{a:lq}{f:ik}(i:m.c0=b++[a])(j:m.aE=e++[f])(k:b.length=e.length):m.au[m.ad.length]? =J (a,J f)/\∀g h,(⟨g,m.ad++[a],b,e,h⟩:cD).au=m.au.set m.ad.length (a,ac):=by
 unfold cD.au;rw[i,j,aos k];constructor
 ·simp
 ·intro g h;simp
def aiX(a5:gD w A bO m)(D:il c d m)(hd:d<=50)(bh:c<=1300):
 ak Y 44 [ad (J ⟨bO,0,ac⟩)] w λa8 a9=>lU A bO w a9/\gD a9 A bO m.av.1/\a8=I X m.av.2:=by
 have ck:=D.ia;have bi:=a5;obtain⟨aA,R,M,p,aB,e⟩:=a5;have bj:=e.a7;have cm:=e.ao;apply Zj;rw[bn,Go.Lift.M qH E (e.ab.H.b.f 8 F),bm,ai];refine⟨λaq=>?_,λaq=>?_⟩
 ·have:m.ad=[]:=ig G;have bk:m.av=(m,6):=by unfold cD.av;rw[this];rfl
  rw[bk];exact⟨.p _,bi,F⟩
 obtain⟨f,H,v⟩:∃f H,m.ad=f++[H]:=by
  rcases Iu m.ad with i|⟨f,H,i⟩
  ·rw[i]at aq;simp at aq
  ·exact⟨f,H,by rw[i,It]⟩
 have aC:=D.bB;rw[v]at aC;obtain⟨j,h,br,rfl,aD,_⟩:=aC.bu;obtain⟨bs,bv,bx⟩:=aD.ct bh br;have bz:m.av=(⟨m.l.X (dw j 0 h),f,m.c0++[(dw j 0 h,h)],m.aE++[⟨m.l.z,m.l.R,m.l.M,m.L⟩],m.L⟩,0):=by unfold cD.av;rw[v];simp
 have b0:(m.ad.length:Int)-1=((f.length:Nat):Int):=by rw[v];simp
 rw[bn,Go.Lift.M qH E (e.ab.H.b.f 8 F),cd,b0,bn,aj qH];refine gh (cS:=[I X f.length]) bw g e.ab F F (by simp[fX]) eY λk cn x b1=>?_;have q:bQ k bO (fX aA m.l.z R m.l.z M p f.length m.L m.l.aE m.l.a7) 42:=b1;have L:dc w k:= .af x e.ab g (gV ..);have ar:=k_ e.ai e.ab g x;have b3:h0 p9 9 k (ay p):=e.y.aS λa n=>x.block a (e.ai.D a n).2 (be (by have:=(e.ai.D a n).1;omega));have aG:fF (wQ k) aB m.au:=e.V.o λ_ _ _ P=>P.bp L;have aJ:=mC e.aF L;have aL:=e.aj.bp L;have b4:m.au[f.length]? =J ((dw j 0 h,h),ac):=by unfold cD.au;rw[v];simp
 obtain⟨b,S,aw⟩:=aG.f b4;obtain⟨co,cp,b5,b6⟩:=(ar.aI nf).m S;have r:O k k.drew:=(O.p k).C;apply bE.h;rw[bn,b2 yR Ba (q.H.b.f 7 F) r,bn,b2 qH E (q.H.b.f 8 F) r,
  aK (λU i b7=>cr (i:=f.length) (x:=b) sy sC g ((ar.h i).aI nf) S F) r,b5,gX IW b6 F r]
 refine bo xf λs cq cs cu aM bA=>⟨r.a aM,?_⟩;have bC:=r.a aM;have cw:=r.size;have cx:=x.size;have V:∀{U aN:aa},O k U->U.grownBy aN (J s)->O k aN:=λi a=>i.ab a λbD az=>by cases az;omega
 refine aZ (cS:=jk b) sC g bA F F ae (nf.B b) λbF cy bG bH=>?_;have bI:ag bF s (jk b):=bH;have aO:=V bC bG;rw[bn,iL w1 pJ (S:=dq m.l.z (ay R) 0) (cA.cG ((q.h aO).H.b.E 1) 3) F,aj Pg];refine aZ (cS:=dq m.l.z (ay R) 0) qJ g bI F F (by simp[jk,dq]) (jl F) λbK cz bL bM=>?_;have bN:ag bK s (jk {b with hU:=m.l.z,eH:=R,iv:=0}):=bM;have aP:=V aO bL;rw[bn,iL sA mg (S:=dq m.l.z (ay M) 0) (cA.cG ((q.h aP).H.b.E 4) 3) F,aj Pf];refine aZ (cS:=dq m.l.z (ay M) 0) oS g bN F F (by simp[jk,dq]) (jl F) λbP c1 bR bS=>?_;have bT:ag bP s (jk ⟨b.aW,b.aj,m.l.z,R,0,m.l.z,M,0,b.L⟩):=bS;have aR:=V aP bR;rw[bn,Go.Lift.M yS E ((q.h aR).H.b.f 9 F),aj Ph];refine aZ (cS:=[I X m.L]) bw g bT F F (by simp[jk]) eY λt c2 bU bV=>?_;have aT:ag t s (jk ⟨b.aW,b.aj,m.l.z,R,0,m.l.z,M,0,m.L⟩):=bV;have W:=V aR bU;have u:O t t.drew:=(O.p t).C;have aU:=q.h W;have aV:=ar.h W;apply bE.h;rw[bn,b2 yR Ba (aU.H.b.f 7 F) u,bn,b2 qH E (aU.H.b.f 8 F) u,gX IW aT.b F u,
  aK (λU i b7=>cr (i:=f.length) (x:=b) sy sC g ((aV.h i).aI nf) S F) u]
 have ah:=W.a u;have a0:=aV.h u;have aY:=b3.h ah;have a2:f.length<aB.length:=(dS.1 S).1;refine aln (q:=p9) (x:=⟨b.aW,b.aj,m.l.z,R,0,m.l.z,M,0,m.L⟩) sC g nf a0 a2 F aY Kp λam c3 an ba bW=>?_;have bb:∀a,(ay p).ownBlock=J a->a<t.drew.heap.size->qy t.drew a:=λa n _=>alV a0 aY (λi=>by rw[i]at a2;simp at a2) a n;have bX:dc t.drew am:= .al an bb;have fQ:∀a,(ay p).ownBlock=J a->A<=a/\a<w.heap.size:=λa n=>e.ai.D a n;have bY:=(q.h ah).ab an (λi=>by have:=(fQ bO i.symm).1;omega);have c4:=W.size;have bZ:ag am s (jk ⟨b.aW,b.aj,m.l.z,R,0,m.l.z,M,0,m.L⟩):=(aT.h u).ab an (λi=>by have:=(fQ s i.symm).2;omega);have z:=(dc.R ah).a bX;have bc:lU A bO w am:=((ea.fQ x ae e.ab g (gV ..)).a (.R ah)).a (.al an (λa n=> .inr ⟨(fQ a n).1,_,ae,(a0.de n).2⟩) bb);rw[Go.Lift.M adl ru (bZ.b.f 0 F)];have ca:qz am bO m.l aA R M p f.length m.L:=⟨bY,oC (oC e.Q L) z,mC aJ z,aL.bp z⟩;refine(K8 (A:=A) (es:=dw j 0 h) ca D.l (uF aw.1 z) bv (by have:=aD.dn;have:(m.l.X (dw j 0 h)).z=j.length:=(by unfold aH.z;rw[bx]);omega) bs).o ?_;rintro a8 cb ⟨B,ce,cf,cg,ap⟩;have bd:∀a3∈ [bO],(ay p).ownBlock≠J a3:=λa3 a4 bg=>by rw[cL.1 a4]at bg;have:=(fQ bO bg).1;omega
 rw[bz];refine⟨bc.a (B.sub (λa3 a4=>a4) (λb ch=>by cases ch)),⟨ce,cf,cg,p,_,bj,by have:=bc.Y;have:=B.Y;omega,ap.ab,ap.Q,ap.aF,ap.aj,B.row ba ae bd,B.cl ba bW ae bd,?_⟩,F⟩;have ci:=alY v D.bn.bl ⟨m.l.z,m.l.R,m.l.M,m.L⟩;have cj:(⟨m.l.X (dw j 0 h),f,m.c0++[(dw j 0 h,h)],m.aE++[⟨m.l.z,m.l.R,m.l.M,m.L⟩],m.L⟩:cD).au=m.au.set f.length ((dw j 0 h,h),J ⟨m.l.z,m.l.R,m.l.M,m.L⟩):=ci;show fF (wQ cb) _ (⟨m.l.X (dw j 0 h),f,m.c0++[(dw j 0 h,h)],m.aE++[⟨m.l.z,m.l.R,m.l.M,m.L⟩],m.L⟩:cD).au;rw[cj];have C:=z.a B.bp;refine fF.ax _ (aG.o λ_ _ _ P=>P.bp C) ⟨uF aw.1 C,uF aw.2.1 C,λbD az=>?_⟩;cases az;exact⟨F,F,mC aJ C,F,F,aL.bp C,F⟩
def aiT(aU:gD w A bO m)(S:il c d m)(hd:d<=50)(b6:c<=1300):
 ak Y 45 [ad (J ⟨bO,0,ac⟩)] w λaV v=>lU A bO w v/\gD v A bO m.ar.1/\aV=I X m.ar.2:=by
 have cw:=S.ia;have b7:=aU;obtain⟨aW,R,M,k,B,n⟩:=aU;have aY:=n.a7;have cx:=n.ao;have U:=S.bn.bl;have V:=n.V.bl;have ba:m.au.length=m.ad.length+m.c0.length:=by unfold cD.au;simp;omega
 apply Zh;have p:O w w.drew:=(O.p w).C;apply bE.h;rw[bn,b2 qH E (n.ab.H.b.f 8 F) p,bn,b2 yR Ba (n.ab.H.b.f 7 F) p,aK (λa5 f a8=>aS sy ((n.ai.h f).aI nf)) p,aK (λa5 f a8=>bm ..) p,ai];refine⟨λb8=>?_,λb8=>?_⟩
 ·have:m.c0=[]:=ig G;have bA:m.ar=(m,6):=by unfold cD.ar;rw[this];rfl
  rw[bA];exact⟨.R p,b7.h p,F⟩
 obtain⟨C,bb,D⟩:∃C bb,m.c0=C++[bb]:=by
  rcases Iu m.c0 with f|⟨a9,aA,f⟩
  ·rw[f]at ba;simp at ba;omega
  ·exact⟨a9,aA,by rw[f,It]⟩
 obtain⟨H,b,W⟩:∃H b,m.aE=H++[b]:=by
  rcases Iu m.aE with f|⟨a9,aA,f⟩
  ·rw[D,f]at U;simp at U
  ·exact⟨a9,aA,by rw[f,It]⟩
 have bB:C.length=H.length:=by rw[D,W]at U;simpa using U
 obtain⟨bC,bD⟩:=alW D W bB;have bc:=S.bn;rw[D,W]at bc;obtain⟨a,rfl,bd,bF,_⟩:=bc.bu;obtain⟨nd,cy⟩:=bd.nd;have bG:m.ar=(⟨hn m.l a b m.L,m.ad++[(dw m.l.Q 0 a,a)],C,H,m.L⟩,0):=by unfold cD.ar;rw[D,W];simp
 obtain⟨e,aB,bH⟩:=n.V.f bC;have ah:=n.h p;obtain⟨cz,c1,bI,bJ⟩:=(ah.ai.aI nf).m aB;have t:O w.drew w.drew.drew:=(O.p w.drew).C;apply bE.h;rw[bn,b2 yR Ba (ah.ab.H.b.f 7 F) t,bn,b2 qH E (ah.ab.H.b.f 8 F) t,
  aK (λa5 f a8=>cr (i:=m.ad.length) (x:=e) sy sC g ((ah.ai.h f).aI nf) aB F) t,bI,gX IW bJ F t]
 refine bo xf λaG c2 c3 c4 bg bL=>⟨t.a bg,?_⟩;have bM:=p.a (t.a bg);have c5:=(p.a t).size;refine aZ (cS:=jk e) sC g bL F F ae (nf.B e) λaJ c6 bN bP=>?_;have bR:ag aJ aG (jk e):=bP;have am:O w aJ:=bM.ab bN λbS aL=>by cases aL;omega
 have j:=n.h am;have c7:=am.size;rw[bn,Go.Lift.M qH E (j.ab.H.b.f 8 F),aD,bn,aj qH];refine gh (cS:=[I X (m.ad.length+1)]) bw g j.ab F F (by simp[fX]) eY λap c8 K bT=>?_;have bU:bQ ap bO (fX aW m.l.z R m.l.z M k (m.ad.length+1) m.L m.l.aE m.l.a7) 42:=bT;have L:dc aJ ap:= .af K j.ab g (gV ..);have bh:=k_ j.ai j.ab g K;have bV:h0 p9 9 ap (ay k):=j.y.aS λh q=>K.block h (j.ai.D h q).2 (be (by have:=(j.ai.D h q).1;omega));have aq:=(bH.bp (.R am)).bp L;have bi:=bR.ab K (be G);rw[Go.Lift.M adm ru (bi.b.f 1 F)];have bW:qz ap bO m.l aW R M k (m.ad.length+1) m.L:=⟨bU,oC j.Q L,mC j.aF L,j.aj.bp L⟩;refine(K8 (A:=A) (es:=a) bW S.l aq.2.1 nd G (bd.gu b6)).o ?_;rintro aV u ⟨s,x,bj,aM,av⟩;have bk:∀aN∈ [bO],(ay k).ownBlock≠J aN:=λaN aO br=>by rw[cL.1 aO]at br;have:=(n.ai.D bO br).1;omega
 have bs:=s.row bh ae bk;have bv:=s.cl bh bV ae bk;have bX:=L.a s.bp;have aw:lU A bO w u:=((ea.R am).a (.fQ K ae j.ab g (gV ..))).a (s.sub (λaN aO=>aO) (λe bY=>by cases bY));have bx:ag u aG (jk e):=by obtain⟨T,bz⟩:=bi;exact⟨T,(s.H aG (iz.1 bz).1 (by simp;omega) λ_ c9 bZ=>by cases bZ).trans bz⟩
 obtain⟨ca,cb,cd,ce,cf,cg,ch⟩:=(aq.bp s.bp).2.2 b F;have V:∀{v:aa},dc u v->fF (wQ v) (B.set m.ad.length e) ((⟨hn m.l a b m.L,m.ad++[(dw m.l.Q 0 a,a)],C,H,m.L⟩:cD).au):=λ{v} aP=>by
  rw[bD];refine fF.ax _ (j.V.o λ_ _ _ ci=>(ci.bp bX).bp aP) ⟨?_,?_,λbS aL=>by cases aL⟩
  ·exact((aq.bp s.bp).bp aP).1
  ·exact((aq.bp s.bp).bp aP).2.1
 have cj:B.set m.ad.length e=B:=by
  refine List.ext_getElem? λbK=>?_;rw[List.getElem?_set];split
  ·rename_i f;subst f;split
   ·exact aB.symm
   ·rename_i f;rw[List.getElem?_eq_none G]
  ·rfl
 rw[cj]at V;have b0:((m.ad++[(dw m.l.Q 0 a,a)]).length:Int)=m.ad.length+1:=ae;have i:O u u.drew:=(O.p u).C;apply bE.h;have ck:=av.ab;rw[b2 Ph E (bx.b.f 8 F) i,bn,b2 yS E (ck.H.b.f 9 F) i,aK (λa5 f a8=>bm ..) i,ch,ai];rw[bG];refine⟨λaR=>?_,λaR=>?_⟩
 ·have r:hn m.l a b m.L={m.l.X a with R:=b.R,M:=b.M}:=by unfold hn;rw[au aR]
  have b1:b.z=(m.l.X a).z:=bF.SC;have b3:=bx.h i;have az:=av.ab.h i;have a0:=bs.h i;have cm:=bv.h i;rw[iL Pg pJ (S:=dq e.hU (ay e.eH) e.iv) (cA.cG (b3.b.E 2) 3) F,bn,aj w1];refine gh (cS:=dq (m.l.X a).z (ay e.eH) 0) qJ g az (by rw[ca,cb,b1];rfl) F (by simp[fX,dq]) (jl F) λaT cB z co=>?_;have a2:bQ aT bO (fX x (m.l.X a).z e.eH (m.l.X a).z aM k (m.ad.length+1) m.L m.l.aE m.l.a7) 42:=co;have cp:dc u.drew aT:= .af z az g (gV ..);have cq:=b3.ab z (be G);rw[iL Pf mg (S:=dq e.Li (ay e.l4) e.zh) (cA.cG (cq.b.E 5) 3) F,bn,aj sA];refine gh (cS:=dq (m.l.X a).z (ay e.l4) 0) oS g a2 (by rw[ce,cf,b1];rfl) F (by simp[fX,dq]) (jl F) λb4 cC a3 cs=>?_;have ct:bQ b4 bO (fX x (m.l.X a).z e.eH (m.l.X a).z e.l4 k (m.ad.length+1) m.L m.l.aE m.l.a7) 42:=cs;have cu:dc aT b4:= .af a3 a2 g (gV ..);have P:=((dc.R i).a cp).a cu;have b5:∀h,(ay k).ownBlock=J h->h≠bO:=λh q f=>by have:=(a0.D h q).1;omega
  refine⟨((aw.a (.R i)).a (.fQ z ae az g (gV ..))).a (.fQ a3 ae a2 g (gV ..)),?_,F⟩;refine⟨x,e.eH,e.l4,k,B,aY,by have:=aw.Y;have:=P.1;omega,?_,?_,?_,?_,k_ (k_ a0 az g z) a2 g a3,cm.aS λh q=>(a3.block h (by have:=(a0.D h q).2;have:=z.size;omega) (be (b5 h q))).trans (z.block h (a0.D h q).2 (be (b5 h q))),V P⟩
  ·show bQ _ bO (fX x (hn m.l a b m.L).z e.eH (hn m.l a b m.L).z e.l4 k ((m.ad++[(dw m.l.Q 0 a,a)]).length:Int) m.L (hn m.l a b m.L).aE (hn m.l a b m.L).a7) _;rw[r,b0];exact ct
  ·show aC _ _ _ _ (hn m.l a b m.L).Q;rw[r];exact oC av.Q P
  ·show A6 _ _ (hn m.l a b m.L).R;rw[r];exact mC cd P
  ·show A5 _ _ (hn m.l a b m.L).M;rw[r];exact cg.bp P
 ·have r:hn m.l a b m.L=m.l.X a:=by unfold hn;rw[an aR]
  refine⟨aw.a (.R i),?_,F⟩;have a4:=av.h i;refine⟨x,bj,aM,k,B,aY,by have:=aw.Y;have:=i.size;omega,?_,?_,?_,?_,bs.h i,bv.h i,V (.R i)⟩
  ·show bQ _ bO (fX x (hn m.l a b m.L).z bj (hn m.l a b m.L).z aM k ((m.ad++[(dw m.l.Q 0 a,a)]).length:Int) m.L (hn m.l a b m.L).aE (hn m.l a b m.L).a7) _;rw[r,b0];exact a4.ab
  ·show aC _ _ _ _ (hn m.l a b m.L).Q;rw[r];exact a4.Q
  ·show A6 _ _ (hn m.l a b m.L).R;rw[r];exact a4.aF
  ·show A5 _ _ (hn m.l a b m.L).M;rw[r];exact a4.aj
def ais{x s:bK}(a9:gD w A bO m)(u:il c d m)(hd:d<=50)(aO:c+jh y.N<=1300)(aA:pD w y x e s):
 ak Y 16 [ad (J ⟨bO,0,ac⟩),al (ep y.I y.V y.aW x e s).toArray] w λp K=>lU A bO w K/\gD K A bO (m.cU y).1/\p=al (mo (m.cU y).2.1 (m.cU y).2.2).toArray:=by
 have bh:bO<A/\A<=w.heap.size:=by obtain⟨_,_,_,_,_,k⟩:=a9;exact⟨k.a7,k.ao⟩
 apply Za;refine bd (S:=ep y.I y.V y.aW x e s) F λbi bk bl bo aC aP=>?_;refine lb Br λL aq br bs aD aR=>?_;have aw:bQ aq L (mo 0 0) 66:=aR;have O:=aC.a aD;have bv:=aC.size;have U:=(aP.h aD).b;have n:=a9.h O;have P:L≠bO:=G;have bj:∀{f:aa} {ay az:Int},lU A bO aq f->gD f A bO (m.cU y).1->ay=(m.cU y).2.1->az=(m.cU y).2.2->fo Y 66 [(0,I X ay),(1,I X az)] f λaS b=>c4 Y 66 (ad (J ⟨L,0,ac⟩)) aS b λb=>bU Y 66 (ad (J ⟨L,0,ac⟩)) b λv K=>K=b/\(lU A bO w b/\gD b A bO (m.cU y).1/\v=al (mo (m.cU y).2.1 (m.cU y).2.2).toArray):=by rintro f ay az h j rfl rfl;have q:=h.ak aw g (by simp;exact P);exact LP (K:=λv b=>lU A bO w b/\gD b A bO (m.cU y).1/\v=al (mo (m.cU y).2.1 (m.cU y).2.2).toArray) q λb r aG=>⟨((ea.R O).a h).ab r G,j.ak r q (xP ..) g P,F⟩
 have a0:y.I≠7->y.I≠8->(dH m.l y).2.1≠0->m.cU y=(m,(dH m.l y).2.1,0):=λR V k=>by unfold cD.cU;rw[an R,an V,au k]
 rw[Go.Lift.M wX E (U.f 0 (show(ep y.I y.V y.aW x e s)[0]? =J (I X y.I)from F)),bm,ai];refine⟨λz=>?_,λz=>?_⟩
 ·rw[aF mR U F];refine(aiB n u hd (aA.h O) aO z).o ?_;rintro p f ⟨h,j,rfl⟩;refine bj h j F ?_;unfold cD.cU;rw[an G,an G,s3 z]
  dsimp only
  split<;>rfl
 refine bG.y (λaI a2=>a2=aq/\aI=[ax (decide (y.I=2\/y.I=3))]) ?_ ?_
 ·rw[bm,ai];refine⟨λt=>⟨F,by simp[t]⟩,λt=>?_⟩;rw[bm];exact⟨F,by simp[t]⟩
 rintro aI aJ a2 ⟨rfl,rfl⟩;simp only [av];rw[ai];refine⟨λt=>?_,λt=>?_⟩
 ·rw[aF mR U F];refine(aiE n u hd G t).o ?_;rintro p f ⟨h,j,rfl⟩;have q:=h.ak aw g (by simp;exact P);refine i1 JH IV g q g (xP ..) F F (Km _ _) λb _ r aG _=>?_;exact⟨((ea.R O).a h).ab r G,j.ak r q (xP ..) g P,F⟩
 rw[bm,ai];refine⟨λa3=>?_,λa3=>?_⟩
 ·rw[aF mR U F];refine(aiV n u hd G (aA.h O) a3).o ?_;rintro p f ⟨h,j,rfl⟩;refine bj h j F ?_;unfold cD.cU;rw[an G,an G,Lr a3]
  dsimp only
  split<;>rfl
 have aK:∀{f:aa},lU A bO a2 f->gD f A bO (m.cU y).1->(0:Int)=(m.cU y).2.1->(0:Int)=(m.cU y).2.2->c4 Y 66 (ad (J ⟨L,0,ac⟩)) (al (mo 0 0).toArray) f λb=>bU Y 66 (ad (J ⟨L,0,ac⟩)) b λv K=>K=b/\(lU A bO w b/\gD b A bO (m.cU y).1/\v=al (mo (m.cU y).2.1 (m.cU y).2.2).toArray):=by intro f h j z t;have q:=h.ak aw g (by simp;exact P);refine i1 JH IV g q g (xP ..) F F (Km _ _) λb _ r aG _=>?_;exact⟨((ea.R O).a h).ab r G,j.ak r q (xP ..) g P,by rw[<-z,<-t]⟩
 have ah:=U.f 1 (show(ep y.I y.V y.aW x e s)[1]? =J (I X y.V)from F);obtain⟨am,ap,M,aL,aM,i⟩:=id n;have aT:=u.l.aE;have aU:=u.l.a7;rw[bm,ai];refine⟨λW=>?_,λW=>?_⟩
 ·have B:=Ls (v:=m.l) (.inl W);have C:m.l.Y y.I y.V={m.l with a7:=y.V}:=by unfold aH.Y;rw[au W]
  rw[Go.Lift.M tI E ah];refine(UT y.V).o ?_;rintro p f ⟨rfl,rfl⟩;rw[dD,bu];refine⟨λS=>?_,λag=>?_⟩
  ·have a:m.cU y=(m,1,0):=by
    have:(dH m.l y).2.1=1:=by rw[B];dsimp only;rw[an (by rw[C];exact λk=>S k.2)]
    rw[a0 G G (by rw[this];decide),this]
   exact bj (.p _) (by rw[a];exact n) (by rw[a]) (by rw[a])
  ·have a:m.cU y=({m with l:=m.l.Y y.I y.V},0,0):=by
    have:(dH m.l y).2.1=0:=by rw[B];dsimp only;rw[au (by rw[C];exact⟨aT,ag⟩)]
    rw[wk G G this,an z,au (.inl W),B]
   rw[Go.Lift.M tI E ah,bn,aj Pe];refine gh (cS:=[I X y.V]) bw g i.ab F F (by simp[fX]) eY λb aV D a4=>?_;have H:dc f b:= .af D i.ab g (gV ..);have a5:=i.bU (q_:=m.l.Y y.I y.V) (MJ:=m.L) (UW:=am) (SH:=ap) (R_:=M) i.ab (gV ..) D (by rw[C];exact⟨a4,oC i.Q H,mC i.aF H,i.aj.bp H⟩);rw[bz (S:=mo 0 0) (iR:=[]) Br Jt F F];exact aK (.fQ D ae i.ab g (gV ..)) (by rw[a];exact⟨am,ap,M,aL,aM,a5⟩) (by rw[a]) (by rw[a])
 rw[bm,ai];refine⟨λa8=>?_,λa8=>?_⟩
 ·have B:=Ls (v:=m.l) (.inr a8);have C:m.l.Y y.I y.V={m.l with aE:=y.V}:=by unfold aH.Y;rw[an W]
  rw[Go.Lift.M tI E ah];refine(akg y.V).o ?_;rintro p f ⟨rfl,bg,rfl,aN⟩;rw[dD,dQ];refine⟨λS=>?_,λag=>?_⟩
  ·have S:¬(1<=y.V/\y.V<=16):=λk=>by rw[aN.2 k]at S;cases S
   have a:m.cU y=(m,1,0):=by
    have:(dH m.l y).2.1=1:=by rw[B];dsimp only;rw[an (by rw[C];exact λk=>S k.1)]
    rw[a0 G G (by rw[this];decide),this]
   exact bj (.p _) (by rw[a];exact n) (by rw[a]) (by rw[a])
  ·have ag:1<=y.V/\y.V<=16:=aN.1 (by cases bg;(·cases ag);rfl);have a:m.cU y=({m with l:=m.l.Y y.I y.V},0,0):=by
    have:(dH m.l y).2.1=0:=by rw[B];dsimp only;rw[au (by rw[C];exact⟨ag,aU⟩)]
    rw[wk G G this,an z,au (.inr a8),B]
   rw[Go.Lift.M tI E ah,bn,aj Pd];refine gh (cS:=[I X y.V]) bw g i.ab F F (by simp[fX]) eY λb aV D a4=>?_;have H:dc f b:= .af D i.ab g (gV ..);have a5:=i.bU (q_:=m.l.Y y.I y.V) (MJ:=m.L) (UW:=am) (SH:=ap) (R_:=M) i.ab (gV ..) D (by rw[C];exact⟨a4,oC i.Q H,mC i.aF H,i.aj.bp H⟩);rw[bz (S:=mo 0 0) (iR:=[]) Br Jt F F];exact aK (.fQ D ae i.ab g (gV ..)) (by rw[a];exact⟨am,ap,M,aL,aM,a5⟩) (by rw[a]) (by rw[a])
 rw[bm,ai];refine⟨λR=>?_,λR=>?_⟩
 ·have a:m.cU y=(m.av.1,m.av.2,0):=by unfold cD.cU;rw[au R]
  refine(aiX n u hd G).o ?_;rintro p f ⟨h,j,rfl⟩;exact bj h (by rw[a];exact j) (by rw[a]) (by rw[a])
 rw[bm,ai];refine⟨λV=>?_,λV=>?_⟩
 ·have a:m.cU y=(m.ar.1,m.ar.2,0):=by unfold cD.cU;rw[an R,au V]
  refine(aiT n u hd G).o ?_;rintro p f ⟨h,j,rfl⟩;exact bj h (by rw[a];exact j) (by rw[a]) (by rw[a])
 ·have a:m.cU y=(m,4,0):=by
   have:(dH m.l y).2.1=4:=by rw[Lt G]
   rw[a0 R V (by rw[this];decide),this]
  exact bj (.p _) (by rw[a];exact n) (by rw[a]) (by rw[a])
end
def pX(w:aa)(A:Nat)(S:List Z)(v:aH):Prop:=∃(e R:bK) (a f g:Z) (b:Nat),S=[ay e,I X v.z,ay R,I X 0,a,ad (J ⟨b,0,ac⟩),I X v.aE,I X v.a7]/\a.oneCell' =af/\aC w (ay e) 1 gI v.Q/\aC w (ay R) 5 bC v.R/\mP w a v.r/\A<=b/\
 bQ w b [f,g] 213/\aC w f 2 fK ie/\aC w g 2 fK iV
variable{v:aH}
def pX.ab{w:aa}{A:Nat}(a:pX w A S v):rE w S v:=by obtain⟨o,b,p,e,f,g,rfl,_,h,i,j,_,k,l,n⟩:=a;exact⟨_,_,_,_,F,⟨_,_,_,F,h,uD b,i,j.1⟩,g,0,e,f,F,k.H.b,l,n⟩
def pX.B{w:aa}{A:Nat}(h:pX w A S v):S.length=8/\∀a∈S,a.oneCell' =true:=by obtain⟨f,g,i,j,y,k,rfl,e,_⟩:=h;refine⟨F,λa b=>?_⟩;simp only [df,ln,or_false]at b;rcases b with rfl|rfl|rfl|rfl|rfl|rfl|rfl|rfl<;>first|rfl|exact e
def ajM(w:aa):ak Y 49 [] w λv s=>O w s/\∃i t u,v=ad (J ⟨i,0,ac⟩)/\w.heap.size<=i/\∀j e,j<w.heap.size->s.grownBy e (J j)->bQ e i [t,u] 213/\aC e t 2 fK ie/\aC e u 2 fK iV:=by
 apply Yh;have a:∀(b:im) (w:aa) (k:aU),fo Y 210 [(0,I .i32 b.1),(1,I .i32 b.2)] w k=k (al (fK b).toArray) w:=λb w k=>bz (iR:=[(0,[I .i32 b.1]),(1,[I .i32 b.2])]) EP adC F F
 rw[a (768,879),a (8203,8207),a (65024,65039)];refine L7 (iR:=[(0,fK (768,879)),(1,fK (8203,8207)),(2,fK (65024,65039))]) (S:=ie.flatMap fK) Ec EM g EP g F F λo C D E f x=>?_;rw[a (4352,4447),a (11904,12350),a (12353,19903),a (19968,40959),a (44032,55203),a (63744,64255),a (65280,65376),a (127744,128591)];refine L7 (iR:=[(0,fK (4352,4447)),(1,fK (11904,12350)),(2,fK (12353,19903)),(3,fK (19968,40959)),(4,fK (44032,55203)),(5,fK (63744,64255)),(6,fK (65280,65376)),(7,fK (127744,128591))]) (S:=iV.flatMap fK)
  Ec EM g EP g F F λp H K L h y=>?_
 rw[bz (iR:=[(0,[aQ (J ⟨o,0,ac⟩) 3 3]),(1,[aQ (J ⟨p,0,ac⟩) 8 8])]) (S:=[aQ (J ⟨o,0,ac⟩) 3 3,aQ (J ⟨p,0,ac⟩) 8 8]) aep adD F F];refine GO (S:=[aQ (J ⟨o,0,ac⟩) 3 3,aQ (J ⟨p,0,ac⟩) 8 8]) F λz M P Q q A=>⟨(f.a h).a q,z,_,_,F,by have:=(f.a h).size;omega,λj R S r=>⟨A.ab r (be (by have:=(f.a h).size;omega)),?_,?_⟩⟩
 ·exact ag.aI (L:=ie) ((x.h (h.a q)).ab r (be G)) rO g
 ·exact ag.aI (L:=iV) ((y.h q).ab r (be (by have:=f.size;omega))) rO g
section
variable{w:aa} {A bO c d:Nat} {m:cD}
def aiO{x:List UInt8}{bS:Int}(y:x.length<=60):ak Y 34 [co x,I X 4,I X bS] w λb j=>O w j/\∃A bO:Nat,b=ad (J ⟨bO,0,ac⟩)/\w.heap.size<=bO/\bO<A/\gD j A bO (cD.fl x bS):=by have z:=nr x;apply Zk;refine(rK x G).o ?_;rintro b B ⟨o,a⟩;have a:=a.aI ix;obtain⟨e,rfl⟩:=a.ay;rw[aS di a];refine(Ki (n:=((bY x).length:Int)) (l:=[]) ⟨G,G⟩ (aC.nil ..) ae).o ?_;rintro b C ⟨h,D,E,rfl,H,r⟩;obtain⟨rfl,k⟩:=r F;rw[aS di (a.h h)];refine(GC (n:=((bY x).length:Int)) (l:=[]) ⟨G,G⟩ (aC.nil ..)).o ?_;rintro b K ⟨i,L,P,rfl,Q,s⟩;obtain⟨rfl,l⟩:=s F;obtain⟨f,rfl⟩:=k.ay;obtain⟨M,rfl⟩:=l.ay;rw[bz (S:=fX e (bY x).length f (bY x).length M (ac,0,0) 0 0 4 bS) (iR:=[(0,[ay e]),(1,dq (bY x).length (ay f) 0),(2,dq (bY x).length (ay M) 0),(6,[I X 4]),(7,[I X bS])]) aeq adF F F];refine GO (S:=fX e (bY x).length f (bY x).length M (ac,0,0) 0 0 4 bS) F λbO u S U g v=>?_;have n:=(o.a h).a i;have V:=n.size;exact⟨n.a g,u.heap.size,bO,F,G,G,e,f,M,(ac,0,0),[],G,a6 _,v,a.h ((h.a i).a g),(k.h (i.a g)).aI d0,ar.bz (l.h g),ar.nil ..,h0.nil _ _ _,trivial⟩
def F5(a2:gD w A bO m)(a3:bL m.l):ak Y 20 [ad (J ⟨bO,0,ac⟩)] w λj u=>O w u/\∃p,j=al p.toArray/\pX u w.heap.size p m.l:=by
 obtain⟨i,h,M,aN,aO,H⟩:=a2;apply Zc;refine bo JN λaP q aR aS S a4=>?_;have v:=H.h S;have U:∀{a:Z},a.oneCell' =af->∀j∈ [ay i,I X (m.l.z:Int),ay h,I X 0,a],j.oneCell' =true:=λs j k=>by simp only [df,ln,or_false]at k;rcases k with rfl|rfl|rfl|rfl|rfl<;>first|rfl|exact s
 refine bG.y (λV b=>∃(o:Nat) (a:Z),V=[ad (J ⟨o,0,ac⟩)]/\O q b/\q.heap.size<=o/\a.oneCell' =af/\ag b o [ay i,I X m.l.z,ay h,I X 0,a]/\ar b q.heap.size 49 2 a ah m.l.r) ?_ ?_
 ·apply bE.h;have e:O q q.drew:=(O.p q).C;have a5:=e.size;rw[bn,b2 oR iF (v.ab.H.b.f 0 F) e,bn,aK (λb s C=>aj w1) e,gX (S:=dq m.l.z (ay h) 0) pJ (cA.cG (v.ab.H.b.E 1) 3) F e,
   bn,aK (λb s C=>aj sA) e,gX (S:=dq m.l.z (ay M) 0) mg (cA.cG (v.ab.H.b.E 4) 3) F e]
  have W:∀{b:aa},O q b->ak Y 33 [al (dq m.l.z (ay M) 0).toArray] b λj u=>O b u/\ar u b.heap.size 49 2 j ah m.l.r:=λa8=>Kf ⟨_,F,uD M,(v.aj.h a8).1⟩ a3.M;refine⟨(W e).o ?_,?_⟩
  ·rintro j ai ⟨t,n⟩;have f:=e.a t;have a9:=f.size;have k:=n.M.2;obtain⟨a,rfl⟩:=n.ay;refine⟨f,?_⟩;rw[aK (v:=al #[ay i,I X m.l.z,ay h,I X 0,ay a]) (λb s C=>bz (S:=[ay i,I X m.l.z,ay h,I X 0,ay a]) (iR:=[(0,[ay i]),(1,dq m.l.z (ay h) 0),(2,[ay a])]) ES PQ F F) f];refine bo ES λo K aA ap r x=>⟨f.a r,?_⟩;refine aZ (cS:=[ay i,I X m.l.z,ay h,I X 0,ay a]) Qg g x F F ae (U k) λaB aC y L=>?_;exact⟨o,_,F,(f.a r).ab y λau z=>by cases z;omega,G,k,L,(zW (n.h r) y (vY n G)).o a5⟩
  ·refine bo ES λo K aA ap r x=>⟨e.a r,?_⟩;refine(W (e.a r)).o ?_;rintro j ai ⟨t,n⟩;have f:=(e.a r).a t;have k:=n.M.2;obtain⟨a,rfl⟩:=n.ay;refine⟨f,?_⟩;rw[aK (v:=al #[ay i,I X m.l.z,ay h,I X 0,ay a]) (λb s C=>bz (S:=[ay i,I X m.l.z,ay h,I X 0,ay a]) (iR:=[(0,[ay i]),(1,dq m.l.z (ay h) 0),(2,[ay a])]) ES PQ F F) f];refine aZ (cS:=[ay i,I X m.l.z,ay h,I X 0,ay a]) Qg g (x.h t) F F ae (U k) λaB aC y L=>?_;exact⟨o,_,F,f.ab y λau z=>by cases z;omega,G,k,L,(n.ab y (fC n G)).o G⟩
 rintro V aq b ⟨o,a,rfl,D,aT,k,x,aw⟩;simp only [av];have az:=v.h D;have e:O b b.drew:=(O.p b).C;apply bE.h;rw[gX qC x.b F e,bn,b2 Pd E (az.ab.H.b.f 10 F) e,bn,b2 Pe E (az.ab.H.b.f 11 F) e];refine(ajM b.drew).o ?_;rintro aU ai ⟨t,B,aD,aG,rfl,aV,aH⟩;have f:=e.a t;refine⟨f,?_⟩;rw[aK (v:=al #[ay i,I X m.l.z,ay h,I X 0,a,ad (J ⟨B,0,ac⟩),I X m.l.aE,I X m.l.a7]) (λb s C=>bz (S:=[ay i,I X m.l.z,ay h,I X 0,a,ad (J ⟨B,0,ac⟩),I X m.l.aE,I X m.l.a7]) (iR:=[(0,[ay i,I X m.l.z,ay h,I X 0,a]),(1,[ad (J ⟨B,0,ac⟩)]),(2,[I X m.l.aE]),(3,[I X m.l.a7])]) JN adE F F) f];have aI:∀j∈ [ay i,I X (m.l.z:Int),ay h,I X 0,a,ad (J ⟨B,0,ac⟩),I X m.l.aE,I X m.l.a7],j.oneCell' =true:=λj a0=>by simp only [df,ln,or_false]at a0;rcases a0 with rfl|rfl|rfl|rfl|rfl|rfl|rfl|rfl<;>first|rfl|exact k
 have aW:=D.size;have a9:=f.size;refine er Qh A9 g (a4.h (D.a f)) F F aI λK ap P aY=>?_;have R:O w K:=((S.a D).a f).ab P λau z=>by cases z;omega
 have ba:=e.size;obtain⟨aJ,aL,aM⟩:=aH _ _ G P;exact⟨R,_,F,i,h,a,aD,aG,B,F,k,H.Q.h R,H.aF.h R,ar.bz ((aw.h f).ab P (fC (aw.h f) G)),G,aJ,aL,aM⟩
def TF(g:gD w A bO m)(b:bL m.l):ak Y 14 [ad (J ⟨bO,0,ac⟩)] w λa e=>O w e/\iX e w.heap.size a m.l.eq:=by apply Zb;refine(F5 g b).o ?_;rintro a k ⟨f,n,rfl,h⟩;refine(akJ h.ab b).o ?_;rintro a o ⟨i,j⟩;exact⟨f.a i,j.o eV f.size⟩
end
abbrev pC:=gE×bK×bK×bK
def lC(x:pC):List Value:=ep x.1.I x.1.V x.1.aW x.2.1 x.2.2.1 x.2.2.2
def Fj:eR lC 6:=⟨λ_=>F,λb c a=>by simp[lC,ep]at a;rcases a with rfl|rfl|rfl|rfl|rfl|rfl<;>rfl⟩
def p4:eh Y 24 57 6 lC [I X 0,I X 0,I X 0,aQ none 0 0,aQ none 0 0,aQ none 0 0]:=⟨Ea,xb,g,y3,F,Fj,mR,by rw[acK];decide,λb a=>by simp at a;rcases a with rfl|rfl<;>rfl⟩
structure pE (w:aa) (x:pC):Prop where
 N:aC w (ay x.2.1) 3 cp x.1.N
 Q:aC w (ay x.2.2.1) 1 iY x.1.Q
 bZ:aC w (ay x.2.2.2) 5 bC x.1.bZ
def pE.h{w a:aa}{x:pC}(h:pE w x)(e:O w a):pE a x:=⟨h.N.h e,h.Q.h e,h.bZ.h e⟩
def p7(l:List a_):Nat:=(l.map λa=>a.2.2.length+1).sum
def sY(l:List aG):Nat:=(l.map λa=>a.c5.length+1).sum
def Cx(a:gE):Nat:=p7 a.N+sY a.bZ
def jW(l:List gE):Nat:=(l.map Cx).sum
def aiY{x:a_}{l:List a_}(a:l[i]? =J x):p7 (l.take (i+1))=p7 (l.take i)+(x.2.2.length+1):=by unfold p7;rw[c9 a,dJ,yh];simp
def aiZ{x:aG}{l:List aG}(a:l[i]? =J x):sY (l.take (i+1))=sY (l.take i)+(x.c5.length+1):=by unfold sY;rw[c9 a,dJ,yh];simp
def TK{x:gE}{l:List gE}(a:l[i]? =J x):jW (l.take (i+1))=jW (l.take i)+Cx x:=by unfold jW;rw[c9 a,dJ,yh];simp
def afV(l:List a_):jh l<=p7 l:=by
 induction l with
 |nil=>exact a6 _
 |cons a l ih=>rw[xp];unfold p7 at ih⊢;rw[eB,jJ];omega
structure wN (y:gE):Prop where
 L:∀x∈y.bZ,x.c5.length<=200
 z:Cx y<=50000
variable{e:List pC}
def ahY(v:aC w x 6 lC e)(aj:∀a∈e,pE w a):ak Y 24 [x,I X 12] w λam an=>O w an/\∃n,am=ax n/\(n=ao->e.length<=12/\(∀a∈e,wN a.1)/\jW (e.map (·.1))<=1000):=by
 have k:∀{o:aa},O w o->O w o/\∃n,ax af=ax n/\(n=ao->e.length<=12/\(∀a∈e,wN a.1)/\jW (e.map (·.1))<=1000):=λap=>⟨ap,af,F,λy=>by cases y⟩;apply Y_;rw[aS p4.m v,cb,ai];refine⟨λ_=>k (O.p w),λa7=>?_⟩;rw[aS p4.m v];refine ba.bJ (λz h o=>O w o/\∃d:Nat,d+z=e.length/\h=[I X (jW ((e.take d).map (·.1)):Nat),I X d]/\(∀a∈e.take d,wN a.1)/\jW ((e.take d).map (·.1))<=d*50000)
  ⟨e.length,O.p _,0,G,F,ae,by simp[jW]⟩ ?_
 rintro z h U o ⟨A,d,a8,rfl,B,aq⟩;simp only [av,bA];rw[aR,ai];refine⟨λa9=>?_,λaA=>?_⟩
 ·obtain⟨a,t⟩:∃a,e[d]? =J a:=⟨_,aX G⟩;have j:=aj a (cl t);refine p4.dO (v.h A) t F λC p ar aB aE D=>?_;have f:=A.a ar;have V:∀{i:aa},O p i->i.cell? ⟨C,3,ac⟩=J (ay a.2.1):=λb=>(D.h b).b.f 3 (show(lC a)[3]? =J (ay a.2.1)from F);have au:p.cell? ⟨C,4,ac⟩=J (ay a.2.2.1):=D.b.f 4 (show(lC a)[4]? =J (ay a.2.2.1)from F);have W:∀{i:aa},O p i->i.cell? ⟨C,5,ac⟩=J (ay a.2.2.2):=λb=>(D.h b).b.f 5 (show(lC a)[5]? =J (ay a.2.2.2)from F);rw[M Bd ru (V (O.p _)),aS k5.m (j.N.h f),cb,ai];refine⟨λ_=>k f,λaF=>?_⟩;rw[M Ei vc au,aS fW (j.Q.h f),cb,ai];refine⟨λ_=>k f,λaG=>?_⟩;rw[M yL qD (W (O.p _)),aS dZ.m (j.bZ.h f),cb,ai];refine⟨λ_=>k f,λaH=>?_⟩;rw[M Bd ru (V (O.p _)),aS k5.m (j.N.h f)];refine ba.bJ (λE h i=>O p i/\∃c:Nat,c+E=a.1.N.length/\h=[I X ((jW ((e.take d).map (·.1))+p7 (a.1.N.take c):Nat):Int),I X c]/\p7 (a.1.N.take c)<=c*401)
   ⟨a.1.N.length,O.p _,0,G,by simp[p7],by simp[p7]⟩ ?_
  rintro E h U i ⟨l,c,aI,rfl,aw⟩;simp only [av,bA];rw[aR,ai];refine⟨λaJ=>?_,λaK=>?_⟩
  ·obtain⟨b,m⟩:∃b,a.1.N[c]? =J b:=⟨_,aX G⟩;have q:=aiY m;refine k5.dO (j.N.h (f.a l)) m F λaz a0 r a2 a3 H=>?_;have s:=H.b.f 2 (show(cp b)[2]? =J (co b.2.2)from F);rw[M mT ga s,mA gy,cb,ai];refine⟨λ_=>k ((f.a l).a r),λa4=>?_⟩;rw[M mT ga s,mA gy,aD,aD,aD];exact⟨E-1,G,l.a r,c+1,G,by rw[q];simp;omega,by rw[q];omega⟩
  ·rw[d_ (l:=a.1.N) G]at aw⊢;rw[M yL qD (W l),aS dZ.m (j.bZ.h (f.a l))];refine ba.bJ (λK h ag=>O p ag/\∃c:Nat,c+K=a.1.bZ.length/\h=[I X ((jW ((e.take d).map (·.1))+p7 a.1.N+sY (a.1.bZ.take c):Nat):Int),I X c]/\sY (a.1.bZ.take c)<=c*201/\∀b∈a.1.bZ.take c,b.c5.length<=200)
    ⟨a.1.bZ.length,l,0,G,by simp[sY],by simp[sY],ae⟩ ?_
   rintro K h U ag ⟨u,ah,aL,rfl,a5,L⟩;simp only [av,bA];rw[aR,ai];refine⟨λaM=>?_,λaN=>?_⟩
   ·obtain⟨b,m⟩:∃b,a.1.bZ[ah]? =J b:=⟨_,aX G⟩;have q:=aiZ m;refine dZ.dO (j.bZ.h (f.a u)) m F λaz a0 r a2 a3 H=>?_;have s:=H.b.f 4 (show(bC b)[4]? =J (co b.c5)from F);rw[M pM ga s,mA gy,cb,ai];refine⟨λ_=>k ((f.a u).a r),λa4=>?_⟩;rw[M pM ga s,mA gy,aD,aD,aD];refine⟨K-1,G,u.a r,ah+1,G,by rw[q];simp;omega,by rw[q];omega,λP g=>?_⟩;rw[c9 m]at g;rcases b9.1 g with g|g
    ·exact L P g
    ·rw[cL.1 g];omega
   ·rw[d_ (l:=a.1.bZ) G]at a5 L⊢;have R:=TK (l:=e.map (·.1)) (i:=d) (x:=a.1) (by rw[h5,t];rfl);rw[<-qp,<-qp]at R;have S:Cx a.1=p7 a.1.N+sY a.1.bZ:=rfl;rw[aD];refine⟨z-1,G,f.a u,d+1,G,by rw[R,S];simp;omega,λP g=>?_,by rw[R,S];omega⟩;rw[c9 t]at g;rcases b9.1 g with g|g
    ·exact B P g
    ·rw[cL.1 g];exact⟨L,by rw[S];omega⟩
 ·rw[d_ G]at B aq⊢;rw[cb];exact⟨A,_,F,λy=>⟨G,B,by have:=of_decide_eq_false y;omega⟩⟩
def KS{s:List UInt8}{bS:Int}(i:aC w x 6 lC e)(j:∀c∈e,pE w c):
 ak Y 6 [al #[co s,I X bS],x] w λf k=>O w k/\∃d,f=ax d/\(d=ao->s.length<=60/\(0<=bS/\bS<=200)/\e.length<=12/\(∀c∈e,wN c.1)/\jW (e.map (·.1))<=1000):=by
 apply Zs;refine bd (S:=[co s,I X bS]) F λq r t u b g=>?_;have l:=g.b.f 0 (show [co s,I X bS][0]? =J (co s)from F);have h:=g.b.f 1 (show [co s,I X bS][1]? =J (I X bS)from F);rw[M Jc ga l,mA gy,cb,ai];refine⟨λ_=>⟨b,af,F,λa=>by cases a⟩,λv=>?_⟩;rw[M Er E h,aR,ai];refine⟨λ_=>⟨b,af,F,λa=>by cases a⟩,λy=>?_⟩;rw[M Er E h,cb,ai];refine⟨λ_=>⟨b,af,F,λa=>by cases a⟩,λz=>?_⟩;refine(ahY (i.h b) λc m=>(j c m).h b).o ?_;rintro f A ⟨n,d,rfl,o⟩;exact⟨b.a n,d,F,λa=>⟨G,⟨G,G⟩,o a⟩⟩
end aY
end Go.Proofs.YtoddhldofgfdmaaGreatDoor
namespace Go.Lift
open Go Go.RowKit Go.ChangeShapes Go.WideShapes Go.ChangeAt
def J2{x:bq}{e:FuncId}{c:Func}{d:Code}{s:aa}{K:aU}{t:Ending->aa->Prop}{args:List Z}(h:x.funcs[e]? =J c)(i:(c.name== "runtime.NumGoroutine")=ao)(j:c.body=J d)
 (a:ak x e args s K)(k:∀f b,K f b->t (.returned f) b):Calls x e args.toArray s t:=by
 have l:c.name≠ "runtime.NumGoroutine":=by simpa using i
 unfold ak callFunc at a;simp[h,l,j,program,Sem.run]at a;exact Calls.mono a λm b g=>by cases m<;>first|exact k _ _ g|exact(g:False).elim
end Go.Lift
namespace Go.Proofs.YtoddhldofgfdmaaGreatDoor
section
namespace bB
open Go Go.Lift Go.RowKit Go.ChangeShapes Go.WideShapes Go.ChangeAt Go.bW Go.cB Go.Proofs.YtoddhldofgfdmaaGreatDoor Go.Proofs.YtoddhldofgfdmaaGreatDoor.aY
def aht:Y.globalNamed "bodkin/width.plainZero"=J 0:=D
def ahr:Y.globalNamed "bodkin/width.plainWide"=J 1:=D
def ahu:(Y.globals[0]?).map (·.type)=J 442:=D
def ahs:(Y.globals[1]?).map (·.type)=J 443:=D
variable{x:aa}{e:List MemPlace}
def am9{bc:List (String×DataW Unit)}(a:uU Y x (("bodkin/width.plainZero",Rows.laid_bodkin_width_plainZero)::bc) e):cA x 0 0 (b0.ie.flatMap b0.fK)/\∃b,uU Y x bc b:=
 S3 (da:=b0.ie) (nN:= .i32) aht ahu Tryz.underlying442 D Tryz.underlying441 F F N_ N_ D D D a
def amR{bc:List (String×DataW Unit)}(a:uU Y x (("bodkin/width.plainWide",Rows.laid_bodkin_width_plainWide)::bc) e):cA x 1 0 (b0.iV.flatMap b0.fK)/\∃b,uU Y x bc b:=
 S3 (da:=b0.iV) (nN:= .i32) ahr ahs Tryz.underlying443 D Tryz.underlying441 F F N_ N_ D D D a
def zm(a:laidMetH Y [("bodkin/utf.most",Rows.laid_bodkin_utf_most),("bodkin/width.plainZero",Rows.laid_bodkin_width_plainZero),("bodkin/width.plainWide",Rows.laid_bodkin_width_plainWide)] x):b0.fV x/\hJ x:=by obtain⟨g,b,_⟩:=(a:laidMet Y _ x);obtain⟨c,_,d⟩:=aiP b;obtain⟨e,_,f⟩:=am9 d;exact⟨⟨e,(amR f).1⟩,c⟩
noncomputable def ug(a:Os):World:=
 {anJ Y a ⟨#[],#[],[]⟩with heap:=(((anJ Y a ⟨#[],#[],[]⟩).heap.modify 0 (KJ (b0.ie.flatMap b0.fK))).modify 1 (KJ (b0.iV.flatMap b0.fK))).modify 2 (KJ [I .i32 127,I .i32 2047,I .i32 65535,I .i32 1114111])}
variable{e:Nat->Bool}
def Uo{H:Type}{V:cv×Z->H}{hd:Bool}:sw V Y x e hd 70 λa=>∃k:a_,a=cp k/\True:=by
 intro s a t b;obtain⟨c,u,v,l⟩:=nU (i:=0) (off:=0) (bk:=1) (de:=3) D b;obtain⟨_,w,y,m⟩:=nU (i:=1) (off:=1) (bk:=1) (de:=3) D b;obtain⟨_,z,A,n⟩:=nU (i:=2) (off:=2) (bk:=1) (de:=9) D b;rw[show Y.cellsOf 70=3 from D]at c
 match a,c with
 |[B,C,E],_=>obtain⟨o,h,_⟩:=r3 (k6:=X) D _ _ _ l;obtain⟨q,i,_⟩:=r3 (k6:=X) D _ _ _ m;obtain⟨r,j,_⟩:=LO D _ _ _ n;simp at h i j;subst h i j;exact⟨(o,q,r.data.toList),by rw[cp,<-Hl],trivial⟩
def aj9{H:Type}{V:cv×Z->H}{hd:Bool}:sw V Y x e hd 125 λf=>∃n:aG,f=aY.bC n/\True:=by
 intro z f A a;obtain⟨h,B,C,o⟩:=nU (i:=0) (off:=0) (bk:=1) (de:=3) D a;obtain⟨_,E,F,p⟩:=nU (i:=1) (off:=1) (bk:=1) (de:=3) D a;obtain⟨_,G,K,q⟩:=nU (i:=2) (off:=2) (bk:=1) (de:=3) D a;obtain⟨_,L,M,r⟩:=nU (i:=3) (off:=3) (bk:=1) (de:=3) D a;obtain⟨_,O,P,s⟩:=nU (i:=4) (off:=4) (bk:=1) (de:=9) D a;rw[show Y.cellsOf 125=5 from D]at h
 match f,h with
 |[Q,R,S,U,W],_=>obtain⟨t,i,_⟩:=r3 (k6:=X) D _ _ _ o;obtain⟨u,j,_⟩:=r3 (k6:=X) D _ _ _ p;obtain⟨v,k,_⟩:=r3 (k6:=X) D _ _ _ q;obtain⟨w,l,_⟩:=r3 (k6:=X) D _ _ _ r;obtain⟨y,m,_⟩:=LO D _ _ _ s;simp at i j k l m;subst i j k l m;exact⟨⟨t,u,v,w,y.data.toList⟩,by rw[aY.bC,<-Hl],trivial⟩
def aj_{H:Type}{V:cv×Z->H}{hd:Bool}:sw V Y x e hd 3 λa=>∃b:Int,a=iY b/\True:=λg a h c=>by obtain⟨d,f,_⟩:=r3 (k6:=X) D _ _ _ c;exact⟨d,f,trivial⟩
def LL{H:Type}{V:cv×Z->H}{hd:Bool}:sw V Y x e hd 57 λf=>∃h:pC,f=lC h/\pE x h:=by
 intro O f P b;obtain⟨i,Q,R,q⟩:=nU (i:=0) (off:=0) (bk:=1) (de:=3) D b;obtain⟨_,S,U,r⟩:=nU (i:=1) (off:=1) (bk:=1) (de:=3) D b;obtain⟨_,W,ab,s⟩:=nU (i:=2) (off:=2) (bk:=1) (de:=3) D b;obtain⟨_,ae,ag,t⟩:=nU (i:=3) (off:=3) (bk:=1) (de:=54) D b;obtain⟨_,ah,ai,u⟩:=nU (i:=4) (off:=4) (bk:=1) (de:=55) D b;obtain⟨_,aj,ak,v⟩:=nU (i:=5) (off:=5) (bk:=1) (de:=34) D b;rw[show Y.cellsOf 57=6 from D]at i
 match f,i with
 |[am,an,ap,aq,ar,au],_=>obtain⟨w,j,_⟩:=r3 (k6:=X) D _ _ _ q;obtain⟨y,l,_⟩:=r3 (k6:=X) D _ _ _ r;obtain⟨z,m,_⟩:=r3 (k6:=X) D _ _ _ s;obtain⟨A,n,B,C,_⟩:=LN hA ir g Uo _ _ _ t;obtain⟨E,o,G,K,_⟩:=LN fW bw g aj_ _ _ _ u;obtain⟨a,p,L,M,_⟩:=LN O7 EL g aj9 _ _ _ v;simp at j l m n o p;subst j l m n o p;exact⟨(⟨w,y,z,B,G,L⟩,A,E,a),F,⟨C,K,M⟩⟩
def LM{H:Type}{V:cv×Z->H}{hd:Bool}:sw V Y x e hd 23 λa=>∃(g:List UInt8) (h:Int),a=[co g,I X h]:=by
 intro p a q b;obtain⟨c,r,s,i⟩:=nU (i:=0) (off:=0) (bk:=1) (de:=9) D b;obtain⟨_,t,u,m⟩:=nU (i:=1) (off:=1) (bk:=1) (de:=3) D b;rw[show Y.cellsOf 23=2 from D]at c
 match a,c with
 |[v,w],_=>obtain⟨n,d,_⟩:=LO D _ _ _ i;obtain⟨o,f,_⟩:=r3 (k6:=X) D _ _ _ m;simp at d f;subst d f;exact⟨n.data.toList,o,by rw[<-Hl]⟩
end bB
namespace bB
open Go Go.Lift Go.RowKit Go.ChangeShapes Go.WideShapes Go.ChangeAt
def cR{x e:Bool}(a:x=af)(b:e=af):(x&&e)=true:=by rw[a,b];rfl
def Ll:Tryz.pinned.checked.prog.funcs.any XX=false:=D
def KB{x:bq}{b:OpenClaim}(d:x.funcs.any XX=ao)(e:b.start= .entering):ao=b.goesBy x:=by
 have f:∀a:Nat,(x.funcs[a]?).any XX=false:=λa=>by
  cases g:x.funcs[a]? with
  |none=>rfl
  |some k=>
   obtain⟨h,i⟩:=iz.1 g;have:=(Array.any_eq_false.1 d) a h;rw[i]at this
   simpa using this
 have j:∀c,x.goes c=false:=λc=>by unfold Program.goes;rw[d,Bool.and_false,Bool.or_false];exact List.any_eq_false.2 λa _=>by rw[f];simp
 unfold OpenClaim.goesBy Program.goesAt Program.goesFrom;rw[e];cases x.funcNamed b.func with
 |none=>rfl
 |some c=>simp[j]
def LX:mapsRowed Y=true:=D
def KE:Y.stopsHeard=true:=D
def Kr:Y.mayEnter=true:=D
def K2:af=Tryz.pinned.checked.prog.looks []:=D
def K5:Tryz.pinned.checked.prog.mainIs=J (af,"5a433605d8d727df1b1aa9efdf0595aa7e37f9770103e4ddd0d56927e0df9308".toList):=D
end bB
end
namespace aY
open Go.Lift Go.RowKit Go.bW Go.cB Go.Proofs.YtoddhldofgfdmaaGreatDoor.b0
abbrev uB:List UInt8:=[97,98,10,99,100]
abbrev wq:aH:=⟨[97,98,10,99,100],[],[(1,4)],4,0⟩
abbrev F_:gE:=⟨2,1,4,[],[],[]⟩
def ai2:cD.fl uB 0=⟨⟨[97,98,10,99,100],[],[],4,0⟩,[],[],[],0⟩:=by unfold cD.fl;rw[show bY uB=[97,98,10,99,100]from by decide+kernel]
def VP:(cD.fl uB 0).cU F_=(⟨wq,[],[],[],1⟩,0,0):=by
 rw[ai2];have a:dH ⟨[97,98,10,99,100],[],[],4,0⟩ F_=(wq,0,0):=by
  rw[zJ F];have c:dy [97,98,10,99,100] [1,4]=0:=by decide+kernel
  have b:cu [97,98,10,99,100] 1=(1,0)/\cu [97,98,10,99,100] 4=(4,0):=by decide+kernel
  dsimp only
  rw[c,b.1,b.2];have d:gK ((⟨[97,98,10,99,100],[],[],4,0⟩:aH).z) ([]++[((1:Int),(4:Int))])=0:=by decide+kernel
  have e:fE ([]++[((1:Int),(4:Int))])=[(1,4)]:=by decide+kernel
  dsimp only
  rw[d,e]
  rfl
 rw[wk g g (by rw[a]),a]
 rfl
variable{w:aa}
def Ms(c:fV w)(o:hJ w):ak Y 7 [] w λa e=>O w e/\a=ax true:=by
 apply Zu;refine(RF (s:=uB) (bS:=0) c o g ⟨g,g⟩).o ?_;rintro a ai ⟨p,z,A,aj,rfl,q,r,s⟩;rw[aN,aO,bz (S:=ep 2 1 4 (ac,0,0) (ac,0,0) (ac,0,0)) (iR:=[(0,[I X 2]),(1,[I X 1]),(2,[I X 4])]) y3 PH F F];refine(Ry (dm:=w) (c:=60) (d:=0) (y:=F_) (e:=(ac,0,0)) (r:=(ac,0,0)) (bZ:=(ac,0,0)) s (F7 g ⟨g,g⟩) g g c o p ⟨q,r⟩ ⟨aC.nil ..,aC.nil ..,aC.nil ..,ae⟩).o ?_;have E:A<z:=by obtain⟨_,_,_,_,_,G⟩:=s;exact G.be
 rintro a aw ⟨H,t,b,f,N,rfl,_⟩;have K:=H.ke p ⟨q,r⟩ E;rw[VP]at t⊢;have L:lL 0 0 b f b N=al (mr 0 0 b f b N).toArray:=by unfold lL;rw[an g]
 dsimp only
 rw[L];refine cj (cS:=mr 0 0 b f b N) rB xc g F F (vx _ _ _ _ _ _) λay az a0 a2 u Q=>?_;have h:bL wq:=by have:=((F7 (s:=uB) (bS:=0) g ⟨g,g⟩).cU (y:=F_) (k:=0) g g).l;rw[VP]at this;exact this
 have i:=t.h u;have j:=K.a u;refine(Wd (q:=4) (fu:=4) (aJ:=0) i h (c.h j) g (by decide+kernel) (.inl F)).o ?_;rintro a a7 ⟨S,rfl⟩;rw[aN,aO];have U:wq.aC 4 0=(0,2):=by decide+kernel
 dsimp only
 rw[U];refine cj (cS:=eU (0,2)) mX pT g F F (o1.B _) λa9 v aA aB V x=>?_;rw[aF ju x.b F];have k:=S.a V;have W:((0,2,1,4):f1)∈gT (wq.B (wq.O 4)) 0:=by decide+kernel
 have ab:wq.U 4=0:=by decide+kernel
 have m:=amF (w:=v) (q:=4) (mk:=(0,2,1,4)) (i.h k) h (c.h (j.a k)) g W ⟨g,g⟩
 dsimp only at m
 rw[ab]at m;refine ak.o (K:=λa e=>O v e/\a=a1 #[I X 4,I X 0]) ?_ ?_
 ·apply m.o;rintro a ag ⟨d,rfl⟩;exact⟨d,by rw[show(a8 (([97,98,10,99,100]:List Int).take (4:Int).toNat)).length=4 from by decide+kernel];rfl⟩
 rintro a ag ⟨d,rfl⟩;have n:=k.a d;rw[aN,aO,bm,h4 F,M I9 I6 ((Q.h n).b.f 0 F),bm,h4 F,bm,h4 F,bm,h4 F,bm,h4 F,
  aF ju (x.h d).b F,bz (S:=eU (0,2)) (iR:=[(1,[I X 2])]) mX yX F F,L5,h4 F]
 refine(amE (i.h n) h).o ?_;rintro a aE ⟨ah,rfl⟩
 dsimp only
 rw[show wq.eq.length=1 from by decide+kernel,bm];exact⟨(j.a n).a ah,F⟩
structure kd (dm w:aa) (jP ch cy hB bO:Nat) (m:cD) (c d:Nat):Prop where
 N:O dm w
 bH:dm.heap.size<=ch/\dm.heap.size<=cy
 Cw:dm.heap.size<=bO
 vs:hI w jP ch cy m
 q1:gD w hB bO m
 I:il c d m
 ai:jP<=bO/\bO<hB
def kd.h{dm a:aa}{b f g i j:Nat}{m:cD}{c d:Nat}(h:kd dm w b f g i j m c d)(e:O w a):kd dm a b f g i j m c d:=⟨h.N.a e,h.bH,h.Cw,h.vs.h e,h.q1.h e,h.I,h.ai⟩
def QQ{s:List UInt8}{bS:Int}(v:fV w)(x:hJ w)(g:s.length<=60)(m:0<=bS/\bS<=200):
 ak Y 13 [al #[co s,I X bS]] w λh y=>∃b c i j d,h=a1 #[ad (J ⟨c,0,ac⟩),ad (J ⟨d,0,ac⟩)]/\kd w y b c i j d (cD.fl s bS) 60 0:=by
 apply Zq;refine bd (S:=[co s,I X bS]) F λb n D H e o=>?_;have p:∀{a:aa},O n a->a.cell? ⟨b,0,ac⟩=J (co s):=λk=>(o.h k).b.f 0 F;have q:∀{a:aa},O n a->a.cell? ⟨b,1,ac⟩=J (I X bS):=λk=>(o.h k).b.f 1 F;rw[M Jc ga (p (O.p _)),M Er E (q (O.p _))];refine(RF (v.h e) (x.h e) g m).o ?_;rintro h z ⟨f,r,c,i,rfl,K,L,t⟩;rw[aN,aO,bs,bu];refine⟨λl=>aL F l,λ_=>?_⟩;rw[M Jc ga (p f),M Er E (q f)];refine(aiO g).o ?_;rintro h P ⟨u,j,d,rfl,Q,A,B⟩;have R:=e.size;have S:=f.size;have U:r<=z.heap.size:=by obtain⟨_,_,_,_,_,l⟩:=t;exact l.ao
 exact⟨r,c,i,j,d,F,(e.a f).a u,⟨G,G⟩,G,t.h u,B,F7 g m,G,A⟩
variable{n k i t s x e:Nat}{c d u:bK}
def kd.cw{f:aa}{g:cD}{y:gE}(a:kd f w n k i t s g x e)(o:x+jh y.N<=1300)(hd:e<=49)(p:fV f)(q:hJ f)(r:pD w y c d u):
 ak Y 15 [ad (J ⟨k,0,ac⟩),al (ep y.I y.V y.aW c d u).toArray] w λj b=>nD n k i w b/\O f b/\hI b n k i (g.cU y).1/\gD b t s g/\yC j g y:=by
 have v:k<n/\i<n:=by obtain⟨_,_,_,_,_,a⟩:=a.vs;exact⟨a.be,a.a6⟩
 have B:=a.ai;refine(Ry a.vs a.I o G p q a.N a.bH r).o ?_;rintro j b ⟨h,z,A⟩;refine⟨h,h.ke a.N a.bH v.1,z,a.q1.bS h (λC l=>?_) (λc m=>?_),A⟩
 ·simp only [df,ln,or_false]at l;rcases l with rfl|rfl<;>exact⟨G,G⟩
 ·simp only [df,ln,or_false]at m;rcases m with rfl|rfl<;>decide
def kd.cA{b:aa}{a:cD}{y:gE}(B:O b w)(C:b.heap.size<=k/\b.heap.size<=i)(m:b.heap.size<=s)(o:hI w n k i (a.cU y).1)(p:gD w t s a)(D:n<=s/\s<t)(q:il x e a)(r:x+jh y.N<=1300)(hd:e<=49)(E:pD w y c d u):
 ak Y 16 [ad (J ⟨s,0,ac⟩),al (ep y.I y.V y.aW c d u).toArray] w λv f=>lU t s w f/\kd b f n k i t s (a.cU y).1 (x+jh y.N) (e+1)/\v=al (mo (a.cU y).2.1 (a.cU y).2.2).toArray:=by
 have Q:k<n/\i<n:=by obtain⟨_,_,_,_,_,z⟩:=o;exact⟨z.be,z.a6⟩
 refine(ais p q G r E).o ?_;rintro v f ⟨h,H,rfl⟩;have K:∀c∈ [182,70,190],¬pW w c s:=by obtain⟨R,S,M,U,V,L⟩:=p;rintro c j ⟨W,A⟩;rw[L.ab]at A;cases A;exact aL j g
 refine⟨h,⟨h.h B G (λP l=>by rw[cL.1 l];exact m),C,m,o.bS h (λP l=>?_) (λc j=>?_) G,H,q.cU (a6 _) r,D⟩,F⟩
 ·rw[cL.1 l];exact⟨G,G,K⟩
 ·rw[cL.1 j];decide
def akF(a c d e f N:Int):∃b:List Z,lL a c d e f N=al b.toArray/\b.length=6/\(∀h∈b,h.oneCell' =af)/\b[0]? =J (I X a)/\(a=0->b=mr 0 c d e f N):=by
 by_cases g:a=0
 ·exact⟨mr 0 c d e f N,by unfold lL;rw[an G],F,vx _ _ _ _ _ _,by rw[g];rfl,λ_=>F⟩
 ·exact⟨mr a 0 0 0 0 0,by unfold lL;rw[au g],F,vx _ _ _ _ _ _,F,λi=>aL i g⟩
def kd.o{dm w:aa}{a b e f g c d i j:Nat}{m:cD}(h:kd dm w a b e f g m c d)(k:c<=i)(hd:d<=j):kd dm w a b e f g m i j:=⟨h.N,h.bH,h.Cw,h.vs,h.q1,h.I.o k hd,h.ai⟩
variable{e:List pC}
def TJ{x:pC}(d:e[i]? =J x):60+jW ((e.take i).map (·.1))+jh x.1.N<=60+jW ((e.take (i+1)).map (·.1))/\jW ((e.take (i+1)).map (·.1))<=jW (e.map (·.1)):=by
 have f:=TK (l:=e.map (·.1)) (i:=i) (x:=x.1) (by rw[h5,d];rfl);rw[<-qp,<-qp]at f;have h:=afV x.1.N;have j:Cx x.1=p7 x.1.N+sY x.1.bZ:=rfl;refine⟨G,?_⟩;have:∀(a b:List gE),jW a<=jW (a++b):=λa b=>by unfold jW;rw[dJ,yh];omega
 have c:=this ((e.take (i+1)).map (·.1)) ((e.drop (i+1)).map (·.1));rw[<-dJ,fi]at c;exact c
def pE.ai{x:pC}(a:pE w x)(b:wN x.1):pD w x.1 x.2.1 x.2.2.1 x.2.2.2:=⟨a.N,a.Q,a.bZ,λc d=>by have:=b.L c d;omega⟩
def aml{s:List UInt8}{x:Z}{bS:Int}(z:fV w)(A:hJ w)(ah:aC w x 6 lC e)(am:∀a∈e,pE w a):
 ak Y 4 [al #[co s,I X bS],x] w λf B=>O w B/\f=ax true:=by
 apply Zn;refine bd (S:=[co s,I X bS]) F λbC bD bF bG C an=>?_;rw[aF wR an.b F];refine(KS (s:=s) (bS:=bS) (ah.h C) λa h=>(am a h).h C).o ?_;rintro f H ⟨ap,bI,rfl,aI⟩;have d:=C.a ap;have aq:∀{b:aa},O w b->ak Y 7 [] b λf B=>O w B/\f=ax true:=λa=>(Ms (z.h a) (A.h a)).o λ_ _ ⟨K,c⟩=>⟨a.a K,c⟩;rw[dQ];refine⟨λ_=>aq d,λaJ=>?_⟩;obtain⟨aL,aM,bK,aP,bL⟩:=aI aJ;rw[aF wR (an.h ap).b F];refine(QQ (z.h d) (A.h d) aL aM).o ?_;rintro f bM ⟨q,ar,au,aT,aw,rfl,L⟩;rw[aN,aO,fZ D];show b6 (ax ao) _ _;have bN:=d.a L.N;have aU:=z.h d;have aV:=A.h d;have ay:=ah.h d;have aW:∀a∈e,pE H a:=λa h=>(am a h).h d;rw[cw,aS p4.m (ay.h L.N)];have bj:∀{b:aa},O H b->O w b:=λa=>d.a a;refine ba.bJ (λr az b=>∃(i:Nat) (n:cD),i+r=e.length/\az=[I X i]/\kd H b q ar au aT aw n (60+jW ((e.take i).map (·.1))) i) ⟨e.length,0,_,G,F,by simpa [jW]using L⟩ ?_;rintro r az o b ⟨i,n,bO,rfl,p⟩;simp only [av];rw[aR,ai];refine⟨λbP=>?_,λbR=>aq (bj p.N)⟩;obtain⟨a,h⟩:∃a,e[i]? =J a:=⟨_,aX G⟩;have a0:=cl h;have a2:=(aW a a0).ai (aP a a0);obtain⟨bT,bU⟩:=TJ h;have a3:=ay.h p.N;obtain⟨bV,bW,aY,aZ⟩:=a3.m h;rw[cr p4.m p4.bk p4.cN a3 h F,aY,aF p4.bd aZ F];refine nX (cS:=lC a) y3 xb g F F (Fj.B a) λbb bc bX bY M bg=>?_;have a4:bQ bc bb (lC a) 57:=bg;have P:=p.h M;refine(TF P.q1 P.I.l).o ?_;rintro bZ ca ⟨t,bh⟩;have j:=P.h t;have cb:=t.size;rw[aF mR (a4.h t).H.b F];refine(j.cw (y:=a.1) G G aU aV (a2.h j.N)).o ?_;rintro f cd ⟨Q,a5,bl,bm,u,a8,N,rfl,bn⟩;have ce:ar<q/\au<q/\q<=b.heap.size:=by obtain⟨_,_,_,_,_,c⟩:=p.vs;exact⟨c.be,c.a6,c.ao⟩
 have cf:aw<b.heap.size:=by obtain⟨_,_,_,_,_,c⟩:=p.q1;exact wC c.a7 c.ao
 have bo:=Q.ak (a4.h t) g (by simp;omega);have bp:=UP bh Q (λa9 v=>by
  simp only [df,ln,or_false]at v;have:=M.size;rcases v with rfl|rfl<;>omega) (λK y=>by
  simp only [df,ln,or_false]at y;rcases y with rfl|rfl<;>decide)
 obtain⟨o,br,bv,bw,aA,bx⟩:=akF (n.cU a.1).2.1 (n.cU a.1).2.2 u a8 u N;rw[br];refine nX (cS:=o) rB xc g F bv bw λbz b0 cg ch k b1=>?_;have b3:bQ b0 bz o 63:=b1;rw[aF mR (bo.h k).H.b F];refine(kd.cA (y:=a.1) (a5.a k) j.bH j.Cw (bl.h k) (bm.h k) j.ai j.I G G (a2.h (a5.a k))).o ?_;rintro f R ⟨aB,S,rfl⟩;have ci:=Q.Y;have cj:=M.size;rw[i0 (v:=I X (n.cU a.1).2.1) O9 E F,bs,bu];refine⟨λck=>?_,λU=>?_⟩
 ·rw[aD];exact⟨r-1,G,i+1,_,G,ae,S.o G (a6 _)⟩
 have V:=aB.ak b3 g (by simp;omega);have b4:=UP (bp.h eV k) aB (λa9 v=>by rw[cL.1 v];omega) (λK y=>by rw[cL.1 y];decide);rw[U]at aA;have b5:=bx U;obtain⟨cm,a9,cn,b7,_⟩:=bn U;have m:O R R.drew:=(O.p R).C;apply bE.h;rw[b2 I9 I6 (V.H.b.f 0 aA) m,aK (v:=ax ao) (λb c aG=>by rw[bs];rfl) m,cw,
  aK (λb c aG=>aj O_) m,gX (S:=hL u a8 u N) u7 (by rw[b5]at V;exact cA.cG (V.H.b.E 2) 4) F m]
 have W:=S.h m;refine(TF W.q1 W.I.l).o ?_;rintro cp cq ⟨b8,bA⟩;have ab:=m.a b8;refine⟨ab,?_⟩;refine(akY (s_ (b4.h eV ab)) (s_ bA) (eQ (xV j.I.l) g) (eQ (xV W.I.l) g) b7.d_).o ?_;rintro f cs ⟨bB,rfl⟩;have ag:=ab.a bB;refine⟨ag,?_⟩;rw[aK (v:=ax ao) (λb c aG=>dD _) ag,cw,aD];exact⟨r-1,G,i+1,_,G,ae,(S.h ag).o G (a6 _)⟩
end aY
end Go.Proofs.YtoddhldofgfdmaaGreatDoor
