/- A part of the proof; no conditions of its own. -/
import Derived.Test.YtoddhldofgfdmaaGreatDoorP02
set_option linter.all false
open Array renaming getElem?_eq_some_iff->iz
open Bool renaming true->af,false->ao,eq_iff_iff->g0,false_eq_true->j1,not_eq_true'->sb,eq_false_iff->wG,false_or->yd
open Classical renaming byContradiction->AI,not_not->XP
open Go renaming Value->Z,World->aa,Program->bq,TypeId->cv,maxLen->e0,run_underlying->eJ,sizeOf->j3,zeroValue->qi
open Go.Instr renaming box->AW,checkKey->HZ,storeAt->qt,buildSlice->wI
open Go.IntKind renaming i64->X,i32->cc
open Go.IntWalk renaming i32_in->Il
open Go.Lib renaming indexByte->AS
open Go.Obj renaming cells->eW
open Go.Proofs renaming ltOf->DK,enters_of->an8
open Go.Proofs.Tryz renaming prog->Y,underlying3->yl
open Go.RowKit renaming Below->oH
open Go.RowKit.Below renaming trans->HH,mono->ts
open Go.Sort renaming SWO->XE,grow->an7
open Go.Value renaming int->I,tuple->a1,slice->aQ,pointer->ad,agg->al,bool->ax,string->lO
open Int renaming add_zero->DG,add_assoc->Dy,zero_add->XL,toNat_natCast->kq,toNat_of_nonneg->lQ
open List renaming map_drop->AH,flatMap_map->AK,getElem_of_mem->AU,foldl_append->DC,filter_eq_nil_iff->DD,nodup_append->DE,length_replicate->Dt,range'_succ->HE,take_succ_cons->HT,countP_le_length->HV,map_flatMap->HY,countP_cons->Ik,getLast?_eq_some_iff->Im,length_dropLast->Io,set_append_right->Ip,pairwise_iff_getElem->Iq,mem_of_getLast?->N0,range'_append_1->N2,getElem_mem->NU,nodup_nil->NX,getLast?_concat->NY,getLast?_cons_cons->NZ,countP_append->No,dropLast_concat->XM,find?_cons->XN,mem_iff_getElem?->XO,getElem?_set_self->Xv,getElem?_eq_getElem->aX,set_set->an6,getElem_inj->an9,perm_middle->aob,dropLast_sublist->aoe,mem_append->b9,length_map->b_,length_append->bf,length_take->bt,take_length->cI,mem_singleton->cL,length_drop->cO,append_nil->cT,append_assoc->cX,mem_of_getElem?->cl,length_cons->d1,map_append->dJ,getElem?_eq_some_iff->dS,take_of_length_le->d_,mem_cons->df,mem_cons_self->dv,map_cons->eB,mem_map->eP,mem_cons_of_mem->ey,mem_filter->fS,nil_append->fc,take_append_drop->fi,mem_of_mem_take->fy,length->gB,cons_append->gO,drop_zero->h6,flatMap_append->hG,mem_append_left->hY,range'->hs,flatMap_cons->iB,eq_nil_of_length_eq_zero->ig,getElem?_eq_none->j2,drop_drop->jF,mem_of_mem_drop->jH,sum_cons->jJ,filter_append->jd,getElem?_drop->kQ,take_zero->kp,getElem?_take->lN,drop_of_length_le->lR,range->lS,length_nil->lk,mem_append_right->lo,length_filter_le->mH,drop_length->mc,take_take->n9,take_append_of_le_length->nx,getElem?_append_right->oI,length_singleton->oK,getElem?_cons_succ->pk,map_map->pr,getElem?_cons_zero->qm,map_take->qp,pairwise_cons->qs,drop_append_of_le_length->rf,filter_cons->ri,foldl_cons->sf,drop_take->si,flatMap_singleton->sj,mem_range'_1->sn,flatten_append->sq,take_left->tq,getElem?_of_mem->tr,filter_eq_self->tt,drop_eq_nil_of_le->tu,drop_left->uQ,map_singleton->uT,map_congr_left->yc,sum_append->yh,getD_eq_getElem?_getD->yi,any_eq_false->yj,length_pos_iff->ym,getLast?_eq_getElem?->yn
open List.Pairwise renaming nil->wH
open List.Perm renaming refl->DJ,swap->an_,eq_of_pairwise->aoa
open Nat renaming sub_add_cancel->DA,mul_one->Dx,mul_add->NS,add_sub_cancel->Xf,le_refl->a6,le_trans->eQ,zero_le->ec,lt_or_ge->fx,zero_add->hW,min_eq_left->lP,add_zero->nw,eq_zero_or_pos->nz,add_sub_cancel_left->wD
open Option renaming some->J,none->ac
open Option.some renaming injEq->kP,inj->rg
open Prod renaming ext->Nn
open UInt8 renaming ofNat->jG
namespace Go.Proofs.YtoddhldofgfdmaaGreatDoor
open Go.Lift
section
open Go.RowKit Go.bW
variable{n k:Nat}
def amt{l:List Int}(a:n<=k):((a8 l).drop (a8 (l.take n)).length).take ((a8 (l.take k)).length-(a8 (l.take n)).length)=a8 ((l.drop n).take (k-n)):=by
 have b:l.take k=l.take n++(l.drop n).take (k-n):=by
  conv=>lhs;rw[<-fi n (l.take k)]
  rw[n9,lP a,si]
 have c:a8 l=a8 (l.take n)++a8 (l.drop n):=by rw[<-kM,fi]
 have d:(a8 (l.take k)).length-(a8 (l.take n)).length=(a8 ((l.drop n).take (k-n))).length:=by rw[b,kM,bf];omega
 rw[d]
 conv=>lhs;arg 2;rw[c,uQ]
 exact Ho (l.drop n) (k-n)
abbrev tz(l:List Int)(a b:Int):Prop:=0<=a/\a<=b/\b<=l.length
def yz.vO{x:List (List Int)}{C:Int}(a:yz x C n k):(a8 (x.take n).flatten).length<=(a8 (x.flatten.take C.toNat)).length:=by obtain⟨_,_,b,_⟩:=a.aQ;rw[b,kM,bf];omega
variable{v:Z}{e:List (List Int)}
def CP{x:aa}{a b:Int}(f:gF x v e)(h:fO e):ak Y 203 [v,I X a,I X b] x λi a7=>O x a7/\
 ((¬tz e.flatten a b/\i=a1 #[co [],I X 1])\/(tz e.flatten a b/\i=a1 #[co (a8 ((e.flatten.drop a.toNat).take (b.toNat-a.toNat))),I X 0])):=by
 apply abI;have b3:=h.dU;have b4:=h.z;refine(LJ (C:=a) f h).o ?_;rintro i b6 ⟨p,j⟩;rcases j with⟨C,rfl⟩|⟨q,rfl⟩
 ·rw[aN,aO,bs,bu];exact⟨λ_=>⟨p,.inl ⟨λf=>C ⟨f.1,G⟩,F⟩⟩,λf=>aL f g⟩
 rw[aN,aO,bs,bu];refine⟨λf=>aL F f,λ_=>?_⟩;rw[aR,ai];refine⟨λW=>⟨p,.inl ⟨λf=>G,F⟩⟩,λb7=>?_⟩;refine(LJ (C:=b) (f.h p) h).o ?_;rintro i m ⟨a9,j⟩;have l:=p.a a9;rcases j with⟨aA,rfl⟩|⟨aB,rfl⟩
 ·rw[aN,aO,bs,bu];exact⟨λ_=>⟨l,.inl ⟨λf=>aA ⟨G,f.2.2⟩,F⟩⟩,λf=>aL f g⟩
 rw[aN,aO,bs,bu];refine⟨λf=>aL F f,λ_=>?_⟩;have ae:tz e.flatten a b:=⟨q.1,G,aB.2⟩;refine(CK (bx:=1) (C:=a) (aJ:=1) (f.h l) h).o ?_;rintro i bB ⟨r,j⟩;have bC:=l.a r;rcases j with⟨C,_⟩|⟨_,d,s,D,t,aC,H,rfl,bD,K,ah⟩
 ·exact aL ((y_ h (.inr F)).2 q) C
 obtain⟨bE,aE⟩:=Si h q.1 q.2 aC H;have bF:=aE.vO;obtain⟨bG,bI,bK⟩:=zR h H;have bL:=kN e.flatten;have bM:=r8 e.flatten (show a.toNat<=b.toNat by omega);have aF:=r8 e.flatten (show b.toNat<=e.flatten.length by omega);rw[cI]at aF;have am:=amt (l:=e.flatten) (show a.toNat<=b.toNat by omega);rw[aN,aO,pc];refine cj (cS:=gf (fD (e.take d)) (dL (b5 e d)) 0) l0 mi g F F (ms _ _ _) λbO bP bQ bR L bS=>?_;refine lb aez λk aH bT bU aI aJ=>?_;have u:=L.a aI;have aK:=r.a u;have bV:=K.D;have bW:=l.size;have aP:py aH k k []:= .inl ⟨a6 _,aQ ac 0 0,aJ,sI.2 (fH.nil _ _ _ _ _),by intro aS;cases aS⟩;refine(wi (K.h u)).o ?_;rintro i aU ⟨w,rfl⟩;have aV:=aK.a w;rw[uy (n:=3) yI u6,uz (i:=0) (z:=0) (v:=I X (fD (e.take d)).bH) eT E bw G F F];have aW:(fD (e.take d)).bH=(a8 (e.take d).flatten).length:=rfl;rw[aW];have aY:k<aU.heap.size:=by have:=w.size;omega
 refine ba.bJ (λM an n=>an=[]/\O m n/\k<n.heap.size/\∃c:Nat,M=e.length-c/\d<=c/\c<=e.length/\ag n s (jQ t c (fD (e.take c)) D)/\py n k k (a8 ((e.take c).drop d).flatten))
  ⟨_,F,aV,aY,d,F,a6 _,H,(K.h u).h w,by rw[tu (by rw[bt];omega)];exact aP.h w⟩ ?_
 rintro M an aG n ⟨rfl,y,bY,c,rfl,aZ,ap,bb,z⟩;have aq:(e.take c).flatten=(e.take d).flatten++((e.take c).drop d).flatten:=by
  rw[<-sq];congr 1
  conv=>lhs;rw[<-fi d (e.take c)]
  rw[n9,lP aZ]
 have bc:(a8 (e.take c).flatten).length=(a8 (e.take d).flatten).length+(a8 ((e.take c).drop d).flatten).length:=by rw[aq,kM,bf]
 obtain⟨bZ,ca,cb⟩:=zR h ap;refine(QO z).o ?_;rintro i ar ⟨rfl,rfl⟩;rw[aD,aR,ai];refine⟨λW=>?_,λce=>?_⟩
 ·have au:c<e.length:=by
   rcases fx c e.length with av|av
   ·exact av
   ·exfalso;obtain rfl:c=e.length:=G;rw[cI]at bc W;omega
  have aw:e[c]? =J e[c]:=aX au;have ay:ag ar s (jQ t c (aT ((e.map dL).take c)) D):=by rw[h.bh ap];exact bb
  have bd:eF ar t (e.map dL):=ah.h y;refine(G4 ay bd h.bl).o ?_;rintro i be ⟨bg,j⟩;rcases j with⟨P,_⟩|⟨bi,a0,rfl⟩
  ·rw[b_]at P;omega
  rw[List.getElem?_map,aw]at a0;obtain rfl:dL e[c]=bi:=by simpa using a0
  rw[aN,aO];refine cj fP fs g F F (fe.B _) λcf a2 cg ch bj bk=>?_;have o:=bg.a bj;rw[aj tK,aM (v:=co (a8 e[c])) ga (bk.b.f 6 F)];have ci:=kN e[c];have ck:=(h.az e[c] (NU au)).dU;refine(afU (z.h o) (by have:=o.size;omega) G).o ?_;rintro i Q ⟨R,bn⟩;have bo:ag Q s (jQ t c (aT ((e.map dL).take c)) D):=by obtain⟨T,bp⟩:=ay.h o;exact⟨T,(R.block s G).trans bp⟩
  have S:m.heap.size<=k:=by have:=u.size;have:=r.size;have:=L.size;omega
  have a3:O m Q:=HH (y.a o) (R.mono S);have cm:k<Q.heap.size:=by have:=R.size;have:=o.size;omega
  refine(VI bo (ah.h a3) h.bl (by rw[b_];omega)).o ?_;rintro i cn j;rcases j with⟨P,_⟩|⟨_,U,_,a4⟩
  ·rw[b_]at P;omega
  rw[h.bh G]at a4;refine⟨e.length-(c+1),G,F,a3.ab U (by rintro _ ⟨⟩;omega),by have:=U.size;omega,c+1,F,G,G,a4,?_⟩;have br:((e.take (c+1)).drop d).flatten=((e.take c).drop d).flatten++e[c]:=by rw[gp aw,rf (by rw[bt];omega),sq];simp
  rw[br,kM];exact bn.ab U G
 ·refine(QO z).o ?_;rintro i be ⟨rfl,rfl⟩;rw[bm,ai];refine⟨λcp=>⟨l.a y,.inr ⟨ae,?_⟩⟩,λcq=>?_⟩
  ·have:a8 ((e.flatten.drop a.toNat).take (b.toNat-a.toNat))=[]:=by rw[<-am];have:(a8 (e.flatten.take b.toNat)).length-(a8 (e.flatten.take a.toNat)).length=0:=G;rw[this,kp]
   rw[this]
  ·refine(afT z G).o ?_;rintro i a2 ⟨bv,rfl⟩;have S:m.heap.size<=k:=by have:=r.size;have:=L.size;omega
   have bx:O m a2:=HH y (bv.mono S);rw[cd,cd];have bz:(((a8 (e.flatten.take a.toNat)).length:Int)-(a8 (e.take d).flatten).length)=(((a8 (e.flatten.take a.toNat)).length-(a8 (e.take d).flatten).length:Nat):Int):=G;have b0:(((a8 (e.flatten.take b.toNat)).length:Int)-(a8 (e.take d).flatten).length)=(((a8 (e.flatten.take b.toNat)).length-(a8 (e.take d).flatten).length:Nat):Int):=G;rw[Vq gy bz b0 G G];refine⟨l.a bx,.inr ⟨ae,?_⟩⟩;have b1:a8 e.flatten=a8 (e.take d).flatten++(a8 ((e.take c).drop d).flatten++a8 (e.drop c).flatten):=by rw[<-kM,<-kM,<-cX,<-aq,<-sq,fi]
   rw[<-am,b1];congr 2;generalize(a8 (e.flatten.take a.toNat)).length=A at*;generalize(a8 (e.flatten.take b.toNat)).length=a5 at*;generalize a8 (e.take d).flatten=B at*;generalize a8 ((e.take c).drop d).flatten=cr at*;generalize a8 (e.drop c).flatten=cs at*;have b2:A=B.length+(A-B.length):=G;rw[show a5-B.length-(A-B.length)=a5-A by omega]
   conv=>rhs;arg 1;arg 1;arg 2;rw[b2,<-jF,uQ]
   rw[rf G,nx (by rw[cO];omega)]
def A0(a:List (List Int)):Prop:=a.length<=1\/∀b∈a,8<=b.length
def ajH(a:List Int):A0 (no a):=by
 rcases fx a.length 8 with b|b
 ·left;rw[Gr];omega
 ·exact .inr (T5 b)
variable{x:List (List Int)}{i:Nat}
def fO.c8(a:fO x)(b:i<=x.length):aT ((x.map dL).take (i+1))=fD (x.take (i+1)):=by
 rcases fx i x.length with h1|h1
 ·exact a.bh h1
 ·obtain rfl:i=x.length:=G;rw[d_ (by rw[b_];omega),d_ G,a.ce]
abbrev cG(a:List (List Int))(n:Nat):Nat:=(a.take n).flatten.length
def MO(a:List (List Int)):cG a a.length=a.flatten.length:=by unfold cG;rw[cI]
def Ak(c:List (List Int)){a b:Nat}(d:a<=b):cG c a<=cG c b:=by
 unfold cG;have:c.take b=c.take a++(c.take b).drop a:=by
  conv=>lhs;rw[<-fi a (c.take b)]
  rw[n9,lP d]
 rw[this,sq,bf];omega
def MP(a:n<=x.length):cG x n<=x.flatten.length:=by rw[<-MO];exact Ak x a
def Se(a:List (List Int))(b:Nat):a.flatten.take (cG a b)=(a.take b).flatten/\a.flatten.drop (cG a b)=(a.drop b).flatten:=by
 have c:a.flatten=(a.take b).flatten++(a.drop b).flatten:=by rw[<-sq,fi]
 unfold cG;constructor
 ·conv=>lhs;rw[c]
  rw[tq]
 ·conv=>lhs;rw[c]
  rw[uQ]
def ai3{t:Nat}(a:List Int)(b:cG x n<=i)(e:t<=cG x k):
 (x.take n).flatten++(((x.flatten.drop (cG x n)).take (i-cG x n)++a++(x.flatten.drop t).take (cG x k-t))++(x.drop k).flatten)=x.flatten.take i++a++x.flatten.drop t:=by
 have c:(x.take n).flatten++(x.flatten.drop (cG x n)).take (i-cG x n)=x.flatten.take i:=by
  rw[<-(Se x n).1]
  conv=>rhs;rw[<-fi (cG x n) (x.flatten.take i)]
  rw[n9,lP b,si]
 have d:(x.flatten.drop t).take (cG x k-t)++(x.drop k).flatten=x.flatten.drop t:=by
  rw[<-(Se x k).2]
  conv=>rhs;rw[<-fi (cG x k-t) (x.flatten.drop t)]
  rw[jF];congr 2;omega
 calc(x.take n).flatten++(((x.flatten.drop (cG x n)).take (i-cG x n)++a++(x.flatten.drop t).take (cG x k-t))++(x.drop k).flatten)
  =((x.take n).flatten++(x.flatten.drop (cG x n)).take (i-cG x n))++a++((x.flatten.drop t).take (cG x k-t)++(x.drop k).flatten):=by simp only [cX]
  _=x.flatten.take i++a++x.flatten.drop t:=by rw[c,d]
def Ol(c:List (List Int))(a b:Nat)(q2:List Int)(d:List (List Int)):Prop:=fO d/\d.flatten=c.flatten.take a++q2++c.flatten.drop b/\(A0 c->A0 d)
def akl{l a b:Nat}{q2:List Int}(f:fO x)(m:∀e∈q2,dP e)(u:n<=l)(g:l<=x.length)(o:cG x n<=a)(v:a<=b)(p:b<=cG x l)(q:n<l\/x=[])
 (r:8<=cG x l-cG x n-(b-a)+q2.length\/(n=0/\l=x.length))(w:x.flatten.length-(b-a)+q2.length<=20000):
 Ol x a b q2 (x.take n++no ((x.flatten.drop (cG x n)).take (a-cG x n)++q2++(x.flatten.drop b).take (cG x l-b))++x.drop l):=by
 have y:=MP g;have j:(x.take n++no ((x.flatten.drop (cG x n)).take (a-cG x n)++q2++(x.flatten.drop b).take (cG x l-b))++x.drop l).flatten=x.flatten.take a++q2++x.flatten.drop b:=by rw[sq,sq,Gq,cX];exact ai3 q2 o p
 refine⟨⟨λd h=>?_,?_⟩,j,λs=>?_⟩
 ·rcases b9.1 h with c|c
  ·rcases b9.1 c with c|c
   ·exact f.az d (fy c)
   ·refine Gs (λe t=>?_) d c;rcases b9.1 t with c|c
    ·rcases b9.1 c with c|c
     ·exact f.bY e (jH (fy c))
     ·exact m e c
    ·exact f.bY e (jH (fy c))
  ·exact f.az d (jH c)
 ·rw[j,bf,bf,bt,cO];omega
 ·by_cases i:n=0/\l=x.length
  ·obtain⟨rfl,rfl⟩:=i;rw[kp,fc,mc,cT];exact ajH _
  ·have z:=r.resolve_right i;have k:∀d∈x,8<=d.length:=by
    rcases s with c|c
    ·exfalso;rcases q with A|rfl
     ·omega
     ·simp at g;exact i ⟨G,by rw[g];rfl⟩
    ·exact c
   right
   intro d h;rcases b9.1 h with c|c
   ·rcases b9.1 c with c|c
    ·exact k d (fy c)
    ·refine T5 ?_ d c;rw[bf,bf,bt,bt,cO,cO];omega
   ·exact k d (jH c)
structure rG (j:List (List Int)) (a b f l:Nat):Prop where
 M:f<=l
 dU:l<=j.length
 aw:cG j f<=a
 bD:b<=cG j l
 D:f<l\/j=[]
def US{x:aa}{s:List UInt8}{a b:Int}(ci:hJ x)(m:gF x v e)(h:fO e)(d2:s.length<=1000000):ak Y 205 [v,I X a,I X b,co s] x λd n=>O x n/\
 ((¬tz e.flatten a b/\d=a1 #[ad ac,I X 1])\/
  (tz e.flatten a b/\20000<e.flatten.length-(b-a)+(bY s).length/\d=a1 #[ad ac,I X 5])\/
  (tz e.flatten a b/\e.flatten.length-(b-a)+(bY s).length<=20000/\∃(be:Nat) (bg:List (List Int)),d=a1 #[ad (J ⟨be,0,ac⟩),I X 0]/\gF n (ad (J ⟨be,0,ac⟩)) bg/\Ol e a.toNat b.toNat (bY s) bg)):=by
 apply abF;have d3:=h.dU;have d4:=h.z;have d5:=nr s;have d6:e0=9223372036854775807:=rfl;rw[aR,ai];refine⟨λck=>⟨O.p x,.inl ⟨λar=>G,F⟩⟩,λck=>?_⟩;rw[aR,ai];refine⟨λar=>⟨O.p x,.inl ⟨λar=>G,F⟩⟩,λar=>?_⟩;refine(kK m h).o ?_;rintro d d7 ⟨bi,rfl⟩;rw[cb,ai];refine⟨λcm=>⟨bi,.inl ⟨λar=>G,F⟩⟩,λcm=>?_⟩;have bj:tz e.flatten a b:=⟨G,G,G⟩;refine(x9 s G).o ?_;rintro d8 d9 ⟨cn,R⟩;have bk:=bi.a cn;refine(kK (m.h bk) h).o ?_;rintro d ae ⟨bm,rfl⟩;have ah:=bk.a bm;have aB:=(R.h bm).aI ix;rw[cd,cd,aS di aB,aD,cb,ai];refine⟨λbn=>⟨ah,.inr (.inl ⟨bj,bn,F⟩)⟩,λbn=>?_⟩;obtain⟨p,rfl⟩:∃p:Nat,a=p:=⟨a.toNat,G⟩;obtain⟨r,rfl⟩:∃r:Nat,b=r:=⟨b.toNat,G⟩;refine(CK (bx:=1) (C:=p) (aJ:=0) (m.h ah) h).o ?_;rintro d dB ⟨cr,w⟩;rcases w with⟨aC,_⟩|⟨_,i,C,L,aj,bo,bp,rfl,dC,aE,au⟩
 ·exact aL ((y_ h (.inl F)).2 ⟨G,G⟩) aC
 have bv:∀q,q<=e.length->fp (e.map dL) 1 q=cG e q:=λq bD=>by unfold fp;rw[h.bh bD];rfl
 have cs:cG e i<=p:=by
  rcases nz i with rfl|ct
  ·simp[cG]
  ·have:=bo.dh (i-1) G;rw[DA ct,bv i bp]at this;unfold iE at this;omega
 have cu:i<e.length\/e=[]:=by
  rcases fx i e.length with bx|b0
  ·exact .inl bx
  ·right
   rcases nz e.length with aF|aF
   ·exact ig aF
   ·exfalso;have:=bo.dh (e.length-1) G;rw[DA aF,bv _ (a6 _),MO]at this;unfold iE at this;omega
 rw[aN,aO,pc];refine cj (cS:=gf (fD (e.take i)) (dL (b5 e i)) 0) l0 mi g F F (ms _ _ _) λdD dE dF dG a0 dH=>?_;have cw:=cr.a a0;refine(wi (aE.h a0)).o ?_;rintro d dI ⟨aG,rfl⟩;rw[i0 (v:=I X (e.take i).length) wW E F];refine(wi ((aE.h a0).h aG)).o ?_;rintro d cx ⟨b1,rfl⟩;have cy:O ae cx:=(cw.a aG).a b1;rw[uy (n:=3) yI u6,uz (i:=1) (z:=1) (v:=I X (cG e i)) eT E bw G F F];have cz:(e.take i).length=i:=by rw[bt];omega
 rw[cz];refine ba.bJ (λq y am=>y=[]/\O ae am/\∃c:Nat,q=e.length-c/\i<=c/\c<=e.length/\(c<e.length\/e=[])/\ag am C (jQ aj c (fD (e.take c)) L))
  ⟨_,F,cy,i,F,a6 _,bp,cu,(((aE.h a0).h aG).h b1)⟩ ?_
 rintro q y ay am ⟨rfl,a3,c,rfl,dK,a4,c0,b2⟩;have b3:ag am C (jQ aj c (aT ((e.map dL).take c)) L):=by rw[h.bh a4];exact b2
 have aH:∀o,O am o->ak Y 293 [ad (J ⟨C,0,ac⟩)] o λd n=>O o n/\d=al (br (fD (e.take (c+1)))).toArray:=λo u=>(Mk (b3.h u) (au.h (a3.a u)) h.bl (by rw[b_];exact a4)).o λd n R=>⟨R.1,by rw[R.2,h.c8 a4]⟩
 have b4:∀{o:aa} {aJ:aU},xZ Y 157 (al (br (fD (e.take (c+1)))).toArray) 1 o (λb6 x=>th Y 155 b6 (I X 1) x aJ)=aJ (I X (cG e (c+1))) o:=λ{o aJ}=>by rw[uy (n:=3) yI u6,uz (i:=1) (z:=1) (v:=I X (cG e (c+1))) eT E bw G F F]
 refine(aH am (O.p _)).o ?_;rintro d o ⟨u,rfl⟩;rw[b4,aR,ai];refine⟨λbx=>?_,λb0=>?_⟩
 ·have c1:c+1<e.length:=by
   rcases fx (c+1) e.length with P|P
   ·exact P
   ·exfalso;have c2:=Ak e P;rw[MO]at c2;omega
  refine(VI (b3.h u) (au.h (a3.a u)) h.bl (by rw[b_];exact a4)).o ?_;rintro d b7 w;rcases w with⟨t,_⟩|⟨_,c3,_,b8⟩
  ·rw[b_]at t;omega
  rw[h.bh G]at b8;exact⟨e.length-(c+1),G,F,(a3.a u).ab c3 (by rintro _ ⟨⟩;omega),c+1,F,G,G,.inl c1,b8⟩
 ·refine(aH o u).o ?_;rintro d b7 ⟨bB,rfl⟩;rw[i0 (v:=I X (e.take (c+1)).length) wW E F];refine(aH b7 (u.a bB)).o ?_;rintro d dM ⟨c4,rfl⟩;have bC:=(u.a bB).a c4;rw[b4];have aK:=a3.a bC;refine(L1 (m.h ah) aK).o ?_;rintro dO dQ ⟨rfl,c5⟩;refine(uJ (c5.h aK)).o ?_;rintro d c6 ⟨bE,rfl⟩;have c7:=aK.a bE;rw[h.ce,i0 (v:=I X e.length) wW E F];have c9:(e.take (c+1)).length<=e.length/\i<=(e.take (c+1)).length/\(i<(e.take (c+1)).length\/e=[])/\cG e (e.take (c+1)).length=cG e (c+1):=by
   rw[bt];refine⟨G,G,?_,?_⟩
   ·rcases c0 with P|P
    ·left;omega
    ·exact .inr P
   ·rcases fx c e.length with P|P
    ·rw[lP G]
    ·rw[Nat.min_eq_right G];unfold cG;rw[d_ (a6 _),d_ G]
  obtain⟨bF,bH,bI,bK⟩:=c9;generalize(e.take (c+1)).length=bL at bF bH bI bK;rw[<-bK]at b0⊢;have cA:rG e p r i bL:=⟨bH,bF,cs,G,bI⟩;have cB:ag c6 C (jQ aj c (fD (e.take c)) L):=(b2.h bC).h bE;have cC:=ci.h ah;have aM:=m.h ah;refine bG.y (λy n=>O ae n/\∃f l:Nat,y=[I X l,I X (cG e l),I X f,I X (cG e f)]/\rG e p r f l/\(8<=cG e l-cG e f-(r-p)+(bY s).length\/(f=0/\l=e.length))) ?_ ?_
  ·refine ba.bJ (λq y S=>O ae S/\∃f l c L:Nat,q=f+(e.length-l)/\y=[I X l,I X (cG e l),I X f,I X (cG e f)]/\rG e p r f l/\ag S C (jQ aj c (fD (e.take c)) L))
    ⟨_,c7,i,bL,c,L,F,F,cA,cB⟩ ?_
   rintro q y ay S ⟨Q,f,l,dR,dT,rfl,rfl,j,cD⟩;have cE:=MP j.dU;have cF:=Ak e j.M;have bM:=j.aw;have bN:=j.bD;have an:=j.dU;have cH:=j.M;rw[av,bA,av,bA,av,bA,av];refine bG.y (λy n=>n=S/\y=[]/\(0<f\/l<e.length)) ?_ ?_
   ·rw[cd,cd,cd,aS di (aB.h Q),aD,aR,ai];refine⟨λcJ=>?_,λcJ=>⟨Q,f,l,F,j,.inl G⟩⟩;rw[cb,ai];refine⟨λcK=>⟨F,F,.inl G⟩,λcK=>?_⟩;rw[aR,ai];exact⟨λaP=>⟨F,F,.inr G⟩,λaP=>⟨Q,f,l,F,j,.inr ⟨G,G⟩⟩⟩
   rintro y ay S ⟨rfl,rfl,dV⟩;have bO:∀U:Nat,U<=e.length->ak Y 123 [ad (J ⟨C,0,ac⟩),I X 3,I X U,I X 1] S λd n=>O ae n/\∃L:Nat,ag n C (jQ aj U (fD (e.take U)) L):=λU bP=>by
    have bQ:U<=(e.map dL).length:=by rw[b_];exact bP
    refine(VO (bx:=3) (v:=U) (aJ:=1) cD (au.h Q) (BV h.az) h.bl).o ?_;rintro d ap w;rcases w with⟨aC,_⟩|⟨_,cM,_,dW,cN,cP,D⟩
    ·exact aL (afu bQ) aC
    ·obtain rfl:=ahh bQ cP;rw[h.bh bP]at D;exact⟨Q.ab cM (by rintro _ ⟨⟩;omega),cN,D⟩
   rw[aR,ai];refine⟨λaP=>?_,λaP=>?_⟩
   ·refine(bO l an).o ?_;rintro d ap ⟨V,a5,D⟩;have cQ:ag ap C (jQ aj l (aT ((e.map dL).take l)) a5):=by rw[h.bh an];exact D
    have bR:∀o,O ap o->ak Y 293 [ad (J ⟨C,0,ac⟩)] o λd n=>O o n/\d=al (br (fD (e.take (l+1)))).toArray:=λo u=>(Mk (cQ.h u) (au.h (V.a u)) h.bl (by rw[b_];exact an)).o λd n R=>⟨R.1,by rw[R.2,h.c8 an]⟩
    refine(bR ap (O.p _)).o ?_;rintro d a7 ⟨H,rfl⟩;rw[i0 (v:=I X (e.take (l+1)).length) wW E F];refine(bR a7 H).o ?_;rintro d bS ⟨K,rfl⟩;rw[uy (n:=3) yI u6,uz (i:=1) (z:=1) (v:=I X (cG e (l+1))) eT E bw G F F];have aV:(e.take (l+1)).length=l+1:=by rw[bt];omega
    rw[aV];have cR:=Ak e (show l<=l+1 by omega);exact⟨f+(e.length-(l+1)),G,(V.a H).a K,f,l+1,l,a5,F,F,⟨G,G,bM,G,.inl G⟩,(D.h H).h K⟩
   ·obtain⟨k,rfl⟩:∃k,f=k+1:=⟨f-1,G⟩;rw[cd];have cS:((k+1:Nat):Int)-1=(k:Nat):=G;rw[cS];refine(bO k G).o ?_;rintro d ap ⟨V,a5,D⟩;refine(wi D).o ?_;rintro d a7 ⟨H,rfl⟩;rw[i0 (v:=I X (e.take k).length) wW E F];refine(wi (D.h H)).o ?_;rintro d bS ⟨K,rfl⟩;rw[uy (n:=3) yI u6,uz (i:=1) (z:=1) (v:=I X (cG e k)) eT E bw G F F];have aV:(e.take k).length=k:=by rw[bt];omega
    rw[aV];have cR:=Ak e (show k<=k+1 by omega);exact⟨k+(e.length-l),G,(V.a H).a K,k,l,k,a5,F,F,⟨G,an,G,bN,.inl G⟩,(D.h H).h K⟩
  rintro y ay S ⟨Q,f,l,rfl,j,cU⟩;have cE:=MP j.dU;have cF:=Ak e j.M;have bM:=j.aw;have bN:=j.bD;have an:=j.dU;have cH:=j.M;rw[av,bA,av,bA,av,bA,av];have cV:tz e.flatten (cG e f:Nat) p:=⟨G,G,G⟩;have cW:tz e.flatten r (cG e l:Nat):=⟨G,G,G⟩;refine(CP (a:=(cG e f:Nat)) (b:=p) (aM.h Q) h).o ?_;rintro d ap ⟨cY,w⟩;rcases w with⟨t,_⟩|⟨_,rfl⟩
  ·exact aL cV t
  rw[aN,aO];have V:=Q.a cY;refine(CP (a:=r) (b:=(cG e l:Nat)) (aM.h V) h).o ?_;rintro d a7 ⟨H,w⟩;rcases w with⟨t,_⟩|⟨_,rfl⟩
  ·exact aL cW t
  rw[aN,aO];have aW:=V.a H;simp only [kq];have cZ:=akl (q2:=bY s) h (wb s) j.M j.dU j.aw (by omega:p<=r) j.bD j.D cU G;generalize a9:(e.flatten.drop (cG e f)).take (p-cG e f)=z at*;generalize aA:(e.flatten.drop r).take (cG e l-r)=B at*;have bT:∀A∈z,dP A:=λA W=>h.bY A (by rw[<-a9]at W;exact jH (fy W));have bU:∀A∈B,dP A:=λA W=>h.bY A (by rw[<-aA]at W;exact jH (fy W));have dY:z.length<=20000:=by rw[<-a9,bt,cO];omega
  have dZ:B.length<=20000:=by rw[<-aA,bt,cO];omega
  have ea:=kN z;have eb:=kN B;refine(x9 (a8 z) G).o ?_;rintro b6 bS ⟨K,aY⟩;rw[xW bT]at aY;have da:=aW.a K;refine jC di gm g mZ F ix aY K.size (aB.h da) G (by rw[rt];omega) λed db bV dc _=>?_;have bW:O a7 db:=K.ab dc λk aZ=>(aY.D k aZ).1;have bX:=aW.a bW;refine(L1 aM bX).o ?_;rintro ee ef ⟨rfl,dd⟩;refine(x9 (a8 B) G).o ?_;rintro eg eh ⟨bb,bZ⟩;rw[xW bU]at bZ;have de:=bX.a bb;have ei:(z++bY s).length<=1020000:=by rw[bf];omega
  refine jC di gm g mZ F ix (bV.h bb) (by have:=bW.size;have:=bb.size;omega) (bZ.aI ix) G (by rw[rt];omega) λej dg dj dk _=>?_;have ca:O ae dg:=de.ab dk λk aZ=>by have:=(bV.D k aZ).1;have:=aW.size;omega
  have dl:(z++bY s++B).length<=1000000:=by
   have dm:z.length=p-cG e f:=by rw[<-a9,bt,cO];omega
   have dn:B.length=cG e l-r:=by rw[<-aA,bt,cO];omega
   rw[bf,bf];omega
  refine(Rx (cC.h ca) (dj.aI ix) dl).o ?_;rintro ek el ⟨dp,dq⟩;have cf:=ca.a dp;have dr:=BV (Gs (l:=z++bY s++B) λA W=>by
   rcases b9.1 W with m|m
   ·rcases b9.1 m with m|m
    ·exact bT A m
    ·exact wb s A m
   ·exact bU A m)
  refine(Hk (a:=f) (b:=l) (dd.h cf) (by rw[b_];omega) (dq.aI fe)).o ?_;rintro d ds ⟨dt,w⟩;have du:=cf.a dt;have dw:rm (e.map dL) f l:=⟨G,G,by rw[b_];omega⟩;have em:(no (z++bY s++B)).length<=1300:=by
   have dm:z.length=p-cG e f:=by rw[<-a9,bt,cO];omega
   have dn:B.length=cG e l-r:=by rw[<-aA,bt,cO];omega
   rw[Gr,bf,bf];omega
  rcases w with⟨t,_⟩|⟨_,t,_⟩|⟨_,_,t,_⟩|⟨_,_,_,t,_⟩|⟨_,_,_,_,a2,rfl,bc⟩
  ·exact aL dw t
  ·rw[b_]at t;omega
  ·exact aL dr t
  ·rw[b_,b_]at t;omega
  rw[aN,aO,bs,bu];refine⟨λm=>aL F m,λ_=>?_⟩;obtain⟨aq,dx,rfl,dy⟩:=bc;have bc:eF ds (ad (J ⟨aq,0,ac⟩)) ((e.take f++no (z++bY s++B)++e.drop l).map dL):=by rw[dJ,dJ,qp,AH];exact Bv.Hi ⟨aq,dx,F,dy⟩
  rw[bz (S:=[ad (J ⟨aq,0,ac⟩)]) (iR:=[(0,[ad (J ⟨aq,0,ac⟩)])]) Qo PV F F];refine bd (S:=[ad (J ⟨aq,0,ac⟩)]) F λcg eo ep eq ch d0=>?_;refine⟨ah.a (du.a ch),.inr (.inr ⟨bj,G,cg,_,F,.inr ⟨cg,_,F,d0,bc.h ch⟩,?_⟩)⟩;exact cZ
variable{t:Int}
def VW(d:dP t):(bk t:Int)=if t<128 then 1 else if t<2048 then 2 else if t<65536 then 3 else 4:=by
 unfold bk;rcases sO d with⟨a,b⟩|⟨a,c,b⟩|⟨a,c,b⟩|⟨a,b⟩<;>rw[b]
 ·rw[au a];rfl
 ·rw[an G,au c];rfl
 ·rw[an G,an G,au c];rfl
 ·rw[an G,an G,an G];rfl
def Kk{w:aa}(r:Int):ak Y 63 [I cc r] w λg b=>b=w/\g=I X (if dP r then bk r else 0):=by
 apply Yg;refine bG.y (λc b=>b=w/\c=[]/\dP r) ?_ ?_
 ·have dh:¬dP r->(if dP r then(bk r:Int)else 0)=0:=λa=>an a;rw[aR,ai];refine⟨λa=>⟨F,by rw[dh (by unfold dP;omega)]⟩,λd=>?_⟩;rw[cb,ai];refine⟨λa=>⟨F,by rw[dh (by unfold dP;omega)]⟩,λe=>?_⟩;rw[eE,ai];refine⟨λa=>?_,λi=>⟨F,F,by unfold dP;omega⟩⟩;rw[fg,ai];exact⟨λh=>⟨F,by rw[dh (by unfold dP;omega)]⟩,λh=>⟨F,F,by unfold dP;omega⟩⟩
 rintro c j k ⟨rfl,rfl,f⟩;rw[au f,VW f,aR,ai];refine⟨λa=>⟨F,by rw[au a]⟩,λd=>?_⟩;rw[an d,aR,ai];refine⟨λa=>⟨F,by rw[au a]⟩,λe=>?_⟩;rw[an e,aR,ai];exact⟨λa=>⟨F,by rw[au a]⟩,λa=>⟨F,by rw[an a]⟩⟩
def Rz{w:aa}(a:Int):ak Y 28 [I cc a] w λc e=>e=w/\c=I X (bk a):=by
 apply Yc;refine(Kk a).o ?_;rintro c g ⟨rfl,rfl⟩;rw[bm,ai];by_cases b:dP a
 ·rw[au b];have:=(sP a).1;exact⟨λd=>G,λ_=>⟨F,F⟩⟩
 ·rw[an b];refine⟨λ_=>⟨F,?_⟩,λd=>aL F d⟩;have f:bk a=bk 65533:=by unfold bk;rw[<-Fk a];unfold uo;rw[an b]
  rw[f]
  rfl
section
variable{P:bq} {T:cv} {dX ev:Bool} {w:aa} {K:aU}
def Vl{x e:IntKind}{a b:cv}(c:(P.underlying a).isSome=af)(hd:P.underlying b=J (.int e))(d:e.wrap t=t):nW P a b (I x t) w K=K (I e t) w:=by
 obtain⟨h,f⟩:=Option.isSome_iff_exists.1 c;have g:(convert a b (I x t)).run P w= .ok (I e t) w:=by simp[convert,eJ f,eJ hd,Conv.intToInt,d]
 unfold nW bM;rw[g]
def tg(a b:Int)(c:-2147483648<=a+b/\a+b<=2147483647):b7 P .add T dX ev (I cc a) (I cc b) w K=K (I cc (a+b)) w:=by rw[CR,Il _ c]
def GM(a b:Int)(c:-2147483648<=a-b/\a-b<=2147483647):b7 P .sub T dX ev (I cc a) (I cc b) w K=K (I cc (a-b)) w:=by rw[Vg,Il _ c]
def ak1(a b:Int)(c:-2147483648<=a*b/\a*b<=2147483647):b7 P .mul T dX ev (I cc a) (I cc b) w K=K (I cc (a*b)) w:=by rw[Va,Il _ c]
def z2(a b:Int)(c:0<=a)(f:0<b)(h:a<=2147483647):b7 P .quo T dX ev (I cc a) (I cc b) w K=K (I cc (a/b)) w:=by
 rw[qa _ _ _ g g];have d:a.tdiv b=a/b:=by rw[Int.tdiv_eq_ediv_of_nonneg c]
 have i:a/b<=a:=Int.ediv_le_self b c;have j:0<=a/b:=Int.ediv_nonneg c G;have e:b≠0:=G;simp[bM,nS,Op.intDiv,e,d,Il (a/b) ⟨G,G⟩]
def z6(b a:Int)(c:0<=b)(f:0<a):b7 P .rem T dX ev (I cc b) (I cc a) w K=K (I cc (b%a)) w:=by
 rw[qa _ _ _ g g];have d:b.tmod a=b%a:=by rw[Int.tmod_eq_emod_of_nonneg c]
 have e:a≠0:=G;simp[bM,nS,Op.intDiv,e,d]
end
def amu(a:n<256):(I .u8 (n:Nat))=I .u8 (jG n).toNat:=by rw[kr a]
def sJ{w:aa}{K:aU}(a:t=n)(b:n<256):nW Y 21 5 (I cc t) w K=K (I .u8 (jG n).toNat) w:=by rw[Vl V4 Al (IntWalk.u8_in _ G),a,amu b]
def Kj{w:aa}{r:Int}(h:dP r):ak Y 95 [I cc r,I X (bk r)] w λp q=>O w q/\p=co (V r):=by
 apply Yf;have s:=h;unfold dP at s;have c:=VW h;rcases sO h with⟨f,b⟩|⟨f,i,b⟩|⟨f,i,b⟩|⟨f,b⟩
 ·rw[au f]at c;rw[c,bm,h4 F,sJ (n:=r.toNat) G G];refine f0 (n:=1) (V:=iw) (L:=V r) (iR:=[(0,iw (jG r.toNat))]) yH y1 (by rw[b];rfl) y4 g g nK F (by rw[b];rfl) λl m n d e o=>?_;rw[CT Da Al gy (d.aI nK)];exact⟨e,F⟩
 ·rw[an G,au i]at c;rw[c,bm,du g,bm,h4 F,z2 _ _ G G G,tg _ _ ⟨G,G⟩,sJ (n:=192+r.toNat/64) G G,z6 _ _ G G,tg _ _ ⟨G,G⟩,sJ (n:=128+r.toNat%64) G G];refine f0 (n:=2) (V:=iw) (L:=V r) (iR:=[(0,iw (jG (192+r.toNat/64))),(1,iw (jG (128+r.toNat%64)))]) yH y1 (by rw[b];rfl) y4 g g nK F (by rw[b];rfl) λl m n d e o=>?_;rw[CT Da Al gy (d.aI nK)];exact⟨e,F⟩
 ·rw[an G,an G,au i]at c;rw[c,bm,du g,bm,du g,bm,h4 F,z2 _ _ G G G,tg _ _ ⟨G,G⟩,sJ (n:=224+r.toNat/4096) G G,
   z2 _ _ G G G,z6 _ _ G G,tg _ _ ⟨G,G⟩,sJ (n:=128+r.toNat/64%64) G G,z6 _ _ G G,tg _ _ ⟨G,G⟩,sJ (n:=128+r.toNat%64) G G]
  refine f0 (n:=3) (V:=iw) (L:=V r) (iR:=[(0,iw (jG (224+r.toNat/4096))),(1,iw (jG (128+r.toNat/64%64))),(2,iw (jG (128+r.toNat%64)))]) yH y1 (by rw[b];rfl) y4 g g nK F (by rw[b];rfl) λl m n d e o=>?_;rw[CT Da Al gy (d.aI nK)];exact⟨e,F⟩
 ·rw[an G,an G,an G]at c;rw[c,bm,du g,bm,du g,bm,du g,z2 _ _ G G G,tg _ _ ⟨G,G⟩,sJ (n:=240+r.toNat/262144) G G,
   z2 _ _ G G G,z6 _ _ G G,tg _ _ ⟨G,G⟩,sJ (n:=128+r.toNat/4096%64) G G,
   z2 _ _ G G G,z6 _ _ G G,tg _ _ ⟨G,G⟩,sJ (n:=128+r.toNat/64%64) G G,z6 _ _ G G,tg _ _ ⟨G,G⟩,sJ (n:=128+r.toNat%64) G G]
  refine f0 (n:=4) (V:=iw) (L:=V r) (iR:=[(0,iw (jG (240+r.toNat/262144))),(1,iw (jG (128+r.toNat/4096%64))),(2,iw (jG (128+r.toNat/64%64))),(3,iw (jG (128+r.toNat%64)))]) yH y1 (by rw[b];rfl) y4 g g nK F (by rw[b];rfl) λl m n d e o=>?_;rw[CT Da Al gy (d.aI nK)];exact⟨e,F⟩
def RE{x:List Int}{w:aa}(g:aC w v 1 gI x)(u:x.length<=10000000):ak Y 133 [v] w λd m=>O w m/\d=co (a8 x):=by
 apply Yb;rw[aS di g];refine ba.y (λe j=>O w j/\∃a:Nat,e=[co (a8 (x.take a)),I X a]/\a<=x.length)
  (λe _=>match e with|[_,I _ n]=>(x.length-n).toNat|_=>0) ⟨O.p w,0,F,ec _⟩ ?_
 rintro e y j ⟨c,a,rfl,z⟩;rw[av,bA,av,aR,ai];refine⟨λA=>?_,λB=>?_⟩
 ·obtain⟨b,h⟩:∃b,x[a]? =J b:=⟨_,aX G⟩;obtain⟨C,D,o,p⟩:=(g.h c).m h;have q:=kN (x.take a);rw[bt]at q;have r:=(sP b).2;unfold bk at r;have k:a8 (x.take (a+1))=a8 (x.take a)++V b:=by rw[gp h,kM,r7,uK,cT]
  rw[cr di gm G (g.h c) h F,o,aM (v:=I cc b) iG (p.U F)];refine(Kk b).o ?_;rintro d E ⟨rfl,rfl⟩;rw[bm,ai];by_cases f:dP b
  ·rw[au f];have:=(sP b).1;refine⟨λl=>G,λ_=>?_⟩;refine(Kj f).o ?_;rintro d s ⟨i,rfl⟩;rw[GL G,aD];exact⟨⟨c.a i,a+1,by rw[k];simp,G⟩,by simp only [];omega⟩
  ·rw[an f];refine⟨λ_=>?_,λl=>aL F l⟩;have t:V b=V 65533:=by rw[<-Fk b];unfold uo;rw[an f]
   refine(Kj (r:=65533) (by right;decide)).o ?_;rintro d s ⟨i,rfl⟩;rw[<-t,GL G,aD];exact⟨⟨c.a i,a+1,by rw[k];simp,G⟩,by simp only [];omega⟩
 ·obtain rfl:a=x.length:=G;exact⟨c,by rw[cI]⟩
def rY(a:List UInt8)(b:Int):Nat->Int
 |0=>b
 |c+1=>64*rY a b c+ej a (c+1)-128
def lI(aV:List UInt8):Int:=
 if aV.length=1 then ej aV 0 else rY aV ((ej aV 0:Int)-(if aV.length=2 then 192 else if aV.length=3 then 224 else 240)) (aV.length-1)
variable{x:List UInt8}
def afW{a:UInt8}(b:x[n]? =J a):(ej x n:Int)=a.toNat:=by unfold ej;rw[b];rfl
variable{aV:List UInt8}
def agA{w:aa}(E:1<=aV.length)(H:aV.length<=4):ak Y 94 [co aV] w λl c=>c=w/\l=I cc (lI aV):=by
 apply Ye;unfold On;have m:=p1 aV 0;have L:=p1 aV 1;have M:=p1 aV 2;have O:=p1 aV 3;have h:∀a,a<aV.length->∃g,aV[a]? =J g/\(g.toNat:Int)=ej aV a:=λa b=>⟨_,aX b,(afW (aX b)).symm⟩;have i:∀{w:aa} {K:aU} {z:Nat},z<256->nW Y 5 21 (I .u8 z) w K=K (I cc z) w:=λ{w K z} Q=>Vl D D (Il _ ⟨G,G⟩)
 obtain⟨R,n,o⟩:=h 0 G;rw[Vn (i:=0) (z:=0) gy n F,o,i m];have p:∀(a:Nat) (d:Int) (b:a<aV.length) (q:-100000000<=64*d/\64*d<=100000000) (w:aa) (j:aU) (N:List Z->aa->Prop),N [I cc (64*d+ej aV a-128),I X ((a:Int)+1)] w->D4 j N (co aV) (I cc d) (I X a) w:=by intro a d b q w j N r;unfold D4;obtain⟨g,s,t⟩:=h a b;have u:=p1 aV a;rw[mA gy,aR,h4 G,ak1 _ _ ⟨G,G⟩,Vn (i:=a) gy s F,t,i u,tg _ _ ⟨G,G⟩,GM _ _ ⟨G,G⟩,aD];exact r
 refine bG.y (λe c=>c=w/\2<=aV.length/\e=[I cc ((ej aV 0:Int)-(if aV.length=2 then 192 else if aV.length=3 then 224 else 240))]) ?_ ?_
 ·rw[mA gy,bm,ai];refine⟨λk=>⟨F,by unfold lI;rw[au G]⟩,λS=>?_⟩;rw[bm,ai];refine⟨λk=>?_,λU=>?_⟩
  ·rw[GM _ _ ⟨G,G⟩];exact⟨F,G,by rw[au G]⟩
  rw[bm,ai];refine⟨λk=>?_,λV=>?_⟩
  ·rw[GM _ _ ⟨G,G⟩];exact⟨F,G,by rw[an G,au G]⟩
  ·rw[GM _ _ ⟨G,G⟩];exact⟨F,G,by rw[an G,an G]⟩
 rintro e v x ⟨rfl,W,rfl⟩;unfold Oo;have y:lI aV=rY aV ((ej aV 0:Int)-(if aV.length=2 then 192 else if aV.length=3 then 224 else 240)) (aV.length-1):=by unfold lI;rw[an G]
 have A:-240<=((ej aV 0:Int)-(if aV.length=2 then 192 else if aV.length=3 then 224 else 240))/\((ej aV 0:Int)-(if aV.length=2 then 192 else if aV.length=3 then 224 else 240))<=63:=by
  split
  ·omega
  ·split<;>omega
 rw[y,av];generalize((ej aV 0:Int)-(if aV.length=2 then 192 else if aV.length=3 then 224 else 240))=B at A;refine ba.bJ (λf e c=>c=x/\∃a:Nat,f=aV.length-(a+1)/\a+1<=aV.length/\e=[I cc (rY aV B a),I X ((a+1:Nat):Int)]) ⟨_,F,0,F,G,F⟩ ?_;rintro f e v ab ⟨rfl,a,rfl,b,rfl⟩;rw[av,bA,av];by_cases C:a+1<aV.length
 ·have ae:=p1 aV (0+1);have ag:=p1 aV (1+1);refine p (a+1) _ C ?_ _ _ _ ?_
  ·rcases(by omega:a=0\/a=1\/a=2)with rfl|rfl|rfl
   ·simp only [rY];omega
   ·simp only [rY];omega
   ·simp only [rY];omega
  ·exact⟨_,G,F,a+1,F,G,by simp[rY]⟩
 ·unfold D4;rw[mA gy,aR,du G];refine⟨F,?_⟩;rw[show aV.length-1=a by omega]
def ai_(h:dP t):lI (V t)=t:=by
 have i:=h;unfold dP at i;rcases sO h with⟨e,a⟩|⟨e,j,a⟩|⟨e,j,a⟩|⟨e,a⟩
 ·have b:ej (V t) 0=t.toNat:=by rw[a];exact kr G
  have c:(V t).length=1:=by rw[a];rfl
  unfold lI;rw[au c,b];omega
 ·have b:ej (V t) 0=192+t.toNat/64:=by rw[a];exact kr G
  have d:ej (V t) (0+1)=128+t.toNat%64:=by rw[a];exact kr G
  have c:(V t).length=2:=by rw[a];rfl
  unfold lI;rw[c,an g,au F];simp only [rY,b,d];omega
 ·have b:ej (V t) 0=224+t.toNat/4096:=by rw[a];exact kr G
  have d:ej (V t) (0+1)=128+t.toNat/64%64:=by rw[a];exact kr G
  have f:ej (V t) (1+1)=128+t.toNat%64:=by rw[a];exact kr G
  have c:(V t).length=3:=by rw[a];rfl
  unfold lI;rw[c,an g,an g,au F];simp only [rY,b,d,f];omega
 ·have b:ej (V t) 0=240+t.toNat/262144:=by rw[a];exact kr G
  have d:ej (V t) (0+1)=128+t.toNat/4096%64:=by rw[a];exact kr G
  have f:ej (V t) (1+1)=128+t.toNat/64%64:=by rw[a];exact kr G
  have k:ej (V t) (2+1)=128+t.toNat%64:=by rw[a];exact kr G
  have c:(V t).length=4:=by rw[a];rfl
  unfold lI;rw[c,an g,an g,an g];simp only [rY,b,d,f,k];omega
def s1(a:k<x.length)(b:ej x k=n):jG n=x[k]:=by
 have c:ej x k=(x[k]).toNat:=by unfold ej;rw[aX a];rfl
 rw[<-b,c];exact UInt8.ofNat_toNat
def amc(a:0<x.length):x.take 1=[x[0]]:=by cases x with|nil=>simp at a|cons b c=>rfl
def ame(a:1<x.length):x.take 2=[x[0],x[1]]:=by match x,a with|b::c::d,_=>rfl
def amd(a:2<x.length):x.take 3=[x[0],x[1],x[2]]:=by match x,a with|b::c::d::e,_=>rfl
def amb(a:3<x.length):x.take 4=[x[0],x[1],x[2],x[3]]:=by match x,a with|b::c::d::e::f,_=>rfl
def agy(o:x≠[]):cF x=(65533,1)\/(dP (cF x).1/\V (cF x).1=x.take (cF x).2):=by
 have f:0<x.length:=by cases x with|nil=>exact aL F o|cons _ _=>simp
 have y:=p1 x 0;have z:=p1 x 1;have A:=p1 x 2;have B:=p1 x 3;have a:=RG x;unfold cF at a⊢
 dsimp only at a⊢
 split at a
 ·rename_i p
  rw[au p];refine .inr ⟨a,?_⟩;rcases sO a with⟨_,d⟩|⟨b,_⟩|⟨b,_⟩|⟨b,_⟩
  ·rw[d,amc f,s1 f (n:=((ej x 0:Int)).toNat) G]
  all_goals (dsimp only at b;omega)
 rename_i q
 rw[an q];split at a
 ·rename_i h
  rw[au h];obtain⟨i,e,g⟩:=h;split at a
  ·rename_i c
   rw[au c];refine .inr ⟨a,?_⟩
   dsimp only at a⊢
   rcases sO a with⟨b,_⟩|⟨j,r,d⟩|⟨b,_⟩|⟨b,_⟩
   ·omega
   ·rw[d,ame e,s1 f G,s1 e G]
   all_goals omega
  ·rename_i c
   rw[an c];exact .inl F
 rename_i s
 rw[an s];split at a
 ·rename_i k
  rw[au k];obtain⟨i,⟨e,t⟩,g,u⟩:=k;split at a
  ·rename_i c
   rw[au c];refine .inr ⟨a,?_⟩
   dsimp only at a⊢
   rcases sO a with⟨b,_⟩|⟨b,l,_⟩|⟨j,r,d⟩|⟨b,_⟩
   ·omega
   ·omega
   ·rw[d,amd g,s1 f G,s1 e G,s1 g G]
   ·omega
  ·rename_i c
   rw[an c];exact .inl F
 rename_i v
 rw[an v];split at a
 ·rename_i m
  rw[au m];obtain⟨i,⟨e,t⟩,⟨g,u⟩,n,D⟩:=m;split at a
  ·rename_i c
   rw[au c];refine .inr ⟨a,?_⟩
   dsimp only at a⊢
   rcases sO a with⟨b,_⟩|⟨b,l,_⟩|⟨b,l,_⟩|⟨j,d⟩
   ·omega
   ·omega
   ·omega
   ·rw[d,amb n,s1 f G,s1 e G,s1 g G,s1 n G]
  ·rename_i c
   rw[an c];exact .inl F
 ·rename_i w
  rw[an w];exact .inl F
def uY(aV:List UInt8)(a:Nat):Prop:=dP (lI (aV.take a))/\bk (lI (aV.take a))=a/\V (lI (aV.take a))=aV.take a
def uY.cF{aV:List UInt8}{n:Nat}(a:uY aV n):cF aV=((lI (aV.take n)).toNat,n):=by obtain⟨b,c,d⟩:=a;have:=Kg b (aV.drop n);rw[d,fi,c]at this;exact this
def ahv(c:aV≠[])(f:∀a,1<=a->a<=4->a<=aV.length->¬uY aV a):cF aV=(65533,1):=by
 rcases agy c with g|⟨d,e⟩
 ·exact g
 ·exfalso;have b:=sK aV c;have h:bk (cF aV).1=(cF aV).2:=by unfold bk;rw[e,bt];omega
  refine f _ b.1 b.2.2 b.2.1 ?_;unfold uY;rw[<-e,ai_ d];exact⟨d,h,F⟩
abbrev ow(a n:Int):List Value:=[I cc a,I X n]
def Ko(c n:Int):∀a∈ow c n,a.oneCell' =true:=λa b=>by simp[ow]at b;rcases b with rfl|rfl<;>rfl
variable{x:aa}
def agM{e:List UInt8}{p:Nat}(a7:p<e.length)(a8:e.length<=10000000):ak Y 52 [co e,I X p] x λr j=>O x j/\r=al (ow (cF (e.drop p)).1 (cF (e.drop p)).2).toArray:=by
 apply Yd;have K:e.drop p≠[]:=λd=>by have:=ck gB d;rw[cO]at this;simp at this;omega
 have a9:(e.drop p).length=e.length-p:=cO ..;refine bo EO λl aA aB aC L M=>?_;rw[aR,du G,mA gy,eE,du G];generalize hd:e.drop p=b at*;have bj:∀(f:aa),O x f->ag f l (ow 0 0)->(∀c,1<=c->c<=4->c<=b.length->¬uY b c)->
  fo Y 122 [(0,(I cc 65533)),(1,(I X 1))] f λP Q=>c4 Y 122 (ad (J ⟨l,0,ac⟩)) P Q λs=>bU Y 122 (ad (J ⟨l,0,ac⟩)) s λR j=>j=s/\O x s/\R=al (ow (cF b).1 (cF b).2).toArray:=by
  intro f h i m;rw[bz (S:=ow 65533 1) (iR:=[(0,[I cc 65533]),(1,[I X 1])]) EO PJ F F];refine aZ JF g i (cS:=ow 65533 1) F F ae (Ko _ _) λU aE V W=>?_;rw[aF (S:=ow 65533 1) OV W.b F,ahv K m];exact⟨F,h.ab V (by rintro _ ⟨⟩;omega),F⟩
 refine ba.bJ (λz n f=>O x f/\ag f l (ow 0 0)/\∃a:Nat,z=5-a/\n=[I X a]/\1<=a/\a<=5/\∀c,1<=c->c<a->c<=b.length->¬uY b c) ⟨_,L,M,1,F,F,G,G,λc k v=>G⟩ ?_;rintro z n u f ⟨h,i,a,rfl,rfl,aG,aH,m⟩;rw[av,fg,ai];refine⟨λah=>?_,λah=>bj f h i λc k v o=>m c k G o⟩;rw[mA gy,cd,fg,ai];refine⟨λaj=>?_,λaj=>bj f h i λc k v o=>m c k G o⟩;rw[aD,Vq (aw:=p) (bD:=p+a) gy F G G G];have am:(e.drop p).take (p+a-p)=b.take a:=by rw[hd];congr 1;omega
 rw[am];have aJ:(b.take a).length=a:=by rw[bt];omega
 refine(agA (aV:=b.take a) G G).o ?_;rintro r U ⟨rfl,rfl⟩;refine bG.y (λn j=>O x j/\ag j l (ow 0 0)/\∃w:Bool,n=[ax w]/\(w=af↔uY b a)) ?_ ?_
 ·refine(Kk _).o ?_;rintro r ap ⟨rfl,rfl⟩;rw[bm,ai];by_cases q:dP (lI (b.take a))
  ·rw[au q];refine⟨λy=>?_,λy=>⟨h,i,ao,F,by simp only [j1,false_iff];intro d;exact y (by rw[d.2.1])⟩⟩;have aq:bk (lI (b.take a))=a:=G;rw[<-y];refine(Kj q).o ?_;rintro r ar ⟨A,rfl⟩;rw[Ve];refine⟨h.a A,i.h A,_,F,?_⟩;rw[dF];exact⟨λd=>⟨q,aq,d⟩,λd=>d.2.2⟩
  ·rw[an q];exact⟨λd=>G,λ_=>⟨h,i,ao,F,by simp only [j1,false_iff];intro d;exact q d.1⟩⟩
 rintro n u ap ⟨B,C,w,rfl,D⟩;rw[av,dQ];refine⟨λay=>?_,λE=>?_⟩
 ·have H:=D.1 ay;have az:=H.cF;have a0:0<=lI (b.take a):=by have:=H.1;unfold dP at this;omega
  rw[bz (S:=ow (lI (b.take a)) a) (iR:=[(0,[I cc (lI (b.take a))]),(1,[I X a])]) EO PJ F F];refine aZ JF g C (cS:=ow (lI (b.take a)) a) F F ae (Ko _ _) λar aL a2 a3=>?_;rw[aF (S:=ow (lI (b.take a)) a) OV a3.b F,az];refine⟨F,B.ab a2 (by rintro _ ⟨⟩;omega),?_⟩
  dsimp only
  rw[lQ a0]
 ·have a4:¬uY b a:=λd=>by rw[D.2 d]at E;cases E
  rw[aD];refine⟨5-(a+1),G,B,C,a+1,F,ae,G,G,λc k v o=>?_⟩;by_cases a5:c=a
  ·subst a5;exact a4
  ·exact m c k G o
variable{w:aa}
def rK(l:List UInt8)(t:l.length<=10000000):ak Y 23 [co l] w λh i=>O w i/\ar i w.heap.size 21 1 h gI (bY l):=by
 apply Ya;have P:e0=9223372036854775807:=rfl;refine ba.bJ (λj k d=>O w d/\∃(pos:Nat) (v:Z) (a:List Int),j=l.length-pos/\k=[v,I X pos]/\pos<=l.length/\ar d w.heap.size 21 1 v gI a/\bY l=a++bY (l.drop pos))
  ⟨l.length-0,O.p w,0,_,[],F,F,G,ar.nil _ _ _ _ _,ae⟩ ?_
 rintro j k u d ⟨e,pos,v,a,rfl,rfl,Q,b,c⟩;have R:a.length<=10000000:=by have m:=nr l;rw[c,bf]at m;omega
 rw[av,bA,av,mA gy,aR,ai];refine⟨λS=>?_,λU=>?_⟩
 ·have n:l.drop pos≠[]:=λx=>by have:=ck gB x;rw[cO]at this;simp at this;omega
  have y:=sK _ n;rw[cO]at y;refine(agM (p:=pos) G t).o ?_;rintro h ah ⟨o,rfl⟩;refine cj (cS:=ow (cF (l.drop pos)).1 (cF (l.drop pos)).2) EO JF g F F (Ko _ _) λp am an ap z q=>?_;rw[aj ac9,aM (v:=I cc (cF (l.drop pos)).1) iG (q.b.f 0 F)];refine f0 (n:=1) (V:=gI) (L:=[((cF (l.drop pos)).1:Int)]) (iR:=[(0,gI (cF (l.drop pos)).1)]) di gm F mZ g g ix F F λay az a0 A r a2=>?_;have f:=(o.a z).a r;refine jC di gm g mZ F ix (b.h f) (by have:=(e.a f).size;omega) (A.aI ix) (by simp;omega) (by rw[rt];simp;omega) λB C D s _=>?_;have H:ag C p (ow (cF (l.drop pos)).1 (cF (l.drop pos)).2):=(q.h r).ab s (by intro K;have m:=b.D p K.symm;have:=o.size;omega)
  rw[aj ac8,aM (v:=I X (cF (l.drop pos)).2) E (H.b.f 1 F),aD];refine⟨l.length-(pos+(cF (l.drop pos)).2),G,(e.a f).ab s (λL M=>(b.D L M).1),pos+(cF (l.drop pos)).2,B,a++[((cF (l.drop pos)).1:Int)],F,ae,G,D,?_⟩;rw[c,wa n,jF,cX]
  rfl
 ·obtain rfl:pos=l.length:=G;rw[mc,ta,cT]at c;rw[c];exact⟨e,b⟩
def agv(c a b:Int):ak Y 225 [I X c,I X a,I X b] x λe f=>f=x/\∃d:Bool,e=ax d/\(d=af↔0<=a/\a<=b/\b<=c):=by apply Yl;rw[eE,ai];refine⟨λg=>?_,λg=>⟨F,ao,F,by simp only [j1,false_iff];omega⟩⟩;rw[eE,ai];refine⟨λh=>?_,λh=>⟨F,ao,F,by simp only [j1,false_iff];omega⟩⟩;rw[fg];exact⟨F,_,F,by rw[dF];omega⟩
abbrev vw(a b:Int):List Value:=[I X a,I X b]
def agE{e:Z}{c d:List Int}{A B:Nat}(m:aC x v 1 gI c)(s:aC x e 1 gI d)(P:c.length<=1000000)(Q:d.length<=1000000)(R:A<=B)(S:B<=c.length):
 ak Y 151 [v,al (vw A B).toArray,e] x λt n=>O x n/\ar n x.heap.size 21 1 t gI (c.take A++d++c.drop B):=by
 apply Yn;have U:e0=9223372036854775807:=rfl;refine bd (S:=vw A B) F λW a ae ah h o=>?_;have ai:=lf m;have i:=m.h h;rw[eO (i:=0) (z:=0) yF bw G G F,aM (v:=I X A) E (o.b.f 0 F),oA (bD:=A) di gm G i F G];have y:aC a (dp v 1 0 A (cC v)) 1 gI (c.take A):=by simpa using i.ag (aw:=0) (bD:=A) (ds:=cC v) G G G (a6 _)
 refine jC di gm g mZ F ix (ar.nil a a.heap.size _ _ _) (a6 _) y (by simp;omega) (by rw[rt];simp;omega) λaj C k D _=>?_;rw[fc]at k;have l:O a C:=(O.p a).ab D (λj b=>by cases b);refine jC di gm g mZ F ix k l.size (s.h (h.a l)) (by rw[bt];omega) (by rw[rt,bt];omega) λam q r H _=>?_;have f:O a q:=l.ab H (λj b=>(k.D j b).1);rw[eO (i:=1) (z:=1) yF bw G G F,aM (v:=I X B) E ((o.h f).b.f 1 F),pe (aw:=B) di gm G (i.h f) F G];have K:aC q (dp v 1 B c.length (cC v)) 1 gI (c.drop B):=by simpa using(i.h f).ag (aw:=B) (bD:=c.length) (ds:=cC v) G G G (a6 _)
 refine jC di gm g mZ F ix r f.size K (by rw[bf,bt,cO];omega) (by rw[rt,bf,bt,cO];omega) λan ap L M _=>?_;exact⟨h.a (f.ab M (λj b=>(r.D j b).1)),L.o (by have:=h.size;omega)⟩
def rW(l:List Int)(a:n<=k):cK (l.take n)<=cK (l.take k):=by
 have:l.take k=l.take n++(l.take k).drop n:=by
  conv=>lhs;rw[<-fi n (l.take k)]
  rw[n9,lP a]
 rw[this,sZ];omega
def ai6{x:List Int}(a:x[i]? =J t):cK (x.take (i+1))=cK (x.take i)+(if t=10 then 1 else 0):=by rw[gp a,sZ];congr 1;unfold cK;rw[List.countP_singleton];by_cases b:t=10<;>simp[b]
def ID(l:List Int)(a c d:Int):Prop:=
 ((0<=a/\a<=cK l)/\d=0/\∃b:Nat,c=b/\b<=l.length/\(cK (l.take b):Int)=a/\∀e,e<b->(cK (l.take e):Int)<a)\/(¬(0<=a/\a<=cK l)/\c=0/\d=1)
def LI(c:gF x v e)(l:fO e):ak Y 333 [v,I X t] x λV m=>O x m/\∃W d:Int,ID e.flatten t W d/\V=a1 #[I X W,I X d]:=by
 apply abC;unfold OO;rw[bm,ai];refine⟨λa4=>⟨O.p x,0,0,.inl ⟨G,F,0,F,ec _,by rw[a4];rfl,λb u=>G⟩,F⟩,λbk=>?_⟩;refine(CK (bx:=2) (C:=t) (aJ:=0) c l).o ?_;rintro V n ⟨ae,a5⟩;rcases a5 with⟨a7,rfl⟩|⟨a9,a,bp,br,bv,ag,w,rfl,_,_,_⟩
 ·rw[aN,aO,pc];refine cj (cS:=gf eZ hD 0) l0 mi g F F (ms _ _ _) λaA y aB aC D z=>?_;rw[bs,bu];exact⟨λ_=>⟨ae.a D,0,1,.inr ⟨λc=>a7 ((E4 l g g (.inl F)).2 c),F,F⟩,F⟩,λc=>aL c g⟩
 ·obtain⟨aE,f⟩:=(E4 l g g (.inl F)).1 a9;have f:t<=(cK e.flatten:Nat):=f;obtain⟨bx,bz,b0⟩:=zR l w;have b1:=zM l a;have ah:=zN l a;have b2:=l.dU;have b3:=xM e.flatten;have am:∀k,k<=e.length->fp (e.map dL) 2 k=cK (e.take k).flatten:=λk aF=>by unfold fp;rw[l.bh aF];rfl
  have ap:((cK (e.take a).flatten:Nat):Int)<t:=by
   rcases nz a with rfl|aG
   ·simp[cK];omega
   ·have:=ag.dh (a-1) G;rw[DA aG,am a w]at this;unfold iE at this;omega
  have aq:a<e.length:=by
   rcases fx a e.length with c|c
   ·exact c
   ·obtain rfl:a=e.length:=G;rw[cI]at ap;omega
  have b4:t<=((cK (e.take a).flatten+cK (b5 e a):Nat):Int):=by have ar:e[a]? =J e[a]:=aX aq;have H:=ag.Ar (by rw[b_];exact aq);rw[am (a+1) G,gp ar,sq,sZ,<-zO ar]at H;simp only [List.flatten_cons,List.flatten_nil,cT]at H;unfold iE at H;omega
  have K:∀b,b<=(b5 e a).length->cK (e.flatten.take ((e.take a).flatten.length+b))=cK (e.take a).flatten+cK ((b5 e a).take b):=λb u=>by rw[vE w u,sZ]
  have b6:(e.take a).flatten.length+(b5 e a).length<=e.flatten.length:=by have:=ck gB (vD w);rw[bf,bf]at this;omega
  rw[aN,aO,pc];refine cj (cS:=gf (fD (e.take a)) (dL (b5 e a)) 0) l0 mi g F F (ms _ _ _) λaA y aB aC D z=>?_;have aw:=ae.a D;rw[bs,bu];refine⟨λc=>aL F c,λ_=>?_⟩;apply bE.h;have h:O y y.drew:=(O.p y).C;rw[aK (λn f q=>aj w6) h,aK (λn f q=>aj gQ) h,aK (λn f q=>eO (i:=1) (z:=1) eT bw G G F) h,dR (v:=I X (e.take a).flatten.length) E (z.b.f 2 F) h,
   aK (λn f q=>aj w6) h,aK (λn f q=>aj gQ) h,aK (λn f q=>eO (i:=2) (z:=2) eT bw G G F) h,dR (v:=I X (cK (e.take a).flatten)) E (z.b.f 3 F) h]
  have aI:=z.h h;refine bG.y (λr m=>O x m/\∃o:Nat,r=[I X o]/\o<=e.flatten.length/\(cK (e.flatten.take o):Int)=t/\∀b,b<o->(cK (e.flatten.take b):Int)<t) ?_ ?_
  ·rw[aj w7,aj tK,aM (v:=co (a8 (b5 e a))) ga (aI.b.f 12 F)];refine Aa gy λaJ b7 b8 bB aP aR=>?_;have ay:=(aw.a h).a aP;have bC:=aw.size;have bD:=h.size;have bF:=ay.size;refine ba.bJ (λk r A=>O x A/\∃b:Nat,k=(b5 e a).length-b/\r=[I X ((e.take a).flatten.length+b:Nat),I X (cK (e.take a).flatten+cK ((b5 e a).take b):Nat)]/\b<=(b5 e a).length/\jt A aJ (a8 (b5 e a)) (a8 ((b5 e a).take b)).length/\
    ((cK (e.take a).flatten+cK ((b5 e a).take b):Nat):Int)<t)
    ⟨_,ay,0,F,F,G,aR,by simpa [cK]using ap⟩ ?_
   rintro k r p A ⟨L,b,rfl,rfl,u,aS,aT⟩;unfold OQ;rw[av,bA,av];have aU:=xM ((b5 e a).take b);rw[bt]at aU;have aV:b<(b5 e a).length:=by
    rcases fx b (b5 e a).length with c|c
    ·exact c
    ·rw[d_ c]at aT;omega
   obtain⟨s,M⟩:∃s,(b5 e a)[b]? =J s:=⟨_,aX aV⟩;obtain⟨az,aW,aY⟩:=Hn ah M;have aZ:=ah s (cl M);refine x1 aS aY λbb bH bc P=>?_;have B:O x bb:=L.ab bc (by rintro _ ⟨⟩;omega);rw[aN,hV,pc,aD,az];rw[az,<-aW]at P;have bd:((s.toNat:Nat):Int)=s:=lQ (by unfold dP at aZ;omega);have Q:=ai6 M;have a0:∀C,C<(e.take a).flatten.length+(b+1)->(cK (e.flatten.take C):Int)<t:=λC bI=>by have:=rW e.flatten (show C<=(e.take a).flatten.length+b by omega);rw[K b u]at this;omega
   have a2:∀i:Int,i=(cK (e.take a).flatten+cK ((b5 e a).take (b+1)):Nat)->∀{R:List Z->aa->Prop} {S:List Z->aa->Prop} {m:aa},
    (i=t->R [I X ((e.take a).flatten.length+(b+1):Nat)] m)->(i≠t->S [I X ((e.take a).flatten.length+(b+1):Nat),I X i] m)->
    IU R S (I X t) (I X (((e.take a).flatten.length+b:Nat)+1)) (I X i) m:=by
    intro i j R S m f be;unfold IU;rw[bm,ai];exact⟨λd=>by simpa [Dy]using f d,λd=>by simpa [Dy]using be d⟩
   have a3:∀i:Int,i=(cK (e.take a).flatten+cK ((b5 e a).take (b+1)):Nat)->i≠t->i<t:=by intro i j bK;rw[Q]at j;split at j<;>omega
   apply bG.dE;rw[bd,bm,ai];refine⟨λU=>?_,λU=>?_⟩
   ·rw[aD];intro p;have j:((cK (e.take a).flatten+cK ((b5 e a).take b):Nat):Int)+1=(cK (e.take a).flatten+cK ((b5 e a).take (b+1)):Nat):=by rw[Q,au U];omega
    refine a2 _ j (λd=>⟨B,_,F,G,by rw[K (b+1) G];omega,a0⟩) λd=>?_;exact⟨(b5 e a).length-(b+1),G,B,b+1,F,by rw[j],G,P,by have:=a3 _ j d;omega⟩
   ·intro p;have j:((cK (e.take a).flatten+cK ((b5 e a).take b):Nat):Int)=(cK (e.take a).flatten+cK ((b5 e a).take (b+1)):Nat):=by rw[Q,an U];omega
    refine a2 _ j (λd=>⟨B,_,F,G,by rw[K (b+1) G];omega,a0⟩) λd=>?_;exact⟨(b5 e a).length-(b+1),G,B,b+1,F,by rw[<-j],G,P,by have:=a3 _ j d;omega⟩
  ·rintro r p A ⟨L,o,rfl,bg,bi,bj⟩;unfold OP;exact⟨L,_,0,.inl ⟨⟨aE,f⟩,F,o,F,bg,bi,bj⟩,F⟩
abbrev a_:=Int×Int×List UInt8
def cp(x:a_):List Value:=[I X x.1,I X x.2.1,co x.2.2]
def vu(x:a_):∀a∈cp x,a.oneCell' =true:=λa b=>by simp[cp]at b;rcases b with rfl|rfl|rfl<;>rfl
def jR:eR cp 3:=⟨λ_=>F,λa b c=>vu a b c⟩
def JZ{x:Bool}{e:Prop}[Decidable e](b:x=af↔e):x=decide e:=by
 by_cases a:e
 ·rw[b.2 a];simp[a]
 ·have:x=false:=by
   cases x
   ·rfl
   ·exact aL (b.1 F) a
  rw[this];simp[a]
def GP{x:bq}{e:aa}{K:aU}{α:Type}{T:cv}{V:α->List Z}{L:List α}{de:Nat}(f:ew x T=J n)(g:aC e v k V L):cz x .len [T] de [v] w K=K (I X L.length) w:=by
 obtain⟨b,c,rfl,h,i,j⟩:=g;have:=aS (w:=w) (K:=K) (de:=de) (v:=aQ b L.length c) (L:=List.replicate L.length ()) (k:=0) (V:=λ_=>[]) f ⟨b,c,ae,by simpa using h,i,λd s l=>by
  obtain⟨a,m⟩:∃a,L[d]? =J a:=by have:=(dS.1 l).1;rw[Dt]at this;exact⟨_,aX this⟩
  obtain⟨o,p,q,_⟩:=j d a m;exact⟨o,p,q,λt u r=>by simp at r⟩⟩
 rwa[Dt]at this
def c6(x:a_):Nat:=(bY x.2.2).length
def iu(x:a_):Int:=c6 x-(x.2.1-x.1)
def c8(l:List a_):Int:=(l.map iu).sum
def jD(a:List a_):Nat:=(a.map c6).sum
def uE:c8 []=0:=rfl
def oB(a:a_)(l:List a_):c8 (a::l)=iu a+c8 l:=by unfold c8;rw[eB,jJ]
def alw(a:List a_)(b:a_):c8 (a++[b])=c8 a+iu b:=by
 induction a with
 |nil=>rw[fc,oB,uE];omega
 |cons c a ih=>rw[gO,oB,oB,ih];omega
def wm(a:a_)(b:List a_):jD (a::b)=c6 a+jD b:=by unfold jD;rw[eB,jJ]
def p3(b:Int):Int->List a_->Int
 |_,[]=>0
 |c,a::d=>if 0<=a.1/\a.1<=a.2.1/\a.2.1<=b then(if a.1<c then 90 else p3 b a.2.1 d)else 1
def mm(b:Int)(a:List a_):Int:=if 64<a.length then 2 else p3 b 0 a
def gu(n:Nat)(a:List a_):Int:=if mm n a=0 then(if 20000<(n:Int)+c8 a then 5 else 0)else mm n a
def e9(n:Int):Int->List a_->Prop
 |_,[]=>True
 |b,a::c=>(0<=a.1/\a.1<=a.2.1/\a.2.1<=n)/\b<=a.1/\e9 n a.2.1 c
def Re(c:Int):∀(d:List a_) (e:Int),p3 c e d=0↔e9 c e d
 |[],_=>by simp[p3,e9]
 |b::d,e=>by
  unfold p3 e9;by_cases f:0<=b.1/\b.1<=b.2.1/\b.2.1<=c
  ·rw[au f];by_cases g:b.1<e
   ·rw[au g];constructor
    ·intro a;omega
    ·rintro⟨_,h,_⟩;omega
   ·rw[an g,Re c d b.2.1];exact⟨λa=>⟨f,G,a⟩,λa=>a.2.2⟩
  ·rw[an f];constructor
   ·intro a;omega
   ·intro a;exact aL a.1 f
variable{x:List a_}
def J9{n:Int}:mm n x=0↔x.length<=64/\e9 n 0 x:=by
 unfold mm;by_cases a:64<x.length
 ·rw[au a];constructor
  ·intro a;omega
  ·intro a;omega
 ·rw[an a,Re];exact⟨λb=>⟨G,b⟩,λb=>b.2⟩
def Ap:gu n x=0↔(x.length<=64/\e9 n 0 x)/\(n:Int)+c8 x<=20000:=by
 unfold gu;rw[<-J9];by_cases a:mm n x=0
 ·rw[au a];by_cases c:20000<(n:Int)+c8 x
  ·rw[au c];constructor
   ·intro a;omega
   ·rintro⟨_,a⟩;omega
  ·rw[an c];exact⟨λ_=>⟨a,G⟩,λ_=>F⟩
 ·rw[an a];exact⟨λb=>aL b a,λb=>aL b.1 a⟩
def e9.o{n:Int}{a b:Int}{l:List a_}(h:e9 n b l)(c:a<=b):e9 n a l:=by
 cases l with
 |nil=>trivial
 |cons d l=>exact⟨h.1,by have:=h.2.1;omega,h.2.2⟩
def e9.Q{n:Int}:∀{l:List a_} {a:Int},e9 n a l->∀x∈l,0<=x.1/\x.1<=x.2.1/\x.2.1<=n
 |[],_,_,_,b=>by cases b
 |d::l,_,c,x,b=>by
  rcases df.1 b with rfl|b
  ·exact c.1
  ·exact e9.Q c.2.2 x b
def e9.aQ{n:Int}:∀{c:List a_} {a:Int},e9 n a c->∀b,e9 n a (c.take b)
 |[],_,_,b=>by rw[List.take_nil];trivial
 |_::_,_,_,0=>trivial
 |_::_,_,h,b+1=>⟨h.1,h.2.1,h.2.2.aQ b⟩
def G5{c:Int}:∀{a:List a_} {d:Int},e9 c d a->c8 a<=jD a
 |[],_,_=>by simp[c8,jD]
 |e::a,_,b=>by have:=G5 b.2.2;rw[oB,wm];unfold iu;have:=b.1;omega
def x5{n M:Nat}:∀{l:List a_},(∀a∈l,0<=a.1/\a.1<=a.2.1/\a.2.1<=n)->(∀a∈l,c6 a<=M)->-(n*l.length:Nat)<=c8 l/\c8 l<=(M*l.length:Nat)
 |[],_,_=>by simp[c8]
 |a::l,d,e=>by have ih:=x5 (n:=n) (M:=M) (l:=l) (λb c=>d b (ey _ c)) (λb c=>e b (ey _ c));have f:=d a (dv ..);have g:=e a (dv ..);rw[oB,d1,NS,NS,Dx,Dx];unfold iu;omega
def gR(r:List Int)(l:List a_):List Int:=l.foldr (λa b=>b.take a.1.toNat++bY a.2.2++b.drop a.2.1.toNat) r
def y8(r:List Int)(a:a_)(l:List a_):gR r (a::l)=(gR r l).take a.1.toNat++bY a.2.2++(gR r l).drop a.2.1.toNat:=rfl
def dM(r:List Int):Nat->List a_->List Int
 |a,[]=>r.drop a
 |a,b::c=>(r.drop a).take (b.1.toNat-a)++bY b.2.2++dM r b.2.1.toNat c
def dV(r:List Int):Nat->List a_->List Int
 |_,[]=>[]
 |b,a::c=>(r.drop b).take (a.1.toNat-b)++bY a.2.2++dV r a.2.1.toNat c
def iP:Nat->List a_->Nat
 |a,[]=>a
 |_,b::c=>iP b.2.1.toNat c
def Lx(c:List Int):∀(b:List a_) (a:Nat),dM c a b=dV c a b++c.drop (iP a b)
 |[],a=>by rw[dM,dV,iP,fc]
 |d::b,a=>by rw[dM,dV,iP,Lx c b,cX,cX,cX]
def Tw(c:List Int):∀(b:List a_) (a:Nat) (x:a_),dV c a (b++[x])=dV c a b++((c.drop (iP a b)).take (x.1.toNat-iP a b)++bY x.2.2)
 |[],a,x=>by rw[fc,dV,dV,dV,iP,cT,fc]
 |d::b,a,x=>by rw[gO,dV,dV,iP,Tw c b];simp only [cX]
def KT:∀(b:List a_) (a:Nat) (x:a_),iP a (b++[x])=x.2.1.toNat
 |[],_,_=>F
 |c::b,_,x=>by rw[gO,iP,KT b]
def e9.nP{n:Nat}:∀{l:List a_} {a:Nat},e9 n a l->a<=n->a<=iP a l/\iP a l<=n
 |[],_,_,b=>⟨a6 _,b⟩
 |c::l,a,b,_=>by have d:=b.1;have e:=b.2.1;have:=e9.nP (n:=n) (l:=l) (a:=c.2.1.toNat) (by rw[lQ G];exact b.2.2) G;rw[iP];omega
def e9.f{n:Nat}:∀{l:List a_} {a:Nat} {i:Nat} {x:a_},e9 n a l->a<=n->l[i]? =J x->(iP a (l.take i):Int)<=x.1
 |[],_,_,_,_,_,h=>by simp at h
 |c::l,a,0,x,h,_,b=>by simp only [qm,kP]at b;subst b;exact h.2.1
 |c::l,a,i+1,x,h,_,b=>by have d:=h.1;simp only [pk]at b;rw[HT,iP];exact e9.f (n:=n) (l:=l) (a:=c.2.1.toNat) (by rw[lQ G];exact h.2.2) G b
def y9{r:List Int}:∀{l:List a_} {a:Nat},e9 r.length a l->a<=r.length->gR r l=r.take a++dM r a l
 |[],a,_,_=>by rw[dM];exact(fi a r).symm
 |b::l,a,c,f=>by
  have g:=c.1;have h:=c.2.1;have ih:=y9 (r:=r) (l:=l) (a:=b.2.1.toNat) (by rw[lQ G];exact c.2.2) G;have i:(r.take b.2.1.toNat).length=b.2.1.toNat:=by rw[bt];omega
  rw[y8,ih,dM,nx G,n9,lP G,rf G];have d:(r.take b.2.1.toNat).drop b.2.1.toNat=[]:=tu G;rw[d,fc];have e:r.take b.1.toNat=r.take a++(r.drop a).take (b.1.toNat-a):=by
   conv=>lhs;rw[<-fi a (r.take b.1.toNat)]
   rw[n9,lP G,si]
  rw[e];simp only [cX]
def Lw{r:List Int}:∀{l:List a_} {a:Nat},e9 r.length a l->a<=r.length->((dM r a l).length:Int)=(r.length-a)+c8 l
 |[],a,_,c=>by rw[dM,cO,uE];omega
 |d::l,a,b,c=>by have e:=b.1;have f:=b.2.1;have ih:=Lw (r:=r) (l:=l) (a:=d.2.1.toNat) (by rw[lQ G];exact b.2.2) G;rw[dM,bf,bf,bt,cO,oB];unfold iu c6;omega
def xn{r:List Int}{l:List a_}(a:e9 r.length 0 l):((gR r l).length:Int)=r.length+c8 l:=by have b:=y9 (r:=r) (l:=l) (a:=0) a (ec _);have d:=Lw (r:=r) (l:=l) (a:=0) a (ec _);rw[b,kp,fc,d];omega
def QD{x:List Int}{e:List a_}(a:e9 x.length n e)(b:n<=x.length):n<=(gR x e).length:=by rw[y9 a b,bf,bt];omega
def e9.bj{c:Int}:∀{l:List a_} {d:Int} {i:Nat} {a:a_},e9 c d l->l[i]? =J a->(0<=a.1/\a.1<=a.2.1/\a.2.1<=c)/\e9 c a.2.1 (l.drop (i+1))
 |[],_,_,_,_,h=>by simp at h
 |e::l,_,0,a,h,b=>by simp only [qm,kP]at b;subst b;exact⟨h.1,h.2.2⟩
 |e::l,_,i+1,a,h,b=>by simp only [pk]at b;exact e9.bj (l:=l) (i:=i) h.2.2 b
def JS{e:List Int}(d:∀b∈e,dP b):∀(c:List a_),∀b∈gR e c,dP b
 |[]=>d
 |f::c=>λb a=>by
  rw[y8,b9,b9]at a;rcases a with(a|a)|a
  ·exact JS d c b (fy a)
  ·exact wb _ b a
  ·exact JS d c b (jH a)
def Tv{e:List Int}(f:∀c∈e,dP c):∀(d:List a_) (a:Nat),∀c∈dV e a d,dP c
 |[],_,c,b=>by simp[dV]at b
 |g::d,a,c,b=>by
  rw[dV,b9,b9]at b;rcases b with(b|b)|b
  ·exact f c (jH (fy b))
  ·exact wb _ c b
  ·exact Tv f d _ c b
variable{x:a_}
def aft{e:List Int}{c:List a_}(a:e9 e.length 0 (x::c)):gR e (x::c)=e.take x.1.toNat++dV e x.1.toNat (x::c)++e.drop (iP x.1.toNat (x::c)):=by have d:=a.1;have b:e9 e.length (x.1.toNat:Nat) (x::c):=⟨a.1,G,a.2.2⟩;rw[y9 b G,Lx,cX]
def nL(b:List Int)(s:Int)(a:a_):a_:=(a.1+s,a.1+s+c6 a,a8 ((b.drop a.1.toNat).take (a.2.1.toNat-a.1.toNat)))
def dw(r:List Int):Int->List a_->List a_
 |_,[]=>[]
 |a,b::c=>nL r a b::dw r (a+iu b) c
def ua(b:List Int):∀(a:List a_) (c:Int),(dw b c a).length=a.length
 |[],_=>F
 |d::a,c=>by rw[dw,d1,ua b a,d1]
def KQ(c:List Int):∀(a:List a_) (b:Int) (d:a_),dw c b (a++[d])=dw c b a++[nL c (b+c8 a) d]
 |[],b,d=>by rw[fc,dw,dw,dw,uE,DG];rfl
 |e::a,b,d=>by rw[gO,dw,KQ c a,dw,oB,gO,Dy]
def J_(a:a_):a_:=(a.1,a.2.1,a8 (bY a.2.2))
def Wb{r t:List Int}(k:∀e∈r,dP e):∀{l:List a_} {a b:Nat} {s:Int},e9 r.length a l->a<=r.length->(a:Int)+s=b->b<=t.length->t.drop b=dM r a l->
 e9 t.length b (dw r s l)/\dM t b (dw r s l)=r.drop a/\dw t (-s) (dw r s l)=l.map J_/\c8 (dw r s l)=-c8 l
 |[],a,b,s,_,_,_,_,g=>⟨trivial,by rw[dw,dM,g,dM],F,F⟩
 |y::l,a,b,s,i,ab,ae,ag,g=>by
  have j:=i.1;have z:=i.2.1;obtain⟨m,n,f⟩:=y;obtain⟨c,rfl⟩:∃c:Nat,m=c:=⟨m.toNat,by dsimp only at j;omega⟩;obtain⟨d,rfl⟩:∃d:Nat,n=d:=⟨n.toNat,by dsimp only at j;omega⟩
  dsimp only at j z
  have A:e9 r.length d l:=i.2.2;rw[dM]at g;simp only [kq]at g;generalize o:bY f=e at*;have p:((r.drop a).take (c-a)).length=c-a:=by rw[bt,cO];omega
  have ah:t.length-b=(c-a)+e.length+(dM r d l).length:=by have:=ck gB g;rw[cO,bf,bf,p]at this;exact this
  have B:(c:Int)+s=(b+(c-a):Nat):=G;have C:(t.drop b).take (c-a)=(r.drop a).take (c-a):=by rw[g,cX,nx G,d_ G]
  have q:t.drop (b+(c-a))=e++dM r d l:=by
   rw[<-jF,g,cX]
   conv=>lhs;arg 1;rw[<-p]
   rw[uQ]
  have D:t.drop (b+(c-a)+e.length)=dM r d l:=by rw[<-jF,q,uQ]
  have E:(t.drop (b+(c-a))).take e.length=e:=by rw[q,tq]
  have u:c6 ((c:Int),(d:Int),f)=e.length:=by unfold c6;rw[o]
  have hd:iu ((c:Int),(d:Int),f)=e.length-((d:Int)-c):=by unfold iu;rw[u]
  obtain⟨H,K,L,M⟩:=Wb k (t:=t) (l:=l) (a:=d) (b:=b+(c-a)+e.length) (s:=s+iu ((c:Int),(d:Int),f)) A G (by rw[hd];omega) G D;have v:bY (a8 ((r.drop c).take (d-c)))=(r.drop c).take (d-c):=xW λO P=>k O (jH (fy P));have Q:((r.drop c).take (d-c)).length=d-c:=by rw[bt,cO];omega
  have h:nL r s ((c:Int),(d:Int),f)=(((b+(c-a):Nat):Int),((b+(c-a)+e.length:Nat):Int),a8 ((r.drop c).take (d-c))):=by
   unfold nL;rw[u];simp only [kq];rw[B]
   rfl
  have w:c6 (((b+(c-a):Nat):Int),((b+(c-a)+e.length:Nat):Int),a8 ((r.drop c).take (d-c)))=d-c:=by
   unfold c6
   dsimp only
   rw[v,Q]
  have x:iu (((b+(c-a):Nat):Int),((b+(c-a)+e.length:Nat):Int),a8 ((r.drop c).take (d-c)))=-iu ((c:Int),(d:Int),f):=by
   rw[hd];unfold iu;rw[w]
   dsimp only
   omega
  refine⟨?_,?_,?_,?_⟩
  ·rw[dw,h];exact⟨⟨by dsimp only;omega,by dsimp only;omega,by dsimp only;omega⟩,by dsimp only;omega,H⟩
  ·rw[dw,h,dM]
   dsimp only
   rw[kq,kq,wD,C,v,K];have R:(r.drop c)=(r.drop c).take (d-c)++r.drop d:=by
    conv=>lhs;rw[<-fi (d-c) (r.drop c)]
    rw[jF];congr 2;omega
   have S:r.drop a=(r.drop a).take (c-a)++r.drop c:=by
    conv=>lhs;rw[<-fi (c-a) (r.drop a)]
    rw[jF];congr 2;omega
   rw[cX,<-R,<-S]
  ·rw[dw,h,dw,x,eB];have U:-s+-iu ((c:Int),(d:Int),f)=-(s+iu ((c:Int),(d:Int),f)):=G;rw[U,L];congr 1;unfold nL J_;rw[w]
   dsimp only
   rw[kq,kq,wD,E,o];have V:((b+(c-a):Nat):Int)+-s=c:=G;have W:(c:Int)+(d-c:Nat)=d:=G;rw[V,W]
  ·rw[dw,h,oB,x,M,oB];omega
def amw{r:List Int}{l:List a_}(e:∀f∈r,dP f)(a:e9 r.length 0 l):
 e9 (gR r l).length 0 (dw r 0 l)/\gR (gR r l) (dw r 0 l)=r/\dw (gR r l) 0 (dw r 0 l)=l.map J_/\c8 (dw r 0 l)=-c8 l:=by
 have b:=y9 (r:=r) (l:=l) (a:=0) a (ec _);rw[kp,fc]at b;obtain⟨d,g,h,i⟩:=Wb e (t:=gR r l) (l:=l) (a:=0) (b:=0) (s:=0) a (ec _) F (ec _) (by rw[h6,b]);refine⟨d,?_,h,i⟩;rw[y9 (a:=0) d (ec _),kp,fc,g,h6]
variable{e:List a_}
def we(a:e[i]? =J x):c8 (e.take (i+1))=c8 (e.take i)+iu x:=by rw[gp a,alw]
def nC(a:List a_):Prop:=∀b∈a,b.2.2.length<=2000000
def nC.c6{a:List a_}(b:nC a):∀x∈a,c6 x<=2000000:=λx c=>eQ (nr _) (b x c)
def r5{x:List a_}(c:n<=1000000)(g:x.length<=200)(d:∀a∈x,0<=a.1/\a.1<=a.2.1/\a.2.1<=n)(e:nC x)(i:Nat):-400000000<=c8 (x.take i)/\c8 (x.take i)<=400000000:=by
 have h:=x5 (n:=n) (M:=2000000) (l:=x.take i) (λa b=>d a (fy b)) (λa b=>e.c6 a (fy b));have f:(x.take i).length<=200:=by rw[bt];omega
 have l:n*(x.take i).length<=1000000*200:=Nat.mul_le_mul c f;omega
variable{x:aa}
def Db(a:List UInt8)(t:a.length<=10000000):ak Y 168 [co a] x λi j=>O x j/\i=I X (bY a).length:=by
 apply aeE;refine Aa gy λk u v w l m=>?_;refine ba.bJ (λd e b=>O x b/\∃(pos n:Nat),d=a.length-pos/\e=[I X n]/\pos<=a.length/\jt b k a pos/\(bY a).length=n+(bY (a.drop pos)).length)
  ⟨a.length-0,l,0,0,F,F,G,m,ae⟩ ?_
 rintro d e y b ⟨f,pos,n,rfl,rfl,z,g,c⟩;have A:=nr a;rw[av];by_cases o:pos<a.length
 ·refine x1 g o λB C p q=>?_;have h:a.drop pos≠[]:=λr=>by have:=ck gB r;rw[cO]at this;simp at this;omega
  have s:=sK _ h;rw[cO]at s;rw[aN,hV,aD];refine⟨a.length-(pos+(cF (a.drop pos)).2),G,f.ab p (by rintro _ ⟨⟩;omega),pos+(cF (a.drop pos)).2,n+1,F,ae,G,q,?_⟩;rw[c,wa h,jF,d1];omega
 ·obtain rfl:pos=a.length:=G;rw[CX g G,aN,cw];rw[mc,ta,lk,nw]at c;rw[c];exact⟨f,F⟩
def V_(d:hJ x)(a:List UInt8)(e:a.length<=10000000):ak Y 100 [co a] x λb f=>O x f/\b=co (a8 (bY a)):=by apply aeD;have i:=nr a;refine(x9 a e).o ?_;rintro j k ⟨c,g⟩;refine(Wa (d.h c) (g.aI ix) G).o ?_;rintro b l ⟨h,rfl⟩;exact⟨c.a h,F⟩
def afD(n:Int)(i:aC x v 3 cp e):ak Y 287 [I X n,v] x λw k=>O x k/\w=I X (mm n e):=by
 apply X7;rw[aS hA i,cb,ai];refine⟨λb=>⟨O.p x,by unfold mm;rw[au G]⟩,λK=>?_⟩;have y:mm n e=p3 n 0 e:=by unfold mm;rw[an G]
 rw[y,aS hA i];refine ba.y (λd q=>O x q/\∃(f:Nat) (l:Int),d=[I X l,I X f]/\f<=e.length/\p3 n 0 e=p3 n l (e.drop f))
  (λd _=>match d with|[_,I _ z]=>(e.length-z).toNat|_=>0) ⟨O.p x,0,0,F,ec _,F⟩ ?_
 rintro d r q ⟨j,f,l,rfl,L,c⟩;rw[av,bA,av,aR,ai];refine⟨λM=>?_,λP=>?_⟩
 ·obtain⟨a,m⟩:∃a,e[f]? =J a:=⟨_,aX G⟩;obtain⟨Q,R,A,B⟩:=(i.h j).m m;rw[jw m,p3]at c;rw[cr hA ir G (i.h j) m F,A,aF (S:=cp a) rs B F];refine cj (cS:=cp a) kx ir g F F (vu a) λU s V W C h=>?_;have o:=j.a C;refine bG.y (λd k=>k=s/\∃p:Bool,d=[ax p]/\(p=af↔¬(0<=a.1/\a.1<=a.2.1/\a.2.1<=n))) ?_ ?_
  ·rw[aj iq,aM (v:=I X a.1) E (h.b.f 0 F),aR,ai];refine⟨λb=>⟨F,af,F,by simp only [true_iff];omega⟩,λab=>?_⟩;rw[aj ku,aM (v:=I X a.2.1) E (h.b.f 1 F),aj iq,aM (v:=I X a.1) E (h.b.f 0 F),aR,ai];refine⟨λb=>⟨F,af,F,by simp only [true_iff];omega⟩,λag=>?_⟩;rw[aj ku,aM (v:=I X a.2.1) E (h.b.f 1 F),cb];exact⟨F,_,F,by rw[dF];omega⟩
  ·rintro d r s ⟨rfl,p,rfl,t⟩;rw[av,dQ];refine⟨λD=>⟨o,by rw[c,an (t.1 D)]⟩,λu=>?_⟩;have H:0<=a.1/\a.1<=a.2.1/\a.2.1<=n:=by
    rcases Decidable.em (0<=a.1/\a.1<=a.2.1/\a.2.1<=n)with b|b
    ·exact b
    ·rw[t.2 b]at u;cases u
   rw[au H]at c;rw[aj iq,aM (v:=I X a.1) E (h.b.f 0 F),aR,ai];refine⟨λb=>⟨o,by rw[c,au b]⟩,λb=>?_⟩;rw[an b]at c;rw[aj ku,aM (v:=I X a.2.1) E (h.b.f 1 F),aD];exact⟨⟨o,f+1,a.2.1,ae,G,c⟩,by simp only [];omega⟩
 ·obtain rfl:f=e.length:=G;rw[mc]at c;exact⟨j,by rw[c];rfl⟩
def afS(o:aC x v 3 cp e)(t:n<=1000000)(u:e.length<=200)(p:∀a∈e,0<=a.1/\a.1<=a.2.1/\a.2.1<=n)(j:nC e):ak Y 288 [v] x λw y=>O x y/\w=I X (c8 e):=by
 apply X9;rw[aS hA o];refine ba.y (λk c=>O x c/\∃b:Nat,k=[I X (c8 (e.take b)),I X b]/\b<=e.length)
  (λk _=>match k with|[_,I _ z]=>(e.length-z).toNat|_=>0) ⟨O.p x,0,F,ec _⟩ ?_
 rintro k A c ⟨l,b,rfl,P⟩;rw[av,bA,av,aR,ai];refine⟨λQ=>?_,λR=>?_⟩
 ·obtain⟨a,f⟩:∃a,e[b]? =J a:=⟨_,aX G⟩;obtain⟨S,U,B,C⟩:=(o.h l).m f;have q:=cl f;have V:=r5 t u p j b;have D:=r5 t u p j (b+1);rw[we f]at D;have W:=p a q;have ab:=j a q;have ae:=j.c6 a q;have hd:iu a=c6 a-(a.2.1-a.1):=rfl;rw[cr hA ir G (o.h l) f F,B,aF (S:=cp a) rs C F];refine cj (cS:=cp a) kx ir g F F (vu a) λah r am an H s=>?_;have K:=l.a H;apply bE.h;have d:O r r.drew:=(O.p r).C;rw[aK (λc h i=>aj mT) d,dR (v:=co a.2.2) ga (s.b.f 2 F) d,aK (λc h i=>aj ku) d,dR (v:=I X a.2.1) E (s.b.f 1 F) d,
   aK (λc h i=>aj iq) d,dR (v:=I X a.1) E (s.b.f 0 F) d,aK (λc h i=>cd) d]
  refine(Db a.2.2 G).o ?_;rintro w ap ⟨L,rfl⟩;have m:=d.a L;refine⟨m,?_⟩;have M:((bY a.2.2).length:Int)=c6 a:=rfl;rw[M,aK (λc h i=>cd) m,<-hd,aK (λc h i=>aD) m,aD];exact⟨⟨K.a m,b+1,by rw[we f];simp,G⟩,by simp only [];omega⟩
 ·obtain rfl:b=e.length:=G;rw[cI];exact⟨l,F⟩
variable{c:List (List Int)}{d:List a_}
def QW{e:Z}(k:gF x v c)(f:fO c)(l:aC x e 3 cp d)(m:nC d):ak Y 202 [v,e] x λa r=>O x r/\a=I X (gu c.flatten.length d):=by apply X_;have z:=f.dU;refine(kK k f).o ?_;rintro a A ⟨n,rfl⟩;refine(afD _ (l.h n)).o ?_;rintro a B ⟨s,rfl⟩;have b:=n.a s;rw[bs,bu];refine⟨λt=>⟨b,by unfold gu;rw[an t]⟩,λg=>?_⟩;obtain⟨C,o⟩:=J9.1 g;have u:=r5 (n:=c.flatten.length) G G (λh i=>o.Q h i) m d.length;rw[cI]at u;refine(kK (k.h b) f).o ?_;rintro a D ⟨p,rfl⟩;refine(afS (n:=c.flatten.length) ((l.h b).h p) G G (λh i=>o.Q h i) m).o ?_;rintro a E ⟨y,rfl⟩;have q:=(b.a p).a y;rw[aD,cb,ai];refine⟨λj=>⟨q,by unfold gu;rw[au g,au j]⟩,λj=>⟨q,by unfold gu;rw[au g,an j]⟩⟩
def afE{e:List (List Int)}{b A B:Nat}(f:cA x b 0 [v])(c:gF x v e)(g:fO e)(l:A<=B)(m:B<=e.flatten.length):
 iU Y (.func (.func 206) #[] #[ad (J ⟨b,0,ac⟩)]) [I X A,I X B] x λd h=>O x h/\d=co (a8 ((e.flatten.drop A).take (B-A))):=by
 rw[kL];apply X5;obtain⟨a,rfl⟩:∃a,v=ad a:=by rcases c with⟨rfl,_⟩|⟨b,n,rfl,_⟩<;>exact⟨_,F⟩
 rw[aM gl (f.U F)];refine(CP (a:=A) (b:=B) c g).o ?_;rintro d o ⟨i,j⟩;rcases j with⟨k,_⟩|⟨_,rfl⟩
 ·exact aL ⟨G,G,G⟩ k
 ·rw[aN,aO];exact⟨i,F⟩
variable{e:Z}
def afB(M:hJ x)(t:gF x v c)(q:fO c)(j:aC x e 3 cp d)(B:nC d):ak Y 140 [v,e] x λk aw=>O x aw/\
 ((gu c.flatten.length d≠0/\k=a1 #[ad ac,I X (gu c.flatten.length d)])\/
  (gu c.flatten.length d=0/\∃(r:Nat) (l:List (List Int)),k=a1 #[ad (J ⟨r,0,ac⟩),I X 0]/\gF aw (ad (J ⟨r,0,ac⟩)) l/\fO l/\l.flatten=gR c.flatten d)):=by
 apply X6;have bp:=q.dU;obtain⟨m,rfl⟩:∃m,v=ad m:=by rcases t with⟨rfl,_⟩|⟨ay,br,rfl,_⟩<;>exact⟨_,F⟩
 refine bd (S:=[ad m]) F λbv C bw bx P az=>?_;rw[aM gl (az.b.U F)];refine(QW (t.h P) q (j.h P) B).o ?_;rintro k a0 ⟨a2,rfl⟩;have i:=P.a a2;have a3:=az.h a2;rw[bs,bu];refine⟨λaB=>⟨i,.inl ⟨aB,F⟩⟩,λQ=>?_⟩;obtain⟨⟨bz,n⟩,b0⟩:=Ap.1 Q;have b1:=xn n;rw[aS hA (j.h i),bm,ai];refine⟨λb2=>?_,λaE=>?_⟩
 ·have R:d=[]:=ig G;subst R;rw[aM gl (a3.b.U F)];refine(US (a:=0) (b:=0) (s:=[]) (M.h i) (t.h i) q ae).o ?_;rintro k S ⟨u,w⟩;rw[ta]at w;rcases w with⟨U,_⟩|⟨_,D,_⟩|⟨_,D,r,l,rfl,V,W,ab,aH⟩
  ·exact aL ⟨G,G,G⟩ U
  ·simp only [lk]at D;omega
  ·rw[aN,aO];refine⟨i.a u,.inr ⟨Q,r,l,F,V,W,?_⟩⟩;rw[ab];simp[gR]
 ·obtain⟨h,H,rfl⟩:∃h H,d=h::H:=by cases d with
   |nil=>simp at aE
   |cons f aI=>exact⟨f,aI,F⟩
  have b3:=n.1;have ag:e9 c.flatten.length (h.1.toNat:Nat) (h::H):=⟨n.1,G,n.2.2⟩;have aJ:(h.1.toNat:Int)=h.1:=G;obtain⟨aP,aT,ah,am⟩:=(j.h i).m (i:=0) (x:=h) F;rw[jZ,cr (i:=0) (z:=0) hA ir G (j.h i) (x:=h) F F,ah,aj iq,aM (v:=I X h.1) E (am.f 0 F),aS hA (j.h i)];generalize R:h::H=d at*;generalize aU:h.1.toNat=b at*;have aV:∀a,b<=iP b (d.take a)/\iP b (d.take a)<=c.flatten.length:=λa=>e9.nP (ag.aQ a) G;have aW:∀a,((dV c.flatten b (d.take a)).length:Int)<=400020000:=λa=>by have aY:=ck gB (Lx c.flatten (d.take a) b);rw[bf]at aY;have b5:=Lw (ag.aQ a) (show b<=c.flatten.length by omega);have b6:=r5 (n:=c.flatten.length) G G (λf o=>n.Q f o) B a;omega
  refine ba.y (λK S=>O a0 S/\∃a:Nat,K=[co (a8 (dV c.flatten b (d.take a))),I X (iP b (d.take a)),I X a]/\a<=d.length)
   (λK _=>match K with|[_,_,I _ m]=>(d.length-m).toNat|_=>0) ⟨O.p a0,0,by rw[kp,dV,iP,uK,aJ];rfl,ec _⟩ ?_
  rintro K aZ S ⟨u,a,rfl,b8⟩;have s:=i.a u;have a4:=a3.h u;have bb:=aV a;rw[av,bA,av,bA,av,aR,ai];refine⟨λbB=>?_,λbC=>?_⟩
  ·obtain⟨f,o⟩:∃f,d[a]? =J f:=⟨_,aX G⟩;obtain⟨aP,aT,ah,am⟩:=(j.h s).m o;have an:=cl o;have bD:=n.Q f an;have bF:=B f an;have bc:=B.c6 f an;have bG:=ag.f G o;obtain⟨y,a5⟩:∃y:Nat,f.1=y:=⟨f.1.toNat,G⟩;rw[cr hA ir G (j.h s) o F,ah,aF (S:=cp f) rs am F];refine cj (cS:=cp f) kx ir g F F (vu f) λbH L bI bJ z ap=>?_;have a7:=s.a z;apply bE.h;have p:O L L.drew:=(O.p L).C;rw[aK (λC aq ar=>aj iq) p,dR (v:=I X f.1) E (ap.b.f 0 F) p,aK (λC aq ar=>aj mT) p,dR (v:=co f.2.2) ga (ap.b.f 2 F) p,a5];refine mz ?_ (afE (A:=iP b (d.take a)) (B:=y) ((a4.h z).h p).b (t.h (a7.a p)) q G G);rintro k bM ⟨be,rfl⟩;have au:=p.a be;refine⟨au,?_⟩;refine(V_ (M.h (a7.a au)) f.2.2 G).o ?_;rintro k bN ⟨bg,rfl⟩;have A:=au.a bg;refine⟨A,?_⟩;have bO:=kN ((c.flatten.drop (iP b (d.take a))).take (y-iP b (d.take a)));have bP:((c.flatten.drop (iP b (d.take a))).take (y-iP b (d.take a))).length<=c.flatten.length:=by rw[bt,cO];omega
   have bQ:=kN (bY f.2.2);have bR:(bY f.2.2).length<=2000000:=bc;have bS:=kN (dV c.flatten b (d.take a));have bT:=aW a;rw[aK (λC aq ar=>GL G) A,aK (λC aq ar=>GL (by rw[bf];omega)) A,aj ku,aM (v:=I X f.2.1) E ((ap.h A).b.f 1 F),aD];refine⟨⟨(u.a z).a A,a+1,?_,G⟩,by simp only [];omega⟩;rw[gp o,Tw,KT,kM,kM,a5,kq];have bh:(f.2.1.toNat:Int)=f.2.1:=G;rw[bh];simp
  ·obtain rfl:a=d.length:=G;rw[cI]at bb⊢;rw[aM gl (a4.b.U F)];have bi:∀bj∈c.flatten,dP bj:=q.bY;have bk:=Tv bi d b;have bl:bY (a8 (dV c.flatten b d))=dV c.flatten b d:=xW bk;have a9:gR c.flatten d=c.flatten.take b++dV c.flatten b d++c.flatten.drop (iP b d):=by subst R aU;exact aft n
   have bn:=ck gB a9;rw[bf,bf,bt,cO]at bn;have bU:=kN (dV c.flatten b d);have bo:h.1=(b:Nat):=G;rw[bo];refine(US (a:=b) (b:=iP b d) (s:=a8 (dV c.flatten b d)) (M.h s) (t.h s) q G).o ?_;rintro k L ⟨z,w⟩;rw[bl]at w;rcases w with⟨U,_⟩|⟨_,D,_⟩|⟨_,D,r,l,rfl,V,W,ab,aH⟩
   ·exact aL ⟨G,G,G⟩ U
   ·omega
   ·rw[aN,aO];refine⟨s.a z,.inr ⟨Q,r,l,F,V,W,?_⟩⟩;rw[ab,a9,kq,kq]
def afJ(z:gF x v c)(p:fO c)(k:aC x e 3 cp d)(h:nC d):ak Y 137 [v,e] x λi A=>O x A/\
 ((gu c.flatten.length d≠0/\i=a1 #[aQ ac 0 0,I X (gu c.flatten.length d)])\/
  (gu c.flatten.length d=0/\∃B:Z,i=a1 #[B,I X 0]/\ar A x.heap.size 70 3 B cp (dw c.flatten 0 d))):=by
 apply X8;have aE:=p.dU;have aG:e0=9223372036854775807:=rfl;refine(QW z p k h).o ?_;rintro i aH ⟨q,rfl⟩;rw[bs,bu];refine⟨λW=>⟨q,.inl ⟨W,F⟩⟩,λC=>?_⟩;obtain⟨⟨aJ,r⟩,aK⟩:=Ap.1 C;rw[aS hA (k.h q)];refine ba.y (λl s=>O x s/\∃(b:Nat) (m:Z),l=[m,I X (c8 (d.take b)),I X b]/\b<=d.length/\ar s x.heap.size 70 3 m cp (dw c.flatten 0 (d.take b)))
  (λl _=>match l with|[_,_,I _ D]=>(d.length-D).toNat|_=>0) ⟨q,0,_,F,ec _,ar.nil _ _ _ _ _⟩ ?_
 rintro l ae s ⟨n,b,m,rfl,aP,j⟩;rw[av,bA,av,bA,av,aR,ai];refine⟨λaT=>?_,λaU=>?_⟩
 ·obtain⟨a,f⟩:∃a,d[b]? =J a:=⟨_,aX G⟩;obtain⟨aV,aW,ah,am⟩:=(k.h n).m f;have t:=cl f;have aY:=r.Q a t;have aZ:=h a t;have bb:=h.c6 a t;have bc:=r5 (n:=c.flatten.length) G G (λa f=>r.Q a f) h b;rw[cr hA ir G (k.h n) f F,ah,aF (S:=cp a) rs am F];refine cj (cS:=cp a) kx ir g F F (vu a) λK bd be bg L o=>?_;have M:=n.a L;rw[aj iq,aM (v:=I X a.1) E (o.b.f 0 F),aj ku,aM (v:=I X a.2.1) E (o.b.f 1 F)];refine(CP (a:=a.1) (b:=a.2.1) (z.h M) p).o ?_;rintro i bi ⟨P,ap⟩;rcases ap with⟨aq,_⟩|⟨_,rfl⟩
  ·exact aL ⟨G,G,G⟩ aq
  rw[aN,aO,aj mT,aM (v:=co a.2.2) ga ((o.h P).b.f 2 F)];refine(Db a.2.2 G).o ?_;rintro i bj ⟨au,rfl⟩;have u:=P.a au;have aw:=M.a u;have w:=o.h u;have ay:((bY a.2.2).length:Int)=c6 a:=rfl;have hd:iu a=c6 a-(a.2.1-a.1):=rfl;rw[ay,aj iq,aM (v:=I X a.1) E (w.b.f 0 F),aD,aj iq,aM (v:=I X a.1) E (w.b.f 0 F),aD,aD,
   bz (S:=cp (nL c.flatten (c8 (d.take b)) a)) (iR:=[(0,[I X (a.1+c8 (d.take b))]),(1,[I X (a.1+c8 (d.take b)+c6 a)]),(2,[co (a8 ((c.flatten.drop a.1.toNat).take (a.2.1.toNat-a.1.toNat)))])]) kx Bl F F]
  refine f0 (n:=1) (V:=cp) (L:=[nL c.flatten (c8 (d.take b)) a]) (iR:=[(0,cp (nL c.flatten (c8 (d.take b)) a))]) hA ir F kx g g jR F F λbl bm bn a0 y bo=>?_;have Q:=(L.a u).a y;have R:=aw.a y;refine jC hA ir g kx F jR (j.h Q) R.size (a0.aI jR) (by rw[ua,bt];simp;omega) (by rw[D7,ua,bt];simp;omega) λa2 a3 a4 S _=>?_;have a5:=R.ab S λa7 a9=>((j.h Q).D a7 a9).1;have U:ag a3 K (cp a):=(w.h y).ab S (by intro aA;have:=(j.D K aA.symm).2;omega)
  rw[aj ku,aM (v:=I X a.2.1) E (U.b.f 1 F),aj iq,aM (v:=I X a.1) E (U.b.f 0 F),cd,cd,<-hd];have aB:=r5 (n:=c.flatten.length) G G (λa f=>r.Q a f) h (b+1);rw[we f]at aB;rw[aD,aD];refine⟨⟨a5,b+1,a2,by rw[we f];simp,G,?_⟩,by simp only [];omega⟩;rw[gp f,KQ,XL];exact a4
 ·obtain rfl:b=d.length:=G;rw[cI]at j;exact⟨n,.inr ⟨C,m,F,j⟩⟩
def agt{e:List a_}(c:Int)(h:aC x v 3 cp e):ak Y 150 [I X c,v] x λo s=>O x s/\o=I X (mm c e):=by
 apply Yq;rw[aS hA h,cb,ai];refine⟨λf=>⟨O.p x,by unfold mm;rw[au G]⟩,λD=>?_⟩;have t:mm c e=p3 c 0 e:=by unfold mm;rw[an G]
 rw[t,aS hA h];refine ba.y (λi p=>O x p/\∃(d:Nat) (l:Int),i=[I X l,I X d]/\d<=e.length/\p3 c 0 e=p3 c l (e.drop d))
  (λi _=>match i with|[_,I _ u]=>(e.length-u).toNat|_=>0) ⟨O.p x,0,0,F,ec _,F⟩ ?_
 rintro i w p ⟨j,d,l,rfl,H,b⟩;rw[av,bA,av,aR,ai];refine⟨λK=>?_,λL=>?_⟩
 ·obtain⟨a,m⟩:∃a,e[d]? =J a:=⟨_,aX G⟩;obtain⟨M,P,y,z⟩:=(h.h j).m m;rw[jw m,p3]at b;rw[cr hA ir G (h.h j) m F,y,aF (S:=cp a) rs z F];refine cj (cS:=cp a) kx ir g F F (vu a) λR S U V A k=>?_;have n:=j.a A;rw[aj iq,aM (v:=I X a.1) E (k.b.f 0 F),aj ku,aM (v:=I X a.2.1) E (k.b.f 1 F)];refine(agv _ _ _).o ?_;rintro o W ⟨rfl,ab,rfl,q⟩;rw[dD,dQ];refine⟨λr=>⟨n,?_⟩,λB=>?_⟩
  ·have:¬(0<=a.1/\a.1<=a.2.1/\a.2.1<=c):=λf=>by rw[q.2 f]at r;cases r
   rw[b,an this]
  ·have C:=q.1 (by simpa using B);rw[au C]at b;rw[aj iq,aM (v:=I X a.1) E (k.b.f 0 F),aR,ai];refine⟨λf=>⟨n,by rw[b,au f]⟩,λf=>?_⟩;rw[an f]at b;rw[aj ku,aM (v:=I X a.2.1) E (k.b.f 1 F),aD];exact⟨⟨n,d+1,a.2.1,ae,G,b⟩,by simp only [];omega⟩
 ·obtain rfl:d=e.length:=G;rw[mc]at b;exact⟨j,by rw[b];rfl⟩
def agz:ak Y 152 [] x λa b=>b=x/\a=I X 20000:=by apply Ym;exact⟨F,F⟩
def V6(a:List a_):∀b,jD (a.drop b)<=jD a
 |0=>a6 _
 |b+1=>by
  cases a with
  |nil=>simp
  |cons c a=>rw[List.drop_succ_cons,wm];have:=V6 a b;omega
def MQ:∀{b:List a_} {x:a_},x∈b->c6 x<=jD b
 |[],_,a=>by cases a
 |c::b,x,a=>by
  rw[wm];rcases df.1 a with rfl|a
  ·omega
  ·have:=MQ a;omega
variable{c:List Int}
def RA(P:aC x v 1 gI c)(aG:c.length<=20000)(l:aC x e 3 cp d)(am:nC d)(aH:jD d<=100000):ak Y 83 [v,e] x λo Q=>O x Q/\
 ((gu c.length d≠0/\o=a1 #[aQ ac 0 0,I X (gu c.length d)])\/(gu c.length d=0/\∃u:Z,o=a1 #[u,I X 0]/\aC Q u 1 gI (gR c d))):=by
 apply Yp;have aJ:e0=9223372036854775807:=rfl;rw[aS di P];refine(agt _ l).o ?_;rintro o a ⟨w,rfl⟩;rw[bs,bu];refine⟨λR=>⟨w,.inl ?_⟩,λy=>?_⟩
 ·have z:gu c.length d=mm c.length d:=by unfold gu;rw[an R]
  rw[z];exact⟨R,F⟩
 obtain⟨aL,C⟩:=J9.1 y;have aM:=G5 C;refine jC di gm g mZ F ix (ar.nil a a.heap.size _ _ _) (a6 _) (P.h w) (by simp;omega) (by rw[rt];simp;omega) λap aq S aw _=>?_;rw[fc]at S;have ay:O a aq:=(O.p a).ab aw (λaN az=>by cases az);have U:=w.a ay;rw[aS hA (l.h U),cd];refine ba.y (λp m=>O x m/\∃(i:Nat) (q:Z),p=[q,I X ((i:Int)-1)]/\i<=d.length/\aC m q 1 gI (gR c (d.drop i)))
  (λp _=>match p with|[_,I _ a0]=>(a0+1).toNat|_=>0) ⟨U,d.length,ap,F,a6 _,by rw[mc];exact S.aI ix⟩ ?_
 rintro p aO m ⟨j,i,q,rfl,aP,r⟩;rw[av,bA,av,eE,ai];refine⟨λaR=>?_,λaT=>?_⟩
 ·obtain⟨f,rfl⟩:∃f,i=f+1:=⟨i-1,G⟩;obtain⟨D,k⟩:∃D,d[f]? =J D:=⟨_,aX G⟩;obtain⟨aU,aV,H,K⟩:=(l.h j).m k;have V:=cl k;obtain⟨L,s⟩:=C.bj k;obtain⟨W,ae,t⟩:=D;obtain⟨A,rfl⟩:∃A:Nat,W=A:=⟨W.toNat,by dsimp only at L;omega⟩;obtain⟨B,rfl⟩:∃B:Nat,ae=B:=⟨ae.toNat,by dsimp only at L;omega⟩
  dsimp only at L s
  have a2:=am _ V
  dsimp only at a2
  have aW:=MQ V;have a3:=QD s G;have a4:=xn (s.o (show(0:Int)<=B by omega));have aY:=G5 (s.o (show(0:Int)<=B by omega));have aZ:=V6 d (f+1);have a5:((f+1:Nat):Int)-1=f:=G;apply bE.h;have b:O m m.drew:=(O.p m).C;rw[a5,aK (λa h n=>cr (z:=(f:Int)) hA ir G ((l.h j).h h) k F) b,H,aK (λa h n=>aj iq) b,dR (v:=I X A) E (K.f 0 F) b,
   aK (λa h n=>cr (z:=(f:Int)) hA ir G ((l.h j).h h) k F) b,H,aK (λa h n=>aj ku) b,dR (v:=I X B) E (K.f 1 F) b,
   aK (λa h n=>bz (S:=vw A B) (iR:=[(0,[I X A]),(1,[I X B])]) Bp Jq F F) b,
   aK (λa h n=>cr (z:=(f:Int)) hA ir G ((l.h j).h h) k F) b,H,aK (λa h n=>aj mT) b,dR (v:=co t) ga (K.f 2 F) b]
  refine(rK t G).o ?_;rintro u a7 ⟨a8,a9⟩;have M:=b.a a8;refine⟨M,?_⟩;have aA:(bY t).length=c6 ((A:Int),(B:Int),t):=rfl;refine(agE (A:=A) (B:=B) (r.h M) (a9.aI ix) G (by rw[aA];omega) G a3).o ?_;rintro aB bd ⟨aD,aE⟩;have ah:=M.a aD;refine⟨ah,?_⟩;rw[cd];refine⟨⟨j.a ah,f,aB,F,G,?_⟩,by simp only [];omega⟩;rw[jw k,y8];exact aE.aI ix
 ·obtain rfl:i=0:=G;rw[h6]at r;rw[aS di r];have a4:=xn C;apply agz.o;rintro o a7 ⟨rfl,rfl⟩;rw[cb,ai];refine⟨λaF=>⟨j,.inl ?_⟩,λaF=>⟨j,.inr ⟨?_,q,F,r⟩⟩⟩
  ·have z:gu c.length d=5:=by unfold gu;rw[au y,au G]
   rw[z];exact⟨g,F⟩
  ·unfold gu;rw[au y,an G]
def agw(R:aC x v 1 gI c)(b1:c.length<=20000)(A:aC x e 3 cp d)(u:nC d)(B:e9 c.length 0 d)(b2:d.length<=64):ak Y 84 [v,e] x λa9 C=>O x C/\ar C x.heap.size 70 3 a9 cp (dw c 0 d):=by
 apply Yr;have b3:e0=9223372036854775807:=rfl;rw[aS hA A];refine ba.y (λo S=>O x S/\∃(j:Nat) (n:Z),o=[n,I X j]/\j<=d.length/\ar S x.heap.size 70 3 n cp (dw c 0 (d.take j)))
  (λo _=>match o with|[_,I _ U]=>(d.length-U).toNat|_=>0) ⟨O.p x,0,_,F,ec _,ar.nil _ _ _ _ _⟩ ?_
 rintro o W S ⟨w,j,n,rfl,D,H⟩;rw[av,bA,av,aR,ai];refine⟨λb4=>?_,λb5=>?_⟩
 ·obtain⟨a,q⟩:∃a,d[j]? =J a:=⟨_,aX G⟩;obtain⟨b6,b7,bd,be⟩:=(A.h w).m q;have ah:=cl q;have b8:=B.Q a ah;have bB:=u a ah;have bC:=u.c6 a ah;rw[cr hA ir G (A.h w) q F,bd,aF (S:=cp a) rs be F];refine cj (cS:=cp a) kx ir g F F (vu a) λaB am bD bF aE an=>?_;have aG:=w.a aE;have ap:=A.h aG;have bG:=lf ap;have bg:=H.h aE;rw[aj iq,aM (v:=I X a.1) E (an.b.f 0 F),oA (bD:=j) hA ir G ap F G];have aH:aC am (dp e 3 0 j (cC e)) 3 cp (d.take j):=by simpa using ap.ag (aw:=0) (bD:=j) (ds:=cC e) G G G (a6 _)
  have bj:(d.take j).length=j:=by rw[bt];omega
  rw[aS hA aH,bj];refine ba.y (λo l=>O am l/\∃f:Nat,o=[I X (a.1+c8 (d.take f)),I X f]/\f<=j)
   (λo _=>match o with|[_,I _ U]=>(j-U).toNat|_=>0) ⟨O.p am,0,by rw[kp,uE,DG];rfl,ec _⟩ ?_
  rintro o W l ⟨y,f,rfl,bH⟩;have aq:=aG.a y;have aJ:=aH.h y;have bI:=r5 (n:=c.length) G G (λa q=>B.Q a q) u f;rw[av,bA,av,aR,ai];refine⟨λbJ=>?_,λbK=>?_⟩
  ·obtain⟨b,K⟩:∃b,(d.take j)[f]? =J b:=⟨_,aX G⟩;have ay:d[f]? =J b:=by rw[lN,au G]at K;exact K
   obtain⟨bL,bM,bk,bl⟩:=aJ.m K;have az:=cl ay;have bN:=B.Q b az;have bO:=u b az;have bP:=u.c6 b az;have bm:=r5 (n:=c.length) G G (λa q=>B.Q a q) u (f+1);rw[we ay]at bm;rw[cr hA ir G aJ K F,bk,aF (S:=cp b) rs bl F];refine cj (cS:=cp b) kx ir g F F (vu b) λbQ t bR bS L a0=>?_;apply bE.h;have r:O t t.drew:=(O.p t).C;rw[aK (λh i k=>aj mT) r,dR (v:=co b.2.2) ga (a0.b.f 2 F) r,aK (λh i k=>aj ku) r,dR (v:=I X b.2.1) E (a0.b.f 1 F) r,
    aK (λh i k=>aj iq) r,dR (v:=I X b.1) E (a0.b.f 0 F) r,aK (λh i k=>cd) r]
   refine(rK b.2.2 G).o ?_;rintro bn aN ⟨M,a2⟩;have z:=r.a M;refine⟨z,?_⟩;have a3:((bY b.2.2).length:Int)=c6 b:=rfl;have hd:iu b=c6 b-(b.2.1-b.1):=rfl;rw[aK (λh i k=>GP di (a2.aI ix)) z,a3,aK (λh i k=>aD) z,aK (λh i k=>cd) z,aD];refine⟨⟨(y.a L).a z,f+1,?_,G⟩,by simp only [];omega⟩;rw[we ay,hd];have:a.1+c8 (d.take f)+c6 b-(b.2.1-b.1)=a.1+(c8 (d.take f)+(c6 b-(b.2.1-b.1))):=G;rw[this];simp
  ·obtain rfl:f=j:=G;have aO:=bg.h y;have a4:=an.h y;have bT:=an.D;have bU:=w.size;have bV:=lf R;have a5:J aB≠n.ownBlock:=λbo=>by have:=(H.D aB bo.symm).2;omega
   have aP:∀P,n.ownBlock=J P->x.heap.size<=P:=λP bp=>(aO.D P bp).1;have p:=jz l n.ownBlock;obtain⟨m,aT⟩:∃m:Nat,a.1=m:=⟨a.1.toNat,G⟩;obtain⟨s,aU⟩:∃s:Nat,a.2.1=s:=⟨a.2.1.toNat,G⟩;have br:nL c (0+c8 (d.take f)) a=(a.1+c8 (d.take f),a.1+c8 (d.take f)+c6 a,a8 ((c.drop m).take (s-m))):=by unfold nL;rw[XL,aT,aU,kq,kq]
   refine bE.y (λC=>l.grownBy C n.ownBlock) p ?_;rw[bh (λh i k=>aj mT) p,bh (λh (i:l.grownBy h _) k=>aM (v:=co a.2.2) ga ((a4.ab i a5).b.f 2 F)) p,
    bh (λh i k=>aj iq) p,bh (λh (i:l.grownBy h _) k=>aM (v:=I X a.1) E ((a4.ab i a5).b.f 0 F)) p,
    bh (λh i k=>aj ku) p,bh (λh (i:l.grownBy h _) k=>aM (v:=I X a.2.1) E ((a4.ab i a5).b.f 1 F)) p,
    bh (λh (i:l.grownBy h _) k=>CY (aw:=m) (bD:=s) di gm G (R.h (aq.ab i aP)) aT aU G G) p]
   refine(rK a.2.2 G).o ?_;rintro bn t ⟨L,a2⟩;have Q:l.grownBy t n.ownBlock:=eN p (eb L _);refine⟨Q,?_⟩;have a3:((bY a.2.2).length:Int)=c6 a:=rfl;rw[bh (λh i k=>GP di (a2.aI ix)) Q,a3,bh (λh i k=>aD) Q];have aV:O l t:=((O.p l).C).a L;have bs:aC t (dp v 1 m s (cC v)) 1 gI ((c.drop m).take (s-m)):=by have:=(R.h (aq.a aV)).ag (aw:=m) (bD:=s) (ds:=cC v) G G G (a6 _);rwa[si]at this
   refine(RE bs (by rw[bt,cO];omega)).o ?_;rintro a9 aN ⟨M,rfl⟩;have a7:l.grownBy aN n.ownBlock:=eN Q (eb M _);refine⟨a7,?_⟩;rw[bh (λh i k=>bz (S:=cp (nL c (0+c8 (d.take f)) a)) (iR:=[(0,[I X (a.1+c8 (d.take f))]),(1,[I X (a.1+c8 (d.take f)+c6 a)]),(2,[co (a8 ((c.drop m).take (s-m)))])]) kx Bl F (by rw[br];rfl)) a7];refine f0 (n:=1) (V:=cp) (L:=[nL c (0+c8 (d.take f)) a]) (iR:=[(0,cp (nL c (0+c8 (d.take f)) a))]) hA ir F kx g g jR F F λbX bv bZ bw aW ca=>?_;have aY:l.grownBy bv n.ownBlock:=eN a7 (eb aW _);refine⟨aY,?_⟩;have aZ:=(aV.a M).a aW;have bb:=aq.a aZ;refine jC hA ir g kx F jR (aO.h aZ) bb.size (bw.aI jR) (by rw[ua,bt];simp;omega) (by rw[D7,ua,bt];simp;omega) λbx cb b0 bc _=>?_;refine⟨eN aY bc,?_⟩;rw[aD];refine⟨⟨bb.ab bc aP,f+1,bx,ae,G,?_⟩,by simp only [];omega⟩;rw[gp q,KQ];exact b0
 ·obtain rfl:j=d.length:=G;rw[cI]at H;exact⟨w,H⟩
end
namespace aY
open Go.RowKit Go.bW Go.cB
abbrev ah(x:aB):List Value:=vw x.1 x.2
def dk(x:aB):∀a∈ah x,a.oneCell' =true:=λa b=>by simp[ah,vw]at b;rcases b with rfl|rfl<;>rfl
def e_:eR ah 2:=⟨λ_=>F,λa b c=>dk a b c⟩
abbrev dx:=aB×aB
def gx(x:dx):List Value:=[I X x.1.1,I X x.1.2,I X x.2.1,I X x.2.2]
def lz:eR gx 4:=⟨λ_=>F,λb c a=>by simp[gx]at a;rcases a with rfl|rfl|rfl|rfl<;>rfl⟩
abbrev gv:List Value:=[I X 0,I X 0]
def Dj{l:List Int}:∀a∈l.map (λb=>I X b),a.oneCell' =true:=λa c=>by obtain⟨b,_,rfl⟩:=eP.1 c;rfl
def cm:eh Y 37 49 2 ah gv:=⟨I7,dj,g,dg,F,e_,cP,by rw[acN];decide,Dj (l:=[0,0])⟩
abbrev AZ:List Value:=[I X 0,I X 0,I X 0,I X 0]
def iJ:eh Y 294 297 4 gx AZ:=⟨ac3,JK,g,EV,F,lz,IY,by rw[acV];decide,Dj (l:=[0,0,0,0])⟩
def kf:eh Y 115 208 4 gx AZ:=⟨ac2,JG,g,ER,F,lz,acE,by rw[acO];decide,Dj (l:=[0,0,0,0])⟩
abbrev am6:List Value:=[I X 0,I X 0,lO ⟨#[]⟩]
def k5:eh Y 54 70 3 cp am6:=⟨hA,ir,g,kx,F,jR,rs,by rw[D7];decide,λb a=>by simp at a;rcases a with rfl|rfl<;>rfl⟩
def e1:Int->Int->Bool->List dx->Prop
 |_,_,_,[]=>True
 |b,c,d,a::l=>b<=a.1.1/\(d=ao->b<a.1.1)/\a.2.1-c=a.1.1-b/\a.1.1<=a.1.2/\a.2.1<=a.2.2/\(a.1.1<a.1.2\/a.2.1<a.2.2)/\a.1.2<=1099511627776/\a.2.2<=1099511627776/\e1 a.1.2 a.2.2 ao l
def eC:List dx->Int->Int->Int->Int
 |[],b,v,_=>v+b
 |a::l,b,v,c=>if v<a.1.1 then v+b else if v<=a.1.2 then(if c=0 then a.2.1 else a.2.2)else eC l (a.2.2-a.1.2) v c
def cx(l:List dx):Int:=(l.map λa=>(a.2.2-a.2.1)-(a.1.2-a.1.1)).sum
def BE(a:dx)(l:List dx):cx (a::l)=(a.2.2-a.2.1)-(a.1.2-a.1.1)+cx l:=by unfold cx;rw[eB,jJ]
def BF{n:Nat}{l:List dx}{a:dx}(b:l[n]? =J a):cx (l.take (n+1))=cx (l.take n)+((a.2.2-a.2.1)-(a.1.2-a.1.1)):=by rw[c9 b];unfold cx;rw[dJ,yh];simp
def km(a:Int×List dx)(x:a_):Int×List dx:=
 (a.1+(c6 x-(x.2.1-x.1)),if(x.2.1-x.1)+c6 x=0 then a.2 else match a.2.getLast? with
  |some b=>if b.1.2=x.1 then a.2.dropLast++[((b.1.1,x.2.1),(b.2.1,x.1+a.1+c6 x))]else a.2++[((x.1,x.2.1),(x.1+a.1,x.1+a.1+c6 x))]
  |none=>a.2++[((x.1,x.2.1),(x.1+a.1,x.1+a.1+c6 x))])
def jT(l:List a_):Int×List dx:=l.foldl km (0,[])
def ct(l:List a_):List dx:=(jT l).2
def KA{i:Nat}{x:a_}{l:List a_}(a:l[i]? =J x):jT (l.take (i+1))=km (jT (l.take i)) x:=by unfold jT;rw[c9 a,DC];rfl
def Fy(l:List a_):∀a:Int×List dx,(l.foldl km a).1=a.1+c8 l:=by
 induction l with
 |nil=>intro a;simp[c8]
 |cons b l ih=>intro a;rw[sf,ih,oB];unfold km iu;dsimp only;omega
def Kz(l:List a_):∀a:Int×List dx,(l.foldl km a).2.length<=a.2.length+l.length:=by
 induction l with
 |nil=>intro a;simp
 |cons b l ih=>
  intro a;rw[sf,d1];have:=ih (km a b);have e:(km a b).2.length<=a.2.length+1:=by
   unfold km
   dsimp only
   split
   ·omega
   ·split
    ·rename_i f c
     have:a.2≠[]:=λd=>by rw[d]at c;cases c
     have:=ym.2 this;split<;>simp<;>omega
    ·simp
  omega
structure IF (c:dx):Prop where
 y:-400000000<=c.1.1/\c.1.1<=400000000/\-400000000<=c.1.2/\c.1.2<=400000000
 z:-400000000<=c.2.1/\c.2.1<=400000000/\-400000000<=c.2.2/\c.2.2<=400000000
section
variable{w:aa} {v:Z} {l:List dx}
def zS{w:aa}(a:aB)(c:pA (a.2-a.1)):ak Y 204 [al (ah a).toArray] w λd e=>O w e/\d=I X (a.2-a.1):=by apply abi;refine bd (S:=ah a) F λh i j k f b=>?_;rw[M bP E (b.b.f 1 F),M ce E (b.b.f 0 F),Vf _ _ c];exact⟨f,F⟩
variable{x:aB}
def Uf{w:aa}(b:0<=x.1/\x.1<=x.2/\x.2<=1099511627776):ak Y 295 [al (ah x).toArray] w λc d=>O w d/\c=ax true:=by apply abj;refine bd (S:=ah x) F λg h i j e a=>?_;rw[M ce E (a.b.f 0 F),eE,h4 b.1,M bP E (a.b.f 1 F),M ce E (a.b.f 0 F),eE,h4 b.2.1,M bP E (a.b.f 1 F),fg];exact⟨e,by rw[eK b.2.2]⟩
def RJ{w:aa}(b:0<=x.1/\x.1<=x.2/\x.2<=1099511627776):ak Y 312 [al (ah x).toArray] w λc d=>O w d/\c=ax true:=by apply Yv;refine bd (S:=ah x) F λg h i j e a=>?_;rw[M ce E (a.b.f 0 F),eE,h4 b.1,M ce E (a.b.f 0 F),M bP E (a.b.f 1 F),fg,h4 b.2.1,M bP E (a.b.f 1 F),fg];exact⟨e,by rw[eK b.2.2]⟩
def e1.f{a b:Int}{f:Bool}:∀{l:List dx} {i:Nat} {c:dx},e1 a b f l->0<=a->0<=b->l[i]? =J c->(0<=c.1.1/\c.1.1<=c.1.2/\c.1.2<=1099511627776)/\(0<=c.2.1/\c.2.1<=c.2.2/\c.2.2<=1099511627776)/\(c.1.1<c.1.2\/c.2.1<c.2.2)/\
 (i=0->a<=c.1.1/\(f=ao->a<c.1.1)/\c.2.1-b=c.1.1-a)/\(∀eX d,i=eX+1->l[eX]? =J d->d.1.2<c.1.1/\c.2.1-d.2.2=c.1.1-d.1.2)
 |x::l,0,c,h,r,s,e=>by simp only [qm,kP]at e;subst e;obtain⟨g,j,k,m,n,o,p,q,_⟩:=h;exact⟨⟨G,m,p⟩,⟨G,n,q⟩,o,λ_=>⟨g,j,k⟩,λeX d t=>G⟩
 |x::l,i+1,c,h,r,s,e=>by
  obtain⟨g,j,k,m,n,o,p,q,u⟩:=h;simp only [pk]at e;have ih:=e1.f u G G e;refine⟨ih.1,ih.2.1,ih.2.2.1,λy=>G,λeX d t hd=>?_⟩;obtain rfl:eX=i:=G;cases eX with
  |zero=>simp only [qm,kP]at hd;subst hd;have:=ih.2.2.2.1 F;exact⟨this.2.1 F,this.2.2⟩
  |succ eX=>simp only [pk]at hd;exact ih.2.2.2.2 eX d F hd
def LA(n:aC w v 4 gx l)(y:e1 0 0 af l):ak Y 207 [v] w λf Q=>O w Q/\f=ax true:=by
 apply abg;have aA:=n.aD;refine bo EV λz i aB aE A R=>?_;rw[aS iJ.m (n.h A)];refine ba.bJ (λo B j=>O w j/\∃(c:Nat) (a:dx),c+o=l.length/\B=[I X c]/\ag j z (gx a)/\z<j.heap.size/\((c=0/\a=((0,0),(0,0)))\/(0<c/\l[c-1]? =J a))) ⟨l.length,A,0,((0,0),(0,0)),G,F,R,G,.inl ⟨F,F⟩⟩ ?_;rintro o B S j ⟨p,c,a,aG,rfl,C,aH,U⟩;rw[av,aR,ai];refine⟨λaI=>?_,λ_=>⟨p,F⟩⟩;obtain⟨b,q⟩:∃V,l[c]? =J V:=⟨_,aX G⟩;obtain⟨W,am,aJ,an,ap⟩:=y.f G G q;have aq:b.2.1-a.2.2=b.1.1-a.1.2/\0<=b.1.1-a.1.2/\(0<c->0<b.1.1-a.1.2)/\0<=a.1.2/\0<=a.2.2/\a.1.2<=1099511627776/\a.2.2<=1099511627776:=by
  rcases U with⟨rfl,rfl⟩|⟨aM,D⟩
  ·have:=an F;dsimp only;omega
  ·have:=ap (c-1) a G D;have:=(y.f G G D);omega
 refine iJ.dO (n.h p) q F λaN e r aO aP H=>?_;have ar:=p.a r;apply bE.h;have K:O e e.drew:=(O.p e).C;have k:=H.b;rw[tj mh cP (S:=ah b.1) (cA.cG k 2) F K];refine(Uf W).o ?_;rintro f au ⟨aw,rfl⟩;have m:O e au:=K.a aw;refine⟨m,?_⟩;rw[aK (λi t u=>dD af) m];show b6 (ax ao) _ _;rw[cw,tj pP cP (S:=ah b.2) (k.E 2) F m];refine(Uf am).o ?_;rintro f ay ⟨az,rfl⟩;have h:O e ay:=m.a az;refine⟨h,?_⟩;rw[aK (λi t u=>dD af) h];show b6 (ax ao) _ _;rw[cw,tj mh cP (S:=ah b.1) (cA.cG k 2) F h,tj pP cP (S:=ah b.2) (k.E 2) F h];refine(zS b.1 ⟨G,G⟩).o ?_;rintro f a0 ⟨a2,rfl⟩;have L:O e a0:=h.a a2;refine⟨L,?_⟩;refine(zS b.2 ⟨G,G⟩).o ?_;rintro f a3 ⟨a4,rfl⟩;have d:O e a3:=L.a a4;refine⟨d,?_⟩;rw[aK (λi t u=>aD) d,aK (λi t u=>bm _ _) d,du G];have x:=(H.h d).b;have P:=((C.h r).h d).b;rw[aj mh,M ce E (x.f 0 F),aj mh,M bP E (P.f 1 F),cd,
  aj pP,M ce E (x.f 2 F),aj pP,M bP E (P.f 3 F),cd,bs,bu]
 refine⟨λa5=>aL aq.1.symm a5,λ_=>?_⟩;rw[aR,du G,bm,ai];refine⟨λaT=>?_,λ_=>?_⟩
 all_goals
  try rw[cb,du G]
  rw[aF IY x F];refine aZ (cS:=gx b) JK g ((C.h r).h d) F F (by simp[gx]) (lz.B b) λaU aV a7 a8=>?_;rw[aD];refine⟨o-1,G,(ar.a d).ab a7 λaW a9=>by cases a9;omega,c+1,b,G,ae,a8,by have:=d.size;omega,.inr ⟨G,by simpa using q⟩⟩
def xQ(n:aC w v 4 gx l)(e:∀b∈l,IF b)(L:l.length<=1000):ak Y 139 [v] w λg s=>O w s/\g=I X (cx l):=by
 apply abe;have t:∀a,a<=l.length->-(1600000000*a:Int)<=cx (l.take a)/\cx (l.take a)<=1600000000*a:=by
  intro a
  induction a with
  |zero=>intro _;simp[cx]
  |succ a ih=>intro M;obtain⟨b,c⟩:∃h,l[a]? =J h:=⟨_,aX G⟩;have:=ih G;have i:=(e b (cl c)).y;have u:=(e b (cl c)).z;rw[BF c];omega
 rw[aS iJ.m n];refine ba.bJ (λj o p=>O w p/\∃a:Nat,a+j=l.length/\o=[I X (cx (l.take a)),I X a]) ⟨l.length,O.p w,0,G,F⟩ ?_;rintro j o P p ⟨k,a,Q,rfl⟩;rw[av,bA,av,aR,ai];refine⟨λR=>?_,λ_=>⟨k,by rw[show a=l.length from G,cI]⟩⟩;obtain⟨b,c⟩:∃h,l[a]? =J h:=⟨_,aX G⟩;have i:=(e b (cl c)).y;have u:=(e b (cl c)).z;have U:=t a G;refine iJ.dO (n.h k) c F λV d x W ab z=>?_;have A:=k.a x;apply bE.h;have m:O d d.drew:=(O.p d).C;have q:=z.b;rw[tj pP cP (S:=ah b.2) (q.E 2) F m,tj mh cP (S:=ah b.1) (cA.cG q 2) F m];refine(zS b.2 ⟨G,G⟩).o ?_;rintro g B ⟨C,rfl⟩;have r:O d B:=m.a C;refine⟨r,?_⟩;refine(zS b.1 ⟨G,G⟩).o ?_;rintro g D ⟨E,rfl⟩;have f:O d D:=r.a E;refine⟨f,?_⟩;rw[aK (λH i K=>cd) f,aK (λH i K=>aD) f,aD];exact⟨j-1,G,A.a f,a+1,G,by rw[BF c];simp⟩
def Lz{C:Int}{aJ:Int}(h:aC w v 4 gx l)(s:e1 0 0 af l)(Q:0<=C/\C<=1099511627776)(R:aJ=0\/aJ=1):ak Y 208 [v,I X C,I X aJ] w λt j=>O w j/\t=a1 #[I X (eC l 0 C aJ),I X 0]:=by
 apply abf;have S:=h.aD;refine bG.y (λb k=>b=[]/\O w k) ?_ ?_
 ·refine(LA h s).o ?_;rintro t k ⟨f,rfl⟩;rw[dD];show b6 (ax ao) _ _;rw[cw,aR,du G,cb,du G,bs,bu];refine⟨λU=>?_,λ_=>⟨F,f⟩⟩;rw[bs,bu];exact⟨λV=>G,λ_=>⟨F,f⟩⟩
 rintro b u k ⟨rfl,f⟩;rw[aS iJ.m (h.h f)];refine ba.bJ (λm b x=>O w x/\∃(e:Nat) (g:Int),e+m=l.length/\b=[I X g,I X e]/\eC l 0 C aJ=eC (l.drop e) g C aJ/\-1099511627776<=g/\g<=1099511627776) ⟨l.length,f,0,0,G,F,F,G,G⟩ ?_;rintro m b u x ⟨n,e,g,W,rfl,a,ab,ag⟩;rw[av,bA,av,aR,ai];refine⟨λah=>?_,λ_=>?_⟩
 ·obtain⟨y,o⟩:∃B,l[e]? =J B:=⟨_,aX G⟩;obtain⟨am,ap,_⟩:=s.f G G o;rw[jw o,eC]at a;refine iJ.dO (h.h n) o F λaq D H ar aw K=>?_;have i:=n.a H;have d:=K.b;rw[aj mh,M ce E (d.f 0 F),aR,ai];refine⟨λp=>?_,λp=>?_⟩
  ·rw[aD];rw[au p]at a;exact⟨i,by rw[a]⟩
  rw[an p]at a;refine bG.y (λb j=>j=D/\∃q:Bool,b=[ax q]/\(q=af↔C<=y.1.2/\aJ=0)) ?_ ?_
  ·rw[aj mh,M bP E (d.f 1 F),fg,ai];refine⟨λc=>?_,λc=>⟨F,ao,F,by simp[c]⟩⟩;rw[bm];exact⟨F,_,F,by simp[c]⟩
  rintro b u ay ⟨rfl,q,rfl,z⟩;rw[av,dQ];refine⟨λL=>?_,λA=>?_⟩
  ·have:=z.1 L;rw[au this.1,au this.2]at a;rw[aj pP,M ce E (d.f 2 F)];exact⟨i,by rw[a]⟩
  ·have P:¬(C<=y.1.2/\aJ=0):=λr=>by rw[z.2 r]at A;cases A
   rw[aj mh,M bP E (d.f 1 F),fg,ai];refine⟨λc=>?_,λc=>?_⟩
   ·rw[au c,an (λr=>P ⟨c,r⟩)]at a;rw[aj pP,M bP E (d.f 3 F)];exact⟨i,by rw[a]⟩
   ·rw[an c]at a;rw[aj pP,M bP E (d.f 3 F),aj mh,M bP E (d.f 1 F),cd,aD];exact⟨m-1,G,i,e+1,_,G,ae,a,G,G⟩
 ·rw[aD];rw[lR G]at a;exact⟨n,by rw[a];rfl⟩
def Kh{t s:Int}(p:aC w v 4 gx l)(q:e1 0 0 af l)(am:0<=t/\t<=1099511627776)(ap:s=0\/s=1):ak Y 227 [v,I X t,I X s] w λK r=>O w r/\K=I X (eC l 0 t s):=by
 apply Ys;have aq:=p.aD;rw[aS kf.m p];refine ba.bJ (λk i A=>O w A/\∃(c:Nat) (f:Int),c+k=l.length/\i=[I X f,I X c]/\((eC l 0 t s=eC (l.drop c) f t s)\/(eC l 0 t s=t+f/\∀b∈l.drop c,t<b.1.1))/\-1099511627776<=f/\f<=1099511627776) ⟨l.length,O.p w,0,0,G,F,.inl F,G,G⟩ ?_;rintro k i L A ⟨u,c,f,ar,rfl,a,P,Q⟩;rw[av,bA,av,aR,ai];refine⟨λaw=>?_,λ_=>?_⟩
 ·obtain⟨b,m⟩:∃x,l[c]? =J x:=⟨_,aX G⟩;obtain⟨ay,az,_⟩:=q.f G G m;have j:=jw m;refine kf.dO (p.h u) m F λa0 R S a2 a3 U=>?_;have n:=u.a S;have g:=U.b;refine bG.y (λi r=>r=R/\∃y:Bool,i=[ax y]/\(y=af↔b.1.1<=t/\t<=b.1.2)) ?_ ?_
  ·rw[aj mU,M ce E (g.f 0 F),eE,ai];refine⟨λd=>?_,λd=>⟨F,ao,F,by simp[d]⟩⟩;rw[aj mU,M bP E (g.f 1 F),fg];exact⟨F,_,F,by simp[d]⟩
  rintro i L a4 ⟨rfl,y,rfl,B⟩;rw[av,dQ];refine⟨λo=>?_,λC=>?_⟩
  ·have V:=B.1 o;have D:eC l 0 t s=if s=0 then b.2.1 else b.2.2:=by
    rcases a with a|⟨_,a⟩
    ·rw[j,eC,an G,au V.2]at a;exact a
    ·have:=a b (by rw[j];exact dv ..);omega
   rw[bm,ai];refine⟨λd=>?_,λd=>?_⟩
   ·rw[aj pN,M ce E (g.f 2 F)];exact⟨n,by rw[D,au d]⟩
   ·rw[aj pN,M bP E (g.f 3 F)];exact⟨n,by rw[D,an d]⟩
  ·have a5:¬(b.1.1<=t/\t<=b.1.2):=λW=>by rw[B.2 W]at C;cases C
   rw[aj mU,M bP E (g.f 1 F),cb,ai];refine⟨λd=>?_,λd=>?_⟩
   ·rw[aj pN,M bP E (g.f 3 F),aj mU,M bP E (g.f 1 F),cd,aD];refine⟨k-1,G,n,c+1,b.2.2-b.1.2,G,ae,.inl ?_,G,G⟩;rcases a with a|⟨_,a⟩
    ·rw[j,eC,an G,an G]at a;exact a
    ·have:=a b (by rw[j];exact dv ..);omega
   ·rw[aD];refine⟨k-1,G,n,c+1,f,G,ae,.inr ?_,P,Q⟩;have ab:t<b.1.1:=G;constructor
    ·rcases a with a|⟨a,_⟩
     ·rw[j,eC,au ab]at a;exact a
     ·exact a
    ·intro h ag;obtain⟨e,o⟩:=tr ag;rw[kQ]at o;have ah:∀e h,l[c+e]? =J h->b.1.1<=h.1.1:=by
      intro e
      induction e with
      |zero=>intro h hd;rw[nw,m]at hd;cases hd;omega
      |succ e ih=>intro h hd;have a7:=(dS.1 hd).1;obtain⟨H,z⟩:∃x,l[c+e]? =J x:=⟨_,aX G⟩;have a8:=ih H z;have a9:=((q.f G G hd).2.2.2.2 (c+e) H G z).1;have aA:=(q.f G G z).1;omega
     have:=ah (1+e) h (by rw[<-Nat.add_assoc];exact o);omega
 ·rw[aD];refine⟨u,?_⟩;rcases a with a|⟨a,_⟩
  ·rw[lR G]at a;rw[a];rfl
  ·rw[a]
end
variable{w:aa}{K:aU}
def sX(a b:Int):fo Y 49 [(0,I X a),(1,I X b)] w K=K (al (ah (a,b)).toArray) w:=
 bz (S:=ah (a,b)) (iR:=[(0,[I X a]),(1,[I X b])]) dg jO F F
def aiJ(a b:aB):fo Y 297 [(0,al (ah a).toArray),(1,al (ah b).toArray)] w K=K (al (gx (a,b)).toArray) w:=
 bz (S:=gx (a,b)) (iR:=[(0,ah a),(1,ah b)]) EV adR F F
def aiK(a b:aB):fo Y 208 [(0,al (ah a).toArray),(1,al (ah b).toArray)] w K=K (al (gx (a,b)).toArray) w:=
 bz (S:=gx (a,b)) (iR:=[(0,ah a),(1,ah b)]) ER PK F F
def Ha{a:Int×List dx}{x:a_}(b:(x.2.1-x.1)+c6 x=0):km a x=(a.1+(c6 x-(x.2.1-x.1)),a.2):=by unfold km;rw[au b]
def G_{e:dx}{a:Int×List dx}{x:a_}{m:Nat}(d:¬(x.2.1-x.1)+c6 x=0)(b:a.2.length=m+1)(f:a.2[m]? =J e)(g:e.1.2=x.1):km a x=(a.1+(c6 x-(x.2.1-x.1)),(a.2.set m ((e.1.1,x.2.1),e.2)).set m ((e.1.1,x.2.1),(e.2.1,x.1+a.1+c6 x))):=by
 have c:a.2.getLast? =J e:=by rw[yn,b];exact f
 unfold km;rw[an d,c]
 dsimp only
 rw[au g,an6];congr 1;have:a.2=a.2.dropLast++[e]:=by obtain⟨i,h⟩:=Im.1 c;rw[h,XM]
 conv=>rhs;rw[this]
 rw[Ip _ _ (by rw[Io];omega),Io,b];simp
def C7{a:Int×List dx}{x:a_}(e:¬(x.2.1-x.1)+c6 x=0)(f:∀c b,a.2.length=c+1->a.2[c]? =J b->b.1.2≠x.1):km a x=(a.1+(c6 x-(x.2.1-x.1)),a.2++[((x.1,x.2.1),(x.1+a.1,x.1+a.1+c6 x))]):=by
 unfold km;rw[an e];cases g:a.2.getLast? with
 |none=>rfl
 |some b=>
  dsimp only
  obtain⟨h,d⟩:=Im.1 g;rw[an (f h.length b (by rw[d];simp) (by rw[d];simp))]
section
variable{w:aa} {v:Z} {es:List a_} {n:Nat}
def ajR(a8:aC w v 3 cp es)(aV:n<=1000000)(aW:es.length<=200)(a9:∀b∈es,0<=b.1/\b.1<=b.2.1/\b.2.1<=n)(l:nC es):ak Y 138 [v] w λP z=>O w z/\ar z w.heap.size 297 4 P gx (ct es):=by
 apply abh;rw[aS k5.m a8];refine ba.bJ (λA B ap=>O w ap/\∃(e:Nat) (r:Z),e+A=es.length/\B=[I X (jT (es.take e)).1,r,I X e]/\ar ap w.heap.size 297 4 r gx (jT (es.take e)).2) ⟨es.length,O.p w,0,_,G,F,ar.nil ..⟩ ?_;rintro A B Q ap ⟨aq,e,r,b5,rfl,R⟩;simp only [av,bA];rw[aR,ai];refine⟨λb6=>?_,λ_=>⟨aq,by rw[show e=es.length from G,cI]at R;exact R⟩⟩;obtain⟨b,C⟩:∃b,es[e]? =J b:=⟨_,aX G⟩;have b7:=a9 b (cl C);have b8:=l.c6 b (cl C);have bB:=l b (cl C);have bC:=r5 aV aW a9 l e;have bD:(jT (es.take e)).1=c8 (es.take e):=by unfold jT;rw[Fy];simp
 have bF:(jT (es.take e)).2.length<=200:=by unfold jT;have:=Kz (es.take e) (0,[]);rw[bt,lk]at this;omega
 have u:=KA C;generalize jT (es.take e)=f at*;refine k5.dO (a8.h aq) C F λbH bI au bK bN aw=>?_;rw[M mT ga (aw.b.f 2 F)];refine(Db b.2.2 G).o ?_;rintro P bO ⟨D,rfl⟩;have S:=(aw.h D).b;have bR:(bY b.2.2).length=c6 b:=rfl;rw[M iq E (S.f 0 F),M ku E (S.f 1 F),sX,M iq E (S.f 0 F),aD,M iq E (S.f 0 F),aD,aD,sX,aiJ];generalize ay:(((b.1,b.2.1),(b.1+f.1,b.1+f.1+((bY b.2.2).length:Int))):dx)=h;refine cj (cS:=gx h) EV JK g F F (lz.B h) λaz p bS bT a0 U=>?_;have aA:=((aw.h D).h a0).b;rw[M ku E (aA.f 1 F),M iq E (aA.f 0 F),cd,cd,aD];have V:=((aq.a au).a D).a a0;have s:=((R.h au).h D).h a0;rw[aS iJ.m (s.aI lz),cd];apply bE.h;have a2:O p p.drew:=(O.p p).C;have aB:=U.b;rw[tj mh cP (S:=ah h.1) (cA.cG aB 2) F a2,tj pP cP (S:=ah h.2) (aB.E 2) F a2];have H:h.1=(b.1,b.2.1):=by rw[<-ay]
 have W:h.2=(b.1+f.1,b.1+f.1+((bY b.2.2).length:Int)):=by rw[<-ay]
 refine(zS h.1 ⟨by rw[H];dsimp only;omega,by rw[H];dsimp only;omega⟩).o ?_;rintro P aZ ⟨bb,rfl⟩;have aE:O p aZ:=a2.a bb;refine⟨aE,?_⟩;refine(zS h.2 ⟨by rw[W];dsimp only;omega,by rw[W];dsimp only;omega⟩).o ?_;rintro P ae ⟨bc,rfl⟩;have i:O p ae:=aE.a bc;refine⟨i,?_⟩;rw[H,W]
 dsimp only
 rw[aK (λa c K=>aD) i,aK (λa c K=>bm _ _) i,ai];have bU:az<p.heap.size:=G;have bd:=V.a i;refine⟨λbe=>?_,λbe=>?_⟩
 ·rw[aD];refine⟨A-1,G,bd,e+1,r,G,?_,?_⟩
  ·rw[u,Ha G];rfl
  ·rw[u,Ha G];exact s.h i
 have ag:¬(b.2.1-b.1)+(c6 b:Int)=0:=G;refine bG.y (λB z=>p.grownBy z ac/\O p z/\∃a3:Bool,B=[ax a3]/\(a3=af↔∃(m:Nat) (d:dx),f.2.length=m+1/\f.2[m]? =J d/\d.1.2=b.1)) ?_ ?_
 ·apply bE.h;have o:O ae ae.drew:=(O.p ae).C;rw[aK (λa c K=>eE _ _) o,ai];refine⟨λc=>?_,λc=>⟨eb (i.a o) _,i.a o,ao,F,by
   constructor
   ·intro am;cases am
   ·rintro⟨m,d,l,_⟩;omega⟩⟩
  obtain⟨d,j⟩:∃d,f.2[f.2.length-1]? =J d:=⟨_,aX G⟩;rw[iJ.bQ ((s.h i).aI lz) j G mh bP E F o,aK (λa c K=>aj mh) o,b2 ce E ((U.h i).b.f 0 F) o,aK (λa c K=>bm _ _) o];refine⟨eb (i.a o) _,i.a o,_,F,?_⟩;rw[H]
  dsimp only
  constructor
  ·intro am;exact⟨f.2.length-1,d,G,j,of_decide_eq_true am⟩
  ·rintro⟨m,bV,l,bg,an⟩;rw[l,Xf,bg]at j;cases j;exact eK an
 rintro B Q x ⟨_,t,a3,rfl,aG⟩;simp only [av];rw[dQ];refine⟨λbi=>?_,λaH=>?_⟩
 ·obtain⟨m,d,l,j,an⟩:=aG.1 bi;have a4:=s.h t;obtain⟨q,bj,bl,aJ,bn,bW,bX,aL⟩:=iJ.bL a4 j;have bo:q≠az:=λam=>by have:=(s.D q aJ).2;have:=(R.D q aJ).2;have:=au.size;have:=D.size;omega
  have bp:=U.h t;refine bE.y (λa=>x.grownBy a (J q)) (jz _ _) ?_;have aN:∀a,x.grownBy a (J q)->cA a az 0 (gx h):=λa c=>(bp.ab c (by rintro⟨⟩;exact bo F)).b;have aO:∀a (c:x.grownBy a (J q)) K,fh Y 294 r (I X ((f.2.length:Int)-1)) a K=K (ad (J ⟨q,bj,ac⟩)) a:=by intro a c K;rw[<-bl];obtain⟨bZ,ca,rfl,cb,cf,br⟩:=a4.aI lz;obtain⟨cg,ch,rfl,_⟩:=br m d j;have:(f.2.length:Int)-1=(m:Nat):=G;rw[this];have bs:m<f.2.length:=G;simp[fh,bM,Instr.indexAt,asIntOf,eJ (hf iJ.m),bs,l_ iJ.bk iJ.cN,qT,jf]
  have k:=jz x (J q);rw[bh (λa c K=>aj mh) k,bh (λa c K=>aj bP) k,bh (λa c K=>aM E ((aN a c).f 1 F)) k,
   bh (λa c K=>aj pP) k,bh (λa c K=>aj bP) k,bh (λa c K=>aM E ((aN a c).f 3 F)) k,
   bh (λa c K=>aO a c K) k,bh (λa c K=>aj mh) k,bh (λa c K=>aj bP) k]
  have y:ar x.drew w.heap.size 297 4 r gx f.2:=a4.h (O.p x).C;refine aL (m:=1) (p:=1) (cS:=[I X h.1.2]) (y:=((d.1.1,h.1.2),d.2)) bw g g F F eY y j F λbx ci a5 y=>?_;have L:=eN k a5;refine⟨L,?_⟩;rw[bh (λa c K=>aO a c K) L,bh (λa c K=>aj pP) L,bh (λa c K=>aj bP) L];refine aL (m:=1) (p:=3) (nu:=((d.1.1,h.1.2),d.2)) (cS:=[I X h.2.2]) (y:=((d.1.1,h.1.2),(d.2.1,h.2.2))) bw g g F F eY y (by rw[Xv G]) F λcm cn bz aP=>?_;rw[aD];have b0:=eN L bz;refine⟨A-1,G,(V.a t).ab b0 λaT a7=>by cases a7;exact bn,e+1,r,G,?_,?_⟩
  ·rw[u,G_ ag l j an];rfl
  ·rw[u,G_ ag l j an];rw[H,W]at aP;exact aP
 ·have aU:∀m d,f.2.length=m+1->f.2[m]? =J d->d.1.2≠b.1:=λm d c b1 b3=>by rw[aG.2 ⟨m,d,c,b1,b3⟩]at aH;cases aH
  rw[aF IY (U.h t).b F];refine iJ.push (s.h t) (V.a t).size G g λb4 bx y a5 co=>?_;rw[aD];refine⟨A-1,G,(V.a t).ab a5 λaT a7=>(s.D aT a7).1,e+1,b4,G,?_,?_⟩
  ·rw[u,C7 ag aU];rfl
  ·rw[u,C7 ag aU];rw[<-ay]at y;exact y
def RI(q:aC w v 3 cp es)(aP:n<=1000000)(aT:es.length<=200)(W:∀x∈es,0<=x.1/\x.1<=x.2.1/\x.2.1<=n)(e:nC es):ak Y 48 [v] w λae k=>O w k/\ar k w.heap.size 208 4 ae gx (ct es):=by
 apply Yu;rw[aS k5.m q];refine ba.bJ (λr c ah=>O w ah/\∃(i:Nat) (s:Z),i+r=es.length/\c=[s,I X i]/\ar ah w.heap.size 208 4 s gx (jT (es.take i)).2) ⟨es.length,O.p w,0,_,G,F,ar.nil ..⟩ ?_;rintro r c t ah ⟨u,i,s,bv,rfl,am⟩;simp only [av,bA];rw[aR,ai];refine⟨λbx=>?_,λ_=>⟨u,by rw[show i=es.length from G,cI]at am;exact am⟩⟩;obtain⟨x,z⟩:∃x,es[i]? =J x:=⟨_,aX G⟩;have bz:=W x (cl z);have b0:=e.c6 x (cl z);have b1:=e x (cl z);have a9:=r5 aP aT W e;have b3:=a9 i;have aA:(jT (es.take i)).1=c8 (es.take i):=by unfold jT;rw[Fy];simp
 have b4:(jT (es.take i)).2.length<=200:=by unfold jT;have:=Kz (es.take i) (0,[]);rw[bt,lk]at this;omega
 have an:=KA z;generalize jT (es.take i)=h at*;refine k5.dO (q.h u) z F λb5 aB P b6 b7 Q=>?_;rw[M iq E (Q.b.f 0 F),GW k5.m k5.bk k5.cN ((q.h u).h P) F G];have ap:=((q.h u).h P).ag (aw:=0) (bD:=i) (ds:=cC v) (ec _) G (by obtain⟨bC,bD,rfl,bF,bH,bI⟩:=q;simp only [cC];omega) (a6 _);rw[h6]at ap;rw[aS k5.m ap];have aU:(es.take i).length=i:=by rw[bt];omega
 refine ba.bJ (λaq c aE=>O aB aE/\∃b:Nat,b+aq=i/\c=[I X (x.1+c8 (es.take b)),I X b]) ⟨i,O.p aB,0,G,by simp[c8]⟩ ?_;rintro aq c t aE ⟨j,b,bK,rfl⟩;simp only [av,bA];rw[aR,ai,aU];refine⟨λaV=>?_,λaV=>?_⟩
 ·obtain⟨y,A⟩:∃y,es[b]? =J y:=⟨_,aX G⟩;have bM:=W y (cl A);have bN:=e y (cl A);have bO:=e.c6 y (cl A);refine k5.dO (ap.h j) (i:=b) (x:=y) (by rw[lN,au G];exact A) F λbR l o bS bT aW=>?_;apply bE.h;have B:O l l.drew:=(O.p l).C;have ay:=aW.b;rw[b2 mT ga (ay.f 2 F) B,b2 ku E (ay.f 1 F) B,b2 iq E (ay.f 0 F) B,aK (λC d K=>cd) B];refine(rK y.2.2 G).o ?_;rintro ae aY ⟨aZ,az⟩;have D:O l aY:=B.a aZ;have aF:=a9 b;have hd:(bY y.2.2).length=c6 y:=rfl;refine⟨D,?_⟩;rw[aK (λC d K=>GP di (az.aI ix)) D,aK (λC d K=>aD) D,aK (λC d K=>cd) D,aD];refine⟨aq-1,G,(j.a o).a D,b+1,G,?_⟩;rw[we A];unfold iu;rw[show x.1+c8 (es.take b)+((bY y.2.2).length:Int)-(y.2.1-y.1)=x.1+(c8 (es.take b)+((c6 y:Int)-(y.2.1-y.1)))from G]
  rfl
 have bb:b=i:=G;subst bb;have bc:=(u.a P).a j;have bd:=(am.h P).h j;have be:=(Q.h j).b;rw[M mT ga (be.f 2 F)];refine(rK x.2.2 G).o ?_;rintro ae l ⟨o,az⟩;have hd:(bY x.2.2).length=c6 x:=rfl;rw[aS di (az.aI ix),hd];have R:=bc.a o;have H:=bd.h o;have a0:=(Q.h (j.a o)).b;refine bG.y (λc k=>k=l/\c=[]/\¬(x.2.1-x.1)+(c6 x:Int)=0) ?_ ?_
 ·rw[bm,ai];refine⟨λbg=>?_,λbg=>⟨F,F,G⟩⟩;rw[M iq E (a0.f 0 F),M ku E (a0.f 1 F),bm,ai];refine⟨λd=>?_,λd=>⟨F,F,G⟩⟩;rw[aD];refine⟨r-1,G,R,b+1,s,G,F,?_⟩;rw[an,Ha G];exact H
 rintro c t S ⟨rfl,rfl,aG⟩;rw[aS kf.m (H.aI lz),cd];refine bG.y (λc k=>O S k/\∃a2:Bool,c=[ax a2]/\(a2=af↔∃(m:Nat) (a:dx),h.2.length=m+1/\h.2[m]? =J a/\a.1.2=x.1)) ?_ ?_
 ·apply bE.h;have p:O S S.drew:=(O.p S).C;rw[aK (λC d K=>eE _ _) p,ai];refine⟨λd=>?_,λd=>⟨p,ao,F,by
   constructor
   ·intro a3;cases a3
   ·rintro⟨m,a,e,_⟩;omega⟩⟩
  obtain⟨a,f⟩:∃a,h.2[h.2.length-1]? =J a:=⟨_,aX G⟩;rw[kf.bQ (H.aI lz) f G mU bP E F p,b2 iq E (a0.f 0 F) p,aK (λC d K=>bm _ _) p];refine⟨p,_,F,?_⟩;constructor
  ·intro a3;exact⟨h.2.length-1,a,G,f,of_decide_eq_true a3⟩
  ·rintro⟨m,bU,e,bh,a4⟩;rw[e,Xf,bh]at f;cases f;exact eK a4
 rintro c t bV ⟨L,a2,rfl,aH⟩;simp only [av];rw[dQ];have a5:=(Q.h ((j.a o).a L)).b;have U:=H.h L;refine⟨λaF=>?_,λaJ=>?_⟩
 ·obtain⟨m,a,e,f,a4⟩:=aH.1 aF;obtain⟨bW,bX,aL,bZ,bi,ca,cb,aM⟩:=kf.bL U f;rw[M ku E (a5.f 1 F),cr kf.m kf.bk kf.cN (U.aI lz) f G,aL,aj mU,aj bP];refine aM (m:=1) (p:=1) (cS:=[I X x.2.1]) (y:=((a.1.1,x.2.1),a.2)) bw g g F F eY U f F λbl ce a7 V=>?_;have aN:(h.2.set m ((a.1.1,x.2.1),a.2))[m]? =J ((a.1.1,x.2.1),a.2):=Xv G;rw[aD,cr kf.m kf.bk kf.cN (V.aI lz) aN G,aL,aj pN,aj bP];refine aM (m:=1) (p:=3) (nu:=((a.1.1,x.2.1),a.2)) (cS:=[I X (x.1+c8 (es.take b)+c6 x)]) (y:=((a.1.1,x.2.1),(a.2.1,x.1+c8 (es.take b)+c6 x))) bw g g F F eY V aN F λcg ch bn bo=>?_;rw[aD];refine⟨r-1,G,(R.a L).ab (eN a7 bn) λaO a8=>by cases a8;exact bi,b+1,s,G,F,?_⟩;rw[an,G_ aG e f a4,aA];exact bo
 ·have bp:∀m a,h.2.length=m+1->h.2[m]? =J a->a.1.2≠x.1:=λm a d br bs=>by rw[aH.2 ⟨m,a,d,br,bs⟩]at aJ;cases aJ
  rw[M iq E (a5.f 0 F),M ku E (a5.f 1 F),sX,aD,sX,aiK];refine kf.push U (R.a L).size G g λbu bl V a7 ci=>?_;rw[aD];refine⟨r-1,G,(R.a L).ab a7 λaO a8=>(H.D aO a8).1,b+1,bu,G,F,?_⟩;rw[an,C7 aG bp,aA];exact V
end
end aY
section
open Go.RowKit
abbrev iY(x:Int):List Value:=[I X x]
def RP:eR iY 1:=⟨λ_=>F,λb c a=>by simp at a;subst a;rfl⟩
end
end Go.Proofs.YtoddhldofgfdmaaGreatDoor
namespace Go.Lift
open Go Go.RowKit
def Mc{x:bq}{e:Addr}{v:Z}{T:cv}{w:aa}{c:aa->Prop}(a:(x.info? T).map (·.size)=J 0)(d:v.cells= #[])(f:c w):c4 x T (ad (J e)) v w c:=by
 have g:(j3 T).run x w= .ok 0 w:=by
  cases b:x.info? T with
  |none=>rw[b]at a;cases a
  |some i=>rw[b]at a;simp only [Option.map_some,kP]at a;simp[j3,typeInfo,b,a]
 have h:(qt T (ad (J e)) v).run x w= .ok () w:=by simp[qt,Instr.sureAddr,storeVar,g,d,storeCells]
 unfold c4 bM;rw[h];exact f
end Go.Lift
namespace Go.Proofs.YtoddhldofgfdmaaGreatDoor
open Go.Lift
namespace aY
open Go.RowKit Go.bW Go.cB
def amg{x:List UInt8}(p:x≠[]):((10:UInt8)∈x↔(cF x).1=10\/(10:UInt8)∈x.drop (cF x).2):=by
 have A:=sK x p;have q:∀b (c:b<x.length),ej x b=(x[b]).toNat:=λb c=>by unfold ej;rw[aX c];rfl
 have f:∀b,nb x b->∀c:b<x.length,x[b]≠10:=λb s c a=>by have:=s.2;rw[q b c,a]at this;exact aL this g
 have first:∀c:0<x.length,(ej x 0=10↔x[0]=10):=λc=>by
  rw[q 0 c];constructor
  ·intro a;exact UInt8.toNat_inj.1 a
  ·intro a;rw[a];rfl
 have j:0<x.length:=ym.2 p;have h:∀e,(∀b (c:b<x.length),1<=b->b<e->x[b]≠10)->1<=e->((10:UInt8)∈x↔x[0]=10\/(10:UInt8)∈x.drop e):=by
  intro e t i;constructor
  ·intro m;obtain⟨b,c,a⟩:=AU m;by_cases u:b=0
   ·subst u;exact .inl a
   ·by_cases v:b<e
    ·exact aL a (t b c G v)
    ·right
     rw[XO];exact⟨b-e,by rw[kQ,show e+(b-e)=b from G,aX c,a]⟩
  ·rintro(a|m)
   ·exact a▸NU j
   ·exact jH m
 have y:x[0]=10\/(10:UInt8)∈x.drop 1↔(10:UInt8)∈x:=(h 1 (λb _ i d=>G) (a6 _)).symm;have B:∀n:Nat,128<=ej x 0->((n=10\/(10:UInt8)∈x.drop 1↔(10:UInt8)∈x)↔(n=10\/(10:UInt8)∈x.drop 1↔(10:UInt8)∈x.drop 1)):=λn o=>by
  have:x[0]≠10:=λa=>by have:=(first j).2 a;omega
  rw[<-y];simp[this]
 unfold cF
 dsimp only
 by_cases o:ej x 0<128
 ·rw[au o]
  dsimp only
  rw[h 1 (λb _ i d=>G) (a6 _),first j]
 ·rw[an o];have k:x[0]≠10:=λa=>by have:=(first j).2 a;omega
  have l:((10:UInt8)∈x↔((65533,1):Nat×Nat).1=10\/(10:UInt8)∈x.drop ((65533,1):Nat×Nat).2):=by rw[h 1 (λb _ i d=>G) (a6 _)];simp[k]
  split
  ·rename_i d
   split
   ·dsimp only
    rw[h 2 (λb c i r=>by obtain rfl:b=1:=G;exact f 1 d.2 c) G]
    constructor
    ·rintro(a|a);(·exact aL a k);exact .inr a
    ·rintro(a|a);(·omega);exact .inr a
   ·exact l
  split
  ·rename_i d
   split
   ·dsimp only
    rename_i z
    rw[h 3 (λb c i r=>by
     rcases(by omega:b=1\/b=2)with rfl|rfl
     ·exact f 1 d.2.1 c
     ·exact f 2 d.2.2 c) G]
    constructor
    ·rintro(a|a);(·exact aL a k);exact .inr a
    ·rintro(a|a);(·omega);exact .inr a
   ·exact l
  split
  ·rename_i d
   split
   ·dsimp only
    rename_i z
    rw[h 4 (λb c i r=>by
     rcases(by omega:b=1\/b=2\/b=3)with rfl|rfl|rfl
     ·exact f 1 d.2.1 c
     ·exact f 2 d.2.2.1 c
     ·exact f 3 d.2.2.2 c) G]
    constructor
    ·rintro(a|a);(·exact aL a k);exact .inr a
    ·rintro(a|a);(·omega);exact .inr a
   ·exact l
  ·exact l
def MM:∀(c:Nat) (a:List UInt8),a.length<=c->((10:UInt8)∈a↔(10:Int)∈bY a)
 |c,a,e=>by
  by_cases d:a=[]
  ·subst d;rw[ta];simp
  ·have f:=sK a d;cases c with
   |zero=>omega
   |succ c=>
    rw[amg d,wa d,df,MM c (a.drop (cF a).2) (by rw[cO];omega)];constructor
    ·rintro(b|b);(·exact .inl (by rw[b];rfl));exact .inr b
    ·rintro(b|b);(·exact .inl G);exact .inr b
def bC(x:aG):List Value:=[I X x.G,I X x.C,I X x.aJ,I X x.an,co x.c5]
def Kn(c:aG):∀a∈bC c,a.oneCell' =true:=λa b=>by simp[bC]at b;rcases b with rfl|rfl|rfl|rfl|rfl<;>rfl
def d0:eR bC 5:=⟨λ_=>F,λa b c=>Kn a b c⟩
abbrev am7:List Value:=[I X 0,I X 0,I X 0,I X 0,lO ⟨#[]⟩]
def dZ:eh Y 34 125 5 bC am7:=⟨O7,EL,g,JM,F,d0,mQ,by rw[acJ];decide,λb a=>by simp at a;rcases a with rfl|rfl<;>rfl⟩
def j0(n:Int)(x:aG):Int:=
 if x.G<1\/x.C<0\/n<x.C\/(x.aJ≠0/\x.aJ≠1)then 1 else if 40<(bY x.c5).length then 2 else if x.c5=[]\/(10:Int)∈bY x.c5 then 4 else 0
def lx(n:Int):List Int->List aG->Int
 |_,[]=>0
 |ids,a::b=>if j0 n a≠0 then j0 n a else if a.G∈ids then 8 else lx n (ids++[a.G]) b
def nm(n:Int)(l:List aG):Int:=if 60<l.length then 5 else lx n [] l
def hc(x:aG):aG:={x with c5:=a8 (bY x.c5)}
def eA(a b:Int):Int:=if a<b then-1 else if b<a then 1 else 0
def zc(a b:aG):Int:=if eA a.C b.C≠0 then eA a.C b.C else if eA a.an b.an≠0 then eA a.an b.an else eA a.G b.G
def kh(x a:aG):Bool:=decide (x.C<a.C\/(x.C=a.C/\(x.an<a.an\/(x.an=a.an/\x.G<a.G))))
def FZ(a b:aG):DK zc a b=kh a b:=by
 unfold DK kh zc eA;congr 1;apply propext
 repeat' split
 all_goals omega
instance:Inhabited aG:=⟨⟨0,0,0,0,[]⟩⟩
def al6:XE (DK zc):=by
 refine⟨λa=>?_,λa b c d e=>?_,λa b c d e=>?_⟩
 ·rw[FZ];unfold kh;rw[db];omega
 ·rw[FZ]at*;unfold kh at*;rw[dF]at*;omega
 ·rw[FZ]at*;unfold kh at*;rw[decide_eq_false_iff_not]at*;omega
def kF(x:aG):List aG->List aG
 |[]=>[x]
 |a::b=>if kh x a then x::a::b else a::kF x b
def jo(l:List aG):List aG:=l.foldl (λa b=>kF b a) []
variable{w:aa}
def SU(a:Int):ak Y 248 [I X a] w λb c=>c=w/\b=ax false:=by apply ZJ;rw[bs];exact⟨F,ae⟩
def BB(b c:Int):ak Y 174 [I X b,I X c] w λd e=>e=w/\d=I X (eA b c):=by apply ZH;refine(SU b).o ?_;rintro d f ⟨rfl,rfl⟩;refine(SU c).o ?_;rintro d f ⟨rfl,rfl⟩;rw[cw,cw,aR,ai];unfold eA;refine⟨λa=>⟨F,by rw[au a]⟩,λa=>?_⟩;rw[an a,cb,ai];exact⟨λa=>⟨F,by rw[au a]⟩,λa=>⟨F,by rw[an a]⟩⟩
def T2{x:Z}{l:List Int}(e:aC w x 1 iY l)(u:l.length<=1000):ak Y 173 [x] w λm n=>n=w/\m=I X ((l.find? (·!=0)).getD 0):=by
 apply ZI;rw[aS fW e];refine ba.bJ (λf h i=>i=w/\∃a:Nat,a+f=l.length/\h=[I X a]/\∀c∈l.take a,c=0) ⟨l.length,F,0,G,F,λc b=>by simp at b⟩ ?_;rintro f h v i ⟨rfl,a,y,rfl,j⟩;rw[av,aR,ai];have k:l.find? (·!=0)=(l.drop a).find? (·!=0):=by
  conv=>lhs;rw[<-fi a l]
  rw[List.find?_append,List.find?_eq_none.2 (λc b=>by rw[j c b];decide)]
  rfl
 refine⟨λo=>?_,λo=>⟨F,by rw[k,lR G];rfl⟩⟩;obtain⟨c,b⟩:∃c,l[a]? =J c:=⟨_,aX G⟩;obtain⟨z,A,p,q⟩:=e.m b;rw[cr fW bw g e b F,p,aM E (by simpa using q.f 0 F),bs,bu];refine⟨λr=>⟨F,?_⟩,λs=>?_⟩
 ·rw[k,jw b,List.find?_cons_of_pos (by simpa using r)]
  rfl
 ·rw[aD];refine⟨f-1,G,F,a+1,G,ae,λt d=>?_⟩;rw[c9 b]at d;rcases b9.1 d with d|d
  ·exact j t d
  ·rw[cL.1 d];exact s
variable{x:bq}{K:aU}{k i:Nat}{S:List Z}
def Vh{n:Nat}{e:List Z}{T:cv}{c:List (Nat×Z)}{iR:List (Nat×List Z)}(g:ew x T=J n)(h:cg x n=k)(A:0<i*k)(j:cM x n=J e)(B:i*k<=16777216)
 (l:c.map (λa=>(a.1,a.2.cells))=iR.map (λa=>(a.1,a.2.toArray)))(m:jg (λb=>J (b*k,k)) ((lS (i*k)).map λd=>e.toArray[d%e.length]!) iR=J S)
 (o:K (aQ (J ⟨w.heap.size,0,ac⟩) i i) (w.alloc (eW S.toArray n))):fR x T i c w K:=by
 obtain⟨b,f,p,q,r,s,C⟩:=oF j;have t:b.size=k:=by rw[s,h]
 have u:=zk (place:=λb=>J (b*k,k)) c iR ((Array.range (i*k)).map λd=>f.cells[d%f.cells.size]!) S l (by rw[<-m];congr 1;rw[<-r];simp)
 have v:(wI T i c.toArray).run x w= .ok (aQ (J ⟨w.heap.size,0,ac⟩) i i) (w.alloc (eW S.toArray n)):=by have y:i*k≠0:=G;have z:¬(16777216<i*k):=G;simp[wI,eJ (hf g),j3,typeInfo,p,t,qi,q,newRow,y,z,u]
 unfold fR bM;rw[v];exact o
def GN{e:Z}{T:cv}(a:e.cells=S.toArray)(b:K (ad (J ⟨w.heap.size,0,ac⟩)) (w.alloc (eW S.toArray T))):qb x T e w K:=by
 have c:(AW T e).run x w= .ok (ad (J ⟨w.heap.size,0,ac⟩)) (w.alloc (eW S.toArray T)):=by simp[AW,newVar,newRow,a]
 unfold qb bM;rw[c];exact b
def ahN:IG Y 102 bC zc:=by
 intro w a b;apply aaT;refine GN (S:=bC a) F ?_;have q:ag (w.alloc (eW (bC a).toArray 125)) w.heap.size (bC a):=ag.fl w _ _;have x:(w.alloc (eW (bC a).toArray 125)).heap.size=w.heap.size+1:=ae;generalize r:w.alloc (eW (bC a).toArray 125)=d at*;refine GN (S:=bC b) F ?_;have s:ag (d.alloc (eW (bC b).toArray 125)) d.heap.size (bC b):=ag.fl d _ _;have j:O d (d.alloc (eW (bC b).toArray 125)):=O.fl d _;generalize t:d.alloc (eW (bC b).toArray 125)=e at*;apply bE.h;have c:O e e.drew:=(O.p e).C;have k:=(q.h j).b;have l:=s.b;rw[b2 h2 E (k.f 1 F) c,b2 h2 E (l.f 1 F) c,b2 yK E (k.f 3 F) c,b2 yK E (l.f 3 F) c,
  b2 oi E (k.f 0 F) c,b2 oi E (l.f 0 F) c]
 refine(BB _ _).o ?_;rintro m o ⟨rfl,rfl⟩;refine⟨c,?_⟩;refine(BB _ _).o ?_;rintro m o ⟨rfl,rfl⟩;refine⟨c,?_⟩;refine(BB _ _).o ?_;rintro m o ⟨rfl,rfl⟩;refine⟨c,?_⟩;refine Vh (k:=1) (S:=[I X (eA a.C b.C),I X (eA a.an b.an),I X (eA a.G b.G)]) (iR:=[(0,[I X (eA a.C b.C)]),(1,[I X (eA a.an b.an)]),(2,[I X (eA a.G b.G)])]) fW bw g mY g F F ?_;have h:O e.drew (e.drew.alloc (eW [I X (eA a.C b.C),I X (eA a.an b.an),I X (eA a.G b.G)].toArray 3)):=O.fl _ _;have u:=ag.fl e.drew [I X (eA a.C b.C),I X (eA a.an b.an),I X (eA a.G b.G)] 3;refine⟨c.a h,?_⟩;refine(T2 (l:=[eA a.C b.C,eA a.an b.an,eA a.G b.G]) (ag.aI (L:=[eA a.C b.C,eA a.an b.an,eA a.G b.G]) u RP (by have:e0=9223372036854775807:=rfl;simp only [d1,lk];omega)) ae).o ?_;rintro m D ⟨rfl,rfl⟩;refine⟨c.a h,?_,1,#[eW (bC a).toArray 125 (0,0),eW (bC b).toArray 125 (0,0),eW [I X (eA a.C b.C),I X (eA a.an b.an),I X (eA a.G b.G)].toArray 3 (0,0)],?_⟩
 ·congr 1;unfold zc;simp only [XN];by_cases f:eA a.C b.C=0
  ·by_cases i:eA a.an b.an=0
   ·by_cases p:eA a.G b.G=0
    ·simp[f,i,p]
    ·have h:(eA a.G b.G !=0)=true:=by simpa using p
     simp[f,i,h]
   ·have j:(eA a.an b.an !=0)=true:=by simpa using i
    simp[f,i,j]
  ·have v:(eA a.C b.C !=0)=true:=by simpa using f
   simp[f,v]
 ·subst t;subst r;simp only [World.alloc,World.drew,World.drewN,an7];congr 1
def FG(x:aG):∀a:List aG,(kF x a).Perm (x::a)
 |[]=>DJ _
 |b::a=>by
  unfold kF;split
  ·exact DJ _
  ·exact((FG x a).cons b).trans (an_ x b a)
def wg(b:List aG):(jo b).Perm b:=by
 unfold jo
 suffices∀c,(b.foldl (λc d=>kF d c) c).Perm (c++b) by simpa using this []
 induction b with
 |nil=>intro c;simp
 |cons d b ih=>intro c;rw[sf];refine(ih _).trans ?_;refine((FG d c).append_right b).trans ?_;exact(aob (l₁:=c) (a:=d) (l₂:=b)).symm
def iQ(a b:aG):Prop:=kh b a=ao
def ah5{x e c:aG}(a:iQ x e)(b:iQ e c):iQ x c:=by unfold iQ kh at*;rw[decide_eq_false_iff_not]at*;omega
def SM(d:aG):∀c:List aG,c.Pairwise iQ->(kF d c).Pairwise iQ
 |[],_=>by simp[kF]
 |h::c,e=>by
  have i:∀b∈kF d c,b=d\/b∈c:=λb a=>by simpa using(FG d c).mem_iff.1 a
  rw[qs]at e;unfold kF;split
  ·rename_i f
   have g:iQ d h:=by unfold iQ kh at*;rw[dF]at f;rw[decide_eq_false_iff_not];omega
   rw[qs,qs];exact⟨λb a=>by
    rcases df.1 a with rfl|a
    ·exact g
    ·exact ah5 g (e.1 b a),e.1,e.2⟩
  ·rename_i f
   rw[qs];refine⟨λb a=>?_,SM d c e.2⟩;rcases i b a with rfl|a
   ·exact wG.2 f
   ·exact e.1 b a
def Mx(b:List aG):(jo b).Pairwise iQ:=by
 unfold jo
 suffices∀a:List aG,a.Pairwise iQ->(b.foldl (λa c=>kF c a) a).Pairwise iQ from this [] wH
 induction b with
 |nil=>intro a d;exact d
 |cons c b ih=>intro a d;rw[sf];exact ih _ (SM c a d)
variable{e:List aG}
def My{x:List aG}(a:x.Perm e)(b:x.Pairwise iQ)(c:e.Pairwise iQ)(d:(e.map (·.G)).Nodup):x=e:=by
 refine aoa (le:=iQ) (λf g h i j k=>?_) b c a;have l:=a.mem_iff.1 h;have:f.G=g.G:=by unfold iQ kh at j k;rw[decide_eq_false_iff_not]at*;omega
 obtain⟨p,m,rfl⟩:=AU l;obtain⟨q,n,rfl⟩:=AU i;have:=(an9 (xs:=e.map (·.G)) (h₀:=by simpa using m) (h₁:=by simpa using n) d).1 (by simpa using this);subst this
 rfl
def J8(n:Int):∀(b:List aG) (a:List Int),a.Nodup->lx n a b=0->(a++b.map (·.G)).Nodup
 |[],a,d,_=>by simpa using d
 |f::b,a,d,c=>by
  unfold lx at c;split at c
  ·omega
  ·split at c
   ·omega
   ·rename_i g
    have:=J8 n b (a++[f.G]) (DE.2 ⟨d,ae,λj e k h=>by rw[cL.1 h];intro i;rw[i]at e;exact g e⟩) c
    simpa using this
def Rc(e:Int):∀(b:List aG) (f:List Int),lx e f b=0->∀c∈b,j0 e c=0
 |[],_,_,c,a=>by cases a
 |g::b,f,d,c,a=>by
  unfold lx at d;split at d
  ·omega
  ·split at d
   ·omega
   ·rename_i h _
    rcases df.1 a with rfl|a
    ·omega
    ·exact Rc e b _ d c a
def j8(w:aa)(p:Z)(n:Int)(l:List aG):Prop:=∃a b,p=ad (J ⟨a,0,ac⟩)/\ag w a [I X n,b]/\aC w b 5 bC l
def j8.h{w a:aa}{p:Z}{n:Int}{l:List aG}(h:j8 w p n l)(e:O w a):j8 a p n l:=by obtain⟨b,c,rfl,d,f⟩:=h;exact⟨b,c,F,d.h e,f.h e⟩
def SL(a:UInt8):∀b:List UInt8,(0<=AS b a↔a∈b)/\-1<=AS b a
 |[]=>by simp[AS]
 |e::b=>by
  have ih:=SL a b;unfold AS;by_cases c:e=a
  ·subst c;simp
  ·rw[an (by simpa using c)];by_cases d:AS b a=-1
   ·rw[au (by simpa using d)];have:a∉b:=λf=>by have:=ih.1.2 f;omega
    simp[this,Ne.symm c]
   ·rw[an (by simpa using d)];have g:0<=AS b a:=G;simp[ih.1.1 g];omega
variable{n:Int}
def ahU(a:aG)(t:a.c5.length<=10000000):ak Y 99 [I X n,al (bC a).toArray] w λj g=>O w g/\j=I X (j0 n a):=by
 apply aaU;refine bd (S:=bC a) F λz u A B k l=>?_;have f:=l.b;refine bG.y (λm g=>g=u/\∃i:Bool,m=[ax i]/\(i=af↔(a.G<1\/a.C<0\/n<a.C\/(a.aJ≠0/\a.aJ≠1)))) ?_ ?_
 ·rw[M oi E (f.f 0 F),aR,ai];refine⟨λb=>⟨F,af,F,by simp[b]⟩,λb=>?_⟩;rw[M h2 E (f.f 1 F),aR,ai];refine⟨λc=>⟨F,af,F,by simp[c]⟩,λc=>?_⟩;rw[M h2 E (f.f 1 F),cb,ai];refine⟨λd=>⟨F,af,F,by simp[d]⟩,λd=>?_⟩;rw[M yJ E (f.f 2 F),bs,bu];refine⟨λe=>?_,λe=>⟨F,ao,F,by simp[b,c,d,e]⟩⟩;rw[M yJ E (f.f 2 F),bs];exact⟨F,_,F,by simp[b,c,d,e]⟩
 rintro m D H ⟨rfl,i,rfl,o⟩;unfold j0;rw[av,dQ];refine⟨λv=>⟨k,by rw[au (o.1 v)]⟩,λp=>?_⟩;rw[an (λb=>by rw[o.2 b]at p;cases p),M pM ga (f.f 4 F)];refine(Db a.c5 t).o ?_;rintro j x ⟨q,rfl⟩;have r:=(l.h q).b;have h:=k.a q;rw[cb,ai];refine⟨λb=>⟨h,by rw[au G]⟩,λb=>?_⟩;rw[an G,M pM ga (r.f 4 F),show(lO ⟨#[]⟩)=co []from F,Ve,ai];refine⟨λc=>⟨h,by rw[au (.inl c)]⟩,λc=>?_⟩;rw[M pM ga (r.f 4 F)];refine Go.Proofs.YtoddhldofgfdmaaGreatDoor.S.al1.bJ (args:=[co a.c5,lO ⟨#[10]⟩]) (Tryz.er ⟨a.c5.toArray⟩ 10 x) ?_;rintro L g ⟨rfl,rfl⟩;refine⟨_,F,?_⟩;have s:=(SL 10 a.c5).1;rw[ai];refine⟨λd=>⟨h,?_⟩,λd=>⟨h,?_⟩⟩
 ·rw[au (.inr ((MM _ _ (a6 _)).1 (s.1 d)))]
 ·rw[an];rintro(e|e)
  ·exact c e
  ·exact d (s.2 ((MM _ _ (a6 _)).2 e))
abbrev rT(v:Z):Prop:=v=al #[]
def M3:∃a,(∀w,(qi 233).run Y w= .ok a w)/\rT a:=⟨_,Tryz.zeroValue233,F⟩
def Tq:vP Y 231=J (3,233):=D
def zw:rn Y 3 (λn:Int=>I X n):=rn.ep yl
variable{v:Z}
def KM{l:List aG}(bp:hJ w)(ca:0<=n/\n<=1099511627776)(am:aC w v 5 bC l)(br:∀e∈l,e.c5.length<=10000000):ak Y 54 [I X n,v] w λap o=>O w o/\
 ∃aq,ap=a1 #[aq,I X (nm n l)]/\(nm n l≠0->aq=ad ac)/\(nm n l=0->j8 o aq n (jo (l.map hc))):=by
 apply aaM;refine bG.y (λB o=>o=w/\B=[ax ao]) ?_ ?_
 ·rw[aR,du G,cb];exact⟨F,by rw[db G]⟩
 rintro B aw ay ⟨rfl,rfl⟩;rw[av,cw,aS dZ.m am,cb,ai];unfold nm;refine⟨λh=>?_,λcd=>?_⟩
 ·rw[au G];exact⟨O.p _,_,F,λ_=>F,λh=>G⟩
 rw[an G,bz (S:=[I X n,aQ ac 0 0]) (iR:=[(0,[I X n])]) aew adP F F];refine bd (S:=[I X n,aQ ac 0 0]) F λC p ce cf H bw=>?_;refine GQ (λn:Int=>I X n) rT λaz r cg ch K bx=>?_;rw[aS dZ.m ((am.h H).h K)];refine ba.bJ (λa0 B k=>O ay k/\r.heap.size<=k.heap.size/\∃(i:Nat) (c:Z),i+a0=l.length/\B=[I X i]/\ag k C [I X n,c]/\ar k r.heap.size 125 5 c bC ((l.take i).map hc)/\kU k (λn:Int=>I X n) rT az ((l.take i).map (·.G))/\lx n [] l=lx n ((l.take i).map (·.G)) (l.drop i))
  ⟨l.length,H.a K,a6 _,0,_,G,F,bw.h K,ar.nil ..,bx,F⟩ ?_
 rintro a0 B aw k ⟨Q,ci,i,c,cj,rfl,a2,s,aB,f⟩;rw[av,aR,ai];refine⟨λck=>?_,λcm=>?_⟩
 ·obtain⟨e,t⟩:∃e,l[i]? =J e:=⟨_,aX G⟩;have aE:=br e (cl t);rw[jw t,lx]at f;refine dZ.dO (am.h Q) t F λa3 b0 L cn cp aH=>?_;rw[aF mQ aH.b F];refine(ahU (n:=n) e aE).o ?_;rintro ap cq ⟨u,rfl⟩;have aJ:=(Q.a L).a u;rw[bs,bu];refine⟨λR=>?_,λcr=>?_⟩
  ·rw[au R]at f;rw[f];exact⟨aJ,_,F,λ_=>F,λh=>aL h R⟩
  rw[an G]at f;have aK:=aH.h u;rw[M oi E (aK.b.f 0 F)];have aP:=(aB.h L).h u;refine CV Tq zw M3 aP e.G λcs ct b1 aT=>?_;rw[aN,aO];refine bo (da:=[]) D λcu cx cy cz x c0=>?_;refine Mc D (by rw[b1];rfl) ?_;have aU:=aJ.a x;rw[dQ];refine⟨λb3=>?_,λaV=>?_⟩
  ·rw[au (aT.1 b3)]at f;rw[f];exact⟨aU,_,F,λ_=>F,λh=>G⟩
  have aW:e.G∉(l.take i).map (·.G):=λh=>by rw[aT.2 h]at aV;cases aV
  rw[an aW]at f;have aY:=aK.h x;rw[M oi E (aY.b.f 0 F),bz (S:=[]) (iR:=[]) (da:=[]) (pl:=[]) D D F F];refine GS (Q:=rT) (v:=al #[]) F Tq zw (aP.h x) aW λb4 U c3 b5=>?_;have c4:=L.size;have c7:=u.size;have c8:=x.size;have bb:O ay b4:=aU.ab U λa b=>by cases b;have:=H.size;omega
  have bc:=aY.ab U (by rintro⟨⟩;omega);rw[M pM ga (bc.b.f 4 F)];refine(V_ (bp.h bb) e.c5 aE).o ?_;rintro ap cA ⟨y,rfl⟩;have b6:=bc.h y;have cB:=y.size;rw[aj pM];refine aZ (cS:=[co (a8 (bY e.c5))]) Qj g b6 F F (by simp[bC]) (λb7 a4=>by rw[cL.1 a4];rfl) λd cC V b8=>?_;have bA:ag d a3 (bC (hc e)):=b8;have bB:O ay d:=(bb.a y).ab V λa b=>by cases b;have:=Q.size;omega
  have be:ag d C [I X n,c]:=((((((a2.h L).h u).h x).ab U (by rintro⟨⟩;omega)).h y).ab V (by rintro⟨⟩;omega));have m:∀a,c.ownBlock=J a->r.heap.size<=a/\a<k.heap.size:=λa b=>s.D a b;have bD:ar d r.heap.size 125 5 c bC ((l.take i).map hc):=((((((s.h L).h u).h x).ab U (fC s G)).h y).ab V (by
   cases bF:c.ownBlock with
   |none=>exact .inl F
   |some a=>exact .inr λq=>by have j:=(m a bF).2;have bg:a=a3:=rg q;omega))
  have bH:kU d (λn:Int=>I X n) rT az ((l.take i).map (·.G)++[e.G]):=(b5.h y).ab V (by rintro⟨⟩;omega);have P:=jz d c.ownBlock;have a5:∀{z:Nat} {S:List Z} {o:aa},ag d z S->(∀a,c.ownBlock=J a->a≠z)->d.grownBy o c.ownBlock->ag o z S:=λbI R b=>bI.ab b λq=>R _ q.symm F;have bi:∀a,c.ownBlock=J a->a≠C:=λa b=>by have:=(m a b).1;omega
  have bK:∀a,c.ownBlock=J a->a≠a3:=λa b=>by have:=(m a b).2;omega
  refine bE.y (λp=>d.grownBy p c.ownBlock) P ?_;rw[bn,bh (λp j a7=>aj Ex) P,bh (λp j a7=>aM qD ((a5 be bi j).b.f 1 F)) P,
   bh (λp j a7=>aF mQ (a5 bA bK j).b F) P]
  have a9:O d d.drew:=(O.p d).C;refine dZ.p8 (bD.h a9) (by show r.heap.size<=d.drew.heap.size;have:=a9.size;omega) (by simp;omega) g (λp j=>eb (a9.a j) _) λbj cD W bL cE=>?_;have A:=eN P bL;refine⟨A,?_⟩;rw[bn,bh (λp j a7=>aj Ex) A];have bM:=a5 be bi A;refine aZ (cS:=[bj]) aef g bM W.M.1 F ae (λb7 a4=>by rw[cL.1 a4];exact W.M.2) λcF cG ah bN=>?_;rw[aD];have cH:=A.size;refine⟨a0-1,G,(bB.ab A λa b=>by have:=(m a b).1;have:=H.size;have:=K.size;omega).ab ah λa b=>by cases b;omega,by have:=ah.size;omega,i+1,bj,G,ae,bN,?_,?_,?_⟩
  ·rw[c9 t,dJ];exact W.ab ah (fC W G)
  ·rw[c9 t,dJ];exact((bH.ab A λq=>by have:=(m az q.symm).1;omega)).ab ah (by rintro⟨⟩;omega)
  ·rw[f,c9 t,dJ];rfl
 ·have bO:i=l.length:=G;rw[bO,cI]at s aB f;rw[mc]at f;have bk:lx n [] l=0:=by rw[f];rfl
  rw[bn,M Ex qD (a2.b.f 1 F)];have bP:((jo (l.map hc)).map (·.G)).Nodup:=by
   have j:=J8 n l [] NX bk;have bg:=(wg (l.map hc)).map (·.G);refine bg.nodup_iff.2 ?_;have bQ:(l.map hc).map (·.G)=l.map (·.G):=by rw[pr];rfl
   rw[bQ];simpa using j
  refine Vr (ρ:=Tryz.c6) (xq:=zc) Tryz.ea dZ F Tryz.isAgg125 Tryz.sizeOf125 al6 ahN F (an8 Tryz.func102 D F) (λh bR=>z7 Tryz.func101 D (c:=lu Tryz.f101) F h bR) s (by simp;omega) λaA b0 bS bT bU bl=>?_;have bV:aA=jo (l.map hc):=by refine My (bS.trans (wg _).symm) ?_ (Mx _) bP;rw[Iq];intro bm z bW bX bZ;have:=bT bm z aA[bm] aA[z] (aX bW) (aX bX) bZ;rw[FZ]at this;exact this
  rw[bk];have m:∀a,c.ownBlock=J a->r.heap.size<=a/\a<k.heap.size:=λa b=>s.D a b;refine⟨Q.ab bl λa b=>by have:=(m a b).1;have:=H.size;have:=K.size;omega,_,F,λh=>aL F h,λ_=>⟨C,c,F,a2.ab bl (λq=>by have:=(m C q.symm).1;omega),?_⟩⟩;rw[<-bV];exact bU.aI d0
variable{x:Z}
def ahD(c:aC w x 5 bC e)(d:e.length<=2000000):ak Y 259 [x] w λb a=>O w a/\ar a w.heap.size 125 5 b bC e:=by apply abU;have:=dZ.cu (K:=λb a=>O w a/\ar a w.heap.size 125 5 b bC e) c d λb a f g=>⟨f,g⟩;exact this
variable{n:Nat}{e:Z}
def ahF{c:aG->Bool}{d:List aG}(j:aC w e 5 bC d)(l:mO Y x bC c d n w)(m:n<=w.heap.size):
 ak Y 384 [e,x] w λf i=>O w i/\((∃(b:Nat) (a:aG),f=I X b/\d[b]? =J a/\c a=af/\∀(g:Nat) (h:aG),g<b->d[g]? =J h->c h=ao)\/(f=I X (-1)/\∀a∈d,c a=ao)):=by
 apply ab3;rw[aS dZ.m j];exact dZ.cp (K:=λf i=>O w i/\((∃(b:Nat) (a:aG),f=I X b/\d[b]? =J a/\c a=af/\∀(g:Nat) (h:aG),g<b->d[g]? =J h->c h=ao)\/(f=I X (-1)/\∀a∈d,c a=ao)))
  j l m (λt u w v=>F) λy k=>⟨λb a o p q=>⟨k,.inl ⟨b,a,F,o,p,q⟩⟩,λr=>⟨k,.inr ⟨F,r⟩⟩⟩
def ahE{c:List aG}{p:aG->Bool}(i:ar w n 125 5 e bC c)(j:mO Y x bC p c n w)(f:n<=w.heap.size)(k:c.length<=2000000):
 ak Y 363 [e,x] w λg b=>oH n w b/\ar b n 125 5 g bC (c.filter λa=>!p a):=by
 apply abZ;refine(ahF (i.aI d0) j f).o ?_;rintro g s ⟨d,⟨t,a,rfl,h,l,m⟩|⟨rfl,o⟩⟩
 ·rw[bm,du G,tf _ _ ⟨G,by have:=(dS.1 h).1;omega⟩];exact dZ.dh (K:=λg b=>oH n w b/\ar b n 125 5 g bC (c.filter λa=>!p a)) (i.h d) (j.bI (ts d f)) (eQ f d.size) k (λv y w z=>F) ⟨a,h,l⟩ m λg b q _ _ r=>⟨(ts d f).trans q,r⟩
 ·rw[bm,h4 F];refine⟨ts d f,?_⟩;rw[tt.2 λa h=>by rw[o a h];rfl];exact i.h d
def Mf{x:List aB}(c:aC w v 2 ah x)(d:x.length<=2000000):ak Y 105 [v] w λb a=>O w a/\ar a w.heap.size 49 2 b ah x:=by apply abV;have:=cm.cu (K:=λb a=>O w a/\ar a w.heap.size 49 2 b ah x) c d λb a e f=>⟨e,f⟩;exact this
def G3{c:List aB}{A:Nat}{p:aB->Bool}(i:aC w e 2 ah c)(k:mO Y x ah p c A w)(l:A<=w.heap.size):
 ak Y 310 [e,x] w λd h=>O w h/\((∃(b:Nat) (a:aB),d=I X b/\c[b]? =J a/\p a=af/\∀(f:Nat) (g:aB),f<b->c[f]? =J g->p g=ao)\/(d=I X (-1)/\∀a∈c,p a=ao)):=by
 apply ab4;rw[aS cm.m i];exact cm.cp (K:=λd h=>O w h/\((∃(b:Nat) (a:aB),d=I X b/\c[b]? =J a/\p a=af/\∀(f:Nat) (g:aB),f<b->c[f]? =J g->p g=ao)\/(d=I X (-1)/\∀a∈c,p a=ao)))
  i k l (λs t w u=>F) λv j=>⟨λb a m n o=>⟨j,.inl ⟨b,a,F,m,n,o⟩⟩,λq=>⟨j,.inr ⟨F,q⟩⟩⟩
def Vt{p:aB->Bool}{l:List aB}(g:ar w n 49 2 v ah l)(h:mO Y x ah p l n w)(e:n<=w.heap.size)(i:l.length<=2000000):
 ak Y 220 [v,x] w λc a=>oH n w a/\w.grownBy a v.ownBlock/\c.ownBlock=v.ownBlock/\ar a n 49 2 c ah (l.filter λd=>!p d):=by
 apply ab0;refine(G3 (g.aI e_) h e).o ?_;rintro c t ⟨b,⟨u,d,rfl,f,j,k⟩|⟨rfl,m⟩⟩
 ·rw[bm,du G,tf _ _ ⟨G,by have:=(dS.1 f).1;omega⟩];exact cm.dh (K:=λc a=>oH n w a/\w.grownBy a v.ownBlock/\c.ownBlock=v.ownBlock/\ar a n 49 2 c ah (l.filter λd=>!p d)) (g.h b) (h.bI (ts b e)) (eQ e b.size) i (λz A w B=>F) ⟨d,f,j⟩ k λc a o q r s=>⟨(ts b e).trans o,eN (eb b _) q,r,s⟩
 ·rw[bm,h4 F];refine⟨ts b e,eb b _,F,?_⟩;rw[tt.2 λd f=>by rw[m d f];rfl];exact g.h b
def ag.bA{w b:aa}(a:ag w k S)(c:oH n w b)(d:k<n):ag b k S:=by obtain⟨T,a⟩:=a;exact⟨T,(c.block k d).trans a⟩
variable{n:Int}
def vG{x:List aG}{p:Z}(a:j8 w p n x):ak Y 176 [p] w λb c=>c=w/\b=I X n:=by obtain⟨e,f,rfl,d,g⟩:=a;apply aaO;rw[fZ D];show b6 (ax ao) _ _;rw[cw,bn,M adu E (d.b.f 0 F)];exact⟨F,F⟩
def zq{p:Z}{l:List aG}(b:j8 w p n l)(f:l.length<=1000000):ak Y 179 [p] w λc a=>O w a/\ar a w.heap.size 125 5 c bC l:=by obtain⟨g,h,rfl,d,e⟩:=b;apply aaN;rw[fZ D];show b6 (ax ao) _ _;rw[cw,bn,M Ex qD (d.b.f 1 F)];exact ahD e G
def gz(l:List aG)(a b:Int):List aG:=l.filter λc=>decide (a<=c.C/\c.C<=b)
def SX{p:Z}{a b:Int}{l:List aG}(o:j8 w p n l)(q:l.length<=1000000):ak Y 337 [p,I X a,I X b] w λh e=>O w e/\ar e w.heap.size 125 5 h bC (gz l a b):=by
 apply aaS;refine bd (S:=[I X a]) F λr D H K f s=>?_;refine bd (S:=[I X b]) F λt L P Q i u=>?_;refine(zq ((o.h f).h i) q).o ?_;rintro h R ⟨g,v⟩;rw[jZ];refine(ahE (p:=λc=>!decide (a<=c.C/\c.C<=b)) v ?_ g.size G).o ?_
 ·intro c S e k;rw[kL];apply aaR;have x:ag e r [I X a]:=ag.bA ((s.h i).h g) k G;have y:ag e t [I X b]:=ag.bA (u.h g) k G;refine bd (S:=bC c) F λU z V W d m=>?_;rw[M h2 E (m.b.f 1 F),aM E ((x.h d).b.f 0 F),aR,ai];refine⟨λA=>⟨d,by simp;omega⟩,λA=>?_⟩;rw[M h2 E (m.b.f 1 F),aM E ((y.h d).b.f 0 F),cb];refine⟨d,?_⟩;congr 1;rw[g0];simp only [dF,sb,decide_eq_false_iff_not];omega
 ·rintro h z ⟨d,B⟩;refine⟨HH ((f.a i).a g) (ts d (by have:=f.size;omega)),?_⟩
  ·have:(l.filter λc=>!!decide (a<=c.C/\c.C<=b))=gz l a b:=by unfold gz;simp
   rw[<-this];exact B.o (by have:=f.size;omega)
abbrev zt(v:Z):Prop:=∃a:aG,v=al (bC a).toArray
def WJ:∃a,(∀w,(qi 125).run Y w= .ok a w)/\zt a:=⟨_,Tryz.zeroValue125,⟨0,0,0,0,[]⟩,F⟩
def F2:vP Y 496=J (3,125):=D
def v7(c a:List Int):Prop:=∀b,b<a.length->a.getD b 0∈c/\a.getD b 0∉a.take b
instance(ids rem:List Int):Decidable (v7 ids rem):=by unfold v7;infer_instance
def lH(l:List aG)(a:List Int):List aG:=l.filter λb=>decide (b.G∉a)
def nZ(n:Int)(l:List aG)(rem:List Int)(add:List aG):Int:=if v7 (l.map (·.G)) rem then nm n (lH l rem++add)else 6
def FU{e:List Int}{x:aG}{l:List aG}(a:l[i]? =J x):lH (l.take (i+1)) e=lH (l.take i) e++(if x.G∈e then []else [x]):=by unfold lH;rw[c9 a,jd];congr 1;by_cases b:x.G∈e<;>simp[b]
def ahR{c d:Z}{s:List aG}{rem:List Int}{l:List aG}(bl:hJ w)(bm:0<=n/\n<=1099511627776)(a:j8 w e n l)(bV:l.length<=1000)(ag:aC w c 1 iY rem)(bn:aC w d 5 bC s)(bW:s.length<=1000000)(H:∀x∈l++s,x.c5.length<=10000000)(aA:(l.map (·.G)).Nodup):
 ak Y 224 [e,c,d] w λay aB=>O w aB/\
  ∃m,ay=a1 #[m,I X (nZ n l rem s)]/\(nZ n l rem s≠0->m=ad ac)/\(nZ n l rem s=0->j8 aB m n (jo ((lH l rem++s).map hc))):=by
 apply aaQ;refine GQ (λn:Int=>I X n) zt λaz bo bX bY aE bp=>?_;refine(zq (a.h aE) G).o ?_;rintro br bs ⟨aH,aJ⟩;rw[aS dZ.m (aJ.aI d0)];refine ba.bJ (λo p y=>O w y/\bs.heap.size<=y.heap.size/\ar y bo.heap.size 125 5 br bC l/\∃i:Nat,i+o=l.length/\p=[I X i]/\kU y (λn:Int=>I X n) zt az ((l.take i).map (·.G))) ⟨l.length,aE.a aH,a6 _,aJ,0,G,F,bp.h aH⟩ ?_;rintro o p aj y ⟨a0,bZ,a2,i,aK,rfl,a3⟩;rw[av,aR,ai];refine⟨λaL=>?_,λa4=>?_⟩
 ·obtain⟨x,b⟩:∃x,l[i]? =J x:=⟨_,aX G⟩;refine dZ.dO (a2.aI d0) b F λca K f cb cd aP=>?_;rw[M oi E (aP.b.f 0 F),aF mQ aP.b F];have bu:x.G∉(l.take i).map (·.G):=by
   intro a5;obtain⟨j,bv,bx⟩:=eP.1 a5;obtain⟨h,t⟩:=tr bv;rw[lN]at t;split at t
   ·rename_i aT
    have aU:=(dS.1 t);have aV:=(dS.1 b);have:=(an9 (xs:=l.map (·.G)) (i:=h) (j:=i) (h₀:=by simpa using aU.1) (h₁:=by simpa using aV.1) aA).1 (by simp[aU.2,aV.2,bx]);omega
   ·cases t
  refine GS (Q:=zt) (v:=al (bC x).toArray) ⟨x,F⟩ F2 zw (a3.h f) bu λam aW bz b0=>?_;rw[aD];have ck:=f.size;refine⟨o-1,G,(a0.a f).ab aW λb1 a7=>by cases a7;omega,G,?_,i+1,G,ae,by rw[c9 b,dJ];exact b0⟩;exact(a2.h f).ab aW (fC a2 G)
 have b2:i=l.length:=G;rw[b2,cI]at a3;clear aK a4;rw[aS fW (ag.h a0)];have cm:=ag.aD;refine ba.bJ (λo p K=>O w K/\y.heap.size<=K.heap.size/\∃(i:Nat) (u:List Int),i+o=rem.length/\p=[I X i]/\kU K (λn:Int=>I X n) zt az u/\u.Nodup/\(∀j,j∈u↔j∈l.map (·.G)/\j∉rem.take i)/\∀h,h<i->rem.getD h 0∈l.map (·.G)/\rem.getD h 0∉rem.take h)
  ⟨rem.length,a0,a6 _,0,l.map (·.G),G,F,a3,aA,λj=>ae,λh t=>G⟩ ?_
 rintro b3 p aj K ⟨f,cn,i,u,aK,rfl,a8,b4,ap,aY⟩;rw[av,aR,ai];refine⟨λaL=>?_,λa4=>?_⟩
 ·obtain⟨z,aq⟩:∃x,rem[i]? =J x:=⟨_,aX G⟩;have aZ:rem.getD i 0=z:=by rw[yi,aq];rfl
  obtain⟨A,co,b5,b6⟩:=(ag.h f).m aq;rw[cr fW bw g (ag.h f) aq F,b5,aM E (by simpa using b6.f 0 F)];refine CV F2 zw WJ a8 z λb7 m a9 L=>?_;rw[aN,aO];obtain⟨P,rfl⟩:=a9;refine cj (cS:=bC P) JM EL g F F (Kn P) λcp am cq bz k cs=>?_;rw[dD,dQ];refine⟨λQ=>?_,λH=>?_⟩
  ·have b8:¬v7 (l.map (·.G)) rem:=by intro a;have:=a i G;rw[aZ]at this;have:=L.2 ((ap z).2 this);rw[this]at Q;cases Q
   unfold nZ;rw[an b8];exact⟨f.a k,_,F,λ_=>F,λa=>G⟩
  ·have a5:z∈u:=L.1 (by cases m<;>first|rfl|cases H);refine ak_ F2 zw (a8.h k) z λR bB bD ct bE bF=>?_;rw[aD];have cu:=k.size;obtain⟨bG,bH⟩:=bF b4;refine⟨b3-1,G,(f.a k).ab bD λb1 a7=>by cases a7;omega,G,i+1,bB,G,ae,bE,bG,λj=>?_,λh t=>?_⟩
   ·rw[bH,ap,c9 aq,b9,cL];constructor
    ·rintro⟨⟨S,B⟩,bI⟩;exact⟨S,λa=>by rcases a with a|a;exact B a;exact bI a⟩
    ·rintro⟨S,B⟩;exact⟨⟨S,λa=>B (.inl a)⟩,λa=>B (.inr a)⟩
   ·by_cases aT:h<i
    ·exact aY h aT
    ·obtain rfl:h=i:=G;rw[aZ];exact(ap z).1 a5
 have bK:i=rem.length:=G;have bL:v7 (l.map (·.G)) rem:=λh t=>aY h G;have bb:∀j,j∈u↔j∈l.map (·.G)/\j∉rem:=λj=>by rw[ap,bK,cI]
 refine(zq (a.h f) G).o ?_;rintro cw am ⟨k,bc⟩;rw[aS dZ.m (bc.aI d0)];have bM:=bc.aI d0;refine ba.bJ (λo p R=>O w R/\O am R/\∃(i:Nat) (aw:Z),i+o=l.length/\p=[aw,I X i]/\ar R am.heap.size 125 5 aw bC (lH (l.take i) rem)) ⟨l.length,f.a k,O.p _,0,_,G,F,ar.nil ..⟩ ?_;rintro bd p aj R ⟨U,C,D,aw,cx,rfl,v⟩;simp only [av,bA];rw[aR,ai];have cy:(lH (l.take D) rem).length<=1000:=by unfold lH;have:=mH (λx:aG=>decide (x.G∉rem)) (l.take D);rw[bt]at this;omega
 refine⟨λaL=>?_,λa4=>?_⟩
 ·obtain⟨x,b⟩:∃x,l[D]? =J x:=⟨_,aX G⟩;refine dZ.dO (bM.h C) b F λcz be q c0 c1 bg=>?_;rw[M oi E (bg.b.f 0 F)];have bN:kU be (λn:Int=>I X n) zt az u:=((a8.h k).h C).h q;refine CV F2 zw WJ bN x.G λb7 m a9 L=>?_;rw[aN,aO];obtain⟨P,rfl⟩:=a9;refine cj (cS:=bC P) JM EL g F F (Kn P) λc2 bh c3 c4 r c6=>?_;have bO:x.G∈l.map (·.G):=eP.2 ⟨x,cl b,F⟩;rw[dQ];refine⟨λH=>?_,λQ=>?_⟩
  ·have V:x.G∉rem:=((bb _).1 (L.1 H)).2;rw[aF mQ (bg.h r).b F];refine dZ.push ((v.h q).h r) (C.a (q.a r)).size G g λbi bP bQ bj bR=>?_;rw[aD];refine⟨bd-1,G,(U.a (q.a r)).ab bj λA W=>by have:=(v.D A W).1;have:=f.size;have:=k.size;omega,(C.a (q.a r)).ab bj λA W=>(v.D A W).1,D+1,bi,G,ae,?_⟩;rw[FU b,an V];exact bQ
  ·have V:x.G∈rem:=by apply AI;intro V;rw[L.2 ((bb _).2 ⟨bO,V⟩)]at Q;cases Q
   rw[aD];refine⟨bd-1,G,U.a (q.a r),C.a (q.a r),D+1,aw,G,ae,?_⟩;rw[FU b,au V,cT];exact(v.h q).h r
 rw[show D=l.length from G,cI]at v;refine(vG (a.h U)).o ?_;rintro ay be ⟨rfl,rfl⟩;have c7:(lH l rem).length<=1000:=by unfold lH;have:=mH (λx:aG=>decide (x.G∉rem)) l;omega
 refine dZ.ah v C.size (bn.h U) G λbi bh bS bT bR=>?_;have bk:O w bh:=U.ab bT λA W=>by have:=(v.D A W).1;have:=f.size;have:=k.size;omega
 refine(KM (bl.h bk) bm (bS.aI d0) λx b=>H x ?_).o ?_
 ·rcases b9.1 b with b|b
  ·exact b9.2 (.inl (fS.1 b).1)
  ·exact b9.2 (.inr b)
 rintro ay bP ⟨bU,m,rfl,S,B⟩;rw[aN,aO];unfold nZ;rw[au bL];exact⟨bk.a bU,m,F,S,B⟩
end aY
namespace aY
open Go.bW Go.cB
structure nF (n m:Int) (l:List dx):Prop where
 ay:e1 0 0 af l
 qf:∀c∈l,c.1.2<=n
 p2:∀c∈l,IF c
 bl:l.length<=200
 jA:0<=n/\n<=1000000
 b4:0<=m/\m<=1000000
 cF:n+cx l=m
def e1.cJ{c:Int}:∀{b:List dx} {a d:Int} {e:Bool},e1 a d e b->(∀f∈b,f.1.2<=c)->a<=c->a<=c+cx b
 |[],a,d,e,_,_,g=>by simpa [cx]using g
 |f::b,a,d,e,g,h,k=>by obtain⟨l,m,n,o,p,q,r,s,i⟩:=g;have:=e1.cJ i (λj hd=>h j (ey _ hd)) (h f (dv ..));rw[BE];omega
def e1.bF{n v aJ:Int}:∀{a:List dx} {b c s:Int} {e:Bool},e1 b c e a->(∀d∈a,d.1.2<=n)->c=b+s->b<=v->v<=n->c<=eC a s v aJ/\eC a s v aJ<=n+s+cx a
 |[],b,c,s,e,_,_,i,j,k=>by unfold eC;simp[cx];omega
 |d::a,b,c,s,e,l,f,i,p,m=>by
  obtain⟨j,k,q,r,t,u,w,x,h⟩:=l;have o:=f d (dv ..);have y:=e1.cJ h (λg hd=>f g (ey _ hd)) o;unfold eC;rw[BE];split
  ·omega
  ·split
   ·split<;>omega
   ·have:=e1.bF (s:=d.2.2-d.1.2) (v:=v) (aJ:=aJ) h (λg hd=>f g (ey _ hd)) G G m;omega
def nF.bF{n c:Int}{a:List dx}(b:nF n c a){v aJ:Int}(d:0<=v/\v<=n):0<=eC a 0 v aJ/\eC a 0 v aJ<=c:=by have:=e1.bF (s:=0) (aJ:=aJ) b.ay b.qf G d.1 d.2;have:=b.cF;omega
def tZ(b c:Int)(d:Bool)(e:List dx):Int×Int×Bool:=match e.getLast? with|none=>(b,c,d)|some a=>(a.1.2,a.2.2,false)
def DZ:∀{a e:List dx} {b c:Int} {d:Bool},e1 b c d (a++e)↔e1 b c d a/\e1 (tZ b c d a).1 (tZ b c d a).2.1 (tZ b c d a).2.2 e
 |[],e,b,c,d=>by simp[e1,tZ]
 |f::a,e,b,c,d=>by
  have q:tZ b c d (f::a)=tZ f.1.2 f.2.2 ao a:=by
   unfold tZ;cases a with
   |nil=>rfl
   |cons r a=>
    rw[NZ];cases s:(r::a).getLast? with
    |none=>simp at s
    |some t=>rfl
  rw[gO,e1,e1,q,DZ];constructor
  ·rintro⟨g,h,i,j,k,l,m,n,o,p⟩;exact⟨⟨g,h,i,j,k,l,m,n,o⟩,p⟩
  ·rintro⟨⟨g,h,i,j,k,l,m,n,o⟩,p⟩;exact⟨g,h,i,j,k,l,m,n,o,p⟩
def Ke(a b:List dx):cx (a++b)=cx a+cx b:=by unfold cx;rw[dJ,yh]
structure DS (n aw:Int) (e3:Int×List dx) (pos:Int):Prop where
 ay:e1 0 0 af e3.2
 cF:cx e3.2=e3.1
 cn:∀k,e3.2.getLast? =J k->k.1.2<=pos/\k.2.2=k.1.2+e3.1
 cr:e3.2=[]->e3.1=0
 qf:∀c∈e3.2,0<=c.1.1/\c.1.2<=n/\c.1.2<=pos/\0<=c.2.1
 up:∀c∈e3.2,c.2.2<=400000000
def BO{α:Type}{a:List α}{b:α}(c:a.getLast? =J b):a=a.dropLast++[b]:=by obtain⟨e,d⟩:=Im.1 c;rw[d,XM]
def ag4(b c:Int)(d:Bool)(e:List dx)(a:dx):tZ b c d (e++[a])=(a.1.2,a.2.2,ao):=by unfold tZ;rw[NY]
def DS.cM{n:Int}{x:a_}{aw:Int}{b:Int×List dx}{pos:Int}(c:DS n aw b pos)(E:pos<=x.1/\x.1<=x.2.1/\x.2.1<=n)(F:n<=1000000)(H:0<=pos)(K:-400000000<=x.1+b.1/\x.1+b.1+c6 x<=400000000):DS n aw (km b x) x.2.1:=by
 by_cases h:(x.2.1-x.1)+(c6 x:Int)=0
 ·rw[Ha h];have t:b.1+((c6 x:Int)-(x.2.1-x.1))=b.1:=G;rw[t];exact⟨c.ay,c.cF,λd g=>⟨by have:=(c.cn d g).1;omega,(c.cn d g).2⟩,c.cr,λe a=>by have:=c.qf e a;omega,c.up⟩
 ·cases k:b.2.getLast? with
  |none=>
   have l:b.2=[]:=List.getLast?_eq_none_iff.1 k;have u:=c.cr l;rw[C7 h (λp d i _=>by rw[l]at i;simp at i),l,fc,u];refine⟨by unfold e1 e1;dsimp only;exact⟨G,(λv=>by cases v),G,G,G,G,G,G,trivial⟩,?_,λd g=>?_,λj=>?_,λe a=>?_,λe a=>?_⟩
   ·unfold cx;simp;omega
   ·simp at g;subst g;dsimp only;omega
   ·simp at j
   ·rw[cL.1 a];dsimp only;omega
   ·rw[cL.1 a];dsimp only;omega
  |some d=>
   have f:=BO k;have L:=c.cn d k;have w:d∈b.2:=by rw[f];simp
   have M:=c.qf d w;have q:=c.ay;rw[f,DZ]at q;obtain⟨y,z⟩:=q;have r:b.2.length=b.2.dropLast.length+1:=by
    conv=>lhs;rw[f]
    simp
   have m:b.2[b.2.dropLast.length]? =J d:=by
    conv=>lhs;rw[f]
    simp
   have o:=c.cF;rw[f,Ke]at o;by_cases j:d.1.2=x.1
   ·rw[G_ h r m j,an6];have A:b.2.set b.2.dropLast.length ((d.1.1,x.2.1),(d.2.1,x.1+b.1+c6 x))=b.2.dropLast++[((d.1.1,x.2.1),(d.2.1,x.1+b.1+c6 x))]:=by
     conv=>lhs;rw[f]
     rw[Ip _ _ ae];simp
    rw[A];obtain⟨B,C,D,O,P,Q,R,S,_⟩:=z;refine⟨?_,?_,λe a=>?_,λa=>?_,λe a=>?_,λe a=>?_⟩
    ·rw[DZ];refine⟨y,?_⟩;unfold e1 e1
     dsimp only
     exact⟨B,C,D,G,G,G,G,G,trivial⟩
    ·rw[Ke];unfold cx at o⊢;simp at o⊢;omega
    ·rw[NY]at a;cases a
     dsimp only;omega
    ·simp at a
    ·rcases b9.1 a with a|a
     ·have:=c.qf e ((aoe _).subset a);omega
     ·rw[cL.1 a];dsimp only;omega
    ·rcases b9.1 a with a|a
     ·exact c.up e ((aoe _).subset a)
     ·rw[cL.1 a];dsimp only;omega
   ·rw[C7 h (λp U i s=>by rw[r]at i;have:p=b.2.dropLast.length:=G;subst this;rw[m]at s;cases s;exact j)]
    refine⟨?_,?_,λe a=>?_,λa=>?_,λe a=>?_,λe a=>?_⟩
    ·rw[DZ];refine⟨c.ay,?_⟩;rw[f,ag4];unfold e1 e1
     dsimp only
     exact⟨G,(λ_=>G),G,G,G,G,G,G,trivial⟩
    ·rw[Ke,c.cF];unfold cx;simp;omega
    ·rw[NY]at a;cases a
     dsimp only;omega
    ·simp at a
    ·rcases b9.1 a with a|a
     ·have:=c.qf e a;omega
     ·rw[cL.1 a];have V:=(e1.f c.ay G G m).2.1
      dsimp only;omega
    ·rcases b9.1 a with a|a
     ·exact c.up e a
     ·rw[cL.1 a];dsimp only;omega
def amj(b:List a_):∀a,jD (b.take a)<=jD b:=by
 induction b with
 |nil=>intro a;simp
 |cons c b ih=>
  intro a;cases a with
  |zero=>rw[kp];exact ec _
  |succ a=>rw[HT,wm,wm];have:=ih a;omega
variable{n:Nat}
def ahk{e:List a_}{N:Nat}{aw:Int}(r:N=n)(c:e9 n 0 e)(j:n<=1000000)(k:e.length<=200)(l:nC e)(s:jD e<=100000):∀a,a<=e.length->DS n aw (jT (e.take a)) (iP 0 (e.take a)):=by
 intro a;have f:=λx b=>c.Q x b
 induction a with
 |zero=>intro _;exact⟨trivial,F,(λt m=>by cases m),λ_=>F,(λo d=>by cases d),(λo d=>by cases d)⟩
 |succ a ih=>
  intro u;obtain⟨x,b⟩:∃x,e[a]? =J x:=⟨_,aX G⟩;have g:=f x (cl b);have p:=c.f (ec _) b;have h:=r5 j k f l;have v:(jT (e.take a)).1=c8 (e.take a):=by unfold jT;rw[Fy];simp
  have w:=h a;have i:=h (a+1);rw[we b]at i;unfold iu at i;have y:=G5 (c.aQ a);have z:=amj e a;have A:=MQ (cl b);rw[KA b,c9 b,KT];have:=(ih G).cM (x:=x) ⟨p,g.2.1,g.2.2⟩ G G ⟨G,G⟩;have q:((x.2.1.toNat:Nat):Int)=x.2.1:=G;rw[q];exact this
def ajd{x:List a_}(f:e9 n 0 x)(g:n<=1000000)(h:x.length<=200)(i:nC x)(j:jD x<=100000)(p:(n:Int)+c8 x<=1000000):nF n (n+c8 x) (ct x)/\cx (ct x)=c8 x:=by
 have a:=ahk (aw:=0) F f g h i j x.length (a6 _);rw[cI]at a;have k:(jT x).1=c8 x:=by unfold jT;rw[Fy];simp
 have d:cx (ct x)=c8 x:=by rw[<-k];exact a.cF
 have e:∀b∈ct x,b.1.2<=(n:Int):=λb c=>(a.qf b c).2.1;have l:=e1.cJ a.ay e (Int.natCast_nonneg n);refine⟨⟨a.ay,e,λb c=>?_,?_,G,?_,by rw[d]⟩,d⟩
 ·obtain⟨q,m⟩:=tr c;have r:=a.qf b c;have s:=a.up b c;have t:=e1.f a.ay G G m;exact⟨G,G⟩
 ·have:=Kz x (0,[]);unfold ct jT;simp at this⊢;omega
 ·have o:(0:Int)<=n+cx (ct x):=l;rw[d]at o;omega
def m_(n:Int)(a:List dx):Int:=match a with|[]=>0|b::_=>b.1.1
def l2(n:Int)(a:List dx):Int:=match a.getLast? with|none=>n|some b=>b.1.2
variable{v:Int}
def aiR{x:List dx}{aJ:Int}(b:∀a∈x,v<a.1.1)(s:Int):eC x s v aJ=v+s:=by
 cases x with
 |nil=>rfl
 |cons a x=>unfold eC;rw[au (b a (dv ..))]
def TE{v aJ:Int}:∀{a:List dx} {b c s:Int} {d:Bool},e1 b c d a->c=b+s->(∀e∈a,e.1.2<v)->eC a s v aJ=v+s+cx a
 |[],b,c,s,d,_,_,_=>by unfold eC;simp[cx]
 |e::a,b,c,s,d,g,j,f=>by obtain⟨k,l,m,n,o,p,q,r,h⟩:=g;have:=f e (dv ..);unfold eC;rw[an G,an G,TE h G (λi hd=>f i (ey _ hd)),BE];omega
structure X3 (n m a b:Int) (l:List dx):Prop where
 aL:0<=a/\a<=b/\b<=n
 vO:∀v aJ,v<a->eC l 0 v aJ=v
 zp:∀v aJ,b<v->eC l 0 v aJ=v+(m-n)
 dV:∀v aJ,a<=v->v<=b->a<=eC l 0 v aJ/\eC l 0 v aJ<=b+(m-n)
 up:a<=b+(m-n)
def e1.vO{a b:Int}{d:Bool}:∀{l:List dx},e1 a b d l->∀c∈l,a<=c.1.1
 |c::l,e,f,hd=>by
  obtain⟨g,i,j,k,m,n,o,p,h⟩:=e;rcases df.1 hd with rfl|hd
  ·exact g
  ·have:=e1.vO h f hd;omega
def e1.nP{a b:Int}{f:Bool}:∀{l:List dx} {d:dx},e1 a b f l->l.getLast? =J d->∀h∈l,h.1.2<=d.1.2
 |[h],d,i,c,j,hd=>by simp at c hd;subst c;subst hd;omega
 |h::e::l,d,i,c,j,hd=>by
  obtain⟨k,m,n,o,p,q,r,s,g⟩:=i;rw[NZ]at c;rcases df.1 hd with rfl|hd
  ·have:=e1.nP g c e (dv ..);have t:=e1.vO g e (dv ..);have:e.1.1<=e.1.2:=g.2.2.2.1;omega
  ·exact e1.nP g c j hd
variable{n:Int}
def aiQ{x:dx}{e:List dx}{aJ:Int}(b:e1 0 0 af (x::e))(c:∀a∈x::e,a.1.2<=n)(g:x.1.1<=v)(d:v<=n):x.1.1<=eC (x::e) 0 v aJ:=by
 obtain⟨h,i,j,k,l,m,o,p,f⟩:=b;unfold eC;rw[an G];split
 ·split<;>omega
 ·have:=e1.bF (s:=x.2.2-x.1.2) (v:=v) (aJ:=aJ) f (λa hd=>c a (ey _ hd)) G G d;omega
def nF.jj{t:Int}{x:List dx}(h:nF n t x):X3 n t (m_ n x) (l2 n x) x:=by
 have i:=h.cF;cases o:x with
 |nil=>
  rw[o]at i;have:t=n:=by simpa [cx]using i.symm
  have z:=h.jA;refine⟨by simp[m_,l2];omega,λb c j=>by unfold eC;omega,λb c j=>by unfold eC;omega,λb c p q=>?_,by simp[m_,l2];omega⟩;unfold eC;simp[m_,l2]at*;omega
 |cons a e=>
  have f:=h.ay;have k:=h.qf;rw[o]at f k i;obtain⟨d,l⟩:∃d,(a::e).getLast? =J d:=by
   cases r:(a::e).getLast? with
   |none=>simp at r
   |some d=>exact⟨d,F⟩
  have s:l2 n (a::e)=d.1.2:=by unfold l2;rw[l]
  have u:m_ n (a::e)=a.1.1:=rfl;have m:=e1.nP f l;have v:d∈a::e:=N0 l;have A:=f.1;have B:=f.2.2.2.1;have C:=m a (dv ..);have D:=k d v;rw[s,u];have w:∀g∈a::e,a.1.1<=g.1.1:=by
   intro g hd;rcases df.1 hd with rfl|hd
   ·omega
   ·have:=e1.vO f.2.2.2.2.2.2.2.2 g hd;omega
  have dV:∀b c,a.1.1<=b->b<=d.1.2->a.1.1<=eC (a::e) 0 b c/\eC (a::e) 0 b c<=d.1.2+(t-n):=by intro b c p q;refine⟨aiQ (n:=n) f k p G,?_⟩;have:=(e1.bF (n:=d.1.2) (s:=0) (v:=b) (aJ:=c) f m G G q).2;omega
  refine⟨G,λb c j=>?_,λb c j=>?_,dV,?_⟩
  ·rw[aiR (λg hd=>by have:=w g hd;omega)];omega
  ·rw[TE (s:=0) f G (λg hd=>by have:=m g hd;omega)];omega
  ·have:=dV a.1.1 0 G G;omega
end aY
namespace aY
open Go.RowKit Go.bW Go.cB
section
variable{w:aa} {v:Z} {l:List dx}
def RH(j:aC w v 4 gx l)(u:e1 0 0 af l):ak Y 226 [v] w λq e=>O w e/\q=ax true:=by
 apply Yt;have a4:=j.aD;rw[aS kf.m j];refine ba.bJ (λk c r=>O w r/\∃b:Nat,b+k=l.length/\c=[I X b]) ⟨l.length,O.p w,0,G,F⟩ ?_;rintro k c m r ⟨h,b,a5,rfl⟩;rw[av,aR,ai];refine⟨λa7=>?_,λ_=>⟨h,F⟩⟩;obtain⟨f,x⟩:∃s,l[b]? =J s:=⟨_,aX G⟩;obtain⟨Q,R,a8,S,U⟩:=u.f G G x;refine kf.dO (j.h h) x F λV W y a9 aA n=>?_;refine bG.y (λc e=>c=[]/\O W e) ?_ ?_
 ·rw[iL mU cP (S:=ah f.1) (cA.cG n.b 2) F];refine(RJ Q).o ?_;rintro q am ⟨i,rfl⟩;rw[dD];show b6 (ax ao) _ _;have an:=(n.h i).b;rw[cw,iL pN cP (S:=ah f.2) (an.E 2) F];refine(RJ R).o ?_;rintro q ap ⟨o,rfl⟩;rw[dD];show b6 (ax ao) _ _;have d:=i.a o;have p:=(n.h d).b;rw[cw,aj mU,M ce E (p.f 0 F),aj mU,M bP E (p.f 1 F),bm,ai];refine⟨λaB=>?_,λ_=>⟨F,d⟩⟩;rw[aj pN,M ce E (p.f 2 F),aj pN,M bP E (p.f 3 F),bm,du G];exact⟨F,d⟩
 rintro c m am ⟨rfl,i⟩;rw[bz (S:=AZ) (iR:=[]) ER PK F F];refine cj (cS:=AZ) ER JG g F F (Dj (l:=[0,0,0,0])) λaq ap aG aH o A=>?_;have d:=(y.a i).a o;have B:=(n.h i).h o;refine bG.y (λc e=>c=[]/\O r e/\ag e V (gx f)/\∃a:dx,ag e aq (gx a)/\((b=0/\a=((0,0),(0,0)))\/(0<b/\l[b-1]? =J a))) ?_ ?_
 ·rw[cb,ai];refine⟨λt=>?_,λt=>⟨F,d,B,((0,0),(0,0)),A,.inl ⟨G,F⟩⟩⟩;obtain⟨a,hd⟩:∃s,l[b-1]? =J s:=⟨_,aX G⟩;obtain⟨aI,aJ,ar,au⟩:=((j.h h).h d).m hd;rw[cd,cr kf.m kf.bk kf.cN ((j.h h).h d) hd G,ar,aF kf.bd au F];refine aZ (cS:=gx a) JG g A F F (by simp[gx]) (lz.B a) λaw aK C D=>?_;have aM:=y.size;have aN:=i.size;refine⟨F,d.ab C λaO ay=>by cases ay;omega,B.ab C (by rintro⟨⟩;omega),a,?_,.inr ⟨G,hd⟩⟩;have:dE AZ 0 (gx a)=gx a:=by simp[dE,gx]
  rw[this]at D;exact D
 rintro c m aw ⟨rfl,H,az,a,a0,hd⟩;have a2:f.2.1-a.2.2=f.1.1-a.1.2/\0<=f.1.1-a.1.2/\(0<b->0<f.1.1-a.1.2)/\0<=a.1.2/\0<=a.2.2/\a.1.2<=1099511627776/\a.2.2<=1099511627776:=by
  rcases hd with⟨rfl,rfl⟩|⟨aP,K⟩
  ·have:=S F;dsimp only;omega
  ·have:=U (b-1) a G K;have:=(u.f G G K);omega
 have L:=az.b;have P:=a0.b;rw[aj mU,M ce E (L.f 0 F),aj mU,M bP E (P.f 1 F),cd,aR,du G,
  aj pN,M ce E (L.f 2 F),aj pN,M bP E (P.f 3 F),cd,bs,bu]
 refine⟨λa3=>aL a2.1.symm a3,λ_=>?_⟩;rw[cb,ai];refine⟨λt=>?_,λt=>?_⟩
 ·rw[bm,du G,aD];exact⟨k-1,G,h.a H,b+1,G,ae⟩
 ·rw[aD];exact⟨k-1,G,h.a H,b+1,G,ae⟩
end
structure qx (n:Int) (l:List aG):Prop where
 bl:l.length<=60
 ab:∀x∈l,j0 n x=0
 h_:∀x∈l,hc x=x
 nl:(l.map (·.G)).Nodup
 hp:l.Pairwise iQ
variable{n:Int}{x:aG}
def ma:j0 n x=0↔(1<=x.G/\0<=x.C/\x.C<=n/\(x.aJ=0\/x.aJ=1))/\(bY x.c5).length<=40/\x.c5≠[]/\(10:Int)∉bY x.c5:=by
 unfold j0;by_cases c:x.G<1\/x.C<0\/n<x.C\/(x.aJ≠0/\x.aJ≠1)
 ·rw[au c];constructor
  ·intro b;omega
  ·rintro⟨b,_⟩;omega
 ·rw[an c];by_cases d:40<(bY x.c5).length
  ·rw[au d];constructor
   ·intro b;omega
   ·rintro⟨_,b,_⟩;omega
  ·rw[an d];by_cases a:x.c5=[]\/(10:Int)∈bY x.c5
   ·rw[au a];constructor
    ·intro b;omega
    ·rintro⟨_,_,e,f⟩;rcases a with a|a
     ·exact aL a e
     ·exact aL a f
   ·rw[an a];refine⟨λ_=>⟨G,G,λb=>a (.inl b),λb=>a (.inr b)⟩,λ_=>F⟩
def U3(a:List UInt8):bY (a8 (bY a))=bY a:=xW (wb a)
def L2(a:List UInt8):bY a=[]↔a=[]:=by
 constructor
 ·intro b;apply AI;intro c;rw[wa c]at b;cases b
 ·rintro rfl;exact ta
variable{t:Int}
def amY:j0 t (hc x)=0↔j0 t x=0:=by
 rw[ma,ma];have a:bY (hc x).c5=bY x.c5:=U3 x.c5;have b:(hc x).c5=[]↔x.c5=[]:=by rw[<-L2,a,L2]
 rw[a,Ne,b];exact Iff.rfl
def af9(a:aG):hc (hc a)=hc a:=by show({a with c5:=a8 (bY (a8 (bY a.c5)))}:aG)=_;rw[U3];rfl
def Rb{e:Int}:∀{b:List aG} {c:List Int},(∀a∈b,j0 e a=0)->(c++b.map (·.G)).Nodup->lx e c b=0
 |[],_,_,_=>F
 |a::b,c,f,d=>by
  unfold lx;rw[an (by rw[f a (dv ..)];decide)];have g:a.G∉c:=λh=>by rw[DE]at d;exact d.2.2 a.G h a.G ae F
  rw[an g];exact Rb (λi j=>f i (ey _ j)) (by simpa using d)
variable{x:List aG}
def TP(d:nm t x=0):qx t (jo (x.map hc)):=by
 unfold nm at d;split at d
 ·omega
 have e:=wg (x.map hc);have f:∀a∈jo (x.map hc),∃b∈x,hc b=a:=λa c=>by simpa using e.mem_iff.1 c
 refine⟨by rw[e.length_eq,b_];omega,λa c=>?_,λa c=>?_,?_,Mx _⟩
 ·obtain⟨b,g,rfl⟩:=f a c;exact amY.2 (Rc t x [] d b g)
 ·obtain⟨b,g,rfl⟩:=f a c;exact af9 b
 ·have h:=J8 t x [] NX d;have i:(x.map hc).map (·.G)=x.map (·.G):=by rw[pr];rfl
  rw[(e.map (·.G)).nodup_iff,i]
  simpa using h
def jV(b:List dx)(a:aG):aG:={a with C:=eC b 0 a.C a.aJ}
variable{e:List dx}
def Mr{m:Int}(c:qx t x)(g:nF t m e):nm m (x.map (jV e))=0/\(x.map (jV e)).map hc=x.map (jV e):=by
 constructor
 ·unfold nm;rw[an (by rw[b_];have:=c.bl;omega)];refine Rb (λk h=>?_) ?_
  ·obtain⟨a,d,rfl⟩:=eP.1 h;have b:=ma.1 (c.ab a d);rw[ma];have f:=g.bF (v:=a.C) (aJ:=a.aJ) ⟨b.1.2.1,b.1.2.2.1⟩;exact⟨⟨b.1.1,f.1,f.2,b.1.2.2.2⟩,b.2⟩
  ·have i:(x.map (jV e)).map (·.G)=x.map (·.G):=by rw[pr];rfl
   rw[i]
   simpa using c.nl
 ·rw[pr];refine yc λa d=>?_;have:=c.h_ a d;unfold hc at this;show({jV e a with c5:=a8 (bY a.c5)}:aG)=jV e a;have j:a8 (bY a.c5)=a.c5:=ck (·.c5) this;rw[j];rfl
def wo(b:qx n x):∀a∈x,a.c5.length<=160:=λa c=>by have f:=(ma.1 (b.ab a c)).2.1;have d:a8 (bY a.c5)=a.c5:=ck (·.c5) (b.h_ a c);have e:=(kN (bY a.c5)).2;rw[d]at e;omega
variable{n:Nat}
def alq{α:Type}{f:α->α}{a:List α}{c:α}(b:a[n]? =J c):((a.take n).map f++a.drop n).set n (f c)=(a.take (n+1)).map f++a.drop (n+1):=by
 have d:=(dS.1 b).1;rw[c9 b,jw b,Ip _ _ (by simp;omega)];have:n-((a.take n).map f).length=0:=by simp;omega
 rw[this,List.set_cons_zero];simp
def afz{α:Type}{f:α->α}{a:List α}{b:α}(c:a[n]? =J b):((a.take n).map f++a.drop n)[n]? =J b:=by
 have d:=(dS.1 c).1;rw[oI (by simp;omega),jw c];have:n-((a.take n).map f).length=0:=by simp;omega
 rw[this];rfl
variable{w:aa}
variable{v:Z}{n:Int}
def ahQ{p:Z}{m:Int}(am:hJ w)(P:j8 w p n x)(t:qx n x)(d:aC w v 4 gx e)(c:nF n m e):
 ak Y 141 [p,v] w λf u=>O w u/\∃y,f=a1 #[y,I X 0]/\j8 u y m (jo (x.map (jV e))):=by
 apply aaP;have aH:=c.jA;have aL:=c.b4;have an:=c.cF;have aM:=c.bl;refine(vG P).o ?_;rintro f ap ⟨rfl,rfl⟩;refine bG.y (λk u=>k=[]/\O ap u) ?_ ?_
 ·refine(LA d c.ay).o ?_;rintro f l ⟨a,rfl⟩;rw[dD];show b6 (ax ao) _ _;rw[cw,aS iJ.m (d.h a),cb,ai];refine⟨λaq=>?_,λaq=>?_⟩
  ·obtain⟨au,D⟩:∃b,e[e.length-1]? =J b:=⟨_,aX G⟩;obtain⟨aw,az,H,a0⟩:=(d.h a).m D;have:=c.qf au (cl D);rw[aS iJ.m (d.h a),cd,cr iJ.m iJ.bk iJ.cN (d.h a) D G,H,aj mh,nw,M bP E (a0.f 1 F),cb,du G];refine(xQ (d.h a) c.p2 G).o ?_;rintro f Q ⟨o,rfl⟩;rw[aD,cb,du G];exact⟨F,a.a o⟩
  ·refine(xQ (d.h a) c.p2 G).o ?_;rintro f Q ⟨o,rfl⟩;rw[aD,cb,du G];exact⟨F,a.a o⟩
 rintro k R l ⟨rfl,a⟩;have aP:=t.bl;refine(zq (P.h a) G).o ?_;rintro a2 Q ⟨o,S⟩;rw[aS dZ.m (S.aI d0)];refine ba.bJ (λK k j=>O l j/\∃h:Nat,h+K=x.length/\k=[I X h]/\ar j l.heap.size 125 5 a2 bC ((x.take h).map (jV e)++x.drop h)) ⟨x.length,o,0,G,F,by simpa using S⟩ ?_;rintro K k R j ⟨z,h,aT,rfl,q⟩;rw[av,aR,ai];refine⟨λaU=>?_,λaV=>?_⟩
 ·obtain⟨b,r⟩:∃b,x[h]? =J b:=⟨_,aX G⟩;have s:=afz (f:=jV e) r;have U:=ma.1 (t.ab b (cl r));have L:=q.aI d0;obtain⟨aY,az,H,aZ,a3,bb,bc,a4⟩:=dZ.bL q s;apply bE.h;have A:O j j.drew:=(O.p j).C;rw[dZ.b2 L s F h2 E F A,dZ.b2 L s F yJ E F A];refine(Lz (((d.h a).h z).h A) c.ay ⟨U.1.2.1,G⟩ U.1.2.2.2).o ?_;rintro f V ⟨B,rfl⟩;have i:O j V:=A.a B;refine⟨i,?_⟩;rw[aN,aO,aK (λl W a5=>cr dZ.m dZ.bk dZ.cN (L.h W) s F) i,H,aK (λl W a5=>aj h2) i];refine a4 (m:=1) (p:=1) (cS:=[I X (eC e 0 b.C b.aJ)]) (nu:=b) (y:=jV e b) bw g g F F eY (q.h i) s F λa8 be a9 aA=>?_;rw[aD];refine⟨K-1,G,(z.a i).ab a9 λaw aB=>by cases aB;exact a3,h+1,G,ae,?_⟩;rw[<-alq r];exact aA
 ·have aE:h=x.length:=G;subst aE;rw[cI,mc,cT]at q;refine(xQ ((d.h a).h z) c.p2 G).o ?_;rintro f V ⟨B,rfl⟩;have i:=(a.a z).a B;rw[aD,an];obtain⟨ag,gv⟩:=Mr t c;refine(KM (am.h i) G ((q.h B).aI d0) λa7 aF=>?_).o ?_
  ·obtain⟨b,r,rfl⟩:=eP.1 aF;have:=wo t b r;show b.c5.length<=_;omega
  rintro f a8 ⟨aG,y,rfl,_,ah⟩;rw[aN,aO,ag];rw[gv]at ah;exact⟨i.a aG,y,F,ah ag⟩
def KO{x:aG}:∀{A B:List aG},(∀a∈A,kh x a=ao)->kF x (A++B)=A++kF x B
 |[],B,_=>F
 |a::A,B,b=>by rw[gO,kF,b a (dv ..)];simp only [j1,if_false];rw[KO λc d=>b c (ey _ d)];rfl
def SP{x:aG}:∀{A B:List aG},(∃b∈A,kh x b=af)->kF x (A++B)=kF x A++B
 |[],B,c=>by obtain⟨b,f,_⟩:=c;cases f
 |b::A,B,c=>by
  rw[gO,kF,kF];by_cases a:kh x b=af
  ·rw[au a,au a];rfl
  ·rw[an a,an a,SP,gO];obtain⟨g,d,e⟩:=c;rcases df.1 d with rfl|d
   ·exact aL e a
   ·exact⟨g,d,e⟩
def alG(a:List aG)(x:aG):jo (a++[x])=kF x (jo a):=by unfold jo;rw[DC];rfl
def dq(n:Int)(a:Z)(b:Int):List Value:=[I X n,a,I X b]
variable{x:Z}
def jl(c:x.oneCell' =true):∀a∈dq n x t,a.oneCell' =true:=λa b=>by simp[dq]at b;rcases b with rfl|rfl|rfl<;>first|rfl|exact c
variable{K:aU}
def Lc(a:Int):fo Y 36 [(2,I X a)] w K=K (al (dq 0 (aQ ac 0 0) a).toArray) w:=
 bz (S:=dq 0 (aQ ac 0 0) a) (iR:=[(2,[I X a])]) xd PL F F
def aiM(n:Int)(a:x.cells=[x].toArray):fo Y 36 [(0,I X n),(1,x)] w K=K (al (dq n x 0).toArray) w:=
 bz (S:=dq n x 0) (iR:=[(0,[I X n]),(1,[x])]) xd PL (by simp[a];rfl) F
def afk(x c:aG):ak Y 134 [al (bC x).toArray,al (bC c).toArray] w λf g=>O w g/\f=ax (kh x c):=by
 apply YA;refine bd (S:=bC x) F λn o p q i j=>?_;refine bd (S:=bC c) F λr s t u e k=>?_;have a:=(j.h e).b;have b:=k.b;have d:=i.a e;unfold kh;rw[M h2 E (a.f 1 F),M h2 E (b.f 1 F),bs,bu];refine⟨λl=>?_,λl=>?_⟩
 ·rw[M h2 E (a.f 1 F),M h2 E (b.f 1 F),aR];refine⟨d,?_⟩;congr 1;rw[decide_eq_decide];omega
 ·rw[M yK E (a.f 3 F),M yK E (b.f 3 F),bs,bu];refine⟨λm=>?_,λm=>?_⟩
  ·rw[M yK E (a.f 3 F),M yK E (b.f 3 F),aR];refine⟨d,?_⟩;congr 1;rw[decide_eq_decide];omega
  ·rw[M oi E (a.f 0 F),M oi E (b.f 0 F),aR];refine⟨d,?_⟩;congr 1;rw[decide_eq_decide];omega
def r_(n:Int)(a:List aG)(x:aG):Int:=if j0 n x≠0 then j0 n x else if x.G∈a.map (·.G)then 8 else 0
def agR{e:Z}{c:List aG}(ab:aC w e 5 bC c)(x:aG)(ag:x.c5.length<=10000000):ak Y 132 [I X n,e,al (bC x).toArray] w λP v=>O w v/\P=I X (r_ n c x):=by
 apply YC;refine bd (S:=bC x) F λa7 ah a8 a9 o Q=>?_;have k:=Q.b;have t:(x.G<1\/x.C<0\/n<x.C\/(x.aJ≠0/\x.aJ≠1))->r_ n c x=1:=λl=>by
  have a:j0 n x=1:=by unfold j0;rw[au l]
  unfold r_;rw[a];rfl
 refine bG.y (λi v=>i=[]/\v=ah/\¬(x.G<1\/x.C<0\/n<x.C\/(x.aJ≠0/\x.aJ≠1))) ?_ ?_
 ·rw[M oi E (k.f 0 F),aR,ai];refine⟨λl=>⟨o,by rw[t (.inl l)]⟩,λl=>?_⟩;rw[M h2 E (k.f 1 F),aR,ai];refine⟨λp=>⟨o,by rw[t (.inr (.inl p))]⟩,λp=>?_⟩;rw[M h2 E (k.f 1 F),cb,ai];refine⟨λa=>⟨o,by rw[t (.inr (.inr (.inl a)))]⟩,λa=>?_⟩;rw[M yJ E (k.f 2 F),bs,bu];refine⟨λR=>?_,λR=>⟨F,F,G⟩⟩;rw[M yJ E (k.f 2 F),bs,bu];exact⟨λu=>⟨o,by rw[t (.inr (.inr (.inr ⟨R,u⟩)))]⟩,λu=>⟨F,F,G⟩⟩
 rintro i S aA ⟨rfl,rfl,y⟩;rw[M pM ga (k.f 4 F)];refine(rK x.c5 ag).o ?_;rintro P aj ⟨U,am⟩;have q:=am.aI ix;have m:=o.a U;have aB:=nr x.c5;rw[aS di q,cb,ai];refine⟨λl=>⟨m,by
  have a:j0 n x=2:=by unfold j0;rw[an y,au G]
  unfold r_;rw[a];rfl⟩,λl=>?_⟩
 rw[aS di q,bm,ai];have V:(x.c5=[]\/(10:Int)∈bY x.c5)->r_ n c x=4:=λu=>by
  have a:j0 n x=4:=by unfold j0;rw[an y,an G,au u]
  unfold r_;rw[a];rfl
 refine⟨λp=>⟨m,by rw[V (.inl ((L2 _).1 (ig G)))]⟩,λp=>?_⟩;rw[aS di q];refine ba.bJ (λr i z=>z=aj/\∃f:Nat,f+r=(bY x.c5).length/\i=[I X f]/\∀j∈(bY x.c5).take f,j≠10) ⟨(bY x.c5).length,F,0,G,F,λj b=>by simp at b⟩ ?_;rintro r i S z ⟨rfl,f,aE,rfl,A⟩;rw[av,aR,ai];refine⟨λap=>?_,λaq=>?_⟩
 ·obtain⟨j,b⟩:∃j,(bY x.c5)[f]? =J j:=⟨_,aX G⟩;obtain⟨aF,aH,ar,aw⟩:=q.m b;rw[cr di gm g q b F,ar,aM iG (by simpa using aw.f 0 F),bm,ai];refine⟨λa=>⟨m,by rw[V (.inr (a▸cl b))]⟩,λa=>?_⟩;rw[aD];refine⟨r-1,G,F,f+1,G,ae,λh d=>?_⟩;rw[c9 b]at d;rcases b9.1 d with d|d
  ·exact A h d
  ·rw[cL.1 d];exact a
 have ay:f=(bY x.c5).length:=G;rw[ay,cI]at A;have aK:j0 n x=0:=by
  unfold j0;rw[an y,an G,an];rintro(a|a)
  ·apply p;rw[a,ta];rfl
  ·exact A 10 a F
 have B:=(ab.h m);have aL:=B.aD;rw[aS dZ.m B];refine ba.bJ (λr i W=>O z W/\∃f:Nat,f+r=c.length/\i=[I X f]/\∀h∈c.take f,h.G≠x.G) ⟨c.length,O.p _,0,G,F,λj b=>by simp at b⟩ ?_;rintro az i S W ⟨s,D,aN,rfl,H⟩;rw[av,aR,ai];refine⟨λap=>?_,λaq=>?_⟩
 ·obtain⟨h,d⟩:∃h,c[D]? =J h:=⟨_,aX G⟩;refine dZ.dO (B.h s) d F λaO aP L aT aU a0=>?_;have a2:=(((Q.h U).h s).h L).b;rw[M oi E (a0.b.f 0 F),M oi E (a2.f 0 F),bm,ai];refine⟨λa=>⟨m.a (s.a L),?_⟩,λa=>?_⟩
  ·unfold r_;rw[an G,au (eP.2 ⟨h,cl d,a⟩)]
  ·rw[aD];refine⟨az-1,G,s.a L,D+1,G,ae,λj b=>?_⟩;rw[c9 d]at b;rcases b9.1 b with b|b
   ·exact H j b
   ·rw[cL.1 b];exact a
 refine⟨m.a s,?_⟩;rw[show D=c.length from G,cI]at H;unfold r_;rw[an G,an];intro a3;obtain⟨h,d,a4⟩:=eP.1 a3;exact H h d a4
def er{x:bq}{n:Nat}{e cS:List Z}{T:Nat}{w:aa}{b:Nat}(f:cg x T=n)(g:ed x T=J n)(h:0<n)(i:ag w b e)(r:e.length=n)(d:cS.length=n)(j:∀k∈cS,k.oneCell' =af)
 (l:∀a,a.heap.size=w.heap.size->w.grownBy a (J b)->ag a b cS->K (al cS.toArray) a):
 c4 x T (ad (J ⟨b,0,ac⟩)) (al cS.toArray) w λw=>bU x T (ad (J ⟨b,0,ac⟩)) w λm a=>a=w/\K m w:=by
 refine aZ f h i F d G j λa o p c=>?_;have q:dE e 0 cS=cS:=by unfold dE;rw[kp,fc,hW,lR G,cT]
 rw[q]at c;rw[aF g c.b d];exact⟨F,l a o p c⟩
abbrev qA(a:Z):Prop:=a.cells=[a].toArray/\a.oneCell' =af
def Ad:qA (aQ ac 0 0):=⟨F,F⟩
def Ki{l:List aG}(cr:0<=n/\n<=1099511627776)(az:aC w x 5 bC l)(b7:∀c∈l,c.c5.length<=2000000):ak Y 73 [I X n,x] w λP s=>O w s/\
 ∃bm aM,P=al (dq bm aM (nm n l)).toArray/\qA aM/\(nm n l=0->bm=n/\ar s w.heap.size 125 5 aM bC (jo (l.map hc))):=by
 apply Yw;refine bo xd λbn C cs ct aN bp=>?_;have br:=az.h aN;rw[aR,du G,cb,du G,aS dZ.m br,cb,ai];refine⟨λf=>?_,λcu=>?_⟩
 ·rw[Lc];refine er qJ pJ g bp F F (jl F) λcw cx b8 cy=>?_;have:nm n l=5:=by unfold nm;rw[au G]
  rw[this];exact⟨aN.ab b8 λa b=>by cases b;omega,_,_,F,Ad,λf=>G⟩
 have bB:nm n l=lx n [] l:=by unfold nm;rw[an G]
 rw[bB,aS dZ.m br];refine ba.bJ (λa0 o D=>O w D/\C.heap.size<=D.heap.size/\ag D bn [I X 0,aQ ac 0 0,I X 0]/\∃(d:Nat) (v:Z),d+a0=l.length/\o=[v,I X d]/\ar D C.heap.size 125 5 v bC (jo ((l.take d).map hc))/\lx n [] l=lx n ((l.take d).map (·.G)) (l.drop d))
  ⟨l.length,aN,a6 _,bp,0,_,G,F,ar.nil ..,F⟩ ?_
 rintro a0 o a2 D ⟨Q,cz,aO,d,v,c0,rfl,y,z⟩;simp only [av,bA];rw[aR,ai];refine⟨λc1=>?_,λc2=>?_⟩
 ·obtain⟨c,R⟩:∃c,l[d]? =J c:=⟨_,aX G⟩;have c3:=b7 c (cl R);rw[jw R,lx]at z;refine dZ.dO (az.h Q) R F λbD E S bF c4 aP=>?_;have bv:=(az.h Q).h S;apply bE.h;have a3:O E E.drew:=(O.p E).C;rw[aK (λC j bH=>GW dZ.m dZ.bk dZ.cN (bv.h j) F G) a3,aK (λC j bH=>aF mQ (aP.h j).b F) a3];have bw:=(bv.h a3).ag (aw:=0) (bD:=d) (ds:=cC x) (ec _) G (by obtain⟨c7,c8,rfl,cA,cB,cD⟩:=az;simp only [cC];omega) (a6 _);rw[h6]at bw;refine(agR (n:=n) bw c G).o ?_;rintro P bI ⟨bK,rfl⟩;have H:O E bI:=a3.a bK;have cE:=S.size;have cF:=H.size;refine⟨H,?_⟩;rw[bs,bu];refine⟨λU=>?_,λV=>?_⟩
  ·rw[Lc];refine er qJ pJ g ((aO.h S).h H) F F (jl F) λbL cG bM cH=>?_;have bN:lx n [] l=r_ n (l.take d) c:=by
    rw[z];unfold r_ at U⊢;by_cases j:j0 n c≠0
    ·rw[au j,au j]
    ·rw[an j]at U⊢;rw[an j];by_cases W:c.G∈(l.take d).map (·.G)
     ·rw[au W,au W]
     ·rw[an W]at U;exact aL F U
   rw[bN];exact⟨((Q.a S).a H).ab bM λa b=>by cases b;omega,_,_,F,Ad,λf=>aL f U⟩
  have bO:j0 n c=0/\c.G∉(l.take d).map (·.G):=by
   unfold r_ at V;by_cases j:j0 n c≠0
   ·rw[au j]at V;exact aL V j
   ·rw[an j]at V;refine⟨G,λW=>?_⟩;rw[au W]at V;omega
  rw[an G,an bO.2]at z;have bP:=aP.h H;rw[M pM ga (bP.b.f 4 F)];refine(rK c.c5 G).o ?_;rintro P bL ⟨bQ,bR⟩;have cJ:=nr c.c5;refine(RE (bR.aI ix) G).o ?_;rintro P bT ⟨bU,rfl⟩;have aT:O E bT:=H.a (bQ.a bU);have cK:=aT.size;rw[aj pM];refine aZ (cS:=[co (a8 (bY c.c5))]) Qj g (aP.h aT) F F (by simp[bC]) (λah r=>by rw[cL.1 r];rfl) λt cM bV bW=>?_;have aU:ag t bD (bC (hc c)):=bW;have a4:O D t:=(S.a aT).ab bV λa b=>by cases b;omega
  have cP:=a4.size;have bX:=y.h a4;have bz:=bX.aI d0;have cQ:(jo ((l.take d).map hc)).length=d:=by rw[(wg _).length_eq,b_,bt];omega
  generalize bZ:jo ((l.take d).map hc)=p at*;have ca:jo ((l.take (d+1)).map hc)=kF (hc c) p:=by rw[c9 R,dJ,uT,alG,bZ]
  generalize cR:hc c=i at*;rw[aS dZ.m bz];refine ba.bJ (λaV o K=>O t K/\∃(k:Nat) (L:Z) (put:Bool) (u:List aG),k+aV=p.length/\o=[L,ax put,I X k]/\ar K t.heap.size 125 5 L bC u/\((put=ao/\u=p.take k/\∀h∈p.take k,kh i h=ao)\/(put=af/\u=kF i (p.take k)/\∃h∈p.take k,kh i h=af)))
   ⟨p.length,O.p _,0,_,ao,[],G,F,ar.nil ..,.inl ⟨F,F,λh a5=>by simp at a5⟩⟩ ?_
  rintro aV o a2 K ⟨m,k,L,put,u,cS,rfl,am,ap⟩;simp only [av,bA];have cU:u.length<=k+1:=by
   rcases ap with⟨_,rfl,_⟩|⟨_,rfl,_⟩
   ·rw[bt];omega
   ·rw[(FG i _).length_eq,d1,bt];omega
  rw[aR,ai];refine⟨λcV=>?_,λcW=>?_⟩
  ·obtain⟨h,a5⟩:∃h,p[k]? =J h:=⟨_,aX G⟩;refine dZ.dO (bz.h m) a5 F λaW cd A cY cZ aY=>?_;have b0:=am.h A;have a7:∀a,L.ownBlock=J a->t.heap.size<=a/\a<K.heap.size:=λa b=>am.D a b;have ce:=m.size;have da:=A.size;refine bG.y (λo s=>O t s/\K.heap.size<=s.heap.size/\∃(a9:Z) (e:Bool),o=[a9,ax (put||e)]/\ag s aW (bC h)/\(∀a,a9.ownBlock=J a->a≠aW)/\ar s t.heap.size 125 5 a9 bC (u++if e then [i]else [])/\(e=af↔put=ao/\kh i h=af)) ?_ ?_
   ·refine bG.y (λo s=>O cd s/\∃e:Bool,o=[ax e]/\(e=af↔put=ao/\kh i h=af)) ?_ ?_
    ·rw[dD,dQ];refine⟨λbb=>?_,λbb=>⟨O.p _,ao,F,by cases put<;>simp_all⟩⟩;rw[aF mQ ((aU.h m).h A).b F,aF mQ aY.b F];refine(afk i h).o ?_;rintro P cf ⟨q,rfl⟩;exact⟨q,_,F,by cases put<;>simp_all⟩
    rintro o a2 cf ⟨q,e,rfl,aA⟩;simp only [av];have db:=q.size;rw[dQ];refine⟨λb1=>?_,λb2=>?_⟩
    ·rw[aF mQ (((aU.h m).h A).h q).b F];refine dZ.push (b0.h q) ((m.a A).a q).size G g λaq cg aB bc bd=>?_;refine⟨((m.a A).a q).ab bc λa b=>(a7 a b).1,by have:=bc.size;omega,aq,e,by rw[b1];simp,(aY.h q).ab bc (λch=>by have:=(a7 aW ch.symm).2;omega),λa b=>?_,by rw[b1];exact aB,aA⟩;rcases bd with f|f
     ·rw[f]at b;have:=(a7 a b).2;omega
     ·have:=f a b;omega
    ·exact⟨(m.a A).a q,G,L,e,by rw[b2];simp,aY.h q,λa b=>by have:=(a7 a b).2;omega,by rw[b2];simpa using b0.h q,aA⟩
   rintro o a2 cg ⟨b3,dc,a9,e,rfl,ci,dd,aB,aA⟩;simp only [av,bA];rw[aF mQ ci.b F];have de:(u++if e then [i]else []).length<=k+2:=by rw[bf];split<;>simp<;>omega
   refine dZ.push aB b3.size G g λaq bS be bg bd=>?_;rw[aD];refine⟨aV-1,G,b3.ab bg λa b=>(aB.D a b).1,k+1,aq,put||e,(u++if e then [i]else [])++[h],G,ae,be,?_⟩;rw[c9 a5];rcases ap with⟨rfl,rfl,aE⟩|⟨rfl,rfl,cj⟩
   ·by_cases aH:kh i h=af
    ·have ck:e=true:=aA.2 ⟨F,aH⟩;subst ck;refine .inr ⟨F,?_,h,ae,aH⟩;rw[KO aE];simp[kF,aH]
    ·have bh:e=false:=by cases e<;>simp_all
     subst bh;refine .inl ⟨F,ae,λah r=>?_⟩;rcases b9.1 r with r|r
     ·exact aE ah r
     ·rw[cL.1 r];exact wG.2 aH
   ·have bh:e=false:=by cases e<;>simp_all
    subst bh;obtain⟨ah,r,b4⟩:=cj;refine .inr ⟨F,?_,ah,b9.2 (.inl r),b4⟩;rw[SP ⟨ah,r,b4⟩];simp
  ·have cm:k=p.length:=G;rw[cm,cI]at ap;have ce:=m.size;rw[dD,dQ];have bj:∀(aJ:Z) (B:aa),O t B->ar B t.heap.size 125 5 aJ bC (kF i p)->∃b5,b5<a0/\O w B/\C.heap.size<=B.heap.size/\ag B bn [I X 0,aQ ac 0 0,I X 0]/\∃(ay:Nat) (v:Z),ay+b5=l.length/\[aJ,I X ((d:Int)+1)]=[v,I X ay]/\ar B C.heap.size 125 5 v bC (jo ((l.take ay).map hc))/\lx n [] l=lx n ((l.take ay).map (·.G)) (l.drop ay):=by
    intro aJ B bi cn;refine⟨a0-1,G,(Q.a a4).a bi,by have:=bi.size;omega,(aO.h a4).h bi,d+1,aJ,G,ae,?_,?_⟩
    ·rw[ca];exact cn.o G
    ·rw[z,c9 R,dJ];rfl
   refine⟨λbb=>?_,λbb=>?_⟩
   ·have bl:put=false:=by cases put<;>simp_all
    rcases ap with⟨_,cp,aE⟩|⟨f,_⟩
    ·rw[aF mQ (aU.h m).b F];refine dZ.push am m.size G g λaq bS be bg bd=>?_;rw[aD];refine bj aq bS (m.ab bg λa b=>(am.D a b).1) ?_;have f:=KO (x:=i) (A:=p) (B:=[]) aE;rw[cT]at f;rw[f,<-cp];exact be
    ·rw[bl]at f;cases f
   ·have bl:put=true:=by cases put<;>simp_all
    rcases ap with⟨f,_⟩|⟨_,rfl,_⟩
    ·rw[bl]at f;cases f
    ·rw[aD];exact bj L K m am
 ·have bx:d=l.length:=G;rw[bx,cI]at y z;rw[mc]at z;have cq:lx n [] l=0:=by rw[z];rfl
  rw[aiM n y.M.1];refine er qJ pJ g aO F F (jl y.M.2) λE bF b6 di=>?_;rw[cq];exact⟨Q.ab b6 λa b=>by cases b;omega,n,v,F,y.M,λ_=>⟨F,(y.ab b6 (fC y G)).o G⟩⟩
def zd(a y:aB):Int:=if eA a.1 y.1≠0 then eA a.1 y.1 else eA a.2 y.2
def kI(x a:aB):Bool:=decide (x.1<a.1\/(x.1=a.1/\x.2<a.2))
def F0(a y:aB):DK zd a y=kI a y:=by
 unfold DK kI zd eA;congr 1;apply propext
 repeat' split
 all_goals omega
def al7:XE (DK zd):=by
 refine⟨λa=>?_,λa b c d e=>?_,λa b c d e=>?_⟩
 ·rw[F0];unfold kI;rw[db];omega
 ·rw[F0]at*;unfold kI at*;rw[dF]at*;omega
 ·rw[F0]at*;unfold kI at*;rw[decide_eq_false_iff_not]at*;omega
def kG(x:aB):List aB->List aB
 |[]=>[x]
 |a::b=>if kI x a then x::a::b else a::kG x b
def fE(l:List aB):List aB:=l.foldl (λa b=>kG b a) []
def FH(x:aB):∀a:List aB,(kG x a).Perm (x::a)
 |[]=>DJ _
 |b::a=>by
  unfold kG;split
  ·exact DJ _
  ·exact((FH x a).cons b).trans (an_ x b a)
def wh(b:List aB):(fE b).Perm b:=by
 unfold fE
 suffices∀c,(b.foldl (λc d=>kG d c) c).Perm (c++b) by simpa using this []
 induction b with
 |nil=>intro c;simp
 |cons d b ih=>intro c;rw[sf];refine(ih _).trans ?_;refine((FH d c).append_right b).trans ?_;exact(aob (l₁:=c) (a:=d) (l₂:=b)).symm
def nj(a b:aB):Prop:=kI b a=ao
def ah6{x e c:aB}(a:nj x e)(b:nj e c):nj x c:=by unfold nj kI at*;rw[decide_eq_false_iff_not]at*;omega
def SN(d:aB):∀c:List aB,c.Pairwise nj->(kG d c).Pairwise nj
 |[],_=>by simp[kG]
 |h::c,e=>by
  have i:∀b∈kG d c,b=d\/b∈c:=λb a=>by simpa using(FH d c).mem_iff.1 a
  rw[qs]at e;unfold kG;split
  ·rename_i f
   have g:nj d h:=by unfold nj kI at*;rw[dF]at f;rw[decide_eq_false_iff_not];omega
   rw[qs,qs];exact⟨λb a=>by
    rcases df.1 a with rfl|a
    ·exact g
    ·exact ah6 g (e.1 b a),e.1,e.2⟩
  ·rename_i f
   rw[qs];refine⟨λb a=>?_,SN d c e.2⟩;rcases i b a with rfl|a
   ·exact wG.2 f
   ·exact e.1 b a
def VL(b:List aB):(fE b).Pairwise nj:=by
 unfold fE
 suffices∀a:List aB,a.Pairwise nj->(b.foldl (λa c=>kG c a) a).Pairwise nj from this [] wH
 induction b with
 |nil=>intro a d;exact d
 |cons c b ih=>intro a d;rw[sf];exact ih _ (SN c a d)
variable{x:List aB}
def alI{m:List aB}(a:x.Perm m)(b:x.Pairwise nj)(c:m.Pairwise nj):x=m:=by refine aoa (le:=nj) (λg h _ _ d e=>?_) b c a;unfold nj kI at d e;rw[decide_eq_false_iff_not]at*;exact Nn G G
def KN{x:aB}:∀{A B:List aB},(∀a∈A,kI x a=ao)->kG x (A++B)=A++kG x B
 |[],B,_=>F
 |a::A,B,b=>by rw[gO,kG,b a (dv ..)];simp only [j1,if_false];rw[KN λc d=>b c (ey _ d)];rfl
def SO{x:aB}:∀{A B:List aB},(∃b∈A,kI x b=af)->kG x (A++B)=kG x A++B
 |[],B,c=>by obtain⟨b,f,_⟩:=c;cases f
 |b::A,B,c=>by
  rw[gO,kG,kG];by_cases a:kI x b=af
  ·rw[au a,au a];rfl
  ·rw[an a,an a,SO,gO];obtain⟨g,d,e⟩:=c;rcases df.1 d with rfl|d
   ·exact aL e a
   ·exact⟨g,d,e⟩
def alH(a:List aB)(x:aB):fE (a++[x])=kG x (fE a):=by unfold fE;rw[DC];rfl
def nn(n:Int)(x:aB):Prop:=0<=x.1/\x.1<x.2/\x.2<=n
instance(n:Int)(x:aB):Decidable (nn n x):=by unfold nn;infer_instance
def kC(n:Int):List aB->List aB->Int
 |_,[]=>0
 |b,a::c=>if¬nn n a then 1 else if a∈b then 8 else kC n (b++[a]) c
def gK(n:Int)(l:List aB):Int:=if 60<l.length then 5 else kC n [] l
structure od (n:Int) (l:List aB):Prop where
 bl:l.length<=60
 az:∀x∈l,nn n x
 nl:l.Nodup
 hp:l.Pairwise nj
def Q_(e:Int):∀(b a:List aB),a.Nodup->kC e a b=0->(a++b).Nodup
 |[],a,d,_=>by simpa using d
 |g::b,a,d,c=>by
  unfold kC at c;split at c
  ·omega
  ·split at c
   ·omega
   ·rename_i h
    have:=Q_ e b (a++[g]) (DE.2 ⟨d,ae,λk f l i=>by rw[cL.1 i];intro j;rw[j]at f;exact h f⟩) c
    simpa using this
def Ra(e:Int):∀(b f:List aB),kC e f b=0->∀c∈b,nn e c
 |[],_,_,c,a=>by cases a
 |h::b,f,d,c,a=>by
  unfold kC at d;split at d
  ·omega
  ·split at d
   ·omega
   ·rename_i g _
    rcases df.1 a with rfl|a
    ·exact XP.1 g
    ·exact Ra e b _ d c a
def E_{e:Int}:∀{b c:List aB},(∀a∈b,nn e a)->(c++b).Nodup->kC e c b=0
 |[],_,_,_=>F
 |a::b,c,f,d=>by
  unfold kC;rw[an (λg=>g (f a (dv ..)))];have h:a∉c:=λi=>by rw[DE]at d;exact d.2.2 a i a ae F
  rw[an h];exact E_ (λj k=>f j (ey _ k)) (by simpa using d)
def zG{l:List aB}(a:gK n l=0):od n (fE l):=by
 unfold gK at a;split at a
 ·omega
 have b:=wh l;refine⟨by rw[b.length_eq];omega,λc d=>Ra n l [] a c (b.mem_iff.1 d),?_,VL _⟩;rw[b.nodup_iff]
 simpa using Q_ n l [] NX a
def od.ew(a:od t x):gK t x=0:=by unfold gK;rw[an (by have:=a.bl;omega)];exact E_ a.az (by simpa using a.nl)
def od.cm(e:od t x):oN t x:=by
 obtain⟨f,ok,g,a⟩:=e;clear f g
 induction x with
 |nil=>trivial
 |cons h x ih=>have b:=ok h (dv ..);rw[qs]at a;refine⟨b.1,b.2.1,b.2.2,λc d=>?_,ih (λc d=>ok c (ey _ d)) a.2⟩;have:=a.1 c d;unfold nj kI at this;rw[decide_eq_false_iff_not]at this;omega
def mP(w:aa)(v:Z)(a:List aB):Prop:=aC w v 2 ah a/\(a≠[]->∃b,v.ownBlock=J b/\pW w 49 b)
def mP.h{w a:aa}{v:Z}{l:List aB}(h:mP w v l)(e:O w a):mP a v l:=⟨h.1.h e,λd=>by obtain⟨g,f,c,b⟩:=h.2 d;exact⟨g,f,c,(e.block g (iz.1 b).1).trans b⟩⟩
def ar.bz{n:Nat}{l:List aB}(a:ar w n 49 2 v ah l):mP w v l:=⟨a.aI e_,λb=>by
 rcases a with⟨_,a⟩|⟨c,f,g,d,rfl,h,e,bc⟩
 ·exact aL a b
 ·exact⟨c,F,d,e⟩⟩
def kT(a:aa)(p:Z)(n:Int)(l:List aB):Prop:=∃b c d,p=ad (J ⟨b,0,ac⟩)/\ag a b [I X n,c,d]/\mP a c l/\mP a d (l3 l)
def oM(a:aa)(b:Nat)(p:Z)(n:Int)(l:List aB):Prop:=∃c d e,p=ad (J ⟨c,0,ac⟩)/\b<=c/\ag a c [I X n,d,e]/\ar a b 49 2 d ah l/\ar a b 49 2 e ah (l3 l)
def oM.ai{x:aa}{A:Nat}{p:Z}{l:List aB}(a:oM x A p n l):kT x p n l:=by obtain⟨b,c,d,e,_,f,g,h⟩:=a;exact⟨b,c,d,e,f,ar.bz g,ar.bz h⟩
def oM.h{w a:aa}{A:Nat}{p:Z}{n:Int}{l:List aB}(h:oM w A p n l)(e:O w a):oM a A p n l:=by obtain⟨b,c,d,f,g,i,j,k⟩:=h;exact⟨b,c,d,f,g,i.h e,j.h e,k.h e⟩
def oM.o{w:aa}{A kA:Nat}{p:Z}{n:Int}{l:List aB}(h:oM w A p n l)(a:kA<=A):oM w kA p n l:=by obtain⟨b,c,d,e,f,g,i,j⟩:=h;exact⟨b,c,d,e,eQ a f,g,i.o a,j.o a⟩
def oM.ab{w a:aa}{A:Nat}{row:Option Nat}{p:Z}{n:Int}{l:List aB}(h:oM w A p n l)(g:w.grownBy a row)(c:∀k,row=J k->k<A):oM a A p n l:=by
 obtain⟨b,s,o,d,q,f,i,j⟩:=h;have m:∀{v:Z} {L:List aB},ar w A 49 2 v ah L->v.ownBlock=ac\/v.ownBlock≠row:=λ{v L} r=>by
  cases t:v.ownBlock with
  |none=>exact .inl F
  |some k=>exact .inr λe=>by have d:=(r.D k t).1;have f:=c k e.symm;omega
 exact⟨b,s,o,d,q,f.ab g (λe=>by have:=c b e.symm;omega),i.ab g (m i),j.ab g (m j)⟩
def kT.h{w a:aa}{p:Z}{n:Int}{l:List aB}(h:kT w p n l)(e:O w a):kT a p n l:=by obtain⟨b,c,d,rfl,f,g,i⟩:=h;exact⟨b,c,d,F,f.h e,g.h e,i.h e⟩
def Mu{e:aa}{dX ev:Bool}(x y:aB):b7 Y .eql 49 dX ev (al (ah x).toArray) (al (ah y).toArray) e K=K (ax (decide (x=y))) e:=by obtain⟨d,b,c,_⟩:=L4 (P:=Y) (T:=49) (gN:=[3,3]) (dX:=dX) (ev:=ev) (S:=ah x) (cV:=ah y) D D D;rw[c];congr 2;refine JZ (b.trans ⟨λa=>?_,λa=>by rw[a]⟩);obtain⟨j,k⟩:=x;obtain⟨l,m⟩:=y;simp[ah,vw]at a;rw[a.1,a.2]
def F1:vP Y 239=J (49,233):=D
def af6(b:Bool)(a:aa)(d:aB):(HZ b 10000 49 (al (ah d).toArray)).run Y a= .ok () a:=by have e:∀c:Int,(HZ b 9999 3 (I X c)).run Y a= .ok () a:=λc=>MapKept.run_checkKey yl (by simp[MapKept.IsKey]) b 9998;have f:=Tryz.isAgg3;unfold HZ;simp[eJ Tryz.underlying49,part,f,e,ah,vw]
def FO:rn Y 49 (λa:aB=>al (ah a).toArray):=rn.ej (V:=ah) [3,3] ⟨_,Tryz.underlying49⟩ D D (λa=>D) (λa c b=>by obtain⟨d,e⟩:=a;obtain⟨f,g⟩:=c;simp[ah,vw]at b;rw[b.1,b.2]) af6
def alA:IG Y 107 ah zd:=by
 intro f b a;apply aaG;refine GN (S:=ah b) F ?_;have p:ag (f.alloc (eW (ah b).toArray 49)) f.heap.size (ah b):=ag.fl f _ _;generalize q:f.alloc (eW (ah b).toArray 49)=d at*;refine GN (S:=ah a) F ?_;have r:ag (d.alloc (eW (ah a).toArray 49)) d.heap.size (ah a):=ag.fl d _ _;have i:O d (d.alloc (eW (ah a).toArray 49)):=O.fl d _;generalize s:d.alloc (eW (ah a).toArray 49)=e at*;apply bE.h;have c:O e e.drew:=(O.p e).C;have k:=(p.h i).b;have l:=r.b;rw[b2 ce E (k.f 0 F) c,b2 ce E (l.f 0 F) c,b2 bP E (k.f 1 F) c,b2 bP E (l.f 1 F) c];refine(BB _ _).o ?_;rintro m t ⟨rfl,rfl⟩;refine⟨c,?_⟩;refine(BB _ _).o ?_;rintro m t ⟨rfl,rfl⟩;refine⟨c,?_⟩;refine Vh (k:=1) (S:=[I X (eA b.1 a.1),I X (eA b.2 a.2)]) (iR:=[(0,[I X (eA b.1 a.1)]),(1,[I X (eA b.2 a.2)])]) fW bw g mY g F F ?_;have n:O e.drew (e.drew.alloc (eW [I X (eA b.1 a.1),I X (eA b.2 a.2)].toArray 3)):=O.fl _ _;have u:=ag.fl e.drew [I X (eA b.1 a.1),I X (eA b.2 a.2)] 3;refine⟨c.a n,?_⟩;refine(T2 (l:=[eA b.1 a.1,eA b.2 a.2]) (ag.aI (L:=[eA b.1 a.1,eA b.2 a.2]) u RP (by have:e0=9223372036854775807:=rfl;simp only [d1,lk];omega)) ae).o ?_;rintro m A ⟨rfl,rfl⟩;refine⟨c.a n,?_,1,#[eW (ah b).toArray 49 (0,0),eW (ah a).toArray 49 (0,0),eW [I X (eA b.1 a.1),I X (eA b.2 a.2)].toArray 3 (0,0)],?_⟩
 ·congr 1;unfold zd;simp only [XN];by_cases h:eA b.1 a.1=0
  ·by_cases o:eA b.2 a.2=0
   ·simp[h,o]
   ·have i:(eA b.2 a.2 !=0)=true:=by simpa using o
    simp[h,i]
  ·have v:(eA b.1 a.1 !=0)=true:=by simpa using h
   simp[h,v]
 ·subst s;subst q;simp only [World.alloc,World.drew,World.drewN,an7];congr 1
def GU{x:bq}{e:IntKind}{c:List cv}{d:cv}{w:aa}(a b:Int):cz x .max c d [I e a,I e b] w K=K (I e (max a b)) w:=by have f:max a b=if a<b then b else a:=G;rw[f];simp[cz,bM,Builtin.max_,Builtin.max2]
def Vz(a:aB):ak Y 104 [al (ah a).toArray,I X n] w λd e=>O w e/\d=ax (decide (0<=a.1/\a.1<=a.2/\a.2<=n)):=by apply aaF;refine bd (S:=ah a) F λj k l m c f=>?_;have b:=f.b;rw[M ce E (b.f 0 F),eE,ai];refine⟨λg=>?_,λg=>⟨c,by rw[db G]⟩⟩;rw[M bP E (b.f 1 F),M ce E (b.f 0 F),eE,ai];refine⟨λh=>?_,λh=>⟨c,by rw[db G]⟩⟩;rw[M bP E (b.f 1 F),fg];refine⟨c,?_⟩;congr 1;rw[decide_eq_decide];omega
def ty(a:List aB)(b:Nat)(H:List aB):Prop:=(b=0/\H=[])\/∃c d,H=c++[d]/\l3 a=c++mw d (a.drop b)
variable{e:List aB}{n:Nat}
def ty.cM{x:aB}{H:List aB}(d:ty e n H)(b:e[n]? =J x)(f:∀c a,H=c++[a]->¬x.1<a.2):ty e (n+1) (H++[x]):=by
 rcases d with⟨rfl,rfl⟩|⟨c,a,rfl,g⟩
 ·refine .inr ⟨[],x,F,?_⟩;cases e with
  |nil=>cases b
  |cons h e=>simp at b;subst b;rfl
 ·refine .inr ⟨c++[a],x,F,?_⟩;rw[g,jw b,mw,an (f c a F)];simp
def ty.join{c d:aB}(a:ty x n (e++[c]))(b:x[n]? =J d)(f:d.1<c.2):ty x (n+1) (e++[(c.1,max c.2 d.2)]):=by
 rcases a with⟨_,a⟩|⟨j,k,g,h⟩
 ·simp at a
 ·obtain⟨rfl,i⟩:=List.append_inj' g F;cases i;refine .inr ⟨e,_,F,?_⟩;rw[h,jw b,mw,au f]
def ty.bj{H:List aB}(a:ty x x.length H):H=l3 x:=by
 rcases a with⟨b,rfl⟩|⟨d,e,rfl,c⟩
 ·rw[ig b];rfl
 ·rw[c,mc];rfl
def Sj{n:Int}(cK:0<=n/\n<=1099511627776)(a4:aC w v 2 ah x):ak Y 56 [I X n,v] w λb0 q=>O w q/\
 ∃a5,b0=a1 #[a5,I X (gK n x)]/\(gK n x≠0->a5=ad ac)/\(gK n x=0->oM q w.heap.size a5 n (fE x)):=by
 apply aax;refine bG.y (λl q=>q=w/\l=[ax ao]) ?_ ?_
 ·rw[aR,du G,cb];exact⟨F,by rw[db G]⟩
 rintro l aq bS ⟨rfl,rfl⟩;rw[av,cw,aS cm.m a4,cb,ai];unfold gK;refine⟨λd=>?_,λcQ=>?_⟩
 ·rw[au G];exact⟨O.p _,_,F,λ_=>F,λd=>G⟩
 rw[an G];refine GQ (λb:aB=>al (ah b).toArray) rT λbT bU cR cS b1 bV=>?_;rw[aS cm.m (a4.h b1)];refine ba.bJ (λaw l u=>O bS u/\bU.heap.size<=u.heap.size/\∃j:Nat,j+aw=x.length/\l=[I X j]/\kU u (λb:aB=>al (ah b).toArray) rT bT (x.take j)/\kC n [] x=kC n (x.take j) (x.drop j))
  ⟨x.length,b1,a6 _,0,G,F,bV,F⟩ ?_
 rintro aw l aq u ⟨y,cU,j,cV,rfl,bW,k⟩;rw[av,aR,ai];refine⟨λbX=>?_,λbY=>?_⟩
 ·obtain⟨b,z⟩:∃b,x[j]? =J b:=⟨_,aX G⟩;rw[jw z,kC]at k;refine cm.dO (a4.h y) z F λcW b3 Q cY cZ b4=>?_;rw[aF cP b4.b F];refine(Vz (n:=n) b).o ?_;rintro b0 bZ ⟨K,rfl⟩;have aW:=(y.a Q).a K;have R:=b4.h K;have a7:=R.b;rw[dD,dQ];refine⟨λaY=>?_,λca=>?_⟩
  ·rw[au (by unfold nn;intro d;simp at aY;omega)]at k;rw[k];exact⟨aW,_,F,λ_=>F,λd=>G⟩
  have b5:0<=b.1/\b.1<=b.2/\b.2<=n:=by simpa using ca
  rw[aF cP a7 F,M bP E (a7.f 1 F),M bP E (a7.f 1 F),sX,Mu,ai];refine⟨λbb=>?_,λbb=>?_⟩
  ·have:b.1=b.2:=ck Prod.fst bb;rw[au (by unfold nn;omega)]at k;rw[k];exact⟨aW,_,F,λ_=>F,λd=>G⟩
  have cf:nn n b:=⟨b5.1,by have:b.1≠b.2:=λd=>bb (Nn d F);omega,b5.2.2⟩;rw[an (λd=>d cf)]at k;rw[aF cP a7 F];have b6:=(bW.h Q).h K;refine CV F1 FO M3 b6 b λda dc cg b7=>?_;rw[aN,aO];refine bo (da:=[]) D λdd U de dg a8 dh=>?_;refine Mc D (by rw[cg];rfl) ?_;have a9:=aW.a a8;rw[dQ];refine⟨λci=>?_,λb8=>?_⟩
  ·rw[au (b7.1 ci)]at k;rw[k];exact⟨a9,_,F,λ_=>F,λd=>G⟩
  have bA:b∉x.take j:=λd=>by rw[b7.2 d]at b8;cases b8
  rw[an bA]at k;rw[aF cP (R.h a8).b F,bz (S:=[]) (iR:=[]) (da:=[]) (pl:=[]) D D F F];refine GS (Q:=rT) (v:=al #[]) F F1 FO (b6.h a8) bA λA cn dk co=>?_;have cp:=Q.size;have dl:=K.size;have cq:=a8.size;rw[aD];exact⟨aw-1,G,a9.ab cn λa h=>by cases h;omega,G,j+1,G,ae,by rw[c9 z];exact co,by rw[k,c9 z]⟩
 have cs:j=x.length:=G;rw[cs,cI,mc]at k;have ct:kC n [] x=0:=by rw[k];rfl
 rw[ct];refine(Mf (a4.h y) G).o ?_;rintro m b3 ⟨Q,bc⟩;rw[bz (S:=[I X n,m,aQ ac 0 0]) (iR:=[(0,[I X n]),(1,[m])]) aeu adN (by simp[bc.M.1];rfl) F];refine bd (S:=[I X n,m,aQ ac 0 0]) F λV bZ dm dn K bB=>?_;have cp:=Q.size;have dp:=y.size;have cu:=bc.h K;rw[bn,M Jf kb (bB.b.f 1 F)];refine Vr (ρ:=Tryz.c7) (xq:=zd) Tryz.eb cm F Tryz.isAgg49 Tryz.sizeOf49 al7 alA F (an8 Tryz.func107 D F) (λd cx=>z7 Tryz.func106 D (c:=lu Tryz.f106) F d cx) cu G λbe U cy cz bg bi=>?_;have c0:be=fE x:=by refine alI (cy.trans (wh _).symm) ?_ (VL _);rw[Iq];intro bC L c1 bl c2;have:=cz bC L be[bC] be[L] (aX c1) (aX bl) c2;rw[F0]at this;exact this
 rw[c0]at bg;have ay:∀a,m.ownBlock=J a->u.heap.size<=a/\a<b3.heap.size:=λa h=>bc.D a h;have bD:ag U V [I X n,m,aQ ac 0 0]:=bB.ab bi (λr=>by have:=(ay V r.symm).2;omega);have a9:O u U:=(Q.a K).ab bi λa h=>(ay a h).1;have cq:=bi.size;rw[bn,M Jf kb (bD.b.f 1 F),aS cm.m (bg.aI e_)];have dr:(fE x).length=x.length:=(wh x).length_eq;generalize ds:fE x=W at*;refine ba.bJ (λaw l A=>O u A/\U.heap.size<=A.heap.size/\∃(j:Nat) (d:Z) (H:List aB),j+aw=W.length/\l=[I X j]/\ag A V [I X n,m,d]/\ar A u.heap.size 49 2 m ah W/\ar A U.heap.size 49 2 d ah H/\H.length<=j/\ty W j H)
  ⟨W.length,a9,a6 _,0,_,[],G,F,bD,bg,ar.nil ..,a6 _,.inl ⟨F,F⟩⟩ ?_
 rintro bF l aq A ⟨bm,dt,aA,s,H,dw,rfl,bH,aE,bp,c3,br⟩;rw[av,aR,ai];have aG:∀a,s.ownBlock=J a->U.heap.size<=a/\a<A.heap.size:=λa h=>bp.D a h;refine⟨λbX=>?_,λbY=>?_⟩
 ·obtain⟨b,z⟩:∃b,W[aA]? =J b:=⟨_,aX G⟩;refine cm.dO (aE.aI e_) z F λc4 aH aJ dx dy bI=>?_;have R:=bH.h aJ;have bs:=bp.h aJ;rw[bn,M w3 kb (R.b.f 2 F),aS cm.m (bs.aI e_),cd];refine bG.y (λl q=>O aH q/\∃bu:Bool,l=[ax bu]/\(bu=af↔∃i c,H=i++[c]/\b.1<c.2)) ?_ ?_
  ·apply bE.h;have f:O aH aH.drew:=(O.p aH).C;rw[aK (λo e B=>eE _ _) f,ai];refine⟨λe=>?_,λe=>⟨f,ao,F,by
    constructor
    ·intro d;cases d
    ·rintro⟨i,c,rfl,_⟩;simp at e⟩⟩
   obtain⟨c,t⟩:∃c,H[H.length-1]? =J c:=⟨_,aX G⟩;rw[b2 ce E (bI.b.f 0 F) f,bn,b2 w3 kb (R.b.f 2 F) f,cm.b2 (bs.aI e_) t G bP E F f,aK (λo e B=>aR _ _) f];refine⟨f,_,F,?_⟩;rw[dF];constructor
   ·intro d;have h:H.getLast? =J c:=by rw[yn];exact t
    exact⟨H.dropLast,c,BO h,d⟩
   ·rintro⟨i,dz,rfl,d⟩;simp at t;subst t;exact d
  rintro l aq p ⟨az,bu,rfl,bK⟩;rw[av,dQ];have a0:=R.h az;have aP:=bs.h az;have bM:=bI.h az;have d0:=aJ.size;have d2:=az.size;have aT:=aJ.a az;refine⟨λc5=>?_,λbN=>?_⟩
  ·obtain⟨i,c,rfl,c6⟩:=bK.1 c5;have t:(i++[c])[i.length]? =J c:=ae;have d3:(i++[c]).length=i.length+1:=ae;obtain⟨a,d4,c8,d5,d6,d7,d8,cA⟩:=cm.bL aP t;apply bE.h;have f:O p p.drew:=(O.p p).C;have bO:=aP.aI e_;rw[bn,b2 w3 kb (a0.b.f 2 F) f,bn,b2 w3 kb (a0.b.f 2 F) f,cm.b2 bO t G bP E F f,b2 bP E (bM.b.f 1 F) f,
    aK (λo e B=>GU _ _) f,aK (λo e B=>cr cm.m cm.bk cm.cN (bO.h e) t G) f,c8,aK (λo e B=>aj bP) f]
   refine cA (m:=1) (p:=1) (cS:=[I X (max c.2 b.2)]) (nu:=c) (y:=(c.1,max c.2 b.2)) bw g g F F eY (aP.h f) t F λcB dC am P=>?_;rw[aD];refine⟨bF-1,G,(bm.a (aT.a f)).ab am λL bl=>by cases bl;omega,by have:=am.size;have:=f.size;omega,aA+1,s,i++[(c.1,max c.2 b.2)],G,ae,(a0.h f).ab am (by rintro⟨⟩;omega),((aE.h aT).h f).ab am (by
    cases a2:m.ownBlock with
    |none=>exact .inl F
    |some C=>exact .inr λr=>by have e:=(ay C a2).2;have aU:C=a:=rg r;omega),?_,by simp at c3⊢;omega,br.join z c6⟩
   have:(i++[c]).set i.length (c.1,max c.2 b.2)=i++[(c.1,max c.2 b.2)]:=by rw[Ip _ _ (a6 _)];simp
   rw[this]at P;exact P
  ·have cC:∀i c,H=i++[c]->¬b.1<c.2:=λi c e aU=>by rw[bK.2 ⟨i,c,e,aU⟩]at bN;cases bN
   have a3:=jz p s.ownBlock;have bv:∀{L:Nat} {S:List Z} {q:aa},ag p L S->(∀a,s.ownBlock=J a->a≠L)->p.grownBy q s.ownBlock->ag q L S:=λcD aY h=>cD.ab h λr=>aY _ r.symm F;have bQ:∀a,s.ownBlock=J a->a≠V:=λa h=>by have:=(aG a h).1;omega
   have cE:∀a,s.ownBlock=J a->a≠c4:=λa h=>by have:=(aG a h).2;omega
   refine bE.y (λo=>p.grownBy o s.ownBlock) a3 ?_;rw[bn,bh (λo e B=>aj w3) a3,bh (λo e B=>aM kb ((bv a0 bQ e).b.f 2 F)) a3,
    bh (λo e B=>aF cP (bv bM cE e).b F) a3]
   have bx:O p p.drew:=(O.p p).C;have dE:=bx.size;refine cm.p8 (aP.h bx) G G g (λo e=>eb (bx.a e) _) λbR cB P am dG=>?_;have ap:=eN a3 am;refine⟨ap,?_⟩;rw[bn,bh (λo e B=>aj w3) ap];have cF:=bv a0 bQ ap;refine aZ (cS:=[bR]) aeh g cF P.M.1 F ae (λdH cG=>by rw[cL.1 cG];exact P.M.2) λdI dK aV cH=>?_;rw[aD];have dL:=ap.size;refine⟨bF-1,G,((bm.a aT).ab ap λa h=>by have:=(aG a h).1;omega).ab aV λa h=>by cases h;omega,by have:=aV.size;omega,aA+1,bR,H++[b],G,ae,cH,?_,P.ab aV (fC P G),by simp;omega,br.cM z cC⟩;refine((aE.h aT).ab ap ?_).ab aV ?_
   ·cases a2:m.ownBlock with
    |none=>exact .inl F
    |some C=>exact .inr λr=>by have e:=(ay C a2).2;have aU:=(aG C r.symm).1;omega
   ·cases a2:m.ownBlock with
    |none=>exact .inl F
    |some C=>exact .inr λr=>by have e:=(ay C a2).2;have aU:C=V:=rg r;omega
 ·have cJ:aA=W.length:=G;subst cJ;have:=br.bj;subst this;exact⟨y.a bm,_,F,λd=>aL F d,λ_=>⟨V,m,s,F,by have:=y.size;omega,bH,aE.o y.size,bp.o (by have:=y.size;omega)⟩⟩
def BL{l:List aB}(c:0<=t/\t<=1099511627776)(d:aC w v 2 ah l):ak Y 56 [I X t,v] w λe b=>O w b/\
 ∃a,e=a1 #[a,I X (gK t l)]/\(gK t l≠0->a=ad ac)/\(gK t l=0->kT b a t (fE l)):=
 (Sj c d).o λ_ _ ⟨f,a,g,h,i⟩=>⟨f,a,g,h,λj=>(i j).ai⟩
end aY
end Go.Proofs.YtoddhldofgfdmaaGreatDoor
namespace Go.Lift
open Go Go.RowKit
def eh.B{P:bq}{e k:Nat}{c:List Z}{K:aU}{α:Type}{T:Nat}{V:α->List Z}{w:aa}{x:α}(a:eh P T e k V c)(n:k<=1000)(h:∀d b,ar b w.heap.size e k d V [x]->O w b->K d b):fR P T 1 [(0,al (V x).toArray)] w K:=by
 have g:jg (λi=>J (i*k,k)) ((lS (1*k)).map λf=>c.toArray[f%c.length]!) [(0,V x)]=J ([x].flatMap V):=by have j:=a.fv.bl x;have o:((lS (1*k)).map λf=>c.toArray[f%c.length]!).length=k:=ae;unfold jg;simp only [Nat.zero_mul];rw[au ⟨j,G⟩];unfold jg dE;simp only [kp,fc,hW];rw[lR G];simp
 exact f0 (n:=1) (V:=V) (L:=[x]) (iR:=[(0,V x)]) a.m a.bk F a.bc (by have:=a.cN;omega) G a.fv F g λd b r l m s=>h d b l.row m
end Go.Lift
namespace Go.Proofs.YtoddhldofgfdmaaGreatDoor
open Go.Lift
namespace aY
open Go.RowKit Go.bW Go.cB
def gW(l:List aB)(x:aB):List aB:=l.filter λa=>decide (x.2<a.1\/a.2<x.1)
def hl(l:List dx)(a:aB):aB:=(eC l 0 a.1 1,eC l 0 a.2 0)
def q8(b:List aB)(a:aB):List aB:=if a∈b\/a.2<=a.1 then b else b++[a]
def i_(l:List dx)(a:List aB):List aB:=(a.map (hl l)).foldl q8 []
variable{x:List aB}
def G0{n:Nat}{e:aB}{l:List dx}(a:x[n]? =J e):i_ l (x.take (n+1))=q8 (i_ l (x.take n)) (hl l e):=by unfold i_;rw[c9 a,dJ,DC];rfl
variable{t s:Int}
def Mn{l:List dx}(ok:od t x)(f:nF t s l):∀a,a<=x.length->(i_ l (x.take a)).length<=a/\(∀d∈i_ l (x.take a),nn s d)/\(i_ l (x.take a)).Nodup:=by
 intro a
 induction a with
 |zero=>intro _;exact⟨by simp[i_],λd b=>by simp[i_]at b,by simp[i_]⟩
 |succ a ih=>
  intro r;obtain⟨u,g,h⟩:=ih G;obtain⟨c,i⟩:∃c,x[a]? =J c:=⟨_,aX G⟩;have e:=ok.az c (cl i);unfold nn at e;rw[G0 i];unfold q8;split
  ·exact⟨G,g,h⟩
  ·rename_i j
   have m:=f.bF (v:=c.1) (aJ:=1) ⟨e.1,G⟩;have n:=f.bF (v:=c.2) (aJ:=0) ⟨G,e.2.2⟩;refine⟨by simp;omega,λd b=>?_,DE.2 ⟨h,ae,λy k z o=>by rw[cL.1 o];intro p;rw[p]at k;exact j (.inl k)⟩⟩;rcases b9.1 b with b|b
   ·exact g d b
   ·rw[cL.1 b];refine⟨m.1,?_,n.2⟩;have:¬(hl l c).2<=(hl l c).1:=λq=>j (.inr q);omega
def Mo{l:List dx}(ok:od t x)(b:nF t s l):gK s (i_ l x)=0:=by have a:=Mn ok b x.length (a6 _);rw[cI]at a;unfold gK;rw[an (by have:=ok.bl;omega)];exact E_ a.2.1 (by simpa using a.2.2)
variable{w:aa}
variable{n:Int}
def xx{p:Z}(a:kT w p n x):ak Y 177 [p] w λb c=>c=w/\b=I X n:=by obtain⟨e,f,g,rfl,d,⟨h,_⟩,⟨i,_⟩⟩:=a;apply aaB;rw[fZ D];show b6 (ax ao) _ _;rw[cw,bn,M adt E (d.b.f 0 F)];exact⟨F,F⟩
def xv{p:Z}{l:List aB}(b:kT w p n l)(f:l.length<=1000000):ak Y 209 [p] w λc a=>O w a/\ar a w.heap.size 49 2 c ah l:=by obtain⟨g,h,i,rfl,d,⟨e,_⟩,⟨j,_⟩⟩:=b;apply aaz;rw[fZ D];show b6 (ax ao) _ _;rw[cw,bn,M Jf kb (d.b.f 1 F)];exact Mf e G
def Lf:∀(a:List aB) (b:aB),(mw b a).length<=a.length+1
 |[],b=>by simp[mw]
 |c::a,b=>by
  unfold mw;split
  ·have:=Lf a (b.1,max b.2 c.2);simp;omega
  ·have:=Lf a c;simp;omega
def KH(a:List aB):(l3 a).length<=a.length:=by
 cases a with
 |nil=>simp[l3]
 |cons b a=>have:=Lf a b;unfold l3;simp;omega
def vz{p:Z}(h:kT w p t x)(e:x.length<=1000000):ak Y 111 [p] w λb a=>O w a/\ar a w.heap.size 49 2 b ah (l3 x):=by obtain⟨f,g,i,rfl,c,⟨j,_⟩,⟨d,_⟩⟩:=h;apply aaA;rw[fZ D];show b6 (ax ao) _ _;rw[cw,bn,M w3 kb (c.b.f 2 F)];exact Mf d (by have:=KH x;omega)
abbrev yv(w:aa)(a:Int)(b:List aB):aU:=λe d=>O w d/\∃c,e=a1 #[c,I X (gK a b)]/\(gK a b≠0->c=ad ac)/\(gK a b=0->kT d c a (fE b))
variable{x:aB}
def ahb{e:Z}{l:List aB}(ag:0<=t/\t<=1099511627776)(ai:kT w e t l)(au:l.length<=1000):ak Y 218 [e,al (ah x).toArray] w (yv w t (l++[x])):=by
 apply aay;refine bd (S:=ah x) F λaw d ay az L aj=>?_;have q:=ai.h L;apply bE.h;have i:O d d.drew:=(O.p d).C;rw[gX cP aj.b F i];have E:∀{v:Z} {n:aa} {M:aU},O d n->aC n v 2 ah (l++[x])->(∀a b,yv n t (l++[x]) a b->M a b)->ak Y 56 [I X t,v] n M:=λH am an=>(BL ag am).o λa b c=>an a b c;have bj:∀{n:aa} {a:Z} {b:aa},O d n->yv n t (l++[x]) a b->O d b/\e7 a 0 b λap w=>e7 a 1 w λaq w=>yv d t (l++[x]) (a1 #[ap,aq]) w:=by rintro n a b H ⟨P,c,rfl,C,D⟩;refine⟨H.a P,?_⟩;rw[aN,aO];exact⟨H.a P,c,F,C,D⟩
 have K:∀{a:Z} {b:aa},yv d t (l++[x]) a b->yv w t (l++[x]) a b:=λc=>⟨L.a c.1,c.2⟩;refine⟨(xx (q.h i)).o ?_,?_⟩
 ·rintro a ar ⟨rfl,rfl⟩;refine⟨i,(xv (q.h i) G).o ?_,?_⟩
  ·rintro Q R ⟨j,o⟩;have m:=i.a j;refine⟨m,?_⟩;refine cm.B g λS U r k=>⟨m.a k,?_⟩;have f:=m.a k;refine cm.ah (o.h k) (j.a k).size (r.aI e_) (by simp;omega) λV s u y W=>?_;have h:O d s:=f.ab y λz A=>by have:=(o.D z A).1;have:=i.size;omega
   refine⟨h,E h (u.aI e_) λa b c=>?_⟩;obtain⟨B,p⟩:=bj h c;exact⟨B,by obtain⟨_,ae,rfl,C,D⟩:=c;rw[aN,aO]at p⊢;exact K p⟩
  ·refine cm.B g λS U r k=>⟨i.a k,?_⟩;have f:=i.a k;refine(xv (q.h f) G).o ?_;rintro Q R ⟨j,o⟩;have m:=f.a j;refine⟨m,?_⟩;refine cm.ah o j.size ((r.h j).aI e_) (by simp;omega) λV s u y W=>?_;have h:O d s:=m.ab y λz A=>by have:=(o.D z A).1;have:=f.size;omega
   refine⟨h,E h (u.aI e_) λa b c=>?_⟩;obtain⟨B,p⟩:=bj h c;exact⟨B,by obtain⟨_,ae,rfl,C,D⟩:=c;rw[aN,aO]at p⊢;exact K p⟩
 ·refine cm.B g λS U r k=>⟨i.a k,?_⟩;have f:=i.a k;refine(xx (q.h f)).o ?_;rintro a ar ⟨rfl,rfl⟩;refine⟨f,?_⟩;refine(xv (q.h f) G).o ?_;rintro Q R ⟨j,o⟩;have m:=f.a j;refine⟨m,?_⟩;refine cm.ah o j.size ((r.h j).aI e_) (by simp;omega) λV s u y W=>?_;have h:O d s:=m.ab y λz A=>by have:=(o.D z A).1;have:=f.size;omega
  refine⟨h,E h (u.aI e_) λa b c=>?_⟩;obtain⟨B,p⟩:=bj h c;exact⟨B,by obtain⟨_,ae,rfl,C,D⟩:=c;rw[aN,aO]at p⊢;exact K p⟩
def ahm{p:Z}{l:List aB}(C:0<=n/\n<=1099511627776)(f:kT w p n l)(ay:l.length<=1000):ak Y 219 [p,al (ah x).toArray] w λd j=>O w j/\
 ((¬(0<=x.1/\x.1<=x.2/\x.2<=n)/\d=a1 #[ad ac,I X 0,I X 1])\/
  ((0<=x.1/\x.1<=x.2/\x.2<=n)/\∃g,d=a1 #[g,I X ((l.length:Int)-(gW l x).length),I X (gK n (gW l x))]/\(gK n (gW l x)≠0->g=ad ac)/\(gK n (gW l x)=0->oM j w.heap.size g n (fE (gW l x))))):=by
 apply aaD;refine bd (S:=ah x) F λH h az a0 k v=>?_;have b:=f.h k;apply bE.h;have m:O h h.drew:=(O.p h).C;rw[gX cP v.b F m];refine(xx (b.h m)).o ?_;rintro d a2 ⟨rfl,rfl⟩;refine⟨m,?_⟩;refine(Vz (n:=n) x).o ?_;rintro d K ⟨L,rfl⟩;have a:=m.a L;refine⟨a,?_⟩;rw[aK (λh b a3=>dD _) a,dQ];refine⟨λP=>⟨k.a a,.inl ⟨by simp at P;omega,F⟩⟩,λQ=>?_⟩;have R:0<=x.1/\x.1<=x.2/\x.2<=n:=by simpa using Q
 refine(xv (b.h a) G).o ?_;rintro S a4 ⟨i,U⟩;refine(xv ((b.h a).h i) G).o ?_;rintro a5 a7 ⟨o,V⟩;rw[jZ];refine(Vt (p:=λc=>!decide (x.2<c.1\/c.2<x.1)) V ?_ o.size G).o ?_
 ·intro c a8 j W;rw[kL];apply aaC;have ab:ag j H (ah x):=ag.bA (((v.h a).h i).h o) W (by have:=a.size;have:=i.size;omega);refine bd (S:=ah c) F λej q a9 aA e y=>?_;have z:=(ab.h e).b;rw[M ce E (y.b.f 0 F),M bP E (z.f 1 F),fg,ai];refine⟨λb=>?_,λb=>⟨e,by simp;omega⟩⟩;rw[M ce E (z.f 0 F),M bP E (y.b.f 1 F),fg];refine⟨e,?_⟩;congr 1;rw[g0];simp only [dF,sb,decide_eq_false_iff_not];omega
 ·rintro aC q ⟨e,_,_,r⟩;have ae:(l.filter λc=>!!decide (x.2<c.1\/c.2<x.1))=gW l x:=by unfold gW;simp
  rw[ae]at r;have aj:=a.a (i.a o);have s:O h q:=HH aj (ts e (by have:=a.size;have:=i.size;omega));have am:ar q K.heap.size 49 2 S ah l:=by
   rcases U with f|⟨t,an,ap,aq,rfl,au,A,bc⟩
   ·exact .inl f
   ·refine .inr ⟨t,an,ap,aq,F,au,?_,bc⟩;have B:=(iz.1 A).1;rw[e.block t B,o.block t B];exact A
  refine(xx (b.h s)).o ?_;rintro d aD ⟨rfl,rfl⟩;refine(Sj C (r.aI e_)).o ?_;rintro d aE ⟨u,g,rfl,av,aw⟩;have aF:(gW l x).length<=l.length:=mH ..;rw[aN,aO,aS cm.m ((am.h u).aI e_),aS cm.m ((r.h u).aI e_),cd];exact⟨k.a (s.a u),.inr ⟨R,g,F,av,λf=>(aw f).o (k.a s).size⟩⟩
variable{v:Z}
def aho{x:Z}{e:List aB}{c:List dx}(l:kT w x n e)(ok:od n e)(i:aC w v 4 gx c)(h:nF n t c):
 ak Y 142 [x,v] w λm C=>O w C/\∃H,m=a1 #[H,I X 0]/\kT C H t (fE (i_ c e)):=by
 apply aaE;have bH:=h.jA;have a5:=h.b4;have aY:=h.cF;have bI:=h.bl;refine(xx l).o ?_;rintro m bb ⟨rfl,rfl⟩;refine bG.y (λy C=>y=[]/\O bb C) ?_ ?_
 ·refine(LA i h.ay).o ?_;rintro m a7 ⟨f,rfl⟩;rw[dD];show b6 (ax ao) _ _;rw[cw,aS iJ.m (i.h f),cb,ai];refine⟨λbc=>?_,λbc=>?_⟩
  ·obtain⟨bd,V⟩:∃a,c[c.length-1]? =J a:=⟨_,aX G⟩;obtain⟨bK,bL,be,bg⟩:=(i.h f).m V;have:=h.qf bd (cl V);rw[aS iJ.m (i.h f),cd,cr iJ.m iJ.bk iJ.cN (i.h f) V G,be,aj mh,nw,M bP E (bg.f 1 F),cb,du G];refine(xQ (i.h f) h.p2 G).o ?_;rintro m W ⟨p,rfl⟩;rw[aD,cb,du G];exact⟨F,f.a p⟩
  ·refine(xQ (i.h f) h.p2 G).o ?_;rintro m W ⟨p,rfl⟩;rw[aD,cb,du G];exact⟨F,f.a p⟩
 rintro y am a7 ⟨rfl,f⟩;have bM:=ok.bl;refine GQ (λa:aB=>al (ah a).toArray) rT λa8 W bN bO p bh=>?_;refine(xv ((l.h f).h p) G).o ?_;rintro ap K ⟨L,aq⟩;have bQ:=(((i.h f).h p).h L);have bR:=f.size;have gv:=p.size;have bS:=L.size;rw[aS cm.m (aq.aI e_)];refine ba.bJ (λz y o=>O a7 o/\K.heap.size<=o.heap.size/\∃(d:Nat) (s:Z),d+z=e.length/\y=[s,I X d]/\ar o W.heap.size 49 2 ap ah e/\ar o K.heap.size 49 2 s ah (i_ c (e.take d))/\kU o (λa:aB=>al (ah a).toArray) rT a8 (i_ c (e.take d)))
  ⟨e.length,p.a L,a6 _,0,_,G,F,aq,ar.nil ..,bh.h L⟩ ?_
 rintro z y am o ⟨q,bT,d,s,bU,rfl,A,r,aw⟩;simp only [av,bA];rw[aR,ai];refine⟨λbV=>?_,λbW=>?_⟩
 ·obtain⟨a,P⟩:∃a,e[d]? =J a:=⟨_,aX G⟩;have a9:=ok.az a (cl P);unfold nn at a9;have bX:=(Mn ok h d G).1;refine cm.dO (A.aI e_) P F λaA bi u bY bZ aE=>?_;rw[M ce E (aE.b.f 0 F)];have bj:=q.a u;refine(Lz (C:=a.1) (aJ:=1) ((i.h f).h bj) h.ay ⟨a9.1,G⟩ (.inr F)).o ?_;rintro m bp ⟨B,rfl⟩;have ca:=u.size;have cf:=B.size;rw[aN,aO,aj ce];refine aZ (cS:=[I X (eC c 0 a.1 1)]) bw g (aE.h B) F F ae eY λaG cg br bs=>?_;have aH:ag aG aA (ah (eC c 0 a.1 1,a.2)):=bs;have aJ:O o aG:=(u.a B).ab br λb j=>by cases j;omega
  rw[M bP E (aH.b.f 1 F)];refine(Lz (C:=a.2) (aJ:=0) ((i.h f).h (q.a aJ)) h.ay ⟨G,G⟩ (.inl F)).o ?_;rintro m ch ⟨a0,rfl⟩;have ci:=a0.size;rw[aN,aO,aj bP];refine aZ (cS:=[I X (eC c 0 a.2 0)]) bw g (aH.h a0) F F ae eY λaK cj bu bv=>?_;have aL:ag aK aA (ah (hl c a)):=bv;have a2:O o aK:=(aJ.a a0).ab bu λb j=>by cases j;omega
  have ck:=a2.size;have aM:=aw.h a2;rw[aF cP aL.b F];refine CV F1 FO M3 aM (hl c a) λcn co bx aP=>?_;rw[aN,aO];refine bo (da:=[]) D λcp cq cs ct Q cu=>?_;refine Mc D (by rw[bx];rfl) ?_;have k:=a2.a Q;have cx:=Q.size;rw[dQ];have skip:(hl c a∈i_ c (e.take d)\/(hl c a).2<=(hl c a).1)->i_ c (e.take (d+1))=i_ c (e.take d):=λl=>by rw[G0 P];unfold q8;rw[au l]
  refine⟨λb1=>?_,λaT=>?_⟩
  ·rw[aD];have:=skip (.inl (aP.1 b1));exact⟨z-1,G,q.a k,G,d+1,s,G,ae,A.h k,by rw[this];exact r.h k,by rw[this];exact aw.h k⟩
  have aU:hl c a∉i_ c (e.take d):=λl=>by rw[aP.2 l]at aT;cases aT
  have R:=aL.h Q;rw[M ce E (R.b.f 0 F),M bP E (R.b.f 1 F),eE,ai];refine⟨λb2=>?_,λb3=>?_⟩
  ·rw[aD];have:=skip (.inr b2);exact⟨z-1,G,q.a k,G,d+1,s,G,ae,A.h k,by rw[this];exact r.h k,by rw[this];exact aw.h k⟩
  have aV:i_ c (e.take (d+1))=i_ c (e.take d)++[hl c a]:=by
   rw[G0 P];unfold q8;rw[an];rintro(l|l)
   ·exact aU l
   ·exact b3 l
  rw[aF cP R.b F,bz (S:=[]) (iR:=[]) (da:=[]) (pl:=[]) D D F F];refine GS (Q:=rT) (v:=al #[]) F F1 FO (aM.h Q) aU λc2 S c3 a5=>?_;have b5:=R.ab S (by rintro⟨⟩;omega);rw[aF cP b5.b F];have a3:∀b,s.ownBlock=J b->K.heap.size<=b/\b<o.heap.size:=λb j=>r.D b j;have b7:=(r.h k).ab S (fC r G);have b8:=(A.h k).ab S (fC A G);refine cm.push b7 G G g λbB c4 bC U c5=>?_;have c6:=U.size;rw[aD];have bD:∀b,ap.ownBlock=J b->b<K.heap.size:=λb j=>(aq.D b j).2;refine⟨z-1,G,((q.a k).ab S λb j=>by cases j;omega).ab U λb j=>by have:=(a3 b j).1;omega,G,d+1,bB,G,ae,?_,by rw[aV];exact bC,by rw[aV];exact a5.ab U λa4=>by have:=(a3 a8 a4.symm).1;omega⟩;refine b8.ab U ?_;cases bE:ap.ownBlock with
  |none=>exact .inl F
  |some b=>exact .inr λa4=>by have c7:=bD b bE;have c8:=(a3 b a4.symm).1;omega
 ·rw[show d=e.length from G,cI]at r;refine(xQ ((i.h f).h q) h.p2 G).o ?_;rintro m bi ⟨u,rfl⟩;rw[aD,aY];refine(BL G ((r.h u).aI e_)).o ?_;rintro m bp ⟨B,H,rfl,c9,aW⟩;have bF:=Mo ok h;rw[bF]at aW⊢;rw[aN,aO];exact⟨((f.a q).a u).a B,H,F,aW F⟩
def D0(w:aa)(b:Z)(c:Int)(d:List aG):Prop:=∃a,b=al (dq c a 0).toArray/\qA a/\aC w a 5 bC d
variable{n:Nat}
def WA{x:List aG}{e:aG}(a:x[n]? =J e):gz (x.take (n+1)) t s=gz (x.take n) t s++(if t<=e.C/\e.C<=s then [e]else []):=by unfold gz;rw[c9 a,jd];congr 1;by_cases b:t<=e.C/\e.C<=s<;>simp[b]
def ji(l:List Int)(x:Int):Nat:=l.countP (·==x)
def Rl(l:List Int)(b a:Int):ji (l++[b]) a=ji l a+(if b=a then 1 else 0):=by unfold ji;rw[No];by_cases c:b=a<;>simp[c]
def agQ{e:List aG}{a b:Int}(s:D0 w v t e)(U:e.length<=1000000):ak Y 156 [v,I X a,I X b] w λu j=>O w j/\ar j w.heap.size 125 5 u bC (gz e a b):=by
 obtain⟨y,rfl,V,q⟩:=s;apply Yz;refine bd (S:=dq t y 0) F λag r ah aj k z=>?_;rw[M Ja qD (z.b.f 1 F),aS dZ.m (q.h k)];refine ba.bJ (λl d n=>O r n/\∃(c:Nat) (m:Z),c+l=e.length/\d=[m,I X c]/\ar n r.heap.size 125 5 m bC (gz (e.take c) a b)) ⟨e.length,O.p _,0,_,G,F,ar.nil ..⟩ ?_;rintro l d A n ⟨f,c,m,am,rfl,h⟩;simp only [av,bA];rw[aR,ai];refine⟨λap=>?_,λaq=>?_⟩
 ·obtain⟨x,o⟩:∃x,e[c]? =J x:=⟨_,aX G⟩;refine dZ.dO ((q.h k).h f) o F λaw B i ay az p=>?_;refine bG.y (λd j=>j=B/\d=[ax (decide (a<=x.C/\x.C<=b))]) ?_ ?_
  ·rw[M h2 E (p.b.f 1 F),eE,ai];refine⟨λD=>?_,λD=>⟨F,by rw[db G]⟩⟩;rw[M h2 E (p.b.f 1 F),fg];refine⟨F,?_⟩;congr 2;rw[decide_eq_decide];omega
  rintro d A a0 ⟨rfl,rfl⟩;simp only [av];rw[ai];have a2:(gz (e.take c) a b).length<=1000000:=by unfold gz;have:=mH (λx:aG=>decide (a<=x.C/\x.C<=b)) (e.take c);rw[bt]at this;omega
  refine⟨λH=>?_,λK=>?_⟩
  ·rw[aF mQ p.b F];refine dZ.push (h.h i) (f.a i).size G g λL a3 P Q a4=>?_;rw[aD];exact⟨l-1,G,(f.a i).ab Q λR S=>(h.D R S).1,c+1,L,G,ae,by rw[WA o,au H];exact P⟩
  ·rw[aD];exact⟨l-1,G,f.a i,c+1,m,G,ae,by rw[WA o,an K,cT];exact h.h i⟩
 ·rw[show c=e.length from G,cI]at h;exact⟨k.a f,h.o (by have:=k.size;omega)⟩
variable{x:Int}
def agN{e:Z}{l:List Int}(b:aC w e 1 iY l):ak Y 155 [I X x,e] w λk m=>m=w/\k=I X (ji l x):=by
 apply YB;have p:=b.aD;rw[aS fW b];refine ba.bJ (λc h i=>i=w/\∃a:Nat,a+c=l.length/\h=[I X (ji (l.take a) x),I X a]) ⟨l.length,F,0,G,F⟩ ?_;rintro c h q i ⟨rfl,a,r,rfl⟩;simp only [av,bA];rw[aR,ai];refine⟨λs=>?_,λt=>⟨F,by rw[show a=l.length from G,cI]⟩⟩;obtain⟨j,d⟩:∃j,l[a]? =J j:=⟨_,aX G⟩;obtain⟨u,v,n,o⟩:=b.m d;have y:ji (l.take a) x<=a:=by unfold ji;have:=HV (p:=(·==x)) (l:=l.take a);rw[bt]at this;omega
 rw[cr fW bw g b d F,n,aM E (by simpa using o.f 0 F),bm,ai];refine⟨λf=>?_,λf=>?_⟩
 ·rw[aD,aD];exact⟨c-1,G,F,a+1,G,by rw[c9 d,Rl,au f];simp⟩
 ·rw[aD];exact⟨c-1,G,F,a+1,G,by rw[c9 d,Rl,an f];simp⟩
def o5(l:List aG)(a:List Int):Nat:=l.countP λb=>ji a b.G==1
def zf{l:List Int}:ji l x=0↔x∉l:=by
 unfold ji;rw[List.countP_eq_zero];constructor
 ·intro a b;exact a x b ae
 ·intro a c d e;have:c=x:=by simpa using e
  exact a (this▸d)
def nt(a:List aG)(b:List Int):Nat:=(a.map λc=>ji b c.G).sum
def VS{x:List aG}(g:(x.map (·.G)).Nodup)(a:Int)(f:List Int):nt x (a::f)=nt x f+(if a∈x.map (·.G)then 1 else 0):=by
 have h:∀b:Int,ji (a::f) b=ji f b+(if a=b then 1 else 0):=λb=>by unfold ji;rw[Ik];by_cases d:a=b<;>simp[d]
 induction x with
 |nil=>simp[nt]
 |cons b x ih=>
  rw[eB,List.nodup_cons]at g;have ih:=ih g.2;unfold nt at*;rw[eB,jJ,eB,jJ,ih,h b.G];by_cases e:a=b.G
  ·have c:a∉x.map (·.G):=by rw[e];exact g.1
   rw[au e,an c,au (by rw[eB,e];exact dv ..)];omega
  ·rw[an e];by_cases c:a∈x.map (·.G)
   ·rw[au c,au (by rw[eB];exact ey _ c)];omega
   ·rw[an c,an (by rw[eB,df];rintro(d|d);exact e d;exact c d)];omega
def ME{a:List aG}(e:(a.map (·.G)).Nodup):∀b:List Int,nt a b<=b.length/\(b.length<=nt a b->∀d∈b,d∈a.map (·.G))
 |[]=>by
  refine⟨?_,λ_ d c=>by cases c⟩;have:nt a []=0:=by
   clear e;unfold nt ji
   induction a with
   |nil=>rfl
   |cons i a ih=>rw[eB,jJ,ih];rfl
  omega
 |d::b=>by
  have ih:=ME e b;rw[VS e,d1];refine⟨by split<;>omega,λg h f=>?_⟩;by_cases c:d∈a.map (·.G)
  ·rw[au c]at g;rcases df.1 f with rfl|f
   ·exact c
   ·exact ih.2 G h f
  ·rw[an c]at g;omega
def Sf(a:List Int):∀b:List aG,o5 b a<=nt b a/\(nt b a<=o5 b a->∀d∈b,ji a d.G<=1)
 |[]=>⟨by simp[o5,nt],λ_ d g=>by cases g⟩
 |d::b=>by
  have ih:=Sf a b;unfold o5 nt at*;rw[Ik,eB,jJ];by_cases f:ji a d.G=1
  ·rw[au (by simpa using f)];refine⟨G,λh e c=>?_⟩;rcases df.1 c with rfl|c
   ·omega
   ·exact ih.2 G e c
  ·rw[an (by simpa using f)];refine⟨G,λh e c=>?_⟩;rcases df.1 c with rfl|c
   ·omega
   ·exact ih.2 G e c
def Rm{x:List Int}(a:x[n]? =J t):ji x t=ji (x.take n) t+1+ji (x.drop (n+1)) t:=by
 have b:x=x.take n++(t::x.drop (n+1)):=by rw[<-jw a,fi]
 conv=>lhs;rw[b]
 unfold ji;rw[No,Ik,au ae];omega
def akk{l:List aG}(k:(l.map (·.G)).Nodup)(a:List Int):o5 l a<a.length↔¬v7 (l.map (·.G)) a:=by
 have u:=ME k a;have v:=Sf a l;constructor
 ·intro x g;have y:∀(b:Nat) (c:Int),a[b]? =J c->ji a c=1:=by
   intro b c d;have e:=(dS.1 d).1;have h:a.getD b 0=c:=by rw[yi,d];rfl
   have p:=(g b e).2;rw[h,<-zf]at p;have z:ji (a.drop (b+1)) c=0:=by
    rw[zf];intro A;obtain⟨q,m⟩:=tr A;rw[kQ]at m;have B:=(dS.1 m).1;have C:a.getD (b+1+q) 0=c:=by rw[yi,m];rfl
    have r:=(g (b+1+q) B).2;rw[C]at r;exact r (XO.2 ⟨b,by rw[lN,au G];exact d⟩)
   rw[Rm d,p,z]
  have H:nt l a=a.length:=by
   have:∀(f:List Int),(∀c∈f,c∈l.map (·.G))->nt l f=f.length:=by
    intro f
    induction f with
    |nil=>intro _;have:=(ME k []).1;simp at this⊢;exact this
    |cons c f ih=>intro s;rw[VS k,ih λD n=>s D (ey _ n),au (s c (dv ..)),d1]
   refine this a λc d=>?_;obtain⟨b,e⟩:=tr d;have h:a.getD b 0=c:=by rw[yi,e];rfl
   have:=(g b (dS.1 e).1).1;rwa[h]at this
  have K:o5 l a=nt l a:=by
   have:∀i:List aG,o5 i a=nt i a:=by
    intro i
    induction i with
    |nil=>rfl
    |cons o i ih=>
     unfold o5 nt at*;rw[Ik,eB,jJ,ih];by_cases j:o.G∈a
     ·obtain⟨b,e⟩:=tr j;rw[y b _ e];simp;omega
     ·rw[zf.2 j];simp
   exact this l
  omega
 ·intro g;apply AI;intro x;apply g;have n:=u.2 G;have E:=v.2 G;intro b e;have d:a[b]? =J a[b]:=aX e;have h:a.getD b 0=a[b]:=by rw[yi,d];rfl
  rw[h];have t:=n a[b] (NU e);refine⟨t,?_⟩;obtain⟨o,j,F⟩:=eP.1 t;have:=E o j;rw[F,Rm d]at this;rw[<-zf];omega
def Sg{e:List aG}{x:aG}{c:List Int}(a:e[n]? =J x):o5 (e.take (n+1)) c=o5 (e.take n) c+(if ji c x.G=1 then 1 else 0):=by unfold o5;rw[c9 a,No];by_cases b:ji c x.G=1<;>simp[b]
variable{e:Z}
def agL{c:Z}{n:Int}{add:List aG}{rem:List Int}{l:List aG}(a2:0<=n/\n<=1099511627776)(f:D0 w v n l)(aU:l.length<=1000)(D:aC w e 1 iY rem)(a3:aC w c 5 bC add)(aV:add.length<=1000000)(a4:∀x∈l++add,x.c5.length<=2000000)(a5:(l.map (·.G)).Nodup):
 ak Y 88 [v,e,c] w λH m=>O w m/\∃u o,H=al (dq u o (nZ n l rem add)).toArray/\qA o/\(nZ n l rem add=0->u=n/\ar m w.heap.size 125 5 o bC (jo ((lH l rem++add).map hc))):=by
 obtain⟨o,rfl,aW,a7⟩:=f;apply Yy;refine bd (S:=dq n o 0) F λaZ bb bc be p a8=>?_;refine bo xd λbg q bh bi h V=>?_;have W:=a8.h h;have ae:=(a7.h p).h h;rw[M Ja qD (W.b.f 1 F),aS dZ.m ae];refine ba.bJ (λy r K=>O q K/\∃(i:Nat) (z:Z),i+y=l.length/\r=[z,I X (o5 (l.take i) rem),I X i]/\ar K q.heap.size 125 5 z bC (lH (l.take i) rem)) ⟨l.length,O.p _,0,_,G,F,ar.nil ..⟩ ?_;rintro y r a9 K ⟨b,i,z,bj,rfl,j⟩;simp only [av,bA];rw[aR,ai];have bk:(lH (l.take i) rem).length<=1000:=by unfold lH;have:=mH (λx:aG=>decide (x.G∉rem)) (l.take i);rw[bt]at this;omega
 have aA:o5 (l.take i) rem<=i:=by unfold o5;have:=HV (p:=λx:aG=>ji rem x.G==1) (l:=l.take i);rw[bt]at this;omega
 refine⟨λaB=>?_,λag=>?_⟩
 ·obtain⟨x,a⟩:∃x,l[i]? =J x:=⟨_,aX G⟩;refine dZ.dO (ae.h b) a F λbn L k aE bp aj=>?_;rw[M oi E (aj.b.f 0 F)];refine(agN (x:=x.G) ((((D.h p).h h).h b).h k)).o ?_;rintro H aH ⟨rfl,rfl⟩;refine bG.y (λr m=>O q m/\∃s,r=[s]/\ar m q.heap.size 125 5 s bC (lH (l.take (i+1)) rem)) ?_ ?_
  ·rw[bm,ai];refine⟨λA=>?_,λA=>?_⟩
   ·have P:x.G∉rem:=zf.1 G;rw[aF mQ aj.b F];refine dZ.push (j.h k) (b.a k).size G g λam ap aJ B aK=>?_;exact⟨(b.a k).ab B λt d=>(j.D t d).1,am,F,by rw[FU a,an P];exact aJ⟩
   ·have P:x.G∈rem:=XP.1 λf=>A (by rw[zf.2 f];rfl);exact⟨b.a k,z,F,by rw[FU a,au P,cT];exact j.h k⟩
  rintro r a9 ap ⟨aq,s,rfl,aw⟩;simp only [av];rw[bm,ai];refine⟨λaL=>?_,λaL=>?_⟩
  ·rw[aD,aD];exact⟨y-1,G,aq,i+1,s,G,by rw[Sg a,au G];simp,aw⟩
  ·rw[aD];exact⟨y-1,G,aq,i+1,s,G,by rw[Sg a,an G];simp,aw⟩
 rw[show i=l.length from G,cI]at j aA;have Q:=(p.a h).a b;have gv:=h.size;have br:=b.size;have bs:=p.size;have bu:=D.aD;rw[show i=l.length from G,cI,aS fW (D.h Q),aR,ai];have ay:=akk a5 rem;refine⟨λaB=>?_,λag=>?_⟩
 ·have aM:¬v7 (l.map (·.G)) rem:=ay.1 G;have R:nZ n l rem add=6:=by unfold nZ;rw[an aM]
  rw[R,Lc];refine er qJ pJ g (V.h b) F F (jl F) λL aE S bv=>?_;exact⟨Q.ab S λt d=>by cases d;omega,_,_,F,Ad,λf=>G⟩
 have aN:v7 (l.map (·.G)) rem:=XP.1 λf=>ag (by have:=ay.2 f;omega);have R:nZ n l rem add=nm n (lH l rem++add):=by unfold nZ;rw[au aN]
 have bw:(lH l rem).length<=1000:=by unfold lH;have:=mH (λx:aG=>decide (x.G∉rem)) l;omega
 refine dZ.ah j b.size (a3.h Q) G λam L aO S aK=>?_;have C:O q L:=b.ab S λt d=>(j.D t d).1;have bx:=C.size;rw[M Jb E ((W.h C).b.f 0 F)];refine(Ki a2 (aO.aI d0) λx a=>a4 x ?_).o ?_
 ·rcases b9.1 a with a|a
  ·exact b9.2 (.inl (fS.1 a).1)
  ·exact b9.2 (.inr a)
 rintro H aH ⟨U,u,aP,rfl,az,aT⟩;rw[R];have bz:=U.size;refine er qJ pJ g ((V.h C).h U) F F (jl az.2) λap b0 B b1=>?_;refine⟨(((p.a h).a C).a U).ab B λt d=>by cases d;omega,u,aP,F,az,λA=>?_⟩;obtain⟨rfl,a0⟩:=aT A;exact⟨F,(a0.ab B (fC a0 G)).o G⟩
def RD{l:List dx}(d:∀b∈l,IF b):∀a,a<=l.length->-(1600000000*a:Int)<=cx (l.take a)/\cx (l.take a)<=1600000000*a:=by
 intro a
 induction a with
 |zero=>intro _;simp[cx]
 |succ a ih=>intro f;obtain⟨b,c⟩:∃e,l[a]? =J e:=⟨_,aX G⟩;have:=ih G;have g:=(d b (cl c)).y;have h:=(d b (cl c)).z;rw[BF c];omega
def vI(l:List dx):Int:=match l.getLast? with|none=>0|some a=>a.1.2
def S7{x:dx}{l:List dx}(a:l[n]? =J x):vI (l.take (n+1))=x.1.2:=by unfold vI;rw[c9 a,NY]
def S6{l:List dx}(b:∀a∈l,a.1.2<=t)(c:0<=t):vI l<=t:=by
 unfold vI;cases d:l.getLast? with
 |none=>exact c
 |some a=>exact b a (N0 d)
variable{x:Z}{n:Int}
def agx{c:List aG}{d:List dx}(a8:D0 w x n c)(u:qx n c)(H:aC w e 4 gx d)(b:nF n t d):
 ak Y 153 [x,e] w λv ah=>O w ah/\D0 ah v t (jo (c.map (jV d))):=by
 obtain⟨a9,rfl,bk,aA⟩:=a8;apply Yx;have bm:=b.jA;have bn:=b.b4;have aB:=b.cF;have bp:=b.bl;have br:=u.bl;refine bd (S:=dq n a9 0) F λbu bv bx bz K aE=>?_;refine bo xd λb0 b1 b2 b3 z aG=>?_;have b5:=K.size;have gv:=z.size;refine(RH ((H.h K).h z) b.ay).o ?_;rintro v aH ⟨A,rfl⟩;rw[dD];show b6 (ax ao) _ _;have am:=(K.a z).a A;have b7:=A.size;have an:=(aE.h z).h A;have aK:=aG.h A;have ap:=H.h am;rw[cw,M Jb E (an.b.f 0 F),aS kf.m ap];have aL:=RD b.p2;refine ba.bJ (λl m B=>O aH B/\∃a:Nat,a+l=d.length/\m=[I X (n+cx (d.take a)),I X (vI (d.take a)),I X a]) ⟨d.length,O.p _,0,G,by simp[cx,vI]⟩ ?_;rintro l m aq B ⟨k,a,b8,rfl⟩;simp only [av,bA];rw[aR,ai];refine⟨λaM=>?_,λbB=>?_⟩
 ·obtain⟨h,o⟩:∃f,d[a]? =J f:=⟨_,aX G⟩;have bD:=(b.p2 h (cl o)).y;have bE:=(b.p2 h (cl o)).z;have bF:=aL a G;refine kf.dO (ap.h k) o F λbG p i bH bI L=>?_;have q:=L.b;rw[aj pN,M bP E (q.f 3 F),aj pN,M ce E (q.f 2 F),cd,aD,
   aj mU,M bP E (q.f 1 F),aj mU,M ce E (q.f 0 F),cd,cd,
   aj mU,M bP E (q.f 1 F),aD]
  refine⟨l-1,G,k.a i,a+1,G,?_⟩;rw[BF o,S7 o,show n+cx (d.take a)+(h.2.2-h.2.1)-(h.1.2-h.1.1)=n+(cx (d.take a)+((h.2.2-h.2.1)-(h.1.2-h.1.1)))from G]
  rfl
 rw[show a=d.length from G,cI,aB];have bK:=S6 b.qf G;have au:=an.h k;rw[M Jb E (au.b.f 0 F),cb,du G,cb,du G,M Ja qD (au.b.f 1 F)];have P:=am.a k;have bL:=k.size;have aw:=aA.h P;have aN:=H.h P;rw[aS dZ.m aw];refine ba.bJ (λl m p=>O B p/\∃(a:Nat) (Q:Z),a+l=c.length/\m=[Q,I X a]/\ar p B.heap.size 125 5 Q bC ((c.take a).map (jV d))) ⟨c.length,O.p _,0,_,G,F,ar.nil ..⟩ ?_;rintro aO m aq p ⟨i,R,Q,bM,rfl,D⟩;simp only [av,bA];rw[aR,ai];have bN:=i.size;refine⟨λaM=>?_,λbO=>?_⟩
 ·obtain⟨f,r⟩:∃f,c[R]? =J f:=⟨_,aX G⟩;have az:=ma.1 (u.ab f (cl r));refine dZ.dO (aw.h i) r F λaP aT j bQ bR a0=>?_;have a2:=a0.b;rw[M h2 E (a2.f 1 F),M yJ E (a2.f 2 F)];refine(Kh ((aN.h i).h j) b.ay ⟨az.1.2.1,G⟩ az.1.2.2.2).o ?_;rintro v aU ⟨S,rfl⟩;have aV:=j.size;have bS:=S.size;rw[aj h2];refine aZ (cS:=[I X (eC d 0 f.C f.aJ)]) bw g (a0.h S) F F (by simp[bC]) eY λa3 bT aW L=>?_;have aY:ag a3 aP (bC (jV d f)):=L;have U:O p a3:=(j.a S).ab aW λV s=>by cases s;omega
  rw[aF mQ aY.b F];refine dZ.push (D.h U) (i.a U).size (by simp;omega) g λbb bU bc be bV=>?_;rw[aD];exact⟨aO-1,G,(i.a U).ab be λV s=>(D.D V s).1,R+1,bb,G,ae,by rw[c9 r,dJ];exact bc⟩
 ·rw[show R=c.length from G,cI]at D;obtain⟨bg,bh⟩:=Mr u b;refine(Ki G (D.aI d0) λbW bi=>?_).o ?_
  ·obtain⟨f,r,rfl⟩:=eP.1 bi;have:=wo u f r;show f.c5.length<=_;omega
  rintro v aT ⟨j,bX,bj,rfl,a4,W⟩;rw[bg]at W⊢;rw[bh]at W;obtain⟨rfl,a5⟩:=W F;have aV:=j.size;refine er qJ pJ g (((aK.h k).h i).h j) F F (jl a4.2) λaU bY a7 bZ=>?_;exact⟨((P.a i).a j).ab a7 λV s=>by cases s;omega,bj,F,a4,(a5.ab a7 (fC a5 G)).aI d0⟩
def tD(w:aa)(v:Z)(b:Int)(c:List aB):Prop:=∃a,v=al (dq b a 0).toArray/\qA a/\aC w a 2 ah c
abbrev yw(w:aa)(a:Int)(b:List aB):aU:=λf d=>O w d/\∃e c,f=al (dq e c (gK a b)).toArray/\qA c/\(gK a b=0->e=a/\ar d w.heap.size 49 2 c ah (fE b))
variable{K:aU}
def Lb(a:Int):fo Y 39 [(2,I X a)] w K=K (al (dq 0 (aQ ac 0 0) a).toArray) w:=
 bz (S:=dq 0 (aQ ac 0 0) a) (iR:=[(2,[I X a])]) xe PM F F
def aiL(a:Int)(b:x.cells=[x].toArray):fo Y 39 [(0,I X a),(1,x)] w K=K (al (dq a x 0).toArray) w:=
 bz (S:=dq a x 0) (iR:=[(0,[I X a]),(1,[x])]) xe PM (by simp[b];rfl) F
def GC{l:List aB}(ci:0<=n/\n<=1099511627776)(ay:aC w x 2 ah l):ak Y 74 [I X n,x] w (yw w n l):=by
 apply YD;refine bo xe λaz a0 cj ck aO bu=>?_;have bv:=ay.h aO;rw[aR,du G,cb,du G,aS cm.m bv,cb,ai];refine⟨λa=>?_,λcn=>?_⟩
 ·rw[Lb];refine er oS mg g bu F F (jl F) λco cp bC cq=>?_;have:gK n l=5:=by unfold gK;rw[au G]
  unfold yw;rw[this];exact⟨aO.ab bC λc e=>by cases e;omega,_,_,F,Ad,λa=>G⟩
 have aP:gK n l=kC n [] l:=by unfold gK;rw[an G]
 unfold yw;rw[aP,aS cm.m bv];refine ba.bJ (λa2 j A=>O w A/\a0.heap.size<=A.heap.size/\ag A az [I X 0,aQ ac 0 0,I X 0]/\∃(i:Nat) (v:Z),i+a2=l.length/\j=[v,I X i]/\ar A a0.heap.size 49 2 v ah (fE (l.take i))/\kC n [] l=kC n (l.take i) (l.drop i))
  ⟨l.length,aO,a6 _,bu,0,_,G,F,ar.nil ..,F⟩ ?_
 rintro a2 j a3 A ⟨Q,cr,aT,i,v,cs,rfl,y,k⟩;simp only [av,bA];rw[aR,ai];refine⟨λct=>?_,λcu=>?_⟩
 ·obtain⟨d,a4⟩:∃d,l[i]? =J d:=⟨_,aX G⟩;rw[jw a4,kC]at k;refine cm.dO (ay.h Q) a4 F λcw aV R bD cx aW=>?_;have bw:=(ay.h Q).h R;have cy:=R.size;have a5:∀{B:Int} {m:aa},O aV m->kC n [] l=B->B≠0->fo Y 39 [(2,I X B)] m λd bE=>c4 Y 39 (ad (J ⟨az,0,ac⟩)) d bE λaY=>bU Y 39 (ad (J ⟨az,0,ac⟩)) aY λx o=>o=aY/\
   ((λbF o=>O w o/\∃bx aZ,bF=al (dq bx aZ (kC n [] l)).toArray/\qA aZ/\(kC n [] l=0->bx=n/\ar o w.heap.size 49 2 aZ ah (fE l))):aU) x aY:=by
   intro B m C bH aP;rw[Lb];refine er oS mg g ((aT.h R).h C) F F (jl F) λbI bK bL cz=>?_;rw[bH];exact⟨((Q.a R).a C).ab bL λc e=>by cases e;omega,_,_,F,Ad,λa=>aL a aP⟩
  have a7:=aW.b;rw[M ce E (a7.f 0 F),aR,ai];refine⟨λS=>a5 (O.p _) (by rw[k,au (by unfold nn;omega)]) g,λS=>?_⟩;rw[M ce E (a7.f 0 F),M bP E (a7.f 1 F),eE,ai];refine⟨λU=>a5 (O.p _) (by rw[k,au (by unfold nn;omega)]) g,λU=>?_⟩;rw[M bP E (a7.f 1 F),cb,ai];refine⟨λbM=>a5 (O.p _) (by rw[k,au (by unfold nn;omega)]) g,λbM=>?_⟩;rw[an (λa=>a ⟨G,G,G⟩)]at k;rw[GW cm.m cm.bk cm.cN bw F G];have bb:=bw.ag (aw:=0) (bD:=i) (ds:=cC x) (ec _) G (by obtain⟨c1,c2,rfl,c3,c5,c6⟩:=ay;simp only [cC];omega) (a6 _);rw[h6]at bb;have bN:(l.take i).length=i:=by rw[bt];omega
  rw[aS cm.m bb,bN];refine ba.bJ (λbc j q=>O aV q/\∃h:Nat,h+bc=i/\j=[I X h]/\d∉l.take h) ⟨i,O.p _,0,G,F,ae⟩ ?_;rintro bc j a3 q ⟨D,h,c7,rfl,b0⟩;simp only [av];rw[aR,ai];refine⟨λc8=>?_,λcA=>?_⟩
  ·obtain⟨f,s⟩:∃f,l[h]? =J f:=⟨_,aX G⟩;refine cm.dO (bb.h D) (i:=h) (x:=f) (by rw[lN,au G];exact s) F λcB bI bd bK cD bO=>?_;rw[aF cP ((aW.h D).h bd).b F,aF cP bO.b F,Mu,ai];refine⟨λbe=>?_,λbe=>?_⟩
   ·have bQ:d∈l.take i:=by rw[be];exact XO.2 ⟨h,by rw[lN,au G];exact s⟩
    exact a5 (D.a bd) (by rw[k,au bQ]) g
   ·rw[aD];refine⟨bc-1,G,D.a bd,h+1,G,ae,λa=>?_⟩;rw[c9 s]at a;rcases b9.1 a with a|a
    ·exact b0 a
    ·exact be (cL.1 a)
  obtain rfl:h=i:=G;rw[an b0]at k;have a8:O A q:=R.a D;have cE:=a8.size;have bR:=y.h a8;have b1:=bR.aI e_;have b2:=aW.h D;have cF:(fE (l.take h)).length=h:=by rw[(wh _).length_eq,bt];omega
  have bT:fE (l.take (h+1))=kG d (fE (l.take h)):=by rw[c9 a4,alH]
  generalize cG:fE (l.take h)=r at*;rw[aS cm.m b1];refine ba.bJ (λbg j H=>O q H/\∃(b:Nat) (L:Z) (put:Bool) (t:List aB),b+bg=r.length/\j=[L,ax put,I X b]/\ar H q.heap.size 49 2 L ah t/\((put=ao/\t=r.take b/\∀f∈r.take b,kI d f=ao)\/(put=af/\t=kG d (r.take b)/\∃f∈r.take b,kI d f=af)))
   ⟨r.length,O.p _,0,_,ao,[],G,F,ar.nil ..,.inl ⟨F,F,λf s=>by simp at s⟩⟩ ?_
  rintro bg j a3 H ⟨p,V,L,put,t,cH,rfl,W,aj⟩;simp only [av,bA];have cJ:t.length<=V+1:=by
   rcases aj with⟨_,rfl,_⟩|⟨_,rfl,_⟩
   ·rw[bt];omega
   ·rw[(FH d _).length_eq,d1,bt];omega
  rw[aR,ai];refine⟨λcK=>?_,λcM=>?_⟩
  ·obtain⟨f,s⟩:∃f,r[V]? =J f:=⟨_,aX G⟩;refine cm.dO (b1.h p) s F λbh bV P cQ cR am=>?_;have b3:=W.h P;have a9:∀c,L.ownBlock=J c->q.heap.size<=c/\c<H.heap.size:=λc e=>W.D c e;have bW:=p.size;have cS:=P.size;have aA:=((b2.h p).h P).b;refine bG.y (λj o=>O q o/\H.heap.size<=o.heap.size/\∃(aE:Z) (b:Bool),j=[aE,ax (put||b)]/\ag o bh (ah f)/\(∀c,aE.ownBlock=J c->c≠bh)/\ar o q.heap.size 49 2 aE ah (t++if b then [d]else [])/\(b=af↔put=ao/\kI d f=af)) ?_ ?_
   ·refine bG.y (λj o=>o=bV/\∃b:Bool,j=[ax b]/\(b=af↔put=ao/\kI d f=af)) ?_ ?_
    ·rw[dD,dQ];refine⟨λbi=>?_,λbi=>⟨F,ao,F,by cases put<;>simp_all⟩⟩;have z:put=false:=by cases put<;>simp_all
     rw[M ce E (aA.f 0 F),M ce E (am.b.f 0 F),aR,ai];refine⟨λS=>⟨F,af,F,by simp[z,kI,S]⟩,λS=>?_⟩;rw[M ce E (aA.f 0 F),M ce E (am.b.f 0 F),bm,ai];refine⟨λU=>?_,λU=>⟨F,ao,F,by simp[z,kI,S,U]⟩⟩;rw[M bP E (aA.f 1 F),M bP E (am.b.f 1 F),aR];exact⟨F,_,F,by simp[z,kI,U]⟩
    rintro j a3 cU ⟨rfl,b,rfl,aG⟩;simp only [av];rw[dQ];refine⟨λb4=>?_,λb5=>?_⟩
    ·rw[aF cP aA F];refine cm.push b3 (p.a P).size G g λap bX aH bl bn=>?_;refine⟨(p.a P).ab bl λc e=>(a9 c e).1,by have:=bl.size;omega,ap,b,by rw[b4];simp,am.ab bl (λB=>by have:=(a9 bh B.symm).2;omega),λc e=>?_,by rw[b4];exact aH,aG⟩;rcases bn with a|a
     ·rw[a]at e;have:=(a9 c e).2;omega
     ·have:=a c e;omega
    ·exact⟨p.a P,G,L,b,by rw[b5];simp,am,λc e=>by have:=(a9 c e).2;omega,by rw[b5];simpa using b3,aG⟩
   rintro j a3 bX ⟨b6,cV,aE,b,rfl,bY,cW,aH,aG⟩;simp only [av,bA];rw[aF cP bY.b F];have cY:(t++if b then [d]else []).length<=V+2:=by rw[bf];split<;>simp<;>omega
   refine cm.push aH b6.size G g λap bS bp br bn=>?_;rw[aD];refine⟨bg-1,G,b6.ab br λc e=>(aH.D c e).1,V+1,ap,put||b,(t++if b then [d]else [])++[f],G,ae,bp,?_⟩;rw[c9 s];rcases aj with⟨rfl,rfl,aJ⟩|⟨rfl,rfl,bZ⟩
   ·by_cases aK:kI d f=af
    ·have ca:b=true:=aG.2 ⟨F,aK⟩;subst ca;refine .inr ⟨F,?_,f,ae,aK⟩;rw[KN aJ];simp[kG,aK]
    ·have bs:b=false:=by cases b<;>simp_all
     subst bs;refine .inl ⟨F,ae,λaM u=>?_⟩;rcases b9.1 u with u|u
     ·exact aJ aM u
     ·rw[cL.1 u];exact wG.2 aK
   ·have bs:b=false:=by cases b<;>simp_all
    subst bs;obtain⟨aM,u,b7⟩:=bZ;refine .inr ⟨F,?_,aM,b9.2 (.inl u),b7⟩;rw[SO ⟨aM,u,b7⟩];simp
  ·have cd:V=r.length:=G;rw[cd,cI]at aj;have bW:=p.size;rw[dD,dQ];have bj:∀(aN:Z) (m:aa),O q m->ar m q.heap.size 49 2 aN ah (kG d r)->∃b8,b8<a2/\O w m/\a0.heap.size<=m.heap.size/\ag m az [I X 0,aQ ac 0 0,I X 0]/\∃(aq:Nat) (v:Z),aq+b8=l.length/\[aN,I X ((h:Int)+1)]=[v,I X aq]/\ar m a0.heap.size 49 2 v ah (fE (l.take aq))/\kC n [] l=kC n (l.take aq) (l.drop aq):=by
    intro aN m C cf;refine⟨a2-1,G,(Q.a a8).a C,by have:=C.size;omega,(aT.h a8).h C,h+1,aN,G,ae,?_,?_⟩
    ·rw[bT];exact cf.o G
    ·rw[k,c9 a4]
   refine⟨λbi=>?_,λbi=>?_⟩
   ·have z:put=false:=by cases put<;>simp_all
    rcases aj with⟨_,cg,aJ⟩|⟨a,_⟩
    ·rw[aF cP (b2.h p).b F];refine cm.push W p.size G g λap bS bp br bn=>?_;rw[aD];refine bj ap bS (p.ab br λc e=>(W.D c e).1) ?_;have a:=KN (x:=d) (A:=r) (B:=[]) aJ;rw[cT]at a;rw[a,<-cg];exact bp
    ·rw[z]at a;cases a
   ·have z:put=true:=by cases put<;>simp_all
    rcases aj with⟨a,_⟩|⟨_,rfl,_⟩
    ·rw[z]at a;cases a
    ·rw[aD];exact bj L H p W
 ·have bz:i=l.length:=G;rw[bz,cI]at y k;rw[mc]at k;have ch:kC n [] l=0:=by rw[k];rfl
  rw[aiL n y.M.1];refine er oS mg g aT F F (jl y.M.2) λaV bD bB db=>?_;rw[ch];exact⟨Q.ab bB λc e=>by cases e;omega,n,v,F,y.M,λ_=>⟨F,(y.ab bB (fC y G)).o G⟩⟩
def agC(a b:aB):ak Y 72 [al (ah a).toArray,al (ah b).toArray] w λg h=>O w h/\g=ax (decide (a.1<b.2/\b.1<a.2)):=by apply YJ;refine bd (S:=ah a) F λm n o p d j=>?_;refine bd (S:=ah b) F λq r s t c k=>?_;have e:=(j.h c).b;have f:=k.b;rw[M ce E (e.f 0 F),M bP E (f.f 1 F),aR,ai];refine⟨λl=>?_,λl=>⟨d.a c,by rw[db G]⟩⟩;rw[M ce E (f.f 0 F),M bP E (e.f 1 F),aR];refine⟨d.a c,?_⟩;congr 1;rw[decide_eq_decide];omega
structure DT (L cur A:List aB) (c:aB) (bc:List aB):Prop where
 N:cur=A++c::bc
 r:l3 L=A++mw c bc
 Q:∀y∈bc,c.1<=y.1
 z:∃n,oN n bc
 ek:c.1<c.2
def Kf{x:List aB}(y:tD w v t x)(a3:od t x):ak Y 33 [v] w λa4 z=>O w z/\ar z w.heap.size 49 2 a4 ah (l3 x):=by
 obtain⟨aM,rfl,bI,aN⟩:=y;apply YF;have aO:=a3.bl;refine bd (S:=dq t aM 0) F λbL d bM bN A aP=>?_;have bO:=A.size;rw[M yO kb (aP.b.f 1 F)];refine cm.ah (ar.nil d d.heap.size 49 2 ah) (a6 _) (aN.h A) (by simp;omega) λa5 aT P aU bQ=>?_;have a7:O d aT:=O.ab (O.p d) aU λm h=>by cases h
 rw[fc]at P;refine ba.bJ (λR n i=>O d i/\∃(o:Nat) (j:Z) (k:List aB),n=[I X o,j]/\ar i d.heap.size 49 2 j ah k/\k.length<=60/\((k=[]/\x=[]/\o=0/\R=0)\/∃b a bc,DT x k b a bc/\b.length=o/\bc.length=R)) ?_ ?_
 ·cases x with
  |nil=>exact⟨0,a7,0,a5,[],F,P,ae,.inl ⟨F,F,F,F⟩⟩
  |cons a bc=>have S:=a3.cm;exact⟨bc.length,a7,0,a5,a::bc,F,P,aO,.inr ⟨[],a,bc,⟨F,F,S.2.2.2.1,⟨t,S.2.2.2.2⟩,S.2.1⟩,F,F⟩⟩
 rintro R n aV i ⟨p,o,j,k,rfl,q,B,U⟩;simp only [av,bA];have bR:o<=60:=by
  rcases U with⟨_,_,rfl,_⟩|⟨b,a,bc,hd,rfl,_⟩
  ·omega
  ·have:=hd.N;rw[this]at B;simp at B;omega
 rw[aD,aS cm.m (q.aI e_),aR,ai];refine⟨λV=>?_,λa8=>?_⟩
 ·rcases U with⟨rfl,_,rfl,_⟩|⟨b,a,bc,hd,rfl,rfl⟩
  ·simp at V
  cases bc with
  |nil=>have:=hd.N;rw[this]at V;simp at V
  |cons c bc=>
   have aW:=hd.N;subst aW;have C:=q.aI e_;have D:(b++a::c::bc)[b.length]? =J a:=ae;have H:(b++a::c::bc)[b.length+1]? =J c:=by rw[oI G];simp
   have bS:(b++a::c::bc).length=b.length+2+bc.length:=by simp;omega
   obtain⟨aY,aZ,W,a9⟩:=C.m D;obtain⟨bb,be,aj,aA⟩:=C.m H;obtain⟨aC,K⟩:=hd.z;have bT:=hd.Q c (dv ..);have bg:=K.2.1;apply bE.h;have l:O i i.drew:=(O.p i).C;rw[aK (λd r am=>cr cm.m cm.bk cm.cN (C.h r) D F) l,W,gX cm.bd a9 F l,aK (λd r am=>aD) l,aK (λd r am=>cr cm.m cm.bk cm.cN (C.h r) H G) l,aj,gX cm.bd aA F l];refine(agC a c).o ?_;rintro a4 ap ⟨bh,rfl⟩;have e:=l.a bh;refine⟨e,?_⟩;rw[aK (λd r am=>dD _) e,dQ];have aE:=q.h e;have f:=aE.aI e_;refine⟨λbi=>?_,λbj=>?_⟩
   ·have bm:¬c.1<a.2:=λy=>by simp at bi;omega
    rw[aD];refine⟨bc.length,ae,p.a e,b.length+1,j,_,ae,aE,B,.inr ⟨b++[a],c,bc,⟨ae,?_,K.2.2.2.1,⟨aC,K.2.2.2.2⟩,bg⟩,ae,F⟩⟩;rw[hd.r,mw,an bm];simp
   ·have bn:c.1<a.2:=by simp at bj;omega
    have aF:∀{s:aa},O ap s->cA s aY aZ (ah a):=λaq=>(a9.h e).h aq;have aG:∀{s:aa},O ap s->cA s bb be (ah c):=λaq=>(aA.h e).h aq;rw[cr cm.m cm.bk cm.cN f D F,W,M bP E ((aF (O.p _)).f 1 F)];refine bG.y (λn z=>z=ap/\n=[I X (max a.2 c.2)]) ?_ ?_
    ·rw[aD,cr cm.m cm.bk cm.cN f H G,aj,M bP E ((aG (O.p _)).f 1 F),cb,ai];refine⟨λy=>?_,λy=>⟨F,by rw[show max a.2 c.2=a.2 from G]⟩⟩;rw[aD,cr cm.m cm.bk cm.cN f H G,aj,M bP E ((aG (O.p _)).f 1 F)];exact⟨F,by rw[show max a.2 c.2=c.2 from G]⟩
    rintro n aV u ⟨rfl,rfl⟩;simp only [av];rw[oA cm.m cm.bk cm.cN f F G];have aH:=f.ag (aw:=0) (bD:=b.length) (ds:=cC j) (ec _) G (by obtain⟨br,bs,ay,bu,bv,bw⟩:=f;rw[ay];simp only [cC];omega) (a6 _);rw[h6,List.take_left' F]at aH;refine cm.ah (ar.nil u u.heap.size 49 2 ah) (a6 _) aH (by simp;omega) λbU bx az bz _=>?_;have L:O u bx:=O.ab (O.p _) bz λm h=>by cases h
    rw[fc]at az;have b0:=f.h L;rw[cr cm.m cm.bk cm.cN b0 D F,W,M ce E ((aF L).f 0 F),sX];refine cm.push az L.size G g λbV b1 aJ b2 _=>?_;have a0:O u b1:=L.ab b2 λm h=>(az.D m h).1;have a2:=f.h a0;rw[aD,pe cm.m cm.bk cm.cN a2 (aw:=b.length+2) G G];have aL:=a2.ag (aw:=b.length+2) (bD:=(b++a::c::bc).length) (ds:=cC j) G (a6 _) (by obtain⟨br,bs,ay,bu,bv,bw⟩:=a2;rw[ay];simp only [cC];omega) (a6 _);have b3:((b++a::c::bc).take (b++a::c::bc).length).drop (b.length+2)=bc:=by rw[cI,List.drop_append];simp
    rw[b3]at aL;refine cm.ah aJ a0.size aL (by simp;omega) λb4 b5 b6 b7 _=>?_;have b8:O u b5:=a0.ab b7 λm h=>(aJ.D m h).1;have bW:=e.size;have bX:=p.size;refine⟨bc.length,ae,(p.a e).a b8,b.length,b4,_,F,b6.o G,by simp at B⊢;omega,.inr ⟨b,(a.1,max a.2 c.2),bc,⟨ae,?_,λbB bC=>?_,⟨aC,K.2.2.2.2⟩,?_⟩,F,F⟩⟩
    ·rw[hd.r,mw,au bn]
    ·have:=hd.Q bB (ey _ bC);exact this
    ·have:=hd.ek;dsimp only;omega
 ·rcases U with⟨rfl,rfl,rfl,_⟩|⟨b,a,bc,hd,rfl,rfl⟩
  ·exact⟨A.a p,q.o G⟩
  ·have bD:bc=[]:=by have:=hd.N;rw[this]at a8;simp at a8;exact ig G
   subst bD;have bF:=hd.N;have bH:=hd.r;have:k=l3 x:=by rw[bF,bH];rfl
   rw[<-this];exact⟨A.a p,q.o G⟩
def akn{e:List aB}{x:aB}(r:0<=t/\t<=1099511627776)(s:tD w v t e)(W:e.length<=1000):ak Y 86 [v,al (ah x).toArray] w (yw w t (e++[x])):=by
 obtain⟨u,rfl,ae,y⟩:=s;apply YE;refine bd (S:=dq t u 0) F λag ai aj am l A=>?_;refine bd (S:=ah x) F λan ap aq au f B=>?_;refine bo xe λav b aw ay c C=>?_;have az:=l.size;have gv:=f.size;have a0:=c.size;have m:=(l.a f).a c;have n:=(A.h f).h c;have D:=B.h c;rw[M yO kb (n.b.f 1 F)];refine cm.ah (ar.nil b b.heap.size 49 2 ah) (a6 _) (y.h m) (by simp;omega) λa2 H h K _=>?_;have i:O b H:=O.ab (O.p _) K λj a=>by cases a
 rw[fc]at h;rw[aF cP (D.h i).b F];refine cm.push h i.size G g λa3 L P Q _=>?_;have d:O b L:=i.ab Q λj a=>(h.D j a).1;have a4:=d.size;rw[M Bg E ((n.h d).b.f 0 F)];refine(GC r (P.aI e_)).o ?_;rintro a5 a7 ⟨k,R,S,rfl,o,U⟩;have a8:=k.size;refine er oS mg g ((C.h d).h k) F F (jl o.2) λa9 aA p aB=>?_;refine⟨((m.a d).a k).ab p λj a=>by cases a;omega,R,S,F,o,λV=>?_⟩;obtain⟨rfl,q⟩:=U V;exact⟨F,(q.ab p (fC q G)).o G⟩
def Uw{x:List aB}{n:Nat}{e c:aB}(a:x[n]? =J c):gW (x.take (n+1)) e=gW (x.take n) e++(if e.2<c.1\/c.2<e.1 then [c]else []):=by unfold gW;rw[c9 a,jd];congr 1;by_cases b:e.2<c.1\/c.2<e.1<;>simp[b]
def akq{e:List aB}{x:aB}(W:0<=t/\t<=1099511627776)(m:tD w v t e)(aM:e.length<=1000):ak Y 87 [v,al (ah x).toArray] w λf b=>
 (¬(0<=x.1/\x.1<=x.2/\x.2<=t)/\O w b/\f=al (dq 0 (aQ ac 0 0) 1).toArray)\/((0<=x.1/\x.1<=x.2/\x.2<=t)/\yw w t (gW e x) f b):=by
 obtain⟨ag,rfl,aN,K⟩:=m;apply YH;refine bd (S:=dq t ag 0) F λaO aP aT aV L am=>?_;refine bd (S:=ah x) F λaW aY aZ bb r ap=>?_;refine bo xe λP s bc be n Q=>?_;have bg:=L.size;have gv:=r.size;have bh:=n.size;have o:=(L.a r).a n;have u:=(am.h r).h n;have i:=ap.h n;have y:¬(0<=x.1/\x.1<=x.2/\x.2<=t)->fo Y 39 [(2,I X 1)] s λaq aw=>c4 Y 39 (ad (J ⟨P,0,ac⟩)) aq aw λz=>bU Y 39 (ad (J ⟨P,0,ac⟩)) z λv b=>b=z/\
  ((λf b=>(¬(0<=x.1/\x.1<=x.2/\x.2<=t)/\O w b/\f=al (dq 0 (aQ ac 0 0) 1).toArray)\/((0<=x.1/\x.1<=x.2/\x.2<=t)/\yw w t (gW e x) f b)):aU) v z:=by
  intro ay;rw[Lb];refine er oS mg g Q F F (jl F) λaz bi a0 bj=>?_;exact .inl ⟨ay,o.ab a0 λA j=>by cases j;omega,F⟩
 rw[M ce E (i.b.f 0 F),aR,ai];refine⟨λa2=>y G,λa2=>?_⟩;rw[M ce E (i.b.f 0 F),M bP E (i.b.f 1 F),cb,ai];refine⟨λa3=>y G,λa3=>?_⟩;rw[M bP E (i.b.f 1 F),M Bg E (u.b.f 0 F),cb,ai];refine⟨λa4=>y G,λa4=>?_⟩;rw[M yO kb (u.b.f 1 F),aS cm.m (K.h o)];refine ba.bJ (λp k B=>O s B/\∃(a:Nat) (q:Z),a+p=e.length/\k=[q,I X a]/\ar B s.heap.size 49 2 q ah (gW (e.take a) x)) ⟨e.length,O.p _,0,_,G,F,ar.nil ..⟩ ?_;rintro p k a5 B ⟨c,a,q,bk,rfl,l⟩;simp only [av,bA];rw[aR,ai];have bl:(gW (e.take a) x).length<=1000:=by unfold gW;have:=mH (λd:aB=>decide (x.2<d.1\/d.2<x.1)) (e.take a);rw[bt]at this;omega
 have bm:=c.size;refine⟨λbn=>?_,λbp=>?_⟩
 ·obtain⟨d,C⟩:∃d,e[a]? =J d:=⟨_,aX G⟩;refine cm.dO ((K.h o).h c) C F λbr a7 h bs bu D=>?_;have R:=((i.h c).h h).b;refine bG.y (λk b=>b=a7/\k=[ax (decide (x.2<d.1\/d.2<x.1))]) ?_ ?_
  ·rw[M ce E (D.b.f 0 F),M bP E (R.f 1 F),cb,ai];refine⟨λm=>⟨F,by rw[eK (.inl m)]⟩,λm=>?_⟩;rw[M bP E (D.b.f 1 F),M ce E (R.f 0 F),aR];refine⟨F,?_⟩;congr 2;rw[decide_eq_decide];omega
  rintro k a5 az ⟨rfl,rfl⟩;simp only [av];rw[ai];refine⟨λa8=>?_,λa9=>?_⟩
  ·rw[aF cP D.b F];refine cm.push (l.h h) (c.a h).size G g λaA aC aE aG bv=>?_;rw[aD];exact⟨p-1,G,(c.a h).ab aG λA j=>(l.D A j).1,a+1,aA,G,ae,by rw[Uw C,au a8];exact aE⟩
  ·rw[aD];exact⟨p-1,G,c.a h,a+1,q,G,ae,by rw[Uw C,an a9,cT];exact l.h h⟩
 ·rw[show a=e.length from G,cI]at l;rw[M Bg E ((u.h c).b.f 0 F)];refine(GC W (l.aI e_)).o ?_;rintro f aC ⟨H,aH,aJ,rfl,S,aK⟩;have bw:=H.size;refine er oS mg g ((Q.h c).h H) F F (jl S.2) λbx bz U b0=>?_;refine .inr ⟨⟨G,G,G⟩,((o.a c).a H).ab U λA j=>by cases j;omega,aH,aJ,F,S,λaL=>?_⟩;obtain⟨rfl,V⟩:=aK aL;exact⟨F,(V.ab U (fC V G)).o G⟩
def X4(w:aa)(b:Z)(c:Int)(d:List aB):Prop:=∃a,b=al (dq c a 0).toArray/\qA a/\mP w a d
def akr{c:List aB}{l:List dx}(f:tD w x n c)(ok:od n c)(aE:aC w e 4 gx l)(h:nF n t l):
 ak Y 154 [x,e] w λj v=>O w v/\X4 v j t (fE (i_ l c)):=by
 obtain⟨bB,rfl,ci,bC⟩:=f;apply YI;have cj:=h.jA;have ck:=h.b4;have bD:=h.cF;have cn:=h.bl;have co:=ok.bl;refine bd (S:=dq n bB 0) F λcq bF cr cs aG bH=>?_;refine bo xe λct cu cy cz a4 bI=>?_;have c0:=aG.size;have gv:=a4.size;refine(RH ((aE.h aG).h a4) h.ay).o ?_;rintro j bK ⟨a5,rfl⟩;rw[dD];show b6 (ax ao) _ _;have aY:=(aG.a a4).a a5;have c1:=a5.size;have bb:=(bH.h a4).h a5;have bL:=bI.h a5;have bc:=aE.h aY;rw[cw,M Bg E (bb.b.f 0 F),aS kf.m bc];have bM:=RD h.p2;refine ba.bJ (λS m a7=>O bK a7/\∃b:Nat,b+S=l.length/\m=[I X (n+cx (l.take b)),I X (vI (l.take b)),I X b]) ⟨l.length,O.p _,0,G,by simp[cx,vI]⟩ ?_;rintro S m L a7 ⟨P,b,c2,rfl⟩;simp only [av,bA];rw[aR,ai];refine⟨λbN=>?_,λc3=>?_⟩
 ·obtain⟨p,U⟩:∃a,l[b]? =J a:=⟨_,aX G⟩;have bO:=(h.p2 p (cl U)).y;have c4:=(h.p2 p (cl U)).z;have c5:=bM b G;refine kf.dO (bc.h P) U F λc6 V o c7 c8 bQ=>?_;have W:=bQ.b;rw[aj pN,M bP E (W.f 3 F),aj pN,M ce E (W.f 2 F),cd,aD,
   aj mU,M bP E (W.f 1 F),aj mU,M ce E (W.f 0 F),cd,cd,
   aj mU,M bP E (W.f 1 F),aD]
  refine⟨S-1,G,P.a o,b+1,G,?_⟩;rw[BF U,S7 U,show n+cx (l.take b)+(p.2.2-p.2.1)-(p.1.2-p.1.1)=n+(cx (l.take b)+((p.2.2-p.2.1)-(p.1.2-p.1.1)))from G]
  rfl
 rw[show b=l.length from G,cI,bD];have cA:=S6 h.qf G;have be:=bb.h P;rw[M Bg E (be.b.f 0 F),cb,du G,cb,du G,M yO kb (be.b.f 1 F)];have aH:=aY.a P;have cB:=P.size;have bg:=bC.h aH;have bh:=aE.h aH;rw[aS cm.m bg];refine ba.bJ (λS m V=>O a7 V/\∃(b:Nat) (a8:Z),b+S=c.length/\m=[a8,I X b]/\ar V a7.heap.size 49 2 a8 ah (i_ l (c.take b))) ⟨c.length,O.p _,0,_,G,F,ar.nil ..⟩ ?_;rintro bi m L V ⟨o,Q,a8,cC,rfl,a9⟩;simp only [av,bA];rw[aR,ai];have cD:=o.size;refine⟨λbN=>?_,λcE=>?_⟩
 ·obtain⟨a,aJ⟩:∃a,c[Q]? =J a:=⟨_,aX G⟩;have bj:=ok.az a (cl aJ);unfold nn at bj;have cG:=(Mn ok h Q G).1;refine cm.dO (bg.h o) aJ F λcH z q cJ cK bk=>?_;have bR:=q.size;have bm:∀{r:aa},O z r->ak Y 227 [e,I X a.1,I X 1] r λj v=>O r v/\j=I X (eC l 0 a.1 1):=λam=>Kh (((bh.h o).h q).h am) h.ay ⟨bj.1,G⟩ (.inr F);have aM:∀{r:aa},O z r->ak Y 227 [e,I X a.2,I X 0] r λj v=>O r v/\j=I X (eC l 0 a.2 0):=λam=>Kh (((bh.h o).h q).h am) h.ay ⟨G,G⟩ (.inl F);have mk:∀{r:aa} {bn:Z->Prop},O z r->cW (O z) r (λw s=>fo Y 49 [(0,I X (eC l 0 a.1 1)),(1,I X (eC l 0 a.2 0))] w s) bn=bn (al (ah (hl l a)).toArray):=λam=>aK (λbF bO cM=>sX _ _) am;refine bG.y (λm v=>O V v/\∃u,m=[ad (J ⟨u,0,ac⟩)]/\ag v u (ah (hl l a))/\z.heap.size<=u) ?_ ?_
  ·apply bE.h;have D:O z z.drew:=(O.p z).C;have cN:=D.size;rw[b2 ce E (bk.b.f 0 F) D,b2 bP E (bk.b.f 1 F) D];refine⟨(bm D).o ?_,?_⟩
   ·rintro j aN ⟨H,rfl⟩;have R:=D.a H;have bS:=R.size;refine⟨R,(aM R).o ?_,?_⟩
    ·rintro j aO ⟨i,rfl⟩;have ap:=R.a i;have bT:=ap.size;refine⟨ap,?_⟩;rw[mk ap];refine bo dg λu aA aP aT k A=>⟨ap.a k,?_⟩;refine aZ (cS:=ah (hl l a)) dj g A F F ae (dk _) λbp br aq aw=>?_;exact⟨((q.a ap).a k).ab aq λa0 B=>by cases B;omega,u,F,aw,G⟩
    ·refine bo dg λu aA aP aT k A=>⟨R.a k,?_⟩;have a2:=R.a k;refine(aM a2).o ?_;rintro j bU ⟨a3,rfl⟩;have K:=a2.a a3;refine⟨K,?_⟩;rw[mk K];refine aZ (cS:=ah (hl l a)) dj g (A.h a3) F F ae (dk _) λbp br aq aw=>?_;exact⟨(q.a K).ab aq λa0 B=>by cases B;omega,u,F,aw,G⟩
   ·refine bo dg λu aA aP aT k A=>⟨D.a k,?_⟩;have a2:=D.a k;refine(bm a2).o ?_;rintro j bU ⟨a3,rfl⟩;have K:=a2.a a3;refine⟨K,(aM K).o ?_⟩;rintro j cQ ⟨bs,rfl⟩;have aU:=K.a bs;refine⟨aU,?_⟩;rw[mk aU];refine aZ (cS:=ah (hl l a)) dj g ((A.h a3).h bs) F F ae (dk _) λbp br aq aw=>?_;exact⟨(q.a aU).ab aq λa0 B=>by cases B;omega,u,F,aw,G⟩
  rintro m L aN ⟨H,u,rfl,A,aP⟩;simp only [av];have bu:=A.b;have aV:=a9.h H;have bv:=aV.aI e_;rw[M ce E (bu.f 0 F),M bP E (bu.f 1 F),eE,aS cm.m bv];have bw:=G0 (l:=l) aJ;generalize i_ l (c.take Q)=C at*;generalize hl l a=d at*;have bS:=H.size;refine ba.bJ (λaB m aO=>O aN aO/\∃s:Nat,s+aB=C.length/\m=[ax (decide (d∈C.take s\/d.2<=d.1)),I X s]) ⟨C.length,O.p _,0,G,ae⟩ ?_;rintro aB m L aO ⟨i,s,cR,rfl⟩;simp only [av,bA];rw[aR,ai];have bT:=i.size;refine⟨λcS=>?_,λcU=>?_⟩
  ·obtain⟨bx,aW⟩:∃bx,C[s]? =J bx:=⟨_,aX G⟩;refine cm.dO (bv.h i) aW F λcV aA k aT cY bV=>?_;rw[ai];refine⟨λbW=>?_,λb0=>?_⟩
   ·rw[aD];refine⟨aB-1,G,i.a k,s+1,G,?_⟩;rw[eK (by rw[c9 aW];rcases bW with f|f;(·exact .inl (b9.2 (.inl f)));exact .inr f)]
    rfl
   ·rw[aF cP ((A.h i).h k).b F,aF cP bV.b F,Mu,aD];refine⟨aB-1,G,i.a k,s+1,G,?_⟩;congr 2;rw[decide_eq_decide,c9 aW,b9,cL];constructor
    ·intro f;exact .inl (.inr f)
    ·rintro((f|f)|f)
     ·exact aL (.inl f) b0
     ·exact f
     ·exact aL (.inr f) b0
  ·rw[show s=C.length from G,cI,dD,dQ];refine⟨λb1=>?_,λb1=>?_⟩
   ·have bX:¬(d∈C\/d.2<=d.1):=by simpa using b1
    rw[aF cP (A.h i).b F];refine cm.push (aV.h i) (o.a (H.a i)).size G g λbY aA bZ ca cZ=>?_;rw[aD];refine⟨bi-1,G,(o.a (H.a i)).ab ca λa0 B=>(a9.D a0 B).1,Q+1,bY,G,ae,?_⟩;rw[bw];unfold q8;rw[an bX];exact bZ
   ·have cf:d∈C\/d.2<=d.1:=by
     have:decide (d∈C\/d.2<=d.1)=true:=by cases hd:decide (d∈C\/d.2<=d.1)<;>simp_all
     simpa using this
    rw[aD];refine⟨bi-1,G,o.a (H.a i),Q+1,a8,G,ae,?_⟩;rw[bw];unfold q8;rw[au cf];exact aV.h i
 ·rw[show Q=c.length from G,cI]at a9;refine(GC G (a9.aI e_)).o ?_;rintro j z ⟨q,da,cg,rfl,b3,b5⟩;have ch:=Mo ok h;rw[ch]at b5⊢;obtain⟨rfl,b7⟩:=b5 F;have bR:=q.size;refine er oS mg g (((bL.h P).h o).h q) F F (jl b3.2) λaN db b8 dc=>?_;exact⟨((aH.a o).a q).ab b8 λa0 B=>by cases B;omega,cg,F,b3,ar.bz (b7.ab b8 (fC b7 G))⟩
end aY
section
open Go.RowKit
variable{x:aa}
def Bx{K:aU}(a b c:Int):fo Y 155 [(0,I X a),(1,I X b),(2,I X c)] x K=K (al [I X a,I X b,I X c].toArray) x:=
 bz (iR:=[(0,[I X a]),(1,[I X b]),(2,[I X c])]) aen adB F F
structure j9 where
 cn:Int
 E6:Int
 bp:Int
 bS:Int
def ib(x:j9):List Value:=[I X x.cn,I X x.E6,I X x.bp,I X x.bS]
def sN:eR ib 4:=⟨λ_=>F,λb c a=>by simp[ib]at a;rcases a with rfl|rfl|rfl|rfl<;>rfl⟩
def cJ(x:j9):bT:=⟨0,0,x.cn,x.E6,x.bp,x.bS,⟨#[]⟩⟩
def vM(a:gP):j9:=⟨a.bH,a.dC,a.dY,a.ds⟩
abbrev rq(a:j9):Prop:=(hx a.cn/\hx a.E6/\hx a.bp/\hx a.bS)/\0<a.bp
def ahT(a:j9):ak Y 267 [al (ib a).toArray] x λf h=>O x h/\f=al (cq (cJ a)).toArray:=by
 apply aau;refine bd (S:=ib a) F λm n o p d i=>?_;refine bo fP λq r s t e j=>?_;have b:=i.h e;have u:=d.size;rw[aj Ev,aM E (b.b.f 0 F),aj Eu,aM E (b.b.f 1 F),aj Pn,aM E (b.b.f 2 F),
  Bx,aj ads,aM E (b.b.f 3 F),bz (S:=cq (cJ a)) (iR:=[(2,[I X a.cn,I X a.E6,I X a.bp]),(3,[I X a.bS])]) fP xa F F]
 refine aZ fs g j (cS:=cq (cJ a)) F F ae (fe.B _) λy z k l=>?_;rw[aF (S:=cq (cJ a)) lr l.b F];exact⟨F,(d.a e).ab k (by rintro _ ⟨⟩;omega),F⟩
variable{ls:List j9}
def R9{e:Z}(o:aC x e 4 ib ls)(ag:ls.length<=1000000):ak Y 186 [e] x λt k=>O x k/\∃(f:Z) (c:Bool),t=a1 #[f,ax c]/\aC k f 7 cq (ls.map cJ)/\(c=af↔∀a∈ls,0<a.bp):=by
 apply aav;have ah:e0=9223372036854775807:=rfl;rw[aS Ef o];refine ba.y (λh p=>O x p/\∃(b:Nat) (f:Z) (c:Bool),h=[ax c,f,I X b]/\b<=ls.length/\ar p x.heap.size 159 7 f cq ((ls.take b).map cJ)/\(c=af↔∀a∈ls.take b,0<a.bp))
  (λh _=>match h with|[_,_,I _ z]=>(ls.length-z).toNat|_=>0) ⟨O.p x,0,_,true,F,ec _,ar.nil _ _ _ _ _,ae⟩ ?_
 rintro h A p ⟨j,b,f,c,rfl,am,l,q⟩;rw[av,bA,av,bA,av,aR,ai];refine⟨λan=>?_,λap=>?_⟩
 ·obtain⟨a,m⟩:∃a,ls[b]? =J a:=⟨_,aX G⟩;obtain⟨aq,au,B,C⟩:=(o.h j).m m;rw[cr Ef tP G (o.h j) m F,B,aF u_ C F];refine cj tR tP g F F (sN.B a) λaw u ay az D v=>?_;refine bG.y (λh k=>k=u/\∃n:Bool,h=[ax n]/\(n=af↔c=af/\0<a.bp)) ?_ ?_
  ·rw[dQ];refine⟨λi=>?_,λi=>⟨F,ao,F,by simp[i]⟩⟩;rw[aj Pn,aM E (v.b.f 2 F),cb];exact⟨F,_,F,by simp[i]⟩
  rintro h A u ⟨rfl,n,rfl,H⟩;rw[av,aF (S:=ib a) u_ v.b F];refine(ahT a).o ?_;rintro t a2 ⟨K,rfl⟩;have r:=D.a K;have w:((ls.take b).map cJ).length=b:=by rw[b_,bt];omega
  refine f0 (n:=1) (V:=cq) (L:=[cJ a]) (iR:=[(0,cq (cJ a))]) h9 fs F fP g g fe F F λa7 a8 a9 L y aA=>?_;refine jC h9 fs g fP F fe ((l.h r).h y) (by have:=(j.a r).size;omega) (L.aI fe) (by rw[w,oK];omega) (by rw[wT,w,oK];omega) λM aB P Q _=>?_;rw[aD];refine⟨⟨((j.a r).a y).ab Q λR S=>(l.D R S).1,b+1,M,n,ae,G,?_,?_⟩,by simp only [];omega⟩
  ·rw[gp m,dJ];exact P
  ·rw[H,q,gp m];constructor
   ·rintro⟨U,W⟩ s d;rcases b9.1 d with d|d
    ·exact U s d
    ·simp at d;subst d;exact W
   ·intro i;exact⟨λs d=>i s (hY _ d),i a ae⟩
 ·obtain rfl:b=ls.length:=G;rw[cI]at l q;exact⟨j,f,c,F,l.aI fe,q⟩
def ks(a:aa)(v:Z)(ls:List j9):Prop:=∃b c,v=ad (J ⟨b,0,ac⟩)/\ag a b [c]/\eF a c (ls.map cJ)
def ks.h{w a:aa}{v:Z}{ls:List j9}(h:ks w v ls)(e:O w a):ks a v ls:=by obtain⟨b,c,d,f,g⟩:=h;exact⟨b,c,d,f.h e,g.h e⟩
def xz{v:Z}{e:List j9}(a:ks x v e):ak Y 119 [v] x λb c=>c=x/\eF x b (e.map cJ):=by apply aar;obtain⟨g,h,rfl,d,f⟩:=a;rw[fZ adY,Option.isNone_some,cw,bn,aj adr,aM wU (d.U F)];exact⟨F,f⟩
variable{e:Z}{c:Bool}
def J7{t:Int}(a:t≠0):ak Y 187 [e,I X t,ax c] x λb d=>d=x/\b=a1 #[ad ac,I X t]:=by apply OL;rw[bs,bu];exact⟨λ_=>⟨F,F⟩,λf=>aL f a⟩
def Q9(b:eF x e (ls.map cJ)):ak Y 187 [e,I X 0,ax c] x λd f=>O x f/\((c=ao/\d=a1 #[ad ac,I X 1])\/(c=af/\∃g,d=a1 #[g,I X 0]/\ks f g ls)):=by apply OL;rw[bs,bu];refine⟨λa=>aL F a,λ_=>?_⟩;rw[dD,dQ];refine⟨λa=>⟨O.p x,.inl ⟨by simpa using a,F⟩⟩,λa=>?_⟩;rw[bz (S:=[e]) (iR:=[(0,[e])]) aet adM (by rw[uT,uT,b.M.1]) F];refine bd (S:=[e]) F λj m n o h k=>?_;exact⟨h,.inr ⟨by simpa using a,_,F,j,e,F,k,b.h h⟩⟩
def BL{l:Z}(n:aC x l 4 ib ls)(B:ls.length<=30000):ak Y 114 [l] x λb j=>O x j/\((¬(∀a∈ls,rq a)/\b=a1 #[ad ac,I X 1])\/((∀a∈ls,rq a)/\∃v,b=a1 #[v,I X 0]/\ks j v ls)):=by
 apply aas;refine(R9 n G).o ?_;rintro b C ⟨o,v,D,rfl,p,k⟩;rw[aN,aO];refine(xL p).o ?_;rintro b E ⟨q,f⟩;have h:=o.a q;rcases f with⟨d,_⟩|⟨_,d,rfl⟩|⟨_,d,r,s,rfl,t,u⟩
 ·rw[b_]at d;omega
 ·rw[aN,aO];refine(J7 g).o ?_;rintro b w ⟨rfl,rfl⟩;rw[aN,aO];exact⟨h,.inl ⟨λi=>d λH y=>by obtain⟨a,c,rfl⟩:=eP.1 y;exact(i a c).1,F⟩⟩
 ·rw[aN,aO];refine(Q9 (ls:=ls) (.inr ⟨r,s,F,t,u⟩)).o ?_;rintro b w ⟨m,f⟩;rcases f with⟨e,rfl⟩|⟨e,z,rfl,A⟩
  ·rw[aN,aO];refine⟨h.a m,.inl ⟨λi=>?_,F⟩⟩;rw[k.2 λa c=>(i a c).2]at e;cases e
  ·rw[aN,aO];exact⟨h.a m,.inr ⟨λa c=>⟨d (cJ a) (eP.2 ⟨a,c,F⟩),k.1 e a c⟩,z,F,A⟩⟩
def ahn{c:Z}{d s:List j9}{a b:Int}(y:ks x e d)(z:aC x c 4 ib s)(i:d.length<=3000)(S:s.length<=3000):ak Y 301 [e,I X a,I X b,c] x λh t=>O x t/\
 ((¬((0<=a/\a<=b/\b<=d.length)/\∀f∈s,rq f)/\h=a1 #[ad ac,I X 1])\/(((0<=a/\a<=b/\b<=d.length)/\∀f∈s,rq f)/\∃p,h=a1 #[p,I X 0]/\ks t p (d.take a.toNat++s++d.drop b.toNat))):=by
 apply aan;refine(R9 z G).o ?_;rintro h A ⟨u,p,U,rfl,B,v⟩;rw[aN,aO];refine(xz (y.h u)).o ?_;rintro V A ⟨rfl,C⟩;refine(Hk (a:=a) (b:=b) C (by rw[b_];omega) B).o ?_;rintro h D ⟨E,l⟩;have m:=u.a E;rw[b_,b_]at l;have H:∀n,O x n->¬((0<=a/\a<=b/\b<=d.length)/\∀f∈s,rq f)->h=a1 #[ad ac,I X 1]->True:=λ_ _ _ _=>trivial;clear H;have q:rm (d.map cJ) a b↔(0<=a/\a<=b/\b<=d.length):=by unfold rm;rw[b_]
 rcases l with⟨j,rfl⟩|⟨_,j,_⟩|⟨_,_,j,rfl⟩|⟨r,_,_,j,_⟩|⟨r,_,j,_,K,rfl,L⟩
 ·rw[aN,aO];refine(J7 g).o ?_;rintro h n ⟨rfl,rfl⟩;rw[aN,aO];exact⟨m,.inl ⟨λk=>j (q.2 k.1),F⟩⟩
 ·omega
 ·rw[aN,aO];refine(J7 g).o ?_;rintro h n ⟨rfl,rfl⟩;rw[aN,aO];exact⟨m,.inl ⟨λk=>j λW M=>by obtain⟨f,i,rfl⟩:=eP.1 M;exact(k.2 f i).1,F⟩⟩
 ·have:=q.1 r;omega
 ·rw[aN,aO];have P:eF D K ((d.take a.toNat++s++d.drop b.toNat).map cJ):=by rw[dJ,dJ,qp,AH];exact L.Hi
  refine(Q9 P).o ?_;rintro h n ⟨w,l⟩;rcases l with⟨o,rfl⟩|⟨o,Q,rfl,R⟩
  ·rw[aN,aO];refine⟨m.a w,.inl ⟨λk=>?_,F⟩⟩;rw[v.2 λf i=>(k.2 f i).2]at o;cases o
  ·rw[aN,aO];exact⟨m.a w,.inr ⟨⟨q.1 r,λf i=>⟨j (cJ f) (eP.2 ⟨f,i,F⟩),v.1 o f i⟩⟩,Q,F,R⟩⟩
variable{c:List j9}
def BM(j:ks x e c):ak Y 62 [e] x λb k=>O x k/\b=al (ib (vM (aT (c.map cJ)))).toArray:=by
 apply aao;refine bo tR λu l v w d m=>?_;refine(xz (j.h d)).o ?_;rintro y l ⟨rfl,n⟩;refine(uJ n).o ?_;rintro b z ⟨o,rfl⟩;refine cj (cS:=br (aT (c.map cJ))) kc k1 g F F (kD _) λA B C D q a=>?_;have f:=o.a q;rw[aj gQ,eO (i:=0) (z:=0) eT bw G G F,aM E (a.b.f 1 F),aj gQ,eO (i:=1) (z:=1) eT bw G G F,aM E (a.b.f 2 F),
  aj gQ,eO (i:=2) (z:=2) eT bw G G F,aM E (a.b.f 3 F),aj yT,aM E (a.b.f 4 F),
  bz (S:=ib (vM (aT (c.map cJ)))) (iR:=[(0,[I X (aT (c.map cJ)).bH]),(1,[I X (aT (c.map cJ)).dC]),(2,[I X (aT (c.map cJ)).dY]),(3,[I X (aT (c.map cJ)).ds])]) tR PS F F]
 refine aZ tP g (m.h f) (cS:=ib (vM (aT (c.map cJ)))) F F ae (sN.B _) λK L s t=>?_;rw[aF (S:=ib (vM (aT (c.map cJ)))) u_ t.b F];exact⟨F,(d.a f).ab s (by rintro _ ⟨⟩;omega),F⟩
def Kw(b:ks x e c):ak Y 194 [e] x λa d=>O x d/\a=I X c.length:=by apply aam;refine(xz b).o ?_;rintro h i ⟨rfl,f⟩;refine(uJ f).o ?_;rintro a j ⟨g,rfl⟩;rw[He,b_];exact⟨g,F⟩
def gJ(a b c d e:Int):List Value:=[I X a,I X b,I X c,I X d,I X e]
def ox(c d e f g:Int):∀a∈gJ c d e f g,a.oneCell' =true:=λa b=>by simp[gJ]at b;rcases b with rfl|rfl|rfl|rfl|rfl<;>rfl
def Sr(b:Int)(a:gP)(e c:Int):ak Y 268 [al (e4 b a e).toArray,I X c] x λm n=>O x n/\m=al (gJ b c a.dY a.bH a.dC).toArray:=by
 apply aaw;refine bd (S:=e4 b a e) F λs t u v h o=>?_;refine bo lZ λw y z A i p=>?_;have d:=o.h i;have B:=h.size;rw[aj tL,aM E (d.b.f 0 F),
  aj k0,aj gQ,eO (i:=2) (z:=2) eT bw G G F,aM (v:=I X a.dY) E (d.b.f 4 F),
  aj k0,aj gQ,eO (i:=0) (z:=0) eT bw G G F,aM (v:=I X a.bH) E (d.b.f 2 F),
  aj k0,aj gQ,eO (i:=1) (z:=1) eT bw G G F,aM (v:=I X a.dC) E (d.b.f 3 F),
  bz (S:=gJ b c a.dY a.bH a.dC) (iR:=[(0,[I X b]),(1,[I X c]),(2,[I X a.dY]),(3,[I X a.bH]),(4,[I X a.dC])]) lZ PT F F]
 refine aZ lY g p (cS:=gJ b c a.dY a.bH a.dC) F F ae (ox _ _ _ _ _) λH K q r=>?_;rw[aF (S:=gJ b c a.dY a.bH a.dC) pK r.b F];exact⟨F,(h.a i).ab q (by rintro _ ⟨⟩;omega),F⟩
def FL{x:List j9}(c:∀a∈x,rq a):∀b∈x.map cJ,fz b:=λb d=>by obtain⟨a,e,rfl⟩:=eP.1 d;exact(c a e).1
def al8{L:List bT}(b:∀c∈L,fz c)(g:L.length<=1000000)(a:Nat)(d:a<=L.length):IK (aT (L.take a)) a:=by have:=Bw (L:=L.take a) (by rw[bt];omega) λe f=>b e (fy f);rw[bt]at this;rwa[lP d]at this
end
namespace aY
open Go.RowKit Go.bW Go.cB
abbrev am8:List Value:=[I X 0,I X 0,I X 0,I X 0,I X 0,I X 0,lO ⟨#[]⟩]
def zi:eh Y 225 159 7 cq am8:=⟨h9,fs,g,fP,F,fe,lr,by rw[wT];decide,λb a=>by simp at a;rcases a with rfl|rfl<;>rfl⟩
variable{w:aa}
def Wu(a:Int):ak Y 257 [I X a] w λb c=>O w c/\b=al (cq (eI a)).toArray:=by apply aeS;refine bo fP λi j k l d e=>?_;rw[Bx,bz (S:=cq (eI a)) (iR:=[(2,[I X a,I X a,I X 0])]) fP xa F F];refine er fs lr g e F F (fe.B _) λo p f q=>?_;exact⟨d.ab f λr h=>by cases h;omega,F⟩
def am4(a:aG)(k:a.c5.length<=10000000):ak Y 258 [al (bC a).toArray] w λe l=>O w l/\e=al (cq (pf a)).toArray:=by apply aeU;refine bd (S:=bC a) F λu f v x h n=>?_;refine bo fP λy c z A i o=>?_;have B:=h.size;apply bE.h;have d:O c c.drew:=(O.p c).C;have j:=(n.h i).b;rw[b2 oi E (j.f 0 F) d,b2 pM ga (j.f 4 F) d];refine(Db a.c5 k).o ?_;rintro e C ⟨p,rfl⟩;have b:=d.a p;refine⟨b,?_⟩;rw[aK (λf q r=>Bx _ _ _) b,aK (λf q r=>bz (S:=cq (pf a)) (iR:=[(1,[I X a.G]),(2,[I X 0,I X (bY a.c5).length,I X 0])]) fP xa F F) b];refine er fs lr g (o.h b) F F (fe.B _) λG H s K=>?_;exact⟨((h.a i).a b).ab s λL t=>by cases t;omega,F⟩
variable{x:List aG}
def akA{n:Nat}{e:aG}(b:x[n]? =J e)(a:Int):fm a (x.take (n+1))=fm a (x.take n)++((if cE a (x.take n)<e.C then [eI (e.C-cE a (x.take n))]else [])++[pf e])/\
 cE a (x.take (n+1))=(if cE a (x.take n)<e.C then e.C else cE a (x.take n)):=by
 rw[c9 b,LQ,Kq];exact⟨F,F⟩
def akC(a:List aG)(b c:Int):ca b c a=fm b a++(if cE b a<c then [eI (c-cE b a)]else []):=by have:=xS a [] b c;rw[cT]at this;rw[this];rfl
variable{v:Z}{t:Int}
def Wx{f:Int}(Q:aC w v 5 bC x)(a5:x.length<=1000)(ap:∀a∈x,a.c5.length<=10000000/\0<=a.C/\a.C<=1000000)(R:0<=f/\f<=10000000)(a7:0<=t/\t<=10000000):
 ak Y 178 [I X f,I X t,v] w λo j=>O w j/\ar j w.heap.size 159 7 o cq (ca f t x):=by
 apply aeT;rw[aS dZ.m Q];refine ba.bJ (λz l p=>O w p/\∃(i:Nat) (m:Z),i+z=x.length/\l=[m,I X (cE f (x.take i)),I X i]/\0<=cE f (x.take i)/\cE f (x.take i)<=10000000/\ar p w.heap.size 159 7 m cq (fm f (x.take i))) ⟨x.length,O.p w,0,_,G,F,by simpa [cE]using R.1,by simpa [cE]using R.2,ar.nil ..⟩ ?_;rintro z l aq p ⟨d,i,m,a8,rfl,aw,ay,e⟩;simp only [av,bA];rw[aR,ai];have S:=Ux (x.take i) f;rw[bt]at S;refine⟨λU=>?_,λa9=>?_⟩
 ·obtain⟨a,A⟩:∃a,x[i]? =J a:=⟨_,aX G⟩;obtain⟨az,aA,aB⟩:=ap a (cl A);obtain⟨a0,B⟩:=akA A f;generalize cE f (x.take i)=k at*;generalize fm f (x.take i)=V at*;refine dZ.dO (Q.h d) A F λD aE n aG aH q=>?_;refine bG.y (λl j=>O w j/\∃H,l=[H,I X (if k<a.C then a.C else k)]/\ag j D (bC a)/\ar j w.heap.size 159 7 H cq (V++if k<a.C then [eI (a.C-k)]else [])) ?_ ?_
  ·rw[M h2 E (q.b.f 1 F),cb,ai];refine⟨λW=>?_,λr=>⟨d.a n,m,by rw[an r],q,by rw[an r,cT];exact e.h n⟩⟩;rw[M h2 E (q.b.f 1 F),cd];refine(Wu _).o ?_;rintro o ae ⟨b,rfl⟩;refine zi.push ((e.h n).h b) ((d.a n).a b).size G g λs K L u ah=>?_;have aj:∀c,m.ownBlock=J c->w.heap.size<=c/\c<p.heap.size:=λc h=>e.D c h;have y:ag K D (bC a):=(q.h b).ab u λa2=>by have:=(aj D a2.symm).2;omega
   rw[M h2 E (y.b.f 1 F)];exact⟨((d.a n).a b).ab u λc h=>(aj c h).1,s,by rw[au W],y,by rw[au W];exact L⟩
  rintro l aq ae ⟨b,H,rfl,y,am⟩;simp only [av,bA];rw[aF mQ y.b F];refine(am4 a az).o ?_;rintro o K ⟨P,rfl⟩;have aI:(V++if k<a.C then [eI (a.C-k)]else []).length<=3000:=by rw[bf];split<;>simp<;>omega
  refine zi.push (am.h P) (b.a P).size G g λs aJ a3 a4 ah=>?_;rw[aD];refine⟨z-1,G,(b.a P).ab a4 λc h=>(am.D c h).1,i+1,s,G,by rw[B];simp,by rw[B];split<;>omega,by rw[B];split<;>omega,?_⟩;rw[a0,<-cX];exact a3
 ·rw[show i=x.length from G,cI]at e aw ay S⊢;rw[akC,cb,ai];refine⟨λU=>?_,λr=>⟨d,by rw[an r,cT];exact e⟩⟩;rw[cd];refine(Wu _).o ?_;rintro o ae ⟨b,rfl⟩;refine zi.push (e.h b) (d.a b).size G g λs K L u ah=>?_;exact⟨(d.a b).ab u λc h=>(e.D c h).1,by rw[au U];exact L⟩
def k3(w:aa)(v:Z)(n:Int)(c:List aG):Prop:=∃a b,v=ad (J ⟨a,0,ac⟩)/\ag w a [b]/\eF w b (ca 0 n c)
def k3.h{w a:aa}{v:Z}{n:Int}{c:List aG}(h:k3 w v n c)(e:O w a):k3 a v n c:=by obtain⟨b,d,f,g,i⟩:=h;exact⟨b,d,f,g.h e,i.h e⟩
variable{n:Int}
def qx.ph{l:List aG}(h:qx n l)(j:0<=n/\n<=1000000):k2 n l:=by
 have d:=λb c=>ma.1 (h.ab b c);refine⟨j,by have:=h.bl;omega,?_,λb c=>by have:=(d b c).2.1;unfold aY.ia;omega⟩;have hp:=h.hp;have k:∀(l:List aG) (a:Int),(∀b∈l,0<=b.C/\b.C<=n)->l.Pairwise iQ->(∀b∈l,a<=b.C)->hz n a l:=by
  intro l
  induction l with
  |nil=>intro a _ _ _;trivial
  |cons b l ih=>intro a i e m;rw[qs]at e;refine⟨m b (dv ..),(i b (dv ..)).2,ih b.C (λf g=>i f (ey _ g)) e.2 λf g=>?_⟩;have:=e.1 f g;unfold iQ kh at this;rw[decide_eq_false_iff_not]at this;omega
 exact k l 0 (λb c=>⟨(d b c).1.2.1,(d b c).1.2.2.1⟩) hp λb c=>(d b c).1.2.1
def Aq(a:k3 w v n x):ak Y 260 [v] w λb c=>c=w/\eF w b (ca 0 n x):=by obtain⟨f,g,rfl,d,e⟩:=a;apply aeQ;rw[fZ D];show b6 (ax ao) _ _;rw[cw,bn,M ady wU (d.f 0 F)];exact⟨F,e⟩
def MH(a:k2 n x):(aT (ca 0 n x)).bH=n/\(aT (ca 0 n x)).dC=n+dG x:=by have c:=sH a.aI (by have:=a.aM;omega);have d:=GF x 0 (λe b=>(a.hp.Q b).2) a.jA.1;omega
def Rj:∀{a:List aG},(∀b∈a,ia b<=1000)->dG a<=1000*a.length
 |[],_=>by simp[dG]
 |b::a,c=>by have f:=c b (dv ..);have g:=Rj λd e=>c d (ey _ e);rw[oW,d1];omega
def Dh(i:k3 w v n x)(j:k2 n x):ak Y 181 [v] w λf k=>O w k/\f=a1 #[I X n,I X (n+dG x)]:=by
 apply aeO;refine(Aq i).o ?_;rintro u b ⟨rfl,l⟩;refine(uJ l).o ?_;rintro f y ⟨m,rfl⟩;refine cj (cS:=br (aT (ca 0 n x))) kc k1 g F F (kD _) λA c B C o p=>?_;apply bE.h;have a:O c c.drew:=(O.p c).C;have h:=p.b;obtain⟨q,r⟩:=MH j;rw[aK (λb d e=>aj gQ) a,aK (λb d e=>eO (i:=0) (z:=0) eT bw G G F) a,dR E (h.f 1 F) a,
  aK (λb d e=>aj gQ) a,aK (λb d e=>eO (i:=1) (z:=1) eT bw G G F) a,dR E (h.f 2 F) a]
 exact⟨(m.a o).a a,by rw[q,r]⟩
def Hr{C:Int}{aJ:Int}(c:k3 w v t x)(a:k2 t x)(d:0<=C/\C<=t)(e:aJ=0\/aJ=1):ak Y 263 [v,I X C,I X aJ] w λf j=>O w j/\f=a1 #[I X (et x C aJ),I X 0]:=by
 apply aeN;refine(Aq c).o ?_;rintro B D ⟨rfl,k⟩;obtain⟨H,l⟩:=k.cI;have K:=a.aM;obtain⟨L,M⟩:=MH a;refine(MN (bx:=0) (v:=C) (aJ:=aJ) l a.aI G).o ?_;rintro f Q ⟨m,⟨n,_⟩|⟨R,b,o,p,S,rfl⟩⟩
 ·exact aL ⟨g,g,d.1,(show C<=(aT (ca 0 t x)).bH by omega),e⟩ n
 rw[aN,aO];refine cj (cS:=e4 b (aT ((ca 0 t x).take b)) o) ml mj g F F (mq _ _ _) λV W ab ae q r=>?_;rw[bs,bu];refine⟨λc=>aL F c,λ_=>?_⟩;have h:=r.b;have s:=ajs a d e p;have i:=Bw (L:=(ca 0 t x).take b) (by rw[bt];omega) λu y=>a.aI u (fy y);have ah:((ca 0 t x).take b).length<=1000000:=by rw[bt];omega
 have ai:=i.bH;have am:=i.dC;have jA:=a.jA;rw[aj k0,aj gQ,eO (i:=1) (z:=1) eT bw G G F,aM (v:=I X (aT ((ca 0 t x).take b)).dC) E (h.f 3 F),aD,
  aj k0,aj gQ,eO (i:=0) (z:=0) eT bw G G F,aM (v:=I X (aT ((ca 0 t x).take b)).bH) E (h.f 2 F),cd]
 exact⟨m.a q,by rw[s]⟩
variable{e:List aG}
def amW{x:Z}(h:j8 w x t e)(a:qx t e)(k:0<=t/\t<=1000000):ak Y 109 [x] w λc f=>O w f/\k3 f c t e:=by
 apply aeM;refine(vG h).o ?_;rintro c A ⟨rfl,rfl⟩;have B:=a.bl;refine(zq h G).o ?_;rintro C D ⟨l,m⟩;have n:=wo a;refine(Wx (f:=0) (t:=t) (m.aI d0) G (λg i=>⟨by have:=n g i;omega,by have:=(ma.1 (a.ab g i)).1;omega⟩) G G).o ?_;rintro K L ⟨o,p⟩;have ph:=a.ph k;have M:=ph.aM;refine(xL (p.aI fe)).o ?_;rintro c P ⟨q,⟨j,_⟩|⟨_,j,_⟩|⟨_,_,b,r,rfl,s,u⟩⟩
 ·omega
 ·exact aL ph.aI j
 rw[aN,aO,bz (S:=[ad (J ⟨b,0,ac⟩)]) (iR:=[(0,[ad (J ⟨b,0,ac⟩)])]) Qt P3 F F];refine bd (S:=[ad (J ⟨b,0,ac⟩)]) F λy R S U d z=>?_;exact⟨((l.a o).a q).a d,y,_,F,z,.inr ⟨b,r,F,s.h d,u.h d⟩⟩
def Wi(a:aB):ak Y 372 [al (ah a).toArray,I X n] w λd e=>O w e/\d=ax (decide (0<=a.1/\a.1<=a.2/\a.2<=n)):=by apply aeR;refine bd (S:=ah a) F λj k l m c f=>?_;have b:=f.b;rw[M ce E (b.f 0 F),eE,ai];refine⟨λg=>?_,λg=>⟨c,by rw[db G]⟩⟩;rw[M bP E (b.f 1 F),M ce E (b.f 0 F),eE,ai];refine⟨λh=>?_,λh=>⟨c,by rw[db G]⟩⟩;rw[M bP E (b.f 1 F),fg];refine⟨c,?_⟩;congr 1;rw[decide_eq_decide];omega
variable{L:List bT}{s:Int}
def rP{t:Z}{v x:Int}{n:Nat}(c:eF w t L)(d:∀e∈L,fz e)(f:L.length<=1000000)(g:ij L s v x)(h:ha L s v x n):
 ak Y 189 [t,I X s,I X v,I X x] w λb i=>O w i/\∃a:Int,b=a1 #[al (e4 n (aT (L.take n)) a).toArray,I X 0]:=by
 obtain⟨H,j⟩:=c.cI;refine(MN j d f).o ?_;rintro b o ⟨k,⟨l,_⟩|⟨_,p,a,m,q,rfl⟩⟩
 ·exact aL g l
 ·obtain rfl:=m.b8 h;exact⟨k,a,F⟩
variable{c:List aG}
def amV{a:Int}(f:∀b∈x,b.C<a)(g:∀b∈e,a<=b.C/\b.C<=t)(h:∀b∈c,t<b.C):gz (x++(e++c)) a t=e:=by
 unfold gz;have i:x.filter (λb=>decide (a<=b.C/\b.C<=t))=[]:=DD.2 λb d=>by have:=f b d;simp;omega
 have j:e.filter (λb=>decide (a<=b.C/\b.C<=t))=e:=tt.2 λb d=>by have:=g b d;simp;omega
 have k:c.filter (λb=>decide (a<=b.C/\b.C<=t))=[]:=DD.2 λb d=>by have:=h b d;simp;omega
 rw[jd,jd,i,j,k];simp
def am3{x:Z}{e:Int}{d u k i n:List aG}{a b:Int}(aq:k3 w v t c)(co:j8 w x s d)(ar:k2 t c)(A:k2 s d)(bv:qx s d)(cp:c=u++(k++n))(bb:d=u++(i++n.map (hR (e-b))))
 (bM:∀j∈u,j.C<a)(cr:∀j∈k,a<=j.C/\j.C<=b)(bN:∀j∈i,a<=j.C/\j.C<=e)(bO:∀j∈n,b<j.C)(aG:0<=a/\a<=b)(bQ:a<=e)(bR:b<=t)(bT:t-b=s-e):
 ak Y 347 [v,al (ah (a,b)).toArray,al (ah (a,e)).toArray,x] w λp B=>O w B/\∃P,p=a1 #[P,I X 0]/\k3 B P s d:=by
 obtain⟨r,m,bc,aA,cG,cs,aH,ct⟩:=amN ar A cp bb bM cr bN bO aG bQ bR bT;have de:=ar.jA;have dg:=A.jA;have dh:=ar.aM;have q:=ar.aI;obtain⟨di,dj⟩:=MH ar;have bx:ij (ca 0 t c) 0 a 0:=⟨g,g,aG.1,(show a<=(aT (ca 0 t c)).bH by omega),.inl F⟩;have b0:ij (ca 0 t c) 0 b 1:=⟨g,g,(show(0:Int)<=b by omega),(show b<=(aT (ca 0 t c)).bH by omega),.inr F⟩;have dk:=Rj ar.oq;have dl:=ar.bl;have dm:=bv.bl;have cu:gz d a e=i:=by rw[bb];refine amV bM bN λj q=>?_;obtain⟨y,D,rfl⟩:=eP.1 q;have:=bO y D;show e<y.C+(e-b);omega
 apply aeP;refine bd (S:=ah (a,b)) F λdn U dp dq bU cx=>?_;refine bd (S:=ah (a,e)) F λdr ds dt dw b3 cy=>?_;refine(Dh ((aq.h bU).h b3) ar).o ?_;rintro p be ⟨b4,rfl⟩;rw[aN,aO];have b5:=(bU.a b3).a b4;have a9:=(cx.h b3).h b4;have aJ:=cy.h b4;have b7:=co.h b5;have bg:=aq.h b5;apply bE.h;have bV:O be be.drew:=(O.p be).C;rw[gX cP a9.b F bV];refine(Wi (n:=t) (a,b)).o ?_;rintro p dx ⟨c0,rfl⟩;have aB:=bV.a c0;refine⟨aB,?_⟩;rw[aK (λU A W=>dD _) aB,eK ⟨aG.1,aG.2,bR⟩];show b6 (ax ao) _ _;rw[cw,gX cP aJ.b F aB];refine(vG (b7.h aB)).o ?_;rintro p dy ⟨rfl,rfl⟩;refine⟨aB,?_⟩;refine(Wi (n:=s) (a,e)).o ?_;rintro p dz ⟨c1,rfl⟩;have z:=aB.a c1;refine⟨z,?_⟩;rw[aK (λU A W=>dD _) z,eK (⟨aG.1,bQ,G⟩:0<=a/\a<=e/\e<=s)];show b6 (ax ao) _ _;rw[cw,b2 ce E (a9.b.f 0 F) z,b2 ce E (aJ.b.f 0 F) z,aK (λU A W=>bs _ _) z,bu];refine⟨λb8=>aL F b8,λ_=>?_⟩;rw[b2 bP E (a9.b.f 1 F) z,aK (λU A W=>cd) z,b2 bP E (aJ.b.f 1 F) z];refine(vG (b7.h z)).o ?_;rintro p a2 ⟨rfl,rfl⟩;refine⟨z,?_⟩;rw[aK (λU A W=>cd) z,aK (λU A W=>bs _ _) z,bu];refine⟨λb8=>aL bT b8,λ_=>?_⟩;refine bG.y (λau B=>O be B/\∃(ai:Nat) (l:Int),au=[ad (J ⟨ai,0,ac⟩)]/\ag B ai (e4 r (aT ((ca 0 t c).take r)) l)) ?_ ?_
 ·apply bE.h;have f:O a2 a2.drew:=(O.p a2).C;rw[b2 ce E ((a9.h z).b.f 0 F) f];have aP:∀{am:aa},O a2 am->ak Y 260 [v] am λp B=>B=am/\eF am p (ca 0 t c):=λbB=>(Aq ((bg.h z).h bB)).o λp B P=>⟨P.1,P.1▸P.2⟩;refine⟨(aP f).o ?_,?_⟩
  ·rintro aC bC ⟨rfl,K⟩;refine⟨f,(rP K q G bx bc).o ?_,?_⟩
   ·rintro p aE ⟨H,l,rfl⟩;have o:=f.a H;refine⟨o,?_⟩;rw[aN,aO];refine bo ml λai aF bW aR h aw=>⟨o.a h,?_⟩;refine aZ (cS:=e4 r (aT ((ca 0 t c).take r)) l) mj g aw F F ae (mq _ _ _) λbS a3 Q R=>?_;have c2:=o.size;have ez:O a2 bS:=(o.a h).ab Q λay S=>by cases S;omega
    exact⟨ez,z.a ez,ai,l,F,R⟩
   ·refine bo ml λai aF bW aR h aw=>⟨f.a h,?_⟩;have bD:=f.size;refine(rP (K.h h) q G bx bc).o ?_;rintro p aE ⟨H,l,rfl⟩;have o:=(f.a h).a H;refine⟨o,?_⟩;rw[aN,aO];refine aZ (cS:=e4 r (aT ((ca 0 t c).take r)) l) mj g (aw.h H) F F ae (mq _ _ _) λbS a3 Q R=>?_;have ez:O a2 bS:=o.ab Q λay S=>by cases S;omega
    exact⟨ez,z.a ez,ai,l,F,R⟩
  ·refine bo ml λai aF bW aR h aw=>⟨f.a h,?_⟩;have bD:=f.size;refine(aP (f.a h)).o ?_;rintro aC bC ⟨rfl,K⟩;refine⟨f.a h,(rP K q G bx bc).o ?_⟩;rintro p aE ⟨H,l,rfl⟩;have o:=(f.a h).a H;refine⟨o,?_⟩;rw[aN,aO];refine aZ (cS:=e4 r (aT ((ca 0 t c).take r)) l) mj g (aw.h H) F F ae (mq _ _ _) λbS a3 Q R=>?_;have ez:O a2 bS:=o.ab Q λay S=>by cases S;omega
   exact⟨ez,z.a ez,ai,l,F,R⟩
 rintro au V az ⟨bF,ai,l,rfl,aw⟩;simp only [av];refine bG.y (λau B=>O az B/\∃(an:Nat) (l:Int),au=[ad (J ⟨an,0,ac⟩)]/\ag B an (e4 m (aT ((ca 0 t c).take m)) l)) ?_ ?_
 ·apply bE.h;have f:O az az.drew:=(O.p az).C;rw[b2 bP E ((a9.h bF).b.f 1 F) f];have aP:∀{am:aa},O az am->ak Y 260 [v] am λp B=>B=am/\eF am p (ca 0 t c):=λbB=>(Aq ((bg.h bF).h bB)).o λp B P=>⟨P.1,P.1▸P.2⟩;refine⟨(aP f).o ?_,?_⟩
  ·rintro aC bC ⟨rfl,K⟩;refine⟨f,(rP K q G b0 aH).o ?_,?_⟩
   ·rintro p aE ⟨H,l,rfl⟩;have o:=f.a H;refine⟨o,?_⟩;rw[aN,aO];refine bo ml λan aF bX aR h a0=>⟨o.a h,?_⟩;refine aZ (cS:=e4 m (aT ((ca 0 t c).take m)) l) mj g a0 F F ae (mq _ _ _) λbS a3 Q R=>?_;have c2:=o.size;have ez:O az bS:=(o.a h).ab Q λay S=>by cases S;omega
    exact⟨ez,ez,an,l,F,R⟩
   ·refine bo ml λan aF bX aR h a0=>⟨f.a h,?_⟩;have bD:=f.size;refine(rP (K.h h) q G b0 aH).o ?_;rintro p aE ⟨H,l,rfl⟩;have o:=(f.a h).a H;refine⟨o,?_⟩;rw[aN,aO];refine aZ (cS:=e4 m (aT ((ca 0 t c).take m)) l) mj g (a0.h H) F F ae (mq _ _ _) λbS a3 Q R=>?_;have ez:O az bS:=o.ab Q λay S=>by cases S;omega
    exact⟨ez,ez,an,l,F,R⟩
  ·refine bo ml λan aF bX aR h a0=>⟨f.a h,?_⟩;have bD:=f.size;refine(aP (f.a h)).o ?_;rintro aC bC ⟨rfl,K⟩;refine⟨f.a h,(rP K q G b0 aH).o ?_⟩;rintro p aE ⟨H,l,rfl⟩;have o:=(f.a h).a H;refine⟨o,?_⟩;rw[aN,aO];refine aZ (cS:=e4 m (aT ((ca 0 t c).take m)) l) mj g (a0.h H) F F ae (mq _ _ _) λbS a3 Q R=>?_;have ez:O az bS:=o.ab Q λay S=>by cases S;omega
   exact⟨ez,ez,an,l,F,R⟩
 rintro au V a4 ⟨bI,an,d2,rfl,a0⟩;simp only [av];have bh:=bF.a bI;have c3:=(aw.h bI).b;apply bE.h;have f:O a4 a4.drew:=(O.p a4).C;have c4:=a0.b;rw[b2 tL E (c3.f 0 F) f,b2 tL E (c4.f 0 F) f];apply bE.h;have a5:O a4.drew a4.drew.drew:=(O.p _).C;have c5:=((aw.h bI).h f).b;have c6:=((aJ.h bh).h f).b;rw[aK (λU A W=>aj k0) a5,aK (λU A W=>aj gQ) a5,aK (λU A W=>eO (i:=0) (z:=0) eT bw G G F) a5,dR (v:=I X (aT ((ca 0 t c).take r)).bH) E (c5.f 2 F) a5,b2 bP E (c6.f 1 F) a5,aA];have aU:=f.a a5;generalize a4.drew.drew=d3 at*;clear a5;have d4:=bc.dU;have d5:=aH.dU;refine bG.y (λau B=>O a4 B/\∃(L:Nat) (ap:Int),au=[I X L,I X ap]/\r<=L/\L<=(ca 0 t c).length/\0<=ap/\ap<=10000000/\ca 0 s d=fm 0 u++ca (cE 0 u) ap i++(ca 0 t c).drop L) ?_ ?_
 ·refine(Aq ((bg.h bh).h aU)).o ?_;rintro aC aE ⟨rfl,K⟩;refine(C_ (i:=m) K ⟨G⟩).o ?_;rintro p aF ⟨h,bi⟩;rcases ct with⟨aS,aV,d6,a7⟩|⟨c7,a7⟩
  ·rcases bi with⟨bj,_⟩|⟨_,j,aW,rfl⟩
   ·exact aL ⟨G,by have:=(dS.1 aV).1;omega⟩ bj
   ·have:j=aS:=by rw[show(m:Int).toNat=m from G,aV]at aW;cases aW;rfl
    subst this;have c8:=(dS.1 aV).1;rw[aN,aO];refine cj (cS:=cq j) fP fs g F F (fe.B _) λcA bS cB a3 aY bZ=>?_;have cC:=(((a0.h aU).h h).h aY).b;have cD:=((((a9.h bh).h aU).h h).h aY).b;have cF:=q j (cl aV);have d7:=xY (g:=(·.bH)) (m:=1099511627776) (L:=ca 0 t c) (λy D=>(q y D).1) (m+1);have bk:∀bn,(aT ((ca 0 t c).take bn)).bH=dI (·.bH) ((ca 0 t c).take bn):=λbn=>(sH (L:=(ca 0 t c).take bn) (λy D=>q y (fy D)) (by rw[bt];omega)).1;have d8:dI (·.bH) (ca 0 t c)=t:=by have:=bk (ca 0 t c).length;rw[cI]at this;omega
    have d9:=xY (g:=(·.bH)) (m:=1099511627776) (L:=ca 0 t c) (λy D=>(q y D).1) m;have dA:dI (·.bH) ((ca 0 t c).take (m+1))=dI (·.bH) ((ca 0 t c).take m)+j.bH:=by rw[c9 aV,ld,hQ,ho];omega
    have cH:=cF.1;have cJ:=aH.Ar c8;have dB:b<=dI (·.bH) ((ca 0 t c).take (m+1)):=by
     have A:fp (ca 0 t c) 0 (m+1)=(aT ((ca 0 t c).take (m+1))).bH:=rfl;rcases cJ with aq|⟨aq,_⟩
     ·rw[A,bk]at aq;omega
     ·omega
    have cb:=bk m;unfold hx at cH;rw[bm,h4 F,aD,aj k0,aj gQ,eO (i:=0) (z:=0) eT bw G G F,aM (v:=I X (aT ((ca 0 t c).take m)).bH) E (cC.f 2 F),
     aj tJ,eO (i:=0) (z:=0) eT bw G G F,aM (v:=I X j.bH) E (bZ.b.f 2 F),aD,M bP E (cD.f 1 F),cd,aD]
    refine⟨(aU.a h).a aY,m+1,_,by simp;rfl,G,G,G,G,?_⟩;rw[a7,show e+((aT ((ca 0 t c).take m)).bH+j.bH-b)=e+(aT ((ca 0 t c).take m)).bH+j.bH-b from G]
  ·rcases bi with⟨bj,rfl⟩|⟨_,j,aW,_⟩
   ·rw[aN,aO];refine cj (cS:=cq hD) fP fs g F F (fe.B _) λcA bS cB a3 aY bZ=>?_;rw[bm,du G];refine⟨(aU.a h).a aY,m,e,F,cs,G,G,G,?_⟩;rw[a7,c7,mc,cT]
   ·rw[show(m:Int).toNat=m from G,j2 G]at aW;cases aW
 rintro au V bJ ⟨cK,L,ap,rfl,dC,dE,cM,cN,a7⟩;simp only [av,bA];have bp:=bh.a cK;apply bE.h;have a8:O bJ bJ.drew:=(O.p bJ).C;have cf:=(aJ.h bp).b;rw[aK (λU A W=>GU _ _) a8,show max (r:Int) L=L from G,b2 ce E (cf.f 0 F) a8,b2 bP E (cf.f 1 F) a8];refine(Aq ((bg.h bp).h a8)).o ?_;rintro aC dF ⟨rfl,K⟩;refine⟨a8,?_⟩;refine(SX (a:=a) (b:=e) ((b7.h bp).h a8) G).o ?_;rintro dG dH ⟨cg,ch⟩;rw[cu]at ch;have DT:=a8.a cg;refine⟨DT,?_⟩;have ci:∀j∈i,j∈d:=λj q=>by rw[bb];exact b9.2 (.inr (b9.2 (.inl q)))
 have dK:i.length<=60:=by have:=ck gB bb;simp at this;omega
 have cb:=wo bv;have dL:0<=cE 0 u/\cE 0 u<=t:=by have aq:=xY (g:=(·.bH)) (m:=1099511627776) (L:=ca 0 t c) (λy D=>(q y D).1) r;have bk:=(sH (L:=(ca 0 t c).take r) (λy D=>q y (fy D)) (by rw[bt];omega)).1;have dM:=(sH (L:=ca 0 t c) q G).1;omega
 refine(Wx (f:=cE 0 u) (t:=ap) (ch.aI d0) G (λj q=>⟨by have:=cb j (ci j q);omega,by have:=(ma.1 (bv.ab j (ci j q))).1;omega⟩) G ⟨cM,cN⟩).o ?_;rintro dP dQ ⟨cm,cQ⟩;have bK:=DT.a cm;refine⟨bK,?_⟩;have dT:=A.aM;have cR:=A.aI;have cS:∀y∈ca (cE 0 u) ap i,y∈ca 0 s d:=λy D=>by rw[a7];exact b9.2 (.inl (b9.2 (.inr D)))
 have dV:(ca (cE 0 u) ap i).length<=2001:=by have:=ck gB a7;simp at this;omega
 refine(Hk (a:=r) (b:=L) (K.h (cg.a cm)) G (cQ.aI fe)).o ?_;rintro p dW ⟨cn,bi⟩;refine⟨bK.a cn,?_⟩;have inr:rm (ca 0 t c) r L:=⟨G,G,G⟩;rcases bi with⟨bj,_⟩|⟨_,cU,_⟩|⟨_,_,cV,_⟩|⟨_,_,_,cU,_⟩|⟨_,_,_,_,P,rfl,cW⟩
 ·exact aL inr bj
 ·omega
 ·exact aL (λy D=>cR y (cS y D)) cV
 ·omega
 ·rw[aN,aO,bs,bu];refine⟨λaq=>aL F aq,λ_=>?_⟩;obtain⟨br,cY,rfl,cZ,da⟩:=cW;rw[bz (S:=[ad (J ⟨br,0,ac⟩)]) (iR:=[(0,[ad (J ⟨br,0,ac⟩)])]) Qt P3 F F];refine bd (S:=[ad (J ⟨br,0,ac⟩)]) F λdb dY dZ ea bL dc=>?_;refine⟨((b5.a bp).a (bK.a cn)).a bL,_,F,db,_,F,dc,.inr ⟨br,cY,F,cZ.h bL,?_⟩⟩;have dd:(ca 0 t c).take (r:Int).toNat++ca (cE 0 u) ap i++(ca 0 t c).drop (L:Int).toNat=ca 0 s d:=by rw[show(r:Int).toNat=r from G,show(L:Int).toNat=L from G,cG,a7]
  rw[<-dd];exact da.h bL
def Rs(a:Int):ak Y 261 [I X a] w λb c=>O w c/\b=al (cq (eI a)).toArray:=by apply Z0;refine bo fP λi j k l d e=>?_;rw[Bx,bz (S:=cq (eI a)) (iR:=[(0,[I X 0]),(2,[I X a,I X a,I X 0])]) fP xa F F];refine er fs lr g e F F (fe.B _) λo p f q=>?_;exact⟨d.ab f λr h=>by cases h;omega,F⟩
def af4(a:Int):ak Y 262 [I X a] w λb c=>O w c/\b=al (cq (lG a)).toArray:=by apply ZY;refine bo fP λi j k l d e=>?_;rw[Bx,bz (S:=cq (lG a)) (iR:=[(0,[I X 1]),(2,[I X a,I X 1,I X 0])]) fP xa F F];refine er fs lr g e F F (fe.B _) λo p f q=>?_;exact⟨d.ab f λr h=>by cases h;omega,F⟩
def Uz{x:List aB}{n:Nat}{e:aB}(b:x[n]? =J e)(a:Int):ek a (x.take (n+1))=ek a (x.take n)++((if cH a (x.take n)<e.1 then [eI (e.1-cH a (x.take n))]else [])++[lG (e.2-e.1)])/\cH a (x.take (n+1))=e.2:=by rw[c9 b,GD,Fm];exact⟨F,F⟩
def akB(a:List aB)(b c:Int):b4 b c a=ek b a++(if cH b a<c then [eI (c-cH b a)]else []):=by have:=v8 a [] b c;rw[cT]at this;rw[this];rfl
def Uy:∀(b:List aB) (a:Int),(ek a b).length<=2*b.length
 |[],a=>by simp[ek]
 |c::d,a=>by have:=Uy d c.2;unfold ek;split<;>simp<;>omega
variable{x:Z}
def Ru{f:Int}{l:List aB}(U:aC w x 2 ah l)(aE:l.length<=1000)(aw:∀b∈l,0<=b.1/\b.1<=10000000/\0<=b.2/\b.2<=10000000)(V:0<=f/\f<=10000000)(aF:0<=t/\t<=10000000):
 ak Y 182 [I X f,I X t,x] w λr h=>O w h/\ar h w.heap.size 159 7 r cq (b4 f t l):=by
 apply Z2;rw[aS cm.m U];refine ba.bJ (λC m s=>O w s/\∃(c:Nat) (n:Z),c+C=l.length/\m=[n,I X (cH f (l.take c)),I X c]/\0<=cH f (l.take c)/\cH f (l.take c)<=10000000/\ar s w.heap.size 159 7 n cq (ek f (l.take c))) ⟨l.length,O.p w,0,_,G,F,by simpa [cH]using V.1,by simpa [cH]using V.2,ar.nil ..⟩ ?_;rintro C m ay s ⟨i,c,n,aG,rfl,az,a0,j⟩;simp only [av,bA];rw[aR,ai];have W:=Uy (l.take c) f;rw[bt]at W;refine⟨λae=>?_,λaH=>?_⟩
 ·obtain⟨b,D⟩:∃b,l[c]? =J b:=⟨_,aX G⟩;obtain⟨aI,aJ,aK,aL⟩:=aw b (cl D);obtain⟨a2,H⟩:=Uz D f;generalize cH f (l.take c)=u at*;generalize ek f (l.take c)=aj at*;refine cm.dO (U.h i) D F λk a3 o aM aN v=>?_;refine bG.y (λm h=>O w h/\∃y,m=[y]/\ag h k (ah b)/\a3.heap.size<=h.heap.size/\(∀a,y.ownBlock=J a->a≠k)/\ar h w.heap.size 159 7 y cq (aj++if u<b.1 then [eI (b.1-u)]else [])) ?_ ?_
  ·have z:∀a,n.ownBlock=J a->w.heap.size<=a/\a<s.heap.size:=λa d=>j.D a d;rw[M ce E (v.b.f 0 F),cb,ai];refine⟨λa4=>?_,λK=>⟨i.a o,n,F,v,a6 _,λa d=>by have:=(z a d).2;omega,by rw[an K,cT];exact j.h o⟩⟩;rw[M ce E (v.b.f 0 F),cd];refine(Rs _).o ?_;rintro r am ⟨e,rfl⟩;have a5:=e.size;refine zi.push ((j.h o).h e) ((i.a o).a e).size G g λA L P p Q=>?_;have q:ag L k (ah b):=(v.h e).ab p λR=>by have:=(z k R.symm).2;omega
   refine⟨((i.a o).a e).ab p λa d=>(z a d).1,A,F,q,by have:=p.size;omega,λa d=>?_,by rw[au a4];exact P⟩;rcases Q with S|S
   ·rw[S]at d;have:=(z a d).2;omega
   ·have:=S a d;omega
  rintro m ay am ⟨e,y,rfl,q,a5,a7,ap⟩;simp only [av];rw[M bP E (q.b.f 1 F),M ce E (q.b.f 0 F),cd];refine(af4 _).o ?_;rintro r L ⟨B,rfl⟩;have aO:(aj++if u<b.1 then [eI (b.1-u)]else []).length<=3000:=by rw[bf];split<;>simp<;>omega
  refine zi.push (ap.h B) (e.a B).size G g λA a8 a9 aq Q=>?_;have aA:ag a8 k (ah b):=(q.h B).ab aq λR=>a7 k R.symm F;rw[M bP E (aA.b.f 1 F),aD];refine⟨C-1,G,(e.a B).ab aq λa d=>(ap.D a d).1,c+1,A,G,by rw[H];simp,by rw[H];omega,by rw[H];omega,?_⟩;rw[a2,<-cX];exact a9
 ·rw[show c=l.length from G,cI]at j az a0 W⊢;rw[akB,cb,ai];refine⟨λae=>?_,λK=>⟨i,by rw[an K,cT];exact j⟩⟩;rw[cd];refine(Rs _).o ?_;rintro r am ⟨e,rfl⟩;refine zi.push (j.h e) (i.a e).size G g λA L P p Q=>?_;exact⟨(i.a e).ab p λa d=>(j.D a d).1,by rw[au ae];exact P⟩
def mK(w:aa)(v:Z)(c:Int)(H:List aB):Prop:=∃a b,v=ad (J ⟨a,0,ac⟩)/\ag w a [b]/\eF w b (b4 0 c H)
def mK.h{w a:aa}{v:Z}{c:Int}{H:List aB}(h:mK w v c H)(e:O w a):mK a v c H:=by obtain⟨b,d,f,g,i⟩:=h;exact⟨b,d,f,g.h e,i.h e⟩
def BD{H:List aB}(a:mK w v t H):ak Y 376 [v] w λb c=>c=w/\eF w b (b4 0 t H):=by obtain⟨f,g,rfl,d,e⟩:=a;apply ZU;rw[fZ D];show b6 (ax ao) _ _;rw[cw,bn,M adn wU (d.f 0 F)];exact⟨F,e⟩
def MG{H:List aB}(a:mJ t H):(aT (b4 0 t H)).bH=t/\(aT (b4 0 t H)).dC=t-pa H:=by have b:=sH a.aI (by have:=a.aM;omega);have c:=UD H 0 a.ae a.jA.1;omega
def Rv{H:List aB}(i:mK w x t H)(j:mJ t H):ak Y 352 [x] w λf k=>O w k/\f=a1 #[I X t,I X (t-pa H)]:=by
 apply ZR;refine(BD i).o ?_;rintro u b ⟨rfl,l⟩;refine(uJ l).o ?_;rintro f v ⟨m,rfl⟩;refine cj (cS:=br (aT (b4 0 t H))) kc k1 g F F (kD _) λz c A B n o=>?_;apply bE.h;have a:O c c.drew:=(O.p c).C;have h:=o.b;obtain⟨p,q⟩:=MG j;rw[aK (λb d e=>aj gQ) a,aK (λb d e=>eO (i:=0) (z:=0) eT bw G G F) a,dR E (h.f 1 F) a,
  aK (λb d e=>aj gQ) a,aK (λb d e=>eO (i:=1) (z:=1) eT bw G G F) a,dR E (h.f 2 F) a]
 exact⟨(m.a n).a a,by rw[p,q]⟩
def Q8(a:aB):ak Y 373 [al (ah a).toArray,I X n] w λd e=>O w e/\d=ax (decide (0<=a.1/\a.1<=a.2/\a.2<=n)):=by apply ZX;refine bd (S:=ah a) F λj k l m c f=>?_;have b:=f.b;rw[M ce E (b.f 0 F),eE,ai];refine⟨λg=>?_,λg=>⟨c,by rw[db G]⟩⟩;rw[M bP E (b.f 1 F),M ce E (b.f 0 F),eE,ai];refine⟨λh=>?_,λh=>⟨c,by rw[db G]⟩⟩;rw[M bP E (b.f 1 F),fg];refine⟨c,?_⟩;congr 1;rw[decide_eq_decide];omega
def E8(a:aB)(b:Int):ak Y 387 [al (ah a).toArray,I X b] w λe f=>O w f/\e=ax (decide (a.1<b/\b<a.2)):=by apply ZW;refine bd (S:=ah a) F λj k l m c g=>?_;have d:=g.b;rw[M ce E (d.f 0 F),aR,ai];refine⟨λh=>?_,λh=>⟨c,by rw[db G]⟩⟩;rw[M bP E (d.f 1 F),aR];refine⟨c,?_⟩;congr 1;rw[decide_eq_decide];omega
def Vx{g:Int}:∀{b:List aB} {d:Int} {f:Nat} {a:aB},dB g d b->b[f]? =J a->cH d (b.take f)<=a.1/\a.1<a.2/\a.2<=g
 |h::b,d,0,a,c,e=>by simp at e;subst e;exact⟨c.1,c.2.1,c.2.2.1⟩
 |h::b,d,f+1,a,c,e=>by simpa [cH]using Vx c.2.2.2 (by simpa using e)
variable{e:Z}{d:List aB}
def Rt(p:k3 w x n c)(q:k2 n c)(f:aC w e 2 ah d)(r:dB n 0 d):ak Y 180 [x,e] w λj s=>O w s/\j=ax true:=by
 apply Z1;refine(Dh p q).o ?_;rintro j v ⟨k,rfl⟩;have y:=f.aD;rw[aN,aO,aS cm.m (f.h k)];refine ba.bJ (λg l m=>O w m/\∃a:Nat,a+g=d.length/\l=[I X (cH 0 (d.take a)),I X a]) ⟨d.length,k,0,G,F⟩ ?_;rintro g l z m ⟨h,a,A,rfl⟩;simp only [av,bA];rw[aR,ai];refine⟨λB=>?_,λC=>⟨h,trivial⟩⟩;obtain⟨o,i⟩:∃o,d[a]? =J o:=⟨_,aX G⟩;obtain⟨D,H,K⟩:=Vx r i;refine cm.dO (f.h h) i F λL P t Q R u=>?_;have b:=u.b;rw[M ce E (b.f 0 F),aR,du G,M bP E (b.f 1 F),M ce E (b.f 0 F),fg,du G,M bP E (b.f 1 F),cb,du G,
  M bP E (b.f 1 F),aD]
 refine⟨g-1,G,h.a t,a+1,G,?_⟩;rw[(Uz i 0).2];simp
def Rr(r:k3 w x n c)(s:k2 n c)(t:aC w e 2 ah d)(V:d.length<=1000)(z:∀a∈d,0<=a.1/\a.1<=n/\0<=a.2/\a.2<=n):ak Y 183 [x,e] w λi u=>O w u/\ar u w.heap.size 49 2 i ah (d.map (hP c)):=by apply ZZ;rw[aS cm.m t];refine ba.bJ (λj v k=>O w k/\∃(b:Nat) (l:Z),b+j=d.length/\v=[l,I X b]/\ar k w.heap.size 49 2 l ah ((d.take b).map (hP c))) ⟨d.length,O.p _,0,_,G,F,ar.nil ..⟩ ?_;rintro j v W k ⟨f,b,l,ag,rfl,h⟩;simp only [av,bA];rw[aR,ai];refine⟨λaj=>?_,λam=>⟨f,by rw[show b=d.length from G,cI]at h;exact h⟩⟩;obtain⟨a,m⟩:∃a,d[b]? =J a:=⟨_,aX G⟩;obtain⟨A,B,C,D⟩:=z a (cl m);refine cm.dO (t.h f) m F λan ap o aq au y=>?_;rw[M ce E (y.b.f 0 F)];refine(Hr (C:=a.1) (aJ:=1) ((r.h f).h o) s ⟨A,B⟩ (.inr F)).o ?_;rintro i aw ⟨p,rfl⟩;rw[aN,aO,M bP E ((y.h p).b.f 1 F)];refine(Hr (C:=a.2) (aJ:=0) (((r.h f).h o).h p) s ⟨C,D⟩ (.inl F)).o ?_;rintro i ay ⟨L,rfl⟩;have q:=(o.a p).a L;rw[aN,aO,sX];refine cm.push (h.h q) (f.a q).size (by simp;omega) g λP az Q R a0=>?_;rw[aD];exact⟨j-1,G,(f.a q).ab R λS U=>(h.D S U).1,b+1,P,G,ae,by rw[c9 m,dJ];exact Q⟩
def af_{h:List aB}(g:k3 w x t c)(i:k2 t c)(m:aC w e 2 ah h)(n:dB t 0 h)(a:mJ (t+dG c) (h.map (hP c))):ak Y 110 [x,e] w λb o=>O w o/\∃p,b=a1 #[p,I X 0]/\mK o p (t+dG c) (h.map (hP c)):=by
 apply ZV;refine(Rt g i m n).o ?_;rintro b L ⟨d,rfl⟩;rw[dD];show b6 (ax ao) _ _;rw[cw];refine(Dh (g.h d) i).o ?_;rintro b M ⟨j,rfl⟩;rw[aN,aO];have q:=a.bl;rw[b_]at q;refine(Rr ((g.h d).h j) i ((m.h d).h j) q λs k=>by have:=n.Q k;omega).o ?_;rintro P Q ⟨u,v⟩;have jA:=a.jA;refine(Ru (f:=0) (t:=t+dG c) (v.aI e_) (by rw[b_];omega) (λs k=>by have:=a.ae.Q k;omega) G jA).o ?_;rintro U V ⟨y,z⟩;have W:=a.aM;refine(xL (z.aI fe)).o ?_;rintro b ab ⟨A,⟨r,_⟩|⟨_,r,_⟩|⟨_,_,f,B,rfl,C,D⟩⟩
 ·omega
 ·exact aL a.aI r
 rw[aN,aO,bs,bu];refine⟨λh=>aL F h,λ_=>?_⟩;rw[bz (S:=[ad (J ⟨f,0,ac⟩)]) (iR:=[(0,[ad (J ⟨f,0,ac⟩)])]) Qn PR F F];refine bd (S:=[ad (J ⟨f,0,ac⟩)]) F λH ai aj am l K=>?_;exact⟨((((d.a j).a u).a y).a A).a l,_,F,H,_,F,K,.inr ⟨f,B,F,C.h l,D.h l⟩⟩
def e8(l:List aB)(s:aB):List aB:=l.filter λa=>decide (s.1<=a.1/\a.2<=s.2)
variable{n:Nat}{s:aB}
def M0{x:aB}{L:List aB}(a:L[n]? =J x):e8 (L.take (n+1)) s=e8 (L.take n) s++(if s.1<=x.1/\x.2<=s.2 then [x]else []):=by unfold e8;rw[c9 a,jd];congr 1;by_cases b:s.1<=x.1/\x.2<=s.2<;>simp[b]
def agq{l:List aB}(y:aC w x 2 ah l)(aj:l.length<=1000)(o:∀a∈l,¬(a.1<s.1/\s.1<a.2)/\¬(a.1<s.2/\s.2<a.2)):
 ak Y 374 [x,al (ah s).toArray] w λp j=>O w j/\∃z,p=a1 #[z,ax af]/\ar j w.heap.size 49 2 z ah (e8 l s):=by
 apply Z3;refine bd (S:=ah s) F λap A aq aw k D=>?_;have ay:=k.size;rw[aS cm.m (y.h k)];refine ba.bJ (λm d q=>O A q/\∃(b:Nat) (e:Z),b+m=l.length/\d=[e,I X b]/\ar q A.heap.size 49 2 e ah (e8 (l.take b) s)) ⟨l.length,O.p _,0,_,G,F,ar.nil ..⟩ ?_;rintro m d H q ⟨c,b,e,az,rfl,f⟩;simp only [av,bA];rw[aR,ai];have a0:(e8 (l.take b) s).length<=1000:=by unfold e8;have:=mH (λa:aB=>decide (s.1<=a.1/\a.2<=s.2)) (l.take b);rw[bt]at this;omega
 refine⟨λa2=>?_,λa3=>⟨k.a c,e,F,by rw[show b=l.length from G,cI]at f;exact f.o G⟩⟩;obtain⟨a,n⟩:∃a,l[b]? =J a:=⟨_,aX G⟩;obtain⟨K,L⟩:=o a (cl n);refine cm.dO ((y.h k).h c) n F λa4 a5 B a7 a8 r=>?_;have t:=(D.h c).h B;rw[aF cP r.b F,M ce E (t.b.f 0 F)];refine(E8 a s.1).o ?_;rintro p a9 ⟨h,rfl⟩;rw[db K,cw,aF cP (r.h h).b F,M bP E ((t.h h).b.f 1 F)];refine(E8 a s.2).o ?_;rintro p P ⟨u,rfl⟩;have i:=(B.a h).a u;have v:=((r.h h).h u).b;have C:=((t.h h).h u).b;rw[db L,cw];refine bG.y (λd j=>j=P/\d=[ax (decide (s.1<=a.1/\a.2<=s.2))]) ?_ ?_
 ·rw[M ce E (v.f 0 F),M ce E (C.f 0 F),eE,ai];refine⟨λo=>?_,λo=>⟨F,by rw[db G]⟩⟩;rw[M bP E (v.f 1 F),M bP E (C.f 1 F),fg];refine⟨F,?_⟩;congr 2;rw[decide_eq_decide];omega
 rintro d H aA ⟨rfl,rfl⟩;simp only [av];rw[ai];refine⟨λQ=>?_,λR=>?_⟩
 ·rw[aF cP v F];refine cm.push (f.h i) (c.a i).size G g λS aE U V aG=>?_;rw[aD];exact⟨m-1,G,(c.a i).ab V λW ag=>(f.D W ag).1,b+1,S,G,ae,by rw[M0 n,au Q];exact U⟩
 ·rw[aD];exact⟨m-1,G,c.a i,b+1,e,G,ae,by rw[M0 n,an R,cT];exact f.h i⟩
def U5(b:∀c∈L,fz c)(f:L.length<=1000000)(a:Nat):(aT (L.take a)).bH=gL L a:=(sH (L:=L.take a) (λd e=>b d (fy e)) (by rw[bt];omega)).1
variable{s x:Int}
def Rq{H:List aB}{M:List Z->aa->Prop}{a:aa}(L:mJ t H)(aj:mK a v t H)(A:ha (b4 0 t H) 0 s x n)(B:ij (b4 0 t H) 0 s x)
 (C:∀(j:aa) (D:Nat) (c:Int),O a j->a.heap.size<=D->ag j D (e4 n (aT ((b4 0 t H).take n)) c)->M [ad (J ⟨D,0,ac⟩)] j):
 (ak Y 376 [v] a.drew λu w=>O a w/\(ak Y 189 [u,I X 0,I X s,I X x] w λf w=>O a w/\e7 f 0 w λk w=>e7 f 1 w λP w=>gM Y 358 w λh w=>O a w/\c4 Y 358 h k w λw=>O a w/\M [h] w)/\
  (gM Y 358 w λh w=>O a w/\ak Y 189 [u,I X 0,I X s,I X x] w λf w=>O a w/\e7 f 0 w λk w=>e7 f 1 w λP w=>c4 Y 358 h k w λw=>O a w/\M [h] w))/\
 (gM Y 358 a.drew λh w=>O a w/\ak Y 376 [v] w λu w=>O a w/\ak Y 189 [u,I X 0,I X s,I X x] w λf w=>O a w/\e7 f 0 w λk w=>e7 f 1 w λP w=>c4 Y 358 h k w λw=>O a w/\M [h] w):=by
 have d:O a a.drew:=(O.p a).C;have aq:=d.size;have E:=L.aI;have ar:=L.aM;have Q:∀{y:aa},O a y->ak Y 376 [v] y λl j=>j=y/\eF y l (b4 0 t H):=λam=>(BD (aj.h am)).o λl j K=>⟨K.1,K.1▸K.2⟩;refine⟨(Q d).o ?_,?_⟩
 ·rintro an ap ⟨rfl,z⟩;refine⟨d,(rP z E G B A).o ?_,?_⟩
  ·rintro l R ⟨i,c,rfl⟩;have e:=d.a i;have au:=e.size;refine⟨e,?_⟩;rw[aN,aO];refine bo ml λm S U V b o=>⟨e.a b,?_⟩;refine aZ (cS:=e4 n (aT ((b4 0 t H).take n)) c) mj g o F F ae (mq _ _ _) λbS ah p q=>?_;have ez:O a bS:=(e.a b).ab p λai r=>by cases r;omega
   exact⟨ez,C bS m c ez G q⟩
  ·refine bo ml λm S U V b o=>⟨d.a b,?_⟩;refine(rP (z.h b) E G B A).o ?_;rintro l R ⟨i,c,rfl⟩;have e:=(d.a b).a i;refine⟨e,?_⟩;rw[aN,aO];refine aZ (cS:=e4 n (aT ((b4 0 t H).take n)) c) mj g (o.h i) F F ae (mq _ _ _) λbS ah p q=>?_;have ez:O a bS:=e.ab p λai r=>by cases r;omega
   exact⟨ez,C bS m c ez G q⟩
 ·refine bo ml λm S U V b o=>⟨d.a b,?_⟩;refine(Q (d.a b)).o ?_;rintro an ap ⟨rfl,z⟩;refine⟨d.a b,(rP z E G B A).o ?_⟩;rintro l R ⟨i,c,rfl⟩;have e:=(d.a b).a i;refine⟨e,?_⟩;rw[aN,aO];refine aZ (cS:=e4 n (aT ((b4 0 t H).take n)) c) mj g (o.h i) F F ae (mq _ _ _) λbS ah p q=>?_;have ez:O a bS:=e.ab p λai r=>by cases r;omega
  exact⟨ez,C bS m c ez G q⟩
def af0{e c d:Int}{k:Nat}{H:List aB}{m first:Nat}(bc:mK w v t H)(S:mJ t H)(bC:0<=s/\s<=x/\x<=t)(cu:0<=e/\e<=100000000)(be:ha (b4 0 t H) 0 s 0 n)(bg:ha (b4 0 t H) 0 x 1 m)(i:tX (b4 0 t H) n s=J (first,c))(l:oZ (b4 0 t H) m x e=J (k,d))(cx:first<=k):
 ak Y 375 [v,al (ah (s,x)).toArray,al (ah (s,e)).toArray] w λam f=>O w f/\am=a1 #[I X first,I X k,al (ah (c,d)).toArray,ax af]:=by
 apply ZT;have az:=S.aI;have cy:=S.aM;have jA:=S.jA;have bD:(b4 0 t H).length<=1000000:=G;obtain⟨cz,c0⟩:=MG S;have a4:=U5 az bD;have a0:∀A,0<=gL (b4 0 t H) A/\gL (b4 0 t H) A<=t:=λA=>by have c1:=xY (g:=(·.bH)) (m:=1099511627776) (L:=b4 0 t H) (λbF bI=>(az bF bI).1) A;have bi:=a4 (b4 0 t H).length;rw[cI]at bi;unfold gL at*;rw[cI]at bi;omega
 have bj:∀A a,(b4 0 t H)[A]? =J a->gL (b4 0 t H) (A+1)=gL (b4 0 t H) A+a.bH:=λA a bJ=>by unfold gL;rw[c9 bJ,ld,hQ,ho];omega
 have bK:ij (b4 0 t H) 0 s 0:=⟨g,g,bC.1,(show s<=(aT (b4 0 t H)).bH by omega),.inl F⟩;have bL:ij (b4 0 t H) 0 x 1:=⟨g,g,(show(0:Int)<=x by omega),(show x<=(aT (b4 0 t H)).bH by omega),.inr F⟩;have c3:=be.dU;have c4:=bg.dU;refine bd (S:=ah (s,x)) F λbk bl c5 c6 bn bN=>?_;refine bd (S:=ah (s,e)) F λc7 c8 cA cB a5 bO=>?_;refine bo dg λq cC cD cE a3 bQ=>?_;rw[aF cP (bO.h a3).b F];refine aZ (cS:=ah (s,e)) dj g bQ F F ae (dk _) λr cF bp bR=>?_;have bT:ag r q (ah (s,e)):=bR;have cG:=bn.size;have gv:=a5.size;have cH:=a3.size;have br:O w r:=((bn.a a5).a a3).ab bp λa2 D=>by cases D;omega
 have a7:ag r bk (ah (s,x)):=((bN.h a5).h a3).ab bp (by rintro⟨⟩;omega);have bs:=bc.h br;refine bG.y (λj f=>O r f/\∃(b:Nat) (u:Int),j=[ad (J ⟨b,0,ac⟩)]/\r.heap.size<=b/\ag f b (e4 n (aT ((b4 0 t H).take n)) u)) ?_ ?_
 ·apply bE.h;have a8:O r r.drew:=(O.p r).C;rw[b2 ce E (a7.b.f 0 F) a8];exact Rq (M:=λj f=>O r f/\∃(b:Nat) (u:Int),j=[ad (J ⟨b,0,ac⟩)]/\r.heap.size<=b/\ag f b (e4 n (aT ((b4 0 t H).take n)) u)) S bs be bK λf b u a9 aA aC=>⟨a9,b,u,F,aA,aC⟩
 rintro j o cJ ⟨U,cK,u,rfl,cM,bu⟩;simp only [av];rw[M tL E (bu.b.f 0 F)];have cN:=U.size;refine bG.y (λj f=>r.grownBy f (J q)/\j=[I X first,I X 0,ax ao]/\ag f q (ah (c,e))) ?_ ?_
 ·refine(BD (bs.h U)).o ?_;rintro bV bW ⟨rfl,aE⟩;refine(C_ (i:=n) aE ⟨G⟩).o ?_;rintro am aG ⟨p,aH⟩;have bX:=p.size;have ap:ag aG q (ah (s,e)):=(bT.h U).h p;rcases aH with⟨bY,rfl⟩|⟨_,a,B,rfl⟩
  ·have aJ:(b4 0 t H)[n]? =none:=j2 G;unfold tX at i;rw[aJ]at i;cases i;rw[aN,aO];refine cj (cS:=cq hD) fP fs g F F (fe.B _) λaK bS aL aP h K=>?_;rw[bm,du G];exact⟨eb ((U.a p).a h) _,F,ap.h h⟩
  ·rw[show(n:Int).toNat=n from G]at B;unfold tX at i;rw[B]at i
   dsimp only at i
   have aR:=(az a (cl B)).1;unfold hx at aR;have bZ:=bj n a B;have ca:=a0 n;have cb:=a0 (n+1);rw[aN,aO];refine cj (cS:=cq a) fP fs g F F (fe.B _) λaK bS aL aP h K=>?_;have bv:=((bu.h p).h h).b;have cf:=h.size;rw[bm,h4 F,aj k0,aj gQ,eO (i:=0) (z:=0) eT bw G G F,aM (v:=I X (aT ((b4 0 t H).take n)).bH) E (bv.f 2 F),
    aj k0,aj gQ,eO (i:=0) (z:=0) eT bw G G F,aM (v:=I X (aT ((b4 0 t H).take n)).bH) E (bv.f 2 F),
    aj tJ,eO (i:=0) (z:=0) eT bw G G F,aM (v:=I X a.bH) E (K.b.f 2 F),a4 n,aD,sX]
   refine cj (cS:=ah (gL (b4 0 t H) n,gL (b4 0 t H) n+a.bH)) dg dj g F F (dk _) λcg aS ch ci y V=>?_;have ck:=y.size;have aU:=(K.h y).b;have W:O r aS:=((U.a p).a h).a y;have L:=(ap.h h).h y;have ar:=(((a7.h U).h p).h h).h y;rw[M Pt E (aU.f 0 F),bm,ai];refine⟨λP=>?_,λP=>?_⟩
   ·rw[au P]at i;cases i;rw[M ce E (V.b.f 0 F),aj ce];refine aZ (cS:=[I X (gL (b4 0 t H) n)]) bw g L F F ae eY λaV cm aW aY=>?_;exact⟨eN (eb W _) aW,F,aY⟩
   ·rw[an P]at i;rw[aF cP V.b F,M ce E (ar.b.f 0 F)];refine(E8 _ s).o ?_;rintro am aV ⟨C,rfl⟩;by_cases Q:gL (b4 0 t H) n<s/\s<gL (b4 0 t H) n+a.bH
    ·rw[au Q]at i;cases i
    ·rw[an Q]at i;rw[db Q,cw,M bP E ((V.h C).b.f 1 F),M ce E ((ar.h C).b.f 0 F),bm,ai];refine⟨λba=>?_,λba=>?_⟩
     ·rw[au ba]at i;cases i;rw[aD];exact⟨eb (W.a C) _,ae,L.h C⟩
     ·rw[an ba]at i;cases i;exact⟨eb (W.a C) _,F,L.h C⟩
 rintro j o z ⟨bb,rfl,cn⟩;simp only [av,bA];have cQ:=bb.size;have bx:O w z:=br.ab bb λa2 D=>by cases D;omega
 have bz:ag z bk (ah (s,x)):=a7.ab bb (by rintro⟨⟩;omega);have b0:=bc.h bx;refine bG.y (λj f=>O z f/\∃(b:Nat) (u:Int),j=[ad (J ⟨b,0,ac⟩)]/\z.heap.size<=b/\ag f b (e4 m (aT ((b4 0 t H).take m)) u)) ?_ ?_
 ·apply bE.h;have a8:O z z.drew:=(O.p z).C;rw[b2 bP E (bz.b.f 1 F) a8];exact Rq (M:=λj f=>O z f/\∃(b:Nat) (u:Int),j=[ad (J ⟨b,0,ac⟩)]/\z.heap.size<=b/\ag f b (e4 m (aT ((b4 0 t H).take m)) u)) S b0 bg bL λf b u a9 aA aC=>⟨a9,b,u,F,aA,aC⟩
 rintro j o cR ⟨aw,cS,cU,rfl,cV,b1⟩;simp only [av];rw[M tL E (b1.b.f 0 F)];refine bG.y (λj f=>z.grownBy f (J q)/\j=[I X k,I X first,ax ao]/\ag f q (ah (c,d))) ?_ ?_
 ·refine(BD (b0.h aw)).o ?_;rintro bV bW ⟨rfl,aE⟩;refine(C_ (i:=m) aE ⟨G⟩).o ?_;rintro am aG ⟨p,aH⟩;have bX:=p.size;have ap:ag aG q (ah (c,e)):=(cn.h aw).h p;rcases aH with⟨bY,rfl⟩|⟨_,a,B,rfl⟩
  ·have aJ:(b4 0 t H)[m]? =none:=j2 G;unfold oZ at l;rw[aJ]at l;cases l;rw[aN,aO];refine cj (cS:=cq hD) fP fs g F F (fe.B _) λaK bS aL aP h K=>?_;rw[bm,du G];exact⟨eb ((aw.a p).a h) _,F,ap.h h⟩
  ·rw[show(m:Int).toNat=m from G]at B;unfold oZ at l;rw[B]at l
   dsimp only at l
   have aR:=(az a (cl B)).1;unfold hx at aR;have bZ:=bj m a B;have ca:=a0 m;have cb:=a0 (m+1);rw[aN,aO];refine cj (cS:=cq a) fP fs g F F (fe.B _) λaK bS aL aP h K=>?_;have b3:=((b1.h p).h h).b;have cf:=h.size;rw[bm,h4 F,aj k0,aj gQ,eO (i:=0) (z:=0) eT bw G G F,aM (v:=I X (aT ((b4 0 t H).take m)).bH) E (b3.f 2 F),
    aj k0,aj gQ,eO (i:=0) (z:=0) eT bw G G F,aM (v:=I X (aT ((b4 0 t H).take m)).bH) E (b3.f 2 F),
    aj tJ,eO (i:=0) (z:=0) eT bw G G F,aM (v:=I X a.bH) E (K.b.f 2 F),a4 m,aD,sX]
   refine cj (cS:=ah (gL (b4 0 t H) m,gL (b4 0 t H) m+a.bH)) dg dj g F F (dk _) λcg aS ch ci y V=>?_;have ck:=y.size;have aU:=(K.h y).b;have W:O z aS:=((aw.a p).a h).a y;have L:=(ap.h h).h y;have ar:=(((bz.h aw).h p).h h).h y;rw[M Pt E (aU.f 0 F),bm,ai];refine⟨λP=>?_,λP=>?_⟩
   ·rw[au P]at l;cases l;rw[M bP E (L.b.f 1 F),M bP E (V.b.f 1 F),M bP E (ar.b.f 1 F),cd,aD,aj bP];refine aZ (cS:=[I X (e+(gL (b4 0 t H) m+a.bH-x))]) bw g L F F ae eY λaV cm aW aY=>?_;rw[aD];exact⟨eN (eb W _) aW,ae,aY⟩
   ·rw[an P]at l;rw[aF cP V.b F,M bP E (ar.b.f 1 F)];refine(E8 _ x).o ?_;rintro am aV ⟨C,rfl⟩;by_cases Q:gL (b4 0 t H) m<x/\x<gL (b4 0 t H) m+a.bH
    ·rw[au Q]at l;cases l
    ·rw[an Q]at l;cases l;rw[db Q,cw];exact⟨eb (W.a C) _,F,L.h C⟩
 rintro j o R ⟨co,rfl,b5⟩;simp only [av,bA];have cp:O w R:=bx.ab co λa2 D=>by cases D;omega
 refine bE.y (λb6=>R.grownBy b6 (J q)/\ag b6 q (ah (c,d))) ⟨jz _ _,b5.h (O.p R).C⟩ ?_;have ay:R.grownBy R.drew (J q)/\ag R.drew q (ah (c,d)):=⟨jz _ _,b5.h (O.p R).C⟩;rw[bh (λbl b7 cr=>GU _ _) ay,show max (first:Int) k=k from G,bh (λbl b7 cr=>aF cP b7.2.b F) ay];refine aZ (cS:=ah (c,d)) dj g ay.2 F F ae (dk _) λcs cW b8 ct=>?_;have bB:ag cs q (ah (c,d)):=ct;refine⟨⟨eN ay.1 b8,bB⟩,?_⟩;rw[aF cP bB.b F];exact⟨F,cp.ab (eN ay.1 b8) λa2 D=>by cases D;omega,F⟩
end aY
namespace aY
open Go.bW Go.cB Go.Proofs.YtoddhldofgfdmaaGreatDoor.b0
def p_(a:List Int)(p:Nat):List aP:=match a[p]? with|some b=>[(b,1,0,(p:Int))]|none=>[]
def vB(a b:List dA):dT (a++b)=dT a++dT b:=by unfold dT;rw[hG]
def vC(a:dA):dT [a]=jv a:=by unfold dT;rw[sj]
def Sa(p:dA)(l:List dA):dT (p::l)=jv p++dT l:=by unfold dT;rw[iB]
def WL{α β:Type}(b:α->β):∀(a:List α) (c:Nat),(a.zipIdx c).map (λd=>b d.1)=a.map b
 |[],_=>F
 |e::a,c=>by rw[List.zipIdx_cons,eB,eB,WL b a]
def Q7(a:Int)(x:aG):jv (2,a,bY x.c5)=o8 a x:=by unfold jv oo fU o8;rw[an (show¬(2:Int)=3 by decide),cI];exact WL (λb=>((b,2,0,a):aP)) _ _
def Q6(a:Int):jv (3,a,[])=[(8230,3,0,a)]:=rfl
def J6(a:Int)(b:List Int)(c:Int):jv (1,a,b++[c])=jv (1,a,b)++[(c,1,0,a+b.length)]:=by unfold jv oo fU;rw[an (show¬(1:Int)=3 by decide),an (show¬(1:Int)=3 by decide),cI,cI,List.zipIdx_append,dJ];simp[lv]
def J5(c:List Int)(a:Nat):∀b,a+b<=c.length->jv (1,(a:Int),(c.drop a).take b)=(hs a b).flatMap (p_ c)
 |0,_=>by simp[jv,oo,fU]
 |b+1,f=>by
  obtain⟨d,e⟩:∃d,c[a+b]? =J d:=⟨_,aX G⟩;rw[List.range'_concat,hG,<-J5 c a b G,sj,Nat.one_mul];have:(c.drop a).take (b+1)=(c.drop a).take b++[d]:=by rw[List.take_add_one,kQ,e];rfl
  rw[this,J6];congr 1;unfold p_;rw[e,bt,cO,lP G];simp
def nY(r:List Int):Int->List aG->List dA
 |_,[]=>[]
 |a,b::c=>(if a<b.C then [(1,a,(r.drop a.toNat).take (b.C-a).toNat)]else [])++(2,b.C,bY b.c5)::nY r (if a<b.C then b.C else a) c
def ns(r:List Int)(f t:Int)(l:List aG):List dA:=nY r f l++(if cE f l<t then [(1,cE f l,(r.drop (cE f l).toNat).take (t-cE f l).toNat)]else [])
def alr(c:List Int)(a d:Int)(b:aG)(l:List aG):ns c a d (b::l)=(if a<b.C then [(1,a,(c.drop a.toNat).take (b.C-a).toNat)]else [])++(2,b.C,bY b.c5)::ns c (if a<b.C then b.C else a) d l:=by unfold ns;rw[nY,cE,cX,gO]
def Mm(c:List Int):∀(l:List aG) (a:Int) (b:aG),nY c a (l++[b])=nY c a l++((if cE a l<b.C then [(1,cE a l,(c.drop (cE a l).toNat).take (b.C-cE a l).toNat)]else [])++[(2,b.C,bY b.c5)])
 |[],a,b=>F
 |d::l,a,b=>by rw[gO,nY,nY,cE,Mm c l,cX,gO]
def Hp(b:aG)(l:List aG)(a:Int):gr (b::l) a=(if b.C=a then o8 a b else [])++gr l a:=by
 unfold gr;rw[ri];by_cases c:b.C=a
 ·rw[au c,au (by simpa using c),iB]
 ·rw[an c,an (by simpa using c),fc]
variable{t:Int}
def MT{l:List aG}(b:∀a∈l,a.C≠t):gr l t=[]:=by unfold gr;rw[lF λa c=>rH (b a c)];rfl
def Mq{d:List Int}{c:Nat}(m:c<=d.length):∀(e:List aG) (a:Nat),hz c a e->a<=c->dT (ns d a c e)=(hs a (c-a)).flatMap (λp:Nat=>gr e p++p_ d p)++gr e c
 |[],a,_,n=>by
  unfold ns nY cE;rw[fc,MT (l:=[]) (by intro f h;cases h),cT];have i:(hs a (c-a)).flatMap (λp:Nat=>gr [] p++p_ d p)=(hs a (c-a)).flatMap (p_ d):=rQ λp _=>by rw[MT (by intro f h;cases h),fc]
  rw[i];by_cases o:a<c
  ·rw[au G,vC,kq,show((c:Int)-a).toNat=c-a from G,J5 d a (c-a) G]
  ·rw[an G,show c-a=0 from G];rfl
 |f::e,a,q,n=>by
  obtain⟨z,A,l⟩:=q;obtain⟨b,g⟩:∃b:Nat,f.C=b:=⟨f.C.toNat,G⟩;rw[alr,g];have r:(if(a:Int)<b then(b:Int)else a)=b:=by split<;>omega
  rw[r,vB,Sa,Q7,Mq m e b (by rw[<-g];exact l) G];have s:dT (if(a:Int)<b then [(1,(a:Int),(d.drop (a:Int).toNat).take ((b:Int)-a).toNat)]else [])=(hs a (b-a)).flatMap (λp:Nat=>gr (f::e) p++p_ d p):=by
   have i:(hs a (b-a)).flatMap (λp:Nat=>gr (f::e) p++p_ d p)=(hs a (b-a)).flatMap (p_ d):=rQ λp j=>by
    have t:=sn.1 j;rw[MT,fc];intro B k;rcases df.1 k with rfl|k
    ·omega
    ·have:=l.Q k;omega
   rw[i];by_cases o:a<b
   ·rw[au G,vC,kq,show((b:Int)-a).toNat=b-a from G,J5 d a (b-a) G]
   ·rw[an G,show b-a=0 from G];rfl
  rw[s];have u:hs a (c-a)=hs a (b-a)++hs b (c-b):=by rw[show c-a=(b-a)+(c-b)from G,<-N2];rw[show a+(b-a)=b from G]
  rw[u,hG,cX];congr 1;rcases fx b c with v|v
  ·have w:(hs b (c-b))=b::hs (b+1) (c-b-1):=by rw[show c-b=(c-b-1)+1 from G,HE];simp
   have x:(hs (b+1) (c-b-1)).flatMap (λp:Nat=>gr (f::e) p++p_ d p)=(hs (b+1) (c-b-1)).flatMap (λp:Nat=>gr e p++p_ d p):=rQ λp j=>by have t:=sn.1 j;rw[Hp,an G,fc]
   rw[w,iB,iB,x,Hp,au g,Hp f e (c:Int),an G];simp only [cX,fc]
  ·obtain rfl:b=c:=G;rw[Nat.sub_self,Hp,au g];simp
def nk(r:List Int)(b:List aG):Int->List aB->List dA
 |_,[]=>[]
 |c,a::H=>ns r c a.1 (gz b c a.1)++(3,a.1,[])::nk r b a.2 H
def l5(r:List Int)(a:List aG)(f t:Int)(H:List aB):List dA:=nk r a f H++ns r (cH f H) t (gz a (cH f H) t)
def Ti(r:List Int)(b:List aG):∀(H:List aB) (f:Int) (a:aB),nk r b f (H++[a])=nk r b f H++(ns r (cH f H) a.1 (gz b (cH f H) a.1)++[(3,a.1,[])])
 |[],f,a=>by simp[nk,cH]
 |c::H,f,a=>by rw[gO,nk,nk,cH,Ti r b H,cX,gO]
def ag3(H:List aB)(f:Int)(a:aB):cH f (H++[a])=a.2:=by rw[Fm];rfl
variable{x:List aG}
def M1{n:Int}(k:hz n 0 x)(b c:Int):hz c b (gz x b c):=by
 have m:∀(l:List aG) (a:Int),hz n a l->∀f,(∀g∈gz l b c,f<=g.C)->hz c f (gz l b c):=by
  intro l
  induction l with
  |nil=>intro a _ f _;trivial
  |cons d l ih=>
   intro a o f e;obtain⟨p,q,h⟩:=o;unfold gz at e⊢;rw[ri]at e⊢;by_cases i:b<=d.C/\d.C<=c
   ·rw[au (by simpa using i)]at e⊢;refine⟨e d (dv ..),i.2,ih d.C h d.C λg j=>?_⟩;exact(h.Q (fS.1 j).1).1
   ·rw[an (by simpa using i)]at e⊢;exact ih d.C h f e
 exact m x 0 k b λg j=>by have:=(fS.1 j).2;simp only [dF]at this;exact this.1
variable{s:Int}
def Hq{p:Int}(b:t<=p)(c:p<=s):gr (gz x t s) p=gr x p:=by
 unfold gr gz;rw[List.filter_filter];congr 1;apply List.filter_congr;intro d _;by_cases a:d.C=p
 ·simp[a,b,c]
 ·simp[a]
def ajC(a:List Int)(b:List aG)(p:Nat):dM a [] b p=gr b p++p_ a p:=by unfold dM my p_ bX kg;cases a[p]? <;>simp
def FD(a:aB)(H:List aB)(p:Int):bX (a::H) p=(decide (a.1<p/\p<a.2)||bX H p):=rfl
def FC(a:aB)(H:List aB)(p:Int):kg (a::H) p=(decide (a.1=p)||kg H p):=rfl
def C1{H:List aB}(b:dB t s H){p:Int}(e:p<s):bX H p=ao/\kg H p=false:=
 ⟨gb λc a=>db λd=>by have:=b.Q a;omega,gb λc a=>db λd=>by have:=b.Q a;omega⟩
def Tj{g:List Int}{f:List aG}(l:hz g.length 0 f){c:Nat}(n:c<=g.length):∀(H:List aB) (a:Nat),dB c a H->a<=c->
 dT (l5 g f a c H)=(hs a (c-a)).flatMap (dM g H f)++gr f c
 |[],a,_,o=>by unfold l5 nk cH;rw[fc,Mq n _ a (M1 l a c) o,Hq G G];congr 1;exact rQ λp h=>by have m:=sn.1 h;rw[ajC,Hq G G]
 |d::H,a,s,o=>by
  obtain⟨z,A,B,j⟩:=s;obtain⟨b,q⟩:∃b:Nat,d.1=b:=⟨d.1.toNat,G⟩;obtain⟨e,r⟩:∃e:Nat,d.2=e:=⟨d.2.toNat,G⟩;have t:l5 g f a c (d::H)=ns g a d.1 (gz f a d.1)++(3,d.1,[])::l5 g f d.2 c H:=by unfold l5;rw[nk,cH,cX,gO]
  rw[t,q,r,vB,Sa,Q6,Tj l n H e (by rw[<-r];exact j) G,Mq G _ a (M1 l a b) G,Hq G G];have u:hs a (c-a)=hs a (b-a)++(b::(hs (b+1) (e-b-1)++hs e (c-e))):=by rw[show c-a=(b-a)+(((e-b-1)+(c-e))+1)from G,<-N2,HE,show a+(b-a)=b from G,<-N2];rw[show b+1+(e-b-1)=e from G]
  have v:(hs a (b-a)).flatMap (dM g (d::H) f)=(hs a (b-a)).flatMap (λp:Nat=>gr (gz f a b) p++p_ g p):=rQ λp h=>by
   have m:=sn.1 h;obtain⟨i,k⟩:=C1 j (p:=(p:Int)) G;unfold dM my;rw[FD,FC,i,k,db G,db G,Hq G G]
   rfl
  have w:dM g (d::H) f b=gr f b++[(8230,3,0,(b:Int))]:=by
   obtain⟨i,k⟩:=C1 j (p:=(b:Int)) G;unfold dM my;rw[FD,FC,i,db G,eK q]
   rfl
  have x:(hs (b+1) (e-b-1)).flatMap (dM g (d::H) f)=[]:=by
   rw[List.flatMap_eq_nil_iff];intro p h;have m:=sn.1 h;obtain⟨i,k⟩:=C1 j (p:=(p:Int)) G;unfold dM my;rw[FD,FC,i,k,eK (show d.1<(p:Int)/\(p:Int)<d.2 by omega),db G]
   rfl
  have y:(hs e (c-e)).flatMap (dM g (d::H) f)=(hs e (c-e)).flatMap (dM g H f):=rQ λp h=>by have m:=sn.1 h;unfold dM my;rw[FD,FC,db G,db G,yd,yd]
  rw[u,hG,iB,hG,v,w,x,y];simp only [cX,fc,gO]
variable{n k i:Nat}
def ajG{x:List Int}{e:List aB}{c:List aG}(f:dB t 0 e)(g:bX e n=ao)(h:bX e k=ao)(p:n<=i)(q:i<k):dM x e c i=dM x (e8 e (n,k)) c i:=by
 have dh:∀a∈e,(a.1<=(i:Int)/\(i:Int)<a.2)->(n:Int)<=a.1/\a.2<=(k:Int):=by intro a b d;have j:=yj.1 g a b;have l:=yj.1 h a b;simp only [dF]at j l;omega
 have m:bX e i=bX (e8 e (n,k)) i:=by
  rw[g0,gS,gS];unfold e8;constructor
  ·rintro⟨a,b,d⟩;exact⟨a,fS.2 ⟨b,eK (dh a b G)⟩,d⟩
  ·rintro⟨a,b,d⟩;exact⟨a,(fS.1 b).1,d⟩
 have o:kg e i=kg (e8 e (n,k)) i:=by
  rw[g0,xC,xC];unfold e8;constructor
  ·rintro⟨a,b,d⟩;have:=f.Q b;exact⟨a,fS.2 ⟨b,eK (dh a b G)⟩,d⟩
  ·rintro⟨a,b,d⟩;exact⟨a,(fS.1 b).1,d⟩
 unfold dM my;rw[m,o]
def Hv{l:Int}{f t:Int}:∀{d:List aB} {j:Int},dB l j d->(∀a∈e8 d (f,t),f<=a.1)->∀e,(∀a∈e8 d (f,t),e<=a.1)->dB t e (e8 d (f,t))
 |[],_,_,_,_,_=>trivial
 |a::d,j,m,b,e,c=>by
  obtain⟨o,n,p,g⟩:=m;unfold e8 at b c⊢;rw[ri]at b c⊢;by_cases h:f<=a.1/\a.2<=t
  ·rw[au (by simpa using h)]at b c⊢;refine⟨c a (dv ..),n,h.2,Hv g (λk i=>b k (ey _ i)) a.2 λk i=>?_⟩;exact(g.Q (fS.1 i).1).1
  ·rw[an (by simpa using h)]at b c⊢;exact Hv g b e c
variable{x:List aB}
def aid{e:List aG}{t:Nat}{r:List Int}(a:dB r.length 0 x)(d:hz r.length 0 e){f:Nat}(g:f<=t)(h:t<=r.length)(i:bX x f=ao)(j:bX x t=ao):
 dT (l5 r e f t (e8 x (f,t)))=c3 r x e (f,t):=by
 have b:∀c∈e8 x (f,t),(f:Int)<=c.1:=λc k=>by have:=(fS.1 k).2;simp only [dF]at this;exact this.1
 rw[Tj d h _ f (Hv a b f b) g];unfold c3;congr 1;exact rQ λm l=>by have n:=sn.1 l;exact(ajG a i j G G).symm
def FF(e:dB t 0 x)(c:e5 x s=ao):bX x s=ao/\bX x (s+1)=false:=by
 constructor
 ·exact gb λa b=>db λd=>by have:=yj.1 c a b;simp only [dF]at this;omega
 ·exact gb λa b=>db λd=>by have:=yj.1 c a b;simp only [dF]at this;omega
def FE(b:dB t 0 x):bX x t=ao/\bX x 0=false:=
 ⟨gb λc a=>db λd=>by have:=b.Q a;omega,gb λc a=>db λd=>by have:=b.Q a;omega⟩
structure aH where
 Q:List Int
 R:List aG
 M:List aB
 aE:Int
 a7:Int
def aH.r(v:aH):List aB:=l3 v.M
def aH.z(v:aH):Nat:=v.Q.length
def aH.aW(v:aH):Nat->Bool:=eo v.Q v.r
def l8:Int->Int:=gU ie iV
def aH.B(v:aH)(x:Nat×Nat):List dW:=xU v.Q v.r v.R l8 v.aE v.a7 x
def aH.S(v:aH):List (Nat×Nat):=ui v.aW v.z
def bF(v:aH)(a:List (Nat×Nat)):List dW:=a.flatMap v.B
def aH.eq(v:aH):List dW:=bF v v.S
def l6(a:List dW):Int:=a.foldl (λb c=>max b c.bl) 0
def aH.e6(v:aH)(x:Nat×Nat):j9:=⟨mv v.z v.Q v.r v.R x,(x.2:Int)-x.1+(if x.2<v.z then 1 else 0),(v.B x).length,l6 (v.B x)⟩
structure bL (v:aH):Prop where
 z:v.z<=1300
 aZ:∀c∈v.Q,dP c
 R:qx v.z v.R
 M:od v.z v.M
 aE:1<=v.aE/\v.aE<=16
 a7:0<=v.a7/\v.a7<=200
def bL.ae{v:aH}(h:bL v):dB v.z 0 v.r:=ahz h.M.cm
def bL.ph{a:aH}(h:bL a):k2 a.z a.R:=h.R.ph ⟨G,by have:=h.z;omega⟩
def bL.hp{v:aH}(a:bL v):hz v.z 0 v.R:=a.ph.hp
def nq(v:aH)(a b:List (Nat×Nat)):bF v (a++b)=bF v a++bF v b:=by unfold bF;rw[hG]
def Tt(a:List dW):l6 a=(a.map ee).foldl (λb c=>max b c.2.2.2) 0:=by unfold l6;rw[List.foldl_map];rfl
def Gg(v:aH)(x:Nat×Nat):0<(v.B x).length:=by unfold aH.B xU;rw[vS];exact amZ _ _
variable{x e:aH}{c:Nat×Nat}
def Gf{d:Int}{s:Nat×Nat}(a:x.aE=e.aE)(b:x.a7=e.a7)(f:c3 e.Q e.r e.R s=(c3 x.Q x.r x.R c).map (cn d)):(e.B s).map ee=(x.B c).map ee:=by unfold aH.B;rw[<-a,<-b];exact akE f
def VD(a:List aP):a.map (cn 0)=a:=by
 have:cn 0=id:=by funext b;simp[cn]
 rw[this,List.map_id]
def TG{d:Nat×Nat}(b:(e.B d).map ee=(x.B c).map ee)(g:(c3 e.Q e.r e.R d).length=(c3 x.Q x.r x.R c).length)(hd:(d.2:Int)-d.1=c.2-c.1)(f:d.2<e.z↔c.2<x.z):e.e6 d=x.e6 c:=by
 have h:(e.B d).length=(x.B c).length:=by rw[<-b_ (f:=ee),b,b_]
 have i:l6 (e.B d)=l6 (x.B c):=by rw[Tt,Tt,b]
 unfold aH.e6 mv;rw[h,i,g,hd];by_cases a:c.2<x.z
 ·rw[au a,au (f.2 a)]
 ·rw[an a,an (λj=>a (f.1 j))]
structure rG (v0 v1:aH) (a b c s iI iv:Nat) (P qL xk:List (Nat×Nat)):Prop where
 St:s=fw v0.aW a
 en:s=fw v1.aW a
 mu:iI=fL v0.aW (v0.z-b) b
 p5:iv=fL v1.aW (v1.z-c) c
 x3:s<=a
 QM:b<=iI
 dF:iI<=v0.z
 J3:c<=iv
 cT:iv<=v1.z
 cd:P=gn v0.aW s
 dr:v0.S=P++(cQ v0.aW (iI-s) s s++qL)
 eH:v1.S=P++(cQ v1.aW (iv-s) s s++xk)
 k7:P.map v1.e6=P.map v0.e6
 dY:xk.map v1.e6=qL.map v0.e6
 dH:(bF v1 P).map ee=(bF v0 P).map ee
 dI:(bF v1 xk).map ee=(bF v0 qL).map ee
 dy:s=0\/v0.aW (s-1)=af
 cQ:s=0\/v1.aW (s-1)=af
 dv:iI=v0.z\/v0.aW iI=af
 cP:iv=v1.z\/v1.aW iv=af
 agU:iI+c=iv+b
def Sd{α:Type}{b c:α->List dW}{a:List α}(e:∀d∈a,(b d).map ee=(c d).map ee):(a.flatMap b).map ee=(a.flatMap c).map ee:=by rw[HY,HY];exact rQ e
def iC.ef(f:iC x.Q e.Q x.r e.r x.R e.R n k i)(A:(x.aE=e.aE/\x.a7=e.a7)\/(n=0/\k=x.z/\i=e.z)):∃b c h B C D,rG x e n k i b c h B C D:=by
 obtain⟨b,c,h,T,E,H,K,L,M,O,P,v,S,w,p,U,y,z,V,W,ab,ae⟩:=f.dU;have aj:=f.aL;have ak:=f.aX;have am:=f.qS;have an:=f.oq;have ap:x.z=x.Q.length:=rfl;have aq:e.z=e.Q.length:=rfl;refine⟨b,c,h,gn x.aW b,T.map λa:Nat×Nat=>(c+1+a.1,c+1+a.2),T.map λa:Nat×Nat=>(h+1+a.1,h+1+a.2),E,H,K,L,O,P,v,S,w,F,p,U,?_,?_,?_,?_,V,W,ab,ae,M⟩
 all_goals rcases A with⟨m,o⟩|⟨rfl,rfl,rfl⟩
 ·refine yc λa g=>?_;obtain⟨q,r,d⟩:=y a g;have ag:c3 e.Q e.r e.R a=(c3 x.Q x.r x.R a).map (cn 0):=by rw[VD];exact d.symm
  have ah:c<=x.z:=v;have ai:h<=e.z:=w;exact TG (Gf m o ag) (by rw[d]) F ⟨λ_=>G,λ_=>G⟩
 ·rw[show b=0 from G];rfl
 ·rw[pr,pr];refine yc λa g=>?_;obtain⟨q,r,d⟩:=z a g;have ar:=f.l7;have au:=f.qS;have av:=f.oq;simp only [Function.comp_apply];have ah:x.z=x.Q.length:=rfl;have ai:e.z=e.Q.length:=rfl;exact TG (Gf m o d) (by rw[d,b_]) (by dsimp only;omega) ⟨λ_=>by dsimp only at*;omega,λ_=>by dsimp only at*;omega⟩
 ·have:T=[]:=by have s:x.S=cQ x.aW x.z 0 0:=rfl;have t:c=x.z:=G;have u:b=0:=G;have j:x.S=gn x.aW b++(cQ x.aW (c-b) b b++T.map λa=>(c+1+a.1,c+1+a.2)):=p;rw[u,t,s]at j;have l:=ck gB j;rw[bf,bf,b_]at l;exact ig (by rw[show x.z-0=x.z from F]at l;omega)
  rw[this];rfl
 ·refine Sd λa g=>?_;obtain⟨q,r,d⟩:=y a g;exact Gf m o (d:=0) (by rw[VD];exact d.symm)
 ·rw[show b=0 from G];rfl
 ·unfold bF;rw[AK,AK];refine Sd λa g=>?_;obtain⟨q,r,d⟩:=z a g;exact Gf m o d
 ·have:T=[]:=by have s:x.S=cQ x.aW x.z 0 0:=rfl;have t:c=x.z:=G;have u:b=0:=G;have j:x.S=gn x.aW b++(cQ x.aW (c-b) b b++T.map λa=>(c+1+a.1,c+1+a.2)):=p;rw[u,t,s]at j;have l:=ck gB j;rw[bf,bf,b_]at l;exact ig (by rw[show x.z-0=x.z from F]at l;omega)
  rw[this];rfl
structure mM (v0 v1:aH) (a b c:Nat):Prop where
 aL:a<=b
 aX:a<=c
 qS:b<=v0.z
 oq:c<=v1.z
 l7:v0.z-b=v1.z-c
 b6:∀p,p<a->v0.Q[p]? =v1.Q[p]?
 b7:∀p,v0.Q[b+p]? =v1.Q[c+p]?
 SE:∀q:Int,q<a->bX v0.r q=bX v1.r q
 Uh:∀q:Int,q<a->e5 v0.r q=e5 v1.r q
 SF:∀q:Int,b<q->bX v0.r q=bX v1.r (q+((c:Int)-b))
 Ui:∀q:Int,b<=q->e5 v0.r q=e5 v1.r (q+((c:Int)-b))
 aK:∃A fG eL B:List aG,v0.R=A++(fG++B)/\v1.R=A++(eL++B.map (hR ((c:Int)-b)))/\(∀x∈A,x.C<(a:Int))/\(∀x∈fG,(a:Int)<=x.C/\x.C<=(b:Int))/\(∀x∈eL,(a:Int)<=x.C/\x.C<=(c:Int))/\∀x∈B,(b:Int)<x.C
def mM.eo{c:aH}{x:Nat}{a b:Nat}(A:bL e)(f:mM e c a b n){y:Nat}(U:x<=a)(B:b+y<=e.z):mM e c (a-x) (b+y) (n+y):=by
 have V:=f.aL;have W:=f.aX;have ab:=f.qS;have ae:=f.oq;have ag:=f.l7;have l:((n+y:Nat):Int)-((b+y:Nat):Int)=(n:Int)-b:=G;obtain⟨C,o,D,E,p,F,q,H,K,r⟩:=f.aK;have L:hz e.z 0 (C++(o++E)):=by rw[<-p];exact A.hp
 obtain⟨gL,M,_⟩:=L.ah;obtain⟨_,O,_⟩:=M.ah;obtain⟨P,s,j,Q,t⟩:=gL.nc ((a-x:Nat):Int);obtain⟨u,R,k,v,S⟩:=O.cR ((b+y:Nat):Int);refine⟨G,G,B,G,G,λi ai=>f.b6 i G,λi=>?_,λh m=>f.SE h G,λh m=>f.Uh h G,λh m=>?_,λh m=>?_,?_⟩
 ·rw[show b+y+i=b+(y+i)from G,show n+y+i=n+(y+i)from G];exact f.b7 _
 ·rw[l];exact f.SF h G
 ·rw[l];exact f.Ui h G
 ·rw[l];refine⟨P,s++(o++u),s++(D++u.map (hR ((n:Int)-b))),R,?_,?_,Q,?_,?_,S⟩
  ·rw[p,j,k];simp only [cX]
  ·rw[F,j,k,dJ];simp only [cX]
  ·intro g d;rcases b9.1 d with d|d
   ·have:=t g d;have:=q g (by rw[j];exact lo _ d);omega
   ·rcases b9.1 d with d|d
    ·have:=H g d;omega
    ·have:=v g d;have:=r g (by rw[k];exact hY _ d);omega
  ·intro g d;rcases b9.1 d with d|d
   ·have:=t g d;have:=q g (by rw[j];exact lo _ d);omega
   ·rcases b9.1 d with d|d
    ·have:=K g d;omega
    ·obtain⟨w,z,rfl⟩:=eP.1 d;have:=v w z;have:=r w (by rw[k];exact hY _ z);simp only [hR];omega
def mM.dC(f:bL x)(g:bL e)(a:mM x e n k i)(h:bX x.r n=ao)(j:bX x.r k=ao)(l:bX e.r n=ao)(m:bX e.r i=ao):iC x.Q e.Q x.r e.r x.R e.R n k i:=by have c:=f.ae;have d:=g.ae;have p:=a.qS;have q:=a.oq;have r:=a.l7;refine⟨a.aL,a.aX,a.qS,a.oq,a.l7,a.b6,a.b7,λo b=>(c.Q b).2.1,λo b=>(d.Q b).2.1,?_,a.aK⟩;exact ahA c d (by have:=a.aL;omega) (by have:=a.aX;omega) G h j l m a.SE a.Uh a.SF a.Ui
def T_(d e:aH)(f:bL d)(g:bL e):mM d e 0 d.z e.z:=by
 refine⟨ec _,ec _,a6 _,a6 _,G,λi k=>aL k (Nat.not_lt_zero _),λi=>?_,λb j=>?_,λb j=>?_,λb j=>?_,λb j=>?_,?_⟩
 ·rw[j2 (by unfold aH.z;omega),j2 (by unfold aH.z;omega)]
 ·rw[(C1 f.ae (p:=b) G).1,(C1 g.ae (p:=b) G).1]
 ·rw[show e5 d.r b=ao from gb λc a=>db λh=>by have:=f.ae.Q a;omega,show e5 e.r b=ao from gb λc a=>db λh=>by have:=g.ae.Q a;omega]
 ·rw[show bX d.r b=ao from gb λc a=>db λh=>by have:=f.ae.Q a;omega,show bX e.r _=ao from gb λc a=>db λh=>by have:=g.ae.Q a;omega]
 ·rw[show e5 d.r b=ao from gb λc a=>db λh=>by have:=f.ae.Q a;omega,show e5 e.r _=ao from gb λc a=>db λh=>by have:=g.ae.Q a;omega]
 ·refine⟨[],d.R,e.R,[],ae,ae,(λc a=>by cases a),λc a=>?_,λc a=>?_,λc a=>by cases a⟩
  ·have:=f.hp.Q a;omega
  ·have:=g.hp.Q a;omega
end aY
end Go.Proofs.YtoddhldofgfdmaaGreatDoor
