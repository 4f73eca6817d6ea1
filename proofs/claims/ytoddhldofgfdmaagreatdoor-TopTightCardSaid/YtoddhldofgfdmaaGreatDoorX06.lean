/- A part of the proof; no conditions of its own. -/
import Derived.Test.YtoddhldofgfdmaaGreatDoorX05
set_option linter.all false
open Go renaming Value->Z,World->aa
open Go.IntKind renaming i64->X
open Go.Proofs.Tryz renaming prog->Y
open Go.Value renaming int->I,pointer->ad,agg->al,bool->ax
open List renaming getElem?_eq_getElem->aX,mem_singleton->cL
open Nat renaming le_trans->eQ
open Option renaming some->J,none->ac
namespace Go.Proofs.YtoddhldofgfdmaaGreatDoor
open Go.Lift Go.RowKit Go.bW Go.cB Go.Proofs.YtoddhldofgfdmaaGreatDoor.b0
namespace aY
section
variable{w:aa} {hB bO:Nat} {m:cD}
def pX.cF{S:List Z}{v:aH}{a:Nat}(b:pX w a S v):rD w ((S.drop 0).take 5) v:=by obtain⟨g,c,h,i,j,k,rfl,_,d,e,f,_⟩:=b;exact⟨_,_,_,F,d,uD c,e,f.1⟩
def ahL{x:a_}{p:Nat}(a3:gD w hB bO m)(y:bL m.l)(bb:x.1=p)(P:p<=m.l.z)(bc:x.1<=x.2.1)(bD:x.2.2.length<=2000):
 ak Y 19 [ad (J ⟨bO,0,ac⟩),al (cp x).toArray] w λh C=>O w C/\∃D,h=ax D/\(D=true->x.2.1<=(m.l.O p).2/\(∀a∈m.l.r,¬(a.1<(m.l.O p).2/\(m.l.O p).1<a.2))/\ct [x]≠[]):=by
 have dh:∀{d:aa},O w d->O w d/\∃D,ax false=ax D/\(D=true->x.2.1<=(m.l.O p).2/\(∀a∈m.l.r,¬(a.1<(m.l.O p).2/\(m.l.O p).1<a.2))/\ct [x]≠[]):=λU=>⟨U,false,F,λa=>by cases a⟩;obtain⟨bF,bH,bI⟩:=uh m.l P;have bM:=y.z;apply Zr;refine bd (S:=cp x) F λbN bQ bR bS be W=>?_;rw[M mT ga (W.b.f 2 (show(cp x)[2]? =J (co x.2.2)from F))];refine(rK x.2.2 G).o ?_;rintro h bg ⟨am,hd⟩;have an:=hd.aI ix;rw[aS di an];have bT:=nr x.2.2;refine ba.bJ (λr s d=>d=bg/\∃e:Nat,e+r=(bY x.2.2).length/\s=[I X e]) ⟨(bY x.2.2).length,F,0,G,F⟩ ?_;rintro r s ap d ⟨rfl,e,bh,rfl⟩;simp only [av];have aq:=be.a am;rw[aR,ai];refine⟨λbi=>?_,λbk=>?_⟩
 ·obtain⟨a4,a5⟩:∃a4,(bY x.2.2)[e]? =J a4:=⟨_,aX G⟩;obtain⟨bU,bV,bl,bp⟩:=an.m a5;rw[cr di gm g an a5 F,bl,aM iG (bp.U F),bm,ai];refine⟨λ_=>dh aq,λ_=>?_⟩;rw[aD];exact⟨r-1,G,F,e+1,G,ae⟩
 have u:O d d.drew:=(O.p d).C;refine bG.y (λs i=>∃(f:Nat) (b:bK×Int×Int),s=[ad (J ⟨f,0,ac⟩)]/\O d i/\ag i f (c7 b)/\b.2=(((m.l.O p).1:Int),((m.l.O p).2:Int))) ?_ ?_
 ·apply bE.h;rw[b2 iq E ((W.h am).b.f 0 (show(cp x)[0]? =J (I X x.1)from F)) u,bb];have a7:∀{i:aa},O d i->ak Y 20 [ad (J ⟨bO,0,ac⟩)] i λh C=>O i C/\∃q:List Z,h=al q.toArray/\rD C ((q.drop 0).take 5) m.l:=λH=>(F5 (a3.h (aq.a H)) y).o λh C ⟨U,q,br,z⟩=>⟨U,q,br,z.cF⟩;have bj:∀{Q:aa} {f:Nat} {b:bK×Int×Int} {R:List Z},O d Q->ag Q f R->R.length=3->d.drew.heap.size<=f->b.2=(((m.l.O p).1:Int),((m.l.O p).2:Int))->c4 Y 80 (ad (J ⟨f,0,ac⟩)) (al (c7 b).toArray) Q λi=>∃(a8:Nat) (a9:bK×Int×Int),[ad (J ⟨f,0,ac⟩)]=[ad (J ⟨a8,0,ac⟩)]/\O d i/\ag i a8 (c7 a9)/\a9.2=(((m.l.O p).1:Int),((m.l.O p).2:Int)):=by
   intro Q f b R H bs k n bu;have:=u.size;refine aZ (cS:=c7 b) tO g bs F F (by simp[k]) (o0.B _) λK L bv aA=>?_;have bw:dE R 0 (c7 b)=c7 b:=by unfold dE;simp[k,c7]
   rw[bw]at aA;exact⟨f,b,F,H.ab bv λbW bx=>by cases bx;omega,aA,bu⟩
  refine⟨(a7 u).o ?_,?_⟩
  ·rintro h ar ⟨j,q,rfl,z⟩;have o:=u.a j;refine⟨o,?_⟩;rw[aK (λd a bz=>uy O8 qC) o];refine⟨(FV z y P).o ?_,?_⟩
   ·rintro h aB ⟨t,b,rfl,n⟩;have au:=o.a t;refine⟨au,?_⟩;refine bo sD λf K aC L c v=>⟨au.a c,?_⟩;exact bj (au.a c) v F (by have:=(j.a t).size;omega) n
   ·refine bo sD λf K aC L c v=>⟨o.a c,?_⟩;refine(FV (z.h c) y P).o ?_;rintro h aB ⟨t,b,rfl,n⟩;exact bj ((o.a c).a t) (v.h t) F (by have:=j.size;omega) n
  ·refine bo sD λf K aC L c v=>⟨u.a c,?_⟩;refine(a7 (u.a c)).o ?_;rintro h ar ⟨j,q,rfl,z⟩;have o:=(u.a c).a j;refine⟨o,?_⟩;rw[aK (λd a bz=>uy O8 qC) o];refine(FV z y P).o ?_;rintro h aB ⟨t,b,rfl,n⟩;exact bj (o.a t) ((v.h j).h t) F G n
 rintro s ap i ⟨f,b,rfl,aE,v,n⟩;simp only [av];have aG:=aq.a aE;obtain⟨bX,bZ,aH,ca,cd,aJ⟩:=a3.h aG;rw[bn,iL sA mg (S:=dq m.l.z (ay aH) 0) (cA.cG (aJ.ab.H.b.E 4) 3) F];refine(Kf ⟨_,F,uD aH,aJ.aj.1⟩ y.M).o ?_;rintro cf ar ⟨j,aL⟩;have b0:l3 m.l.M=m.l.r:=rfl;rw[b0]at aL;have aw:=aL.aI e_;have cg:=aw.aD;rw[aS cm.m aw];have b1:=aG.a j;refine ba.bJ (λr s aN=>O ar aN/\∃e:Nat,e+r=m.l.r.length/\s=[I X e]/\∀a∈m.l.r.take e,¬(a.1<(m.l.O p).2/\(m.l.O p).1<a.2)) ⟨m.l.r.length,O.p _,0,G,F,ae⟩ ?_;rintro r s ap aN ⟨A,e,bh,rfl,az⟩;simp only [av];have a0:=b1.a A;have aO:=((v.h j).h A).b;have b3:b.2.1=((m.l.O p).1:Int):=by rw[n]
 have aP:b.2.2=((m.l.O p).2:Int):=by rw[n]
 rw[aR,ai];refine⟨λbi=>?_,λbk=>?_⟩
 ·obtain⟨a,B⟩:∃a,m.l.r[e]? =J a:=⟨_,aX G⟩;refine cm.dO (aw.h A) B F λch K c L ci aT=>?_;have aU:=cA.h aO c;have aV:¬(a.1<(m.l.O p).2/\(m.l.O p).1<a.2)->∀S∈m.l.r.take (e+1),¬(S.1<(m.l.O p).2/\(m.l.O p).1<S.2):=λb4 S k=>by
   rw[c9 B]at k;rcases List.mem_append.1 k with k|k
   ·exact az S k
   ·rw[cL.1 k];exact b4
  rw[M ce E (aT.b.f 0 (show(ah a)[0]? =J (I X a.1)from F)),M vh E (aU.f 2 (show(c7 b)[2]? =J (I X b.2.2)from F)),aR,ai,aP];refine⟨λaW=>?_,λaW=>?_⟩
  ·rw[M yP E (aU.f 1 (show(c7 b)[1]? =J (I X b.2.1)from F)),M bP E (aT.b.f 1 (show(ah a)[1]? =J (I X a.2)from F)),aR,ai,b3];refine⟨λ_=>dh (a0.a c),λb5=>?_⟩;rw[aD];exact⟨r-1,G,A.a c,e+1,G,ae,aV λB=>b5 B.2⟩
  ·rw[aD];exact⟨r-1,G,A.a c,e+1,G,ae,aV λB=>aW B.1⟩
 ·rw[List.take_of_length_le G]at az;have aY:=(((W.h am).h aE).h j).h A;rw[M ku E (aY.b.f 1 (show(cp x)[1]? =J (I X x.2.1)from F)),M vh E (aO.f 2 (show(c7 b)[2]? =J (I X b.2.2)from F)),fg,ai,aP];refine⟨λb6=>?_,λ_=>dh a0⟩;rw[aF rs aY.b F];refine f0 (n:=1) (V:=cp) (L:=[x]) (iR:=[(0,cp x)]) hA ir F kx g g jR F F λcn K cq b8 c L=>?_;refine(RI (n:=m.l.z) (b8.aI jR) G ae (λH a2=>by rw[cL.1 a2];exact⟨G,bc,G⟩) (λH a2=>by rw[cL.1 a2];omega)).o ?_;rintro h cs ⟨bA,bB⟩;rw[aS kf.m (bB.aI lz),cb];refine⟨(a0.a c).a bA,_,F,λa=>⟨b6,az,λbC=>?_⟩⟩;have:=of_decide_eq_true a;rw[bC]at this;simp at this
end
variable{w:aa}
def amn{s:List UInt8}{c:Z}{d:List pC}{x:a_}{bS:Int}(b5:fV w)(b7:hJ w)(cs:aC w c 6 lC d)(ct:∀x∈d,pE w x):
 ak Y 5 [al #[co s,I X bS],c,al (cp x).toArray] w λf u=>O w u/\f=ax true:=by
 have aj:∀{i:aa},O w i->ak Y 7 [] i λf u=>O w u/\f=ax true:=λx=>(Ms (b5.h x) (b7.h x)).o λ_ _ ⟨e,j⟩=>⟨x.a e,j⟩;apply Zp;refine bd (S:=[co s,I X bS]) F λfl fm fn fo d7 cx=>?_;refine bd (S:=cp x) F λcy cz fp fr b8 aM=>?_;have bA:=d7.a b8;rw[aF wR (cx.h b8).b F];refine(KS (s:=s) (bS:=bS) (cs.h bA) λx bB=>(ct x bB).h bA).o ?_;rintro f fs ⟨aP,bC,rfl,d8⟩;have am:=bA.a aP;rw[dQ];refine⟨λ_=>aj am,λd9=>?_⟩;obtain⟨dA,dB,dC,dE,dF⟩:=d8 d9;have c0:∀{i:aa},O cz i->i.cell? ⟨cy,2,ac⟩=J (co x.2.2):=λh=>(aM.h h).b.f 2 (show(cp x)[2]? =J (co x.2.2)from F);rw[M mT ga (c0 aP),mA gy,cb,ai];refine⟨λ_=>aj am,λft=>?_⟩;rw[aF wR ((cx.h b8).h aP).b F];refine(T7 (b5.h am) (b7.h am) (cs.h am) (λx bB=>(ct x bB).h am) dA dB dC dE dF).o ?_;rintro f P ⟨bD,bI,c1,c2,fu,c3,b,rfl,c4,ap⟩;have c5:O cz bD:=aP.a c4;have aT:O w bD:=am.a c4;have dG:=b5.h aT;have dH:=b7.h aT;have y:=ap.I.l;have fv:=y.z;have dI:=ap.I.z;have fw:b.l.z=b.l.Q.length:=rfl;obtain⟨fz,f1,f2,f3,f4,aU⟩:=id ap.q1;have f5:=s7 (l:=b.l.Q) (a:=x.1);have f6:=s7 (l:=b.l.Q) (a:=x.2.1);have bJ:=c5.a ap.N;rw[aN,aO,fZ D];show b6 (ax false) _ _;rw[cw];have aV:O P P.drew:=(O.p P).C;apply bE.h;rw[bn,b2 oR iF (aU.ab.H.b.f 0 F) aV,b2 iq E ((aM.h bJ).b.f 0 (show(cp x)[0]? =J (I X x.1)from F)) aV];refine(xR (aU.Q.h aV) G).o ?_;rintro f bL ⟨dL,rfl⟩;have a4:=aV.a dL;refine⟨a4,?_⟩;have aY:O bL bL.drew:=(O.p bL).C;rw[aN,aO];apply bE.h;rw[bn,b2 oR iF ((aU.ab.h a4).H.b.f 0 F) aY,b2 ku E ((aM.h (bJ.a a4)).b.f 1 (show(cp x)[1]? =J (I X x.2.1)from F)) aY];refine(xR (aU.Q.h (a4.a aY)) G).o ?_;rintro f f7 ⟨dM,rfl⟩;have c8:=aY.a dM;refine⟨c8,?_⟩;have c9:=a4.a c8;rw[aN,aO,M mT ga (c0 (bJ.a c9)),bz (S:=cp (fa b.l.Q x)) (iR:=[(0,[I X (cu b.l.Q x.1).1]),(1,[I X (cu b.l.Q x.2.1).1]),(2,[co x.2.2])]) kx Bl F F];refine cj (cS:=cp (fa b.l.Q x)) kx ir g F F (jR.B _) λf8 f9 fB fC dO dP=>?_;have cB:=c9.a dO;have bM:=ap.h cB;have bb:=aT.a bM.N;rw[bs,bu];refine⟨λ_=>aj bb,λa5=>?_⟩;rw[bs,bu];refine⟨λ_=>aj bb,λbc=>?_⟩;rw[aR,ai];refine⟨λ_=>aj bb,λbg=>?_⟩;obtain⟨p,cC⟩:∃p:Nat,(cu b.l.Q x.1).1=p:=⟨(cu b.l.Q x.1).1.toNat,G⟩;generalize cD:fa b.l.Q x=h at*;have bN:h=((cu b.l.Q x.1).1,(cu b.l.Q x.2.1).1,x.2.2):=cD.symm;have bO:h.1=p:=by rw[bN];exact cC
 have dR:h.2.1=(cu b.l.Q x.2.1).1:=by rw[bN]
 have bh:h.2.2=x.2.2:=by rw[bN]
 rw[aF rs dP.b F];refine(ahL (x:=h) (p:=p) bM.q1 y bO G G (by rw[bh];omega)).o ?_;rintro f fD ⟨bP,dT,rfl,dU⟩;have cE:=bM.h bP;have dV:=bb.a bP;rw[dD,dQ];refine⟨λ_=>aj dV,λdW=>?_⟩;obtain⟨dX,dY,dZ⟩:=dU (by cases dT;(·cases dW);rfl);obtain⟨fE,fF,fG⟩:=uh b.l (p:=p) G;refine(F5 cE.q1 y).o ?_;rintro f fH ⟨cH,S,rfl,aq⟩;have bi:=aq.B;refine nX (cS:=S) JN Qh g F bi.1 bi.2 λea eb fI fK bj ed=>?_;have cJ:bQ eb ea S 76:=ed;rw[iL Eo qC (cJ.H.b.sub 0 5) (by simp[bi.1]),cC];refine(FV (p:=p) (aq.h bj).cF y G).o ?_;rintro f fL ⟨bk,eD,rfl,cK⟩;refine nX (cS:=c7 eD) sD tO g F F (o0.B _) λee ef fM fO bl eg=>?_;have eh:bQ ef ee (c7 eD) 80:=eg;have ei:=((cH.a bj).a bk).a bl;have cM:=cE.h ei;have cN:∀{i:aa},O bD i->ag i cy (cp x):=λa8=>aM.h (c5.a a8);rw[aF rs (cN cM.N).b F];refine f0 (n:=1) (V:=cp) (L:=[x]) (iR:=[(0,cp x)]) hA ir F kx g g jR F F λcP cQ fR ej cR fU=>?_;have bR:=ej.aI jR;obtain⟨fA,rfl⟩:=bR.ay;rw[bz (S:=ep 1 0 0 fA (ac,0,0) (ac,0,0)) (iR:=[(0,[I X 1]),(3,[ay fA])]) y3 PH F F];refine nX (cS:=ep 1 0 0 fA (ac,0,0) (ac,0,0)) y3 xb g F F (Fj.B (⟨1,0,0,[x],[],[]⟩,fA,(ac,0,0),(ac,0,0))) λek bT fW fX a9 el=>?_;have cS:bQ bT ek (ep 1 0 0 fA (ac,0,0) (ac,0,0)) 57:=el;have bm:=cR.a a9;have aA:=cM.h bm;generalize aB:(⟨1,0,0,[x],[],[]⟩:gE)=r at*;have br:r.I=1:=by rw[<-aB]
 have bU:r.N=[x]:=by rw[<-aB]
 have fY:jh r.N<=100:=by rw[bU,xp];show x.2.2.length+0<=100;omega
 have bV:r.N.map (fa b.l.Q)=[h]:=by rw[bU,List.map_singleton,cD]
 have cV:gu b.l.z [h]=0:=by refine Ap.2 ⟨⟨ae,⟨G,G,G⟩,G,trivial⟩,?_⟩;rw[oB,uE];unfold iu;have:c6 h<=h.2.2.length:=nr _;rw[bh]at this;omega
 have em:ou b.l r.N=0:=by unfold ou;rw[bV,cV,bU];have:dy b.l.Q (k9 [x])=0:=vy (by simp[k9,a5,bc]);rw[an ae,this,an g]
 have bv:b.cU r=(b.X [h],0,0):=by rw[wk G G (by rw[s3 br];exact em),au br,bV,s3 br]
 obtain⟨en,gb⟩:=(G8 (c:=1060) (k:=100) (v:=b.l) (es:=[h]) y dI (by rw[xp,bh];show x.2.2.length+0<=100;omega) G cV).nd;have eq:∀{i:aa},O cQ i->pD i r fA (ac,0,0) (ac,0,0):=λa8=>by rw[<-aB];exact⟨bR.h a8,aC.nil ..,aC.nil ..,ae⟩
 have cW:ep 1 0 0 fA (ac,0,0) (ac,0,0)=ep r.I r.V r.aW fA (ac,0,0) (ac,0,0):=by rw[<-aB]
 rw[aF mR cS.H.b F,cW];refine(aA.cw (y:=r) G G dG dH (eq a9)).o ?_;rintro f er ⟨bw,es,cY,et,t,az,N,rfl,cZ⟩;have gd:c1<bI/\c2<bI/\bI<=P.heap.size:=by obtain⟨_,_,_,_,_,j⟩:=ap.vs;exact⟨j.be,j.a6,j.ao⟩
 have ge:c3<P.heap.size:=by obtain⟨_,_,_,_,_,j⟩:=ap.q1;exact Nat.lt_of_lt_of_le j.a7 j.ao
 have gf:=cB.size;have gg:=bP.size;have gh:=cH.size;have gi:=bj.size;have gj:=bk.size;have gk:=bl.size;have gl:=cR.size;have gm:=a9.size;have gn:=bw.Y;have da:∀a0∈ [c1,c2],a0<P.heap.size:=λa0 o=>by simp only [List.mem_cons,List.mem_nil_iff,or_false]at o;rcases o with rfl|rfl<;>omega
 have bW:∀{k T:Nat} {S:List Z},bQ bT k S T->P.heap.size<=k->T∉Oe->bQ er k S T:=λa5 bc bg=>bw.ak a5 bg λo=>by have:=da _ o;omega
 have eu:=bW (((cJ.h bk).h bl).h bm) G g;have ev:=bW (eh.h bm) G g;have ew:=bW cS G g;have ex:=(aq.h (((bj.a bk).a bl).a bm)).bS bw (λa0 o=>by have:=da a0 o;omega) g;rw[bv]at cZ cY;obtain⟨a,a0,eo,ez,e1⟩:=cZ F;obtain⟨db,o,dc⟩:=e1 br;rw[bV]at db o dc;have e2:lL 0 0 t az t N=al (mr 0 0 t az t N).toArray:=by unfold lL;rw[an g]
 rw[bv]
 dsimp only
 rw[e2];refine nX (cS:=mr 0 0 t az t N) rB xc g F F (vx _ _ _ _ _ _) λe3 dd go gp H e4=>?_;have e5:bQ dd e3 (mr 0 0 t az t N) 63:=e4;have gq:=H.size;rw[aF mR (ew.h H).H.b F,cW];refine(kd.cA (y:=r) (es.a H) aA.bH aA.Cw (by rw[bv];exact cY.h H) (et.h H) aA.ai aA.I G G ?_).o ?_
 ·rw[<-aB];have:O cQ bT:=a9;exact⟨uF (bR.h a9) (bw.bp.a (.R H)),aC.nil ..,aC.nil ..,ae⟩
 rintro f e6 ⟨bX,de,rfl⟩;rw[bv]at de⊢;have gr:=bX.Y;have bZ:∀{k T:Nat} {S:List Z},bQ dd k S T->P.heap.size<=k->T∉Oi->bQ e6 k S T:=λa5 bc bg=>bX.ak a5 bg λo=>by rw[cL.1 o]at bc;omega
 have e7:=bZ (eu.h H) G g;have ca:=bZ (ev.h H) G g;have dh:=bZ e5 G g;have e8:=(ex.h H).bS bX (λa0 o=>by rw[cL.1 o];omega) g;have dj:eD.2.1=((b.l.O p).1:Int):=by rw[cK]
 have dk:eD.2.2=((b.l.O p).2:Int):=by rw[cK]
 obtain⟨a2,e9,gs,gt,gv⟩:=amh (v:=b.l) (x:=h) (p:=p) y en G bO dZ dX dY db o dc ez;rw[i0 (v:=I X 0) O9 E F,bs,bu];refine⟨λj=>aL F j,λ_=>?_⟩;rw[M I9 I6 (dh.H.b.f 0 F),bs,bu];refine⟨λj=>aL F j,λ_=>?_⟩;rw[aF A9 e7.H.b bi.1,M yP E (ca.H.b.f 1 (show(c7 eD)[1]? =J (I X eD.2.1)from F)),M vh E (ca.H.b.f 2 (show(c7 eD)[2]? =J (I X eD.2.2)from F)),dj,dk,
  bz (S:=ah (((b.l.O p).1:Int),((b.l.O p).2:Int))) (iR:=[(0,[I X (b.l.O p).1]),(1,[I X (b.l.O p).2])]) dg jO F F]
 refine(UK (f:=(b.l.O p).1) (t:=(b.l.O p).2) e8.ab y).o ?_;rintro f gx ⟨eC,eF,rfl,eG⟩;have bx:∀(a:Int) (s:bK),∀f∈ [I X a,ay s],f.oneCell' =true:=λa s f a3=>by simp at a3;rcases a3 with rfl|rfl<;>rfl
 generalize eH:(bF b.l (b.l.S.filter λx=>decide (x.2<(b.l.O p).1))).length=ce at*;refine cj (cS:=[I X ce,ay eF]) xg yZ g F F (bx _ _) λeI gz g1 g2 dl eK=>?_;have dm:=eC.a dl;have dn:=de.h dm;rw[M mT ga ((cN dn.N).b.f 2 (show(cp x)[2]? =J (co x.2.2)from F))];refine(rK x.2.2 G).o ?_;rintro f R ⟨b0,eL⟩;have g3:=nr x.2.2;have eM:c6 h=(bY x.2.2).length:=by unfold c6;rw[bh]
 rw[aS di (eL.aI ix),cd,cd];have cf:=dn.h b0;have cg:=cf.I.l;have dp:=dm.a b0;have eN:((b.l.O p).2:Int)+((bY x.2.2).length-((cu b.l.Q x.2.1).1-(p:Int)))=(a2:Int):=by rw[e9,eM,dR,bO]
 generalize dq:bF (b.l.X [h]) ((b.l.X [h]).S.filter λh=>!decide (h.2<(b.l.O p).1)&&decide (h.1<=a2))=ch at*;refine bG.y (λdr b1=>∃(K:Nat) (q:Int) (m:bK),dr=[ad (J ⟨K,0,ac⟩)]/\O R b1/\ag b1 K [I X q,ay m]/\iX b1 R.heap.size (ay m) ch) ?_ ?_
 ·have A:O R R.drew:=(O.p R).C;have g4:=A.size;apply bE.h;have ds:=(ca.h dp).H.b;rw[b2 yP E (ds.f 1 (show(c7 eD)[1]? =J (I X eD.2.1)from F)) A,b2 vh E (ds.f 2 (show(c7 eD)[2]? =J (I X eD.2.2)from F)) A,dj,dk,aK (λi j eO=>aD) A,eN,
   aK (v:=al (ah (((b.l.O p).1:Int),(a2:Int))).toArray) (λi j eO=>bz (iR:=[(0,[I X (b.l.O p).1]),(1,[I X a2])]) dg jO F F) A]
  have dt:∀{i:aa},O R i->ak Y 20 [ad (J ⟨c3,0,ac⟩)] i λf u=>O i u/\∃S:List Z,f=al S.toArray/\rE u S (b.l.X [h]):=λa8=>(F5 (cf.h a8).q1 cg).o λf u ⟨e,S,a3,aq⟩=>⟨e,S,a3,aq.ab⟩;have ci:∀{i:aa} {S:List Z},rE i S (b.l.X [h])->ak Y 22 [al S.toArray,al (ah (((b.l.O p).1:Int),(a2:Int))).toArray] i λf u=>O i u/\∃(q:Int) (m:bK),f=al #[I X q,ay m]/\iX u i.heap.size (ay m) ch:=λaq=>(UK (f:=(b.l.O p).1) (t:=a2) aq cg).o λf u ⟨e,m,a3,U⟩=>⟨e,_,m,a3,by rw[<-dq];exact U⟩;refine⟨(dt A).o ?_,?_⟩
  ·rintro f eR ⟨aE,eS,rfl,b3⟩;have B:=A.a aE;have ck:=B.size;refine⟨B,(ci b3).o ?_,?_⟩
   ·rintro f cm ⟨C,q,m,rfl,U⟩;have g5:=C.size;refine⟨B.a C,?_⟩;refine bo xg λK du dw dx n aw=>⟨(B.a C).a n,?_⟩;refine aZ (cS:=[I X q,ay m]) yZ g aw F F ae (bx _ _) λcn dz W aG=>?_;refine⟨K,q,m,F,((B.a C).a n).ab W λd0 aH=>by cases aH;omega,aG,?_⟩;obtain⟨g6,g7,g8⟩:=(U.o eV ck).h eV n;have fQ:∀{α:Type} {e k:Nat} {v:Z} {V:α->List Z} {L:List α},ar cm R.heap.size e k v V L->ar cn R.heap.size e k v V L:=λd2=>zW (d2.h n) W (vY d2 G);obtain⟨eT,eU,eX⟩:=U.o eV ck;exact⟨eT,fQ eU,eX.o λ_ _ _ bC=>⟨bC.1,fQ bC.2⟩⟩
   ·refine bo xg λK du dw dx n aw=>⟨B.a n,?_⟩;refine(ci (b3.h n)).o ?_;rintro f cm ⟨C,q,m,rfl,U⟩;have eY:=n.size;refine aZ (cS:=[I X q,ay m]) yZ g (aw.h C) F F ae (bx _ _) λcn dz W aG=>?_;exact⟨K,q,m,F,((B.a n).a C).ab W λd0 aH=>by cases aH;omega,aG,(U.ab eV W G).o eV G⟩
  ·refine bo xg λK du dw dx n aw=>⟨A.a n,?_⟩;refine(dt (A.a n)).o ?_;rintro f eR ⟨aE,eS,rfl,b3⟩;have B:=(A.a n).a aE;refine⟨B,(ci b3).o ?_⟩;rintro f cm ⟨C,q,m,rfl,U⟩;have eY:=n.size;have ck:=aE.size;refine aZ (cS:=[I X q,ay m]) yZ g ((aw.h aE).h C) F F ae (bx _ _) λcn dz W aG=>?_;exact⟨K,q,m,F,(B.a C).ab W λd0 aH=>by cases aH;omega,aG,(U.ab eV W G).o eV G⟩
 rintro dr z b1 ⟨K,q,m,rfl,b4,aw,eZ⟩;simp only [av];have fd:=(dh.h (dp.a b4)).H.b;rw[iL O_ u7 (S:=hL t az t N) (cA.cG (fd.E 2) 4) F];refine cj (cS:=hL t az t N) pV rA g F F (rN _ _ _ _) λg9 d3 gC gD aJ fe=>?_;have cq:=fe.b;have d4:=(((eK.h b0).h b4).h aJ).b;have ff:=(aw.h aJ).b;obtain⟨gF,d5,fh,_⟩:=(eG.h eV (((dl.a b0).a b4).a aJ)).aI lD;obtain⟨gG,d6,fj,_⟩:=(eZ.h eV aJ).aI lD;have cr:d3.cell? ⟨eI,0,ac⟩=J (I X ce):=d4.f 0 F;have gH:=d5.aD;have gI:=d6.aD;have fk:O w d3:=((aT.a cf.N).a b4).a aJ;have gJ:(bF b.l (b.l.S.filter λh=>!decide (h.2<(b.l.O p).1)&&decide (h.1<=(b.l.O p).2))).length<=70000:=eQ (CO ..) (xV y);have gK:ch.length<=70000:=by rw[<-dq];exact eQ (CO ..) (xV cg)
 have gL:ce<=70000:=by rw[<-eH];exact eQ (CO ..) (xV y)
 rw[M yN E (cq.f 0 F),M Bi E cr,eE,ai];refine⟨λ_=>?_,λj=>aL G j⟩;rw[M wZ E (cq.f 1 F),M Bi E cr,M Ep yG (d4.f 1 F),aS fJ.m d5,fh,aD,fg,ai];refine⟨λ_=>?_,λj=>aL G j⟩;rw[M yM E (cq.f 3 F),M Bi E cr,M Ep yG (ff.f 1 F),aS fJ.m d6,fj,aD,fg,ai];exact⟨λ_=>aj fk,λj=>aL G j⟩
end aY
end Go.Proofs.YtoddhldofgfdmaaGreatDoor
