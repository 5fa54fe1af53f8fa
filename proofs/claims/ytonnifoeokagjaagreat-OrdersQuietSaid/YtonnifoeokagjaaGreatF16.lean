/- The theorem quiet_holds of OrdersQuiet: part 16 of its proof; no conditions. -/
import Derived.Test.YtonnifoeokagjaaGreatF15
namespace Go.Proofs.YtonnifoeokagjaaGreat
set_option linter.all false
set_option maxRecDepth 8000
open Go Go.RowKit
open Option renaming some->J,none->B
open Bool renaming true->M,false->R
open List renaming length->O
open Tryz
open Nat(reduceAdd reduceMul)
namespace br
noncomputable section
variable{h:aE}{k Y:Nat}
def Kept(aw:Nat->Prop)(h Q:aE):Prop:=∀b,aw b->N Q b=N h b
def T19:=RB [(11,[(z11,[4,6,9],J 12),MO [13,14] 15,RX])]
set_option maxHeartbeats 1000000 in
def a19{d:Wd}(o:d.ok k h Y)(hk:k<900){aw}(hm:∀b,aw b->b<Y)(ab:∀b,aw b->¬d.all b)(q:CY):
 UP 19 [.ptr d.wb 0,q.v.av] h Y λw Q E=>∃d':Wd,(d'.wb=d.wb/\d'.ep=d.ep/\d'.fi=d.fi)/\d'.ok (k+1) Q E/\(∀b,aw b->¬d'.all b)/\Kept aw h Q:=by
 refine az.ac 2 T19 func19 ?_;have l0:=o.lt _ (.inl Z);have dw:¬(d.wb=Y):=U;have stop:∀(ob:AO),∃d':Wd,(d'.wb=d.wb/\d'.ep=d.ep/\d'.fi=d.fi)/\d'.ok (k+1) (aI h Y ob) (Y+1)/\(∀b,aw b->¬d'.all b)/\Kept aw h (aI h Y ob):=λob=>⟨d,⟨Z,Z,Z⟩,o.to (λb D=>Ce) U U,ab,λb D=>by rw[aj,ak (EB (hm b D))]⟩;by_cases sD:q.kind=2\/q.kind=3\/q.kind=4
 case neg=>have k3:¬((q.kind:Int)=3):=U;have k4:¬((q.kind:Int)=4):=U;refine L6 f19.eq_1 (U:¬((q.kind:Int)=2)) k3 k4 ?_;exact stop _
 have zxQ:q.v.zxQ:=⟨sD,Z,Z⟩;have key:∀(b2 b3 b4:Bool),decide ((q.kind:Int)=2)=b2->decide ((q.kind:Int)=3)=b3->decide ((q.kind:Int)=4)=b4->(b2||b3||b4)=M->h1 prog xt T19 (f19.body.getD .skip) (Fin prog [.tmp 4] λw Q E=>∃d':Wd,(d'.wb=d.wb/\d'.ep=d.ep/\d'.fi=d.fi)/\d'.ok (k+1) Q E/\(∀b,aw b->¬d'.all b)/\Kept aw h Q) (eK [.ptr d.wb 0,q.v.av] 0 .nil) h Y:=by
  intro b2 b3 b4 c2 c3 c4 D;have hq:(b2=M)\/(b2=R/\b3=M)\/(b2=R/\b3=R/\b4=M):=by revert D;cases b2<;>cases b3<;>cases b4<;>decide
  clear D;obtain rfl|⟨rfl,rfl⟩|⟨rfl,rfl,rfl⟩:=hq
  case' inl=>simp+decide-dsimp only[f19,go_sem,c2,gL,iZ]
  case' inr.inl=>simp+decide-dsimp only[f19,go_sem,c2,c3,gL,iZ]
  case' inr.inr=>simp+decide-dsimp only[f19,go_sem,c2,c3,c4,gL,iZ]
  all_goals
   refine ba (a49 q.v zxQ) ?_;cases hr:Em q.v with
   |true=>refine QZ ?_;exact stop _
   |false=>
    refine QZ ?_;generalize hH0:aI h Y _=H0;have o0:d.ok k H0 (Y+1):=o.to (λb D=>by rw[<-hH0,Xg]) U (an _);have g0:=TZ hH0
    have alf:∀b,b<Y->N H0 b=N h b:=λb D=>by rw[<-hH0,Xg]
    refine cm (a50 o0.w o0.s o0.sA (by have:=o0.bn.len;have:=o0.bn.yG;omega) (λx L=>(o0.P.all x L).c) q.key) ?_;rintro w Q E hle ⟨hwv,rfl,rfl⟩;obtain rfl|⟨x,L,rfl⟩:=hwv
    .refine QZ ?_;rw[<-hH0];exact stop _
    have px:=o0.P.all x L;have⟨n,hnk,hxw⟩:=px.wd;have Tz:=px.np (.inl Z);have Yx:x.xb<Y:=(o.P.all x L).xl;refine QZ ?_;refine Av (a51 x px.c) (pP (a52 U x hxw px.c) ?_);refine Y8 g0 (U:¬(Y=x.xb)) ?_;have W1:x.T.h1 d.p (aI Q x.xb (.cells ({x with w:=4*n+1}:Pt).cells 160)) (Y+1):=px.w.aW (λb D=>by
     rw[aj,ak];rintro rfl;obtain q|q|q|q:=D
     .exact px.zY q
     .exact Tz.1 q
     .exact Tz.2.1 q
     .exact Tz.2.2 q) (an _)
    refine cm (a53 ({x with w:=4*n+1}:Pt) iA (by show x.xb<Y+1;omega) (by show N _ x.ib=_;rw[Xg px.ne];exact px.i) px.il px.ne W1 px.zY Tz (k:=k) U px.ok q.v zxQ) ?_;rintro w2 F dR adD ⟨⟨ac,af,aa,av,rfl⟩,wr,T',p',t1,t2,t3,W',S,LX,cc⟩;have⟨d2,o2,anT,ks2,kb2,e1,e2,e3,e4,e5,e6,e7,e8,e9,e10,e11⟩:=o0.wr L hnk (wr:=wr) adD t1 t2 W' S (λb D yL=>by rw[Xg D,Xg D]) LX cc;have⟨wb2,eb2,mb2,ep2,rb2,rx2,sb2,arO,A2,hv2,arV,ar3,p2,xs2,ar6,N2,fi2⟩:=d2;dsimp only at e1 e2 e3 e4 e5 e6 e7 e8 e9 e10 e11;subst e1 e2 e3 e5 e7 e8 e9 e10 e11;have alt:∀b,d.all b->b<Y:=λb D=>by
     obtain q|q:=D;.exact o.lt b q
     .exact o.P.lt q
    have gq2:N F Y=J (.cells q.v.cells 40):=by rw[ks2 Y U (λq=>by have:=alt _ q;omega)];exact g0
    have d3:¬(dR=Y):=U;refine Y8 gq2 (U:¬(Y=dR)) ?_;generalize hH3:aI (aI F dR _) dR _=H3;have k3:∀b,b<dR->N H3 b=N F b:=λb D=>by rw[<-hH3,Xg,Xg]
    have lb:∀b,d.bT b->b<dR:=λb D=>by have:=o.lt b D;omega
    have kb3:∀b,d.bT b->N H3 b=N Q b:=λb D=>by rw[k3 b (lb b D),kb2 b D]
    have jd:=o0.yG;refine cm (a54 ((kb3 _ (.inl Z)).trans o0.w) (o0.hv.aW λb D=>kb3 b (Fl D)) (λb D=>⟨aQ _,by have:=(o0.mO b D).2;omega⟩) U q.v zxQ (EB (lb _ (.inl Z)))) ?_;rintro w4 H4 Gc arJ ⟨ev1,hv4,PN,rfl,gw4,ov4,in4,k4⟩;have⟨u1,u2⟩:=ov4.cells;have bw:∀b t cs,N Q b=J (.cells cs t)->t≠35->t≠129->b≠d.wb/\cu d.hv≠J b:=λb t cs D W F=>⟨fc D o0.w W,λe=>by have⟨hc,hA⟩:=o0.hv.bT e;exact fc D hA F Z⟩;have g4:N H4 dR=J (.cells (C3 ac af aa av) 125):=by rw[k4 _ U (EB (lb _ (.inl Z))) (λe=>by have:=(o0.mO _ e).2;omega)];exact TZ hH3
    refine YM T19.eq_1 gw4 g4 (EB (lb _ (.inl Z)):¬(d.wb=Gc+11)) (U:¬(dR=Gc+11)) @cL @cV ?_;refine kB (c:=evc) (ov4.aW λb e=>?_) (λe=>e.len) (λe=>e.cel) [⟨u8 2::i6 PN::([u8 0,cg [],cg [],cg [],bW R,bW R,FB]++C3 ac af aa av),Z,Z⟩,⟨u8 3::i6 PN::([u8 0,cg [],cg [],cg [],bW R,bW R,FB]++C3 ac af aa av),Z,Z⟩] (by rw[aq];show O d.OV+1+2<_;omega) ?_
    .rw[aj,ak];rintro rfl;obtain q|q:=in4 _ e
     .have:=(o0.mO _ q).2;omega
     .omega
    rintro hv5 H5 UM hn5 ov5 in5 k5;have arL:Gc+11<UM:=aP (IW bS _) hn5;have⟨u3,u4⟩:=ov5.cells;have ne4:∀b,b<dR->(∃t cs,N Q b=J (.cells cs t)/\t≠35/\t≠129)->b≠d.wb/\cu d.hv≠J b/\cu hv4≠J b:=λb D ⟨t,cs,W,F,h3⟩=>⟨(bw b t cs W F h3).1,(bw b t cs W F h3).2,λe=>by
     obtain q|q:=in4 _ e;.exact(bw b t cs W F h3).2 q
     .omega⟩
    have aqh:cu hv4≠J d.wb:=λe=>by have⟨hc,hA⟩:=ov4.bT e;exact fc hA gw4 bS Z
    have k5':∀b,b<Gc->cu hv4≠J b->N H5 b=N H4 b:=λb D yL=>by rw[k5 b (aP D (ew _ _)) yL,Xg]
    have wlt:=lb _ (.inl Z);have g5:=(k5' _ U aqh).trans gw4
    have⟨cC,aj3,nx3⟩:=ne4 x.xb U ⟨_,_,px.c,bS,bS⟩;have gx5:=(k5' _ U nx3).trans ((k4 _ U cC aj3).trans ((k3 _ U).trans (by rw[S.aW _ px.xl px.zY Tz.1 Tz.2.1 Tz.2.2,Sr])))
    refine J7 g5 u3 u4 ?_;have gx6:∀ob,N (aI H5 d.wb ob) x.xb=J (.cells ({x with w:=4*n+1,wr:=wr}:Pt).cells 160):=λob=>by rw[Xg cC];exact gx5
    refine Av (a51 ({x with w:=4*n+1,wr:=wr}:Pt) (gx6 _)) ?_;refine DS (a55 (n:=n) U ({x with w:=4*n+1,wr:=wr}:Pt) Z (gx6 _)) ?_;have ajp:∀b,b<dR->cu d.hv≠J b->cu hv4≠J b:=λb D W F=>by
     obtain q|q:=in4 _ F;.exact W q
     .omega
    have⟨oF,akA⟩:=o2.ev (Q:=aI (aI H5 d.wb (.cells (Be d.eb d.mb d.p.pb d.sb (O d.xs) d.cap hv5 PN) 35)) x.xb (.cells ({x with wr:=wr,w:=4*(n+1)}:Pt).cells 160)) (E:=UM) (hv':=hv5) (nxt':=PN) (evs':=_) U
     (λb D q1 q2=>by
      by_cases e:b=x.xb;.rw[aj,au e,aj,au e]
      .rw[Xg e,Xg q1,k5' _ U (ajp b D q2),k4 _ U q1 q2,k3 _ D,Xg e])
     (by show N _ d.wb=J (.cells (Be d.eb d.mb p2.pb d.sb (O xs2) d.cap hv5 PN) 35);rw[Xg (λe=>cC e.symm),Sr,e4,e6])
     (ov5.aW λb D=>by have⟨hc,hA⟩:=ov5.bT D;rw[Xg (fc hA gx5 bS),Xg (fc hA g5 bS)])
     (λb D=>by
      rcases in5 b D with q|q
      .rcases in4 b q with q|q;.exact .inl q
       .exact .inr ⟨U,U⟩
      .exact .inr ⟨by have:=fB (ew Gc _) q.1;omega,q.2⟩)
     (by rw[aq,aq];show O d.OV+1+2<=_;omega)
    refine⟨_,?_,oF,λb D qq=>?_,λb D=>?_⟩;.exact⟨Z,Z,Z⟩
    .dsimp only at akA;have KO:=hm b D;obtain q|q:=akA b qq
     .obtain q|q:=anT b q;.exact ab b D q
      .omega
     .omega
    .have na:¬d.all b:=ab b D;have KO:=hm b D;have n2:b≠d.wb:=λe=>na (.inl (.inl e));have n3:cu d.hv≠J b:=λe=>na (.inl (Fl e));rw[Xg (λe=>na (.inr (.inl ⟨x,L,.inl e⟩))),Xg n2,k5' _ U (ajp b U n3),k4 _ U n2 n3,k3 _ U,ks2 b U na,alf b U]
 refine key _ _ _ Z Z Z ?_;rcases sD with e|e|e<;>rw[e]<;>rfl
def C9{a:aY}(h:k<O a):a=a.take k++a.getD k 0::a.drop (k+1):=by rw[aB,aF h,fI,<-cM h,bA]
def V6{a b:aY}(h:a.take k=b.take k)(ha:k<O a)(D:k<O b)(cD:¬a.getD k 0=b.getD k 0):a<b↔a.getD k 0<b.getD k 0:=by
 generalize L:a.getD k 0=x at cD⊢;generalize hy:b.getD k 0=y at cD⊢;rw[C9 ha,C9 D,h,EE,ef,L,hy];constructor
 .rintro(q|⟨q,_⟩);.exact q
  .exact absurd q cD
 .exact .inl
def Dq{a b:aY}(h:a.take k=b.take k)(hk:k=O a\/k=O b):a<b↔O a<O b:=by
 obtain rfl|rfl:=hk
 .rw[aH (an _)]at h;rw[h];by_cases K:O a<O b
  .simp only[ax,b9 (eC K),K,iff_true]
   conv=>rhs;rw[C9 K]
   conv=>lhs;rw[<-cy (List.take (O a) b)]
   rw[EE];simp
  .rw[aH U];simp[bU]
 .rw[aH (l:=b) (an _)]at h;constructor
  .intro dc;exfalso;rw[<-h]at dc;have e:a=a.take (O b)++a.drop (O b):=(bA _ _).symm;have aiX:a.take (O b)++a.drop (O b)<a.take (O b)++[]:=by rw[bA,cy];exact dc
   rw[EE]at aiX;exact kF aiX
  .intro K;exfalso;have:=ff List.length h;rw[ax]at this;omega
def TLs:=RB [(4,[(z6,[],B)]),(5,[MO z6 7,RX])]
def a81(a b:aY)(ha:O a<60000)(D:O b<60000):bz 81 [cg a,cg b] (bW (decide (a<b))):=by
 refine bz.ac 2 TLs func81 λh Y=>?_;refine Xf f81.eq_1 ?_;refine cI _ _ (λm s Q E=>∃k,k<=O a/\k<=O b/\m=O a-k/\a.take k=b.take k/\X s 0=cg a/\X s 1=cg b/\X s 5=int k/\Q=h/\Y<=E) (n:=O a) ?_ ?_;.refine QZ ?_;exact⟨0,aQ _,aQ _,Z,Z,Z⟩
 rintro m s Q E ⟨k,k1,k2,rfl,hk,s0,s1,s5,rfl,l1⟩;by_cases W:k<O a
 .have ki:(k:Int)<(O a:Int):=U;by_cases F:k<O b
  .have qK:(k:Int)<(O b:Int):=U;by_cases h3:a.getD k 0=b.getD k 0
   .refine asB TLs.eq_1 s0 s1 s5 W ki F qK h3 (U:k+1<9223372036854775808) ?_;have e1:a.take (k+1)=a.take k++[a.getD k 0]:=by rw[bj W];simp[List.getD,W]
    have e2:b.take (k+1)=b.take k++[b.getD k 0]:=by rw[bj F];simp[List.getD,F]
    exact⟨O a-(k+1),U,k+1,W,F,Z,by rw[e1,e2,hk,h3],Z,U⟩
   .have Ci:¬(((a.getD k 0).toNat:Int)=((b.getD k 0).toNat:Int)):=λe=>h3 (fH.1 (Int.ofNat_inj.1 e));refine asA TLs.eq_1 s0 s1 s5 W ki F qK Ci ?_;exact .eE .refl .cP (by rw[jl.2 ((V6 hk W F h3).trans dN)])
  .refine PV s0 s1 s5 ki (U:¬(k:Int)<(O b:Int)) ?_;exact .eE .refl .cP (by rw[jl.2 (Dq hk (.inr U))])
 .refine L6 s0 s1 s5 (U:¬(k:Int)<(O a:Int)) ?_;exact .eE .refl .cP (by rw[jl.2 (Dq hk (.inl U))])
variable{hc:List u}{i:Nat}{los:List aY}
def T41:=RB [(6,[MO z12 13,([14],[],B)]),(8,[(z14,[],B)])]
structure FV(los:List aY):Prop where
 fst:los.getD 0 []=[]
 one:0<O los
 up:los.Pairwise (· < ·)
 sm:∀s∈los,O s<=500
def FV.ins(o:FV los){t:aY}(ht:O t<=500)(H:i<=O los)(W:∀j,j<i->los.getD j []<t)(F:i<O los->¬los.getD i []<t/\los.getD i []≠t):FV (los.take i++[t]++los.drop i):=by
 have up:(los.take i++los.drop i).Pairwise (· < ·):=by rw[bA];exact o.up
 have⟨u1,u2,u3⟩:=jr.1 up;have a1:∀a∈los.take i,a<t:=λa ha=>by obtain⟨j,hj,rfl⟩:=List.getElem_of_mem ha;rw[ax]at hj;have:=W j U;rw[List.getElem_take];rw[aB,aF U,fI]at this;exact this
 have a2:∀b∈los.drop i,t<b:=λb D=>by
  have dc:i<O los:=by
   obtain q|q:=bB i (O los);.exact q
   .rw[aX q]at D;cases D
  have⟨n1,n2⟩:=F dc;have h0:t<los.getD i []:=by
   obtain q|q|q:=kC (los.getD i []) t;.exact absurd q n1
   .exact absurd q n2
   .exact q
  rw[cM dc]at D u2;have e:los.getD i []=los[i]:=by rw[aB,aF dc,fI]
  rw[e]at h0;obtain rfl|D:=bJ.1 D
  .exact h0
  .exact dT h0 ((eP.1 u2).1 b D)
 refine⟨?_,gr,?_,λs G=>?_⟩
 .have hi0:0<i:=by
   obtain rfl|q:=nW i
   .have⟨n1,n2⟩:=F o.one;rw[o.fst]at n1 n2;obtain q|q|q:=kC [] t;.exact absurd q n1
    .exact absurd q n2
    .exact absurd q kF
   .exact q
  have:=o.fst;obtain⟨x,xs,rfl⟩:∃x xs,los=x::xs:=by
   cases los with
   |nil=>have:=o.one;simp at this
   |cons x xs=>exact⟨x,xs,Z⟩
  obtain⟨j,rfl⟩:∃j,i=j+1:=⟨i-1,U⟩;simpa using this
 .rw[aA];refine jr.2 ⟨u1,eP.2 ⟨a2,u2⟩,λa ha b D=>?_⟩;obtain rfl|D:=bJ.1 D
  .exact a1 a ha
  .exact u3 a ha b D
 .obtain G|G:=bN.1 G
  .obtain G|G:=bN.1 G;.exact o.sm s (fe G)
   .rw[aV.1 G];exact ht
  .exact o.sm s (ju G)
def agD(hA:hc.take (O los*1)=los.flatMap gv)(hk:k<O los):iS (k*1) hc=J (cg (los.getD k [])):=by
 have e1:(los.flatMap gv)[k]?=J (cg (los.getD k [])):=by
  have:los.flatMap gv=los.map cg:=by
   clear hA hk
   induction los with
   |nil=>rfl
   |cons x xs ih=>rw[bE,ih];rfl
  rw[this,gY,aB,aF hk];rfl
 rw[<-hA,gJ U]at e1;rw[df,k6];exact e1
def a41(l:List aY)(K:O l<=100)(G:∀s∈l,O s<=500)(h Y):
 UP 41 [strs l] h Y λw Q E=>∃los,Own gv 9 1 Q w los/\In Y E w/\FV los/\O los<=12/\aG Y h Q:=by
 refine az.ac 1 T41 func41 ?_;refine Xf f41.eq_1 ?_;refine cI _ _ (λm s Q E=>∃k los v,k<=O l/\m=O l-k/\X s 0=strs l/\X s 3=v/\X s 4=int k/\Own gv 9 1 Q v los/\In Y E v/\FV los/\O los<=12/\aG Y h Q/\Y<=E) (n:=O l) ?_ ?_;.refine QZ ?_;refine⟨0,[[]],_,aQ _,Z,Z,Z,.inr ⟨Y,1,_,Z,iA,an _,Z,Z⟩,.sl (an _) (aZ _),⟨Z,bS,bR,bR⟩,bS,aG.refl.set (an _)⟩
 rintro m s Q E ⟨k,los,v,q1,rfl,s0,s3,s4,ho,mO,hx,DV,S0,l1⟩;obtain⟨b,cap,hc,rfl,hA,g1,g2,g3⟩:=ho.sl hx.one;by_cases W:k<O l
 .have ki:(k:Int)<(O l:Int):=U;by_cases F:O los<12
  .have qK:(O los:Int)<12:=U;refine PV s0 s3 s4 ki qK ?_;refine cI _ _ (λm s Ai Fb=>∃i,i<=O los/\m=O los-i/\(∀j,j<i->los.getD j []<l.getD k [])/\X s 0=strs l/\X s 3= .sl b 0 (O los) cap/\X s 4=int k/\X s 5=int i/\Ai=Q/\E<=Fb) (n:=O los) ?_ ?_;.refine J7 s0 s3 s4 ?_;exact⟨0,aQ _,Z,λj hj=>U,Z⟩
   rintro m s Ai Fb ⟨i,q2,rfl,hj,s0,s3,s4,s5,rfl,l2⟩;have ap7:∀j,j<O los->O (los.getD j [])<60000:=λj hj=>by have:=hx.sm _ (jY (d:=[]) hj);omega
   have ht:=G _ (jY (d:=[]) W);have qB:k+1<9223372036854775808:=U;obtain h3|h3:=bB i (O los)
   case' inl=>
    have Ci:(i:Int)<(O los:Int):=U;have nt:=agD g3 h3;refine asB T41.eq_1 s0 s3 s4 s5 h3 Ci W hA nt ?_;refine ba (a81 _ _ (ap7 i h3) (rm ht bS)) ?_;rcases Decidable.em (los.getD i []<l.getD k [])with h4|h4
    case' inl=>
     have L7:=aN h4;refine RC s0 s3 s4 s5 L7 (U:i+1<9223372036854775808) ?_;refine⟨O los-(i+1),U,i+1,h3,Z,λj hj2=>?_,Z,U⟩;obtain q|q:=bB j i
     .exact hj j q
     .rw[show j=i from U];exact h4
    case' inr=>
     have L7:=aU h4;rcases Decidable.em (los.getD i []=l.getD k [])with h5|h5
     case' inl=>have h5':=aN h5;simp+decide-dsimp only[go_sem,T41,s0,s3,s4,s5,W,h3,Ci,L7,h5',hA,nt,qB];exact⟨O l-(k+1),U,k+1,los,_,W,Z,Z,Z,ho,λb' iQ=>⟨(mO b' iQ).1,by have:=(mO b' iQ).2;omega⟩,hx,DV,S0,U⟩
     case' inr=>have h5':=aU h5;simp+decide-dsimp only[go_sem,T41,s0,s3,s4,s5,W,h3,Ci,L7,h5',hA,nt,qB]
   case' inr=>have Ci:¬(i:Int)<(O los:Int):=U;simp+decide-dsimp only[go_sem,T41,s0,s3,s4,s5,Ci,qB]
   all_goals
    have oO:i<O los->¬los.getD i []<l.getD k []/\los.getD i []≠l.getD k []:=λq=>by
     first
     |exact⟨h4,h5⟩
     |exact absurd q U
    have bl:b<E:=(mO b Z).2;have L2:=hx.ins ht q2 hj oO;obtain⟨k1,hk1⟩:∃k1,k1=los.take i:=⟨_,Z⟩;obtain⟨k2,zS⟩:∃k2,k2=los.drop i:=⟨_,Z⟩;rw[<-hk1,<-zS]at L2;have Qf:O k1=i:=by rw[hk1,ax];omega
    have arz:O k2=O los-i:=by rw[zS,aC]
    have shi:ub 1 b 0 (O los) cap B (J (int i))=J (.sl b 0 (O k1) cap):=by rw[OD U,Qf]
    have f1:dC (O k1*1) hc=J (k1.flatMap gv):=by rw[bZ _ _ U,hk1,<-fY (n:=1) (λ_=>rfl),<-g3,bI,ax,b9 U,b9 U]
    obtain⟨off,slo,f2⟩:∃off,ub 1 b 0 (O los) cap (J (int i)) B=J (.sl b off (O k2) (cap-i))/\(dV off hc).bind (dC (O k2*1))=J (k2.flatMap gv):=by
     rw[NZ q2,<-arz];refine⟨_,Z,?_⟩;by_cases e:cap=i;.have:k2=[]:=List.length_eq_zero_iff.1 U;rw[au e,this,iq,aT];rfl
     .rw[ak e,eY _ _ U,aT,bZ _ _ (Es @aC),zS,<-fA (n:=1) (λ_=>rfl),<-g3,gz,aC,fC]
      congr 2;omega
    generalize qf:Fb+Array.size _+Array.size _=nq;have nql:Fb<=nq:=U;have V7:¬(b=nq):=U;have kl1:O k1<65536:=U;have kl2:O k2<65536:=U;simp+decide-dsimp only[go_sem,shi,f1,V7,kl1,hA,cL,cV];have oe:Own gv 9 1 (aI Ai nq (.cells [] 9)) (.sl nq 0 0 0) []:= .inr ⟨nq,0,[],Z,iA,an _,Z,Z⟩;refine kB (c:=gv) oe (λ_=>rfl) (λ_=>rfl) k1 (by show 0+O k1<_;omega) ?_;rintro v1 H1 n1 w1 o1 i1 DT;have uq:N H1 b=J (.cells hc 9):=by rw[DT b U (λe=>by injection e with e;omega),Xg V7];exact hA
    rw[cz]at o1;refine PV s0 s4 W @cL @cV ?_;refine lN (c:=gv) (o1.aW λb' e=>?_) (λ_=>rfl) (λ_=>rfl) U (l.getD k []) ?_
    .rw[aj,ak];obtain q|q:=i1 _ e
     .injection q with q;omega
     .omega
    rintro v2 H2 n2 w2 o2 i2 I8;have hA2:N H2 b=J (.cells hc 9):=by
     rw[I8 b U (λe=>by
      obtain q|q:=i1 _ e;.injection q with q;omega
      .omega),Xg];exact uq
    simp+decide-dsimp only[go_sem,s3,s5,hA2,slo,f2,kl2,cL,cV];have ll:O (k1++[l.getD k []])=O k1+1:=bR;refine kB (c:=gv) o2 (λ_=>rfl) (λ_=>rfl) k2 U ?_;rintro v3 H3 n3 w3 o3 i3 SO;have wB:∀b',cu v3=J b'->nq<=b'/\b'<n3:=λb' e=>by
     obtain q|q:=i3 _ e
     .obtain q|q:=i2 _ q
      .exact avn
      .omega
     .omega
    have vP:∀b',cu v2=J b'->nq<=b':=λb' q=>by
     obtain q|q:=i2 _ q
     .exact avn
     .omega
    have Fs:∀b',cu v1=J b'->nq<=b':=λb' q=>by
     exact avn
    have S3:aG Y h H3:=λb' iQ=>by rw[SO b' U (λe=>by have:=vP _ e;omega),I8 b' U (λe=>by have:=Fs _ e;omega),Xg,DT b' U (λe=>by injection e with e;omega),Xg];exact S0 b' iQ
    have l3:O (k1++[l.getD k []]++k2)=O los+1:=by rw[aq,ll];omega
    refine L6 s0 s3 s4 qB ?_;exact⟨O l-(k+1),U,k+1,_,v3,W,Z,Z,Z,o3,λb' e=>⟨by have:=wB b' e;omega,(wB b' e).2⟩,L2,U,S3,U⟩
  .refine PV s0 s3 s4 ki (U:¬(O los:Int)<12) ?_;exact⟨los,ho,mO,hx,DV,S0⟩
 .refine L6 s0 s3 s4 (U:¬(k:Int)<(O l:Int)) ?_;exact⟨los,ho,mO,hx,DV,S0⟩
variable{a:u}{n:Nat}{t:TypeId}
def Tj:gT n [a]=List.replicate n a:=by
 induction n with
 |zero=>rfl
 |succ n ih=>show a::gT n [a]=_;rw[ih];rfl
def Vc{e bt v}(hu:prog.underlying t=J (.slice e))(G:cZ prog e=J 1)(D:lO prog e=J bt)(hz:dS prog e=J [v])(ha:a= .g v)(hbt:bt<=65536)(h:n<=65536):sg prog t (int n) (int n)=J (.ri (.cells (List.replicate n a) e) n n):=by unfold sg;rw[hu];show PZ prog e n n=_;unfold PZ;rw[G,D,hz];show(if decide (n<=n)&&decide (n<=65536)&&decide (bt<=65536)&&(O [v]==1)then J (QR.ri (.cells (gT n [.g v]) e) n n)else B)=_;rw[aN (an n),aN h,aN hbt,Tj,ha];rfl
def aiv(h:n<=4096):sg prog 134 (int n) (int n)=J (.ri (.cells (List.replicate n (u64 0)) 71) n n):=Vc aeh ajs akh ajJ Z bS U
def anq(h:n<=4096):sg prog 135 (int n) (int n)=J (.ri (.cells (List.replicate n (bW R)) 4) n n):=Vc aef ts4 tb4 tz4 Z bS U
def arv(h:n<=4096):sg prog 32 (int n) (int n)=J (.ri (.cells (List.replicate n (FE)) 78) n n):=Vc ML Nc adk Wx Z bS U
def T42:=RB [(3,[(z6,[1,3],J 7),RX])]
def a42(n:Nat)(W:1<=n)(F:n<=4096)(h Y):
 UP 42 [int n] h Y λw Q E=>∃p:bp,w= .dY [.ptr p.pb 0,i6 0]/\p.ok Q E/\p.fr.count M=n/\O p.fr=n/\aG Y h Q/\Y<=p.pb/\Y<=p.gb/\Y<=p.fb:=by
 refine az.ac 1 T42 func42 ?_;simp+decide-dsimp only[f42,go_sem,T42,(U:¬((n:Int)<1)),(U:¬((4096:Int)<(n:Int))),aiv F,anq F];generalize hA:aI (aI (aI h (Y+1) _) (Y+3) _) (Y+6) _=hc;have SA:aG Y h hc:=hA▸gU
 have a1:N hc (Y+1)=J (.cells (List.replicate n (u64 0)) 71):=by rw[<-hA,Xg U,Xg U,aj,au Z]
 have a3:N hc (Y+3)=J (.cells (List.replicate n (bW R)) 4):=by rw[<-hA,Xg U,aj,au Z]
 have a6:N hc (Y+6)=J (.cells [.sl (Y+1) 0 n n,.sl (Y+3) 0 n n,int n] 137):=by rw[<-hA,aj,au Z]
 clear hA;generalize hq:Y+Array.size _=nq;have qf:Y+7<=nq:=hq▸(iR bS _)
 clear hq;have put:∀(a b:u) (i:Nat),i<n->eG (i*1) (List.replicate i a++List.replicate (n-i) b) [a]=J (List.replicate (i+1) a++List.replicate (n-(i+1)) b):=λa b i H=>by rw[df,cG _ _ _ gr,vE bR,jo,aX bR,cz,lQ,dM,List.drop_replicate,List.replicate_succ',show n-i-(i+1-i)=n-(i+1)by omega]
 refine cI _ _ (λm s Q E=>∃i,i<=n/\m=n-i/\X s 4= .ptr (Y+6) 0/\X s 19=int n/\X s 20=int i/\(aG Y h Q/\N Q (Y+1)=J (.cells (List.replicate i (u64 1)++List.replicate (n-i) (u64 0)) 71)/\N Q (Y+3)=J (.cells (List.replicate i (bW M)++List.replicate (n-i) (bW R)) 4)/\N Q (Y+6)=J (.cells [.sl (Y+1) 0 n n,.sl (Y+3) 0 n n,int n] 137))/\Y+7<=E) (n:=n) ?_ ?_;.simp+decide-dsimp only[go_sem];exact⟨0,aQ _,Z,Z,⟨SA,a1,a3,a6⟩,qf⟩
 rintro m s Q E ⟨i,H,rfl,s4,M6,s20,⟨S0,g1,g3,g6⟩,l1⟩;by_cases dc:i<n;.simp+decide-dsimp only[go_sem,s4,M6,s20,g1,g3,g6,dc,put (u64 1) (u64 0) i dc,put (bW M) (bW R) i dc,(U:i+1<9223372036854775808),(U:¬(Y+3=Y+1)),(U:¬(Y+6=Y+1)),(U:¬(Y+6=Y+3)),(U:¬(Y+1=Y+3))];exact⟨n-(i+1),U,i+1,dc,Z,Z,⟨(S0.set U).set U,Z,Z⟩,U⟩
 .have e:i=n:=U;subst e;simp+decide-dsimp only[go_sem,s4,M6,s20,dc];have A:(List.replicate i M).count M=i:=bR;refine⟨⟨Y+6,Y+1,Y+3,List.replicate i 1,List.replicate i M⟩,Z,⟨?_,?_,?_,bR,by simpa using F,by show¬(Y+6=Y+1);omega,by show¬(Y+6=Y+3);omega,by show¬(Y+1=Y+3);omega,by show Y+6<_;omega,by show Y+1<_;omega,by show Y+3<_;omega⟩,A,lQ,S0,by show Y<=Y+6;omega,by show Y<=Y+1;omega,by show Y<=Y+3;omega⟩;.rw[g6,A,lQ]
  .rw[g1,kX,List.map_replicate,IX,cy];rfl
  .rw[g3,kX,List.map_replicate];simp
def a43(h Y):UP 43 [] h Y λw Q E=>w= .ptr Y 0/\E=Y+1/\Q=aI h Y (.cells [FB,i6 0,i6 0,bW R,bW R] 96):=by refine az.ac 0 T0 func43 ?_;exact Xa f43.eq_1
structure Epo(ep em:Nat)(h:aE):Prop where
 e:N h ep=J (.cells [.mp em,.g (.slice B 0 0),u64 0,bW R] 191)
 m:N h em=J (.map [] 0)
def a48(h Y):UP 48 [] h Y λw Q E=>∃ep em,w= .ptr ep 0/\Epo ep em Q/\(Y<=ep/\ep<E/\Y<=em/\em<E)/\aG Y h Q:=by refine az.ac 0 T0 func48 ?_;refine Xf f48.eq_1 ?_;refine⟨_,_,Z,⟨iA,by rw[Xg,Sr]⟩,U,(aG.refl.set (an _)).set (bG _)⟩
def a88(bq h Y):UP 88 [.fn 89 [.ptr bq 0]] h Y λw Q E=>w= .ptr Y 0/\E=Y+1/\Q=aI h Y (.cells (gV 0 0 0 (.fn 89 [.ptr bq 0]) (FE)) 201):=by refine az.ac 1 T0 func88 ?_;exact Xa f88.eq_1
def a47(ps h Y):UP 47 [.fp ps] h Y λw Q E=>∃rb rx,w= .ptr rb 0/\pN Q E rb rx (.fp ps)/\Y<=rb/\Y<=rx/\aG Y h Q:=by refine az.ac 1 T0 func47 ?_;refine Xf f47.eq_1 ?_;refine cm (a88 Y _ _) ?_;rintro _ Q E hle ⟨rfl,rfl,rfl⟩;refine QZ ?_;refine⟨Y+1,Y,Z,⟨.inl ⟨0,iA,by rw[Xg,Sr]⟩,U,U⟩,U,an _,(aG.refl.set (an _)).set (bG _)⟩
def a44(lo H last)(dc:last=R->lo<H)(kd:Nat)(sD:kd=1\/kd=2\/kd=3)(p:bp)(h Y)(ug:p.ok h Y)(A:p.fr.count M≠0):
 UP 44 [cg lo,cg H,bW last,u8 (kd:Nat),.ptr p.pb 0] h Y λw Q E=>∃x p',w= .dY [.ptr x.xb 0,i6 0]/\IZ x p' 0 Q E/\x.lo=lo/\x.last=last/\(last=R->x.H=H)/\(∀b,x.pL b->Y<=b)/\eA Y (λ_=>False) x.T.own (λ_=>False) x.T.sl p p' h Q/\p'.fr.count M+1=p.fr.count M/\x.T.len=1:=by
 refine az.ac 5 T0 func44 ?_;have fin:∀(oM:aY) (T:Tr) (p':bp) (ib:Nat) (Q:aE) (E:Nat),(last=R->oM=H)->Y<=E->N Q ib=J (.cells (D8 T kd) 175)->Y<=ib->ib<E->¬T.own ib->T.h1 p' Q E->T.ok (⟨E,ib,lo,oM,last,kd,0,0,0,T⟩:Pt).pk 0->eA Y (λ_=>False) T.own (λ_=>False) T.sl p p' h Q->(p'.fr.count M+1=p.fr.count M/\T.len=1)->
  ∃x p',u.dY [.ptr E 0,i6 0]= .dY [.ptr x.xb 0,i6 0]/\IZ x p' 0 (aI Q E (.cells (⟨E,ib,lo,oM,last,kd,0,0,0,T⟩:Pt).cells 160)) (E+1)/\x.lo=lo/\x.last=last/\(last=R->x.H=H)/\(∀b,x.pL b->Y<=b)/\eA Y (λ_=>False) x.T.own (λ_=>False) x.T.sl p p' h (aI Q E (.cells (⟨E,ib,lo,oM,last,kd,0,0,0,T⟩:Pt).cells 160))/\p'.fr.count M+1=p.fr.count M/\x.T.len=1:=by
  intro oM T p' ib Q E hh hn g1 g2 g3 g4 h1 ok S C;refine⟨⟨E,ib,lo,oM,last,kd,0,0,0,T⟩,p',Z,⟨iA,aZ _,?_,by show ib<E+1;omega,h1.same (aG.refl.set (an _)) (bG _),λq=>by have q:T.own E:=q;have:=h1.lt q;omega,g4,ok,⟨0,an _,Z⟩,sD⟩,Z,Z,hh,?_,⟨S.pb,S.gb,S.fb,S.fl,S.fr,S.bl,S.slt,λb D q1 q2 q3 q4=>?_⟩,C⟩;.show N _ ib=_;rw[Xg U];exact g1
  .rintro b (q|q|q);.have q:b=E:=q;omega
   .have q:b=ib:=q;omega
   .exact(S.bl b q).resolve_left id
  .rw[Xg];exact S.aW b D q1 q2 q3 q4
 cases last with
 |true=>
  refine Xf f44.eq_1 ?_;refine cm (a83 kd sD p h Y ug A (λy=>(!decide (y<lo))=M/\O y<=24)) ?_;rintro _ Q E hle ⟨T,p',ib,rfl,g1,g2,g3,g4,h1,hk,ok,S,C⟩;refine QZ ?_;have:(⟨E,ib,lo,[],M,kd,0,0,0,T⟩:Pt).pk=λy=>(!decide (y<lo))=M/\O y<=24:=by funext y;unfold Pt.pk Pt.has;simp
  have⟨x,p2,e1,e2,e3,e4,e5,e6,e7,e8⟩:=fin [] T p' ib Q E (λq=>by cases q) hle g1 g2 g3 g4 h1 (this▸ok) S C;exact⟨x,p2,e1,e2,e3,e4,λq=>q.elim,e6,e7,e8⟩
 |false=>
  have z:=aN (dc Z);refine Xf f44.eq_1 ?_;refine ba (XV lo H) ?_;refine Xf z ?_;refine cm (a83 kd sD p h Y ug A (λy=>(!decide (y<lo)&&decide (y<H))=M/\O y<=24)) ?_;rintro _ Q E hle ⟨T,p',ib,rfl,g1,g2,g3,g4,h1,hk,ok,S,C⟩;refine QZ ?_;have:(⟨E,ib,lo,H,R,kd,0,0,0,T⟩:Pt).pk=λy=>(!decide (y<lo)&&decide (y<H))=M/\O y<=24:=by funext y;unfold Pt.pk Pt.has;simp
  have⟨x,p2,e1,e2,e3,e4,e5,e6,e7,e8⟩:=fin H T p' ib Q E (λq=>rfl) hle g1 g2 g3 g4 h1 (this▸ok) S C;exact⟨x,p2,e1,e2,e3,e4,λ_=>e5 Z,e6,e7,e8⟩
variable{aw b cap:Nat}
def T46:=RB [(7,[([0,1,2,3,4,5,6,7,8,9,10,11,12,13,14,15,17,18,19,20,21,22,23,24,25,26,27,28,29,30,31,32],[3,10,15,20,27],J 16),([],[20,27,32],J 33),MO [34,35] 36,MO [] 37,RX])]
def amp{ev ps}:gI prog ev 222 3 ps=ig 45 3 (gl (λi=>J (i*1,1)) ev ps [FB,FB,FB]):=sX adR amN akC bS Z
def aif{ev ps}:gI prog ev 224 3 ps=ig 32 3 (gl (λi=>J (i*1,1)) ev ps [FB,FB,FB]):=sX adX aja ajQ bS Z
attribute[go_sem] amp aif
def Qn{l:List aY}(h:i<=O l):xI 1 (O l) (l.flatMap gv) (J (int i)) B=J (strs (l.drop i)):=by
 have K:O ((l.drop i).flatMap gv)=(O l-i)*1:=by rw[cj xn,aC]
 have e1:fX (O l) (O l) B=J (O l):=rfl;simp only[xI,fX,mT,iF h];rw[nQ xn h];dsimp only;rw[bZ _ _ U,aH U];simp[aC]
def aaN{l:List aY}(h:i<=O l):xI 1 (O l) (l.flatMap gv) B (J (int i))=J (strs (l.take i)):=by have e:(l.take i).flatMap gv=(l.flatMap gv).take (i*1):=(fY xn l i).symm;have K:O (l.flatMap gv)=O l*1:=cj xn l;simp only[xI,fX,mT,iF h,fJ,iq,qk];rw[bZ _ _ U,<-e];simp[b9 h]
def MQ{l:List (Pq aw)}(h:i<=O l):xI 1 (O l) (l.flatMap cq) (J (int i)) B=J (LD (l.drop i)):=by
 have K:O ((l.drop i).flatMap cq)=(O l-i)*1:=by rw[cj uK,aC]
 have e1:fX (O l) (O l) B=J (O l):=rfl;simp only[xI,fX,mT,iF h];rw[nQ uK h];dsimp only;rw[bZ _ _ U,aH U];simp[aC]
def Vn{l:List (Pq aw)}(h:i<=O l):xI 1 (O l) (l.flatMap cq) B (J (int i))=J (LD (l.take i)):=by have e:(l.take i).flatMap cq=(l.flatMap cq).take (i*1):=(fY uK l i).symm;have K:O (l.flatMap cq)=O l*1:=cj uK l;simp only[xI,fX,mT,iF h,fJ,iq,qk];rw[bZ _ _ U,<-e];simp[b9 h]
attribute[go_sem] Qn aaN MQ Vn
def a46{nl}{xs zs:List (Pq aw)}(K:O los<20000)(L:O xs=O los)(h2:Fit los i n nl)(hz:O zs=O nl)(hm:O los-n+O nl<=16)(hN:aw<=Y)(hA:N h b=J (.cells hc 78))(hAt:hc.take (O zs)=zs.flatMap cq)(hAl:O zs<=O hc)(hbl:b<Y):
 UP 46 [E8 los xs,int i,int n,strs nl,.sl b 0 (O zs) cap] h Y (dG (.dY [E8 (los.take i++nl++los.drop (i+n)) (xs.take i++zs++xs.drop (i+n)),i6 0]) h Y):=by
 have f1:=h2.n1;have f2:=h2.le;have cD:0<O los:=U;refine az.pc 5 T46 func46 ?_;have c3:¬((16:Int)<((O los-n+O nl:Nat):Int)):=U;have c5:((O nl:Int)=(O zs:Int)):=U;have g1:i<=O los:=U;have g2:i<=O xs:=U;have g3:i+n<=O xs:=U;have s1:O (los.take i)+O nl+O (los.drop (i+n))<60000:=by rw[ax,aC];omega
 have s2:O (xs.take i)+O zs+O (xs.drop (i+n))<60000:=by rw[ax,aC];omega
 have d1:¬(b=Y+15):=U;have d2:¬(b=Y+32):=U;obtain⟨c1,c2,c4⟩:cO .i64 ((O los:Int)-(n:Int))=((O los-n:Nat):Int)/\cO .i64 (((O los-n:Nat):Int)+(O nl:Int))=((O los-n+O nl:Nat):Int)/\cO .i64 ((i:Int)+(n:Int))=((i+n:Nat):Int):=
  ⟨qI,qI,qI⟩
 refine Xf f46.eq_1 ?_;refine ba (a84 cD) ?_;refine Xf hz ?_;refine ba (a85 cD U h2) ?_;simp+decide-dsimp only[go_sem,T46,c1,c2,c3,c4,g1,g2,g3,f2];generalize hq:Y+Array.size _=nq;have qf:Y+33<=nq:=hq▸(iR bS _)
 generalize hB:aI (aI h (Y+15) _) (Y+32) _=zyQ;have SB:aG Y h zyQ:=hB▸gU
 have b1:=U9 hB Tb
 have b2:N zyQ (Y+32)=J (.cells [LD (xs.take i),.sl b 0 (O zs) cap,LD (xs.drop (i+n))] 32):=by rw[<-hB,Sr,hz]
 have b2n:N zyQ (Y+32)=J (.cells [LD (xs.take i),.sl b 0 (O nl) cap,LD (xs.drop (i+n))] 32):=by rw[b2,hz]
 have b3:=(SB b hbl).trans hA
 refine bc (a86 (Y:=nq) _ _ _ s1 b1 U) ?_;refine Xf b2n ?_;refine Av (a87 (Y:=nq) _ _ _ s2 U b3 hAt hAl U b2 U) ?_;refine .eE ?_ (.mC (.ptr U ((aj _ _ _ _).trans (au Z)) Z (.cons (.cw (show jz _ _ from ru (los.take i++nl++los.drop (i+n)))) (.cons (.cw (show jz _ _ from Oo hN (xs.take i++zs++xs.drop (i+n)))) .nil))) .cP) ?_;.exact SB.set U
 .simp[aq,hz];omega
def a45(x:Pq aw)(hN:aw<=Y):UP 45 [cqv x] h Y (dG (E8 [[]] [x]) h Y):=by
 refine az.pc 1 T0 func45 ?_;have e:cqv x=(cq x).getD 0 (.e0):=by cases x<;>rfl
 cases x with
 |none=>refine Y8 f45.eq_1 @cqv.eq_1 ?_;refine .eE ?_ (.ptr U ((aj _ _ _ _).trans (au Z)) Z (.cons (.sl (q:=1) (an _) (((aj _ _ _ _).trans (ak U)).trans (((aj _ _ _ _).trans (ak U)).trans ((aj _ _ _ _).trans (au Z)))) Z (an _) (.cons .cg .nil)) (.cons (.sl (q:=1) (bG _) (((aj _ _ _ _).trans (ak U)).trans ((aj _ _ _ _).trans (au Z))) Z (an _) (.cons .cP .nil)) .nil))) Z;exact gU
 |some b=>simp+decide-dsimp only[f45,go_sem,cqv];refine .eE ?_ (.ptr U ((aj _ _ _ _).trans (au Z)) Z (.cons (.sl (q:=1) (an _) (((aj _ _ _ _).trans (ak U)).trans (((aj _ _ _ _).trans (ak U)).trans ((aj _ _ _ _).trans (au Z)))) Z (an _) (.cons .cg .nil)) (.cons (.sl (q:=1) (bG _) (((aj _ _ _ _).trans (ak U)).trans ((aj _ _ _ _).trans (au Z))) Z (an _) (.cons (.cw (show b.1<Y from U)) .nil)) .nil))) Z;exact gU
variable{Q:aE}{E:Nat}{p':bp}{xs:List Pt}
section
variable{P:Program}{h:aE}{t:TypeId}{x y:Operand}
def acr{a:Nat}(ha:a<65536)(D:0<b):dE P h .rem t x y (int a) (int b)=J (int (a%b:Nat)):=by
 obtain⟨b,rfl⟩:∃c,b=c+1:=⟨b-1,U⟩;have hm:a%(b+1)<=a:=Nat.mod_le _ _;have hr:bM P (binOp .rem t (.int .i64 a) (.int .i64 ((b+1:Nat):Int)))=some (.int .i64 (a%(b+1):Nat)):=by rfl
 have hg:bM P (do eqGuard .rem t x y (.int .i64 a) (.int .i64 ((b+1:Nat):Int));binOp .rem t (.int .i64 a) (.int .i64 ((b+1:Nat):Int)))=J (.int .i64 (a%(b+1):Nat)):=by unfold eqGuard;simp only[cr];exact hr
 have G:jm P h .rem t x y (.g (.int .i64 a)) (.g (.int .i64 ((b+1:Nat):Int)))=some (.g (.int .i64 (a%(b+1):Nat))):=by show lH P .rem t x y (.int .i64 a) (.int .i64 ((b+1:Nat):Int))=_;unfold lH;rw[hg]
 unfold dE;simp only[eX];exact G
def ak9{a:Nat}(ha:a<256):dE P h .rem t x y (u8 (a:Nat)) (u8 3)=some (u8 (a%3:Nat)):=by
 have hr:bM P (binOp .rem t (.int .u8 a) (.int .u8 3))=some (.int .u8 (a%3:Nat)):=by rfl
 have hg:bM P (do eqGuard .rem t x y (.int .u8 a) (.int .u8 3);binOp .rem t (.int .u8 a) (.int .u8 3))=J (.int .u8 (a%3:Nat)):=by unfold eqGuard;simp only[cr];exact hr
 have G:jm P h .rem t x y (.g (.int .u8 a)) (.g (.int .u8 3))=some (.g (.int .u8 (a%3:Nat))):=by show lH P .rem t x y (.int .u8 a) (.int .u8 3)=_;unfold lH;rw[hg]
 unfold dE;simp only[eX];exact G
end
attribute[go_sem] acr ak9
abbrev I0(l:List UInt8):u:=Lk jU l
def Tl{e}{sz:TypeId->Option Nat}{l:List UInt8}(hk:k<O l):qa (J (.slice e)) sz (I0 l) (int k)=(sz e).bind λsize=>(dV (k*size) (l.flatMap jU)).map λl=> .val (.fp l):=sT hk
def Ub{l:List UInt8}(hk:k<O l):dV (k*1) (l.flatMap jU)=J (u8 ((l.getD k default).toNat:Nat)::(l.drop (k+1)).flatMap jU):=by rw[nQ (n:=1) (λ_=>rfl) (eC hk),Ki hk];rfl
attribute[go_sem] Tl Ub
def aou(l:List aY)(K:O l<=100)(G:∀s∈l,O s<=500)(h Y):
 UP 41 [strs l] h Y λw Q E=>(∃los,w=strs los/\FV los/\O los<=12)/\Q=h/\E=Y:=by
 refine az.tG (a41 l K G h Y) ?_;rintro v Q E ⟨los,o,mO,hx,DV,S⟩;exact⟨S,_,o.fz mO (λx y hy=>by rw[aV.1 hy];exact trivial),los,Z,hx,DV⟩
def EY.add{x p h}(o:EY xs p 0 h Y)(o':IZ x p' 0 Q E)(hf:∀b,x.pL b->Y<=b)(S:eA Y (λ_=>False) x.T.own (λ_=>False) x.T.sl p p' h Q)(hn:Y<=E)(A:p'.fr.count M+1=p.fr.count M)(K:x.T.len=1):EY (xs++[x]) p' 0 Q E:=by
 have pk:=o'.w.pk;refine⟨λy hy=>?_,pk,jr.2 ⟨o.sep,BP _ _,λy hy hd hz=>?_⟩,by have:=o.cnt;have:=S.fl;rw[zq,xB,K];show _+(_+(1+0))=_;omega⟩
 .obtain hy|hy:=bN.1 hy;.have oy:=o.all y hy;exact oy.to (λb D=>S.aW b (oy.lt D) id (oy.np D).1 (oy.np D).2.1 (oy.np D).2.2) pk S.pb S.gb S.fb S.fl (λs G=>(S.fr s (oy.w.tk G)).resolve_right id) hn (an _)
  .rw[aV.1 hy];exact o'
 .rw[aV.1 hz];have oy:=o.all y hy;refine⟨λb D iQ=>?_,λs G lS=>?_⟩;.have:=oy.lt D;have:=hf b iQ;omega
  .have:=(S.slt s lS).resolve_left id;rw[oy.w.tk G]at this;cases this
variable{cC dR mb pb wb zT:Nat}{h0 W F:aE}{pv:u}
abbrev Jo(mb pb:Nat)(pv:u):List u:=[.g (.pointer B),.ptr mb 0,.ptr pb 0,pv,.g (.slice B 0 0),.g (.slice B 0 0),bW R,i6 0]
structure Mid(los:List aY)(zT:Nat)(h0:aE)(wb mb pb cnt i:Nat)(h:aE)(Y:Nat)(xs:List Pt)(pv:u)(p:bp):Prop where
 len:O xs=i
 P:EY xs p 0 h Y
 cn:p.fr.count M+i=cnt
 pe:p.pb=pb
 w:N h wb=J (.cells (Jo mb pb pv) 35)
 m:N h mb=J (.cells [.g (.slice B 0 0),i6 0,i6 0,bW R,bW R] 96)
 po:Own Ej 78 1 h pv xs
 pin:∀b,cu pv=J b->zT<=b/\b<Y
 wo:∀x∈xs,∀b,x.T.own b->b≠wb/\b≠mb/\cu pv≠J b
 wl:zT<=wb/\wb<Y/\zT<=mb/\mb<Y
 lo:∀j (h:j<O xs),xs[j].lo=los.getD j []
 H:∀j (h:j<O xs),xs[j].last=decide (j+1=O los)/\(j+1<O los->xs[j].H=los.getD (j+1) [])
 ft:∀x∈xs,∀b,x.pL b->zT<=b
 pl:zT<=p.pb/\zT<=p.gb/\zT<=p.fb
 same:aG zT h0 h
 le:zT<=Y
def Mid.step{cnt p}(o:Mid los zT h0 wb mb pb cnt i h Y xs pv p){x pv'}
 (ox:IZ x p' 0 W cC) (hf:∀b,x.pL b->Y<=b) (S:eA Y (λ_=>False) x.T.own (λ_=>False) x.T.sl p p' h W) (A:p'.fr.count M+1=p.fr.count M) (KC:Y<=cC) (xl1:x.T.len=1)
 (xlo:x.lo=los.getD i []) (xhi:x.last=decide (i+1=O los)/\(i+1<O los->x.H=los.getD (i+1) []))
 (k2:∀b,b<cC->cu pv≠J b->N F b=N W b) (o2:Own Ej 78 1 F pv' (xs++[x])) (mO:∀b,cu pv'=J b->cu pv=J b\/(cC<=b/\b<dR)) (ES:cC<=dR):
 Mid los zT h0 wb mb pb cnt (i+1) (aI F wb (.cells (Jo mb pb pv') 35)) dR (xs++[x]) pv' p':=by
 have P1:=o.P.add ox hf S KC A xl1;have l1:=o.P.pk.tD;have l2:=o.P.pk.tJ;have l3:=o.P.pk.tM;have⟨w1,w2,w3,w4⟩:=o.wl;have pk:=o.P.pk;have OJ:∀b,b<Y->b≠p.pb->b≠p.gb->b≠p.fb->N W b=N h b:=λb D q1 q2 q3=>S.aW b D id q1 q2 q3;have w_1:=(OJ wb w2 (fc o.w pk.a bS) (fc o.w pk.g bS) (fc o.w pk.f bS)).trans o.w
 have m_1:=(OJ mb w4 (fc o.m pk.a bS) (fc o.m pk.g bS) (fc o.m pk.f bS)).trans o.m
 have pvb:∀b,cu pv=J b->b<Y/\∃hc,N h b=J (.cells hc 78):=λb D=>⟨(o.pin b D).2,o.po.bT D⟩;have pv1:∀b,cu pv=J b->∃hc,N W b=J (.cells hc 78):=λb D=>by have⟨q1,hc,hA⟩:=pvb b D;exact⟨hc,by rw[OJ b q1 (fc hA pk.a bS) (fc hA pk.g bS) (fc hA pk.f bS)];exact hA⟩
 have npv:∀b t cs,N W b=J (.cells cs t)->t≠78->cu pv≠J b:=λb t cs D ht e=>by have⟨hc,hA⟩:=pv1 b e;exact fc D hA ht Z
 have w_2:=(k2 wb U (npv _ _ _ w_1 bS)).trans w_1
 have m_2:=(k2 mb U (npv _ _ _ m_1 bS)).trans m_1
 have xo:∀b,x.T.own b->Y<=b/\b<cC:=λb D=>⟨hf b (FF D),ox.w.lt D⟩;have wo1:∀y∈xs++[x],∀b,y.T.own b->b≠wb/\b≠mb/\cu pv≠J b:=λy hy b D=>by
  obtain hy|hy:=bN.1 hy;.exact o.wo y hy b D
  .rw[aV.1 hy]at D;have:=xo b D;exact⟨U,U,λe=>by have:=(pvb b e).1;omega⟩
 have ks:∀b,(∃y∈xs++[x],y.pL b)\/b=p'.pb\/b=p'.gb\/b=p'.fb->N (aI F wb (.cells (Jo mb pb pv') 35)) b=N W b:=by
  intro b D;have dc:=P1.lt D;have:b≠wb/\cu pv≠J b:=by
   obtain⟨y,hy,q|q|q⟩|q|q|q:=D;.have py:=P1.all y hy;rw[q];exact⟨fc py.c w_1 bS,npv _ _ _ py.c bS⟩
   .have py:=P1.all y hy;rw[q];exact⟨fc py.i w_1 bS,npv _ _ _ py.i bS⟩
   .exact⟨(wo1 y hy b q).1,(wo1 y hy b q).2.2⟩
   .rw[q];exact⟨fc P1.pk.a w_1 bS,npv _ _ _ P1.pk.a bS⟩
   .rw[q];exact⟨fc P1.pk.g w_1 bS,npv _ _ _ P1.pk.g bS⟩
   .rw[q];exact⟨fc P1.pk.f w_1 bS,npv _ _ _ P1.pk.f bS⟩
  rw[Xg this.1,k2 b dc this.2]
 have nwb:∀b,cu pv'=J b->b≠wb:=λb D=>by have⟨hc,hA⟩:=o2.bT D;exact fc hA w_2 bS
 have el:∀j (h:j<O (xs++[x])),(∃Q:j<O xs,(xs++[x])[j]=xs[j])\/(j=i/\(xs++[x])[j]=x):=λj h=>by
  by_cases e:j<O xs;.exact .inl ⟨e,zZ e⟩
  .rw[aq]at h;have h:j<O xs+1:=h;have:j=O xs:=U;subst this;exact .inr ⟨o.len,bR⟩
 refine⟨by rw[aq,o.len];rfl,P1.to ks ES (an _),by have:=o.cn;omega,S.pb.trans o.pe,iA,by rw[Xg (fc m_2 w_2 bS)];exact m_2,o2.aW λb D=>by rw[Xg (nwb b D)],λb D=>?_,λy hy b D=>?_,⟨w1,U,w3,U⟩,λj h=>?_,λj h=>?_,λy hy b D=>?_,by rw[S.pb,S.gb,S.fb];exact o.pl,λb D=>?_,by have:=o.le;omega⟩
 .obtain q|q:=mO b D;.have:=o.pin b q;exact⟨this.1,U⟩
  .have:=o.le;exact⟨U,q.2⟩
 .have⟨q1,q2,q3⟩:=wo1 y hy b D;refine⟨q1,q2,λe=>?_⟩;obtain q|q:=mO b e;.exact q3 q
  .have:=(P1.all y hy).w.lt D;omega
 .obtain⟨Q,e⟩|⟨e1,e⟩:=el j h;.rw[e];exact o.lo j Q
  .rw[e,e1];exact xlo
 .obtain⟨Q,e⟩|⟨e1,e⟩:=el j h;.rw[e];exact o.H j Q
  .rw[e,e1];exact xhi
 .obtain hy|hy:=bN.1 hy;.exact o.ft y hy b D
  .rw[aV.1 hy]at D;have:=hf b D;have:=o.le;omega
 .have:=o.le;have:=o.pl;rw[Xg,k2 b U (λe=>by have:=(o.pin b e).1;omega),OJ b U U U U];exact o.same b D
variable{cs:List u}{x y:Operand}{α β:Type}
def T18:=RB [(19,[MO [0,1,2,3,4,5,7,8,9,10,11] 6,([],[11],J 12),MO [13,14,15] 16,MO [] 17,RX]),(21,[MO z26 27,MO [] 28,RX])]
def Pv{e}(hu:prog.underlying t=J (.pointer e)):dE prog h .neq t x y (.fp cs) (FE)=J (bW M):=by simp[dE,eX,jm,u.pV,qA,wP,hu,Ec]
def ajL:dE prog h .neq 70 x y (.fp cs) (FE)=J (bW M):=Pv aeJ
attribute[go_sem] ajL
def asN{l:List α}{f g:α->List β}(h:∀x∈l,f x=g x):l.flatMap f=l.flatMap g:=by
 induction l with
 |nil=>rfl
 |cons x l ih=>rw[bE,bE,h x bR,ih λy hy=>h y (by simp[hy])]
set_option maxHeartbeats 2000000 in
def a18(l:List aY)(ks:List UInt8)(n:Nat)(hn:12<n)(ES:n<=4096)(K:l.length<=100)(G:∀s∈l,s.length<=500)(h:aE)(Y:Nat):
 az prog 18 [strs l,I0 ks,int n] h Y λw Q E=>∃(d:Wd) (em:Nat),w= .dY [.ptr d.wb 0,bW true]/\d.ok 0 Q E/\(∀b,d.all b->Y<=b)/\aG Y h Q/\Epo d.ep em Q/\(d.ep<E/\em<E)/\¬d.all d.ep/\¬d.all em/\d.fi=none:=by
 refine az.ac 3 T18 func18 ?_;refine Xf f18.eq_1 ?_;refine cm (aou l K G h Y) ?_;rintro _ W cC-⟨⟨los,rfl,hx,DV⟩,rfl,rfl⟩;refine QZ ?_;refine cm (a42 n U ES W cC) ?_;rintro _ F dR l2 ⟨p,rfl,ug,A,zk,S2,b1,b2,b3⟩;refine QZ ?_;refine cm (a43 F dR) ?_;rintro _ h3 nx3 l3 ⟨rfl,rfl,rfl⟩;refine QZ ?_;generalize hH:aI _ (dR+1) _=hi;have M0:Mid los cC W (dR+1) dR p.pb n 0 hi (dR+1+1) [] (FB) p:=by
  have SH:aG dR F hi:=by rw[<-hH];exact(aG.refl.set (an _)).set (bG _)
  refine⟨Z,⟨λx L=>(by cases L),ug.aW SH U,List.Pairwise.nil,by rw[A,zk];rfl⟩,A,Z,by rw[<-hH,Sr],by rw[<-hH,Xg,Sr],.inl ⟨Z,Z⟩,λb D=>(by cases D),λx L=>(by cases L),⟨U,U,U,U⟩,λj hj=>absurd hj (cp _),λj hj=>absurd hj (cp _),λx L=>(by cases L),⟨b1,b2,b3⟩,λb D=>?_,U⟩;rw[SH b U,S2 b D]
 have dc:los.length<65536:=U;refine cI _ _ (λm s Q E=>∃i xs pv p',i<=los.length/\m=los.length-i/\X s 1=I0 ks/\X s 8=strs los/\X s 9= .ptr p.pb 0/\X s 11= .ptr (dR+1) 0/\X s 12=int i/\Mid los cC W (dR+1) dR p.pb n i Q E xs pv p') (n:=los.length) ?_ ?_;.refine QZ ?_;exact⟨0,[],_,p,aQ _,Z,Z,M0⟩
 rintro m s Q E ⟨i,xs,pv,p',q1,rfl,s1,s8,s9,yK,Ko,zzQ⟩;by_cases h3:i<los.length
 .have Ci:(i:Int)<(los.length:Int):=U;have w:i+1<9223372036854775808:=U;have i6:i<65536:=U;rcases(show(ks.length=0/\i+1<los.length)\/(ks.length=0/\los.length<=i+1)\/(0<ks.length/\i+1<los.length)\/(0<ks.length/\los.length<=i+1)from U)with⟨k0,h4⟩|⟨k0,h4⟩|⟨k0,h4⟩|⟨k0,h4⟩
  case' inl=>have k0':¬(0:Int)<(ks.length:Int):=U;have L7:((i+1:Nat):Int)<(los.length:Int):=U;have h5':¬((i+1:Nat):Int)=(los.length:Int):=U;simp+decide-dsimp only[go_sem,s1,s8,s9,Ko,h3,Ci,h4,L7,h5',k0',w]
  case' inr.inl=>have k0':¬(0:Int)<(ks.length:Int):=U;have L7:¬((i+1:Nat):Int)<(los.length:Int):=U;have h5':((i+1:Nat):Int)=(los.length:Int):=U;have h5d:=aN h5';simp+decide-dsimp only[go_sem,s1,s8,s9,Ko,h3,Ci,L7,h5d,k0',w]
  case' inr.inr.inl=>
   have k0':(0:Int)<(ks.length:Int):=U;have k1:i%ks.length<ks.length:=Nat.mod_lt _ k0;have k2:(ks.getD (i%ks.length) default).toNat<256:=UInt8.toNat_lt _;have k3:cO .u8 (1+(((ks.getD (i%ks.length) default).toNat%3:Nat):Int))=((1+(ks.getD (i%ks.length) default).toNat%3:Nat):Int):=by rw[wrap_u8 U U];omega
   have L7:((i+1:Nat):Int)<(los.length:Int):=U;have h5':¬((i+1:Nat):Int)=(los.length:Int):=U;simp+decide-dsimp only[go_sem,s1,s8,s9,Ko,h3,Ci,h4,L7,h5',k0',k0,k1,k2,k3,i6,w]
  case' inr.inr.inr=>
   have k0':(0:Int)<(ks.length:Int):=U;have k1:i%ks.length<ks.length:=Nat.mod_lt _ k0;have k2:(ks.getD (i%ks.length) default).toNat<256:=UInt8.toNat_lt _;have k3:cO .u8 (1+(((ks.getD (i%ks.length) default).toNat%3:Nat):Int))=((1+(ks.getD (i%ks.length) default).toNat%3:Nat):Int):=by rw[wrap_u8 U U];omega
   have L7:¬((i+1:Nat):Int)<(los.length:Int):=U;have h5':((i+1:Nat):Int)=(los.length:Int):=U;have h5d:=aN h5';simp+decide-dsimp only[go_sem,s1,s8,s9,Ko,h3,Ci,L7,h5d,k0',k0,k1,k2,k3,i6,w]
  all_goals
   have pe:=zzQ.pe;have akQ:p'.fr.count true≠0:=by have:=zzQ.cn;omega
   have Yd:i+1<los.length->los.getD i []<los.getD (i+1) []:=λq=>by have:=iN.1 hx.up i (i+1) U q U;rw[aB,aF U,aB,aF q];exact this
   rw[<-pe]
   first
   |refine cm (a44 _ _ _ (λq=>by first|exact Yd h4|cases q) (1+(ks.getD (i%O ks) default).toNat%3) U p' Q E zzQ.P.pk akQ) ?_
   |refine cm (a44 _ _ _ (λq=>by first|exact Yd h4|cases q) 2 U p' Q E zzQ.P.pk akQ) ?_
   rintro _ ki agc abi ⟨x,p1,rfl,px,xlo,xla,xhi,xf,S,C,C1⟩;have pk:=zzQ.P.pk;have gw:N ki (dR+1)=some (.cells (Jo dR p'.pb pv) 35):=by rw[S.aW _ zzQ.wl.2.1 id (fc zzQ.w pk.a bS) (fc zzQ.w pk.g bS) (fc zzQ.w pk.f bS),zzQ.w,pe]
   obtain⟨v1,v2⟩:=zzQ.po.cells;have wn:=zzQ.wl.2.1;have d1:¬(dR+1=agc):=U;have d2:¬(agc=dR+1):=U;refine L6 yK gw @cL @cV ?_;have po1:Own Ej 78 1 (aI ki agc (.cells [.ptr x.xb 0] 78)) pv xs:=zzQ.po.aW λb D=>by have⟨hc,hA⟩:=zzQ.po.bT D;have yL:=zzQ.pin b D;rw[Xg,S.aW b yL.2 id (fc hA pk.a bS) (fc hA pk.g bS) (fc hA pk.f bS)]
   refine lN (c:=Ej) po1 (λ_=>rfl) (λ_=>rfl) (by have:=zzQ.len;omega) x ?_;rintro pv2 qK aj3 adD o2 apJ k2;obtain⟨v3,v4⟩:=o2.cells;have gw2:N qK (dR+1)=some (.cells (Jo dR p'.pb pv) 35):=by rw[k2 _ U (λe=>by obtain⟨hc,hA⟩:=po1.bT e;rw[aj,ak d1]at hA;exact fc hA gw bS rfl),aj,ak d1];exact gw
   refine asA yK gw2 v3 v4 s1 s8 s9 Ko w ?_;have M2:=zzQ.step px xf S C abi C1 xlo ⟨by rw[xla];symm;first|exact aN U|exact aU U,λq=>by first|exact xhi rfl|omega⟩
    (λb D e=>by rw[k2 b U e,Xg]) o2 (λb e=>(apJ b e).imp id λq=>⟨U,q.2⟩) U
   refine⟨O los-(i+1),U,i+1,xs++[x],pv2,p1,h3,?_⟩;rw[pe];exact⟨rfl,rfl,rfl,M2⟩
 .have Ci:¬(i:Int)<(los.length:Int):=U;have H:i=los.length:=U;have L:xs.length=los.length:=zzQ.len.trans H;have adC:0<xs.length:=by have:=hx.one;omega
  obtain⟨b,cap,hc,rfl,hA,g1,g2,g3⟩:=zzQ.po.sl adC;obtain⟨x0,xs',kU⟩:∃x0 xs',xs=x0::xs':=by
   cases xs with
   |nil=>simp at adC
   |cons x xs=>exact⟨x,xs,rfl⟩
  have g3':hc.take xs.length=xs.flatMap Ej:=by rw[<-g3,df]
  have n0:iS 0 hc=some (.ptr x0.xb 0):=by have:=CD g3' adC x0;rw[fJ]at this;rw[this,kU];rfl
  have Yx:∀x∈xs,x.xb<E:=λx L=>(zzQ.P.all x L).xl;have c45:=λ(h:aE) (Y:Nat) (hN:E<=Y)=>a45 (JP E x0.xb) (h:=h) hN;rw[Ha (Yx x0 (by rw[kU];simp))]at c45;have h2:Fit [[]] 0 1 los:=⟨an _,an _,hx.one,hx.fst,λk hk=>(by have:=iN.1 hx.up k (k+1) U hk U;rw[aB,aF U,aB,aF hk];exact this),λq=>absurd q bS,U⟩;have zs:(xs.map λx=>JP E x.xb).flatMap cq=xs.flatMap Ej:=by rw[List.flatMap_map];refine asN λx L=>?_;exact ag0 (Yx x L)
  have c46:=λ(h:aE) (Y:Nat) (hN:E<=Y) (hA:N h b=some (.cells hc 78)) (D:b<Y)=>a46 (aw:=E) (los:=[[]]) (nl:=los) (xs:=[JP E x0.xb]) (zs:=xs.map λx=>JP E x.xb) bS rfl (i:=0) (n:=1) h2 (by rw[bh,L]) (by show 1-1+los.length<=16;omega) (h:=h) (Y:=Y) (b:=b) (cap:=cap) (hc:=hc) hN hA (by rw[bh,zs];exact g3') (by rw[bh];omega) D;rw[bh]at c46;simp only[dJ,cz,fC,List.drop_one,List.tail_cons,cy]at c46;have bl:=(zzQ.pin b rfl).2;have ix0:qa (some (.slice 78)) (cZ prog) (.sl b 0 xs.length cap) (.g (.int .i64 0))=(cZ prog 78).map λsize=> .val (.ptr b (0+0*size)):=CB (k:=0) adC;refine asA T18.eq_1 s8 yK Ko Ci zzQ.w hA n0 ix0 ?_;refine bc (c45 _ _ (ew _ _)) ?_;simp+decide-dsimp only[go_sem,zzQ.w];refine bc (c46 _ _ (ew _ _) hA (aP bl (ew _ _))) ?_;simp+decide-dsimp only[go_sem,yK];generalize qf:E+Array.size _=nq;have lq:E<=nq:=U;clear qf;refine cm (a47 _ Q nq) ?_;rintro _ h5 UM l5 ⟨rb,rx,rfl,R5,r1,r2,S5⟩;simp+decide-dsimp only[go_sem];refine cm (a48 h5 UM) ?_;rintro _ h6 GF l6 ⟨ep,em,rfl,E6,⟨p1,p2,p3,p4⟩,S6⟩;have wl:=zzQ.wl;have gw6:N h6 (dR+1)=some (.cells (Jo dR p.pb (.sl b 0 xs.length cap)) 35):=by rw[S6 _ U,S5 _ U];exact zzQ.w
  have e1:¬(dR+1=GF):=U;have e2:¬(GF=dR+1):=U;simp+decide-dsimp only[go_sem,T18,yK,gw6,e1,e2];have hle:=zzQ.le;have Yd:∀k,k+1<O los->los.getD k []<los.getD (k+1) []:=h2.up;have pb:=zzQ.pe;generalize hHF:aI (aI h6 GF _) (dR+1) _=HF;generalize hnF:GF+1+Array.size _=nF;have lF:GF+1<=nF:=U;clear hnF;have gF:∀c,c≠dR+1->c≠GF->N HF c=N h6 c:=λc q1 q2=>by rw[<-hHF,aj,ak q1,aj,ak q2]
  have gW:N HF (dR+1)=some (.cells (Be GF dR p.pb b xs.length cap (.g (.slice none 0 0)) 0) 35):=by rw[<-hHF,aj,au rfl]
  have gE:N HF GF=some (.cells [.ptr rb 0,.ptr ep 0] 65):=by rw[<-hHF,aj,ak e2,aj,au rfl]
  clear hHF;have g6:∀c,c<nq->N h6 c=N Q c:=λc A=>by rw[S6 c U,S5 c A]
  have gO:∀c,c<E->c≠dR+1->N HF c=N Q c:=λc q1 q2=>by rw[gF c q2 U,g6 c U]
  have mne:dR≠dR+1:=U;have hPt:∀c,(∃x∈xs,x.pL c)\/c=p'.pb\/c=p'.gb\/c=p'.fb->c≠dR+1:=by
   rintro c (⟨x,L,q|q|q⟩|q|q|q);.rw[q];exact fc (zzQ.P.all x L).c zzQ.w bS
   .rw[q];exact fc (zzQ.P.all x L).i zzQ.w bS
   .exact(zzQ.wo x L c q).1
   .rw[q];exact fc zzQ.P.pk.a zzQ.w bS
   .rw[q];exact fc zzQ.P.pk.g zzQ.w bS
   .rw[q];exact fc zzQ.P.pk.f zzQ.w bS
  have PF:EY xs p' 0 HF nF:=zzQ.P.to (λc A=>gO c (zzQ.P.lt A) (hPt c A)) U (an _);have bne:b≠dR+1:=fc hA zzQ.w bS;have rl:=R5.OM;have xl:=R5.LA;have na:∀c,UM<=c->c<GF->¬(⟨dR+1,GF,dR,ep,rb,rx,b,cap,hc,.g (.slice none 0 0),[],0,p',xs,los,E,none⟩:Wd).all c:=by
   rintro c c1 c2 ((q|q|q|q|q|q|q)|⟨x,L,q⟩|q|q|q);.have q:c=dR+1:=q;omega
   .have q:c=GF:=q;omega
   .have q:c=dR:=q;omega
   .have q:c=rb:=q;omega
   .have q:c=rx:=q;omega
   .have q:c=b:=q;omega
   .cases q
   .have:=(zzQ.P.all x L).lt q;omega
   .have q:c=p'.pb:=q;have:=zzQ.P.pk.tD;omega
   .have q:c=p'.gb:=q;have:=zzQ.P.pk.tJ;omega
   .have q:c=p'.fb:=q;have:=zzQ.P.pk.tM;omega
  refine⟨⟨dR+1,GF,dR,ep,rb,rx,b,cap,hc,.g (.slice none 0 0),[],0,p',xs,los,E,none⟩,em,rfl,⟨?_,gE,?_,?_,?_,g3',.inl ⟨rfl,rfl⟩,λc A=>(by cases A),an _,PF,?_,?_,?_,⟨by show E<=nF;omega,Yx⟩⟩,?_,?_,⟨by show N HF ep=_;rw[gF _ U U];exact E6.e,by rw[gF _ U U];exact E6.m⟩,⟨by show ep<nF;omega,U⟩,na _ p1 p2,na _ p3 p4,Z⟩;.rw[pb];exact gW
  .rw[gO _ U mne];exact zzQ.m
  .exact R5.aW (by rw[gF _ U U,S6 _ rl]) (by rw[gF _ U U,S6 _ xl]) U
  .rw[gO _ bl bne];exact hA
  .rintro c (q|q|q|q|q|q|q);.have q:c=dR+1:=q;omega
   .have q:c=GF:=q;omega
   .have q:c=dR:=q;omega
   .have q:c=rb:=q;omega
   .have q:c=rx:=q;omega
   .have q:c=b:=q;omega
   .cases q
  .intro x L c A hq;have hq:x.T.own c:=hq;have zk:=(zzQ.P.all x L).w.lt hq;have⟨w1,w2,w3⟩:=zzQ.wo x L c hq;obtain q|q|q|q|q|q|q:=A
   .exact w1 q
   .have q:c=GF:=q;omega
   .exact w2 q
   .have q:c=rb:=q;omega
   .have q:c=rx:=q;omega
   .have q:c=b:=q;exact w3 (by rw[q];rfl)
   .cases q
  .refine⟨L,DV,hx.one,hx.fst,Yd,λi=>?_,zzQ.lo,λi h=>?_⟩
   .obtain q|q:=bB i los.length;.exact hx.sm _ (jY q)
    .rw[aB,ed q];exact aQ _
   .rw[L];exact zzQ.H i h
  .rintro c ((q|q|q|q|q|q|q)|⟨x,L,q⟩|q|q|q);.have q:c=dR+1:=q;omega
   .have q:c=GF:=q;omega
   .have q:c=dR:=q;omega
   .have q:c=rb:=q;omega
   .have q:c=rx:=q;omega
   .have q:c=b:=q;have:=(zzQ.pin b Z).1;omega
   .cases q
   .exact zzQ.ft x L c q
   .rw[q];exact zzQ.pl.1
   .rw[q];exact zzQ.pl.2.1
   .rw[q];exact zzQ.pl.2.2
  .intro c A;rw[gO c U U];exact zzQ.same c A
def Wd.ok.load{d:Wd}(o:d.ok k h Y){x'}{fi':Option (Nat×Nat)}(zxQ:pN Q E d.rb x' (Tk fi' d.dir))(L:x'=d.rx\/Y<=x')(G:∀b,b<Y->b≠d.rb->b≠d.rx->N Q b=N h b)(hn:Y<=E):
 ({d with rx:=x',fi:=fi'}:Wd).ok k Q E/\∀b,({d with rx:=x',fi:=fi'}:Wd).all b->d.all b\/Y<=b:=by
 have⟨⟨c1,t1⟩,c2,t2⟩:=o.r.ty;have g:∀b t cs,N h b=J (.cells cs t)->(t≠201/\t≠70/\t≠141)->b<Y->N Q b=N h b:=λb t cs D W dc=>G b dc (fc D t1 W.1) (by obtain t2|t2:=t2;exact fc D t2 W.2.1;exact fc D t2 W.2.2);have nb:∀b,({d with rx:=x',fi:=fi'}:Wd).bT b->d.bT b\/(Y<=b/\b<E):=by
  rintro b (q|q|q|q|q|q|q);.exact .inl (.inl q)
  .exact .inl (.inr (.inl q))
  .exact .inl (FF (.inl q))
  .exact .inl (Fe (.inl q))
  .have q:b=x':=q;obtain e|e:=L
   .exact .inl (Fg (.inl (q.trans e)))
   .exact .inr ⟨U,by rw[q];exact zxQ.LA⟩
  .exact .inl (Fk (.inl q))
  .exact .inl (Fl q)
 have pk:EY d.xs d.p k Q E:=o.P.to (λb D=>by
  have nb:¬d.bT b:=λq=>by
   exact auP
  exact G b (o.P.lt D) (λe=>nb (Fe (.inl e))) (λe=>nb (Fg (.inl e)))) hn (an _)
 refine⟨⟨?_,?_,?_,zxQ,?_,o.sA,o.hv.aW λb D=>?_,λb D=>⟨aQ _,aP (o.mO b D).2 hn⟩,o.yG,pk,λb D=>?_,λx L b D q=>?_,o.bn,fB o.aw.1 hn,o.aw.2⟩,λb D=>?_⟩;.rw[g _ _ _ o.w bS (o.lt _ (.inl Z))];exact o.w
 .rw[g _ _ _ o.e bS (o.lt _ (.inr (.inl Z)))];exact o.e
 .rw[g _ _ _ o.m bS (o.lt _ (FF (.inl Z)))];exact o.m
 .rw[g _ _ _ o.s bS (o.lt _ (Fk (.inl Z)))];exact o.s
 .have⟨hc,hA⟩:=o.hv.bT D;exact g _ _ _ hA bS (o.mO b D).2
 .obtain q|q:=nb b D;.exact aP (o.lt b q) hn
  .exact q.2
 .obtain q2|q2:=nb b D;.exact o.wo x L b q2 q
  .have:=(o.P.all x L).w.lt q;omega
 .exact avm
def Wd.ok.alt{d:Wd}(o:d.ok k h Y)(D:d.all b):b<Y:=by
 obtain q|q:=D;.exact o.lt b q
 .exact o.P.lt q
def a57{d:Wd}(o:d.ok k h Y):
 UP 57 [.ptr d.wb 0] h Y λw Q E=>∃d':Wd,(∃x',d'={d with rx:=x'})/\d'.ok k Q E/\(∀b,d'.all b->d.all b\/Y<=b)/\(∀b,b<Y->b≠d.rb->N Q b=N h b)/\LU Q d'.rb d'.rx d'.dv/\Own Ej 78 1 Q w d'.xs/\(∀b,cu w=J b->Y<=b/\b<E/\¬d'.all b):=by
 refine az.ac 1 T0 func57 ?_;have K:=o.bn.len;have DV:=o.bn.yG;have h0:=o.bn.one;refine J7 f57.eq_1 o.w o.e ?_;refine cm (arw o.r) ?_;rintro _ W cC l1 ⟨-,rfl,x',zxQ,G,L,hk⟩;have⟨o1,aj8⟩:=o.load zxQ L (λb a c _=>hk b a c) l1;have W1:=zxQ.aq0 G;have Yx:O (d.xs.map λx=>JP d.aw x.xb)=O d.los:=by rw[bh,K]
 refine QZ ?_;generalize SN:({d with rx:=x'}:Wd)=d1 at o1 aj8;have xs1:d1.xs=d.xs:=by rw[<-SN]
 have rb1:d1.rb=d.rb:=by rw[<-SN]
 have rx1:d1.rx=x':=by rw[<-SN]
 have dv1:d1.dv=d.dv:=by rw[<-SN]
 refine cI _ _ (λmm s Q E=>∃i v,i<=O d.xs/\mm=O d.xs-i/\X s 3= .fp d.dir/\X s 5=v/\X s 6=int i/\Own Ej 78 1 Q v (d.xs.take i)/\(∀b,cu v=J b->cC<=b/\b<E)/\aG cC W Q/\cC<=E) (n:=O d.xs) ?_ ?_;.refine QZ ?_;exact⟨0,_,aQ _,Z,Z,Z,.inl ⟨Z,Z⟩,λb D=>(by cases D),.refl⟩
 rintro mm s Q E ⟨i,v,q1,rfl,s3,s5,s6,ho,mO,S2,l2⟩;have hN:d.aw<=E:=fB o.aw.1 (fB l1 l2);refine Y8 s3 s6 ?_;refine ba (a70 h0) ?_;by_cases h3:i<d.xs.length
 .have Ci:(i:Int)<(d.los.length:Int):=U;have w:i+1<9223372036854775808:=U;refine J7 s3 s6 Ci ?_;refine bc (a69 h0 U Yx i U hN) ?_;have ce:cqv ((d.xs.map λx=>JP d.aw x.xb).getD i B)= .ptr (d.xs[i]).xb 0:=by rw[aB,gY,aF h3];exact Ha (o.aw.2 _ (bO h3))
  have⟨v1,v2⟩:=ho.cells;refine L6 s5 ce @cL @cV ?_;refine lN (c:=Ej) (ho.aW λb e=>?_) (λ_=>rfl) (λ_=>rfl) (Es @ax) (d.xs[i]) ?_;.rw[aj,ak (EB ((mO b e).2))]
  rintro v' F dR l3 o2 in2 k2;refine L6 s3 s5 s6 (U:i+1<9223372036854775808) ?_;refine⟨O d.xs-(i+1),U,i+1,v',h3,Z,Z,Z,?_,λb e=>?_,λb D=>?_,U⟩;.rw[bj h3];exact o2
  .obtain q|q:=in2 b e;.have:=mO b q;exact⟨this.1,U⟩
   .exact⟨U,q.2⟩
  .rw[k2 b U (λe=>by have:=(mO b e).1;omega),Xg];exact S2 b D
 .have Ci:¬(i:Int)<(d.los.length:Int):=U;have H:i=d.xs.length:=U;subst H;rw[fF]at ho;refine Y8 s5 Ci ?_;have o3:=o1.to (Q:=Q) (E:=E) (k':=k) S2 l2 (an _);refine⟨d1,⟨x',SN.symm⟩,o3,aj8,λb D e=>by rw[S2 b U];exact hk b D e,?_,by rw[xs1];exact ho,λb D=>?_⟩;.rw[rb1,rx1,dv1];have⟨⟨q,bq,g1⟩,g2⟩:=W1;exact⟨⟨q,bq,by rw[S2 _ zxQ.OM];exact g1⟩,by rw[S2 _ zxQ.LA];exact g2⟩
  .have:=mO b D;exact⟨U,this.2,λq=>by have:=o1.alt q;omega⟩
variable{s:Nat}
structure BF(σ:AA)(ly lo:Nat->aY)(lv:Nat->Nat):Prop where
 ay:∀{s g n},σ s=J (g,n)->(n.ay=M↔lv s=0)
 nd:∀{s g n},σ s=J (g,n)->n.ay=R->O n.bu=O n.aJ+1
 oP:∀{s g n},σ s=J (g,n)->n.bd=M->lo s<n.cQ
 kD:∀{s g n},σ s=J (g,n)->n.ay=R->∀i,i<O n.bu->∃m,σ (n.bu.getD i default).X=J ((n.bu.getD i default).bo,m)/\lv (n.bu.getD i default).X+1=lv s/\ly (n.bu.getD i default).X=ly s/\
  lo (n.bu.getD i default).X=jE lo s n i/\m.bd=kJ n i/\(m.bd=M->m.cQ=lG n i)
 next:∀{s g n},σ s=J (g,n)->n.bd=M->∃m,σ n.next.X=J (n.next.bo,m)/\lv n.next.X=lv s/\ly n.next.X=ly s/\lo n.next.X=n.cQ
 zero:∀{s g n},σ s=J (g,n)->n.bd=R->n.next=⟨0,0⟩
 uniq:∀{s g n s' g' n'},σ s=J (g,n)->σ s'=J (g',n')->lv s=lv s'->ly s=ly s'->s≠s'->(n.bd=M/\¬lo s'<n.cQ)\/(n'.bd=M/\¬lo s<n'.cQ)
inductive Row(σ:AA):Hd->List Hd->Prop
 |last {h:Hd} {n:Nd} (G:σ h.X=J (h.bo,n)) (D:n.bd=R):Row σ h [h]
 |cons {h:Hd} {n:Nd} {l:List Hd} (G:σ h.X=J (h.bo,n)) (D:n.bd=M) (r:Row σ n.next l):Row σ h (h::l)
theorem Row.ne{σ h l}(r:Row σ h l):∃l',l=h::l':=by cases r<;>exact⟨_,Z⟩
section
variable{σ:AA}{ly lo:Nat->aY}{lv:Nat->Nat}(h2:BF σ ly lo lv)
include h2
theorem BF.same{a b:Hd}{n m}(ha:σ a.X=J (a.bo,n))(D:σ b.X=J (b.bo,m))(W:lv a.X=lv b.X)(F:ly a.X=ly b.X)(h3:lo a.X=lo b.X):a=b:=by
 by_cases e:a.X=b.X
 .rw[e,D]at ha;injection ha with ha;injection ha with ha _
  cases a;cases b;cases e;cases ha;rfl
 .obtain⟨q,w⟩|⟨q,w⟩:=h2.uniq ha D W F e;.exact absurd (h2.oP ha q) (h3▸w)
  .exact absurd (h2.oP D q) (h3▸w)
theorem BF.bu{s g n}(G:σ s=J (g,n))(K:n.ay=R){rest}
 (hr:(n.bd=R/\rest=[])\/(n.bd=M/\∃Q m,σ Q.X=J (Q.bo,m)/\lv Q.X+1=lv s/\ly Q.X=ly s/\lo Q.X=n.cQ/\Row σ Q rest)):∀j i,i+j+1=O n.bu->Row σ (n.bu.getD i default) (n.bu.drop i++rest):=by
 have hk:=h2.nd G K;intro j
 induction j with
 |zero=>
  intro i H;have⟨m,a1,a2,a3,a4,a5,a6⟩:=h2.kD G K i U;have e:n.bu.drop i=[n.bu.getD i default]:=by rw[cM (show i<O n.bu from U),List.drop_eq_nil_of_le U];simp[List.getD,show i<O n.bu from U]
  have eb:m.bd=n.bd:=by rw[a5];unfold kJ;rw[ak U]
  rw[e];obtain⟨b,rfl⟩|⟨b,Q,m',c1,c2,c3,c4,c5⟩:=hr
  .exact .last a1 (eb▸b)
  .have D:m.bd=M:=eb▸b
   have⟨q,d1,d2,d3,d4⟩:=h2.next a1 D;refine .cons a1 D ?_;rw[h2.same d1 c1 U (by rw[d3,a3,c3]) (by rw[d4,a6 D,c4];unfold lG;rw[ak U])];exact c5
 |succ j ih=>
  intro i H;have⟨m,a1,a2,a3,a4,a5,a6⟩:=h2.kD G K i U;have⟨m',b1,b2,b3,b4,_⟩:=h2.kD G K (i+1) U;have e:n.bu.drop i=n.bu.getD i default::n.bu.drop (i+1):=by rw[cM (show i<O n.bu from U)];simp[List.getD,show i<O n.bu from U]
  have D:m.bd=M:=by rw[a5];unfold kJ;rw[au U]
  have⟨q,d1,d2,d3,d4⟩:=h2.next a1 D;rw[e];refine .cons a1 D ?_;rw[h2.same d1 b1 U (by rw[d3,a3,b3]) (by rw[d4,a6 D,b4];unfold lG jE;rw[au U,ak U];rfl)];exact ih (i+1) U
theorem BF.mem{h l}(r:Row σ h l):∀x∈l,∃n,σ x.X=J (x.bo,n)/\lv x.X=lv h.X/\ly x.X=ly h.X/\¬lo x.X<lo h.X:=by
 induction r with
 |last G D=>intro x L;rw[aV]at L;subst L;exact⟨_,G,Z,Z,bU⟩
 |cons G D _ ih=>
  intro x L;obtain rfl|L:=bJ.1 L
  .exact⟨_,G,Z,Z,bU⟩
  .have⟨m,a1,a2,a3,a4⟩:=h2.next G D;have⟨n,b1,b2,b3,b4⟩:=ih x L;exact⟨n,b1,b2.trans a2,b3.trans a3,λq=>b4 (a4▸(dT q (h2.oP G D)))⟩
theorem BF.nodup{h l}(r:Row σ h l):(l.map Hd.X).Nodup:=by
 induction r with
 |last G D=>simp
 |cons G D r ih=>rw[cB,iG];refine⟨λq=>?_,ih⟩;have⟨x,L,e⟩:=bg.1 q;have⟨_,_,_,_,b4⟩:=h2.mem r x L;have⟨_,_,_,_,a4⟩:=h2.next G D;rw[e,a4]at b4;exact b4 (h2.oP G D)
theorem BF.cover{h l}(r:Row σ h l){k}(hk:¬k<lo h.X):∃x∈l,∃n,σ x.X=J (x.bo,n)/\¬k<lo x.X/\(n.bd=M->k<n.cQ):=by
 induction r with
 |last G D=>exact⟨_,.head _,_,G,hk,λq=>by rw[D]at q;cases q⟩
 |cons G D r ih=>
  rename_i n l;by_cases q:k<n.cQ;.exact⟨_,.head _,_,G,hk,λ_=>q⟩
  .have⟨_,_,_,_,a4⟩:=h2.next G D;have⟨x,L,w⟩:=ih (a4▸q);exact⟨x,.tail _ L,w⟩
theorem BF.all{h l}(r:Row σ h l)(h0:lo h.X=[]){g n}(G:σ s=J (g,n))(W:lv s=lv h.X)(F:ly s=ly h.X):s∈l.map Hd.X:=by
 have⟨x,L,m,a1,a2,a3⟩:=h2.cover r (k:=lo s) (h0▸kF);have⟨_,_,b2,b3,_⟩:=h2.mem r x L;by_cases e:s=x.X;.exact bg.2 ⟨x,L,e.symm⟩
 obtain⟨q,w⟩|⟨q,w⟩:=h2.uniq G a1 (W.trans b2.symm) (F.trans b3.symm) e;.exact absurd (jV a2 (h2.oP G q)) w
 .exact absurd (a3 q) w
theorem BF.down{h l}(r:Row σ h l){aw:Hd->Nd}(hN:∀x∈l,σ x.X=J (x.bo,aw x))(K:lv h.X≠0):∃Q,Row σ Q (l.flatMap λx=>(aw x).bu)/\lv Q.X+1=lv h.X/\ly Q.X=ly h.X/\lo Q.X=lo h.X:=by
 induction r with
 |last G D=>
  rename_i h n;have e:=hN h (.head _);rw[G]at e;injection e with e;injection e with _ e;subst e
  have lf:(aw h).ay=R:=by
   exact atN
  have hk:=h2.nd G lf;have⟨m,a1,a2,a3,a4,_⟩:=h2.kD G lf 0 U;refine⟨_,?_,a2,a3,a4⟩;have:=h2.bu G lf (rest:=[]) (.inl ⟨D,Z⟩) (O (aw h).aJ) 0 U;simpa using this
 |cons G D r ih=>
  rename_i h n l;have e:=hN h (.head _);rw[G]at e;injection e with e;injection e with _ e;subst e
  have lf:(aw h).ay=R:=by
   exact atN
  have hk:=h2.nd G lf;have⟨m,a1,a2,a3,a4,_⟩:=h2.kD G lf 0 U;have⟨_,c1,c2,c3,c4⟩:=h2.next G D;have⟨Q,d1,d2,d3,d4⟩:=ih (λx L=>hN x (.tail _ L)) (c2▸K);refine⟨_,?_,a2,a3,a4⟩;have⟨l',e'⟩:=d1.ne;have⟨m',b1,_⟩:=h2.mem d1 Q (by rw[e'];exact .head _);have:=h2.bu G lf (.inr ⟨D,Q,m',b1,by rw[d2,c2],by rw[d3,c3],by rw[d4,c4],d1⟩) (O (aw h).aJ) 0 U;simpa using this
def fj(n:Nd):List aY:=n.aJ++if n.bd then[n.cQ]else[]
theorem BF.ends{h l}(r:Row σ h l){aw:Hd->Nd}(hN:∀x∈l,σ x.X=J (x.bo,aw x))(K:lv h.X≠0):
 O (l.flatMap λx=>(aw x).bu)=O (l.flatMap λx=>fj (aw x))+1/\∀i,i<O (l.flatMap λx=>(aw x).bu)->∃m,σ ((l.flatMap λx=>(aw x).bu).getD i default).X=J (((l.flatMap λx=>(aw x).bu).getD i default).bo,m)/\
  m.bd=decide (i<O (l.flatMap λx=>fj (aw x)))/\(m.bd=M->m.cQ=(l.flatMap λx=>fj (aw x)).getD i []):=by
 induction r with
 |last G D=>
  rename_i h n;have e:=hN h (.head _);rw[G]at e;injection e with e;injection e with _ e;subst e
  have lf:(aw h).ay=R:=by
   exact atN
  have hk:=h2.nd G lf;have e1:([h].flatMap λx=>(aw x).bu)=(aw h).bu:=bR;have e2:([h].flatMap λx=>fj (aw x))=(aw h).aJ:=by simp[fj,D]
  rw[e1,e2];refine⟨hk,λi H=>?_⟩;have⟨m,a1,a2,a3,a4,a5,a6⟩:=h2.kD G lf i H;refine⟨m,a1,?_,λq=>?_⟩
  .rw[a5];unfold kJ;by_cases w:i<O (aw h).aJ;.rw[au w,aN w]
   .rw[ak w,aU w,D]
  .rw[a6 q];unfold lG;rw[a5]at q;unfold kJ at q;by_cases w:i<O (aw h).aJ;.rw[au w]
   .rw[ak w,D]at q;cases q
 |cons G D r ih=>
  rename_i h n l;have e:=hN h (.head _);rw[G]at e;injection e with e;injection e with _ e;subst e
  have lf:(aw h).ay=R:=by
   exact atN
  have hk:=h2.nd G lf;have⟨_,c1,c2,c3,c4⟩:=h2.next G D;have⟨d1,d2⟩:=ih (λx L=>hN x (.tail _ L)) (c2▸K);have ee:fj (aw h)=(aw h).aJ++[(aw h).cQ]:=by unfold fj;rw[D];rfl
  have el:O (fj (aw h))=O (aw h).bu:=by rw[ee,hk];simp
  rw[bE,bE];refine⟨by rw[aq,aq,d1,el];omega,λi H=>?_⟩;by_cases w:i<O (aw h).bu
  .have⟨m,a1,a2,a3,a4,a5,a6⟩:=h2.kD G lf i w;have g1:((aw h).bu++l.flatMap λx=>(aw x).bu).getD i default=(aw h).bu.getD i default:=by simp[List.getD,bX w]
   have g2:(fj (aw h)++l.flatMap λx=>fj (aw x)).getD i []=(fj (aw h)).getD i []:=by simp[List.getD,bX (show i<O (fj (aw h)) from U)]
   have hm:m.bd=M:=by
    rw[a5];unfold kJ;split;.rfl
    .exact D
   rw[g1,g2];refine⟨m,a1,by rw[hm,aq,aN U],λq=>?_⟩;rw[a6 q,ee];unfold lG;by_cases hd:i<O (aw h).aJ;.rw[au hd];simp[List.getD,bX hd]
   .rw[ak hd,show i=O (aw h).aJ from U];simp[List.getD]
  .have⟨m,a1,a2,a3⟩:=d2 (i-(O (aw h).bu)) (by rw[aq]at H;omega);have g1:((aw h).bu++l.flatMap λx=>(aw x).bu).getD i default=(l.flatMap λx=>(aw x).bu).getD (i-(aw h).bu.length) default:=by simp only[List.getD,cE (show(aw h).bu.length<=i from U)]
   have g2:(fj (aw h)++l.flatMap λx=>fj (aw x)).getD i []=(l.flatMap λx=>fj (aw x)).getD (i-(aw h).bu.length) []:=by simp only[List.getD,cE (show(fj (aw h)).length<=i from U),el]
   rw[g1,g2];refine⟨m,a1,?_,a3⟩;rw[a2,aq,el];by_cases hd:i-(O (aw h).bu)<O (l.flatMap λx=>fj (aw x));.rw[aN hd,aN U]
   .rw[aU hd,aU U]
end
variable{Pk:aY->Prop}{aO:Hd}{iL:Nat->Prop}
theorem Row.at{σ h l}(r:Row σ h l):∀i,i<O l->Row σ (l.getD i default) (l.drop i):=by
 induction r with
 |last G D=>
  intro i H;have:i=0:=by simp at H;omega
  subst this;exact .last G D
 |cons G D r ih=>
  intro i H;cases i with
  |zero=>exact .cons G D r
  |succ i=>simpa[List.getD]using ih i (Mf H)
section
variable{σ:AA}{ly lo:Nat->aY}{lv:Nat->Nat}(h2:BF σ ly lo lv)
include h2
theorem BF.here{h l}(r:Row σ h l){aw:Hd->Nd}(hN:∀x∈l,σ x.X=J (x.bo,aw x))(H:i<O l):
 σ (l.getD i default).X=J ((l.getD i default).bo,aw (l.getD i default))/\lv (l.getD i default).X=lv h.X/\ly (l.getD i default).X=ly h.X/\(aw (l.getD i default)).bd=decide (i+1<O l)/\
  (aw (l.getD i default)).next=(if i+1<O l then l.getD (i+1) default else⟨0,0⟩)/\(i+1<O l->lo (l.getD (i+1) default).X=(aw (l.getD i default)).cQ):=by
 have hm:l.getD i default∈l:=by rw[aB,aF H];exact bO H
 have⟨n,a1,a2,a3,_⟩:=h2.mem r _ hm;have G:=hN _ hm;refine⟨G,a2,a3,?_⟩;have ra:=r.at i H;have dl:O (l.drop i)=O l-i:=aC;generalize L:l.getD i default=x at ra G hm;cases W:l.drop i with
 |nil=>rw[W]at dl;simp at dl;omega
 |cons y l1=>
  rw[W]at ra dl;cases ra with
  |last lS D=>
   rw[G]at lS;injection lS with e;injection e with _ e;rw[<-e]at D
   have:¬i+1<O l:=by simp at dl;omega
   rw[D,ak this,aU this];exact⟨Z,h2.zero G D,λh=>absurd h this⟩
  |cons lS D r'=>
   rw[G]at lS;injection lS with e;injection e with _ e;rw[<-e]at D r'
   have⟨l2,e2⟩:=r'.ne;have F:i+1<O l:=by rw[e2]at dl;simp at dl;omega
   have e3:l.getD (i+1) default=(aw x).next:=by
    have:(l.drop i).getD 1 default=(aw x).next:=by rw[W,e2];rfl
    rwa[ou]at this
   have⟨_,_,_,_,b4⟩:=h2.next G D;rw[D,au F,aN F,e3];exact⟨Z,Z,λ_=>b4⟩
end
theorem BI.bf{σ lo lv}(I:BI Pk σ aO lo lv iL):BF σ (λ_=>[]) lo lv:=by
 refine⟨λh=>I.ay _ _ _ h,λh K=>((I.r _ _ _ h).nd K).2,λh D=>I.oP _ _ _ h D,λh K i H=>?_,λh D=>?_,λh D=>(I.next _ _ _ h).1 D,λh Q e _ cD=>I.uniq _ _ _ _ _ _ h Q e cD⟩;.have⟨m,a1,a2,a3,a4,a5⟩:=I.kD _ _ _ h K i H;exact⟨m,a1,a2,Z,a3,a4,λ_=>a5⟩
 .have⟨m,a1,a2,a3⟩:=(I.next _ _ _ h).2 D;exact⟨m,a1,a2,Z,a3⟩
def qT{α:Type}[Inhabited α](σ:Nat->Option (Nat×α))(x:Hd):α:=((σ x.X).map Prod.snd).getD default
theorem OA[Inhabited α]{σ:Nat->Option (Nat×α)}{x:Hd}{g}{n:α}(h:σ x.X=J (g,n)):qT σ x=n:=by unfold qT;rw[h];rfl
structure Sx(h:aE)(Y:Nat)(v:u)(l:List Hd):Prop where
 len:∀Q,Fo (J (.slice 245)) Q v=J (int (O l))
 ix:∀i,i<O l->∃w,qa (J (.slice 245)) (cZ prog) v (int i)=J (.val w)/\∀Q,aG Y h Q->wu prog Q 245 w=J (.agg [int (l.getD i default).X,u64 (l.getD i default).bo])
def Sx.qF{h Y}(l):Sx h Y (qF l) l:=by refine⟨λ_=>O9,λi H=>⟨_,by rw[K0 H,oE,aT,J8 H];rfl,λQ _=>?_⟩⟩;rw[OH,TU,oE,FU,jX H];rfl
def Sx.own{v l}(o:Own Hd.cells 245 2 h v l)(mO:∀b,cu v=J b->b<Y):Sx h Y v l:=by refine⟨λ_=>o.len,λi H=>?_⟩;have⟨b,hc,e1,e2,e3,e4⟩:=o.idx iE oE H;refine⟨_,e3,λQ G=>?_⟩;rw[O5,TU,oE,G b (mO b e1),e2,GG,e4];rfl
variable{z:Hd}{lo ly:Nat->aY}{lv:Nat->Nat}{vv:u}
structure aeA(σ:AA)(lo:Nat->aY):Prop where
 zxQ:∀{s g n},σ s=J (g,n)->n.zxQ/\O n.aJ<=4
 cw:∀{s g n},σ s=J (g,n)->∀i,i<O n.aJ->¬n.aJ.getD i []<lo s
 oP:∀{s g n},σ s=J (g,n)->n.bd=M->lo s<n.cQ
def CX(a:Hd):dE prog h .neq 245 x y (.agg [int a.X,u64 a.bo]) (.agg [int a.X,u64 a.bo])=J (bW R):=by rw[Tt];simp
def akj:(!(((0:Nat):Int)==0&&((0:Nat):Int)==0))=R:=rfl
def Hn:=RB [(5,[MO z4 5,MO [6,7,8] 9,MO [] 10,RX]),(10,[(z32,[],B)])]
set_option maxHeartbeats 4000000 in
def anV(t:Bl)(h Y)(ok:t.ok h Y)(h2:BF (ct t.a.es) ly lo lv)(v8:aeA (ct t.a.es) lo){l}(r:Row (ct t.a.es) z l)(h0:lo z.X=[])(rv:Sx h Y vv l)(K:O l<=4096){aw:Hd->Nd}(hN:∀x∈l,ct t.a.es x.X=J (x.bo,aw x)):
 UP 233 [.ptr t.tb 0,vv] h Y (dG (.dY [qF (l.flatMap λx=>(aw x).bu),bW (decide (lv z.X=0)),bW M]) h Y):=by
 refine az.pc 2 Hn func233 ?_;have Aa:0<O l:=by have⟨l',e⟩:=r.ne;rw[e];exact PE _
 have kl:∀i,i<=O l->O ((l.take i).flatMap λx=>(aw x).bu)<=5*i:=by
  intro i
  induction i with
  |zero=>simp
  |succ i ih=>
   intro H;have oM:i<O l:=H;have hm:l.getD i default∈l:=by rw[aB,aF oM];exact bO oM
   have⟨zxQ,k4⟩:=v8.zxQ (hN _ hm);have:O (aw (l.getD i default)).bu<=5:=by
    cases q:(aw (l.getD i default)).ay with
    |true=>rw[(zxQ.lf q).2];exact aQ _
    |false=>rw[(zxQ.nd q).2];omega
   rw[bj oM,bL,aq];have e2:O ([l[i]].flatMap λx=>(aw x).bu)=O (aw (l.getD i default)).bu:=by simp[List.getD,oM]
   have:=ih U;omega
 refine Y8 f233.eq_1 rv.len ?_;refine cI _ _ (λm s Q E=>∃i v w,i<=O l/\m=O l-i/\X s 0= .ptr t.tb 0/\X s 1=vv/\X s 4=v/\(∃b,X s 5=bW b/\(0<i->b=decide (lv z.X=0)))/\X s 7=cg w/\(i<O l->w=lo (l.getD i default).X)/\X s 13=vv/\X s 14=int (O l)/\X s 15=int i/\Own Hd.cells 245 2 Q v ((l.take i).flatMap λx=>(aw x).bu)/\In Y E v/\aG Y h Q/\Y<=E) (n:=O l) ?_ ?_;.refine QZ ?_;refine⟨0,_,[],aQ _,Z,Z,⟨_,Z,λh=>absurd h (dz 0)⟩,Z,λ_=>?_,Z,.inl ⟨Z,Z⟩,λb D=>(by cases D),.refl⟩;have⟨l',e⟩:=r.ne;rw[e];exact h0.symm
 rintro m s Q E ⟨i,v,w,H,rfl,s0,s1,s4,s5,s7,hw,D9,Fc,SJ,oV,iV,mA,tn⟩;by_cases dc:i<O l
 .have⟨G,rU,_,mB,qB,jL⟩:=h2.here r hN dc;generalize L:l.getD i default=x at G rU mB qB jL;generalize hn:aw x=n at G mB qB jL;have⟨e,V,W,F,h3,h4,h7,h6⟩:=nL ok.ok G;have L7:=(mA _ h7).trans h4;have d0:¬(E=t.tb):=EB ok.lt
  have ht:=(mA _ ok.lt).trans ok.tr;have d1:¬(t.tb=E):=λe=>d0 e.symm;have⟨w0,x0,y0⟩:=rv.ix i dc;rw[L]at y0;refine asC Hn.eq_1 s0 D9 Fc SJ dc (U:(i:Int)<(O l:Int)) ht d1 x0 (y0 Q mA) ?_;generalize hq:E+1+Array.size _=nq;have qf:E+1<=nq:=U;have Gz:∀hc zyQ,aG E Q (aI (aI Q E hc) E zyQ):=λhc zyQ=>(aG.refl.set (an _)).set (an _);refine bc (h6 _ nq (mA.trans (Gz _ _) tn) U) ?_;generalize hG:aI (aI Q E _) E _=hs;have vC:aG E Q hs:=hG▸(Gz _ _)
  have yH:=(vC _ (U:e.bT<E)).trans L7;have tk:dC 8 n.cells=J n.cells:=rfl;have⟨zxQ,k4⟩:=v8.zxQ G;refine J7 Hn.eq_1 yH tk ?_;refine ba (LZ n zxQ) ?_;refine Y8 yH tk ?_;refine ba (aax n) ?_;have n5:O n.bu<=5:=by
   cases q:n.ay with
   |true=>rw[(zxQ.lf q).2];exact aQ _
   |false=>rw[(zxQ.nd q).2];omega
  have J6:¬4<O n.aJ:=U;have f5:(n.ay==decide (lv z.X=0))=M:=by
   have:=h2.ay G;rw[rU]at this;cases hf:n.ay with
   |true=>rw[aN (this.1 hf)];rfl
   |false=>rw[aU (λq=>by rw[this.2 q]at hf;cases hf)];rfl
  have e5:n.ay=decide (lv z.X=0):=Mf f5
  have wi:i+1<9223372036854775808:=U;have Q3:w=lo x.X:=by rw[hw dc,L]
  subst Q3;have lW:=v8.cw G 0;have e7:n.bd=M->lo x.X<n.cQ:=v8.oP G;obtain⟨b5,s5,hb5⟩:∃b,X s 5=bW b/\(¬((0:Int)<(i:Int))\/((0:Int)<(i:Int)/\b=decide (lv z.X=0))):=by have⟨b,q⟩:=s5;exact⟨b,q.1,(nW i).elim (λw=> .inl U) (λw=> .inr ⟨U,q.2 w⟩)⟩
  have hqq:(¬(((i+1:Nat):Int)=(O l:Int))/\i+1<O l/\n.bd=M/\n.next=l.getD (i+1) default)\/(((i+1:Nat):Int)=(O l:Int)/\¬i+1<O l/\n.bd=R/\n.next=⟨0,0⟩):=by
   exact auE
  have q3:i+1<O l->((i+1:Nat):Int)<(O l:Int):=λh=>U;have ym:O n.bu<65536:=U;have xC:O ((l.take i).flatMap λx=>(aw x).bu)+O n.bu<65536:=EB (kl i U)
  have oVG:Own Hd.cells 245 2 hs v ((l.take i).flatMap λx=>(aw x).bu):=oV.aW (λb D=>vC b (iV b D).2);have vz:((l.take (i+1)).flatMap λx=>(aw x).bu)=((l.take i).flatMap λx=>(aw x).bu)++n.bu:=by
   have e1:l[i]=x:=by rw[<-L];simp[List.getD,dc]
   rw[bj dc,bL,e1];simp[hn]
  have bt1:(M==R)=R:=rfl;have bt2:(R==M)=R:=rfl;have sG:=mA.trans vC tn;rcases hb5 with i0|⟨i0,rfl⟩<;>obtain⟨q1,q2,mB,qB⟩|⟨q1,q2,mB,qB⟩:=hqq
  all_goals first
   |have q2':i+1<O l:=by assumption
    have⟨w1,x1,y1⟩:=rv.ix (i+1) q2';simp+decide-dsimp only[go_sem,Hn,s1,s5,yH,tk,J6,i0,f5,wi,q1,mB,qB,bt1,bt2,rv.len,x1,y1 hs sG,CX,Nd.cells]
   |simp+decide-dsimp only[go_sem,Hn,s1,s5,yH,tk,J6,i0,f5,wi,q1,mB,qB,bt1,bt2,rv.len,akj,Nd.cells]
  all_goals by_cases k0:(0:Int)<(O n.aJ:Int)
  all_goals first
   |have k2:0<O n.aJ:=U
    have l0:=lW k2;have ix0:qa (J (.slice 9)) (cZ prog) (strs n.aJ) (.g (.int .i64 0))=(cZ prog 9).bind λsize=>(dV (0*size) (n.aJ.flatMap gv)).map λl=> .val (.fp l):=xg (k:=0) k2;have nt0:iS 0 (n.aJ.flatMap gv)=J (cg (n.aJ.getD 0 [])):=yY (k:=0) k2;refine asA Hn.eq_1 k0 s4 mB yH s7 @Nd.cells.eq_1 ix0 nt0 ?_;refine ba (XV _ _) ?_;simp+decide-dsimp only[go_sem,Hn,l0,k0,s4,mB,yH,s7,Nd.cells]
   |simp+decide-dsimp only[go_sem,Hn,k0,s4,mB,yH,s7,Nd.cells]
  all_goals first
   |refine ba (XV _ _) ?_
    simp+decide-dsimp only[go_sem,Hn,e7 mB,k0,yH,s4,Nd.cells]
   |skip
  all_goals simp+decide-dsimp only[ze ym]
  all_goals refine kB (c:=Hd.cells) oVG (λ_=>rfl) (λ_=>rfl) n.bu xC (λv2 F dR l2 o2 w2 k2=>?_)
  all_goals simp+decide-dsimp only[go_sem,D9,Fc,SJ,s0,s1,wi]
  all_goals refine⟨O l-(i+1),U,i+1,v2,n.cQ,dc,Z,Z,⟨_,Z,λ_=>e5⟩,Z,λh=>(jL h).symm,Z,?_,λb D=>?_,λb D=>(k2 b U (λe=>by have:=iV b e;omega)).trans ((vC b U).trans (mA b D)),U⟩
  all_goals first
   |rw[vz];exact o2
   |have:=w2 b D
    obtain q|q:=this;.have:=iV b q;omega
    .omega
 .have:i=O l:=U;subst this;have⟨b,s5,e5⟩:=s5;rw[e5 Aa]at s5;simp+decide-dsimp only[go_sem,s1,s4,s5,D9,Fc,SJ,dz];exact .eE mA (.dY (.cons (oV.fz iV sB) (.cons (.cw trivial) (.cons (.cw trivial) .nil)))) (by rw[fF])
variable{v1 v2:u}
def JN[Inhabited α]{f:α->u}{l:List α}(h:hc.take (O l*1)=l.flatMap λx=>[f x])(H:i<O l):iS (i*1) hc=J (f (l.getD i default)):=by
 have e:(l.flatMap λx=>[f x])=l.map f:=by
  clear h H
  induction l with
  |nil=>rfl
  |cons a l ih=>rw[bE,ih];rfl
 exact auW
def Tn:Nat->dr:=λid=>if id=5\/id=13 then[(z4,[],J 5),([6,7,8],[],J 9),([],[],J 10),([],[],B)]else if id=14 then[(z18,[],B)]else[]
set_option maxHeartbeats 4000000 in
def aoT(t:Bl)(h Y)(ok:t.ok h Y)(hR:∀{s g n},ct t.a.es s=J (g,n)->n.zxQ/\O n.aJ<=4){l:List Hd}(K:O l<=4096){aw:Hd->Nd}(hN:∀x∈l,ct t.a.es x.X=J (x.bo,aw x)){hl}(r1:Sx h Y v1 l)(r2:Sx h Y v2 hl){nx'}(hE:(l.flatMap λx=>fj (aw x))=nx')(hK:O hl=O nx'+1)
 (hk:∀i,i<O hl->∃m,ct t.a.es (hl.getD i default).X=J ((hl.getD i default).bo,m)/\m.bd=decide (i<O nx')/\(m.bd=M->m.cQ=nx'.getD i [])):
 UP 234 [.ptr t.tb 0,v1,v2] h Y (dG (bW M) h Y):=by
 refine az.pc 3 Tn func234 ?_;have el:∀n:Nd,O n.aJ<=4->O (fj n)<=5:=λn h=>by unfold fj;rw[aq];cases n.bd<;>simp<;>omega
 have kl:∀i,i<=O l->O ((l.take i).flatMap λx=>fj (aw x))<=5*i:=by
  intro i
  induction i with
  |zero=>simp
  |succ i ih=>intro H;have oM:i<O l:=H;have⟨_,k4⟩:=hR (hN _ (bO oM));rw[bj oM,bL,aq];have e2:O ([l[i]].flatMap λx=>fj (aw x))=O (fj (aw l[i])):=bR;have:=ih U;have:=el _ k4;omega
 have hE5:O nx'<=20480:=by have:=kl (O l) (an _);rw[fF,hE]at this;omega
 refine Y8 f234.eq_1 r1.len ?_;refine cI _ _ (λm s Q E=>∃i v,i<=O l/\m=O l-i/\X s 0= .ptr t.tb 0/\X s 2=v2/\X s 7=v/\X s 16=v1/\X s 17=int (O l)/\X s 18=int i/\Own gv 9 1 Q v ((l.take i).flatMap λx=>fj (aw x))/\In Y E v/\aG Y h Q/\Y<=E) (n:=O l) ?_ ?_;.refine QZ ?_;exact⟨0,_,aQ _,Z,Z,Z,.inl ⟨Z,Z⟩,λb D=>(by cases D),.refl⟩
 rintro m s Q E ⟨i,v,H,rfl,s0,s2,s7,Pf,PM,GC,oV,iV,mA,tn⟩;have ht:=(mA _ ok.lt).trans ok.tr;have d1:¬(t.tb=E):=EB ok.lt
 by_cases dc:i<O l
 .have G:=hN _ (show l.getD i default∈l by rw[aB,aF dc];exact bO dc);generalize L:l.getD i default=x at G;generalize hn:aw x=n at G;have⟨e,V,W,F,h3,h4,h7,h6⟩:=nL ok.ok G;have wi:i+1<9223372036854775808:=U;have⟨w0,x0,y0⟩:=r1.ix i dc;rw[L]at y0;refine asB Tn.eq_1 s0 Pf PM GC (U:(i:Int)<(O l:Int)) ht d1 x0 (y0 Q mA) ?_;generalize hq:E+1+Array.size _=nq;have qf:E+1<=nq:=U;have Gz:∀hc zyQ,aG E Q (aI (aI Q E hc) E zyQ):=λhc zyQ=>(aG.refl.set (an _)).set (an _);refine bc (h6 _ nq (mA.trans (Gz _ _) tn) U) ?_;generalize hG:aI (aI Q E _) E _=hs;have vC:aG E Q hs:=hG▸(Gz _ _)
  have yH:=(vC _ (U:e.bT<E)).trans ((mA _ h7).trans h4);have k4:=(hR G).2;have vz:((l.take (i+1)).flatMap λx=>fj (aw x))=((l.take i).flatMap λx=>fj (aw x))++fj n:=by
   have e1:l[i]=x:=by rw[<-L];simp[List.getD,dc]
   rw[bj dc,bL,e1];simp[hn]
  have ym:O n.aJ<65536:=U;have xC:O ((l.take i).flatMap λx=>fj (aw x))+O n.aJ+1<65536:=EB (kl i U)
  refine J7 yH s7 @Nd.cells.eq_1 ?_;simp+decide-dsimp only[ze ym];refine kB (c:=gv) (oV.aW (λb D=>vC b (iV b D).2)) (λ_=>rfl) (λ_=>rfl) n.aJ U (λv2 F dR l2 o2 w2 k2=>?_);have i2:In Y dR v2:=λb D=>by
   obtain q|q:=w2 b D;.have:=iV b q;omega
   .omega
  have h42:N F e.bT=J (.cells (u64 x.bo::n.cells) 294):=by rw[k2 _ U (λq=>by have:=iV _ q;omega)];exact yH
  have Sm2:aG Y h F:=λb D=>((λb D hv=>(k2 b U hv).trans (vC b D)) b U (λq=>by have:=iV b q;omega)).trans (mA b D);cases D:n.bd with
  |false=>refine asA s0 s2 Pf PM GC wi h42 D @Nd.cells.eq_1 ?_;refine⟨O l-(i+1),U,i+1,v2,dc,Z,Z,Z,?_,i2,Sm2,U⟩;rw[vz,show fj n=n.aJ by unfold fj;rw[D];exact cy _];exact o2
  |true=>
   refine PV h42 D @Nd.cells.eq_1 @cL @cV ?_;refine lN (c:=gv) (o2.aW λq e'=>?_) (λ_=>rfl) (λ_=>rfl) (Es @aq) n.cQ λv3 h3 nx3 l3 o3 w3 k3=>?_;.have:=i2 q e';rw[Xg]
   refine RC s0 s2 Pf PM GC wi ?_;refine⟨O l-(i+1),U,i+1,v3,dc,Z,Z,Z,?_,λb D=>?_,λb D=>?_,U⟩;.rw[vz,show fj n=n.aJ++[n.cQ]by unfold fj;rw[D];rfl,<-aA];exact o3
   .obtain q|q:=w3 b D;.have:=i2 b q;omega
    .omega
   .rw[k3 b U (λq=>by have:=i2 b q;omega),Xg];exact Sm2 b D
 .have e:i=O l:=U;subst e;rw[fF,hE]at oV;have wK:O hl<65536:=U;simp+decide-dsimp only[go_sem,s2,PM,GC,r2.len,dz];refine cI _ _ (λm s F dR=>∃i,i<=O hl/\m=O hl-i/\X s 0= .ptr t.tb 0/\X s 2=v2/\X s 7=v/\X s 49=v2/\X s 50=int (O hl)/\X s 51=int i/\aG E Q F/\E<=dR) (n:=O hl) ?_ ?_;.refine J7 s0 s2 s7 ?_;exact⟨0,aQ _,Z,Z,.refl⟩
  rintro m s F dR ⟨i,H,rfl,s0,s2,s7,s49,s50,s51,nB,l2⟩;have d1:¬(t.tb=dR):=EB ok.lt
  have o2:=oV.aW (Q:=F) λb D=>nB b (iV b D).2;have uL:=λe' Q=>o2.len (e':=e') (Q:=Q);by_cases dc:i<O hl
  .have⟨n,G,mB,Cj⟩:=hk i dc;generalize L:hl.getD i default=x at G;have⟨e,V,W,qK,h3,h4,h7,h6⟩:=nL ok.ok G;have wi:i+1<9223372036854775808:=U;have⟨w0,x0,y0⟩:=r2.ix i dc;rw[L]at y0;refine asB Tn.eq_1 s0 s49 s50 s51 (U:(i:Int)<(O hl:Int)) ((nB _ (by have:=ok.lt;omega:t.tb<E)).trans ht) d1 x0 (y0 F (mA.trans nB tn)) ?_;generalize hq:dR+1+Array.size _=nq;have qf:dR+1<=nq:=U;have Gz:∀hc zyQ,aG dR F (aI (aI F dR hc) dR zyQ):=λhc zyQ=>(aG.refl.set (an _)).set (an _);refine bc (h6 _ nq ((mA.trans nB tn).trans (Gz _ _) U) U) ?_;generalize hG:aI (aI F dR _) dR _=hs;have vC:aG dR F hs:=hG▸(Gz _ _)
   have yH:=(vC _ (U:e.bT<dR)).trans (((mA.trans nB tn) _ h7).trans h4);have oG:=o2.aW (Q:=hs) λb D=>vC b (EB ((iV b D).2));by_cases hiE:i<O nx'
   .have D:n.bd=M:=by rw[mB,aN hiE]
    have hh:=Cj D;obtain⟨b,cap,hc,rfl,gA,_,_,q3⟩:=oG.sl U;have KC:iS (i*1) hc=J (cg (nx'.getD i [])):=JN q3 hiE;simp+decide-dsimp only[go_sem,Tn,s7,hiE,(U:(i:Int)<(O nx':Int)),yH,gA,KC,hh,Nd.cells,s0,s2,s49,s50,s51,wi];exact aut
   .refine asB Tn.eq_1 s7 uL (U:¬(i:Int)<(O nx':Int)) s0 s2 s49 s50 s51 wi ?_;exact aut
  .have e:i=O hl:=U;subst e;simp+decide-dsimp only[go_sem,s2,s7,uL,r2.len,s50,s51,dz,(U:O nx'+1<9223372036854775808),(U:(((O hl:Nat):Int)=((O nx'+1:Nat):Int)))];exact .eE (mA.trans nB tn) (.cw trivial) Z
variable{S:List Nat}{ck:Nat}
def LN{k v}{es:List (u×u×Nat)}(e:N h b=J (.map es ck)):Fo (J (.map k v)) h (.mp b)=J (int (O es)):=by
 have:Fo (J (.map k v)) h (.mp b)=match N h b with|some (.map es _)=>J (.g (goInt (O es)))|_=>B:=bQ rfl
 rw[this,e];rfl
def amw(a:Ar Nd)(h Y)(ok:NAr.ok a h Y):UP 232 [.ptr a.ab 0] h Y (dG (int (O a.es)) h Y):=by refine az.ac 1 T0 func232 ?_;simp+decide-dsimp only[f232,go_sem,ok.ar,LN ok.mp,bh];exact⟨Z,Z,Z⟩
def apK(t:Bl)(h Y)(ok:t.ok h Y):UP 228 [.ptr t.tb 0] h Y (dG (int (O t.a.es)) h Y):=by refine az.ac 1 T0 func228 ?_;refine Xf f228.eq_1 ?_;refine bc (Ri t _ _ ok) ?_;refine Xf ok.tr ?_;refine Av (amw t.a _ _ ok.ok) ?_;exact⟨Z,Z,Z⟩
def Row.perm{σ}(hS:S.Nodup)(hm:∀s,s∈S↔σ s≠B)(h2:BF σ ly lo lv){h l}(r:Row σ h l)(h0:lo h.X=[]):
 (l.map Hd.X).Perm (S.filter λs=>decide (ly s=ly h.X)&&(lv s==lv h.X)):=by
 refine(pQ (h2.nodup r) (hS.filter _)).2 λs=>?_;rw[cR,hm];constructor;.intro q;obtain⟨x,L,rfl⟩:=bg.1 q;have⟨n,a1,a2,a3,_⟩:=h2.mem r x L;exact⟨by rw[a1];exact(λq=>by cases q),by simp[a2,a3]⟩
 .rintro⟨q1,q2⟩;simp only[aS,fK,kN]at q2;cases G:σ s with
  |none=>exact absurd G q1
  |some x=>exact h2.all r h0 (g:=x.1) (n:=x.2) G q2.2 q2.1
def geq(S:List Nat)(p:Nat->Bool)(lv:Nat->Nat)(k:Nat):Nat:=O (S.filter λs=>p s&&decide (k<=lv s))
def Kb(S p lv)(k:Nat):geq S p lv k=geq S p lv (k+1)+O (S.filter λs=>p s&&(lv s==k)):=by
 unfold geq
 induction S with
 |nil=>rfl
 |cons s S ih=>
  simp only[lD];cases p s with
  |false=>exact ih
  |true=>
   obtain q|q|q:=cF (lv s) k;.have e1:decide (k<=lv s)=R:=aU U;have e2:decide (k+1<=lv s)=R:=aU U;have e3:(lv s==k)=R:=gr;rw[e1,e2,e3];exact ih
   .have e1:decide (k<=lv s)=M:=aN U;have e2:decide (k+1<=lv s)=R:=aU U;have e3:(lv s==k)=M:=by simp[q]
    rw[e1,e2,e3];simp only[Bool.and_self,cA,x9,du,cU,bD];omega
   .have e1:decide (k<=lv s)=M:=aN U;have e2:decide (k+1<=lv s)=M:=aN U;have e3:(lv s==k)=R:=gr;rw[e1,e2,e3];simp only[Bool.and_self,cA,x9,du,cU,bD];omega
def JH{p}:geq S p lv 0=O (S.filter p):=by unfold geq;congr 2;funext s;simp
def OF{p}(h:∀s∈S,p s=M->lv s<k):geq S p lv k=0:=by
 unfold geq;rw[List.filter_eq_nil_iff.2 λs G q=>?_]; · rfl
 simp only[aS,fK]at q;have:=h s G q.1;omega
def yk(f p):∀S:List Nat,(∀s∈S,p s=R->f s=0)->((S.filter p).map f).sum=(S.map f).sum
 |[],_=>rfl
 |s::S,h=>by
  have ih:=yk f p S λs G=>h s (.tail _ G);rw[lD,cB,gM,<-ih];cases q:p s with
  |true=>rw[au Z,cB,gM]
  |false=>rw[ak bR,h s (.head _) q,fC]
def BI.ch{σ}(I:BI Pk σ aO lo lv iL){h l}(r:Row σ h l){aw:Hd->Nd}(hN:∀x∈l,σ x.X=J (x.bo,aw x))(h0:lv h.X=0):∃j,Ch σ j (aw h) (l.flatMap λx=>(aw x).Co):=by
 induction r with
 |last G D=>
  rename_i h n;have e:=hN h (.head _);rw[G]at e;injection e with e;injection e with _ e;subst e
  exact⟨0,by simpa using Ch.last D⟩
 |cons G D r ih=>
  rename_i h n l;have e:=hN h (.head _);rw[G]at e;injection e with e;injection e with _ e;subst e
  have⟨m,a1,a2,a3⟩:=I.nxl G ((I.ay _ _ _ G).2 h0) D;obtain⟨l',rfl⟩:=r.ne;have e2:=hN _ (.tail _ (.head _));rw[a1]at e2;injection e2 with e2;injection e2 with _ e2;have⟨j,hj⟩:=ih (λx L=>hN x (.tail _ L)) ((I.ay _ _ _ a1).1 a2);rw[<-e2]at hj;exact⟨j+1,.more D a1 Z (I.r _ _ _ G) a2 (I.r _ _ _ a1) hj⟩
def Row.leaves{es:List (iB Nd)}(hn:(es.map iB.X).Nodup)(h2:BF (ct es) (λ_=>[]) lo lv)(hR:∀{s g n},ct es s=J (g,n)->n.zxQ){h l}(r:Row (ct es) h l)(h0:lo h.X=[]){aw:Hd->Nd}(hN:∀x∈l,ct es x.X=J (x.bo,aw x))(K:lv h.X=0):
 O (l.flatMap λx=>(aw x).Co)=Ft uz es:=by
 have T:=Sz.Cb (c:=uz) hn;have hm:∀s,s∈es.map iB.X↔ct es s≠B:=λs=>by
  have⟨_,_,_⟩:=T;exact⟨λq=>by obtain⟨e,V,rfl⟩:=bg.1 q;rw[om hn V];exact(λq=>by cases q),λq=>by
   cases G:ct es s with
   |none=>exact absurd G q
   |some x=>have⟨e,V,W,_⟩:=kz (g:=x.1) (n:=x.2) G;exact bg.2 ⟨e,V,W⟩⟩
 have P:=((Row.perm hn hm h2 r h0).map (wt uz (ct es))).sum_nat;rw[yk,T.sum hn hm]at P;.rw[<-P,List.length_flatMap,sY];refine ff _ (fD λx L=>?_);have⟨n,a1,a2,_⟩:=h2.mem r x L;have G:=hN x L;have lf:=(h2.ay G).2 (a2.trans K);show _=wt uz (ct es) x.X;rw[fP G,uO (hR G) lf];unfold uz;rw[lf];rfl
 .intro s G q;cases L:ct es s with
  |none=>exact jc L
  |some x=>
   have L:ct es s=J (x.1,x.2):=L;rw[fP L];refine Ia ?_;cases lf:x.2.ay with
   |false=>rfl
   |true=>rw[K,(h2.ay L).1 lf]at q;simp at q
def zM{es:List (iB α)}(hn:(es.map iB.X).Nodup)(s):s∈es.map iB.X↔ct es s≠B:=
 ⟨λq=>by obtain⟨e,V,rfl⟩:=bg.1 q;rw[om hn V];exact(λq=>by cases q),λq=>by
  cases G:ct es s with
  |none=>exact absurd G q
  |some x=>have⟨e,V,W,_⟩:=kz (g:=x.1) (n:=x.2) G;exact bg.2 ⟨e,V,W⟩⟩
def BI.aee{σ}(I:BI Pk σ aO lo lv (λ_=>False)):aeA σ lo:=
 ⟨λh=>⟨I.r _ _ _ h,(I.small _ _ _ h).elim id λq=>q.1.elim⟩,λh i H=>(I.cw _ _ _ h i H).1,λh=>I.oP _ _ _ h⟩
def alh:=RB [(11,[MO z4 5,MO [6,7,8,11,12,13,14] 9,([10,15,16],[14],J 17),RX])]
def apY(t:Bl)(h Y)(ok:t.ok h Y)(I:BI Pk (ct t.a.es) t.aO lo lv (λ_=>False))(hz:t.size=(Ft uz t.a.es:Int))(z:Ft uz t.a.es<50000)(hm:O t.a.es<=4096):
 UP 221 [.ptr t.tb 0] h Y (dG (bW M) h Y):=by
 have h2:=I.bf;have hn:=ok.ok.ng;have hme:=zM hn;refine az.pc 1 alh func221 ?_;refine Xf f221.eq_1 ?_;refine bc (Ri t _ _ ok) ?_;refine Xf ok.tr ?_;generalize hG:aI h Y _=hs;have gn:N hs Y=some (.cells (([t.aO]:List Hd).flatMap Hd.cells) 245):=by rw[<-hG,aj,au rfl];rfl
 have SG:aG Y h hs:=hG▸(aG.refl.set (an _))
 have⟨n0,r1,r2,r3⟩:=I.rt;have top:geq (t.a.es.map iB.X) (λ_=>M) lv (lv t.aO.X+1)=0:=OF λs G _=>by
  cases L:ct t.a.es s with
  |none=>exact absurd L ((hme s).1 G)
  |some x=>exact Nat.lt_succ_of_le (I.top s x.1 x.2 L)
 refine cI _ _ (λm s Q E=>∃x l v,m=lv x.X/\Row (ct t.a.es) x l/\lo x.X=[]/\X s 0= .ptr t.tb 0/\X s 3=v/\Sx Q E v l/\X s 4=int (geq (t.a.es.map iB.X) (λ_=>M) lv (lv x.X+1))/\Q=hs/\Y+1<=E) (n:=lv t.aO.X) ?_ ?_;.refine QZ ?_;exact⟨t.aO,[t.aO],_,Z,.last r1 r3,r2,Z,.own (.inr ⟨Y,1,_,Z,gn,an _,Z,Z⟩) (λb D=>by injection D with D;omega),by rw[top];rfl⟩
 rintro m s Q E ⟨x,l,v,rfl,r,x0,s0,s3,rv,s4,rfl,l1⟩;have Jc:t.ok Q E:=ok.aW SG U;have hN:∀y∈l,ct t.a.es y.X=J (y.bo,qT (ct t.a.es) y):=λy hy=>by have⟨n,a1,_⟩:=h2.mem r y hy;rw[OA a1];exact a1
 have P:O l=O ((t.a.es.map iB.X).filter λs=>lv s==lv x.X):=by have:=(Row.perm hn hme h2 r x0).length_eq;simpa using this
 have P2:geq (t.a.es.map iB.X) (λ_=>true) lv (lv x.X)=geq (t.a.es.map iB.X) (λ_=>true) lv (lv x.X+1)+((t.a.es.map iB.X).filter λs=>lv s==lv x.X).length:=Kb _ _ _ _;have g0:geq (t.a.es.map iB.X) (λ_=>true) lv 0=t.a.es.length:=by rw[JH,List.filter_eq_self.2 λ_ _=>rfl,bh]
 have gm:∀k,geq (t.a.es.map iB.X) (λ_=>true) lv k<=4096:=λk=>by unfold geq;exact fB (EZ _ _) (by rw[bh];exact hm)
 have gk:=gm (lv x.X);have gk1:=gm (lv x.X+1);have K:O l<=4096:=U;have c1:=anV t Q E Jc h2 I.aee r x0 rv K hN;refine Y8 s0 s3 ?_;refine bc c1 ?_;have wc:geq (t.a.es.map iB.X) (λ_=>M) lv (lv x.X+1)+O l<9223372036854775808:=U;have ec:geq (t.a.es.map iB.X) (λ_=>M) lv (lv x.X+1)+O l=geq (t.a.es.map iB.X) (λ_=>M) lv (lv x.X):=U;by_cases hk:lv x.X=0
 .have dk:decide (lv x.X=0)=M:=aN hk;rw[hk,g0]at ec;rw[hk]at wc s4;have ec':((geq (t.a.es.map iB.X) (λ_=>M) lv (0+1)+O l:Nat):Int)=((O t.a.es:Nat):Int):=by rw[ec]
  refine Ik alh.eq_1 s0 s3 s4 dk rv.len wc Jc.tr ?_;refine bc (amw t.a _ _ (Jc.ok.aW .refl (ew _ _))) ?_;refine L6 ec' s0 hz Jc.tr ?_;have⟨j,ch⟩:=I.ch r hN hk;have hL:=Row.leaves hn h2 (λh=>I.r _ _ _ h) r x0 hN hk;have⟨l',e'⟩:=r.ne;have L:=hN x (by rw[e'];exact .head _);have L:ct t.a.es x.X=J (x.bo,qT (ct t.a.es) x):=L;have lf:=(h2.ay L).2 hk;refine bc (ak5 t _ _ (Jc.aW .refl (ew _ _)) I L lf ⟨by rw[x0];exact kF,?_⟩ ch (Es hL)) ?_;.exact gS.2 λD=>x0▸(I.oP _ _ _ L D)
  refine J7 hL hz Jc.tr ?_;exact .eE SG (.cw trivial) Z
 .have dk:decide (lv x.X=0)=R:=aU hk;have⟨y,d1,d2,d3,d4⟩:=h2.down r hN hk;have⟨e1,e2⟩:=h2.ends r hN hk;have c2:=aoT t Q E Jc (λh=>I.aee.zxQ h) K hN rv (.qF _) Z e1 e2;refine RC s0 s3 s4 dk rv.len wc ?_;refine bc c2 ?_;refine J7 s0 s3 s4 ?_;exact⟨lv y.X,U,y,_,_,Z,d1,d4.trans x0,Z,.qF _,by rw[ec,<-d2],U⟩
variable{par rk:Nat->Nat}{σ:jJ}
theorem ah0(a:Ar Mn)(h:aE)(Y:Nat)(ok:MAr.ok a h Y):az prog 308 [.ptr a.ab 0] h Y (dG (int a.es.length) h Y):=by refine az.ac 1 T0 func308 ?_;simp+decide-dsimp only[f308,go_sem,ok.ar,LN ok.mp,bh];exact⟨rfl,rfl,rfl⟩
def aqd(t:Mt)(h Y)(ok:t.ok h Y):UP 306 [.ptr t.tb 0] h Y (dG (int (O t.a.es)) h Y):=by refine az.ac 1 T0 func306 ?_;refine Xf f306.eq_1 ?_;refine bc (MN t _ _ ok) ?_;refine Xf ok.tr ?_;refine Av (ah0 t.a _ _ ok.ok) ?_;exact⟨Z,Z,Z⟩
def vw(n:Mn):Nd:=⟨n.cw,n.js,[],if n.cw then[]else n.aL.bu,n.eI,n.kM,n.next⟩
def Pj(σ:jJ):AA:=λs=>(σ s).map λx=>(x.1,vw x.2)
def wV{g n}(h:σ s=J (g,n)):Pj σ s=J (g,vw n):=by unfold Pj;rw[h];rfl
def HX{g m}(h:Pj σ s=J (g,m)):∃n,σ s=J (g,n)/\m=vw n:=by
 unfold Pj at h;cases G:σ s with
 |none=>rw[G]at h;cases h
 |some x=>rw[G]at h;injection h with h;injection h with W F;exact⟨x.2,by rw[<-W],F.symm⟩
def MI.bf{pre eo}{ex:aY->Prop}(I:MI Pk σ aO pre lo eo par rk iL ex):BF (Pj σ) pre lo eo:=by
 have inn:∀{n:Mn},n.cw=R->(vw n).bu=n.aL.bu/\(vw n).aJ=n.aL.aJ/\(vw n).bd=n.aL.bd/\(vw n).cQ=n.aL.cQ:=λ{n} h=>by unfold vw Mn.js Mn.kM Mn.eI;rw[h];exact⟨Z,Z,Z,Z⟩
 refine⟨λh=>?_,λh K=>?_,λh D=>?_,λ{s g n'} h K i H=>?_,λh D=>?_,λh D=>?_,λh Q e1 e2 cD=>?_⟩
 all_goals obtain⟨n,G,rfl⟩:=HX h
 .exact I.cw _ _ _ G
 .have K:n.cw=R:=K;rw[(inn K).1,(inn K).2.1];have⟨a,b,_⟩:=I.nd _ _ _ G K;exact(a.nd b).2
 .exact I.oP _ _ _ G D
 .have K:n.cw=R:=K;have⟨k1,k2,k3,k4⟩:=inn K;rw[k1]at H⊢;have⟨m,a1,a2,a3,_,a4,a5,a6⟩:=I.kD _ _ _ G K i H;refine⟨vw m,wV a1,a2,a3,?_,?_,λD=>?_⟩;.rw[a4];unfold jE;rw[k2]
  .show m.kM=_;rw[a5];unfold kJ;rw[k2,k3]
  .show m.eI=_;rw[a6 D];unfold lG;rw[k2,k4]
 .have⟨m,a1,a2,a3,a4,_⟩:=(I.next _ _ _ G).2 D;exact⟨vw m,wV a1,a2,a3,a4⟩
 .exact(I.next _ _ _ G).1 D
 .obtain⟨n',lS,rfl⟩:=HX Q;exact I.uniq _ _ _ _ _ _ G lS e1 e2 cD
variable{j m:Nat}
theorem F7{α:Type}:∀{a:Nat} {C hb:List α},dV a C=J hb->a<=O C/\hb=C.drop a
 |0,C,hb,h=>by have h:J C=J hb:=h;injection h with h;exact⟨aQ _,h.symm⟩
 |a+1,[],hb,h=>by cases(show B=J hb from h)
 |a+1,x::C,hb,h=>by have⟨W,F⟩:=F7 (a:=a) (C:=C) h;exact⟨SE W,F⟩
theorem GW{α:Type}:∀{k:Nat} {C hb:List α},dC k C=J hb->k<=O C/\hb=C.take k
 |0,C,hb,h=>by have h:J []=J hb:=h;injection h with h;exact⟨aQ _,h.symm⟩
 |k+1,[],hb,h=>by cases(show B=J hb from h)
 |k+1,x::C,hb,h=>by
  have h:Option.rec (motive:=λ_=>Option (List α)) B (λr=>J (x::r)) (dC k C)=J hb:=h;cases q:dC k C with
  |none=>rw[q]at h;cases h
  |some nx'=>rw[q]at h;cases h;have⟨W,F⟩:=GW q;exact⟨SE W,by rw[F];rfl⟩
theorem JA{a:Nat}{C ao:List α}(h:(dV a C).bind (dC k)=some ao):a+k<=C.length/\ao=(C.drop a).take k:=by
 cases q:dV a C with
 |none=>rw[q]at h;cases h
 |some hb=>rw[q]at h;obtain⟨W,rfl⟩:=F7 q;have⟨F,h3⟩:=GW h;rw[aC]at F;exact⟨U,h3⟩
theorem rZ{a:Nat}{C ao:List α}(h:(dV a C).bind (dC k)=some ao)(hj:j<k):iS (a+j) C=ao[j]?:=by obtain⟨_,rfl⟩:=JA h;rw[k6,gJ hj,gh]
theorem XB{a:Nat}{C ao:List α}(h:(dV a C).bind (dC k)=some ao)(hj:j+m<=k):(dV (a+j) C).bind (dC m)=some ((ao.drop j).take m):=by obtain⟨W,rfl⟩:=JA h;rw[eY _ _ U,aT,bZ _ _ (by rw[aC];omega),gz,lM,bI,b9 U]
section
variable{n:Mn}{C:List u}{b off:Nat}{T:TypeId}{h:aE}{Y:Nat}(hC:N h b=J (.cells C T))(D:b<Y)(h2:sN C off n)
include hC h2
theorem arl(p:n.cw=M->n.ay.zxQ/\n.ay.n<=6)(q:n.cw=R->n.aL.zxQ/\n.aL.ay=R/\O n.aL.aJ<=4):UP 349 [.ptr b off] h Y (dG (bW M) h Y):=by
 refine az.pc 1 T0 func349 ?_;have f1:=h2.cw;have f2:=h2.ay;have f3:=h2.aL;have f4:iS (off+112) C=J (bW n.aL.ay):=rZ h2.aL (j:=0) bS;cases lW:n.cw with
 |true=>have⟨zxQ,h6⟩:=p lW;rw[lW]at f1;simp+decide-dsimp only[f349,go_sem,hC,f1,f2];refine ba (Vm n.ay zxQ) ?_;simp+decide-dsimp only[go_sem,hC,f2];refine ba (amu n.ay zxQ.p zxQ.n zxQ.sl) ?_;refine Xf (U:¬(6<n.ay.n)) ?_;exact .eE .refl .cP Z
 |false=>have⟨zxQ,K,h4⟩:=q lW;rw[lW]at f1;rw[K]at f4;simp+decide-dsimp only[f349,go_sem,hC,f1,f3];refine ba (LZ n.aL zxQ) ?_;simp+decide-dsimp only[go_sem,hC,f3,f4];refine ba (aax n.aL) ?_;refine Xf (U:¬(4<O n.aL.aJ)) ?_;exact .eE .refl .cP Z
include D
def afV:=RB [(2,[MO [0,1,2,3,4,6,7,8,9,10] 5,([],[10],J 11),([],[10],J 12),RX]),(3,[MO z9 10,MO [] 11,RX])]
theorem alr(p:n.cw=M->n.ay.zxQ):UP 350 [.ptr b off] h Y (dG (.dY [cg n.eI,bW n.kM]) h Y):=by
 refine az.pc 1 afV func350 ?_;have f1:=h2.cw;unfold Mn.eI Mn.kM;cases lW:n.cw with
 |true=>
  have zxQ:=p lW;have K:O (n.ay.sl.flatMap Sl.cells)=105:=by rw[uC,zxQ.sl]
  have g:n.ay.cells.drop 106=[u64 (bv n.ay.cQ 8:Nat),u8 (O n.ay.cQ:Nat),bW n.ay.bd,int n.ay.next.X,u64 n.ay.next.bo]:=by unfold Lf.cells;rw[kS,<-K,List.drop_left]
  have f2:iS (off+1+108) C=J (bW n.ay.bd):=by rw[rZ h2.ay (j:=108) bS,<-gh (i:=106) (j:=2),g];rfl
  have f3:(dV (off+1+106) C).bind (dC 2)=J (uW n.ay.cQ):=by rw[XB h2.ay (j:=106) bS,g];rfl
  rw[lW]at f1;simp+decide-dsimp only[f350,go_sem,afV,hC,f1,f2,f3];refine ba (QY n.ay.cQ zxQ.H.len) ?_;simp+decide-dsimp only[go_sem,hC,f2];exact .eE .refl (.dY (.cons .cP (.cons .cP .nil))) rfl
 |false=>have f2:iS (off+112+4) C=some (cg n.aL.cQ):=rZ h2.aL (j:=4) bS;have f3:iS (off+112+5) C=some (bW n.aL.bd):=rZ h2.aL (j:=5) bS;rw[lW]at f1;simp+decide-dsimp only[f350,go_sem,afV,hC,f1,f2,f3];exact .eE .refl (.dY (.cons .cP (.cons .cP .nil))) rfl
theorem anX(p:n.cw=M->n.ay.zxQ):UP 351 [.ptr b off] h Y λv W cC=>(∃w,v= .dY [cg w,bW (decide (0<O n.js))]/\(0<O n.js->w=n.js.getD 0 []))/\W=h/\cC=Y:=by
 refine az.pc 1 T0 func351 ?_;have f1:=h2.cw;unfold Mn.js;cases lW:n.cw with
 |true=>
  have zxQ:=p lW;have f2:=h2.ay;have HM:O (n.ay.at 0).m<=9/\(0<n.ay.n->qy (n.ay.at 0).m=(((List.range n.ay.n).map λi=>qy (n.ay.e i).m).getD 0 [])):=by
   unfold Lf.at;by_cases q:0<n.ay.n;.rw[au q];exact⟨(zxQ.r 0 q).m.len,λ_=>by simp[List.getD,q]⟩
   .rw[ak q];exact⟨bS,λh=>absurd h q⟩
  rw[lW]at f1;simp+decide-dsimp only[f351,go_sem,hC,f1,f2];refine ba (HV n.ay zxQ 0) ?_;simp+decide-dsimp only[go_sem];refine ba (QY _ HM.1) ?_;simp+decide-dsimp only[go_sem];refine⟨?_,_,.dY (.cons .cP (.cons .cP .nil)),qy (n.ay.at 0).m,by rw[bh,NO];rfl,λh=>HM.2 (Mf h)⟩;exact gU
 |false=>
  have f2:=h2.aJ;rw[lW]at f1;by_cases q:n.aL.aJ.length=0;.have q':((n.aL.aJ.length:Nat):Int)=0:=U;simp+decide-dsimp only[f351,go_sem,hC,f1,f2,q'];exact⟨aG.refl,_,.dY (.cons .cP (.cons .cP .nil)),[],by rw[q];rfl,λh=>U⟩
  .have q':¬((n.aL.aJ.length:Nat):Int)=0:=U;have k2:0<n.aL.aJ.length:=U;have ix0:qa (some (.slice 9)) (cZ prog) (strs n.aL.aJ) (.g (.int .i64 0))=(cZ prog 9).bind λsize=>(dV (0*size) (n.aL.aJ.flatMap gv)).map λl=> .val (.fp l):=xg (k:=0) k2;have nt0:iS 0 (n.aL.aJ.flatMap gv)=some (cg (n.aL.aJ.getD 0 [])):=yY (k:=0) k2;simp+decide-dsimp only[f351,go_sem,hC,f1,f2,q',ix0,nt0];exact⟨aG.refl,_,.dY (.cons .cP (.cons .cP .nil)),n.aL.aJ.getD 0 [],by rw[aN k2];rfl,λ_=>rfl⟩
end
def alY(n:Mn):Prop:=(n.cw=M->n.ay.zxQ/\n.ay.n<=6)/\(n.cw=R->n.aL.zxQ/\n.aL.ay=R/\O n.aL.aJ<=4)/\O n.ay.sl=15
theorem PH{a b:List UInt8}:dE prog h .lss t x y (cg a) (cg b)=some (bW (decide (a<b))):=by refine rV (v:= .bool (decide (a<b))) ?_;show some (Value.bool (Op.bytesLess _ _))=_;rw[jK,jK,Lj]
theorem Pm{a b:List UInt8}:dE prog h .leq t x y (cg a) (cg b)=some (bW (decide (a<b)||decide (a=b))):=by refine rV (v:= .bool (decide (a<b)||decide (a=b))) ?_;show some (Value.bool (Op.bytesLess _ _||_==_))=_;rw[jK,jK,Lj];congr 3;by_cases hh:a=b<;>simp[hh]
def VS:=RB [(5,[MO z4 5,MO [6,7,8] 9,MO [] 10,RX]),(8,[MO z6 7,MO [8,9,10] 11,MO [] 12,RX]),(11,[MO [0,1,2,3,4,5,6,7,8,9,10,11,12,13,14,15,16,17,18,20,21,22,23,24] 19,([25,26,27,28,29,30,31,33],[24],J 32),([34,35,36],[],B)])]
set_option maxHeartbeats 4000000 in
def aqT(t:Mt)(h Y)(ok:t.ok h Y)(hO:∀s g n,ct t.a.es s=J (g,n)->alY n){pre eo}(h2:BF (Pj (ct t.a.es)) pre lo eo)(jL:∀s g n,ct t.a.es s=J (g,n)->∀k∈n.js,¬k<lo s){l}(r:Row (Pj (ct t.a.es)) z l)(h0:lo z.X=[])(rv:Sx h Y vv l)(K:O l<=4096){aw:Hd->Mn}(hN:∀x∈l,ct t.a.es x.X=J (x.bo,aw x)):
 UP 325 [.ptr t.tb 0,vv] h Y (dG (bW M) h Y):=by
 refine az.pc 2 VS func325 ?_;have Aa:0<O l:=by have⟨l',e⟩:=r.ne;rw[e];exact PE _
 have⟨w00,x00,y00⟩:=rv.ix 0 Aa;have aha:qa (J (.slice 245)) (cZ prog) vv (.g (.int .i64 0))=J (.val w00):=x00;have hN0:=hN (l.getD 0 default) (by rw[aB,aF Aa];exact bO Aa);have hhd:l.getD 0 default=z:=by have⟨l',e⟩:=r.ne;rw[e];rfl
 rw[hhd]at y00 hN0;have⟨ez,hez,z1,z2,z3,z4,z7,z6⟩:=jb ok.ok hN0;have lW:∀{n:Mn} {x:Hd},ct t.a.es x.X=J (x.bo,n)->eo x.X=eo z.X->n.cw=(aw z).cw:=λ{n x} G hv=>by have a1:=h2.ay (wV G);have a2:=h2.ay (wV hN0);rw[hv]at a1;have a3:(n.cw=M↔(aw z).cw=M):=a1.trans a2.symm;cases q:n.cw<;>cases q':(aw z).cw<;>simp_all
 refine Y8 f325.eq_1 rv.len ?_;refine cI _ _ (λm s Q E=>∃i w,i<=O l/\m=O l-i/\X s 0= .ptr t.tb 0/\X s 1=vv/\X s 5=cg w/\(i<O l->w=lo (l.getD i default).X)/\X s 17=vv/\X s 18=int (O l)/\X s 19=int i/\aG Y h Q/\Y<=E) (n:=O l) ?_ ?_;.refine QZ ?_;exact⟨0,[],aQ _,Z,Z,λ_=>by rw[hhd];exact h0.symm,Z,.refl⟩
 rintro m s Q E ⟨i,w,H,rfl,s0,s1,s5,hw,PM,GC,M6,mA,tn⟩;by_cases dc:i<O l
 .have⟨lS,rU,_,mB,qB,agI⟩:=h2.here r (aw:=λx=>vw (aw x)) (λx L=>wV (hN x L)) dc;have G:=hN _ (show l.getD i default∈l by rw[aB,aF dc];exact bO dc);have hww:=hw dc;generalize L:l.getD i default=x at G lS rU mB qB agI hww;generalize hn:aw x=n at G lS mB qB agI;have⟨e,V,W,F,h3,h4,h7,h6⟩:=jb ok.ok G;have⟨w0,x0,y0⟩:=rv.ix i dc;rw[L]at y0;have ht:=(mA _ ok.lt).trans ok.tr;have d1:¬(t.tb=E):=EB ok.lt
  refine asB VS.eq_1 s0 PM GC M6 dc ht d1 x0 (y0 Q mA) ?_;generalize hq:E+1+Array.size _=nq;have qf:E+1<=nq:=U;have Gz:∀hc zyQ,aG E Q (aI (aI Q E hc) E zyQ):=λhc zyQ=>(aG.refl.set (an _)).set (an _);refine bc (h6 _ nq (mA.trans (Gz _ _) tn) U) ?_;generalize hG:aI (aI Q E _) E _=hs;have vC:aG Y h hs:=mA.trans (hG▸(Gz _ _)) tn;have yH:=(vC _ h7).trans h4;have trG:=(vC _ ok.lt).trans ok.tr;have⟨O1,O2,O3⟩:=hO _ _ _ G;have Fm:sN (u64 x.bo::n.cells) 1 n:=sN.mk' (pre:=[u64 x.bo]) O3;have eb:e.bT<nq:=U;refine QZ ?_;refine bc (arl yH Fm O1 O2) ?_;refine RC VS.eq_1 s0 s1 trG aha (y00 hs vC) ?_;generalize hq:nq+Array.size _=nq2;have an2:nq<=nq2:=U;refine Av (z6 hs nq2 vC U) ?_;refine bc (alr yH U Fm λh=>(O1 h).1) ?_;have z4G:=(vC _ z7).trans z4;have Fz:sN (u64 z.bo::(aw z).cells) 1 (aw z):=sN.mk' (pre:=[u64 z.bo]) (hO _ _ _ hN0).2.2;have F6:=Fm.cw;have fl2:=Fz.cw;rw[lW G rU]at F6;have wi:i+1<9223372036854775808:=U;have bt:((aw z).cw==(aw z).cw)=M:=beq_self_eq_true _;have bt1:(M==R)=R:=rfl;have bt2:(R==M)=R:=rfl;have hqq:(¬(((i+1:Nat):Int)=(O l:Int))/\i+1<O l/\n.kM=M/\n.next=l.getD (i+1) default)\/(((i+1:Nat):Int)=(O l:Int)/\¬i+1<O l/\n.kM=R/\n.next=⟨0,0⟩):=by
   have mB:n.kM=_:=mB;have qB:n.next=_:=qB;exact auE
  have ajo:=λm (hm:nq2<=m)=>apb (Y:=m) yH U Fm
  have ap9:=λm (hm:nq2<=m)=>anX (Y:=m) yH U Fm λh=>(O1 h).1;have Yx:=jL _ _ _ G;have hhl:n.kM=M->lo x.X<n.eI:=λD=>h2.oP lS D;obtain⟨q1,q2,mB,qB⟩|⟨q1,q2,mB,qB⟩:=hqq
  case' inl=>have⟨w1,x1,y1⟩:=rv.ix (i+1) q2;simp+decide-dsimp only[go_sem,VS,yH,z4G,F6,fl2,bt,bt1,wi,q1,mB,s1,rv.len,x1,y1 hs vC];refine bc (ajo _ (ew _ _)) ?_;simp+decide-dsimp only[go_sem,qB,y1 hs vC,CX,Hd.av,Hd.cells]
  case' inr=>simp+decide-dsimp only[go_sem,VS,yH,z4G,F6,fl2,bt,bt2,wi,q1,mB,s1,rv.len];refine bc (ajo _ (ew _ _)) ?_;simp+decide-dsimp only[go_sem,qB,akj,Hd.av,Hd.cells]
  all_goals
   refine cm (ap9 _ (ew _ _)) λ_ _ _ _ ⟨⟨w',e1,e2⟩,e3,e4⟩=>?_;subst e1 e3 e4 hww;have t1:0<O n.js->¬w'<lo x.X:=λk0=>by rw[e2 k0];refine Yx _ ?_;rw[aB,aF k0];exact bO k0
   by_cases k0:0<O n.js
  all_goals first
   |have D:=hhl mB
    have u1:¬n.eI<lo x.X:=λq=>bU (dT q D);have u2:¬n.eI=lo x.X:=λq=>by rw[q]at D;exact bU D
    have t2:=t1 k0;simp+decide-dsimp only[go_sem,k0,t2,s0,s1,s5,PM,GC,M6,wi,PH,Pm,u1,u2]
   |have D:=hhl mB
    have u1:¬n.eI<lo x.X:=λq=>bU (dT q D);have u2:¬n.eI=lo x.X:=λq=>by rw[q]at D;exact bU D
    simp+decide-dsimp only[go_sem,k0,s0,s1,s5,PM,GC,M6,wi,Pm,u1,u2]
   |have t2:=t1 k0
    simp+decide-dsimp only[go_sem,k0,t2,s0,s1,s5,PM,GC,M6,wi,PH]
   |simp+decide-dsimp only[go_sem,k0,s0,s1,s5,PM,GC,M6,wi]
  all_goals exact⟨O l-(i+1),U,i+1,n.eI,dc,Z,Z,λh=>(agI h).symm,Z,vC,U⟩
 .have e:i=O l:=U;subst e;simp+decide-dsimp only[go_sem,GC,M6,dz];exact .eE mA .cP rfl
end
end br
end Go.Proofs.YtonnifoeokagjaaGreat
