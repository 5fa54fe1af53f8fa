/- The theorem plans_holds of OrdersPlans: part 16 of its proof; no conditions. -/
import Derived.Test.YtonnifoeokagjaaGreatF15
namespace Go.Proofs.YtonnifoeokagjaaGreat
set_option linter.all false
set_option maxRecDepth 8000
open Go Go.RowKit
open Tryz
open Nat(reduceAdd reduceMul)
namespace bC
noncomputable section
variable{d:Wd}{h:aG}{k nx:Nat}
def T19:Nat->cU:=λid=>if id=11 then[(z11,[4,6,9],some 12),([13,14],[],some 15),([],[],none)]else[]
set_option maxHeartbeats 1000000 in
theorem a19{m:Nat}(o:d.ok k h nx)(hk:k<900)(hm:m<=nx)(ab:∀b,d.all b->m<=b)(q:Ai):
 aA prog 19 [.ptr d.wb 0,q.v.av] h nx λw h' nx'=>∃d':Wd,d'.wb=d.wb/\d'.ok (k+1) h' nx'/\(∀b,d'.all b->m<=b)/\aH m h h':=by
 refine aA.ac 2 T19 func19 ?_;have l0:=o.lt _ (.inl rfl);have dw:¬(d.wb=nx):=ah;have stop:∀(ob:AO),∃d':Wd,d'.wb=d.wb/\d'.ok (k+1) (aK h nx ob) (nx+1)/\(∀b,d'.all b->m<=b)/\aH m h (aK h nx ob):=λob=>⟨d,rfl,o.to (λb hb=>yL) ah ah,ab,λb hb=>yL⟩;by_cases qN:q.kind=2\/q.kind=3\/q.kind=4
 case neg=>have k2:¬((q.kind:Int)=2):=ah;have k3:¬((q.kind:Int)=3):=ah;have k4:¬((q.kind:Int)=4):=ah;simp+decide-dsimp only[f19,go_sem,k2,k3,k4];exact stop _
 have R:q.v.R:=⟨qN,rfl,rfl⟩;have key:∀(b2 b3 b4:Bool),decide ((q.kind:Int)=2)=b2->decide ((q.kind:Int)=3)=b3->decide ((q.kind:Int)=4)=b4->(b2||b3||b4)=true->W prog xt T19 (f19.body.getD .skip) (Fin prog [.tmp 4] λw h' nx'=>∃d':Wd,d'.wb=d.wb/\d'.ok (k+1) h' nx'/\(∀b,d'.all b->m<=b)/\aH m h h') (ey [.ptr d.wb 0,q.v.av] 0 .nil) h nx:=by
  intro b2 b3 b4 c2 c3 c4 hb;have hq:(b2=true)\/(b2=false/\b3=true)\/(b2=false/\b3=false/\b4=true):=by revert hb;cases b2<;>cases b3<;>cases b4<;>decide
  clear hb;rcases hq with rfl|⟨rfl,rfl⟩|⟨rfl,rfl,rfl⟩
  case' inl=>simp+decide-dsimp only[f19,go_sem,c2,fj,fB]
  case' inr.inl=>simp+decide-dsimp only[f19,go_sem,c2,c3,fj,fB]
  case' inr.inr=>simp+decide-dsimp only[f19,go_sem,c2,c3,c4,fj,fB]
  all_goals
   refine aZ (a49 q.v R) ?_;cases hr:A7 q.v with
   |true=>simp+decide-dsimp only[go_sem];exact stop _
   |false=>
    simp+decide-dsimp only[go_sem];generalize hH0:aK h nx _=H0;have o0:d.ok k H0 (nx+1):=o.to (λb hb=>by rw[<-hH0,aj,ak ah]) ah (an _);have g0:au H0 nx=some (.cells q.v.cells 40):=by rw[<-hH0,aj,aw rfl]
    have af9:∀b,b<nx->au H0 b=au h b:=λb hb=>by rw[<-hH0,aj,ak ah]
    refine cf (a50 o0.w o0.s o0.sA (by have:=o0.bn.len;have:=o0.bn.vW;omega) (λx hx=>(o0.P.all x hx).c) q.key) ?_;rintro w h' nx' hle ⟨hwv,rfl,rfl⟩;rcases hwv with rfl|⟨x,hx,rfl⟩
    .simp+decide-dsimp only[go_sem];rw[<-hH0];exact stop _
    have px:=o0.P.all x hx;obtain⟨n,hnk,hxw⟩:=px.wd;have Sw:=px.np (.inl rfl);have hxl:x.xb<nx:=(o.P.all x hx).xl;have d1:¬(nx=x.xb):=ah;simp+decide-dsimp only[go_sem];refine bm (a51 x px.c) ?_;simp+decide-dsimp only[go_sem];refine nZ (a52 ah x hxw px.c) ?_;simp+decide-dsimp only[go_sem,g0,d1];have gx1:au (aK h' x.xb (.cells ({x with w:=4*n+1}:Pt).cells 160)) x.xb=some (.cells ({x with w:=4*n+1}:Pt).cells 160):=gl;have W1:x.T.W d.p (aK h' x.xb (.cells ({x with w:=4*n+1}:Pt).cells 160)) (nx+1):=px.w.aX (λb hb=>by
     rw[aj,ak];rintro rfl;rcases hb with q|q|q|q
     .exact px.nox q
     .exact Sw.1 q
     .exact Sw.2.1 q
     .exact Sw.2.2 q) (an _)
    refine cf (a53 ({x with w:=4*n+1}:Pt) gx1 (by show x.xb<nx+1;omega) (by show au _ x.ib=_;rw[aj,ak px.ne];exact px.i) px.il px.ne W1 px.nox Sw (k:=k) ah px.ok q.v R) ?_;rintro w2 h2 dU ZT ⟨⟨ac,af,aa,av,rfl⟩,wr,T',p',t1,t2,t3,W',S,J'⟩;obtain⟨d2,o2,amk,ks2,kb2,e1,e2,e3,e4,e5,e6,e7,e8,e9⟩:=o0.wr hx hnk (wr:=wr) ZT t1 t2 W' S (λb hb wG=>by rw[aj,ak hb,aj,ak hb]) J';obtain⟨wb2,eb2,mb2,ep2,rb2,rx2,sb2,anW,A2,hv2,anX,anU,p2,xs2,aoa,N2⟩:=d2;dsimp only at e1 e2 e3 e4 e5 e6 e7 e8 e9;subst e1 e2 e3 e5 e7 e8 e9;have alt:∀b,d.all b->b<nx:=λb hb=>by
     rcases hb with q|q;.exact o.lt b q
     .exact o.P.lt q
    have gq2:au h2 nx=some (.cells q.v.cells 40):=by rw[ks2 nx ah (λq=>by have:=alt _ q;omega)];exact g0
    have d2:¬(nx=dU):=ah;have d3:¬(dU=nx):=ah;simp+decide-dsimp only[go_sem,gq2,d2,reduceAdd];generalize hH3:aK (aK h2 dU _) dU _=H3;have k3:∀b,b<dU->au H3 b=au h2 b:=λb hb=>by rw[<-hH3,aj,ak ah,aj,ak ah]
    have g3:au H3 dU=some (.cells (BZ ac af aa av) 125):=by rw[<-hH3,aj,aw rfl]
    clear hH3;have lb:∀b,d.bJ b->b<dU:=λb hb=>by have:=o.lt b hb;omega
    have kb3:∀b,d.bJ b->au H3 b=au h' b:=λb hb=>by rw[k3 b (lb b hb),kb2 b hb]
    have hw3:=(kb3 _ (.inl rfl)).trans o0.w;have ho3:Own evc 129 13 H3 d.hv d.KW:=o0.hv.aX λb hb=>kb3 b (.inr (.inr (.inr (.inr (.inr (.inr hb))))));have iq:=o0.vW;refine cf (a54 hw3 ho3 (λb hb=>⟨aY _,by have:=(o0.lB b hb).2;omega⟩) ah q.v R (by have:=lb _ (.inl rfl);omega)) ?_;rintro w4 H4 Ie an0 ⟨ev1,hv4,O9,rfl,gw4,ov4,in4,k4⟩;obtain⟨u1,u2⟩:=ov4.cells;have bw:∀b t cs,au h' b=some (.cells cs t)->t≠35->t≠129->b≠d.wb/\bZ d.hv≠some b:=λb t cs hb h1 h2=>⟨eO hb o0.w h1,λe=>by obtain⟨A,hA⟩:=o0.hv.bJ e;exact eO hb hA h2 rfl⟩;have g4:au H4 dU=some (.cells (BZ ac af aa av) 125):=by rw[k4 _ ah (by have:=lb _ (.inl rfl);omega) (λe=>by have:=(o0.lB _ e).2;omega)];exact g3
    have d4:¬(d.wb=Ie+11):=by have:=lb _ (.inl rfl);omega
    have d5:¬(dU=Ie+11):=ah;simp+decide-dsimp only[go_sem,T19,gw4,g4,d4,d5,cr,cB,reduceAdd,reduceMul];refine mY (c:=evc) (ov4.aX λb e=>?_) (λe=>e.len) (λe=>e.N5) [⟨u8 2::i6 O9::([u8 0,bR [],bR [],bR [],bQ false,bQ false,.g (.slice none 0 0)]++BZ ac af aa av),rfl,rfl⟩,⟨u8 3::i6 O9::([u8 0,bR [],bR [],bR [],bQ false,bQ false,.g (.slice none 0 0)]++BZ ac af aa av),rfl,rfl⟩] (by rw[aq];show d.KW.length+1+2<_;omega) ?_
    .rw[aj,ak];rintro rfl;rcases in4 _ e with q|q
     .have:=(o0.lB _ q).2;omega
     .omega
    rintro hv5 H5 Yt hn5 ov5 in5 k5;have an9:Ie+11<Yt:=aP (Gp bN _) hn5;obtain⟨u3,u4⟩:=ov5.cells;have ne4:∀b,b<dU->(∃t cs,au h' b=some (.cells cs t)/\t≠35/\t≠129)->b≠d.wb/\bZ d.hv≠some b/\bZ hv4≠some b:=λb hb ⟨t,cs,h1,h2,h3⟩=>⟨(bw b t cs h1 h2 h3).1,(bw b t cs h1 h2 h3).2,λe=>by
     rcases in4 _ e with q|q;.exact(bw b t cs h1 h2 h3).2 q
     .omega⟩
    have akT:bZ hv4≠some d.wb:=λe=>by obtain⟨A,hA⟩:=ov4.bJ e;exact eO hA gw4 bN rfl
    have k5':∀b,b<Ie->bZ hv4≠some b->au H5 b=au H4 b:=λb hb wG=>by rw[k5 b (aP hb (gh _ _)) wG,aj,ak ah]
    have wlt:=lb _ (.inl rfl);have g5:au H5 d.wb=some (.cells (wB d.eb d.mb d.p.pb d.sb d.xs.length d.cap hv4 O9) 35):=by rw[k5' _ ah akT];exact gw4
    have gx2:au h2 x.xb=some (.cells ({x with w:=4*n+1,wr:=wr}:Pt).cells 160):=by rw[S.aX _ px.xl px.nox Sw.1 Sw.2.1 Sw.2.2,aj,aw rfl]
    obtain⟨cm,aj5,nx3⟩:=ne4 x.xb ah ⟨_,_,px.c,bN,bN⟩;have gx5:au H5 x.xb=some (.cells ({x with w:=4*n+1,wr:=wr}:Pt).cells 160):=by rw[k5' _ ah nx3,k4 _ ah cm aj5,k3 _ ah];exact gx2
    simp+decide-dsimp only[go_sem,g5,u3,u4];have gx6:∀ob,au (aK H5 d.wb ob) x.xb=some (.cells ({x with w:=4*n+1,wr:=wr}:Pt).cells 160):=λob=>by rw[aj,ak cm];exact gx5
    refine bm (a51 ({x with w:=4*n+1,wr:=wr}:Pt) (gx6 _)) ?_;simp+decide-dsimp only[go_sem];refine nZ (a55 (n:=n) ah ({x with w:=4*n+1,wr:=wr}:Pt) rfl (gx6 _)) ?_;simp+decide-dsimp only[go_sem];have afo:∀b,b<dU->bZ d.hv≠some b->bZ hv4≠some b:=λb hb h1 h2=>by
     rcases in4 _ h2 with q|q;.exact h1 q
     .omega
    obtain⟨oF,agW⟩:=o2.ev (h':=aK (aK H5 d.wb (.cells (wB d.eb d.mb d.p.pb d.sb d.xs.length d.cap hv5 O9) 35)) x.xb (.cells ({x with wr:=wr,w:=4*(n+1)}:Pt).cells 160)) (nx':=Yt) (hv':=hv5) (nxt':=O9) (evs':=_) ah
     (λb hb q1 q2=>by
      by_cases e:b=x.xb;.rw[aj,aw e,aj,aw e]
      .have l4:b<Ie:=ah;rw[aj,ak e,aj,ak q1,k5' _ l4 (afo b hb q2),k4 _ ah q1 q2,k3 _ hb,aj,ak e])
     (by show au _ d.wb=some (.cells (wB d.eb d.mb p2.pb d.sb xs2.length d.cap hv5 O9) 35);rw[aj,ak (λe=>cm e.symm),aj,aw rfl,e4,e6])
     (ov5.aX λb hb=>by obtain⟨A,hA⟩:=ov5.bJ hb;rw[aj,ak (eO hA gx5 bN),aj,ak (eO hA g5 bN)])
     (λb hb=>by
      rcases in5 b hb with q|q
      .rcases in4 b q with q|q;.exact .inl q
       .exact .inr ⟨ah,ah⟩
      .exact .inr ⟨by have:=gi (gh Ie _) q.1;omega,q.2⟩)
     (by rw[aq,aq];show d.KW.length+1+2<=_;omega)
    refine⟨_,?_,oF,λb hb=>?_,λb hb=>?_⟩;.rfl
    .dsimp only at agW;rcases agW b hb with q|q
     .rcases amk b q with q|q;.exact ab b q
      .omega
     .omega
    .have na:¬d.all b:=λq=>by have:=ab b q;omega
     have n1:b≠x.xb:=λe=>na (.inr (.inl ⟨x,hx,.inl e⟩));have n2:b≠d.wb:=λe=>na (.inl (.inl e));have n3:bZ d.hv≠some b:=λe=>na (.inl (.inr (.inr (.inr (.inr (.inr (.inr e)))))));rw[aj,ak n1,aj,ak n2,k5' _ ah (afo b ah n3),k4 _ ah n2 n3,k3 _ ah,ks2 b ah na,af9 b ah]
 refine key _ _ _ rfl rfl rfl ?_;rcases qN with e|e|e<;>rw[e]<;>rfl
theorem BQ{a:ba}(h:k<a.length):a=a.take k++a.getD k 0::a.drop (k+1):=by rw[az,aF h,eK,<-da h,bY]
theorem Mw{a b:ba}(h:a.take k=b.take k)(ha:k<a.length)(hb:k<b.length)(cx:¬a.getD k 0=b.getD k 0):a<b↔a.getD k 0<b.getD k 0:=by
 generalize hx:a.getD k 0=x at cx⊢;generalize hy:b.getD k 0=y at cx⊢;rw[BQ ha,BQ hb,h,Cm,du,hx,hy];constructor
 .rintro(q|⟨q,_⟩);.exact q
  .exact absurd q cx
 .exact .inl
theorem uh{a b:ba}(h:a.take k=b.take k)(hk:k=a.length\/k=b.length):a<b↔a.length<b.length:=by
 rcases hk with rfl|rfl
 .rw[aD (an _)]at h;rw[h];by_cases hl:a.length<b.length
  .simp only[ax,bM (dP hl),hl,iff_true]
   conv=>rhs;rw[BQ hl]
   conv=>lhs;rw[<-cD (List.take a.length b)]
   rw[Cm];simp
  .rw[aD ah];simp[cw]
 .rw[aD (l:=b) (an _)]at h;constructor
  .intro db;exfalso;rw[<-h]at db;have e:a=a.take b.length++a.drop b.length:=(bY _ _).symm;have ahY:a.take b.length++a.drop b.length<a.take b.length++[]:=by rw[bY,cD];exact db
   rw[Cm]at ahY;exact kj ahY
  .intro hl;exfalso;have:=fN List.length h;rw[ax]at this;omega
def TLs:Nat->cU:=λid=>if id=4 then[(z6,[],none)]else if id=5 then[(z6,[],some 7),([],[],none)]else[]
theorem a81(a b:ba)(ha:a.length<60000)(hb:b.length<60000):bo 81 [bR a,bR b] (bQ (decide (a<b))):=by
 refine bo.ac 2 TLs func81 λh nx=>?_;simp+decide-dsimp only[f81,go_sem];refine cL _ _ (λm s h' nx'=>∃k,k<=a.length/\k<=b.length/\m=a.length-k/\a.take k=b.take k/\ao s 0=bR a/\ao s 1=bR b/\ao s 5=int k/\h'=h/\nx<=nx') (n:=a.length) ?_ ?_;.simp+decide-dsimp only[go_sem];exact⟨0,aY _,aY _,rfl,rfl,rfl⟩
 rintro m s h' nx' ⟨k,k1,k2,rfl,hk,s0,s1,s5,rfl,l1⟩;by_cases h1:k<a.length
 .have jj:(k:Int)<(a.length:Int):=ah;by_cases h2:k<b.length
  .have nU:(k:Int)<(b.length:Int):=ah;have w:k+1<9223372036854775808:=ah;by_cases h3:a.getD k 0=b.getD k 0
   .simp+decide-dsimp only[go_sem,TLs,s0,s1,s5,h1,jj,h2,nU,h3,w];have e1:a.take (k+1)=a.take k++[a.getD k 0]:=by rw[b9 h1];simp[List.getD,h1]
    have e2:b.take (k+1)=b.take k++[b.getD k 0]:=by rw[b9 h2];simp[List.getD,h2]
    exact⟨a.length-(k+1),ah,k+1,h1,h2,rfl,by rw[e1,e2,hk,h3],rfl,ah⟩
   .have x8:¬(((a.getD k 0).toNat:Int)=((b.getD k 0).toNat:Int)):=λe=>h3 (eA.1 (Ib.1 e));simp+decide-dsimp only[go_sem,TLs,s0,s1,s5,h1,jj,h2,nU,x8];exact .dT .refl .cA (by rw[eW.2 ((Mw hk h1 h2 h3).trans cW)])
  .have nU:¬(k:Int)<(b.length:Int):=ah;simp+decide-dsimp only[go_sem,s0,s1,s5,jj,nU];exact .dT .refl .cA (by rw[eW.2 (uh hk (.inr ah))])
 .have jj:¬(k:Int)<(a.length:Int):=ah;simp+decide-dsimp only[go_sem,s0,s1,s5,jj];exact .dT .refl .cA (by rw[eW.2 (uh hk (.inl ah))])
theorem a96(a b:ba)(ha:a.length<60000)(hb:b.length<60000):bo 96 [bR a,bR b] (bQ (decide (a<b))):=by
 refine bo.ac 2 TLs func96 λh nx=>?_;simp+decide-dsimp only[f96,go_sem];refine cL _ _ (λm s h' nx'=>∃k,k<=a.length/\k<=b.length/\m=a.length-k/\a.take k=b.take k/\ao s 0=bR a/\ao s 1=bR b/\ao s 5=int k/\h'=h/\nx<=nx') (n:=a.length) ?_ ?_;.simp+decide-dsimp only[go_sem];exact⟨0,aY _,aY _,rfl,rfl,rfl⟩
 rintro m s h' nx' ⟨k,k1,k2,rfl,hk,s0,s1,s5,rfl,l1⟩;by_cases h1:k<a.length
 .have jj:(k:Int)<(a.length:Int):=ah;by_cases h2:k<b.length
  .have nU:(k:Int)<(b.length:Int):=ah;have w:k+1<9223372036854775808:=ah;by_cases h3:a.getD k 0=b.getD k 0
   .simp+decide-dsimp only[go_sem,TLs,s0,s1,s5,h1,jj,h2,nU,h3,w];have e1:a.take (k+1)=a.take k++[a.getD k 0]:=by rw[b9 h1];simp[List.getD,h1]
    have e2:b.take (k+1)=b.take k++[b.getD k 0]:=by rw[b9 h2];simp[List.getD,h2]
    exact⟨a.length-(k+1),ah,k+1,h1,h2,rfl,by rw[e1,e2,hk,h3],rfl,ah⟩
   .have x8:¬(((a.getD k 0).toNat:Int)=((b.getD k 0).toNat:Int)):=λe=>h3 (eA.1 (Ib.1 e));simp+decide-dsimp only[go_sem,TLs,s0,s1,s5,h1,jj,h2,nU,x8];exact .dT .refl .cA (by rw[eW.2 ((Mw hk h1 h2 h3).trans cW)])
  .have nU:¬(k:Int)<(b.length:Int):=ah;simp+decide-dsimp only[go_sem,s0,s1,s5,jj,nU];exact .dT .refl .cA (by rw[eW.2 (uh hk (.inr ah))])
 .have jj:¬(k:Int)<(a.length:Int):=ah;simp+decide-dsimp only[go_sem,s0,s1,s5,jj];exact .dT .refl .cA (by rw[eW.2 (uh hk (.inl ah))])
variable{A:List AV}{i:Nat}{los:List ba}
def T41:Nat->cU:=λid=>if id=6 then[(z12,[],some 13),([14],[],none)]else if id=8 then[(z14,[],none)]else[]
structure DI(los:List ba):Prop where
 fst:los.getD 0 []=[]
 one:0<los.length
 up:los.Pairwise (· < ·)
 sm:∀s∈los,s.length<=500
theorem DI.ins(o:DI los){t:ba}(ht:t.length<=500)(hi:i<=los.length)(h1:∀j,j<i->los.getD j []<t)(h2:i<los.length->¬los.getD i []<t/\los.getD i []≠t):DI (los.take i++[t]++los.drop i):=by
 have up:(los.take i++los.drop i).Pairwise (· < ·):=by rw[bY];exact o.up
 obtain⟨u1,u2,u3⟩:=im.1 up;have a1:∀a∈los.take i,a<t:=λa ha=>by obtain⟨j,hj,rfl⟩:=List.getElem_of_mem ha;rw[ax]at hj;have:=h1 j ah;rw[List.getElem_take];rw[az,aF ah,eK]at this;exact this
 have a2:∀b∈los.drop i,t<b:=λb hb=>by
  have db:i<los.length:=by
   rcases bg i los.length with q|q;.exact q
   .rw[aT q]at hb;cases hb
  obtain⟨n1,n2⟩:=h2 db;have h0:t<los.getD i []:=by
   rcases jD (los.getD i []) t with q|q|q;.exact absurd q n1
   .exact absurd q n2
   .exact q
  rw[da db]at hb u2;have e:los.getD i []=los[i]:=by rw[az,aF db,eK]
  rw[e]at h0;rcases bE.1 hb with rfl|hb
  .exact h0
  .exact dZ h0 ((dS.1 u2).1 b hb)
 refine⟨?_,fE,?_,λs hs=>?_⟩
 .have hi0:0<i:=by
   rcases qd i with rfl|q
   .obtain⟨n1,n2⟩:=h2 o.one;rw[o.fst]at n1 n2;rcases jD [] t with q|q|q;.exact absurd q n1
    .exact absurd q n2
    .exact absurd q kj
   .exact q
  have:=o.fst;obtain⟨x,xs,rfl⟩:∃x xs,los=x::xs:=by
   cases los with
   |nil=>have:=o.one;simp at this
   |cons x xs=>exact⟨x,xs,rfl⟩
  obtain⟨j,rfl⟩:∃j,i=j+1:=⟨i-1,ah⟩;simpa using this
 .rw[ay];refine im.2 ⟨u1,dS.2 ⟨a2,u2⟩,λa ha b hb=>?_⟩;rcases bE.1 hb with rfl|hb
  .exact a1 a ha
  .exact u3 a ha b hb
 .rcases bp.1 hs with hs|hs
  .rcases bp.1 hs with hs|hs;.exact o.sm s (ef hs)
   .rw[aR.1 hs];exact ht
  .exact o.sm s (ir hs)
theorem Je(hA:A.take (los.length*1)=los.flatMap fH)(hk:k<los.length):iW (k*1) A=some (bR (los.getD k [])):=by
 have e1:(los.flatMap fH)[k]?=some (bR (los.getD k [])):=by
  have:los.flatMap fH=los.map bR:=by
   clear hA hk
   induction los with
   |nil=>rfl
   |cons x xs ih=>rw[bG,ih];rfl
  rw[this,ff,az,aF hk];rfl
 rw[<-hA,gK ah]at e1;rw[cJ,kr];exact e1
theorem a41(l:List ba)(hl:l.length<=100)(hs:∀s∈l,s.length<=500)(h:aG)(nx:Nat):
 aA prog 41 [strs l] h nx λw h' nx'=>∃los,Own fH 9 1 h' w los/\In nx nx' w/\DI los/\los.length<=12/\aH nx h h':=by
 refine aA.ac 1 T41 func41 ?_;simp+decide-dsimp only[f41,go_sem];refine cL _ _ (λm s h' nx'=>∃k los v,k<=l.length/\m=l.length-k/\ao s 0=strs l/\ao s 3=v/\ao s 4=int k/\Own fH 9 1 h' v los/\In nx nx' v/\DI los/\los.length<=12/\aH nx h h'/\nx<=nx') (n:=l.length) ?_ ?_;.simp+decide-dsimp only[go_sem];refine⟨0,[[]],_,aY _,rfl,rfl,rfl,.inr ⟨nx,1,_,rfl,gl,an _,rfl,rfl⟩,.sl (an _) (aW _),⟨rfl,bN,bL,bL⟩,bN,aH.refl.set (an _)⟩
 rintro m s h' nx' ⟨k,los,v,q1,rfl,s0,s3,s4,ho,lB,L,CB,S0,l1⟩;obtain⟨b,cap,A,rfl,hA,g1,g2,g3⟩:=ho.sl L.one;by_cases h1:k<l.length
 .have jj:(k:Int)<(l.length:Int):=ah;by_cases h2:los.length<12
  .have nU:(los.length:Int)<12:=ah;simp+decide-dsimp only[go_sem,s0,s3,s4,jj,nU];refine cL _ _ (λm s J4 CN=>∃i,i<=los.length/\m=los.length-i/\(∀j,j<i->los.getD j []<l.getD k [])/\ao s 0=strs l/\ao s 3= .sl b 0 los.length cap/\ao s 4=int k/\ao s 5=int i/\J4=h'/\nx'<=CN) (n:=los.length) ?_ ?_;.simp+decide-dsimp only[go_sem,s0,s3,s4];exact⟨0,aY _,rfl,λj hj=>ah,rfl⟩
   clear s0 s3 s4;rintro m s J4 CN ⟨i,q2,rfl,hj,s0,s3,s4,s5,rfl,l2⟩;have amo:∀j,j<los.length->(los.getD j []).length<60000:=λj hj=>by have:=L.sm _ (iX (d:=[]) hj);omega
   have ht:=hs _ (iX (d:=[]) h1);have XA:k+1<9223372036854775808:=ah;rcases bg i los.length with h3|h3
   case' inl=>
    have x8:(i:Int)<(los.length:Int):=ah;have nt:=Je g3 h3;simp+decide-dsimp only[go_sem,T41,s0,s3,s4,s5,h3,x8,h1,hA,nt];refine aZ (a81 _ _ (amo i h3) (mu ht bN)) ?_;rcases Decidable.em (los.getD i []<l.getD k [])with h4|h4
    case' inl=>
     have h4':=aM h4;have w:i+1<9223372036854775808:=ah;simp+decide-dsimp only[go_sem,s0,s3,s4,s5,h4',w];refine⟨los.length-(i+1),ah,i+1,h3,rfl,λj hj2=>?_,rfl,ah⟩;rcases bg j i with q|q
     .exact hj j q
     .rw[show j=i from ah];exact h4
    case' inr=>
     have h4':=aU h4;rcases Decidable.em (los.getD i []=l.getD k [])with h5|h5
     case' inl=>have h5':=aM h5;simp+decide-dsimp only[go_sem,T41,s0,s3,s4,s5,h1,h3,x8,h4',h5',hA,nt,XA];exact⟨l.length-(k+1),ah,k+1,los,_,h1,rfl,rfl,rfl,ho,λb' gC=>⟨(lB b' gC).1,by have:=(lB b' gC).2;omega⟩,L,CB,S0,ah⟩
     case' inr=>have h5':=aU h5;simp+decide-dsimp only[go_sem,T41,s0,s3,s4,s5,h1,h3,x8,h4',h5',hA,nt,XA]
   case' inr=>have x8:¬(i:Int)<(los.length:Int):=ah;simp+decide-dsimp only[go_sem,T41,s0,s3,s4,s5,x8,XA]
   all_goals
    have mS:i<los.length->¬los.getD i []<l.getD k []/\los.getD i []≠l.getD k []:=λq=>by
     first
     |exact⟨h4,h5⟩
     |exact absurd q ah
    have bl:b<nx':=(lB b rfl).2;have L2:=L.ins ht q2 hj mS;obtain⟨k1,hk1⟩:∃k1,k1=los.take i:=⟨_,rfl⟩;obtain⟨k2,yB⟩:∃k2,k2=los.drop i:=⟨_,rfl⟩;rw[<-hk1,<-yB]at L2;have QZ:k1.length=i:=by rw[hk1,ax];omega
    have alN:k2.length=los.length-i:=by rw[yB,aC]
    have shi:sv 1 b 0 los.length cap none (some (int i))=some (.sl b 0 k1.length cap):=by rw[Mx ah,QZ]
    have f1:de (k1.length*1) A=some (k1.flatMap fH):=by rw[bO _ _ ah,hk1,<-fg (n:=1) (λ_=>rfl),<-g3,bf,ax,bM ah,bM ah]
    obtain⟨off,slo,f2⟩:∃off,sv 1 b 0 los.length cap (some (int i)) none=some (.sl b off k2.length (cap-i))/\(ed off A).bind (de (k2.length*1))=some (k2.flatMap fH):=by
     rw[Ma q2,<-alN];refine⟨_,rfl,?_⟩;by_cases e:cap=i;.have:k2=[]:=List.length_eq_zero_iff.1 ah;rw[aw e,this,fS,aS];rfl
     .rw[ak e,eF _ _ ah,aS,bO _ _ (by rw[aC];omega),yB,<-dY (n:=1) (λ_=>rfl),<-g3,fW,aC,fx]
      congr 2;omega
    generalize rm:CN+Array.size _+Array.size _=nq;have nql:CN<=nq:=ah;clear rm;have JX:¬(b=nq):=ah;have kl1:k1.length<65536:=ah;have kl2:k2.length<65536:=ah;simp+decide-dsimp only[go_sem,shi,f1,JX,kl1,hA,cr,cB];have oe:Own fH 9 1 (aK J4 nq (.cells [] 9)) (.sl nq 0 0 0) []:= .inr ⟨nq,0,[],rfl,gl,an _,rfl,rfl⟩;refine mY (c:=fH) oe (λ_=>rfl) (λ_=>rfl) k1 (by show 0+k1.length<_;omega) ?_;rintro v1 H1 n1 w1 o1 i1 Bf;have sC:au H1 b=some (.cells A 9):=by rw[Bf b ah (λe=>by injection e with e;omega),aj,ak JX];exact hA
    rw[ch]at o1;simp+decide-dsimp only[go_sem,s0,s4,h1,cr,cB,reduceMul];refine km (c:=fH) (o1.aX λb' e=>?_) (λ_=>rfl) (λ_=>rfl) ah (l.getD k []) ?_
    .rw[aj,ak];rcases i1 _ e with q|q
     .injection q with q;omega
     .omega
    rintro v2 H2 n2 w2 o2 i2 Gk;have hA2:au H2 b=some (.cells A 9):=by
     rw[Gk b ah (λe=>by
      rcases i1 _ e with q|q;.injection q with q;omega
      .omega),aj,ak ah];exact sC
    simp+decide-dsimp only[go_sem,s3,s5,hA2,slo,f2,kl2,cr,cB];have ll:(k1++[l.getD k []]).length=k1.length+1:=bL;refine mY (c:=fH) o2 (λ_=>rfl) (λ_=>rfl) k2 ah ?_;rintro v3 H3 n3 w3 o3 i3 KY;have uw:∀b',bZ v3=some b'->nq<=b'/\b'<n3:=λb' e=>by
     rcases i3 _ e with q|q
     .rcases i2 _ q with q|q
      .rcases i1 _ q with q|q;.injection q with q;omega
       .omega
      .omega
     .omega
    have ui:∀b',bZ v2=some b'->nq<=b':=λb' q=>by
     rcases i2 _ q with q|q
     .rcases i1 _ q with q|q;.injection q with q;omega
      .omega
     .omega
    have CH:∀b',bZ v1=some b'->nq<=b':=λb' q=>by
     rcases i1 _ q with q|q;.injection q with q;omega
     .omega
    have S3:aH nx h H3:=λb' gC=>by rw[KY b' ah (λe=>by have:=ui _ e;omega),Gk b' ah (λe=>by have:=CH _ e;omega),aj,ak ah,Bf b' ah (λe=>by injection e with e;omega),aj,ak ah];exact S0 b' gC
    have l3:(k1++[l.getD k []]++k2).length=los.length+1:=by rw[aq,ll];omega
    simp+decide-dsimp only[go_sem,s0,s3,s4,XA];exact⟨l.length-(k+1),ah,k+1,_,v3,h1,rfl,rfl,rfl,o3,λb' e=>⟨by have:=uw b' e;omega,(uw b' e).2⟩,L2,ah,S3,ah⟩
  .have nU:¬(los.length:Int)<12:=ah;simp+decide-dsimp only[go_sem,s0,s3,s4,jj,nU];exact⟨los,ho,lB,L,CB,S0⟩
 .have jj:¬(k:Int)<(l.length:Int):=ah;simp+decide-dsimp only[go_sem,s0,s3,s4,jj];exact⟨los,ho,lB,L,CB,S0⟩
variable{a:AV}{n:Nat}{t:TypeId}
theorem SR:fK n [a]=List.replicate n a:=by
 induction n with
 |zero=>rfl
 |succ n ih=>show a::fK n [a]=_;rw[ih];rfl
theorem Ta{e:TypeId}{bt:Nat}{v:Value}(hu:prog.underlying t=some (.slice e))(hs:cN prog e=some 1)(hb:kg prog e=some bt)(hz:dy prog e=some [v])(ha:a= .g v)(hbt:bt<=65536)(h:n<=65536):qp prog t (int n) (int n)=some (.pS (.cells (List.replicate n a) e) n n):=by unfold qp;rw[hu];show O7 prog e n n=_;unfold O7;rw[hs,hb,hz];show(if decide (n<=n)&&decide (n<=65536)&&decide (bt<=65536)&&([v].length==1)then some (QR.pS (.cells (fK n [.g v]) e) n n)else none)=_;rw[aM (an n),aM h,aM hbt,SR,ha];rfl
theorem aji(h:n<=4096):qp prog 134 (int n) (int n)=some (.pS (.cells (List.replicate n (u64 0)) 71) n n):=Ta aa6 afM aiU aiI rfl bN ah
theorem ajh(h:n<=4096):qp prog 135 (int n) (int n)=some (.pS (.cells (List.replicate n (bQ false)) 4) n n):=Ta abo ts4 tb4 tz4 rfl bN ah
theorem amV(h:n<=4096):qp prog 32 (int n) (int n)=some (.pS (.cells (List.replicate n (.g (.pointer none))) 78) n n):=Ta Ki JJ YT Ts rfl bN ah
def T42:Nat->cU:=λid=>if id=3 then[(z6,[1,3],some 7),([],[],none)]else[]
theorem a42(n:Nat)(h1:1<=n)(h2:n<=4096)(h:aG)(nx:Nat):
 aA prog 42 [int n] h nx λw h' nx'=>∃p:bj,w= .dN [.ptr p.pb 0,i6 0]/\p.ok h' nx'/\p.fr.count true=n/\aH nx h h'/\nx<=p.pb/\nx<=p.gb/\nx<=p.fb:=by
 refine aA.ac 1 T42 func42 ?_;have c1:¬((n:Int)<1):=ah;have c2:¬((4096:Int)<(n:Int)):=ah;have m1:=aji h2;have m2:=ajh h2;simp+decide-dsimp only[f42,go_sem,T42,c1,c2,m1,m2];generalize hA:aK (aK (aK h (nx+1) _) (nx+3) _) (nx+6) _=A;have SA:aH nx h A:=by rw[<-hA];exact jh
 have a1:au A (nx+1)=some (.cells (List.replicate n (u64 0)) 71):=by rw[<-hA,aj,ak ah,aj,ak ah,aj,aw rfl]
 have a3:au A (nx+3)=some (.cells (List.replicate n (bQ false)) 4):=by rw[<-hA,aj,ak ah,aj,aw rfl]
 have a6:au A (nx+6)=some (.cells [.sl (nx+1) 0 n n,.sl (nx+3) 0 n n,int n] 137):=by rw[<-hA,aj,aw rfl]
 clear hA;generalize hq:nx+Array.size _=nq;have rm:nx+7<=nq:=by rw[<-hq];exact eI bN _
 clear hq;have put:∀(a b:AV) (i:Nat),i<n->dJ (i*1) (List.replicate i a++List.replicate (n-i) b) [a]=some (List.replicate (i+1) a++List.replicate (n-(i+1)) b):=λa b i hi=>by rw[cJ,cp _ _ _ fE,tI bL,iz,aT bL,ch,mX,gG,List.drop_replicate,List.replicate_succ',show n-i-(i+1-i)=n-(i+1)by omega]
 refine cL _ _ (λm s h' nx'=>∃i,i<=n/\m=n-i/\ao s 4= .ptr (nx+6) 0/\ao s 19=int n/\ao s 20=int i/\(aH nx h h'/\au h' (nx+1)=some (.cells (List.replicate i (u64 1)++List.replicate (n-i) (u64 0)) 71)/\au h' (nx+3)=some (.cells (List.replicate i (bQ true)++List.replicate (n-i) (bQ false)) 4)/\au h' (nx+6)=some (.cells [.sl (nx+1) 0 n n,.sl (nx+3) 0 n n,int n] 137))/\nx+7<=nx') (n:=n) ?_ ?_;.simp+decide-dsimp only[go_sem];exact⟨0,aY _,rfl,rfl,⟨SA,a1,a3,a6⟩,rm⟩
 rintro m s h' nx' ⟨i,hi,rfl,s4,s19,s20,⟨S0,g1,g3,g6⟩,l1⟩;have d31:¬(nx+3=nx+1):=ah;have d61:¬(nx+6=nx+1):=ah;have d63:¬(nx+6=nx+3):=ah;have d13:¬(nx+1=nx+3):=ah;by_cases db:i<n;.have p1:=put (u64 1) (u64 0) i db;have p2:=put (bQ true) (bQ false) i db;have w:i+1<9223372036854775808:=ah;simp+decide-dsimp only[go_sem,s4,s19,s20,g1,g3,g6,db,p1,p2,w,d31,d61,d63,d13];exact⟨n-(i+1),ah,i+1,db,rfl,rfl,⟨(S0.set ah).set ah,rfl,rfl⟩,ah⟩
 .have e:i=n:=ah;subst e;simp+decide-dsimp only[go_sem,s4,s19,s20,db];have hc:(List.replicate i true).count true=i:=bL;refine⟨⟨nx+6,nx+1,nx+3,List.replicate i 1,List.replicate i true⟩,rfl,⟨?_,?_,?_,bL,by simpa using h2,by show¬(nx+6=nx+1);omega,by show¬(nx+6=nx+3);omega,by show¬(nx+1=nx+3);omega,by show nx+6<_;omega,by show nx+1<_;omega,by show nx+3<_;omega⟩,hc,S0,by show nx<=nx+6;omega,by show nx<=nx+1;omega,by show nx<=nx+3;omega⟩;.show au _ (nx+6)=_;rw[g6,hc,mX]
  .show au _ (nx+1)=_;rw[g1,jM,List.map_replicate,Gs,cD];rfl
  .show au _ (nx+3)=_;rw[g3,jM,List.map_replicate];simp
theorem a43(h:aG)(nx:Nat):aA prog 43 [] h nx λw h' nx'=>w= .ptr nx 0/\nx'=nx+1/\h'=aK h nx (.cells [.g (.slice none 0 0),i6 0,i6 0,bQ false,bQ false] 96):=by refine aA.ac 0 T0 func43 ?_;simp+decide-dsimp only[f43,go_sem]
theorem a48(h:aG)(nx:Nat):aA prog 48 [] h nx λw h' nx'=>∃ep,w= .ptr ep 0/\nx<=nx'/\aH nx h h':=by refine aA.ac 0 T0 func48 ?_;simp+decide-dsimp only[f48,go_sem];exact⟨_,rfl,ah,(aH.refl.set (an _)).set (bz _)⟩
theorem a88(bq:Nat)(h:aG)(nx:Nat):aA prog 88 [.fn 89 [.ptr bq 0]] h nx λw h' nx'=>w= .ptr nx 0/\nx'=nx+1/\h'=aK h nx (.cells (fO 0 0 0 (.fn 89 [.ptr bq 0]) (.g (.pointer none))) 201):=by refine aA.ac 1 T0 func88 ?_;simp+decide-dsimp only[f88,go_sem]
theorem a47(ps:List AV)(h:aG)(nx:Nat):aA prog 47 [.fp ps] h nx λw h' nx'=>∃rb rx,w= .ptr rb 0/\pL h' nx' rb rx ps/\nx<=rb/\nx<=rx/\aH nx h h':=by refine aA.ac 1 T0 func47 ?_;simp+decide-dsimp only[f47,go_sem];refine cf (a88 nx _ _) ?_;rintro _ h' nx' hle ⟨rfl,rfl,rfl⟩;simp+decide-dsimp only[go_sem];refine⟨nx+1,nx,rfl,⟨.inl ⟨0,gl,by rw[aj,ak ah,aj,aw rfl]⟩,ah,ah⟩,ah,an _,(aH.refl.set (an _)).set (bz _)⟩
theorem a44(lo hi:ba)(last:Bool)(db:last=false->lo<hi)(kd:Nat)(qN:kd=1\/kd=2\/kd=3)(p:bj)(h:aG)(nx:Nat)(sg:p.ok h nx)(hc:p.fr.count true≠0):
 aA prog 44 [bR lo,bR hi,bQ last,u8 (kd:Nat),.ptr p.pb 0] h nx λw h' nx'=>∃(x:Pt) (p':bj),w= .dN [.ptr x.xb 0,i6 0]/\Gm x p' 0 h' nx'/\x.lo=lo/\x.last=last/\(last=false->x.hi=hi)/\(∀b,x.nW b->nx<=b)/\dA nx (λ_=>False) x.T.own (λ_=>False) x.T.sl p p' h h'/\p'.fr.count true+1=p.fr.count true:=by
 refine aA.ac 5 T0 func44 ?_;have fin:∀(rX:ba) (T:Tr) (p':bj) (ib:Nat) (h':aG) (nx':Nat),(last=false->rX=hi)->nx<=nx'->au h' ib=some (.cells (Cu T kd) 175)->nx<=ib->ib<nx'->¬T.own ib->T.W p' h' nx'->T.ok (⟨nx',ib,lo,rX,last,kd,0,0,0,T⟩:Pt).pk 0->dA nx (λ_=>False) T.own (λ_=>False) T.sl p p' h h'->p'.fr.count true+1=p.fr.count true->
  ∃(x:Pt) (p':bj),AV.dN [.ptr nx' 0,i6 0]= .dN [.ptr x.xb 0,i6 0]/\Gm x p' 0 (aK h' nx' (.cells (⟨nx',ib,lo,rX,last,kd,0,0,0,T⟩:Pt).cells 160)) (nx'+1)/\x.lo=lo/\x.last=last/\(last=false->x.hi=hi)/\(∀b,x.nW b->nx<=b)/\dA nx (λ_=>False) x.T.own (λ_=>False) x.T.sl p p' h (aK h' nx' (.cells (⟨nx',ib,lo,rX,last,kd,0,0,0,T⟩:Pt).cells 160))/\p'.fr.count true+1=p.fr.count true:=by
  intro rX T p' ib h' nx' hh hn g1 g2 g3 g4 W ok S C;refine⟨⟨nx',ib,lo,rX,last,kd,0,0,0,T⟩,p',rfl,⟨gl,aW _,?_,by show ib<nx'+1;omega,W.same (aH.refl.set (an _)) (bz _),λq=>by have q:T.own nx':=q;have:=W.lt q;omega,g4,ok,⟨0,an _,rfl⟩,qN⟩,rfl,rfl,hh,?_,⟨S.pb,S.gb,S.fb,S.fl,S.fr,S.bl,S.slt,λb hb q1 q2 q3 q4=>?_⟩,C⟩;.show au _ ib=_;rw[aj,ak ah];exact g1
  .rintro b (q|q|q);.have q:b=nx':=q;omega
   .have q:b=ib:=q;omega
   .exact(S.bl b q).resolve_left id
  .rw[aj,ak ah];exact S.aX b hb q1 q2 q3 q4
 cases last with
 |true=>
  simp+decide-dsimp only[f44,go_sem];refine cf (a83 kd qN p h nx sg hc (λy=>(!decide (y<lo))=true/\y.length<=24)) ?_;rintro _ h' nx' hle ⟨T,p',ib,rfl,g1,g2,g3,g4,W,hk,ok,S,C⟩;simp+decide-dsimp only[go_sem];have:(⟨nx',ib,lo,[],true,kd,0,0,0,T⟩:Pt).pk=λy=>(!decide (y<lo))=true/\y.length<=24:=by funext y;unfold Pt.pk Pt.has;simp
  obtain⟨x,p2,e1,e2,e3,e4,e5,e6,e7,e8⟩:=fin [] T p' ib h' nx' (λq=>by cases q) hle g1 g2 g3 g4 W (by rw[this];exact ok) S C;exact⟨x,p2,e1,e2,e3,e4,λq=>q.elim,e6,e7,e8⟩
 |false=>
  have hd:=aM (db rfl);simp+decide-dsimp only[f44,go_sem];refine aZ (a82 lo hi) ?_;simp+decide-dsimp only[go_sem,hd];refine cf (a83 kd qN p h nx sg hc (λy=>(!decide (y<lo)&&decide (y<hi))=true/\y.length<=24)) ?_;rintro _ h' nx' hle ⟨T,p',ib,rfl,g1,g2,g3,g4,W,hk,ok,S,C⟩;simp+decide-dsimp only[go_sem];have:(⟨nx',ib,lo,hi,false,kd,0,0,0,T⟩:Pt).pk=λy=>(!decide (y<lo)&&decide (y<hi))=true/\y.length<=24:=by funext y;unfold Pt.pk Pt.has;simp
  obtain⟨x,p2,e1,e2,e3,e4,e5,e6,e7,e8⟩:=fin hi T p' ib h' nx' (λq=>rfl) hle g1 g2 g3 g4 W (by rw[this];exact ok) S C;exact⟨x,p2,e1,e2,e3,e4,λ_=>e5 rfl,e6,e7,e8⟩
variable{N b cap:Nat}{nl:List ba}
def T46:Nat->cU:=λid=>if id=7 then[([0,1,2,3,4,5,6,7,8,9,10,11,12,13,14,15,17,18,19,20,21,22,23,24,25,26,27,28,29,30,31,32],[3,10,15,20,27],some 16),([],[20,27,32],some 33),([34,35],[],some 36),([],[],some 37),([],[],none)]else[]
theorem ajZ{ev ps}:fy prog ev 222 3 ps=fG 45 3 (fo (λi=>some (i*1,1)) ev ps [.g (.slice none 0 0),.g (.slice none 0 0),.g (.slice none 0 0)]):=ql aa5 aho ahF bN rfl
theorem afB{ev ps}:fy prog ev 224 3 ps=fG 32 3 (fo (λi=>some (i*1,1)) ev ps [.g (.slice none 0 0),.g (.slice none 0 0),.g (.slice none 0 0)]):=ql abc aeV af8 bN rfl
attribute[go_sem] ajZ afB
theorem NT{l:List ba}(h:i<=l.length):vq 1 l.length (l.flatMap fH) (some (int i)) none=some (strs (l.drop i)):=by
 have hl:((l.drop i).flatMap fH).length=(l.length-i)*1:=by rw[bT uZ,aC]
 have e1:fe l.length l.length none=some l.length:=rfl;simp only[vq,fe,lK,fX h];rw[ni uZ h];dsimp only;rw[bO _ _ ah,aD ah];simp[aC]
theorem Xu{l:List ba}(h:i<=l.length):vq 1 l.length (l.flatMap fH) none (some (int i))=some (strs (l.take i)):=by have e:(l.take i).flatMap fH=(l.flatMap fH).take (i*1):=(fg uZ l i).symm;have hl:(l.flatMap fH).length=l.length*1:=bT uZ l;simp only[vq,fe,lK,fX h,eN,fS,oI];rw[bO _ _ ah,<-e];simp[bM h]
theorem Kt{l:List (Pq N)}(h:i<=l.length):vq 1 l.length (l.flatMap cq) (some (int i)) none=some (IC (l.drop i)):=by
 have hl:((l.drop i).flatMap cq).length=(l.length-i)*1:=by rw[bT sV,aC]
 have e1:fe l.length l.length none=some l.length:=rfl;simp only[vq,fe,lK,fX h];rw[ni sV h];dsimp only;rw[bO _ _ ah,aD ah];simp[aC]
theorem Rg{l:List (Pq N)}(h:i<=l.length):vq 1 l.length (l.flatMap cq) none (some (int i))=some (IC (l.take i)):=by have e:(l.take i).flatMap cq=(l.flatMap cq).take (i*1):=(fg sV l i).symm;have hl:(l.flatMap cq).length=l.length*1:=bT sV l;simp only[vq,fe,lK,fX h,eN,fS,oI];rw[bO _ _ ah,<-e];simp[bM h]
attribute[go_sem] NT Xu Kt Rg
theorem a46{xs zs:List (Pq N)}(hl:los.length<20000)(hx:xs.length=los.length)(F:Fit los i n nl)(hz:zs.length=nl.length)(hm:los.length-n+nl.length<=16)(hN:N<=nx)(hA:au h b=some (.cells A 78))(V0:A.take zs.length=zs.flatMap cq)(hAl:zs.length<=A.length)(hbl:b<nx):
 aA prog 46 [CY los xs,int i,int n,strs nl,.sl b 0 zs.length cap] h nx (dr (.dN [CY (los.take i++nl++los.drop (i+n)) (xs.take i++zs++xs.drop (i+n)),i6 0]) h nx):=by
 have f1:=F.n1;have f2:=F.le;have cx:0<los.length:=ah;refine aA.pc 5 T46 func46 ?_;have c3:¬((16:Int)<((los.length-n+nl.length:Nat):Int)):=ah;have c5:((nl.length:Int)=(zs.length:Int)):=ah;have g1:i<=los.length:=ah;have g2:i<=xs.length:=ah;have g3:i+n<=xs.length:=ah;have s1:(los.take i).length+nl.length+(los.drop (i+n)).length<60000:=by rw[ax,aC];omega
 have s2:(xs.take i).length+zs.length+(xs.drop (i+n)).length<60000:=by rw[ax,aC];omega
 have d1:¬(b=nx+15):=ah;have d2:¬(b=nx+32):=ah;obtain⟨c1,c2,c4⟩:cF .i64 ((los.length:Int)-(n:Int))=((los.length-n:Nat):Int)/\cF .i64 (((los.length-n:Nat):Int)+(nl.length:Int))=((los.length-n+nl.length:Nat):Int)/\cF .i64 ((i:Int)+(n:Int))=((i+n:Nat):Int):=
  ⟨pC,pC,pC⟩
 simp+decide-dsimp only[f46,go_sem];refine aZ (a84 cx) ?_;simp+decide-dsimp only[go_sem,hz];refine aZ (a85 cx ah F) ?_;simp+decide-dsimp only[go_sem,T46,c1,c2,c3,c4,g1,g2,g3,f2];generalize hq:nx+Array.size _=nq;have rm:nx+33<=nq:=by rw[<-hq];exact eI bN _
 clear hq;generalize hB:aK (aK h (nx+15) _) (nx+32) _=B;have SB:aH nx h B:=by rw[<-hB];exact jh
 have b1:au B (nx+15)=some (.cells [strs (los.take i),strs nl,strs (los.drop (i+n))] 45):=by rw[<-hB,aj,ak ah,aj,aw rfl]
 have b2:au B (nx+32)=some (.cells [IC (xs.take i),.sl b 0 zs.length cap,IC (xs.drop (i+n))] 32):=by rw[<-hB,aj,aw rfl,hz]
 have b2n:au B (nx+32)=some (.cells [IC (xs.take i),.sl b 0 nl.length cap,IC (xs.drop (i+n))] 32):=by rw[b2,hz]
 have b3:au B b=some (.cells A 78):=by rw[SB b hbl];exact hA
 clear hB;refine bm (a86 (nx:=nq) _ _ _ s1 b1 ah) ?_;simp+decide-dsimp only[go_sem,b2n];refine bm (a87 (nx:=nq) _ _ _ s2 ah b3 V0 hAl ah b2 ah) ?_;simp+decide-dsimp only[go_sem];refine .dT ?_ (.jS (.ptr ah ((aj _ _ _ _).trans (aw rfl)) rfl (.cons (.cQ (show gU _ _ from qc (los.take i++nl++los.drop (i+n)))) (.cons (.cQ (show gU _ _ from Le hN (xs.take i++zs++xs.drop (i+n)))) .nil))) .cA) ?_;.exact SB.set ah
 .simp[aq,hz];omega
theorem a45(x:Pq N)(hN:N<=nx):aA prog 45 [Yj x] h nx (dr (CY [[]] [x]) h nx):=by
 refine aA.pc 1 T0 func45 ?_;have e:Yj x=(cq x).getD 0 (.e0):=by cases x<;>rfl
 cases x with
 |none=>simp+decide-dsimp only[f45,go_sem,Yj];refine .dT ?_ (.ptr ah ((aj _ _ _ _).trans (aw rfl)) rfl (.cons (.sl (q:=1) (an _) (((aj _ _ _ _).trans (ak ah)).trans (((aj _ _ _ _).trans (ak ah)).trans ((aj _ _ _ _).trans (aw rfl)))) rfl (an _) (.cons .bR .nil)) (.cons (.sl (q:=1) (bz _) (((aj _ _ _ _).trans (ak ah)).trans ((aj _ _ _ _).trans (aw rfl))) rfl (an _) (.cons .cA .nil)) .nil))) rfl;exact jh
 |some b=>simp+decide-dsimp only[f45,go_sem,Yj];refine .dT ?_ (.ptr ah ((aj _ _ _ _).trans (aw rfl)) rfl (.cons (.sl (q:=1) (an _) (((aj _ _ _ _).trans (ak ah)).trans (((aj _ _ _ _).trans (ak ah)).trans ((aj _ _ _ _).trans (aw rfl)))) rfl (an _) (.cons .bR .nil)) (.cons (.sl (q:=1) (bz _) (((aj _ _ _ _).trans (ak ah)).trans ((aj _ _ _ _).trans (aw rfl))) rfl (an _) (.cons (.cQ (show b.1<nx from ah)) .nil)) .nil))) rfl;exact jh
variable{h':aG}{nx':Nat}{p':bj}{xs:List Pt}
section
variable{P:Program}{h:aG}{t:TypeId}{x y:Operand}
theorem ZU{a:Nat}(ha:a<65536)(hb:0<b):cZ P h .rem t x y (int a) (int b)=some (int (a%b:Nat)):=by
 obtain⟨b,rfl⟩:∃c,b=c+1:=⟨b-1,ah⟩;have hm:a%(b+1)<=a:=Nat.mod_le _ _;have hr:br P (binOp .rem t (.int .i64 a) (.int .i64 ((b+1:Nat):Int)))=some (.int .i64 (a%(b+1):Nat)):=by show some (Value.int .i64 ((a:Int).tmod ((b+1:Nat):Int)))=_;rfl
 have hg:br P (do eqGuard .rem t x y (.int .i64 a) (.int .i64 ((b+1:Nat):Int));binOp .rem t (.int .i64 a) (.int .i64 ((b+1:Nat):Int)))=some (.int .i64 (a%(b+1):Nat)):=by unfold eqGuard;simp only[bX];exact hr
 have hs:iG P h .rem t x y (.g (.int .i64 a)) (.g (.int .i64 ((b+1:Nat):Int)))=some (.g (.int .i64 (a%(b+1):Nat))):=by show ke P .rem t x y (.int .i64 a) (.int .i64 ((b+1:Nat):Int))=_;unfold ke;rw[hg]
 unfold cZ;simp only[eD];exact hs
theorem aiX{a:Nat}(ha:a<256):cZ P h .rem t x y (u8 (a:Nat)) (u8 3)=some (u8 (a%3:Nat)):=by
 have hr:br P (binOp .rem t (.int .u8 a) (.int .u8 3))=some (.int .u8 (a%3:Nat)):=by show some (Value.int .u8 ((a:Int).tmod 3))=_;rfl
 have hg:br P (do eqGuard .rem t x y (.int .u8 a) (.int .u8 3);binOp .rem t (.int .u8 a) (.int .u8 3))=some (.int .u8 (a%3:Nat)):=by unfold eqGuard;simp only[bX];exact hr
 have hs:iG P h .rem t x y (.g (.int .u8 a)) (.g (.int .u8 3))=some (.g (.int .u8 (a%3:Nat))):=by show ke P .rem t x y (.int .u8 a) (.int .u8 3)=_;unfold ke;rw[hg]
 unfold cZ;simp only[eD];exact hs
end
attribute[go_sem] ZU aiX
abbrev GP(l:List UInt8):AV:=Jm jc l
theorem Qy{e:TypeId}{sz:TypeId->Option Nat}{l:List UInt8}(hk:k<l.length):rT (some (.slice e)) sz (GP l) (int k)=(sz e).bind λsize=>(ed (k*size) (l.flatMap jc)).map λl=> .val (.fp l):=sS hk
theorem Tx{l:List UInt8}(hk:k<l.length):ed (k*1) (l.flatMap jc)=some (u8 ((l.getD k default).toNat:Nat)::(l.drop (k+1)).flatMap jc):=by rw[ni (n:=1) (λ_=>rfl) (dP hk),KU hk];rfl
attribute[go_sem] Qy Tx
theorem amR(l:List ba)(hl:l.length<=100)(hs:∀s∈l,s.length<=500)(h:aG)(nx:Nat):
 aA prog 41 [strs l] h nx λw h' nx'=>(∃los,w=strs los/\DI los/\los.length<=12)/\h'=h/\nx'=nx:=by
 refine aA.sk (a41 l hl hs h nx) ?_;rintro v h' nx' ⟨los,o,lB,L,CB,S⟩;exact⟨S,_,o.fz lB (λx y hy=>by rw[aR.1 hy];exact trivial),los,rfl,L,CB⟩
theorem Dp.add{x:Pt}{p:bj}{h:aG}(o:Dp xs p 0 h nx)(o':Gm x p' 0 h' nx')(hf:∀b,x.nW b->nx<=b)(S:dA nx (λ_=>False) x.T.own (λ_=>False) x.T.sl p p' h h')(hn:nx<=nx'):Dp (xs++[x]) p' 0 h' nx':=by
 have pk:=o'.w.pk;refine⟨λy hy=>?_,pk,im.2 ⟨o.sep,zC _ _,λy hy z hz=>?_⟩⟩
 .rcases bp.1 hy with hy|hy;.have oy:=o.all y hy;exact oy.to (λb hb=>S.aX b (oy.lt hb) id (oy.np hb).1 (oy.np hb).2.1 (oy.np hb).2.2) pk S.pb S.gb S.fb S.fl (λs hs=>(S.fr s (oy.w.tk hs)).resolve_right id) hn (an _)
  .rw[aR.1 hy];exact o'
 .rw[aR.1 hz];have oy:=o.all y hy;refine⟨λb hb gC=>?_,λs hs qH=>?_⟩;.have:=oy.lt hb;have:=hf b gC;omega
  .have:=(S.slt s qH).resolve_left id;rw[oy.w.tk hs]at this;cases this
variable{cm dU mb pb wb xY:Nat}{h0 h1 h2:aG}
abbrev Hz(mb pb:Nat)(pv:AV):List AV:=[.g (.pointer none),.ptr mb 0,.ptr pb 0,pv,.g (.slice none 0 0),.g (.slice none 0 0),bQ false,i6 0]
structure Mid(los:List ba)(xY:Nat)(h0:aG)(wb mb pb cnt i:Nat)(h:aG)(nx:Nat)(xs:List Pt)(pv:AV)(p:bj):Prop where
 len:xs.length=i
 P:Dp xs p 0 h nx
 cn:p.fr.count true+i=cnt
 pe:p.pb=pb
 w:au h wb=some (.cells (Hz mb pb pv) 35)
 m:au h mb=some (.cells [.g (.slice none 0 0),i6 0,i6 0,bQ false,bQ false] 96)
 po:Own Ct 78 1 h pv xs
 pin:∀b,bZ pv=some b->xY<=b/\b<nx
 wo:∀x∈xs,∀b,x.T.own b->b≠wb/\b≠mb/\bZ pv≠some b
 wl:xY<=wb/\wb<nx/\xY<=mb/\mb<nx
 lo:∀j (h:j<xs.length),xs[j].lo=los.getD j []
 hi:∀j (h:j<xs.length),xs[j].last=decide (j+1=los.length)/\(j+1<los.length->xs[j].hi=los.getD (j+1) [])
 ft:∀x∈xs,∀b,x.nW b->xY<=b
 pl:xY<=p.pb/\xY<=p.gb/\xY<=p.fb
 same:aH xY h0 h
 le:xY<=nx
theorem Mid.step{cnt:Nat}{pv:AV}{p:bj}(o:Mid los xY h0 wb mb pb cnt i h nx xs pv p){x:Pt}{pv':AV}
 (ox:Gm x p' 0 h1 cm) (hf:∀b,x.nW b->nx<=b) (S:dA nx (λ_=>False) x.T.own (λ_=>False) x.T.sl p p' h h1) (hc:p'.fr.count true+1=p.fr.count true) (TY:nx<=cm)
 (xlo:x.lo=los.getD i []) (xhi:x.last=decide (i+1=los.length)/\(i+1<los.length->x.hi=los.getD (i+1) []))
 (k2:∀b,b<cm->bZ pv≠some b->au h2 b=au h1 b) (o2:Own Ct 78 1 h2 pv' (xs++[x])) (lB:∀b,bZ pv'=some b->bZ pv=some b\/(cm<=b/\b<dU)) (Gq:cm<=dU):
 Mid los xY h0 wb mb pb cnt (i+1) (aK h2 wb (.cells (Hz mb pb pv') 35)) dU (xs++[x]) pv' p':=by
 have P1:=o.P.add ox hf S TY;have l1:=o.P.pk.rY;have l2:=o.P.pk.ss;have l3:=o.P.pk.sr;obtain⟨w1,w2,w3,w4⟩:=o.wl;have pk:=o.P.pk;have LB:∀b,b<nx->b≠p.pb->b≠p.gb->b≠p.fb->au h1 b=au h b:=λb hb q1 q2 q3=>S.aX b hb id q1 q2 q3;have w_1:au h1 wb=some (.cells (Hz mb pb pv) 35):=by rw[LB wb w2 (eO o.w pk.a bN) (eO o.w pk.g bN) (eO o.w pk.f bN)];exact o.w
 have m_1:au h1 mb=some (.cells [.g (.slice none 0 0),i6 0,i6 0,bQ false,bQ false] 96):=by rw[LB mb w4 (eO o.m pk.a bN) (eO o.m pk.g bN) (eO o.m pk.f bN)];exact o.m
 have pvb:∀b,bZ pv=some b->b<nx/\∃A,au h b=some (.cells A 78):=λb hb=>⟨(o.pin b hb).2,o.po.bJ hb⟩;have pv1:∀b,bZ pv=some b->∃A,au h1 b=some (.cells A 78):=λb hb=>by obtain⟨q1,A,hA⟩:=pvb b hb;exact⟨A,by rw[LB b q1 (eO hA pk.a bN) (eO hA pk.g bN) (eO hA pk.f bN)];exact hA⟩
 have npv:∀b t cs,au h1 b=some (.cells cs t)->t≠78->bZ pv≠some b:=λb t cs hb ht e=>by obtain⟨A,hA⟩:=pv1 b e;exact eO hb hA ht rfl
 have w_2:au h2 wb=some (.cells (Hz mb pb pv) 35):=by rw[k2 wb ah (npv _ _ _ w_1 bN)];exact w_1
 have m_2:au h2 mb=some (.cells [.g (.slice none 0 0),i6 0,i6 0,bQ false,bQ false] 96):=by rw[k2 mb ah (npv _ _ _ m_1 bN)];exact m_1
 have xo:∀b,x.T.own b->nx<=b/\b<cm:=λb hb=>⟨hf b (.inr (.inr hb)),ox.w.lt hb⟩;have wo1:∀y∈xs++[x],∀b,y.T.own b->b≠wb/\b≠mb/\bZ pv≠some b:=λy hy b hb=>by
  rcases bp.1 hy with hy|hy;.exact o.wo y hy b hb
  .rw[aR.1 hy]at hb;have:=xo b hb;exact⟨ah,ah,λe=>by have:=(pvb b e).1;omega⟩
 have ks:∀b,(∃y∈xs++[x],y.nW b)\/b=p'.pb\/b=p'.gb\/b=p'.fb->au (aK h2 wb (.cells (Hz mb pb pv') 35)) b=au h1 b:=by
  intro b hb;have db:=P1.lt hb;have:b≠wb/\bZ pv≠some b:=by
   rcases hb with⟨y,hy,q|q|q⟩|q|q|q;.have py:=P1.all y hy;rw[q];exact⟨eO py.c w_1 bN,npv _ _ _ py.c bN⟩
   .have py:=P1.all y hy;rw[q];exact⟨eO py.i w_1 bN,npv _ _ _ py.i bN⟩
   .exact⟨(wo1 y hy b q).1,(wo1 y hy b q).2.2⟩
   .rw[q];exact⟨eO P1.pk.a w_1 bN,npv _ _ _ P1.pk.a bN⟩
   .rw[q];exact⟨eO P1.pk.g w_1 bN,npv _ _ _ P1.pk.g bN⟩
   .rw[q];exact⟨eO P1.pk.f w_1 bN,npv _ _ _ P1.pk.f bN⟩
  rw[aj,ak this.1,k2 b db this.2]
 have nwb:∀b,bZ pv'=some b->b≠wb:=λb hb=>by obtain⟨A,hA⟩:=o2.bJ hb;exact eO hA w_2 bN
 have el:∀j (h:j<(xs++[x]).length),(∃h':j<xs.length,(xs++[x])[j]=xs[j])\/(j=i/\(xs++[x])[j]=x):=λj h=>by
  by_cases e:j<xs.length;.exact .inl ⟨e,xZ e⟩
  .rw[aq]at h;have h:j<xs.length+1:=h;have:j=xs.length:=ah;subst this;exact .inr ⟨o.len,bL⟩
 refine⟨by rw[aq,o.len];rfl,P1.to ks Gq (an _),by have:=o.cn;omega,S.pb.trans o.pe,gl,by rw[aj,ak (eO m_2 w_2 bN)];exact m_2,o2.aX λb hb=>by rw[aj,ak (nwb b hb)],λb hb=>?_,λy hy b hb=>?_,⟨w1,ah,w3,ah⟩,λj h=>?_,λj h=>?_,λy hy b hb=>?_,by rw[S.pb,S.gb,S.fb];exact o.pl,λb hb=>?_,by have:=o.le;omega⟩
 .rcases lB b hb with q|q;.have:=o.pin b q;exact⟨this.1,ah⟩
  .have:=o.le;exact⟨ah,q.2⟩
 .obtain⟨q1,q2,q3⟩:=wo1 y hy b hb;refine⟨q1,q2,λe=>?_⟩;rcases lB b e with q|q;.exact q3 q
  .have:=(P1.all y hy).w.lt hb;omega
 .rcases el j h with⟨h',e⟩|⟨e1,e⟩;.rw[e];exact o.lo j h'
  .rw[e,e1];exact xlo
 .rcases el j h with⟨h',e⟩|⟨e1,e⟩;.rw[e];exact o.hi j h'
  .rw[e,e1];exact xhi
 .rcases bp.1 hy with hy|hy;.exact o.ft y hy b hb
  .rw[aR.1 hy]at hb;have:=hf b hb;have:=o.le;omega
 .have:=o.le;have:=o.pl;rw[aj,ak ah,k2 b ah (λe=>by have:=(o.pin b e).1;omega),LB b ah ah ah ah];exact o.same b hb
variable{cs:List AV}{x y:Operand}{α β:Type}
def T18:Nat->cU:=λid=>if id=19 then[([0,1,2,3,4,5,7,8,9,10,11],[],some 6),([],[11],some 12),([13,14,15],[],some 16),([],[],some 17),([],[],none)]else if id=21 then[(z26,[],some 27),([],[],some 28),([],[],none)]else[]
theorem Mo{e:TypeId}(hu:prog.underlying t=some (.pointer e)):cZ prog h .neq t x y (.fp cs) (.g (.pointer none))=some (bQ true):=by simp[cZ,eD,iG,AV.pd,pG,vy,hu,DH]
theorem ae5:cZ prog h .neq 70 x y (.fp cs) (.g (.pointer none))=some (bQ true):=Mo acg
attribute[go_sem] ae5
theorem BM{l:List α}{f g:α->List β}(h:∀x∈l,f x=g x):l.flatMap f=l.flatMap g:=by
 induction l with
 |nil=>rfl
 |cons x l ih=>rw[bG,bG,h x bL,ih λy hy=>h y (by simp[hy])]
set_option maxHeartbeats 2000000 in
theorem a18(l:List ba)(ks:List UInt8)(n:Nat)(hn:12<n)(Gq:n<=4096)(hl:l.length<=100)(hs:∀s∈l,s.length<=500)(h:aG)(nx:Nat):
 aA prog 18 [strs l,GP ks,int n] h nx λw h' nx'=>∃d:Wd,w= .dN [.ptr d.wb 0,bQ true]/\d.ok 0 h' nx'/\(∀b,d.all b->nx<=b)/\aH nx h h':=by
 refine aA.ac 3 T18 func18 ?_;simp+decide-dsimp only[f18,go_sem];refine cf (amR l hl hs h nx) ?_;rintro _ h1 cm-⟨⟨los,rfl,L,CB⟩,rfl,rfl⟩;simp+decide-dsimp only[go_sem];refine cf (a42 n ah Gq h1 cm) ?_;rintro _ h2 dU l2 ⟨p,rfl,sg,hc,S2,b1,b2,b3⟩;simp+decide-dsimp only[go_sem];refine cf (a43 h2 dU) ?_;rintro _ h3 nx3 l3 ⟨rfl,rfl,rfl⟩;simp+decide-dsimp only[go_sem];generalize hH:aK _ (dU+1) _=H;have M0:Mid los cm h1 (dU+1) dU p.pb n 0 H (dU+1+1) [] (.g (.slice none 0 0)) p:=by
  have SH:aH dU h2 H:=by rw[<-hH];exact(aH.refl.set (an _)).set (bz _)
  refine⟨rfl,⟨λx hx=>(by cases hx),sg.aX SH ah,List.Pairwise.nil⟩,hc,rfl,by rw[<-hH,aj,aw rfl],by rw[<-hH,aj,ak ah,aj,aw rfl],.inl ⟨rfl,rfl⟩,λb hb=>(by cases hb),λx hx=>(by cases hx),⟨ah,ah,ah,ah⟩,λj hj=>absurd hj (bW _),λj hj=>absurd hj (bW _),λx hx=>(by cases hx),⟨b1,b2,b3⟩,λb hb=>?_,ah⟩;rw[SH b ah,S2 b hb]
 clear hH;have db:los.length<65536:=ah;refine cL _ _ (λm s h' nx'=>∃i xs pv p',i<=los.length/\m=los.length-i/\ao s 1=GP ks/\ao s 8=strs los/\ao s 9= .ptr p.pb 0/\ao s 11= .ptr (dU+1) 0/\ao s 12=int i/\Mid los cm h1 (dU+1) dU p.pb n i h' nx' xs pv p') (n:=los.length) ?_ ?_;.simp+decide-dsimp only[go_sem];exact⟨0,[],_,p,aY _,rfl,rfl,M0⟩
 rintro m s h' nx' ⟨i,xs,pv,p',q1,rfl,s1,s8,s9,w8,Gt,M⟩;by_cases h3:i<los.length
 .have x8:(i:Int)<(los.length:Int):=ah;have w:i+1<9223372036854775808:=ah;have i6:i<65536:=ah;rcases(show(ks.length=0/\i+1<los.length)\/(ks.length=0/\los.length<=i+1)\/(0<ks.length/\i+1<los.length)\/(0<ks.length/\los.length<=i+1)from ah)with⟨k0,h4⟩|⟨k0,h4⟩|⟨k0,h4⟩|⟨k0,h4⟩
  case' inl=>have k0':¬(0:Int)<(ks.length:Int):=ah;have h4':((i+1:Nat):Int)<(los.length:Int):=ah;have h5':¬((i+1:Nat):Int)=(los.length:Int):=ah;simp+decide-dsimp only[go_sem,s1,s8,s9,Gt,h3,x8,h4,h4',h5',k0',w]
  case' inr.inl=>have k0':¬(0:Int)<(ks.length:Int):=ah;have h4':¬((i+1:Nat):Int)<(los.length:Int):=ah;have h5':((i+1:Nat):Int)=(los.length:Int):=ah;have h5d:=aM h5';simp+decide-dsimp only[go_sem,s1,s8,s9,Gt,h3,x8,h4',h5d,k0',w]
  case' inr.inr.inl=>
   have k0':(0:Int)<(ks.length:Int):=ah;have k1:i%ks.length<ks.length:=Nat.mod_lt _ k0;have k2:(ks.getD (i%ks.length) default).toNat<256:=UInt8.toNat_lt _;have k3:cF .u8 (1+(((ks.getD (i%ks.length) default).toNat%3:Nat):Int))=((1+(ks.getD (i%ks.length) default).toNat%3:Nat):Int):=by rw[wrap_u8 ah ah];omega
   have h4':((i+1:Nat):Int)<(los.length:Int):=ah;have h5':¬((i+1:Nat):Int)=(los.length:Int):=ah;simp+decide-dsimp only[go_sem,s1,s8,s9,Gt,h3,x8,h4,h4',h5',k0',k0,k1,k2,k3,i6,w]
  case' inr.inr.inr=>
   have k0':(0:Int)<(ks.length:Int):=ah;have k1:i%ks.length<ks.length:=Nat.mod_lt _ k0;have k2:(ks.getD (i%ks.length) default).toNat<256:=UInt8.toNat_lt _;have k3:cF .u8 (1+(((ks.getD (i%ks.length) default).toNat%3:Nat):Int))=((1+(ks.getD (i%ks.length) default).toNat%3:Nat):Int):=by rw[wrap_u8 ah ah];omega
   have h4':¬((i+1:Nat):Int)<(los.length:Int):=ah;have h5':((i+1:Nat):Int)=(los.length:Int):=ah;have h5d:=aM h5';simp+decide-dsimp only[go_sem,s1,s8,s9,Gt,h3,x8,h4',h5d,k0',k0,k1,k2,k3,i6,w]
  all_goals
   have pe:=M.pe;have ajK:p'.fr.count true≠0:=by have:=M.cn;omega
   have YE:i+1<los.length->los.getD i []<los.getD (i+1) []:=λq=>by have:=fq.1 L.up i (i+1) ah q ah;rw[az,aF ah,az,aF q];exact this
   rw[<-pe]
   first
   |refine cf (a44 _ _ _ (λq=>by first|exact YE h4|cases q) (1+(ks.getD (i%ks.length) default).toNat%3) ah p' h' nx' M.P.pk ajK) ?_
   |refine cf (a44 _ _ _ (λq=>by first|exact YE h4|cases q) 2 ah p' h' nx' M.P.pk ajK) ?_
   rintro _ jj acO VQ ⟨x,p1,rfl,px,xlo,xla,xhi,xf,S,C⟩;have pk:=M.P.pk;have gw:au jj (dU+1)=some (.cells (Hz dU p'.pb pv) 35):=by rw[S.aX _ M.wl.2.1 id (eO M.w pk.a bN) (eO M.w pk.g bN) (eO M.w pk.f bN),M.w,pe]
   obtain⟨v1,v2⟩:=M.po.cells;have wn:=M.wl.2.1;have d1:¬(dU+1=acO):=ah;have d2:¬(acO=dU+1):=ah;simp+decide-dsimp only[go_sem,w8,gw,cr,cB,reduceMul];have po1:Own Ct 78 1 (aK jj acO (.cells [.ptr x.xb 0] 78)) pv xs:=M.po.aX λb hb=>by obtain⟨A,hA⟩:=M.po.bJ hb;have wG:=M.pin b hb;rw[aj,ak ah,S.aX b wG.2 id (eO hA pk.a bN) (eO hA pk.g bN) (eO hA pk.f bN)]
   refine km (c:=Ct) po1 (λ_=>rfl) (λ_=>rfl) (by have:=M.len;omega) x ?_;rintro pv2 nU aj5 ZT o2 aeM k2;obtain⟨v3,v4⟩:=o2.cells;have gw2:au nU (dU+1)=some (.cells (Hz dU p'.pb pv) 35):=by rw[k2 _ ah (λe=>by obtain⟨A,hA⟩:=po1.bJ e;rw[aj,ak d1]at hA;exact eO hA gw bN rfl),aj,ak d1];exact gw
   simp+decide-dsimp only[go_sem,w8,gw2,v3,v4,s1,s8,s9,Gt,w];have M2:=M.step px xf S C VQ xlo ⟨by rw[xla];symm;first|exact aM ah|exact aU ah,λq=>by first|exact xhi rfl|omega⟩
    (λb hb e=>by rw[k2 b ah e,aj,ak ah]) o2 (λb e=>(aeM b e).imp id λq=>⟨ah,q.2⟩) ah
   refine⟨los.length-(i+1),ah,i+1,xs++[x],pv2,p1,h3,?_⟩;rw[pe];exact⟨rfl,rfl,rfl,M2⟩
 .have x8:¬(i:Int)<(los.length:Int):=ah;have hi:i=los.length:=ah;have hx:xs.length=los.length:=M.len.trans hi;have aai:0<xs.length:=by have:=L.one;omega
  obtain⟨b,cap,A,rfl,hA,g1,g2,g3⟩:=M.po.sl aai;obtain⟨x0,xs',ko⟩:∃x0 xs',xs=x0::xs':=by
   cases xs with
   |nil=>simp at aai
   |cons x xs=>exact⟨x,xs,rfl⟩
  have g3':A.take xs.length=xs.flatMap Ct:=by rw[<-g3,cJ]
  have n0:iW 0 A=some (.ptr x0.xb 0):=by have:=Fe g3' aai x0;rw[eN]at this;rw[this,ko];rfl
  have hxl:∀x∈xs,x.xb<nx':=λx hx=>(M.P.all x hx).xl;have c45:=λ(h:aG) (nx:Nat) (hN:nx'<=nx)=>a45 (Is nx' x0.xb) (h:=h) hN;rw[FM (hxl x0 (by rw[ko];simp))]at c45;have F:Fit [[]] 0 1 los:=⟨an _,an _,L.one,L.fst,λk hk=>(by have:=fq.1 L.up k (k+1) ah hk ah;rw[az,aF ah,az,aF hk];exact this),λq=>absurd q bN,ah⟩;have zs:(xs.map λx=>Is nx' x.xb).flatMap cq=xs.flatMap Ct:=by rw[List.flatMap_map];refine BM λx hx=>?_;exact adn (hxl x hx)
  have c46:=λ(h:aG) (nx:Nat) (hN:nx'<=nx) (hA:au h b=some (.cells A 78)) (hb:b<nx)=>a46 (N:=nx') (los:=[[]]) (nl:=los) (xs:=[Is nx' x0.xb]) (zs:=xs.map λx=>Is nx' x.xb) bN rfl (i:=0) (n:=1) F (by rw[bc,hx]) (by show 1-1+los.length<=16;omega) (h:=h) (nx:=nx) (b:=b) (cap:=cap) (A:=A) hN hA (by rw[bc,zs];exact g3') (by rw[bc];omega) hb;rw[bc]at c46;simp only[dv,ch,fx,List.drop_one,List.tail_cons,cD]at c46;have bl:=(M.pin b rfl).2;have ix0:rT (some (.slice 78)) (cN prog) (.sl b 0 xs.length cap) (.g (.int .i64 0))=(cN prog 78).map λsize=> .val (.ptr b (0+0*size)):=Ag (k:=0) aai;simp+decide-dsimp only[go_sem,T18,s8,w8,Gt,x8,M.w,hA,n0,ix0];refine bm (c45 _ _ (gh _ _)) ?_;simp+decide-dsimp only[go_sem,M.w];refine bm (c46 _ _ (gh _ _) hA (aP bl (gh _ _))) ?_;simp+decide-dsimp only[go_sem,w8];generalize rm:nx'+Array.size _=nq;have lq:nx'<=nq:=ah;clear rm;refine cf (a47 _ h' nq) ?_;rintro _ h5 Yt l5 ⟨rb,rx,rfl,R5,r1,r2,S5⟩;simp+decide-dsimp only[go_sem];refine cf (a48 h5 Yt) ?_;rintro _ h6 IT l6 ⟨ep,rfl, -,S6⟩;have wl:=M.wl;have gw6:au h6 (dU+1)=some (.cells (Hz dU p.pb (.sl b 0 xs.length cap)) 35):=by rw[S6 _ ah,S5 _ ah];exact M.w
  have e1:¬(dU+1=IT):=ah;have e2:¬(IT=dU+1):=ah;simp+decide-dsimp only[go_sem,T18,w8,gw6,e1,e2];have hle:=M.le;have YE:∀k,k+1<los.length->los.getD k []<los.getD (k+1) []:=F.up;have pb:=M.pe;generalize hHF:aK (aK h6 IT _) (dU+1) _=HF;generalize hnF:IT+1+Array.size _=nF;have lF:IT+1<=nF:=ah;clear hnF;have gF:∀c,c≠dU+1->c≠IT->au HF c=au h6 c:=λc q1 q2=>by rw[<-hHF,aj,ak q1,aj,ak q2]
  have gW:au HF (dU+1)=some (.cells (wB IT dU p.pb b xs.length cap (.g (.slice none 0 0)) 0) 35):=by rw[<-hHF,aj,aw rfl]
  have gE:au HF IT=some (.cells [.ptr rb 0,.ptr ep 0] 65):=by rw[<-hHF,aj,ak e2,aj,aw rfl]
  clear hHF;have g6:∀c,c<nq->au h6 c=au h' c:=λc hc=>by rw[S6 c ah,S5 c hc]
  have gO:∀c,c<nx'->c≠dU+1->au HF c=au h' c:=λc q1 q2=>by rw[gF c q2 ah,g6 c ah]
  have mne:dU≠dU+1:=ah;have hPt:∀c,(∃x∈xs,x.nW c)\/c=p'.pb\/c=p'.gb\/c=p'.fb->c≠dU+1:=by
   rintro c (⟨x,hx,q|q|q⟩|q|q|q);.rw[q];exact eO (M.P.all x hx).c M.w bN
   .rw[q];exact eO (M.P.all x hx).i M.w bN
   .exact(M.wo x hx c q).1
   .rw[q];exact eO M.P.pk.a M.w bN
   .rw[q];exact eO M.P.pk.g M.w bN
   .rw[q];exact eO M.P.pk.f M.w bN
  have PF:Dp xs p' 0 HF nF:=M.P.to (λc hc=>gO c (M.P.lt hc) (hPt c hc)) ah (an _);have bne:b≠dU+1:=eO hA M.w bN;have rl:=R5.UP;have xl:=R5.PA;refine⟨⟨dU+1,IT,dU,ep,rb,rx,b,cap,A,.g (.slice none 0 0),[],0,p',xs,los,nx'⟩,rfl,⟨?_,gE,?_,?_,?_,g3',.inl ⟨rfl,rfl⟩,λc hc=>(by cases hc),an _,PF,?_,?_,?_,⟨by show nx'<=nF;omega,hxl⟩⟩,?_,?_⟩;.show au HF (dU+1)=some (.cells (wB IT dU p'.pb b xs.length cap (.g (.slice none 0 0)) 0) 35);rw[pb];exact gW
  .show au HF dU=_;rw[gO _ ah mne];exact M.m
  .exact R5.aX (by rw[gF _ ah ah,S6 _ rl]) (by rw[gF _ ah ah,S6 _ xl]) ah
  .show au HF b=_;rw[gO _ bl bne];exact hA
  .rintro c (q|q|q|q|q|q|q);.have q:c=dU+1:=q;omega
   .have q:c=IT:=q;omega
   .have q:c=dU:=q;omega
   .have q:c=rb:=q;omega
   .have q:c=rx:=q;omega
   .have q:c=b:=q;omega
   .cases q
  .intro x hx c hc hq;have hq:x.T.own c:=hq;have xy:=(M.P.all x hx).w.lt hq;obtain⟨w1,w2,w3⟩:=M.wo x hx c hq;rcases hc with q|q|q|q|q|q|q
   .exact w1 q
   .have q:c=IT:=q;omega
   .exact w2 q
   .have q:c=rb:=q;omega
   .have q:c=rx:=q;omega
   .have q:c=b:=q;exact w3 (by rw[q];rfl)
   .cases q
  .refine⟨hx,CB,L.one,L.fst,YE,λi=>?_,M.lo,λi h=>?_⟩
   .rcases bg i los.length with q|q;.exact L.sm _ (iX q)
    .rw[az,dR q];exact aY _
   .rw[hx];exact M.hi i h
  .rintro c ((q|q|q|q|q|q|q)|⟨x,hx,q⟩|q|q|q);.have q:c=dU+1:=q;omega
   .have q:c=IT:=q;omega
   .have q:c=dU:=q;omega
   .have q:c=rb:=q;omega
   .have q:c=rx:=q;omega
   .have q:c=b:=q;have:=(M.pin b rfl).1;omega
   .cases q
   .exact M.ft x hx c q
   .rw[q];exact M.pl.1
   .rw[q];exact M.pl.2.1
   .rw[q];exact M.pl.2.2
  .intro c hc;rw[gO c ah ah];exact M.same c hc
theorem Wd.ok.load(o:d.ok k h nx){x':Nat}(R:pL h' nx' d.rb x' d.dir)(hx:x'=d.rx\/nx<=x')(hs:∀b,b<nx->b≠d.rb->au h' b=au h b)(hn:nx<=nx'):
 ({d with rx:=x'}:Wd).ok k h' nx'/\∀b,({d with rx:=x'}:Wd).all b->d.all b\/nx<=b:=by
 obtain⟨⟨c1,t1⟩,_⟩:=o.r.ty;have g:∀b t cs,au h b=some (.cells cs t)->t≠201->b<nx->au h' b=au h b:=λb t cs hb h1 db=>hs b db (eO hb t1 h1);have nb:∀b,({d with rx:=x'}:Wd).bJ b->d.bJ b\/(nx<=b/\b<nx'):=by
  rintro b (q|q|q|q|q|q|q);.exact .inl (.inl q)
  .exact .inl (.inr (.inl q))
  .exact .inl (.inr (.inr (.inl q)))
  .exact .inl (.inr (.inr (.inr (.inl q))))
  .have q:b=x':=q;rcases hx with e|e
   .exact .inl (.inr (.inr (.inr (.inr (.inl (q.trans e))))))
   .exact .inr ⟨ah,by rw[q];exact R.PA⟩
  .exact .inl (.inr (.inr (.inr (.inr (.inr (.inl q))))))
  .exact .inl (.inr (.inr (.inr (.inr (.inr (.inr q))))))
 have pk:Dp d.xs d.p k h' nx':=o.P.to (λb hb=>hs b (o.P.lt hb) λe=>by
  obtain⟨n1,n2,n3,n4⟩:=o.nf (b:=b) (.inr (.inr (.inr (.inl e))));rcases hb with⟨x,hx,hb⟩|e|e|e;.exact n1 x hx hb
  .exact n2 e
  .exact n3 e
  .exact n4 e) hn (an _)
 refine⟨⟨?_,?_,?_,R,?_,o.sA,o.hv.aX λb hb=>?_,λb hb=>⟨aY _,aP (o.lB b hb).2 hn⟩,o.vW,pk,λb hb=>?_,λx hx b hb q=>?_,o.bn,gi o.N.1 hn,o.N.2⟩,λb hb=>?_⟩;.rw[g _ _ _ o.w bN (o.lt _ (.inl rfl))];exact o.w
 .rw[g _ _ _ o.e bN (o.lt _ (.inr (.inl rfl)))];exact o.e
 .rw[g _ _ _ o.m bN (o.lt _ (.inr (.inr (.inl rfl))))];exact o.m
 .rw[g _ _ _ o.s bN (o.lt _ (.inr (.inr (.inr (.inr (.inr (.inl rfl)))))))];exact o.s
 .obtain⟨A,hA⟩:=o.hv.bJ hb;exact g _ _ _ hA bN (o.lB b hb).2
 .rcases nb b hb with q|q;.exact aP (o.lt b q) hn
  .exact q.2
 .rcases nb b hb with q2|q2;.exact o.wo x hx b q2 q
  .have:=(o.P.all x hx).w.lt q;omega
 .rcases hb with q|q|q;.exact(nb b q).imp .inl (·.1)
  .exact .inl (.inr (.inl q))
  .exact .inl (.inr (.inr q))
theorem Wd.ok.alt(o:d.ok k h nx)(hb:d.all b):b<nx:=by
 rcases hb with q|q;.exact o.lt b q
 .exact o.P.lt q
theorem a57(o:d.ok k h nx):
 aA prog 57 [.ptr d.wb 0] h nx λw h' nx'=>∃d':Wd,d'.wb=d.wb/\d'.ok k h' nx'/\(∀b,d'.all b->d.all b\/nx<=b)/\(∀b,b<nx->b≠d.rb->au h' b=au h b)/\Pa h' d'.rb d'.rx (.fp d'.dir)/\Own Ct 78 1 h' w d'.xs/\(∀b,bZ w=some b->nx<=b/\b<nx'/\¬d'.all b):=by
 refine aA.ac 1 T0 func57 ?_;have hl:=o.bn.len;have CB:=o.bn.vW;have h0:=o.bn.one;simp+decide-dsimp only[f57,go_sem,o.w,o.e];refine cf (a26 o.r) ?_;rintro _ h1 cm l1 ⟨-,rfl,x',R,hs,hx,hk⟩;obtain⟨o1,aeY⟩:=o.load R hx hk l1;have W1:=R.am' hs;have hxl:(d.xs.map λx=>Is d.N x.xb).length=d.los.length:=by rw[bc,hl]
 simp+decide-dsimp only[go_sem];generalize Py:({d with rx:=x'}:Wd)=d1 at o1 aeY;have xs1:d1.xs=d.xs:=by rw[<-Py]
 have wb1:d1.wb=d.wb:=by rw[<-Py]
 have rb1:d1.rb=d.rb:=by rw[<-Py]
 have rx1:d1.rx=x':=by rw[<-Py]
 have PD:d1.dir=d.dir:=by rw[<-Py]
 refine cL _ _ (λmm s h' nx'=>∃i v,i<=d.xs.length/\mm=d.xs.length-i/\ao s 3= .fp d.dir/\ao s 5=v/\ao s 6=int i/\Own Ct 78 1 h' v (d.xs.take i)/\(∀b,bZ v=some b->cm<=b/\b<nx')/\aH cm h1 h'/\cm<=nx') (n:=d.xs.length) ?_ ?_;.simp+decide-dsimp only[go_sem];exact⟨0,_,aY _,rfl,rfl,rfl,.inl ⟨rfl,rfl⟩,λb hb=>(by cases hb),.refl⟩
 rintro mm s h' nx' ⟨i,v,q1,rfl,s3,s5,s6,ho,lB,S2,l2⟩;have hN:d.N<=nx':=gi o.N.1 (gi l1 l2);simp+decide-dsimp only[go_sem,s3,s6];refine aZ (a70 h0) ?_;by_cases h3:i<d.xs.length
 .have x8:(i:Int)<(d.los.length:Int):=ah;have w:i+1<9223372036854775808:=ah;simp+decide-dsimp only[go_sem,s3,s6,x8];refine bm (a69 h0 ah hxl i ah hN) ?_;have ce:Yj ((d.xs.map λx=>Is d.N x.xb).getD i none)= .ptr (d.xs[i]).xb 0:=by rw[az,ff,aF h3];exact FM (o.N.2 _ (bS h3))
  obtain⟨v1,v2⟩:=ho.cells;simp+decide-dsimp only[go_sem,s5,ce,cr,cB,reduceMul];refine km (c:=Ct) (ho.aX λb e=>?_) (λ_=>rfl) (λ_=>rfl) (by rw[ax];omega) (d.xs[i]) ?_;.rw[aj,ak (by have:=(lB b e).2;omega)]
  rintro v' h2 dU l3 o2 in2 k2;simp+decide-dsimp only[go_sem,s3,s5,s6,w];refine⟨d.xs.length-(i+1),ah,i+1,v',h3,rfl,rfl,rfl,?_,λb e=>?_,λb hb=>?_,ah⟩;.rw[b9 h3];exact o2
  .rcases in2 b e with q|q;.have:=lB b q;exact⟨this.1,ah⟩
   .exact⟨ah,q.2⟩
  .rw[k2 b ah (λe=>by have:=(lB b e).1;omega),aj,ak ah];exact S2 b hb
 .have x8:¬(i:Int)<(d.los.length:Int):=ah;have hi:i=d.xs.length:=ah;subst hi;rw[oR]at ho;simp+decide-dsimp only[go_sem,s5,x8];have o3:=o1.to (h':=h') (nx':=nx') (k':=k) S2 l2 (an _);refine⟨d1,wb1,o3,aeY,λb hb e=>by rw[S2 b ah];exact hk b hb e,?_,by rw[xs1];exact ho,λb hb=>?_⟩;.rw[rb1,rx1,PD];obtain⟨⟨q,bq,g1⟩,g2⟩:=W1;exact⟨⟨q,bq,by rw[S2 _ R.UP];exact g1⟩,by rw[S2 _ R.PA];exact g2⟩
  .have:=lB b hb;exact⟨ah,this.2,λq=>by have:=o1.alt q;omega⟩
theorem alL:cZ prog h .eql 25 x y (.fp cs) (.g (.pointer none))=some (bQ false):=L6 ab3
theorem ait:cZ prog h .neq 25 x y (.fp cs) (.g (.pointer none))=some (bQ true):=Mo ab3
attribute[go_sem] alL ait
structure zv where
 i:Int
 n:Int
 los:List ba
 ks:List UInt8
abbrev zv.cells(p:zv):List AV:=[i6 p.i,i6 p.n,strs p.los,GP p.ks]
abbrev zv.av(p:zv):AV:= .agg p.cells
structure Jb where
 eb:Nat
 pb:Nat
 p:zv
 d:List AV
 fr:AV
abbrev Jb.cells(j:Jb):List AV:=[.ptr j.eb 0,.ptr j.pb 0,i6 j.p.i,i6 j.p.n,strs j.p.los,GP j.p.ks,.fp j.d,u64 0,j.fr,.g (.slice none 0 0),.g (.slice none 0 0),bR [],bQ false,i6 0,i6 0,i6 1,bR [],bQ false,bQ false,bQ false,bQ false]
abbrev Jb.av(j:Jb):AV:= .fp j.cells
theorem a38(j:Jb):bo 38 [j.av] (bQ false):=by refine bo.ac 1 T0 func38 λh nx=>?_;simp+decide-dsimp only[f38,go_sem];exact .dT .refl .cA rfl
theorem a22(j:Jb):bo 22 [j.av] (int 1):=by refine bo.ac 1 T0 func22 λh nx=>?_;simp+decide-dsimp only[f22,go_sem];refine aZ (a38 j) ?_;simp+decide-dsimp only[go_sem];exact .dT .refl .cA rfl
theorem Fj:∀x,∀y∈jc x,sB nx y:=λx y h=>by simp[jc]at h;subst h;exact trivial
theorem anA(l:List ba)(hl:l.length<65536):bo 39 [strs l] (strs l):=λh nx=>
 aA.sk (a39 l hl h nx) λ_ _ _ ⟨S,i,o⟩=>⟨S,_,o.fz i kJ,rfl⟩
theorem amE(l:List UInt8)(hl:l.length<65536):bo 40 [GP l] (GP l):=λh nx=>
 aA.sk (a40 l hl h nx) λ_ _ _ ⟨S,i,o⟩=>⟨S,_,o.fz i Fj,rfl⟩
theorem MA(l:List UInt8):sB nx (GP l):=by show gU nx _;exact gU.mem λy hy=>by obtain⟨x,_,hx⟩:=dp.1 hy;exact Fj x y hx
theorem a14(j:Jb)(h1:j.p.los.length<65536)(h2:j.p.ks.length<65536):bo 14 [j.av] j.p.av:=by refine bo.ac 1 T0 func14 λh nx=>?_;simp+decide-dsimp only[f14,go_sem];refine aZ (a38 j) ?_;simp+decide-dsimp only[go_sem,reduceAdd];refine aZ (anA _ h1) ?_;simp+decide-dsimp only[go_sem];refine aZ (amE _ h2) ?_;simp+decide-dsimp only[go_sem,reduceAdd];refine .dT (jh) (.agg (.cons .cA (.cons .cA (.cons (.cQ (qc _)) (.cons (.cQ (MA _)) .nil))))) rfl
variable{v1 v2:AV}
def T13:Nat->cU:=λid=>if id=6 then[(z23,[],none)]else[]
theorem a13(p:zv)(hl:p.ks.length=p.los.length)(hs:p.los.length<60000):bo 13 [p.av,p.av] (bQ true):=by
 refine bo.ac 2 T13 func13 λh nx=>?_;simp+decide-dsimp only[f13,go_sem];refine cL _ _ (λm s h' nx'=>∃k,k<=p.los.length/\m=p.los.length-k/\ao s 2= .ptr nx 0/\ao s 3= .ptr (nx+1) 0/\ao s 5=int k/\h'=aK (aK h nx (.cells p.cells 48)) (nx+1) (.cells p.cells 50)/\nx+2<=nx') (n:=p.los.length) ?_ ?_;.simp+decide-dsimp only[go_sem];exact⟨0,aY _,rfl,rfl⟩
 rintro m s h' nx' ⟨k,q1,rfl,s2,s3,s5,rfl,l1⟩;have d1:¬(nx=nx+1):=ah;by_cases h1:k<p.los.length;.have jj:(k:Int)<(p.los.length:Int):=ah;have h2:k<p.ks.length:=ah;have w:k+1<9223372036854775808:=ah;simp+decide-dsimp only[go_sem,T13,s2,s3,s5,h1,jj,h2,d1,w];exact⟨p.los.length-(k+1),ah,k+1,h1,rfl,rfl,ah⟩
 .have jj:¬(k:Int)<(p.los.length:Int):=ah;simp+decide-dsimp only[go_sem,s2,s5,jj,d1];exact .dT (jh) .cA rfl
def Ur(v:AV):Option zv->Prop
 |none=>v= .g (.pointer none)
 |some p=>∃j:Jb,v=j.av/\j.p=p
structure zv.R(p:zv):Prop where
 len:p.ks.length=p.los.length
 sm:p.los.length<60000
def T23:Nat->cU:=λid=>if id=6 then[([0,2,3,4,5,6,7,8,9,10],[],some 1),([],[3,5,7,9],some 11),([],[],some 12),([],[],none)]else[]
theorem a23{o:Option zv}(r1:Ur v1 o)(r2:Ur v2 o)(hp:∀p,o=some p->p.R)(e:Int):bo 23 [v1,v2,i6 e,i6 e] (bQ true):=by
 refine bo.ac 4 T23 func23 λh nx=>?_;cases o with
 |none=>cases r1;cases r2;simp+decide-dsimp only[f23,go_sem,xW,fj,fB];exact .dT (jh) .cA rfl
 |some p=>obtain⟨j,rfl,rfl⟩:=r1;obtain⟨k,rfl,hk⟩:=r2;have R:=hp _ rfl;simp+decide-dsimp only[f23,go_sem,DX,fj,fB];refine aZ (a14 k (by rw[hk];have:=R.sm;omega) (by rw[hk];have:=R.sm;have:=R.len;omega)) ?_;rw[hk];simp+decide-dsimp only[go_sem,T23,reduceAdd];refine aZ (a14 j (by have:=R.sm;omega) (by have:=R.sm;have:=R.len;omega)) ?_;simp+decide-dsimp only[go_sem];refine aZ (a13 j.p R.len R.sm) ?_;simp+decide-dsimp only[go_sem];exact .dT (jh) .cA rfl
theorem a78(n:Int):bo 78 [i6 n] (u8 (if n<1\/3<n then 0 else n)):=by
 refine bo.ac 1 T0 func78 λh nx=>?_;by_cases h1:n<1;.simp+decide-dsimp only[f78,go_sem,h1];exact .dT .refl .cA rfl
 .by_cases h2:3<n;.simp+decide-dsimp only[f78,go_sem,h1,h2];exact .dT .refl .cA rfl
  .simp+decide-dsimp only[f78,go_sem,h1,h2];exact .dT .refl .cA (by rw[wrap_u8 ah ah])
theorem a72(k:UInt8):bo 72 [u8 (k.toNat:Nat)] (bQ (decide (k.toNat<1\/3<k.toNat))):=by
 refine bo.ac 1 T0 func72 λh nx=>?_;by_cases h1:k.toNat<1;.have jj:(k.toNat:Int)<1:=ah;have e:=aM (p:=k.toNat<1\/3<k.toNat) (.inl h1);simp+decide-dsimp only[f72,go_sem,jj];exact .dT .refl .cA (by rw[e])
 .have jj:¬(k.toNat:Int)<1:=ah;by_cases h2:3<k.toNat;.have nU:(3:Int)<(k.toNat:Int):=ah;have e:=aM (p:=k.toNat<1\/3<k.toNat) (.inr h2);simp+decide-dsimp only[f72,go_sem,jj,nU];exact .dT .refl .cA (by rw[e])
  .have nU:¬(3:Int)<(k.toNat:Int):=ah;have e:=aU (p:=k.toNat<1\/3<k.toNat) ah;simp+decide-dsimp only[f72,go_sem,jj,nU];exact .dT .refl .cA (by rw[e])
def wZ(l:List UInt8):Bool:=l.any λk=>decide (k.toNat<1\/3<k.toNat)
theorem ak4(l:List UInt8)(hl:l.length<60000):bo 107 [GP l,.fn 72 []] (i6 (if wZ l then(l.findIdx λk=>decide (k.toNat<1\/3<k.toNat):Nat)else -1)):=by
 refine bo.ac 2 T0 func107 λh nx=>?_;simp+decide-dsimp only[f107,go_sem];refine cL _ _ (λm s h' nx'=>∃k,k<=l.length/\m=l.length-k/\ao s 0=GP l/\ao s 1= .fn 72 []/\ao s 7=int l.length/\ao s 8=int k/\(∀j,j<k->(decide ((l.getD j default).toNat<1\/3<(l.getD j default).toNat))=false)/\h'=h/\nx<=nx') (n:=l.length) ?_ ?_;.simp+decide-dsimp only[go_sem];exact⟨0,aY _,rfl,rfl,λj hj=>absurd hj (bW _)⟩
 rintro m s h' nx' ⟨k,q1,rfl,s0,s1,s7,s8,hj,rfl,l1⟩;by_cases h1:k<l.length
 .have jj:(k:Int)<(l.length:Int):=ah;have w:k+1<9223372036854775808:=ah;simp+decide-dsimp only[go_sem,s0,s1,s7,s8,h1,jj];refine aZ (a72 _) ?_;cases hb:decide ((l.getD k default).toNat<1\/3<(l.getD k default).toNat)with
  |true=>
   simp+decide-dsimp only[go_sem];have e1:wZ l=true:=sD.2 ⟨_,iX h1,hb⟩;have e2:l.findIdx (λk=>decide (k.toNat<1\/3<k.toNat))=k:=by
    refine(List.findIdx_eq h1).2 ⟨?_,λj hjk=>?_⟩;.rw[az,aF h1]at hb;exact hb
    .have:=hj j hjk;rw[az,aF ah]at this;exact this
   exact .dT .refl .cA (by rw[e1,e2];rfl)
  |false=>
   simp+decide-dsimp only[go_sem,s0,s1,s7,s8,w];refine⟨l.length-(k+1),ah,k+1,h1,rfl,rfl,λj hj2=>?_,ah⟩;rcases bg j k with q|q
   .exact hj j q
   .rw[show j=k from ah];exact hb
 .have jj:¬(k:Int)<(l.length:Int):=ah;simp+decide-dsimp only[go_sem,s7,s8,jj];have e1:wZ l=false:=by refine List.any_eq_false.2 λx hx=>?_;obtain⟨j,hjl,rfl⟩:=List.getElem_of_mem hx;have:=hj j ah;rw[az,aF hjl]at this;rw[eK]at this;rw[this];decide
  exact .dT .refl .cA (by rw[e1];rfl)
theorem a71(l:List UInt8)(hl:l.length<60000):bo 71 [GP l,.fn 72 []] (bQ (wZ l)):=by
 refine bo.ac 2 T0 func71 λh nx=>?_;simp+decide-dsimp only[f71,go_sem];refine aZ (ak4 l hl) ?_;cases hb:wZ l with
 |true=>have c:(0:Int)<=((l.findIdx λk=>decide (k.toNat<1\/3<k.toNat):Nat):Int):=ah;simp+decide-dsimp only[go_sem,c];exact .dT .refl .cA rfl
 |false=>simp+decide-dsimp only[go_sem];exact .dT .refl .cA rfl
variable{ep k' rb:Nat}
section
variable{h:aG}{nx eb:Nat}
theorem a30(he:au h eb=some (.cells [.ptr rb 0,.ptr ep 0] 65)):aA prog 30 [.ptr eb 0,.ptr pb 0] h nx (dr (bQ false) h nx):=by refine aA.pc 2 T0 func30 ?_;simp+decide-dsimp only[f30,go_sem,he];exact .dT .refl .cA rfl
theorem alw(he:au h eb=some (.cells [.ptr rb 0,.ptr ep 0] 65)):aA prog 30 [.ptr eb 0,.g (.pointer none)] h nx (dr (bQ true) h nx):=by refine aA.pc 2 T0 func30 ?_;simp+decide-dsimp only[f30,go_sem,he];exact .dT .refl .cA rfl
theorem akl{v:AV}:aA prog 30 [.g (.pointer none),v] h nx (dr (bQ true) h nx):=by refine aA.pc 2 T0 func30 ?_;simp+decide-dsimp only[f30,go_sem];exact .dT .refl .cA rfl
theorem ank{v:AV}(he:au h eb=some (.cells [.g (.pointer none),.g (.pointer none)] 65)):aA prog 30 [.ptr eb 0,v] h nx (dr (bQ true) h nx):=by refine aA.pc 2 T0 func30 ?_;simp+decide-dsimp only[f30,go_sem,he];exact .dT .refl .cA rfl
end
structure Wd.FN(d:Wd)(k:Nat)(h:aG)(nx:Nat):Prop where
 o:d.ok k h nx
 w:Pa h d.rb d.rx (.fp d.dir)
theorem Wd.FN.same{h:aG}{nx:Nat}(o:d.FN k h nx)(S:aH nx h h')(hn:nx<=nx'):d.FN k h' nx':=by obtain⟨⟨q,bq,g1⟩,g2⟩:=o.w;exact⟨o.o.to S hn (an _),⟨⟨q,bq,by rw[S _ o.o.r.UP];exact g1⟩,by rw[S _ o.o.r.PA];exact g2⟩⟩
theorem Wd.ok.upd{h:aG}{nx:Nat}(o:d.ok k h nx)(hs:∀b,d.all b->au h' b=au h b)(hn:nx<=nx')(hk:k<=k'):d.ok k' h' nx':=by have g:∀b,d.bJ b->au h' b=au h b:=λb hb=>hs b (.inl hb);exact⟨by rw[g _ (.inl rfl)];exact o.w,by rw[g _ (.inr (.inl rfl))];exact o.e,by rw[g _ (.inr (.inr (.inl rfl)))];exact o.m,o.r.aX (g _ (.inr (.inr (.inr (.inl rfl))))) (g _ (.inr (.inr (.inr (.inr (.inl rfl)))))) hn,by rw[g _ (.inr (.inr (.inr (.inr (.inr (.inl rfl))))))];exact o.s,o.sA,o.hv.aX λb hb=>g b (.inr (.inr (.inr (.inr (.inr (.inr hb)))))),λb hb=>⟨aY _,aP (o.lB b hb).2 hn⟩,gi o.vW (Gx _ hk),o.P.to (λb hb=>hs b (.inr hb)) hn hk,λb hb=>aP (o.lt b hb) hn,o.wo,o.bn,gi o.N.1 hn,o.N.2⟩
theorem Wd.FN.upd{d:Wd}{k:Nat}{h h':aG}{nx nx':Nat}(o:d.FN k h nx)(hs:∀b,d.all b->au h' b=au h b)(hn:nx<=nx'):d.FN k h' nx':=by obtain⟨⟨q,bq,g1⟩,g2⟩:=o.w;exact⟨o.o.upd hs hn (an _),⟨⟨q,bq,by rw[hs _ (.inl (.inr (.inr (.inr (.inl rfl)))))];exact g1⟩,by rw[hs _ (.inl (.inr (.inr (.inr (.inr (.inl rfl))))))];exact g2⟩⟩
theorem Wd.ok.U7{h:aG}{nx:Nat}(o:d.ok k h nx):sB nx (.fp d.dir):=⟨qc _,Le o.N.1 _,trivial⟩
theorem Wd.ok.at{h:aG}{nx:Nat}(o:d.ok k h nx)(hi:i<d.xs.length):Yj ((d.xs.map λx=>Is d.N x.xb).getD i none)= .ptr (d.xs[i]).xb 0:=by rw[az,ff,aF hi];exact FM (o.N.2 _ (bS hi))
theorem a31{h:aG}{nx:Nat}(o:d.FN k h nx)(hi:i<d.xs.length):
 aA prog 31 [.ptr d.eb 0,int i] h nx (dr (.dN [.ptr (d.xs[i]).xb 0,bR (d.los.getD i []),int d.los.length,bQ true]) h nx):=by
 refine aA.pc 2 T0 func31 ?_;have bn:=o.o.bn;have hl:=bn.len;have CB:=bn.vW;have h0:=bn.one;simp+decide-dsimp only[f31,go_sem,o.o.e];refine bm (acx o.w o.o.r.UP o.o.r.PA o.o.U7) ?_;simp+decide-dsimp only[go_sem];refine bm (a69 h0 ah (by rw[bc];exact hl) i ah o.o.N.1) ?_;rw[o.o.at hi];simp+decide-dsimp only[go_sem];refine aZ (a70 h0) ?_;simp+decide-dsimp only[go_sem];have hx:(d.xs[i]).xb<nx:=(o.o.P.all _ (bS hi)).xl;exact .dT .refl (.dN (.cons (.cQ (show(d.xs[i]).xb<nx from hx)) (.cons .bR (.cons .cA (.cons .cA .nil))))) rfl
theorem aet{h:aG}{nx:Nat}(o:d.FN k h nx){i:Int}(hi:i<0\/(d.los.length:Int)<=i):
 aA prog 31 [.ptr d.eb 0,i6 i] h nx (dr (.dN [.g (.pointer none),bR [],int d.los.length,bQ false]) h nx):=by
 refine aA.pc 2 T0 func31 ?_;have bn:=o.o.bn;have CB:=bn.vW;have h0:=bn.one;simp+decide-dsimp only[f31,go_sem,o.o.e];refine bm (acx o.w o.o.r.UP o.o.r.PA o.o.U7) ?_;simp+decide-dsimp only[go_sem];refine aZ (akm h0 ah i hi) ?_;simp+decide-dsimp only[go_sem];refine aZ (a70 h0) ?_;simp+decide-dsimp only[go_sem];exact .dT .refl (.dN (.cons .cA (.cons .bR (.cons .cA (.cons .cA .nil))))) rfl
variable{ks:List UInt8}{sz:Nat}
theorem anH{l:List ba}{v:AV}(o:Own fH 9 1 h v l)(h0:0<l.length)(hl:l.length<65536)(hv:∀b,bZ v=some b->b<nx):aA prog 39 [v] h nx (dr (strs l) h nx):=by
 obtain⟨b,cap,A,rfl,hA,g1,g2,g3⟩:=o.sl h0;have hb:=hv b rfl;have hn:(l.length==0)=false:=beq_eq_false_iff_ne.2 ah;have ne:¬(b=nx):=ah;have h1:¬(l.length<=0):=ah;have h2:∀o e,cK (aK h nx (.cells o e)) nx 0 0=some []:=λo e=>by rw[cr,aj,aw rfl,cB,fS,aS,pV]
 have h3:cK (aK h nx (.cells [] 9)) b 0 l.length=some (l.flatMap fH):=by rw[cr,aj,ak ne,hA,cB,fS,aS,bO _ _ ah];rw[cJ]at g3;rw[g3]
 refine aA.sk (Q':=λw h' nx'=>aH nx h h'/\In nx nx' w/\Own fH 9 1 h' w l) (aA.ac 1 T0 func39 ?_) λ_ _ _ ⟨S,i,o⟩=>⟨S,_,o.fz i kJ,rfl⟩;simp+decide-dsimp only[f39,go_sem,hn,hl,h1,h2,h3,cJ];refine oa λcap gs hc hg=>?_;simp+decide-dsimp only[go_sem];exact⟨(aH.refl.set (an _)).set (bz _),.sl (bz _) (aW _),.inr ⟨_,cap,_,rfl,gl,hc,by simp only[aq,bc,zJ,cJ]at hg⊢;exact hg,
  by rw[aB (by rw[zJ];exact an _),aD (by rw[zJ];exact an _)]⟩⟩
theorem anu{l:List UInt8}{v:AV}(o:Own jc 5 1 h v l)(h0:0<l.length)(hl:l.length<65536)(hv:∀b,bZ v=some b->b<nx):aA prog 40 [v] h nx (dr (GP l) h nx):=by
 obtain⟨b,cap,A,rfl,hA,g1,g2,g3⟩:=o.sl h0;have hb:=hv b rfl;have hn:(l.length==0)=false:=beq_eq_false_iff_ne.2 ah;have ne:¬(b=nx):=ah;have h1:¬(l.length<=0):=ah;have h2:∀o e,cK (aK h nx (.cells o e)) nx 0 0=some []:=λo e=>by rw[cr,aj,aw rfl,cB,fS,aS,pV]
 have h3:cK (aK h nx (.cells [] 5)) b 0 l.length=some (l.flatMap jc):=by rw[cr,aj,ak ne,hA,cB,fS,aS,bO _ _ ah];rw[cJ]at g3;rw[g3]
 refine aA.sk (Q':=λw h' nx'=>aH nx h h'/\In nx nx' w/\Own jc 5 1 h' w l) (aA.ac 1 T0 func40 ?_) λ_ _ _ ⟨S,i,o⟩=>⟨S,_,o.fz i Fj,rfl⟩;simp+decide-dsimp only[f40,go_sem,hn,hl,h1,h2,h3,cJ];refine oa λcap gs hc hg=>?_;simp+decide-dsimp only[go_sem];exact⟨(aH.refl.set (an _)).set (bz _),.sl (bz _) (aW _),.inr ⟨_,cap,_,rfl,gl,hc,by simp only[aq,bc,zg,cJ]at hg⊢;exact hg,
  by rw[aB (by rw[zg];exact an _),aD (by rw[zg];exact an _)]⟩⟩
theorem Own.fzm{c:α->List AV}{e:Nat}{v:AV}{l:List α}{hi:Nat}(o:Own c e sz h v l)(lB:In nx hi v)(hc:∀x∈l,∀y∈c x,sB nx y):Fz h nx v (Jm c l):=by
 rcases o with⟨rfl,rfl⟩|⟨b,cap,A,rfl,hA,h1,h2,h3⟩;.exact .nil
 .refine .sl (q:=l.length*sz) (lB b rfl).1 hA rfl h1 ?_;rw[j9,h3];refine .cQ (gU.mem λy hy=>?_);obtain⟨x,hm,hx⟩:=dp.1 hy;exact hc x hm y hx
theorem agC:fieldsOf prog 103=some [(0,1),(1,1),(2,4),(6,1),(7,1),(8,1),(9,1),(10,1),(11,1),(12,1),(13,1),(14,1),(15,1),(16,1),(17,1),(18,1),(19,1),(20,1)]:=aL
theorem ahu:dy prog 103=some [.pointer none,.pointer none,.int .i64 0,.int .i64 0,.slice none 0 0,.slice none 0 0,.pointer none,.int .u64 0,.slice none 0 0,.slice none 0 0,.slice none 0 0,.string ⟨#[]⟩,.bool false,.int .i64 0,.int .i64 0,.int .i64 0,.string ⟨#[]⟩,.bool false,.bool false,.bool false,.bool false]:=aL
attribute[go_sem] agC ahu
def T32:Nat->cU:=λid=>if id=7 then[(z13,[3,5,7,9,11],some 14),([15,16,17],[],some 18),([],[],some 19),([],[],none)]else if id=15 then[(z7,[],some 8),([9,10,11,12],[],some 13),([],[],some 14),([],[],some 15),([],[],none)]else[]
abbrev Jb.pre(j:Jb)(d v:AV):List AV:=[.ptr j.eb 0,.ptr j.pb 0,i6 j.p.i,i6 j.p.n,strs j.p.los,GP j.p.ks,d,u64 0,v,.g (.slice none 0 0),.g (.slice none 0 0),bR [],bQ false,i6 0,i6 0,i6 1,bR [],bQ false,bQ false,bQ false,bQ false]
abbrev Wd.job(d:Wd)(p:zv):Jb:=⟨d.eb,d.p.pb,p,d.dir,Jm Ct ((d.xs.drop p.i.toNat).take p.n.toNat)⟩
def Wd.C'(d:Wd):Option zv->AV
 |none=> .g (.pointer none)
 |some p=>(d.job p).av
theorem Wd.ak2(d:Wd)(r:Option zv):Ur (d.C' r) r:=by
 cases r with
 |none=>rfl
 |some p=>exact⟨_,rfl,rfl⟩
theorem Wd.ok.ae8(o:d.ok k h nx)(r:Option zv):sB nx (d.C' r):=by
 cases r with
 |none=>trivial
 |some p=>have pk:=o.P.pk;refine⟨o.lt _ (.inr (.inl rfl)),pk.rY,trivial,trivial,qc _,MA _,o.U7,trivial,gU.mem λy hy=>?_,trivial,trivial,trivial,trivial,trivial,trivial,trivial,trivial,trivial,trivial,trivial,trivial,trivial⟩;obtain⟨x,hx,hy⟩:=dp.1 hy;rw[aR.1 hy];exact(o.P.all x (ir (ef hx))).xl
set_option maxHeartbeats 1000000 in
theorem a32(o:d.FN k h nx)(F:Fit d.los i n nl)(hk:ks.length=nl.length)(hnl:nl.length<=2)(o1:Own fH 9 1 h v1 nl)(o2:Own jc 5 1 h v2 ks)(b1:∀b,bZ v1=some b->b<nx)(b2:∀b,bZ v2=some b->b<nx):
 aA prog 32 [.ptr d.eb 0,.ptr d.p.pb 0,.agg [int i,int n,v1,v2]] h nx (dr (.dN [d.C' (if wZ ks=true then none else some ⟨i,n,nl,ks⟩),i6 (if wZ ks=true then 20 else 0)]) h nx):=by
 refine aA.pc 3 T32 func32 ?_;obtain⟨u1,u2⟩:=o1.cells;obtain⟨u3,u4⟩:=o2.cells;have bn:=o.o.bn;have hl:=bn.len;have CB:=bn.vW;have h0:=bn.one;have f1:=F.n1;have f2:=F.le;have f3:=F.ne;have el:=o.o.lt _ (.inr (.inl rfl));have ne:¬(d.eb=nx):=ah;have ne2:¬(d.eb=nx+1):=ah;have GV:¬(nx=nx+1):=ah;have Iv:¬(nx+1=nx):=ah;have m32:=amV (n:=ks.length) ah;have L26:=λ(H:aG) (N:Nat) (S:aH nx h H) (hN:nx<=N)=>acx (nx:=N) (o.same S hN).w (o.same S hN).o.r.UP (o.same S hN).o.r.PA (o.same S hN).o.U7;simp+decide-dsimp only[f32,go_sem,o.o.e,ne];refine bm (anH (l:=nl) (o1.aX λb hb=>by rw[aj,ak (by have:=b1 b hb;omega)]) f3 ah λb hb=>by have:=b1 b hb;omega) ?_;simp+decide-dsimp only[go_sem];refine bm (anu (l:=ks) (o2.aX λb hb=>by have:=b2 b hb;rw[aj,ak ah,aj,ak ah]) ah ah λb hb=>by have:=b2 b hb;omega) ?_;simp+decide-dsimp only[go_sem,o.o.e,ne,ne2,reduceAdd];refine bm (L26 _ _ (jh) ah) ?_;simp+decide-dsimp only[go_sem,T32,GV,Iv,m32];generalize hH:aK _ (nx+1+1+13) _=H;generalize hq:nx+1+1+Array.size _=nq;have rm:nx+1+1+14<=nq:=by rw[<-hq];exact eI bN _
 clear hq;have p0:¬(nx=nx+1+1+13):=ah;have p1:¬(nx+1=nx+1+1+13):=ah;have SH:aH nx h H:=by rw[<-hH];exact jh
 have H0:au H nx=some (.cells [int i,int n,strs nl,GP ks] 48):=by rw[<-hH];simp only[aj,GV,p0,cz,cC]
 have H1:au H (nx+1)=some (.cells ((d.job ⟨i,n,nl,ks⟩).pre (.fp d.dir) (.g (.slice none 0 0))) 103):=by rw[<-hH];simp only[aj,Iv,p1,cz,cC]
 have H2:au H (nx+1+1+13)=some (.cells (List.replicate ks.length (.g (.pointer none))) 78):=by rw[<-hH];simp only[aj,cz]
 clear hH;have dl:(d.xs.map λx=>Is d.N x.xb).length=d.los.length:=by rw[bc];exact hl
 have oN:=o.o.N.1;have key:=(a46 (nx:=nq) (cap:=ks.length) (N:=d.N) (los:=d.los) (nl:=nl) (xs:=d.xs.map λx=>Is d.N x.xb) (zs:=List.replicate ks.length none) ah dl F (by rw[mX];exact hk) ah ah H2 (by rw[mX,aD bL];clear H2;generalize ks.length=q;induction q with|zero=>rfl|succ q ih=>rw[pB,pB,bG,<-ih];rfl) bL ah);rw[mX]at key;refine bm key ?_;simp+decide-dsimp only[go_sem,H0];refine aZ (a71 ks ah) ?_;have kd0:0<nl.length:=f3;cases Ps:wZ ks with
 |true=>simp+decide-dsimp only[go_sem];exact .dT (by exact SH) (.jS .cA .cA) rfl
 |false=>
 simp+decide-dsimp only[go_sem,H0];refine cL _ _ (λmm s h' nx'=>∃t v,t<=n/\mm=n-t/\ao s 5= .ptr nx 0/\ao s 8= .ptr (nx+1) 0/\ao s 87=int n/\ao s 88=int t/\(aH nx h h'/\au h' nx=some (.cells [int i,int n,strs nl,GP ks] 48)/\au h' (nx+1)=some (.cells ((d.job ⟨i,n,nl,ks⟩).pre (.fp d.dir) v) 103)/\Own Ct 78 1 h' v ((d.xs.drop i).take t)/\(∀b,bZ v=some b->nx+2<=b/\b<nx'))/\nq<=nx') (n:=n) ?_ ?_;.simp+decide-dsimp only[go_sem];exact⟨0,_,aY _,rfl,rfl,SH,H0,H1,.inl ⟨rfl,rfl⟩,λb hb=>(by cases hb)⟩
 clear H0 H1 H2 SH key;rintro mm s h' nx' ⟨t,v,q1,rfl,s5,s8,s87,s88,⟨S,H0,H1,ow,lB⟩,l1⟩;obtain⟨u5,u6⟩:=ow.cells;by_cases ht:t<n
 .have vC:(t:Int)<(n:Int):=ah;have w:t+1<9223372036854775808:=ah;have w2:i+t<9223372036854775808:=ah;have hx:i+t<d.xs.length:=ah;have px:=o.o.P.all _ (bS hx);have xl:=px.xl;have gx:au h' (d.xs[i+t]).xb=some (.cells (d.xs[i+t]).cells 160):=by rw[S _ xl];exact px.c
  simp+decide-dsimp only[go_sem,T32,s5,s8,s87,s88,ht,H0,H1,w2];refine bm (a69 h0 ah dl (i+t) ah ah) ?_;rw[o.o.at hx];simp+decide-dsimp only[go_sem];refine bm (a33 _ gx) ?_;simp+decide-dsimp only[go_sem,s8,H1,cr,cB,reduceMul];generalize hq:nx'+Array.size _=nb;have Tg:nx'<=nb:=by rw[<-hq];exact gh _ _
  clear hq;refine km (c:=Ct) (ow.aX λb e=>by rw[aj,ak (by have:=(lB b e).2;omega)]) (λ_=>rfl) (λ_=>rfl) (by rw[ax];omega) (d.xs[i+t]) ?_;rintro v' h2 dU l3 o2 in2 k2;have nw:∀b,b<nx+2->au h2 b=au h' b:=λb hb=>by rw[k2 b ah (λe=>by have:=(lB b e).1;omega),aj,ak ah]
  have G0:=(nw nx ah).trans H0;have G1:=(nw (nx+1) ah).trans H1;obtain⟨u7,u8⟩:=o2.cells;simp+decide-dsimp only[go_sem,s5,s8,s87,s88,G0,G1,u7,u8,w];have S2:aH nx h h2:=λb hb=>by rw[nw b ah];exact S b hb
  have el:(d.xs.drop i).take (t+1)=(d.xs.drop i).take t++[d.xs[i+t]]:=by rw[b9 (by rw[aC];omega),Lg]
  have in3:∀b,bZ v'=some b->nx+2<=b/\b<dU:=λb hb=>by
   rcases in2 b hb with q|q;.have:=lB b q;exact⟨this.1,ah⟩
   .exact⟨ah,q.2⟩
  exact⟨n-(t+1),ah,t+1,v',ht,rfl,rfl,⟨S2.set (bz _),rfl,by rw[el];exact o2.aX λb hb=>by rw[aj,ak (by have:=(in3 b hb).1;omega)],in3⟩,ah⟩
 .have vC:¬(t:Int)<(n:Int):=ah;have htn:t=n:=ah;subst htn;simp+decide-dsimp only[go_sem,s8,s87,s88,vC];have fr:Fz h' nx v (Jm Ct ((d.xs.drop i).take t)):=ow.fzm (hi:=nx') (λb hb=>⟨by have:=(lB b hb).1;omega,(lB b hb).2⟩) λx hx y hy=>by rw[aR.1 hy];exact(o.o.P.all x (ir (ef hx))).xl
  have lj:=o.o.ae8 (some ⟨i,t,nl,ks⟩);obtain⟨j1,j2, -, -,j5,j6,j7, -⟩:=lj;have lo:gU nx [AV.g (.slice none 0 0),.g (.slice none 0 0),bR [],bQ false,i6 0,i6 0,i6 1,bR [],bQ false,bQ false,bQ false,bQ false]:=⟨trivial,trivial,trivial,trivial,trivial,trivial,trivial,trivial,trivial,trivial,trivial,trivial,trivial⟩;have F9:zV h' nx ((d.job ⟨i,t,nl,ks⟩).pre (.fp d.dir) v) (d.job ⟨i,t,nl,ks⟩).cells:=
   .cons (.cQ j1) (.cons (.cQ j2) (.cons .cA (.cons .cA (.cons (.cQ j5) (.cons (.cQ j6) (.cons (.cQ j7) (.cons .cA (.cons fr (zV.cQ lo)))))))))
  exact .dT (by exact S) (.jS (.ptr (bz _) H1 rfl F9) .cA) rfl
def Av(a b:ba):ba:=b.take (comm a b+1)
theorem Az{a b:ba}(h:a<b):comm a b<b.length:=by
 have hl:=ve a b;rcases bg (comm a b) b.length with q|q
 .exact q
 .exfalso;have e:comm a b=b.length:=ah;have ht:=qf a b;rw[e,aD (l:=b) (an _)]at ht;have:=(uh (k:=b.length) (by rw[ht,aD (an _)]) (.inr rfl)).1 h;omega
theorem SW{a b:ba}(h:a<b):a<Av a b:=by
 have h1:=Az h;have hl:=ve a b;have ht:a.take (comm a b)=(Av a b).take (comm a b):=by unfold Av;rw[bf,bM ah];exact qf a b
 have hbl:(Av a b).length=comm a b+1:=by unfold Av;rw[ax];omega
 rcases bg (comm a b) a.length with q|q
 .have hg:(Av a b).getD (comm a b) 0=b.getD (comm a b) 0:=by unfold Av;simp[az]
  have cx:=Ad a b q h1;refine(Mw ht q ah (by rw[hg];exact cx)).2 ?_;rw[hg];exact(Mw (qf a b) q h1 cx).1 h
 .exact(uh ht (.inl ah)).2 ah
theorem ads{a b:ba}(j:Nat)(hj:j<=comm a b):¬a<b.take j:=by
 have hl:=ve a b;have e:b.take j=a.take j:=by have:=fN (List.take j) (qf a b);rw[bf,bf,bM hj]at this;exact this.symm
 rw[e];intro h;have:=(uh (a:=a) (b:=a.take j) (k:=j) (by rw[bf,df]) (.inr (by rw[ax];omega))).1 h;rw[ax]at this;omega
theorem adC{a b:ba}(h:a<b):¬b<Av a b:=λq=>by have h1:=Az h;have:=(uh (a:=b) (b:=Av a b) (k:=comm a b+1) (by unfold Av;rw[bf,df]) (.inr (by unfold Av;rw[ax];omega))).1 q;unfold Av at this;rw[ax]at this;omega
theorem a35(a b:ba)(ha:a.length<60000)(hb:b.length<60000)(h:a<b):bo 35 [bR a,bR b] (.dN [bR (Av a b),bQ true]):=by refine bo.ac 2 T0 func35 λhh nx=>?_;have h1:=aM h;have h2:=Az h;have w:comm a b+1<9223372036854775808:=ah;have sx:eS prog 9 (bR b) none (some (int (comm a b+1:Nat)))=some (bR (b.take (comm a b+1))):=GZ (i:=comm a b+1) h2;simp+decide-dsimp only[f35,go_sem,h1];refine aZ (a75 a b ha hb) ?_;simp+decide-dsimp only[go_sem,w,sx];exact .dT .refl (.jS .bR .cA) rfl
theorem a56(a b:ba)(ha:a.length<60000)(hb:b.length<60000)(h:a<b):bo 56 [bR a,bR b] (.dN [bR (Av a b),bQ true]):=by
 refine bo.ac 2 T0 func56 λhh nx=>?_;have h2:=Az h;simp+decide-dsimp only[f56,go_sem];refine cL _ _ (λm s h' nx'=>∃i,i<=comm a b+1/\m=comm a b+1-i/\ao s 0=bR a/\ao s 1=bR b/\ao s 6=int i/\h'=hh/\nx<=nx') (n:=comm a b+1) ?_ ?_;.simp+decide-dsimp only[go_sem];exact⟨0,aY _,rfl,rfl⟩
 rintro m s h' nx' ⟨i,hi,rfl,s0,s1,s6,rfl,l1⟩;have PI:i<=b.length:=ah;have hii:(i:Int)<=(b.length:Int):=ah;have w:i+1<9223372036854775808:=ah;have sx:eS prog 9 (bR b) none (some (int i))=some (bR (b.take i)):=GZ (i:=i) PI;simp+decide-dsimp only[go_sem,s0,s1,s6,hii,sx];refine aZ (a96 a (b.take i) ha (by rw[ax];omega)) ?_;by_cases db:i<=comm a b;.have hd:=aU (ads (a:=a) (b:=b) i db);simp+decide-dsimp only[go_sem,s0,s1,s6,hd,w];exact⟨comm a b+1-(i+1),ah,i+1,ah,rfl,rfl,ah⟩
 .have e:i=comm a b+1:=ah;subst e;have hd:=aM (SW h);unfold Av at hd⊢;simp+decide-dsimp only[go_sem,s1,s6,hd,sx];exact .dT .refl (.jS .bR .cA) rfl
variable{j:Nat}
structure Rp where
 lo:ba
 aJ:List ba
 kd:Nat
 deriving Inhabited
def Pt.all(x:Pt):List Pr:=x.T.all x.pk
def Pt.rp(x:Pt):Rp:=⟨x.lo,x.all.map Prod.fst,x.kd⟩
def Wd.qS(d:Wd):List Rp:=d.xs.map Pt.rp
def i'(l:List Rp)(kd:Nat)(a b:Int):Option zv×Int:=
 let x:=l.getD a.toNat default
 let n:=x.aJ.length / 2
 if kd=3 then
  if a<0\/(l.length:Int)<=a then(none,21)
  else if b<1\/3<b then(none,20)
  else(some ⟨a,1,[x.lo],[UInt8.ofNat b.toNat]⟩,0)
 else if kd=4 then
  if a<0\/(l.length:Int)<=a then(none,21)
  else if x.aJ.length<2 then(none,4)
  else(some ⟨a,1,[x.lo,Av (x.aJ.getD (n-1) []) (x.aJ.getD n [])],[UInt8.ofNat x.kd,UInt8.ofNat x.kd]⟩,0)
 else if kd=5 then
  if a<0\/(l.length:Int)-1<=a then(none,21)
  else(some ⟨a,2,[x.lo],[UInt8.ofNat x.kd]⟩,0)
 else(none,1)
theorem i'.R{l:List Rp}{kd:Nat}{a b:Int}{p:zv}(h:(i' l kd a b).1=some p):p.R:=by
 unfold i' at h;dsimp only at h;by_cases h3:kd=3
 .rw[aw h3]at h;split at h;.cases h
  .split at h;.cases h
   .cases h;exact⟨rfl,by show 1<60000;decide⟩
 rw[ak h3]at h;by_cases h4:kd=4
 .rw[aw h4]at h;split at h;.cases h
  .split at h;.cases h
   .cases h;exact⟨rfl,by show 2<60000;decide⟩
 rw[ak h4]at h;by_cases h5:kd=5
 .rw[aw h5]at h;split at h;.cases h
  .cases h;exact⟨rfl,by show 1<60000;decide⟩
 rw[ak h5]at h;cases h
section
variable{d:Wd}{k:Nat}{h:aG}{nx:Nat}
theorem Wd.ok.Y0(o:d.ok k h nx):d.qS.length=d.los.length:=by unfold Wd.qS;rw[bc,o.bn.len]
theorem Wd.ok.rp(o:d.ok k h nx){i:Nat}(hi:i<d.xs.length):d.qS.getD i default=(d.xs[i]).rp:=by unfold Wd.qS;rw[az,ff,aF hi];rfl
theorem Wd.ok.rlo(o:d.ok k h nx)(hi:i<d.xs.length):(d.qS.getD i default).lo=d.los.getD i []:=by rw[o.rp hi];exact o.bn.lo i hi
theorem Wd.ok.zP(o:d.ok k h nx){x:Pt}(hx:x∈d.xs):KB x.pk [] x.all/\x.all.length<=30000:=Tr.zP (o.P.all x hx).w (o.P.all x hx).ok
theorem Bnd.lt(o:Bnd los xs)(CT:i<j)(hj:j<los.length):los.getD i []<los.getD j []:=by
 obtain⟨t,rfl⟩:∃t,j=i+1+t:=⟨j-i-1,ah⟩;clear CT
 induction t with
 |zero=>exact o.up i hj
 |succ t ih=>exact dZ (ih ah) (o.up (i+1+t) ah)
theorem Wd.ok.ae0(o:d.ok k h nx)(h1:1<=n)(hi:i+n<=d.los.length):Fit d.los i n [d.los.getD i []]:=
 ⟨h1,hi,Nat.one_pos,rfl,λk hk=>absurd hk (by show¬(k+1<1);omega),λq=>by show d.los.getD i []<_;exact o.bn.lt ah q,by show 1<60000;decide⟩
end
theorem aiw{P:ba->Prop}{L:List Pr}(r:KB P [] L)(h2:¬(L.map Prod.fst).length<2):(L.map Prod.fst).getD ((L.map Prod.fst).length / 2-1) []<(L.map Prod.fst).getD ((L.map Prod.fst).length / 2) []:=by have:=fq.1 r.jr ((L.map Prod.fst).length / 2-1) ((L.map Prod.fst).length / 2) ah ah ah;rw[az,aF ah,az,aF ah];exact this
theorem ad2{x:Pt}{y:ba}(h:x.has y=true):¬y<x.lo:=by unfold Pt.has at h;simp only[aV,jB,decide_eq_false_iff_not]at h;exact h.1
theorem adV{x:Pt}{y:ba}(h:x.has y=true)(hl:x.last=false):y<x.hi:=by unfold Pt.has at h;simp only[aV,hl,pJ,fM]at h;exact h.2
theorem Wd.ok.aky{d:Wd}{k:Nat}{h:aG}{nx:Nat}(o:d.ok k h nx)(hi:i<d.xs.length)(h2:¬(d.xs[i].all.map Prod.fst).length<2):
 Fit d.los i 1 [d.los.getD i [],Av ((d.xs[i].all.map Prod.fst).getD ((d.xs[i].all.map Prod.fst).length / 2-1) []) ((d.xs[i].all.map Prod.fst).getD ((d.xs[i].all.map Prod.fst).length / 2) [])]:=by
 have hx:=bS hi;have r:=(o.zP hx).1;have m:=aiw r h2;have bn:=o.bn;have hl:=bn.len;have k1:(d.xs[i]).has ((d.xs[i].all.map Prod.fst).getD ((d.xs[i].all.map Prod.fst).length / 2-1) [])=true:=(r.pk _ (iX ah)).1;have k2:(d.xs[i]).has ((d.xs[i].all.map Prod.fst).getD ((d.xs[i].all.map Prod.fst).length / 2) [])=true:=(r.pk _ (iX ah)).1;have lo1:=ad2 k1;rw[bn.lo i hi]at lo1;generalize(d.xs[i].all.map Prod.fst).getD ((d.xs[i].all.map Prod.fst).length / 2-1) []=a at*;generalize(d.xs[i].all.map Prod.fst).getD ((d.xs[i].all.map Prod.fst).length / 2) []=b at*;have b1:=SW m;have b2:=adC m;refine⟨an _,ah,by show 0<2;decide,rfl,λk hk=>?_,λq=>?_,by show 2<60000;decide⟩
 .have hk:k+1<2:=hk;have:k=0:=ah;subst this;show d.los.getD i []<Av a b;rcases jD (d.los.getD i []) a with q|q|q
  .exact dZ q b1
  .rw[q];exact b1
  .exact absurd q lo1
 .show Av a b<d.los.getD (i+1) [];have hh:=bn.hi i hi;have hb:=adV k2 (by rw[hh.1,aU];omega);rw[hh.2 ah]at hb;rcases jD (Av a b) b with q|q|q
  .exact dZ q hb
  .rw[q];exact hb
  .exact absurd q b2
section
variable{d:Wd}{k:Nat}{h:aG}{nx:Nat}
theorem akX(b:UInt8):wZ [b]=decide (b.toNat<1\/3<b.toNat):=by simp[wZ]
abbrev Wd.zT(d:Wd)(r:Option zv×Int):AV:= .dN [d.C' r.1,i6 r.2]
theorem Wd.ok.ret(o:d.ok k h nx){r r':Option zv×Int}(S:aH nx h h')(e:r=r'):Pure h nx (λw=>w=d.zT r') (d.zT r) h' nx':=by subst e;exact .dT S (.jS (.cQ (o.ae8 _)) .cA) rfl
theorem a7(o:d.FN k h nx)(a:Int)(b:UInt8):aA prog 7 [.ptr d.eb 0,.ptr d.p.pb 0,i6 a,u8 (b.toNat:Nat)] h nx (dr (d.zT (i' d.qS 3 a b.toNat)) h nx):=by
 refine aA.pc 4 T0 func7 ?_;have rl:=o.o.Y0;have bl:=o.o.bn.len;simp+decide-dsimp only[f7,go_sem];refine bm (a30 o.o.e) ?_;by_cases ha:a<0\/(d.los.length:Int)<=a
 .have er:i' d.qS 3 a b.toNat=(none,21):=by unfold i';dsimp only;rw[aw rfl,aw (by rw[rl];exact ha)]
  rw[er];simp+decide-dsimp only[go_sem];refine bm (aet o ha) ?_;simp+decide-dsimp only[go_sem];exact o.o.ret (r:=(none,21)) .refl rfl
 .obtain⟨i,rfl⟩:∃i:Nat,a=i:=⟨a.toNat,ah⟩;have hi:i<d.xs.length:=ah;have er:i' d.qS 3 i b.toNat=(if wZ [b]=true then none else some ⟨i,1,[d.los.getD i []],[b]⟩,if wZ [b]=true then 20 else 0):=by
   unfold i';dsimp only;rw[aw rfl,ak (by rw[rl];exact ha),akX,show(i:Int).toNat=i from rfl,o.o.rlo hi,show((b.toNat:Nat):Int).toNat=b.toNat from rfl,LA];by_cases hb:b.toNat<1\/3<b.toNat;.rw[aw ah,aw (aM hb),aw (aM hb)]
   .rw[ak ah,ak (by rw[aU hb];decide),ak (by rw[aU hb];decide)]
  simp+decide-dsimp only[go_sem];refine bm (a31 o hi) ?_;simp+decide-dsimp only[go_sem];have S:aH nx h (aK (aK h nx (.cells [bR (d.los.getD i [])] 9)) (nx+1) (.cells [u8 (b.toNat:Nat)] 5)):=jh;refine bm (a32 (o.same S ah) (o.o.ae0 (n:=1) (an _) ah) (ks:=[b]) rfl (by show 1<=2;decide) (v1:= .sl nx 0 1 1) (v2:= .sl (nx+1) 0 1 1) (.inr ⟨_,1,_,rfl,by rw[aj,ak ah,aj,aw rfl],an _,rfl,rfl⟩) (.inr ⟨_,1,_,rfl,gl,an _,rfl,rfl⟩) (λb hb=>by cases hb;omega) (λb hb=>by cases hb;omega)) ?_;simp+decide-dsimp only[go_sem];rw[er];exact o.o.ret S rfl
theorem a9(o:d.FN k h nx)(a b:Int):aA prog 9 [.ptr d.eb 0,.ptr d.p.pb 0,i6 a] h nx (dr (d.zT (i' d.qS 5 a b)) h nx):=by
 refine aA.pc 3 T0 func9 ?_;have rl:=o.o.Y0;have bl:=o.o.bn.len;have CB:=o.o.bn.vW;have e5:i' d.qS 5 a b=if a<0\/(d.qS.length:Int)-1<=a then(none,21)else(some ⟨a,2,[(d.qS.getD a.toNat default).lo],[UInt8.ofNat (d.qS.getD a.toNat default).kd]⟩,0):=rfl
 rw[rl]at e5;simp+decide-dsimp only[f9,go_sem];refine bm (a30 o.o.e) ?_;by_cases ha:a<0\/(d.los.length:Int)<=a;.rw[aw ah]at e5;simp+decide-dsimp only[go_sem];refine bm (aet o ha) ?_;simp+decide-dsimp only[go_sem];exact o.o.ret (r:=(none,21)) .refl e5.symm
 .obtain⟨i,rfl⟩:∃i:Nat,a=i:=⟨a.toNat,ah⟩;have hi:i<d.xs.length:=ah;have w:i+1<9223372036854775808:=ah;simp+decide-dsimp only[go_sem];refine bm (a31 o hi) ?_;by_cases h1:i+1<d.los.length
  .have jj:¬((d.los.length:Nat):Int)<=((i+1:Nat):Int):=ah;have px:=o.o.P.all _ (bS hi);have qN:(UInt8.ofNat (d.xs[i]).kd).toNat=(d.xs[i]).kd:=by rcases px.kd with e|e|e<;>rw[e]<;>rfl
   have Ps:wZ [UInt8.ofNat (d.xs[i]).kd]=false:=by rcases px.kd with e|e|e<;>rw[e]<;>rfl
   rw[ak ah,show(i:Int).toNat=i from rfl,o.o.rlo hi,o.o.rp hi]at e5;simp+decide-dsimp only[go_sem,w,jj];refine bm (a33 _ ((aj _ _ _ _).trans ((ak (by have:=px.xl;omega)).trans px.c))) ?_;simp+decide-dsimp only[go_sem];refine bm (a36 _ _ ((aj _ _ _ _).trans ((ak (by have:=px.il;omega)).trans px.i))) ?_;simp+decide-dsimp only[go_sem];have S:aH nx h (aK (aK h nx (.cells [bR (d.los.getD i [])] 9)) (nx+1) (.cells [u8 ((d.xs[i]).kd:Nat)] 5)):=jh;refine bm (a32 (o.same S ah) (o.o.ae0 (n:=2) bN ah) (ks:=[UInt8.ofNat (d.xs[i]).kd]) rfl (by show 1<=2;decide) (v1:= .sl nx 0 1 1) (v2:= .sl (nx+1) 0 1 1) (.inr ⟨_,1,_,rfl,by rw[aj,ak ah,aj,aw rfl],an _,rfl,rfl⟩) (.inr ⟨_,1,_,rfl,gl,an _,rfl,by show _=[u8 _];rw[qN];rfl⟩) (λb hb=>by cases hb;omega) (λb hb=>by cases hb;omega)) ?_;rw[Ps];simp+decide-dsimp only[go_sem];exact o.o.ret (r:=(some ⟨i,2,[d.los.getD i []],[UInt8.ofNat (d.xs[i]).kd]⟩,0)) S e5.symm
  .have jj:((d.los.length:Nat):Int)<=((i+1:Nat):Int):=ah;rw[aw ah]at e5;simp+decide-dsimp only[go_sem,w,jj];exact o.o.ret (r:=(none,21)) .refl e5.symm
end
variable{eb:Nat}
def T8:Nat->cU:=λid=>if id=11 then[(z14,[],some 15),([16,17,18],[],some 19),([],[],some 20),([],[],none)]else[]
theorem Qb{e:TypeId}{sz:TypeId->Option Nat}{k:Nat}{l:List Pr}(hk:k<l.length):rT (some (.slice e)) sz (ze l) (int k)=(sz e).bind λsize=>(ed (k*size) (l.flatMap Pr.cells)).map λl=> .val (.fp l):=sS hk
theorem SN{k:Nat}{l:List Pr}(hk:k<l.length):ed (k*2) (l.flatMap Pr.cells)=some ([bR (l.getD k default).1,bR (l.getD k default).2]++(l.drop (k+1)).flatMap Pr.cells):=by rw[ni Fb (dP hk),KU hk]
attribute[go_sem] Qb SN
section
variable{d:Wd}{k:Nat}{h:aG}{nx:Nat}
theorem a8n{v:AV}{a:Int}(he:au h eb=some (.cells [.g (.pointer none),.g (.pointer none)] 65)):aA prog 8 [.ptr eb 0,v,i6 a] h nx (dr (.dN [.g (.pointer none),i6 2]) h nx):=by refine aA.pc 3 T8 func8 ?_;simp+decide-dsimp only[f8,go_sem];refine bm (ank he) ?_;simp+decide-dsimp only[go_sem];exact .dT .refl (.jS .cA .cA) rfl
theorem a8(o:d.FN k h nx)(a b:Int):aA prog 8 [.ptr d.eb 0,.ptr d.p.pb 0,i6 a] h nx (dr (d.zT (i' d.qS 4 a b)) h nx):=by
 refine aA.pc 3 T8 func8 ?_;have rl:=o.o.Y0;have bl:=o.o.bn.len;have CB:=o.o.bn.vW;have e4:i' d.qS 4 a b=if a<0\/(d.qS.length:Int)<=a then(none,21)else if(d.qS.getD a.toNat default).aJ.length<2 then(none,4)else(some ⟨a,1,[(d.qS.getD a.toNat default).lo,Av ((d.qS.getD a.toNat default).aJ.getD ((d.qS.getD a.toNat default).aJ.length / 2-1) []) ((d.qS.getD a.toNat default).aJ.getD ((d.qS.getD a.toNat default).aJ.length / 2) [])],[UInt8.ofNat (d.qS.getD a.toNat default).kd,UInt8.ofNat (d.qS.getD a.toNat default).kd]⟩,0):=rfl
 rw[rl]at e4;simp+decide-dsimp only[f8,go_sem];refine bm (a30 o.o.e) ?_;by_cases ha:a<0\/(d.los.length:Int)<=a;.rw[aw ha]at e4;simp+decide-dsimp only[go_sem];refine bm (aet o ha) ?_;simp+decide-dsimp only[go_sem];exact o.o.ret (r:=(none,21)) .refl e4.symm
 obtain⟨i,rfl⟩:∃i:Nat,a=i:=⟨a.toNat,ah⟩;have hi:i<d.xs.length:=ah;have px:=o.o.P.all _ (bS hi);obtain⟨rs,rn⟩:=o.o.zP (bS hi);rw[ak ha,show(i:Int).toNat=i from rfl,o.o.rlo hi,o.o.rp hi]at e4;simp+decide-dsimp only[go_sem];refine bm (a31 o hi) ?_;simp+decide-dsimp only[go_sem];refine bm (a33 _ px.c) ?_;simp+decide-dsimp only[go_sem];refine bm (a34 _ _ px.i px.w px.ok) ?_;have eal:(d.xs[i]).T.all (d.xs[i]).pk=(d.xs[i]).all:=rfl;rw[eal];have kl:((d.xs[i]).rp).aJ.length=(d.xs[i]).all.length:=bc _;by_cases h2:(d.xs[i]).all.length<2;.have nU:((d.xs[i]).all.length:Int)<2:=ah;rw[aw (by rw[kl];exact h2)]at e4;simp+decide-dsimp only[go_sem,nU];exact o.o.ret (r:=(none,4)) .refl e4.symm
 have nU:¬((d.xs[i]).all.length:Int)<2:=ah;have h16:¬(16:Int)<=((d.los.length:Nat):Int):=ah;rw[ak (by rw[kl];exact h2)]at e4;have F:=o.o.aky hi (by rw[bc];exact h2);have md:=aiw rs (by rw[bc];exact h2);have sm:∀y∈(d.xs[i]).all.map Prod.fst,y.length<60000:=λy hy=>mu (rs.pk y hy).2 bN;have kk:((d.xs[i]).rp).aJ=(d.xs[i]).all.map Prod.fst:=rfl;rw[kk]at e4;have ll:((d.xs[i]).all.map Prod.fst).length=(d.xs[i]).all.length:=bc _;have q1:(d.xs[i]).all.length / 2<(d.xs[i]).all.length:=ah;have q2:1<=(d.xs[i]).all.length / 2:=ah;have q3:(d.xs[i]).all.length / 2-1<(d.xs[i]).all.length:=ah;have q4:(d.xs[i]).all.length<65536:=ah;have q5:(d.xs[i]).all.length / 2<9223372036854775808:=ah;have w1:cF .i64 (((d.xs[i]).all.length / 2:Nat)-1:Int)=((d.xs[i].all.length / 2-1:Nat):Int):=pC;have g1:∀j,j<(d.xs[i]).all.length->((d.xs[i]).all.getD j default).1=((d.xs[i]).all.map Prod.fst).getD j []:=λj hj=>by rw[az,az,ff,aF hj];rfl
 have G1:=g1 _ q1;have G2:=g1 _ q3;simp+decide-dsimp only[go_sem,T8,nU,h16,q1,q3,w1,Qu q4,G1,G2];have md:((d.xs[i]).all.map Prod.fst).getD ((d.xs[i]).all.length / 2-1) []<((d.xs[i]).all.map Prod.fst).getD ((d.xs[i]).all.length / 2) []:=by rw[<-ll];exact md
 refine aZ (a35 _ _ (sm _ (iX ah)) (sm _ (iX ah)) md) ?_;simp+decide-dsimp only[go_sem];generalize hq:nx+Array.size _=nb;have Tg:nx<=nb:=by rw[<-hq];exact gh _ _
 clear hq;have qN:(UInt8.ofNat (d.xs[i]).kd).toNat=(d.xs[i]).kd:=by rcases px.kd with e|e|e<;>rw[e]<;>rfl
 have Ps:wZ [UInt8.ofNat (d.xs[i]).kd,UInt8.ofNat (d.xs[i]).kd]=false:=by rcases px.kd with e|e|e<;>rw[e]<;>rfl
 refine bm (a33 _ px.c) ?_;simp+decide-dsimp only[go_sem];refine bm (a36 _ _ px.i) ?_;simp+decide-dsimp only[go_sem];rw[ll]at F e4;have ek:((d.xs[i]).rp).kd=(d.xs[i]).kd:=rfl;rw[ek]at e4;generalize Av _ _=at_ at F e4⊢;have S:aH nx h (aK (aK h nb (.cells [bR (d.los.getD i []),bR at_] 9)) (nb+1) (.cells [u8 ((d.xs[i]).kd:Nat),u8 ((d.xs[i]).kd:Nat)] 5)):=jh;refine bm (a32 (o.same S ah) F (ks:=[UInt8.ofNat (d.xs[i]).kd,UInt8.ofNat (d.xs[i]).kd]) rfl (by show 2<=2;decide) (v1:= .sl nb 0 2 2) (v2:= .sl (nb+1) 0 2 2) (.inr ⟨_,2,_,rfl,by rw[aj,ak ah,aj,aw rfl],an _,rfl,rfl⟩) (.inr ⟨_,2,_,rfl,gl,an _,rfl,by show _=[u8 _,u8 _];rw[qN];rfl⟩) (λb hb=>by cases hb;omega) (λb hb=>by cases hb;omega)) ?_;rw[Ps];simp+decide-dsimp only[go_sem];exact o.o.ret (r:=(some ⟨i,1,[d.los.getD i [],at_],[UInt8.ofNat (d.xs[i]).kd,UInt8.ofNat (d.xs[i]).kd]⟩,0)) S e4.symm
end
variable{b1 b2 b3:Nat}
structure En where
 kd:Nat
 a:Int
 b:Int
 op:List AV
 len:op.length=7
 N5:op.all AV.cy=true
abbrev En.cells(x:En):List AV:=u8 (x.kd:Nat)::i6 x.a::i6 x.b::x.op
def T77:Nat->cU:=λid=>if id=1 then[(z5,[],some 6),([],[0,1,3],some 7),([8,9],[],some 10),([],[],some 11),([],[],none)]else[]
section
variable{d:Wd}{k:Nat}{h:aG}{nx:Nat}
theorem a77(o:d.FN k h nx)(x:En)(h1:au h b1=some (.cells [.ptr d.eb 0] 29))(h2:au h b2=some (.cells [.ptr d.p.pb 0] 31))(h3:au h b3=some (.cells x.cells 42)):
 aA prog 77 [.ptr b1 0,.ptr b2 0,.ptr b3 0] h nx (dr (d.zT (i' d.qS 3 x.a x.b)) h nx):=by
 refine aA.pc 3 T77 func77 ?_;simp+decide-dsimp only[f77,go_sem,T77,h1,h2,h3];refine aZ (a78 x.b) ?_;simp+decide-dsimp only[go_sem,h1,h2,h3];obtain⟨u,hu,hb⟩:∃u:UInt8,((u.toNat:Nat):Int)=(if x.b<1\/3<x.b then 0 else x.b)/\i' d.qS 3 x.a u.toNat=i' d.qS 3 x.a x.b:=by
  by_cases hb:x.b<1\/3<x.b
  .refine⟨0,by rw[aw hb];rfl,?_⟩;unfold i';dsimp only;rw[aw rfl,aw rfl];split;.rfl
   .rfl
  .have e:((UInt8.ofNat x.b.toNat).toNat:Int)=x.b:=by rw[fF (by show x.b.toNat<256;omega)];omega
   refine⟨UInt8.ofNat x.b.toNat,?_,?_⟩;.rw[ak hb,e]
   .rw[e]
 rw[<-hu];refine bm (a7 (o.same .refl ah) x.a u) ?_;rw[hb];simp+decide-dsimp only[go_sem];exact o.o.ret .refl rfl
theorem a79(o:d.FN k h nx)(x:En)(h1:au h b1=some (.cells [.ptr d.eb 0] 29))(h2:au h b2=some (.cells [.ptr d.p.pb 0] 31))(h3:au h b3=some (.cells x.cells 42)):
 aA prog 79 [.ptr b1 0,.ptr b2 0,.ptr b3 0] h nx (dr (d.zT (i' d.qS 4 x.a x.b)) h nx):=by
 refine aA.pc 3 T0 func79 ?_;simp+decide-dsimp only[f79,go_sem,h1,h2,h3];refine bm (a8 o x.a x.b) ?_;simp+decide-dsimp only[go_sem];exact o.o.ret .refl rfl
theorem a80(o:d.FN k h nx)(x:En)(h1:au h b1=some (.cells [.ptr d.eb 0] 29))(h2:au h b2=some (.cells [.ptr d.p.pb 0] 31))(h3:au h b3=some (.cells x.cells 42)):
 aA prog 80 [.ptr b1 0,.ptr b2 0,.ptr b3 0] h nx (dr (d.zT (i' d.qS 5 x.a x.b)) h nx):=by
 refine aA.pc 3 T0 func80 ?_;simp+decide-dsimp only[f80,go_sem,h1,h2,h3];refine bm (a9 o x.a x.b) ?_;simp+decide-dsimp only[go_sem];exact o.o.ret .refl rfl
end
def abY(h:aG)(b:Nat)(o:Option AO)(k v:AV):Option aG:=match o with
 |some (.map es clock)=>xC h b es clock k v (iF (.int .u8) k es 0)
 |_=>none
theorem Nh{h b es c k v}:abY h b (some (.map es c)) k v=xC h b es c k v (iF (.int .u8) k es 0):=bF rfl
theorem afH{h b k v}:qA prog h 92 (.mp b) k v=abY h b (au h b) k v:=by
 unfold qA abY;simp only[adD,UX,nP,cz];cases au h b with
 |none=>rfl
 |some o=>cases o<;>rfl
theorem ajF(k s:Int):xp (.int .u8) (u8 k) (u8 s)=some (decide (k=s)):=by
 show Instr.sameNow (.int .u8) (.int .u8 k) (.int .u8 s)=_;simp only[Instr.sameNow,cz]
 congr 1
theorem acK{kd k i}:iF kd k [] i=some none:=bF rfl
theorem Sj{k:Int}{v:AV}{es i}:iF (.int .u8) (u8 k) ((u8 k,v,n)::es) i=some (some (i,v)):=by rw[iF,ajF,aM rfl]
theorem Lb{k s:Int}{v:AV}{es i}(hn:¬k=s):iF (.int .u8) (u8 k) ((u8 s,v,n)::es) i=iF (.int .u8) (u8 k) es (i+1):=by rw[iF,ajF,aU hn]
theorem Rc{h b es c k v}:xC h b es c k v (some none)=some (aK h b (.map (es++[(k,v,c)]) (c+1))):=bF rfl
theorem FL{h b k}:my prog h 92 (.mp b) k true=match U3 (au h b)with|some es=>found .nilFunc true (iF (.int .u8) k es 0)|none=>none:=by unfold my;simp only[adD,UX,ahp,nP,cz,HP];cases U3 (au h b)<;>rfl
abbrev ag6(b1 b2 b3:Nat):List (AV×AV×Nat):=[(u8 3,.fn 77 [.ptr b1 0,.ptr b2 0,.ptr b3 0],0),(u8 4,.fn 79 [.ptr b1 0,.ptr b2 0,.ptr b3 0],1),(u8 5,.fn 80 [.ptr b1 0,.ptr b2 0,.ptr b3 0],2)]
theorem a37(c1:v1.cells=some [v1])(c2:v2.cells=some [v2])(d1:v1.cy=true)(d2:v2.cy=true)(x:En)(h:aG)(nx:Nat):
 aA prog 37 [v1,v2,.agg x.cells] h nx λw h' nx'=>w= .mp (nx+3)/\nx+4<=nx'/\aH nx h h'/\au h' nx=some (.cells [v1] 29)/\au h' (nx+1)=some (.cells [v2] 31)/\au h' (nx+2)=some (.cells x.cells 42)/\au h' (nx+3)=some (.map (ag6 nx (nx+1) (nx+2)) 3):=by
 refine aA.ac 3 T0 func37 ?_;have e1:∀o1 o2 o3 o4,au (aK (aK (aK (aK h nx o1) (nx+1) o2) (nx+2) o3) (nx+3) o4) (nx+3)=some o4:=λ_ _ _ _=>gl;have xl:=x.len;have xc:=x.N5;simp+decide-dsimp only[f37,go_sem,c1,c2,afH,Nh,acK,Lb,Rc,ch,jY,reduceAdd];exact jh
variable{z:Value}
def T10:Nat->cU:=λid=>if id=3 then[([0,1,2,4,5],[],some 3),([6,7,8,9],[5],some 10),([],[],some 11),([],[],none)]else[]
theorem En.tk(x:En):de 7 x.op=some x.op:=by rw[bO _ _ (by rw[x.len];decide),aD (by rw[x.len];decide)]
theorem amw(kd:Nat):iF (.int .u8) (u8 (kd:Nat)) (ag6 b1 b2 b3) 0=if kd=3 then some (some (0,.fn 77 [.ptr b1 0,.ptr b2 0,.ptr b3 0]))else if kd=4 then some (some (1,.fn 79 [.ptr b1 0,.ptr b2 0,.ptr b3 0]))else if kd=5 then some (some (2,.fn 80 [.ptr b1 0,.ptr b2 0,.ptr b3 0]))else some none:=by
 by_cases h3:kd=3;.rw[aw h3,h3];exact Sj
 rw[ak h3,Lb ah];by_cases h4:kd=4;.rw[aw h4,h4];exact Sj
 rw[ak h4,Lb ah];by_cases h5:kd=5;.rw[aw h5,h5];exact Sj
 rw[ak h5,Lb ah];rfl
theorem EG{v:AV}:found z true (some (some (i,v)))=some (.dN [v,.g (.bool true)]):=bF rfl
theorem aac:found z true (some none)=some (.dN [.g z,.g (.bool false)]):=bF rfl
section
variable{d:Wd}{k:Nat}{h:aG}{nx:Nat}
theorem akB{v:AV}(x:En):aA prog 10 [.g (.pointer none),v,.agg x.cells] h nx (dr (.dN [.g (.pointer none),i6 2]) h nx):=by have xl:=x.len;have xc:=x.N5;refine aA.pc 3 T10 func10 ?_;simp+decide-dsimp only[f10,go_sem];refine bm akl ?_;simp+decide-dsimp only[go_sem];exact .dT (jh) (.jS .cA .cA) rfl
theorem alF(x:En)(he:au h eb=some (.cells [.ptr rb 0,.ptr ep 0] 65))(db:eb<nx):aA prog 10 [.ptr eb 0,.g (.pointer none),.agg x.cells] h nx (dr (.dN [.g (.pointer none),i6 2]) h nx):=by have xl:=x.len;have xc:=x.N5;refine aA.pc 3 T10 func10 ?_;simp+decide-dsimp only[f10,go_sem];refine bm (alw (rb:=rb) (ep:=ep) ((aj _ _ _ _).trans ((ak ah).trans he))) ?_;simp+decide-dsimp only[go_sem];exact .dT (jh) (.jS .cA .cA) rfl
theorem a10(o:d.FN k h nx)(x:En):aA prog 10 [.ptr d.eb 0,.ptr d.p.pb 0,.agg x.cells] h nx (dr (d.zT (i' d.qS x.kd x.a x.b)) h nx):=by
 have xl:=x.len;have xc:=x.N5;have el:=o.o.lt _ (.inr (.inl rfl));refine aA.pc 3 T10 func10 ?_;have xt:=x.tk;simp+decide-dsimp only[f10,go_sem];refine bm (a30 ((aj _ _ _ _).trans ((ak ah).trans o.o.e))) ?_;simp+decide-dsimp only[go_sem,T10,xt];generalize hq:nx+1+Array.size _=nb;have Tg:nx+1<=nb:=by rw[<-hq];exact gh _ _
 clear hq;refine cf (a37 (v1:= .ptr d.eb 0) (v2:= .ptr d.p.pb 0) rfl rfl rfl rfl x _ _) ?_;rintro _ h' nx' hle ⟨rfl,hn,S,g1,g2,g3,g4⟩;have g0:au h' nx=some (.cells x.cells 42):=by rw[S _ ah,aj,aw rfl]
 have S2:aH nx h h':=λb hb=>by rw[S _ ah,aj,ak ah]
 have am:=amw (b1:=nb) (b2:=nb+1) (b3:=nb+2) x.kd;by_cases k3:x.kd=3
 .rw[aw k3]at am;have KY:i' d.qS 3 x.a x.b=i' d.qS x.kd x.a x.b:=by rw[k3]
  simp+decide-dsimp only[go_sem,g0,g4,am,FL,sj,EG];refine bm (a77 (o.same S2 ah) x g1 g2 g3) ?_;rw[KY];simp+decide-dsimp only[go_sem];exact o.o.ret S2 rfl
 rw[ak k3]at am;by_cases k4:x.kd=4
 .rw[aw k4]at am;have k4':i' d.qS 4 x.a x.b=i' d.qS x.kd x.a x.b:=by rw[k4]
  simp+decide-dsimp only[go_sem,g0,g4,am,FL,sj,EG];refine bm (a79 (o.same S2 ah) x g1 g2 g3) ?_;rw[k4'];simp+decide-dsimp only[go_sem];exact o.o.ret S2 rfl
 rw[ak k4]at am;by_cases k5:x.kd=5
 .rw[aw k5]at am;have k5':i' d.qS 5 x.a x.b=i' d.qS x.kd x.a x.b:=by rw[k5]
  simp+decide-dsimp only[go_sem,g0,g4,am,FL,sj,EG];refine bm (a80 (o.same S2 ah) x g1 g2 g3) ?_;rw[k5'];simp+decide-dsimp only[go_sem];exact o.o.ret S2 rfl
 rw[ak k5]at am;have e0:(none,1)=i' d.qS x.kd x.a x.b:=by unfold i';dsimp only;rw[ak k3,ak k4,ak k5]
 simp+decide-dsimp only[go_sem,g0,g4,am,FL,sj,aac];exact o.o.ret (r:=(none,1)) S2 e0
end
theorem a11{h:aG}{nx:Nat}(hm:au h mb=some (.cells [.g (.slice none 0 0),i6 0,i6 0,bQ false,bQ false] 96)):aA prog 11 [.ptr mb 0] h nx λ_ _ _=>True:=by
 refine aA.ac 1 T0 func11 ?_;simp+decide-dsimp only[f11,go_sem,hm];refine cL _ _ (λm s h' nx'=>m=0/\ao s 24=int 0/\ao s 25=int 0) (n:=0) ?_ ?_;.simp+decide-dsimp only[go_sem];rfl
 rintro m s h' nx' ⟨rfl,s24,FZ⟩;simp+decide-dsimp only[go_sem,s24,FZ]
structure Rq where
 r:Rp
 v:AV
 N5:v.cy=true
abbrev Rq.c(e:Rq):List AV:=[bR e.r.lo,e.v,u8 (e.r.kd:Nat)]
def T21:Nat->cU:=λid=>if id=6 then[([0,1,2,3,5,6,7,8,12],[3,8],some 4),([],[8,12],some 9),([],[12],some 10),([11],[12],some 13),([],[],none)]else if id=11 then[(z7,[1,6],some 8),([9],[],some 10),([],[],none)]else[]
theorem a21(o:d.ok k h nx):
 aA prog 21 [.ptr d.wb 0] h nx λw h' nx'=>∃d':Wd,d'.wb=d.wb/\d'.FN k h' nx'/\(∀b,d'.all b->d.all b\/nx<=b)/\(∀b,b<nx->b≠d.rb->au h' b=au h b)/\∃ls:List Rq,Own Rq.c 131 3 h' w ls/\ls.map Rq.r=d'.qS/\(∀e∈ls,Own fH 9 1 h' e.v e.r.aJ)/\(∀b,bZ w=some b->b<nx')/\∀e∈ls,∀b,bZ e.v=some b->b<nx':=by
 refine aA.ac 1 T21 func21 ?_;simp+decide-dsimp only[f21,go_sem];refine cf (a57 o) ?_;rintro _ h1 cm l1 ⟨d1,e1,o1,ab1,S1,W1,ow1,in1⟩;have bn:=o1.bn;have bP:=bn.len;have CB:=bn.vW;have Xn:0<d1.xs.length:=by have:=bn.one;omega
 obtain⟨pb,pcap,pA,rfl,gp,c1,c2,c3⟩:=ow1.sl Xn;have aln:=in1 pb rfl;have c3':pA.take d1.xs.length=d1.xs.flatMap Ct:=by rw[<-c3,cJ]
 simp+decide-dsimp only[go_sem];refine cL _ _ (λmm s h' nx'=>∃i w ls,i<=d1.xs.length/\mm=d1.xs.length-i/\ao s 4= .sl pb 0 d1.xs.length pcap/\ao s 5=int i/\ao s 3=w/\(Own Rq.c 131 3 h' w ls/\ls.map Rq.r=(d1.xs.take i).map Pt.rp/\(∀e∈ls,Own fH 9 1 h' e.v e.r.aJ)/\(∀b,bZ w=some b->cm<=b/\b<nx')/\(∀e∈ls,∀b,bZ e.v=some b->cm<=b/\b<nx')/\aH cm h1 h')/\cm<=nx') (n:=d1.xs.length) ?_ ?_;.simp+decide-dsimp only[go_sem];exact⟨0,_,[],aY _,rfl,rfl,rfl,.inl ⟨rfl,rfl⟩,rfl,λe he=>(by cases he),λb hb=>(by cases hb),λe he=>(by cases he),.refl⟩
 rintro mm s h' nx' ⟨i,w,ls,q1,rfl,s4,s5,s3,⟨ow,er,oe,iw,ie,S2⟩,l2⟩;have gp':au h' pb=some (.cells pA 78):=by rw[S2 _ aln.2.1];exact gp
 by_cases hi:i<d1.xs.length
 .have rX:(i:Int)<(d1.xs.length:Int):=ah;have px:=o1.P.all _ (bS hi);have nt:=Fe c3' hi (d1.xs[i]);have eg:d1.xs.getD i d1.xs[i]=d1.xs[i]:=by rw[az,aF hi];rfl
  rw[eg]at nt;have o2:d1.ok k h' nx':=o1.to S2 l2 (an _);have p2:=o2.P.all _ (bS hi);have xl:=p2.xl;have il:=p2.il;have d12:¬(pb=nx'+12):=ah;have x12:¬((d1.xs[i]).xb=nx'+12):=ah;have i12:¬((d1.xs[i]).ib=nx'+12):=ah;simp+decide-dsimp only[go_sem,T21,s4,s5,hi,rX,gp',nt,d12];refine bm (a58 _ ((aj _ _ _ _).trans ((ak x12).trans p2.c))) ?_;simp+decide-dsimp only[go_sem,gp',nt,d12];refine bm (a33 _ ((aj _ _ _ _).trans ((ak x12).trans p2.c))) ?_;simp+decide-dsimp only[go_sem];refine bm (a36 _ _ ((aj _ _ _ _).trans ((ak i12).trans p2.i))) ?_;simp+decide-dsimp only[go_sem,s4,s5,hi,gp',nt,d12,reduceAdd];generalize hH:aK (aK h' (nx'+12) _) (nx'+12) _=H;generalize hq:nx'+Array.size _=nq;have rm:nx'+13<=nq:=by rw[<-hq];exact eI bN _
  clear hq;have SH:aH nx' h' H:=by rw[<-hH];exact jh
  have Hx:au H (nx'+12)=some (.cells [bR (d1.xs[i]).lo,.g (.slice none 0 0),u8 ((d1.xs[i]).kd:Nat)] 131):=by rw[<-hH,aj,aw rfl]
  clear hH;obtain⟨kb,hkb⟩:∃kb,kb=nx'+12:=⟨_,rfl⟩;rw[<-hkb]at Hx⊢;have o3:d1.ok k H nq:=o2.to SH ah (an _);have p3:=o3.P.all _ (bS hi);obtain⟨rs,rn⟩:=o3.zP (bS hi);have eal:(d1.xs[i]).T.all (d1.xs[i]).pk=(d1.xs[i]).all:=rfl;refine bm (a33 _ p3.c) ?_;simp+decide-dsimp only[go_sem];refine bm (a34 _ _ p3.i p3.w p3.ok) ?_;rw[eal];obtain⟨L,hL⟩:∃L,L=(d1.xs[i]).all:=⟨_,rfl⟩;rw[<-hL]at rs rn⊢;simp+decide-dsimp only[go_sem];refine cL _ _ (λmm s h2 dU=>∃j kv,j<=L.length/\mm=L.length-j/\ao s 3=w/\ao s 4= .sl pb 0 d1.xs.length pcap/\ao s 5=int i/\ao s 6= .ptr kb 0/\ao s 7=ze L/\ao s 8=int j/\(au h2 kb=some (.cells [bR (d1.xs[i]).lo,kv,u8 ((d1.xs[i]).kd:Nat)] 131)/\Own fH 9 1 h2 kv ((L.map Prod.fst).take j)/\(∀b,bZ kv=some b->kb<b/\b<dU)/\aH kb H h2)/\kb<dU) (n:=L.length) ?_ ?_;.simp+decide-dsimp only[go_sem,s3,s4,s5];exact⟨0,_,aY _,rfl,rfl,⟨Hx,.inl ⟨rfl,rfl⟩,λb hb=>(by cases hb),.refl⟩,ah⟩
  clear s3 s4 s5 Hx;rintro mm s h2 dU ⟨j,kv,q2,rfl,s3,s4,s5,s6,s7,s8,⟨Hx,ok,ik,S3⟩,l3⟩;obtain⟨u1,u2⟩:=ok.cells;by_cases hj:j<L.length
  .have hj':(j:Int)<(L.length:Int):=ah;have w1:j+1<9223372036854775808:=ah;have k7:¬(kb=dU+7):=ah;have gk:(L.getD j default).1=(L.map Prod.fst).getD j []:=by rw[az,az,ff,aF hj];rfl
   simp+decide-dsimp only[go_sem,T21,s6,s7,s8,hj,hj',Hx,k7,gk,cr,cB,reduceMul];generalize hq:dU+Array.size _=n3;have hn3:dU+8<=n3:=by rw[<-hq];exact eI bN _
   clear hq;refine km (c:=fH) (ok.aX λb e=>by rw[aj,ak (by have:=(ik b e).2;omega)]) (λ_=>rfl) (λ_=>rfl) (by rw[ax,bc];omega) ((L.map Prod.fst).getD j []) ?_;rintro v' h3 nx3 l4 o4 in4 k4;obtain⟨u3,u4⟩:=o4.cells;have nw:∀b,b<=kb->au h3 b=au h2 b:=λb hb=>by rw[k4 b ah (λe=>by have:=(ik b e).1;omega),aj,ak ah]
   have G:=(nw kb (an _)).trans Hx;simp+decide-dsimp only[go_sem,s3,s4,s5,s6,s7,s8,G,u3,u4,w1];have el:(L.map Prod.fst).take (j+1)=(L.map Prod.fst).take j++[(L.map Prod.fst).getD j []]:=by
    have hjm:j<(L.map Prod.fst).length:=by rw[bc];exact hj
    rw[b9 hjm,az,aF hjm];rfl
   have in5:∀b,bZ v'=some b->kb<b/\b<nx3:=λb hb=>by
    rcases in4 b hb with q|q;.have:=ik b q;exact⟨this.1,ah⟩
    .exact⟨ah,q.2⟩
   exact⟨L.length-(j+1),ah,j+1,v',hj,rfl,rfl,⟨rfl,by rw[el];exact o4.aX λb hb=>by rw[aj,ak (by have:=(in5 b hb).1;omega)],in5,aH.set (λb hb=>(nw b ah).trans (S3 b hb)) (an _)⟩,ah⟩
  .have hj':¬(j:Int)<(L.length:Int):=ah;have hje:j=L.length:=ah;subst hje;simp+decide-dsimp only[go_sem,s3,s4,s5,s6,s7,s8,hj',Hx,cr,cB,reduceAdd,reduceMul];rw[aD (by rw[bc];omega)]at ok;have S4:aH nx' h' h2:=λb hb=>by rw[S3 b ah];exact SH b hb
   have ll:ls.length=i:=by have:=fN List.length er;rw[bc,bc,ax]at this;omega
   refine km (c:=Rq.c) (ow.aX λb e=>by rw[aj,ak (by have:=(iw b e).2;omega),S4 b (iw b e).2]) (λ_=>rfl) (λe=>by show(true&&(AV.cy e.v&&true))=true;rw[e.N5];rfl) ah ⟨⟨(d1.xs[i]).lo,L.map Prod.fst,(d1.xs[i]).kd⟩,kv,u2⟩ ?_;rintro w' h3 nx3 l4 o4 in4 k4;have w1:i+1<9223372036854775808:=ah;obtain⟨u3,u4⟩:=o4.cells;simp+decide-dsimp only[go_sem,s3,s4,s5,w1];have nw:∀b,b<dU->bZ w≠some b->au h3 b=au h2 b:=λb hb he=>by rw[k4 b ah he,aj,ak ah]
   refine⟨d1.xs.length-(i+1),ah,i+1,w',ls++[⟨⟨(d1.xs[i]).lo,L.map Prod.fst,(d1.xs[i]).kd⟩,kv,u2⟩],hi,rfl,rfl,rfl,⟨o4,?_,λe he=>?_,λb hb=>?_,λe he b hb=>?_,λb hb=>?_⟩,ah⟩;.rw[b9 hi,dB,dB,er,hL];rfl
   .rcases bp.1 he with he|he;.refine(oe e he).aX λb hb=>?_;have ib:=(ie e he b hb).2;obtain⟨A,hA⟩:=(oe e he).bJ hb;rw[nw b ah (λq=>by obtain⟨B,hB⟩:=ow.bJ q;exact eO hA hB bN rfl),S4 b ib]
    .rw[aR.1 he];exact ok.aX λb hb=>nw b (ik b hb).2 λq=>by have:=(iw b q).2;have:=(ik b hb).1;omega
   .rcases in4 b hb with q|q;.have:=iw b q;exact⟨this.1,ah⟩
    .exact⟨ah,q.2⟩
   .rcases bp.1 he with he|he;.have:=ie e he b hb;exact⟨this.1,ah⟩
    .rw[aR.1 he]at hb;have:=ik b hb;exact⟨ah,ah⟩
   .rw[nw b ah (λq=>by have:=(iw b q).1;omega),S4 b ah];exact S2 b hb
 .have rX:¬(i:Int)<(d1.xs.length:Int):=ah;have hie:i=d1.xs.length:=ah;subst hie;simp+decide-dsimp only[go_sem,s3,s4,s5,rX];obtain⟨u1,u2⟩:=ow.cells;rw[oR]at er;have o2:=o1.to S2 l2 (an k);refine⟨d1,e1,?_,ab1,λb hb e=>by rw[S2 b ah];exact S1 b hb e,ls,ow,er,oe,λb hb=>(iw b hb).2,λe he b hb=>(ie e he b hb).2⟩;obtain⟨⟨q,bq,g1⟩,g2⟩:=W1;exact⟨o2,⟨⟨q,bq,by rw[S2 _ o1.r.UP];exact g1⟩,by rw[S2 _ o1.r.PA];exact g2⟩⟩
end
end bC
end Go.Proofs.YtonnifoeokagjaaGreat
