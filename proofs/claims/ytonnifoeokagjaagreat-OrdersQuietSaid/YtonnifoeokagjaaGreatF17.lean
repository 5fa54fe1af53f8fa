/- The theorem quiet_holds of OrdersQuiet: part 17 of its proof; no conditions. -/
import Derived.Test.YtonnifoeokagjaaGreatF16
namespace Go.Proofs.YtonnifoeokagjaaGreat
set_option linter.all false
set_option maxRecDepth 8000
open Go Go.RowKit
open Option renaming some->J,none->B
open Bool renaming true->M,false->R
open List renaming length->O
open Tryz
open Nat(reduceAdd reduceMul)
namespace br
noncomputable section
variable{b:Nat}{h:aE}{vv:u}{α β:Type}
def ME{c:α->List u}{c':β->List u}{e e' hd z' AV v l l'}(o:Own c e hd h AV l)(o':Own c' e' z' h v l')(cD:e≠e')(D:cu AV=J b):cu v≠J b:=λhv=>by
 obtain⟨rfl,_⟩|⟨b1,_,hc,rfl,W,_⟩:=o;.cases D
 obtain⟨rfl,_⟩|⟨b2,_,A',rfl,F,_⟩:=o';.cases hv
 injection D with D;injection hv with hv
 rw[D]at W;rw[hv,W]at F;injection F with F;injection F with _ F;exact cD F
def afO:Nat->dr:=λid=>if id=6\/id=15 then[(z4,[],J 5),([6,7,8],[],J 9),([],[],J 10),([],[],B)]else[]
set_option maxHeartbeats 4000000 in
def anL(t:Mt)(h Y)(ok:t.ok h Y)(hR:∀s g n,ct t.a.es s=J (g,n)->(n.cw=M->n.ay.zxQ)/\(n.cw=R->O n.aL.bu<=5/\O n.aL.aJ<=4)/\O n.ay.sl=15){l:List Hd}(K:O l<=4096){aw:Hd->Mn}(hN:∀x∈l,ct t.a.es x.X=J (x.bo,aw x))(vy:∀x∈l,(aw x).cw=R)(rv:Sx h Y vv l){hl nx'}(hKe:(l.flatMap λx=>(vw (aw x)).bu)=hl)(hE:(l.flatMap λx=>fj (vw (aw x)))=nx')(hK:O hl=O nx'+1)
 (hk:∀i,i<O hl->∃m,ct t.a.es (hl.getD i default).X=J ((hl.getD i default).bo,m)/\m.kM=decide (i<O nx')/\(m.kM=M->m.eI=nx'.getD i [])):
 UP 326 [.ptr t.tb 0,vv] h Y (dG (.dY [qF hl,bW M]) h Y):=by
 refine az.pc 2 afO func326 ?_;have ev:∀{n:Mn},n.cw=R->fj (vw n)=n.aL.aJ++(if n.aL.bd then[n.aL.cQ]else[])/\(vw n).bu=n.aL.bu:=λ{n} h=>by unfold fj vw Mn.js Mn.kM Mn.eI;rw[h];exact⟨Z,Z⟩
 have kl:∀i,i<=O l->O ((l.take i).flatMap λx=>fj (vw (aw x)))<=5*i/\O ((l.take i).flatMap λx=>(vw (aw x)).bu)<=5*i:=by
  intro i
  induction i with
  |zero=>simp
  |succ i ih=>
   intro H;have oM:i<O l:=H;have hm:=bO oM;have⟨k5,k4⟩:=(hR _ _ _ (hN _ hm)).2.1 (vy _ hm);have⟨e1,e2⟩:=ev (vy _ hm);have e3:O (fj (vw (aw l[i])))<=5:=by rw[e1,aq];cases(aw l[i]).aL.bd<;>simp<;>omega
   rw[bj oM,bL,aq,bL,aq];have e4:O ([l[i]].flatMap λx=>fj (vw (aw x)))=O (fj (vw (aw l[i]))):=bR;have e5:O ([l[i]].flatMap λx=>(vw (aw x)).bu)=O (aw l[i]).aL.bu:=by simp[e2]
   have⟨i1,i2⟩:=ih U;constructor<;>omega
 have hE5:O nx'<=20480:=by have:=(kl (O l) (an _)).1;rw[fF,hE]at this;omega
 refine Y8 f326.eq_1 rv.len ?_;refine cI _ _ (λm s Q E=>∃i v AV,i<=O l/\m=O l-i/\X s 0= .ptr t.tb 0/\X s 6=AV/\X s 7=v/\X s 18=vv/\X s 19=int (O l)/\X s 20=int i/\Own Hd.cells 245 2 Q AV ((l.take i).flatMap λx=>(vw (aw x)).bu)/\In Y E AV/\Own gv 9 1 Q v ((l.take i).flatMap λx=>fj (vw (aw x)))/\In Y E v/\aG Y h Q/\Y<=E) (n:=O l) ?_ ?_;.refine QZ ?_;exact⟨0,_,_,aQ _,Z,Z,Z,Z,.inl ⟨Z,Z⟩,λb D=>(by cases D),.inl ⟨Z,Z⟩,λb D=>(by cases D),.refl⟩
 rintro m s Q E ⟨i,v,AV,H,rfl,s0,s6,s7,GC,M6,s20,oU,iU,oV,iV,mA,tn⟩;have ht:=(mA _ ok.lt).trans ok.tr;have d1:¬(t.tb=E):=EB ok.lt
 by_cases dc:i<O l
 .have hm:l.getD i default∈l:=by rw[aB,aF dc];exact bO dc
  have G:=hN _ hm;have hw:=vy _ hm;have⟨w0,x0,y0⟩:=rv.ix i dc;have vz:((l.take (i+1)).flatMap λx=>fj (vw (aw x)))=((l.take i).flatMap λx=>fj (vw (aw x)))++fj (vw (aw (l.getD i default)))/\((l.take (i+1)).flatMap λx=>(vw (aw x)).bu)=((l.take i).flatMap λx=>(vw (aw x)).bu)++(vw (aw (l.getD i default))).bu:=by
   have e1:l[i]=l.getD i default:=by simp[List.getD,dc]
   rw[bj dc,bL,bL,e1];simp
  generalize L:l.getD i default=x at G hw y0 vz;generalize hn:aw x=n at G hw vz;have⟨e,V,W,F,h3,h4,h7,h6⟩:=jb ok.ok G;have wi:i+1<9223372036854775808:=U;refine asB afO.eq_1 s0 GC M6 s20 dc ht d1 x0 (y0 Q mA) ?_;generalize hq:E+1+Array.size _=nq;have qf:E+1<=nq:=U;have Gz:∀hc zyQ,aG E Q (aI (aI Q E hc) E zyQ):=λhc zyQ=>(aG.refl.set (an _)).set (an _)
  refine bc (h6 _ nq (mA.trans (Gz _ _) tn) U) ?_;generalize hG:aI (aI Q E _) E _=hs;have vC:aG E Q hs:=hG▸(Gz _ _)
  have yH:=(vC _ (U:e.bT<E)).trans ((mA _ h7).trans h4);have⟨R1,R2,R3⟩:=hR _ _ _ G;have⟨k5,k4⟩:=R2 hw;have⟨v1,v2⟩:=ev hw;rw[v1,v2]at vz;have Fm:sN (u64 x.bo::n.cells) 1 n:=sN.mk' (pre:=[u64 x.bo]) R3;have fk:iS (1+112+3) (u64 x.bo::n.cells)=J (qF n.aL.bu):=rZ Fm.aL (j:=3) bS;have fy:=Fm.aJ;have fh:iS (1+112+4) (u64 x.bo::n.cells)=J (cg n.aL.cQ):=rZ Fm.aL (j:=4) bS;have fb:iS (1+112+5) (u64 x.bo::n.cells)=J (bW n.aL.bd):=rZ Fm.aL (j:=5) bS;have ym:O n.aL.bu<65536:=U;have hyn:O n.aL.aJ<65536:=U;have⟨b1,b2⟩:=kl i U;have oUG:=oU.aW (Q:=hs) (λb D=>vC b (iU b D).2);have oVG:=oV.aW (Q:=hs) (λb D=>vC b (iV b D).2);refine J7 yH s6 fk ?_;simp+decide-dsimp only[ze ym];refine kB (c:=Hd.cells) oUG (λ_=>rfl) (λ_=>rfl) n.aL.bu U (λu2 F dR l2 o2 w2 k2=>?_);have iu2:In Y dR u2:=λb D=>by
   obtain q|q:=w2 b D;.have:=iU b q;omega
   .omega
  have oV2:=oVG.aW (Q:=F) (λb D=>k2 b (EB (iV b D)) (ME oVG oUG bS D));have h42:N F e.bT=J (.cells (u64 x.bo::n.cells) 334):=by rw[k2 _ U (λq=>by have:=iU _ q;omega)];exact yH
  refine J7 h42 s7 fy ?_;simp+decide-dsimp only[ze hyn];refine kB (c:=gv) oV2 (λ_=>rfl) (λ_=>rfl) n.aL.aJ U (λv3 h3 nx3 l3 o3 w3 k3=>?_);have iv3:In Y nx3 v3:=λb D=>by
   obtain q|q:=w3 b D;.have:=iV b q;omega
   .omega
  have oU3:=o2.aW (Q:=h3) (λb D=>k3 b (EB (iu2 b D)) (ME o2 oV2 bS D));have h43:N h3 e.bT=J (.cells (u64 x.bo::n.cells) 334):=by rw[k3 _ U (λq=>by have:=iV _ q;omega)];exact h42
  have S3:aG Y h h3:=λb D=>by rw[k3 b U (λq=>by have:=iV b q;omega),k2 b U (λq=>by have:=iU b q;omega),vC b U];exact mA b D
  cases D:n.aL.bd with
  |false=>rw[D]at fb;refine YM h43 fb s0 GC M6 s20 wi ?_;refine⟨O l-(i+1),U,i+1,v3,u2,dc,Z,Z,Z,Z,by rw[vz.2];exact oU3,λb D=>by have:=iu2 b D;omega,?_,iv3,S3,U⟩;rw[vz.1,D,ak bS,cy];exact o3
  |true=>
   rw[D]at fb;refine PV h43 fb fh @cL @cV ?_;refine lN (c:=gv) (o3.aW λq e'=>?_) (λ_=>rfl) (λ_=>rfl) (Es @aq) n.aL.cQ λv4 L7 Gc l4 o4 w4 k4'=>?_;.have:=iv3 q e';rw[Xg]
   refine PV s0 GC M6 s20 wi ?_;refine⟨O l-(i+1),U,i+1,v4,u2,dc,Z,Z,Z,Z,?_,λb D=>by have:=iu2 b D;omega,?_,λb D=>?_,λb D=>?_,U⟩;.rw[vz.2];exact oU3.aW (λb D=>by have:=iu2 b D;rw[k4' b U (ME oU3 o3 bS D),Xg])
   .rw[vz.1,D,au Z,<-aA];exact o4
   .obtain q|q:=w4 b D;.have:=iv3 b q;omega
    .omega
   .rw[k4' b U (λq=>by have:=iv3 b q;omega),Xg];exact S3 b D
 .have e:i=O l:=U;subst e;rw[fF,hE]at oV;rw[fF,hKe]at oU;have wK:O hl<65536:=U;have uU:=λe' Q=>oU.len (e':=e') (Q:=Q);have uL:=λe' Q=>oV.len (e':=e') (Q:=Q);have rK:Sx Q E AV hl:= .own oU λb D=>(iU b D).2;simp+decide-dsimp only[go_sem,s6,M6,s20,uU,dz];refine cI _ _ (λm s F dR=>∃i,i<=hl.length/\m=hl.length-i/\X s 0= .ptr t.tb 0/\X s 6=AV/\X s 7=v/\X s 61=AV/\X s 62=int hl.length/\X s 63=int i/\aG E Q F/\E<=dR) (n:=hl.length) ?_ ?_;.simp+decide-dsimp only[go_sem,s0,s6,s7];exact⟨0,aQ _,rfl,rfl,.refl⟩
  clear s0 s6 s7 GC M6 s20;rintro m s F dR ⟨i,H,rfl,s0,s6,s7,s61,s62,s63,nB,l2⟩;have ht:=(nB _ (by have:=ok.lt;omega:t.tb<E)).trans ht;have d1:¬(t.tb=dR):=EB ok.lt
  have o2:=oV.aW (Q:=F) λb D=>nB b (iV b D).2;by_cases dc:i<O hl
  .have⟨n,G,mB,Cj⟩:=hk i dc;have⟨w0,x0,y0⟩:=rK.ix i dc;generalize L:hl.getD i default=x at G y0;have⟨e,V,W,qK,h3,h4,h7,h6⟩:=jb ok.ok G;have wi:i+1<9223372036854775808:=U;refine asB afO.eq_1 s0 s61 s62 s63 dc ht d1 x0 (y0 F nB) ?_;generalize hq:dR+1+Array.size _=nq;have qf:dR+1<=nq:=U;have Gz:∀hc zyQ,aG dR F (aI (aI F dR hc) dR zyQ):=λhc zyQ=>(aG.refl.set (an _)).set (an _);refine bc (h6 _ nq ((mA.trans nB tn).trans (Gz _ _) U) U) ?_;generalize hG:aI (aI F dR _) dR _=hs;have vC:aG dR F hs:=hG▸(Gz _ _)
   have yH:=(vC _ (U:e.bT<dR)).trans (((mA.trans nB tn) _ h7).trans h4);have oG:=o2.aW (Q:=hs) λb D=>vC b (EB ((iV b D).2));have⟨R1,R2,R3⟩:=hR _ _ _ G;have Fm:sN (u64 x.bo::n.cells) 1 n:=sN.mk' (pre:=[u64 x.bo]) R3;refine QZ ?_;refine bc (alr yH U Fm R1) ?_;by_cases hiE:i<O nx'
   .have hiE':(i:Int)<(O nx':Int):=U;have hiG:¬O nx'<=i:=U;have D:n.kM=M:=by rw[mB,aN hiE]
    have hh:=Cj D;obtain⟨b,cap,hc,rfl,gA,_,_,q3⟩:=oG.sl U;have KC:iS (i*1) hc=J (cg (nx'.getD i [])):=JN q3 hiE;simp+decide-dsimp only[go_sem,s0,s6,s7,s61,s62,s63,hiE,hiG,D,gA,KC,hh,wi];exact aut
   .have D:n.kM=R:=by rw[mB,aU hiE]
    refine Ik s0 s6 s7 s61 s62 s63 D wi ?_;exact aut
  .have e:i=O hl:=U;subst e;have wE:nx'.length+1<9223372036854775808:=U;have cK:(((hl.length:Nat):Int)=((nx'.length+1:Nat):Int)):=U;simp+decide-dsimp only[go_sem,s6,s7,uU,uL,s62,s63,dz,wE,cK];refine .eE (mA.trans nB tn) (.dY (.cons ?_ (.cons .cP .nil))) rfl;exact(oU.aW (Q:=F) λb D=>nB b (iU b D).2).fz (iU.le (an _) l2) sB
def below(S:List Nat)(pre:Nat->aY)(P:aY):List Nat:=S.filter λs=>P.isPrefixOf (pre s)
def qs(S:List Nat)(pre:Nat->aY)(c:Nat->Nat)(P:aY):Nat:=((below S pre P).map c).sum
theorem Jq{α:Type}(f:α->List Nat)(c:Nat->Nat):∀l:List α,((l.flatMap f).map c).sum=(l.map λx=>((f x).map c).sum).sum
 |[]=>rfl
 |x::l=>by rw[bE,dm,kT,Jq f c l,cB,gM]
theorem W6{α:Type}(p:α->Bool)(f:α->Nat):∀l:List α,((l.filter p).map f).sum=(l.map λx=>if p x then f x else 0).sum
 |[]=>rfl
 |x::l=>by rw[lD,cB,gM,<-W6 p f l];cases p x<;>simp
theorem Cy{α:Type}:∀l:List α,(l.map λ_=>1).sum=O l
 |[]=>rfl
 |x::l=>by rw[cB,gM,Cy l,bD];omega
theorem sum_add{α:Type}(f g:α->Nat):∀l:List α,(l.map λx=>f x+g x).sum=(l.map f).sum+(l.map g).sum
 |[]=>rfl
 |x::l=>by simp only[cB,gM,sum_add f g l];omega
theorem Bm{α:Type}(p:α->Bool):∀l:List α,(l.map λx=>if p x then 1 else 0).sum=l.countP p
 |[]=>rfl
 |x::l=>by rw[cB,gM,Bm p l,nm];omega
section
variable{Pk:aY->Prop}{σ:jJ}{aO:Hd}{pre lo:Nat->aY}{eo par rk:Nat->Nat}{iL:Nat->Prop}(I:MI Pk σ aO pre lo eo par rk iL Cd){S:List Nat}(hS:S.Nodup)(hm:∀s,s∈S↔σ s≠B)
 {z:Hd} {l:List Hd} (r:Row (Pj σ) z l) (h0:lo z.X=[]) (Aa:eo z.X=0) {aw:Hd->Mn} (hN:∀x∈l,σ x.X=J (x.bo,aw x)) {k:Nat} (hk:O (pre z.X)=8*k)
include I r h0 Aa hN
theorem MI.ahH{y}(hy:y∈l.flatMap λx=>(aw x).ay.es):∃x∈l,∃i,i<(aw x).ay.n/\y=(aw x).ay.e i/\(aw x).cw=M/\pre x.X=pre z.X:=by
 have⟨x,L,hy⟩:=cS.1 hy;have⟨i,H⟩:=List.getElem?_of_mem hy;rw[od]at H;have⟨n,a1,a2,a3,_⟩:=I.bf.mem r x L;split at H
 .rename_i q;injection H with H
  exact⟨x,L,i,q,H.symm,(I.cw _ _ _ (hN x L)).2 (a2.trans Aa),a3⟩
 .cases H
theorem MI.aaP{y}(hy:y∈l.flatMap λx=>(aw x).ay.es)(uu:y.deep=M):pre y.link.X=pre z.X++nameOf y.m/\O (nameOf y.m)=8:=by obtain⟨x,L,i,H,rfl,lw,hp⟩:=I.ahH r h0 Aa hN hy;have G:=hN x L;exact⟨by rw[((I.X _ _ _ G lw i H).link uu).2.1,hp],I.xM G lw H uu⟩
include hS hm hk
theorem MI.MM:(below S pre (pre z.X)).Perm ((S.filter λs=>decide (pre s=pre z.X))++((l.flatMap λx=>(aw x).ay.es).filter Sl.deep).flatMap λy=>below S pre (pre y.link.X)):=by
 have h2:=I.bf;have lk:=λ{y} hy uu=>I.aaP r h0 Aa hN (y:=y) hy uu;refine(pQ (hS.filter _) ?_).2 λs=>?_
 .rw[mu];refine⟨hS.filter _,?_,λa ha b D e=>?_⟩
  .show List.Pairwise (· ≠ ·) _;rw[tP];refine⟨λy _=>hS.filter _,?_⟩;have P:(l.flatMap λx=>(aw x).ay.es).Pairwise λa b=>a.deep=true->b.deep=true->nameOf a.m≠nameOf b.m:=by
    rw[tP];have key:∀x∈l,∀y∈l,∀i,i<(aw x).ay.n->∀j,j<(aw y).ay.n->((aw x).ay.e i).deep=true->((aw y).ay.e j).deep=true->nameOf ((aw x).ay.e i).m=nameOf ((aw y).ay.e j).m->x.X=y.X/\i=j:=by intro x L y hy i H j hj d1 d2 e;obtain⟨_,_,a2,a3,_⟩:=h2.mem r x L;obtain⟨_,_,b2,b3,_⟩:=h2.mem r y hy;have Cn:=hN x L;have hsy:=hN y hy;have lx:=(I.cw _ _ _ Cn).2 (a2.trans Aa);have ly:=(I.cw _ _ _ hsy).2 (b2.trans Aa);exact I.Kw Cn lx H (I.Hm Cn lx H d1) hsy ly hj (I.Hm hsy ly hj d2) (by rw[a3,b3,e])
    refine⟨λx L=>?_,?_⟩
    .unfold Lf.es;rw[sI];refine List.pairwise_lt_range.imp_of_mem λ{i j} H hj EN d1 d2 e=>?_
     have:=(key x L x L i (dQ.1 H) j (dQ.1 hj) d1 d2 e).2;omega
    .refine(sI.1 (h2.nodup r)).imp_of_mem λ{x y} L hy cD a ha b D d1 d2 e=>?_;obtain⟨i,H,rfl⟩:=bg.1 ha;obtain⟨j,hj,rfl⟩:=bg.1 D;exact cD (key x L y hy i (dQ.1 H) j (dQ.1 hj) d1 d2 e).1
   refine(P.filter _).imp_of_mem λ{a b} ha D yl s G s' lS e=>?_;subst e;have⟨ha,da⟩:=cR.1 ha;have⟨D,db⟩:=cR.1 D;have⟨a1,a2⟩:=lk ha da;have⟨b1,b2⟩:=lk D db;have W:=fV.1 (cR.1 G).2;have F:=fV.1 (cR.1 lS).2;rw[a1]at W;rw[b1]at F;have:=(tL W F (by rw[aq,aq,a2,b2];exact an _)).eq_of_length (by rw[aq,aq,a2,b2]);exact yl da db (List.append_cancel_left this)
  .subst e;have⟨y,hy,D⟩:=cS.1 D;have⟨hy,dy⟩:=cR.1 hy;have⟨a1,a2⟩:=lk hy dy;have e1:pre a=pre z.X:=by simpa using(cR.1 ha).2
   have:=(fV.1 (cR.1 D).2).length_le;rw[a1,e1,aq,a2]at this;omega
 .rw[bN,cR,cS];constructor
  .rintro⟨W,F⟩;have F:=fV.1 F;by_cases e:pre s=pre z.X;.exact .inl (cR.2 ⟨W,by simpa using e⟩)
   .right;cases G:σ s with
    |none=>exact absurd G ((hm s).1 W)
    |some q=>have⟨AV,gu,nu,i,b1,b2,b3,b4,b5,b6⟩:=I.via hk _ s q.1 q.2 G (an _) F e;have⟨x,L,e1⟩:=bg.1 (h2.all r h0 (wV b1) (((I.cw _ _ _ b1).1 b2).trans Aa.symm) b5);have Cn:=hN x L;rw[e1,b1]at Cn;injection Cn with Cn;injection Cn with _ Cn;have hy:nu.ay.e i∈l.flatMap λx=>(aw x).ay.es:=cS.2 ⟨x,L,by rw[<-Cn];exact bg.2 ⟨i,dQ.2 b3,Z⟩⟩;refine⟨_,cR.2 ⟨hy,b4⟩,cR.2 ⟨W,fV.2 ?_⟩⟩;rw[(lk hy b4).1];exact b6
  .rintro(h|⟨y,hy,G⟩)
   .have⟨W,F⟩:=cR.1 h
    exact⟨W,fV.2 ((Mf F)▸(List.prefix_refl _))⟩
   .have⟨hy,dy⟩:=cR.1 hy;have⟨W,F⟩:=cR.1 G;refine⟨W,fV.2 ((nZ _ (nameOf y.m)).trans ?_)⟩;rw[<-(lk hy dy).1];exact fV.1 F
theorem MI.anU:O (S.filter λs=>decide (pre s=pre z.X))+((l.flatMap λx=>(aw x).ay.es).map λy=>if y.deep then qs S pre (λ_=>1) (pre y.link.X)else 0).sum=qs S pre (λ_=>1) (pre z.X)/\
 ((l.flatMap λx=>(aw x).ay.es).map λy=>if y.deep then 1+qs S pre (wt (kO M) σ) (pre y.link.X)else 0).sum=qs S pre (wt (kO M) σ) (pre z.X)/\
 ((l.flatMap λx=>(aw x).ay.es).map λy=>if y.deep then qs S pre (wt (kO R) σ) (pre y.link.X)else 1).sum=qs S pre (wt (kO R) σ) (pre z.X):=by
 have T:∀c:Nat->Nat,qs S pre c (pre z.X)=((S.filter λs=>decide (pre s=pre z.X)).map c).sum+((l.flatMap λx=>(aw x).ay.es).map λy=>if y.deep then qs S pre c (pre y.link.X)else 0).sum:=λc=>by have:=((I.MM hS hm r h0 Aa hN hk).map c).sum_nat;rw[dm,kT,Jq,W6 Sl.deep]at this;exact this
 have hx:∀b,((S.filter λs=>decide (pre s=pre z.X)).map (wt (kO b) σ)).sum=(l.flatMap λx=>(aw x).ay.es).countP (λy=>y.deep==b):=λb=>by
  have Ji:∀s,s∈S↔Pj σ s≠B:=λs=>by rw[hm];unfold Pj;cases σ s<;>simp
  have P:=((Row.perm hS Ji I.bf r h0).map (wt (kO b) σ)).sum_nat;rw[Aa]at P;rw[show(S.filter λs=>decide (pre s=pre z.X)&&(eo s==0))=(S.filter λs=>decide (pre s=pre z.X)).filter (λs=>eo s==0)by rw[List.filter_filter];congr 1;funext s;exact Bool.and_comm _ _]at P;rw[yk]at P;.rw[<-P,List.countP_flatMap,sY];refine ff _ (fD λx L=>?_);have⟨n,a1,a2,a3,_⟩:=I.bf.mem r x L;have G:=hN x L;show wt (kO b) σ x.X=_;rw[fP G,zj ((I.cw _ _ _ G).2 (a2.trans Aa))];rfl
  .intro s G q;have⟨G,_⟩:=cR.1 G;cases L:σ s with
   |none=>exact jc L
   |some x=>
    have L:σ s=J (x.1,x.2):=L;rw[fP L];refine yu ?_;cases lf:x.2.cw with
    |false=>rfl
    |true=>rw[(I.cw _ _ _ L).1 lf]at q;simp at q
 refine⟨?_,?_,?_⟩;.rw[T];congr 1;exact(Cy _).symm
 .rw[T,hx,<-Bm,<-sum_add];refine ff _ (fD λy _=>?_);cases y.deep<;>simp
 .rw[T,hx,<-Bm,<-sum_add];refine ff _ (fD λy _=>?_);cases y.deep<;>simp
end
variable{Pk:aY->Prop}{aO:Hd}{gu i s:Nat}{iL:Nat->Prop}{lo:Nat->aY}{par rk:Nat->Nat}{σ:jJ}
def MI.afa{pre eo}(I:MI Pk σ aO pre lo eo par rk iL Cd){AV nu}(hu:σ AV=J (gu,nu))(K:nu.cw=M)(H:i<nu.ay.n)(z:(nu.ay.e i).deep=M){g n}(G:σ s=J (g,n))(e:pre s=pre (nu.ay.e i).link.X):eo s<=eo (nu.ay.e i).link.X:=by
 have e1:=((I.X _ _ _ hu K i H).link z).2.1;have l8:=I.xM hu K H z;have ne:pre s≠[]:=λq=>by rw[e,e1]at q;have:=ff List.length q;rw[aq,l8]at this;simp at this
 rcases(I.lr _ _ _ G).2 ne with w|⟨s',g',n',j,b1,b2,b3,b4,b5,b6⟩;.exact w.elim
 have e2:=((I.X _ _ _ b1 b2 j b3).link b4).2.1;obtain⟨rfl,rfl⟩:=I.Kw hu K H (I.Hm hu K H z) b1 b2 b3 (I.Hm b1 b2 b3 b4) (by rw[<-e1,<-e2,b5,e]);rw[hu]at b1;injection b1 with b1;injection b1 with _ b1;subst b1
 exact b6
def apO(t:Mt)(h Y)(ok:t.ok h Y)(y:Sl)(h9:O y.m=9){zxQ}(hR:∃a b c:Int,zxQ= .dY [int a,int b,int c,bW M])(c:∀h Y,t.ok h Y->UP 309 [.ptr t.tb 0,.agg [int y.link.X,u64 y.link.bo]] h Y (dG zxQ h Y)):
 UP 328 [.ptr t.tb 0,.agg y.cells] h Y (dG zxQ h Y):=by
 obtain⟨r1,r2,r3,rfl⟩:=hR;refine az.pc 2 T0 func328 ?_;refine J7 f328.eq_1 @Sl.cells.eq_1 h9 ?_;generalize hG:aI h Y _=hs;have SG:aG Y h hs:=hG▸(aG.refl.set (an _))
 refine Av (c hs (Y+1) (ok.aW (λb D=>SG b (ok.dL D)) (bG _))) ?_;exact .eE SG (.dY (.cons .cP (.cons .cP (.cons .cP (.cons .cP .nil))))) Z
def Ij{α:Type}(c:α->Nat)(p:α->Bool):∀S:List α,((S.filter p).map c).sum<=(S.map c).sum
 |[]=>an _
 |x::S=>by
  have:=Ij c p S;rw[lD];split;.simp only[cB,gM];omega
  .simp only[cB,gM];omega
instance:Inhabited Mn:=⟨jH⟩
def af7:=RB [(5,[MO z6 7,MO [8,9,10] 11,MO [] 12,RX]),(14,[MO z4 5,MO [6,7,8] 9,MO [] 10,RX])]
abbrev tell(S:List Nat)(pre:Nat->aY)(σ:jJ)(P:aY):u:= .dY [int (qs S pre (λ_=>1) P:Nat),int (1+qs S pre (wt (kO M) σ) P:Nat),int (qs S pre (wt (kO R) σ) P:Nat),bW M]
set_option maxHeartbeats 4000000 in
def apj(t:Mt){pre eo}(I:MI Pk (ct t.a.es) t.aO pre lo eo par rk (λ_=>False) Cd)(hm:O t.a.es<=4096)(hB:∀b,Ft (kO b) t.a.es<=1000000):
 ∀(d:Nat) (z:Hd) (n:Mn),ct t.a.es z.X=J (z.bo,n)->n.kM=R->lo z.X=[]->(∀s g n,ct t.a.es s=J (g,n)->pre s=pre z.X->eo s<=eo z.X)->24<=O (pre z.X)+8*d->∀(h:aE) (Y:Nat),t.ok h Y->
 UP 309 [.ptr t.tb 0,.agg [int z.X,u64 z.bo]] h Y (dG (tell (t.a.es.map iB.X) pre (ct t.a.es) (pre z.X)) h Y):=by
 intro d
 induction d with
 |zero=>intro z n G _ _ _ hd0;have⟨i,W,F⟩:=I.pl _ _ _ G;omega
 |succ d ih=>
  intro z n G mB h0 top hd0 h Y ok;have h2:=I.bf;have hn:=ok.ok.ng;have hme:=zM hn;have⟨k,hk,zS⟩:=I.pl _ _ _ G;have hO:∀s g n,ct t.a.es s=J (g,n)->alY n:=λs g n h=>by
   have⟨e,V,W,F,h3⟩:=kz h;refine⟨λq=>?_,λq=>?_,?_⟩;.have⟨a,b⟩:=I.lf _ _ _ h q;exact⟨a,b.elim id λw=>w.1.elim⟩
   .have⟨a,b,c⟩:=I.nd _ _ _ h q;exact⟨a,b,c.elim id λw=>w.1.elim⟩
   .rw[<-h3];exact ok.sl e V
  have Ji:∀s,s∈t.a.es.map iB.X↔Pj (ct t.a.es) s≠B:=λs=>by rw[hme];unfold Pj;cases ct t.a.es s<;>simp
  generalize hS:t.a.es.map iB.X=S at hme Ji hn ih⊢;have hSl:O S<=4096:=by rw[<-hS,bh];exact hm
  refine az.pc 2 af7 func309 ?_;refine Xf f309.eq_1 ?_;generalize hG:aI (aI h Y _) (Y+1) _=hs;have gn:N hs (Y+1)=some (.cells (([z]:List Hd).flatMap Hd.cells) 245):=by rw[<-hG,aj,au rfl];rfl
  have SG:aG Y h hs:=by rw[<-hG];exact(aG.refl.set (an _)).set (bG _)
  have g0:geq S (λs=>decide (pre s=pre z.X)) eo (eo z.X+1)=0:=OF λs lS q=>by
   cases L:ct t.a.es s with
   |none=>exact absurd L ((hme s).1 lS)
   |some x=>exact Nat.lt_succ_of_le (top s x.1 x.2 L (Mf q))
  refine cI _ _ (λm s Q E=>∃x l v,m=eo x.X/\Row (Pj (ct t.a.es)) x l/\lo x.X=[]/\pre x.X=pre z.X/\X s 0= .ptr t.tb 0/\X s 8=v/\Sx Q E v l/\X s 4=int (geq S (λs=>decide (pre s=pre z.X)) eo (eo x.X+1))/\X s 6=int 0/\aG Y h Q/\Y<=E) (n:=eo z.X) ?_ ?_;.refine QZ ?_;exact⟨z,[z],_,Z,.last (wV G) mB,h0,Z,Z,.own (.inr ⟨Y+1,1,_,Z,gn,an _,Z,Z⟩) (λb D=>by injection D with D;omega),by rw[g0];rfl,SG,U⟩
  rintro m s Q E ⟨x,l,v,rfl,r,x0,xp,s0,s8,rv,s4,s6,mA,tn⟩;have Jc:t.ok Q E:=ok.aW (λb D=>mA b (ok.dL D)) tn;have hN:∀y∈l,ct t.a.es y.X=J (y.bo,qT (ct t.a.es) y):=λy hy=>by have⟨n,a1,_⟩:=h2.mem r y hy;have⟨n',a2,_⟩:=HX a1;rw[OA a2];exact a2
  have hNv:∀y∈l,Pj (ct t.a.es) y.X=J (y.bo,vw (qT (ct t.a.es) y)):=λy hy=>wV (hN y hy);have P:O l=O (S.filter λs=>decide (pre s=pre z.X)&&(eo s==eo x.X)):=by have:=(Row.perm hn Ji h2 r x0).length_eq;rw[bh,xp]at this;exact this
  have P2:=Kb S (λs=>decide (pre s=pre z.X)) eo (eo x.X);have gm:∀k,geq S (λs=>decide (pre s=pre z.X)) eo k<=4096:=λk=>fB (EZ _ _) hSl;have gk:=gm (eo x.X);have gk1:=gm (eo x.X+1);have K:O l<=4096:=U;have Aa:0<O l:=by have⟨l',e⟩:=r.ne;rw[e];exact PE _
  have hhd:l.getD 0 default=x:=by have⟨l',e⟩:=r.ne;rw[e];rfl
  have hxm:x∈l:=by have⟨l',e⟩:=r.ne;rw[e];exact .head _
  have⟨w0,x00,y00⟩:=rv.ix 0 Aa;rw[hhd]at y00;have aha:qa (J (.slice 245)) (cZ prog) v (.g (.int .i64 0))=J (.val w0):=x00;have Cn:=hN x hxm;have⟨ez,hez,z1,z2,z3,z4,z7,z6⟩:=jb Jc.ok Cn;have wc:geq S (λs=>decide (pre s=pre z.X)) eo (eo x.X+1)+O l<9223372036854775808:=U;have ec:geq S (λs=>decide (pre s=pre z.X)) eo (eo x.X+1)+O l=geq S (λs=>decide (pre s=pre z.X)) eo (eo x.X):=U;refine Y8 s0 s8 ?_;refine bc (aqT t Q E Jc hO h2 (λs g n h k hk=>(I.Lr s g n h k hk).1) r x0 rv K hN) ?_;refine asA af7.eq_1 s0 s8 s4 rv.len wc aha (y00 Q .refl) Jc.tr ?_;generalize hq:E+Array.size _=nq;have qf:E<=nq:=U;refine bc (z6 Q nq .refl qf) ?_;have Fz:sN (u64 x.bo::(qT (ct t.a.es) x).cells) 1 (qT (ct t.a.es) x):=sN.mk' (pre:=[u64 x.bo]) (hO _ _ _ Cn).2.2;have fl:=Fz.cw;cases lw:(qT (ct t.a.es) x).cw with
  |false=>
   rw[lw]at fl;have X9:eo x.X≠0:=λq=>by rw[(I.cw _ _ _ Cn).2 q]at lw;cases lw
   have⟨y,d1,d2,d3,d4⟩:=h2.down r hNv X9;have⟨e1,e2⟩:=h2.ends r hNv X9;have vy:∀y∈l,(qT (ct t.a.es) y).cw=R:=λy hy=>by
    have⟨n,a1,a2,a3,_⟩:=h2.mem r y hy;cases q:(qT (ct t.a.es) y).cw with
    |false=>rfl
    |true=>exact absurd (a2.symm.trans ((I.cw _ _ _ (hN y hy)).1 q)) X9
   have c2:=anL t Q nq (Jc.aW (λ_ _=>rfl) qf) (λs g n h=>by
    have⟨O1,O2,O3⟩:=hO s g n h;refine⟨λq=>(O1 q).1,λq=>?_,O3⟩;have⟨a,b,c⟩:=O2 q;exact⟨by rw[(a.nd b).2];omega,c⟩) K hN vy (vv:=v) ⟨rv.len,λi H=>let⟨w,a,b⟩:=rv.ix i H;⟨w,a,λW q=>b W λc A=>q c U⟩⟩ Z Z e1 (λi H=>by
    have⟨m,a1,a2,a3⟩:=e2 i H;obtain⟨m',a4,rfl⟩:=HX a1;exact⟨m',a4,a2,a3⟩)
   simp+decide-dsimp only[go_sem,s0,s8,z4,fl];refine bc c2 ?_;refine Y8 s0 s6 ?_;exact⟨eo y.X,U,y,_,_,Z,d1,d4.trans x0,d3.trans xp,Z,.qF _,by rw[ec,<-d2],mA,U⟩
  |true=>
   rw[lw]at fl;have Ma:=(I.cw _ _ _ Cn).1 lw;have⟨q1,q2,q3⟩:=I.anU hn hme r x0 Ma hN (xp▸hk);rw[xp]at q1 q2 q3;rw[Ma,JH]at ec;rw[Ma]at s4 wc;have B1:qs S pre (λ_=>1) (pre z.X)<=4096:=fB (Ij _ _ _) (by rw[Cy];exact hSl);have B2:∀b,qs S pre (wt (kO b) (ct t.a.es)) (pre z.X)<=1000000:=λb=>fB (Ij _ _ _) (by rw[(Sz.Cb (by rw[hS];exact hn)).sum hn hme];exact hB b);generalize hE:(l.flatMap λx=>(qT (ct t.a.es) x).ay.es)=nx' at q1 q2 q3;obtain⟨f1,Vy⟩:∃f:Sl->Nat,f=λy=>if y.deep then qs S pre (λ_=>1) (pre y.link.X)else 0:=⟨_,Z⟩
   obtain⟨f2,YE⟩:∃f:Sl->Nat,f=λy=>if y.deep then 1+qs S pre (wt (kO M) (ct t.a.es)) (pre y.link.X)else 0:=⟨_,Z⟩
   obtain⟨f3,hf3⟩:∃f:Sl->Nat,f=λy=>if y.deep then qs S pre (wt (kO R) (ct t.a.es)) (pre y.link.X)else 1:=⟨_,Z⟩
   rw[<-Vy]at q1;rw[<-YE]at q2;rw[<-hf3]at q3;have B3:=B2 M;have B4:=B2 R;rw[<-q1]at B1;rw[<-q2]at B3;rw[<-q3]at B4;simp+decide-dsimp only[go_sem,s0,s8,z4,fl,rv.len];refine cI _ _ (λm s F dR=>∃i,i<=l.length/\m=l.length-i/\X s 0= .ptr t.tb 0/\X s 4=int ((S.filter λs=>decide (pre s=pre z.X)).length+(((l.take i).flatMap λx=>(qT (ct t.a.es) x).ay.es).map f1).sum:Nat)/\X s 5=int (1+(((l.take i).flatMap λx=>(qT (ct t.a.es) x).ay.es).map f2).sum:Nat)/\X s 6=int ((((l.take i).flatMap λx=>(qT (ct t.a.es) x).ay.es).map f3).sum:Nat)/\X s 55=v/\X s 56=int l.length/\X s 57=int i/\aG E Q F/\E<=dR) (n:=l.length) ?_ ?_;.simp+decide-dsimp only[go_sem,s0,s4,s6];exact⟨0,aQ _,rfl,by rw[Ma,ec];rfl,rfl,rfl,rfl,.refl,U⟩
   clear s4 s6 s8;rintro m s F dR ⟨i,H,rfl,s0,s4,s5,s6,s55,s56,s57,nB,l2⟩;by_cases dc:i<l.length
   .have hym:l.getD i default∈l:=by rw[aB,aF dc];exact bO dc
    have hsi:=hN _ hym;have hyl:(qT (ct t.a.es) (l.getD i default)).cw=true:=by obtain⟨_,_,a2,_⟩:=h2.mem r _ hym;exact(I.cw _ _ _ hsi).2 (a2.trans Ma)
    have hyp:pre (l.getD i default).X=pre z.X:=by obtain⟨_,_,_,a3,_⟩:=h2.mem r _ hym;exact a3.trans xp
    have uQ:(l.take i).flatMap (λx=>(qT (ct t.a.es) x).ay.es)++((qT (ct t.a.es) (l.getD i default)).ay.es++(l.drop (i+1)).flatMap λx=>(qT (ct t.a.es) x).ay.es)=nx':=by
     have e1:l[i]=l.getD i default:=by simp[List.getD,dc]
     rw[<-hE,<-e1]
     conv=>rhs;rw[<-bA i l,cM dc,bL,bE]
    have vz:(l.take (i+1)).flatMap (λx=>(qT (ct t.a.es) x).ay.es)=(l.take i).flatMap (λx=>(qT (ct t.a.es) x).ay.es)++(qT (ct t.a.es) (l.getD i default)).ay.es:=by
     have e1:l[i]=l.getD i default:=by simp[List.getD,dc]
     rw[bj dc,bL,e1];simp
    obtain⟨w1,x1,y1⟩:=rv.ix i dc;generalize hy:l.getD i default=y at hsi hyl hyp uQ vz y1;generalize hnn:qT (ct t.a.es) y=ny at hsi hyl uQ vz;generalize hE1:(l.take i).flatMap (λx=>(qT (ct t.a.es) x).ay.es)=E1 at uQ vz s4 s5 s6;obtain⟨e,V,W,qK,h3,h4,h7,h6⟩:=jb Jc.ok hsi;obtain⟨zxQ,ZW⟩:=(hO _ _ _ hsi).1 hyl;have ht:=(nB _ Jc.lt).trans Jc.tr;have d1:¬(t.tb=dR):=by have:=Jc.lt;omega
    have wi:i+1<9223372036854775808:=U;simp+decide-dsimp only[go_sem,af7,s0,s55,s56,s57,dc,ht,d1,x1,y1 F nB];generalize hq:dR+1+Array.size _=nq2;have an2:dR+1<=nq2:=U;clear hq;have Gz:∀hc zyQ,aG dR F (aI (aI F dR hc) dR zyQ):=λhc zyQ=>(aG.refl.set (an _)).set (an _);refine bc (h6 _ nq2 (nB.trans (Gz _ _) l2) U) ?_;generalize hG2:aI (aI F dR _) dR _=G2;have vC:aG E Q G2:=nB.trans (by rw[<-hG2];exact Gz _ _) l2;clear hG2;have yH:=(vC _ h7).trans h4;have Fm:sN (u64 y.bo::ny.cells) 1 ny:=sN.mk' (pre:=[u64 y.bo]) zxQ.sl;have F6:(dV 1 ny.cells).bind (dC 111)=some ny.ay.cells:=Fm.ay;simp+decide-dsimp only[go_sem,yH,F6];refine ba (K9 ny.ay zxQ.p zxQ.n zxQ.sl) ?_;simp+decide-dsimp only[go_sem];refine cI _ _ (λm s h3 nx3=>∃j,j<=ny.ay.n/\m=ny.ay.n-j/\X s 0= .ptr t.tb 0/\X s 4=int ((S.filter λs=>decide (pre s=pre z.X)).length+((E1++ny.ay.es.take j).map f1).sum:Nat)/\X s 5=int (1+((E1++ny.ay.es.take j).map f2).sum:Nat)/\X s 6=int (((E1++ny.ay.es.take j).map f3).sum:Nat)/\X s 13= .ptr e.bT 1/\X s 55=v/\X s 56=int l.length/\X s 57=int i/\X s 74=int ny.ay.n/\X s 75=int j/\aG E Q h3/\E<=nx3) (n:=ny.ay.n) ?_ ?_;.simp+decide-dsimp only[go_sem,s0,s4,s5,s6,s55,s56,s57];exact⟨0,aQ _,rfl,by rw[dJ,cy],by rw[dJ,cy],by rw[dJ,cy],rfl,vC,U⟩
    clear s0 s4 s5 s6 s55 s56 s57 vC yH;rintro m s h3 nx3 ⟨j,hj,rfl,s0,s4,s5,s6,D9,s55,s56,s57,s74,s75,hs3,l3⟩;by_cases KX:j<ny.ay.n
    .have yH:=(hs3 _ h7).trans h4;have hjt:ny.ay.es.take (j+1)=ny.ay.es.take j++[ny.ay.e j]:=by
      have mJ:j<ny.ay.es.length:=by rw[uN];exact KX
      have:=od (l:=ny.ay) (j:=j);rw[au KX,aF mJ]at this;injection this with this
      rw[bj mJ,this]
     have Br:ny.ay.at j=ny.ay.e j:=au KX;have wj:j+1<9223372036854775808:=U;simp+decide-dsimp only[go_sem,D9,s74,s75,KX,yH,F6];refine ba (HV ny.ay zxQ j) ?_;rw[Br];have zok:=I.X _ _ _ hsi hyl j KX;have zR:=zxQ.r j KX;have ala:=λdp s g n lS e=>I.afa hsi hyl KX dp (s:=s) (g:=g) (n:=n) lS e;have hbound:∀f:Sl->Nat,((E1++ny.ay.es.take j).map f).sum+f (ny.ay.e j)<=(nx'.map f).sum:=λf=>by
      have:(ny.ay.es.map f).sum=((ny.ay.es.take j).map f).sum+f (ny.ay.e j)+((ny.ay.es.drop (j+1)).map f).sum:=by
       conv=>lhs;rw[<-bA (j+1) ny.ay.es,hjt]
       simp only[dm,kT,cB,n7,gM,List.sum_nil];omega
      rw[<-uQ];simp only[dm,kT];omega
     have EK:∀f:Sl->Nat,((E1++ny.ay.es.take (j+1)).map f).sum=((E1++ny.ay.es.take j).map f).sum+f (ny.ay.e j):=λf=>by rw[hjt,<-aA,dm,kT];simp
     have b1:=hbound f1;have b2:=hbound f2;have b3:=hbound f3;generalize ny.ay.e j=hd at zok zR ala b1 b2 b3 EK;have g1:f1 hd=if hd.deep then qs S pre (λ_=>1) (pre hd.link.X)else 0:=by rw[Vy]
     have g2:f2 hd=if hd.deep then 1+qs S pre (wt (kO true) (ct t.a.es)) (pre hd.link.X)else 0:=by rw[YE]
     have g3:f3 hd=if hd.deep then qs S pre (wt (kO false) (ct t.a.es)) (pre hd.link.X)else 1:=by rw[hf3]
     cases dp:hd.deep with
     |false=>rw[dp]at g1 g2 g3;simp only[du,cU]at g1 g2 g3;have w6:((E1++ny.ay.es.take j).map f3).sum+1<9223372036854775808:=U;simp+decide-dsimp only[go_sem,s0,s4,s5,s6,D9,s55,s56,s57,s74,s75,Sl.cells,dp,w6,wj];exact⟨ny.ay.n-(j+1),U,j+1,KX,rfl,by rw[EK,g1,dP],by rw[EK,g2,dP],by rw[EK,g3],rfl,(hs3.set l3).set l3,U⟩
     |true=>
      rw[dp]at g1 g2 g3;simp only[cA]at g1 g2 g3;obtain⟨⟨nl,c1,c2⟩,c3,c4,c5⟩:=zok.link dp;have z9:=(zR.d dp).1;have zl:(pre hd.link.X).length=(pre z.X).length+8:=by rw[c3,hyp,aq];unfold nameOf;rw[ax,z9];rfl
      have aiA:=λh Y o=>apO t h Y o hd z9 ⟨_,_,_,rfl⟩ (ih hd.link nl c1 c2 c4 (ala dp) U);simp only[Sl.cells,dp]at aiA;simp+decide-dsimp only[go_sem,s0,Sl.cells,dp];generalize hX:aI (aI h3 nx3 _) nx3 _=ao;have SX:aG E Q ao:=by rw[<-hX];exact(hs3.set l3).set l3
      clear hX;refine bc (aiA ao _ (Jc.aW (λb D=>SX b (Jc.dL D)) U)) ?_;have k1:=EK f1;have k2:=EK f2;have k3:=EK f3;rw[g1]at b1 k1;rw[g2]at b2 k2;rw[g3]at b3 k3;have w4:(S.filter λs=>decide (pre s=pre z.X)).length+((E1++ny.ay.es.take j).map f1).sum+qs S pre (λ_=>1) (pre hd.link.X)<9223372036854775808:=U;have w5:1+((E1++ny.ay.es.take j).map f2).sum+(1+qs S pre (wt (kO true) (ct t.a.es)) (pre hd.link.X))<9223372036854775808:=U;have w6:((E1++ny.ay.es.take j).map f3).sum+qs S pre (wt (kO false) (ct t.a.es)) (pre hd.link.X)<9223372036854775808:=U;simp+decide-dsimp only[go_sem,s0,s4,s5,s6,D9,s55,s56,s57,s74,s75,w4,w5,w6,wj];exact⟨ny.ay.n-(j+1),U,j+1,KX,rfl,by rw[k1,fZ],by rw[k2,fZ],by rw[k3],rfl,SX,U⟩
    .have ej:j=ny.ay.n:=U;subst ej;rw[aH (by rw[uN];exact an _),<-vz]at s4 s5 s6;simp+decide-dsimp only[go_sem,s0,s4,s5,s6,s55,s56,s57,s74,s75,dz,wi];exact⟨l.length-(i+1),U,i+1,dc,rfl,rfl,rfl,rfl,rfl,hs3,l3⟩
   .have ei:i=l.length:=U;subst ei;rw[fF,hE]at s4 s5 s6;rw[q1]at s4;rw[q2]at s5;rw[q3]at s6;simp+decide-dsimp only[go_sem,s4,s5,s6,s56,s57,dz];exact .eE (mA.trans nB tn) (.dY (.cons .cP (.cons .cP (.cons .cP (.cons .cP .nil))))) rfl
variable{d:Nat}{pa:Nat->aY}
def amF(a:Ar Ax)(h Y)(ok:Qx.ok a h Y):UP 280 [.ptr a.ab 0] h Y (dG (int (O a.es)) h Y):=by refine az.ac 1 T0 func280 ?_;simp+decide-dsimp only[f280,go_sem,ok.ar,LN ok.mp,bh];exact⟨Z,Z,Z⟩
def anR(t:At)(h Y)(ok:t.ok h Y):UP 272 [.ptr t.tb 0] h Y (dG (int (O t.a.es)) h Y):=by refine az.ac 1 T0 func272 ?_;refine Xf f272.eq_1 ?_;refine bc (QV t _ _ ok) ?_;refine Xf ok.tr ?_;refine Av (amF t.a _ _ ok.ok) ?_;exact⟨Z,Z,Z⟩
def vn(σ:DM):Nat->Nat->List Nat
 |0,_=>[]
 |d+1,s=>match σ s with
  |none=>[]
  |some x=>s::x.2.k.l.flatMap λe=>vn σ d e.2.X
def ry{σ g n}(h:σ s=J (g,n)):vn σ (d+1) s=s::n.k.l.flatMap λe=>vn σ d e.2.X:=by simp only[vn,h]
structure yT(t:At)(aw:Nat)(h:aE)(Y:Nat)(x y:Nat):Prop where
 ok:t.ok h Y
 lt:∀b,t.own b->b<aw
 b1:N h aw=J (.cells [.ptr t.tb 0] 215)
 b2:N h (aw+1)=J (.cells [int x] 3)
 b3:N h (aw+2)=J (.cells [int y] 3)
 b4:N h (aw+3)=J (.cells [.fn 277 [.ptr aw 0,.ptr (aw+1) 0,.ptr (aw+2) 0,.ptr (aw+3) 0]] 410)
 Y:aw+4<=Y
def yT.aW{t aw Y E x y h Q}(o:yT t aw h Y x y)(s:∀b,b<aw+4->N Q b=N h b)(hn:Y<=E):yT t aw Q E x y:=
 ⟨o.ok.aW (λb D=>s b (EB (o.lt b D))) hn,o.lt,by rw[s _ U];exact o.b1,by rw[s _ U];exact o.b2,by rw[s _ U];exact o.b3,by rw[s _ U];exact o.b4,by have:=o.Y;omega⟩
def ahC:=RB [(1,[MO z4 5,MO [6,7,8] 9,MO [] 10,RX]),(7,[MO z31 32,([33,34,35],[],B)])]
set_option maxHeartbeats 2000000 in
def ap3(t:At)(I:AI Pk (ct t.a.es) t.aO pa par zY)(aw:Nat):∀(d:Nat) (z:Hd) (n:Ax),ct t.a.es z.X=J (z.bo,n)->25<=d+O (pa z.X)->∀(x y:Nat) (h:aE) (Y:Nat),yT t aw h Y x y->x+O (vn (ct t.a.es) d z.X)<=60000->y+((vn (ct t.a.es) d z.X).map (wt fE (ct t.a.es))).sum<=60000->
 UP 277 [.agg [int z.X,u64 z.bo],.ptr aw 0,.ptr (aw+1) 0,.ptr (aw+2) 0,.ptr (aw+3) 0] h Y λw Q E=>w=bW M/\Y<=E/\yT t aw Q E (x+O (vn (ct t.a.es) d z.X)) (y+((vn (ct t.a.es) d z.X).map (wt fE (ct t.a.es))).sum)/\∀b,b<Y->b≠aw+1->b≠aw+2->N Q b=N h b:=by
 intro d
 induction d with
 |zero=>intro z n G hd0;have:=I.len _ _ _ G;simp only[aq]at this;omega
 |succ d ih=>
  intro z n G hd0 x y h Y o L hy;rw[ry G]at L hy⊢;rw[cB,gM,fP G]at hy⊢;rw[bD]at L⊢;have hN:=o.Y;have⟨e,V,e1,e2,e3,e4,e5,_⟩:=nT o.ok.ok G;have heb:e.bT<aw:=o.lt _ (.inr (.inl (Ar.ye V)));have htb:t.tb<aw:=o.lt _ (.inl Z);refine az.Jm prog xt pk ahC (λ_=>[]) func277 (c:=f277.body.getD .skip) Z Z aK aK (by show 5<=_;decide) ?_;refine Ik f277.eq_1 ahC.eq_1 o.b1 o.ok.tr (U:¬(aw=Y)) (U:¬(aw=Y+1)) (U:¬(t.tb=Y)) (U:¬(t.tb=Y+1)) ?_;generalize hq:Y+1+1+Array.size _=nq;have qf:Y+2<=nq:=U;generalize hH:aI (aI h Y _) (Y+1) _=hi;have H1:aG Y h hi:=by
   rw[<-hH]
   exact ata
  have H2:=TZ hH
  have H3:=U9 hH Tb
  have alK:=afq t.a hi nq (o.ok.ok.aW H1 U) e V;rw[show(Hd.mk e.X e.bo).av= .agg [int z.X,u64 z.bo]by rw[e1,e2];rfl]at alK;refine bc alK ?_;have e4H:=(H1 _ e5).trans e4
  have b2H:=(H1 _ U).trans o.b2
  have b3H:=(H1 _ U).trans o.b3
  have b1H:=(H1 _ U).trans o.b1
  have trH:=(o.ok.aW (Q:=hi) (E:=nq) (λb D=>H1 b (EB (o.lt b D))) U).tr;have d1:¬(e.bT=aw+1):=U;have d2:¬(e.bT=aw+2):=U;have d3:¬(t.tb=aw+1):=U;have d4:¬(t.tb=aw+2):=U;have d5:¬(Y=aw+1):=U;have d6:¬(Y=aw+2):=U;have w1:x+1<9223372036854775808:=U;have w2:y+1<9223372036854775808:=by unfold fE at hy;omega
  have⟨ne1,ne2⟩:=I.ne _ _ _ G;have Bc:(z.X=t.aO.X/\n.pre=[]/\(((z.X:Int)==(t.aO.X:Int))&&((z.bo:Int)==(t.aO.bo:Int)))=M)\/
   ((((z.X:Int)==(t.aO.X:Int))&&((z.bo:Int)==(t.aO.bo:Int)))=R/\(n.has=M\/(n.has=R/\¬((O n.k.l:Int)<2)))):=by
   by_cases q:z.X=t.aO.X;.have⟨n',xd⟩:=I.rt.1;rw[<-q,G]at xd;injection xd with w;injection w with w _;exact .inl ⟨q,ne1 q,by rw[q,w];simp⟩
   .refine .inr ⟨?_,?_⟩;.rw[Bool.and_eq_false_iff];left;simpa using λw:(z.X:Int)=t.aO.X=>q U
    .obtain w|w|w:=ne2 q;.exact w.elim
     .exact .inl w
     .cases hh:n.has with
      |true=>exact .inl Z
      |false=>exact .inr ⟨Z,U⟩
  have hsk:fE n=if n.has then 1 else 0:=rfl
  cases hh:n.has
  all_goals
   rw[hh]at Bc hsk;simp+decide-dsimp only[go_sem,ahC,e4H,b2H,b3H,hh,d1,w1,w2,Ax.cells,reduceAdd]
  case' false=>
   generalize hG:aI hi (aw+1) _=hs;have gK:∀b,b≠aw+1->b≠aw+2->N hs b=N hi b:=λb q1 _=>by rw[<-hG,Xg q1]
   have g1:=TZ hG
   have g2:N hs (aw+2)=J (.cells [int (y+fE n:Nat)] 3):=by rw[<-hG,Xg,hsk];exact b3H
   clear hG
  case' true=>
   generalize hG:aI (aI hi (aw+1) _) (aw+2) _=hs;have gK:∀b,b≠aw+1->b≠aw+2->N hs b=N hi b:=λb q1 q2=>by rw[<-hG,Xg q2,Xg q1]
   have g1:=U9 hG Tb
   have g2:N hs (aw+2)=J (.cells [int (y+fE n:Nat)] 3):=by rw[<-hG,Sr,hsk];rfl
   clear hG
  all_goals
   have XX:=(gK _ d1 d2).trans e4H
   have b1G:=(gK _ U U).trans b1H
   have trG:=(gK _ d3 d4).trans trH;have H3G:=(gK _ d5 d6).trans H3;have H2G:=(gK _ (show Y+1≠aw+1 from U) (show Y+1≠aw+2 from U)).trans H2;have oG:yT t aw hs nq (x+1) (y+fE n):=by
    refine⟨o.ok.aW (λb D=>?_) U,o.lt,b1G,g1,g2,?_,U⟩;.have:=o.lt b D;rw[gK b U U,H1 b U]
    .rw[gK _ U U,H1 _ U];exact o.b4
   have ym:∀m,nq<=m->n.k.ok hs m:=λm hm=>by have:=(oG.aW (Q:=hs) (λ_ _=>rfl) hm).ok.kn e V;rw[e3]at this;exact this
   obtain⟨q,qp,qe⟩|⟨qe,qh⟩:=Bc
  all_goals first
   |have qp':n.pre=[]:=by assumption
    simp+decide-dsimp only[go_sem,XX,b1G,trG,d5,d6,H3,H3G,hh,qe,qp',Ax.cells,reduceAdd]
   |simp+decide-dsimp only[go_sem,XX,b1G,trG,d5,d6,H3,H3G,hh,qe,Ax.cells,reduceAdd]
  all_goals first
   |refine bc (afy n.k hs _ (ym _ (ew _ _))) ?_
    have w:=(qh.resolve_left (λhd=>by cases hd)).2;simp+decide-dsimp only[go_sem,XX,w,Ax.cells]
   |skip
  all_goals
   generalize tU:nq+Array.size _=nz;have hnz:nq<=nz:=U;have Tv:∀b,n.k.own b->b<aw:=λb D=>o.lt b (FF ⟨e,V,by rw[e3];exact D⟩)
   have xC:=ym nz hnz;refine cm (afE n.k hs nz xC) λ_ h3 n3 l3 ⟨a,b,hl,H',ev,C,sm3⟩=>?_;subst ev;refine QZ ?_;obtain⟨f,hf⟩:∃f:UInt8×Hd->List Nat,f=λe=>vn (ct t.a.es) d e.2.X:=⟨_,Z⟩;rw[<-hf]at L hy⊢;have o3:yT t aw h3 n3 (x+1) (y+fE n):=oG.aW (λb D=>sm3 b U) U;refine Nw (EB xC.sh.Rd.len) C (an _) Z λr0 xH=>⟨λi Q E=>yT t aw Q E (x+1+O ((n.k.l.take i).flatMap f)) (y+fE n+(((n.k.l.take i).flatMap f).map (wt fE (ct t.a.es))).sum)/\
    (∀b,b<n3+2->b≠aw+1->b≠aw+2->N Q b=N (aI (aI h3 n3 (.defs (J []))) (n3+1) (.loop r0)) b)/\n3+2<=E,?_,?_,?_,?_⟩
   .refine⟨?_,λ_ _ _ _=>rfl,an _⟩;exact o3.aW (λb D=>by rw[Xg,Xg]) U
   .rintro i Q E ⟨q1,q2,q4⟩;refine⟨by rw[q2 _ U U U,Sr],λc A=>?_⟩;have NS:nz<=c/\c<n3:=by
     obtain rfl|rfl|w|w:=A;.exact C.ia
     .exact C.ib
     .exact C.ik c w
     .exact C.ih c w
    rw[q2 c U U U,Xg,Xg]
   .rintro i Q E H ⟨q1,q2,q4⟩;have m2:N Q (n3+1)=J (.loop r0):=by rw[q2 _ U U U,Sr]
    have j1:¬(aw+3=E):=U;have j2:¬(aw+3=n3+1):=U;have j3:¬(n3+1=E):=U;have j4:¬(E=n3+1):=U;have hkf:(kf n.k.l).getD i 0=n.k.l[i].1:=by simp[List.getD,H]
    have hkh:(kh n.k.l).getD i default=n.k.l[i].2:=by simp[List.getD,H]
    have jk:n.k.l[i]∈n.k.l:=bO H;have⟨⟨m',i1⟩,i2,i3⟩:=I.kD _ _ _ G _ jk;rw[hkf,hkh];refine ko.mk2 pk (λ_=>[]) xH m2 aK λrb=>?_;refine YM q1.b4 m2 j1 j2 j3 j4 @Hd.cells.eq_1 ?_;generalize hX:aI (aI (aI Q E _) E _) (n3+1) _=ao;have X1:∀c,c≠E->c≠n3+1->N ao c=N Q c:=λc y1 y2=>by rw[<-hX,Xg y2,Xg y1,Xg y1]
    have X2:=TZ hX
    have vz:(n.k.l.take (i+1)).flatMap f=(n.k.l.take i).flatMap f++vn (ct t.a.es) d n.k.l[i].2.X:=by rw[bj H,bL,hf];simp
    have uQ:(n.k.l.take (i+1)).flatMap f++(n.k.l.drop (i+1)).flatMap f=n.k.l.flatMap f:=by rw[<-bL,bA]
    rw[vz]at uQ;rw[<-uQ]at L hy;simp only[aq,dm,kT]at L hy;have NG:25<=d+O (pa n.k.l[i].2.X):=by rw[i2];simp only[aq,dM];omega
    refine cm (ih n.k.l[i].2 m' i1 NG _ _ ao (E+1) (q1.aW (λb D=>X1 b U U) U) U U) λ_ h5 n5 l5 ⟨ev,l5',q5,K5⟩=>?_;subst ev;have z1:=(K5 _ U U U).trans X2
    refine Xf z1 ?_;rw[vz,aq,dm,kT];refine⟨?_,λb W F h3=>?_,U⟩;.rw[<-fZ,<-fZ];exact q5.aW (λb D=>Ce) (an _)
    by_cases D:b=n3+1;.subst D;simp
    .rw[ak D,ak D,K5 b U F h3,X1 b U D,q2 b W F h3,Xg D,aj]
   .rintro Q E ⟨q1,q2,q4⟩;rw[fF]at q1;dsimp only[jT.bT];have r6:N Q (Y+1)=J (.cells [bW R] 4):=by rw[q2 _ U U U,Xg,Xg,sm3 _ U];exact H2G
    have rD:N Q n3=J (.defs (J [])):=by rw[q2 _ U U U,Xg,Sr]
    refine RC r6 rD (U:¬(Y+1=n3+1)) (U:¬(Y+1=n3)) (U:¬(n3=Y+1)) (U:¬(n3=n3+1)) ?_;refine⟨_,Z,Z,U,?_,λb D W F=>?_⟩;.rw[show x+(O (n.k.l.flatMap f)+1)=x+1+O (n.k.l.flatMap f) from U,<-fZ];exact q1.aW (λb D=>by rw[Xg,Xg,Xg]) (an _)
    .rw[ak U,ak U,ak U,q2 b U W F,Xg,Xg,sm3 b U,gK b W F,H1 b D]
section
variable{Pk:aY->Prop}{σ:DM}{aO:Hd}{pa:Nat->aY}{par:Nat->Nat}(I:AI Pk σ aO pa par zY)
include I
theorem AI.CP:∀(d s g:Nat) (n:Ax),σ s=J (g,n)->∀p∈vn σ d s,(∃r,pa p=pa s++r)/\σ p≠B:=by
 intro d
 induction d with
 |zero=>intro s g n _ p hp;cases hp
 |succ d ih=>
  intro s g n G p hp;rw[ry G]at hp;obtain rfl|hp:=bJ.1 hp
  .exact⟨⟨[],bR⟩,by rw[G];exact(λq=>by cases q)⟩
  .have⟨e,V,hp⟩:=cS.1 hp;have⟨⟨m,i1⟩,i2,_⟩:=I.kD _ _ _ G e V;have⟨⟨r,hr⟩,F⟩:=ih _ _ _ i1 p hp;exact⟨⟨n.pre++[e.1]++r,by rw[hr,i2];simp⟩,F⟩
theorem AI.Zb:∀(d s g:Nat) (n:Ax),σ s=J (g,n)->(vn σ d s).Nodup:=by
 intro d
 induction d with
 |zero=>intro s g n _;exact nC
 |succ d ih=>
  intro s g n G;rw[ry G,iG];refine⟨λq=>?_,?_⟩;.obtain⟨e,V,hp⟩:=cS.1 q;obtain⟨⟨m,i1⟩,i2,_⟩:=I.kD _ _ _ G e V;obtain⟨⟨r,hr⟩,_⟩:=I.CP d _ _ _ i1 s hp;have:=ff List.length hr;rw[i2]at this;simp only[aq,dM]at this;omega
  .show List.Pairwise (· ≠ ·) _;rw[tP];refine⟨λe V=>?_,?_⟩;.have⟨⟨m,i1⟩,_⟩:=I.kD _ _ _ G e V;exact ih _ _ _ i1
   .refine(sI.1 (I.kj _ _ _ G)).imp_of_mem λ{e e'} V tN dc p hp p' Jf q=>?_;subst q;have⟨⟨m,i1⟩,i2,_⟩:=I.kD _ _ _ G e V;have⟨⟨m',j1⟩,j2,_⟩:=I.kD _ _ _ G e' tN;have⟨⟨r,hr⟩,_⟩:=I.CP d _ _ _ i1 p hp;have⟨⟨r',qE⟩,_⟩:=I.CP d _ _ _ j1 p Jf;rw[hr,i2,j2]at qE;simp only[aA,List.append_cancel_left_eq,EU,Ek]at qE;rw[qE.1]at dc;exact absurd dc (X' _)
theorem AI.VT:∀(d s g:Nat) (n:Ax),σ s=J (g,n)->25<=d+O (pa s)->∀(p gp:Nat) (np:Ax),σ p=J (gp,np)->p∈vn σ d s->∀e∈np.k.l,e.2.X∈vn σ d s:=by
 intro d
 induction d with
 |zero=>intro s g n _ _ p _ _ _ hp;cases hp
 |succ d ih=>
  intro s g n G z p gp np hp Lt e V;rw[ry G]at Lt⊢;obtain rfl|Lt:=bJ.1 Lt
  .rw[G]at hp;injection hp with hp;injection hp with _ hp;subst hp
   have⟨⟨m,i1⟩,i2,_⟩:=I.kD _ _ _ G e V;have K:=I.len _ _ _ i1;rw[i2]at K;simp only[aq,dM]at K;cases d with
   |zero=>omega
   |succ d=>exact .tail _ (cS.2 ⟨e,V,by rw[ry i1];exact .head _⟩)
  .have⟨e',tN,Jf⟩:=cS.1 Lt;have⟨⟨m,i1⟩,i2,_⟩:=I.kD _ _ _ G e' tN;exact .tail _ (cS.2 ⟨e',tN,ih _ _ _ i1 (by rw[i2];simp only[aq,dM];omega) _ _ _ hp Jf e V⟩)
theorem AI.Vo:∀(k p g:Nat) (n:Ax),σ p=J (g,n)->O (pa p)<k->p∈vn σ 25 aO.X:=by
 have⟨⟨n0,h0⟩,hr⟩:=I.rt;intro k
 induction k with
 |zero=>intro p g n _ h;exact absurd h (cp _)
 |succ k ih=>
  intro p g n hp hk;by_cases q:p=aO.X;.rw[q,ry h0];exact .head _
  .have⟨g',n',a1,e,a2,a3⟩:=I.up _ _ _ hp q;have⟨_,i2,_⟩:=I.kD _ _ _ a1 e a2;rw[a3]at i2;have:=ih _ _ _ a1 (by rw[i2]at hk;simp only[aq,dM]at hk;omega);have:=I.VT 25 _ _ _ h0 (by rw[hr];exact an _) _ _ _ a1 this e a2
   rwa[a3]at this
end
theorem AI.counts{Pk:aY->Prop}{es:List (iB Ax)}{aO pa par}(I:AI Pk (ct es) aO pa par zY)(hn:(es.map iB.X).Nodup):O (vn (ct es) 25 aO.X)=O es/\((vn (ct es) 25 aO.X).map (wt fE (ct es))).sum=Ft fE es:=by
 have⟨n0,h0⟩:=I.rt.1;have nd:=I.Zb 25 _ _ _ h0;have mm:∀s,s∈vn (ct es) 25 aO.X↔ct es s≠B:=λs=>⟨λq=>(I.CP 25 _ _ _ h0 s q).2,λq=>by
  cases G:ct es s with
  |none=>exact absurd G q
  |some x=>exact I.Vo _ s x.1 x.2 G (aZ _)⟩
 refine⟨?_,(Sz.Cb hn).sum nd mm⟩;have:=((pQ nd hn).2 λs=>(mm s).trans (zM hn s).symm).length_eq
 rwa[bh]at this
def amI:=RB [(6,[MO z4 5,MO [6,7,8,9,10,11] 12,([13,14,15,16,17,18,19,20,21,22],[7],J 23),RX])]
theorem aog(t:At)(h Y)(ok:t.ok h Y){Pk:aY->Prop}{pa par}(I:AI Pk (ct t.a.es) t.aO pa par zY)(hz:t.size=(Ft fE t.a.es:Int))(z:Ft fE t.a.es<50000)(hm:O t.a.es<=4096):
 UP 265 [.ptr t.tb 0] h Y (dG (bW M) h Y):=by
 have dc:=ok.lt;have⟨n,hn⟩:=I.rt.1;have⟨k1,k2⟩:=I.counts ok.ok.ng;refine az.pc 1 amI func265 (Xf f265.eq_1 ?_);refine bc (QV t _ _ (ok.aW (λb D=>?_) ?_)) ?_;.have:=ok.dL D;rw[Xg]
 .omega
 refine Ik amI.eq_1 ok.tr (U:¬(t.tb=Y+1+1+1)) (U:¬(t.tb=Y)) (U:¬(t.tb=Y+1+1)) (U:¬(t.tb=Y+1)) (U:¬(Y=Y+1+1+1)) (U:¬(Y=Y+1+1)) ?_;generalize hq:Y+1+1+1+1+Array.size _=nq;generalize hH:aI (aI (aI (aI (aI (aI (aI h Y _) _ _) _ _) _ _) _ _) _ _) _ _=hi;have H0:aG Y h hi:=by
  rw[<-hH]
  exact ata
 have env:yT t Y hi nq 0 0:=by
  refine⟨ok.aW (λb D=>H0 b (ok.dL D)) U,λb D=>ok.dL D,?_,?_,?_,?_,U⟩
  all_goals
   rw[<-hH]
   repeat' first
    |rfl
    |rw[Sr]
    |rw[Xg]
 have c:=ap3 t I Y 25 t.aO n hn U 0 0 hi nq env (Es k1) (Es k2);rw[k1,k2,fC,fC]at c;refine cm c λ_ F n2 l2 ⟨ev,l2',o2,K2⟩=>?_
 subst ev;have tr2:=o2.ok.tr;have e1:¬(Y=Y+1):=U;refine J7 o2.b1 o2.b2 tr2 ?_;refine bc (amF t.a _ _ o2.ok.ok) (PV o2.b1 o2.b2 o2.b3 tr2 hz ?_);exact .eE (λb D=>by rw[K2 b U U U];exact H0 b D) (.cw trivial) Z
def aqn:Nat->dr:=λid=>[]
def apy(t:Mt)(h Y)(ok:t.ok h Y){pre eo}(I:MI Pk (ct t.a.es) t.aO pre lo eo par rk (λ_=>False) Cd)(hm:O t.a.es<=4096)(hB:∀b,Ft (kO b) t.a.es<=1000000)(hz:t.size=(Ft (kO R) t.a.es:Int))(hly:t.dU=((1+Ft (kO M) t.a.es:Nat):Int)):
 UP 299 [.ptr t.tb 0] h Y (dG (bW M) h Y):=by
 have⟨⟨n,hn,D⟩,r0,rp,_⟩:=I.rt;have CL:=ok.ok.ng;have pr:∀c,qs (t.a.es.map iB.X) pre c []=((t.a.es.map iB.X).map c).sum:=λc=>by unfold qs below;rw[show((t.a.es.map iB.X).filter λs=>([]:aY).isPrefixOf (pre s))=t.a.es.map iB.X from List.filter_eq_self.2 λs _=>by cases pre s<;>rfl]
 have p1:qs (t.a.es.map iB.X) pre (λ_=>1) []=O t.a.es:=by rw[pr,Cy,bh]
 have p2:∀b,qs (t.a.es.map iB.X) pre (wt (kO b) (ct t.a.es)) []=Ft (kO b) t.a.es:=λb=>by rw[pr];exact(Sz.Cb CL).sum CL (zM CL)
 have c:=λh Y o=>apj t I hm hB 3 t.aO n hn D r0 (λs g n G e=>(I.lr _ _ _ G).1 (e.trans rp)) (by rw[rp];exact an _) h Y o;rw[rp]at c;simp only[tell,p1,p2]at c;refine az.pc 1 aqn func299 ?_;refine Xf f299.eq_1 ?_;refine bc (MN t _ _ ok) ?_;refine Xf ok.tr ?_;refine bc (c _ _ ok) ?_;refine Xf ok.tr ?_;refine bc (ah0 t.a _ _ ok.ok) ?_;refine J7 ok.tr hz hly ?_;exact .eE .refl .cP Z
end
end br
end Go.Proofs.YtonnifoeokagjaaGreat
