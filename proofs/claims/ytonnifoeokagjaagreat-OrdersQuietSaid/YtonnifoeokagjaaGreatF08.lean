/- The theorem quiet_holds of OrdersQuiet: part 8 of its proof; no conditions. -/
import Derived.Test.YtonnifoeokagjaaGreatF07
namespace Go.Proofs.YtonnifoeokagjaaGreat
set_option linter.all false
set_option maxRecDepth 8000
open Go Go.RowKit
open Option renaming some->J,none->B
open Bool renaming true->M,false->R
open List renaming length->O
open Tryz
open Nat(reduceAdd reduceMul)
namespace br
noncomputable section
variable{Pk:aY->Prop}{i:Nat}{iL:Nat->Prop}{lo:Nat->aY}{lv:Nat->Nat}
def xA{hx:List Hd}{x:Hd}:(hx++[x]).getD (O hx) default=x:=bR
def Df{hx:List Hd}{x}(h:i<O hx):(hx++[x]).getD i default=hx.getD i default:=by simp[List.getD,bX h]
def aji(t:Bl)(h Y)(ok:t.ok h Y)(I:BI Pk (ct t.a.es) t.aO lo lv iL)(rU:lv t.aO.X<60000)(k):
 UP 235 [.ptr t.tb 0,cg k] h Y λv Q E=>(∃hx,v=qF hx/\L4 (ct t.a.es) t.aO lo k hx M/\O hx<=60000)/\Q=h/\E=Y:=by
 refine az.pc 2 aiJ func235 ?_;have K:=ok.lt;refine Y8 f235.eq_1 ok.tr ?_;have⟨n0,r1,r2,r3⟩:=I.rt;refine cI _ _ (λm s Q E=>∃hx z n v,m=lv z.X/\ct t.a.es z.X=J (z.bo,n)/\L4 (ct t.a.es) t.aO lo k hx R/\hx.getD (O hx-1) default=z/\O hx+lv z.X=lv t.aO.X+1/\X s 0= .ptr t.tb 0/\X s 1=cg k/\X s 5=v/\
  aG Y h Q/\Y<=E/\Own Hd.cells 245 2 Q v hx/\In Y E v) (n:=lv t.aO.X) ?_ ?_
 .refine QZ ?_;refine⟨[t.aO],t.aO,n0,.sl Y 0 1 1,Z,r1,⟨bR,Z,λi H=>?_⟩,Z,gr,?_⟩
  .have:i=0:=Mf H
   subst this;exact⟨n0,r1,⟨by show¬k<lo t.aO.X;rw[r2];exact kF,gS.2 λh=>by rw[r3]at h;cases h⟩,λh=>by simp at h,λ_ h=>by cases h⟩
  .exact⟨Z,aG.refl.set (an _),.inr ⟨Y,1,_,Z,iA,an _,Z,Z⟩,.sl (an _) (aZ _)⟩
 rintro m s Q E ⟨hx,z,n,v,rfl,G,hP,DJ,cf,s0,s1,s5,q1,q2,q3,q4⟩;have cD:=hP.ne;have RU:O hx-1<O hx:=U;have⟨b,hc,e1,e2,e3,e4⟩:=q3.idx iE oE RU;rw[DJ]at e4;have D:=q4 b e1;have w1:1<=O hx:=cD;have w2:O hx<9223372036854775808:=U;have LX:=ok.aW q1 q2;have⟨e,V,W,F,h3,h4,h7,h6⟩:=nL LX.ok G;simp+decide-dsimp only[go_sem,aiJ,s0,s5,LX.tr,q3.len,w1,w2,e2,e3,e4,Hd.cells];refine bc (h6 _ _ .refl U) ?_;have⟨n',c1,c2,_,_⟩:=hP.node _ RU;rw[DJ,G]at c1;injection c1 with c1;injection c1 with _ c1;subst c1
 rw[DJ]at c2;cases mn:n.ay with
 |true=>refine L6 s5 h4 @Nd.cells.eq_1 mn ?_;refine⟨q1,_,q3.fz q4 sB,hx,Z,⟨hP.ne,hP.rt,λi H=>?_⟩,U⟩;have⟨m,a1,a2,a3,a4⟩:=hP.node i H;refine⟨m,a1,a2,a3,λGm _=>?_⟩;have:i=O hx-1:=U;subst this;rw[DJ,G]at a1;injection a1 with a1;injection a1 with _ a1;subst a1;exact mn
 |false=>
  have⟨m',g1,g2,g3⟩:=I.down G mn c2;have Xv:=acy n (I.r _ _ _ G) mn k c2.2;rw[Nd.av,Nd.cells,mn]at Xv;refine L6 s1 h4 @Nd.cells.eq_1 mn ?_;refine ba Xv ?_;refine PV s5 @Hd.av.eq_1 @Hd.cells.eq_1 @cL @cV ?_;refine lN (c:=Hd.cells) (q3.aW λq e'=>?_) iE (λ_=>rfl) U (n.bu.getD (n.jQ k) default) ?_
  .have:=q4 q e'
   repeat rw[Xg]
  intro v' F dR l2 p1 p2 p3;refine J7 s0 s1 s5 ?_;have CT:O (hx++[n.bu.getD (n.jQ k) default])=O hx+1:=bR;refine⟨_,(U:lv (n.bu.getD (n.jQ k) default).X<_),hx++[n.bu.getD (n.jQ k) default],n.bu.getD (n.jQ k) default,m',v',Z,g1,⟨U,?_,λi H=>?_⟩,by rw[CT,gj,xA],by rw[CT];omega,?_⟩;.rw[Df cD];exact hP.rt
  .rw[CT]at H⊢;obtain q|q:=bB i (O hx)
   .rw[Df q];have⟨m,a1,a2,a3,a4⟩:=hP.node i q;refine⟨m,a1,a2,λGm=>?_,λ_ h=>by cases h⟩;obtain q'|q':=bB (i+1) (O hx)
    .rw[Df q'];exact a3 q'
    .have:i=O hx-1:=U;subst this;rw[DJ,G]at a1;injection a1 with a1;injection a1 with _ a1;subst a1
     rw[show O hx-1+1=O hx from U,xA];exact⟨mn,Z⟩
   .have:i=O hx:=U;subst this;rw[xA];exact⟨m',g1,g3,λh=>U,λ_ h=>by cases h⟩
  .refine⟨Z,λq hq=>?_,U,p1,λq e'=>?_⟩
   .rw[p3 q U (λe'=>by have:=q4 q e';omega)]
    repeat rw[Xg]
    exact q1 q hq
   .obtain e2|e2:=p2 q e';.have:=q4 q e2;omega
    .omega
def ak3:=RB [(4,[MO z11 12,MO [13,14,15] 16,MO [] 17,RX])]
def aro(t:Bl)(h Y)(ok:t.ok h Y)(hx:List Hd)(hL:O hx<=60000)(hn:∀i,i<O hx->∃n,ct t.a.es (hx.getD i default).X=J ((hx.getD i default).bo,n)):
 UP 240 [.ptr t.tb 0,qF hx] h Y λv Q E=>(∃m,v=int (m:Nat)/\(∀j,j<m->j<O hx->∃n,ct t.a.es (hx.getD (O hx-1-j) default).X=J ((hx.getD (O hx-1-j) default).bo,n)/\4<=O n.aJ)/\((m<O hx/\∃n,ct t.a.es (hx.getD (O hx-1-m) default).X=J ((hx.getD (O hx-1-m) default).bo,n)/\O n.aJ<4)\/m=O hx+1))/\Q=h/\E=Y:=by
 refine az.pc 2 ak3 func240 ?_;simp+decide-dsimp only[f240,go_sem];refine cI _ _ (λm s Q E=>∃i,i<=O hx/\m=O hx-i/\(∀j,j<i->∃n,ct t.a.es (hx.getD (O hx-1-j) default).X=J ((hx.getD (O hx-1-j) default).bo,n)/\4<=O n.aJ)/\
  X s 0= .ptr t.tb 0/\X s 1=qF hx/\X s 9=int (O hx)/\X s 10=int i/\Q=h/\Y<=E) (n:=O hx) ?_ ?_
 .refine QZ ?_;exact⟨0,aQ _,Z,λj hj=>absurd hj (cp j),bR⟩
 rintro m s Q E ⟨i,H,rfl,lX,s0,s1,s9,xN,rfl,l1⟩;by_cases dc:i<O hx
 .have⟨n,G⟩:=hn (O hx-1-i) U;have w1:1<=O hx:=U;have w2:O hx<9223372036854775808:=U;have w3:i<=O hx-1:=U;have w4:O hx-1<9223372036854775808:=U;have w5:O hx-1-i<O hx:=U;have w6:i+1<9223372036854775808:=U;have⟨e,V,W,F,h3,h4,h7,h6⟩:=nL ok.ok G;simp+decide-dsimp only[go_sem,ak3,s0,s1,s9,xN,dc,ok.tr,w1,w2,w3,w4,w5,Hd.cells,jX];refine bc (h6 _ _ .refl U) ?_;by_cases hk:O n.aJ<4;.have CT:((O n.aJ:Int)<4):=U;refine J7 h4 @Nd.cells.eq_1 CT ?_;exact⟨aG.refl,_,.cP,i,Z,λj hj _=>lX j hj,.inl ⟨dc,n,G,hk⟩⟩
  .refine Ik s0 s1 s9 xN h4 @Nd.cells.eq_1 (U:¬((O n.aJ:Int)<4)) w6 ?_;refine⟨_,(U:O hx-(i+1)<_),i+1,dc,Z,λj hj=>?_,Z,U⟩;obtain q|q:=bB j i
   .exact lX j q
   .have:j=i:=U;subst this;exact⟨n,G,U⟩
 .have:i=O hx:=U;subst this;have w6:O hx+1<9223372036854775808:=U;simp+decide-dsimp only[go_sem,s1,s9,xN,w6,dz];exact⟨aG.refl,_,.cP,O hx+1,Z,λj _ hj=>lX j hj,.inr Z⟩
variable{P:Program}{h':u->aE->Nat->Prop}{args args' cs:List u}{b k n Y:Nat}{f:FuncId}{h:aE}{r:dI}{w w0:World}
def az.Mm(K:O args'=O args)(hv:∀r vs,fv r args vs->fv r args' vs)(A:az P f args' h Y h'):az P f args h Y h':=
 ⟨AG A.1 K,λr w0 w vs hH va=>A.2 r w0 w vs hH (hv r vs va)⟩
open Classical in
def qn(k:Nat)(w:World)(r:dI):dI:=
 ⟨r.m,λk' o=>match r.hd k' o with
  |some v=>J v
  |none=>if k'=k then w.cell? ⟨k',o,B⟩else B⟩
def HR.abv(hr:HR r h Y w0 w){o}(D:r b=J (k,n))(ho:N h b=J o)(A:o.cells?=J cs):
 HR (qn k w r) (aI h b .dead) Y w0 w/\dI.le r (qn k w r)/\∀i v,w.cell? ⟨k,i,B⟩=J v->(qn k w r).hd k i=J v:=by
 have hle:dI.le r (qn k w r):=⟨λb x e=>e,λk' o' v e=>by simp only[qn,e]⟩;have hz:∀k' o' v,(qn k w r).hd k' o'=J v->r.hd k' o'=J v\/(k'=k/\w.cell? ⟨k',o',B⟩=J v):=by
  intro k' o' v e;simp only[qn]at e;split at e;.rename_i v' V;left;rw[V];exact e
  .split at e;.rename_i hk;exact .inr ⟨hk,e⟩
   .cases e
 have rU:o.live:=AO.Dn A;have get:∀c q,N (aI h b .dead) c=J q->q.live->c≠b/\N h c=J q:=by
  exact auy
 refine⟨⟨hr.below,λk' o' v e=>?_,hr.zX,λc q k' n' e1 e2=>?_,λc c' q q' k' n1 n2 e1 e2 l1 l2 f1 f2=>?_⟩,hle,λi v e=>?_⟩
 .obtain e|⟨rfl,e9⟩:=hz k' o' v e;.refine⟨(hr.tG k' o' v e).1,λc n1 q e2 e3 l=>?_⟩;have⟨_,e4⟩:=get c q e3 l;exact(hr.tG k' o' v e).2 c n1 q e2 e4 l
  .refine⟨e9,λc n1 q e2 e3 l=>?_⟩;have⟨cD,e4⟩:=get c q e3 l;exact cD (hr.inj c b q o k' n1 n e4 ho l rU e2 D)
 .rw[aj]at e1;split at e1;.injection e1 with e1;subst e1;trivial
  .exact(hr.obj c q k' n' e1 e2).mono hle
 .have⟨_,g1⟩:=get c q e1 l1;have⟨_,g2⟩:=get c' q' e2 l2;exact hr.inj c c' q q' k' n1 n2 g1 g2 l1 l2 f1 f2
 .simp only[qn];split;.rename_i v' V;rw[(hr.tG k i v' V).1]at e;exact e
  .simp only[cA];exact e
def aiW(b:Nat)(cs:List u)(r vA:dI):Prop:=∀off len cap q v,len<=cap->VR r (.sl b off len cap) v->VR vA (.fz len ((cs.drop off).take q)) v
def az.fz1{o}(ho:N h b=J o)(zU:o.cells?=J cs)(K:O args'=O args)
 (hv:∀r vA vs,dI.le r vA->aiW b cs r vA->fv r args vs->fv vA args' vs) (A:az P f args' (aI h b .dead) Y h'):az P f args h Y h':=by
 refine⟨AG A.1 K,λr w0 w vs hH va=>?_⟩;cases D:r b with
 |none=>
  have Q4:HR r (aI h b .dead) Y w0 w:=by
   have get:∀c q,N (aI h b .dead) c=J q->q.live->c≠b/\N h c=J q:=by
    exact auy
   refine⟨hH.below,λk' o' v e=>⟨(hH.tG k' o' v e).1,λc n1 q e2 e3 l=>?_⟩,hH.zX,λc q k' n' e1 e2=>?_,λc c' q q' k' n1 n2 e1 e2 l1 l2 f1 f2=>?_⟩;.exact(hH.tG k' o' v e).2 c n1 q e2 (get c q e3 l).2 l
   .rw[aj]at e1;split at e1;.rename_i NS;rw[NS,D]at e2;cases e2
    .exact hH.obj c q k' n' e1 e2
   .exact hH.inj c c' q q' k' n1 n2 (get c q e1 l1).2 (get c' q' e2 l2).2 l1 l2 f1 f2
  exact A.2 r w0 w vs Q4 (hv r r vs (dI.le_refl _) (λoff len cap q v _ h=>by cases h with|sl e=>rw[D]at e;cases e) va)
 |some x=>
  have⟨k,n⟩:=x;have⟨i1,i2,i3⟩:=hH.abv D ho zU;have Yl:aiW b cs r (qn k w r):=by
   intro off len cap q v hlc hvr;cases hvr with
   |sl e=>
    rw[D]at e;injection e with e;injection e with e1 e2;subst e1;subst e2
    have⟨cc,c',t,hk,hvs'⟩:=hH.cells D ho zU;refine .fz (vs:=(cc.drop off).take q) (λi v hq=>i3 _ _ ?_) hlc (((hvs'.mono i2).drop off).take q);have hj:cc[off+i]?=J v:=by
     rw[eQ]at hq;split at hq;.simpa using hq
     .cases hq
    exact auu
  refine(A.2 (qn k w r) w0 w vs i1 (hv r _ vs i2 Yl va)).mono λ_ _ ⟨AV,r',v,Q,E,a,b',c,d,e,g,q⟩=>⟨AV,r',v,Q,E,a,dI.le_trans i2 b',c,d,e,g,q⟩
variable{c E s:Nat}{Q F:aE}{z:Hd}{p':bp}{tA tC:TypeId}{α:Type}
def jC{α:Type}(es:List (iB α))(s:Nat)(x:α):List (iB α):=es.map λe=>if e.X=s then{e with x:=x}else e
def GN(es:List (iB α))(s)(x:α):(jC es s x).map iB.X=es.map iB.X:=by unfold jC;rw[sY];apply fD;intro e _;dsimp only[Function.comp];split<;>rfl
def Un(es:List (iB α))(s)(x:α):(jC es s x).map iB.bT=es.map iB.bT:=by unfold jC;rw[sY];apply fD;intro e _;dsimp only[Function.comp];split<;>rfl
def UY(es:List (iB α))(s)(x:α):(jC es s x).map iB.row=es.map iB.row:=by unfold jC;rw[sY];apply fD;intro e _;dsimp only[Function.comp];split<;>rfl
def fO{es:List (iB α)}{x:α}{f:iB α}(h:f∈jC es s x):∃e∈es,e.X=f.X/\e.bT=f.bT/\e.bo=f.bo/\(e.X=s->f.x=x)/\(e.X≠s->f.x=e.x):=by
 obtain⟨e,V,rfl⟩:=bg.1 h;refine⟨e,V,?_⟩;split;.rename_i G;exact⟨Z,Z,Z,λ_=>rfl,λh=>absurd G h⟩
 .rename_i G;exact⟨Z,Z,Z,λh=>absurd h G,λ_=>rfl⟩
def Ar.ok.store{enc:α->List u}{a:Ar α}(o:Ar.ok enc tA tC a h Y){e:iB α}(V:e∈a.es)(x:α):
 Ar.ok enc tA tC {a with es:=jC a.es e.X x} (aI h e.bT (.cells (u64 e.bo::enc x) tC)) Y:=by
 have hf:=o.fr e V;refine⟨by rw[Xg hf.1.symm];exact o.ar,by rw[Xg hf.2.1.symm,UY];exact o.mp,λf nP=>?_,by rw[GN];exact o.ng,by rw[Un];exact o.Ll,λf nP=>?_,o.ne,o.la,o.lm⟩
 .have⟨g,hg,e1,e2,e3,e4,e5⟩:=fO nP;rw[aj];by_cases G:g.X=e.X;.have:g=e:=kK o.ng hg V G;subst this;rw[au e2.symm,<-e3,e4 Z]
  .have:g.bT≠e.bT:=λh=>G (by rw[kK o.Ll hg V h]);rw[<-e2,ak this,<-e3,e5 G];exact o.cl g hg
 .have⟨g,hg,e1,e2,_⟩:=fO nP;rw[<-e2];exact o.fr g hg
def qW{es:List (iB α)}(hn:(es.map iB.X).Nodup){e:iB α}(V:e∈es)(x:α):ct (jC es e.X x)=up (ct es) e.X (e.bo,x):=by
 have xd:((jC es e.X x).map iB.X).Nodup:=by rw[GN];exact hn
 funext t
 by_cases ht:t=e.X;.subst ht;rw[dF];have hm:({e with x:=x}:iB α)∈jC es e.X x:=bg.2 ⟨e,V,by rw[au Z]⟩;exact om xd hm
 .rw[cT ht];cases G:ct es t with
  |none=>refine rC λf hf oR=>?_;have⟨g,hg,e1,_⟩:=fO hf;have:=om hn hg;rw[e1,oR,G]at this;cases this
  |some y=>have⟨g,m⟩:=y;have⟨f,hf,e1,e2,e3⟩:=kz G;subst e1;subst e2;subst e3;have hm:f∈jC es e.X x:=bg.2 ⟨f,hf,by rw[ak ht]⟩;exact om xd hm
def CV{es:List (iB α)}{f:iB α}(hf:∀e∈es,e.X≠f.X):ct (es++[f])=up (ct es) f.X (f.bo,f.x):=by
 funext t
 unfold ct;rw[List.find?_append];by_cases ht:t=f.X;.subst ht;rw[dF,xS.2 (λe V=>by simpa using hf e V)];simp
 .rw[cT ht];cases G:es.find? (λe=>e.X==t)with
  |some e=>rfl
  |none=>simp[Ne.symm ht]
structure BW(t:Bl)(p:bp)(h:aE)(Y:Nat):Prop where
 tk:t.ok h Y
 pk:p.ok h Y
 sp:Sep t.a p
 sd:t.tb≠p.pb/\t.tb≠p.gb/\t.tb≠p.fb
def BW.aW{t p h Q Y E}(o:BW t p h Y)(s:aG Y h Q)(hn:Y<=E):BW t p Q E:=⟨o.tk.aW s hn,o.pk.aW s hn,o.sp,o.sd⟩
structure Step(Y:Nat)(t t':Bl)(p p':bp)(h Q:aE):Prop where
 tb:t'.tb=t.tb
 ab:t'.a.ab=t.a.ab
 mb:t'.a.mb=t.a.mb
 pb:p'.pb=p.pb
 gb:p'.gb=p.gb
 fb:p'.fb=p.fb
 fl:O p'.fr=O p.fr
 fr:∀s,p.fr.getD s R=R->p'.fr.getD s R=R
 bT:∀e∈t'.a.es,(∃f∈t.a.es,f.bT=e.bT)\/Y<=e.bT
 old:∀e∈t.a.es,∃f∈t'.a.es,f.X=e.X/\f.bT=e.bT
 slt:∀e∈t'.a.es,(∃f∈t.a.es,f.X=e.X)\/p.fr.getD e.X R=M
 aW:∀b,b<Y->b≠t.tb->b≠p.pb->b≠p.gb->b≠p.fb->b≠t.a.mb->(∀e∈t.a.es,e.bT≠b)->N Q b=N h b
def Step.same{t p}(s:aG Y h Q):Step Y t t p p h Q:=⟨Z,Z,Z,Z,Z,Z,Z,λ_ h=>h,λe V=> .inl ⟨e,V,Z⟩,λe V=>⟨e,V,Z,Z⟩,λe V=> .inl ⟨e,V,Z⟩,λb D _ _ _ _ _ _=>s b D⟩
def Step.trans{Y cC t t1 t2 p p1 p2 h W F}(s1:Step Y t t1 p p1 h W)(s2:Step cC t1 t2 p1 p2 W F)(hn:Y<=cC):Step Y t t2 p p2 h F:=by
 exact atc
def BW.store{t p h Y}(o:BW t p h Y){e:iB Nd}(V:e∈t.a.es)(x:Nd):
 BW {t with a:={t.a with es:=jC t.a.es e.X x}} p (aI h e.bT (.cells (u64 e.bo::x.cells) 294)) Y/\Step Y t {t with a:={t.a with es:=jC t.a.es e.X x}} p p h (aI h e.bT (.cells (u64 e.bo::x.cells) 294)):=by
 have hf:=o.tk.ok.fr e V;have z:=o.tk.d3 e V;have G:=o.sp.sc e V;refine⟨⟨⟨by rw[Xg z.symm];exact o.tk.tr,o.tk.ok.store V x,o.tk.d1,o.tk.d2,λf nP=>?_,o.tk.lt⟩,o.pk.jw (by rw[Xg G.1.symm]) (by rw[Xg G.2.1.symm]) (by rw[Xg G.2.2.symm]) (an _),⟨o.sp.pb,o.sp.sa,o.sp.sm,λf nP=>?_,λf nP=>?_⟩,o.sd⟩,⟨Z,Z,Z,Z,Z,Z,Z,λ_ h=>h,λf nP=>?_,λf nP=>?_,λf nP=>?_,λb _ _ _ _ _ _ g=>?_⟩⟩;.have⟨g,hg,_,e2,_⟩:=fO nP;rw[<-e2];exact o.tk.d3 g hg
 .have⟨g,hg,_,e2,_⟩:=fO nP;rw[<-e2];exact o.sp.sc g hg
 .have⟨g,hg,e1,_⟩:=fO nP;rw[<-e1];exact o.sp.taken g hg
 .have⟨g,hg,_,e2,_⟩:=fO nP;exact .inl ⟨g,hg,e2⟩
 .exact auB
 .have⟨g,hg,e1,_⟩:=fO nP;exact .inl ⟨g,hg,e1⟩
 .rw[aj,ak (g e V).symm]
def BW.alloc{t p}(o:BW t p h Y)(A:p.fr.count M≠0)(x:Nd):
 UP 129 [.ptr t.a.ab 0,x.av] h Y λv Q E=>∃i bT,ct t.a.es i=B/\v= .dY [(Hd.mk i (p.gs.getD i 0)).av,int 0]/\
  BW {t with a:={t.a with ck:=t.a.ck+1,es:=t.a.es++[⟨i,bT,t.a.ck,p.gs.getD i 0,x⟩]}} {p with fr:=p.fr.set i R} Q E/\
  Step Y t {t with a:={t.a with ck:=t.a.ck+1,es:=t.a.es++[⟨i,bT,t.a.ck,p.gs.getD i 0,x⟩]}} p {p with fr:=p.fr.set i R} h Q/\({p with fr:=p.fr.set i R}:bp).fr.count M+1=p.fr.count M/\Y<=bT:=by
 refine(aql t.a p h Y o.tk.ok o.pk o.sp A x).le.mono _ ?_;rintro v Q E ⟨ln,i,bT,H,ht,rfl,q1,q2,q3,q4⟩;have oO:∀e∈t.a.es,e.X≠i:=λe V G=>by have:=(o.sp.taken e V).2;rw[G,ht]at this;cases this
 have wI:∀s,(p.fr.set i R).getD s R=R\/(p.fr.set i R).getD s R=p.fr.getD s R:=by
  exact aul
 have htb:N Q t.tb=N h t.tb:=q4 _ o.tk.lt o.sd.1 o.sd.2.1 o.sd.2.2 o.tk.d2;refine⟨i,bT,rC oO,Z,⟨⟨by rw[htb];exact o.tk.tr,q2,o.tk.d1,o.tk.d2,λe V=>?_,aP o.tk.lt ln⟩,q1,⟨o.sp.pb,o.sp.sa,o.sp.sm,λe V=>?_,λe V=>?_⟩,o.sd⟩,⟨Z,Z,Z,Z,Z,Z,bR,λs G=>?_,λe V=>?_,λe V=>⟨e,jn _ V,Z,Z⟩,λe V=>?_,λb D g1 g2 g3 g4 g5 g6=>q4 b D g2 g3 g4 g5⟩,count_set H ht,q3⟩
 .exact avd
 .exact aua
 .exact atk
 .obtain h|h:=wI s;.exact h
  .exact h.trans G
 .obtain V|V:=bN.1 V;.exact .inl ⟨e,V,Z⟩
  .simp only[aV]at V;subst V;exact .inr q3
 .exact auc
def BW.vT{t p}(o:BW t p h Y)(A:p.fr.count M≠0)(x:Nd):
 UP 129 [.ptr t.a.ab 0,x.av] h Y λv Q E=>∃(t':Bl) (p':bp) (z:Hd),ct t.a.es z.X=B/\v= .dY [.agg [int z.X,u64 z.bo],int 0]/\BW t' p' Q E/\Step Y t t' p p' h Q/\
  ct t'.a.es=up (ct t.a.es) z.X (z.bo,x)/\t'.aO=t.aO/\t'.size=t.size/\p'.fr.count M+1=p.fr.count M:=by
 refine(o.alloc A x).mono _ ?_;rintro v Q E ⟨i,bT,f1,f2,B1,gP,f3,f4⟩;refine⟨_,_,⟨i,p.gs.getD i 0⟩,f1,f2,B1,gP,?_,Z,Z,f3⟩;exact atT
def BW.mg{t p}(o:BW t p h Y){e:iB Nd}(V:e∈t.a.es)(W:e.X=z.X)(F:e.bo=z.bo)(x:Nd):
 ∃t':Bl,BW t' p (aI h e.bT (.cells (u64 z.bo::x.cells) 294)) Y/\Step Y t t' p p h (aI h e.bT (.cells (u64 z.bo::x.cells) 294))/\ct t'.a.es=up (ct t.a.es) z.X (z.bo,x)/\t'.aO=t.aO/\t'.size=t.size:=by
 have:=o.store V x;rw[F]at this;exact⟨_,this.1,this.2,by rw[<-W,<-F];exact qW o.tk.ok.ng V x,Z,Z⟩
def Step.sf{t t' p}(s:Step Y t t' p p' h Q)(o:BW t' p' F E){e e':iB Nd}(V:e∈t.a.es)(tN:e'∈t'.a.es)(G:e'.X=e.X):e'.bT=e.bT:=by have⟨f,hf,a1,a2⟩:=s.old e V;rw[kK o.tk.ok.ng tN hf (G.trans a1.symm),a2]
def aG.fo{o}(a:aG n h Q):aG n (aI h c o) (aI Q c o):=λb D=>by
 rw[aj,aj];split;.rfl
 .exact a b D
def asc{ob d s h base i}:Lc (J M) (J (.wF ob)) (J d) s h base i=(X s d= .ptr (base+i) 0/\N h (base+i)=J ob):=by simp[Lc,QR.av,QR.obj]
def asd{ob l c d s h base i}:Lc (J M) (J (.ri ob l c)) (J d) s h base i=(X s d= .sl (base+i) 0 l c/\N h (base+i)=J ob):=by simp[Lc,QR.av,QR.obj]
attribute[go_sem] asc asd
variable{a:u}
def Dx:=RB [(1,[MO z4 5,MO [6,7,8] 9,MO [] 10,RX]),(3,[([0,1,2,3,9,10],[2,3,9],J 4),([5,6,7,8],[9,10],J 11),MO [] 12,MO [] 13,RX]),(5,[MO z4 5,MO [6,7,8] 9,MO [] 10,RX]),(8,[(z10,[4,6,7,8],J 11),MO [12,13,14,15,16] 17,RX]),(9,[MO z9 10,MO [11,12,13] 14,MO [] 15,RX]),(10,[MO z5 6,MO [7] 8,RX])]
def O8{σ t AV}{a b b' c:Nat×Nd}(h:t≠s):up (up (up (up σ t b) s a) t b') AV c=up (up (up σ s a) t b') AV c:=by
 funext q
 unfold up;by_cases W:q=AV;.simp[W]
 .by_cases F:q=t;.simp[F]
  .simp[W,F]
def qd:Nd:={ay:=R,aJ:=[],gZ:=[],bu:=[],cQ:=[],bd:=R,next:=⟨0,0⟩}
def rY{v}(h:VR r (FB) v):VR r (.fz 0 []) v:=by cases h;exact .EM
def FO{vs}(h:fv r [a,.agg [bW R,FB,FB,FB,cg [],bW R,int 0,u64 0]] vs):fv r [a,qd.av] vs:=by
 exact atv
def agv(n:Nd)(hR:n.zxQ)(h5:O n.aJ=5)(x:Hd):bz 252 [n.av,x.av] (.dY [(n.left x).av,n.right.av,cg n.sep]):=by
 cases K:n.ay with
 |true=>exact amq n hR K U x
 |false=>exact amj n hR K U x
set_option maxHeartbeats 4000000 in
def alP(t:Bl)(p:bp)(h:aE)(Y:Nat)(zyQ:BW t p h Y)(z:Hd)(n:Nd)(G:ct t.a.es z.X=J (z.bo,n))(hR:n.zxQ)(h5:O n.aJ=5)(lJ:List Hd)(yl:0<O lJ)(hal:O lJ<=60000)
 (nu:Nd) (hu:ct t.a.es (lJ.getD (O lJ-1) default).X=J ((lJ.getD (O lJ-1) default).bo,nu)) (hus:(lJ.getD (O lJ-1) default).X≠z.X) (AU:nu.zxQ) (ul:nu.ay=R) (hcu:nu.eF n.sep=M) (hhu:nu.has n.sep=R) (A:p.fr.count M≠0):
 az prog 243 [.ptr t.tb 0,qF lJ,z.av] h Y λv Q E=>∃(t':Bl) (p':bp) (x:Hd),ct t.a.es x.X=B/\BW t' p' Q E/\Step Y t t' p p' h Q/\t'.aO=t.aO/\t'.size=t.size/\p'.fr.count M+1=p.fr.count M/\
  ct t'.a.es=up (up (up (ct t.a.es) z.X (z.bo,n.left x)) x.X (x.bo,n.right)) (lJ.getD (O lJ-1) default).X ((lJ.getD (O lJ-1) default).bo,nu.add n.sep x):=by
 have w1:1<=O lJ:=yl;have w2:O lJ<9223372036854775808:=U;have w3:O lJ-1<O lJ:=U;have w4:¬((O lJ:Int)=0):=U;have dc:=zyQ.tk.lt;refine az.ac 3 Dx func243 ?_;have B0:BW t p (aI h Y (.cells [int z.X,u64 z.bo] 245)) (Y+1):=zyQ.aW (aG.refl.set (an _)) (bG _);obtain⟨e,V,e1,e2,e3,e4,e5,e6⟩:=nL B0.tk.ok G;simp+decide-dsimp only[f243,go_sem,Dx,Hd.av,Hd.cells,B0.tk.tr];refine bc (e6 _ _ .refl U) ?_;refine Xf B0.tk.tr ?_;generalize tU:Y+1+Array.size _=FN;have ha:Y+1<=FN:=U;refine cm (az.Mm (args':=[.ptr t.a.ab 0,qd.av]) (by rfl) (λr vs hv=>FO hv) ((B0.aW aG.refl ha).vT A qd)) λ_ W cC l1 ⟨t1,p1,x,f1,f2,B1,gP,f3,f4,f5,f6⟩=>?_;subst f2;have kU:x.X≠z.X:=λe'=>by rw[e',G]at f1;cases f1
 have yf:ct t1.a.es z.X=J (z.bo,n):=by rw[f3,cT kU.symm];exact G
 have⟨e',tN,e1',e2',e3',LB,e5',e6'⟩:=nL B1.tk.ok yf;have NB:e'.bT=e.bT:=gP.sf B1 V tN (e1'.trans e1.symm);rw[NB]at LB e5' e6';have d1:¬(e.bT=cC):=U;have d2:¬(e.bT=cC+1+9):=U;have d3:¬(e.bT=cC+1+10):=U;refine RC Dx.eq_1 d1 d2 d3 LB @Nd.cells.eq_1 ?_;have Ve:=agv n hR h5 x;rw[Nd.av,Nd.cells,Hd.av,Hd.cells]at Ve;refine ba Ve ?_;have k1:N W t.tb=J (.cells [.ptr t1.a.pb 0,.ptr t1.a.ab 0,int t1.aO.X,u64 t1.aO.bo,.g (.int .i64 t1.size),bW R] 249):=gP.tb▸B1.tk.tr
 have g1:¬(t.tb=e.bT):=λh=>zyQ.tk.d3 e V h.symm;have g2:¬(t.tb=cC):=U;have g3:¬(t.tb=cC+1+9):=U;have g4:¬(t.tb=cC+1+10):=U;have g5:¬(cC=e.bT):=U;have g6:¬(cC+1+9=e.bT):=U;have g7:¬(cC+1+10=e.bT):=U;simp+decide-dsimp only[go_sem,Dx,d1,d2,d3,LB,k1,g1,g2,g3,g4,g5,Nd.av,Nd.cells,reduceAdd];have⟨t2,B2,vD,q3,q4,q5⟩:=B1.mg tN e1' e2' (n.left x);rw[NB]at B2 vD;have Qh:ct t2.a.es x.X=J (x.bo,qd):=by rw[q3,cT kU,f3,dF]
 have⟨ex,hex,x1,x2,x3,x4,x5,x6⟩:=nL B2.tk.ok Qh;rw[vD.ab]at x6;refine bc (x6 _ _ ?_ U) ?_
 .exact ata
 have dxe:¬(ex.bT=e.bT):=λhh=>by
  exact avp
 have x4':N W ex.bT=J (.cells (u64 x.bo::qd.cells) 294):=by rw[<-x4,Xg dxe]
 have m1:¬(ex.bT=cC):=U;have m2:¬(ex.bT=cC+1+9):=U;have m3:¬(ex.bT=cC+1+10):=U;have dtx:¬(t.tb=ex.bT):=λhh=>by have:=B2.tk.d3 ex hex;rw[vD.tb,gP.tb]at this;exact this hh.symm
 have m4:¬(cC+1+10=ex.bT):=U;simp+decide-dsimp only[go_sem,Dx,k1,g1,g2,g3,g4,g7,dxe,x4',m1,m2,m3,dtx,qd,Nd.cells,w1,w2,w3,w4,Hd.cells,jX,reduceAdd];have⟨t3,B3,qC,y3,y4,y5⟩:=B2.mg hex x1 x2 n.right;have hus':(lJ.getD (O lJ-1) default).X≠x.X:=λhh=>by rw[hh,f1]at hu;cases hu
 have hu3:ct t3.a.es (lJ.getD (O lJ-1) default).X=J ((lJ.getD (O lJ-1) default).bo,nu):=by rw[y3,cT hus',q3,cT hus,f3,cT hus'];exact hu
 have⟨eu,heu,u1,u2,u3,u4,u5,u6⟩:=nL B3.tk.ok hu3;rw[qC.ab,vD.ab]at u6;refine bc (u6 _ _ ?_ U) ?_
 .exact ata
 have aln:=(gP.trans vD (U:FN<=cC)).trans qC U;have⟨f,hf,fs,fbk⟩:=aln.old e V;have due:¬(eu.bT=e.bT):=λh=>hus (by rw[<-u1,<-e1,<-fs,kK B3.tk.ok.Ll heu hf (h.trans fbk.symm)]);have⟨f',nP,fs',fbk'⟩:=qC.old ex hex;have dux:¬(eu.bT=ex.bT):=λh=>hus' (by rw[<-u1,<-x1,<-fs',kK B3.tk.ok.Ll heu nP (h.trans fbk'.symm)]);have u4':N W eu.bT=J (.cells (u64 (lJ.getD (O lJ-1) default).bo::nu.cells) 294):=by rw[<-u4,Xg dux,Xg due]
 have v1:¬(eu.bT=cC):=U;have v2:¬(eu.bT=cC+1+9):=U;have v3:¬(eu.bT=cC+1+10):=U;have Xz:=akv nu AU ul n.sep x hcu hhu;rw[Nd.av,Nd.cells,Hd.av,Hd.cells]at Xz;refine asB Dx.eq_1 due dux u4' v1 v2 v3 g5 (U:¬(cC=ex.bT)) @Nd.cells.eq_1 ?_;refine ba Xz ?_;refine Ik due dux u4' v1 v2 v3 @Nd.av.eq_1 @Nd.cells.eq_1 ?_;have⟨t4,B4,IP,z3,z4,z5⟩:=B3.mg heu u1 u2 (nu.add n.sep x);refine⟨t4,p1,x,f1,B4.aW ?_ U,((Step.same (aG.refl.set (an _))).trans (aln.trans IP (U:FN<=cC)) (U:Y<=FN)).trans (Step.same (Y:=cC) ?_) U,by rw[z4,y4,q4,f4],by rw[z5,y5,q5,f5],f6,by rw[z3,y3,q3,f3,O8 kU]⟩
 .exact ata
 .exact ata
variable{B6 B9:Nat}{hi:aE}
def WN{k}{y x:Hd}(h6:N hi B6=J (.cells [cg k] 9))(h9:N hi B9=J (.cells [int y.X,u64 y.bo,int x.X,u64 x.bo] 245))(cD:B9≠B6)
 (A:UP f [a,(sW k y x).av] (aI (aI hi B6 .dead) B9 .dead) Y h'):UP f [a,.agg [bW R,.sl B6 0 1 1,FB,.sl B9 0 2 2,cg [],bW R,int 0,u64 0]] hi Y h':=by
 refine az.fz1 (b:=B6) h6 Z (args':=[a,.agg [bW R,.fz 1 [cg k],FB,.sl B9 0 2 2,cg [],bW R,int 0,u64 0]]) (by rfl) ?_ ?_
 .intro r vA vs hle Yl h;obtain _|⟨W,_|⟨F,⟨⟩⟩⟩:=h
  refine .cons (W.mono hle) (.cons ?_ .nil);cases F with|agg h=>
  obtain _|⟨a1,_|⟨a2,_|⟨a3,_|⟨a4,_|⟨a5,_|⟨a6,_|⟨a7,_|⟨a8,⟨⟩⟩⟩⟩⟩⟩⟩⟩⟩:=h
  exact VR.agg (c:=[_,_,_,_,_,_,_,_]) (.cons (a1.mono hle) (.cons (Yl 0 1 1 1 _ (an _) a2) (.cons (a3.mono hle) (.cons (a4.mono hle) (.cons (a5.mono hle) (.cons (a6.mono hle) (.cons (a7.mono hle) (.cons (a8.mono hle) .nil))))))))
 refine az.fz1 (b:=B9) (cs:=[int y.X,u64 y.bo,int x.X,u64 x.bo]) (by rw[Xg cD];exact h9) Z (args':=[a,(sW k y x).av]) (by rfl) ?_ A;intro r vA vs hle Yl h;obtain _|⟨W,_|⟨F,⟨⟩⟩⟩:=h
 refine .cons (W.mono hle) (.cons ?_ .nil);cases F with|agg h=>
 obtain _|⟨a1,_|⟨a2,_|⟨a3,_|⟨a4,_|⟨a5,_|⟨a6,_|⟨a7,_|⟨a8,⟨⟩⟩⟩⟩⟩⟩⟩⟩⟩:=h
 exact VR.agg (c:=[_,_,_,_,_,_,_,_]) (.cons (a1.mono hle) (.cons (a2.mono hle) (.cons (rY (a3.mono hle)) (.cons (Yl 0 2 2 4 _ (an _) a4) (.cons (a5.mono hle) (.cons (a6.mono hle) (.cons (a7.mono hle) (.cons (a8.mono hle) .nil))))))))
def BW.tree{t p}(o:BW t p h Y)(aO)(size:Int):
 BW {t with aO:=aO,size:=size} p (aI h t.tb (.cells [.ptr t.a.pb 0,.ptr t.a.ab 0,int aO.X,u64 aO.bo,.g (.int .i64 size),bW R] 249)) Y/\
 Step Y t {t with aO:=aO,size:=size} p p h (aI h t.tb (.cells [.ptr t.a.pb 0,.ptr t.a.ab 0,int aO.X,u64 aO.bo,.g (.int .i64 size),bW R] 249)):=by
 have z:=o.sd;refine⟨⟨⟨by rw[Sr],⟨by rw[Xg o.tk.d1.symm];exact o.tk.ok.ar,by rw[Xg o.tk.d2.symm];exact o.tk.ok.mp,λe V=>by rw[Xg (o.tk.d3 e V)];exact o.tk.ok.cl e V,o.tk.ok.ng,o.tk.ok.Ll,o.tk.ok.fr,o.tk.ok.ne,o.tk.ok.la,o.tk.ok.lm⟩,o.tk.d1,o.tk.d2,o.tk.d3,o.tk.lt⟩,
  o.pk.jw (by rw[Xg z.1.symm]) (by rw[Xg z.2.1.symm]) (by rw[Xg z.2.2.symm]) (an _),o.sp,o.sd⟩,
  ⟨Z,Z,Z,Z,Z,Z,Z,λ_ h=>h,λe V=> .inl ⟨e,V,Z⟩,λe V=>⟨e,V,Z,Z⟩,λe V=> .inl ⟨e,V,Z⟩,λb _ g _ _ _ _ _=>by rw[Xg g]⟩⟩
def Wc{σ t AV}{a b b' c:Nat×Nd}(h:t≠s):up (up (up (up σ t b) s a) t b') AV c=up (up (up σ s a) t b') AV c:=O8 h
set_option maxHeartbeats 4000000 in
def ajP(t:Bl)(p:bp)(h:aE)(Y:Nat)(zyQ:BW t p h Y)(z:Hd)(n:Nd)(G:ct t.a.es z.X=J (z.bo,n))(hR:n.zxQ)(h5:O n.aJ=5)(A:2<=p.fr.count M):
 az prog 243 [.ptr t.tb 0,qF [],z.av] h Y λv Q E=>∃(t':Bl) (p':bp) (x y:Hd),ct t.a.es x.X=B/\ct t.a.es y.X=B/\x.X≠y.X/\BW t' p' Q E/\Step Y t t' p p' h Q/\t'.aO=y/\t'.size=t.size/\p'.fr.count M+2=p.fr.count M/\
  ct t'.a.es=up (up (up (ct t.a.es) z.X (z.bo,n.left x)) x.X (x.bo,n.right)) y.X (y.bo,sW n.sep z x):=by
 have hc0:=A;replace A:p.fr.count M≠0:=U;have dc:=zyQ.tk.lt;refine az.ac 3 Dx func243 ?_;have B0:BW t p (aI h Y (.cells [int z.X,u64 z.bo] 245)) (Y+1):=zyQ.aW (aG.refl.set (an _)) (bG _);obtain⟨e,V,e1,e2,e3,e4,e5,e6⟩:=nL B0.tk.ok G;refine PV f243.eq_1 Dx.eq_1 @Hd.av.eq_1 @Hd.cells.eq_1 B0.tk.tr ?_;refine bc (e6 _ _ .refl U) ?_;refine Xf B0.tk.tr ?_;generalize tU:Y+1+Array.size _=FN;have ha:Y+1<=FN:=U;refine cm (az.Mm (args':=[.ptr t.a.ab 0,qd.av]) (by rfl) (λr vs hv=>FO hv) ((B0.aW aG.refl ha).vT A qd)) λ_ W cC l1 ⟨t1,p1,x,f1,f2,B1,gP,f3,f4,f5,f6⟩=>?_;subst f2;have kU:x.X≠z.X:=λe'=>by rw[e',G]at f1;cases f1
 have yf:ct t1.a.es z.X=J (z.bo,n):=by rw[f3,cT kU.symm];exact G
 obtain⟨e',tN,e1',e2',e3',LB,e5',e6'⟩:=nL B1.tk.ok yf;have NB:e'.bT=e.bT:=gP.sf B1 V tN (e1'.trans e1.symm);rw[NB]at LB e5' e6';have d1:¬(e.bT=cC):=U;have d2:¬(e.bT=cC+1+9):=U;have d3:¬(e.bT=cC+1+10):=U;refine RC Dx.eq_1 d1 d2 d3 LB @Nd.cells.eq_1 ?_;have Ve:=agv n hR h5 x;rw[Nd.av,Nd.cells,Hd.av,Hd.cells]at Ve;refine ba Ve ?_;have k1:N W t.tb=J (.cells [.ptr t1.a.pb 0,.ptr t1.a.ab 0,int t1.aO.X,u64 t1.aO.bo,.g (.int .i64 t1.size),bW R] 249):=by rw[<-gP.tb];exact B1.tk.tr
 have g1:¬(t.tb=e.bT):=λh=>zyQ.tk.d3 e V h.symm;have g2:¬(t.tb=cC):=U;have g3:¬(t.tb=cC+1+9):=U;have g4:¬(t.tb=cC+1+10):=U;have g5:¬(cC=e.bT):=U;have g6:¬(cC+1+9=e.bT):=U;have g7:¬(cC+1+10=e.bT):=U;simp+decide-dsimp only[go_sem,Dx,d1,d2,d3,LB,k1,g1,g2,g3,g4,g5,Nd.av,Nd.cells,reduceAdd];obtain⟨t2,B2,vD,q3,q4,q5⟩:=B1.mg tN e1' e2' (n.left x);rw[NB]at B2 vD;have Qh:ct t2.a.es x.X=J (x.bo,qd):=by rw[q3,cT kU,f3,dF]
 obtain⟨ex,hex,x1,x2,x3,x4,x5,x6⟩:=nL B2.tk.ok Qh;rw[vD.ab]at x6;refine bc (x6 _ _ ?_ U) ?_
 .exact ata
 have dxe:¬(ex.bT=e.bT):=λhh=>by
  exact avp
 have x4':N W ex.bT=J (.cells (u64 x.bo::qd.cells) 294):=by rw[<-x4,aj,ak dxe]
 have m1:¬(ex.bT=cC):=U;have m2:¬(ex.bT=cC+1+9):=U;have m3:¬(ex.bT=cC+1+10):=U;have dtx:¬(t.tb=ex.bT):=λhh=>by have:=B2.tk.d3 ex hex;rw[vD.tb,gP.tb]at this;exact this hh.symm
 have m4:¬(cC+1+10=ex.bT):=U;have m5:¬(cC=ex.bT):=U;simp+decide-dsimp only[go_sem,Dx,k1,g1,g2,g3,g4,g7,dxe,x4',m1,m2,m3,dtx,qd,Nd.cells,reduceAdd];obtain⟨t3,B3,qC,y3,y4,y5⟩:=B2.mg hex x1 x2 n.right;generalize SZ:cC+1+Array.size _+Array.size _=nb;have arT:cC+1<=nb:=U;have heb:=(zyQ.tk.ok.fr e V).2.2;have ar2:ex.bT<Y\/FN<=ex.bT:=by
  rcases(gP.trans vD (U:FN<=cC)).bT ex hex with⟨f,hf,LF⟩|h;.have:=(zyQ.tk.ok.fr f hf).2.2;left;omega
  .exact .inr h
 have Iy:=zyQ.pk.tD;have ZC:=zyQ.pk.tJ;have pl3:=zyQ.pk.tM;have RE:=zyQ.tk.ok.lm;have kn:N W Y=J (.cells [int z.X,u64 z.bo] 245):=by rw[gP.aW Y U U U U U U (λf hf=>by have:=(zyQ.tk.ok.fr f hf).2.2;omega),Sr]
 have o1:¬(Y=nb+6):=U;have o2:¬(Y=ex.bT):=U;have o3:¬(Y=e.bT):=U;have o4:¬(Y=cC+1+9):=U;have o5:¬(Y=cC+1+10):=U;have o6:¬(Y=cC):=U;have o7:¬(cC=nb+6):=U;have o8:¬(cC=nb+9):=U;have o9:¬(nb+6=nb+9):=U;have o10:¬(t.tb=nb+6):=U;have o11:¬(t.tb=nb+9):=U;have o12:¬(Y=nb+9):=U;simp+decide-dsimp only[go_sem,kn,o1,o2,o3,o4,o5,o6,o7,o8,o9,o10,o11,o12,k1,g1,g2,g3,g4,g5,m5,dtx,reduceAdd];have apg:t3.a.ab=t1.a.ab:=qC.ab.trans vD.ab;have LG:p1.fr.count M≠0:=U;have c:∀Q E,aG cC (aI (aI W e.bT (.cells (u64 z.bo::(n.left x).cells) 294)) ex.bT (.cells (u64 x.bo::n.right.cells) 294)) Q->cC<=E->UP 129 [.ptr t1.a.ab 0,(sW n.sep z x).av] Q E _:=λQ E s l=>apg▸((B3.aW s l).vT LG (sW n.sep z x))
 refine cm (WN (k:=n.sep) (y:=z) (x:=x) (B6:=nb+6) (B9:=nb+9) (by rw[Xg,Sr]) iA U (c _ _ ?_ U)) λ_ h4 Gc l4 ⟨t4,p2,y,b1,b2,B4,IP,b3,b4,b5,b6⟩=>?_
 .exact ata
 subst b2;have akd:t4.tb=t.tb:=by rw[IP.tb,qC.tb,vD.tb,gP.tb]
 have k4:N h4 t.tb=J (.cells [.ptr t4.a.pb 0,.ptr t4.a.ab 0,int t4.aO.X,u64 t4.aO.bo,.g (.int .i64 t4.size),bW R] 249):=akd▸B4.tk.tr
 refine Xf k4 ?_;have⟨B5,KK⟩:=B4.tree y t4.size;rw[akd]at B5 KK;have hyx:x.X≠y.X:=λhh=>by rw[y3,q3,<-hh,dF]at b1;cases b1
 have CR:y.X≠z.X:=λhh=>by rw[y3,q3,hh,cT kU.symm,dF]at b1;cases b1
 have hy0:ct t.a.es y.X=B:=by rw[y3,q3,cT hyx.symm,cT CR,f3,cT hyx.symm]at b1;exact b1
 refine⟨_,p2,x,y,f1,hy0,hyx,B5.aW aG.refl U,?_,Z,by rw[b5,y5,q5,f5],U,?_⟩
 .have a1:=(Step.same (aG.refl.set (an _)):Step Y t t p p h (aI h Y (.cells z.cells 245)));have a2:=a1.trans ((gP.trans vD (U:FN<=cC)).trans qC (U:FN<=cC)) (U:Y<=FN);refine((a2.trans (Step.same (Y:=cC) ?_) U).trans IP U).trans KK U
  exact ata
 .rw[b3,y3,q3,f3,Wc kU]
section
variable{Pk:aY->Prop}{σ:AA}{aO:Hd}{lo:Nat->aY}{lv:Nat->Nat}{iL big':Nat->Prop}
def BI.Py(I:BI Pk σ aO lo lv iL)(h:∀s g n,iL s->σ s=J (g,n)->O n.aJ<=4\/(big' s/\O n.aJ=5)):BI Pk σ aO lo lv big':=
 ⟨I.r,λs g n G=>by
  obtain q|q:=I.small _ _ _ G;.exact .inl q
  .exact h s g n q.1 G,I.ay,I.cw,I.oP,I.kD,I.next,I.uniq,I.rt,I.aJ,I.top⟩
def Nd.HJ{n:Nd}(k v):O (n.put k v).aJ=O n.aJ+(if n.has k then 0 else 1):=by
 unfold Nd.put;cases n.has k with
 |true=>rfl
 |false=>exact mY (jD _ _)
def Nd.zA{n:Nd}{k}:n.has k=M↔place n.aJ k<O n.aJ/\n.aJ.getD (place n.aJ k) []=k:=by unfold Nd.has;simp
def Vw{n:Nd}{k}(hh:n.has k=R)(h:place n.aJ k<O n.aJ):k<n.aJ.getD (place n.aJ k) []:=by
 have:=vZ n.aJ k h;rcases kC k (n.aJ.getD (place n.aJ k) [])with q|q|q
 .exact q
 .rw[Nd.zA.2 ⟨h,q.symm⟩]at hh;cases hh
 .exact absurd q this
def Nd.zxQ.put{n:Nd}(hR:n.zxQ)(K:n.ay=M)(cf:O n.aJ<=10){k}(A:n.eF k=M)(v):(n.put k v).zxQ:=by
 have⟨e1,e2⟩:=hR.lf K;have hp:=jD n.aJ k;unfold Nd.put;cases hh:n.has k with
 |true=>exact⟨hR.sorted,hR.xP,hR.H,λ_=>⟨by show O (n.gZ.set _ v)=_;rw[fG];exact e1,e2⟩,(λh=>by rw[show n.ay=M from K]at h;cases h),hR.small⟩
 |false=>
  have mJ:O (ins n.aJ (place n.aJ k) k)=O n.aJ+1:=mY hp;refine⟨λi H=>?_,λi H=>?_,hR.H,λ_=>⟨?_,e2⟩,(λh=>by rw[show n.ay=M from K]at h;cases h),by show O (ins n.aJ _ k)<_;rw[mJ];omega⟩
  .have H:i+1<O (ins n.aJ (place n.aJ k) k):=H;rw[mJ]at H;show(ins n.aJ _ k).getD i []<(ins n.aJ _ k).getD (i+1) [];rcases cF (i+1) (place n.aJ k)with h|h|h
   .rw[nM U hp,nM h hp];exact hR.sorted i U
   .rw[nM U hp,<-h,ot U];exact wR _ _ _ U
   .obtain Q|Q:=bB (place n.aJ k) i;.rw[mf Q hp,mf U hp];have:=hR.sorted (i-1) U;rw[show i-1+1=i from U]at this;exact this
    .have:i=place n.aJ k:=U;rw[this,ot hp,mf U hp,gj];exact Vw hh U
  .have H:i<O (ins n.aJ (place n.aJ k) k):=H;rw[mJ]at H;show(!n.bd||decide ((ins n.aJ _ k).getD i []<n.cQ))=M;rcases cF i (place n.aJ k)with h|h|h
   .rw[nM h hp];exact hR.xP i U
   .rw[h,ot hp];exact A
   .rw[mf h hp];exact hR.xP _ U
  .show O (ins n.gZ _ v)=O (ins n.aJ _ k);rw[mY U,mJ,e1]
def qo{l:List aY}{p}:(l.eraseIdx p).getD i []=if i<p then l.getD i []else l.getD (i+1) []:=by simp only[List.getD,Cz];split<;>rfl
def Nd.zxQ.del{n:Nd}(hR:n.zxQ)(K:n.ay=M)(k):(n.del k).zxQ:=by
 have⟨e1,e2⟩:=hR.lf K;unfold Nd.del;cases hh:n.has k with
 |false=>exact hR
 |true=>
  have hp:=(Nd.zA.1 hh).1;have cf:O (n.aJ.eraseIdx (place n.aJ k))=O n.aJ-1:=iC hp;have G:=hR.small;refine⟨λi H=>?_,λi H=>?_,hR.H,λ_=>⟨?_,e2⟩,(λh=>by rw[show n.ay=M from K]at h;cases h),by show O (n.aJ.eraseIdx _)<_;rw[cf];omega⟩;.have H:i+1<O (n.aJ.eraseIdx (place n.aJ k)):=H;rw[cf]at H;show(n.aJ.eraseIdx _).getD i []<(n.aJ.eraseIdx _).getD (i+1) [];rw[qo,qo];split<;>split<;>exact hR.lt U U
  .have H:i<O (n.aJ.eraseIdx (place n.aJ k)):=H;rw[cf]at H;show(!n.bd||decide ((n.aJ.eraseIdx _).getD i []<n.cQ))=M;rw[qo];split<;>exact hR.xP _ U
  .show O (n.gZ.eraseIdx _)=O (n.aJ.eraseIdx _);rw[cf,iC U,e1]
def BI.put(I:BI Pk σ aO lo lv (λ_=>False)){s g n}(G:σ s=J (g,n))(K:n.ay=M){k}(A:SF lo s n k)(hk:Pk k)(v):BI Pk (up σ s (g,n.put k v)) aO lo lv (· =s):=by
 have h4:O n.aJ<=4:=by
  exact auh
 have hp:=jD n.aJ k;refine I.upd (λ_ h=>h) G K (by unfold Nd.put;split<;>exact K) (by unfold Nd.put;split<;>rfl) (by unfold Nd.put;split<;>rfl) (by unfold Nd.put;split<;>rfl) ((I.r _ _ _ G).put K U A.2 v) ?_ ?_ ?_
 .unfold Nd.put;cases hh:n.has k with
  |true=>exact λi H=>(I.cw _ _ _ G i H).1
  |false=>
   intro i H;have H:i<O (ins n.aJ (place n.aJ k) k):=H;rw[mY hp]at H;show¬(ins n.aJ _ k).getD i []<lo s;rcases cF i (place n.aJ k)with h|h|h
   .rw[nM h hp];exact(I.cw _ _ _ G i U).1
   .rw[h,ot hp];exact A.1
   .rw[mf h hp];exact(I.cw _ _ _ G _ U).1
 .rw[Nd.HJ];split;.left;omega
  .obtain h|h:=bB (O n.aJ) 4;.left;omega
   .right;exact⟨Z,U⟩
 .intro q hq;unfold Nd.put at hq;cases hh:n.has k with
  |true=>rw[hh]at hq;exact I.aJ _ _ _ G K q hq
  |false=>
   rw[hh]at hq;have hq:q∈ins n.aJ (place n.aJ k) k:=hq;unfold ins at hq;obtain hq|hq:=bN.1 hq
   .exact I.aJ _ _ _ G K q (fe hq)
   .obtain hq|hq:=bJ.1 hq;.rw[hq];exact hk
    .exact I.aJ _ _ _ G K q (ju hq)
def BI.del(I:BI Pk σ aO lo lv (λ_=>False)){s g n}(G:σ s=J (g,n))(K:n.ay=M)(k):BI Pk (up σ s (g,n.del k)) aO lo lv (λ_=>False):=by
 have h4:O n.aJ<=4:=by
  exact auh
 refine I.upd (λ_ h=>h) G K (by unfold Nd.del;split<;>exact K) (by unfold Nd.del;split<;>rfl) (by unfold Nd.del;split<;>rfl) (by unfold Nd.del;split<;>rfl) ((I.r _ _ _ G).del K k) ?_ ?_ ?_
 .unfold Nd.del;cases hh:n.has k with
  |false=>exact λi H=>(I.cw _ _ _ G i H).1
  |true=>intro i H;have H:i<O (n.aJ.eraseIdx (place n.aJ k)):=H;rw[iC ((Nd.zA.1 hh).1)]at H;show¬(n.aJ.eraseIdx _).getD i []<lo s;rw[qo];split<;>exact(I.cw _ _ _ G _ U).1
 .left;unfold Nd.del;split;.show O (n.aJ.eraseIdx _)<=4;have:=List.length_eraseIdx_le n.aJ (place n.aJ k);omega
  .exact h4
 .intro q hq;unfold Nd.del at hq;split at hq;.exact I.aJ _ _ _ G K q (List.mem_of_mem_eraseIdx hq)
  .exact I.aJ _ _ _ G K q hq
end
variable{aO:Hd}
def Ou(Pk:aY->Prop)(σ:AA)(aO:Hd)(d:Nat):Prop:=∃lo lv,BI Pk σ aO lo lv (λ_=>False)/\lv aO.X<=d
abbrev at_(hx:List Hd)(q:Nat):Hd:=hx.getD q default
structure wJ(Pk:aY->Prop)(σ σ1:AA)(iO:Hd)(hx:List Hd)(d c c1 j:Nat)(nu:Prop):Prop where
 bi:∃lo lv,BI Pk σ1 iO lo lv (· =(at_ hx (j-1)).X)/\lv iO.X<=d
 old:∀q,q+1<j->∃n,σ (at_ hx q).X=J ((at_ hx q).bo,n)/\σ1 (at_ hx q).X=J ((at_ hx q).bo,n)/\n.ay=R/\∃i,i<O n.bu/\n.bu.getD i default=at_ hx (q+1)
 cur:∃m,σ1 (at_ hx (j-1)).X=J ((at_ hx (j-1)).bo,m)/\(O m.aJ=5->nu/\∀q,j-1<=q->q<O hx->∃n,σ (at_ hx q).X=J ((at_ hx q).bo,n)/\4<=O n.aJ)
 rt:iO=at_ hx 0
 cnt:c1+(O hx-j)=c
 pos:0<j
 le:j<=O hx
def wJ.exit{Pk σ σ1 iO hx d c c1 j nu}(I:wJ Pk σ σ1 iO hx d c c1 j nu){m}(hm:σ1 (at_ hx (j-1)).X=J ((at_ hx (j-1)).bo,m))(h:¬4<O m.aJ):Ou Pk σ1 iO (d+1):=by have⟨lo,lv,I1,W⟩:=I.bi;refine⟨lo,lv,I1.Py λs g n G hn=>?_,U⟩;subst G;rw[hm]at hn;injection hn with hn;injection hn with _ hn;subst hn;left;omega
def XI(σ:AA)(hx:List Hd)(c:Nat):Prop:=∃m,m<=c/\((m<O hx/\∃n,σ (at_ hx (O hx-1-m)).X=J ((at_ hx (O hx-1-m)).bo,n)/\O n.aJ<4)\/m=O hx+1)
def wJ.room{Pk σ σ1 iO hx d c c1 j nu}(I:wJ Pk σ σ1 iO hx d c c1 j nu)(hN:nu->XI σ hx c){m}(hm:σ1 (at_ hx (j-1)).X=J ((at_ hx (j-1)).bo,m))(h:O m.aJ=5):
 c1≠0/\(j=1->2<=c1):=by
 have⟨m',W,F⟩:=I.cur;rw[hm]at W;injection W with W;injection W with _ W;subst W;have⟨h3,h4⟩:=F h;have⟨zzQ,hM,A⟩:=hN h3;have:=I.cnt;have:=I.pos;have:=I.le;obtain⟨g1,n,g2,g3⟩|g:=A
 .have:O hx-1-zzQ<j-1:=by
   rcases bB (O hx-1-zzQ) (j-1)with q|q;.exact q
   .have⟨n',e1,e2⟩:=h4 _ q U;rw[g2]at e1;injection e1 with e1;injection e1 with _ e1;subst e1;omega
  constructor<;>omega
 .constructor<;>omega
def wJ.eo{Pk σ σ1 iO hx d c c1 j nu}(I:wJ Pk σ σ1 iO hx d c c1 j nu){lo lv iL}(zyQ:BI Pk σ1 iO lo lv iL):∀q' q,q<q'->q'<j->lv (at_ hx q').X<lv (at_ hx q).X:=by
 intro q'
 induction q' with
 |zero=>omega
 |succ q' ih=>
  intro q W F;have⟨n,a1,a2,a3,i,a4,a5⟩:=I.old q' F;have⟨m,b1,b2,_⟩:=zyQ.kD _ _ _ a2 a3 i a4;rw[a5]at b2;obtain h|h:=bB q q'
  .have:=ih q h U;omega
  .have:q=q':=U;subst this;omega
def Tf(es:List (iB Nd)):∃s,ct es s=B:=by
 have:∃s,∀e∈es,e.X<s:=by
  induction es with
  |nil=>exact⟨0,λe V=>by cases V⟩
  |cons a es ih=>
   have⟨s,G⟩:=ih;refine⟨s+a.X+1,λe V=>?_⟩;obtain rfl|V:=bJ.1 V;.omega
   .have:=G e V;omega
 have⟨s,G⟩:=this;exact⟨s,rC λe V=>by have:=G e V;omega⟩
def wJ.split{Pk σ σ1 iO hx d c c1 j nu}(ane:∃s,σ1 s=B)(I:wJ Pk σ σ1 iO hx d c c1 j nu)(hj:2<=j){n}(hn:σ1 (at_ hx (j-1)).X=J ((at_ hx (j-1)).bo,n))(h5:O n.aJ=5){AV}(hu:σ1 (at_ hx (j-2)).X=J ((at_ hx (j-2)).bo,AV)):
 (at_ hx (j-2)).X≠(at_ hx (j-1)).X/\n.zxQ/\AV.zxQ/\AV.ay=R/\AV.eF n.sep=M/\AV.has n.sep=R/\
 ∀(x:Hd) (c2:Nat),σ1 x.X=B->c2+1=c1->wJ Pk σ (up (up (up σ1 (at_ hx (j-1)).X ((at_ hx (j-1)).bo,n.left x)) x.X (x.bo,n.right)) (at_ hx (j-2)).X ((at_ hx (j-2)).bo,AV.add n.sep x)) iO hx d c c2 (j-1) nu:=by
 have⟨lo,lv,zyQ,W⟩:=I.bi;have⟨u',a1,a2,a3,i,a4,a5⟩:=I.old (j-2) U;rw[hu]at a2;injection a2 with a2;injection a2 with _ a2;subst a2;rw[show j-2+1=j-1 from U]at a5;have ag4:=I.eo zyQ;have cD:∀q q',q<q'->q'<j->(at_ hx q).X≠(at_ hx q').X:=λq q' g1 g2 e=>by have:=ag4 q' q g1 g2;rw[e]at this;omega
 have key:=λ(x:Hd) (L:σ1 x.X=B)=>zyQ.split (x:=x) hn h5 L hu a3 a4 a5 (I.rt▸(cD 0 (j-1) U U));have xP:AV.eF n.sep=M/\AV.has n.sep=R:=by have⟨s,G⟩:=ane;have:=key ⟨s,0⟩ G;exact⟨this.1,this.2.1⟩
 refine⟨cD _ _ U U,zyQ.r _ _ _ hn,zyQ.r _ _ _ hu,a3,xP.1,xP.2,λx c2 L A=>?_⟩;have⟨_,k2,k3⟩:=key x L;have Zl:∀q,q<j->(at_ hx q).X≠x.X:=by
  exact atI
 refine⟨⟨_,_,k3,?_⟩,λq hq=>?_,⟨AV.add n.sep x,dF,λK=>?_⟩,I.rt,by have:=I.cnt;have:=I.le;omega,U,by have:=I.le;omega⟩;.show(if iO.X=x.X then _ else _)<=d;rw[ak (I.rt▸(Zl 0 U))];exact W
 .exact auG
 .have⟨m',e1,e2⟩:=I.cur;rw[hn]at e1;injection e1 with e1;injection e1 with _ e1;subst e1;have⟨e3,e4⟩:=e2 h5;refine⟨e3,λq g1 g2=>?_⟩;rcases bB q (j-1)with g|g;.have:q=j-2:=U;subst this;refine⟨AV,a1,?_⟩;have:O (AV.add n.sep x).aJ=O AV.aJ+1:=mY (jD _ _);omega
  .exact e4 q g g2
def wJ.top{Pk σ σ1 iO hx d c c1 nu}(I:wJ Pk σ σ1 iO hx d c c1 1 nu){n}(hn:σ1 (at_ hx 0).X=J ((at_ hx 0).bo,n))(h5:O n.aJ=5):
 n.zxQ/\∀(x y:Hd),σ1 x.X=B->σ1 y.X=B->x.X≠y.X->Ou Pk (up (up (up σ1 (at_ hx 0).X ((at_ hx 0).bo,n.left x)) x.X (x.bo,n.right)) y.X (y.bo,sW n.sep (at_ hx 0) x)) y (d+1):=by
 have⟨lo,lv,zyQ,W⟩:=I.bi;refine⟨zyQ.r _ _ _ hn,λx y L hy Ie=>?_⟩;have hr:iO=⟨(at_ hx 0).X,(at_ hx 0).bo⟩:=I.rt;have:=zyQ.Qb hn h5 L hy Ie hr;rw[show iO=at_ hx 0 from hr]at this;refine⟨_,_,this,?_⟩;show(if y.X=y.X then _ else _)<=d+1;rw[au Z];have W:lv iO.X<=d:=W;rw[hr]at W;exact SE W
def wJ.start{σ lo lv d}(I:BI Pk σ aO lo lv (λ_=>False))(z:lv aO.X<=d){k v hx}(P:L4 σ aO lo k hx M)(hk:Pk k)(c):
 ∃n,σ (at_ hx (O hx-1)).X=J ((at_ hx (O hx-1)).bo,n)/\n.zxQ/\n.ay=M/\n.eF k=M/\wJ Pk σ (up σ (at_ hx (O hx-1)).X ((at_ hx (O hx-1)).bo,n.put k v)) aO hx d c c (O hx) (n.has k=R):=by
 have cD:=P.ne;have⟨n,W,F,_,h4⟩:=P.node (O hx-1) U;have K:=h4 U Z;have rU:∀q' q,q<q'->q'<O hx->lv (at_ hx q').X<lv (at_ hx q).X:=by
  intro q'
  induction q' with
  |zero=>omega
  |succ q' ih=>
   intro q g1 g2;have⟨m,a1,a2,a3,_⟩:=P.node q' U;have⟨a3,a4⟩:=a3 g2;have⟨m',b1,b2,_⟩:=I.kD _ _ _ a1 a3 _ ((I.r _ _ _ a1).Dy a3 k);rw[<-a4]at b2;obtain h|h:=bB q q'
   .have:=ih q h U;have b2:lv (at_ hx (q'+1)).X+1=lv (at_ hx q').X:=b2;omega
   .have:q=q':=U;subst this;have b2:lv (at_ hx (q+1)).X+1=lv (at_ hx q).X:=b2;omega
 refine⟨n,W,I.r _ _ _ W,K,F.2,⟨⟨lo,lv,I.put W K F hk v,z⟩,λq hq=>?_,⟨n.put k v,dF,λh5=>?_⟩,P.rt.symm,U,cD,an _⟩⟩
 .have⟨m,a1,a2,a3,_⟩:=P.node q U;have⟨a3,a4⟩:=a3 hq;refine⟨m,a1,?_,a3,_,(I.r _ _ _ a1).Dy a3 k,a4.symm⟩;rw[cT]; · exact a1
  intro e;have:=rU (O hx-1) q U U;rw[(e:(at_ hx q).X=(at_ hx (O hx-1)).X)]at this;omega
 .have hp:=Nd.HJ (n:=n) k v;have h4:O n.aJ<=4:=by
   obtain h|h:=I.small _ _ _ W;.exact h
   .exact absurd h.1 id
  cases hh:n.has k with
  |true=>rw[hh]at hp;simp at hp;omega
  |false=>rw[hh]at hp;simp at hp;refine⟨Z,λq g1 g2=>⟨n,?_,U⟩⟩;have:q=O hx-1:=U;subst this;exact W
variable{d' j:Nat}
def wt{α:Type}(c:α->Nat)(σ:Nat->Option (Nat×α))(s:Nat):Nat:=match σ s with
 |some x=>c x.2
 |none=>0
def Sz{α:Type}(c:α->Nat)(σ:Nat->Option (Nat×α))(aw:Nat):Prop:=∃l:List Nat,l.Nodup/\(∀s,s∈l↔σ s≠B)/\(l.map (wt c σ)).sum=aw
def Ft{α:Type}(c:α->Nat)(es:List (iB α)):Nat:=(es.map λe=>c e.x).sum
section
variable{α:Type}{c:α->Nat}{σ σ':Nat->Option (Nat×α)}{es:List (iB α)}{aw zzQ s:Nat}
def fP{g}{n:α}(h:σ s=J (g,n)):wt c σ s=c n:=by unfold wt;rw[h]
def jc(h:σ s=B):wt c σ s=0:=by unfold wt;rw[h]
def Sz.sum(h:Sz c σ aw){l:List Nat}(K:l.Nodup)(hm:∀s,s∈l↔σ s≠B):(l.map (wt c σ)).sum=aw:=by obtain⟨l',W,F,rfl⟩:=h;exact(((pQ K W).2 λs=>(hm s).trans (F s).symm).map _).sum_nat
def Sz.uniq(h:Sz c σ aw)(Q:Sz c σ zzQ):aw=zzQ:=by obtain⟨l,W,F,rfl⟩:=h;exact Q.sum W F
def Sz.at(h:Sz c σ aw)(ht:∀t,t≠s->σ' t=σ t)(e:zzQ+wt c σ s=aw+wt c σ' s):Sz c σ' zzQ:=by
 obtain⟨l,W,F,rfl⟩:=h;have G:s∉l.erase s:=λq=>(W.mem_erase_iff.1 q).1 Z;have sum:(l.map (wt c σ)).sum=((l.erase s).map (wt c σ')).sum+wt c σ s:=by
  rw[show(l.erase s).map (wt c σ')=(l.erase s).map (wt c σ)from fD λt q=>by unfold wt;rw[ht t (W.mem_erase_iff.1 q).1]];by_cases q:s∈l;.rw[((List.perm_cons_erase q).map _).sum_nat,cB,gM];omega
  .rw[List.erase_of_not_mem q,jc (Classical.not_not.1 (λw=>q ((F s).2 w)))];rfl
 have mem:∀t,t≠s->(t∈l.erase s↔σ' t≠B):=λt q=>by rw[W.mem_erase_iff,F,ht t q];exact⟨λw=>w.2,λw=>⟨q,w⟩⟩
 by_cases q:σ' s=B
 .refine⟨l.erase s,W.erase s,λt=>?_,by rw[jc q]at e;omega⟩;by_cases w:t=s;.subst w;exact⟨λhd=>absurd hd G,λhd=>absurd q hd⟩
  .exact mem t w
 .refine⟨s::l.erase s,iG.2 ⟨G,W.erase s⟩,λt=>?_,by rw[cB,gM];omega⟩;by_cases w:t=s;.subst w;exact⟨λ_=>q,λ_=> .head _⟩
  .rw[bJ];exact⟨λhd=>(mem t w).1 (hd.resolve_left w),λhd=> .inr ((mem t w).2 hd)⟩
def Sz.up(h:Sz c σ aw){x:Nat×α}(e:zzQ+wt c σ s=aw+c x.2):Sz c (up σ s x) zzQ:=
 h.at (λt ht=>cT ht) ((fP (σ:=br.up σ s x) (g:=x.1) (n:=x.2) dF)▸e)
def Sz.Cb(hn:(es.map iB.X).Nodup):Sz c (ct es) (Ft c es):=by
 refine⟨es.map iB.X,hn,λs=>⟨λh=>?_,λh=>?_⟩,?_⟩;.obtain⟨e,V,rfl⟩:=bg.1 h;rw[om hn V];exact λq=>by cases q
 .cases G:ct es s with
  |none=>exact absurd G h
  |some x=>have⟨e,V,W,_⟩:=kz (g:=x.1) (n:=x.2) G;exact bg.2 ⟨e,V,W⟩
 .unfold Ft;rw[sY];exact ff _ (fD λe V=>fP (om hn V))
def HB:Ft (λ_:α=>1) es=O es:=by
 unfold Ft
 induction es with
 |nil=>rfl
 |cons a es ih=>show 1+(es.map λ_=>1).sum=O es+1;rw[show(es.map λ_=>1).sum=O es from ih];omega
end
def US:∀{l:List Nat} {x:Nat},x∈l->x<=l.sum
 |a::l,x,h=>by
  rw[gM];obtain rfl|h:=bJ.1 h
  .omega
  .have:=US h;omega
def Sz.le{α:Type}{c:α->Nat}{σ:Nat->Option (Nat×α)}{aw s g}{n:α}(h:Sz c σ aw)(G:σ s=J (g,n)):c n<=aw:=by obtain⟨l,_,F,rfl⟩:=h;have:=US (IV (f:=wt c σ) ((F s).2 (by rw[G];exact λq=>by cases q)));rw[fP G]at this;exact this
def Acc{α:Type}(c:α->Nat)(σ:Nat->Option (Nat×α))(hd:Int)(p:bp)(C d:Nat):Prop:=∃aw zzQ:Nat,Sz (λ_=>1) σ aw/\p.fr.count M+aw=C/\Sz c σ zzQ/\hd=(zzQ:Int)/\zzQ<=d
section
variable{α:Type}{c:α->Nat}{σ σ':Nat->Option (Nat×α)}{hd z':Int}{p p':bp}{C d s g:Nat}{x x':α}
def Acc.up(hc:Acc c σ hd p C d):Acc c σ hd p C (d+1):=by have⟨aw,zzQ,a,b,c,e,f⟩:=hc;exact⟨aw,zzQ,a,b,c,e,U⟩
def Acc.set(hc:Acc c σ hd p C d)(G:σ s=J (g,x))(y:σ'=br.up σ s (g,x'))(e:∀zzQ:Nat,c x<=zzQ->zzQ<=d->hd=(zzQ:Int)->∃M':Nat,z'=(M':Int)/\M'+c x=zzQ+c x'/\M'<=d'):Acc c σ' z' p C d':=by
 have⟨aw,zzQ,a1,a2,a3,a4,a5⟩:=hc;have⟨M',b1,b2,b3⟩:=e zzQ (a3.le G) a5 a4;refine⟨aw,M',?_,a2,?_,b1,b3⟩;.rw[y];exact a1.up (by rw[fP G])
 .rw[y];exact a3.up ((fP G)▸b2)
def Acc.ins(hc:Acc c σ hd p C d)(G:σ s=B)(y:σ'=br.up σ s (g,x))(h0:c x=0)(A:p'.fr.count M+1=p.fr.count M):Acc c σ' hd p' C d:=by
 have⟨aw,zzQ,a1,a2,a3,a4,a5⟩:=hc;refine⟨aw+1,zzQ,?_,U,?_,a4,a5⟩;.rw[y];exact a1.up (by rw[jc G])
 .rw[y];exact a3.up (by rw[jc G];rw[h0])
def Acc.half(hc:Acc c σ hd p C d)(G:σ s=J (g,x))(H:σ i=B){w:α}(y:σ'=br.up (br.up σ s (g,x')) i (j,w))(e:c x'+c w=c x)(A:p'.fr.count M+1=p.fr.count M):Acc c σ' hd p' C d:=by
 have⟨aw,zzQ,a1,a2,a3,a4,a5⟩:=hc;have ne:i≠s:=λq=>by rw[q,G]at H;cases H
 have w1:∀{c:α->Nat},wt c (br.up σ s (g,x')) i=0:=jc ((cT ne)▸H);have:=a3.le G;refine⟨aw+1,zzQ,?_,U,?_,a4,a5⟩;.rw[y];exact(a1.up (zzQ:=aw) (by rw[fP G])).up (by rw[w1])
 .rw[y];exact(a3.up (zzQ:=zzQ-c x+c x') (by rw[fP G];show _=zzQ+c x';omega)).up (by rw[w1];show _=_+c w;omega)
def Acc.nil(p):Acc c (ct ([]:List (iB α))) 0 p (p.fr.count M) 0:=⟨0,0,Sz.Cb .nil,Z,Sz.Cb .nil,Z,an _⟩
end
variable{nu:Nd}
def uz(n:Nd):Nat:=if n.ay then O n.aJ else 0
section
variable{σ σ':AA}{hd z':Int}{p p':bp}{C d s g:Nat}{n:Nd}{k v:aY}
def aaV(K:n.ay=M):uz (n.put k v)=uz n+if n.has k then 0 else 1:=by
 have:(n.put k v).ay=M:=by unfold Nd.put;split<;>exact K
 unfold uz;rw[this,K,au Z,au Z,Nd.HJ]
def Acc.put(hc:Acc uz σ hd p C d)(G:σ s=J (g,n))(K:n.ay=M)(y:σ'=br.up σ s (g,n.put k v))(e:z'=hd+((if n.has k then 0 else 1:Nat):Int)):Acc uz σ' z' p C (d+1):=by
 refine hc.set G y λzzQ _ hM ht=>⟨zzQ+if n.has k then 0 else 1,?_,?_,?_⟩;.rw[e,ht];split<;>simp
 .rw[aaV K];omega
 .split<;>omega
def Acc.inc(hc:Acc uz σ hd p C d)(h:n.has k=R)(z:d<50000):cO .i64 (hd+1)=hd+((if n.has k then 0 else 1:Nat):Int):=by have⟨_,zzQ,_,_,_,e,f⟩:=hc;rw[e,h,wrap_i64 U U];rfl
def Acc.am1(_:Acc uz σ hd p C d)(h:n.has k=M):hd=hd+((if n.has k then 0 else 1:Nat):Int):=by rw[h];simp
def aa0(K:n.ay=true):uz (n.del k)+(if n.has k then 1 else 0)=uz n:=by
 have:(n.del k).ay=true:=by unfold Nd.del;split<;>exact K
 unfold uz;rw[this,K,au rfl,au rfl];unfold Nd.del;cases hh:n.has k with
 |false=>rfl
 |true=>have hp:=(Nd.zA.1 hh).1;show(n.aJ.eraseIdx _).length+1=_;rw[iC hp];omega
def Acc.del(hc:Acc uz σ hd p C d)(G:σ s=J (g,n))(K:n.ay=M)(y:σ'=br.up σ s (g,n.del k))(e:z'=hd-((if n.has k then 1 else 0:Nat):Int)):Acc uz σ' z' p C d:=by
 have:=aa0 (k:=k) K;refine hc.set G y λzzQ _ hM ht=>⟨zzQ-if n.has k then 1 else 0,?_,?_,?_⟩;.rw[e,ht];omega
 .omega
 .omega
def Acc.aic(_:Acc uz σ hd p C d)(h:n.has k=R):hd=hd-((if n.has k then 1 else 0:Nat):Int):=by rw[h];simp
def Acc.dec(hc:Acc uz σ hd p C d)(h:n.has k=M)(z:d<50000):cO .i64 (hd-1)=hd-((if n.has k then 1 else 0:Nat):Int):=by have⟨_,zzQ,_,_,_,e,f⟩:=hc;rw[e,h,wrap_i64 U U];rfl
def JV(hR:n.zxQ)(h5:O n.aJ=5)(x):uz (n.left x)+uz n.right=uz n:=by
 have e1:=tQ hR h5;have e2:O (n.left x).aJ=2:=by rw[iY hR h5,ax,h5];rfl
 unfold uz;rw[show(n.left x).ay=n.ay from Z,show n.right.ay=n.ay from Z,e1,e2,h5];split<;>rfl
def Ia(h:n.ay=R):uz n=0:=by unfold uz;rw[h];rfl
def Acc.split(hc:Acc uz σ hd p C d)(G:σ s=J (g,n))(hR:n.zxQ)(h5:O n.aJ=5){x AV:Hd}(L:σ x.X=B)(hu:σ AV.X=J (AV.bo,nu))(hus:AV.X≠s)(ul:nu.ay=R)
 (y:σ'=br.up (br.up (br.up σ s (g,n.left x)) x.X (x.bo,n.right)) AV.X (AV.bo,nu.add n.sep x)) (e:z'=hd) (A:p'.fr.count M+1=p.fr.count M):Acc uz σ' z' p' C d:=by
 have ux:AV.X≠x.X:=λe=>by rw[<-e,hu]at L;cases L
 subst e;refine(hc.half G L Z (JV hR h5 x) A).set (x:=nu) (s:=AV.X) (by rw[cT ux,cT hus];exact hu) y λzzQ _ hM hz=>⟨zzQ,hz,?_,hM⟩
 rw[Ia ul,Ia (show(nu.add n.sep x).ay=R from ul)]
def Acc.top(hc:Acc uz σ hd p C d)(G:σ s=J (g,n))(hR:n.zxQ)(h5:O n.aJ=5){x AV:Hd}(L:σ x.X=B)(hu:σ AV.X=B)(tI:x.X≠AV.X)(ul:nu.ay=R)
 (y:σ'=br.up (br.up (br.up σ s (g,n.left x)) x.X (x.bo,n.right)) AV.X (AV.bo,nu)) (e:z'=hd) (A:p'.fr.count M+2=p.fr.count M):Acc uz σ' z' p' C d:=by
 have us:AV.X≠s:=λe=>by rw[e,G]at hu;cases hu
 subst e;exact(hc.half (p':={p with fr:=List.replicate (p'.fr.count M+1) M}) G L Z (JV hR h5 x) (by show(List.replicate _ _).count M+1=_;rw[List.count_replicate_self];omega)).ins (by rw[cT tI.symm,cT us];exact hu) y (Ia ul) (by rw[List.count_replicate_self])
end
variable{C d:Nat}
def P0{hx:List Hd}(h:i<=O hx):xI 2 (O hx) (hx.flatMap Hd.cells) B (J (int i))=J (qF (hx.take i)):=by
 have e:((hx.take i).flatMap Hd.cells)=(hx.flatMap Hd.cells).take (i*2):=by exact(fY iE hx i).symm
 have K:O (hx.flatMap Hd.cells)=O hx*2:=cj iE hx;simp only[xI,fX,mT,iF h,fJ,iq,qk];rw[bZ _ _ U,<-e];simp[b9 h]
def Sc:=RB [(6,[MO z9 10,MO [11,12,13] 14,MO [] 15,RX]),(8,[MO z8 9,([],[6],J 10),([11,12],[],B)]),(16,[MO z7 8,MO [9,10,11] 12,RX]),(18,[MO z7 8,RX])]
def an':(.g (.int .i64 (cO .i64 (((0:Nat):Int)-1))):u)= .g (.int .i64 (-1)):=by rw[wrap_i64 U U];rfl
def Zk(h:i<9223372036854775808):(.g (.int .i64 (cO .i64 (((i+1:Nat):Int)-1))):u)=int i:=by rw[wrap_i64 U U,show(((i+1:Nat):Int)-1)=(i:Int)by omega]
def AH{off}{m:Nd}:AR h b off (J 8) (J m.cells)=mz (fL h b off m.cells):=vH Z Z
set_option maxHeartbeats 4000000 in
def api(t p h Y)(zyQ:BW t p h Y)(hT:Ou Pk (ct t.a.es) t.aO d)(z:d<50000)(hA:Acc uz (ct t.a.es) t.size p C d)(k v)(hk:Pk k):
 UP 227 [.ptr t.tb 0,cg k,cg v] h Y λr Q E=>∃t' p' old nh e,r= .dY [cg old,bW nh,.g (.int .i64 e)]/\BW t' p' Q E/\Step Y t t' p p' h Q/\Ou Pk (ct t'.a.es) t'.aO (d+1)/\Acc uz (ct t'.a.es) t'.size p' C (d+1):=by
 have⟨lo,lv,I,SN⟩:=hT;have dc:=zyQ.tk.lt;refine az.ac 3 Sc func227 ?_;simp+decide-dsimp only[f227,go_sem];refine bc (Ri t _ _ zyQ.tk) ?_;refine Xf zyQ.tk.tr ?_;refine cm (aji t _ _ zyQ.tk I U k) λ_ W cC l1 ⟨⟨hx,e1,P,hL⟩,e2,e3⟩=>?_;rename_i Ma;subst e1;subst e2;subst e3;have cD:=P.ne;have⟨n,hn,hR,K,A,J0⟩:=wJ.start I SN (v:=v) P hk (p.fr.count M);have w1:1<=O hx:=cD;have w2:O hx<9223372036854775808:=U;have⟨e,V,ki,F,h3,h4,h7,h6⟩:=nL zyQ.tk.ok hn;refine YM Sc.eq_1 zyQ.tk.tr w1 w2 (U:O hx-1<O hx) @Hd.cells.eq_1 @jX ?_;refine bc (h6 _ _ .refl U) ?_;have tk:dC 8 n.cells=J n.cells:=rfl;refine Y8 h4 tk ?_;refine ba (Rv n k (EB hR.small)) ?_;generalize tU:cC+Array.size _=zT;have hz:cC<=zT:=U;have B0:BW t p W zT:=zyQ.aW aG.refl hz;have Wg:∀i,i<O hx->∃n,ct t.a.es (at_ hx i).X=J ((at_ hx i).bo,n):=λi H=>by have⟨m,a,_⟩:=P.node i H;exact⟨m,a⟩
 have pt:∀(a:u) (m:Nd),eG 1 (a::n.cells) m.cells=J (a::m.cells):=λ_ _=>rfl;cases hh:n.has k
 case' false=>
  refine Y8 Sc.eq_1 zyQ.tk.tr ?_;generalize ar5:zT+Array.size _=nxc;have hz0:zT<=nxc:=U;have B00:BW t p W nxc:=B0.aW aG.refl hz0;refine cm (aro t _ _ B00.tk hx hL Wg) λ_ F dR l2 ⟨⟨m,e1,Lu,LP⟩,e2,e3⟩=>?_;rename_i Ma;replace e2:=e2.symm;replace e3:=e3.symm;subst e1;subst e2;subst e3;refine Y8 zyQ.tk.tr zyQ.sp.pb ?_;refine bc (TO p _ _ B00.pk m) ?_;by_cases hm:m<=p.fr.count M
  case' neg=>simp+decide-dsimp only[go_sem,hm];exact⟨t,p,[],R,5,Z,zyQ.aW aG.refl U,Step.same aG.refl,⟨lo,lv,I,U⟩,hA.up⟩
  have hN:n.has k=R->XI (ct t.a.es) hx (p.fr.count M):=λ_=>⟨m,hm,LP⟩;refine Xf hm ?_;have D:zT<=nxc:=U;generalize nxc=nxb at D
 case' true=>
  have hN:n.has k=R->XI (ct t.a.es) hx (p.fr.count M):=λh=>by rw[hh]at h;cases h
  refine Xf Sc.eq_1 ?_;generalize arY:zT+Array.size _=nxb;have D:zT<=nxb:=U
 all_goals
  refine Y8 h4 tk ?_;refine ba (aqj n hR K k v A) ?_;have dte:¬(t.tb=e.bT):=λhq=>zyQ.tk.d3 e V hq.symm;refine asA h4 pt hh w1 w2 dte zyQ.tk.tr @Nd.av.eq_1 @AH ?_;have⟨t1,B1,gP,y3,y4,y5⟩:=(zyQ.aW aG.refl (U:cC<=nxb)).mg V ki F (n.put k v);have J1:wJ Pk (ct t.a.es) (ct t1.a.es) t1.aO hx d (p.fr.count M) (p.fr.count M) (O hx) (n.has k=R):=by rw[y3,y4];exact J0
 case' false=>have A2:=hA.put hn K y3 (hA.inc hh z);have⟨B2,vD⟩:=B1.tree t1.aO (cO .i64 (t.size+1));rw[gP.tb,y4,B1.sp.pb.trans zyQ.sp.pb.symm,gP.ab]at B2 vD;have apE:Step cC t _ p p W _:=(Step.same aG.refl).trans (gP.trans vD (an _)) U;have J2:wJ Pk (ct t.a.es) (ct t1.a.es) t.aO hx d (p.fr.count M) (p.fr.count M) (O hx) (n.has k=R):=y4▸J1
 case' true=>have A1:=hA.put hn K y3 (y5.trans (hA.am1 hh))
 all_goals
  refine cI _ _ (λm s Q E=>∃t1 p1 old nh,X s 0= .ptr t.tb 0/\X s 6=cg old/\X s 7=bW nh/\X s 9=qF hx/\BW t1 p1 Q E/\Step cC t t1 p p1 W Q/\Acc uz (ct t1.a.es) t1.size p1 C (d+1)/\cC<=E/\
   ((m=0/\X s 14= .g (.int .i64 (-1))/\Ou Pk (ct t1.a.es) t1.aO (d+1))\/(∃i,m=i+1/\X s 14=int i/\wJ Pk (ct t.a.es) (ct t1.a.es) t1.aO hx d (p.fr.count M) (p1.fr.count M) (i+1) (n.has k=R)))) (n:=O hx) ?_ ?_
 case' false.refine_1=>simp+decide-dsimp only[go_sem];refine⟨_,p,_,_,Z,Z,B2,apE,A2,U,.inr ⟨O hx-1,(rz cD).symm,Z,?_⟩⟩;rw[rz cD];exact J2
 case' true.refine_1=>simp+decide-dsimp only[go_sem];refine⟨_,p,_,_,Z,Z,B1,(Step.same aG.refl).trans gP (U:cC<=nxb),A1,U,.inr ⟨O hx-1,(rz cD).symm,Z,?_⟩⟩;rw[rz cD];exact J1
 all_goals
  rintro m s Q E ⟨t3,p3,old,nh,s0,s6,s7,s9,B3,qC,A3,l3,⟨rfl,Fc,J3⟩|⟨i,rfl,Fc,J3⟩⟩
 case' true.refine_2.inl=>simp+decide-dsimp only[go_sem,s6,s7,Fc];exact⟨t3,p3,old,nh,0,Z,B3.aW aG.refl U,qC,J3,A3⟩
 case' false.refine_2.inl=>simp+decide-dsimp only[go_sem,s6,s7,Fc];exact⟨t3,p3,old,nh,0,Z,B3.aW aG.refl U,qC,J3,A3⟩
 all_goals
  have H:i<O hx:=J3.le;have hi0:i<=O hx:=eC H;have⟨m,hm,hmc⟩:=J3.cur;replace hm:ct t3.a.es (at_ hx i).X=J ((at_ hx i).bo,m):=hm;have k3:=B3.tk.tr;have⟨e3,he3,e31,e32,e33,e34,e35,e36⟩:=nL B3.tk.ok hm;rw[qC.ab]at e36;rw[qC.tb,qC.ab]at k3;have DF:(0:Int)<=(i:Int):=ji i;have tk3:dC 8 m.cells=J m.cells:=rfl;refine asA Sc.eq_1 s0 s9 Fc DF H k3 @Hd.cells.eq_1 @jX ?_;refine bc (e36 _ _ .refl U) ?_;refine Y8 e34 tk3 ?_;refine ba (aax m) ?_;by_cases hf:4<O m.aJ
  case' neg=>simp+decide-dsimp only[go_sem,s0,s6,s7,s9,Fc,hf];exact⟨t3,p3,old,nh,0,Z,B3.aW aG.refl U,qC,J3.exit hm hf,A3⟩
  refine asA Sc.eq_1 s0 s9 Fc hf H (P0 hi0) @Hd.cells.eq_1 @jX ?_;have h5:O m.aJ=5:=by
   have⟨ke,lv',I',_⟩:=J3.bi;obtain q|q:=I'.small _ _ _ hm;.omega
   .exact q.2
  have qL:=J3.room hN hm h5;have hc3:=J3.cnt;generalize arI:E+Array.size _+Array.size _=nxd;have CL:E<=nxd:=U;have B4:BW t3 p3 Q nxd:=B3.aW aG.refl CL;cases i with
  |zero=>have⟨hRm,Sy⟩:=J3.top hm h5;have c:=ajP t3 p3 Q nxd B4 (at_ hx 0) m hm hRm h5 (qL.2 Z);rw[qC.tb,Hd.av,Hd.cells]at c;refine cm c λ_ h5' UM l5 ⟨t5,p5,x,y,f1,f2,f3,B5,KK,f4,f5,f6,f7⟩=>?_;refine PV s0 s6 s7 s9 Fc ?_;refine⟨0,PE _,t5,p5,old,nh,Z,Z,B5.aW aG.refl U,qC.trans ((Step.same aG.refl).trans KK CL) l3,A3.top hm hRm h5 f1 f2 f3 Z f7 f5 f6,U,.inl ⟨Z,?_⟩⟩;rw[f7,f4];exact⟨an',Sy x y f1 f2 f3⟩
  |succ i=>
   have⟨AV,hu0,hu,_⟩:=J3.old i U;have⟨g1,g2,g3,g4,g5,g6,g7⟩:=J3.split (Tf _) U hm h5 hu;have cf:O (hx.take (i+1))=i+1:=Es @ax
   have yl:(hx.take (i+1)).getD (O (hx.take (i+1))-1) default=at_ hx i:=by rw[cf];simp[List.getD]
   have c:=alP t3 p3 Q nxd B4 (at_ hx (i+1)) m hm g2 h5 (hx.take (i+1)) U U AV (yl▸hu) (yl▸g1) g3 g4 g5 g6 qL.1;rw[qC.tb,Hd.av,Hd.cells,yl]at c;refine cm c λ_ h5' UM l5 ⟨t5,p5,x,f1,B5,KK,f4,f5,f6,f7⟩=>?_;have wi:i+1<9223372036854775808:=U;refine PV s0 s6 s7 s9 Fc ?_;refine⟨i+1,U,t5,p5,old,nh,Z,Z,B5.aW aG.refl U,qC.trans ((Step.same aG.refl).trans KK CL) l3,A3.split hm g2 h5 f1 hu g1 g4 f7 f5 f6,U,.inr ⟨i,Z,Zk U,?_⟩⟩;have:=g7 x (p5.fr.count M) f1 f6;rw[f7,f4];exact this
def alv:=RB [(4,[MO z9 10,MO [11,12,13] 14,MO [] 15,RX])]
def arx(t p h Y)(zyQ:BW t p h Y)(hT:Ou Pk (ct t.a.es) t.aO d)(z:d<50000)(hA:Acc uz (ct t.a.es) t.size p C d)(k):
 UP 222 [.ptr t.tb 0,cg k] h Y λr Q E=>∃t' old nh,r= .dY [cg old,bW nh]/\BW t' p Q E/\Step Y t t' p p h Q/\Ou Pk (ct t'.a.es) t'.aO d/\Acc uz (ct t'.a.es) t'.size p C d:=by
 have⟨lo,lv,I,SN⟩:=hT;have dc:=zyQ.tk.lt;refine az.ac 2 alv func222 ?_;simp+decide-dsimp only[f222,go_sem];refine bc (Ri t _ _ zyQ.tk) ?_;refine Xf zyQ.tk.tr ?_;refine cm (aji t _ _ zyQ.tk I U k) λ_ W cC l1 ⟨⟨hx,e1,P,hL⟩,e2,e3⟩=>?_;rename_i Ma;subst e1;subst e2;subst e3;have cD:=P.ne;have⟨n,hn,pG,_,mn⟩:=P.node (O hx-1) U;replace mn:=mn U Z;have hR:=I.r _ _ _ hn;have w1:1<=O hx:=cD;have⟨e,V,ki,F,h3,h4,h7,h6⟩:=nL zyQ.tk.ok hn;refine YM alv.eq_1 zyQ.tk.tr w1 (U:O hx<9223372036854775808) (U:O hx-1<O hx) @Hd.cells.eq_1 @jX ?_;refine bc (h6 _ _ .refl U) ?_;have tk:dC 8 n.cells=J n.cells:=rfl;have pt:∀(a:u) (m:Nd),eG 1 (a::n.cells) m.cells=J (a::m.cells):=λ_ _=>rfl;have dte:¬(t.tb=e.bT):=λhq=>zyQ.tk.d3 e V hq.symm;refine Y8 h4 tk ?_;refine ba (aoL n hR mn k pG.2) ?_;generalize tU:cC+Array.size _=zT;have hz:cC<=zT:=U;have⟨t1,B1,gP,y3,y4,y5⟩:=(zyQ.aW aG.refl hz).mg V ki F (n.del k);replace gP:Step cC t t1 p p W _:=(Step.same aG.refl).trans gP hz;have J1:Ou Pk (ct t1.a.es) t.aO d:=⟨lo,lv,by rw[y3];exact I.del hn mn k,SN⟩;cases hh:n.has k with
 |false=>refine L6 h4 pt @Nd.av.eq_1 @AH ?_;exact⟨t1,n.old k,R,Z,B1.aW aG.refl U,gP,by rw[y4];exact J1,hA.del hn mn y3 (y5.trans (hA.aic hh))⟩
 |true=>refine RC h4 pt dte zyQ.tk.tr @Nd.av.eq_1 @AH ?_;have⟨B2,vD⟩:=B1.tree t1.aO (cO .i64 (t.size-1));rw[gP.tb,y4,B1.sp.pb.trans zyQ.sp.pb.symm,gP.ab]at B2 vD;exact⟨_,n.old k,M,Z,B2.aW aG.refl U,gP.trans vD hz,J1,hA.del hn mn y3 (hA.dec hh z)⟩
def anO(t:Bl)(h Y)(ok:t.ok h Y)(hT:Ou Pk (ct t.a.es) t.aO d)(k):
 UP 224 [.ptr t.tb 0,cg k,.g .nilFunc] h Y λr Q E=>(∃v nh again,r= .dY [cg v,bW nh,bW again])/\Q=h/\E=Y:=by
 have⟨lo,lv,I,SN⟩:=hT;refine az.pc 3 T0 func224 ?_;refine Xf f224.eq_1 ?_;refine Av (Ri t _ _ ok) ?_;refine cm (ajE t _ _ ok I k) λ_ W cC l1 ⟨⟨s,g,n,e1,G,K,A⟩,e2,e3⟩=>?_;rename_i Ma;subst e1;replace e2:=e2.symm;replace e3:=e3.symm;subst e2;subst e3;have hR:=I.r _ _ _ G;have aj9:=Rv n k (EB hR.small);rw[Nd.av,Nd.cells]at aj9;refine Y8 @Nd.av.eq_1 @Nd.cells.eq_1 ?_;refine ba aj9 ?_;cases hh:n.has k with
 |false=>refine QZ ?_;exact⟨(aG.refl.set (an _)).set (an _),_,.nD .cg .cP .cP,_,_,_,Z⟩
 |true=>
  have hp:place n.aJ k<O n.gZ:=by rw[(hR.lf K).1];exact(Nd.zA.1 hh).1
  refine Xf hp ?_;exact⟨(aG.refl.set (an _)).set (an _),_,.nD .cg .cP .cP,_,_,_,Z⟩
abbrev Pr:=aY×aY
def Nd.Co(n:Nd):List Pr:=n.aJ.zip n.gZ
inductive Ch(σ:AA):Nat->Nd->List Pr->Prop
 |last {n:_}:n.bd=R->Ch σ 0 n n.Co
 |more {n m:_} {j:_} {g hx:_}:n.bd=M->σ n.next.X=J (g,m)->g=n.next.bo->n.zxQ->m.ay=M->m.zxQ->Ch σ j m hx->Ch σ (j+1) n (n.Co++hx)
def vM:∀(aw:Nat) (l:List Nat),l.Nodup->(∀x∈l,x<aw)->O l<=aw
 |0,l,_,h=>by
  cases l with
  |nil=>exact an _
  |cons a l=>exact absurd (h a (jh ..)) (cp _)
 |aw+1,l,hn,h=>by
  have W:O (l.erase aw)<=aw:=vM aw _ (hn.erase aw) λx L=>by have:=(hn.mem_erase_iff).1 L;have:=h x this.2;omega
  have F:=List.length_erase (a:=aw) (l:=l);split at F<;>omega
def filter_lt{α:Type}{p q:α->Bool}:∀{l:List α},(∀x∈l,p x=M->q x=M)->(∃x∈l,q x=M/\p x=R)->O (l.filter p)<O (l.filter q)
 |[],_,⟨x,L,_⟩=>by cases L
 |a::l,h,⟨x,L,W,F⟩=>by
  have hle:∀{l:List α},(∀x∈l,p x=M->q x=M)->O (l.filter p)<=O (l.filter q):=by
   intro l
   induction l with
   |nil=>intro _;exact an _
   |cons b l ih=>
    intro h;have:=ih λx L=>h x (bP _ L);rw[lD,lD];have D:=h b (jh ..);cases hp:p b with
    |true=>rw[D hp];simpa using this
    |false=>cases q b<;>simp<;>omega
  rw[lD,lD];obtain rfl|L:=bJ.1 L
  .rw[W,F];have:=hle λy hy=>h y (bP _ hy);simp;omega
  .have:=filter_lt (λy hy=>h y (bP _ hy)) ⟨x,L,W,F⟩;have ha:=h a (jh ..);cases hp:p a with
   |true=>rw[ha hp];simpa using this
   |false=>cases q a<;>simp<;>omega
def uO{n:Nd}(hR:n.zxQ)(K:n.ay=M):O n.Co=O n.aJ:=by unfold Nd.Co;rw[List.length_zip,(hR.lf K).1,dZ]
def qS{n:Nd}(hR:n.zxQ)(K:n.ay=M):n.Co.map Prod.fst=n.aJ:=by unfold Nd.Co;rw[List.map_fst_zip];rw[(hR.lf K).1];exact an _
def vX{n:Nd}(hR:n.zxQ):n.aJ.Pairwise (· < ·):=by rw[iN];intro i j H hj EN;have:=hR.lt EN hj;simpa[List.getD,H,hj]using this
def zxQ.Zu{n:Nd}(hR:n.zxQ)(D:n.bd=M):∀k∈n.aJ,k<n.cQ:=by intro k hk;obtain⟨i,H,rfl⟩:=cN.1 hk;have:=gS.1 (hR.xP i H) D;simpa[List.getD,H]using this
def Hy{Pk σ aO lo lv iL}(I:BI Pk σ aO lo lv iL){s g n}(G:σ s=J (g,n)):∀k∈n.aJ,¬k<lo s:=by intro k hk;obtain⟨i,H,rfl⟩:=cN.1 hk;have:=(I.cw _ _ _ G i H).1;simpa[List.getD,H]using this
structure MT(Pk:aY->Prop)(cw:aY)(hx:List Pr):Prop where
 kj:(hx.map Prod.fst).Pairwise (· < ·)
 cw:∀k∈hx.map Prod.fst,¬k<cw
 pk:∀k∈hx.map Prod.fst,Pk k
def BI.chain{es:List (iB Nd)}{lo lv}(I:BI Pk (ct es) aO lo lv (λ_=>False)):∀(m s g:Nat) (n:Nd),ct es s=J (g,n)->n.ay=M->
 O (es.filter (λe=>decide (lo s<lo e.X)))<=m->∃j hx,j<=m/\Ch (ct es) j n hx/\O hx<=4*(j+1)/\MT Pk (lo s) hx:=by
 intro m
 induction m with
 |zero=>
  intro s g n G K hm;have hR:=I.r _ _ _ G;have h4:O n.aJ<=4:=by
   exact auh
  cases D:n.bd with
  |false=>exact⟨0,_,an _,.last D,by rw[uO hR K];omega,by rw[qS hR K];exact vX hR,by rw[qS hR K];exact Hy I G,by rw[qS hR K];exact I.aJ _ _ _ G K⟩
  |true=>have⟨q,W,F,h3⟩:=I.nxl G K D;have⟨e,V,e1,_⟩:=kz W;have:e∈es.filter (λe=>decide (lo s<lo e.X)):=cR.2 ⟨V,by rw[e1,h3];exact aN (I.oP _ _ _ G D)⟩;have:=nX this;omega
 |succ m ih=>
  intro s g n G K hm;have hR:=I.r _ _ _ G;have h4:O n.aJ<=4:=by
   exact auh
  cases D:n.bd with
  |false=>exact⟨0,_,aQ _,.last D,by rw[uO hR K];omega,by rw[qS hR K];exact vX hR,by rw[qS hR K];exact Hy I G,by rw[qS hR K];exact I.aJ _ _ _ G K⟩
  |true=>
   have⟨q,W,F,h3⟩:=I.nxl G K D;have⟨e,V,e1,_⟩:=kz W;have dc:=I.oP _ _ _ G D;have:=filter_lt (p:=λe=>decide (lo n.next.X<lo e.X)) (q:=λe=>decide (lo s<lo e.X)) (l:=es) (λx _ L=>by have L:=eN L;rw[h3]at L;exact aN (dT dc L)) ⟨e,V,by rw[e1,h3];exact aN dc,by rw[e1];exact aU bU⟩;have⟨j,hx,k1,k2,k3,k4⟩:=ih _ _ _ W F U;refine⟨j+1,_,U,.more D W Z hR F (I.r _ _ _ W) k2,by rw[aq,uO hR K];omega,?_,?_,?_⟩;.rw[dm,qS hR K,jr];refine⟨vX hR,k4.kj,λa ha b iQ=>?_⟩;have g1:=zxQ.Zu hR D a ha;have g2:=k4.cw b iQ;rw[h3]at g2;exact QB g1 g2
   .rw[dm,qS hR K];intro k hk;obtain hk|hk:=bN.1 hk
    .exact Hy I G k hk
    .have:=k4.cw k hk;rw[h3]at this;intro ti;exact this (dT ti dc)
   .rw[dm,qS hR K];intro k hk;obtain hk|hk:=bN.1 hk
    .exact I.aJ _ _ _ G K k hk
    .exact k4.pk k hk
def Ch.fun{σ}:∀{j j' n hx L'},Ch σ j n hx->Ch σ j' n L'->hx=L':=by
 intro j j' n hx L' h
 induction h generalizing j' L' with
 |last D=>
  intro Q;cases Q with
  |last _=>rfl
  |more iQ=>rw[D]at iQ;cases iQ
 |more D W F h3 h4 h5 h6 ih=>
  intro Q;cases Q with
  |last iQ=>rw[D]at iQ;cases iQ
  |more iQ g1 _ _ _ _ g2=>
   rw[W]at g1;injection g1 with g1;injection g1 with _ g1;subst g1
   rw[ih g2]
def BI.first{Pk σ aO lo lv iL}(I:BI Pk σ aO lo lv iL){s g n s' g' n'}(h:σ s=J (g,n))(Q:σ s'=J (g',n'))(l:n.ay=M)(l':n'.ay=M)(c:SF lo s n [])(c':SF lo s' n' []):s=s':=by
 by_cases cD:s=s';.exact cD
 have e:∀{x:aY},¬[]<x->x=[]:=by
  intro x L;cases x with
  |nil=>rfl
  |cons a x=>exact absurd bR L
 have W:=e c.1;have F:=e c'.1;obtain⟨b,q⟩|⟨b,q⟩:=I.uniq _ _ _ _ _ _ h Q (by rw[(I.ay _ _ _ h).1 l,(I.ay _ _ _ Q).1 l']) cD
 .rw[F]at q;exact absurd (gS.1 c.2 b) q
 .rw[W]at q;exact absurd (gS.1 c'.2 b) q
variable{hx:List Pr}
abbrev Pr.cells(x:Pr):List u:=[cg x.1,cg x.2]
abbrev yP(l:List Pr):u:=Lk Pr.cells l
def vK:∀x:Pr,O x.cells=2:=λ_=>rfl
def H7(x:Pr):∀y∈x.cells,tF Y y:=λy hy=>by
 obtain rfl|hy:=bJ.1 hy;.trivial
 .obtain rfl|hy:=bJ.1 hy;.trivial
  .cases hy
section
variable{h:aE}{s x:u}
def anE:iJ prog h #[68,68] s x=vp h 88 2 (eD h 2 x) s:=w7 afR TC akz ahp bS
def arf{ev ps}:gI prog ev 68 1 ps=ig 88 1 (gl (λi=>J (i*2,2)) ev ps [cg [],cg []]):=sX afR TC ahp bS Z
end
attribute[go_sem] anE arf
def Ch.len{σ j n hx}(h:Ch σ j n hx):O n.Co<=O hx:=by
 cases h with
 |last _=>exact an _
 |more _=>rw[aq];exact ew _ _
def ak5(t:Bl)(h Y)(ok:t.ok h Y){lo lv}(I:BI Pk (ct t.a.es) t.aO lo lv (λ_=>False)){j0 s0 g0 n0}(EO:ct t.a.es s0=J (g0,n0))(Aa:n0.ay=M)(hc0:SF lo s0 n0 [])(hC:Ch (ct t.a.es) j0 n0 hx)(hL:O hx<60000):
 UP 220 [.ptr t.tb 0] h Y (dG (yP hx) h Y):=by
 refine az.pc 1 T0 func220 ?_;refine Xf f220.eq_1 ?_;refine bc (Ri t _ _ ok) ?_;refine Xf ok.tr ?_;refine cm (ajE t _ _ ok I []) λ_ W cC l1 ⟨⟨s,g,n,e1,G,K,A⟩,e2,e3⟩=>?_;rename_i Ma;subst e1;replace e2:=e2.symm;replace e3:=e3.symm;subst e2;subst e3;have es:=I.first EO G Aa K hc0 A
 subst es;rw[EO]at G;injection G with G;injection G with e1 G
 subst e1;subst G;refine Y8 @Nd.av.eq_1 @Nd.cells.eq_1 ?_;refine cI _ _ (λm s Q E=>∃n L0 L1 v,Ch (ct t.a.es) m n L1/\n.zxQ/\n.ay=M/\hx=L0++L1/\X s 0= .ptr t.tb 0/\X s 4= .ptr Y 0/\X s 5=bW M/\X s 3=v/\Own Pr.cells 88 2 Q v L0/\In (Y+1) E v/\
  N Q Y=J (.cells n.cells 247)/\aG Y h Q/\Y+1<=E) (n:=j0) ?_ ?_
 .refine QZ ?_;exact⟨n0,[],hx,_,hC,I.r _ _ _ EO,Aa,Z,Z,.inl ⟨Z,Z⟩,λb D=>(by cases D),Z,(aG.refl.set (an _)).set (an _)⟩
 rintro m s Q E ⟨n,L0,L1,v,hCm,hR,K,rfl,s0,s4,s5,s3,ho,mO,hn,mA,tn⟩;have hvl:=(hR.lf K).1;have Yg:=hR.small;refine L6 s4 s5 hn @Nd.cells.eq_1 ?_;refine cI _ _ (λm s Q E=>∃i v,i<=O n.aJ/\m=O n.aJ-i/\X s 0= .ptr t.tb 0/\X s 4= .ptr Y 0/\X s 5=bW M/\X s 3=v/\X s 23=strs n.aJ/\X s 24=int (O n.aJ)/\X s 25=int i/\Own Pr.cells 88 2 Q v (L0++n.Co.take i)/\In (Y+1) E v/\
  N Q Y=J (.cells n.cells 247)/\aG Y h Q/\Y+1<=E) (n:=O n.aJ) ?_ ?_
 .refine QZ ?_;exact⟨0,v,aQ _,Z,s0,s4,s5,s3,Z,by simpa using ho,mO,hn,mA,U⟩
 rintro m1 s Q E ⟨i,v,H,rfl,s0,s4,s5,s3,s23,s24,G4,ho,mO,hn,mA,tn⟩;by_cases dc:i<O n.aJ
 .have rU:i<O n.gZ:=U;refine asC s4 s3 s23 s24 G4 hn dc rU @cL @cV @Nd.cells.eq_1 ?_;have hLl:O (L0++n.Co.take i)+1<65536:=by simp only[aq,ax]at hL⊢;have:=uO hR K;have:=hCm.len;omega
  refine lN (c:=Pr.cells) (ho.aW λq e'=>?_) vK (λ_=>rfl) hLl (n.aJ.getD i [],n.gZ.getD i []) ?_;.have:=mO q e';rw[Xg]
  intro v' F dR l2 p1 p2 p3;refine Ik s0 s4 s5 s3 s23 s24 G4 (U:i+1<9223372036854775808) ?_;have JR:∀b,b<Y+1->N F b=N Q b:=λb D=>by rw[p3 b U (λe'=>by have:=mO b e';omega),Xg]
  have vz:n.Co.take (i+1)=n.Co.take i++[(n.aJ.getD i [],n.gZ.getD i [])]:=by
   have uk:i<O n.Co:=(uO hR K)▸dc
   rw[bj uk];simp[Nd.Co,List.getD,dc,rU]
  refine⟨_,(U:O n.aJ-(i+1)<_),i+1,v',dc,Z,Z,Z,by rw[vz,<-aA];exact p1,λq e'=>?_,by rw[JR Y U];exact hn,λb D=>by rw[JR b U];exact mA b D,U⟩;obtain e2|e2:=p2 q e'
  .have:=mO q e2;omega
  .omega
 .have:i=O n.aJ:=U;subst this;rw[aH (by rw[uO hR K];exact an _)]at ho;refine asA s0 s4 s5 s3 s24 G4 hn dc @Nd.cells.eq_1 ?_;cases D:n.bd with
  |false=>
   cases hCm with
   |more iQ=>rw[D]at iQ;cases iQ
   |last _=>
   refine L6 s0 s4 s5 s3 ?_;exact .of mA (ho.fz (λb D=>by have:=mO b D;omega:In Y E v) H7)
  |true=>
   cases hCm with
   |last iQ=>rw[D]at iQ;cases iQ
   |more _ g1 g2 g3 g4 g5 g6=>
   rename_i m' j' g' L' iQ;subst g2;refine L6 s0 s4 hn @Nd.cells.eq_1 ?_;refine bc (aiQ t _ _ (ok.aW mA U) n.next m' g1) ?_;refine YM s0 s4 s5 s3 hn @Nd.av.eq_1 @Nd.cells.eq_1 ?_;refine⟨j',aZ _,m',L0++n.Co,L',v,g6,g5,g4,by rw[aA],Z,ho.aW λq e'=>?_,λq e'=>?_,Z,mA.set U,U⟩;.have:=mO q e';rw[Xg]
   .have:=mO q e';omega
variable{t:TypeId}
structure eA(Y:Nat)(own AY:Nat->Prop)(sl sl':Nat->Prop)(p p':bp)(h Q:aE):Prop where
 pb:p'.pb=p.pb
 gb:p'.gb=p.gb
 fb:p'.fb=p.fb
 fl:O p'.fr=O p.fr
 fr:∀s,p.fr.getD s R=R->p'.fr.getD s R=R\/sl s
 bl:∀b,AY b->own b\/Y<=b
 slt:∀s,sl' s->sl s\/p.fr.getD s R=M
 aW:∀b,b<Y->¬own b->b≠p.pb->b≠p.gb->b≠p.fb->N Q b=N h b
def Ar.own{α:Type}(a:Ar α)(b:Nat):Prop:=b=a.ab\/b=a.mb\/∃e∈a.es,e.bT=b
def Ar.sl{α:Type}(a:Ar α)(s:Nat):Prop:=∃e∈a.es,e.X=s
def Bl.own(t:Bl)(b:Nat):Prop:=b=t.tb\/t.a.own b
def Step.p{Y t t' p p' h Q}(s:Step Y t t' p p' h Q):eA Y t.own t'.own t.a.sl t'.a.sl p p' h Q:=
 ⟨s.pb,s.gb,s.fb,s.fl,λx L=> .inl (s.fr x L),λb D=>by
  obtain e1|e1|e1|⟨e,V,rfl⟩:=D;.exact .inl (.inl (e1.trans s.tb))
  .exact .inl (.inr (.inl (e1.trans s.ab)))
  .exact .inl (FF (.inl (e1.trans s.mb)))
  .obtain⟨f,hf,e1⟩|q:=s.bT e V;.exact .inl (Fe ⟨f,hf,e1⟩)
   .exact .inr q,λx L=>by
  obtain⟨e,V,rfl⟩:=L;obtain q|q:=s.slt e V;.exact .inl q
  .exact .inr q,λb D ho g1 g2 g3=>s.aW b D (λe=>ho (.inl e)) g1 g2 g3 (λe=>ho (FF (.inl e))) (λe V e'=>ho (Fe ⟨e,V,e'⟩))⟩
def ag9:WB P t B=J (.AT (.map [] 0)):=bQ Z
attribute[go_sem] ag9
def ara(h Y pb):UP 128 [.ptr pb 0] h Y λv Q E=>∃ab mb,Y<=ab/\Y<=mb/\¬(ab=mb)/\ab<E/\mb<E/\v= .ptr ab 0/\N Q ab=J (.cells [.ptr pb 0,.mp mb] 289)/\N Q mb=J (.map [] 0)/\aG Y h Q:=by refine az.ac 1 T0 func128 (Xf f128.eq_1 ?_);exact⟨Y+1,Y,U,U,U,U,U,Z,by rw[au Z],by rw[ak U,au Z],(aG.refl.set (an _)).set (bG _)⟩
def wZ:Nd:={ay:=M,aJ:=[],gZ:=[],bu:=[],cQ:=[],bd:=R,next:=⟨0,0⟩}
def RK{vs}(h:fv r [a,.agg [bW M,FB,FB,FB,cg [],bW R,int 0,u64 0]] vs):fv r [a,wZ.av] vs:=by
 exact atv
def BI.new(Pk:aY->Prop)(z:Hd):BI Pk (up (λ_=>B) z.X (z.bo,wZ)) z (λ_=>[]) (λ_=>0) (λ_=>False):=by
 have get:∀s g n,up (λ_=>B) z.X (z.bo,wZ) s=J (g,n)->s=z.X/\n=wZ:=by
  intro s g n h;by_cases G:s=z.X;.subst G;rw[dF]at h;injection h with h;injection h with _ h;exact⟨Z,h.symm⟩
  .rw[cT G]at h;cases h
 refine⟨λs g n h=>?_,λs g n h=>?_,λs g n h=>?_,λs g n h=>?_,λs g n h=>?_,λs g n h=>?_,λs g n h=>?_,λs g n s' g' n' h Q _ cD=>?_,⟨wZ,dF,Z,Z⟩,λs g n h=>?_,λs g n h=>?_⟩;.obtain⟨_,rfl⟩:=get s g n h;exact ⟨λi H=>absurd H (cp _),λi H=>absurd H (cp _),λ_=>rfl,λ_=>⟨Z,Z⟩,(λh=>by cases h),bS⟩
 .obtain⟨_,rfl⟩:=get s g n h;exact .inl bS
 .obtain⟨_,rfl⟩:=get s g n h;exact⟨λ_=>rfl,λ_=>rfl⟩
 .obtain⟨_,rfl⟩:=get s g n h;exact λi H=>absurd H (cp _)
 .exact avl
 .exact avl
 .obtain⟨_,rfl⟩:=get s g n h;exact⟨λ_=>rfl,λh=>by cases h⟩
 .have⟨e1,_⟩:=get s g n h;have⟨e2,_⟩:=get s' g' n' Q;exact absurd (e1.trans e2.symm) cD
 .obtain⟨_,rfl⟩:=get s g n h;exact λ_ k hk=>by cases hk
 .obtain⟨_,rfl⟩:=get s g n h;exact an _
def apH(p:bp)(h Y)(ug:p.ok h Y)(A:p.fr.count M≠0)(Pk:aY->Prop):
 UP 109 [.ptr p.pb 0] h Y λr Q E=>∃t p',r= .dY [.ptr t.tb 0,int 0]/\BW t p' Q E/\eA Y (λ_=>False) t.own (λ_=>False) t.a.sl p p' h Q/\p'.fr.count M+1=p.fr.count M/\Ou Pk (ct t.a.es) t.aO 0/\Acc uz (ct t.a.es) t.size p' (p.fr.count M) 0:=by
 have l1:=ug.tD;have l2:=ug.tJ;have l3:=ug.tM;refine az.ac 1 T0 func109 ?_;simp+decide-dsimp only[f109,go_sem];refine cm (ara h Y p.pb) λ_ W cC l1 ⟨ab,mb,g1,g2,g3,g4,g5,g6,g7,g8,g9⟩=>?_;subst g6;simp+decide-dsimp only[go_sem];have B0:BW ⟨cC,⟨ab,mb,0,p.pb,[]⟩,⟨0,0⟩,0⟩ p (aI W cC (.cells [.ptr p.pb 0,.ptr ab 0,int 0,u64 0,int 0,bW R] 249)) (cC+1):=by
  refine⟨⟨by rw[aj,au Z];rfl,⟨by show N _ ab=_;rw[Xg U];exact g7,by show N _ mb=_;rw[Xg U];exact g8,(λe V=>by cases V),nC,nC,(λe V=>by cases V),g3,by show ab<_;omega,by show mb<_;omega⟩,by show cC≠ab;omega,by show cC≠mb;omega,(λe V=>by cases V),aZ _⟩,
   ug.aW (λb D=>by rw[Xg U];exact g9 b D) U,⟨Z,⟨by show ab≠_;omega,by show ab≠_;omega,by show ab≠_;omega⟩,⟨by show mb≠_;omega,by show mb≠_;omega,by show mb≠_;omega⟩,(λe V=>by cases V),(λe V=>by cases V)⟩,⟨by show cC≠_;omega,by show cC≠_;omega,by show cC≠_;omega⟩⟩
 refine cm (az.Mm (args':=[.ptr ab 0,wZ.av]) (by rfl) (λr vs hv=>RK hv) (B0.vT A wZ)) λ_ F dR l2 ⟨t1,p1,x,f1,f2,B1,gP,f3,f4,f5,f6⟩=>?_;subst f2;have k1:N F cC=J (.cells [.ptr t1.a.pb 0,.ptr t1.a.ab 0,int t1.aO.X,u64 t1.aO.bo,.g (.int .i64 t1.size),bW R] 249):=by have:=B1.tk.tr;rw[gP.tb]at this;exact this
 refine Y8 k1 (U:¬(cC=dR)) ?_;have⟨B2,vD⟩:=B1.tree x t1.size;rw[gP.tb]at B2 vD;have qC:=(gP.trans vD U).p;have FI:∀b,Bl.own ⟨cC,⟨ab,mb,0,p.pb,[]⟩,⟨0,0⟩,0⟩ b->Y<=b:=by
  exact auT
 refine⟨_,p1,Z,B2.aW (aG.fo ((aG.refl.set (an _)).set (an _))) U,⟨qC.pb,qC.gb,qC.fb,qC.fl,λs G=>?_,λb D=>?_,λs G=>?_,λb D _ q1 q2 q3=>?_⟩,f6,⟨λ_=>[],λ_=>0,?_,an _⟩,by rw[show t1.size=0 from f5];exact(Acc.nil p).ins Z f3 Z f6⟩
 .obtain q|⟨e,V,_⟩:=qC.fr s G;.exact .inl q
  .cases V
 .obtain q|q:=qC.bl b D;.exact .inr (FI b q)
  .right;omega
 .obtain⟨e,V,_⟩|q:=qC.slt s G;.cases V
  .exact .inr q
 .rw[show N _ b=N _ b from aG.fo ((aG.refl.set (an dR)).set (an dR)) b U,qC.aW b U (λh=>by have:=FI b h;omega) q1 q2 q3,Xg];exact g9 b D
 .rw[f3];exact BI.new Pk x
variable{op:BinOp}{x y:Operand}
section
variable{P:Program}
def oD{s d}{k k':IntKind}{n}{ds:TypeDesc}(G:P.underlying s=J ds)(z:P.underlying d=J (.int k')):nA P h s d (.g (.int k n))=J (.g (.int k' (cO k' n))):=by
 show(match bM P (convert s d (.int k n))with|some r=>J (u.g r)|none=>B)=_;have:bM P (convert s d (.int k n))=J (.int k' (cO k' n)):=by unfold convert;simp only[cr,iI G,iI z];rw[je];rfl
 rw[this]
def Ao{k k':IntKind}{m n r}(ho:op= .shr\/op= .shl)(hn:0<=n)(hr:bM P (Op.shift op k m k' n)=J (.int k r)):
 dE P h op t x y (.g (.int k m)) (.g (.int k' n))=J (.g (.int k r)):=by
 have hg:bM P (do eqGuard op t x y (.int k m) (.int k' n);binOp op t (.int k m) (.int k' n))=J (.int k r):=by
  obtain rfl|rfl:=ho;.unfold eqGuard binOp;simp only[cr];exact hr
  .unfold eqGuard binOp;simp only[cr];exact hr
 have G:jm P h op t x y (.g (.int k m)) (.g (.int k' n))=J (.g (.int k r)):=by show lH P op t x y (.int k m) (.int k' n)=_;unfold lH;rw[hg]
 unfold dE;simp only[eX];split;.rcases ho with rfl|rfl<;>exact G
 .exact G
def GY{k':IntKind}{a:Nat}(hn:n<=64):dE P h .shr t x y (.g (.int .u64 a)) (.g (.int k' n))=J (.g (.int .u64 (a>>>n:Nat))):=by refine Ao (.inl Z) U ?_;unfold Op.shift;rw[ak U];show J (Value.int .u64 ((a:Int).fdiv (2^min (n:Int).toNat 64)))=_;rw[oZ,b9 hn,qu];have:((2:Int)^n)=((2^n:Nat):Int):=bR;rw[this,Int.fdiv_eq_ediv_of_nonneg _ (ji _)];rfl
def aj6{k':IntKind}{a:Nat}:dE P h .shr t x y (.g (.int .u64 a)) (.g (.int k' 1))=J (.g (.int .u64 (a / 2:Nat))):=(show a>>>1=a / 2 from Z)▸(GY (P:=P) (h:=h) (t:=t) (x:=x) (y:=y) (k':=k') (a:=a) (n:=1) U)
end
def adv{n}:nA prog h 3 286 (.g (.int .i64 n))=J (.g (.int .u64 (cO .u64 n))):=oD Fy U8
def abA{n}:nA prog h 286 3 (.g (.int .u64 n))=J (.g (.int .i64 (cO .i64 n))):=oD U8 Fy
def amW{n}:nA prog h 5 3 (.g (.int .u8 n))=J (.g (.int .i64 (cO .i64 n))):=oD Yj Fy
def alE{n}:nA prog h 3 5 (.g (.int .i64 n))=J (.g (.int .u8 (cO .u8 n))):=oD Fy Yj
def apo{a:Nat}(h:a<9223372036854775808):cO .u64 (a:Int)=(a:Int):=mL U U
def aqw{a:Nat}(h:a<9223372036854775808):cO .i64 (a:Int)=(a:Int):=wrap_i64 U U
def aiy{x:UInt8}:cO .i64 (x.toNat:Int)=(x.toNat:Int):=by have:=x.toNat_lt;exact wrap_i64 U U
def wu8{a:Nat}(h:a<256):cO .u8 (a:Int)=(a:Int):=wrap_u8 U U
attribute[go_sem] adv abA amW alE aj6 apo aqw aiy wu8
variable{hc:List u}{b':u}
def Fz.mC{b a'}(W:Fz h Y a a')(F:Fz h Y b b'):Fz h Y (.dY [a,b]) (.dY [a',b']):= .dY (.cons W (.cons F .nil))
def apt(x:UInt8):bz 374 [u8 x.toNat] (bW R):=by refine bz.ac 1 T0 func374 λh Y=>?_;refine Xf f374.eq_1 ?_;exact .of .refl .cP
def arb(x:UInt8):bz 371 [u8 x.toNat] (bW R):=by refine bz.ac 1 T0 func371 λh Y=>?_;refine Xf f371.eq_1 ?_;exact .of .refl .cP
def an1(x y:UInt8):bz 370 [u8 x.toNat,u8 y.toNat] (bW (decide (x<y))):=by refine bz.ac 2 T0 func370 λh Y=>?_;refine Xf f370.eq_1 ?_;refine AJ (apt x) ?_;exact .eE .refl .cP Z
def mD(l:List UInt8)(x:UInt8):Nat:=O (l.takeWhile (· <x))
def mX(l:List UInt8):Prop:=l.Pairwise (· < ·)
def Hq(l x):mD l x<=O l:=by unfold mD;exact(List.takeWhile_sublist _).length_le
def Ht:∀{l:List UInt8} {x:UInt8} {i:Nat},i<mD l x->l.getD i 0<x
 |[],x,i,h=>by simp[mD]at h
 |a::l,x,i,h=>by
  unfold mD at h;rw[mP]at h;split at h
  .rename_i ha;cases i with
   |zero=>simpa using ha
   |succ i=>exact Ht (l:=l) (by simpa[mD]using h)
  .simp at h
def Dr:∀{l:List UInt8} {x:UInt8} {i:Nat},mX l->mD l x<=i->i<O l->¬l.getD i 0<x
 |[],x,i,_,_,h=>by simp at h
 |a::l,x,i,G,h,H=>by
  unfold mD at h;rw[mP]at h;have⟨W,F⟩:=eP.1 G;split at h
  .cases i with
   |zero=>simp at h
   |succ i=>exact Dr (l:=l) F (by simpa[mD]using h) (Mf H)
  .rename_i ha;have ha:¬a<x:=Mf ha
   cases i with
   |zero=>simpa using ha
   |succ i=>
    have H:i<O l:=Mf H
    have:=W (l[i]) (bO H);intro dc;refine ha (UInt8.lt_trans this ?_);simpa[List.getD,H]using dc
def Own.sl{α:Type}{c:α->List u}{e sz h v l}(o:Own c e sz h v l)(K:0<O l):∃b cap hc,v= .sl b 0 (O l) cap/\N h b=J (.cells hc e)/\O l<=cap/\O hc=cap*sz/\hc.take (O l*sz)=l.flatMap c:=by
 obtain⟨_,e⟩|o:=o;.rw[e]at K;cases K
 .exact o
def CH{l:List UInt8}(h:hc.take (O l*1)=l.flatMap jU)(H:i<O l):iS (i*1) hc=J (u8 (l.getD i 0).toNat):=by
 have e:l.flatMap jU=l.map (λb=>u8 b.toNat):=by
  clear h H
  induction l with
  |nil=>rfl
  |cons a l ih=>rw[bE,ih];rfl
 exact auW
def hasB(l:List UInt8)(x:UInt8):Bool:=decide (mD l x<O l)&&decide (l.getD (mD l x) 0=x)
def ahN(l)(G:mX l)(K:O l<65536)(v)(x:UInt8)(h Y)(ho:Own jU 5 1 h v l)(mO:In 0 Y v):
 UP 366 [v,u8 x.toNat] h Y (dG (.dY [int (mD l x),bW (hasB l x)]) h Y):=by
 refine az.pc 2 T0 func366 ?_;simp+decide-dsimp only[f366,go_sem,ho.len];refine cI _ _ (λm s Q E=>∃i j,m=j-i/\i<=mD l x/\mD l x<=j/\j<=O l/\X s 0=v/\X s 1=u8 x.toNat/\X s 6=int (O l)/\X s 7=int i/\X s 8=int j/\Q=h/\Y<=E) (n:=O l) ?_ ?_;.refine QZ ?_;exact⟨0,O l,Z,aQ _,Hq _ _,an _,Z,Z⟩
 rintro m s Q E ⟨i,j,rfl,W,F,h3,s0,s1,s6,s7,s8,rfl,l1⟩;by_cases EN:i<j
 .have w3:(i+j) / 2<O l:=U;have⟨b,cap,hc,e1,e2,e3,e4,e5⟩:=ho.sl U;have g:=CH e5 w3;subst e1;refine asB s0 s1 s7 s8 EN (U:i+j<9223372036854775808) (U:(i+j) / 2<9223372036854775808) w3 e2 g ?_;refine ba (an1 _ _) ?_;by_cases L:l.getD ((i+j) / 2) 0<x
  .refine YM s0 s1 s6 s7 s8 L (U:(i+j) / 2+1<9223372036854775808) ?_;have:(i+j) / 2<mD l x:=by
    rcases bB ((i+j) / 2) (mD l x)with q|q;.exact q
    .exact absurd L (Dr G q w3)
   exact⟨_,(U:j-((i+j) / 2+1)<j-i),_,_,Z,U,F,h3,Z,Z,U⟩
  .refine RC s0 s1 s6 s7 s8 L ?_;have:¬(i+j) / 2<mD l x:=λq=>L (Ht q);exact⟨_,(U:(i+j) / 2-i<j-i),_,_,Z,W,U,U,Z,Z,U⟩
 .have H:i=mD l x:=U;have hj:j=mD l x:=U;subst H;subst hj;by_cases dc:mD l x<O l
  .have⟨b,cap,hc,e1,e2,e3,e4,e5⟩:=ho.sl U;have g:=CH e5 dc;subst e1;by_cases L:l.getD (mD l x) 0=x
   .have hx':((l.getD (mD l x) 0).toNat:Int)=(x.toNat:Int):=by rw[L]
    refine asB s0 s1 s6 s7 s8 EN dc e2 g hx' ?_;exact .eE .refl (.mC .cP .cP) (by unfold hasB;rw[aN dc,aN L];rfl)
   .have hx':¬(((l.getD (mD l x) 0).toNat:Int)=(x.toNat:Int)):=λe=>L (fH.1 U);refine asB s0 s1 s6 s7 s8 EN dc e2 g hx' ?_;refine AJ (arb _) ?_;exact .eE .refl (.mC .cP .cP) (by unfold hasB;rw[aU L];simp)
  .refine PV s6 s7 s8 EN dc ?_;exact .eE .refl (.mC .cP .cP) (by unfold hasB;rw[aU dc];rfl)
abbrev KL:=List (UInt8×Hd)
abbrev kf(l:KL):List UInt8:=l.map Prod.fst
abbrev kh(l:KL):List Hd:=l.map Prod.snd
def gC(l:KL):Prop:=mX (kf l)
def km(l:KL)(x:UInt8):Option Hd:=if hasB (kf l) x then J ((kh l).getD (mD (kf l) x) default)else B
def pz(l:KL)(x:UInt8)(y:Hd):KL:=if hasB (kf l) x then l.set (mD (kf l) x) (x,y)else l.take (mD (kf l) x)++(x,y)::l.drop (mD (kf l) x)
def qz(l:KL)(x:UInt8):KL:=if hasB (kf l) x then l.eraseIdx (mD (kf l) x)else l
def rG(l:KL)(b:Nat):Option (UInt8×Hd):=l.find? (λe=>decide (b<=e.1.toNat))
def Ca(o:Option Hd):u:= .dY [(o.getD default).av,bW o.isSome]
def nO{l x}:hasB l x=M↔mD l x<O l/\l.getD (mD l x) 0=x:=by unfold hasB;simp
def mX.lt{l}(G:mX l)(EN:i<j)(hj:j<O l):l.getD i 0<l.getD j 0:=by have:=(iN.1 G) i j U hj EN;simpa[List.getD,hj,Nat.lt_trans EN hj]using this
def It{l}(G:mX l)(H:i<O l):mD l (l.getD i 0)=i:=by
 obtain h|h|h:=cF (mD l (l.getD i 0)) i;.exact absurd (G.lt h H) (Dr G (an _) U)
 .exact h
 .exact absurd (Ht h) (X' _)
def yR{l}(G:mX l){x}:hasB l x=M↔x∈l:=by
 rw[nO];constructor;.rintro⟨W,F⟩;rw[<-F];simp[List.getD,W]
 .intro h;obtain⟨i,H,rfl⟩:=cN.1 h;have e:l[i]=l.getD i 0:=by simp[List.getD,H]
  rw[e,It G H];exact⟨H,Z⟩
def gC.uniq{l}(G:gC l){x y y'}(h:(x,y)∈l)(Q:(x,y')∈l):y=y':=by
 have⟨i,H,e⟩:=cN.1 h;have⟨j,hj,e'⟩:=cN.1 Q;have key:i=j:=by
  obtain q|q|q:=cF i j;.have:=mX.lt G q (Mf hj);simp[List.getD,H,hj,e,e']at this
  .exact q
  .have:=mX.lt G q (Mf H);simp[List.getD,H,hj,e,e']at this
 subst key;rw[e]at e';injection e'
def lV{l}(G:gC l){x y}:km l x=J y↔(x,y)∈l:=by
 unfold km;constructor
 .intro h;split at h
  .rename_i hh;have⟨W,F⟩:=nO.1 hh;injection h with h
   have K:mD (kf l) x<O l:=Mf W
   have e2:l[mD (kf l) x].2=y:=by rw[<-h];simp[List.getD,K]
   have:=bO K;rw[show l[mD (kf l) x]=(x,y)from Prod.ext (by simpa[List.getD,K]using F) e2]at this;exact this
  .cases h
 .intro h;rw[au ((yR G).2 (bg.2 ⟨_,h,Z⟩))];have⟨i,H,e⟩:=cN.1 h;have L:x=(kf l).getD i 0:=by simp[List.getD,H,e]
  rw[(L▸(It G (Mf H)):mD (kf l) x=i)];simp[List.getD,H,e]
def mU{l}(G:gC l){x}:km l x=B↔∀y,(x,y)∉l:=by
 constructor;.intro h y hy;rw[(lV G).2 hy]at h;cases h
 .intro h;cases hq:km l x with
  |none=>rfl
  |some y=>exact absurd ((lV G).1 hq) (h y)
def vF{l x}:(km l x).isSome=hasB (kf l) x:=by unfold km;split<;>simp_all
def ui{l}(G:gC l){x y}{e:UInt8×Hd}:e∈pz l x y↔e=(x,y)\/(e.1≠x/\e∈l):=by
 unfold pz;cases hh:hasB (kf l) x with
 |true=>
  have⟨W,F⟩:=nO.1 hh;have K:mD (kf l) x<O l:=Mf W
  have e1:l[mD (kf l) x].1=x:=by simpa[List.getD,K]using F
  rw[au Z];constructor
  .intro h;have⟨i,H,e2⟩:=cN.1 h;rw[List.getElem_set]at e2;split at e2;.exact .inl e2.symm
   .rename_i cD;have oM:i<O l:=Mf H
    refine .inr ⟨λL=>cD ?_,by rw[<-e2];exact bO oM⟩;have:(kf l).getD i 0=x:=by rw[<-L,<-e2];simp[List.getD,oM]
    rw[<-this];exact It G (Mf oM)
  .rintro(rfl|⟨cD,h⟩);.exact cN.2 ⟨_,by simpa using K,by rw[List.getElem_set_self]⟩
   .have⟨i,H,e2⟩:=cN.1 h;refine cN.2 ⟨i,by simpa using H,?_⟩;rw[List.getElem_set_ne,e2];intro hq;subst hq;rw[e2]at e1;exact cD e1
 |false=>
  have oO:∀hd,(x,hd)∉l:=λhd hz=>by have:=(yR G).2 (bg.2 ⟨_,hz,Z⟩);rw[hh]at this;cases this
  rw[ak bR];rw[bN,bJ];constructor
  .rintro(h|rfl|h);.have:=fe h;exact .inr ⟨λL=>oO e.2 (L▸this),this⟩
   .exact .inl Z
   .have:=ju h;exact .inr ⟨λL=>oO e.2 (L▸this),this⟩
  .rintro(rfl|⟨_,h⟩);.exact .inr (.inl Z)
   .rw[<-bA (mD (kf l) x) l,bN]at h;obtain h|h:=h
    .exact .inl h
    .exact FF h
def kL{l}(G:gC l)(x y):gC (pz l x y):=by
 unfold pz;cases hh:hasB (kf l) x with
 |true=>
  have⟨W,F⟩:=nO.1 hh;rw[au Z];have:kf (l.set (mD (kf l) x) (x,y))=kf l:=by
   rw[kf,qj];refine iX λi=>?_;rw[sU];split
   .rename_i e;subst e
    have:(kf l)[mD (kf l) x]'W=x:=by simpa[List.getD,(Mf W:mD (kf l) x<O l)]using F
    rw[aF W,this]
   .rfl
  unfold gC;rw[this];exact G
 |false=>
  rw[ak bR];have lS:mX (kf l):=G;unfold gC mX;have e:kf (l.take (mD (kf l) x)++(x,y)::l.drop (mD (kf l) x))=(kf l).take (mD (kf l) x)++x::(kf l).drop (mD (kf l) x):=by simp[uB,zV]
  rw[e,jr,eP];have ht:∀a∈(kf l).take (mD (kf l) x),a<x:=by intro a ha;obtain⟨i,H,rfl⟩:=cN.1 ha;rw[ax]at H;have:=Ht (l:=kf l) (x:=x) (i:=i) U;simpa[List.getD,show i<(O l) by simp at H;omega]using this
  have z:∀a∈(kf l).drop (mD (kf l) x),x<a:=by
   intro a ha;obtain⟨i,H,rfl⟩:=cN.1 ha;rw[aC]at H;have F:(kf l).getD (mD (kf l) x+i) 0≠x:=by
    intro h;have hm:x∈kf l:=by rw[<-h];simp only[List.getD,aF (show mD (kf l) x+i<O (kf l) from U)];exact bO _
    rw[(yR lS).2 hm]at hh;cases hh
   rw[NP];have e3:(kf l).getD (mD (kf l) x+i) 0=(kf l)[mD (kf l) x+i]' U:=by simp only[List.getD,aF (show mD (kf l) x+i<O (kf l) from U)];rfl
   rw[<-e3];obtain q|q:=UInt8.lt_or_lt_of_ne F
   .exact absurd q (Dr lS (i:=mD (kf l) x+i) (x:=x) U U)
   .exact q
  refine⟨lS.sublist (List.take_sublist _ _),⟨z,lS.sublist (List.drop_sublist _ _)⟩,λa ha b D=>?_⟩;obtain rfl|D:=bJ.1 D
  .exact ht a ha
  .exact UInt8.lt_trans (ht a ha) (z b D)
def vQ{l}(G:gC l){x}{e:UInt8×Hd}:e∈qz l x↔e.1≠x/\e∈l:=by
 unfold qz;cases hh:hasB (kf l) x with
 |false=>rw[ak bR];refine⟨λh=>⟨λL=>?_,h⟩,λh=>h.2⟩;rw[<-L,(yR G).2 (bg.2 ⟨_,h,Z⟩)]at hh;cases hh
 |true=>
  have⟨W,F⟩:=nO.1 hh;have K:mD (kf l) x<O l:=Mf W
  have e1:l[mD (kf l) x].1=x:=by simpa[List.getD,K]using F
  rw[au Z,List.mem_eraseIdx_iff_getElem];constructor
  .rintro⟨i,H,cD,rfl⟩;refine⟨λL=>cD ?_,bO H⟩;have:(kf l).getD i 0=x:=by rw[<-L];simp[List.getD,H]
   rw[<-this];exact(It G (Mf H)).symm
  .rintro⟨cD,h⟩;obtain⟨i,H,rfl⟩:=cN.1 h;exact⟨i,H,λhq=>cD (by subst hq;exact e1),Z⟩
def mG{l}(G:gC l)(x):gC (qz l x):=by
 unfold qz;split;.exact G.sublist ((List.eraseIdx_sublist _ _).map _)
 .exact G
def DC{l x y}:O (pz l x y)=O l+(if hasB (kf l) x then 0 else 1):=by
 unfold pz;cases hh:hasB (kf l) x with
 |true=>simp
 |false=>have:=Hq (kf l) x;simp at this⊢;omega
def DI{l x}:O (qz l x)=O l-(if hasB (kf l) x then 1 else 0):=by
 unfold qz;cases hh:hasB (kf l) x with
 |true=>have:=(nO.1 hh).1;rw[au Z,iC (Mf this)];simp
 |false=>simp
def A8{l}(G:gC l){x hd y}:km (pz l x y) hd=if hd=x then J y else km l hd:=by
 split;.rename_i e;subst e;exact(lV (kL G _ _)).2 ((ui G).2 (.inl Z))
 .rename_i cD;cases hq:km l hd with
  |some w=>exact(lV (kL G _ _)).2 ((ui G).2 (.inr ⟨cD,(lV G).1 hq⟩))
  |none=>
   refine(mU (kL G _ _)).2 λw hw=>?_;rcases(ui G).1 hw with e|⟨_,e⟩
   .injection e with e;exact cD e
   .exact(mU G).1 hq w e
def Gf{l}(G:gC l){x hd}:km (qz l x) hd=if hd=x then B else km l hd:=by
 split;.rename_i e;subst e;exact(mU (mG G _)).2 λw hw=>((vQ G).1 hw).1 Z
 .rename_i cD;cases hq:km l hd with
  |some w=>exact(lV (mG G _)).2 ((vQ G).2 ⟨cD,(lV G).1 hq⟩)
  |none=>exact(mU (mG G _)).2 λw hw=>(mU G).1 hq w ((vQ G).1 hw).2
def gC.len{l}(G:gC l):O l<=256:=by have:=vM 256 ((kf l).map UInt8.toNat) (by have h:(kf l).Pairwise (· < ·):=G;refine sI.2 (h.imp λ{a b} yl e=>?_);have yl:=dN.1 yl;omega) (λx L=>by obtain⟨y,_,rfl⟩:=bg.1 L;exact y.toNat_lt);simpa using this
structure Srt(h:aE)(Y sb:Nat)(l:KL)(hl hi:u):Prop where
 bT:N h sb=J (.cells [hl,hi] 303)
 k:Own jU 5 1 h hl (kf l)
 h:Own Hd.cells 245 2 h hi (kh l)
 kj:gC l
 ik:In 0 Y hl
 ih:In 0 Y hi
 lt:sb<Y
 d1:cu hl≠J sb
 d2:cu hi≠J sb
 d3:∀b,cu hl=J b->cu hi≠J b
def anB(l sb hl hi)(x:UInt8)(h Y)(o:Srt h Y sb l hl hi):
 UP 364 [.ptr sb 0,u8 x.toNat] h Y (dG (Ca (km l x)) h Y):=by
 have dc:=o.lt;have cf:=o.kj.len;refine az.pc 2 T0 func364 ?_;have d1:¬(sb=Y):=U;refine J7 f364.eq_1 o.bT d1 ?_;refine bc (ahN (kf l) o.kj gr hl x _ _ (o.k.aW λb D=>by have:=o.ik b D;rw[Xg]) (o.ik.le (an _) (U:Y<=Y+1))) ?_;cases hh:hasB (kf l) x with
 |false=>
  refine QZ ?_;refine .eE ?_ (.mC (.agg (.cons .cP (.cons .cP .nil))) .cP) (by unfold Ca km;rw[hh];rfl)
  exact ata
 |true=>
  have⟨W,F⟩:=nO.1 hh;have K:mD (kf l) x<O (kh l):=Mf W
  obtain⟨b,hc,e1,e2,e3,e4⟩:=o.h.idx iE oE K;have D:=o.ih b e1;refine YM o.bT d1 (U:¬(b=Y)) e2 e3 e4 @Hd.cells.eq_1 ?_;refine .eE ?_ (.mC (.agg (.cons .cP (.cons .cP .nil))) .cP) (by unfold Ca km;rw[hh];rfl)
  exact ata
def aeO:=RB [(5,[MO z7 8,MO [] 9,MO [] 10,RX]),(8,[MO [0] 1,MO [] 2,MO [] 3,RX])]
def K7(o:Option (UInt8×Hd)):u:=match o with
 |some e=> .dY [u8 e.1.toNat,e.2.av,bW M]
 |none=> .dY [u8 0,(Hd.mk 0 0).av,bW R]
def yB{l:KL}(H:i<O l)(hn:∀j,j<i->(hj:j<O l)->¬b<=l[j].1.toNat)(D:b<=l[i].1.toNat):rG l b=J l[i]:=by unfold rG;rw[List.find?_eq_some_iff_getElem];exact⟨aN D,i,H,Z,λj hj=>by simpa using hn j hj U⟩
def yE{l:KL}(hn:∀j,(hj:j<O l)->¬b<=l[j].1.toNat):rG l b=B:=by unfold rG;rw[xS];intro e V;obtain⟨j,hj,rfl⟩:=cN.1 V;simpa using hn j hj
def anz(l:KL)(sb:Nat)(hl hi:u)(b:Nat)(D:b<1000)(h:aE)(Y:Nat)(o:Srt h Y sb l hl hi):
 az prog 363 [.ptr sb 0,int b] h Y (dG (K7 (rG l b)) h Y):=by
 have dc:=o.lt;have cf:=o.kj.len;refine az.pc 2 aeO func363 ?_;have d1:¬(sb=Y):=U;simp+decide-dsimp only[f363,go_sem,o.bT,d1,o.k.len];refine cI _ _ (λm s Q E=>∃i,i<=O l/\m=O l-i/\(∀j,j<i->(hj:j<O l)->¬b<=l[j].1.toNat)/\X s 0= .ptr sb 0/\X s 1=int b/\X s 5= .ptr Y 0/\X s 13=hl/\X s 14=int (O l)/\X s 15=int i/\Q=aI h Y (.cells [int 0,u64 0] 245)/\E=Y+1) (n:=O l) ?_ ?_;.refine QZ ?_;exact⟨0,aQ _,Z,λj hj=>absurd hj (cp _),bR⟩
 rintro m s Q E ⟨i,H,rfl,hn,s0,s1,s5,D9,Fc,SJ,rfl,rfl⟩;by_cases uk:i<O l
 .have hkf:i<O (kf l):=Mf uk
  have hkh:i<O (kh l):=Mf uk
  obtain⟨kb,cap,hc,e1,e2,e3,e4,e5⟩:=o.k.sl gr;have g:=CH e5 hkf;have hkb:=o.ik kb (by rw[e1];rfl);obtain⟨Su,zyQ,q1,q2,q3,q4⟩:=o.h.idx iE oE hkh;have hhb:=o.ih Su q1;have d2:¬(kb=Y):=U;have d3:¬(Su=Y):=U;have ek:(kf l).getD i 0=l[i].1:=by simp[List.getD,uk]
  have eh:(kh l).getD i default=l[i].2:=by simp[List.getD,uk]
  have ekl:O (kf l)=O l:=bR;rw[ek]at g;rw[eh]at q4;rw[ekl]at e1;rw[e1]at D9;by_cases DF:(b:Int)<=(l[i].1.toNat:Int)
  .simp+decide-dsimp only[go_sem,aeO,s0,s1,s5,D9,Fc,SJ,uk,e2,g,d1,d2,d3,DF,o.bT,q2,q3,q4,Hd.cells,reduceAdd];refine .eE ?_ (.nD .cP (.agg (.cons .cP (.cons .cP .nil))) .cP) (by rw[yB uk hn U];rfl)
   exact ata
  .refine asD s0 s1 s5 D9 Fc SJ uk e2 g d2 DF (U:i+1<9223372036854775808) ?_;refine⟨_,(U:O l-(i+1)<_),i+1,uk,Z,λj hj KX=>?_,?_⟩
   .obtain q|q:=bB j i;.exact hn j q KX
    .have:j=i:=U;subst this;omega
   .simp[e1]
 .have:i=O l:=U;subst this;simp+decide-dsimp only[go_sem,aeO,s5,Fc,SJ,dz,reduceAdd];refine .eE ?_ (.nD .cP (.agg (.cons .cP (.cons .cP .nil))) .cP) (by rw[yE λj hj=>hn j hj hj];rfl)
  exact ata
variable{sz:Nat}
def ae8:=RB [(3,[MO z6 7,RX]),(4,[([0,1,2,3,4,5,6,7,8,10,11,12,13,14,15,16],[5,8,13,15],J 9),([],[13,15,16],J 17),MO [18,19] 20,MO [21,22] 23,RX])]
def Own.apL{c:α->List u}{e v l}(o:Own c e sz h v l)(hz:∀x,O (c x)=sz)(H:i<O l)(D:cu v=J b)(y:α):
 ∃hc zyQ,N h b=J (.cells hc e)/\eG (i*sz) hc (c y)=J zyQ/\Own c e sz (aI h b (.cells zyQ e)) v (l.set i y):=by
 obtain⟨_,e1⟩|⟨b',cap,hc,rfl,hA,W,F,h3⟩:=o;.rw[e1]at H;cases H
 injection D with D;subst D
 have h5:=aM sz W;have h4:=aM sz (show i+1<=O l from H);rw[bC,dB]at h4;refine⟨hc,_,hA,cG _ _ _ (Es hz),.inr ⟨b',cap,_,by rw[fG],iA,by rw[fG];exact W,?_,?_⟩⟩;.simp only[aq,ax,aC,hz];omega
 .have hf:(l.set i y).flatMap c=(l.take i).flatMap c++c y++(l.drop (i+1)).flatMap c:=by rw[gG,au H,bL,bE,aA]
  have e1:(l.take i).flatMap c=hc.take (i*sz):=by rw[<-fY hz,<-h3,bI,b9 U]
  have e2:(l.drop (i+1)).flatMap c=(hc.drop (i*sz+sz)).take (O l*sz-(i*sz+sz)):=by rw[<-fA hz,<-h3,gz,bC,dB]
  rw[fG,hf,e1,e2,hz,Bx,aH (by simp only[aq,ax,hz];omega)]
  congr 1
  congr 1
  simp only[aq,ax,hz];omega
def agB{l:KL}{p x y}:kf (l.take p++(x,y)::l.drop p)=(kf l).take p++x::(kf l).drop p:=by simp[uB,zV]
def afv{l:KL}{p x y}:kh (l.take p++(x,y)::l.drop p)=(kh l).take p++y::(kh l).drop p:=by simp[uB,zV]
def PG(Y sb:Nat)(hl hi:u)(h Q:aE):Prop:=∀b,b<Y->b≠sb->cu hl≠J b->cu hi≠J b->N Q b=N h b
def aoO(l sb hl hi)(x:UInt8)(y:Hd)(h Y)(o:Srt h Y sb l hl hi):
 UP 365 [.ptr sb 0,u8 x.toNat,y.av] h Y λv Q E=>∃K' H',v= .dY []/\Srt Q E sb (pz l x y) K' H'/\PG Y sb hl hi Q h/\(∀b,cu K'=J b\/cu H'=J b->cu hl=J b\/cu hi=J b\/Y<=b):=by
 have dc:=o.lt;have cf:=o.kj.len;refine az.ac 3 ae8 func365 ?_;have d1:¬(sb=Y):=U;simp+decide-dsimp only[f365,go_sem,o.bT,d1,Hd.av,Hd.cells];refine bc (ahN (kf l) o.kj gr hl x _ _ (o.k.aW λb D=>by have:=o.ik b D;rw[Xg]) (o.ik.le (an _) (U:Y<=Y+1))) ?_;cases hh:hasB (kf l) x with
 |true=>
  have⟨W,F⟩:=nO.1 hh;have K:mD (kf l) x<O (kh l):=Mf W
  obtain⟨b,hc,e1,e2,e3,e4⟩:=o.h.idx iE oE K;have D:=o.ih b e1;have d2:¬(b=Y):=U;have d3:¬(sb=b):=λe=>o.d2 (e▸e1);have⟨A',zyQ,g1,g2,g3⟩:=(o.h.aW (Q:=aI h Y (.cells y.cells 245)) λb D=>by have:=o.ih b D;rw[Xg]).apL iE K e1 y;rw[aj,ak d2,e2]at g1;injection g1 with g1;injection g1 with g1;subst g1;rw[Hd.cells]at g2;refine YM ae8.eq_1 o.bT d1 d2 e2 e3 g2 ?_;have ek:kf (pz l x y)=kf l:=by
   unfold pz;rw[au hh,kf,qj];refine iX λi=>?_
   rw[sU];split
   .rename_i e;subst e;have mJ:mD (kf l) x<O l:=Mf W
    have:(kf l)[mD (kf l) x]'W=x:=by simpa[List.getD,mJ]using F
    rw[aF W,this]
   .rfl
  have eh:kh (pz l x y)=(kh l).set (mD (kf l) x) y:=by unfold pz;rw[au hh,kh,qj]
  refine⟨hl,hi,⟨?_,?_,?_,kL o.kj x y,o.ik.le (an _) U,o.ih.le (an _) U,U,o.d1,o.d2,o.d3⟩,λq hq q1 q2 q3=>?_,λq hq=>?_⟩;.rw[aj,ak d3,aj,ak d1];exact o.bT
  .rw[ek];refine o.k.aW λq hq=>?_;have:=o.ik q hq;have:=o.d3 q hq;rw[aj,ak (λe=>this (by rw[e];exact e1)),Xg]
  .rw[eh];exact g3
  .rw[aj,ak (λe=>q3 (by rw[e];exact e1)),Xg]
  .obtain hq|hq:=hq;.exact .inl hq
   .exact .inr (.inl hq)
 |false=>
  have hp:=Hq (kf l) x;have d4:¬(sb=Y+1+8):=U;have d5:¬(sb=Y+1+16):=U;simp+decide-dsimp only[go_sem,ae8,o.bT,d1,d4,d5,reduceAdd];generalize tU:Y+1+Array.size _=FN;have hna:Y+1+23<=FN:=by rw[<-tU];show Y+1+23<=Y+1+24;omega
  have same:aG Y h (aI (aI (aI h Y (.cells [int y.X,u64 y.bo] 245)) (Y+1+8) (.cells [u8 x.toNat] 5)) (Y+1+16) (.cells [int y.X,u64 y.bo] 245)):=by repeat' first|exact aG.refl|apply aG.fo|(apply aG.set;rotate_left;omega)
  have ik:=o.ik;have ih:=o.ih;refine cm (aow (kf l) gr hl _ hp x (Y+1+8) _ _ (o.k.aW λq hq=>same q (ik q hq).2) (ik.le (an _) U) U (λe=>by have:=ik _ e;omega) (by rw[Xg,Sr];rfl)) λK' F dR l2 ⟨f1,f2,f3⟩=>?_;have k1:N F sb=J (.cells [hl,hi] 303):=by rw[f1 sb U o.d1,same sb dc];exact o.bT
  have k2:N F Y=J (.cells [int y.X,u64 y.bo] 245):=by rw[f1 Y U (λe=>by have:=ik _ e;omega),Xg,Xg,Sr]
  have k3:N F (Y+1+16)=J (.cells [int y.X,u64 y.bo] 245):=by rw[f1 (Y+1+16) U (λe=>by have:=ik _ e;omega),Sr]
  refine J7 k1 k2 k3 ?_;have Jf:mD (kf l) x<=O (kh l):=Mf hp
  refine cm (ajq (kh l) gr hi _ Jf y (Y+1+16) _ _ (o.h.aW λq hq=>?_) (ih.le (an _) U) U (λe=>by have:=ih _ e;omega) k3) λH' h3 nx3 l3 ⟨g1,g2,g3⟩=>?_;.rw[f1 q (EB (ih q hq)) (λe=>o.d3 q e hq),same q (ih q hq).2]
  have k4:=(g1 sb U o.d2).trans k1
  refine PV k4 f3.cells.1 f3.cells.2 g3.cells.1 g3.cells.2 ?_;have ek:kf (pz l x y)=(kf l).take (mD (kf l) x)++x::(kf l).drop (mD (kf l) x):=by unfold pz;rw[ak (by rw[hh];simp),agB]
  have eh:kh (pz l x y)=(kh l).take (mD (kf l) x)++y::(kh l).drop (mD (kf l) x):=by unfold pz;rw[ak (by rw[hh];simp),afv]
  have bK:∀q,cu K'=J q->(cu hl=J q/\q<Y\/FN<=q/\q<dR):=λq e=>by
   obtain e1|e1:=f2 q e;.exact .inl ⟨e1,(ik q e1).2⟩
   .exact .inr e1
  have bH:∀q,cu H'=J q->(cu hi=J q/\q<Y\/dR<=q/\q<nx3):=λq e=>by
   obtain e1|e1:=g2 q e;.exact .inl ⟨e1,(ih q e1).2⟩
   .exact .inr e1
  have nK:∀q,cu K'=J q->q≠sb:=λq e e'=>by
   subst e';obtain⟨e1,_⟩|e1:=bK q e
   .exact o.d1 e1
   .omega
  have nH:∀q,cu H'=J q->q≠sb:=λq e e'=>by
   subst e';obtain⟨e1,_⟩|e1:=bH q e
   .exact o.d2 e1
   .omega
  refine⟨K',H',⟨iA,?_,?_,kL o.kj x y,λq e=>?_,λq e=>?_,U,λe=>nK _ e Z,λe=>nH _ e Z,λq e e'=>?_⟩,λq hq q1 q2 q3=>?_,λq hq=>?_⟩
  .rw[ek];refine f3.aW λq e=>?_;have:=nK q e;rw[Xg this,Xg this];obtain⟨e1,e2⟩|e1:=bK q e
   .exact g1 q U (o.d3 q e1)
   .exact g1 q U (λe'=>by have:=ih q e';omega)
  .rw[eh];refine g3.aW λq e=>?_;have:=nH q e;rw[Xg this,Xg this]
  .have:=bK q e;omega
  .have:=bH q e;omega
  .rcases bK q e with⟨e1,e2⟩|e1<;>obtain⟨e3,e4⟩|e3:=bH q e';.exact o.d3 q e1 e3
   .omega
   .omega
   .omega
  .rw[Xg q1,Xg q1,g1 q U q3,f1 q U q2,same q hq]
  .obtain e|e:=hq
   .obtain⟨e1,_⟩|e1:=bK q e;.exact .inl e1
    .exact FF U
   .obtain⟨e1,_⟩|e1:=bH q e;.exact .inr (.inl e1)
    .exact FF U
def amL:=RB [(2,[MO [0,1,2,3,4,5,6,7,8,10,11,12,13,14,15,16] 9,([],[13],J 17),MO [18,19] 20,MO [21,22] 23,RX])]
def xj{α β:Type}{f:α->β}:∀{l:List α} {p:Nat},(l.eraseIdx p).map f=(l.map f).eraseIdx p
 |[],_=>rfl
 |_::_,0=>rfl
 |a::l,p+1=>by rw[List.eraseIdx_cons_succ,cB,cB,List.eraseIdx_cons_succ,xj]
def VQ{l:KL}{p}:kf (l.eraseIdx p)=(kf l).eraseIdx p:=xj
def UL{l:KL}{p}:kh (l.eraseIdx p)=(kh l).eraseIdx p:=xj
def aq1(l sb hl hi)(x:UInt8)(h Y)(o:Srt h Y sb l hl hi):
 UP 362 [.ptr sb 0,u8 x.toNat] h Y λv Q E=>∃K' H',v= .dY []/\Srt Q E sb (qz l x) K' H'/\PG Y sb hl hi Q h/\cu K'=cu hl/\cu H'=cu hi:=by
 have dc:=o.lt;have cf:=o.kj.len;have ik:=o.ik;have ih:=o.ih;refine az.ac 2 amL func362 ?_;simp+decide-dsimp only[f362,go_sem,o.bT];refine bc (ahN (kf l) o.kj gr hl x _ _ o.k o.ik) ?_;cases hh:hasB (kf l) x with
 |false=>refine QZ ?_;exact⟨hl,hi,by rw[show qz l x=l by unfold qz;rw[hh];rfl];exact o,λq _ _ _ _=>rfl,Z,Z⟩
 |true=>
  have⟨W,F⟩:=nO.1 hh;have K:mD (kf l) x<O (kh l):=Mf W
  have w1:mD (kf l) x+1<9223372036854775808:=by simp at K;omega
  refine J7 amL.eq_1 o.bT w1 ?_;generalize tU:Y+Array.size _=FN;have hna:Y<=FN:=U;refine cm (aqx (kf l) gr hl _ W h FN o.k (ik.le (an _) hna)) λK' qK dR l2 ⟨f1,f2,f3⟩=>?_;have k1:=(f1 sb U o.d1).trans o.bT
  refine Xf k1 ?_;refine cm (aqt (kh l) gr hi _ K qK dR (o.h.aW λq e=>f1 q (EB (ih q e)) (λe'=>o.d3 q e' e)) (ih.le (an _) U)) λH' h3 nx3 l3 ⟨g1,g2,g3⟩=>?_;have k4:=(g1 sb U o.d2).trans k1
  refine PV k4 f3.cells.1 f3.cells.2 g3.cells.1 g3.cells.2 ?_;have e0:qz l x=l.eraseIdx (mD (kf l) x):=by unfold qz;rw[au hh]
  have d1:=o.d1;have d2:=o.d2;refine⟨K',H',⟨iA,?_,?_,mG o.kj x,λq e=>?_,λq e=>?_,U,by rw[f2];exact o.d1,by rw[g2];exact o.d2,λq e=>by rw[g2];rw[f2]at e;exact o.d3 q e⟩,λq hq q1 q2 q3=>?_,f2,g2⟩;.rw[e0,VQ];refine f3.aW λq e=>?_;rw[f2]at e;have:q≠sb:=λe'=>d1 (e'▸e);rw[Xg this,Xg this,g1 q (EB (ik q e)) (o.d3 q e)]
  .rw[e0,UL];refine g3.aW λq e=>?_;rw[g2]at e;have:q≠sb:=λe'=>d2 (e'▸e);rw[Xg this,Xg this]
  .rw[f2]at e;have:=ik q e;omega
  .rw[g2]at e;have:=ih q e;omega
  .rw[Xg q1,Xg q1,g1 q U q3,f1 q U q2]
variable{zyQ:List u}{l:List Nat}
def ajN:List Value:=List.replicate 256 (.int .u8 0)++(List.replicate 48 [Value.int .i64 0,.int .u64 0]).flatten++List.replicate 48 (.bool R)
def aiO:List Value:=(List.replicate 256 [Value.int .i64 0,.int .u64 0]).flatten++List.replicate 256 (.bool R)
def anm:dS prog 438=J ajN:=aK
def akw:dS prog 442=J aiO:=aK
def amR:fieldsOf prog 438=J [(0,256),(256,96),(352,48)]:=aK
def aiS:fieldsOf prog 442=J [(0,512),(512,256)]:=aK
def amh:xD prog 438=M:=aK
def ami:xD prog 442=M:=aK
def aaF:aR prog 438 0=J 0:=aK
def ac8:aR prog 438 1=J 256:=aK
def acd:aR prog 438 2=J 352:=aK
def YV:aR prog 442 0=J 0:=aK
def adA:aR prog 442 1=J 512:=aK
def alS:prog.underlying 434=J (.array 256 5):=aK
def ait:prog.underlying 435=J (.array 48 245):=aK
def alX:prog.underlying 436=J (.array 48 4):=aK
def ak6:prog.underlying 439=J (.array 256 245):=aK
def alk:prog.underlying 440=J (.array 256 4):=aK
def P3{e}{sz:TypeId->Option Nat}{off:Nat}(hk:k<n):qa (J (.array n e)) sz (.ptr b off) (u8 k)=(sz e).map λsize=> .val (.ptr b (off+k*size)):=by simp only[qa,mT,aT,rB hk,JO]
def MY{a:Nat}(h:1<=a)(Q:a<256):cO .u8 ((a:Int)-1)=((a-1:Nat):Int):=by rw[wrap_u8]<;>omega
attribute[go_sem] anm akw amR aiS amh ami aaF ac8 acd YV adA alS ait alX ak6 alk P3 MY
def amG(fr:List Bool)(fb off c:Nat)(hc h Y e)(hf:N h fb=J (.cells hc e))(K:O fr<65536)(w)(hA:∀i,i<O fr->iS (off+i*1) hc=J (bW (fr.getD i (!w))))(L:∃i,i<O fr/\fr.getD i (!w)=w):
 UP 169 [.sl fb off (O fr) c,bW w] h Y λv Q E=>∃i,i<O fr/\fr.getD i (!w)=w/\dG (int i) h Y v Q E:=by
 have⟨j,hj,hjt⟩:=L;refine az.ac 2 T0 func169 ?_;refine Xf f169.eq_1 ?_;refine cI _ _ (λm s Q E=>∃i,i<=j/\m=j-i/\X s 0= .sl fb off (O fr) c/\X s 1=bW w/\X s 7=int (O fr)/\X s 8=int i/\Q=h/\E=Y) (n:=j) ?_ ?_;.refine QZ ?_;exact⟨0,aQ _,bR⟩
 rintro m s Q E ⟨i,H,rfl,s0,s1,s7,s8,rfl,rfl⟩;have uk:i<O fr:=U;have hn:=hA i uk;exact atp
abbrev X6(l:List Nat):List u:=l.map λn:Nat=>(u8 (n:Int))
abbrev AP(l:List Bool):List u:=l.map bW
def Rq{v}(h:hc[i]?=J v):iS i (hc++zyQ)=J v:=by rw[k6,bX (dD.1 h).1];exact h
def agF(h:i<O l):(X6 l)[i]?=J (u8 (l.getD i 0)):=by simp[List.getD,h]
def O'{l:List Bool}(h:i<O l)(d):(AP l)[i]?=J (bW (l.getD i d)):=by simp[List.getD,h]
def JS{v}(h:i<O hc):eG i (hc++zyQ) [v]=J (hc.set i v++zyQ):=by
 rw[cG _ _ _ gr]
 congr 1
 rw[aD U,gG,au h,dM,cx U];simp
def JX{v}(h:i<O zyQ):eG (O hc+i) (hc++zyQ) [v]=J (hc++zyQ.set i v):=by
 rw[cG _ _ _ gr]
 congr 1
 rw[Bx,aH U,gG,au h,dM,jo,aX U,ij,show O hc+i+1-(O hc)=i+1 from U];simp
def aaI:(X6 l).set i (u8 n)=X6 (l.set i n):=by rw[X6,X6,qj]
def JK{l b}:(AP l).set i (bW b)=AP (l.set i b):=by rw[AP,AP,qj]
def SU{l:List Hd}(h:i<O l):(dV (O hc+i*2) (hc++(l.flatMap Hd.cells++zyQ))).bind (dC 2)=J (l.getD i default).cells:=by
 have K:O (l.flatMap Hd.cells)=O l*2:=cj iE l;rw[eY _ _ (by simp[K];omega),aT,jo,aX U,cz,ij,cx U,fA iE];have F:=Dg iE h;have h3:O ((l.drop i).flatMap Hd.cells)=(O l-i)*2:=by rw[cj iE,aC]
 rw[bZ _ _ U]at F;rw[bZ _ _ (by simp only[aq];omega),aD U];exact F
def Pp{l:List Hd}{y:Hd}(h:i<O l):eG (O hc+i*2) (hc++(l.flatMap Hd.cells++zyQ)) y.cells=J (hc++((l.set i y).flatMap Hd.cells++zyQ)):=by
 have K:O (l.flatMap Hd.cells)=O l*2:=cj iE l;rw[cG _ _ _ (by rw[iE];simp[K];omega)]
 congr 1
 have hf:(l.set i y).flatMap Hd.cells=(l.flatMap Hd.cells).take (i*2)++y.cells++(l.flatMap Hd.cells).drop (i*2+2):=by rw[gG,au h,bL,bE,fY iE,show i*2+2=(i+1)*2 from U,fA iE,aA]
 rw[hf,iE,Bx,aH U,ij,aD U,jo,aX U,cz,show O hc+i*2+2-(O hc)=i*2+2 from U,cx U];simp
end
end br
end Go.Proofs.YtonnifoeokagjaaGreat
