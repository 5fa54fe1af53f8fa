/- The theorem quiet_holds of OrdersQuiet: part 12 of its proof; no conditions. -/
import Derived.Test.YtonnifoeokagjaaGreatF11
namespace Go.Proofs.YtonnifoeokagjaaGreat
set_option linter.all false
set_option maxRecDepth 8000
open Go Go.RowKit
open Option renaming some->J,none->B
open Bool renaming true->M,false->R
open List renaming length->O
open Tryz
open Nat(reduceAdd reduceMul)
namespace br
noncomputable section
variable{a:u}{h:aE}{Y:Nat}{r:dI}
def MW.tree{t p}(o:MW t p h Y)(aO)(size dU:Int):
 MW {t with aO:=aO,size:=size,dU:=dU} p (aI h t.tb (.cells [.ptr t.a.pb 0,.ptr t.a.ab 0,int aO.X,u64 aO.bo,.g (.int .i64 size),.g (.int .i64 dU),bW R] 273)) Y/\
 fT Y t {t with aO:=aO,size:=size,dU:=dU} p p h (aI h t.tb (.cells [.ptr t.a.pb 0,.ptr t.a.ab 0,int aO.X,u64 aO.bo,.g (.int .i64 size),.g (.int .i64 dU),bW R] 273)):=by
 have z:=o.sd;refine⟨⟨⟨by rw[Sr],⟨by rw[Xg o.tk.d1.symm];exact o.tk.ok.ar,by rw[Xg o.tk.d2.symm];exact o.tk.ok.mp,λe V=>by rw[Xg (o.tk.d3 e V)];exact o.tk.ok.cl e V,o.tk.ok.ng,o.tk.ok.Ll,o.tk.ok.fr,o.tk.ok.ne,o.tk.ok.la,o.tk.ok.lm⟩,o.tk.d1,o.tk.d2,o.tk.d3,o.tk.lt,o.tk.sl⟩,
  o.pk.jw (by rw[Xg z.1.symm]) (by rw[Xg z.2.1.symm]) (by rw[Xg z.2.2.symm]) (an _),o.sp,o.sd⟩,
  ⟨Z,Z,Z,Z,Z,Z,Z,λ_ h=>h,λe V=> .inl ⟨e,V,Z⟩,λe V=>⟨e,V,Z,Z⟩,λe V=> .inl ⟨e,V,Z⟩,λb _ g _ _ _ _ _=>by rw[Xg g]⟩⟩
def fT.p{Y t t' p p' h Q}(s:fT Y t t' p p' h Q):eA Y t.own t'.own t.a.sl t'.a.sl p p' h Q:=
 ⟨s.pb,s.gb,s.fb,s.fl,λx L=> .inl (s.fr x L),λb D=>by
  obtain e1|e1|e1|⟨e,V,rfl⟩:=D;.exact .inl (.inl (e1.trans s.tb))
  .exact .inl (.inr (.inl (e1.trans s.ab)))
  .exact .inl (FF (.inl (e1.trans s.mb)))
  .obtain⟨f,hf,e1⟩|q:=s.bT e V;.exact .inl (Fe ⟨f,hf,e1⟩)
   .exact .inr q,λx L=>by
  obtain⟨e,V,rfl⟩:=L;obtain q|q:=s.slt e V;.exact .inl q
  .exact .inr q,λb D ho g1 g2 g3=>s.aW b D (λe=>ho (.inl e)) g1 g2 g3 (λe=>ho (FF (.inl e))) (λe V e'=>ho (Fe ⟨e,V,e'⟩))⟩
def Ck:Nd:={ay:=R,aJ:=[],gZ:=[],bu:=[],cQ:=[],bd:=R,next:=⟨0,0⟩}
abbrev zin:List u:=[bW R,.g (.slice B 0 0),.g (.slice B 0 0),.g (.slice B 0 0),cg [],bW R,int 0,u64 0]
def fv.parts{r}:∀{a b:List u} {vs:List Value},fv r (a++b) vs->∃v1 v2,vs=v1++v2/\fv r a v1/\fv r b v2
 |[],b,vs,h=>⟨[],vs,Z,.nil,h⟩
 |x::a,b,vs,h=>by
  cases h with|cons W h=>
  obtain⟨v1,v2,rfl,q1,q2⟩:=fv.parts h;exact⟨_::v1,v2,Z,.cons W q1,q2⟩
def fv.join{r}:∀{a b:List u} {v1 v2:List Value},fv r a v1->fv r b v2->fv r (a++b) (v1++v2)
 |[],_,_,_,.nil,h=>h
 |_::_,_,_,_,.cons W h,F=> .cons W (fv.join h F)
def Og{cw}{l:Lf}{vs}(h:fv r [a,.agg (bW cw::(l.cells++zin))] vs):fv r [a,(Mn.mk cw l Ck).av] vs:=by
 obtain _|⟨W,_|⟨F,⟨⟩⟩⟩:=h
 refine .cons W (.cons ?_ .nil);cases F with|agg h=>
 cases h with|cons a1 h=>
 obtain⟨v1,v2,rfl,q1,q2⟩:=fv.parts h;clear h;cases q2 with|cons b1 h=>cases h with|cons b2 h=>cases h with|cons b3 h=>cases h with|cons b4 h=>cases h with|cons b5 h=>cases h with|cons b6 h=>cases h with|cons b7 h=>cases h with|cons b8 h=>cases h with|nil=>
 exact VR.agg (c:=_::(v1++[_,_,_,_,_,_,_,_])) (.cons a1 (fv.join q1 (.cons b1 (.cons (rY b2) (.cons (rY b3) (.cons (rY b4) (.cons b5 (.cons b6 (.cons b7 (.cons b8 .nil))))))))))
def aec:=RB [(1,[([0,1,2,3,10],[3],J 4),([5],[3,10],J 6),([7,8,9],[10],J 11),MO [] 12,RX])]
def t271:List u:=(Du.map u.g).drop 1
def adW{b}:eG 0 (Du.map u.g) [bW b]=J (bW b::t271):=by rw[cG _ _ _ (by simp[Du])];rfl
def aiR{l:Lf}(K:O l.sl=15):eG 0 t271 l.cells=J (l.cells++zin):=by have e:O t271=119:=rfl;rw[cG _ _ _ (by rw[eR K,e];omega),dJ,cz,fC,eR K];rfl
def jH:Mn:=⟨M,jq,Ck⟩
def amb(t:Mt)(p:bp)(h:aE)(Y:Nat)(o:MW t p h Y)(A:p.fr.count true≠0):
 az prog 134 [.ptr t.tb 0] h Y λv Q E=>∃(t':Mt) (p':bp) (z:Hd),ct t.a.es z.X=none/\v= .dY [z.av,int 0]/\MW t' p' Q E/\fT Y t t' p p' h Q/\
  ct t'.a.es=up (ct t.a.es) z.X (z.bo,jH)/\t'.aO=t.aO/\t'.size=t.size/\p'.fr.count true+1=p.fr.count true/\t'.dU=cO .i64 (t.dU+1):=by
 have dc:=o.tk.lt;have d2:∀q,¬(t.tb=Y+1+q):=λq=>U;have d3:∀q,¬(Y=Y+1+q):=λq=>U;refine az.ac 1 aec func134 (PV f134.eq_1 aec.eq_1 o.tk.tr (U:¬(t.tb=Y)) d2 ?_);generalize hq:Y+1+Array.size _=nq;have qf:Y+1+13<=nq:=hq▸(iR bS _)
 generalize hH:aI (aI h Y _) (Y+1+10) _=hi;have S0:aG Y h hi:=hH▸gU
 have g0:=U9 hH Tb (d3 _)
 have g1:=TZ hH
 have o1:=o.aW S0 (U:Y<=nq);refine ba amt ?_;refine L6 (o1.tk.tr:N hi t.tb=_) g1 @adW (aiR (l:=jq) Z) ?_;refine cm (az.Mm (args':=[.ptr t.a.ab 0,jH.av]) (by rfl) (λr vs hv=>Og hv) (o1.vT A jH Z)) λ_ F dR l2 ⟨t1,p1,x,f1,f2,B1,gP,f3,f4,f5,f6⟩=>?_
 subst f2;have vP:∀c,Y<=c->c<nq->N F c=N hi c:=λc W F=>gP.aW c F U (EB o.pk.tD) (EB o.pk.tJ) (EB o.pk.tM) (EB o.tk.ok.lm) (λe V e'=>by have:=(o.tk.ok.fr e V).2.2;omega)
 have q0:N F Y=some (.cells [int 0,u64 0] 245):=(vP _ (an _) U)▸g0
 have q1:N F (Y+1+10)=some (.cells [int 0,u64 0] 245):=by rw[vP _ U U];exact g1
 have q2:N F t.tb=some (.cells [.ptr t1.a.pb 0,.ptr t1.a.ab 0,int t1.aO.X,u64 t1.aO.bo,.g (.int .i64 t1.size),.g (.int .i64 t1.dU),bW false] 273):=gP.tb▸B1.tk.tr
 have d6:∀q,¬(Y+1+q=Y):=λq=>U;refine asA q0 q1 q2 d2 d3 (λq=>U:∀q,¬(Y+1+q=t.tb)) (U:¬(Y=t.tb)) @Hd.av.eq_1 @Hd.cells.eq_1 ?_;generalize hly:cO .i64 (t1.dU+1)=ly;have oO:∀c,t1.own c->c≠Y/\c≠Y+1+10:=λc A=>by
  obtain q|q:=gP.p.bl c A;.have:=o.tk.dL q;omega
  .omega
 generalize hG:aI F (Y+1+10) _=hs;have G1:∀c,c≠Y+1+10->N hs c=N F c:=λc A=>by rw[<-hG,Xg A]
 have e1:=o.pk.tD;have e2:=o.pk.tJ;have e3:=o.pk.tM;have B2:MW t1 p1 hs dR:=⟨B1.tk.aW (λc A=>G1 c (oO c A).2) (an _),B1.pk.jw (G1 _ (Es gP.pb)) (G1 _ (Es gP.gb)) (G1 _ (Es gP.fb)) (an _),B1.sp,B1.sd⟩;have⟨B3,S3⟩:=B2.tree t1.aO t1.size ly;generalize hK:aI hs t1.tb _=hl at B3 S3;rw[gP.tb]at hK;rw[hK];refine⟨{t1 with dU:=ly},p1,x,f1,Z,?_,?_,f3,f4,f5.1,f6,by rw[<-hly,f5.2]⟩;.exact⟨B3.tk.aW (λc A=>by rw[aj,ak (oO c A).1]) (an _),B3.pk.jw (by rw[aj,ak (Es gP.pb)]) (by rw[aj,ak (Es gP.gb)]) (by rw[aj,ak (Es gP.fb)]) (an _),B3.sp,B3.sd⟩
 .refine⟨gP.tb,gP.ab,gP.mb,gP.pb,gP.gb,gP.fb,gP.fl,gP.fr,λe V=>?_,gP.old,gP.slt,λb D w1 w2 w3 w4 w5 w6=>?_⟩
  .obtain q|q:=gP.bT e V;.exact .inl q
   .exact .inr U
  .rw[Xg,S3.aW b U (gP.tb▸w1) (gP.pb▸w2) (gP.gb▸w3) (gP.fb▸w4) (gP.mb▸w5) (λe V=>?_),G1 b U,gP.aW b U w1 w2 w3 w4 w5 w6,S0 b D];obtain⟨f,hf,q⟩|q:=gP.bT e V
   .rw[<-q];exact w6 f hf
   .omega
def aqV(p:bp)(h Y)(ug:p.ok h Y)(A:p.fr.count M≠0):
 UP 111 [.ptr p.pb 0] h Y λr Q E=>∃t p',r= .dY [.ptr t.tb 0,int 0]/\MW t p' Q E/\eA Y (λ_=>False) t.own (λ_=>False) t.a.sl p p' h Q/\p'.fr.count M+1=p.fr.count M/\ct t.a.es=up (λ_=>B) t.aO.X (t.aO.bo,jH)/\t.size=0/\t.dU=1:=by
 have l1:=ug.tD;have l2:=ug.tJ;have l3:=ug.tM;refine az.ac 1 T0 func111 ?_;simp+decide-dsimp only[f111,go_sem];refine cm (apZ h Y p.pb) λ_ W cC l1 ⟨ab,mb,g1,g2,g3,g4,g5,g6,g7,g8,g9⟩=>?_;subst g6;simp+decide-dsimp only[go_sem];have B0:MW ⟨cC,⟨ab,mb,0,p.pb,[]⟩,⟨0,0⟩,0,0⟩ p (aI W cC (.cells [.ptr p.pb 0,.ptr ab 0,int 0,u64 0,int 0,int 0,bW R] 273)) (cC+1):=by
  refine⟨⟨by rw[aj,au Z];rfl,⟨by show N _ ab=_;rw[Xg U];exact g7,by show N _ mb=_;rw[Xg U];exact g8,(λe V=>by cases V),nC,nC,(λe V=>by cases V),g3,by show ab<_;omega,by show mb<_;omega⟩,by show cC≠ab;omega,by show cC≠mb;omega,(λe V=>by cases V),aZ _,(λe V=>by cases V)⟩,
   ug.aW (λb D=>by rw[Xg U];exact g9 b D) U,⟨Z,⟨by show ab≠_;omega,by show ab≠_;omega,by show ab≠_;omega⟩,⟨by show mb≠_;omega,by show mb≠_;omega,by show mb≠_;omega⟩,(λe V=>by cases V),(λe V=>by cases V)⟩,⟨by show cC≠_;omega,by show cC≠_;omega,by show cC≠_;omega⟩⟩
 refine cm (amb _ p _ _ B0 A) λ_ F dR l2 ⟨t1,p1,x,f1,f2,B1,gP,f3,f4,f5,f6,f7⟩=>?_;subst f2;have k1:N F cC=J (.cells [.ptr t1.a.pb 0,.ptr t1.a.ab 0,int t1.aO.X,u64 t1.aO.bo,.g (.int .i64 t1.size),.g (.int .i64 t1.dU),bW R] 273):=by have:=B1.tk.tr;rw[gP.tb]at this;exact this
 refine L6 k1 (U:¬(cC=dR)) @Hd.av.eq_1 @Hd.cells.eq_1 ?_;have⟨B2,vD⟩:=B1.tree x t1.size t1.dU;generalize hK:aI F t1.tb _=hl at B2 vD;rw[gP.tb]at hK;have qC:=(gP.trans vD U).p;have FI:∀b,Mt.own ⟨cC,⟨ab,mb,0,p.pb,[]⟩,⟨0,0⟩,0,0⟩ b->Y<=b:=by
  exact auT
 refine⟨{t1 with aO:=x},p1,by rw[(gP.tb:t1.tb=cC)],B2.aW (aG.refl.trans ?_ (an _)) U,⟨qC.pb,qC.gb,qC.fb,qC.fl,λs G=>?_,λb D=>?_,λs G=>?_,λb D _ q1 q2 q3=>?_⟩,f6,by rw[f3];rfl,f5,by rw[f7];rfl⟩;.rw[<-hK];exact aG.fo ((aG.refl.set (an _)).set (an _))
 .obtain q|⟨e,V,_⟩:=qC.fr s G;.exact .inl q
  .cases V
 .obtain q|q:=qC.bl b D;.exact .inr (FI b q)
  .right;omega
 .obtain⟨e,V,_⟩|q:=qC.slt s G;.cases V
  .exact .inr q
 .have e:N hl b=N h b:=by rw[qC.aW b U (λh=>by have:=FI b h;omega) q1 q2 q3,Xg];exact g9 b D
  rw[<-e,<-hK];exact aG.fo ((aG.refl.set (an dR)).set (an dR)) b U
variable{s:Nat}
abbrev jJ:=Nat->Option (Nat×Mn)
def Mn.js(n:Mn):List aY:=if n.cw then(List.range n.ay.n).map λi=>qy (n.ay.e i).m else n.aL.aJ
def Mn.kM(n:Mn):Bool:=if n.cw then n.ay.bd else n.aL.bd
def Mn.eI(n:Mn):aY:=if n.cw then qy n.ay.cQ else n.aL.cQ
def nameOf(m:aY):aY:=m.take 8
structure zd(Pk:aY->Prop)(σ:jJ)(pre:Nat->aY)(lo:Nat->aY)(par:Nat->Nat)(s:Nat)(x:Sl):Prop where
 key:x.deep=R->Pk (pre s++nameOf x.m++x.rest)/\O (pre s++nameOf x.m++x.rest)<=24/\(pre s≠[]->x.m≠[])
 link:x.deep=M->(∃n,σ x.link.X=J (x.link.bo,n)/\n.kM=R)/\pre x.link.X=pre s++nameOf x.m/\lo x.link.X=[]/\par x.link.X=s
structure MI(Pk:aY->Prop)(σ:jJ)(aO:Hd)(pre lo:Nat->aY)(eo par rk:Nat->Nat)(iL:Nat->Prop)(ex:aY->Prop):Prop where
 cw:∀s g n,σ s=J (g,n)->(n.cw=M↔eo s=0)
 lf:∀s g n,σ s=J (g,n)->n.cw=M->n.ay.zxQ/\(n.ay.n<=6\/(iL s/\n.ay.n=7))
 nd:∀s g n,σ s=J (g,n)->n.cw=R->n.aL.zxQ/\n.aL.ay=R/\(O n.aL.aJ<=4\/(iL s/\O n.aL.aJ=5))
 Lr:∀s g n,σ s=J (g,n)->∀k∈n.js,¬k<lo s/\(n.cw=R->lo s<k)
 oP:∀s g n,σ s=J (g,n)->n.kM=M->lo s<n.eI
 kD:∀s g n,σ s=J (g,n)->n.cw=R->∀i,i<O n.aL.bu->∃m,σ (n.aL.bu.getD i default).X=J ((n.aL.bu.getD i default).bo,m)/\eo (n.aL.bu.getD i default).X+1=eo s/\
  pre (n.aL.bu.getD i default).X=pre s/\par (n.aL.bu.getD i default).X=s/\lo (n.aL.bu.getD i default).X=jE lo s n.aL i/\m.kM=kJ n.aL i/\(m.kM=M->m.eI=lG n.aL i)
 X:∀s g n,σ s=J (g,n)->n.cw=M->∀i,i<n.ay.n->zd Pk σ pre lo par s (n.ay.e i)
 next:∀s g n,σ s=J (g,n)->(n.kM=R->n.next=⟨0,0⟩)/\(n.kM=M->∃m,σ n.next.X=J (n.next.bo,m)/\eo n.next.X=eo s/\pre n.next.X=pre s/\lo n.next.X=n.eI/\rk n.next.X<rk s)
 rt:(∃n,σ aO.X=J (aO.bo,n)/\n.kM=R)/\lo aO.X=[]/\pre aO.X=[]/\par aO.X=aO.X
 pl:∀s g n,σ s=J (g,n)->∃i,O (pre s)=8*i/\i<=2
 uniq:∀s g n s' g' n',σ s=J (g,n)->σ s'=J (g',n')->eo s=eo s'->pre s=pre s'->s≠s'->(n.kM=M/\¬lo s'<n.eI)\/(n'.kM=M/\¬lo s<n'.eI)
 lr:∀s g n,σ s=J (g,n)->(pre s=[]->eo s<=eo aO.X)/\(pre s≠[]->ex (pre s)\/∃s' g' n' i,σ s'=J (g',n')/\n'.cw=M/\i<n'.ay.n/\(n'.ay.e i).deep=M/\pre (n'.ay.e i).link.X=pre s/\eo s<=eo (n'.ay.e i).link.X)
def Cd:aY->Prop:=λ_=>False
def MI.nxl{Pk σ aO pre lo eo par rk iL ex}(I:MI Pk σ aO pre lo eo par rk iL ex){g n}(G:σ s=J (g,n))(K:n.cw=M)(D:n.ay.bd=M):∃m,σ n.ay.next.X=J (n.ay.next.bo,m)/\m.cw=M/\pre n.ay.next.X=pre s/\rk n.ay.next.X<rk s:=by
 have e:n.next=n.ay.next:=by unfold Mn.next;rw[K];rfl
 have⟨m,a1,a2,a3,_,a5⟩:=(I.next _ _ _ G).2 (by unfold Mn.kM;rw[K];exact D);rw[e]at a1 a2 a3 a5;exact⟨m,a1,(I.cw _ _ _ a1).2 (a2.trans ((I.cw _ _ _ G).1 K)),a3,a5⟩
def MI.new(Pk:aY->Prop)(x:Hd):MI Pk (up (λ_=>B) x.X (x.bo,jH)) x (λ_=>[]) (λ_=>[]) (λ_=>0) (λ_=>x.X) (λ_=>0) (λ_=>False) Cd:=by
 have get:∀s g n,up (λ_=>B) x.X (x.bo,jH) s=J (g,n)->s=x.X/\n=jH:=by
  exact auz
 refine⟨λs g n h=>?_,λs g n h=>?_,λs g n h=>?_,λs g n h=>?_,λs g n h=>?_,λs g n h=>?_,λs g n h=>?_,λs g n h=>?_,⟨⟨_,dF,Z⟩,Z,Z,Z⟩,λs g n h=>⟨0,Z,U⟩,λs g n s' g' n' h Q _ _ cD=>absurd ((get _ _ _ h).1.trans (get _ _ _ Q).1.symm) cD,λs g n h=>⟨λ_=>an _,λh=>absurd Z h⟩⟩
 all_goals obtain⟨rfl,rfl⟩:=get s g n h
 .exact⟨λ_=>rfl,λ_=>rfl⟩
 .exact λ_=>⟨n9,.inl bS⟩
 .exact λh=>by cases h
 .intro k hk;cases hk
 .exact λh=>by cases h
 .exact λh=>by cases h
 .exact λ_ i H=>absurd H (cp _)
 .exact⟨λ_=>rfl,λh=>by cases h⟩
def Mn.gS{n:Mn}(hh:n.cw=M->tv n.ay.cQ){m}(hm:tv m):n.eF m=M↔(n.kM=M->qy m<n.eI):=by
 unfold Mn.eF Mn.kM Mn.eI;cases vy:n.cw with
 |true=>
  simp only[cA];unfold Lf.eF;cases n.ay.bd with
  |false=>simp
  |true=>simp[C8 hm (hh vy)]
 |false=>simp only[du,cU];exact br.gS
section
variable{Pk:aY->Prop}{σ:jJ}{aO:Hd}{pre lo:Nat->aY}{eo par rk:Nat->Nat}{iL:Nat->Prop}{ex:aY->Prop}
def MI.down(I:MI Pk σ aO pre lo eo par rk iL ex){g n}(G:σ s=J (g,n))(K:n.cw=R){k}(jL:¬k<lo s)(A:n.kM=M->k<n.eI):
 ∃m,σ (n.aL.bu.getD (n.aL.jQ k) default).X=J ((n.aL.bu.getD (n.aL.jQ k) default).bo,m)/\eo (n.aL.bu.getD (n.aL.jQ k) default).X+1=eo s/\
  pre (n.aL.bu.getD (n.aL.jQ k) default).X=pre s/\¬k<lo (n.aL.bu.getD (n.aL.jQ k) default).X/\(m.kM=M->k<m.eI):=by
 have⟨hR,mn,_⟩:=I.nd _ _ _ G K;have⟨m,W,F,h3,_,h4,h5,h6⟩:=I.kD _ _ _ G K _ (hR.Dy mn k);refine⟨m,W,F,h3,?_,λD=>?_⟩
 .rw[h4];unfold jE;split;.exact jL
  .exact(KS hR U).2
 .rw[h6 D];rw[h5]at D;unfold kJ at D;unfold lG;split;.rename_i h;exact Ld hR h
  .rename_i h;rw[ak h]at D;have:=A (by unfold Mn.kM;rw[K];exact D);unfold Mn.eI at this;rw[K]at this;exact this
end
inductive pH(σ:jJ)(k:aY):Hd->List Hd->Hd->Mn->Prop
 |here {h:Hd} {n:Mn} (G:σ h.X=J (h.bo,n)) (K:n.cw=M):pH σ k h [h] h n
 |kD {h:Hd} {n:Mn} {l:List Hd} {f:Hd} {m:Mn} (G:σ h.X=J (h.bo,n)) (K:n.cw=R) (d:pH σ k (n.aL.bu.getD (n.aL.jQ k) default) l f m):pH σ k h (h::l) f m
def pH.fun{σ k h l l' f f' m m'}(a:pH σ k h l f m)(b:pH σ k h l' f' m'):l=l'/\f=f'/\m=m':=by
 induction a generalizing l' f' m' with
 |here G K=>
  cases b with
  |here lS mJ=>rw[G]at lS;injection lS with e;injection e with _ e;exact⟨Z,Z,e⟩
  |kD lS mJ _=>rw[G]at lS;injection lS with e;injection e with _ e;subst e;rw[K]at mJ;cases mJ
 |kD G K _ ih=>
  cases b with
  |here lS mJ=>rw[G]at lS;injection lS with e;injection e with _ e;subst e;rw[K]at mJ;cases mJ
  |kD lS mJ d'=>
   rw[G]at lS;injection lS with e;injection e with _ e;subst e
   have⟨e1,e2,e3⟩:=ih d';exact⟨by rw[e1],e2,e3⟩
def pH.ay{σ k h l f m}(a:pH σ k h l f m):σ f.X=J (f.bo,m)/\m.cw=M:=by
 induction a with
 |here G K=>exact⟨G,K⟩
 |kD _ _ _ ih=>exact ih
section
variable{Pk:aY->Prop}{σ:jJ}{aO:Hd}{pre lo:Nat->aY}{eo par rk:Nat->Nat}{iL:Nat->Prop}{ex:aY->Prop}
def MI.total(I:MI Pk σ aO pre lo eo par rk iL ex){k}:∀(d:Nat) (h:Hd) (n:Mn),σ h.X=J (h.bo,n)->eo h.X=d->¬k<lo h.X->(n.kM=M->k<n.eI)->
 ∃l f m,pH σ k h l f m/\O l=d+1/\pre f.X=pre h.X/\¬k<lo f.X/\(m.kM=M->k<m.eI):=by
 intro d
 induction d with
 |zero=>intro h n G z jL A;exact⟨[h],h,n,.here G ((I.cw _ _ _ G).2 z),Z,Z,jL,A⟩
 |succ d ih=>
  intro h n G z jL A;have K:n.cw=R:=by
   cases K:n.cw with
   |false=>rfl
   |true=>have:=(I.cw _ _ _ G).1 K;omega
  have⟨m,W,F,h3,h4,h5⟩:=I.down G K jL A;have⟨l,f,m',q1,q2,q3,q4,q5⟩:=ih _ m W U h4 h5;exact⟨h::l,f,m',.kD G K q1,by simp[q2],q3.trans h3,q4,q5⟩
end
section
variable{Pk:aY->Prop}{σ σ':jJ}{aO:Hd}{pre lo me ke:Nat->aY}{eo par rk par':Nat->Nat}{iL big':Nat->Prop}{ex ex':aY->Prop}
def zd.to{s' x}(h:zd Pk σ pre lo par s x)(hp:me s'=pre s)(ht:x.deep=M->(∀n,σ x.link.X=J (x.link.bo,n)->n.kM=R->∃n',σ' x.link.X=J (x.link.bo,n')/\n'.kM=R)/\me x.link.X=pre x.link.X/\ke x.link.X=lo x.link.X/\par' x.link.X=s'):zd Pk σ' me ke par' s' x:=by
 refine⟨λz=>?_,λz=>?_⟩;.rw[hp];exact h.key z
 .have⟨⟨n,a1,a2⟩,a3,a4,a5⟩:=h.link z;have⟨b1,b2,b3,b4⟩:=ht z;exact⟨b1 n a1 a2,by rw[b2,a3,hp],by rw[b3,a4],b4⟩
def tv.link{m m'}(h:tv m)(Q:tv m')(l:O m=9)(l':O m'=9)(e:nameOf m=nameOf m'):m=m':=by
 refine h.inj Q (zO λi H=>?_) U;have:(nameOf m).getD i 0=(nameOf m').getD i 0:=by rw[e]
 unfold nameOf at this;simpa[aB,eQ,H]using this
def MI.Py(I:MI Pk σ aO pre lo eo par rk iL ex)(h:∀s g n,iL s->σ s=J (g,n)->n.full=M->big' s):MI Pk σ aO pre lo eo par rk big' ex:=
 ⟨I.cw,λs g n G K=>⟨(I.lf s g n G K).1,by
  rcases(I.lf s g n G K).2 with q|q;.exact .inl q
  .exact .inr ⟨h s g n q.1 G (by unfold Mn.full;rw[K,au Z];exact aN U),q.2⟩⟩,λs g n G K=>⟨(I.nd s g n G K).1,(I.nd s g n G K).2.1,by
  rcases(I.nd s g n G K).2.2 with q|q;.exact .inl q
  .exact .inr ⟨h s g n q.1 G (by unfold Mn.full;rw[K,ak bR];exact aN U),q.2⟩⟩,I.Lr,I.oP,I.kD,I.X,I.next,I.rt,I.pl,I.uniq,I.lr⟩
def MI.upd(I:MI Pk σ aO pre lo eo par rk iL ex){g n}{l:Lf}(G:σ s=J (g,n))(K:n.cw=M)(D:∀t,iL t->t≠s->big' t)(zxQ:l.zxQ)(e1:l.bd=n.ay.bd)(e2:l.cQ=n.ay.cQ)(e3:l.next=n.ay.next)
 (hn:l.n<=6\/(big' s/\l.n=7)) (hm:∀i,i<l.n->¬qy (l.e i).m<lo s) (L:∀i,i<l.n->zd Pk σ pre lo par s (l.e i))
 (z:∀i,i<n.ay.n->(n.ay.e i).deep=M->∃j,j<l.n/\l.e j=n.ay.e i) (hex:∀t g m,σ t=J (g,m)->ex (pre t)->ex' (pre t)\/∃j,j<l.n/\(l.e j).deep=M/\pre (l.e j).link.X=pre t/\eo t<=eo (l.e j).link.X):
 MI Pk (up σ s (g,{n with ay:=l})) aO pre lo eo par rk big' ex':=by
 have kM:({n with ay:=l}:Mn).kM=n.kM:=by unfold Mn.kM;rw[show({n with ay:=l}:Mn).cw=n.cw from Z,K,au Z,au Z];exact e1
 have hiT:({n with ay:=l}:Mn).eI=n.eI:=by unfold Mn.eI;rw[show({n with ay:=l}:Mn).cw=n.cw from Z,K,au Z,au Z,e2]
 have nxT:({n with ay:=l}:Mn).next=n.next:=by unfold Mn.next;rw[show({n with ay:=l}:Mn).cw=n.cw from Z,K,au Z,au Z];exact e3
 generalize xd:({n with ay:=l}:Mn)=n' at kM hiT nxT;have lw:n'.cw=M:=xd▸K
 have lf:n'.ay=l:=by rw[<-xd]
 have get:∀t g1 m,up σ s (g,n') t=J (g1,m)->(t=s/\g1=g/\m=n')\/(t≠s/\σ t=J (g1,m)):=by
  intro t g1 m h;by_cases ht:t=s;.subst ht;rw[dF]at h;injection h with h;injection h with W F;exact .inl ⟨Z,W.symm,F.symm⟩
  .rw[cT ht]at h;exact .inr ⟨ht,h⟩
 have put:∀{t g1 m},σ t=J (g1,m)->∃m',up σ s (g,n') t=J (g1,m')/\m'.cw=m.cw/\m'.kM=m.kM/\m'.eI=m.eI:=by
  intro t g1 m h;by_cases ht:t=s
  .subst ht;rw[G]at h;injection h with h;injection h with W F;subst W;subst F
   exact⟨n',dF,by rw[lw,K],kM,hiT⟩
  .exact⟨m,by rw[cT ht];exact h,Z,Z,Z⟩
 have kO:∀{t:Nat} {x:Sl},zd Pk σ pre lo par t x->zd Pk (up σ s (g,n')) pre lo par t x:=λ{t x} h=>h.to Z λz=>⟨λm W F=>by have⟨m',q1,_,q2,_⟩:=put W;exact⟨m',q1,by rw[q2];exact F⟩,Z,Z,(h.link z).2.2.2⟩;have bk:∀{t g1 m},up σ s (g,n') t=J (g1,m)->∃m0,σ t=J (g1,m0)/\m.kM=m0.kM/\m.eI=m0.eI:=by
  intro t g1 m h;obtain⟨rfl,rfl,rfl⟩|⟨_,h⟩:=get t g1 m h
  .exact⟨n,G,kM,hiT⟩
  .exact⟨m,h,Z,Z⟩
 refine⟨λt g1 m h=>?_,λt g1 m h hw=>?_,λt g1 m h hw=>?_,λt g1 m h=>?_,λt g1 m h mB=>?_,λt g1 m h hw i H=>?_,λt g1 m h hw i H=>?_,λt g1 m h=>?_,?_,λt g1 m h=>?_,λt g1 m t' g1' m' h Q rU BR hdt=>?_,λt g1 m h=>?_⟩
 .obtain⟨rfl,rfl,rfl⟩|⟨_,h⟩:=get t g1 m h;.exact⟨λ_=>(I.cw _ _ _ G).1 K,λ_=>lw⟩
  .exact I.cw _ _ _ h
 .obtain⟨rfl,rfl,rfl⟩|⟨cD,h⟩:=get t g1 m h;.rw[lf];exact⟨zxQ,hn⟩
  .refine⟨(I.lf _ _ _ h hw).1,?_⟩;rcases(I.lf _ _ _ h hw).2 with q|q
   .exact .inl q
   .exact .inr ⟨D _ q.1 cD,q.2⟩
 .obtain⟨rfl,rfl,rfl⟩|⟨cD,h⟩:=get t g1 m h;.rw[lw]at hw;cases hw
  .refine⟨(I.nd _ _ _ h hw).1,(I.nd _ _ _ h hw).2.1,?_⟩;rcases(I.nd _ _ _ h hw).2.2 with q|q
   .exact .inl q
   .exact .inr ⟨D _ q.1 cD,q.2⟩
 .obtain⟨rfl,rfl,rfl⟩|⟨_,h⟩:=get t g1 m h;.intro k hk;unfold Mn.js at hk;rw[lw,au Z,lf]at hk;obtain⟨i,H,rfl⟩:=bg.1 hk;exact⟨hm i (dQ.1 H),λe=>by rw[lw]at e;cases e⟩
  .exact I.Lr _ _ _ h
 .obtain⟨rfl,rfl,rfl⟩|⟨_,h⟩:=get t g1 m h;.rw[hiT];exact I.oP _ _ _ G (kM▸mB)
  .exact I.oP _ _ _ h mB
 .obtain⟨rfl,rfl,rfl⟩|⟨_,h⟩:=get t g1 m h;.rw[lw]at hw;cases hw
  .have⟨m',a1,a2,a3,a4,a5,a6,a7⟩:=I.kD _ _ _ h hw i H;have⟨m2,q1,_,q3,q4⟩:=put a1;exact⟨m2,q1,a2,a3,a4,a5,by rw[q3,a6],λD=>by rw[q4];exact a7 (q3▸D)⟩
 .obtain⟨rfl,rfl,rfl⟩|⟨_,h⟩:=get t g1 m h;.rw[lf]at H⊢;exact kO (L i H)
  .exact kO (I.X _ _ _ h hw i H)
 .obtain⟨rfl,rfl,rfl⟩|⟨_,h⟩:=get t g1 m h;.rw[nxT,kM,hiT];refine⟨(I.next _ _ _ G).1,λD=>?_⟩;have⟨m',a1,a2⟩:=(I.next _ _ _ G).2 D;have⟨m2,q1,_⟩:=put a1;exact⟨m2,q1,a2⟩
  .refine⟨(I.next _ _ _ h).1,λD=>?_⟩;have⟨m',a1,a2⟩:=(I.next _ _ _ h).2 D;have⟨m2,q1,_⟩:=put a1;exact⟨m2,q1,a2⟩
 .have⟨⟨m,a1,a2⟩,a3⟩:=I.rt;have⟨m2,q1,_,q3,_⟩:=put a1;exact⟨⟨m2,q1,by rw[q3,a2]⟩,a3⟩
 .obtain⟨rfl,rfl,rfl⟩|⟨_,h⟩:=get t g1 m h;.exact I.pl _ _ _ G
  .exact I.pl _ _ _ h
 .have⟨m0,a1,a2,a3⟩:=bk h;have⟨m0',b1,b2,b3⟩:=bk Q;rw[a2,a3,b2,b3];exact I.uniq _ _ _ _ _ _ a1 b1 rU BR hdt
 .have⟨m0,a1,_⟩:=bk h;refine⟨(I.lr _ _ _ a1).1,λhp=>?_⟩;rcases(I.lr _ _ _ a1).2 hp with q|⟨s',g',n1,i,b1,b2,b3,b4,b5,b6⟩
  .obtain w|⟨j,c1,c2,c3,c4⟩:=hex _ _ _ a1 q;.exact .inl w
   .exact .inr ⟨s,g,n',j,dF,lw,by rw[lf];exact c1,by rw[lf];exact c2,by rw[lf];exact c3,by rw[lf];exact c4⟩
  .by_cases e:s'=s
   .subst e;rw[G]at b1;injection b1 with b1;injection b1 with _ b1;subst b1
    have⟨j,c1,c2⟩:=z i b3 b4;exact .inr ⟨s',g,n',j,dF,lw,by rw[lf];exact c1,by rw[lf,c2];exact b4,by rw[lf,c2];exact b5,by rw[lf,c2];exact b6⟩
   .exact .inr ⟨s',g',n1,i,by rw[cT e];exact b1,b2,b3,b4,b5,b6⟩
def MI.fresh(I:MI Pk σ aO pre lo eo par rk iL ex){x:Hd}(L:σ x.X=B)(P:aY)(hP:∃i,O P=8*i/\i<=2)(hP0:∀t g m,σ t=J (g,m)->pre t≠P)(a):
 MI Pk (up σ x.X (x.bo,jH)) aO (λt=>if t=x.X then P else pre t) (λt=>if t=x.X then[]else lo t) (λt=>if t=x.X then 0 else eo t) (λt=>if t=x.X then a else par t) rk iL (λh'=>ex h'\/h'=P):=by
 have get:∀t g1 m,up σ x.X (x.bo,jH) t=J (g1,m)->(t=x.X/\g1=x.bo/\m=jH)\/(t≠x.X/\σ t=J (g1,m)):=by
  intro t g1 m h;by_cases ht:t=x.X;.subst ht;rw[dF]at h;injection h with h;injection h with W F;exact .inl ⟨Z,W.symm,F.symm⟩
  .rw[cT ht]at h;exact .inr ⟨ht,h⟩
 have ne:∀{t g1 m},σ t=J (g1,m)->t≠x.X:=λ{t g1 m} h e=>by rw[e,L]at h;cases h
 have put:∀{t g1 m},σ t=J (g1,m)->up σ x.X (x.bo,jH) t=J (g1,m):=λ{t g1 m} h=>by rw[cT (ne h)];exact h
 refine⟨λt g1 m h=>?_,λt g1 m h hw=>?_,λt g1 m h hw=>?_,λt g1 m h=>?_,λt g1 m h mB=>?_,λt g1 m h hw i H=>?_,λt g1 m h hw i H=>?_,λt g1 m h=>?_,?_,λt g1 m h=>?_,λt g1 m t' g1' m' h Q rU BR hdt=>?_,λt g1 m h=>?_⟩
 all_goals try obtain⟨rfl,rfl,rfl⟩|⟨cD,h⟩:=get t g1 m h
 .simp[jH]
 .simp only[ak cD];exact I.cw _ _ _ h
 .exact⟨n9,.inl bS⟩
 .exact I.lf _ _ _ h hw
 .cases hw
 .exact I.nd _ _ _ h hw
 .intro k hk;cases hk
 .simp only[ak cD];exact I.Lr _ _ _ h
 .cases mB
 .simp only[ak cD];exact I.oP _ _ _ h mB
 .cases hw
 .have⟨m',a1,a2,a3,a4,a5,a6,a7⟩:=I.kD _ _ _ h hw i H;have nk:=ne a1;simp only[ak cD,ak nk];refine⟨m',put a1,a2,a3,a4,?_,a6,a7⟩;rw[a5];unfold jE;simp only[ak cD]
 .exact absurd H (cp _)
 .refine(I.X _ _ _ h hw i H).to (ak cD) λz=>?_;have⟨⟨m',a1,a2⟩,a3,a4,a5⟩:=(I.X _ _ _ h hw i H).link z;have nk:=ne a1;exact⟨λn W F=>⟨n,put W,F⟩,ak nk,ak nk,(ak nk).trans a5⟩
 .exact⟨λ_=>rfl,λh=>by cases h⟩
 .refine⟨(I.next _ _ _ h).1,λD=>?_⟩;have⟨m',a1,a2⟩:=(I.next _ _ _ h).2 D;simp only[ak cD,ak (ne a1)];exact⟨m',put a1,a2⟩
 .have⟨⟨m,a1,a2⟩,a3⟩:=I.rt;simp only[ak (ne a1)];exact⟨⟨m,put a1,a2⟩,a3⟩
 .simp only[cA];exact hP
 .simp only[ak cD];exact I.pl _ _ _ h
 .obtain⟨e,_,_⟩|⟨xd,Q⟩:=get t' g1' m' Q;.exact absurd e.symm hdt
  .simp only[cA,ak xd]at BR;exact absurd BR.symm (hP0 _ _ _ Q)
 .obtain⟨e,_,_⟩|⟨xd,Q⟩:=get t' g1' m' Q;.simp only[ak cD,au e]at BR;exact absurd BR (hP0 _ _ _ h)
  .simp only[ak cD,ak xd]at rU BR⊢;exact I.uniq _ _ _ _ _ _ h Q rU BR hdt
 .exact⟨λ_=>by simp only[cA];exact aQ _,λ_=> .inl (.inr (au Z))⟩
 .have⟨⟨mr,r1,_⟩,_⟩:=I.rt;simp only[ak cD,ak (ne r1)];refine⟨(I.lr _ _ _ h).1,λhp=>((I.lr _ _ _ h).2 hp).imp .inl ?_⟩;rintro⟨s',g',n1,i,b1,b2,b3,b4,b5,b6⟩;have⟨⟨nk,k1,_⟩,_⟩:=(I.X _ _ _ b1 b2 i b3).link b4;exact⟨s',g',n1,i,put b1,b2,b3,b4,by rw[ak (ne k1)];exact b5,by rw[ak (ne k1)];exact b6⟩
def V9(s:Hd):Nd:=⟨R,[],[],[s],[],R,⟨0,0⟩⟩
def mc(s:Hd):Mn:=⟨R,ya,V9 s⟩
def Xh(s):(V9 s).zxQ:=⟨λi H=>absurd H (cp _),λi H=>absurd H (cp _),λ_=>rfl,(λh=>by cases h),λ_=>⟨Z,Z⟩,by show 0<60000;omega⟩
end
variable{g' ga i j q:Nat}{na:Mn}{σ1:jJ}
section
variable{Pk:aY->Prop}{σ:jJ}{aO:Hd}{pre lo:Nat->aY}{eo par rk:Nat->Nat}{iL:Nat->Prop}{ex:aY->Prop}
structure Kd(head y:Hd)(m m':Mn):Prop where
 cw:m'.cw=m.cw
 inn:m.cw=R->m'=m
 zxQ:m.cw=M->m'.ay.zxQ/\m'.ay.n=m.ay.n/\m'.ay.bd=m.ay.bd/\m'.ay.cQ=m.ay.cQ/\m'.ay.next=m.ay.next
 e:m.cw=M->∀i,i<m.ay.n->(m'.ay.e i).m=(m.ay.e i).m/\(((m.ay.e i).deep=M/\(m.ay.e i).link=head/\m'.ay.e i=⟨(m.ay.e i).m,[],[],M,y⟩)\/(((m.ay.e i).deep=M->(m.ay.e i).link.X≠head.X)/\m'.ay.e i=m.ay.e i))
def Kd.T{head y m m'}(hx:Kd head y m m'):m'.kM=m.kM/\m'.eI=m.eI/\m'.next=m.next/\m'.js=m.js:=by
 cases K:m.cw with
 |false=>rw[hx.inn K];exact⟨Z,Z,Z,Z⟩
 |true=>have⟨_,a,b,c,d⟩:=hx.zxQ K;unfold Mn.kM Mn.eI Mn.next Mn.js;rw[K,hx.cw.trans K];simp only[cA];refine⟨b,by rw[c],d,?_⟩;rw[a];exact fD λi H=>by rw[(hx.e K i (dQ.1 H)).1]
def MI.wrap(I:MI Pk σ aO pre lo eo par rk iL Cd){y head:Hd}{hn}(hy:σ y.X=B)(hh:σ head.X=J (head.bo,hn))(D:hn.kM=R)(jL:lo head.X=[])
 (anI:∀{t g m'},σ1 t=J (g,m')->∃m,σ t=J (g,m)/\Kd head y m m') (ao8:∀{t g m},σ t=J (g,m)->∃m',σ1 t=J (g,m')/\Kd head y m m')
 (nk:∀t g m,σ t=J (g,m)->m.cw=R->∀i,i<O m.aL.bu->(m.aL.bu.getD i default).X≠head.X) {Uc hc}
 (hA:∀t g m,σ t=J (g,m)->m.cw=M->∀i,i<m.ay.n->(m.ay.e i).deep=M->(m.ay.e i).link=head->t=hc)
 (ht:∀t g m,σ t=J (g,m)->pre t=pre head.X->eo t<=eo head.X)
 (hr:(Uc=aO/\aO.X≠head.X/\pre head.X≠[]/\∃s' g' m' i,σ s'=J (g',m')/\m'.cw=M/\i<m'.ay.n/\(m'.ay.e i).deep=M/\(m'.ay.e i).link=head)\/(Uc=y/\head=aO/\hc=y.X)):
 MI Pk (up σ1 y.X (y.bo,mc head)) Uc (λt=>if t=y.X then pre head.X else pre t) (λt=>if t=y.X then[]else lo t) (λt=>if t=y.X then eo head.X+1 else eo t) (λt=>if t=y.X then hc else if t=head.X then y.X else par t) rk iL Cd:=by
 have ne:∀{t g1 m},σ t=J (g1,m)->t≠y.X:=λ{t g1 m} h e=>by rw[e,hy]at h;cases h
 have cD:=ne hh;have get:∀{t g1 m},up σ1 y.X (y.bo,mc head) t=J (g1,m)->(t=y.X/\g1=y.bo/\m=mc head)\/(t≠y.X/\∃m0,σ t=J (g1,m0)/\Kd head y m0 m):=by
  intro t g1 m h;by_cases ht:t=y.X;.subst ht;rw[dF]at h;injection h with h;injection h with W F;exact .inl ⟨Z,W.symm,F.symm⟩
  .rw[cT ht]at h;exact .inr ⟨ht,anI h⟩
 have put:∀{t g1 m},σ t=J (g1,m)->∃m',up σ1 y.X (y.bo,mc head) t=J (g1,m')/\Kd head y m m':=λ{t g1 m} h=>by rw[cT (ne h)];exact ao8 h
 have gy:up σ1 y.X (y.bo,mc head) y.X=J (y.bo,mc head):=dF;generalize up σ1 y.X (y.bo,mc head)=σ' at get put gy;refine⟨λt g1 m h=>?_,λt g1 m h hw=>?_,λt g1 m h hw=>?_,λt g1 m h=>?_,λt g1 m h mB=>?_,λt g1 m h hw i H=>?_,λt g1 m h hw i H=>?_,λt g1 m h=>?_,?_,λt g1 m h=>?_,λt g1 m t' g1' m' h Q rU BR hdt=>?_,λt g1 m h=>?_⟩
 all_goals try obtain⟨rfl,rfl,rfl⟩|⟨zQ,m0,h0,hx⟩:=get h
 .simp[mc]
 .simp only[ak zQ];rw[hx.cw];exact I.cw _ _ _ h0
 .cases hw
 .rw[hx.cw]at hw;have⟨a,b,_⟩:=hx.zxQ hw;rw[b];exact⟨a,(I.lf _ _ _ h0 hw).2⟩
 .exact⟨Xh head,Z,.inl (by show 0<=4;omega)⟩
 .rw[hx.cw]at hw;rw[hx.inn hw];exact I.nd _ _ _ h0 hw
 .intro k hk;cases hk
 .simp only[ak zQ];rw[hx.T.2.2.2,hx.cw];exact I.Lr _ _ _ h0
 .cases mB
 .simp only[ak zQ];rw[hx.T.1]at mB;rw[hx.T.2.1];exact I.oP _ _ _ h0 mB
 .have H:i<1:=H;have:i=0:=U;subst this;have⟨xd,p1,hx⟩:=put hh;show∃m,σ' head.X=J (head.bo,m)/\_;refine⟨xd,p1,?_,?_,?_,?_,by rw[hx.T.1,D];rfl,λiQ=>by rw[hx.T.1,D]at iQ;cases iQ⟩;.show(if head.X=y.X then _ else _)+1=(if y.X=y.X then _ else _);rw[ak cD,au Z];rfl
  .show(if head.X=y.X then _ else _)=(if y.X=y.X then _ else _);rw[ak cD,au Z];rfl
  .show(if head.X=y.X then hc else if head.X=head.X then y.X else _)=y.X;rw[ak cD,au Z]
  .show(if head.X=y.X then _ else lo head.X)=(if(0:Nat)=0 then(if y.X=y.X then([]:aY)else _)else _);rw[ak cD,au Z,au Z,jL]
 .rw[hx.cw]at hw;cases hx.inn hw;have⟨m',a1,a2,a3,a4,a5,a6,a7⟩:=I.kD _ _ _ h0 hw i H;have n1:=nk _ _ _ h0 hw i H;have⟨m2,p1,L2⟩:=put a1;simp only[ak zQ,ak n1,ak (ne a1)];refine⟨m2,p1,a2,a3,a4,?_,by rw[L2.T.1,a6],λD=>by rw[L2.T.2.1];exact a7 (L2.T.1▸D)⟩;rw[a5];unfold jE;simp only[ak zQ]
 .cases hw
 .rw[hx.cw]at hw;rw[(hx.zxQ hw).2.1]at H;have ok:=I.X _ _ _ h0 hw i H;rcases(hx.e hw i H).2 with⟨d,lk,e⟩|⟨d,e⟩
  .have⟨_,b1,_⟩:=ok.link d;rw[e];refine⟨(λh=>by cases h),λ_=>⟨⟨_,gy,Z⟩,?_,au Z,?_⟩⟩;.simp only[cA,ak zQ];rw[<-lk];exact b1
   .simp only[cA];exact(hA _ _ _ h0 hw i H d lk).symm
  .rw[e];refine ok.to (ak zQ) λz=>?_;have⟨⟨m',a1,a2⟩,a3,a4,a5⟩:=ok.link z;refine⟨λn W F=>?_,ak (ne a1),ak (ne a1),(ak (ne a1)).trans ((ak (d z)).trans a5)⟩;have⟨m2,p1,L2⟩:=put W;exact⟨m2,p1,by rw[L2.T.1];exact F⟩
 .exact⟨λ_=>rfl,λh=>by cases h⟩
 .rw[hx.T.1,hx.T.2.1,hx.T.2.2.1];refine⟨(I.next _ _ _ h0).1,λD=>?_⟩;have⟨m',a1,a2⟩:=(I.next _ _ _ h0).2 D;have⟨m2,p1,_⟩:=put a1;simp only[ak zQ,ak (ne a1)];exact⟨m2,p1,a2⟩
 .have⟨⟨m,a1,a2⟩,a3,a4,a5⟩:=I.rt;obtain⟨rfl,b1,_⟩|⟨rfl,rfl,b2⟩:=hr;.have⟨m2,p1,hx⟩:=put a1;simp only[ak (ne a1),ak b1];exact⟨⟨m2,p1,by rw[hx.T.1,a2]⟩,a3,a4,a5⟩
  .simp only[cA];exact⟨⟨_,gy,Z⟩,trivial,a4,b2⟩
 .simp only[cA];exact I.pl _ _ _ hh
 .simp only[ak zQ];exact I.pl _ _ _ h0
 .obtain⟨e,_,_⟩|⟨xd,m0',qX,L'⟩:=get Q;.exact absurd e.symm hdt
  .simp only[cA,ak xd]at rU BR;have:=ht _ _ _ qX BR.symm;omega
 .obtain⟨e,_,_⟩|⟨xd,m0',qX,L'⟩:=get Q;.simp only[ak zQ,au e]at rU BR;have:=ht _ _ _ h0 BR;omega
  .simp only[ak zQ,ak xd]at rU BR⊢;rw[hx.T.1,hx.T.2.1,L'.T.1,L'.T.2.1];exact I.uniq _ _ _ _ _ _ h0 qX rU BR hdt
 .simp only[cA];obtain⟨rfl,_,b2,s',g',m',i,c1,c2,c3,c4,c5⟩|⟨rfl,rfl,b2⟩:=hr
  .refine⟨λe=>absurd e b2,λ_=> .inr ?_⟩;have⟨m2,p1,hx⟩:=put c1;rcases(hx.e c2 i c3).2 with⟨_,_,e⟩|⟨d,_⟩
   .exact⟨s',g',m2,i,p1,hx.cw.trans c2,by rw[(hx.zxQ c2).2.1];exact c3,by rw[e],by rw[e,au Z],by rw[e,au Z];exact an _⟩
   .exact absurd (by rw[c5]) (d c4)
  .exact⟨λ_=>by rw[au Z];exact an _,λe=>absurd I.rt.2.2.1 e⟩
 .simp only[ak zQ];refine⟨λe=>?_,λe=>?_⟩
  .have:=(I.lr _ _ _ h0).1 e;obtain⟨rfl,_⟩|⟨rfl,rfl,_⟩:=hr
   .have⟨⟨_,a1,_⟩,_⟩:=I.rt;rw[ak (ne a1)];exact this
   .rw[au Z];omega
  .rcases(I.lr _ _ _ h0).2 e with w|⟨s',g',n1,i,b1,b2,b3,b4,b5,b6⟩;.exact w.elim
   .have⟨m2,p1,L2⟩:=put b1;have⟨⟨nk,k1,_⟩,_⟩:=(I.X _ _ _ b1 b2 i b3).link b4;refine .inr ⟨s',g',m2,i,p1,L2.cw.trans b2,by rw[(L2.zxQ b2).2.1];exact b3,?_⟩;rcases(L2.e b2 i b3).2 with⟨_,lk,e2⟩|⟨_,e2⟩;.rw[e2];simp only[cA];rw[lk]at b5 b6;exact⟨trivial,b5,U⟩
    .rw[e2];simp only[ak (ne k1)];exact⟨b4,b5,b6⟩
def MI.xM(I:MI Pk σ aO pre lo eo par rk iL ex){g n}(G:σ s=J (g,n))(K:n.cw=M)(H:i<n.ay.n)(z:(n.ay.e i).deep=M):O (nameOf (n.ay.e i).m)=8:=by have:=(((I.lf _ _ _ G K).1.r i H).d z).1;unfold nameOf;rw[ax];omega
def MI.Xx(I:MI Pk σ aO pre lo eo par rk iL ex){g n}(G:σ s=J (g,n))(K:n.cw=R)(H:i<O n.aL.bu):(n.aL.bu.getD i default).X≠s:=λe=>by have⟨_,_,a2,_⟩:=I.kD _ _ _ G K i H;rw[e]at a2;omega
def MI.ad1(I:MI Pk σ aO pre lo eo par rk iL ex){g n}(G:σ s=J (g,n))(K:n.cw=M)(H:i<n.ay.n)(z:(n.ay.e i).deep=M):(n.ay.e i).link.X≠s:=λe=>by have a:=((I.X _ _ _ G K i H).link z).2.1;have b:=I.xM G K H z;rw[e]at a;have:=ff List.length a;rw[aq]at this;omega
def MI.aqp(I:MI Pk σ aO pre lo eo par rk iL ex){g n}(G:σ s=J (g,n))(K:n.cw=M)(H:i<n.ay.n)(hj:j<n.ay.n)(di:(n.ay.e i).deep=M)(dj:(n.ay.e j).deep=M)(e:(n.ay.e i).link.X=(n.ay.e j).link.X):i=j:=by
 have zxQ:=(I.lf _ _ _ G K).1;have a:=((I.X _ _ _ G K i H).link di).2.1;rw[e,((I.X _ _ _ G K j hj).link dj).2.1]at a;have em:=tv.link (zxQ.r i H).m (zxQ.r j hj).m ((zxQ.r i H).d di).1 ((zxQ.r j hj).d dj).1 (List.append_cancel_left a).symm;exact auq
def MI.Hm(I:MI Pk σ aO pre lo eo par rk iL ex){g n}(G:σ s=J (g,n))(K:n.cw=M)(H:i<n.ay.n)(z:(n.ay.e i).deep=M):O (n.ay.e i).m=9:=(((I.lf _ _ _ G K).1.r i H).d z).1
def MI.Kw(I:MI Pk σ aO pre lo eo par rk iL ex){g s' n n'}(G:σ s=J (g,n))(K:n.cw=M)(H:i<n.ay.n)(h9:O (n.ay.e i).m=9)(lS:σ s'=J (g',n'))(mJ:n'.cw=M)(hj:j<n'.ay.n)(h9':O (n'.ay.e j).m=9)
 (e:pre s++nameOf (n.ay.e i).m=pre s'++nameOf (n'.ay.e j).m):s=s'/\i=j:=by
 have⟨e1,e2⟩:=List.append_inj' e (by unfold nameOf;rw[ax,ax,h9,h9']);have zxQ:=(I.lf _ _ _ G K).1;have em:=tv.link (zxQ.r i H).m (((I.lf _ _ _ lS mJ).1).r j hj).m h9 h9' e2;have key:∀{s g:Nat} {n:Mn} {i:Nat},σ s=J (g,n)->n.cw=M->i<n.ay.n->¬qy (n.ay.e i).m<lo s/\(n.kM=M->qy (n.ay.e i).m<n.eI):=λ{s g n i} G K H=>by have zxQ:=(I.lf _ _ _ G K).1;refine⟨(I.Lr _ _ _ G _ (by unfold Mn.js;rw[K,au Z];exact bg.2 ⟨i,dQ.2 H,Z⟩)).1,λD=>?_⟩;unfold Mn.kM at D;unfold Mn.eI;rw[K]at D⊢;exact(C8 (zxQ.r _ H).m zxQ.H).2 (zxQ.xP i H D)
 have es:s=s':=cJ λne=>by
  have⟨a1,a2⟩:=key G K H;have⟨b1,b2⟩:=key lS mJ hj;rw[em]at a1 a2;obtain⟨q,w⟩|⟨q,w⟩:=I.uniq _ _ _ _ _ _ G lS (((I.cw _ _ _ G).1 K).trans ((I.cw _ _ _ lS).1 mJ).symm) e1 ne;.exact w (jV b1 (a2 q))
  .exact w (jV a1 (b2 q))
 subst es;rw[G]at lS;injection lS with lS;injection lS with _ lS;subst lS
 refine⟨Z,?_⟩;exact auq
def MI.lone(I:MI Pk σ aO pre lo eo par rk iL Cd){a}(ha:σ a=J (ga,na))(la:na.cw=M)(hq:q<na.ay.n)(z:(na.ay.e q).deep=M){t g m}(h:σ t=J (g,m))(hp:pre t=pre (na.ay.e q).link.X):eo t<=eo (na.ay.e q).link.X:=by
 have e:=((I.X _ _ _ ha la q hq).link z).2.1;have cD:pre t≠[]:=λw=>by rw[hp,e]at w;have:=ff List.length w;rw[aq,I.xM ha la hq z]at this;simp at this
 rcases(I.lr _ _ _ h).2 cD with w|⟨s',g',n1,i,b1,b2,b3,b4,b5,b6⟩;.exact w.elim
 .have e':=((I.X _ _ _ b1 b2 i b3).link b4).2.1;obtain⟨rfl,rfl⟩:=I.Kw b1 b2 b3 (I.Hm b1 b2 b3 b4) ha la hq (I.Hm ha la hq z) (by rw[<-e',<-e,b5,hp]);rw[ha]at b1;injection b1 with b1;injection b1 with _ b1;subst b1
  exact b6
def MI.ady(I:MI Pk σ aO pre lo eo par rk iL ex){y head:Hd}{t g m}(h:σ t=J (g,m))(hn:m.cw=M->∀i,i<m.ay.n->(m.ay.e i).deep=M->(m.ay.e i).link.X≠head.X):Kd head y m m:=
 ⟨Z,λ_=>rfl,λK=>⟨(I.lf _ _ _ h K).1,Z,Z,Z,Z⟩,λK i H=>⟨Z,.inr ⟨hn K i H,Z⟩⟩⟩
def MI.T7(I:MI Pk σ aO pre lo eo par rk iL Cd){y:Hd}(hy:σ y.X=B):
 ∃me ke oj par',MI Pk (up σ y.X (y.bo,mc aO)) y me ke oj par' rk iL Cd/\∀t,t≠y.X->me t=pre t/\ke t=lo t/\oj t=eo t:=by
 have⟨⟨hn,r1,r2⟩,r3,r4,r5⟩:=I.rt;have nl:∀{t g m},σ t=J (g,m)->m.cw=M->∀i,i<m.ay.n->(m.ay.e i).deep=M->(m.ay.e i).link.X≠aO.X:=λ{t g m} h hw i H z e=>by have a4:=((I.X _ _ _ h hw i H).link z).2.2.2;rw[e,r5]at a4;exact I.ad1 h hw H z (e.trans a4)
 exact⟨_,_,_,_,I.wrap hy r1 r2 r3 (σ1:=σ) (λh=>⟨_,h,I.ady h (nl h)⟩) (λh=>⟨_,h,I.ady h (nl h)⟩) (λt g m h hw i H e=>by have⟨_,_,_,_,a4,_⟩:=I.kD _ _ _ h hw i H;rw[e,r5]at a4;exact I.Xx h hw H (e.trans a4)) (hc:=y.X) (λt g m h hw i H z e=>absurd (by rw[e]) (nl h hw i H z)) (λt g m h hp=>(I.lr _ _ _ h).1 (by rw[hp,r4])) (.inr ⟨Z,Z,Z⟩),λt ht=>⟨ak ht,ak ht,ak ht⟩⟩
def MI.UD(I:MI Pk σ aO pre lo eo par rk iL Cd){y head:Hd}(hy:σ y.X=B){a}(ha:σ a=J (ga,na))(la:na.cw=M)(hq:q<na.ay.n)(z:(na.ay.e q).deep=M)(hh:(na.ay.e q).link=head):
 ∃me ke oj par',MI Pk (up (up σ y.X (y.bo,mc head)) a (ga,{na with ay:=na.ay.upd q ⟨(na.ay.e q).m,[],[],M,y⟩})) aO me ke oj par' rk iL Cd/\∀t,t≠y.X->me t=pre t/\ke t=lo t/\oj t=eo t:=by
 have ne:∀{t g1 m},σ t=J (g1,m)->t≠y.X:=λ{t g1 m} h e=>by rw[e,hy]at h;cases h
 have⟨⟨hn,r1,r2⟩,r3,r4,r5⟩:=(I.X _ _ _ ha la q hq).link z;have lone:=λ{t g:Nat} {m:Mn}=>I.lone ha la hq z (t:=t) (g:=g) (m:=m);have hhs:=hh;rw[hh]at r1 r3 r4 r5 lone
 have hR:=(I.lf _ _ _ ha la).1;have arK:=hR.n;have Ly:=hR.r q hq;have ue:∀{j},j<15->(na.ay.upd q ⟨(na.ay.e q).m,[],[],M,y⟩).e j=if j=q then⟨(na.ay.e q).m,[],[],M,y⟩else na.ay.e j:=λ{j} hj=>zv hR U _ hj
 have nl:∀{t g m},σ t=J (g,m)->m.cw=M->∀i,i<m.ay.n->(m.ay.e i).deep=M->(m.ay.e i).link.X=head.X->t=a/\i=q:=λ{t g m} h hw i H hdi e=>by have b:=((I.X _ _ _ h hw i H).link hdi).2.1;exact I.Kw h hw H (I.Hm h hw H hdi) ha la hq (I.Hm ha la hq z) (by rw[<-b,e,r3])
 have la':Kd head y na {na with ay:=na.ay.upd q ⟨(na.ay.e q).m,[],[],M,y⟩}:=⟨Z,(λh=>by rw[la]at h;cases h),λ_=>⟨hR.upd hq ⟨Ly.m,λ_=>⟨(Ly.d z).1,Z,Z⟩,(λh=>by cases h)⟩ Z,Z,Z,Z,Z⟩,λ_ i H=>by
  show((na.ay.upd q ⟨(na.ay.e q).m,[],[],M,y⟩).e i).m=_/\(_\/_/\(na.ay.upd q ⟨(na.ay.e q).m,[],[],M,y⟩).e i=_);rw[ue U];by_cases e:i=q;.subst e;rw[au Z];exact⟨Z,.inl ⟨z,hh,Z⟩⟩
  .rw[ak e];exact⟨Z,.inr ⟨λh w=>e (nl ha la i H h w).2,Z⟩⟩⟩
 have nl':∀{t g m},t≠a->σ t=J (g,m)->m.cw=M->∀i,i<m.ay.n->(m.ay.e i).deep=M->(m.ay.e i).link.X≠head.X:=λ{t g m} w h hw i H hdi e=>w (nl h hw i H hdi e).1;have hs:=I.wrap hy r1 r2 r4 (σ1:=up σ a (ga,{na with ay:=na.ay.upd q ⟨(na.ay.e q).m,[],[],M,y⟩})) (λ{t g m} h=>by
  by_cases w:t=a;.subst w;rw[dF]at h;injection h with h;injection h with W F;subst W;subst F;exact⟨_,ha,la'⟩
  .rw[cT w]at h;exact⟨_,h,I.ady h (nl' w h)⟩) (λ{t g m} h=>by
  by_cases w:t=a;.subst w;rw[ha]at h;injection h with h;injection h with W F;subst W;subst F;exact⟨_,dF,la'⟩
  .exact⟨_,by rw[cT w];exact h,I.ady h (nl' w h)⟩) (λt g m h hw i H e=>by
  have⟨m',a1,a2,a3,a4,_⟩:=I.kD _ _ _ h hw i H;rw[e,r5]at a4;subst a4;rw[ha]at h;injection h with h;injection h with _ h;subst h;rw[la]at hw;cases hw) (hc:=a) (λt g m h hw i H hdi e=>(nl h hw i H hdi (by rw[e])).1) (λt g m h hp=>lone h hp)
  (.inl ⟨Z,λe=>by have:=I.rt.2.2.2;rw[e,r5]at this;exact (hh▸(I.ad1 ha la hq z)) this.symm,λe=>by rw[r3]at e;have:=ff List.length e;rw[aq,I.xM ha la hq z]at this;simp at this,a,ga,na,q,ha,la,hq,z,hh⟩)
 have hay:=ne ha;have e:up (up σ a (ga,{na with ay:=na.ay.upd q ⟨(na.ay.e q).m,[],[],M,y⟩})) y.X (y.bo,mc head)=up (up σ y.X (y.bo,mc head)) a (ga,{na with ay:=na.ay.upd q ⟨(na.ay.e q).m,[],[],M,y⟩}):=by
  funext t
  unfold up;by_cases W:t=y.X;.rw[au W,ak (W▸hay.symm),au W]
  .rw[ak W,ak W]
 rw[e]at hs;exact⟨_,_,_,_,hs,λt ht=>⟨ak ht,ak ht,ak ht⟩⟩
end
structure Hv(hc:aY)(n nl nr:Mn)(sep:aY)(x:Hd):Prop where
 ll:nl.cw=n.cw
 rl:nr.cw=n.cw
 lR:n.cw=M->nl.ay.zxQ/\nl.ay.n<=3
 rR:n.cw=M->nr.ay.zxQ/\nr.ay.n<=6
 lI:n.cw=R->nl.aL.zxQ/\nl.aL.ay=R/\O nl.aL.aJ<=4/\O nl.aL.bu<=3
 rI:n.cw=R->nr.aL.zxQ/\nr.aL.ay=R/\O nr.aL.aJ<=4
 lk:∀k∈nl.js,k∈n.js
 rk:∀k∈nr.js,¬k<sep/\(n.cw=R->sep<k)
 lh:nl.kM=M/\nl.eI=sep
 rh:nr.kM=n.kM/\nr.eI=n.eI
 md:hc<sep/\(n.kM=M->sep<n.eI)
 aq':n.cw=R->∀j,j<O nl.aL.bu->j<O n.aL.bu/\nl.aL.bu.getD j default=n.aL.bu.getD j default/\(∀lo s,jE lo s nl.aL j=jE lo s n.aL j)/\kJ nl.aL j=kJ n.aL j/\(kJ n.aL j=M->lG nl.aL j=lG n.aL j)
 afk:n.cw=R->∀j,j<O nr.aL.bu->3+j<O n.aL.bu/\nr.aL.bu.getD j default=n.aL.bu.getD (3+j) default/\(∀lo ke s x,ke x=sep->jE ke x nr.aL j=jE lo s n.aL (3+j))/\kJ nr.aL j=kJ n.aL (3+j)/\(kJ n.aL (3+j)=M->lG nr.aL j=lG n.aL (3+j))
 lsl:n.cw=M->∀j,j<nl.ay.n->j<n.ay.n/\nl.ay.e j=n.ay.e j
 rsl:n.cw=M->∀j,j<nr.ay.n->3+j<n.ay.n/\nr.ay.e j=n.ay.e (3+j)
 Y:nl.next=x/\nr.next=n.next
 cn:n.cw=M->nl.ay.n=3/\nr.ay.n+3=n.ay.n
section
variable{Pk:aY->Prop}{σ:jJ}{aO:Hd}{pre lo:Nat->aY}{eo par rk:Nat->Nat}{iL:Nat->Prop}{ex:aY->Prop}
open Classical in
def MI.split{s g AV gu i n nu nl nr x sep}(I:MI Pk σ aO pre lo eo par rk (· =s) Cd)(G:σ s=J (g,n))(hi:Hv (lo s) n nl nr sep x)(L:σ x.X=B)(hu:σ AV=J (gu,nu))(ul:nu.cw=R)
 (H:i<O nu.aL.bu) (hk:nu.aL.bu.getD i default=⟨s,g⟩) (hr:aO.X≠s):
 nu.aL.eF sep=M/\nu.aL.has sep=R/\∃me ke oj par' X7,MI Pk (up (up (up σ s (g,nl)) x.X (x.bo,nr)) AV (gu,{nu with aL:=nu.aL.add sep x})) aO me ke oj par' X7 (· =AV) Cd/\∀t,t≠x.X->me t=pre t/\ke t=lo t/\oj t=eo t:=by
 have⟨AU,ulf,hul⟩:=I.nd _ _ _ hu ul;have⟨m,k1,k2,kp,LI,k3,k4,k5⟩:=I.kD _ _ _ hu ul i H;rw[hk]at k1 k2 k3 kp LI;rw[show σ (Hd.mk s g).X=σ s from Z,G]at k1;injection k1 with k1;injection k1 with _ k1;subst k1;replace k2:eo s+1=eo AV:=k2;replace k3:lo s=jE lo AV nu.aL i:=k3;replace kp:pre s=pre AV:=kp;replace LI:par s=AV:=LI;have hsu:s≠AV:=λe=>by rw[e]at k2;omega
 have kU:x.X≠s:=λe=>by rw[e,G]at L;cases L
 have tI:x.X≠AV:=λe=>by rw[e,hu]at L;cases L
 have lu:∀i,i<O nu.aL.aJ->lo AV<nu.aL.aJ.getD i []:=λi H=>(I.Lr _ _ _ hu _ (by unfold Mn.js;rw[ul,ak bR,aB,aF H];exact bO H)).2 ul;have ukl:=(AU.nd ulf).2;have iu:i<=O nu.aL.aJ:=U;have afh:O nu.aL.aJ<=4:=by
  obtain h|h:=hul;.exact h
  .exact absurd h.1.symm hsu
 have f1:=hi.md.1;have f2:=hi.md.2;have f3:¬lo s<lo AV:=k3▸(CK AU lu iu)
 have f4:lo AV<sep:=jV f3 f1;have yW:place nu.aL.aJ sep=i:=by
  refine EA _ _ _ iu (λj hj=>?_) (λh=>?_)
  .have e:lo s=nu.aL.aJ.getD (i-1) []:=by rw[k3];unfold jE;rw[ak U]
   rcases bB j (i-1)with h|h;.exact dT (AU.lt h U) (e▸f1)
   .have:j=i-1:=U;rw[this,<-e];exact f1
  .have eb:n.kM=M:=by rw[k4];unfold kJ;rw[au h]
   have e:n.eI=nu.aL.aJ.getD i []:=by rw[k5 eb];unfold lG;rw[au h]
   rw[<-e];exact dA (f2 eb)
 have pG:nu.aL.eF sep=M:=br.gS.2 (CQ AU (i:=i) λh=>by have eb:n.kM=M:=k4.trans h;rw[<-k5 eb];exact f2 eb);have Ip:nu.aL.has sep=R:=by
  unfold Nd.has;rw[yW];by_cases h:i<O nu.aL.aJ
  .have eb:n.kM=M:=by rw[k4];unfold kJ;rw[au h]
   have e:n.eI=nu.aL.aJ.getD i []:=by rw[k5 eb];unfold lG;rw[au h]
   have:¬nu.aL.aJ.getD i []=sep:=λq=>by rw[<-e]at q;exact bU (q▸f2 eb)
   rw[aU this,x9]
  .rw[aU h,pS]
 refine⟨pG,Ip,?_⟩;obtain⟨OE,aav⟩:∃OE:Mn,OE={nu with aL:=nu.aL.add sep x}:=⟨_,Z⟩;have ul':OE.cw=R:=by rw[aav];exact ul
 have ein:OE.aL=nu.aL.add sep x:=by rw[aav]
 have pF:(nu.aL.add sep x).aJ=ins nu.aL.aJ i sep:=by show ins nu.aL.aJ (place nu.aL.aJ sep) sep=_;rw[yW]
 have KW:(nu.aL.add sep x).bu=ins nu.aL.bu (i+1) x:=by show ins nu.aL.bu (place nu.aL.aJ sep+1) x=_;rw[yW]
 have oI:O (nu.aL.add sep x).aJ=O nu.aL.aJ+1:=by rw[pF,mY iu]
 have Vv:O (nu.aL.add sep x).bu=O nu.aL.bu+1:=by rw[KW,mY U]
 have ubd:OE.kM=nu.kM:=by unfold Mn.kM;rw[ul',ul,ak bR,ak bR,ein];rfl
 have unx:OE.next=nu.next:=by unfold Mn.next;rw[ul',ul,ak bR,ak bR,ein];rfl
 have uhi:OE.eI=nu.eI:=by unfold Mn.eI;rw[ul',ul,ak bR,ak bR,ein];rfl
 rw[<-aav];clear aav
 let mv:Nat->Prop:=λt=>(n.cw=R/\∃j,j<O nr.aL.bu/\(nr.aL.bu.getD j default).X=t)\/(n.cw=M/\∃j,j<nr.ay.n/\(nr.ay.e j).deep=M/\(nr.ay.e j).link.X=t)
 have mvp:∀{t},mv t->par t=s/\t≠x.X:=by
  rintro t (⟨K,j,hj,rfl⟩|⟨K,j,hj,z,rfl⟩);.have⟨q1,q2,_⟩:=hi.afk K j hj;have⟨m',a1,a2,a3,a4,_⟩:=I.kD _ _ _ G K _ q1;rw[q2];exact⟨a4,λe=>by rw[e,L]at a1;cases a1⟩
  .have⟨q1,q2⟩:=hi.rsl K j hj;rw[q2]at z⊢;have⟨⟨m',a1,_⟩,_,_,a4⟩:=(I.X _ _ _ G K _ q1).link z;exact⟨a4,λe=>by rw[e,L]at a1;cases a1⟩
 let me:Nat->aY:=λt=>if t=x.X then pre s else pre t
 let ke:Nat->aY:=λt=>if t=x.X then sep else lo t
 let oj:Nat->Nat:=λt=>if t=x.X then eo s else eo t
 let par':Nat->Nat:=λt=>if t=x.X then AV else if mv t then x.X else par t
 let X7:Nat->Nat:=λt=>if t=x.X then 2*rk s else 2*rk t+1
 have prx:me x.X=pre s:=au Z;have lox:ke x.X=sep:=au Z;have lvx:oj x.X=eo s:=au Z;have pax:par' x.X=AV:=au Z;have rkx:X7 x.X=2*rk s:=au Z;have yI:∀{t},t≠x.X->me t=pre t:=λ{t} h=>ak h;have Cx:∀{t},t≠x.X->ke t=lo t:=λ{t} h=>ak h;have AZ:∀{t},t≠x.X->oj t=eo t:=λ{t} h=>ak h;have rko:∀{t},t≠x.X->X7 t=2*rk t+1:=λ{t} h=>ak h;have pao:∀{t},t≠x.X->par t≠s->par' t=par t:=λ{t} h Q=>by show(if t=x.X then AV else if mv t then x.X else par t)=_;rw[ak h,ak (λq=>Q (mvp q).1)]
 have pan:∀{t},t≠x.X->¬mv t->par' t=par t:=λ{t} h Q=>by show(if t=x.X then AV else if mv t then x.X else par t)=_;rw[ak h,ak Q]
 have pam:∀{t},mv t->par' t=x.X:=λ{t} h=>by show(if t=x.X then AV else if mv t then x.X else par t)=_;rw[ak (mvp h).2,au h]
 refine⟨me,ke,oj,par',X7,?_,λt ht=>⟨yI ht,Cx ht,AZ ht⟩⟩
 clear_value me ke oj par' X7
 have old:∀{t g1 m},σ t=J (g1,m)->t≠x.X:=λh e=>by rw[e,L]at h;cases h
 have gu':up (up (up σ s (g,nl)) x.X (x.bo,nr)) AV (gu,OE) AV=J (gu,OE):=dF;have Mb:up (up (up σ s (g,nl)) x.X (x.bo,nr)) AV (gu,OE) x.X=J (x.bo,nr):=by rw[cT tI,dF]
 have CF:up (up (up σ s (g,nl)) x.X (x.bo,nr)) AV (gu,OE) s=J (g,nl):=by rw[cT hsu,cT kU.symm,dF]
 have go':∀t,t≠AV->t≠x.X->t≠s->up (up (up σ s (g,nl)) x.X (x.bo,nr)) AV (gu,OE) t=σ t:=λt W F h3=>by rw[cT W,cT F,cT h3]
 generalize hσ':up (up (up σ s (g,nl)) x.X (x.bo,nr)) AV (gu,OE)=σ' at gu' Mb CF go';have get:∀{t g1 m},σ' t=J (g1,m)->(t=AV/\g1=gu/\m=OE)\/(t=x.X/\g1=x.bo/\m=nr)\/(t=s/\g1=g/\m=nl)\/((t≠AV/\t≠x.X/\t≠s)/\σ t=J (g1,m)):=by
  intro t g1 m h;by_cases W:t=AV;.subst W;rw[gu']at h;injection h with h;injection h with q1 q2;exact .inl ⟨Z,q1.symm,q2.symm⟩
  by_cases F:t=x.X;.subst F;rw[Mb]at h;injection h with h;injection h with q1 q2;exact .inr (.inl ⟨Z,q1.symm,q2.symm⟩)
  by_cases h3:t=s;.subst h3;rw[CF]at h;injection h with h;injection h with q1 q2;exact FF (.inl ⟨Z,q1.symm,q2.symm⟩)
  .rw[go' t W F h3]at h;exact Fe ⟨⟨W,F,h3⟩,h⟩
 have put:∀{t g1 m},σ t=J (g1,m)->∃m',σ' t=J (g1,m')/\(t≠s->m'.kM=m.kM/\m'.eI=m.eI)/\m'.cw=m.cw:=by
  intro t g1 m h;by_cases W:t=AV
  .subst W;rw[hu]at h;injection h with h;injection h with q1 q2;subst q1;subst q2
   exact⟨_,gu',λ_=>⟨ubd,uhi⟩,by rw[ul',ul]⟩
  by_cases h3:t=s
  .subst h3;rw[G]at h;injection h with h;injection h with q1 q2;subst q1;subst q2
   exact⟨_,CF,λq=>absurd Z q,hi.ll⟩
  .exact⟨m,by rw[go' t W (old h) h3];exact h,λ_=>⟨Z,Z⟩,Z⟩
 have sNl:∀{t g1 m},σ t=J (g1,m)->m.cw=M->∀i,i<m.ay.n->(m.ay.e i).deep=M->(m.ay.e i).link.X≠s:=λ{t g1 m} h hw i H z e=>by
  have a4:=((I.X _ _ _ h hw i H).link z).2.2.2;rw[e,LI]at a4;subst a4;rw[hu]at h;injection h with h;injection h with _ h;subst h
  rw[ul]at hw;cases hw
 have kO:∀{t t':Nat} {hd:Sl},zd Pk σ pre lo par t hd->me t'=pre t->(hd.deep=M->hd.link.X≠s/\par' hd.link.X=t')->zd Pk σ' me ke par' t' hd:=λ{t t' hd} h hp hz=>h.to hp λz=>by have⟨⟨m',a1,a2⟩,a3,a4,a5⟩:=h.link z;have⟨b1,b2⟩:=hz z;refine⟨λm W F=>?_,yI (old a1),Cx (old a1),b2⟩;have⟨m2,p1,p2,_⟩:=put W;exact⟨m2,p1,by rw[(p2 b1).1,F]⟩
 have ls:∀k∈n.js,¬k<lo s/\(n.cw=R->lo s<k):=I.Lr _ _ _ G;have src:∀{t g1 m},σ' t=J (g1,m)->∃q go no,σ q=J (go,no)/\oj t=eo q/\me t=pre q/\¬ke t<lo q/\(no.kM=M->m.kM=M/\¬no.eI<m.eI)/\(q=t\/(q=s/\t=x.X)):=by
  intro t g1 m h;obtain⟨rfl,rfl,rfl⟩|⟨rfl,rfl,rfl⟩|⟨rfl,rfl,rfl⟩|⟨cD,h⟩:=get h
  .exact⟨t,_,_,hu,AZ tI.symm,yI tI.symm,by rw[Cx tI.symm];exact bU,λh=>⟨by rw[ubd];exact h,by rw[uhi];exact bU⟩,.inl Z⟩
  .exact⟨s,_,_,G,lvx,prx,by rw[lox];exact dA f1,λh=>⟨by rw[hi.rh.1];exact h,by rw[hi.rh.2];exact bU⟩,.inr ⟨Z,Z⟩⟩
  .exact⟨t,_,_,G,AZ kU.symm,yI kU.symm,by rw[Cx kU.symm];exact bU,λh=>⟨hi.lh.1,by rw[hi.lh.2];exact dA (f2 h)⟩,.inl Z⟩
  .exact⟨t,_,_,h,AZ cD.2.1,yI cD.2.1,by rw[Cx cD.2.1];exact bU,λh=>⟨h,bU⟩,.inl Z⟩
 refine⟨λt g1 m h=>?_,λt g1 m h hw=>?_,λt g1 m h hw=>?_,λt g1 m h=>?_,λt g1 m h mB=>?_,λt g1 m h hw j hj=>?_,λt g1 m h hw j hj=>?_,λt g1 m h=>?_,?_,λt g1 m h=>?_,λt g1 m t' g1' m' h Q rU BR cD=>?_,λt g1 m h=>?_⟩
 .obtain⟨rfl,rfl,rfl⟩|⟨rfl,rfl,rfl⟩|⟨rfl,rfl,rfl⟩|⟨cD,h⟩:=get h;.rw[AZ tI.symm,ul',<-ul];exact I.cw _ _ _ hu
  .rw[lvx,hi.rl];exact I.cw _ _ _ G
  .rw[AZ kU.symm,hi.ll];exact I.cw _ _ _ G
  .rw[AZ cD.2.1];exact I.cw _ _ _ h
 .obtain⟨rfl,rfl,rfl⟩|⟨rfl,rfl,rfl⟩|⟨rfl,rfl,rfl⟩|⟨cD,h⟩:=get h;.rw[ul']at hw;cases hw
  .have:=hi.rR (hi.rl▸hw);exact⟨this.1,.inl this.2⟩
  .have:=hi.lR (hi.ll▸hw);exact⟨this.1,.inl U⟩
  .refine⟨(I.lf _ _ _ h hw).1,?_⟩;rcases(I.lf _ _ _ h hw).2 with q|q
   .exact .inl q
   .exact absurd q.1 cD.2.2
 .obtain⟨rfl,rfl,rfl⟩|⟨rfl,rfl,rfl⟩|⟨rfl,rfl,rfl⟩|⟨cD,h⟩:=get h
  .rw[ein];refine⟨AU.add ulf afh pG Ip x,ulf,?_⟩;rw[oI];obtain h|h:=bB (O nu.aL.aJ) 4
   .exact .inl U
   .exact .inr ⟨Z,U⟩
  .have:=hi.rI (hi.rl▸hw);exact⟨this.1,this.2.1,.inl this.2.2⟩
  .have:=hi.lI (hi.ll▸hw);exact⟨this.1,this.2.1,.inl this.2.2.1⟩
  .refine⟨(I.nd _ _ _ h hw).1,(I.nd _ _ _ h hw).2.1,?_⟩;rcases(I.nd _ _ _ h hw).2.2 with q|q
   .exact .inl q
   .exact absurd q.1 cD.2.2
 .obtain⟨rfl,rfl,rfl⟩|⟨rfl,rfl,rfl⟩|⟨rfl,rfl,rfl⟩|⟨cD,h⟩:=get h
  .intro k hk;unfold Mn.js at hk;rw[ul',ak bR,ein,pF]at hk;rw[Cx tI.symm];have:lo t<k:=by
    unfold ins at hk;have mem:∀{q},q∈nu.aL.aJ->lo t<q:=λhq=>(I.Lr _ _ _ hu _ (by unfold Mn.js;rw[ul,ak bR];exact hq)).2 ul
    obtain hk|hk:=bN.1 hk;.exact mem (fe hk)
    .obtain hk|hk:=bJ.1 hk;.rw[hk];exact f4
     .exact mem (ju hk)
   exact⟨dA this,λ_=>this⟩
  .intro k hk;rw[lox];have⟨q1,q2⟩:=hi.rk k hk;exact⟨q1,λh=>q2 (hi.rl▸h)⟩
  .intro k hk;rw[Cx kU.symm];have⟨q1,q2⟩:=ls k (hi.lk k hk);exact⟨q1,λh=>q2 (hi.ll▸h)⟩
  .rw[Cx cD.2.1];exact I.Lr _ _ _ h
 .obtain⟨rfl,rfl,rfl⟩|⟨rfl,rfl,rfl⟩|⟨rfl,rfl,rfl⟩|⟨cD,h⟩:=get h;.rw[Cx tI.symm,uhi];exact I.oP _ _ _ hu (ubd▸mB)
  .rw[lox,hi.rh.2];exact f2 (hi.rh.1▸mB)
  .rw[Cx kU.symm,hi.lh.2];exact f1
  .rw[Cx cD.2.1];exact I.oP _ _ _ h mB
 .obtain⟨rfl,rfl,rfl⟩|⟨rfl,rfl,rfl⟩|⟨rfl,rfl,rfl⟩|⟨cD,h⟩:=get h
  .rw[ein]at hj⊢;rw[Vv]at hj;rw[KW];have kin:∀q,q<O nu.aL.bu->q≠i->∃m',σ' (nu.aL.bu.getD q default).X=J ((nu.aL.bu.getD q default).bo,m')/\(nu.aL.bu.getD q default).X≠x.X/\eo (nu.aL.bu.getD q default).X+1=eo t/\pre (nu.aL.bu.getD q default).X=pre t/\par' (nu.aL.bu.getD q default).X=t/\
    lo (nu.aL.bu.getD q default).X=jE lo t nu.aL q/\m'.kM=kJ nu.aL q/\(m'.kM=M->m'.eI=lG nu.aL q):=by
    intro q hq hqi;have⟨m',W,F,hp,Fh,h3,h4,h5⟩:=I.kD _ _ _ hu ul q hq;have cD:(nu.aL.bu.getD q default).X≠s:=λe=>by rw[e,k3]at h3;exact hqi (DG AU lu iu U h3).symm
    have⟨m2,p1,p2,_⟩:=put W;refine⟨m2,p1,old W,F,hp,?_,h3,by rw[(p2 cD).1,h4],λD=>by rw[(p2 cD).2];exact h5 (((p2 cD).1)▸D)⟩;rw[pao (old W) (Fh▸hsu.symm)];exact Fh
   rcases cF j (i+1)with q|q|q
   .rw[nM q U];have eL:jE ke t (nu.aL.add sep x) j=jE lo t nu.aL j:=by
     unfold jE;rw[Cx tI.symm,pF];split;.rfl
     .rw[nM U iu]
    by_cases hji:j=i
    .subst hji;rw[hk];refine⟨nl,CF,?_,?_,?_,?_,?_,λ_=>?_⟩;.rw[AZ kU.symm,AZ tI.symm];exact k2
     .rw[yI kU.symm,yI tI.symm];exact kp
     .rw[pao kU.symm (LI▸hsu.symm)];exact LI
     .rw[Cx kU.symm,eL];exact k3
     .unfold kJ;rw[au (Es oI)];exact hi.lh.1
     .unfold lG;rw[au (Es oI),pF,ot iu];exact hi.lh.2
    .have⟨m',p1,p2,p3,pp,ppar,p4,p5,p6⟩:=kin j U hji;refine⟨m',p1,?_,?_,?_,?_,?_,λD=>?_⟩;.rw[AZ p2,AZ tI.symm,p3]
     .rw[yI p2,yI tI.symm,pp]
     .exact ppar
     .rw[Cx p2,eL,p4]
     .rw[p5];unfold kJ;rw[au U,au (Es oI)]
     .rw[p6 D];unfold lG;rw[au U,au (Es oI),pF,nM U iu]
   .subst q;rw[ot U];refine⟨nr,Mb,?_,?_,?_,?_,?_,λD=>?_⟩;.rw[lvx,AZ tI.symm];exact k2
    .rw[prx,yI tI.symm];exact kp
    .exact pax
    .rw[lox];unfold jE;rw[ak U,pF,gj,ot iu]
    .rw[hi.rh.1,k4];unfold kJ;rw[oI];by_cases h:i<O nu.aL.aJ;.rw[au h,au U]
     .rw[ak h,ak U];rfl
    .rw[hi.rh.2,k5 (hi.rh.1▸D)];unfold lG;rw[oI];by_cases h:i<O nu.aL.aJ;.rw[au h,au U,pF,mf U iu,gj]
     .rw[ak h,ak U];rfl
   .rw[mf q U];have⟨m',p1,p2,p3,pp,ppar,p4,p5,p6⟩:=kin (j-1) U U;refine⟨m',p1,?_,?_,?_,?_,?_,λD=>?_⟩;.rw[AZ p2,AZ tI.symm,p3]
    .rw[yI p2,yI tI.symm,pp]
    .exact ppar
    .rw[Cx p2,p4];unfold jE;rw[ak U,ak U,pF,mf U iu]
    .rw[p5];unfold kJ;rw[oI];by_cases h:j-1<O nu.aL.aJ;.rw[au h,au U]
     .rw[ak h,ak U];rfl
    .rw[p6 D];unfold lG;rw[oI];by_cases h:j-1<O nu.aL.aJ;.rw[au h,au U,pF,mf U iu]
     .rw[ak h,ak U];rfl
  .have K:n.cw=R:=hi.rl▸hw
   have⟨q1,q2,q3,q4,q5⟩:=hi.afk K j hj;have⟨m',W,F,hp,Fh,h3,h4,h5⟩:=I.kD _ _ _ G K _ q1;have Ji:mv (n.aL.bu.getD (3+j) default).X:= .inl ⟨K,j,hj,by rw[q2]⟩;have cD:(n.aL.bu.getD (3+j) default).X≠s:=I.Xx G K q1;have⟨m2,p1,p2,_⟩:=put W;rw[q2];refine⟨m2,p1,?_,?_,pam Ji,?_,?_,λD=>?_⟩;.rw[AZ (old W),lvx];exact F
   .rw[yI (old W),prx];exact hp
   .rw[Cx (old W),h3];exact(q3 lo ke s x.X lox).symm
   .rw[(p2 cD).1,h4];exact q4.symm
   .have iQ:m'.kM=M:=((p2 cD).1)▸D
    rw[(p2 cD).2,h5 iQ];exact(q5 (h4▸iQ)).symm
  .have K:n.cw=R:=hi.ll▸hw
   have⟨q1,q2,q3,q4,q5⟩:=hi.aq' K j hj;have⟨m',W,F,hp,Fh,h3,h4,h5⟩:=I.kD _ _ _ G K _ q1;have tg:=(I.nd _ _ _ G K).1;have nlf:=(I.nd _ _ _ G K).2.1;have nkl:=(tg.nd nlf).2;have ln:∀i,i<O n.aL.aJ->lo t<n.aL.aJ.getD i []:=λi H=>(I.Lr _ _ _ G _ (by unfold Mn.js;rw[K,ak bR,aB,aF H];exact bO H)).2 K;have j3:j<3:=aP hj (hi.lI K).2.2.2;have Ji:¬mv (n.aL.bu.getD j default).X:=by
    rintro(⟨_,j',Qi,e⟩|⟨mJ,_⟩);.have⟨r1,r2,_⟩:=hi.afk K j' Qi;have⟨_,_,_,_,_,Ci,_⟩:=I.kD _ _ _ G K _ r1;rw[r2]at e;rw[e,h3]at Ci;have:=DG tg ln U U Ci;omega
    .rw[K]at mJ;cases mJ
   have cD:(n.aL.bu.getD j default).X≠t:=I.Xx G K q1;have⟨m2,p1,p2,_⟩:=put W;rw[q2];refine⟨m2,p1,?_,?_,?_,?_,?_,λD=>?_⟩;.rw[AZ (old W),AZ kU.symm];exact F
   .rw[yI (old W),yI kU.symm];exact hp
   .rw[pan (old W) Ji];exact Fh
   .rw[Cx (old W),h3,q3];unfold jE;rw[Cx kU.symm]
   .rw[(p2 cD).1,h4];exact q4.symm
   .have iQ:m'.kM=M:=((p2 cD).1)▸D
    rw[(p2 cD).2,h5 iQ];exact(q5 (h4▸iQ)).symm
  .have⟨m',W,F,hp,Fh,h3,h4,h5⟩:=I.kD _ _ _ h hw j hj;have Yg:(m.aL.bu.getD j default).X≠s:=λe=>by rw[e,LI]at Fh;exact cD.1 Fh.symm
   have⟨m2,p1,p2,_⟩:=put W;refine⟨m2,p1,?_,?_,?_,?_,by rw[(p2 Yg).1,h4],λD=>by rw[(p2 Yg).2];exact h5 (((p2 Yg).1)▸D)⟩;.rw[AZ (old W),AZ cD.2.1,F]
   .rw[yI (old W),yI cD.2.1,hp]
   .rw[pao (old W) (Fh▸cD.2.2)];exact Fh
   .rw[Cx (old W),h3];unfold jE;rw[Cx cD.2.1]
 .obtain⟨rfl,rfl,rfl⟩|⟨rfl,rfl,rfl⟩|⟨rfl,rfl,rfl⟩|⟨cD,h⟩:=get h;.rw[ul']at hw;cases hw
  .have K:n.cw=M:=hi.rl▸hw
   have⟨q1,q2⟩:=hi.rsl K j hj;refine(q2▸kO (I.X _ _ _ G K _ q1) prx λz=>?_);exact⟨sNl G K _ q1 z,pam (.inr ⟨K,j,hj,by rw[q2];exact z,by rw[q2]⟩)⟩
  .have K:n.cw=M:=hi.ll▸hw
   have⟨q1,q2⟩:=hi.lsl K j hj;refine(q2▸kO (I.X _ _ _ G K _ q1) (yI kU.symm) λz=>?_);have j3:j<3:=aP hj (hi.lR K).2;have⟨⟨m',a1,_⟩,_,_,a4⟩:=(I.X _ _ _ G K _ q1).link z;refine⟨sNl G K _ q1 z,?_⟩;rw[pan (old a1) ?_];exact a4;rintro(⟨mJ,_⟩|⟨_,j',Qi,uu,e⟩);.rw[K]at mJ;cases mJ
   .have⟨r1,r2⟩:=hi.rsl K j' Qi;rw[r2]at uu e;have:=I.aqp G K r1 q1 uu z e;omega
  .refine kO (I.X _ _ _ h hw j hj) (yI cD.2.1) λz=>?_;have⟨⟨m',a1,_⟩,_,_,a4⟩:=(I.X _ _ _ h hw j hj).link z;exact⟨sNl h hw j hj z,by rw[pao (old a1) (a4▸cD.2.2)];exact a4⟩
 .obtain⟨rfl,rfl,rfl⟩|⟨rfl,rfl,rfl⟩|⟨rfl,rfl,rfl⟩|⟨cD,h⟩:=get h;.rw[unx,ubd,uhi];refine⟨(I.next _ _ _ hu).1,λD=>?_⟩;have⟨m',a1,a2,a3,a4,a5⟩:=(I.next _ _ _ hu).2 D;have⟨m2,p1,_⟩:=put a1;exact⟨m2,p1,by rw[AZ (old a1),AZ tI.symm,a2],by rw[yI (old a1),yI tI.symm,a3],by rw[Cx (old a1),a4],by rw[rko (old a1),rko tI.symm];omega⟩
  .rw[hi.Y.2,hi.rh.1,hi.rh.2];refine⟨(I.next _ _ _ G).1,λD=>?_⟩;have⟨m',a1,a2,a3,a4,a5⟩:=(I.next _ _ _ G).2 D;have⟨m2,p1,_⟩:=put a1;exact⟨m2,p1,by rw[AZ (old a1),lvx,a2],by rw[yI (old a1),prx,a3],by rw[Cx (old a1),a4],by rw[rko (old a1),rkx];omega⟩
  .refine⟨(λh=>by rw[hi.lh.1]at h;cases h),λ_=>?_⟩;rw[hi.Y.1,hi.lh.2];exact⟨nr,Mb,by rw[lvx,AZ kU.symm],by rw[prx,yI kU.symm],lox,by rw[rkx,rko kU.symm];omega⟩
  .refine⟨(I.next _ _ _ h).1,λD=>?_⟩;have⟨m',a1,a2,a3,a4,a5⟩:=(I.next _ _ _ h).2 D;have⟨m2,p1,_⟩:=put a1;exact⟨m2,p1,by rw[AZ (old a1),AZ cD.2.1,a2],by rw[yI (old a1),yI cD.2.1,a3],by rw[Cx (old a1),a4],by rw[rko (old a1),rko cD.2.1];omega⟩
 .have⟨⟨m,a1,a2⟩,a3,a4,a5⟩:=I.rt;have⟨m2,p1,p2,_⟩:=put a1;refine⟨⟨m2,p1,by rw[(p2 hr).1,a2]⟩,by rw[Cx (old a1),a3],by rw[yI (old a1),a4],?_⟩;rw[pao (old a1) (by rw[a5];exact hr)];exact a5
 .obtain⟨rfl,rfl,rfl⟩|⟨rfl,rfl,rfl⟩|⟨rfl,rfl,rfl⟩|⟨cD,h⟩:=get h;.rw[yI tI.symm];exact I.pl _ _ _ hu
  .rw[prx];exact I.pl _ _ _ G
  .rw[yI kU.symm];exact I.pl _ _ _ G
  .rw[yI cD.2.1];exact I.pl _ _ _ h
 .have⟨q,go,no,a1,a2,a0,a3,a4,a5⟩:=src h;have⟨q',go',no',b1,b2,b0,b3,b4,b5⟩:=src Q;by_cases hq:q=q'
  .subst hq;have:(t=s/\t'=x.X)\/(t=x.X/\t'=s):=by
    exact atr
   obtain⟨rfl,rfl⟩|⟨rfl,rfl⟩:=this
   .rw[CF]at h;injection h with h;injection h with _ h;subst h
    exact .inl ⟨hi.lh.1,by rw[lox,hi.lh.2];exact bU⟩
   .rw[CF]at Q;injection Q with Q;injection Q with _ Q;subst Q
    exact .inr ⟨hi.lh.1,by rw[lox,hi.lh.2];exact bU⟩
  .rcases I.uniq _ _ _ _ _ _ a1 b1 (by rw[<-a2,<-b2];exact rU) (by rw[<-a0,<-b0];exact BR) hq with⟨e1,e2⟩|⟨e1,e2⟩;.have⟨c1,c2⟩:=a4 e1;exact .inl ⟨c1,gD (gD c2 e2) b3⟩
   .have⟨c1,c2⟩:=b4 e1;exact .inr ⟨c1,gD (gD c2 e2) a3⟩
 .have⟨q,go,no,a1,a2,a3,_⟩:=src h;rw[a2,a3];have⟨⟨_,r1,_⟩,_⟩:=I.rt;refine⟨λhp=>by rw[AZ (old r1)];exact(I.lr _ _ _ a1).1 hp,λhp=>((I.lr _ _ _ a1).2 hp).imp id ?_⟩;rintro⟨s',g',n1,i,b1,b2,b3,b4,b5,b6⟩;have⟨⟨_,k1,_⟩,_⟩:=(I.X _ _ _ b1 b2 i b3).link b4;have nk:=old k1;have key:∃s2 g2 n2 j,σ' s2=J (g2,n2)/\n2.cw=M/\j<n2.ay.n/\n2.ay.e j=n1.ay.e i:=by
   by_cases e:s'=s
   .subst e;rw[G]at b1;injection b1 with b1;injection b1 with _ b1;subst b1
    have⟨c1,c2⟩:=hi.cn b2;by_cases w:i<3;.exact⟨s',_,nl,i,CF,by rw[hi.ll];exact b2,U,(hi.lsl b2 i U).2⟩
    .refine⟨x.X,_,nr,i-3,Mb,by rw[hi.rl];exact b2,U,?_⟩;rw[(hi.rsl b2 (i-3) U).2,show 3+(i-3)=i from U]
   .refine⟨s',g',n1,i,?_,b2,b3,Z⟩;rw[go' s' (λw=>by subst w;rw[hu]at b1;injection b1 with b1;injection b1 with _ b1;subst b1;rw[ul]at b2;cases b2) (old b1) e];exact b1
  have⟨s2,g2,n2,j,c1,c2,c3,c4⟩:=key;exact⟨s2,g2,n2,j,c1,c2,c3,by rw[c4];exact b4,by rw[c4,yI nk];exact b5,by rw[c4,AZ nk];exact b6⟩
end
section
variable{Pk:aY->Prop}{σ σ1:jJ}{aO iO:Hd}{pre lo:Nat->aY}{eo par rk:Nat->Nat}{iL:Nat->Prop}{ex:aY->Prop}
def Hv.ay(I:MI Pk σ aO pre lo eo par rk iL ex){s g n x hx Rr}(G:σ s=J (g,n))(K:n.cw=M)(h7:n.ay.n=7)(S:HZ n.ay x hx Rr):Hv (lo s) n {n with ay:=hx} ⟨M,Rr,Ck⟩ (qy (n.ay.e 3).m) x:=by
 have zxQ:=(I.lf _ _ _ G K).1;have hk:n.js=(List.range n.ay.n).map λi=>qy (n.ay.e i).m:=by unfold Mn.js;rw[K,au Z]
 have ln:=S.ln;have rn:=S.rn;rw[h7]at ln rn;have le:=S.le;have re:=S.re;have lh:=S.lh;rw[h7]at le re lh;have D:n.kM=n.ay.bd:=by unfold Mn.kM;rw[K,au Z]
 have hh:n.eI=qy n.ay.cQ:=by unfold Mn.eI;rw[K,au Z]
 have hlb:({n with ay:=hx}:Mn).kM=hx.bd:=by unfold Mn.kM;rw[show({n with ay:=hx}:Mn).cw=n.cw from Z,K,au Z]
 have hlh:({n with ay:=hx}:Mn).eI=qy hx.cQ:=by unfold Mn.eI;rw[show({n with ay:=hx}:Mn).cw=n.cw from Z,K,au Z]
 have hlk:({n with ay:=hx}:Mn).js=(List.range hx.n).map λi=>qy (hx.e i).m:=by unfold Mn.js;rw[show({n with ay:=hx}:Mn).cw=n.cw from Z,K,au Z]
 have nf:∀{p:Prop},n.cw=R->p:=λ{p} h=>by rw[K]at h;cases h
 refine⟨Z,K.symm,λ_=>⟨S.lr,by show hx.n<=3;omega⟩,λ_=>⟨S.rr,by show Rr.n<=6;omega⟩,λh=>nf h,λh=>nf h,λk q=>?_,λk q=>⟨?_,λh=>nf h⟩,⟨by rw[hlb];exact lh.2.1,by rw[hlh,lh.1]⟩,⟨by rw[D];exact S.rh.2.1,by rw[hh];exact ff qy S.rh.1⟩,⟨?_,λh=>?_⟩,λh=>nf h,λh=>nf h,λ_ j hj=>?_,λ_ j hj=>?_,⟨by unfold Mn.next;rw[show({n with ay:=hx}:Mn).cw=n.cw from Z,K];exact lh.2.2,by unfold Mn.next;rw[K];exact S.rh.2.2⟩,λ_=>⟨by show hx.n=3;omega,by show Rr.n+3=_;omega⟩⟩;.rw[hlk]at q;obtain⟨i,H,rfl⟩:=bg.1 q;have H:=dQ.1 H;rw[hk,le i U];exact bg.2 ⟨i,dQ.2 U,Z⟩
 .have q:k∈(List.range Rr.n).map λi=>qy (Rr.e i).m:=q;obtain⟨i,H,rfl⟩:=bg.1 q;have H:=dQ.1 H;rw[re i U,C8 (zxQ.r _ U).m (zxQ.r _ U).m];cases i with
  |zero=>exact bU
  |succ i=>exact dA (zxQ.lt U U)
 .have a:=(I.Lr _ _ _ G (qy (n.ay.e 0).m) (hk▸(bg.2 ⟨0,dQ.2 U,Z⟩))).1;exact jV a ((C8 (zxQ.r _ U).m (zxQ.r _ U).m).2 (zxQ.lt U U))
 .rw[D]at h;rw[hh];exact(C8 (zxQ.r _ U).m zxQ.H).2 (zxQ.xP 3 U h)
 .have hj:j<hx.n:=hj;exact⟨U,le j U⟩
 .have hj:j<Rr.n:=hj;exact⟨U,re j U⟩
def Hv.aL(I:MI Pk σ aO pre lo eo par rk iL ex){s g n}{x:Hd}(G:σ s=J (g,n))(K:n.cw=R)(h5:O n.aL.aJ=5):Hv (lo s) n {n with aL:=n.aL.left x} ⟨R,ya,n.aL.right⟩ n.aL.sep x:=by
 have⟨zxQ,lf,_⟩:=I.nd _ _ _ G K;have nkl:=(zxQ.nd lf).2;have hk:n.js=n.aL.aJ:=by unfold Mn.js;rw[K,ak bR]
 have D:n.kM=n.aL.bd:=by unfold Mn.kM;rw[K,ak bR]
 have hh:n.eI=n.aL.cQ:=by unfold Mn.eI;rw[K,ak bR]
 have hlb:({n with aL:=n.aL.left x}:Mn).kM=M:=by unfold Mn.kM;rw[show({n with aL:=n.aL.left x}:Mn).cw=n.cw from Z,K,ak bR];rfl
 have hlh:({n with aL:=n.aL.left x}:Mn).eI=n.aL.sep:=by unfold Mn.eI;rw[show({n with aL:=n.aL.left x}:Mn).cw=n.cw from Z,K,ak bR];rfl
 have hlk:({n with aL:=n.aL.left x}:Mn).js=n.aL.aJ.take 2:=by unfold Mn.js;rw[show({n with aL:=n.aL.left x}:Mn).cw=n.cw from Z,K,ak bR];exact iY zxQ h5
 have hrk:(⟨R,ya,n.aL.right⟩:Mn).js=n.aL.aJ.drop 3:=by show n.aL.right.aJ=_;rw[rE zxQ h5,lf];rfl
 have uh:=HS zxQ h5;have Mv:(n.aL.left x).bu=n.aL.bu.take 3:=by show(if n.aL.ay then n.aL.bu else n.aL.bu.take (n.aL.nJ+1))=_;rw[lf,ak bR,pW zxQ h5]
 have UZ:n.aL.right.bu=n.aL.bu.drop 3:=by show(if n.aL.ay then n.aL.bu else n.aL.bu.drop (n.aL.nJ+1))=_;rw[lf,ak bR,pW zxQ h5]
 have Jd:O (n.aL.left x).aJ=2:=by rw[iY zxQ h5,ax,h5];rfl
 have xY:O n.aL.right.aJ=2:=by rw[tQ zxQ h5,lf];rfl
 have nt:∀{p:Prop},n.cw=M->p:=λ{p} h=>by rw[K]at h;cases h
 refine⟨Z,K.symm,λh=>nt h,λh=>nt h,λ_=>⟨Nd.zxQ.left zxQ h5,lf,by show O (n.aL.left x).aJ<=4;omega,?_⟩,λ_=>⟨Nd.zxQ.right zxQ h5,lf,by show O n.aL.right.aJ<=4;omega⟩,λk q=>?_,λk q=>?_,⟨hlb,hlh⟩,⟨by rw[D];rfl,by rw[hh];rfl⟩,⟨?_,λh=>?_⟩,λ_ j hj=>?_,λ_ j hj=>?_,λh=>nt h,λh=>nt h,⟨by unfold Mn.next;rw[show({n with aL:=n.aL.left x}:Mn).cw=n.cw from Z,K];rfl,by unfold Mn.next;rw[K];rfl⟩,λh=>nt h⟩;.show O (n.aL.left x).bu<=3;rw[Mv,ax];omega
 .rw[hlk]at q;rw[hk];exact fe q
 .rw[hrk]at q;obtain⟨i,H,rfl⟩:=cN.1 q;rw[aC]at H;have:n.aL.sep<(n.aL.aJ.drop 3)[i]:=by
   have a:=zxQ.lt (show 2<3+i from U) U;rw[<-uh]at a;rw[NP]
   rwa[aB,aF U]at a
  exact⟨dA this,λ_=>this⟩
 .have a:=(I.Lr _ _ _ G (n.aL.aJ.getD 0 []) (by rw[hk,aB,aF U];exact bO _)).2 K;rw[uh];exact dT a (zxQ.lt U U)
 .rw[D]at h;rw[hh,uh];have:=zxQ.xP 2 U;rw[h]at this;simpa using this
 .have hj:j<O (n.aL.left x).bu:=hj;rw[Mv,ax]at hj;refine⟨U,by rw[Mv,jj U],λlo s=>?_,?_,λ_=>?_⟩
  .unfold jE;rw[iY zxQ h5];split;.rfl
   .rw[jj U]
  .unfold kJ;rw[au (show j<O n.aL.aJ from U)];split<;>rfl
  .unfold lG;rw[au (show j<O n.aL.aJ from U),Jd,iY zxQ h5];by_cases h:j<2;.rw[au h,jj h]
   .rw[ak h,show j=2 from U];exact uh
 .have hj:j<O n.aL.right.bu:=hj;rw[UZ,aC]at hj;have eg:∀q,n.aL.right.aJ.getD q []=n.aL.aJ.getD (3+q) []:=λq=>by rw[oz zxQ h5,lf];rfl
  refine⟨U,by rw[UZ,ou],λlo ke s x L=>?_,?_,λD=>?_⟩
  .unfold jE;rw[ak (show¬3+j=0 from U)];split;.rename_i e;subst e;rw[L];exact uh
   .rw[eg];congr 1;omega
  .unfold kJ;rw[xY];by_cases h:j<2;.rw[au h,au U]
   .rw[ak h,ak U];rfl
  .unfold kJ at D;unfold lG;rw[xY];by_cases h:j<2;.rw[au h,au U,eg]
   .rw[ak h,ak U];rfl
end
variable{nl nr:Mn}
def MTr(Pk:aY->Prop)(σ:jJ)(aO:Hd)(d:Nat):Prop:=∃pre lo eo par rk,MI Pk σ aO pre lo eo par rk (λ_=>False) Cd/\∀t g n,σ t=J (g,n)->eo t<=d
def OL(σ:jJ)(aO h0:Hd):Option (Hd×aY)->Prop
 |none=>aO=h0
 |some (a,m)=>∃na q,σ a.X=J (a.bo,na)/\na.cw=M/\q<na.ay.n/\(na.ay.e q).deep=M/\(na.ay.e q).link=h0/\(na.ay.e q).m=m
def P5(n nl nr:Mn)(sep:aY)(x:Hd):Prop:=
 (n.cw=M/\∃hx Rr,HZ n.ay x hx Rr/\nl={n with ay:=hx}/\nr=⟨M,Rr,Ck⟩/\sep=qy (n.ay.e 3).m)\/(n.cw=R/\nl={n with aL:=n.aL.left x}/\nr=⟨R,ya,n.aL.right⟩/\sep=n.aL.sep)
structure Oh(n:Mn):Prop where
 l:n.cw=M->n.ay.zxQ/\n.ay.n=7
 i:n.cw=R->n.aL.zxQ/\n.aL.ay=R/\O n.aL.aJ=5
section
variable{Pk:aY->Prop}{σ σ1:jJ}{aO iO:Hd}{pre lo:Nat->aY}{eo par rk:Nat->Nat}{iL:Nat->Prop}{ex:aY->Prop}{hx:List Hd}{o:Option (Hd×aY)}{d c c1 j:Nat}
def MI.NR(I:MI Pk σ aO pre lo eo par rk iL ex){g n}(G:σ s=J (g,n))(hf:n.full=M):Oh n:=by
 unfold Mn.full at hf;refine⟨λK=>?_,λK=>?_⟩
 .rw[K,au Z]at hf;have⟨a,b⟩:=I.lf _ _ _ G K;have:=eN hf;obtain b|b:=b
  .omega
  .exact⟨a,b.2⟩
 .rw[K,ak bR]at hf;have⟨a,b,e⟩:=I.nd _ _ _ G K;have:=eN hf;obtain e|e:=e
  .omega
  .exact⟨a,b,e.2⟩
def MI.half(I:MI Pk σ aO pre lo eo par rk iL ex){g n sep x}(G:σ s=J (g,n))(hf:n.full=M)(h:P5 n nl nr sep x):Hv (lo s) n nl nr sep x:=by
 have h2:=I.NR G hf;obtain⟨K,hc,zyQ,S,rfl,rfl,rfl⟩|⟨K,rfl,rfl,rfl⟩:=h
 .exact Hv.ay I G K (h2.l K).2 S
 .exact Hv.aL I G K (h2.i K).2.2
structure vo(Pk:aY->Prop)(σ σ1:jJ)(iO:Hd)(hx:List Hd)(o:Option (Hd×aY))(d c c1 j:Nat):Prop where
 bi:∃pre lo eo par rk,MI Pk σ1 iO pre lo eo par rk (· =(at_ hx (j-1)).X) Cd/\∀t g n,σ1 t=J (g,n)->eo t<=d
 old:∀q,q+1<j->∃n,σ (at_ hx q).X=J ((at_ hx q).bo,n)/\σ1 (at_ hx q).X=J ((at_ hx q).bo,n)/\n.cw=R/\∃i,i<O n.aL.bu/\n.aL.bu.getD i default=at_ hx (q+1)
 cur:∃m,σ1 (at_ hx (j-1)).X=J ((at_ hx (j-1)).bo,m)/\(m.full=M->∀q,j-1<=q->q<O hx->∃n,σ (at_ hx q).X=J ((at_ hx q).bo,n)/\n.tight=M)
 ab:OL σ1 iO (at_ hx 0) o
 cnt:c1+(O hx-j)=c
 pos:0<j
 le:j<=O hx
def vo.exit(I:vo Pk σ σ1 iO hx o d c c1 j){m}(hm:σ1 (at_ hx (j-1)).X=J ((at_ hx (j-1)).bo,m))(h:m.full=R):MTr Pk σ1 iO (d+1):=by have⟨pre,lo,eo,par,rk,I1,W⟩:=I.bi;refine⟨pre,lo,eo,par,rk,I1.Py λs g n G hn hf=>?_,λt g n ht=>by have:=W t g n ht;omega⟩;subst G;rw[hm]at hn;injection hn with hn;injection hn with _ hn;subst hn;rw[h]at hf;cases hf
def Wp(σ:jJ)(hx:List Hd)(c:Nat):Prop:=∃m,m<=c/\((m<O hx/\∃n,σ (at_ hx (O hx-1-m)).X=J ((at_ hx (O hx-1-m)).bo,n)/\n.tight=R)\/m=O hx+1)
def vo.room(I:vo Pk σ σ1 iO hx o d c c1 j)(hN:Wp σ hx c){m}(hm:σ1 (at_ hx (j-1)).X=J ((at_ hx (j-1)).bo,m))(h:m.full=M):
 c1≠0/\(j=1->2<=c1):=by
 have⟨m',W,F⟩:=I.cur;rw[hm]at W;injection W with W;injection W with _ W;subst W;have h4:=F h;have⟨zzQ,hM,A⟩:=hN;have:=I.cnt;have:=I.pos;have:=I.le;obtain⟨g1,n,g2,g3⟩|g:=A
 .have:O hx-1-zzQ<j-1:=by
   rcases bB (O hx-1-zzQ) (j-1)with q|q;.exact q
   .have⟨n',e1,e2⟩:=h4 _ q U;rw[g2]at e1;injection e1 with e1;injection e1 with _ e1;subst e1;rw[e2]at g3;cases g3
  constructor<;>omega
 .constructor<;>omega
def vo.aex(I:vo Pk σ σ1 iO hx o d c c1 j)(zyQ:MI Pk σ1 iO pre lo eo par rk iL ex):∀q' q,q<q'->q'<j->eo (at_ hx q').X<eo (at_ hx q).X/\pre (at_ hx q').X=pre (at_ hx q).X:=by
 intro q'
 induction q' with
 |zero=>omega
 |succ q' ih=>
  intro q W F;have⟨n,a1,a2,a3,i,a4,a5⟩:=I.old q' F;have⟨m,b1,b2,b3,_⟩:=zyQ.kD _ _ _ a2 a3 i a4;rw[a5]at b2 b3;obtain h|h:=bB q q'
  .have:=ih q h U;exact⟨U,b3.trans this.2⟩
  .have:q=q':=U;subst this;exact⟨U,b3⟩
def vo.off(I:vo Pk σ σ1 iO hx o d c c1 j)(zyQ:MI Pk σ1 iO pre lo eo par rk iL ex){a m}(ho:o=J (a,m))(hq:q<j):(at_ hx q).X≠a.X:=by
 have yl:=I.ab;rw[ho]at yl;have⟨na,p,W,F,h3,h4,h5,h6⟩:=yl;have e:=((zyQ.X _ _ _ W F p h3).link h4).2.1;have l8:=zyQ.xM W F h3 h4;rw[h5]at e;have e2:pre (at_ hx q).X=pre (at_ hx 0).X:=by
  obtain h|h:=nW q;.rw[h]
  .exact(I.aex zyQ q 0 h hq).2
 intro e3;rw[e3,e]at e2;have:=ff List.length e2;rw[aq]at this;omega
def vo.split(I:vo Pk σ σ1 iO hx o d c c1 j)(hj:2<=j){n}(hn:σ1 (at_ hx (j-1)).X=J ((at_ hx (j-1)).bo,n))(hf:n.full=M){AV}(hu:σ1 (at_ hx (j-2)).X=J ((at_ hx (j-2)).bo,AV)):
 (at_ hx (j-2)).X≠(at_ hx (j-1)).X/\Oh n/\AV.cw=R/\AV.aL.zxQ/\AV.aL.ay=R/\
 ∀(x:Hd) (nl nr:Mn) (sep:aY) (c2:Nat),σ1 x.X=B->c2+1=c1->P5 n nl nr sep x->AV.aL.eF sep=M/\AV.aL.has sep=R/\
  vo Pk σ (up (up (up σ1 (at_ hx (j-1)).X ((at_ hx (j-1)).bo,nl)) x.X (x.bo,nr)) (at_ hx (j-2)).X ((at_ hx (j-2)).bo,{AV with aL:=AV.aL.add sep x})) iO hx o d c c2 (j-1):=by
 have⟨pre,lo,eo,par,rk,zyQ,W⟩:=I.bi;have⟨u',a1,a2,a3,i,a4,a5⟩:=I.old (j-2) U;rw[hu]at a2;injection a2 with a2;injection a2 with _ a2;subst a2;rw[show j-2+1=j-1 from U]at a5;have cD:∀q q',q<q'->q'<j->(at_ hx q).X≠(at_ hx q').X:=λq q' g1 g2 e=>by have:=((I.aex zyQ) q' q g1 g2).1;rw[e]at this;omega
 have⟨AU,hul,_⟩:=zyQ.nd _ _ _ hu a3;refine⟨cD _ _ U U,zyQ.NR hn hf,a3,AU,hul,λx nl nr sep c2 L A hh=>?_⟩;have hr:iO.X≠(at_ hx (j-1)).X:=λe=>by have⟨_,_,_,_,b4,_⟩:=zyQ.kD _ _ _ hu a3 i a4;rw[a5]at b4;have:=zyQ.rt.2.2.2;rw[e,b4]at this;exact cD _ _ U U this
 have⟨k1,k2,me,ke,oj,par',X7,k3,k4⟩:=zyQ.split (x:=x) hn (zyQ.half hn hf hh) L hu a3 a4 a5 hr;have Zl:∀q,q<j->(at_ hx q).X≠x.X:=by
  exact atI
 refine⟨k1,k2,⟨⟨me,ke,oj,par',X7,k3,λt g m ht=>?_⟩,λq hq=>?_,⟨_,dF,λK=>?_⟩,?_,by have:=I.cnt;have:=I.le;omega,U,by have:=I.le;omega⟩⟩
 .by_cases e1:t=(at_ hx (j-2)).X;.rw[e1,(k4 _ (Zl _ U)).2.2];exact W _ _ _ hu
  rw[cT e1]at ht;by_cases e2:t=x.X
  .have q1:=k3.cw x.X _ _ (by rw[cT (Zl _ U).symm,dF]);have q2:=k3.kD _ _ _ (dF (σ:=up (up σ1 (at_ hx (j-1)).X ((at_ hx (j-1)).bo,nl)) x.X (x.bo,nr)) (s:=(at_ hx (j-2)).X)) a3 (place AV.aL.aJ sep+1) (by show place AV.aL.aJ sep+1<O (ins AV.aL.bu (place AV.aL.aJ sep+1) x);have:=jD AV.aL.aJ sep;have:=(AU.nd hul).2;rw[mY U];omega);have⟨_,_,q3,_⟩:=q2;have e:(AV.aL.add sep x).bu.getD (place AV.aL.aJ sep+1) default=x:=by show(ins AV.aL.bu (place AV.aL.aJ sep+1) x).getD _ _=x;have:=jD AV.aL.aJ sep;have:=(AU.nd hul).2;exact ot U
   have q3:oj ((AV.aL.add sep x).bu.getD (place AV.aL.aJ sep+1) default).X+1=oj (at_ hx (j-2)).X:=q3;rw[e,(k4 _ (Zl _ U)).2.2]at q3;have:=W _ _ _ hu;rw[e2];omega
  rw[cT e2]at ht;rw[(k4 t e2).2.2];by_cases e3:t=(at_ hx (j-1)).X;.rw[e3];exact W _ _ _ hn
  .rw[cT e3]at ht;exact W _ _ _ ht
 .exact auG
 .have⟨m',e1,e2⟩:=I.cur;rw[hn]at e1;injection e1 with e1;injection e1 with _ e1;subst e1;intro q g1 g2;rcases bB q (j-1)with g|g;.have:q=j-2:=U;subst this;refine⟨AV,a1,?_⟩;have arS:O (AV.aL.add sep x).aJ=O AV.aL.aJ+1:=mY (jD _ _);unfold Mn.full at K;rw[show({AV with aL:=AV.aL.add sep x}:Mn).cw=AV.cw from Z,a3,ak bR]at K;have K:4<O (AV.aL.add sep x).aJ:=eN K;unfold Mn.tight;rw[a3,ak bR];exact aN U
  .exact (e2 hf) q g g2
 .have yl:=I.ab;cases ho:o with
  |none=>rw[ho]at yl;exact yl
  |some am=>
   have⟨a,m⟩:=am;rw[ho]at yl;have⟨na,p,b1,b2⟩:=yl;have o3:a.X≠x.X:=λe=>by rw[e,L]at b1;cases b1
   exact⟨na,p,by rw[cT (I.off zyQ ho (q:=j-2) U).symm,cT o3,cT (I.off zyQ ho (q:=j-1) U).symm];exact b1,b2⟩
def u0(sep:aY)(h x:Hd):Mn:=⟨R,ya,⟨R,[sep],[],[h,x],[],R,⟨0,0⟩⟩⟩
def agz{sep:aY}{h x:Hd}:({mc h with aL:=(mc h).aL.add sep x}:Mn)=u0 sep h x:=rfl
def vo.top(I:vo Pk σ σ1 iO hx o d c c1 1){n}(hn:σ1 (at_ hx 0).X=J ((at_ hx 0).bo,n))(hf:n.full=M):
 Oh n/\∀(x y:Hd) (nl nr:Mn) (sep:aY),σ1 x.X=B->σ1 y.X=B->x.X≠y.X->P5 n nl nr sep x->
  (o=B->MTr Pk (up (up (up σ1 (at_ hx 0).X ((at_ hx 0).bo,nl)) x.X (x.bo,nr)) y.X (y.bo,u0 sep (at_ hx 0) x)) y (d+1))/\
  (∀a m,o=J (a,m)->∃na q,σ1 a.X=J (a.bo,na)/\na.cw=M/\q<na.ay.n/\na.ay.zxQ/\(na.ay.e q).deep=M/\(na.ay.e q).m=m/\a.X≠(at_ hx 0).X/\a.X≠x.X/\a.X≠y.X/\
   MTr Pk (up (up (up (up σ1 (at_ hx 0).X ((at_ hx 0).bo,nl)) x.X (x.bo,nr)) y.X (y.bo,u0 sep (at_ hx 0) x)) a.X (a.bo,{na with ay:=na.ay.upd q ⟨m,[],[],M,y⟩})) iO (d+1)):=by
 have⟨pre,lo,eo,par,rk,zyQ,W⟩:=I.bi;refine⟨zyQ.NR hn hf,λx y nl nr sep L hy Ie hh=>?_⟩;have Cn:(at_ hx 0).X≠x.X:=λe=>by rw[e,L]at hn;cases hn
 have hsy:(at_ hx 0).X≠y.X:=λe=>by rw[e,hy]at hn;cases hn
 have yl:=I.ab;have fin:∀{σ2:jJ} {r:Hd} {me ke:Nat->aY} {oj par':Nat->Nat},MI Pk σ2 r me ke oj par' rk (· =(at_ hx 0).X) Cd->σ2 y.X=J (y.bo,mc (at_ hx 0))->σ2 (at_ hx 0).X=J ((at_ hx 0).bo,n)->σ2 x.X=B->(∀t,t≠y.X->oj t=eo t)->r.X≠(at_ hx 0).X->
  (∀t g m,σ2 t=J (g,m)->t≠y.X->∃g' m',σ1 t=J (g',m'))->
  MTr Pk (up (up (up σ2 (at_ hx 0).X ((at_ hx 0).bo,nl)) x.X (x.bo,nr)) y.X (y.bo,u0 sep (at_ hx 0) x)) r (d+1):=by
  intro σ2 r me ke oj par' v7 q1 q2 q3 q4 q5 q6;have⟨_,_,FG,Jh,HE,Fj,rk2,k3,k4⟩:=v7.split (AV:=y.X) (gu:=y.bo) (nu:=mc (at_ hx 0)) (i:=0) (x:=x) q2 (v7.half q2 hf hh) q3 q1 Z (by show 0<1;omega) Z q5;rw[agz]at k3;have hy1:oj y.X=eo (at_ hx 0).X+1:=by have⟨_,_,e,_⟩:=v7.kD _ _ _ q1 Z 0 (by show 0<1;omega);have e:oj (at_ hx 0).X+1=oj y.X:=e;rw[<-e,q4 _ hsy]
  have Aa:=W _ _ _ hn;refine⟨FG,Jh,HE,Fj,rk2,k3.Py λs g m G hm uH=>?_,λt g m ht=>?_⟩
  .subst G;rw[dF]at hm;injection hm with hm;injection hm with _ hm;subst hm
   cases uH
  .by_cases e1:t=y.X;.rw[e1,(k4 _ Ie.symm).2.2,hy1];omega
   rw[cT e1]at ht;by_cases e2:t=x.X;.have⟨_,_,e,_⟩:=k3.kD _ _ _ dF Z 1 (by show 1<2;omega);have e:HE x.X+1=HE y.X:=e;rw[(k4 _ Ie.symm).2.2,hy1]at e;rw[e2];omega
   rw[cT e2]at ht;rw[(k4 t e2).2.2,q4 t e1];by_cases e3:t=(at_ hx 0).X;.rw[e3];omega
   .rw[cT e3]at ht;have⟨g',m',Q⟩:=q6 _ _ _ ht e1;have:=W _ _ _ Q;omega
 refine⟨λho=>?_,λa m ho=>?_⟩
 .rw[ho]at yl;have yl:iO=at_ hx 0:=yl;have⟨me,ke,oj,par',v7,k⟩:=zyQ.T7 hy;rw[yl]at v7;have:=fin v7 dF ((cT hsy)▸hn) ((cT Ie)▸L) (λt ht=>(k t ht).2.2) hsy.symm (λt g m ht zQ=>⟨g,m,by rw[cT zQ]at ht;exact ht⟩);have e:up (up (up (up σ1 y.X (y.bo,mc (at_ hx 0))) (at_ hx 0).X ((at_ hx 0).bo,nl)) x.X (x.bo,nr)) y.X (y.bo,u0 sep (at_ hx 0) x)=up (up (up σ1 (at_ hx 0).X ((at_ hx 0).bo,nl)) x.X (x.bo,nr)) y.X (y.bo,u0 sep (at_ hx 0) x):=by
   funext t;unfold up
   by_cases h:t=y.X;.rw[au h,au h]
   .simp only[ak h]
  rw[e]at this;exact this
 .have o1:=I.off zyQ ho (q:=0) U;rw[ho]at yl;have⟨na,q,b1,b2,b3,b4,b5,b6⟩:=yl;have hax:a.X≠x.X:=λe=>by rw[e,L]at b1;cases b1
  have hay:a.X≠y.X:=λe=>by rw[e,hy]at b1;cases b1
  refine⟨na,q,b1,b2,b3,(zyQ.lf _ _ _ b1 b2).1,b4,b6,o1.symm,hax,hay,?_⟩;have⟨me,ke,oj,par',v7,k⟩:=zyQ.UD (y:=y) hy b1 b2 b3 b4 b5;rw[b6]at v7;have hr:iO.X≠(at_ hx 0).X:=λe=>by have h4:=((zyQ.X _ _ _ b1 b2 q b3).link b4).2.2.2;rw[b5]at h4;have:=zyQ.rt.2.2.2;rw[e,h4]at this;exact o1 this.symm
  have:=fin v7 (by rw[cT hay.symm,dF]) (by rw[cT o1,cT hsy];exact hn) (by rw[cT hax.symm,cT Ie];exact L) (λt ht=>(k t ht).2.2) hr (λt g m ht zQ=>by
   by_cases e:t=a.X;.exact⟨_,_,by rw[e];exact b1⟩
   .rw[cT e,cT zQ]at ht;exact⟨g,m,ht⟩)
  have e:up (up (up (up (up σ1 y.X (y.bo,mc (at_ hx 0))) a.X (a.bo,{na with ay:=na.ay.upd q ⟨m,[],[],M,y⟩})) (at_ hx 0).X ((at_ hx 0).bo,nl)) x.X (x.bo,nr)) y.X (y.bo,u0 sep (at_ hx 0) x)=up (up (up (up σ1 (at_ hx 0).X ((at_ hx 0).bo,nl)) x.X (x.bo,nr)) y.X (y.bo,u0 sep (at_ hx 0) x)) a.X (a.bo,{na with ay:=na.ay.upd q ⟨m,[],[],M,y⟩}):=by
   funext t;unfold up
   by_cases h:t=a.X
   .have n1:¬t=y.X:=h▸hay
    simp only[ak n1,ak (h▸hax),ak (h▸o1.symm),au h]
   .by_cases F:t=y.X;.simp only[au F,ak h]
    .simp only[ak F,ak h]
  rw[e]at this;exact this
end
variable{d:Nat}
section
variable{Pk:aY->Prop}{σ:jJ}{aO:Hd}{pre lo:Nat->aY}{eo par rk:Nat->Nat}{iL:Nat->Prop}{ex:aY->Prop}
def MI.chain(I:MI Pk σ aO pre lo eo par rk iL ex):∀(d:Nat) (s g:Nat) (n:Mn),σ s=J (g,n)->eo s=d->∃l:List Nat,O l=d+1/\l.Nodup/\∀x∈l,eo x<=d/\∃g n,σ x=J (g,n):=by
 intro d
 induction d with
 |zero=>exact λs g n G z=>⟨[s],Z,bR,λx L=>by rw[aV.1 L];exact⟨U,g,n,G⟩⟩
 |succ d ih=>
  intro s g n G z;have K:n.cw=R:=by
   cases K:n.cw with
   |false=>rfl
   |true=>have:=(I.cw _ _ _ G).1 K;omega
  have⟨zxQ,lf,_⟩:=I.nd _ _ _ G K;have⟨m,a1,a2,_⟩:=I.kD _ _ _ G K 0 (EB ((zxQ.nd lf).2));have⟨l,b1,b2,b3⟩:=ih _ _ _ a1 U;refine⟨s::l,by simp[b1],iG.2 ⟨λh=>by have:=(b3 s h).1;omega,b2⟩,λx L=>?_⟩;obtain rfl|L:=bJ.1 L;.exact⟨U,g,n,G⟩
  .have:=b3 x L;exact⟨U,this.2⟩
def pH.node{k h l f m}(hb:pH σ k h l f m):0<O l/\at_ l 0=h/\at_ l (O l-1)=f/\∀q,q+1<O l->∃n,σ (at_ l q).X=J ((at_ l q).bo,n)/\n.cw=R/\at_ l (q+1)=n.aL.bu.getD (n.aL.jQ k) default:=by
 induction hb with
 |here G K=>exact⟨bR,Z,Z,λq hq=>by simp at hq⟩
 |@kD h n l f m G K hb ih=>
  have⟨a1,a2,a3,a4⟩:=ih;refine⟨bR,Z,?_,λq hq=>?_⟩
  .rw[<-a3];obtain⟨x,l',rfl⟩:∃x l',l=x::l':=by cases l with|nil=>simp at a1|cons x l'=>exact⟨x,l',rfl⟩
   simp[at_]
  .cases q with
   |zero=>exact⟨n,G,K,a2⟩
   |succ q=>have⟨n',b1,b2,b3⟩:=a4 q (Mf hq);exact⟨n',b1,b2,b3⟩
def vo.start(I:MI Pk σ aO pre lo eo par rk (λ_=>False) Cd)(z:∀t g n,σ t=J (g,n)->eo t<=d){k h f hx m}(hb:pH σ k h hx f m){o:Option (Hd×aY)}(ho:OL σ aO h o)(Ni:∀a mk,o=J (a,mk)->pre f.X=pre h.X)
 {l:Lf} (hI:MI Pk (up σ f.X (f.bo,{m with ay:=l})) aO pre lo eo par rk (· =f.X) Cd) (hn:l.n<=m.ay.n+1) (c:Nat):
 vo Pk σ (up σ f.X (f.bo,{m with ay:=l})) aO hx o d c c (O hx):=by
 have⟨a1,a2,a3,a4⟩:=hb.node;have⟨b1,b2⟩:=hb.ay;have rU:∀q' q,q<q'->q'<O hx->eo (at_ hx q').X<eo (at_ hx q).X:=by
  intro q'
  induction q' with
  |zero=>omega
  |succ q' ih=>
   intro q g1 g2;have⟨n,c1,c2,c3⟩:=a4 q' g2;have⟨zxQ,lf,_⟩:=I.nd _ _ _ c1 c2;have⟨_,_,e,_⟩:=I.kD _ _ _ c1 c2 _ (zxQ.Dy lf k);rw[<-c3]at e;obtain h|h:=bB q q'
   .have:=ih q h U;omega
   .have:q=q':=U;subst this;omega
 refine⟨⟨pre,lo,eo,par,rk,by rw[a3];exact hI,λt g n ht=>?_⟩,λq hq=>?_,⟨{m with ay:=l},by rw[a3];exact dF,λhf=>?_⟩,?_,U,a1,an _⟩
 .by_cases e:t=f.X;.rw[e];exact z _ _ _ b1
  .rw[cT e]at ht;exact z _ _ _ ht
 .have⟨n,c1,c2,c3⟩:=a4 q hq;have⟨zxQ,lf,_⟩:=I.nd _ _ _ c1 c2;refine⟨n,c1,?_,c2,_,zxQ.Dy lf k,c3.symm⟩;rw[cT]; · exact c1
  intro e;have:=rU (O hx-1) q U U;rw[a3,e]at this;omega
 .intro q g1 g2;have:q=O hx-1:=U;subst this;rw[a3];refine⟨m,b1,?_⟩;unfold Mn.full at hf;rw[show({m with ay:=l}:Mn).cw=m.cw from Z,b2,au Z]at hf;have hf:6<l.n:=eN hf;unfold Mn.tight;rw[b2,au Z];exact aN U
 .rw[a2];cases o with
  |none=>exact ho
  |some am=>
   obtain⟨a,mk⟩:=am;obtain⟨na,p,e1,e2,e3,e4,e5,e6⟩:=ho;have cD:a.X≠f.X:=λe=>by have q1:=((I.X _ _ _ e1 e2 p e3).link e4).2.1;have q2:=I.xM e1 e2 e3 e4;rw[e5,<-Ni a mk rfl,e]at q1;have:=ff List.length q1;rw[aq]at this;omega
   exact⟨na,p,by rw[cT cD];exact e1,e2,e3,e4,e5,e6⟩
end
def MW.yG{t p}(o:MW t p h Y):O t.a.es<=4096:=by
 exact atA
def MW.eo{t p h Y}(o:MW t p h Y){Pk:aY->Prop}{aO pre lo eo par rk iL}{ex:aY->Prop}(I:MI Pk (ct t.a.es) aO pre lo eo par rk iL ex):∀s g n,ct t.a.es s=J (g,n)->eo s<4096:=by
 intro s g n G;have⟨l,W,F,h3⟩:=I.chain _ _ _ _ G Z;have:=AX l (t.a.es.map iB.X) F λx L=>by have⟨_,g',n',hx'⟩:=h3 x L;have⟨e,V,e1,_⟩:=kz hx';exact bg.2 ⟨e,V,e1⟩
 have:=o.yG;rw[bh]at*;omega
variable{Pk:aY->Prop}{aO z:Hd}{fm:Mn}{iL:Nat->Prop}{lo:Nat->aY}{par rk:Nat->Nat}
def adO:=RB [(4,[MO [0,1,2] 3,([],[1],J 4),MO [5,6,7] 8,RX])]
def MI.H{Pk:aY->Prop}{σ aO pre lo eo par rk iL}{ex:aY->Prop}(I:MI Pk σ aO pre lo eo par rk iL ex){s g n}(G:σ s=J (g,n)):n.cw=M->tv n.ay.cQ:=λK=>(I.lf _ _ _ G K).1.H
def ah6(t:Mt)(h Y)(o:t.ok h Y){pre eo}{ex:aY->Prop}(I:MI Pk (ct t.a.es) aO pre lo eo par rk iL ex)
 {m} (hm:tv m)  {n} (G:ct t.a.es z.X=J (z.bo,n)) (jL:¬qy m<lo z.X) (A:n.kM=M->qy m<n.eI) {l f}  (uu:pH (ct t.a.es) (qy m) z l f fm):
 UP 315 [.ptr t.tb 0,z.av,.agg (uW m),.g .nilFunc] h Y (dG (.dY [fm.ay.av,bW M]) h Y):=by
 have dc:=o.lt;have Jv:¬(Y=Y+1):=U;have PD:¬(Y=Y+1+1):=U;have XW:¬(Y+1=Y+1+1):=U;refine az.pc 4 adO func315 ?_;refine L6 f315.eq_1 @Hd.av.eq_1 @Hd.cells.eq_1 @mF ?_;refine cI _ _ (λmm s Q E=>∃(y:Hd) (ny:Mn) (l':List Hd),ct t.a.es y.X=some (y.bo,ny)/\mm=l'.length/\¬qy m<lo y.X/\(ny.kM=true->qy m<ny.eI)/\pH (ct t.a.es) (qy m) y l' f fm/\
  X s 0= .ptr t.tb 0/\X s 3= .g .nilFunc/\X s 5= .ptr Y 0/\X s 6= .ptr (Y+1) 0/\X s 8= .ptr (Y+1+1) 0/\(aG Y h Q/\N Q Y=some (.cells [int y.X,u64 y.bo] 245)/\N Q (Y+1)=some (.cells (uW m) 264)/\N Q (Y+1+1)=some (.cells ya.cells 269))/\Y+3<=E) (n:=l.length) ?_ ?_
 .refine J7 Jv PD XW ?_;exact⟨z,n,l,G,rfl,jL,A,uu,gU,rfl⟩
 rintro mm s Q E ⟨y,ny,l',hy,rfl,ylo,yc,yd,s0,s3,s5,s6,s8,⟨S0,g0,g1,g2⟩,l1⟩;have o':=o.aW (Q:=Q) (E:=E) (λb D=>S0 b (o.dL D)) U;refine L6 s0 s3 s5 g0 ?_;refine bc (akF t Q E o' hy) ?_;have⟨e,V,_,_,e3,_⟩:=jb o'.ok hy;have K:O ny.ay.sl=15:=e3▸(o.sl e V)
 have fs:=Et (hc:=Du.map u.g) (n:=ny) Z K;have fa:=Ew K;have fl:=qb K;have n0:¬(Y=E):=U;have n1:¬(Y+1=E):=U;have n2:¬(Y+1+1=E):=U;have h2:sN ny.cells 0 ny:=sN.mk' (pre:=[]) K;have f1:=h2.cw;have f2:=h2.ay;have f3:=h2.aL;refine RC s6 g1 fs fl @HP n1 ?_;generalize hH:aI (aI Q E (.cells (Du.map u.g) 271)) E (.cells ny.cells 271)=hi;have S1:aG Y h hi:=by rw[<-hH];exact(S0.set U).set U
 have k0:=U9 hH (WV g0 n0) n0
 have k1:=U9 hH (WV g1 n1) n1
 have k2:=U9 hH (WV g2 n2) n2
 have kn:=TZ hH
 have pG:=(Mn.gS (I.H hy) hm).2 yc;have c:=aqP (h:=hi) (Y:=E+1) kn (aZ _) h2 K (I.H hy) m hm;rw[pG]at c;refine bc c ?_;cases yd with
 |here lS vy=>
  have nB:=lS.symm.trans hy;injection nB with nB;injection nB with _ nB;subst nB
  rw[vy]at f1;have zxQ:=(I.lf _ _ _ hy vy).1;have ft:=jZ (a:=ya) (b:=fm.ay) Z zxQ.sl;have fll:=eR zxQ.sl;have XO:=lB zxQ.sl;simp+decide-dsimp only[go_sem,s8,k2,kn,f1,f2,ft,fll,XO,ja];refine .eE ?_ (.mC (.cw (we _)) .cP) Z
  repeat' first|exact aG.refl|apply aG.fo|(apply aG.set;rotate_left;omega)
  exact S1
 |@kD _ n' l'' _ _ lS vy d'=>
  have nB:=lS.symm.trans hy;injection nB with nB;injection nB with _ nB;subst nB
  rw[vy]at f1;have⟨zxQ,lf,_⟩:=I.nd _ _ _ hy vy;have hcv:n'.aL.eF (qy m)=M:=by unfold Mn.eF at pG;rw[vy]at pG;exact pG
  simp+decide-dsimp only[go_sem,adO,s6,k1,kn,f1,f3];refine ba (QY m hm.len) ?_;simp+decide-dsimp only[go_sem,kn,f3];have c:=acy n'.aL zxQ lf (qy m) hcv;rw[Nd.av]at c;refine ba c ?_;refine asB s0 s3 s5 s6 s8 k0 k1 k2 @Hd.av.eq_1 @Hd.cells.eq_1 ?_;have⟨m',q1,q2,q3,q4,q5⟩:=I.down hy vy ylo yc;refine⟨_,aZ _,_,m',l'',q1,Z,q4,q5,d',⟨by(repeat' first|exact aG.refl|apply aG.fo|(apply aG.set;rotate_left;omega));exact S1,Z⟩,U⟩
def TI:=RB [(2,[MO z9 10,MO [11,12,13] 14,MO [] 15,RX]),(5,[([0,1,2,3,4,10],[3,4],J 5),([],[3,10],J 6),([7,8,9],[10],J 11),MO [] 12,RX])]
def ari(t:Mt)(h Y)(o:t.ok h Y){pre eo}{ex:aY->Prop}(I:MI Pk (ct t.a.es) aO pre lo eo par rk iL ex)
 {m} (hm:tv m)  {n} (G:ct t.a.es z.X=J (z.bo,n)) (jL:¬qy m<lo z.X) (A:n.kM=M->qy m<n.eI) {l f}  (uu:pH (ct t.a.es) (qy m) z l f fm) (cf:O l<=60000):
 UP 329 [.ptr t.tb 0,z.av,.agg (uW m)] h Y (dG (qF l) h Y):=by
 have dc:=o.lt;have PD:¬(Y=Y+1+1):=U;refine az.pc 3 TI func329 ?_;refine L6 f329.eq_1 @Hd.av.eq_1 @Hd.cells.eq_1 (U:¬(Y=Y+1)) ?_;refine cI _ _ (λmm s Q E=>∃zzQ Lp y ny l' v,zzQ=Lp++[y]/\mm=O l'/\ct t.a.es y.X=J (y.bo,ny)/\¬qy m<lo y.X/\(ny.kM=M->qy m<ny.eI)/\pH (ct t.a.es) (qy m) y l' f fm/\l=Lp++l'/\
  X s 0= .ptr t.tb 0/\X s 5= .ptr (Y+1) 0/\X s 7=v/\(aG Y h Q/\N Q (Y+1)=J (.cells (uW m) 264))/\Y+2<=E/\Own Hd.cells 245 2 Q v zzQ/\In (Y+2) E v) (n:=O l) ?_ ?_
 .refine Xf (U:¬(Y+1=Y+1+1)) ?_;refine⟨[z],[],z,n,l,.sl (Y+1+1) 0 1 1,Z,Z,G,jL,A,uu,Z,?_⟩;exact⟨Z,gU,.inr ⟨Y+1+1,1,_,Z,iA,an _,Z,Z⟩,.sl (an _) (aZ _)⟩
 rintro mm s Q E ⟨zzQ,Lp,y,ny,l',v,hM,rfl,hy,ylo,yc,yd,K,s0,s5,s7,⟨S0,g1⟩,l1,q3,q4⟩;have hMl:O zzQ=O Lp+1:=by rw[hM,aq];rfl
 have hl1:=yd.node.1;have Jd:O l=O Lp+O l':=by rw[K,aq]
 have DJ:zzQ.getD (O zzQ-1) default=y:=by rw[hM,aq];exact xA
 have RU:O zzQ-1<O zzQ:=U;have⟨b,hc,e1,e2,e3,e4⟩:=q3.idx iE oE RU;rw[DJ]at e4;have D:=q4 b e1;have w1:1<=O zzQ:=U;have w2:O zzQ<9223372036854775808:=U;have o':=o.aW (Q:=Q) (E:=E) (λb D=>S0 b (o.dL D)) U;have⟨e,V,_,_,c3,c4,c5,c6⟩:=jb o'.ok hy;have sE:O ny.ay.sl=15:=c3▸(o.sl e V)
 have h2:sN (u64 y.bo::ny.cells) 1 ny:=sN.mk' (pre:=[u64 y.bo]) sE;have f1:=h2.cw;have F0:sN ny.cells 0 ny:=sN.mk' (pre:=[]) sE;have f3:=F0.aL;have f4:=F0.cw;simp+decide-dsimp only[go_sem,TI,s0,s7,o'.tr,q3.len,w1,w2,e2,e3,e4,Hd.cells];refine bc (c6 _ _ .refl U) ?_;cases yd with
 |here lS vy=>
  have nB:=lS.symm.trans hy;injection nB with nB;injection nB with _ nB;subst nB
  rw[vy]at f1 f4;simp+decide-dsimp only[go_sem,s7,c4,f1];rw[K,<-hM];exact .of S0 (q3.fz (q4.le U (an _)) sB)
 |@kD _ n' l'' _ _ lS vy d'=>
  have nB:=lS.symm.trans hy;injection nB with nB;injection nB with _ nB;subst nB
  rw[vy]at f1 f4;have⟨zxQ,lf,_⟩:=I.nd _ _ _ hy vy;have pG:=(Mn.gS (I.H hy) hm).2 yc;have hcv:n'.aL.eF (qy m)=M:=by unfold Mn.eF at pG;rw[vy]at pG;exact pG
  have g4:∀q,¬(e.bT=E+q+10):=λq=>U;have g5:∀q,¬(Y+1=E+q+10):=λq=>U;simp+decide-dsimp only[go_sem,TI,s5,c4,g1,g4,g5,f1,f3,reduceAdd];refine ba (QY m hm.len) ?_;simp+decide-dsimp only[go_sem,c4,g4,f3];have c:=acy n'.aL zxQ lf (qy m) hcv;rw[Nd.av]at c;refine ba c ?_;have⟨m',k1,k2,k3,k4,k5⟩:=I.down hy vy ylo yc;refine PV s7 @Hd.av.eq_1 @Hd.cells.eq_1 @cL @cV ?_;refine lN (c:=Hd.cells) (q3.aW λq e'=>?_) iE (λ_=>rfl) U (n'.aL.bu.getD (n'.aL.jQ (qy m)) default) ?_
  .have:=q4 q e'
   repeat rw[Xg]
  intro v' F dR l2 p1 p2 p3;refine J7 s0 s5 s7 ?_;refine⟨_,aZ _,zzQ++[n'.aL.bu.getD (n'.aL.jQ (qy m)) default],zzQ,_,m',l'',v',Z,Z,k1,k4,k5,d',by rw[hM,aA];exact K,?_⟩;have hv:∀q,q<Y+2->N F q=N Q q:=λq hq=>by
   rw[p3 q U (λe'=>by have:=q4 q e';omega)]
   repeat rw[Xg]
  refine⟨Z,⟨λq hq=>by rw[hv q U];exact S0 q hq,by rw[hv _ U];exact g1⟩,U,p1,λq e'=>?_⟩;obtain e2|e2:=p2 q e'
  .have:=q4 q e2;omega
  .omega
end
end br
end Go.Proofs.YtonnifoeokagjaaGreat
